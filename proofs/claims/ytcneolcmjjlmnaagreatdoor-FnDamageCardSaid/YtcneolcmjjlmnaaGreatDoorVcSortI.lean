import Derived.Test.YtcneolcmjjlmnaaGreatDoorVcSort
import Derived.Shelf.SortM.Plain
import Derived.Shelf.SortM.SortNone
namespace Go.Vc
set_option linter.unusedVariables false
set_option linter.unusedSimpArgs false
open Go Go.Proofs Go.Sort Go.Lib Go.Shelf Go.RowKit
theorem Zyw {φ:CM}:∀{L:Rws} {css:List Jc} {xs:Jb},AllR φ (El.int .i64) L css xs->L=[]/\css=xs.map λx=>[.int .i64 x]
 | _,[],[],h=>⟨h,rfl⟩
 | _,c::cs,x::xs,⟨L1,L2,h1,a,e⟩=>by
  obtain ⟨f,g⟩:=Zyw e;obtain ⟨k1,k2⟩:=a;exact ⟨by rw [h1,k1,f];rfl,by rw [k2,g];rfl⟩
 | _,[],_::_,h=>h.elim
 | _,_::_,[],h=>h.elim
theorem Zzh {φ:CM}:∀(xs:Jb),AllR φ (El.int .i64) [] (xs.map λx=>[.int .i64 x]) xs
 | []=>rfl
 | x::xs=>⟨[],[],rfl,⟨rfl,rfl⟩,Zzh xs⟩
theorem ZvY (xs:Jb):(xs.map λx=>[Value.int .i64 x]).flatten=xs.map (Value.int .i64):=by
 induction xs with
 | nil=>rfl
 | cons _ _ e=>simp only [List.map_cons,List.flatten_cons,e];rfl
theorem ZHy {P:Program} {ρ:Ren} (LM:SlLaysM.n5 P ρ) {ψ:CM} {a h:Heap} {os:List Ob} {xs:Jb} {v0:Value}
  (st:S ψ a h (.it (El.ow (El.int .i64)) [v0] xs::os)) (af:xs.length<4611686018427387904):
  CallsH P (ρ.f 5) #[v0] h (λv h'=>v=.tuple #[]/\S ψ a h' (.it (El.ow (El.int .i64)) [v0] (sortI xs)::os)):=by
 intro w hw;subst hw;have g:=st;obtain ⟨φ,L,s,L1,L2,rfl,l,r2⟩:=st;rcases El.ow_to l with ⟨rfl,rfl,_⟩|⟨b,c,pre,css,rest,Lr,rfl,o,hrest,rfl,hall⟩
 .refine (AnyM.slices_Sort_int_none LM none 0 w).mono ?_;rintro _ w' ⟨rfl,rfl⟩;exact ⟨_,rfl,RestQ.refl _,rfl,by rw [show sortI []=[] by simp [sortI]];exact g⟩
 obtain ⟨rfl,rfl⟩:=Zyw hall;rw [ZvY] at s;have ai:a.size<=b:=s.low b (by simp [Rws.bs]);obtain ⟨t,ht⟩:=s.row b _ (List.mem_cons_self ..);have hH:Holds (Value.int .i64) w b pre.length xs.toArray:=by
  intro j hj;have a9:j<xs.length:=by simpa using hj
  constructor
  .simp only [World.cell?,ht];simp only [Option.isSome_none,Bool.false_eq_true,if_false,List.getElem?_toArray];rw [List.append_assoc,List.getElem?_append_right Z,show pre.length+j-pre.length=j by omega,List.getElem?_append_left (by simpa using a9),List.getElem?_map,List.getElem?_eq_getElem a9];simp [a9]
  .simp only [World.frozen?,ht];simp
 have ac:b<w.heap.size:=by
  rcases Nat.lt_or_ge b w.heap.size with k|k
  .exact k
  .rw [Array.getElem?_eq_none k] at ht;cases ht
 refine (AnyM.slices_Sort_int LM b pre.length c xs w hH ac af).mono ?_;rintro _ w' ⟨rfl,n,a3,rfl⟩;have a2:(sortI xs).length=xs.length:=(List.mergeSort_perm _ _).length_eq;show ∃v,_/\RestQ False w (sortWorld (Value.int .i64) w b pre.length n (sortI xs).toArray a3)/\_;have a4:=ZgJ (Value.int .i64) w b pre.length n (sortI xs).toArray a3;have ae:(sortWorld (Value.int .i64) w b pre.length n (sortI xs).toArray a3).heap[b]?=some (.cells (pre++(sortI xs).map (Value.int .i64)++rest).toArray t):=by
  show ((w.heap.modify b (onCells (putCells (Value.int .i64) pre.length (sortI xs).toArray)))++a3)[b]?=_;rw [Array.getElem?_append_left (by simpa using ac),Array.getElem?_modify,if_pos rfl,ht];simp only [Option.map_some,onCells];rw [ZtG _ _ _ _ _ (by simp [a2])]
 have a7:Rws.bs ((b,Row.cs (pre++(sortI xs).map (Value.int .i64)++rest))::L2)=Rws.bs ((b,Row.cs (pre++xs.map (Value.int .i64)++rest))::L2):=by simp [Rws.bs]
 have s':S0 ψ a w.heap φ ((b,Row.cs (pre++xs.map (Value.int .i64)++rest))::L2):=s;have s2:S0 ψ a (sortWorld (Value.int .i64) w b pre.length n (sortI xs).toArray a3).heap φ ((b,Row.cs (pre++(sortI xs).map (Value.int .i64)++rest))::L2):=by
  refine ⟨Zjw s.ext ai a4,λb' cs hm=>?_,by rw [a7];exact s'.low,by rw [a7];exact s'.nod,λq u i=>Zcq a4 (λe=>s'.dis q u i (by rw [e];simp [Rws.bs])) (s.fle q u i),by rw [a7];exact s'.dis,s.bas,s.old⟩;rw [List.mem_cons] at hm;rcases hm with e|hm
  .cases e;exact ⟨t,ae⟩
  .have ad:=s'.nod;have f:b'≠b:=λe=>by
    subst e;simp only [Rws.bs,List.map_cons,List.nodup_cons] at ad;exact ad.1 (List.mem_map.2 ⟨_,hm,rfl⟩)
   have ab:=s'.row b' cs (List.mem_cons_of_mem _ hm);exact ab.same (a4.2 b' ab.lt f)
 refine ⟨_,rfl,⟨rfl,rfl,rfl,λ_=>Nat.le_add_right _ _⟩,rfl,φ,_,s2,[(b,Row.cs (pre++(sortI xs).map (Value.int .i64)++rest))],L2,rfl,?_,r2⟩;exact ⟨_,rfl,.inr ⟨b,c,pre,(sortI xs).map λx=>[.int .i64 x],rest,[],by rw [a2],by rw [a2];exact o,by rw [a2];exact hrest,by rw [ZvY],Zzh _⟩⟩
end Go.Vc
