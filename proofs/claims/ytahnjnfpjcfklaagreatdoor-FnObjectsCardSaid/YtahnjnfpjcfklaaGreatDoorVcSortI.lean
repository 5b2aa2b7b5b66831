import Derived.Test.YtahnjnfpjcfklaaGreatDoorVcSort
import Derived.Shelf.SortM.Plain
import Derived.Shelf.SortM.SortNone
namespace Go.Vc
set_option linter.unusedVariables false
set_option linter.unusedSimpArgs false
open Go Go.Proofs Go.Sort Go.Lib Go.Shelf Go.RowKit
theorem Zr5 {φ:CM}:∀ {L:Rws} {css:List (List Value)} {xs:List Int},AllR φ (El.int .i64) L css xs->L=[]/\css=xs.map fun x=>[.int .i64 x]
 | _,[],[],h=>⟨h,rfl⟩
 | _,c::cs,x::xs,⟨L1,L2,h1,a,e⟩=>by
  obtain ⟨f,g⟩:=Zr5 e;obtain ⟨k1,i⟩:=a;exact ⟨by rw [h1,k1,f];rfl,by rw [i,g];rfl⟩
 | _,[],_::_,h=>h.elim
 | _,_::_,[],h=>h.elim
theorem Zt9 {φ:CM}:∀ (xs:List Int),AllR φ (El.int .i64) [] (xs.map fun x=>[.int .i64 x]) xs
 | []=>rfl
 | x::xs=>⟨[],[],rfl,⟨rfl,rfl⟩,Zt9 xs⟩
theorem ZuQ (xs:List Int):(xs.map fun x=>[Value.int .i64 x]).flatten=xs.map (Value.int .i64):=by
 induction xs with
 | nil=>rfl
 | cons _ _ a=>simp only [List.map_cons,List.flatten_cons,a];rfl
theorem Zza {P:Program} {ρ:Ren} (LM:SlLaysM.n5 P ρ) {ψ:CM} {a h:Heap} {os:List Ob} {xs:List Int} {v0:Value}
  (st:S ψ a h (.it (El.ow (El.int .i64)) [v0] xs::os)) (ag:xs.length<4611686018427387904):
  CallsH P (ρ.f 5) #[v0] h (fun v h'=>v=.tuple #[]/\S ψ a h' (.it (El.ow (El.int .i64)) [v0] (sortI xs)::os)):=by
 intro w hw;subst hw;have g:=st;obtain ⟨φ,L,s,L1,L2,rfl,l,o⟩:=st;rcases El.ow_to l with ⟨rfl,rfl,_⟩|⟨b,c,pre,css,rest,Lr,rfl,r,hrest,rfl,hall⟩
 ·refine (AnyM.slices_Sort_int_none LM none 0 w).mono ?_;rintro _ w' ⟨rfl,rfl⟩;exact ⟨_,rfl,RestQ.refl _,rfl,by rw [show sortI []=[] by simp [sortI]];exact g⟩
 obtain ⟨rfl,rfl⟩:=Zr5 hall;rw [ZuQ] at s;have ah:a.size<=b:=s.low b (by simp [Rws.bs]);obtain ⟨t,ht⟩:=s.row b _ (List.mem_cons_self ..);have hH:Holds (Value.int .i64) w b pre.length xs.toArray:=by
  intro j hj;have a5:j<xs.length:=by simpa using hj
  constructor
  ·simp only [World.cell?,ht];simp only [Option.isSome_none,Bool.false_eq_true,if_false,List.getElem?_toArray];rw [List.append_assoc,List.getElem?_append_right ω,show pre.length+j-pre.length=j by omega,List.getElem?_append_left (by simpa using a5),List.getElem?_map,List.getElem?_eq_getElem a5];simp [a5]
  ·simp only [World.frozen?,ht];simp
 have ad:b<w.heap.size:=by
  rcases Nat.lt_or_ge b w.heap.size with k|k
  ·exact k
  ·rw [Array.getElem?_eq_none k] at ht;cases ht
 refine (AnyM.slices_Sort_int LM b pre.length c xs w hH ad ag).mono ?_;rintro _ w' ⟨rfl,n,a3,rfl⟩;have a2:(sortI xs).length=xs.length:=(List.mergeSort_perm _ _).length_eq;show ∃ v,_/\RestQ False w (sortWorld (Value.int .i64) w b pre.length n (sortI xs).toArray a3)/\_;have a4:=ZgW (Value.int .i64) w b pre.length n (sortI xs).toArray a3;have af:(sortWorld (Value.int .i64) w b pre.length n (sortI xs).toArray a3).heap[b]?=some (.cells (pre++(sortI xs).map (Value.int .i64)++rest).toArray t):=by
  show ((w.heap.modify b (onCells (putCells (Value.int .i64) pre.length (sortI xs).toArray)))++a3)[b]?=_;rw [Array.getElem?_append_left (by simpa using ad),Array.getElem?_modify,if_pos rfl,ht];simp only [Option.map_some,onCells];rw [ZpR _ _ _ _ _ (by simp [a2])]
 have a6:Rws.bs ((b,Row.cs (pre++(sortI xs).map (Value.int .i64)++rest))::L2)=Rws.bs ((b,Row.cs (pre++xs.map (Value.int .i64)++rest))::L2):=by simp [Rws.bs]
 have s':S0 ψ a w.heap φ ((b,Row.cs (pre++xs.map (Value.int .i64)++rest))::L2):=s;have y:S0 ψ a (sortWorld (Value.int .i64) w b pre.length n (sortI xs).toArray a3).heap φ ((b,Row.cs (pre++(sortI xs).map (Value.int .i64)++rest))::L2):=by
  refine ⟨Zg8 s.ext ah a4,fun b' cs hm=>?_,by rw [a6];exact s'.low,by rw [a6];exact s'.nod,fun q u i=>Zb2 a4 (fun e=>s'.dis q u i (by rw [e];simp [Rws.bs])) (s.fle q u i),by rw [a6];exact s'.dis,s.bas,s.old⟩;rw [List.mem_cons] at hm;rcases hm with e|hm
  ·cases e;exact ⟨t,af⟩
  ·have ac:=s'.nod;have f:b'≠b:=fun e=>by
    subst e;simp only [Rws.bs,List.map_cons,List.nodup_cons] at ac;exact ac.1 (List.mem_map.2 ⟨_,hm,rfl⟩)
   have ab:=s'.row b' cs (List.mem_cons_of_mem _ hm);exact ab.same (a4.2 b' ab.lt f)
 refine ⟨_,rfl,⟨rfl,rfl,rfl,fun _=>Nat.le_add_right _ _⟩,rfl,φ,_,y,[(b,Row.cs (pre++(sortI xs).map (Value.int .i64)++rest))],L2,rfl,?_,o⟩;exact ⟨_,rfl,.inr ⟨b,c,pre,(sortI xs).map fun x=>[.int .i64 x],rest,[],by rw [a2],by rw [a2];exact r,by rw [a2];exact hrest,by rw [ZuQ],Zt9 _⟩⟩
end Go.Vc
