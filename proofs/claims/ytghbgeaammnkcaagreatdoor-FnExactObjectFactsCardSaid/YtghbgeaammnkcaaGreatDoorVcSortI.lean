import Derived.Test.YtghbgeaammnkcaaGreatDoorVcSort
import Derived.Shelf.SortM.Plain
import Derived.Shelf.SortM.SortNone
namespace Go.Vc
set_option linter.unusedVariables false
set_option linter.unusedSimpArgs false
open Go Go.Proofs Go.Sort Go.Lib Go.Shelf Go.RowKit
theorem ZuI {φ:CM}:∀ {L:Rws} {css:List (List Value)} {xs:List Int},AllR φ (El.int .i64) L css xs→L=[]∧css=xs.map fun x=>[.int .i64 x]
 | _,[],[],h=>⟨h,rfl⟩
 | _,c::cs,x::xs,⟨L1,L2,a,b,e⟩=>by
  obtain ⟨f,g⟩:=ZuI e
  obtain ⟨k1,i⟩:=b
  exact ⟨by rw [a,k1,f];rfl,by rw [i,g];rfl⟩
 | _,[],_::_,h=>h.elim
 | _,_::_,[],h=>h.elim
theorem Zr5 {φ:CM}:∀ (xs:List Int),AllR φ (El.int .i64) [] (xs.map fun x=>[.int .i64 x]) xs
 | []=>rfl
 | x::xs=>⟨[],[],rfl,⟨rfl,rfl⟩,Zr5 xs⟩
theorem ZsU (xs:List Int):(xs.map fun x=>[Value.int .i64 x]).flatten=xs.map (Value.int .i64):=by
 induction xs with
 | nil=>rfl
 | cons _ _ ih=>simp only [List.map_cons,List.flatten_cons,ih];rfl
theorem ZwH {P:Program} {ρ:Ren} (LM:SlLaysM.n5 P ρ) {ψ:CM} {a h:Heap} {os:List Ob} {xs:List Int} {f:Value}
  (st:S ψ a h (.it (El.ow (El.int .i64)) [f] xs::os)) (hlen:xs.length<4611686018427387904):
  CallsH P (ρ.f 5) #[f] h (fun v h'=>v=.tuple #[]∧S ψ a h' (.it (El.ow (El.int .i64)) [f] (sortI xs)::os)):=by
 intro w hw
 subst hw
 have i:=st
 obtain ⟨φ,L,s,L1,L2,rfl,m,o⟩:=st
 rcases El.ow_to m with ⟨rfl,rfl,_⟩|⟨b,c,pre,css,rest,Lr,rfl,p,hrest,rfl,hall⟩
 ·refine (AnyM.slices_Sort_int_none LM none 0 w).mono ?_
  rintro _ w' ⟨rfl,rfl⟩
  exact ⟨_,rfl,RestQ.refl _,rfl,by rw [show sortI []=[] by simp [sortI]];exact i⟩
 obtain ⟨rfl,rfl⟩:=ZuI hall
 rw [ZsU] at s
 have hbh:a.size≤b:=s.low b (by simp [Rws.bs])
 obtain ⟨t,ht⟩:=s.row b _ (List.mem_cons_self ..)
 have hH:Holds (Value.int .i64) w b pre.length xs.toArray:=by
  intro j hj
  have hj':j<xs.length:=by simpa using hj
  constructor
  ·simp only [World.cell?,ht]
   simp only [Option.isSome_none,Bool.false_eq_true,if_false,List.getElem?_toArray]
   rw [List.append_assoc,List.getElem?_append_right (by omega),show pre.length+j-pre.length=j by omega,List.getElem?_append_left (by simpa using hj'),List.getElem?_map,List.getElem?_eq_getElem hj']
   simp [hj']
  ·simp only [World.frozen?,ht];simp
 have hlt:b<w.heap.size:=by
  rcases Nat.lt_or_ge b w.heap.size with k|k
  ·exact k
  ·rw [Array.getElem?_eq_none k] at ht;cases ht
 refine (AnyM.slices_Sort_int LM b pre.length c xs w hH hlt hlen).mono ?_
 rintro _ w' ⟨rfl,n,os',rfl⟩
 have hlen':(sortI xs).length=xs.length:=(List.mergeSort_perm _ _).length_eq
 show ∃ v,_∧RestQ False w (sortWorld (Value.int .i64) w b pre.length n (sortI xs).toArray os')∧_
 have hbut:=Zqa (Value.int .i64) w b pre.length n (sortI xs).toArray os'
 have hblk:(sortWorld (Value.int .i64) w b pre.length n (sortI xs).toArray os').heap[b]?=some (.cells (pre++(sortI xs).map (Value.int .i64)++rest).toArray t):=by
  show ((w.heap.modify b (onCells (putCells (Value.int .i64) pre.length (sortI xs).toArray)))++os')[b]?=_
  rw [Array.getElem?_append_left (by simpa using hlt),Array.getElem?_modify,if_pos rfl,ht]
  simp only [Option.map_some,onCells]
  rw [Zsn _ _ _ _ _ (by simp [hlen'])]
 have hbs:Rws.bs ((b,Row.cs (pre++(sortI xs).map (Value.int .i64)++rest))::L2)=Rws.bs ((b,Row.cs (pre++xs.map (Value.int .i64)++rest))::L2):=by simp [Rws.bs]
 have s':S0 ψ a w.heap φ ((b,Row.cs (pre++xs.map (Value.int .i64)++rest))::L2):=s
 have s2:S0 ψ a (sortWorld (Value.int .i64) w b pre.length n (sortI xs).toArray os').heap φ ((b,Row.cs (pre++(sortI xs).map (Value.int .i64)++rest))::L2):=by
  refine ⟨Zm5 s.ext hbh hbut,fun b' cs hm=>?_,by rw [hbs];exact s'.low,by rw [hbs];exact s'.nod,fun q u l=>Zdy hbut (fun e=>s'.dis q u l (by rw [e];simp [Rws.bs])) (s.fle q u l),by rw [hbs];exact s'.dis,s.bas,s.old⟩
  rw [List.mem_cons] at hm
  rcases hm with e|hm
  ·cases e;exact ⟨t,hblk⟩
  ·have hnd:=s'.nod
   have g:b'≠b:=fun e=>by
    subst e
    simp only [Rws.bs,List.map_cons,List.nodup_cons] at hnd
    exact hnd.1 (List.mem_map.2 ⟨_,hm,rfl⟩)
   have hr':=s'.row b' cs (List.mem_cons_of_mem _ hm)
   exact hr'.same (hbut.2 b' hr'.lt g)
 refine ⟨_,rfl,⟨rfl,rfl,rfl,fun _=>Nat.le_add_right _ _⟩,rfl,φ,_,s2,[(b,Row.cs (pre++(sortI xs).map (Value.int .i64)++rest))],L2,rfl,?_,o⟩
 exact ⟨_,rfl,.inr ⟨b,c,pre,(sortI xs).map fun x=>[.int .i64 x],rest,[],by rw [hlen'],by rw [hlen'];exact p,by rw [hlen'];exact hrest,by rw [ZsU],Zr5 _⟩⟩
end Go.Vc
