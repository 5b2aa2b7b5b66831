import Derived.Test.YtdmledeildfidaaGreatDoorVcSort
namespace Go.Vc
set_option linter.unusedVariables false
set_option linter.unusedSimpArgs false
open Go Go.Proofs Go.Sort Go.Lib Go.Shelf Go.RowKit
section
variable {α:Type}
theorem Zuh {E:El α} {enc:α->List Value} (k:∀ {j:CM} {L:Rws} {cs:List Value} {x:α},E.R j L cs x->L=[]/\cs=enc x) {j:CM}:
  ∀ {L:Rws} {css:List (List Value)} {xs:List α},AllR j E L css xs->L=[]/\css=xs.map enc
 | _,[],[],h=>⟨h,rfl⟩
 | _,c::cs,x::xs,⟨L1,L2,h1,a,e⟩=>by
  obtain ⟨f,g⟩:=Zuh k e;obtain ⟨k1,k2⟩:=k a;exact ⟨by rw [h1,k1,f];rfl,by rw [k2,g];rfl⟩
 | _,[],_::_,h=>h.elim
 | _,_::_,[],h=>h.elim
theorem ZsU {E:El α} {enc:α->List Value} (hi:∀ (a:CM) (x:α),E.R a [] (enc x) x) {a:CM}:∀ xs:List α,AllR a E [] (xs.map enc) xs
 | []=>rfl
 | x::xs=>⟨[],[],rfl,hi a x,ZsU hi xs⟩
theorem Zi0 {enc:α->List Value} {k:Nat} (a:∀ x,(enc x).length=k):∀ (xs:List α),(xs.map enc).flatten.length=xs.length*k
 | []=>by simp
 | x::xs=>by rw [List.map_cons,List.flatten_cons,List.length_append,Zi0 a xs,a,List.length_cons,Nat.add_mul];omega
theorem Zpt [Inhabited α] {enc:α->List Value} {k:Nat} (j:∀ x,(enc x).length=k):∀ (xs:List α) (t:Nat),t<xs.length*k->(xs.map enc).flatten[t]?=some ((enc xs[t/k]!)[t%k]!)
 | [],t,h=>by simp at h
 | x::xs,t,h=>by
  have a:0<k:=by
   rcases Nat.eq_zero_or_pos k with e|e
   ·rw [e,Nat.mul_zero] at h;omega
   ·exact e
  rw [List.map_cons,List.flatten_cons];by_cases l:t<k
  ·rw [List.getElem?_append_left (by rw [j];exact l),Nat.div_eq_of_lt l,Nat.mod_eq_of_lt l];have o:t<(enc x).length:=by rw [j];exact l
   rw [List.getElem?_eq_getElem o];simp [o]
  ·have c:t-k<xs.length*k:=by rw [List.length_cons,Nat.add_mul,Nat.one_mul] at h;omega
   rw [List.getElem?_append_right (by rw [j];omega),j,Zpt j xs (t-k) c];have f:t/k=(t-k)/k+1:=by rw [Nat.div_eq t k,if_pos ⟨a,by omega⟩]
   have g:t%k=(t-k)%k:=by rw [Nat.mod_eq t k,if_pos ⟨a,by omega⟩]
   rw [f,g];simp
theorem ZzT [Inhabited α] {enc:α->List Value} {k:Nat} (g:∀ x,(enc x).length=k) (xs:List α):(flatK enc k xs.toArray).toList=(xs.map enc).flatten:=by
 apply List.ext_getElem?;intro t;by_cases a:t<xs.length*k
 ·rw [Zpt g xs t a,Array.getElem?_toList];have hs:t<(flatK enc k xs.toArray).size:=by simpa using a
  have e:=get_flatK enc k xs.toArray t (by simpa using a);rw [getElem!_pos (flatK enc k xs.toArray) t hs] at e;rw [Array.getElem?_eq_getElem hs,e];simp
 ·rw [List.getElem?_eq_none (by simp;omega),List.getElem?_eq_none (by rw [Zi0 g];omega)]
theorem Zxa [Inhabited α] (enc:α->List Value) (k:Nat) (w:World) (blk off n:Nat) (d:Array α) (os:Array Obj):sortWorldK enc k w blk off n d os=sortWorld id w blk off n (flatK enc k d) os:=rfl
theorem ZBZ [Inhabited α] {P:Program} {ρ:Ren} (am:SlLaysF0.n6 P ρ) {k:Nat} (aE:∀ w,(isAgg (ρ.t 24)).run P w=.ok true w) (zE:∀ w,(Go.sizeOf (ρ.t 24)).run P w=.ok k w)
  {E:El α} {enc:α->List Value} (he:∀ {φ:CM} {L:Rws} {cs:List Value} {x:α},E.R φ L cs x->L=[]/\cs=enc x) (hi:∀ (φ:CM) (x:α),E.R φ [] (enc x) x) (hz:E.z=k)
  {cf:α->α->Int} (ak:CmpOk cf)
  {ψ:CM} {f h:Heap} {os:List Ob} {xs:List α} {v0:Value} {fn:α->α->Option Int} {g:Nat} {a5:List Value}
  (st:S ψ f h (.it (El.ow E) [v0] xs::os)) (eg:Enters P g)
  (k1:∀ {h1:Heap},ExtH f h1->CLe ψ (hcell h1)->∀ {ψ1:CM},CLe ψ1 (hcell h1)->∀ {r y1:α} {l:Int},fn r y1=some l->CallsQ True P g (([.agg (enc r).toArray,.agg (enc y1).toArray]:List Value)++a5).toArray h1 (fun v h'=>v=.int .i64 l/\S ψ1 h1 h' []))
  (av:∀ a c,fn a c=some (cf a c)) (ar:xs.length<4611686018427387904):
  CallsH P (ρ.f 6) #[v0,.func (.func g) #[] a5.toArray] h (fun v h'=>v=.tuple #[]/\S ψ f h' (.it (El.ow E) [v0] (sortC cf xs)::os)):=by
 have hO:SWO (ltOf cf):=ak.swo;have hT:∀ x y,(ltOf cf) x y=false->(ltOf cf) y x=false->x=y:=ak.tot;have hk:∀ x,(enc x).length=k:=fun x=>by rw [<-hz];exact E.len (hi (fun _=>none) x)
 have h1:∀ x,∀ v∈enc x,v.oneCell'=true:=fun x=>E.one (hi (fun _=>none) x);intro w hw;subst hw;have a1:=st;obtain ⟨φ,L,s,L1,L2,rfl,l,r2⟩:=st;rcases El.ow_to l with ⟨rfl,rfl,_⟩|⟨b,c,pre,css,rest,Lr,rfl,hc,hrest,rfl,hall⟩
 ·refine (AnyF.slices_SortFunc_none am none 0 _ w).mono ?_;rintro _ w' ⟨rfl,rfl⟩;exact ⟨_,rfl,RestQ.refl _,rfl,by rw [show sortC cf ([]:List α)=[] by simp [sortC]];exact a1⟩
 obtain ⟨rfl,rfl⟩:=Zuh he hall;have al:f.size<=b:=s.low b (by simp [Rws.bs]);obtain ⟨t,ht⟩:=s.row b _ (List.mem_cons_self ..);have hH:HoldsK enc k w b pre.length xs.toArray:=by
  intro j hj;have ad:j<xs.length*k:=by simpa using hj
  have b0:=Zpt hk xs j ad;constructor
  ·simp only [World.cell?,ht];simp only [Option.isSome_none,Bool.false_eq_true,if_false,List.getElem?_toArray];rw [List.append_assoc,List.getElem?_append_right ω,show pre.length+j-pre.length=j by omega,List.getElem?_append_left (by rw [Zi0 hk];exact ad),b0,get_flatK enc k xs.toArray j (by simpa using ad)];simp
  ·simp only [World.frozen?,ht];simp
 have aj:b<w.heap.size:=by
  rcases Nat.lt_or_ge b w.heap.size with k|k
  ·exact k
  ·rw [Array.getElem?_eq_none k] at ht;cases ht
 have au:CmpLays P g a5.toArray enc k cf b pre.length xs.toArray.size w:=by
  intro m os dk hs x y;have a0:=Zhy id w b pre.length m (flatK enc k dk) os;have aw:CLe ψ (hcell (sortWorldK enc k w b pre.length m dk os).heap):=s.bas.trans fun q u i=>ZbW a0 (fun e=>s.dis q u i (by rw [e];simp [Rws.bs])) (s.fle q u i);have:=k1 (ZhH s.ext al a0) aw (ψ1:=fun _=>none) (fun _ _ h=>by cases h) (av x y) _ rfl;have e:(#[.agg (enc x).toArray,.agg (enc y).toArray]:Array Value)++a5.toArray=(([.agg (enc x).toArray,.agg (enc y).toArray]:List Value)++a5).toArray:=by simp
  rw [e];refine this.mono ?_;rintro _ w' ⟨v,rfl,hr,rfl,st⟩;exact ⟨rfl,Ztx hr st.ext⟩
 refine (AnyQ.slices_SortFunc_total am k aE zE enc hk h1 cf hO g a5.toArray b pre.length c xs.toArray w eg au hH aj (by simpa using ar) hT).mono ?_;rintro _ w' ⟨rfl,n,a6,hw⟩;have hw:w'=sortWorldK enc k w b pre.length n (sortC cf xs).toArray a6:=hw;generalize ay:sortC cf xs=ys at hw ⊢;subst hw;have ag:ys.Perm xs:=by rw [<-ay];exact List.mergeSort_perm _ _
 have a3:ys.length=xs.length:=ag.length_eq;show ∃ v,_/\RestQ False w (sortWorldK enc k w b pre.length n ys.toArray a6)/\_;rw [Zxa];have a0:=Zhy id w b pre.length n (flatK enc k ys.toArray) a6;have ao:(sortWorld id w b pre.length n (flatK enc k ys.toArray) a6).heap[b]?=some (.cells (pre++(ys.map enc).flatten++rest).toArray t):=by
  show ((w.heap.modify b (onCells (putCells id pre.length (flatK enc k ys.toArray))))++a6)[b]?=_;rw [Array.getElem?_append_left (by simpa using aj),Array.getElem?_modify,if_pos rfl,ht];simp only [Option.map_some,onCells];rw [Zpv _ _ _ _ _ (by rw [Zi0 hk];simp [a3]),ZzT hk,List.map_id]
 have af:Rws.bs ((b,Row.cs (pre++(ys.map enc).flatten++rest))::L2)=Rws.bs ((b,Row.cs (pre++(xs.map enc).flatten++rest))::L2):=by simp [Rws.bs]
 have s':S0 ψ f w.heap φ ((b,Row.cs (pre++(xs.map enc).flatten++rest))::L2):=s;have s2:S0 ψ f (sortWorld id w b pre.length n (flatK enc k ys.toArray) a6).heap φ ((b,Row.cs (pre++(ys.map enc).flatten++rest))::L2):=by
  refine ⟨ZhH s.ext al a0,fun b' cs hm=>?_,by rw [af];exact s'.low,by rw [af];exact s'.nod,fun q u i=>ZbW a0 (fun e=>s'.dis q u i (by rw [e];simp [Rws.bs])) (s.fle q u i),by rw [af];exact s'.dis,s.bas,s.old⟩;rw [List.mem_cons] at hm;rcases hm with e|hm
  ·cases e;exact ⟨t,ao⟩
  ·have ah:=s'.nod;have o:b'≠b:=fun e=>by
    subst e;simp only [Rws.bs,List.map_cons,List.nodup_cons] at ah;exact ah.1 (List.mem_map.2 ⟨_,hm,rfl⟩)
   have ai:=s'.row b' cs (List.mem_cons_of_mem _ hm);exact ai.same (a0.2 b' ai.lt o)
 refine ⟨_,rfl,⟨rfl,rfl,rfl,fun _=>Nat.le_add_right _ _⟩,rfl,φ,_,s2,[(b,Row.cs (pre++(ys.map enc).flatten++rest))],L2,rfl,?_,r2⟩;exact ⟨_,rfl,.inr ⟨b,c,pre,ys.map enc,rest,[],by rw [a3],by rw [a3];exact hc,by rw [a3];exact hrest,rfl,ZsU hi _⟩⟩
end
end Go.Vc
