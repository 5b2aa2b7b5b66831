import Derived.Test.YtahnjnfpjcfklaaGreatDoorVcSort
namespace Go.Vc
set_option linter.unusedVariables false
set_option linter.unusedSimpArgs false
open Go Go.Proofs Go.Sort Go.Lib Go.Shelf Go.RowKit
section
variable {α:Type}
theorem Ztv {E:El α} {enc:α->List Value} (j:∀ {φ:CM} {L:Rws} {cs:List Value} {x:α},E.R φ L cs x->L=[]/\cs=enc x) {φ:CM}:
  ∀ {L:Rws} {css:List (List Value)} {xs:List α},AllR φ E L css xs->L=[]/\css=xs.map enc
 | _,[],[],h=>⟨h,rfl⟩
 | _,c::cs,x::xs,⟨L1,L2,h1,a,e⟩=>by
  obtain ⟨f,g⟩:=Ztv j e;obtain ⟨k1,i⟩:=j a;exact ⟨by rw [h1,k1,f];rfl,by rw [i,g];rfl⟩
 | _,[],_::_,h=>h.elim
 | _,_::_,[],h=>h.elim
theorem Zt7 {E:El α} {enc:α->List Value} (hi:∀ (φ:CM) (x:α),E.R φ [] (enc x) x) {φ:CM}:∀ xs:List α,AllR φ E [] (xs.map enc) xs
 | []=>rfl
 | x::xs=>⟨[],[],rfl,hi φ x,Zt7 hi xs⟩
theorem Zit {enc:α->List Value} {k:Nat} (a:∀ x,(enc x).length=k):∀ (xs:List α),(xs.map enc).flatten.length=xs.length*k
 | []=>by simp
 | x::xs=>by rw [List.map_cons,List.flatten_cons,List.length_append,Zit a xs,a,List.length_cons,Nat.add_mul];omega
theorem ZmU [Inhabited α] {enc:α->List Value} {k:Nat} (j:∀ x,(enc x).length=k):∀ (xs:List α) (t:Nat),t<xs.length*k->(xs.map enc).flatten[t]?=some ((enc xs[t/k]!)[t%k]!)
 | [],t,h=>by simp at h
 | x::xs,t,h=>by
  have a:0<k:=by
   rcases Nat.eq_zero_or_pos k with e|e
   ·rw [e,Nat.mul_zero] at h;omega
   ·exact e
  rw [List.map_cons,List.flatten_cons];by_cases l:t<k
  ·rw [List.getElem?_append_left (by rw [j];exact l),Nat.div_eq_of_lt l,Nat.mod_eq_of_lt l];have o:t<(enc x).length:=by rw [j];exact l
   rw [List.getElem?_eq_getElem o];simp [o]
  ·have f:t-k<xs.length*k:=by rw [List.length_cons,Nat.add_mul,Nat.one_mul] at h;omega
   rw [List.getElem?_append_right (by rw [j];omega),j,ZmU j xs (t-k) f];have g:t/k=(t-k)/k+1:=by rw [Nat.div_eq t k,if_pos ⟨a,by omega⟩]
   have i:t%k=(t-k)%k:=by rw [Nat.mod_eq t k,if_pos ⟨a,by omega⟩]
   rw [g,i];simp
theorem ZBp [Inhabited α] {enc:α->List Value} {k:Nat} (g:∀ x,(enc x).length=k) (xs:List α):(flatK enc k xs.toArray).toList=(xs.map enc).flatten:=by
 apply List.ext_getElem?;intro t;by_cases a:t<xs.length*k
 ·rw [ZmU g xs t a,Array.getElem?_toList];have hs:t<(flatK enc k xs.toArray).size:=by simpa using a
  have e:=get_flatK enc k xs.toArray t (by simpa using a);rw [getElem!_pos (flatK enc k xs.toArray) t hs] at e;rw [Array.getElem?_eq_getElem hs,e];simp
 ·rw [List.getElem?_eq_none (by simp;omega),List.getElem?_eq_none (by rw [Zit g];omega)]
theorem ZyZ [Inhabited α] (enc:α->List Value) (k:Nat) (w:World) (blk off n:Nat) (d:Array α) (os:Array Obj):sortWorldK enc k w blk off n d os=sortWorld id w blk off n (flatK enc k d) os:=rfl
theorem ZxI [Inhabited α] {P:Program} {ρ:Ren} (ak:SlLaysF0.n6 P ρ) {k:Nat} (aE:∀ w,(isAgg (ρ.t 24)).run P w=.ok true w) (zE:∀ w,(Go.sizeOf (ρ.t 24)).run P w=.ok k w)
  {E:El α} {enc:α->List Value} (he:∀ {φ:CM} {L:Rws} {cs:List Value} {x:α},E.R φ L cs x->L=[]/\cs=enc x) (hi:∀ (φ:CM) (x:α),E.R φ [] (enc x) x) (hz:E.z=k)
  {cf:α->α->Int} (ai:CmpOk cf)
  {ψ:CM} {f h:Heap} {os:List Ob} {xs:List α} {v0:Value} {fn:α->α->Option Int} {g:Nat} {a7:List Value}
  (st:S ψ f h (.it (El.ow E) [v0] xs::os)) (eg:Enters P g)
  (k1:∀ {h1:Heap},ExtH f h1->CLe ψ (hcell h1)->∀ {ψ1:CM},CLe ψ1 (hcell h1)->∀ {r y1:α} {l:Int},fn r y1=some l->CallsQ True P g (([.agg (enc r).toArray,.agg (enc y1).toArray]:List Value)++a7).toArray h1 (fun v h'=>v=.int .i64 l/\S ψ1 h1 h' []))
  (ay:∀ a c,fn a c=some (cf a c)) (au:xs.length<4611686018427387904):
  CallsH P (ρ.f 6) #[v0,.func (.func g) #[] a7.toArray] h (fun v h'=>v=.tuple #[]/\S ψ f h' (.it (El.ow E) [v0] (sortC cf xs)::os)):=by
 have hO:SWO (ltOf cf):=ai.swo;have hT:∀ x y,(ltOf cf) x y=false->(ltOf cf) y x=false->x=y:=ai.tot;have hk:∀ x,(enc x).length=k:=fun x=>by rw [<-hz];exact E.len (hi (fun _=>none) x)
 have h1:∀ x,∀ v∈enc x,v.oneCell'=true:=fun x=>E.one (hi (fun _=>none) x);intro w hw;subst hw;have a3:=st;obtain ⟨φ,L,s,L1,L2,rfl,l,r2⟩:=st;rcases El.ow_to l with ⟨rfl,rfl,_⟩|⟨b,c,pre,css,rest,Lr,rfl,hc,hrest,rfl,hall⟩
 ·refine (AnyF.slices_SortFunc_none ak none 0 _ w).mono ?_;rintro _ w' ⟨rfl,rfl⟩;exact ⟨_,rfl,RestQ.refl _,rfl,by rw [show sortC cf ([]:List α)=[] by simp [sortC]];exact a3⟩
 obtain ⟨rfl,rfl⟩:=Ztv he hall;have al:f.size<=b:=s.low b (by simp [Rws.bs]);obtain ⟨t,ht⟩:=s.row b _ (List.mem_cons_self ..);have hH:HoldsK enc k w b pre.length xs.toArray:=by
  intro j hj;have ad:j<xs.length*k:=by simpa using hj
  have aw:=ZmU hk xs j ad;constructor
  ·simp only [World.cell?,ht];simp only [Option.isSome_none,Bool.false_eq_true,if_false,List.getElem?_toArray];rw [List.append_assoc,List.getElem?_append_right ω,show pre.length+j-pre.length=j by omega,List.getElem?_append_left (by rw [Zit hk];exact ad),aw,get_flatK enc k xs.toArray j (by simpa using ad)];simp
  ·simp only [World.frozen?,ht];simp
 have aj:b<w.heap.size:=by
  rcases Nat.lt_or_ge b w.heap.size with k|k
  ·exact k
  ·rw [Array.getElem?_eq_none k] at ht;cases ht
 have av:CmpLays P g a7.toArray enc k cf b pre.length xs.toArray.size w:=by
  intro m os dk hs x y;have a2:=ZgW id w b pre.length m (flatK enc k dk) os;have b1:CLe ψ (hcell (sortWorldK enc k w b pre.length m dk os).heap):=s.bas.trans fun q u i=>Zb2 a2 (fun e=>s.dis q u i (by rw [e];simp [Rws.bs])) (s.fle q u i);have:=k1 (Zg8 s.ext al a2) b1 (ψ1:=fun _=>none) (fun _ _ h=>by cases h) (ay x y) _ rfl;have e:(#[.agg (enc x).toArray,.agg (enc y).toArray]:Array Value)++a7.toArray=(([.agg (enc x).toArray,.agg (enc y).toArray]:List Value)++a7).toArray:=by simp
  rw [e];refine this.mono ?_;rintro _ w' ⟨v,rfl,hr,rfl,st⟩;exact ⟨rfl,Zs6 hr st.ext⟩
 refine (AnyQ.slices_SortFunc_total ak k aE zE enc hk h1 cf hO g a7.toArray b pre.length c xs.toArray w eg av hH aj (by simpa using au) hT).mono ?_;rintro _ w' ⟨rfl,n,a8,hw⟩;have hw:w'=sortWorldK enc k w b pre.length n (sortC cf xs).toArray a8:=hw;generalize az:sortC cf xs=ys at hw ⊢;subst hw;have ah:ys.Perm xs:=by rw [<-az];exact List.mergeSort_perm _ _
 have a5:ys.length=xs.length:=ah.length_eq;show ∃ v,_/\RestQ False w (sortWorldK enc k w b pre.length n ys.toArray a8)/\_;rw [ZyZ];have a2:=ZgW id w b pre.length n (flatK enc k ys.toArray) a8;have ap:(sortWorld id w b pre.length n (flatK enc k ys.toArray) a8).heap[b]?=some (.cells (pre++(ys.map enc).flatten++rest).toArray t):=by
  show ((w.heap.modify b (onCells (putCells id pre.length (flatK enc k ys.toArray))))++a8)[b]?=_;rw [Array.getElem?_append_left (by simpa using aj),Array.getElem?_modify,if_pos rfl,ht];simp only [Option.map_some,onCells];rw [ZpR _ _ _ _ _ (by rw [Zit hk];simp [a5]),ZBp hk,List.map_id]
 have af:Rws.bs ((b,Row.cs (pre++(ys.map enc).flatten++rest))::L2)=Rws.bs ((b,Row.cs (pre++(xs.map enc).flatten++rest))::L2):=by simp [Rws.bs]
 have s':S0 ψ f w.heap φ ((b,Row.cs (pre++(xs.map enc).flatten++rest))::L2):=s;have s2:S0 ψ f (sortWorld id w b pre.length n (flatK enc k ys.toArray) a8).heap φ ((b,Row.cs (pre++(ys.map enc).flatten++rest))::L2):=by
  refine ⟨Zg8 s.ext al a2,fun b' cs hm=>?_,by rw [af];exact s'.low,by rw [af];exact s'.nod,fun q u i=>Zb2 a2 (fun e=>s'.dis q u i (by rw [e];simp [Rws.bs])) (s.fle q u i),by rw [af];exact s'.dis,s.bas,s.old⟩;rw [List.mem_cons] at hm;rcases hm with e|hm
  ·cases e;exact ⟨t,ap⟩
  ·have am:=s'.nod;have o:b'≠b:=fun e=>by
    subst e;simp only [Rws.bs,List.map_cons,List.nodup_cons] at am;exact am.1 (List.mem_map.2 ⟨_,hm,rfl⟩)
   have ao:=s'.row b' cs (List.mem_cons_of_mem _ hm);exact ao.same (a2.2 b' ao.lt o)
 refine ⟨_,rfl,⟨rfl,rfl,rfl,fun _=>Nat.le_add_right _ _⟩,rfl,φ,_,s2,[(b,Row.cs (pre++(ys.map enc).flatten++rest))],L2,rfl,?_,r2⟩;exact ⟨_,rfl,.inr ⟨b,c,pre,ys.map enc,rest,[],by rw [a5],by rw [a5];exact hc,by rw [a5];exact hrest,rfl,Zt7 hi _⟩⟩
end
end Go.Vc
