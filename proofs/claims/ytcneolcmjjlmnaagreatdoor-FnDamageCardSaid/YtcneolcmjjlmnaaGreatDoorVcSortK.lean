import Derived.Test.YtcneolcmjjlmnaaGreatDoorVcSort
open List renaming map_cons->JG,flatten_cons->JX,length_cons->Jy,getElem?_append_left->J2,getElem?_append_right->JR,getElem?_eq_none->Xv,length->Jk
namespace Go.Vc
set_option linter.unusedVariables false
set_option linter.unusedSimpArgs false
open Go Go.Proofs Go.Sort Go.Lib Go.Shelf Go.RowKit
section
variable {α:Type}
theorem ZDf {E:El α} {enc:α->Jc} (j:∀{φ:CM} {L:Rws} {cs:Jc} {x:α},E.R φ L cs x->L=[]/\cs=enc x) {φ:CM}:
  ∀{L:Rws} {css:List Jc} {xs:List α},AllR φ E L css xs->L=[]/\css=xs.map enc
 | _,[],[],h=>⟨h,rfl⟩
 | _,c::cs,x::xs,⟨L1,L2,h1,a,e⟩=>by
  obtain ⟨f,g⟩:=ZDf j e;obtain ⟨k1,k2⟩:=j a;exact ⟨by rw [h1,k1,f];rfl,by rw [k2,g];rfl⟩
 | _,[],_::_,h=>h.elim
 | _,_::_,[],h=>h.elim
theorem ZD7 {E:El α} {enc:α->Jc} (hi:∀(φ:CM) (x:α),E.R φ [] (enc x) x) {φ:CM}:∀xs:List α,AllR φ E [] (xs.map enc) xs
 | []=>rfl
 | x::xs=>⟨[],[],rfl,hi φ x,ZD7 hi xs⟩
theorem Zlf {enc:α->Jc} {k:Nat} (e:∀x,(enc x).length=k):∀(xs:List α),(xs.map enc).flatten.length=Jk xs*k
 | []=>by simp
 | x::xs=>by rw [JG,JX,List.length_append,Zlf e xs,e,Jy,Nat.add_mul];omega
theorem ZpV [Inhabited α] {enc:α->Jc} {k:Nat} (j:∀x,(enc x).length=k):∀(xs:List α) (t:Nat),t<Jk xs*k->(xs.map enc).flatten[t]?=some ((enc xs[t/k]!)[t%k]!)
 | [],t,h=>by simp at h
 | x::xs,t,h=>by
  have a:0<k:=by
   rcases Nat.eq_zero_or_pos k with e|e
   .rw [e,Nat.mul_zero] at h;omega
   .exact e
  rw [JG,JX];by_cases l:t<k
  .rw [J2 (by rw [j];exact l),Nat.div_eq_of_lt l,Nat.mod_eq_of_lt l];have o:t<(enc x).length:=by rw [j];exact l
   rw [List.getElem?_eq_getElem o];simp [o]
  .have f:t-k<Jk xs*k:=by rw [Jy,Nat.add_mul,Nat.one_mul] at h;omega
   rw [JR (by rw [j];omega),j,ZpV j xs (t-k) f];have g:t/k=(t-k)/k+1:=by rw [Nat.div_eq t k,if_pos ⟨a,by omega⟩]
   have i:t%k=(t-k)%k:=by rw [Nat.mod_eq t k,if_pos ⟨a,by omega⟩]
   rw [g,i];simp
theorem ZNV [Inhabited α] {enc:α->Jc} {k:Nat} (h:∀x,(enc x).length=k) (xs:List α):(flatK enc k xs.toArray).toList=(xs.map enc).flatten:=by
 apply List.ext_getElem?;intro t;by_cases g:t<Jk xs*k
 .rw [ZpV h xs t g,Array.getElem?_toList];have hs:t<(flatK enc k xs.toArray).size:=by simpa using g
  have e:=get_flatK enc k xs.toArray t (by simpa using g);rw [getElem!_pos (flatK enc k xs.toArray) t hs] at e;rw [Array.getElem?_eq_getElem hs,e];simp
 .rw [Xv (by simp;omega),Xv (by rw [Zlf h];omega)]
theorem ZNR [Inhabited α] (enc:α->Jc) (k:Nat) (w:World) (blk off n:Nat) (d:Array α) (os:Array Obj):sortWorldK enc k w blk off n d os=sortWorld id w blk off n (flatK enc k d) os:=rfl
theorem ZFn [Inhabited α] {P:Program} {ρ:Ren} (al:SlLaysF0.n6 P ρ) {k:Nat} (aE:∀w,(isAgg (ρ.t 24)).run P w=.ok true w) (zE:∀w,(Go.sizeOf (ρ.t 24)).run P w=.ok k w)
  {E:El α} {enc:α->Jc} (he:∀{φ:CM} {L:Rws} {cs:Jc} {x:α},E.R φ L cs x->L=[]/\cs=enc x) (hi:∀(φ:CM) (x:α),E.R φ [] (enc x) x) (hz:E.z=k)
  {cf:α->α->Int} (ao:CmpOk cf)
  {ψ:CM} {f h:Heap} {os:List Ob} {xs:List α} {v0:Value} {fn:α->α->Jm Int} {g:Nat} {a8:Jc}
  (st:S ψ f h (.it (El.ow E) [v0] xs::os)) (eg:Enters P g)
  (k1:∀{h1:Heap},ExtH f h1->CLe ψ (hcell h1)->∀{ψ1:CM},CLe ψ1 (hcell h1)->∀{r y1:α} {l:Int},fn r y1=some l->CallsQ True P g (([.agg (enc r).toArray,.agg (enc y1).toArray]:Jc)++a8).toArray h1 (λv h'=>v=.int .i64 l/\S ψ1 h1 h' []))
  (az:∀a c,fn a c=some (cf a c)) (av:Jk xs<4611686018427387904):
  CallsH P (ρ.f 6) #[v0,.func (.func g) #[] a8.toArray] h (λv h'=>v=.tuple #[]/\S ψ f h' (.it (El.ow E) [v0] (sortC cf xs)::os)):=by
 have hO:SWO (ltOf cf):=ao.swo;have hT:∀x y,(ltOf cf) x y=false->(ltOf cf) y x=false->x=y:=ao.tot;have hk:∀x,(enc x).length=k:=λx=>by rw [<-hz];exact E.len (hi (λ_=>none) x)
 have h1:∀x,∀v∈enc x,v.oneCell'=true:=λx=>E.one (hi (λ_=>none) x);intro w hw;subst hw;have a3:=st;obtain ⟨φ,L,s,L1,L2,rfl,l,r2⟩:=st;rcases El.ow_to l with ⟨rfl,rfl,_⟩|⟨b,c,pre,css,rest,Lr,rfl,hc,hrest,rfl,hall⟩
 .refine (AnyF.slices_SortFunc_none al none 0 _ w).mono ?_;rintro _ w' ⟨rfl,rfl⟩;exact ⟨_,rfl,RestQ.refl _,rfl,by rw [show sortC cf ([]:List α)=[] by simp [sortC]];exact a3⟩
 obtain ⟨rfl,rfl⟩:=ZDf he hall;have ai:f.size<=b:=s.low b (by simp [Rws.bs]);obtain ⟨t,ht⟩:=s.row b _ (List.mem_cons_self ..);have hH:HoldsK enc k w b (Jk pre) xs.toArray:=by
  intro j hj;have ae:j<Jk xs*k:=by simpa using hj
  have ay:=ZpV hk xs j ae;constructor
  .simp only [World.cell?,ht];simp only [Option.isSome_none,Bool.false_eq_true,if_false,List.getElem?_toArray];rw [List.append_assoc,JR Z,show pre.length+j-pre.length=j by omega,J2 (by rw [Zlf hk];exact ae),ay,get_flatK enc k xs.toArray j (by simpa using ae)];simp
  .simp only [World.frozen?,ht];simp
 have aj:b<w.heap.size:=by
  rcases Nat.lt_or_ge b w.heap.size with k|k
  .exact k
  .rw [Array.getElem?_eq_none k] at ht;cases ht
 have aq:CmpLays P g a8.toArray enc k cf b (Jk pre) xs.toArray.size w:=by
  intro m os dk hs x y;have a2:=ZgJ id w b (Jk pre) m (flatK enc k dk) os;have ax:CLe ψ (hcell (sortWorldK enc k w b (Jk pre) m dk os).heap):=s.bas.trans λq u i=>Zcq a2 (λe=>s.dis q u i (by rw [e];simp [Rws.bs])) (s.fle q u i);have:=k1 (Zjw s.ext ai a2) ax (ψ1:=λ_=>none) (λ_ _ h=>by cases h) (az x y) _ rfl;have e:(#[.agg (enc x).toArray,.agg (enc y).toArray]:Array Value)++a8.toArray=(([.agg (enc x).toArray,.agg (enc y).toArray]:Jc)++a8).toArray:=by simp
  rw [e];refine this.mono ?_;rintro _ w' ⟨v,rfl,hr,rfl,st⟩;exact ⟨rfl,ZAC hr st.ext⟩
 refine (AnyQ.slices_SortFunc_total al k aE zE enc hk h1 cf hO g a8.toArray b (Jk pre) c xs.toArray w eg aq hH aj (by simpa using av) hT).mono ?_;rintro _ w' ⟨rfl,n,a7,hw⟩;have hw:w'=sortWorldK enc k w b (Jk pre) n (sortC cf xs).toArray a7:=hw;generalize b0:sortC cf xs=ys at hw ⊢;subst hw;have ah:ys.Perm xs:=by rw [<-b0];exact List.mergeSort_perm _ _
 have a5:Jk ys=Jk xs:=ah.length_eq;show ∃v,_/\RestQ False w (sortWorldK enc k w b (Jk pre) n ys.toArray a7)/\_;rw [ZNR];have a2:=ZgJ id w b (Jk pre) n (flatK enc k ys.toArray) a7;have au:(sortWorld id w b (Jk pre) n (flatK enc k ys.toArray) a7).heap[b]?=some (.cells (pre++(ys.map enc).flatten++rest).toArray t):=by
  show ((w.heap.modify b (onCells (putCells id (Jk pre) (flatK enc k ys.toArray))))++a7)[b]?=_;rw [Array.getElem?_append_left (by simpa using aj),Array.getElem?_modify,if_pos rfl,ht];simp only [Option.map_some,onCells];rw [ZtG _ _ _ _ _ (by rw [Zlf hk];simp [a5]),ZNV hk,List.map_id]
 have ag:Rws.bs ((b,Row.cs (pre++(ys.map enc).flatten++rest))::L2)=Rws.bs ((b,Row.cs (pre++(xs.map enc).flatten++rest))::L2):=by simp [Rws.bs]
 have s':S0 ψ f w.heap φ ((b,Row.cs (pre++(xs.map enc).flatten++rest))::L2):=s;have s2:S0 ψ f (sortWorld id w b (Jk pre) n (flatK enc k ys.toArray) a7).heap φ ((b,Row.cs (pre++(ys.map enc).flatten++rest))::L2):=by
  refine ⟨Zjw s.ext ai a2,λb' cs hm=>?_,by rw [ag];exact s'.low,by rw [ag];exact s'.nod,λq u i=>Zcq a2 (λe=>s'.dis q u i (by rw [e];simp [Rws.bs])) (s.fle q u i),by rw [ag];exact s'.dis,s.bas,s.old⟩;rw [List.mem_cons] at hm;rcases hm with e|hm
  .cases e;exact ⟨t,au⟩
  .have ak:=s'.nod;have o:b'≠b:=λe=>by
    subst e;simp only [Rws.bs,JG,List.nodup_cons] at ak;exact ak.1 (List.mem_map.2 ⟨_,hm,rfl⟩)
   have am:=s'.row b' cs (List.mem_cons_of_mem _ hm);exact am.same (a2.2 b' am.lt o)
 refine ⟨_,rfl,⟨rfl,rfl,rfl,λ_=>Nat.le_add_right _ _⟩,rfl,φ,_,s2,[(b,Row.cs (pre++(ys.map enc).flatten++rest))],L2,rfl,?_,r2⟩;exact ⟨_,rfl,.inr ⟨b,c,pre,ys.map enc,rest,[],by rw [a5],by rw [a5];exact hc,by rw [a5];exact hrest,rfl,ZD7 hi _⟩⟩
end
end Go.Vc
