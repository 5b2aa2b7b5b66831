import Derived.Test.YtccncimchmimdaaGreatDoorVcSw
import Derived.Test.YtccncimchmimdaaGreatDoorPuCmp
import Derived.Shelf.SlSortCmp.NoneTotal
namespace Go.Vc
set_option linter.unusedVariables false
set_option linter.unusedSimpArgs false
open Go Go.Proofs Go.Sort Go.Lib Go.Shelf Go.RowKit
theorem AllR.perm {α:Type} {φ:CM} {E:El α} {Z u:List (Value×α)} (hp:u.Perm Z):∀ {L:Rws},AllR φ E L (Z.map fun p=>[p.1]) (Z.map Prod.snd) ->
  ∃ L',L'.Perm L/\AllR φ E L' (u.map fun p=>[p.1]) (u.map Prod.snd):=by
 induction hp with
 | nil=>intro L h;exact ⟨L,List.Perm.refl _,h⟩
 | cons x _ ih=>
  rintro L ⟨r,w,rfl,a,c⟩
  obtain ⟨L',e,f⟩:=ih c
  exact ⟨r++L',e.append_left _,r,L',rfl,a,f⟩
 | swap x y l=>
  rintro L ⟨r,w,rfl,a,M1,M2,rfl,c,j⟩
  refine ⟨M1++(r++M2),?_,M1,r++M2,rfl,c,r,M2,rfl,a,j⟩
  rw [<-List.append_assoc,<-List.append_assoc]
  exact List.Perm.append_right _ List.perm_append_comm
 | trans _ _ g i=>
  intro L h
  obtain ⟨r,e,f⟩:=i h
  obtain ⟨w,k,o⟩:=g f
  exact ⟨w,k.trans e,o⟩
def Rd (h:Heap) (b:Nat) (xs:List (List Int)) (p:Value×List Int):Prop:=
 p.2∈xs/\∀ a,ExtBut (·=b) h a->SlC (hcell a) (El.int .i64) p.1 p.2
section
variable {h0 h:Heap} {b off:Nat} {xs:List (List Int)}
def encR (p:{p // Rd h b xs p}):Value:=p.1.1
def cfR (p q:{p // Rd h b xs p}):Int:=lexC p.1.2 q.1.2
theorem ZAW:OneCell (encR (h:=h) (b:=b) (xs:=xs)):=fun x=>(x.2.2 h (eY _ _)).one
theorem swoR:SWO (ltOf (cfR (h:=h) (b:=b) (xs:=xs))):=
 ⟨fun x=>lexSwo.irrefl x.1.2,fun x y z=>lexSwo.trans x.1.2 y.1.2 z.1.2,fun x y z=>lexSwo.ntrans x.1.2 y.1.2 z.1.2⟩
theorem ZhE {α:Type} [Inhabited α] (enc:α->Value) (w:World) (blk off m:Nat) (c:Array α) (os:Array Obj):ExtBut (·=blk) w.heap (sortWorld enc w blk off m c os).heap:=by
 refine ⟨?_,fun k j g=>?_⟩
 ·simp [sortWorld,Sort.grow,putRow,mapBlock,Sort.ahead]
 ·have a:k<(w.heap.modify blk (onCells (putCells enc off c))).size:=by simpa using j
  show ((w.heap.modify blk (onCells (putCells enc off c)))++os)[k]?=_
  rw [Array.getElem?_append_left a,Array.getElem?_modify,if_neg fun e=>g e.symm]
theorem Zxl {h c:Heap} (a:ExtH h c):∃ os:Array Obj,c=h++os:=by
 refine ⟨c.extract h.size c.size,Array.ext_getElem? fun i=>?_⟩
 rcases Nat.lt_or_ge i h.size with k|k
 ·rw [a.2 i k,Array.getElem?_append_left k]
 ·rw [Array.getElem?_append_right k,Array.getElem?_extract]
  have:=a.1
  by_cases hi:i<c.size
  ·rw [if_pos ω,show h.size+(i-h.size)=i by omega]
  ·rw [if_neg ω,Array.getElem?_eq_none ω]
theorem ZtL {w g:World} (k:RestQ True w g) (c:ExtH w.heap g.heap):∃ q os,g=Sort.grow (w.drewN q) os:=by
 obtain ⟨os,j⟩:=Zxl c
 obtain ⟨e,r2,f,a⟩:=k
 have a:=a trivial
 refine ⟨g.drawn-w.drawn,os,?_⟩
 cases w;cases g
 simp only [Sort.grow,World.drewN] at *
 subst e r2 f j
 simp only [World.mk.injEq,true_and,and_true]
 omega
theorem ZjI {e:Heap} (a:ExtH h0 h) (c:h0.size<=b) (k:ExtBut (·=b) h e):ExtH h0 e:=
 ⟨Nat.le_trans a.1 k.1,fun i hi=>(k.2 i (Nat.lt_of_lt_of_le hi a.1) (by show ¬ i=b;omega)).trans (a.2 i hi)⟩
theorem cmpR {P:Program} {g:Nat} {a0:List Value} {fn:List Int->List Int->Option Int} {w:World} {n:Nat} [Inhabited {p // Rd w.heap b xs p}] (s:ExtH h0 w.heap) (t:h0.size<=b) {ψ:CM} (k:∀ h',ExtBut (·=b) w.heap h'->CLe ψ (hcell h'))
  (k1:∀ {f:Heap},ExtH h0 f->CLe ψ (hcell f)->∀ {ψ1:CM},CLe ψ1 (hcell f)->∀ {l:List Int} {i:Value} {o:List Int} {j:Value} {r:Int},fn l o=some r->SlC (hcell f) (El.int .i64) i l->SlC (hcell f) (El.int .i64) j o->CallsQ True P g (([i,j]:List Value)++a0).toArray f (fun v h'=>v=.int .i64 r/\S ψ1 f h' []))
  (a3:∀ a∈xs,∀ c∈xs,fn a c=some (lexC a c)):CmpLays1 P g a0.toArray (encR (h:=w.heap) (b:=b) (xs:=xs)) cfR b off n w:=by
 intro m os dk hs x y
 have u:=ZhE encR w b off m dk os
 have:=k1 (ZjI s t u) (k _ u) (ψ1:=fun _=>none) (fun _ _ h=>by cases h) (a3 _ x.2.1 _ y.2.1) (x.2.2 _ u) (y.2.2 _ u) _ rfl
 have e:(#[encR x,encR y]:Array Value)++a0.toArray=(([x.1.1,y.1.1]:List Value)++a0).toArray:=by simp [encR]
 rw [e]
 refine this.mono ?_
 rintro _ w' ⟨v,rfl,hr,rfl,st⟩
 exact ⟨rfl,ZtL hr st.ext⟩
end
theorem Zmz {α:Type} [Inhabited α] (enc:α->Value) (d:Array α) (e j g:List Value) (r:d.size=j.length):
  putCells enc e.length d (e++j++g).toArray=(e++d.toList.map enc++g).toArray:=by
 apply Array.ext_getElem?
 intro i
 unfold putCells
 rw [Array.getElem?_mapIdx]
 simp only [List.getElem?_toArray]
 by_cases a:i<e.length
 ·rw [List.append_assoc,List.append_assoc,List.getElem?_append_left a,List.getElem?_append_left a,List.getElem?_eq_getElem a]
  simp only [Option.map_some]
  rw [if_neg ω]
 ·have A:(e++j++g)[i]?=(j++g)[i-e.length]?:=by rw [List.append_assoc,List.getElem?_append_right ω]
  have B:(e++d.toList.map enc++g)[i]?=(d.toList.map enc++g)[i-e.length]?:=by rw [List.append_assoc,List.getElem?_append_right ω]
  rw [A,B]
  by_cases c:i<e.length+d.size
  ·have l:(j++g)[i-e.length]?=j[i-e.length]?:=List.getElem?_append_left ω
   have k:(d.toList.map enc++g)[i-e.length]?=(d.toList.map enc)[i-e.length]?:=List.getElem?_append_left (by simp;omega)
   rw [l,k,List.getElem?_eq_getElem (show i-e.length<j.length by omega),List.getElem?_map,List.getElem?_eq_getElem (show i-e.length<d.toList.length by simp;omega)]
   simp only [Option.map_some]
   rw [if_pos ω,getElem!_pos d (i-e.length) ω]
   simp
  ·have l:(j++g)[i-e.length]?=g[i-e.length-j.length]?:=List.getElem?_append_right ω
   have k:(d.toList.map enc++g)[i-e.length]?=g[i-e.length-j.length]?:=by
    rw [List.getElem?_append_right (by simp;omega)];simp [r]
   rw [l,k]
   generalize g[i-e.length-j.length]?=o
   cases o with
   | none=>rfl
   | some u=>simp only [Option.map_some];rw [if_neg ω]
theorem ZFW {P:Program} {ρ:Ren} (LF:SlLaysF.n6 P ρ) (bm:SlLaysF0.n6 P ρ) {ψ:CM} {h0 h:Heap} {os:List Ob} {E:El (List Int)} {xs:List (List Int)} {v0:Value} {fn:(List Int)->(List Int)->Option Int} {g:Nat} {ao:List Value}
  (st:S ψ h0 h (.it (El.ow E) [v0] xs::os)) (eg:Enters P g)
  (k1:∀ {o:Heap},ExtH h0 o->CLe ψ (hcell o)->∀ {ψ1:CM},CLe ψ1 (hcell o)->∀ {y0:List Int} {y:Value} {y1:List Int} {a0:Value} {x:Int},fn y0 y1=some x->SlC (hcell o) (El.int .i64) y y0->SlC (hcell o) (El.int .i64) a0 y1->CallsQ True P g (([y,a0]:List Value)++ao).toArray o (fun v h'=>v=.int .i64 x/\S ψ1 o h' []))
  (bn:∀ a∈xs,∀ c∈xs,fn a c=some (lexC a c)) (c3:xs.length<4611686018427387904) (hz:E.z=1) (hf:Frz E (El.sl (El.int .i64))):
  CallsH P (ρ.f 6) #[v0,.func (.func g) #[] ao.toArray] h (fun v h'=>v=.tuple #[]/\S ψ h0 h' (.it (El.ow E) [v0] (sortRows xs)::os)):=by
 intro w hw
 subst hw
 by_cases al:xs=[]
 ·subst al
  have a9:=st
  obtain ⟨φ,L,s,L1,L2,rfl,x,r2⟩:=st
  have hv:∃ p c,v0=.slice p 0 c:=by
   rcases El.ow_to x with ⟨rfl,_⟩|⟨b,c,pre,css,rest,Lr,rfl,_⟩
   ·exact ⟨_,_,rfl⟩
   ·exact ⟨_,_,rfl⟩
  obtain ⟨p,c,rfl⟩:=hv
  refine (AnyF.slices_SortFunc_none bm p c _ w).mono ?_
  rintro _ w' ⟨rfl,rfl⟩
  exact ⟨_,rfl,RestQ.refl _,rfl,by rw [show sortRows []=[] by simp [sortRows]];exact a9⟩
 ·obtain ⟨φ,L,s,L1,L2,rfl,x,r2⟩:=st
  rcases El.ow_to x with ⟨_,rfl,_⟩|⟨b,c,pre,css,rest,Lr,rfl,hc,hrest,rfl,hall⟩
  ·exact absurd rfl al
  obtain ⟨ds,rfl⟩:=hall.singles hz
  have bf:ds.length=xs.length:=by have:=hall.length;rwa [List.length_map] at this
  rw [ZcB] at s
  have ay:h0.size<=b:=s.low b (by simp [Rws.bs])
  have b3:=s.row b _ (List.mem_cons_self ..)
  obtain ⟨Ls,b9,g2,g3,g4⟩:=hall.ix
  have b1:∀ p∈ds.zip xs,Rd w.heap b xs p:=by
   intro p hp
   obtain ⟨i,hi⟩:=List.getElem?_of_mem hp
   rw [List.getElem?_zip_eq_some] at hi
   obtain ⟨i1,i2⟩:=hi
   refine ⟨List.mem_of_getElem? i2,fun h' hx=>?_⟩
   obtain ⟨l,hl⟩:∃ l,Ls[i]?=some l:=⟨_,List.getElem?_eq_getElem (by rw [g2];exact Z1 i2)⟩
   have hR:=g4 i l [p.1] p.2 hl (by rw [List.getElem?_map,i1];rfl) i2
   have be:CLe φ (hcell h'):=fun q u f=>Zcs hx (fun e=>s.dis q u f (by rw [e];simp [Rws.bs])) (s.fle q u f)
   have ar:RowsC (hcell h') l:=fun b' row hm j u hu=>by
    have a3:(b',Row.cs row)∈Lr:=by rw [b9];exact List.mem_flatten.2 ⟨l,List.mem_of_getElem? hl,hm⟩
    have aa:=s.nod
    have r:b'≠b:=fun e=>by
     subst e
     simp only [Rws.bs,List.cons_append,List.map_cons,List.nodup_cons,List.map_append,List.mem_append] at aa
     exact aa.1 (.inl (List.mem_map.2 ⟨_,a3,rfl⟩))
    have:hcell w.heap ⟨b',j,none⟩=some u:=s.rows b' row (List.mem_cons_of_mem _ (List.mem_append_left _ a3)) j u hu
    exact Zcs hx r this
   have:=hf.2 (hcell h') l [p.1] p.2 (E.mono be hR) ar
   exact El.sl_to this
  have ca:(ds.zip xs).length=xs.length:=by rw [List.length_zip];omega
  let d:Array {p // Rd w.heap b xs p}:=((ds.zip xs).attachWith _ b1).toArray
  have hd:d.size=xs.length:=by simp [d,bf]
  have b0:d.toList.map Subtype.val=ds.zip xs:=List.attachWith_map_subtype_val b1
  obtain ⟨x0,ai⟩:∃ x0:{p // Rd w.heap b xs p},True:=by
   have:0<xs.length:=List.length_pos_iff.2 al
   exact ⟨d[0]' ω,trivial⟩
  haveI:Inhabited {p // Rd w.heap b xs p}:=⟨x0⟩
  obtain ⟨t,ht⟩:=b3
  have hH:Holds encR w b pre.length d:=by
   intro j hj
   have ba:d[j]! =d[j]:=getElem!_pos d j hj
   have ap:(ds.zip xs)[j]?=some d[j].1:=by rw [<-b0,List.getElem?_map];simp [hj]
   rw [List.getElem?_zip_eq_some] at ap
   have af:=Z1 ap.1
   constructor
   ·simp only [World.cell?,ht]
    rw [ba]
    simp only [Option.isSome_none,Bool.false_eq_true,if_false,List.getElem?_toArray]
    rw [List.append_assoc,List.getElem?_append_right ω,show pre.length+j-pre.length=j by omega,List.getElem?_append_left af]
    exact ap.1
   ·simp only [World.frozen?,ht];simp
  have af:b<w.heap.size:=by
   rcases Nat.lt_or_ge b w.heap.size with k|k
   ·exact k
   ·rw [Array.getElem?_eq_none k] at ht;cases ht
  have call:=Any.slices_SortFunc LF encR ZAW cfR swoR g ao.toArray b pre.length c d w eg (cmpR s.ext ay (fun h' hx=>s.bas.trans fun q u f=>Zcs hx (fun e=>s.dis q u f (by rw [e];simp [Rws.bs])) (s.fle q u f)) k1 bn) hH af ω
  rw [hd] at call
  refine call.mono ?_
  rintro _ w' ⟨rfl,d',n,ag,ah,au,rfl⟩
  have cb:d'.size=xs.length:=by rw [ah.1,hd]
  have bc:d'.toList.Perm d.toList:=by
   have:=ah.2.2
   rw [Array.toList_extract,Array.toList_extract] at this
   simp only [List.extract_eq_take_drop,List.drop_zero,Nat.sub_zero] at this
   rwa [List.take_of_length_le (by simp;omega),List.take_of_length_le (by simp;omega)] at this
  have ax:(d'.toList.map Subtype.val).Perm (ds.zip xs):=by rw [<-b0];exact bc.map _
  have a4:(ds.zip xs).map Prod.snd=xs:=List.map_snd_zip ω
  have a5:(ds.zip xs).map Prod.fst=ds:=List.map_fst_zip ω
  have a2:AllR φ E Lr ((ds.zip xs).map fun p=>[p.1]) ((ds.zip xs).map Prod.snd):=by
   rw [a4,show ((ds.zip xs).map fun p=>[p.1])=ds.map fun d=>[d] by rw [<-a5,List.map_map];rw [a5];rfl]
   exact hall
  obtain ⟨L',bj,ae⟩:=a2.perm ax
  have b5:(d'.toList.map Subtype.val).map Prod.snd=sortRows xs:=by
   refine ZtF ?_ fun i j bk hj=>?_
   ·have:=ax.map Prod.snd
    rwa [a4] at this
   ·simp only [List.length_map,Array.length_toList] at hj
    have:=au i j (Nat.zero_le _) bk ω
    rw [getElem!_pos d' i ω,getElem!_pos d' j ω] at this
    rw [getElem!_pos _ i (by simp;omega),getElem!_pos _ j (by simp;omega)]
    simp only [List.getElem_map,Array.getElem_toList]
    exact this
  rw [b5] at ae
  have ac:=ZhE encR w b pre.length n d' ag
  have b2:(sortWorld encR w b pre.length n d' ag).heap[b]?=some (.cells (pre++d'.toList.map encR++rest).toArray t):=by
   show ((w.heap.modify b (onCells (putCells encR pre.length d')))++ag)[b]?=_
   rw [Array.getElem?_append_left (by simpa using af),Array.getElem?_modify,if_pos rfl,ht]
   simp only [Option.map_some,onCells]
   rw [Zmz _ _ _ _ _ ω]
  have ak:Rws.bs ((b,Row.cs (pre++d'.toList.map encR++rest))::Lr++L2)=Rws.bs ((b,Row.cs (pre++ds++rest))::Lr++L2):=by simp [Rws.bs]
  have s2:S0 ψ h0 (sortWorld encR w b pre.length n d' ag).heap φ ((b,Row.cs (pre++d'.toList.map encR++rest))::Lr++L2):=by
   refine ⟨ZjI s.ext ay ac,fun b' cs hm=>?_,by rw [ak];exact s.low,by rw [ak];exact s.nod,fun q u f=>Zcs ac (fun e=>s.dis q u f (by rw [e];simp [Rws.bs])) (s.fle q u f),by rw [ak];exact s.dis,s.bas,s.old⟩
   rw [List.cons_append,List.mem_cons] at hm
   rcases hm with e|hm
   ·cases e;exact ⟨t,b2⟩
   ·have aa:=s.nod
    have r:b'≠b:=fun e=>by
     subst e
     simp only [Rws.bs,List.cons_append,List.map_cons,List.nodup_cons] at aa
     exact aa.1 (List.mem_map.2 ⟨_,hm,rfl⟩)
    have az:=s.row b' cs (List.mem_cons_of_mem _ hm)
    exact az.same (ac.2 b' az.lt r)
  have a7:(sortRows xs).length=xs.length:=(Zix xs).length_eq
  refine ⟨_,rfl,⟨rfl,rfl,rfl,fun _=>Nat.le_add_right _ _⟩,rfl,φ,_,s2.perm (L':=((b,Row.cs (pre++d'.toList.map encR++rest))::L')++L2) ?_,_,L2,rfl,?_,r2⟩
  ·exact (bj.symm.cons _).append_right _
  ·refine ⟨_,rfl,.inr ⟨b,c,pre,(d'.toList.map Subtype.val).map fun p=>[p.1],rest,L',by rw [a7],by rw [a7];exact hc,by rw [a7];exact hrest,?_,ae⟩⟩
   rw [List.map_map]
   have e:((fun p:Value×List Int=>[p.1]) ∘ Subtype.val:{p // Rd w.heap b xs p}->List Value)=(fun d=>[d]) ∘ encR:=rfl
   rw [e,<-List.map_map,ZcB]
end Go.Vc
