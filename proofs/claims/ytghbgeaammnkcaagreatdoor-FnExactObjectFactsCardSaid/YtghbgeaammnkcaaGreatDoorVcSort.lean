import Derived.Test.YtghbgeaammnkcaaGreatDoorVcSw
import Derived.Test.YtghbgeaammnkcaaGreatDoorPuCmp
import Derived.Shelf.SlSortCmp.NoneTotal
namespace Go.Vc
set_option linter.unusedVariables false
set_option linter.unusedSimpArgs false
open Go Go.Proofs Go.Sort Go.Lib Go.Shelf Go.RowKit
theorem AllR.perm {α:Type} {φ:CM} {E:El α} {Z Z':List (Value×α)} (hp:Z'.Perm Z):∀ {L:Rws},AllR φ E L (Z.map fun p=>[p.1]) (Z.map Prod.snd) →
  ∃ L',L'.Perm L∧AllR φ E L' (Z'.map fun p=>[p.1]) (Z'.map Prod.snd):=by
 induction hp with
 | nil=>intro L h;exact ⟨L,List.Perm.refl _,h⟩
 | cons x _ ih=>
  rintro L ⟨L1,L2,rfl,a,c⟩
  obtain ⟨L',e,f⟩:=ih c
  exact ⟨L1++L',e.append_left _,L1,L',rfl,a,f⟩
 | swap x y l=>
  rintro L ⟨L1,L2,rfl,a,M1,M2,rfl,c,j⟩
  refine ⟨M1++(L1++M2),?_,M1,L1++M2,rfl,c,L1,M2,rfl,a,j⟩
  rw [←List.append_assoc,←List.append_assoc]
  exact List.Perm.append_right _ List.perm_append_comm
 | trans _ _ g i=>
  intro L h
  obtain ⟨L1,e,f⟩:=i h
  obtain ⟨L2,k,m⟩:=g f
  exact ⟨L2,k.trans e,m⟩
def Rd (h:Heap) (b:Nat) (xs:List (List Int)) (p:Value×List Int):Prop:=
 p.2∈xs∧∀ h',ExtBut (·=b) h h'→SlC (hcell h') (El.int .i64) p.1 p.2
section
variable {h0 h:Heap} {b off:Nat} {xs:List (List Int)}
def encR (p:{p // Rd h b xs p}):Value:=p.1.1
def cfR (p q:{p // Rd h b xs p}):Int:=lexC p.1.2 q.1.2
theorem ZAa:OneCell (encR (h:=h) (b:=b) (xs:=xs)):=fun x=>(x.2.2 h (eY _ _)).one
theorem swoR:SWO (ltOf (cfR (h:=h) (b:=b) (xs:=xs))):=
 ⟨fun x=>lexSwo.irrefl x.1.2,fun x y z=>lexSwo.trans x.1.2 y.1.2 z.1.2,fun x y z=>lexSwo.ntrans x.1.2 y.1.2 z.1.2⟩
theorem Zqa {α:Type} [Inhabited α] (enc:α→Value) (w:World) (blk off m:Nat) (dk:Array α) (os:Array Obj):ExtBut (·=blk) w.heap (sortWorld enc w blk off m dk os).heap:=by
 refine ⟨?_,fun k hk hne=>?_⟩
 ·simp [sortWorld,Sort.grow,putRow,mapBlock,Sort.ahead]
 ·have a:k<(w.heap.modify blk (onCells (putCells enc off dk))).size:=by simpa using hk
  show ((w.heap.modify blk (onCells (putCells enc off dk)))++os)[k]?=_
  rw [Array.getElem?_append_left a,Array.getElem?_modify,if_neg fun e=>hne e.symm]
theorem Zyy {h h':Heap} (a:ExtH h h'):∃ os:Array Obj,h'=h++os:=by
 refine ⟨h'.extract h.size h'.size,Array.ext_getElem? fun i=>?_⟩
 rcases Nat.lt_or_ge i h.size with k|k
 ·rw [a.2 i k,Array.getElem?_append_left k]
 ·rw [Array.getElem?_append_right k,Array.getElem?_extract]
  have:=a.1
  by_cases hi:i<h'.size
  ·rw [if_pos (by omega),show h.size+(i-h.size)=i by omega]
  ·rw [if_neg (by omega),Array.getElem?_eq_none (by omega)]
theorem ZD1 {w w':World} (hr:RestQ True w w') (c:ExtH w.heap w'.heap):∃ q os,w'=Sort.grow (w.drewN q) os:=by
 obtain ⟨os,ho⟩:=Zyy c
 obtain ⟨e,f,g,a⟩:=hr
 have a:=a trivial
 refine ⟨w'.drawn-w.drawn,os,?_⟩
 cases w;cases w'
 simp only [Sort.grow,World.drewN] at *
 subst e f g ho
 simp only [World.mk.injEq,true_and,and_true]
 omega
theorem Zm5 {h':Heap} (a:ExtH h0 h) (c:h0.size≤b) (k:ExtBut (·=b) h h'):ExtH h0 h':=
 ⟨Nat.le_trans a.1 k.1,fun i hi=>(k.2 i (Nat.lt_of_lt_of_le hi a.1) (by show ¬ i=b;omega)).trans (a.2 i hi)⟩
theorem cmpR {P:Program} {g:Nat} {cap:List Value} {fn:List Int→List Int→Option Int} {w:World} {n:Nat} [Inhabited {p // Rd w.heap b xs p}] (s:ExtH h0 w.heap) (t:h0.size≤b) {ψ:CM} (k:∀ h',ExtBut (·=b) w.heap h'→CLe ψ (hcell h'))
  (k1:∀ {f:Heap},ExtH h0 f→CLe ψ (hcell f)→∀ {ψ1:CM},CLe ψ1 (hcell f)→∀ {l:List Int} {i:Value} {o:List Int} {j:Value} {r:Int},fn l o=some r→SlC (hcell f) (El.int .i64) i l→SlC (hcell f) (El.int .i64) j o→CallsQ True P g (([i,j]:List Value)++cap).toArray f (fun v h'=>v=.int .i64 r∧S ψ1 f h' []))
  (hfn:∀ a∈xs,∀ c∈xs,fn a c=some (lexC a c)):CmpLays1 P g cap.toArray (encR (h:=w.heap) (b:=b) (xs:=xs)) cfR b off n w:=by
 intro m os dk hs x y
 have hbut:=Zqa encR w b off m dk os
 have:=k1 (Zm5 s t hbut) (k _ hbut) (ψ1:=fun _=>none) (fun _ _ h=>by cases h) (hfn _ x.2.1 _ y.2.1) (x.2.2 _ hbut) (y.2.2 _ hbut) _ rfl
 have e:(#[encR x,encR y]:Array Value)++cap.toArray=(([x.1.1,y.1.1]:List Value)++cap).toArray:=by simp [encR]
 rw [e]
 refine this.mono ?_
 rintro _ w' ⟨v,rfl,hr,rfl,st⟩
 exact ⟨rfl,ZD1 hr st.ext⟩
end
theorem Zsn {α:Type} [Inhabited α] (enc:α→Value) (d:Array α) (pre ds rest:List Value) (hl:d.size=ds.length):
  putCells enc pre.length d (pre++ds++rest).toArray=(pre++d.toList.map enc++rest).toArray:=by
 apply Array.ext_getElem?
 intro i
 unfold putCells
 rw [Array.getElem?_mapIdx]
 simp only [List.getElem?_toArray]
 by_cases a:i<pre.length
 ·rw [List.append_assoc,List.append_assoc,List.getElem?_append_left a,List.getElem?_append_left a,List.getElem?_eq_getElem a]
  simp only [Option.map_some]
  rw [if_neg (by omega)]
 ·have A:(pre++ds++rest)[i]?=(ds++rest)[i-pre.length]?:=by rw [List.append_assoc,List.getElem?_append_right (by omega)]
  have B:(pre++d.toList.map enc++rest)[i]?=(d.toList.map enc++rest)[i-pre.length]?:=by rw [List.append_assoc,List.getElem?_append_right (by omega)]
  rw [A,B]
  by_cases c:i<pre.length+d.size
  ·have A2:(ds++rest)[i-pre.length]?=ds[i-pre.length]?:=List.getElem?_append_left (by omega)
   have B2:(d.toList.map enc++rest)[i-pre.length]?=(d.toList.map enc)[i-pre.length]?:=List.getElem?_append_left (by simp;omega)
   rw [A2,B2,List.getElem?_eq_getElem (show i-pre.length<ds.length by omega),List.getElem?_map,List.getElem?_eq_getElem (show i-pre.length<d.toList.length by simp;omega)]
   simp only [Option.map_some]
   rw [if_pos (by omega),getElem!_pos d (i-pre.length) (by omega)]
   simp
  ·have A2:(ds++rest)[i-pre.length]?=rest[i-pre.length-ds.length]?:=List.getElem?_append_right (by omega)
   have B2:(d.toList.map enc++rest)[i-pre.length]?=rest[i-pre.length-ds.length]?:=by
    rw [List.getElem?_append_right (by simp;omega)];simp [hl]
   rw [A2,B2]
   generalize rest[i-pre.length-ds.length]?=o
   cases o with
   | none=>rfl
   | some u=>simp only [Option.map_some];rw [if_neg (by omega)]
theorem ZFP {P:Program} {ρ:Ren} (LF:SlLaysF.n6 P ρ) (LF0:SlLaysF0.n6 P ρ) {ψ:CM} {h0 h:Heap} {os:List Ob} {E:El (List Int)} {xs:List (List Int)} {v0:Value} {fn:(List Int)→(List Int)→Option Int} {g:Nat} {cap:List Value}
  (st:S ψ h0 h (.it (El.ow E) [v0] xs::os)) (eg:Enters P g)
  (k1:∀ {m:Heap},ExtH h0 m→CLe ψ (hcell m)→∀ {ψ1:CM},CLe ψ1 (hcell m)→∀ {y0:List Int} {x:Value} {y1:List Int} {y:Value} {r:Int},fn y0 y1=some r→SlC (hcell m) (El.int .i64) x y0→SlC (hcell m) (El.int .i64) y y1→CallsQ True P g (([x,y]:List Value)++cap).toArray m (fun v h'=>v=.int .i64 r∧S ψ1 m h' []))
  (hfn:∀ a∈xs,∀ c∈xs,fn a c=some (lexC a c)) (hlen:xs.length<4611686018427387904) (hz:E.z=1) (hf:Frz E (El.sl (El.int .i64))):
  CallsH P (ρ.f 6) #[v0,.func (.func g) #[] cap.toArray] h (fun v h'=>v=.tuple #[]∧S ψ h0 h' (.it (El.ow E) [v0] (sortRows xs)::os)):=by
 intro w hw
 subst hw
 by_cases hne:xs=[]
 ·subst hne
  have a9:=st
  obtain ⟨φ,L,s,L1,L2,rfl,r,r2⟩:=st
  have hv:∃ p c,v0=.slice p 0 c:=by
   rcases El.ow_to r with ⟨rfl,_⟩|⟨b,c,pre,css,rest,Lr,rfl,_⟩
   ·exact ⟨_,_,rfl⟩
   ·exact ⟨_,_,rfl⟩
  obtain ⟨p,c,rfl⟩:=hv
  refine (AnyF.slices_SortFunc_none LF0 p c _ w).mono ?_
  rintro _ w' ⟨rfl,rfl⟩
  exact ⟨_,rfl,RestQ.refl _,rfl,by rw [show sortRows []=[] by simp [sortRows]];exact a9⟩
 ·obtain ⟨φ,L,s,L1,L2,rfl,r,r2⟩:=st
  rcases El.ow_to r with ⟨_,rfl,_⟩|⟨b,c,pre,css,rest,Lr,rfl,hc,hrest,rfl,hall⟩
  ·exact absurd rfl hne
  obtain ⟨ds,rfl⟩:=hall.singles hz
  have hdl:ds.length=xs.length:=by have:=hall.length;rwa [List.length_map] at this
  rw [ZdE] at s
  have hbh:h0.size≤b:=s.low b (by simp [Rws.bs])
  have hrow:=s.row b _ (List.mem_cons_self ..)
  obtain ⟨Ls,hLs,g2,g3,g4⟩:=hall.ix
  have hrd:∀ p∈ds.zip xs,Rd w.heap b xs p:=by
   intro p hp
   obtain ⟨i,hi⟩:=List.getElem?_of_mem hp
   rw [List.getElem?_zip_eq_some] at hi
   obtain ⟨i1,i2⟩:=hi
   refine ⟨List.mem_of_getElem? i2,fun h' hx=>?_⟩
   obtain ⟨l,hl⟩:∃ l,Ls[i]?=some l:=⟨_,List.getElem?_eq_getElem (by rw [g2];exact ZY i2)⟩
   have hR:=g4 i l [p.1] p.2 hl (by rw [List.getElem?_map,i1];rfl) i2
   have hle:CLe φ (hcell h'):=fun q u f=>Zdy hx (fun e=>s.dis q u f (by rw [e];simp [Rws.bs])) (s.fle q u f)
   have hrows:RowsC (hcell h') l:=fun b' row hm j u hu=>by
    have a3:(b',Row.cs row)∈Lr:=by rw [hLs];exact List.mem_flatten.2 ⟨l,List.mem_of_getElem? hl,hm⟩
    have hnd:=s.nod
    have o:b'≠b:=fun e=>by
     subst e
     simp only [Rws.bs,List.cons_append,List.map_cons,List.nodup_cons,List.map_append,List.mem_append] at hnd
     exact hnd.1 (.inl (List.mem_map.2 ⟨_,a3,rfl⟩))
    have:hcell w.heap ⟨b',j,none⟩=some u:=s.rows b' row (List.mem_cons_of_mem _ (List.mem_append_left _ a3)) j u hu
    exact Zdy hx o this
   have:=hf.2 (hcell h') l [p.1] p.2 (E.mono hle hR) hrows
   exact El.sl_to this
  have hzl:(ds.zip xs).length=xs.length:=by rw [List.length_zip];omega
  let d:Array {p // Rd w.heap b xs p}:=((ds.zip xs).attachWith _ hrd).toArray
  have hd:d.size=xs.length:=by simp [d,hdl]
  have hdm:d.toList.map Subtype.val=ds.zip xs:=List.attachWith_map_subtype_val hrd
  obtain ⟨x0,ai⟩:∃ x0:{p // Rd w.heap b xs p},True:=by
   have:0<xs.length:=List.length_pos_iff.2 hne
   exact ⟨d[0]'(by omega),trivial⟩
  haveI:Inhabited {p // Rd w.heap b xs p}:=⟨x0⟩
  obtain ⟨t,ht⟩:=hrow
  have hH:Holds encR w b pre.length d:=by
   intro j hj
   have hdj:d[j]! =d[j]:=getElem!_pos d j hj
   have hzj:(ds.zip xs)[j]?=some d[j].1:=by rw [←hdm,List.getElem?_map];simp [hj]
   rw [List.getElem?_zip_eq_some] at hzj
   have hlt:=ZY hzj.1
   constructor
   ·simp only [World.cell?,ht]
    rw [hdj]
    simp only [Option.isSome_none,Bool.false_eq_true,if_false,List.getElem?_toArray]
    rw [List.append_assoc,List.getElem?_append_right (by omega),show pre.length+j-pre.length=j by omega,List.getElem?_append_left hlt]
    exact hzj.1
   ·simp only [World.frozen?,ht];simp
  have hlt:b<w.heap.size:=by
   rcases Nat.lt_or_ge b w.heap.size with k|k
   ·exact k
   ·rw [Array.getElem?_eq_none k] at ht;cases ht
  have call:=Any.slices_SortFunc LF encR ZAa cfR swoR g cap.toArray b pre.length c d w eg (cmpR s.ext hbh (fun h' hx=>s.bas.trans fun q u f=>Zdy hx (fun e=>s.dis q u f (by rw [e];simp [Rws.bs])) (s.fle q u f)) k1 hfn) hH hlt (by omega)
  rw [hd] at call
  refine call.mono ?_
  rintro _ w' ⟨rfl,d',n,os',hperm,hsort,rfl⟩
  have hd':d'.size=xs.length:=by rw [hperm.1,hd]
  have hpl:d'.toList.Perm d.toList:=by
   have:=hperm.2.2
   rw [Array.toList_extract,Array.toList_extract] at this
   simp only [List.extract_eq_take_drop,List.drop_zero,Nat.sub_zero] at this
   rwa [List.take_of_length_le (by simp;omega),List.take_of_length_le (by simp;omega)] at this
  have hpz:(d'.toList.map Subtype.val).Perm (ds.zip xs):=by rw [←hdm];exact hpl.map _
  have a4:(ds.zip xs).map Prod.snd=xs:=List.map_snd_zip (by omega)
  have a5:(ds.zip xs).map Prod.fst=ds:=List.map_fst_zip (by omega)
  have a2:AllR φ E Lr ((ds.zip xs).map fun p=>[p.1]) ((ds.zip xs).map Prod.snd):=by
   rw [a4,show ((ds.zip xs).map fun p=>[p.1])=ds.map fun d=>[d] by rw [←a5,List.map_map];rw [a5];rfl]
   exact hall
  obtain ⟨L',hL',hall'⟩:=a2.perm hpz
  have hys:(d'.toList.map Subtype.val).map Prod.snd=sortRows xs:=by
   refine Zs0 ?_ fun i j hij hj=>?_
   ·have:=hpz.map Prod.snd
    rwa [a4] at this
   ·simp only [List.length_map,Array.length_toList] at hj
    have:=hsort i j (Nat.zero_le _) hij (by omega)
    rw [getElem!_pos d' i (by omega),getElem!_pos d' j (by omega)] at this
    rw [getElem!_pos _ i (by simp;omega),getElem!_pos _ j (by simp;omega)]
    simp only [List.getElem_map,Array.getElem_toList]
    exact this
  rw [hys] at hall'
  have hbut:=Zqa encR w b pre.length n d' os'
  have hblk:(sortWorld encR w b pre.length n d' os').heap[b]?=some (.cells (pre++d'.toList.map encR++rest).toArray t):=by
   show ((w.heap.modify b (onCells (putCells encR pre.length d')))++os')[b]?=_
   rw [Array.getElem?_append_left (by simpa using hlt),Array.getElem?_modify,if_pos rfl,ht]
   simp only [Option.map_some,onCells]
   rw [Zsn _ _ _ _ _ (by omega)]
  have hbs:Rws.bs ((b,Row.cs (pre++d'.toList.map encR++rest))::Lr++L2)=Rws.bs ((b,Row.cs (pre++ds++rest))::Lr++L2):=by simp [Rws.bs]
  have s2:S0 ψ h0 (sortWorld encR w b pre.length n d' os').heap φ ((b,Row.cs (pre++d'.toList.map encR++rest))::Lr++L2):=by
   refine ⟨Zm5 s.ext hbh hbut,fun b' cs hm=>?_,by rw [hbs];exact s.low,by rw [hbs];exact s.nod,fun q u f=>Zdy hbut (fun e=>s.dis q u f (by rw [e];simp [Rws.bs])) (s.fle q u f),by rw [hbs];exact s.dis,s.bas,s.old⟩
   rw [List.cons_append,List.mem_cons] at hm
   rcases hm with e|hm
   ·cases e;exact ⟨t,hblk⟩
   ·have hnd:=s.nod
    have o:b'≠b:=fun e=>by
     subst e
     simp only [Rws.bs,List.cons_append,List.map_cons,List.nodup_cons] at hnd
     exact hnd.1 (List.mem_map.2 ⟨_,hm,rfl⟩)
    have hr':=s.row b' cs (List.mem_cons_of_mem _ hm)
    exact hr'.same (hbut.2 b' hr'.lt o)
  have hlen':(sortRows xs).length=xs.length:=(Zju xs).length_eq
  refine ⟨_,rfl,⟨rfl,rfl,rfl,fun _=>Nat.le_add_right _ _⟩,rfl,φ,_,s2.perm (L':=((b,Row.cs (pre++d'.toList.map encR++rest))::L')++L2) ?_,_,L2,rfl,?_,r2⟩
  ·exact (hL'.symm.cons _).append_right _
  ·refine ⟨_,rfl,.inr ⟨b,c,pre,(d'.toList.map Subtype.val).map fun p=>[p.1],rest,L',by rw [hlen'],by rw [hlen'];exact hc,by rw [hlen'];exact hrest,?_,hall'⟩⟩
   rw [List.map_map]
   have e:((fun p:Value×List Int=>[p.1]) ∘ Subtype.val:{p // Rd w.heap b xs p}→List Value)=(fun d=>[d]) ∘ encR:=rfl
   rw [e,←List.map_map,ZdE]
end Go.Vc
