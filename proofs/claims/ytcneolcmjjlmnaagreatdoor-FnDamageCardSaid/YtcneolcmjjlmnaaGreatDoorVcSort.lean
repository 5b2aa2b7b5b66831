import Derived.Test.YtcneolcmjjlmnaaGreatDoorVcSw
import Derived.Test.YtcneolcmjjlmnaaGreatDoorPuCmp
import Derived.Shelf.SlSortCmp.NoneTotal
open List renaming append_assoc->Js,getElem?_toArray->X7,getElem?_append_left->J2,getElem?_eq_getElem->JF,getElem?_append_right->JR,getElem?_map->JP,length_map->Ju,getElem?_zip_eq_some->Wx,mem_of_getElem?->JH,cons_append->J6,map_cons->JG,nodup_cons->Ye,mem_cons_of_mem->JI,take_of_length_le->Wz,map_map->Xb,length->Jk
open Array renaming getElem?_append_left->XW,getElem?_modify->XC,ext_getElem?->Ww,getElem?_eq_none->Yd,toList_extract->YU
open Option renaming map_some->Xs
open Go renaming Value->Jl
namespace Go.Vc
set_option linter.unusedVariables false
set_option linter.unusedSimpArgs false
open Go Go.Proofs Go.Sort Go.Lib Go.Shelf Go.RowKit
theorem AllR.perm {α:Type} {φ:CM} {E:El α} {Je Z':List (Jl×α)} (hp:Z'.Perm Je):∀{L:Rws},AllR φ E L (Je.map λp=>[p.1]) (Je.map Prod.snd) ->
  ∃L',L'.Perm L/\AllR φ E L' (Z'.map λp=>[p.1]) (Z'.map Prod.snd):=by
 induction hp with
 | nil=>intro L h;exact ⟨L,List.Perm.refl _,h⟩
 | cons x _ ih=>
  rintro L ⟨u,w,rfl,a,e⟩;obtain ⟨L',f,g⟩:=ih e;exact ⟨u++L',f.append_left _,u,L',rfl,a,g⟩
 | swap x y l=>
  rintro L ⟨u,w,rfl,a,M1,M2,rfl,e,k⟩;refine ⟨M1++(u++M2),?_,M1,u++M2,rfl,e,u,M2,rfl,a,k⟩;rw [<-Js,<-Js];exact List.Perm.append_right _ List.perm_append_comm
 | trans _ _ i j=>
  intro L h;obtain ⟨u,f,g⟩:=j h;obtain ⟨w,o,r⟩:=i g;exact ⟨w,o.trans f,r⟩
def Rd (h:Heap) (b:Nat) (xs:Ja) (p:Jl×Jb):Prop:=
 p.2∈xs/\∀e,ExtBut (·=b) h e->SlC (hcell e) (El.int .i64) p.1 p.2
section
variable {h0 h:Heap} {b off:Nat} {xs:Ja}
def encR (p:{p // Rd h b xs p}):Value:=p.1.1
def cfR (p q:{p // Rd h b xs p}):Int:=lexC p.1.2 q.1.2
theorem ZGn:OneCell (encR (h:=h) (b:=b) (xs:=xs)):=λx=>(x.2.2 h (eY _ _)).one
theorem swoR:SWO (ltOf (cfR (h:=h) (b:=b) (xs:=xs))):=
 ⟨λx=>lexSwo.irrefl x.1.2,λx y z=>lexSwo.trans x.1.2 y.1.2 z.1.2,λx y z=>lexSwo.ntrans x.1.2 y.1.2 z.1.2⟩
theorem ZgJ {α:Type} [Inhabited α] (enc:α->Jl) (w:World) (blk off m:Nat) (g:Array α) (os:Array Obj):ExtBut (·=blk) w.heap (sortWorld enc w blk off m g os).heap:=by
 refine ⟨?_,λk l j=>?_⟩
 .simp [sortWorld,Sort.grow,putRow,mapBlock,Sort.ahead]
 .have a:k<(w.heap.modify blk (onCells (putCells enc off g))).size:=by simpa using l
  show ((w.heap.modify blk (onCells (putCells enc off g)))++os)[k]?=_;rw [XW a,XC,if_neg λe=>j e.symm]
theorem ZFy {h e:Heap} (a:ExtH h e):∃os:Array Obj,e=h++os:=by
 refine ⟨e.extract h.size e.size,Ww λi=>?_⟩;rcases Nat.lt_or_ge i h.size with k|k
 .rw [a.2 i k,XW k]
 .rw [Array.getElem?_append_right k,Array.getElem?_extract];have:=a.1;by_cases hi:i<e.size
  .rw [if_pos Z,show h.size+(i-h.size)=i by omega]
  .rw [if_neg Z,Yd Z]
theorem ZAC {w w':World} (k:RestQ True w w') (e:ExtH w.heap w'.heap):∃q os,w'=Sort.grow (w.drewN q) os:=by
 obtain ⟨os,j⟩:=ZFy e;obtain ⟨f,r2,g,a⟩:=k;have a:=a trivial;refine ⟨w'.drawn-w.drawn,os,?_⟩;cases w;cases w';simp only [Sort.grow,World.drewN] at *;subst f r2 g j;simp only [World.mk.injEq,true_and,and_true];omega
theorem Zjw {g:Heap} (a:ExtH h0 h) (e:h0.size<=b) (k:ExtBut (·=b) h g):ExtH h0 g:=
 ⟨Nat.le_trans a.1 k.1,λi hi=>(k.2 i (Nat.lt_of_lt_of_le hi a.1) (by show ¬i=b;omega)).trans (a.2 i hi)⟩
theorem cmpR {P:Program} {g:Nat} {a2:Jc} {fn:Jb->Jb->Jm Int} {w:World} {n:Nat} [Inhabited {p // Rd w.heap b xs p}] (r:ExtH h0 w.heap) (s:h0.size<=b) {ψ:CM} (j:∀h',ExtBut (·=b) w.heap h'->CLe ψ (hcell h'))
  (k1:∀{h1:Heap},ExtH h0 h1->CLe ψ (hcell h1)->∀{ψ1:CM},CLe ψ1 (hcell h1)->∀{k:Jb} {f:Jl} {l:Jb} {i:Jl} {o:Int},fn k l=some o->SlC (hcell h1) (El.int .i64) f k->SlC (hcell h1) (El.int .i64) i l->CallsQ True P g (([f,i]:Jc)++a2).toArray h1 (λv h'=>v=.int .i64 o/\S ψ1 h1 h' []))
  (a5:∀a∈xs,∀c∈xs,fn a c=some (lexC a c)):CmpLays1 P g a2.toArray (encR (h:=w.heap) (b:=b) (xs:=xs)) cfR b off n w:=by
 intro m os dk hs x y;have u:=ZgJ encR w b off m dk os;have:=k1 (Zjw r s u) (j _ u) (ψ1:=λ_=>none) (λ_ _ h=>by cases h) (a5 _ x.2.1 _ y.2.1) (x.2.2 _ u) (y.2.2 _ u) _ rfl;have e:(#[encR x,encR y]:Array Jl)++a2.toArray=(([x.1.1,y.1.1]:Jc)++a2).toArray:=by simp [encR]
 rw [e];refine this.mono ?_;rintro _ w' ⟨v,rfl,hr,rfl,st⟩;exact ⟨rfl,ZAC hr st.ext⟩
end
theorem ZtG {α:Type} [Inhabited α] (enc:α->Jl) (d:Array α) (pre g e:Jc) (l:d.size=Jk g):
  putCells enc (Jk pre) d (pre++g++e).toArray=(pre++d.toList.map enc++e).toArray:=by
 apply Ww;intro i;unfold putCells;rw [Array.getElem?_mapIdx];simp only [X7];by_cases h1:i<Jk pre
 .rw [Js,Js,J2 h1,J2 h1,JF h1];simp only [Xs];rw [if_neg Z]
 .have A:(pre++g++e)[i]?=(g++e)[i-Jk pre]?:=by rw [Js,JR Z]
  have B:(pre++d.toList.map enc++e)[i]?=(d.toList.map enc++e)[i-Jk pre]?:=by rw [Js,JR Z]
  rw [A,B];by_cases a:i<Jk pre+d.size
  .have j:(g++e)[i-Jk pre]?=g[i-Jk pre]?:=J2 Z;have k:(d.toList.map enc++e)[i-Jk pre]?=(d.toList.map enc)[i-Jk pre]?:=J2 (by simp;omega);rw [j,k,JF (show i-pre.length<g.length by omega),JP,JF (show i-pre.length<d.toList.length by simp;omega)];simp only [Xs];rw [if_pos Z,getElem!_pos d (i-pre.length) Z];simp
  .have j:(g++e)[i-Jk pre]?=e[i-Jk pre-Jk g]?:=JR Z;have k:(d.toList.map enc++e)[i-Jk pre]?=e[i-Jk pre-Jk g]?:=by
    rw [JR (by simp;omega)];simp [l]
   rw [j,k];generalize e[i-Jk pre-Jk g]?=o;cases o with
   | none=>rfl
   | some u=>simp only [Xs];rw [if_neg Z]
theorem ZMT {P:Program} {ρ:Ren} (LF:SlLaysF.n6 P ρ) (b6:SlLaysF0.n6 P ρ) {ψ:CM} {h0 h:Heap} {os:List Ob} {E:El Jb} {xs:Ja} {v0:Jl} {fn:Jb->Jb->Jm Int} {g:Nat} {ao:Jc}
  (st:S ψ h0 h (.it (El.ow E) [v0] xs::os)) (eg:Enters P g)
  (k1:∀{h1:Heap},ExtH h0 h1->CLe ψ (hcell h1)->∀{ψ1:CM},CLe ψ1 (hcell h1)->∀{y0:Jb} {x:Jl} {y1:Jb} {y:Jl} {r:Int},fn y0 y1=some r->SlC (hcell h1) (El.int .i64) x y0->SlC (hcell h1) (El.int .i64) y y1->CallsQ True P g (([x,y]:Jc)++ao).toArray h1 (λv h'=>v=.int .i64 r/\S ψ1 h1 h' []))
  (ba:∀a∈xs,∀c∈xs,fn a c=some (lexC a c)) (bm:Jk xs<4611686018427387904) (hz:E.z=1) (hf:Frz E (El.sl (El.int .i64))):
  CallsH P (ρ.f 6) #[v0,.func (.func g) #[] ao.toArray] h (λv h'=>v=.tuple #[]/\S ψ h0 h' (.it (El.ow E) [v0] (sortRows xs)::os)):=by
 intro w hw;subst hw;by_cases al:xs=[]
 .subst al;have aa:=st;obtain ⟨φ,L,s,L1,L2,rfl,r,r2⟩:=st;have hv:∃p c,v0=.slice p 0 c:=by
   rcases El.ow_to r with ⟨rfl,_⟩|⟨b,c,pre,css,rest,Lr,rfl,_⟩
   .exact ⟨_,_,rfl⟩
   .exact ⟨_,_,rfl⟩
  obtain ⟨p,c,rfl⟩:=hv;refine (AnyF.slices_SortFunc_none b6 p c _ w).mono ?_;rintro _ w' ⟨rfl,rfl⟩;exact ⟨_,rfl,RestQ.refl _,rfl,by rw [show sortRows []=[] by simp [sortRows]];exact aa⟩
 .obtain ⟨φ,L,s,L1,L2,rfl,r,r2⟩:=st;rcases El.ow_to r with ⟨_,rfl,_⟩|⟨b,c,pre,css,rest,Lr,rfl,hc,hrest,rfl,hall⟩
  .exact absurd rfl al
  obtain ⟨ds,rfl⟩:=hall.singles hz;have bi:Jk ds=Jk xs:=by have:=hall.length;rwa [Ju] at this
  rw [ZbS] at s;have az:h0.size<=b:=s.low b (by simp [Rws.bs]);have b4:=s.row b _ (List.mem_cons_self ..);obtain ⟨Ls,bj,g2,g3,g4⟩:=hall.ix;have b2:∀p∈ds.zip xs,Rd w.heap b xs p:=by
   intro p hp;obtain ⟨i,hi⟩:=List.getElem?_of_mem hp;rw [Wx] at hi;obtain ⟨i1,i2⟩:=hi;refine ⟨JH i2,λh' hx=>?_⟩;obtain ⟨l,hl⟩:∃l,Ls[i]?=some l:=⟨_,JF (by rw [g2];exact Zad i2)⟩
   have hR:=g4 i l [p.1] p.2 hl (by rw [JP,i1];rfl) i2;have b9:CLe φ (hcell h'):=λq u f=>Zcq hx (λe=>s.dis q u f (by rw [e];simp [Rws.bs])) (s.fle q u f);have ar:RowsC (hcell h') l:=λb' row hm j u hu=>by
    have a4:(b',Row.cs row)∈Lr:=by rw [bj];exact List.mem_flatten.2 ⟨l,JH hl,hm⟩
    have ab:=s.nod;have o:b'≠b:=λe=>by
     subst e;simp only [Rws.bs,J6,JG,Ye,List.map_append,List.mem_append] at ab;exact ab.1 (.inl (List.mem_map.2 ⟨_,a4,rfl⟩))
    have:hcell w.heap ⟨b',j,none⟩=some u:=s.rows b' row (JI _ (List.mem_append_left _ a4)) j u hu;exact Zcq hx o this
   have:=hf.2 (hcell h') l [p.1] p.2 (E.mono b9 hR) ar;exact El.sl_to this
  have c6:(ds.zip xs).length=Jk xs:=by rw [List.length_zip];omega
  let d:Array {p // Rd w.heap b xs p}:=((ds.zip xs).attachWith _ b2).toArray
  have hd:d.size=Jk xs:=by simp [d,bi]
  have b0:d.toList.map Subtype.val=ds.zip xs:=List.attachWith_map_subtype_val b2;obtain ⟨x0,ah⟩:∃x0:{p // Rd w.heap b xs p},True:=by
   have:0<Jk xs:=List.length_pos_iff.2 al;exact ⟨d[0]' Z,trivial⟩
  haveI:Inhabited {p // Rd w.heap b xs p}:=⟨x0⟩
  obtain ⟨t,ht⟩:=b4;have hH:Holds encR w b (Jk pre) d:=by
   intro j hj;have bh:d[j]! =d[j]:=getElem!_pos d j hj;have ap:(ds.zip xs)[j]?=some d[j].1:=by rw [<-b0,JP];simp [hj]
   rw [Wx] at ap;have af:=Zad ap.1;constructor
   .simp only [World.cell?,ht];rw [bh];simp only [Option.isSome_none,Bool.false_eq_true,if_false,X7];rw [Js,JR Z,show pre.length+j-pre.length=j by omega,J2 af];exact ap.1
   .simp only [World.frozen?,ht];simp
  have af:b<w.heap.size:=by
   rcases Nat.lt_or_ge b w.heap.size with k|k
   .exact k
   .rw [Yd k] at ht;cases ht
  have call:=Any.slices_SortFunc LF encR ZGn cfR swoR g ao.toArray b (Jk pre) c d w eg (cmpR s.ext az (λh' hx=>s.bas.trans λq u f=>Zcq hx (λe=>s.dis q u f (by rw [e];simp [Rws.bs])) (s.fle q u f)) k1 ba) hH af Z;rw [hd] at call;refine call.mono ?_;rintro _ w' ⟨rfl,d',n,ai,aj,av,rfl⟩;have c7:d'.size=Jk xs:=by rw [aj.1,hd]
  have bb:d'.toList.Perm d.toList:=by
   have:=aj.2.2;rw [YU,YU] at this;simp only [List.extract_eq_take_drop,List.drop_zero,Nat.sub_zero] at this;rwa [Wz (by simp;omega),Wz (by simp;omega)] at this
  have ay:(d'.toList.map Subtype.val).Perm (ds.zip xs):=by rw [<-b0];exact bb.map _
  have a5:(ds.zip xs).map Prod.snd=xs:=List.map_snd_zip Z;have a6:(ds.zip xs).map Prod.fst=ds:=List.map_fst_zip Z;have a3:AllR φ E Lr ((ds.zip xs).map λp=>[p.1]) ((ds.zip xs).map Prod.snd):=by
   rw [a5,show ((ds.zip xs).map λp=>[p.1])=ds.map λd=>[d] by rw [<-a6,Xb];rw [a6];rfl];exact hall
  obtain ⟨L',b8,ag⟩:=a3.perm ay;have bd:(d'.toList.map Subtype.val).map Prod.snd=sortRows xs:=by
   refine ZxJ ?_ λi j bc hj=>?_
   .have:=ay.map Prod.snd;rwa [a5] at this
   .simp only [Ju,Array.length_toList] at hj;have:=av i j (Nat.zero_le _) bc Z;rw [getElem!_pos d' i Z,getElem!_pos d' j Z] at this;rw [getElem!_pos _ i (by simp;omega),getElem!_pos _ j (by simp;omega)];simp only [List.getElem_map,Array.getElem_toList];exact this
  rw [bd] at ag;have ae:=ZgJ encR w b (Jk pre) n d' ai;have b5:(sortWorld encR w b (Jk pre) n d' ai).heap[b]?=some (.cells (pre++d'.toList.map encR++rest).toArray t):=by
   show ((w.heap.modify b (onCells (putCells encR (Jk pre) d')))++ai)[b]?=_;rw [XW (by simpa using af),XC,if_pos rfl,ht];simp only [Xs,onCells];rw [ZtG _ _ _ _ _ Z]
  have aq:Rws.bs ((b,Row.cs (pre++d'.toList.map encR++rest))::Lr++L2)=Rws.bs ((b,Row.cs (pre++ds++rest))::Lr++L2):=by simp [Rws.bs]
  have s2:S0 ψ h0 (sortWorld encR w b (Jk pre) n d' ai).heap φ ((b,Row.cs (pre++d'.toList.map encR++rest))::Lr++L2):=by
   refine ⟨Zjw s.ext az ae,λb' cs hm=>?_,by rw [aq];exact s.low,by rw [aq];exact s.nod,λq u f=>Zcq ae (λe=>s.dis q u f (by rw [e];simp [Rws.bs])) (s.fle q u f),by rw [aq];exact s.dis,s.bas,s.old⟩;rw [J6,List.mem_cons] at hm;rcases hm with e|hm
   .cases e;exact ⟨t,b5⟩
   .have ab:=s.nod;have o:b'≠b:=λe=>by
     subst e;simp only [Rws.bs,J6,JG,Ye] at ab;exact ab.1 (List.mem_map.2 ⟨_,hm,rfl⟩)
    have b1:=s.row b' cs (JI _ hm);exact b1.same (ae.2 b' b1.lt o)
  have a8:(sortRows xs).length=Jk xs:=(ZhA xs).length_eq;refine ⟨_,rfl,⟨rfl,rfl,rfl,λ_=>Nat.le_add_right _ _⟩,rfl,φ,_,s2.perm (L':=((b,Row.cs (pre++d'.toList.map encR++rest))::L')++L2) ?_,_,L2,rfl,?_,r2⟩
  .exact (b8.symm.cons _).append_right _
  .refine ⟨_,rfl,.inr ⟨b,c,pre,(d'.toList.map Subtype.val).map λp=>[p.1],rest,L',by rw [a8],by rw [a8];exact hc,by rw [a8];exact hrest,?_,ag⟩⟩;rw [Xb];have e:((λp:Jl×Jb=>[p.1]) ∘ Subtype.val:{p // Rd w.heap b xs p}->Jc)=(λd=>[d]) ∘ encR:=rfl;rw [e,<-Xb,ZbS]
end Go.Vc
