import Derived.Test.YtahnjnfpjcfklaaGreatDoorVcSw
import Derived.Test.YtahnjnfpjcfklaaGreatDoorPuCmp
import Derived.Shelf.SlSortCmp.NoneTotal
namespace Go.Vc
set_option linter.unusedVariables false
set_option linter.unusedSimpArgs false
open Go Go.Proofs Go.Sort Go.Lib Go.Shelf Go.RowKit
theorem AllR.perm {α:Type} {φ:CM} {E:El α} {Z Z':List (Value×α)} (hp:Z'.Perm Z):∀ {L:Rws},AllR φ E L (Z.map fun p=>[p.1]) (Z.map Prod.snd) ->
  ∃ L',L'.Perm L/\AllR φ E L' (Z'.map fun p=>[p.1]) (Z'.map Prod.snd):=by
 induction hp with
 | nil=>intro L h;exact ⟨L,List.Perm.refl _,h⟩
 | cons x _ ih=>
  rintro L ⟨u,L2,rfl,a,e⟩;obtain ⟨L',f,g⟩:=ih e;exact ⟨u++L',f.append_left _,u,L',rfl,a,g⟩
 | swap x y l=>
  rintro L ⟨u,L2,rfl,a,M1,w,rfl,e,k⟩;refine ⟨M1++(u++w),?_,M1,u++w,rfl,e,u,w,rfl,a,k⟩;rw [<-List.append_assoc,<-List.append_assoc];exact List.Perm.append_right _ List.perm_append_comm
 | trans _ _ i j=>
  intro L h;obtain ⟨u,f,g⟩:=j h;obtain ⟨L2,o,r⟩:=i g;exact ⟨L2,o.trans f,r⟩
def Rd (h:Heap) (b:Nat) (xs:List (List Int)) (p:Value×List Int):Prop:=
 p.2∈xs/\∀ a,ExtBut (·=b) h a->SlC (hcell a) (El.int .i64) p.1 p.2
section
variable {h0 h:Heap} {b off:Nat} {xs:List (List Int)}
def encR (p:{p // Rd h b xs p}):Value:=p.1.1
def cfR (p q:{p // Rd h b xs p}):Int:=lexC p.1.2 q.1.2
theorem Zzz:OneCell (encR (h:=h) (b:=b) (xs:=xs)):=fun x=>(x.2.2 h (eY _ _)).one
theorem swoR:SWO (ltOf (cfR (h:=h) (b:=b) (xs:=xs))):=
 ⟨fun x=>lexSwo.irrefl x.1.2,fun x y z=>lexSwo.trans x.1.2 y.1.2 z.1.2,fun x y z=>lexSwo.ntrans x.1.2 y.1.2 z.1.2⟩
theorem ZgW {α:Type} [Inhabited α] (enc:α->Value) (w:World) (blk off m:Nat) (g:Array α) (os:Array Obj):ExtBut (·=blk) w.heap (sortWorld enc w blk off m g os).heap:=by
 refine ⟨?_,fun k l j=>?_⟩
 ·simp [sortWorld,Sort.grow,putRow,mapBlock,Sort.ahead]
 ·have a:k<(w.heap.modify blk (onCells (putCells enc off g))).size:=by simpa using l
  show ((w.heap.modify blk (onCells (putCells enc off g)))++os)[k]?=_;rw [Array.getElem?_append_left a,Array.getElem?_modify,if_neg fun e=>j e.symm]
theorem ZxA {h e:Heap} (a:ExtH h e):∃ os:Array Obj,e=h++os:=by
 refine ⟨e.extract h.size e.size,Array.ext_getElem? fun i=>?_⟩;rcases Nat.lt_or_ge i h.size with k|k
 ·rw [a.2 i k,Array.getElem?_append_left k]
 ·rw [Array.getElem?_append_right k,Array.getElem?_extract];have:=a.1;by_cases hi:i<e.size
  ·rw [if_pos ω,show h.size+(i-h.size)=i by omega]
  ·rw [if_neg ω,Array.getElem?_eq_none ω]
theorem Zs6 {w w':World} (j:RestQ True w w') (e:ExtH w.heap w'.heap):∃ q os,w'=Sort.grow (w.drewN q) os:=by
 obtain ⟨os,k⟩:=ZxA e;obtain ⟨f,g,i,a⟩:=j;have a:=a trivial;refine ⟨w'.drawn-w.drawn,os,?_⟩;cases w;cases w';simp only [Sort.grow,World.drewN] at *;subst f g i k;simp only [World.mk.injEq,true_and,and_true];omega
theorem Zg8 {g:Heap} (a:ExtH h0 h) (e:h0.size<=b) (k:ExtBut (·=b) h g):ExtH h0 g:=
 ⟨Nat.le_trans a.1 k.1,fun i hi=>(k.2 i (Nat.lt_of_lt_of_le hi a.1) (by show ¬ i=b;omega)).trans (a.2 i hi)⟩
theorem cmpR {P:Program} {g:Nat} {a2:List Value} {fn:List Int->List Int->Option Int} {w:World} {n:Nat} [Inhabited {p // Rd w.heap b xs p}] (r:ExtH h0 w.heap) (s:h0.size<=b) {ψ:CM} (j:∀ h',ExtBut (·=b) w.heap h'->CLe ψ (hcell h'))
  (k1:∀ {h1:Heap},ExtH h0 h1->CLe ψ (hcell h1)->∀ {ψ1:CM},CLe ψ1 (hcell h1)->∀ {k:List Int} {f:Value} {l:List Int} {i:Value} {o:Int},fn k l=some o->SlC (hcell h1) (El.int .i64) f k->SlC (hcell h1) (El.int .i64) i l->CallsQ True P g (([f,i]:List Value)++a2).toArray h1 (fun v h'=>v=.int .i64 o/\S ψ1 h1 h' []))
  (a5:∀ a∈xs,∀ c∈xs,fn a c=some (lexC a c)):CmpLays1 P g a2.toArray (encR (h:=w.heap) (b:=b) (xs:=xs)) cfR b off n w:=by
 intro m os dk hs x y;have u:=ZgW encR w b off m dk os;have:=k1 (Zg8 r s u) (j _ u) (ψ1:=fun _=>none) (fun _ _ h=>by cases h) (a5 _ x.2.1 _ y.2.1) (x.2.2 _ u) (y.2.2 _ u) _ rfl;have e:(#[encR x,encR y]:Array Value)++a2.toArray=(([x.1.1,y.1.1]:List Value)++a2).toArray:=by simp [encR]
 rw [e];refine this.mono ?_;rintro _ w' ⟨v,rfl,hr,rfl,st⟩;exact ⟨rfl,Zs6 hr st.ext⟩
end
theorem ZpR {α:Type} [Inhabited α] (enc:α->Value) (d:Array α) (pre g e:List Value) (l:d.size=g.length):
  putCells enc pre.length d (pre++g++e).toArray=(pre++d.toList.map enc++e).toArray:=by
 apply Array.ext_getElem?;intro i;unfold putCells;rw [Array.getElem?_mapIdx];simp only [List.getElem?_toArray];by_cases h1:i<pre.length
 ·rw [List.append_assoc,List.append_assoc,List.getElem?_append_left h1,List.getElem?_append_left h1,List.getElem?_eq_getElem h1];simp only [Option.map_some];rw [if_neg ω]
 ·have A:(pre++g++e)[i]?=(g++e)[i-pre.length]?:=by rw [List.append_assoc,List.getElem?_append_right ω]
  have B:(pre++d.toList.map enc++e)[i]?=(d.toList.map enc++e)[i-pre.length]?:=by rw [List.append_assoc,List.getElem?_append_right ω]
  rw [A,B];by_cases a:i<pre.length+d.size
  ·have k:(g++e)[i-pre.length]?=g[i-pre.length]?:=List.getElem?_append_left ω;have j:(d.toList.map enc++e)[i-pre.length]?=(d.toList.map enc)[i-pre.length]?:=List.getElem?_append_left (by simp;omega);rw [k,j,List.getElem?_eq_getElem (show i-pre.length<g.length by omega),List.getElem?_map,List.getElem?_eq_getElem (show i-pre.length<d.toList.length by simp;omega)];simp only [Option.map_some];rw [if_pos ω,getElem!_pos d (i-pre.length) ω];simp
  ·have k:(g++e)[i-pre.length]?=e[i-pre.length-g.length]?:=List.getElem?_append_right ω;have j:(d.toList.map enc++e)[i-pre.length]?=e[i-pre.length-g.length]?:=by
    rw [List.getElem?_append_right (by simp;omega)];simp [l]
   rw [k,j];generalize e[i-pre.length-g.length]?=o;cases o with
   | none=>rfl
   | some u=>simp only [Option.map_some];rw [if_neg ω]
theorem ZDX {P:Program} {ρ:Ren} (LF:SlLaysF.n6 P ρ) (b8:SlLaysF0.n6 P ρ) {ψ:CM} {h0 h:Heap} {os:List Ob} {E:El (List Int)} {xs:List (List Int)} {v0:Value} {fn:(List Int)->(List Int)->Option Int} {g:Nat} {am:List Value}
  (st:S ψ h0 h (.it (El.ow E) [v0] xs::os)) (eg:Enters P g)
  (k1:∀ {h1:Heap},ExtH h0 h1->CLe ψ (hcell h1)->∀ {ψ1:CM},CLe ψ1 (hcell h1)->∀ {y0:List Int} {x:Value} {y1:List Int} {y:Value} {r:Int},fn y0 y1=some r->SlC (hcell h1) (El.int .i64) x y0->SlC (hcell h1) (El.int .i64) y y1->CallsQ True P g (([x,y]:List Value)++am).toArray h1 (fun v h'=>v=.int .i64 r/\S ψ1 h1 h' []))
  (bc:∀ a∈xs,∀ c∈xs,fn a c=some (lexC a c)) (c5:xs.length<4611686018427387904) (hz:E.z=1) (hf:Frz E (El.sl (El.int .i64))):
  CallsH P (ρ.f 6) #[v0,.func (.func g) #[] am.toArray] h (fun v h'=>v=.tuple #[]/\S ψ h0 h' (.it (El.ow E) [v0] (sortRows xs)::os)):=by
 intro w hw;subst hw;by_cases al:xs=[]
 ·subst al;have aa:=st;obtain ⟨φ,L,s,L1,L2,rfl,r,r2⟩:=st;have hv:∃ p c,v0=.slice p 0 c:=by
   rcases El.ow_to r with ⟨rfl,_⟩|⟨b,c,pre,css,rest,Lr,rfl,_⟩
   ·exact ⟨_,_,rfl⟩
   ·exact ⟨_,_,rfl⟩
  obtain ⟨p,c,rfl⟩:=hv;refine (AnyF.slices_SortFunc_none b8 p c _ w).mono ?_;rintro _ w' ⟨rfl,rfl⟩;exact ⟨_,rfl,RestQ.refl _,rfl,by rw [show sortRows []=[] by simp [sortRows]];exact aa⟩
 ·obtain ⟨φ,L,s,L1,L2,rfl,r,r2⟩:=st;rcases El.ow_to r with ⟨_,rfl,_⟩|⟨b,c,pre,css,rest,Lr,rfl,hc,hrest,rfl,hall⟩
  ·exact absurd rfl al
  obtain ⟨ds,rfl⟩:=hall.singles hz;have bi:ds.length=xs.length:=by have:=hall.length;rwa [List.length_map] at this
  rw [ZbI] at s;have b1:h0.size<=b:=s.low b (by simp [Rws.bs]);have b3:=s.row b _ (List.mem_cons_self ..);obtain ⟨Ls,bd,g2,g3,g4⟩:=hall.ix;have b0:∀ p∈ds.zip xs,Rd w.heap b xs p:=by
   intro p hp;obtain ⟨i,hi⟩:=List.getElem?_of_mem hp;rw [List.getElem?_zip_eq_some] at hi;obtain ⟨i1,i2⟩:=hi;refine ⟨List.mem_of_getElem? i2,fun h' hx=>?_⟩;obtain ⟨l,hl⟩:∃ l,Ls[i]?=some l:=⟨_,List.getElem?_eq_getElem (by rw [g2];exact Z0 i2)⟩
   have hR:=g4 i l [p.1] p.2 hl (by rw [List.getElem?_map,i1];rfl) i2;have bo:CLe φ (hcell h'):=fun q u f=>Zb2 hx (fun e=>s.dis q u f (by rw [e];simp [Rws.bs])) (s.fle q u f);have ax:RowsC (hcell h') l:=fun b' row hm j u hu=>by
    have a4:(b',Row.cs row)∈Lr:=by rw [bd];exact List.mem_flatten.2 ⟨l,List.mem_of_getElem? hl,hm⟩
    have ab:=s.nod;have o:b'≠b:=fun e=>by
     subst e;simp only [Rws.bs,List.cons_append,List.map_cons,List.nodup_cons,List.map_append,List.mem_append] at ab;exact ab.1 (.inl (List.mem_map.2 ⟨_,a4,rfl⟩))
    have:hcell w.heap ⟨b',j,none⟩=some u:=s.rows b' row (List.mem_cons_of_mem _ (List.mem_append_left _ a4)) j u hu;exact Zb2 hx o this
   have:=hf.2 (hcell h') l [p.1] p.2 (E.mono bo hR) ax;exact El.sl_to this
  have ca:(ds.zip xs).length=xs.length:=by rw [List.length_zip];omega
  let d:Array {p // Rd w.heap b xs p}:=((ds.zip xs).attachWith _ b0).toArray
  have hd:d.size=xs.length:=by simp [d,bi]
  have az:d.toList.map Subtype.val=ds.zip xs:=List.attachWith_map_subtype_val b0;obtain ⟨x0,ak⟩:∃ x0:{p // Rd w.heap b xs p},True:=by
   have:0<xs.length:=List.length_pos_iff.2 al;exact ⟨d[0]' ω,trivial⟩
  haveI:Inhabited {p // Rd w.heap b xs p}:=⟨x0⟩
  obtain ⟨t,ht⟩:=b3;have hH:Holds encR w b pre.length d:=by
   intro j hj;have bj:d[j]! =d[j]:=getElem!_pos d j hj;have ap:(ds.zip xs)[j]?=some d[j].1:=by rw [<-az,List.getElem?_map];simp [hj]
   rw [List.getElem?_zip_eq_some] at ap;have ag:=Z0 ap.1;constructor
   ·simp only [World.cell?,ht];rw [bj];simp only [Option.isSome_none,Bool.false_eq_true,if_false,List.getElem?_toArray];rw [List.append_assoc,List.getElem?_append_right ω,show pre.length+j-pre.length=j by omega,List.getElem?_append_left ag];exact ap.1
   ·simp only [World.frozen?,ht];simp
  have ag:b<w.heap.size:=by
   rcases Nat.lt_or_ge b w.heap.size with k|k
   ·exact k
   ·rw [Array.getElem?_eq_none k] at ht;cases ht
  have call:=Any.slices_SortFunc LF encR Zzz cfR swoR g am.toArray b pre.length c d w eg (cmpR s.ext b1 (fun h' hx=>s.bas.trans fun q u f=>Zb2 hx (fun e=>s.dis q u f (by rw [e];simp [Rws.bs])) (s.fle q u f)) k1 bc) hH ag ω;rw [hd] at call;refine call.mono ?_;rintro _ w' ⟨rfl,d',n,ai,af,aw,rfl⟩;have cb:d'.size=xs.length:=by rw [af.1,hd]
  have bn:d'.toList.Perm d.toList:=by
   have:=af.2.2;rw [Array.toList_extract,Array.toList_extract] at this;simp only [List.extract_eq_take_drop,List.drop_zero,Nat.sub_zero] at this;rwa [List.take_of_length_le (by simp;omega),List.take_of_length_le (by simp;omega)] at this
  have ay:(d'.toList.map Subtype.val).Perm (ds.zip xs):=by rw [<-az];exact bn.map _
  have a5:(ds.zip xs).map Prod.snd=xs:=List.map_snd_zip ω;have a6:(ds.zip xs).map Prod.fst=ds:=List.map_fst_zip ω;have a3:AllR φ E Lr ((ds.zip xs).map fun p=>[p.1]) ((ds.zip xs).map Prod.snd):=by
   rw [a5,show ((ds.zip xs).map fun p=>[p.1])=ds.map fun d=>[d] by rw [<-a6,List.map_map];rw [a6];rfl];exact hall
  obtain ⟨L',bf,ah⟩:=a3.perm ay;have be:(d'.toList.map Subtype.val).map Prod.snd=sortRows xs:=by
   refine ZrN ?_ fun i j b9 hj=>?_
   ·have:=ay.map Prod.snd;rwa [a5] at this
   ·simp only [List.length_map,Array.length_toList] at hj;have:=aw i j (Nat.zero_le _) b9 ω;rw [getElem!_pos d' i ω,getElem!_pos d' j ω] at this;rw [getElem!_pos _ i (by simp;omega),getElem!_pos _ j (by simp;omega)];simp only [List.getElem_map,Array.getElem_toList];exact this
  rw [be] at ah;have ae:=ZgW encR w b pre.length n d' ai;have b5:(sortWorld encR w b pre.length n d' ai).heap[b]?=some (.cells (pre++d'.toList.map encR++rest).toArray t):=by
   show ((w.heap.modify b (onCells (putCells encR pre.length d')))++ai)[b]?=_;rw [Array.getElem?_append_left (by simpa using ag),Array.getElem?_modify,if_pos rfl,ht];simp only [Option.map_some,onCells];rw [ZpR _ _ _ _ _ ω]
  have ao:Rws.bs ((b,Row.cs (pre++d'.toList.map encR++rest))::Lr++L2)=Rws.bs ((b,Row.cs (pre++ds++rest))::Lr++L2):=by simp [Rws.bs]
  have s2:S0 ψ h0 (sortWorld encR w b pre.length n d' ai).heap φ ((b,Row.cs (pre++d'.toList.map encR++rest))::Lr++L2):=by
   refine ⟨Zg8 s.ext b1 ae,fun b' cs hm=>?_,by rw [ao];exact s.low,by rw [ao];exact s.nod,fun q u f=>Zb2 ae (fun e=>s.dis q u f (by rw [e];simp [Rws.bs])) (s.fle q u f),by rw [ao];exact s.dis,s.bas,s.old⟩;rw [List.cons_append,List.mem_cons] at hm;rcases hm with e|hm
   ·cases e;exact ⟨t,b5⟩
   ·have ab:=s.nod;have o:b'≠b:=fun e=>by
     subst e;simp only [Rws.bs,List.cons_append,List.map_cons,List.nodup_cons] at ab;exact ab.1 (List.mem_map.2 ⟨_,hm,rfl⟩)
    have b2:=s.row b' cs (List.mem_cons_of_mem _ hm);exact b2.same (ae.2 b' b2.lt o)
  have a8:(sortRows xs).length=xs.length:=(ZeA xs).length_eq;refine ⟨_,rfl,⟨rfl,rfl,rfl,fun _=>Nat.le_add_right _ _⟩,rfl,φ,_,s2.perm (L':=((b,Row.cs (pre++d'.toList.map encR++rest))::L')++L2) ?_,_,L2,rfl,?_,r2⟩
  ·exact (bf.symm.cons _).append_right _
  ·refine ⟨_,rfl,.inr ⟨b,c,pre,(d'.toList.map Subtype.val).map fun p=>[p.1],rest,L',by rw [a8],by rw [a8];exact hc,by rw [a8];exact hrest,?_,ah⟩⟩;rw [List.map_map];have e:((fun p:Value×List Int=>[p.1]) ∘ Subtype.val:{p // Rd w.heap b xs p}->List Value)=(fun d=>[d]) ∘ encR:=rfl;rw [e,<-List.map_map,ZbI]
end Go.Vc
