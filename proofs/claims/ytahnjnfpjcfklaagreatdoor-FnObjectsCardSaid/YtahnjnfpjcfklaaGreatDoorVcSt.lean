import Derived.Test.YtahnjnfpjcfklaaGreatDoorVcOwn
namespace Go.Vc
set_option linter.unusedVariables false
set_option linter.unusedSimpArgs false
open Go
def RowIs (h:Heap) (b:Nat) (cs:List Value):Prop:=∃ t,h[b]?=some (.cells cs.toArray t)
inductive Row
 | cs (l:List Value)
 | mp (m:List (Value×Value))
abbrev Rws:=List (Nat×Row)
abbrev Rws.bs (L:Rws):List Nat:=L.map Prod.fst
theorem RowIs.lt {h:Heap} {b:Nat} {cs:List Value} (a:RowIs h b cs):b<h.size:=by
 obtain ⟨t,h1⟩:=a;rcases Nat.lt_or_ge b h.size with h'|h'
 ·exact h'
 ·rw [Array.getElem?_eq_none h'] at h1;cases h1
theorem RowIs.same {h a:Heap} {b:Nat} {cs:List Value} (e:RowIs h b cs) (g:a[b]?=h[b]?):RowIs a b cs:=by
 obtain ⟨t,h1⟩:=e;exact ⟨t,by rw [g];exact h1⟩
theorem RowIs.ext {h g:Heap} {b:Nat} {cs:List Value} (e:RowIs h b cs) (a:ExtH h g):RowIs g b cs:=e.same (a.2 b e.lt)
theorem RowIs.cell {h:Heap} {b:Nat} {cs:List Value} (a:RowIs h b cs) {j:Nat} {u:Value} (e:cs[j]?=some u):hcell h ⟨b,j,none⟩=some u:=by
 obtain ⟨t,h1⟩:=a;unfold hcell;rw [h1];simpa using e
theorem RowIs.wr {h:Heap} {b:Nat} {cs:List Value} (a:RowIs h b cs) {j:Nat} (g:j<cs.length):Wr h ⟨b,j,none⟩:=by
 obtain ⟨u,e⟩:=Za2 g;refine ⟨⟨u,a.cell e⟩,?_⟩;obtain ⟨t,h1⟩:=a;unfold hfroz;rw [h1];simp
theorem RowIs.set {h:Heap} {b:Nat} {cs:List Value} (a:RowIs h b cs) (j:Nat) (v:Value):RowIs (hset h ⟨b,j,none⟩ v) b (cs.set j v):=by
 obtain ⟨t,h1⟩:=a;refine ⟨t,?_⟩;unfold hset;rw [Array.getElem?_modify,if_pos rfl,h1];simp
def RowX (h:Heap) (b:Nat):Row->Prop
 | .cs cs=>RowIs h b cs
 | .mp m=>hmap h b=some m
theorem Zy9 {h:Heap} {b:Nat} {m:List (Value×Value)} (a:hmap h b=some m):b<h.size:=by
 obtain ⟨es,e,h1,_⟩:=ZoE a;exact (Array.getElem?_eq_some_iff.1 h1).1
theorem RowX.lt {h:Heap} {b:Nat}:∀ {r:Row},RowX h b r->b<h.size
 | .cs _,hr=>RowIs.lt hr
 | .mp _,hr=>Zy9 hr
theorem RowX.same {h a:Heap} {b:Nat}:∀ {r:Row},RowX h b r->a[b]?=h[b]?->RowX a b r
 | .cs _,hr,he=>RowIs.same hr he
 | .mp _,hr,he=>by show hmap a b=_;unfold hmap;rw [he];exact hr
theorem RowX.ext {h g:Heap} {b:Nat} {r:Row} (e:RowX h b r) (a:ExtH h g):RowX g b r:=e.same (a.2 b e.lt)
theorem RowIs.push (h:Heap) (cs:List Value) (t:TypeId):RowIs (h.push (.cells cs.toArray t)) h.size cs:=⟨t,by simp⟩
structure Sta (h0 h:Heap) (L:Rws) (D:Heap->Prop):Prop where
 ext:ExtH h0 h
 row:∀ b r,(b,r)∈L->RowX h b r
 low:∀ b,b∈L.bs->h0.size<=b
 nod:L.bs.Nodup
 dat:∀ h',ExtBut (·∈L.bs) h h'->D h'
theorem Sta.now {a h:Heap} {L:Rws} {D:Heap->Prop} (st:Sta a h L D):D h:=st.dat h (eY _ _)
theorem Sta.start {h:Heap} {D:Heap->Prop} (j:∀ g,ExtH h g->D g):Sta h h [] D:=
 ⟨eX h,by simp,by simp [Rws.bs],by simp [Rws.bs],fun g a=>j g ⟨a.1,fun b e=>a.2 b e (by simp [Rws.bs])⟩⟩
theorem Sta.lt {a h:Heap} {L:Rws} {D:Heap->Prop} (st:Sta a h L D) {b:Nat} (e:b∈L.bs):b<h.size:=by
 obtain ⟨⟨g,cs⟩,h1,rfl⟩:=List.mem_map.1 e;exact (st.row _ _ h1).lt
theorem Sta.new {e h:Heap} {L:Rws} {D:Heap->Prop} (st:Sta e h L D) (cs:List Value) (t:TypeId):Sta e (h.push (.cells cs.toArray t)) ((h.size,.cs cs)::L) D:=by
 refine ⟨st.ext.trans (ExtH.push h _),fun b c j=>?_,fun b a=>?_,?_,fun k f=>st.dat k ⟨Nat.le_trans (ExtH.push h _).1 f.1,fun b a g=>?_⟩⟩
 ·rcases List.mem_cons.1 j with h1|h1
  ·cases h1;exact RowIs.push h cs t
  ·exact (st.row b c h1).ext (ExtH.push h _)
 ·rcases List.mem_cons.1 a with h1|h1
  ·rw [h1];exact st.ext.1
  ·exact st.low b h1
 ·refine List.nodup_cons.2 ⟨fun j=>?_,st.nod⟩;have:=st.lt j;exact absurd this (Nat.lt_irrefl _)
 ·rw [f.2 b (Nat.lt_of_lt_of_le a (ExtH.push h _).1) (fun j=>?_),(ExtH.push h _).2 b a];rcases List.mem_cons.1 j with h1|h1
  ·rw [h1] at a;exact absurd a (Nat.lt_irrefl _)
  ·exact g h1
theorem ZhT {L:Rws} {i b:Nat} {cs e:Row} (a:L[i]?=some (b,cs)):Rws.bs (L.set i (b,e))=L.bs:=by
 unfold Rws.bs;rw [List.map_set];apply List.ext_getElem?;intro j;rw [List.getElem?_set];split
 ·rename_i g;subst g;have:=Z0 a;rw [if_pos (by simpa using this),List.getElem?_map,a];rfl
 ·rfl
theorem Sta.set {f h:Heap} {L:Rws} {D:Heap->Prop} (st:Sta f h L D) {i b:Nat} {cs:List Value} (r:L[i]?=some (b,.cs cs)) (j:Nat) (v:Value):
  Sta f (hset h ⟨b,j,none⟩ v) (L.set i (b,.cs (cs.set j v))) D:=by
 have w:(b,Row.cs cs)∈L:=List.mem_of_getElem? r;have a4:b∈L.bs:=List.mem_map.2 ⟨_,w,rfl⟩;have a:ExtBut (·=b) h (hset h ⟨b,j,none⟩ v):=ExtBut.hset h _ v;refine ⟨a.ext st.ext fun x a=>by rw [a];exact st.low b a4,fun o c hm=>?_,fun o g=>?_,?_,fun h' hy=>st.dat h' ?_⟩
 ·obtain ⟨k,u⟩:=List.getElem?_of_mem hm;rw [List.getElem?_set] at u;by_cases a2:i=k
  ·subst a2;rw [if_pos rfl,if_pos (Z0 r)] at u;cases u;exact RowIs.set (st.row b _ w) j v
  ·rw [if_neg a2] at u;have a3:=List.mem_of_getElem? u;refine (st.row o c a3).same (a.2 o (st.row o c a3).lt fun e=>?_);subst e;have h1:L.bs[i]?=some o:=by rw [List.getElem?_map,r];rfl
   have l:L.bs[k]?=some o:=by rw [List.getElem?_map,u];rfl
   exact a2 ((List.getElem?_inj (Z0 h1) st.nod).1 (h1.trans l.symm))
 ·rw [ZhT r] at g;exact st.low o g
 ·rw [ZhT r];exact st.nod
 ·rw [ZhT r] at hy;exact (a.mono fun x a=>by rw [a];exact a4).trans hy
theorem Sta.imp {a h:Heap} {L:Rws} {D j:Heap->Prop} (st:Sta a h L D) (k:∀ g,D g->j g):Sta a h L j:=⟨st.ext,st.row,st.low,st.nod,fun g e=>k g (st.dat g e)⟩
theorem Sta.call {e h h1:Heap} {L:Rws} {D:Heap->Prop} (st:Sta e h L D) (a:ExtH h h1):Sta e h1 L D:=
 ⟨st.ext.trans a,fun b cs j=>(st.row b cs j).ext a,st.low,st.nod,fun k g=>st.dat k ((eZ a).trans g)⟩
def Fp (F:Nat->Prop) (h:Heap) (A:Heap->Prop):Prop:=∀ a:Heap,(∀ b,F b->b<h.size->a[b]?=h[b]?)->h.size<=a.size->A a
theorem Fp.now {F:Nat->Prop} {h:Heap} {A:Heap->Prop} (a:Fp F h A):A h:=a h (fun _ _ _=>rfl) (Nat.le_refl _)
theorem Fp.next {F:Nat->Prop} {h j:Heap} {A:Heap->Prop} (l:Fp F h A) (o:∀ b,F b->b<h.size->j[b]?=h[b]?) (hs:h.size<=j.size):Fp F j A:=
 fun e f g=>l e (fun b a k=>(f b a (Nat.lt_of_lt_of_le k hs)).trans (o b a k)) (Nat.le_trans hs g)
theorem Fp.ext {F:Nat->Prop} {h e:Heap} {A:Heap->Prop} (j:Fp F h A) (a:ExtH h e):Fp F e A:=j.next (fun b _ g=>a.2 b g) a.1
theorem Fp.but {F B:Nat->Prop} {h g:Heap} {A:Heap->Prop} (k:Fp F h A) (a:ExtBut B h g) (e:∀ b,F b->¬ B b):Fp F g A:=k.next (fun b f j=>a.2 b j (e b f)) a.1
theorem Fp.imp {F:Nat->Prop} {h:Heap} {A e:Heap->Prop} (g:Fp F h A) (k:∀ a,A a->e a):Fp F h e:=fun a j hs=>k a (g a j hs)
theorem Fp.and {F:Nat->Prop} {h:Heap} {A a:Heap->Prop} (k:Fp F h A) (e:Fp F h a):Fp F h fun x=>A x/\a x:=fun j g hs=>⟨k j g hs,e j g hs⟩
theorem Sta.freeze {a h:Heap} {b:Nat} {cs:Row} {L:Rws} {D:Heap->Prop} (st:Sta a h ((b,cs)::L) D):Sta a h L fun x=>D x/\RowX x b cs:=by
 have e:=st.row b cs (List.mem_cons_self ..);refine ⟨st.ext,fun g c j=>st.row g c (List.mem_cons_of_mem _ j),fun g j=>st.low g (List.mem_cons_of_mem _ j),(List.nodup_cons.1 st.nod).2,fun l k=>⟨st.dat l (k.mono fun x f=>List.mem_cons_of_mem _ f),e.same (k.2 b e.lt (List.nodup_cons.1 st.nod).1)⟩⟩
theorem Sta.drop {a h:Heap} {r:Nat×Row} {L:Rws} {D:Heap->Prop} (st:Sta a h (r::L) D):Sta a h L D:=by
 obtain ⟨b,cs⟩:=r;exact st.freeze.imp fun _ h=>h.1
theorem Zrw {e h:Heap} {L:Rws} {D:Heap->Prop} (st:Sta e h L D) (i:Nat) {a:Addr} {b j:Nat} {cs:List Value} {v:Value} {K:Heap->Prop} (o:a=⟨b,j,none⟩) (g:L[i]?=some (b,.cs cs)) (l:(cs[j]?).isSome=true)
  (h1:v.oneCell'=true) (r:∀ k,Sta e k (L.set i (b,.cs (cs.set j v))) D->K k):vStore1 h a v K:=by
 subst o;refine ZDn (RowIs.wr (st.row b _ (List.mem_of_getElem? g)) ?_) h1 (r _ (st.set g j v));obtain ⟨u,w⟩:=Option.isSome_iff_exists.1 l;exact Z0 w
theorem Zel (p:Addr) (i j:Nat):(p.add i).add j=p.add (i+j):=by
 unfold Addr.add;by_cases hi:i=0
 ·subst hi;simp
 ·by_cases a:j=0
  ·subst a;simp [hi]
  ·rw [if_neg hi,if_neg a,if_neg ω];simp [Nat.add_assoc]
def eSlB {α:Type} (z:Nat) (E:Elem α):Elem (List α):=fun h cs xs=>∃ v,cs=[v]/\SlAt z E h v xs/\xs.length<=9223372036854775807
def SlB {α:Type} (z:Nat) (E:Elem α) (h:Heap) (v:Value) (xs:List α):Prop:=SlAt z E h v xs/\xs.length<=9223372036854775807
theorem SlB.ext {α:Type} {z:Nat} {E:Elem α} (g:Mono E) {h e:Heap} {v:Value} {xs:List α} (a:ExtH h e) (hs:SlB z E h v xs):SlB z E e v xs:=⟨hs.1.ext g a,hs.2⟩
theorem SlB.one {α:Type} {z:Nat} {E:Elem α} {h:Heap} {v:Value} {xs:List α} (hs:SlB z E h v xs):v.oneCell'=true:=hs.1.one
theorem ZCZ {pre c a:List Value} {j:Nat} {v:Value} (e:j<c.length):(pre++c++a).set (pre.length+j) v=pre++c.set j v++a:=by
 rw [List.append_assoc,List.append_assoc,List.set_append,if_neg ω,List.set_append,if_pos ω];simp
theorem Zv2 {e h:Heap} {L:Rws} {D:Heap->Prop} {b:Nat} {pre c g:List Value} (st:Sta e h ((b,.cs (pre++c++g))::L) D) (j:Nat) {m:Nat} {a:Addr} {v:Value} {K:Heap->Prop} (w:pre.length=m) (x:a=⟨b,m+j,none⟩) (o:(c[j]?).isSome=true)
  (h1:v.oneCell'=true) (hk:∀ k,Sta e k ((b,.cs (pre++c.set j v++g))::L) D->K k):vStore1 h a v K:=by
 subst w;obtain ⟨u,hu⟩:=Option.isSome_iff_exists.1 o;have r:=Z0 hu;refine Zrw st 0 x rfl ?_ h1 fun k l=>hk k ?_
 ·rw [List.append_assoc,List.getElem?_append_right ω,List.getElem?_append_left ω];simpa using o
 ·rw [ZCZ r] at l;exact l
theorem Zhw (n:Nat) (z:List Value):(repl n z).length=n*z.length:=by
 induction n with
 | zero=>simp [repl]
 | succ n a=>rw [repl,List.length_append,a,Nat.add_mul];omega
end Go.Vc
