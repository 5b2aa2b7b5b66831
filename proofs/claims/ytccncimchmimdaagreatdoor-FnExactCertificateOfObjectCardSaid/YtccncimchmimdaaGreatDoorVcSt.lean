import Derived.Test.YtccncimchmimdaaGreatDoorVcOwn
namespace Go.Vc
set_option linter.unusedVariables false
set_option linter.unusedSimpArgs false
open Go
def RowIs (h:Heap) (b:Nat) (cs:List Value):Prop:=∃ t,h[b]?=some (.cells cs.toArray t)
inductive Row
 | cs (l:List Value)
 | mp (m:List (Value×Value))
abbrev Rws:=List (Nat×Row)
abbrev Rws.bs (L:Rws):List Nat:=L.map Prod.fst
theorem RowIs.lt {h:Heap} {b:Nat} {cs:List Value} (c:RowIs h b cs):b<h.size:=by
 obtain ⟨t,a⟩:=c
 rcases Nat.lt_or_ge b h.size with h'|h'
 ·exact h'
 ·rw [Array.getElem?_eq_none h'] at a;cases a
theorem RowIs.same {h c:Heap} {b:Nat} {cs:List Value} (g:RowIs h b cs) (e:c[b]?=h[b]?):RowIs c b cs:=by
 obtain ⟨t,a⟩:=g;exact ⟨t,by rw [e];exact a⟩
theorem RowIs.ext {h c:Heap} {b:Nat} {cs:List Value} (e:RowIs h b cs) (a:ExtH h c):RowIs c b cs:=e.same (a.2 b e.lt)
theorem RowIs.cell {h:Heap} {b:Nat} {cs:List Value} (e:RowIs h b cs) {j:Nat} {u:Value} (c:cs[j]?=some u):hcell h ⟨b,j,none⟩=some u:=by
 obtain ⟨t,a⟩:=e
 unfold hcell;rw [a];simpa using c
theorem RowIs.wr {h:Heap} {b:Nat} {cs:List Value} (c:RowIs h b cs) {j:Nat} (g:j<cs.length):Wr h ⟨b,j,none⟩:=by
 obtain ⟨u,e⟩:=ZaV g
 refine ⟨⟨u,c.cell e⟩,?_⟩
 obtain ⟨t,a⟩:=c
 unfold hfroz;rw [a];simp
theorem RowIs.set {h:Heap} {b:Nat} {cs:List Value} (c:RowIs h b cs) (j:Nat) (v:Value):RowIs (hset h ⟨b,j,none⟩ v) b (cs.set j v):=by
 obtain ⟨t,a⟩:=c
 refine ⟨t,?_⟩
 unfold hset
 rw [Array.getElem?_modify,if_pos rfl,a]
 simp
def RowX (h:Heap) (b:Nat):Row->Prop
 | .cs cs=>RowIs h b cs
 | .mp m=>hmap h b=some m
theorem Zz9 {h:Heap} {b:Nat} {m:List (Value×Value)} (c:hmap h b=some m):b<h.size:=by
 obtain ⟨es,e,a,_⟩:=ZqI c
 exact (Array.getElem?_eq_some_iff.1 a).1
theorem RowX.lt {h:Heap} {b:Nat}:∀ {r:Row},RowX h b r->b<h.size
 | .cs _,hr=>RowIs.lt hr
 | .mp _,hr=>Zz9 hr
theorem RowX.same {h a:Heap} {b:Nat}:∀ {r:Row},RowX h b r->a[b]?=h[b]?->RowX a b r
 | .cs _,hr,he=>RowIs.same hr he
 | .mp _,hr,he=>by show hmap a b=_;unfold hmap;rw [he];exact hr
theorem RowX.ext {h c:Heap} {b:Nat} {r:Row} (e:RowX h b r) (a:ExtH h c):RowX c b r:=e.same (a.2 b e.lt)
theorem RowIs.push (h:Heap) (cs:List Value) (t:TypeId):RowIs (h.push (.cells cs.toArray t)) h.size cs:=⟨t,by simp⟩
structure Sta (h0 h:Heap) (L:Rws) (D:Heap->Prop):Prop where
 ext:ExtH h0 h
 row:∀ b r,(b,r)∈L->RowX h b r
 low:∀ b,b∈L.bs->h0.size<=b
 nod:L.bs.Nodup
 dat:∀ h',ExtBut (·∈L.bs) h h'->D h'
theorem Sta.now {a h:Heap} {L:Rws} {D:Heap->Prop} (st:Sta a h L D):D h:=st.dat h (eY _ _)
theorem Sta.start {h:Heap} {D:Heap->Prop} (g:∀ e,ExtH h e->D e):Sta h h [] D:=
 ⟨eX h,by simp,by simp [Rws.bs],by simp [Rws.bs],fun e a=>g e ⟨a.1,fun b c=>a.2 b c (by simp [Rws.bs])⟩⟩
theorem Sta.lt {a h:Heap} {L:Rws} {D:Heap->Prop} (st:Sta a h L D) {b:Nat} (c:b∈L.bs):b<h.size:=by
 obtain ⟨⟨g,cs⟩,e,rfl⟩:=List.mem_map.1 c
 exact (st.row _ _ e).lt
theorem Sta.new {f h:Heap} {L:Rws} {D:Heap->Prop} (st:Sta f h L D) (cs:List Value) (t:TypeId):Sta f (h.push (.cells cs.toArray t)) ((h.size,.cs cs)::L) D:=by
 refine ⟨st.ext.trans (ExtH.push h _),fun b c j=>?_,fun b e=>?_,?_,fun k g=>st.dat k ⟨Nat.le_trans (ExtH.push h _).1 g.1,fun b e i=>?_⟩⟩
 ·rcases List.mem_cons.1 j with a|a
  ·cases a;exact RowIs.push h cs t
  ·exact (st.row b c a).ext (ExtH.push h _)
 ·rcases List.mem_cons.1 e with a|a
  ·rw [a];exact st.ext.1
  ·exact st.low b a
 ·refine List.nodup_cons.2 ⟨fun j=>?_,st.nod⟩
  have:=st.lt j
  exact absurd this (Nat.lt_irrefl _)
 ·rw [g.2 b (Nat.lt_of_lt_of_le e (ExtH.push h _).1) (fun j=>?_),(ExtH.push h _).2 b e]
  rcases List.mem_cons.1 j with a|a
  ·rw [a] at e;exact absurd e (Nat.lt_irrefl _)
  ·exact i a
theorem ZkB {L:Rws} {i b:Nat} {cs c:Row} (a:L[i]?=some (b,cs)):Rws.bs (L.set i (b,c))=L.bs:=by
 unfold Rws.bs
 rw [List.map_set]
 apply List.ext_getElem?
 intro j
 rw [List.getElem?_set]
 split
 ·rename_i e
  subst e
  have:=Z1 a
  rw [if_pos (by simpa using this),List.getElem?_map,a];rfl
 ·rfl
theorem Sta.set {f h:Heap} {L:Rws} {D:Heap->Prop} (st:Sta f h L D) {i b:Nat} {cs:List Value} (u:L[i]?=some (b,.cs cs)) (j:Nat) (v:Value):
  Sta f (hset h ⟨b,j,none⟩ v) (L.set i (b,.cs (cs.set j v))) D:=by
 have a0:(b,Row.cs cs)∈L:=List.mem_of_getElem? u
 have a2:b∈L.bs:=List.mem_map.2 ⟨_,a0,rfl⟩
 have a:ExtBut (·=b) h (hset h ⟨b,j,none⟩ v):=ExtBut.hset h _ v
 refine ⟨a.ext st.ext fun x a=>by rw [a];exact st.low b a2,fun r c hm=>?_,fun r g=>?_,?_,fun h' hy=>st.dat h' ?_⟩
 ·obtain ⟨k,w⟩:=List.getElem?_of_mem hm
  rw [List.getElem?_set] at w
  by_cases y:i=k
  ·subst y
   rw [if_pos rfl,if_pos (Z1 u)] at w
   cases w
   exact RowIs.set (st.row b _ a0) j v
  ·rw [if_neg y] at w
   have a1:=List.mem_of_getElem? w
   refine (st.row r c a1).same (a.2 r (st.row r c a1).lt fun e=>?_)
   subst e
   have l:L.bs[i]?=some r:=by rw [List.getElem?_map,u];rfl
   have o:L.bs[k]?=some r:=by rw [List.getElem?_map,w];rfl
   exact y ((List.getElem?_inj (Z1 l) st.nod).1 (l.trans o.symm))
 ·rw [ZkB u] at g;exact st.low r g
 ·rw [ZkB u];exact st.nod
 ·rw [ZkB u] at hy
  exact (a.mono fun x a=>by rw [a];exact a2).trans hy
theorem Sta.imp {a h:Heap} {L:Rws} {D e:Heap->Prop} (st:Sta a h L D) (g:∀ c,D c->e c):Sta a h L e:=⟨st.ext,st.row,st.low,st.nod,fun c b=>g c (st.dat c b)⟩
theorem Sta.call {c h e:Heap} {L:Rws} {D:Heap->Prop} (st:Sta c h L D) (a:ExtH h e):Sta c e L D:=
 ⟨st.ext.trans a,fun b cs j=>(st.row b cs j).ext a,st.low,st.nod,fun g k=>st.dat g ((eZ a).trans k)⟩
def Fp (F:Nat->Prop) (h:Heap) (A:Heap->Prop):Prop:=∀ a:Heap,(∀ b,F b->b<h.size->a[b]?=h[b]?)->h.size<=a.size->A a
theorem Fp.now {F:Nat->Prop} {h:Heap} {A:Heap->Prop} (a:Fp F h A):A h:=a h (fun _ _ _=>rfl) (Nat.le_refl _)
theorem Fp.next {F:Nat->Prop} {h g:Heap} {A:Heap->Prop} (k:Fp F h A) (l:∀ b,F b->b<h.size->g[b]?=h[b]?) (hs:h.size<=g.size):Fp F g A:=
 fun c e f=>k c (fun b a j=>(e b a (Nat.lt_of_lt_of_le j hs)).trans (l b a j)) (Nat.le_trans hs f)
theorem Fp.ext {F:Nat->Prop} {h c:Heap} {A:Heap->Prop} (g:Fp F h A) (a:ExtH h c):Fp F c A:=g.next (fun b _ e=>a.2 b e) a.1
theorem Fp.but {F B:Nat->Prop} {h g:Heap} {A:Heap->Prop} (k:Fp F h A) (a:ExtBut B h g) (c:∀ b,F b->¬ B b):Fp F g A:=k.next (fun b e j=>a.2 b j (c b e)) a.1
theorem Fp.imp {F:Nat->Prop} {h:Heap} {A c:Heap->Prop} (e:Fp F h A) (j:∀ a,A a->c a):Fp F h c:=fun a g hs=>j a (e a g hs)
theorem Fp.and {F:Nat->Prop} {h:Heap} {A c:Heap->Prop} (j:Fp F h A) (g:Fp F h c):Fp F h fun x=>A x/\c x:=fun a e hs=>⟨j a e hs,g a e hs⟩
theorem Sta.freeze {a h:Heap} {b:Nat} {cs:Row} {L:Rws} {D:Heap->Prop} (st:Sta a h ((b,cs)::L) D):Sta a h L fun x=>D x/\RowX x b cs:=by
 have e:=st.row b cs (List.mem_cons_self ..)
 refine ⟨st.ext,fun g c j=>st.row g c (List.mem_cons_of_mem _ j),fun g j=>st.low g (List.mem_cons_of_mem _ j),(List.nodup_cons.1 st.nod).2,fun l k=>⟨st.dat l (k.mono fun x f=>List.mem_cons_of_mem _ f),e.same (k.2 b e.lt (List.nodup_cons.1 st.nod).1)⟩⟩
theorem Sta.drop {a h:Heap} {r:Nat×Row} {L:Rws} {D:Heap->Prop} (st:Sta a h (r::L) D):Sta a h L D:=by
 obtain ⟨b,cs⟩:=r
 exact st.freeze.imp fun _ h=>h.1
theorem Zs1 {c h:Heap} {L:Rws} {D:Heap->Prop} (st:Sta c h L D) (i:Nat) {a:Addr} {b j:Nat} {cs:List Value} {v:Value} {K:Heap->Prop} (r:a=⟨b,j,none⟩) (g:L[i]?=some (b,.cs cs)) (w:(cs[j]?).isSome=true)
  (e:v.oneCell'=true) (o:∀ k,Sta c k (L.set i (b,.cs (cs.set j v))) D->K k):vStore1 h a v K:=by
 subst r
 refine ZBz (RowIs.wr (st.row b _ (List.mem_of_getElem? g)) ?_) e (o _ (st.set g j v))
 obtain ⟨u,l⟩:=Option.isSome_iff_exists.1 w
 exact Z1 l
theorem ZfY (p:Addr) (i j:Nat):(p.add i).add j=p.add (i+j):=by
 unfold Addr.add
 by_cases hi:i=0
 ·subst hi;simp
 ·by_cases a:j=0
  ·subst a;simp [hi]
  ·rw [if_neg hi,if_neg a,if_neg ω];simp [Nat.add_assoc]
def eSlB {α:Type} (z:Nat) (E:Elem α):Elem (List α):=fun h cs xs=>∃ v,cs=[v]/\SlAt z E h v xs/\xs.length<=9223372036854775807
def SlB {α:Type} (z:Nat) (E:Elem α) (h:Heap) (v:Value) (xs:List α):Prop:=SlAt z E h v xs/\xs.length<=9223372036854775807
theorem SlB.ext {α:Type} {z:Nat} {E:Elem α} (e:Mono E) {h c:Heap} {v:Value} {xs:List α} (a:ExtH h c) (hs:SlB z E h v xs):SlB z E c v xs:=⟨hs.1.ext e a,hs.2⟩
theorem SlB.one {α:Type} {z:Nat} {E:Elem α} {h:Heap} {v:Value} {xs:List α} (hs:SlB z E h v xs):v.oneCell'=true:=hs.1.one
theorem ZwF {a c e:List Value} {j:Nat} {v:Value} (g:j<c.length):(a++c++e).set (a.length+j) v=a++c.set j v++e:=by
 rw [List.append_assoc,List.append_assoc,List.set_append,if_neg ω,List.set_append,if_pos ω]
 simp
theorem ZF9 {e h:Heap} {L:Rws} {D:Heap->Prop} {b:Nat} {k c g:List Value} (st:Sta e h ((b,.cs (k++c++g))::L) D) (j:Nat) {m:Nat} {a:Addr} {v:Value} {K:Heap->Prop} (hm:k.length=m) (ha:a=⟨b,m+j,none⟩) (w:(c[j]?).isSome=true)
  (f:v.oneCell'=true) (y:∀ l,Sta e l ((b,.cs (k++c.set j v++g))::L) D->K l):vStore1 h a v K:=by
 subst hm
 obtain ⟨u,x⟩:=Option.isSome_iff_exists.1 w
 have r:=Z1 x
 refine Zs1 st 0 ha rfl ?_ f fun l o=>y l ?_
 ·rw [List.append_assoc,List.getElem?_append_right ω,List.getElem?_append_left ω]
  simpa using w
 ·rw [ZwF r] at o
  exact o
theorem ZhF (n:Nat) (z:List Value):(repl n z).length=n*z.length:=by
 induction n with
 | zero=>simp [repl]
 | succ n a=>rw [repl,List.length_append,a,Nat.add_mul];omega
end Go.Vc
