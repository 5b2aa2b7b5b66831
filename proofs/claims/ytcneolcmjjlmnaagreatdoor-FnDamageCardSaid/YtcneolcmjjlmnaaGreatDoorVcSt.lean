import Derived.Test.YtcneolcmjjlmnaaGreatDoorVcOwn
open Nat renaming le_trans->JW,lt_of_lt_of_le->Xt
open List renaming mem_of_getElem?->JH,getElem?_map->JP,mem_cons_of_mem->JI
open Option renaming some->Jg
open Go renaming Value->Jl
namespace Go.Vc
set_option linter.unusedVariables false
set_option linter.unusedSimpArgs false
open Go
def RowIs (h:Heap) (b:Nat) (cs:Jc):Prop:=∃t,h[b]?=Jg (.cells cs.toArray t)
inductive Row
 | cs (l:Jc)
 | mp (m:List (Jl×Jl))
abbrev Rws:=List (Nat×Row)
abbrev Rws.bs (L:Rws):List Nat:=L.map Prod.fst
theorem RowIs.lt {h:Heap} {b:Nat} {cs:Jc} (e:RowIs h b cs):b<h.size:=by
 obtain ⟨t,h1⟩:=e;grind
theorem RowIs.same {h e:Heap} {b:Nat} {cs:Jc} (g:RowIs h b cs) (j:e[b]?=h[b]?):RowIs e b cs:=by
 obtain ⟨t,h1⟩:=g;exact ⟨t,by rw [j];exact h1⟩
theorem RowIs.ext {h g:Heap} {b:Nat} {cs:Jc} (e:RowIs h b cs) (a:ExtH h g):RowIs g b cs:=e.same (a.2 b e.lt)
theorem RowIs.cell {h:Heap} {b:Nat} {cs:Jc} (e:RowIs h b cs) {j:Nat} {u:Jl} (g:cs[j]?=Jg u):hcell h ⟨b,j,none⟩=Jg u:=by
 obtain ⟨t,h1⟩:=e;grind [hcell]
theorem RowIs.wr {h:Heap} {b:Nat} {cs:Jc} (e:RowIs h b cs) {j:Nat} (k:j<cs.length):Wr h ⟨b,j,none⟩:=by
 obtain ⟨u,g⟩:=Zbs k;refine ⟨⟨u,e.cell g⟩,?_⟩;obtain ⟨t,h1⟩:=e;grind [hfroz]
theorem RowIs.set {h:Heap} {b:Nat} {cs:Jc} (e:RowIs h b cs) (j:Nat) (v:Jl):RowIs (hset h ⟨b,j,none⟩ v) b (cs.set j v):=by
 obtain ⟨t,h1⟩:=e;refine ⟨t,?_⟩;unfold hset;grind
def RowX (h:Heap) (b:Nat):Row->Prop
 | .cs cs=>RowIs h b cs
 | .mp m=>hmap h b=Jg m
theorem ZOQ {h:Heap} {b:Nat} {m:List (Jl×Jl)} (e:hmap h b=Jg m):b<h.size:=by
 grind [ZoO,Array.getElem?_eq_some_iff]
theorem RowX.lt {h:Heap} {b:Nat}:∀{r:Row},RowX h b r->b<h.size
 | .cs _,hr=>RowIs.lt hr
 | .mp _,hr=>ZOQ hr
theorem RowX.same {h e:Heap} {b:Nat}:∀{r:Row},RowX h b r->e[b]?=h[b]?->RowX e b r
 | .cs _,hr,he=>RowIs.same hr he
 | .mp _,hr,he=>by show hmap e b=_;unfold hmap;rw [he];exact hr
theorem RowX.ext {h g:Heap} {b:Nat} {r:Row} (e:RowX h b r) (a:ExtH h g):RowX g b r:=e.same (a.2 b e.lt)
theorem RowIs.push (h:Heap) (cs:Jc) (t:TypeId):RowIs (h.push (.cells cs.toArray t)) h.size cs:=⟨t,by simp⟩
structure Sta (h0 h:Heap) (L:Rws) (D:Heap->Prop):Prop where
 ext:ExtH h0 h
 row:∀b r,(b,r)∈L->RowX h b r
 low:∀b,b∈L.bs->h0.size<=b
 nod:L.bs.Nodup
 dat:∀h',ExtBut (·∈L.bs) h h'->D h'
theorem Sta.now {a h:Heap} {L:Rws} {D:Heap->Prop} (st:Sta a h L D):D h:=st.dat h (eY _ _)
theorem Sta.start {h:Heap} {D:Heap->Prop} (j:∀g,ExtH h g->D g):Sta h h [] D:=
 ⟨eX h,by simp,by simp [Rws.bs],by simp [Rws.bs],λg a=>j g ⟨a.1,λb e=>a.2 b e (by simp [Rws.bs])⟩⟩
theorem Sta.lt {a h:Heap} {L:Rws} {D:Heap->Prop} (st:Sta a h L D) {b:Nat} (e:b∈L.bs):b<h.size:=by
 obtain ⟨⟨g,cs⟩,h1,rfl⟩:=List.mem_map.1 e;exact (st.row _ _ h1).lt
theorem Sta.new {e h:Heap} {L:Rws} {D:Heap->Prop} (st:Sta e h L D) (cs:Jc) (t:TypeId):Sta e (h.push (.cells cs.toArray t)) ((h.size,.cs cs)::L) D:=by
 refine ⟨st.ext.trans (ExtH.push h _),λb c j=>?_,λb a=>?_,?_,λk f=>st.dat k ⟨JW (ExtH.push h _).1 f.1,λb a g=>?_⟩⟩
 .rcases List.mem_cons.1 j with h1|h1
  .cases h1;exact RowIs.push h cs t
  .exact (st.row b c h1).ext (ExtH.push h _)
 .rcases List.mem_cons.1 a with h1|h1
  .rw [h1];exact st.ext.1
  .exact st.low b h1
 .refine List.nodup_cons.2 ⟨λj=>?_,st.nod⟩;have:=st.lt j;omega
 .rw [f.2 b (Xt a (ExtH.push h _).1) (λj=>?_),(ExtH.push h _).2 b a];grind
theorem ZlF {L:Rws} {i b:Nat} {cs e:Row} (g:L[i]?=Jg (b,cs)):Rws.bs (L.set i (b,e))=L.bs:=by
 unfold Rws.bs;rw [List.map_set];apply List.ext_getElem?;grind
theorem Sta.set {f h:Heap} {L:Rws} {D:Heap->Prop} (st:Sta f h L D) {i b:Nat} {cs:Jc} (w:L[i]?=Jg (b,.cs cs)) (j:Nat) (v:Jl):
  Sta f (hset h ⟨b,j,none⟩ v) (L.set i (b,.cs (cs.set j v))) D:=by
 have a3:(b,Row.cs cs)∈L:=JH w;have a4:b∈L.bs:=List.mem_map.2 ⟨_,a3,rfl⟩;have a:ExtBut (·=b) h (hset h ⟨b,j,none⟩ v):=ExtBut.hset h _ v;refine ⟨a.ext st.ext λx a=>by rw [a];exact st.low b a4,λo c hm=>?_,λo g=>?_,?_,λh' hy=>st.dat h' ?_⟩
 .obtain ⟨k,u⟩:=List.getElem?_of_mem hm;rw [List.getElem?_set] at u;by_cases a2:i=k
  .subst a2;rw [if_pos rfl,if_pos (Zad w)] at u;cases u;exact RowIs.set (st.row b _ a3) j v
  .rw [if_neg a2] at u;have a5:=JH u;refine (st.row o c a5).same (a.2 o (st.row o c a5).lt λe=>?_);subst e;have h1:L.bs[i]?=Jg o:=by rw [JP,w];rfl
   have l:L.bs[k]?=Jg o:=by rw [JP,u];rfl
   exact a2 ((List.getElem?_inj (Zad h1) st.nod).1 (h1.trans l.symm))
 .rw [ZlF w] at g;exact st.low o g
 .rw [ZlF w];exact st.nod
 .rw [ZlF w] at hy;exact (a.mono λx a=>by rw [a];exact a4).trans hy
theorem Sta.imp {a h:Heap} {L:Rws} {D j:Heap->Prop} (st:Sta a h L D) (k:∀g,D g->j g):Sta a h L j:=⟨st.ext,st.row,st.low,st.nod,λg e=>k g (st.dat g e)⟩
theorem Sta.call {e h h1:Heap} {L:Rws} {D:Heap->Prop} (st:Sta e h L D) (a:ExtH h h1):Sta e h1 L D:=
 ⟨st.ext.trans a,λb cs g=>(st.row b cs g).ext a,st.low,st.nod,λk j=>st.dat k ((eZ a).trans j)⟩
def Fp (F:Nat->Prop) (h:Heap) (A:Heap->Prop):Prop:=∀e:Heap,(∀b,F b->b<h.size->e[b]?=h[b]?)->h.size<=e.size->A e
theorem Fp.now {F:Nat->Prop} {h:Heap} {A:Heap->Prop} (e:Fp F h A):A h:=e h (λ_ _ _=>rfl) (Nat.le_refl _)
theorem Fp.next {F:Nat->Prop} {h g:Heap} {A:Heap->Prop} (l:Fp F h A) (k:∀b,F b->b<h.size->g[b]?=h[b]?) (hs:h.size<=g.size):Fp F g A:=
 λe f s2=>l e (λb a j=>(f b a (Xt j hs)).trans (k b a j)) (JW hs s2)
theorem Fp.ext {F:Nat->Prop} {h e:Heap} {A:Heap->Prop} (g:Fp F h A) (a:ExtH h e):Fp F e A:=g.next (λb _ j=>a.2 b j) a.1
theorem Fp.but {F B:Nat->Prop} {h g:Heap} {A:Heap->Prop} (j:Fp F h A) (a:ExtBut B h g) (e:∀b,F b->¬B b):Fp F g A:=j.next (λb f k=>a.2 b k (e b f)) a.1
theorem Fp.imp {F:Nat->Prop} {h:Heap} {A g:Heap->Prop} (k:Fp F h A) (l:∀e,A e->g e):Fp F h g:=λe j hs=>l e (k e j hs)
theorem Fp.and {F:Nat->Prop} {h:Heap} {A e:Heap->Prop} (l:Fp F h A) (g:Fp F h e):Fp F h λx=>A x/\e x:=λk j hs=>⟨l k j hs,g k j hs⟩
theorem Sta.freeze {a h:Heap} {b:Nat} {cs:Row} {L:Rws} {D:Heap->Prop} (st:Sta a h ((b,cs)::L) D):Sta a h L λx=>D x/\RowX x b cs:=by
 have e:=st.row b cs (List.mem_cons_self ..);refine ⟨st.ext,λj c g=>st.row j c (JI _ g),λj g=>st.low j (JI _ g),(List.nodup_cons.1 st.nod).2,λl k=>⟨st.dat l (k.mono λx f=>JI _ f),e.same (k.2 b e.lt (List.nodup_cons.1 st.nod).1)⟩⟩
theorem Sta.drop {a h:Heap} {r:Nat×Row} {L:Rws} {D:Heap->Prop} (st:Sta a h (r::L) D):Sta a h L D:=by
 obtain ⟨b,cs⟩:=r;exact st.freeze.imp λ_ h=>h.1
theorem ZEp {e h:Heap} {L:Rws} {D:Heap->Prop} (st:Sta e h L D) (i:Nat) {a:Addr} {b j:Nat} {cs:Jc} {v:Jl} {K:Heap->Prop} (w:a=⟨b,j,none⟩) (g:L[i]?=Jg (b,.cs cs)) (x:(cs[j]?).isSome=true)
  (h1:v.oneCell'=true) (l:∀k,Sta e k (L.set i (b,.cs (cs.set j v))) D->K k):vStore1 h a v K:=by
 subst w;refine ZIf (RowIs.wr (st.row b _ (JH g)) ?_) h1 (l _ (st.set g j v));obtain ⟨u,o⟩:=Option.isSome_iff_exists.1 x;exact Zad o
theorem Zfw (p:Addr) (i j:Nat):(p.add i).add j=p.add (i+j):=by
 grind [Addr.add]
def eSlB {α:Type} (z:Nat) (E:Elem α):Elem (List α):=λh cs xs=>∃v,cs=[v]/\SlAt z E h v xs/\xs.length<=9223372036854775807
def SlB {α:Type} (z:Nat) (E:Elem α) (h:Heap) (v:Jl) (xs:List α):Prop:=SlAt z E h v xs/\xs.length<=9223372036854775807
theorem SlB.ext {α:Type} {z:Nat} {E:Elem α} (g:Mono E) {h e:Heap} {v:Jl} {xs:List α} (a:ExtH h e) (hs:SlB z E h v xs):SlB z E e v xs:=⟨hs.1.ext g a,hs.2⟩
theorem SlB.one {α:Type} {z:Nat} {E:Elem α} {h:Heap} {v:Jl} {xs:List α} (hs:SlB z E h v xs):v.oneCell'=true:=hs.1.one
theorem ZNd {pre c e:Jc} {j:Nat} {v:Jl} (g:j<c.length):(pre++c++e).set (pre.length+j) v=pre++c.set j v++e:=by
 grind
theorem ZGP {e h:Heap} {L:Rws} {D:Heap->Prop} {b:Nat} {pre c g:Jc} (st:Sta e h ((b,.cs (pre++c++g))::L) D) (j:Nat) {m:Nat} {a:Addr} {v:Jl} {K:Heap->Prop} (hm:pre.length=m) (ha:a=⟨b,m+j,none⟩) (w:(c[j]?).isSome=true)
  (h1:v.oneCell'=true) (x:∀k,Sta e k ((b,.cs (pre++c.set j v++g))::L) D->K k):vStore1 h a v K:=by
 subst hm;obtain ⟨u,hu⟩:=Option.isSome_iff_exists.1 w;have o:=Zad hu;refine ZEp st 0 ha rfl ?_ h1 λk l=>x k ?_
 .rw [List.append_assoc,List.getElem?_append_right Z,List.getElem?_append_left Z];simpa using w
 .rw [ZNd o] at l;exact l
theorem Zi6 (n:Nat) (z:Jc):(repl n z).length=n*z.length:=by
 induction n with
 | zero=>simp [repl]
 | succ n e=>rw [repl,List.length_append,e,Nat.add_mul];omega
end Go.Vc
