import Derived.Test.YtghbgeaammnkcaaGreatDoorVcOwn
namespace Go.Vc
set_option linter.unusedVariables false
set_option linter.unusedSimpArgs false
open Go
def RowIs (h:Heap) (b:Nat) (cs:List Value):Prop:=∃ t,h[b]?=some (.cells cs.toArray t)
inductive Row
 | cs (l:List Value)
 | mp (m:List (Value×Value))
abbrev Rws:=List (Nat×Row)
abbrev Rws.bs (L:Rws):List Nat:=L.map Prod.fst
theorem RowIs.lt {h:Heap} {b:Nat} {cs:List Value} (hr:RowIs h b cs):b<h.size:=by
 obtain ⟨t,a⟩:=hr
 rcases Nat.lt_or_ge b h.size with h'|h'
 ·exact h'
 ·rw [Array.getElem?_eq_none h'] at a;cases a
theorem RowIs.same {h h':Heap} {b:Nat} {cs:List Value} (hr:RowIs h b cs) (he:h'[b]?=h[b]?):RowIs h' b cs:=by
 obtain ⟨t,a⟩:=hr;exact ⟨t,by rw [he];exact a⟩
theorem RowIs.ext {h h':Heap} {b:Nat} {cs:List Value} (hr:RowIs h b cs) (a:ExtH h h'):RowIs h' b cs:=hr.same (a.2 b hr.lt)
theorem RowIs.cell {h:Heap} {b:Nat} {cs:List Value} (hr:RowIs h b cs) {j:Nat} {u:Value} (hu:cs[j]?=some u):hcell h ⟨b,j,none⟩=some u:=by
 obtain ⟨t,a⟩:=hr
 unfold hcell;rw [a];simpa using hu
theorem RowIs.wr {h:Heap} {b:Nat} {cs:List Value} (hr:RowIs h b cs) {j:Nat} (hj:j<cs.length):Wr h ⟨b,j,none⟩:=by
 obtain ⟨u,hu⟩:=ZcD hj
 refine ⟨⟨u,hr.cell hu⟩,?_⟩
 obtain ⟨t,a⟩:=hr
 unfold hfroz;rw [a];simp
theorem RowIs.set {h:Heap} {b:Nat} {cs:List Value} (hr:RowIs h b cs) (j:Nat) (v:Value):RowIs (hset h ⟨b,j,none⟩ v) b (cs.set j v):=by
 obtain ⟨t,a⟩:=hr
 refine ⟨t,?_⟩
 unfold hset
 rw [Array.getElem?_modify,if_pos rfl,a]
 simp
def RowX (h:Heap) (b:Nat):Row→Prop
 | .cs cs=>RowIs h b cs
 | .mp m=>hmap h b=some m
theorem ZAt {h:Heap} {b:Nat} {m:List (Value×Value)} (hm:hmap h b=some m):b<h.size:=by
 obtain ⟨es,clk,a,_⟩:=Zqq hm
 exact (Array.getElem?_eq_some_iff.1 a).1
theorem RowX.lt {h:Heap} {b:Nat}:∀ {r:Row},RowX h b r→b<h.size
 | .cs _,hr=>RowIs.lt hr
 | .mp _,hr=>ZAt hr
theorem RowX.same {h h':Heap} {b:Nat}:∀ {r:Row},RowX h b r→h'[b]?=h[b]?→RowX h' b r
 | .cs _,hr,he=>RowIs.same hr he
 | .mp _,hr,he=>by show hmap h' b=_;unfold hmap;rw [he];exact hr
theorem RowX.ext {h h':Heap} {b:Nat} {r:Row} (hr:RowX h b r) (a:ExtH h h'):RowX h' b r:=hr.same (a.2 b hr.lt)
theorem RowIs.push (h:Heap) (cs:List Value) (t:TypeId):RowIs (h.push (.cells cs.toArray t)) h.size cs:=⟨t,by simp⟩
structure Sta (h0 h:Heap) (L:Rws) (D:Heap→Prop):Prop where
 ext:ExtH h0 h
 row:∀ b r,(b,r)∈L→RowX h b r
 low:∀ b,b∈L.bs→h0.size≤b
 nod:L.bs.Nodup
 dat:∀ h',ExtBut (·∈L.bs) h h'→D h'
theorem Sta.now {a h:Heap} {L:Rws} {D:Heap→Prop} (st:Sta a h L D):D h:=st.dat h (eY _ _)
theorem Sta.start {h:Heap} {D:Heap→Prop} (hD:∀ h',ExtH h h'→D h'):Sta h h [] D:=
 ⟨eX h,by simp,by simp [Rws.bs],by simp [Rws.bs],fun h' a=>hD h' ⟨a.1,fun b c=>a.2 b c (by simp [Rws.bs])⟩⟩
theorem Sta.lt {a h:Heap} {L:Rws} {D:Heap→Prop} (st:Sta a h L D) {b:Nat} (c:b∈L.bs):b<h.size:=by
 obtain ⟨⟨b',cs⟩,e,rfl⟩:=List.mem_map.1 c
 exact (st.row _ _ e).lt
theorem Sta.new {f h:Heap} {L:Rws} {D:Heap→Prop} (st:Sta f h L D) (cs:List Value) (t:TypeId):Sta f (h.push (.cells cs.toArray t)) ((h.size,.cs cs)::L) D:=by
 refine ⟨st.ext.trans (ExtH.push h _),fun b c hm=>?_,fun b e=>?_,?_,fun h' g=>st.dat h' ⟨Nat.le_trans (ExtH.push h _).1 g.1,fun b e i=>?_⟩⟩
 ·rcases List.mem_cons.1 hm with a|a
  ·cases a;exact RowIs.push h cs t
  ·exact (st.row b c a).ext (ExtH.push h _)
 ·rcases List.mem_cons.1 e with a|a
  ·rw [a];exact st.ext.1
  ·exact st.low b a
 ·refine List.nodup_cons.2 ⟨fun hm=>?_,st.nod⟩
  have:=st.lt hm
  exact absurd this (Nat.lt_irrefl _)
 ·rw [g.2 b (Nat.lt_of_lt_of_le e (ExtH.push h _).1) (fun hm=>?_),(ExtH.push h _).2 b e]
  rcases List.mem_cons.1 hm with a|a
  ·rw [a] at e;exact absurd e (Nat.lt_irrefl _)
  ·exact i a
theorem ZkK {L:Rws} {i b:Nat} {cs cs':Row} (hl:L[i]?=some (b,cs)):Rws.bs (L.set i (b,cs'))=L.bs:=by
 unfold Rws.bs
 rw [List.map_set]
 apply List.ext_getElem?
 intro j
 rw [List.getElem?_set]
 split
 ·rename_i hij
  subst hij
  have:=ZY hl
  rw [if_pos (by simpa using this),List.getElem?_map,hl];rfl
 ·rfl
theorem Sta.set {f h:Heap} {L:Rws} {D:Heap→Prop} (st:Sta f h L D) {i b:Nat} {cs:List Value} (hl:L[i]?=some (b,.cs cs)) (j:Nat) (v:Value):
  Sta f (hset h ⟨b,j,none⟩ v) (L.set i (b,.cs (cs.set j v))) D:=by
 have hmem:(b,Row.cs cs)∈L:=List.mem_of_getElem? hl
 have hbm:b∈L.bs:=List.mem_map.2 ⟨_,hmem,rfl⟩
 have a:ExtBut (·=b) h (hset h ⟨b,j,none⟩ v):=ExtBut.hset h _ v
 refine ⟨a.ext st.ext fun x a=>by rw [a];exact st.low b hbm,fun b' c hm=>?_,fun b' g=>?_,?_,fun h' hy=>st.dat h' ?_⟩
 ·obtain ⟨k,hk⟩:=List.getElem?_of_mem hm
  rw [List.getElem?_set] at hk
  by_cases hik:i=k
  ·subst hik
   rw [if_pos rfl,if_pos (ZY hl)] at hk
   cases hk
   exact RowIs.set (st.row b _ hmem) j v
  ·rw [if_neg hik] at hk
   have hm':=List.mem_of_getElem? hk
   refine (st.row b' c hm').same (a.2 b' (st.row b' c hm').lt fun e=>?_)
   subst e
   have l:L.bs[i]?=some b':=by rw [List.getElem?_map,hl];rfl
   have m:L.bs[k]?=some b':=by rw [List.getElem?_map,hk];rfl
   exact hik ((List.getElem?_inj (ZY l) st.nod).1 (l.trans m.symm))
 ·rw [ZkK hl] at g;exact st.low b' g
 ·rw [ZkK hl];exact st.nod
 ·rw [ZkK hl] at hy
  exact (a.mono fun x a=>by rw [a];exact hbm).trans hy
theorem Sta.imp {a h:Heap} {L:Rws} {D D':Heap→Prop} (st:Sta a h L D) (hD:∀ h',D h'→D' h'):Sta a h L D':=⟨st.ext,st.row,st.low,st.nod,fun h' b=>hD h' (st.dat h' b)⟩
theorem Sta.call {c h e:Heap} {L:Rws} {D:Heap→Prop} (st:Sta c h L D) (a:ExtH h e):Sta c e L D:=
 ⟨st.ext.trans a,fun b cs hm=>(st.row b cs hm).ext a,st.low,st.nod,fun h' hy=>st.dat h' ((eZ a).trans hy)⟩
def Fp (F:Nat→Prop) (h:Heap) (A:Heap→Prop):Prop:=∀ h':Heap,(∀ b,F b→b<h.size→h'[b]?=h[b]?)→h.size≤h'.size→A h'
theorem Fp.now {F:Nat→Prop} {h:Heap} {A:Heap→Prop} (hf:Fp F h A):A h:=hf h (fun _ _ _=>rfl) (Nat.le_refl _)
theorem Fp.next {F:Nat→Prop} {h h':Heap} {A:Heap→Prop} (hf:Fp F h A) (he:∀ b,F b→b<h.size→h'[b]?=h[b]?) (hs:h.size≤h'.size):Fp F h' A:=
 fun c e s2=>hf c (fun b a hl=>(e b a (Nat.lt_of_lt_of_le hl hs)).trans (he b a hl)) (Nat.le_trans hs s2)
theorem Fp.ext {F:Nat→Prop} {h h':Heap} {A:Heap→Prop} (hf:Fp F h A) (a:ExtH h h'):Fp F h' A:=hf.next (fun b _ hl=>a.2 b hl) a.1
theorem Fp.but {F B:Nat→Prop} {h h':Heap} {A:Heap→Prop} (hf:Fp F h A) (a:ExtBut B h h') (c:∀ b,F b→¬ B b):Fp F h' A:=hf.next (fun b e hl=>a.2 b hl (c b e)) a.1
theorem Fp.imp {F:Nat→Prop} {h:Heap} {A A':Heap→Prop} (hf:Fp F h A) (hA:∀ h',A h'→A' h'):Fp F h A':=fun h' he hs=>hA h' (hf h' he hs)
theorem Fp.and {F:Nat→Prop} {h:Heap} {A A':Heap→Prop} (hf:Fp F h A) (hf':Fp F h A'):Fp F h fun x=>A x∧A' x:=fun h' he hs=>⟨hf h' he hs,hf' h' he hs⟩
theorem Sta.freeze {a h:Heap} {b:Nat} {cs:Row} {L:Rws} {D:Heap→Prop} (st:Sta a h ((b,cs)::L) D):Sta a h L fun x=>D x∧RowX x b cs:=by
 have e:=st.row b cs (List.mem_cons_self ..)
 refine ⟨st.ext,fun b' c hm=>st.row b' c (List.mem_cons_of_mem _ hm),fun b' hm=>st.low b' (List.mem_cons_of_mem _ hm),(List.nodup_cons.1 st.nod).2,fun h' hy=>⟨st.dat h' (hy.mono fun x f=>List.mem_cons_of_mem _ f),e.same (hy.2 b e.lt (List.nodup_cons.1 st.nod).1)⟩⟩
theorem Sta.drop {a h:Heap} {r:Nat×Row} {L:Rws} {D:Heap→Prop} (st:Sta a h (r::L) D):Sta a h L D:=by
 obtain ⟨b,cs⟩:=r
 exact st.freeze.imp fun _ h=>h.1
theorem Zsu {c h:Heap} {L:Rws} {D:Heap→Prop} (st:Sta c h L D) (i:Nat) {a:Addr} {b j:Nat} {cs:List Value} {v:Value} {K:Heap→Prop} (ha:a=⟨b,j,none⟩) (hl:L[i]?=some (b,.cs cs)) (hj:(cs[j]?).isSome=true)
  (e:v.oneCell'=true) (hk:∀ h',Sta c h' (L.set i (b,.cs (cs.set j v))) D→K h'):vStore1 h a v K:=by
 subst ha
 refine ZzD (RowIs.wr (st.row b _ (List.mem_of_getElem? hl)) ?_) e (hk _ (st.set hl j v))
 obtain ⟨u,hu⟩:=Option.isSome_iff_exists.1 hj
 exact ZY hu
theorem Zhp (p:Addr) (i j:Nat):(p.add i).add j=p.add (i+j):=by
 unfold Addr.add
 by_cases hi:i=0
 ·subst hi;simp
 ·by_cases hj:j=0
  ·subst hj;simp [hi]
  ·rw [if_neg hi,if_neg hj,if_neg (by omega)];simp [Nat.add_assoc]
def eSlB {α:Type} (z:Nat) (E:Elem α):Elem (List α):=fun h cs xs=>∃ v,cs=[v]∧SlAt z E h v xs∧xs.length≤9223372036854775807
def SlB {α:Type} (z:Nat) (E:Elem α) (h:Heap) (v:Value) (xs:List α):Prop:=SlAt z E h v xs∧xs.length≤9223372036854775807
theorem SlB.ext {α:Type} {z:Nat} {E:Elem α} (hE:Mono E) {h h':Heap} {v:Value} {xs:List α} (a:ExtH h h') (hs:SlB z E h v xs):SlB z E h' v xs:=⟨hs.1.ext hE a,hs.2⟩
theorem SlB.one {α:Type} {z:Nat} {E:Elem α} {h:Heap} {v:Value} {xs:List α} (hs:SlB z E h v xs):v.oneCell'=true:=hs.1.one
theorem Zwy {pre c post:List Value} {j:Nat} {v:Value} (hj:j<c.length):(pre++c++post).set (pre.length+j) v=pre++c.set j v++post:=by
 rw [List.append_assoc,List.append_assoc,List.set_append,if_neg (by omega),List.set_append,if_pos (by omega)]
 simp
theorem ZyU {e h:Heap} {L:Rws} {D:Heap→Prop} {b:Nat} {pre c post:List Value} (st:Sta e h ((b,.cs (pre++c++post))::L) D) (j:Nat) {m:Nat} {a:Addr} {v:Value} {K:Heap→Prop} (hm:pre.length=m) (ha:a=⟨b,m+j,none⟩) (hj:(c[j]?).isSome=true)
  (f:v.oneCell'=true) (hk:∀ h',Sta e h' ((b,.cs (pre++c.set j v++post))::L) D→K h'):vStore1 h a v K:=by
 subst hm
 obtain ⟨u,hu⟩:=Option.isSome_iff_exists.1 hj
 have hlt:=ZY hu
 refine Zsu st 0 ha rfl ?_ f fun h' st'=>hk h' ?_
 ·rw [List.append_assoc,List.getElem?_append_right (by omega),List.getElem?_append_left (by omega)]
  simpa using hj
 ·rw [Zwy hlt] at st'
  exact st'
theorem Zng (n:Nat) (z:List Value):(repl n z).length=n*z.length:=by
 induction n with
 | zero=>simp [repl]
 | succ n ih=>rw [repl,List.length_append,ih,Nat.add_mul];omega
end Go.Vc
