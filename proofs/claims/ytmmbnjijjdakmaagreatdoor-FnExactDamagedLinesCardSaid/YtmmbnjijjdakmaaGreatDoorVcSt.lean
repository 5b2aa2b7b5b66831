import Derived.Test.YtmmbnjijjdakmaaGreatDoorVcOwn
namespace Go.Vc
set_option linter.unusedVariables false
set_option linter.unusedSimpArgs false
open Go
def RowIs (h:Heap) (b:Nat) (cs:List Value):Prop:=∃ t,h[b]?=some (.cells cs.toArray t)
inductive Row
 | cs (l:List Value)
 | mp (m:List (Value×Value))
abbrev Rws:=List (Nat×Row)
abbrev Rws.bs (L:Rws):List Nat:=L.map Prod.fst
theorem RowIs.lt {h:Heap} {b:Nat} {cs:List Value} (hr:RowIs h b cs):b<h.size:=by
 obtain ⟨t,h1⟩:=hr
 rcases Nat.lt_or_ge b h.size with h'|h'
 ·exact h'
 ·rw [Array.getElem?_eq_none h'] at h1;cases h1
theorem RowIs.same {h h':Heap} {b:Nat} {cs:List Value} (hr:RowIs h b cs) (he:h'[b]?=h[b]?):RowIs h' b cs:=by
 obtain ⟨t,h1⟩:=hr;exact ⟨t,by rw [he];exact h1⟩
theorem RowIs.ext {h h':Heap} {b:Nat} {cs:List Value} (hr:RowIs h b cs) (hx:ExtH h h'):RowIs h' b cs:=hr.same (hx.2 b hr.lt)
theorem RowIs.cell {h:Heap} {b:Nat} {cs:List Value} (hr:RowIs h b cs) {j:Nat} {u:Value} (hu:cs[j]?=some u):hcell h ⟨b,j,none⟩=some u:=by
 obtain ⟨t,h1⟩:=hr
 unfold hcell;rw [h1];simpa using hu
theorem RowIs.wr {h:Heap} {b:Nat} {cs:List Value} (hr:RowIs h b cs) {j:Nat} (hj:j<cs.length):Wr h ⟨b,j,none⟩:=by
 obtain ⟨u,hu⟩:=Zfq hj
 refine ⟨⟨u,hr.cell hu⟩,?_⟩
 obtain ⟨t,h1⟩:=hr
 unfold hfroz;rw [h1];simp
theorem RowIs.set {h:Heap} {b:Nat} {cs:List Value} (hr:RowIs h b cs) (j:Nat) (v:Value):RowIs (hset h ⟨b,j,none⟩ v) b (cs.set j v):=by
 obtain ⟨t,h1⟩:=hr
 refine ⟨t,?_⟩
 unfold hset
 rw [Array.getElem?_modify,if_pos rfl,h1]
 simp
def RowX (h:Heap) (b:Nat):Row→Prop
 | .cs cs=>RowIs h b cs
 | .mp m=>hmap h b=some m
theorem ZwH {h:Heap} {b:Nat} {m:List (Value×Value)} (hm:hmap h b=some m):b<h.size:=by
 obtain ⟨es,clk,h1,_⟩:=Zkc hm
 exact (Array.getElem?_eq_some_iff.1 h1).1
theorem RowX.lt {h:Heap} {b:Nat}:∀ {r:Row},RowX h b r→b<h.size
 | .cs _,hr=>RowIs.lt hr
 | .mp _,hr=>ZwH hr
theorem RowX.same {h h':Heap} {b:Nat}:∀ {r:Row},RowX h b r→h'[b]?=h[b]?→RowX h' b r
 | .cs _,hr,he=>RowIs.same hr he
 | .mp _,hr,he=>by show hmap h' b=_;unfold hmap;rw [he];exact hr
theorem RowX.ext {h h':Heap} {b:Nat} {r:Row} (hr:RowX h b r) (hx:ExtH h h'):RowX h' b r:=hr.same (hx.2 b hr.lt)
theorem RowIs.push (h:Heap) (cs:List Value) (t:TypeId):RowIs (h.push (.cells cs.toArray t)) h.size cs:=⟨t,by simp⟩
structure Sta (h0 h:Heap) (L:Rws) (D:Heap→Prop):Prop where
 ext:ExtH h0 h
 row:∀ b r,(b,r)∈L→RowX h b r
 low:∀ b,b∈L.bs→h0.size≤b
 nod:L.bs.Nodup
 dat:∀ h',ExtBut (·∈L.bs) h h'→D h'
theorem Sta.now {h0 h:Heap} {L:Rws} {D:Heap→Prop} (st:Sta h0 h L D):D h:=st.dat h (ExtBut.refl _ _)
theorem Sta.start {h:Heap} {D:Heap→Prop} (hD:∀ h',ExtH h h'→D h'):Sta h h [] D:=
 ⟨ExtH.refl h,by simp,by simp [Rws.bs],by simp [Rws.bs],fun h' hx=>hD h' ⟨hx.1,fun b hb=>hx.2 b hb (by simp [Rws.bs])⟩⟩
theorem Sta.lt {h0 h:Heap} {L:Rws} {D:Heap→Prop} (st:Sta h0 h L D) {b:Nat} (hb:b∈L.bs):b<h.size:=by
 obtain ⟨⟨b',cs⟩,h1,rfl⟩:=List.mem_map.1 hb
 exact (st.row _ _ h1).lt
theorem Sta.new {h0 h:Heap} {L:Rws} {D:Heap→Prop} (st:Sta h0 h L D) (cs:List Value) (t:TypeId):Sta h0 (h.push (.cells cs.toArray t)) ((h.size,.cs cs)::L) D:=by
 refine ⟨st.ext.trans (ExtH.push h _),fun b c hm=>?_,fun b hb=>?_,?_,fun h' hx=>st.dat h' ⟨Nat.le_trans (ExtH.push h _).1 hx.1,fun b hb hn=>?_⟩⟩
 ·rcases List.mem_cons.1 hm with h1|h1
  ·cases h1;exact RowIs.push h cs t
  ·exact (st.row b c h1).ext (ExtH.push h _)
 ·rcases List.mem_cons.1 hb with h1|h1
  ·rw [h1];exact st.ext.1
  ·exact st.low b h1
 ·refine List.nodup_cons.2 ⟨fun hm=>?_,st.nod⟩
  have:=st.lt hm
  exact absurd this (Nat.lt_irrefl _)
 ·rw [hx.2 b (Nat.lt_of_lt_of_le hb (ExtH.push h _).1) (fun hm=>?_),(ExtH.push h _).2 b hb]
  rcases List.mem_cons.1 hm with h1|h1
  ·rw [h1] at hb;exact absurd hb (Nat.lt_irrefl _)
  ·exact hn h1
theorem Zjr {L:Rws} {i b:Nat} {cs cs':Row} (hl:L[i]?=some (b,cs)):Rws.bs (L.set i (b,cs'))=L.bs:=by
 unfold Rws.bs
 rw [List.map_set]
 apply List.ext_getElem?
 intro j
 rw [List.getElem?_set]
 split
 ·rename_i hij
  subst hij
  have:=ZR hl
  rw [if_pos (by simpa using this),List.getElem?_map,hl];rfl
 ·rfl
theorem Sta.set {h0 h:Heap} {L:Rws} {D:Heap→Prop} (st:Sta h0 h L D) {i b:Nat} {cs:List Value} (hl:L[i]?=some (b,.cs cs)) (j:Nat) (v:Value):
  Sta h0 (hset h ⟨b,j,none⟩ v) (L.set i (b,.cs (cs.set j v))) D:=by
 have hmem:(b,Row.cs cs)∈L:=List.mem_of_getElem? hl
 have hbm:b∈L.bs:=List.mem_map.2 ⟨_,hmem,rfl⟩
 have hx:ExtBut (·=b) h (hset h ⟨b,j,none⟩ v):=ExtBut.hset h _ v
 refine ⟨hx.ext st.ext fun x hx=>by rw [hx];exact st.low b hbm,fun b' c hm=>?_,fun b' hb=>?_,?_,fun h' hy=>st.dat h' ?_⟩
 ·obtain ⟨k,hk⟩:=List.getElem?_of_mem hm
  rw [List.getElem?_set] at hk
  by_cases hik:i=k
  ·subst hik
   rw [if_pos rfl,if_pos (ZR hl)] at hk
   cases hk
   exact RowIs.set (st.row b _ hmem) j v
  ·rw [if_neg hik] at hk
   have hm':=List.mem_of_getElem? hk
   refine (st.row b' c hm').same (hx.2 b' (st.row b' c hm').lt fun e=>?_)
   subst e
   have h1:L.bs[i]?=some b':=by rw [List.getElem?_map,hl];rfl
   have h2:L.bs[k]?=some b':=by rw [List.getElem?_map,hk];rfl
   exact hik ((List.getElem?_inj (ZR h1) st.nod).1 (h1.trans h2.symm))
 ·rw [Zjr hl] at hb;exact st.low b' hb
 ·rw [Zjr hl];exact st.nod
 ·rw [Zjr hl] at hy
  exact (hx.mono fun x hx=>by rw [hx];exact hbm).trans hy
theorem Sta.imp {h0 h:Heap} {L:Rws} {D D':Heap→Prop} (st:Sta h0 h L D) (hD:∀ h',D h'→D' h'):Sta h0 h L D':=⟨st.ext,st.row,st.low,st.nod,fun h' hx=>hD h' (st.dat h' hx)⟩
theorem Sta.call {h0 h h1:Heap} {L:Rws} {D:Heap→Prop} (st:Sta h0 h L D) (hx:ExtH h h1):Sta h0 h1 L D:=
 ⟨st.ext.trans hx,fun b cs hm=>(st.row b cs hm).ext hx,st.low,st.nod,fun h' hy=>st.dat h' ((ExtBut.of_ext hx).trans hy)⟩
def Fp (F:Nat→Prop) (h:Heap) (A:Heap→Prop):Prop:=∀ h':Heap,(∀ b,F b→b<h.size→h'[b]?=h[b]?)→h.size≤h'.size→A h'
theorem Fp.now {F:Nat→Prop} {h:Heap} {A:Heap→Prop} (hf:Fp F h A):A h:=hf h (fun _ _ _=>rfl) (Nat.le_refl _)
theorem Fp.next {F:Nat→Prop} {h h':Heap} {A:Heap→Prop} (hf:Fp F h A) (he:∀ b,F b→b<h.size→h'[b]?=h[b]?) (hs:h.size≤h'.size):Fp F h' A:=
 fun h2 e2 s2=>hf h2 (fun b hb hl=>(e2 b hb (Nat.lt_of_lt_of_le hl hs)).trans (he b hb hl)) (Nat.le_trans hs s2)
theorem Fp.ext {F:Nat→Prop} {h h':Heap} {A:Heap→Prop} (hf:Fp F h A) (hx:ExtH h h'):Fp F h' A:=hf.next (fun b _ hl=>hx.2 b hl) hx.1
theorem Fp.but {F B:Nat→Prop} {h h':Heap} {A:Heap→Prop} (hf:Fp F h A) (hx:ExtBut B h h') (hd:∀ b,F b→¬ B b):Fp F h' A:=hf.next (fun b hb hl=>hx.2 b hl (hd b hb)) hx.1
theorem Fp.imp {F:Nat→Prop} {h:Heap} {A A':Heap→Prop} (hf:Fp F h A) (hA:∀ h',A h'→A' h'):Fp F h A':=fun h' he hs=>hA h' (hf h' he hs)
theorem Fp.and {F:Nat→Prop} {h:Heap} {A A':Heap→Prop} (hf:Fp F h A) (hf':Fp F h A'):Fp F h fun x=>A x∧A' x:=fun h' he hs=>⟨hf h' he hs,hf' h' he hs⟩
theorem Sta.freeze {h0 h:Heap} {b:Nat} {cs:Row} {L:Rws} {D:Heap→Prop} (st:Sta h0 h ((b,cs)::L) D):Sta h0 h L fun x=>D x∧RowX x b cs:=by
 have hb:=st.row b cs (List.mem_cons_self ..)
 refine ⟨st.ext,fun b' c hm=>st.row b' c (List.mem_cons_of_mem _ hm),fun b' hm=>st.low b' (List.mem_cons_of_mem _ hm),(List.nodup_cons.1 st.nod).2,fun h' hy=>⟨st.dat h' (hy.mono fun x hx=>List.mem_cons_of_mem _ hx),hb.same (hy.2 b hb.lt (List.nodup_cons.1 st.nod).1)⟩⟩
theorem Sta.drop {h0 h:Heap} {r:Nat×Row} {L:Rws} {D:Heap→Prop} (st:Sta h0 h (r::L) D):Sta h0 h L D:=by
 obtain ⟨b,cs⟩:=r
 exact st.freeze.imp fun _ h=>h.1
theorem ZpB {h0 h:Heap} {L:Rws} {D:Heap→Prop} (st:Sta h0 h L D) (i:Nat) {a:Addr} {b j:Nat} {cs:List Value} {v:Value} {K:Heap→Prop} (ha:a=⟨b,j,none⟩) (hl:L[i]?=some (b,.cs cs)) (hj:(cs[j]?).isSome=true)
  (h1:v.oneCell'=true) (hk:∀ h',Sta h0 h' (L.set i (b,.cs (cs.set j v))) D→K h'):vStore1 h a v K:=by
 subst ha
 refine Zw7 (RowIs.wr (st.row b _ (List.mem_of_getElem? hl)) ?_) h1 (hk _ (st.set hl j v))
 obtain ⟨u,hu⟩:=Option.isSome_iff_exists.1 hj
 exact ZR hu
theorem Zf9 (p:Addr) (i j:Nat):(p.add i).add j=p.add (i+j):=by
 unfold Addr.add
 by_cases hi:i=0
 ·subst hi;simp
 ·by_cases hj:j=0
  ·subst hj;simp [hi]
  ·rw [if_neg hi,if_neg hj,if_neg (by omega)];simp [Nat.add_assoc]
def eStB:Elem ByteArray:=fun _ cs x=>cs=[.string x]∧x.size≤9223372036854775807
def SlB {α:Type} (z:Nat) (E:Elem α) (h:Heap) (v:Value) (xs:List α):Prop:=SlAt z E h v xs∧xs.length≤9223372036854775807
theorem SlB.ext {α:Type} {z:Nat} {E:Elem α} (hE:Mono E) {h h':Heap} {v:Value} {xs:List α} (hx:ExtH h h') (hs:SlB z E h v xs):SlB z E h' v xs:=⟨hs.1.ext hE hx,hs.2⟩
theorem SlB.one {α:Type} {z:Nat} {E:Elem α} {h:Heap} {v:Value} {xs:List α} (hs:SlB z E h v xs):v.oneCell'=true:=hs.1.one
theorem Zxw {pre c post:List Value} {j:Nat} {v:Value} (hj:j<c.length):(pre++c++post).set (pre.length+j) v=pre++c.set j v++post:=by
 rw [List.append_assoc,List.append_assoc,List.set_append,if_neg (by omega),List.set_append,if_pos (by omega)]
 simp
theorem Zze {h0 h:Heap} {L:Rws} {D:Heap→Prop} {b:Nat} {pre c post:List Value} (st:Sta h0 h ((b,.cs (pre++c++post))::L) D) (j:Nat) {m:Nat} {a:Addr} {v:Value} {K:Heap→Prop} (hm:pre.length=m) (ha:a=⟨b,m+j,none⟩) (hj:(c[j]?).isSome=true)
  (h1:v.oneCell'=true) (hk:∀ h',Sta h0 h' ((b,.cs (pre++c.set j v++post))::L) D→K h'):vStore1 h a v K:=by
 subst hm
 obtain ⟨u,hu⟩:=Option.isSome_iff_exists.1 hj
 have hlt:=ZR hu
 refine ZpB st 0 ha rfl ?_ h1 fun h' st'=>hk h' ?_
 ·rw [List.append_assoc,List.getElem?_append_right (by omega),List.getElem?_append_left (by omega)]
  simpa using hj
 ·rw [Zxw hlt] at st'
  exact st'
theorem Zmv (n:Nat) (z:List Value):(repl n z).length=n*z.length:=by
 induction n with
 | zero=>simp [repl]
 | succ n ih=>rw [repl,List.length_append,ih,Nat.add_mul];omega
end Go.Vc
