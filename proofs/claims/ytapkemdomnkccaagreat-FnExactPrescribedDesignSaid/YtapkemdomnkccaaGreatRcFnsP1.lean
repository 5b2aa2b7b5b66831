/- Each call computes its plain function: printed by pgen.py. -/
import Derived.Test.YtapkemdomnkccaaGreatPuFns
import Derived.Test.YtapkemdomnkccaaGreatVcFns
import Derived.Test.YtapkemdomnkccaaGreatVcFld
import Derived.Test.YtapkemdomnkccaaGreatVcCl
import Derived.Test.YtapkemdomnkccaaGreatVcSortI
import Derived.Test.YtapkemdomnkccaaGreatVcLay
namespace Go.Proofs.YtapkemdomnkccaaGreat
open Go Go.Vc
set_option linter.unusedVariables false
set_option linter.unusedSimpArgs false
def ZHx : El ZDj := El.iso (El.pair eI (El.sl eL)) (fun x => (x.Degree, x.Elements)) (ZDj.mk (0 : Int) ([] : List (List Int))) rfl
theorem ZIO {φ : CM} {L : Rws} {cs : List Value} {x : ZDj} (h : ZHx.R φ L cs x) : ∃ v1 : Value, cs = [.int .i64 x.Degree, v1] ∧ SlC φ eL v1 x.Elements := by
  obtain ⟨_, _, _, _, rfl, _, a1_0, b1_0⟩ := h
  obtain ⟨_, rfl⟩ := a1_0
  obtain ⟨_, w3, rfl, g3⟩ := b1_0
  exact ⟨w3, rfl, g3⟩
abbrev zR (f : FuncId) (a : Array Value) (h : Heap) (ψ : CM) (u : Value) : Prop := CallsH P f a h fun v h' => v = u ∧ S ψ h h' []
abbrev zL {α : Type} (f : FuncId) (a : Array Value) (h : Heap) (ψ : CM) (E : El α) (r : List α) : Prop := CallsH P f a h fun v h' => ∃ w0 : Value, v = w0 ∧ S ψ h h' [.it (El.ow E) [w0] r]
section
variable {ψ : CM} {h : Heap} (hψ : CLe ψ (hcell h))
include hψ
theorem ZqR {a0 v0 left1 r} (hp : Zb7 a0 left1 = some r) (f0 : SlC (hcell h) eI v0 a0) : zR Zji #[v0, .int .i64 left1] h ψ (.int .i64 r) := by
 apply ZtE
 rw [Zb7] at hp
 have st := S.start hψ
 refine vL f0 st.le ?_
 exact brQ hp (fun hp => tZ) fun hp => tZ
theorem ZwL {a0 v0 left1 r} (hp : Zfv a0 left1 = some r) (f0 : SlC (hcell h) eL v0 a0) : zR Zjm #[v0, .int .i64 left1] h ψ (.int .i64 r) := by
 apply ZvA
 rw [Zfv] at hp
 have st := S.start hψ
 refine vL f0 st.le ?_
 refine brQ hp (fun hp => tZ) fun hp => ?_
 refine lp2 hp (nlS st) fun m left1_2 i5 h_2 a st hp hs => ?_
 rw [Zge] at hp
 refine vL f0 st.le ?_
 refine brR hp (fun hp => tZ) fun hp => ?_
 refine ixV f0 st.le hp fun e20 u21 f hp => ?_
 refine cl0 hp st (fun s _ _ hx_2 => ZqR s.fle hx_2 (f.mono st.le)) fun r23 h_3 st hp => ⟨_, rfl, ?_⟩
 exact brQ hp (fun hp => tZ) fun hp => tZ
theorem ZK1 {a0 v0_1 left1 r} (hp : ZEN a0 left1 = some r) (f0_1 : SlC (hcell h) eL v0_1 a0.Elements) : zR ZGJ #[.agg #[.int .i64 a0.Degree, v0_1], .int .i64 left1] h ψ (.int .i64 r) := by
 apply ZIr
 rw [ZEN] at hp
 have st := S.start hψ
 refine new_S st fun b2 h_2 st => ?_
 refine bV st 0 1 ?_
 refine cl0 hp st (fun s _ _ hx => ZwL s.fle hx (f0_1.mono st.le)) fun r8 h_3 st hp => ⟨_, rfl, ?_⟩
 exact brQ hp (fun hp => tZ) fun hp => tZ
theorem Zac {n0 low1 high2 r} (hp : ZY n0 low1 high2 = some r)  : zR Z8 #[.int .i64 n0, .int .i64 low1, .int .i64 high2] h ψ (.bool r) := by
 apply Zwp
 rw [ZY] at hp
 have st := S.start hψ
 exact brQ hp (fun hp => tZ) fun hp => tZ
theorem Zrz {list0 v0 n1 r} (hp : Ze1 list0 n1 = some r) (f0 : SlC (hcell h) eI v0 list0) : zR Zju #[v0, .int .i64 n1] h ψ (.bool r) := by
 apply Zru
 rw [Ze1] at hp
 have st := S.start hψ
 refine lp1 hp (nlS st) fun m i5 h_2 a st hp hs => ?_
 rw [Zc4] at hp
 refine vL f0 st.le ?_
 refine brR hp (fun hp => tZ) fun hp => ?_
 refine ixI (f0.mono st.le) hp fun e14 hp => ?_
 exact brQ hp (fun hp => tZ) fun hp => tZ
theorem ZiM {p0 v0 r} (hp : Zcv p0 = some r) (f0 : SlC (hcell h) eI v0 p0) : zR Zfx #[v0] h ψ (.bool r) := by
 apply ZqH
 rw [Zcv] at hp
 have st := S.start hψ
 refine vL f0 st.le ?_
 refine brQ hp (fun hp => tZ) fun hp => ?_
 refine lp1 hp (nlS st) fun m i3 h_2 a st hp hs => ?_
 rw [ZcV] at hp
 refine vL f0 st.le ?_
 refine brR hp (fun hp => tZ) fun hp => ?_
 refine ixI (f0.mono st.le) hp fun e15 hp => ?_
 refine vL f0 st.le ?_
 refine cl0 hp st (fun s _ _ hx_2 => Zac s.fle hx_2) fun r20 h_3 st hp => ⟨_, rfl, ?_⟩
 refine brQ hp (fun hp => tZ) fun hp => ?_
 obtain ⟨l25, hx_3, hp⟩ := obind hp
 refine Zhz none (some i3) f0 hx_3 rfl fun v25 f => ?_
 refine ixI (f0.mono st.le) hp fun e28 hp => ?_
 refine cl0 hp st (fun s_2 _ _ hx_5 => Zrz s_2.fle hx_5 (f.mono st.le)) fun r30 h_4 st hp => ⟨_, rfl, ?_⟩
 exact brQ hp (fun hp => tZ) fun hp => tZ
theorem Zj0 {a0 v0 b1 v1 r} (hp : Zce a0 b1 = some r) (f0 : SlC (hcell h) eI v0 a0) (f1 : SlC (hcell h) eI v1 b1) : zR ZeJ #[v0, v1] h ψ (.int .i64 r) := by
 apply Zrq
 rw [Zce] at hp
 have st := S.start hψ
 refine ⟨fun h_2 => S ψ h h_2 [] ∧ Zb2 a0 b1 = some r, ?_, ?_⟩
 ·refine lp1 hp (nlS st) fun m i5 h_3 a st hp hs => ?_
  rw [Za8] at hp
  refine ⟨fun h_4 => S ψ h h_4 [] ∧ ZdD a0 b1 i5 = some a, ?_, ?_⟩
  ·refine vL f0 st.le ?_
   refine brQ hp (fun hp => ?_) fun hp => ?_
   ·refine vL f1 st.le ?_
    refine brQ hp (fun hp => tZ) fun hp => ?_
    obtain ⟨xm, hq, rfl⟩ := omap hp
    obtain rfl := oI hs
    exact ⟨nlS st, hq⟩
   ·obtain ⟨xm, hq, rfl⟩ := omap hp
    obtain rfl := oI hs
    exact ⟨nlS st, hq⟩
  ·rintro _ h_4 ⟨st, hp⟩
   rw [ZdD] at hp
   refine ixI (f0.mono st.le) hp fun e20 hp => ?_
   refine ixI (f1.mono st.le) hp fun e24 hp => ?_
   refine brQ hp (fun hp => tZ) fun hp => ?_
   refine ixI (f0.mono st.le) hp fun e29 hp => ?_
   refine ixI (f1.mono st.le) hp fun e33 hp => ?_
   exact brQ hp (fun hp => tZ) fun hp => tZ
 ·rintro _ h_2 ⟨st, hp⟩
  rw [Zb2] at hp
  refine vL f0 st.le ?_
  refine vL f1 st.le ?_
  refine brQ hp (fun hp => tZ) fun hp => ?_
  refine vL f0 st.le ?_
  refine vL f1 st.le ?_
  exact brQ hp (fun hp => tZ) fun hp => tZ
theorem Zmq {list0 v0 p1 v1 r} (hp : Zcs list0 p1 = some r) (f0 : SlC (hcell h) eL v0 list0) (f1 : SlC (hcell h) eI v1 p1) : zR ZgS #[v0, v1] h ψ (.tuple #[.int .i64 r.1, .bool r.2]) := by
 apply ZoP
 rw [Zcs] at hp
 have st := S.start hψ
 refine vL f0 st.le ?_
 refine lp2 hp (nlS st) fun m low6 high7 h_2 a st hp hs => ?_
 rw [ZaN] at hp
 refine brR hp (fun hp => tZ) fun hp => ?_
 obtain ⟨_, hx, hp⟩ := obind hp
 refine ⟨Zaa hx, ?_⟩
 refine ixV f0 st.le hp fun e21 u22 f hp => ?_
 refine cl0 hp st (fun s _ _ hx_3 => Zj0 s.fle hx_3 (f.mono st.le) (f1.mono st.le)) fun r24 h_3 st hp => ⟨_, rfl, ?_⟩
 refine brQ hp (fun hp => tZ) fun hp => ?_
 exact brQ hp (fun hp => tZ) fun hp => tZ
theorem ZqJ {n0 r} (hp : Zet n0 = some r)  : zL Zka #[.int .i64 n0] h ψ eI r := by
 apply Zq5
 rw [Zet] at hp
 have st := S.start hψ
 refine Zan (E := eI) (css := []) (xs := ([] : List Int)) st (fun _ => rfl) rfl rfl fun v5 h_2 st => ?_
 obtain ⟨n_2, hn⟩ := Zy hp
 refine ⟨fun n v3 i4 h_3 => ∃ out3 : List Int, S ψ h h_3 [.it oL [v3] out3] ∧ loopN (ZdG n0) n (out3, i4) = some r, ⟨n_2, _, pk st [0], hn⟩, ?_⟩
 rintro n _ v3 i4 h_3 ⟨out3, st, hn⟩
 obtain ⟨m, a, rfl, hp, hs⟩ := Zw hn
 rw [ZdG] at hp
 refine brQ hp (fun hp => ?_) fun hp => ?_
 ·obtain ⟨l14, hx, hp⟩ := obind hp
  refine Zad st 0 rfl (fun _ => ⟨rfl, rfl⟩) rfl rfl hx fun v14 h_4 st => ?_
  dsimp only [List.set] at st
  obtain rfl := oI hp
  exact ⟨m, ltS, _, pk st [0], hs⟩
 ·obtain rfl := oI hp
  obtain rfl := oI hs
  exact ⟨v3, rfl, pk st [0]⟩
theorem ZvX {p0 v0 q1 v1 r} (hp : Zfc p0 q1 = some r) (f0 : SlC (hcell h) eI v0 p0) (f1 : SlC (hcell h) eI v1 q1) : zL ZiJ #[v0, v1] h ψ eI r := by
 apply Zwa
 rw [Zfc] at hp
 have st := S.start hψ
 refine Zan (E := eI) (css := []) (xs := ([] : List Int)) st (fun _ => rfl) rfl rfl fun v7 h_2 st => ?_
 obtain ⟨n_2, hn⟩ := Zy hp
 refine ⟨fun n v5 i6 h_3 => ∃ out5 : List Int, S ψ h h_3 [.it oL [v5] out5] ∧ loopN (ZdB p0 q1) n (out5, i6) = some r, ⟨n_2, _, pk st [0], hn⟩, ?_⟩
 rintro n _ v5 i6 h_3 ⟨out5, st, hn⟩
 obtain ⟨m, a, rfl, hp, hs⟩ := Zw hn
 rw [ZdB] at hp
 refine vL f0 st.le ?_
 refine brQ hp (fun hp => ?_) fun hp => ?_
 ·refine ixI (f0.mono st.le) hp fun e18 hp => ?_
  refine ixI (f1.mono st.le) hp fun e20 hp => ?_
  obtain ⟨l23, hx_3, hp⟩ := obind hp
  refine Zad st 0 rfl (fun _ => ⟨rfl, rfl⟩) rfl rfl hx_3 fun v23 h_4 st => ?_
  dsimp only [List.set] at st
  obtain rfl := oI hp
  exact ⟨m, ltS, _, pk st [0], hs⟩
 ·obtain rfl := oI hp
  obtain rfl := oI hs
  exact ⟨v5, rfl, pk st [0]⟩
theorem Ztz {list0 v0 at1 p2 v2 r} (hp : ZfA list0 at1 p2 = some r) (f0 : SlC ψ eL v0 list0) (f2 : SlC ψ eI v2 p2) : zL Zkq #[v0, .int .i64 at1, v2] h ψ eL r := by
 apply Zqh
 rw [ZfA] at hp
 have st := S.start hψ
 refine Zan (E := eL) (css := []) (xs := ([] : List (List Int))) st (fun _ => rfl) rfl rfl fun v8 h_2 st => ?_
 obtain ⟨l11, hx, hp⟩ := obind hp
 refine Zhz none (some at1) f0 hx rfl fun v11 f => ?_
 have st := st.arg f
 obtain ⟨l12, hx_2, hp⟩ := obind hp
 refine app_S st 1 rfl (ZnM 0 rfl) rfl rfl hx_2 fun v12 h_3 st => ?_
 dsimp only [List.set] at st
 refine Zz (f2.mono st.leF).one ?_
 have st := st.arg f2
 obtain ⟨l16, hx_3, hp⟩ := obind hp
 refine Zcn st 1 rfl rfl rfl hx_3 fun v16 h_4 st => ?_
 dsimp only [List.set] at st
 obtain ⟨l20, hx_4, hp⟩ := obind hp
 refine Zhz (some at1) none f0 hx_4 rfl fun v20 f_2 => ?_
 have st := st.arg f_2
 obtain ⟨l21, hx_5, hp⟩ := obind hp
 refine app_S st 2 rfl (ZnM 0 rfl) rfl rfl hx_5 fun v21 h_5 st => ?_
 dsimp only [List.set] at st
 obtain rfl := oI hp
 exact ⟨v21, rfl, pk st [2]⟩
theorem Zoh {degree0 genera1 v1 most2 r} (hp : ZbQ degree0 genera1 most2 = some r) (f1 : SlC (hcell h) eL v1 genera1) : CallsH P Zgu #[.int .i64 degree0, v1, .int .i64 most2] h (fun v h' => ∃ w0 : Value, v = .tuple #[w0, .bool r.2] ∧ S ψ h h' [.it (El.ow eL) [w0] r.1]) := by
 apply Zr2
 rw [ZbQ] at hp
 have st := S.start hψ
 refine cl1 hp st (fun s _ _ hx => ZqJ s.fle hx) fun r17 v17 h_2 st hp => ⟨_, rfl, ?_⟩
 refine Zz (st.rdL 0 rfl (Za _)).one ?_
 have st := st.freeze 0 rfl (Ze (Za _))
 dsimp only [List.set] at st
 have st := st.copyF 0 rfl
 refine ZjG st fun v19 h_3 st => ?_
 refine Zz (st.rdF 1 rfl).one ?_
 have st := st.copyF 1 rfl
 refine ZjG st fun v21 h_4 st => ?_
 obtain ⟨n_4, hn⟩ := Zy hp
 refine ⟨fun n v9 v10 i11 h_5 => ∃ list9 : List (List Int), ∃ queue10 : List (List Int), S ψ h h_5 [.it (El.ow eL) [v10] queue10, .it (El.ow eL) [v9] list9, .it eL [v17] r17] ∧ loopN (Zbg genera1 most2) n (list9, queue10, i11) = some r, ⟨n_4, _, _, pk st [0,1,2], hn⟩, ?_⟩
 rintro n _ v9 v10 i11 h_5 ⟨list9, queue10, st, hn⟩
 obtain ⟨m, a, rfl, hp, hs⟩ := Zw hn
 rw [Zbg] at hp
 refine ZC (st.rdL 0 rfl (ZN _)) ?_
 refine brQ hp (fun hp => ?_) fun hp => ?_
 ·obtain ⟨n_3, hn_2⟩ := Zy hp
  refine ⟨fun n_2 v9_2 v10_2 k12 h_6 => ∃ list9_2 : List (List Int), ∃ queue10_2 : List (List Int), S ψ h h_6 [.it (El.ow eL) [v10_2] queue10_2, .it (El.ow eL) [v9_2] list9_2, .it eL [v17] r17] ∧ loopN (Zas genera1 most2 i11) n_2 (list9_2, queue10_2, k12) = some a, ⟨n_3, _, _, pk st [0,1,2], hn_2⟩, ?_⟩
  rintro n_2 _ v9_2 v10_2 k12 h_6 ⟨list9_2, queue10_2, st, hn_2⟩
  obtain ⟨m_2, a_2, rfl, hp, hs_2⟩ := Zw hn_2
  rw [Zas] at hp
  refine vL f1 st.le ?_
  refine brQ hp (fun hp => ?_) fun hp => ?_
  ·refine ixA (st.rdL 0 rfl (ZN _)) hp fun e36 p36 ad hx_2 hp => ?_
   refine Zc9 st 0 rfl ad hx_2 fun u37 st => ?_
   refine ixV f1 st.le hp fun e40 u41 f hp => ?_
   refine cl1 hp st (fun s_2 _ _ hx_4 => ZvX s_2.fle hx_4 (st.rdF 0 rfl) (f.mono st.le)) fun r42 v42 h_7 st hp => ⟨_, rfl, ?_⟩
   refine cl0 hp st (fun s_3 _ _ hx_5 => Zmq s_3.fle hx_5 (st.rdL 3 rfl (ZN _)) (st.rdL 0 rfl (Za _))) fun r46 h_8 st hp => ⟨_, _, rfl, ?_⟩
   refine brQ hp (fun hp => ?_) fun hp => ?_
   ·obtain rfl := oI hp
    exact ⟨m_2, ltS, _, _, pk st [2,3,4], hs_2⟩
   ·refine ZC (st.rdL 3 rfl (ZN _)) ?_
    refine brQ hp (fun hp => ?_) fun hp => ?_
    ·have st := st.nilO (E := eL)
     obtain rfl := oI hp
     obtain rfl := oI hs_2
     obtain rfl := oI hs
     exact ⟨(.slice none 0 0), rfl, pk st [0]⟩
    ·have st := st.freeze 3 rfl (Ze (ZN _))
     dsimp only [List.set] at st
     have st := st.freeze 0 rfl (Ze (Za _))
     dsimp only [List.set] at st
     refine cl1 hp st (fun s_4 r_5 _ hx_6 => Ztz s_4.fle hx_6 (frF r_5 3 rfl) (frF r_5 0 rfl)) fun r57 v57 h_9 st hp => ⟨_, rfl, ?_⟩
     refine Zz (st.rdF 1 rfl).one ?_
     have st := st.copyF 1 rfl
     obtain ⟨l61, hx_7, hp⟩ := obind hp
     refine Zcn st 3 rfl rfl rfl hx_7 fun v61 h_10 st => ?_
     dsimp only [List.set] at st
     obtain rfl := oI hp
     exact ⟨m_2, ltS, _, _, pk st [3,0,5], hs_2⟩
  ·obtain rfl := oI hp
   obtain rfl := oI hs_2
   exact ⟨m, ltS, _, _, pk st [0,1,2], hs⟩
 ·obtain rfl := oI hp
  obtain rfl := oI hs
  exact ⟨v9, rfl, pk st [1]⟩
theorem Zlh {list0 v0 r} (hp : ZaO list0 = some r) (f0 : SlC (hcell h) eI v0 list0) : zL ZfC #[v0] h ψ eI r := by
 apply Zu9
 rw [ZaO] at hp
 have st := S.start hψ
 refine Zan (E := eI) (css := []) (xs := ([] : List Int)) st (fun _ => rfl) rfl rfl fun v3 h_2 st => ?_
 obtain ⟨l5, hx, hp⟩ := obind hp
 refine app_S st 0 rfl (ZnY (Zmh _) (f0.mono st.le)) rfl rfl hx fun v5 h_3 st => ?_
 dsimp only [List.set] at st
 obtain rfl := oI hp
 exact ⟨v5, rfl, pk st [0]⟩
theorem Zuq {a0 v0 b1 v1 r} (hp : Zeu a0 b1 = some r) (f0 : SlC (hcell h) eI v0 a0) (f1 : SlC (hcell h) eI v1 b1) : zR Zi3 #[v0, v1] h ψ (.bool r) := by
 apply Zrh
 rw [Zeu] at hp
 have st := S.start hψ
 refine vL f0 st.le ?_
 refine vL f1 st.le ?_
 refine brQ hp (fun hp => tZ) fun hp => ?_
 refine lp1 hp (nlS st) fun m i5 h_2 a st hp hs => ?_
 rw [ZeE] at hp
 refine vL f0 st.le ?_
 refine brR hp (fun hp => tZ) fun hp => ?_
 refine ixI (f0.mono st.le) hp fun e19 hp => ?_
 refine ixI (f1.mono st.le) hp fun e23 hp => ?_
 exact brQ hp (fun hp => tZ) fun hp => tZ
theorem ZnI {a0 v0 b1 v1 r} (hp : Zdg a0 b1 = some r) (f0 : SlC (hcell h) eL v0 a0) (f1 : SlC (hcell h) eL v1 b1) : zR ZgC #[v0, v1] h ψ (.bool r) := by
 apply ZpB
 rw [Zdg] at hp
 have st := S.start hψ
 refine vL f0 st.le ?_
 refine vL f1 st.le ?_
 refine brQ hp (fun hp => tZ) fun hp => ?_
 refine lp1 hp (nlS st) fun m i5 h_2 a st hp hs => ?_
 rw [Zf2] at hp
 refine vL f0 st.le ?_
 refine brR hp (fun hp => tZ) fun hp => ?_
 refine ixV f0 st.le hp fun e19 u20 f hp => ?_
 refine ixV f1 st.le hp fun e23 u24 f_2 hp => ?_
 refine cl0 hp st (fun s _ _ hx_3 => Zuq s.fle hx_3 (f.mono st.le) (f_2.mono st.le)) fun r25 h_3 st hp => ⟨_, rfl, ?_⟩
 exact brQ hp (fun hp => tZ) fun hp => tZ
theorem ZrZ {degree0 list1 v1 r} (hp : ZeY degree0 list1 = some r) (f1 : SlC (hcell h) eL v1 list1) : CallsH P Zj3 #[.int .i64 degree0, v1] h (fun v h' => ∃ w0 : Value, v = .tuple #[w0, .bool r.2] ∧ S ψ h h' [.it (El.ow eL) [w0] r.1]) := by
 apply Zvw
 rw [ZeY] at hp
 have st := S.start hψ
 refine Zan (E := eL) (css := []) (xs := ([] : List (List Int))) st (fun _ => rfl) rfl rfl fun v14 h_2 st => ?_
 refine cl1 hp st (fun s _ _ hx => Zoh s.fle hx (st.rdL 0 rfl (ZN _))) fun r18 v18 h_3 st hp => ⟨_, _, rfl, ?_⟩
 obtain ⟨n_2, hn⟩ := Zy hp
 refine ⟨fun n v6 v7 i9 h_4 => ∃ out6 : List (List Int), ∃ have7 : List (List Int), S ψ h h_4 [.it (El.ow eL) [v7] have7, .it (El.ow eL) [v6] out6] ∧ loopN (ZaV degree0 list1) n (out6, have7, i9) = some r, ⟨n_2, _, _, pk st [0,1], hn⟩, ?_⟩
 rintro n _ v6 v7 i9 h_4 ⟨out6, have7, st, hn⟩
 obtain ⟨m, a, rfl, hp, hs⟩ := Zw hn
 rw [ZaV] at hp
 refine vL f1 st.le ?_
 refine brQ hp (fun hp => ?_) fun hp => ?_
 ·refine ixV f1 st.le hp fun e31 u32 f hp => ?_
  refine cl0 hp st (fun s_2 _ _ hx_3 => Zmq s_2.fle hx_3 (st.rdL 0 rfl (ZN _)) (f.mono st.le)) fun r33 h_5 st hp => ⟨_, _, rfl, ?_⟩
  refine brQ hp (fun hp => ?_) fun hp => ?_
  ·obtain rfl := oI hp
   exact ⟨m, ltS, _, _, pk st [0,1], hs⟩
  ·refine ixV f1 st.le hp fun e40 u41 f_2 hp => ?_
   refine cl1 hp st (fun s_3 _ _ hx_5 => Zlh s_3.fle hx_5 (f_2.mono st.le)) fun r42 v42 h_6 st hp => ⟨_, rfl, ?_⟩
   refine Zz (st.rdL 0 rfl (Za _)).one ?_
   have st := st.freeze 0 rfl (Ze (Za _))
   dsimp only [List.set] at st
   have st := st.copyF 0 rfl
   obtain ⟨l44, hx_6, hp⟩ := obind hp
   refine Zcn st 2 rfl rfl rfl hx_6 fun v44 h_7 st => ?_
   dsimp only [List.set] at st
   refine vL f1 st.le ?_
   refine cl1 hp st (fun s_4 _ _ hx_7 => Zoh s_4.fle hx_7 (st.rdL 2 rfl (ZN _))) fun r50 v50 h_8 st hp => ⟨_, _, rfl, ?_⟩
   refine brQ hp (fun hp => ?_) fun hp => ?_
   ·have st := st.nilO (E := eL)
    obtain rfl := oI hp
    obtain rfl := oI hs
    exact ⟨(.slice none 0 0), rfl, pk st [0]⟩
   ·obtain rfl := oI hp
    exact ⟨m, ltS, _, _, pk st [0,3], hs⟩
 ·refine cl0 hp st (fun s_5 _ _ hx_8 => ZnI s_5.fle hx_8 (st.rdL 0 rfl (ZN _)) (f1.mono st.le)) fun r59 h_9 st hp => ⟨_, rfl, ?_⟩
  obtain rfl := oI hp
  obtain rfl := oI hs
  exact ⟨v6, rfl, pk st [1]⟩
theorem Zvo {y0 p0 v0_1 r} (hp : Zeh y0 = some r) (ck0 : CellsC (hcell h) p0 [.int .i64 y0.Degree, v0_1]) (f0_1 : SlC (hcell h) eL v0_1 y0.Elements) : zR ZlK #[.pointer (some p0)] h ψ (.bool r) := by
 apply ZtM
 rw [Zeh] at hp
 have st := S.start hψ
 refine ⟨fun h_2 => S ψ h h_2 [] ∧ Zhg y0 = some r, ?_, ?_⟩
 ·refine kI ck0 st.le 0 ?_
  refine cl0 hp st (fun s_4 _ _ hx_8 => Zac s_4.fle hx_8) fun r10 h_7 st hp => ⟨_, rfl, ?_⟩
  refine brQ hp (fun hp => tZ) fun hp => ?_
  refine kV ck0 st.le 1 ?_
  refine vL f0_1 st.le ?_
  refine brQ hp (fun hp => tZ) fun hp => ?_
  refine kV ck0 st.le 1 ?_
  refine vL f0_1 st.le ?_
  exact brQ hp (fun hp => tZ) fun hp => tZ
 ·rintro _ h_2 ⟨st, hp⟩
  rw [Zhg] at hp
  refine lp1 hp (nlS st) fun m y3 h_3 a st hp hs => ?_
  rw [ZbB] at hp
  refine kV ck0 st.le 1 ?_
  refine vL f0_1 st.le ?_
  refine brQ hp (fun hp => ?_) fun hp => ?_
  ·refine kV ck0 st.le 1 ?_
   refine ixV f0_1 st.le hp fun e42 u43 f hp => ?_
   refine cl0 hp st (fun s _ _ hx_2 => ZiM s.fle hx_2 (f.mono st.le)) fun r44 h_4 st hp => ⟨_, rfl, ?_⟩
   refine brQ hp (fun hp => tZ) fun hp => ?_
   refine kV ck0 st.le 1 ?_
   refine ixV f0_1 st.le hp fun e52 u53 f_2 hp => ?_
   refine vL f_2 st.le ?_
   refine kI ck0 st.le 0 ?_
   refine brQ hp (fun hp => tZ) fun hp => ?_
   refine brR hp (fun hp => tZ) fun hp => ?_
   refine kV ck0 st.le 1 ?_
   refine ixV f0_1 st.le hp fun e71 u72 f_3 hp => ?_
   refine kV ck0 st.le 1 ?_
   refine ixV f0_1 st.le hp fun e78 u79 f_4 hp => ?_
   refine cl0 hp st (fun s_2 _ _ hx_6 => Zj0 s_2.fle hx_6 (f_3.mono st.le) (f_4.mono st.le)) fun r80 h_5 st hp => ⟨_, rfl, ?_⟩
   exact brQ hp (fun hp => tZ) fun hp => tZ
  ·refine kI ck0 st.le 0 ?_
   refine kV ck0 st.le 1 ?_
   refine cl1 hp st (fun s_3 _ _ hx_7 => ZrZ s_3.fle hx_7 (f0_1.mono st.le)) fun r93 v93 h_6 st hp => ⟨_, _, rfl, ?_⟩
   exact tZ
theorem ZKX {budget0 r} (hp : ZEL budget0 = some r)  : zR ZF4 #[.int .i64 budget0] h ψ (.bool r) := by
 apply ZJi
 rw [ZEL] at hp
 have st := S.start hψ
 refine cl0 hp st (fun s _ _ hx => Zac s.fle hx) fun r4 h_2 st hp => ⟨_, rfl, ?_⟩
 exact tZ
theorem ZEv {n0 k1 r} (hp : ZDq n0 k1 = some r)  : zR ZDH #[.int .i64 n0, .int .i64 k1] h ψ (.int .i64 r) := by
 apply ZJj
 rw [ZDq] at hp
 have st := S.start hψ
 refine ⟨fun h_2 => S ψ h h_2 [] ∧ ZE8 n0 k1 = some r, ?_, ?_⟩
 ·refine cl0 hp st (fun s _ _ hx_2 => Zac s.fle hx_2) fun r8 h_4 st hp => ⟨_, rfl, ?_⟩
  refine brQ hp (fun hp => tZ) fun hp => ?_
  refine cl0 hp st (fun s_2 _ _ hx_3 => Zac s_2.fle hx_3) fun r13 h_5 st hp => ⟨_, rfl, ?_⟩
  exact brQ hp (fun hp => tZ) fun hp => tZ
 ·rintro _ h_2 ⟨st, hp⟩
  rw [ZE8] at hp
  refine lp2 hp (nlS st) fun m out5 i6 h_3 a st hp hs => ?_
  rw [ZFZ] at hp
  refine brR hp (fun hp => tZ) fun hp => ?_
  obtain ⟨_, hx, hp⟩ := obind hp
  refine ⟨Zaa hx, ?_⟩
  exact tZ
theorem ZKy {lists0 v0 x1 v1 r} (hp : ZFJ lists0 x1 = some r) (f0 : SlC ψ eL v0 lists0) (f1 : SlC ψ eI v1 x1) : zL ZF5 #[v0, v1] h ψ eL r := by
 apply ZKd
 rw [ZFJ] at hp
 have st := S.start hψ
 refine Zan (E := eL) (css := []) (xs := ([] : List (List Int))) st (fun _ => rfl) rfl rfl fun v9 h_2 st => ?_
 obtain ⟨n_2, hn⟩ := Zy hp
 refine ⟨fun n v5 done6 i7 h_3 => ∃ out5 : List (List Int), S ψ h h_3 [.it (El.ow eL) [v5] out5] ∧ loopN (ZDk lists0 x1) n (out5, done6, i7) = some r, ⟨n_2, _, pk st [0], hn⟩, ?_⟩
 rintro n _ v5 done6 i7 h_3 ⟨out5, st, hn⟩
 obtain ⟨m, a, rfl, hp, hs⟩ := Zw hn
 rw [ZDk] at hp
 refine vL f0 st.leF ?_
 refine brQ hp (fun hp => ?_) fun hp => ?_
 ·refine ixV f0 st.leF hp fun e18 u19 f hp => ?_
  refine cl0 hp st (fun s _ _ hx_2 => Zj0 s.fle hx_2 (f.mono st.leF) (f1.mono st.leF)) fun r21 h_4 st hp => ⟨_, rfl, ?_⟩
  refine ⟨fun v5_2 done6_2 h_5 => ∃ out5_2 : List (List Int), S ψ h h_5 [.it (El.ow eL) [v5_2] out5_2] ∧ ZDA lists0 i7 out5_2 done6_2 = some a, ?_, ?_⟩
  ·refine ⟨fun y27 h_7 => S ψ h h_7 [.it (El.ow eL) [v5] out5] ∧ ZDM lists0 x1 out5 done6 i7 r21 y27 = some a, ?_, ?_⟩
   ·refine brQ hp (fun hp => ?_) fun hp => ?_
    ·exact ⟨pk st [0], hp⟩
    ·exact ⟨pk st [0], hp⟩
   ·rintro _ y27 h_7 ⟨st, hp⟩
    rw [ZDM] at hp
    refine brQ hp (fun hp => ?_) fun hp => ?_
    ·refine brQ hp (fun hp => ?_) fun hp => ?_
     ·refine Zz (f1.mono st.leF).one ?_
      have st := st.arg f1
      obtain ⟨l33, hx_5, hp⟩ := obind hp
      refine Zcn st 0 rfl rfl rfl hx_5 fun v33 h_8 st => ?_
      dsimp only [List.set] at st
      exact ⟨_, pk st [0], hp⟩
     ·exact ⟨_, pk st [0], hp⟩
    ·exact ⟨_, pk st [0], hp⟩
  ·rintro _ v5_2 done6_2 h_5 ⟨out5_2, st, hp⟩
   rw [ZDA] at hp
   refine ixV f0 st.leF hp fun e37 u38 f_2 hp => ?_
   refine Zz (f_2.mono st.leF).one ?_
   have st := st.arg f_2
   obtain ⟨l40, hx_4, hp⟩ := obind hp
   refine Zcn st 0 rfl rfl rfl hx_4 fun v40 h_6 st => ?_
   dsimp only [List.set] at st
   obtain rfl := oI hp
   exact ⟨m, ltS, _, pk st [0], hs⟩
 ·refine brQ hp (fun hp => ?_) fun hp => ?_
  ·refine Zz (f1.mono st.leF).one ?_
   have st := st.arg f1
   obtain ⟨l46, hx_6, hp⟩ := obind hp
   refine Zcn st 0 rfl rfl rfl hx_6 fun v46 h_9 st => ?_
   dsimp only [List.set] at st
   obtain rfl := oI hp
   obtain rfl := oI hs
   exact ⟨v46, rfl, pk st [0]⟩
  ·obtain rfl := oI hp
   obtain rfl := oI hs
   exact ⟨v5, rfl, pk st [0]⟩
theorem ZJm {list0 v0 n1 r} (hp : ZFH list0 n1 = some r) (f0 : SlC (hcell h) eI v0 list0) : zL ZGH #[v0, .int .i64 n1] h ψ eI r := by
 apply ZKW
 rw [ZFH] at hp
 have st := S.start hψ
 refine Zan (E := eI) (css := []) (xs := ([] : List Int)) st (fun _ => rfl) rfl rfl fun v8 h_2 st => ?_
 obtain ⟨n_2, hn⟩ := Zy hp
 refine ⟨fun n v5 done6 i7 h_3 => ∃ out5 : List Int, S ψ h h_3 [.it oL [v5] out5] ∧ loopN (ZDl list0 n1) n (out5, done6, i7) = some r, ⟨n_2, _, pk st [0], hn⟩, ?_⟩
 rintro n _ v5 done6 i7 h_3 ⟨out5, st, hn⟩
 obtain ⟨m, a, rfl, hp, hs⟩ := Zw hn
 rw [ZDl] at hp
 refine vL f0 st.le ?_
 refine brQ hp (fun hp => ?_) fun hp => ?_
 ·refine ⟨fun v5_2 done6_2 h_4 => ∃ out5_2 : List Int, S ψ h h_4 [.it oL [v5_2] out5_2] ∧ ZDC list0 i7 out5_2 done6_2 = some a, ?_, ?_⟩
  ·refine ⟨fun y24 h_6 => S ψ h h_6 [.it oL [v5] out5] ∧ ZDI list0 n1 out5 done6 i7 y24 = some a, ?_, ?_⟩
   ·refine brQ hp (fun hp => ?_) fun hp => ?_
    ·refine ixI (f0.mono st.le) hp fun e20 hp => ?_
     exact ⟨pk st [0], hp⟩
    ·exact ⟨pk st [0], hp⟩
   ·rintro _ y24 h_6 ⟨st, hp⟩
    rw [ZDI] at hp
    refine brQ hp (fun hp => ?_) fun hp => ?_
    ·refine ixI (f0.mono st.le) hp fun e27 hp => ?_
     refine brQ hp (fun hp => ?_) fun hp => ?_
     ·obtain ⟨l34, hx_4, hp⟩ := obind hp
      refine Zad st 0 rfl (fun _ => ⟨rfl, rfl⟩) rfl rfl hx_4 fun v34 h_7 st => ?_
      dsimp only [List.set] at st
      exact ⟨_, pk st [0], hp⟩
     ·exact ⟨_, pk st [0], hp⟩
    ·exact ⟨_, pk st [0], hp⟩
  ·rintro _ v5_2 done6_2 h_4 ⟨out5_2, st, hp⟩
   rw [ZDC] at hp
   refine ixI (f0.mono st.le) hp fun e38 hp => ?_
   obtain ⟨l41, hx_2, hp⟩ := obind hp
   refine Zad st 0 rfl (fun _ => ⟨rfl, rfl⟩) rfl rfl hx_2 fun v41 h_5 st => ?_
   dsimp only [List.set] at st
   obtain rfl := oI hp
   exact ⟨m, ltS, _, pk st [0], hs⟩
 ·refine brQ hp (fun hp => ?_) fun hp => ?_
  ·obtain ⟨l47, hx_6, hp⟩ := obind hp
   refine Zad st 0 rfl (fun _ => ⟨rfl, rfl⟩) rfl rfl hx_6 fun v47 h_8 st => ?_
   dsimp only [List.set] at st
   obtain rfl := oI hp
   obtain rfl := oI hs
   exact ⟨v47, rfl, pk st [0]⟩
  ·obtain rfl := oI hp
   obtain rfl := oI hs
   exact ⟨v5, rfl, pk st [0]⟩
theorem ZIH {p0 v0 set1 v1 r} (hp : ZE0 p0 set1 = some r) (f0 : SlC (hcell h) eI v0 p0) (f1 : SlC (hcell h) eI v1 set1) : zL ZG0 #[v0, v1] h ψ eI r := by
 apply ZIc
 rw [ZE0] at hp
 have st := S.start hψ
 refine Zan (E := eI) (css := []) (xs := ([] : List Int)) st (fun _ => rfl) rfl rfl fun v7 h_2 st => ?_
 obtain ⟨n_2, hn⟩ := Zy hp
 refine ⟨fun n v5 i6 h_3 => ∃ out5 : List Int, S ψ h h_3 [.it oL [v5] out5] ∧ loopN (ZEn p0 set1) n (out5, i6) = some r, ⟨n_2, _, pk st [0], hn⟩, ?_⟩
 rintro n _ v5 i6 h_3 ⟨out5, st, hn⟩
 obtain ⟨m, a, rfl, hp, hs⟩ := Zw hn
 rw [ZEn] at hp
 refine vL f1 st.le ?_
 refine brQ hp (fun hp => ?_) fun hp => ?_
 ·refine ixI (f1.mono st.le) hp fun e18 hp => ?_
  refine ixI (f0.mono st.le) hp fun e20 hp => ?_
  refine cl1 hp st (fun s _ _ hx_3 => ZJm s.fle hx_3 (st.rdL 0 rfl (Za _))) fun r22 v22 h_4 st hp => ⟨_, rfl, ?_⟩
  obtain rfl := oI hp
  exact ⟨m, ltS, _, pk st [0], hs⟩
 ·obtain rfl := oI hp
  obtain rfl := oI hs
  exact ⟨v5, rfl, pk st [0]⟩
theorem ZKp {g0 p0 v0_1 set1 v1 r} (hp : ZFi g0 set1 = some r) (ck0 : CellsC (hcell h) p0 [.int .i64 g0.Degree, v0_1]) (f0_1 : SlC (hcell h) eL v0_1 g0.Elements) (f1 : SlC (hcell h) eI v1 set1) : zL ZGt #[.pointer (some p0), v1] h ψ eL r := by
 apply ZKv
 rw [ZFi] at hp
 have st := S.start hψ
 refine Zan (E := eL) (css := []) (xs := ([] : List (List Int))) st (fun _ => rfl) rfl rfl fun v7 h_2 st => ?_
 obtain ⟨n_2, hn⟩ := Zy hp
 refine ⟨fun n v5 i6 h_3 => ∃ out5 : List (List Int), S ψ h h_3 [.it (El.ow eL) [v5] out5] ∧ loopN (ZEC g0 set1) n (out5, i6) = some r, ⟨n_2, _, pk st [0], hn⟩, ?_⟩
 rintro n _ v5 i6 h_3 ⟨out5, st, hn⟩
 obtain ⟨m, a, rfl, hp, hs⟩ := Zw hn
 rw [ZEC] at hp
 refine kV ck0 st.le 1 ?_
 refine vL f0_1 st.le ?_
 refine brQ hp (fun hp => ?_) fun hp => ?_
 ·refine kV ck0 st.le 1 ?_
  refine ixV f0_1 st.le hp fun e23 u24 f hp => ?_
  refine cl1 hp st (fun s _ _ hx_2 => ZIH s.fle hx_2 (f.mono st.le) (f1.mono st.le)) fun r26 v26 h_4 st hp => ⟨_, rfl, ?_⟩
  have st := st.freeze 1 rfl (Ze (ZN _))
  dsimp only [List.set] at st
  have st := st.freeze 0 rfl (Ze (Za _))
  dsimp only [List.set] at st
  refine cl1 hp st (fun s_2 r_3 _ hx_3 => ZKy s_2.fle hx_3 (frF r_3 1 rfl) (frF r_3 0 rfl)) fun r27 v27 h_5 st hp => ⟨_, rfl, ?_⟩
  obtain rfl := oI hp
  exact ⟨m, ltS, _, pk st [0], hs⟩
 ·obtain rfl := oI hp
  obtain rfl := oI hs
  exact ⟨v5, rfl, pk st [0]⟩
theorem ZJ2 {n0 k1 rank2 r} (hp : ZFD n0 k1 rank2 = some r)  : zL ZGI #[.int .i64 n0, .int .i64 k1, .int .i64 rank2] h ψ eI r := by
 apply ZI4
 rw [ZFD] at hp
 have st := S.start hψ
 refine Zan (E := eI) (css := []) (xs := ([] : List Int)) st (fun _ => rfl) rfl rfl fun v10 h_2 st => ?_
 obtain ⟨n_2, hn⟩ := Zy hp
 refine ⟨fun n rank2_2 v7 x8 h_3 => ∃ out7 : List Int, S ψ h h_3 [.it oL [v7] out7] ∧ loopN (ZDx n0 k1) n (rank2_2, out7, x8) = some r, ⟨n_2, _, pk st [0], hn⟩, ?_⟩
 rintro n _ rank2_2 v7 x8 h_3 ⟨out7, st, hn⟩
 obtain ⟨m, a, rfl, hp, hs⟩ := Zw hn
 rw [ZDx] at hp
 refine ⟨fun h_4 => S ψ h h_4 [.it oL [v7] out7] ∧ ZFb n0 k1 rank2_2 out7 x8 = some a, ?_, ?_⟩
 ·refine ZC (st.rdL 0 rfl (Za _)) ?_
  refine brQ hp (fun hp => ?_) fun hp => ?_
  ·refine brQ hp (fun hp => ?_) fun hp => ?_
   ·exact ⟨pk st [0], hp⟩
   ·obtain rfl := oI hp
    obtain rfl := oI hs
    exact ⟨v7, rfl, pk st [0]⟩
  ·obtain rfl := oI hp
   obtain rfl := oI hs
   exact ⟨v7, rfl, pk st [0]⟩
 ·rintro _ h_4 ⟨st, hp⟩
  rw [ZFb] at hp
  refine ZC (st.rdL 0 rfl (Za _)) ?_
  refine cl0 hp st (fun s _ _ hx => ZEv s.fle hx) fun r29 h_5 st hp => ⟨_, rfl, ?_⟩
  refine brQ hp (fun hp => ?_) fun hp => ?_
  ·obtain ⟨l36, hx_2, hp⟩ := obind hp
   refine Zad st 0 rfl (fun _ => ⟨rfl, rfl⟩) rfl rfl hx_2 fun v36 h_6 st => ?_
   dsimp only [List.set] at st
   obtain rfl := oI hp
   exact ⟨m, ltS, _, pk st [0], hs⟩
  ·obtain rfl := oI hp
   exact ⟨m, ltS, _, pk st [0], hs⟩
theorem ZIm {n0 set1 v1 r} (hp : ZFN n0 set1 = some r) (f1 : SlC (hcell h) eI v1 set1) : zR ZGK #[.int .i64 n0, v1] h ψ (.int .i64 r) := by
 apply ZIa
 rw [ZFN] at hp
 have st := S.start hψ
 refine vL f1 st.le ?_
 refine lp3 hp (nlS st) fun m rank5 low6 i8 h_2 a st hp hs => ?_
 rw [ZE2] at hp
 refine brR hp (fun hp => tZ) fun hp => ?_
 refine lp2 hp (nlS st) fun m_2 rank5_2 x9 h_3 a_2 st hp hs_2 => ?_
 rw [ZEH] at hp
 refine ixI (f1.mono st.le) hp fun e21 hp => ?_
 refine brQ hp (fun hp => ?_) fun hp => ?_
 ·refine cl0 hp st (fun s _ _ hx_2 => ZEv s.fle hx_2) fun r35 h_4 st hp => ⟨_, rfl, ?_⟩
  obtain rfl := oI hp
  exact ⟨m_2, ltS, nlS st, hs_2⟩
 ·refine ixI (f1.mono st.le) hp fun e39 hp => ?_
  obtain rfl := oI hp
  obtain rfl := oI hs_2
  exact ⟨m, ltS, nlS st, hs⟩
theorem ZHg {g0 p0 v0_1 k1 r} (hp : ZEb g0 k1 = some r) (ck0 : CellsC (hcell h) p0 [.int .i64 g0.Degree, v0_1]) (f0_1 : SlC (hcell h) eL v0_1 g0.Elements) : zL ZE1 #[.pointer (some p0), .int .i64 k1] h ψ (El.sl eL) r := by
 apply ZIh
 rw [ZEb] at hp
 have st := S.start hψ
 refine kI ck0 st.le 0 ?_
 refine cl0 hp st (fun s _ _ hx => ZEv s.fle hx) fun r16 h_2 st hp => ⟨_, rfl, ?_⟩
 obtain ⟨l18, hx_2, hp⟩ := obind hp
 refine Zaz (E := El.bool) st rfl hx_2 fun v18 h_3 st => ?_
 refine Zan (E := (El.sl eL)) (css := []) (xs := ([] : List (List (List Int)))) st (fun _ => rfl) rfl rfl fun v19 h_4 st => ?_
 obtain ⟨n_4, hn⟩ := Zy hp
 refine ⟨fun n v7 rank8 h_5 => ∃ out7 : List (List (List Int)), ∃ xs : List Bool, S ψ h h_5 [.it (El.ow (El.sl eL)) [v7] out7, .it (El.ow El.bool) [v18] xs] ∧ loopN (ZEd g0 k1 r16) n (out7, rank8, xs) = some r, ⟨n_4, _, _, pk st [0,1], hn⟩, ?_⟩
 rintro n _ v7 rank8 h_5 ⟨out7, xs, st, hn⟩
 obtain ⟨m, a, rfl, hp, hs⟩ := Zw hn
 rw [ZEd] at hp
 refine brQ hp (fun hp => ?_) fun hp => ?_
 ·refine ixA (st.rdL 1 rfl ZDy) hp fun e27 p27 ad hx_3 hp => ?_
  refine ldB_C (st.rdL 1 rfl ZDy) ad hx_3 ?_
  refine brQ hp (fun hp => ?_) fun hp => ?_
  ·obtain rfl := oI hp
   exact ⟨m, ltS, _, _, pk st [0,1], hs⟩
  ·refine kI ck0 st.le 0 ?_
   refine cl1 hp st (fun s_2 _ _ hx_4 => ZJ2 s_2.fle hx_4) fun r36 v36 h_6 st hp => ⟨_, rfl, ?_⟩
   refine cl1 hp st (fun s_3 _ _ hx_5 => ZKp s_3.fle hx_5 (ck0.mono st.le) (f0_1.mono st.le) (st.rdL 0 rfl (Za _))) fun r37 v37 h_7 st hp => ⟨_, rfl, ?_⟩
   obtain ⟨n_3, hn_2⟩ := Zy hp
   refine ⟨fun n_2 i10 h_8 => ∃ xs_2 : List Bool, S ψ h h_8 [.it (El.ow eL) [v37] r37, .it oL [v36] r36, .it (El.ow (El.sl eL)) [v7] out7, .it (El.ow El.bool) [v18] xs_2] ∧ loopN (ZDX g0 out7 rank8 r37) n_2 (i10, xs_2) = some a, ⟨n_3, _, pk st [0,1,2,3], hn_2⟩, ?_⟩
   rintro n_2 _ i10 h_8 ⟨xs_2, st, hn_2⟩
   obtain ⟨m_2, a_2, rfl, hp, hs_2⟩ := Zw hn_2
   rw [ZDX] at hp
   refine ZC (st.rdL 0 rfl (ZN _)) ?_
   refine brQ hp (fun hp => ?_) fun hp => ?_
   ·refine kI ck0 st.le 0 ?_
    refine ixA (st.rdL 0 rfl (ZN _)) hp fun e51 p51 ad_2 hx_6 hp => ?_
    refine Zc9 st 0 rfl ad_2 hx_6 fun u52 st => ?_
    refine cl0 hp st (fun s_4 _ _ hx_7 => ZIm s_4.fle hx_7 (st.rdF 0 rfl)) fun r53 h_9 st hp => ⟨_, rfl, ?_⟩
    refine ixA (st.rdL 4 rfl ZDy) hp fun e54 p54 ad_3 hx_8 hp => ?_
    refine st1_S st 4 rfl ad_3 hx_8 rfl (fun _ => ⟨rfl, rfl⟩) fun h_10 st => ?_
    dsimp only [List.set] at st
    obtain rfl := oI hp
    exact ⟨m_2, ltS, _, pk st [1,2,3,4], hs_2⟩
   ·refine Zz (st.rdL 0 rfl (ZN _)).one ?_
    have st := st.freeze 0 rfl (Ze (ZN _))
    dsimp only [List.set] at st
    have st := st.copyF 0 rfl
    obtain ⟨l58, hx_9, hp⟩ := obind hp
    refine Zcn st 2 rfl rfl rfl hx_9 fun v58 h_11 st => ?_
    dsimp only [List.set] at st
    obtain rfl := oI hp
    obtain rfl := oI hs_2
    exact ⟨m, ltS, _, _, pk st [2,3], hs⟩
 ·obtain rfl := oI hp
  obtain rfl := oI hs
  exact ⟨v7, rfl, pk st [0]⟩
theorem ZJl {a0 v0 b1 v1 r} (hp : ZEf a0 b1 = some r) (f0 : SlC (hcell h) eI v0 a0) (f1 : SlC (hcell h) eI v1 b1) : zR ZGE #[v0, v1] h ψ (.bool r) := by
 apply ZIe
 rw [ZEf] at hp
 have st := S.start hψ
 refine lp1 hp (nlS st) fun m i5 h_2 a st hp hs => ?_
 rw [ZEY] at hp
 refine vL f0 st.le ?_
 refine brR hp (fun hp => tZ) fun hp => ?_
 refine ixI (f0.mono st.le) hp fun e15 hp => ?_
 refine cl0 hp st (fun s _ _ hx_2 => Zrz s.fle hx_2 (f1.mono st.le)) fun r17 h_3 st hp => ⟨_, rfl, ?_⟩
 exact brQ hp (fun hp => tZ) fun hp => tZ
theorem ZIq {y0 p0 v0_1 y1 y2 r} (hp : ZFs y0 y1 y2 = some r) (ck0 : CellsC (hcell h) p0 [.int .i64 y0.Degree, v0_1]) (f0_1 : SlC (hcell h) eL v0_1 y0.Elements) : zL ZG5 #[.pointer (some p0), .int .i64 y1, .int .i64 y2] h ψ oL r := by
 apply ZJZ
 rw [ZFs] at hp
 have st := S.start hψ
 refine cl1 hp st (fun s _ _ hx => ZHg s.fle hx (ck0.mono st.le) (f0_1.mono st.le)) fun r17 v17 h_2 st hp => ⟨_, rfl, ?_⟩
 refine cl1 hp st (fun s_2 _ _ hx_2 => ZHg s_2.fle hx_2 (ck0.mono st.le) (f0_1.mono st.le)) fun r20 v20 h_3 st hp => ⟨_, rfl, ?_⟩
 refine Zan (E := oL) (css := []) (xs := ([] : List (List Int))) st (fun _ => rfl) rfl rfl fun v21 h_4 st => ?_
 obtain ⟨n_6, hn⟩ := Zy hp
 refine ⟨fun n v9 y10 h_5 => ∃ y9 : List (List Int), S ψ h h_5 [.it (El.ow oL) [v9] y9, .it (El.ow (El.sl eL)) [v20] r20, .it (El.ow (El.sl eL)) [v17] r17] ∧ loopN (ZDU r17 r20) n (y9, y10) = some r, ⟨n_6, _, pk st [0,1,2], hn⟩, ?_⟩
 rintro n _ v9 y10 h_5 ⟨y9, st, hn⟩
 obtain ⟨m, a, rfl, hp, hs⟩ := Zw hn
 rw [ZDU] at hp
 refine ZC (st.rdL 2 rfl (ZN _)) ?_
 refine brQ hp (fun hp => ?_) fun hp => ?_
 ·refine Zan (E := eI) (css := []) (xs := ([] : List Int)) st (fun _ => rfl) rfl rfl fun v28 h_6 st => ?_
  obtain ⟨n_5, hn_2⟩ := Zy hp
  refine ⟨fun n_2 v11 y12 h_7 => ∃ y11 : List Int, S ψ h h_7 [.it oL [v11] y11, .it (El.ow oL) [v9] y9, .it (El.ow (El.sl eL)) [v20] r20, .it (El.ow (El.sl eL)) [v17] r17] ∧ loopN (ZD5 r17 r20 y9 y10) n_2 (y11, y12) = some a, ⟨n_5, _, pk st [0,1,2,3], hn_2⟩, ?_⟩
  rintro n_2 _ v11 y12 h_7 ⟨y11, st, hn_2⟩
  obtain ⟨m_2, a_2, rfl, hp, hs_2⟩ := Zw hn_2
  rw [ZD5] at hp
  refine ZC (st.rdL 2 rfl (ZN _)) ?_
  refine brQ hp (fun hp => ?_) fun hp => ?_
  ·refine lp2 (os := [.it oL [v11] y11, .it (El.ow oL) [v9] y9, .it (El.ow (El.sl eL)) [v20] r20, .it (El.ow (El.sl eL)) [v17] r17]) hp (pk st [0,1,2,3]) fun m_3 y13 y14 h_8 a_3 st hp hs_3 => ?_
   rw [ZDZ] at hp
   refine ixA (st.rdL 2 rfl (ZN _)) hp fun e38 p38 ad hx_3 hp => ?_
   refine Zc9 st 2 rfl ad hx_3 fun u39 st => ?_
   refine ZC (st.rdF 0 rfl) ?_
   refine brQ hp (fun hp => ?_) fun hp => ?_
   ·refine ixA (st.rdL 4 rfl (ZN _)) hp fun e46 p46 ad_2 hx_4 hp => ?_
    refine Zc9 st 4 rfl ad_2 hx_4 fun u47 st => ?_
    refine ixA (st.rdF 0 rfl) hp fun e48 p48 ad_3 hx_5 hp => ?_
    refine ZFU st 0 rfl ad_3 hx_5 fun u49 st => ?_
    refine ixA (st.rdL 5 rfl (ZN _)) hp fun e52 p52 ad_4 hx_6 hp => ?_
    refine Zc9 st 5 rfl ad_4 hx_6 fun u53 st => ?_
    refine ixA (st.rdF 0 rfl) hp fun e55 p55 ad_5 hx_7 hp => ?_
    refine ZFU st 0 rfl ad_5 hx_7 fun u56 st => ?_
    refine cl0 hp st (fun s_3 _ _ hx_8 => ZJl s_3.fle hx_8 (st.rdF 2 rfl) (st.rdF 0 rfl)) fun r57 h_9 st hp => ⟨_, rfl, ?_⟩
    refine brQ hp (fun hp => ?_) fun hp => ?_
    ·obtain rfl := oI hp
     exact ⟨m_3, ltS, pk st [5,6,7,8], hs_3⟩
    ·obtain rfl := oI hp
     exact ⟨m_3, ltS, pk st [5,6,7,8], hs_3⟩
   ·obtain ⟨l63, hx_9, hp⟩ := obind hp
    refine Zad st 1 rfl (fun _ => ⟨rfl, rfl⟩) rfl rfl hx_9 fun v63 h_10 st => ?_
    dsimp only [List.set] at st
    obtain rfl := oI hp
    obtain rfl := oI hs_3
    exact ⟨m_2, ltS, _, pk st [1,2,3,4], hs_2⟩
  ·refine Zz (st.rdL 0 rfl (Za _)).one ?_
   obtain ⟨l67, hx_10, hp⟩ := obind hp
   refine Zcn st 0 rfl rfl rfl hx_10 fun v67 h_11 st => ?_
   dsimp only [List.set] at st
   obtain rfl := oI hp
   obtain rfl := oI hs_2
   exact ⟨m, ltS, _, pk st [0,1,2], hs⟩
 ·obtain rfl := oI hp
  obtain rfl := oI hs
  exact ⟨v9, rfl, pk st [0]⟩
theorem ZJM {g0 v0_1 t1 k2 r} (hp : ZDS g0 t1 k2 = some r) (f0_1 : SlC (hcell h) eL v0_1 g0.Elements) : CallsH P ZGj #[.agg #[.int .i64 g0.Degree, v0_1], .int .i64 t1, .int .i64 k2] h (fun v h' => ∃ w0 : Value, v = .tuple #[w0, .int .i64 r.2] ∧ S ψ h h' [.it (El.ow eL) [w0] r.1]) := by
 apply ZKz
 rw [ZDS] at hp
 have st := S.start hψ
 refine new_S st fun b3 h_2 st => ?_
 refine cl0 hp st (fun s _ _ hx => Zvo s.fle hx (st.cells 0 rfl) (f0_1.mono st.le)) fun r8 h_3 st hp => ⟨_, rfl, ?_⟩
 refine brQ hp (fun hp => ?_) fun hp => ?_
 ·have st := st.nilO (E := eL)
  obtain rfl := oI hp
  exact ⟨(.slice none 0 0), rfl, pk st [0]⟩
 ·refine ⟨fun h_4 => S ψ h h_4 [.box b3 [.int .i64 g0.Degree, v0_1]] ∧ ZFf g0 t1 k2 = some r, ?_, ?_⟩
  ·refine bI st 0 0 ?_
   refine cl0 hp st (fun s_5 _ _ hx_5 => Zac s_5.fle hx_5) fun r13 h_9 st hp => ⟨_, rfl, ?_⟩
   refine brQ hp (fun hp => ?_) fun hp => ?_
   ·have st := st.nilO (E := eL)
    obtain rfl := oI hp
    exact ⟨(.slice none 0 0), rfl, pk st [0]⟩
   ·refine cl0 hp st (fun s_6 _ _ hx_6 => Zac s_6.fle hx_6) fun r18 h_10 st hp => ⟨_, rfl, ?_⟩
    refine brQ hp (fun hp => ?_) fun hp => ?_
    ·have st := st.nilO (E := eL)
     obtain rfl := oI hp
     exact ⟨(.slice none 0 0), rfl, pk st [0]⟩
    ·exact ⟨pk st [0], hp⟩
  ·rintro _ h_4 ⟨st, hp⟩
   rw [ZFf] at hp
   refine ⟨fun h_5 => S ψ h h_5 [.box b3 [.int .i64 g0.Degree, v0_1]] ∧ ZFI g0 t1 k2 = some r, ?_, ?_⟩
   ·refine bI st 0 0 ?_
    refine cl0 hp st (fun s_3 _ _ hx_3 => ZEv s_3.fle hx_3) fun r24 h_7 st hp => ⟨_, rfl, ?_⟩
    refine brQ hp (fun hp => ?_) fun hp => ?_
    ·have st := st.nilO (E := eL)
     obtain rfl := oI hp
     exact ⟨(.slice none 0 0), rfl, pk st [0]⟩
    ·refine bI st 0 0 ?_
     refine cl0 hp st (fun s_4 _ _ hx_4 => ZEv s_4.fle hx_4) fun r30 h_8 st hp => ⟨_, rfl, ?_⟩
     refine brQ hp (fun hp => ?_) fun hp => ?_
     ·have st := st.nilO (E := eL)
      obtain rfl := oI hp
      exact ⟨(.slice none 0 0), rfl, pk st [0]⟩
     ·exact ⟨pk st [0], hp⟩
   ·rintro _ h_5 ⟨st, hp⟩
    rw [ZFI] at hp
    refine cl1 hp st (fun s_2 _ _ hx_2 => ZIq s_2.fle hx_2 (st.cells 0 rfl) (f0_1.mono st.le)) fun r35 v35 h_6 st hp => ⟨_, rfl, ?_⟩
    have st := st.frzIn 0 rfl (Ze (Za _))
    dsimp only [List.set] at st
    obtain rfl := oI hp
    exact ⟨v35, rfl, pk st [0]⟩
theorem ZKQ {lambda0 r} (hp : ZE5 lambda0 = some r)  : zR ZHb #[.int .i64 lambda0] h ψ (.bool r) := by
 apply ZIw
 rw [ZE5] at hp
 have st := S.start hψ
 refine cl0 hp st (fun s _ _ hx => Zac s.fle hx) fun r4 h_2 st hp => ⟨_, rfl, ?_⟩
 exact tZ
end
theorem rq_spec_l26Find_on {rf_spec_l26Find_on : ZDg → (List Int) → Int → Option ZDg} {rf_spec_l26Find_run : ZDg → (List Int) → Int → Option ZDg}  (ih_spec_l26Find_on : ∀ {ψ : CM} {h0 h : Heap} {os : List Ob} {y0 : ZDg} {b0 : Nat} {post0 : List Value} {v0_0 : Value} {v0_1 : Value} {v0_3 : Value} {v0_4 : Value} {y1 : List Int} {v1 : Value} {y2 : Int} {r : ZDg} (hp : rf_spec_l26Find_on y0 y1 y2 = some r) (st : S ψ h0 h (.box b0 (v0_0 :: v0_1 :: .int .i64 y0.qlambda :: v0_3 :: v0_4 :: .int .i64 y0.qcount :: .int .i64 y0.qlimit :: .int .i64 y0.qnodes :: .int .i64 y0.qbudget :: .bool y0.qfull :: post0) :: .it (El.ow eL) [v0_1] y0.qlater :: .it oL [v0_3] y0.qchosen :: .it oL [v0_4] y0.qfirst :: os)) (f0_0 : SlC (UB ψ h0) eL v0_0 y0.qm) (f1 : SlC (UB ψ h0) eI v1 y1), CallsH P ZDN #[.pointer (some ⟨b0, 0, none⟩), v1, .int .i64 y2] h (fun v h' => ∃ w0 : Value, ∃ w1 : Value, ∃ w2 : Value, v = .tuple #[] ∧ S ψ h0 h' (.box b0 (v0_0 :: w0 :: .int .i64 r.qlambda :: w1 :: w2 :: .int .i64 r.qcount :: .int .i64 r.qlimit :: .int .i64 r.qnodes :: .int .i64 r.qbudget :: .bool r.qfull :: post0) :: .it (El.ow eL) [w0] r.qlater :: .it oL [w1] r.qchosen :: .it oL [w2] r.qfirst :: os))) (ih_spec_l26Find_run : ∀ {ψ : CM} {h0 h : Heap} {os : List Ob} {y0 : ZDg} {b0 : Nat} {post0 : List Value} {v0_0 : Value} {v0_1 : Value} {v0_3 : Value} {v0_4 : Value} {y1 : List Int} {v1 : Value} {y2 : Int} {r : ZDg} (hp : rf_spec_l26Find_run y0 y1 y2 = some r) (st : S ψ h0 h (.box b0 (v0_0 :: v0_1 :: .int .i64 y0.qlambda :: v0_3 :: v0_4 :: .int .i64 y0.qcount :: .int .i64 y0.qlimit :: .int .i64 y0.qnodes :: .int .i64 y0.qbudget :: .bool y0.qfull :: post0) :: .it (El.ow eL) [v0_1] y0.qlater :: .it oL [v0_3] y0.qchosen :: .it oL [v0_4] y0.qfirst :: os)) (f0_0 : SlC (UB ψ h0) eL v0_0 y0.qm) (f1 : SlC (UB ψ h0) eI v1 y1), CallsH P ZDJ #[.pointer (some ⟨b0, 0, none⟩), v1, .int .i64 y2] h (fun v h' => ∃ w0 : Value, ∃ w1 : Value, ∃ w2 : Value, v = .tuple #[] ∧ S ψ h0 h' (.box b0 (v0_0 :: w0 :: .int .i64 r.qlambda :: w1 :: w2 :: .int .i64 r.qcount :: .int .i64 r.qlimit :: .int .i64 r.qnodes :: .int .i64 r.qbudget :: .bool r.qfull :: post0) :: .it (El.ow eL) [w0] r.qlater :: .it oL [w1] r.qchosen :: .it oL [w2] r.qfirst :: os))) : ∀ {ψ : CM} {h0 h : Heap} {os : List Ob} {y0 : ZDg} {b0 : Nat} {post0 : List Value} {v0_0 : Value} {v0_1 : Value} {v0_3 : Value} {v0_4 : Value} {y1 : List Int} {v1 : Value} {y2 : Int} {r : ZDg} (hp : q_spec_l26Find_on rf_spec_l26Find_on rf_spec_l26Find_run y0 y1 y2 = some r) (st : S ψ h0 h (.box b0 (v0_0 :: v0_1 :: .int .i64 y0.qlambda :: v0_3 :: v0_4 :: .int .i64 y0.qcount :: .int .i64 y0.qlimit :: .int .i64 y0.qnodes :: .int .i64 y0.qbudget :: .bool y0.qfull :: post0) :: .it (El.ow eL) [v0_1] y0.qlater :: .it oL [v0_3] y0.qchosen :: .it oL [v0_4] y0.qfirst :: os)) (f0_0 : SlC (UB ψ h0) eL v0_0 y0.qm) (f1 : SlC (UB ψ h0) eI v1 y1), CallsH P ZDN #[.pointer (some ⟨b0, 0, none⟩), v1, .int .i64 y2] h (fun v h' => ∃ w0 : Value, ∃ w1 : Value, ∃ w2 : Value, v = .tuple #[] ∧ S ψ h0 h' (.box b0 (v0_0 :: w0 :: .int .i64 r.qlambda :: w1 :: w2 :: .int .i64 r.qcount :: .int .i64 r.qlimit :: .int .i64 r.qnodes :: .int .i64 r.qbudget :: .bool r.qfull :: post0) :: .it (El.ow eL) [w0] r.qlater :: .it oL [w1] r.qchosen :: .it oL [w2] r.qfirst :: os)) := by
 intro ψ h0 h os y0 b0 post0 v0_0 v0_1 v0_3 v0_4 y1 v1 y2 r hp st f0_0 f1
 apply ZI0
 rw [q_spec_l26Find_on] at hp
 obtain ⟨n_2, hn⟩ := Zy hp
 refine ⟨fun n y6 h_2 => S ψ h0 h_2 (.box b0 (v0_0 :: v0_1 :: .int .i64 y0.qlambda :: v0_3 :: v0_4 :: .int .i64 y0.qcount :: .int .i64 y0.qlimit :: .int .i64 y0.qnodes :: .int .i64 y0.qbudget :: .bool y0.qfull :: post0) :: .it (El.ow eL) [v0_1] y0.qlater :: .it oL [v0_3] y0.qchosen :: .it oL [v0_4] y0.qfirst :: os) ∧ loopN (ZDE rf_spec_l26Find_run y0 y1 y2) n y6 = some r, ⟨n_2, pkT st 4 [0,1,2,3], hn⟩, ?_⟩
 rintro n _ y6 h_2 ⟨st, hn⟩
 obtain ⟨m, a, rfl, hp, hs⟩ := Zw hn
 rw [ZDE] at hp
 refine vL f1 st.leU ?_
 refine brQ hp (fun hp => ?_) fun hp => ?_
 ·refine ixI (f1.mono st.leU) hp fun e15 hp => ?_
  refine bV st 0 1 ?_
  refine ixA (st.rdL 1 rfl (ZN _)) hp fun e22 p22 ad_2 hx_2 hp => ?_
  refine Zc9 st 1 rfl ad_2 hx_2 fun u23 st => ?_
  refine ixI (st.rdF 0 rfl) hp fun e25 hp => ?_
  refine bI st 1 2 ?_
  refine brQ hp (fun hp => ?_) fun hp => ?_
  ·obtain rfl := oI hp
   obtain rfl := oI hs
   exact ⟨v0_1, v0_3, v0_4, rfl, pkT st 5 [1,2,3,4]⟩
  ·obtain rfl := oI hp
   exact ⟨m, ltS, pkT st 5 [1,2,3,4], hs⟩
 ·refine ⟨fun h_3 => S ψ h0 h_3 (.box b0 (v0_0 :: v0_1 :: .int .i64 y0.qlambda :: v0_3 :: v0_4 :: .int .i64 y0.qcount :: .int .i64 y0.qlimit :: .int .i64 y0.qnodes :: .int .i64 y0.qbudget :: .bool y0.qfull :: post0) :: .it (El.ow eL) [v0_1] y0.qlater :: .it oL [v0_3] y0.qchosen :: .it oL [v0_4] y0.qfirst :: os) ∧ ZF2 rf_spec_l26Find_run y0 y1 y2 = some a, ?_, ?_⟩
  ·refine bB st 0 9 ?_
   refine brQ hp (fun hp => ?_) fun hp => ?_
   ·obtain rfl := oI hp
    obtain rfl := oI hs
    exact ⟨v0_1, v0_3, v0_4, rfl, pkT st 4 [0,1,2,3]⟩
   ·refine bI st 0 5 ?_
    refine bI st 0 6 ?_
    refine brQ hp (fun hp => ?_) fun hp => ?_
    ·obtain rfl := oI hp
     obtain rfl := oI hs
     exact ⟨v0_1, v0_3, v0_4, rfl, pkT st 4 [0,1,2,3]⟩
    ·exact ⟨pkT st 4 [0,1,2,3], hp⟩
  ·rintro _ h_3 ⟨st, hp⟩
   rw [ZF2] at hp
   refine bI st 0 7 ?_
   refine bI st 0 8 ?_
   refine brQ hp (fun hp => ?_) fun hp => ?_
   ·refine Zb st 0 rfl rfl rfl rfl fun h_4 st => ?_
    dsimp only [List.set] at st
    obtain rfl := oI hp
    obtain rfl := oI hs
    exact ⟨v0_1, v0_3, v0_4, rfl, pkT st 4 [0,1,2,3]⟩
   ·refine bI st 0 7 ?_
    refine Zb st 0 rfl rfl rfl rfl fun h_5 st => ?_
    dsimp only [List.set] at st
    obtain ⟨r70, hx_4, hp⟩ := obind hp
    obtain ⟨φ, L, s, r_2⟩ := id st
    refine (ih_spec_l26Find_run hx_4 (s.upS r_2) (f0_0.mono s.ubU) (f1.mono s.ubU)).mono fun v_2 h_6 ⟨v70, v70_2, v70_3, eq, t⟩ => ⟨eq, ?_⟩
    replace st := s.downS t
    clear t s r_2
    obtain rfl := oI hp
    obtain rfl := oI hs
    exact ⟨v70, v70_2, v70_3, rfl, pkT st 4 [0,1,2,3]⟩
theorem rq_spec_l26Find_run {rf_spec_l26Find_on : ZDg → (List Int) → Int → Option ZDg} {rf_spec_l26Find_run : ZDg → (List Int) → Int → Option ZDg}  (ih_spec_l26Find_on : ∀ {ψ : CM} {h0 h : Heap} {os : List Ob} {y0 : ZDg} {b0 : Nat} {post0 : List Value} {v0_0 : Value} {v0_1 : Value} {v0_3 : Value} {v0_4 : Value} {y1 : List Int} {v1 : Value} {y2 : Int} {r : ZDg} (hp : rf_spec_l26Find_on y0 y1 y2 = some r) (st : S ψ h0 h (.box b0 (v0_0 :: v0_1 :: .int .i64 y0.qlambda :: v0_3 :: v0_4 :: .int .i64 y0.qcount :: .int .i64 y0.qlimit :: .int .i64 y0.qnodes :: .int .i64 y0.qbudget :: .bool y0.qfull :: post0) :: .it (El.ow eL) [v0_1] y0.qlater :: .it oL [v0_3] y0.qchosen :: .it oL [v0_4] y0.qfirst :: os)) (f0_0 : SlC (UB ψ h0) eL v0_0 y0.qm) (f1 : SlC (UB ψ h0) eI v1 y1), CallsH P ZDN #[.pointer (some ⟨b0, 0, none⟩), v1, .int .i64 y2] h (fun v h' => ∃ w0 : Value, ∃ w1 : Value, ∃ w2 : Value, v = .tuple #[] ∧ S ψ h0 h' (.box b0 (v0_0 :: w0 :: .int .i64 r.qlambda :: w1 :: w2 :: .int .i64 r.qcount :: .int .i64 r.qlimit :: .int .i64 r.qnodes :: .int .i64 r.qbudget :: .bool r.qfull :: post0) :: .it (El.ow eL) [w0] r.qlater :: .it oL [w1] r.qchosen :: .it oL [w2] r.qfirst :: os))) (ih_spec_l26Find_run : ∀ {ψ : CM} {h0 h : Heap} {os : List Ob} {y0 : ZDg} {b0 : Nat} {post0 : List Value} {v0_0 : Value} {v0_1 : Value} {v0_3 : Value} {v0_4 : Value} {y1 : List Int} {v1 : Value} {y2 : Int} {r : ZDg} (hp : rf_spec_l26Find_run y0 y1 y2 = some r) (st : S ψ h0 h (.box b0 (v0_0 :: v0_1 :: .int .i64 y0.qlambda :: v0_3 :: v0_4 :: .int .i64 y0.qcount :: .int .i64 y0.qlimit :: .int .i64 y0.qnodes :: .int .i64 y0.qbudget :: .bool y0.qfull :: post0) :: .it (El.ow eL) [v0_1] y0.qlater :: .it oL [v0_3] y0.qchosen :: .it oL [v0_4] y0.qfirst :: os)) (f0_0 : SlC (UB ψ h0) eL v0_0 y0.qm) (f1 : SlC (UB ψ h0) eI v1 y1), CallsH P ZDJ #[.pointer (some ⟨b0, 0, none⟩), v1, .int .i64 y2] h (fun v h' => ∃ w0 : Value, ∃ w1 : Value, ∃ w2 : Value, v = .tuple #[] ∧ S ψ h0 h' (.box b0 (v0_0 :: w0 :: .int .i64 r.qlambda :: w1 :: w2 :: .int .i64 r.qcount :: .int .i64 r.qlimit :: .int .i64 r.qnodes :: .int .i64 r.qbudget :: .bool r.qfull :: post0) :: .it (El.ow eL) [w0] r.qlater :: .it oL [w1] r.qchosen :: .it oL [w2] r.qfirst :: os))) : ∀ {ψ : CM} {h0 h : Heap} {os : List Ob} {y0 : ZDg} {b0 : Nat} {post0 : List Value} {v0_0 : Value} {v0_1 : Value} {v0_3 : Value} {v0_4 : Value} {y1 : List Int} {v1 : Value} {y2 : Int} {r : ZDg} (hp : q_spec_l26Find_run rf_spec_l26Find_on rf_spec_l26Find_run y0 y1 y2 = some r) (st : S ψ h0 h (.box b0 (v0_0 :: v0_1 :: .int .i64 y0.qlambda :: v0_3 :: v0_4 :: .int .i64 y0.qcount :: .int .i64 y0.qlimit :: .int .i64 y0.qnodes :: .int .i64 y0.qbudget :: .bool y0.qfull :: post0) :: .it (El.ow eL) [v0_1] y0.qlater :: .it oL [v0_3] y0.qchosen :: .it oL [v0_4] y0.qfirst :: os)) (f0_0 : SlC (UB ψ h0) eL v0_0 y0.qm) (f1 : SlC (UB ψ h0) eI v1 y1), CallsH P ZDJ #[.pointer (some ⟨b0, 0, none⟩), v1, .int .i64 y2] h (fun v h' => ∃ w0 : Value, ∃ w1 : Value, ∃ w2 : Value, v = .tuple #[] ∧ S ψ h0 h' (.box b0 (v0_0 :: w0 :: .int .i64 r.qlambda :: w1 :: w2 :: .int .i64 r.qcount :: .int .i64 r.qlimit :: .int .i64 r.qnodes :: .int .i64 r.qbudget :: .bool r.qfull :: post0) :: .it (El.ow eL) [w0] r.qlater :: .it oL [w1] r.qchosen :: .it oL [w2] r.qfirst :: os)) := by
 intro ψ h0 h os y0 b0 post0 v0_0 v0_1 v0_3 v0_4 y1 v1 y2 r hp st f0_0 f1
 apply ZIo
 rw [q_spec_l26Find_run] at hp
 refine bV st 0 0 ?_
 refine ixV f0_0 st.leU hp fun e15 u16 f hp => ?_
 refine vL f st.leU ?_
 refine brQ hp (fun hp => ?_) fun hp => ?_
 ·refine ⟨fun h_2 => ∃ xs : List Int, ∃ v_2 : Value, S ψ h0 h_2 (.box b0 (v0_0 :: v0_1 :: .int .i64 y0.qlambda :: v0_3 :: v_2 :: .int .i64 y0.qcount :: .int .i64 y0.qlimit :: .int .i64 y0.qnodes :: .int .i64 y0.qbudget :: .bool y0.qfull :: post0) :: .it (El.ow eL) [v0_1] y0.qlater :: .it oL [v0_3] y0.qchosen :: .it oL [v_2] xs :: os) ∧ ZEr y0 xs = some r, ?_, ?_⟩
  ·refine bI st 0 5 ?_
   refine brQ hp (fun hp => ?_) fun hp => ?_
   ·refine bV st 0 3 ?_
    refine cl1 hp st (fun s _ _ hx_2 => Zlh s.fle hx_2 (st.rdL 2 rfl (Za _))) fun r29 v29 h_4 st hp => ⟨_, rfl, ?_⟩
    refine Zb st 1 rfl rfl rfl (st.rdL 0 rfl (Za _)).one fun h_5 st => ?_
    dsimp only [List.set] at st
    exact ⟨_, _, pkT st 5 [1,2,3,0], hp⟩
   ·exact ⟨_, _, pkT st 4 [0,1,2,3], hp⟩
  ·rintro _ h_2 ⟨xs, v_2, st, hp⟩
   rw [ZEr] at hp
   refine bI st 0 5 ?_
   refine Zb st 0 rfl rfl rfl rfl fun h_3 st => ?_
   dsimp only [List.set] at st
   obtain rfl := oI hp
   exact ⟨v0_1, v0_3, v_2, rfl, pkT st 4 [0,1,2,3]⟩
 ·refine Zan (E := eI) (css := []) (xs := ([] : List Int)) st (fun _ => rfl) rfl rfl fun v39 h_6 st => ?_
  obtain ⟨n_2, hn⟩ := Zy hp
  refine ⟨fun n y6 v7 y8 h_7 => ∃ y7 : List Int, S ψ h0 h_7 (.it oL [v7] y7 :: .box b0 (v0_0 :: v0_1 :: .int .i64 y0.qlambda :: v0_3 :: v0_4 :: .int .i64 y0.qcount :: .int .i64 y0.qlimit :: .int .i64 y0.qnodes :: .int .i64 y0.qbudget :: .bool y0.qfull :: post0) :: .it (El.ow eL) [v0_1] y0.qlater :: .it oL [v0_3] y0.qchosen :: .it oL [v0_4] y0.qfirst :: os) ∧ loopN (ZD9 rf_spec_l26Find_on y0 y1 y2) n (y6, y7, y8) = some r, ⟨n_2, _, pkT st 5 [0,1,2,3,4], hn⟩, ?_⟩
  rintro n _ y6 v7 y8 h_7 ⟨y7, st, hn⟩
  obtain ⟨m, a, rfl, hp, hs⟩ := Zw hn
  rw [ZD9] at hp
  refine vL f1 st.leU ?_
  refine brQ hp (fun hp => ?_) fun hp => ?_
  ·refine ixI (f1.mono st.leU) hp fun e49 hp => ?_
   refine bV st 1 0 ?_
   refine ixV f0_0 st.leU hp fun e56 u57 f_2 hp => ?_
   refine ixI (f_2.mono st.leU) hp fun e59 hp => ?_
   obtain ⟨l63, hx_6, hp⟩ := obind hp
   refine Zad st 0 rfl (fun _ => ⟨rfl, rfl⟩) rfl rfl hx_6 fun v63 h_8 st => ?_
   dsimp only [List.set] at st
   refine ixI (st.rdL 0 rfl (Za _)) hp fun e66 hp => ?_
   refine bI st 1 2 ?_
   refine brQ hp (fun hp => ?_) fun hp => ?_
   ·obtain rfl := oI hp
    exact ⟨m, ltS, _, pkT st 5 [0,1,2,3,4], hs⟩
   ·obtain rfl := oI hp
    exact ⟨m, ltS, _, pkT st 5 [0,1,2,3,4], hs⟩
  ·have st := st.freeze 0 rfl (Ze (Za _))
   dsimp only [List.set] at st
   refine ⟨fun h_9 => ∃ q : Int, ∃ q_2 : Int, ∃ q_3 : Int, ∃ q_4 : Int, ∃ q_5 : Int, ∃ q_6 : Bool, ∃ xs_2 : List (List Int), ∃ v_4 : Value, ∃ xs_3 : List Int, ∃ v_5 : Value, ∃ xs_4 : List Int, ∃ v_6 : Value, S ψ h0 h_9 (.it eL [v7] y7 :: .box b0 (v0_0 :: v_4 :: .int .i64 q :: v_5 :: v_6 :: .int .i64 q_2 :: .int .i64 q_3 :: .int .i64 q_4 :: .int .i64 q_5 :: .bool q_6 :: post0) :: .it (El.ow eL) [v_4] xs_2 :: .it oL [v_5] xs_3 :: .it oL [v_6] xs_4 :: os) ∧ ZEj rf_spec_l26Find_on y0 y1 y2 q q_2 q_3 q_4 q_5 q_6 xs_2 xs_3 xs_4 = some a, ?_, ?_⟩
   ·refine brQ hp (fun hp => ?_) fun hp => ?_
    ·refine bV st 1 3 ?_
     refine ZC (st.rdL 3 rfl (Za _)) ?_
     refine bV st 1 3 ?_
     obtain ⟨l86, hx_9, hp⟩ := obind hp
     refine Zad st 3 rfl (fun _ => ⟨rfl, rfl⟩) rfl rfl hx_9 fun v86 h_11 st => ?_
     refine Zb st 1 rfl rfl rfl (st.rdL 3 rfl (Za _)).one fun h_12 st => ?_
     dsimp only [List.set] at st
     have st : S ψ h0 h_12 (.box b0 (v0_0 :: v0_1 :: .int .i64 y0.qlambda :: v86 :: v0_4 :: .int .i64 y0.qcount :: .int .i64 y0.qlimit :: .int .i64 y0.qnodes :: .int .i64 y0.qbudget :: .bool y0.qfull :: post0) :: .it (El.ow eL) [v0_1] y0.qlater :: .it oL [v86] l86 :: .it oL [v0_4] y0.qfirst :: .it eL [v7] y7 :: os) := pkT st 5 [1,2,3,4,0]
     obtain ⟨r93, hx_10, hp⟩ := obind hp
     obtain ⟨φ_3, L_3, s_3, r_4⟩ := id st
     refine (ih_spec_l26Find_on hx_10 (s_3.upS r_4) (f0_0.mono s_3.ubU) ((frF r_4 4 rfl).mono s_3.ubF)).mono fun v_8 h_13 ⟨v93, v93_2, v93_3, eq_3, t_3⟩ => ⟨eq_3, ?_⟩
     replace st := s_3.downS t_3
     clear t_3 s_3 r_4
     refine bV st 0 3 ?_
     obtain ⟨l100, hx_11, hp⟩ := obind hp
     refine cut_S none (some (y0.qchosen.length : Int)) st 2 rfl hx_11 rfl fun v100 st => ?_
     refine Zb st 0 rfl rfl rfl (st.rdL 2 rfl (Za _)).one fun h_14 st => ?_
     dsimp only [List.set] at st
     exact ⟨_, _, _, _, _, _, _, _, _, _, _, _, pkT st 5 [4,0,1,2,3], hp⟩
    ·exact ⟨_, _, _, _, _, _, _, _, _, _, _, _, pkT st 5 [0,1,2,3,4], hp⟩
   ·rintro _ h_9 ⟨q, q_2, q_3, q_4, q_5, q_6, xs_2, v_4, xs_3, v_5, xs_4, v_6, st, hp⟩
    rw [ZEj] at hp
    have st : S ψ h0 h_9 (.box b0 (v0_0 :: v_4 :: .int .i64 q :: v_5 :: v_6 :: .int .i64 q_2 :: .int .i64 q_3 :: .int .i64 q_4 :: .int .i64 q_5 :: .bool q_6 :: post0) :: .it (El.ow eL) [v_4] xs_2 :: .it oL [v_5] xs_3 :: .it oL [v_6] xs_4 :: .it eL [v7] y7 :: os) := pkT st 5 [1,2,3,4,0]
    obtain ⟨r107, hx_8, hp⟩ := obind hp
    obtain ⟨φ_2, L_2, s_2, r_3⟩ := id st
    refine (ih_spec_l26Find_on hx_8 (s_2.upS r_3) (f0_0.mono s_2.ubU) (f1.mono s_2.ubU)).mono fun v_7 h_10 ⟨v107, v107_2, v107_3, eq_2, t_2⟩ => ⟨eq_2, ?_⟩
    replace st := s_2.downS t_2
    clear t_2 s_2 r_3
    obtain rfl := oI hp
    obtain rfl := oI hs
    exact ⟨v107, v107_2, v107_3, rfl, pkT st 5 [0,1,2,3]⟩
theorem rn_spec_l26Find_on : ∀ n, (∀ {ψ : CM} {h0 h : Heap} {os : List Ob} {y0 : ZDg} {b0 : Nat} {post0 : List Value} {v0_0 : Value} {v0_1 : Value} {v0_3 : Value} {v0_4 : Value} {y1 : List Int} {v1 : Value} {y2 : Int} {r : ZDg} (hp : (pn_spec_l26Find_on n).1 y0 y1 y2 = some r) (st : S ψ h0 h (.box b0 (v0_0 :: v0_1 :: .int .i64 y0.qlambda :: v0_3 :: v0_4 :: .int .i64 y0.qcount :: .int .i64 y0.qlimit :: .int .i64 y0.qnodes :: .int .i64 y0.qbudget :: .bool y0.qfull :: post0) :: .it (El.ow eL) [v0_1] y0.qlater :: .it oL [v0_3] y0.qchosen :: .it oL [v0_4] y0.qfirst :: os)) (f0_0 : SlC (UB ψ h0) eL v0_0 y0.qm) (f1 : SlC (UB ψ h0) eI v1 y1), CallsH P ZDN #[.pointer (some ⟨b0, 0, none⟩), v1, .int .i64 y2] h (fun v h' => ∃ w0 : Value, ∃ w1 : Value, ∃ w2 : Value, v = .tuple #[] ∧ S ψ h0 h' (.box b0 (v0_0 :: w0 :: .int .i64 r.qlambda :: w1 :: w2 :: .int .i64 r.qcount :: .int .i64 r.qlimit :: .int .i64 r.qnodes :: .int .i64 r.qbudget :: .bool r.qfull :: post0) :: .it (El.ow eL) [w0] r.qlater :: .it oL [w1] r.qchosen :: .it oL [w2] r.qfirst :: os))) ∧ (∀ {ψ : CM} {h0 h : Heap} {os : List Ob} {y0 : ZDg} {b0 : Nat} {post0 : List Value} {v0_0 : Value} {v0_1 : Value} {v0_3 : Value} {v0_4 : Value} {y1 : List Int} {v1 : Value} {y2 : Int} {r : ZDg} (hp : (pn_spec_l26Find_on n).2 y0 y1 y2 = some r) (st : S ψ h0 h (.box b0 (v0_0 :: v0_1 :: .int .i64 y0.qlambda :: v0_3 :: v0_4 :: .int .i64 y0.qcount :: .int .i64 y0.qlimit :: .int .i64 y0.qnodes :: .int .i64 y0.qbudget :: .bool y0.qfull :: post0) :: .it (El.ow eL) [v0_1] y0.qlater :: .it oL [v0_3] y0.qchosen :: .it oL [v0_4] y0.qfirst :: os)) (f0_0 : SlC (UB ψ h0) eL v0_0 y0.qm) (f1 : SlC (UB ψ h0) eI v1 y1), CallsH P ZDJ #[.pointer (some ⟨b0, 0, none⟩), v1, .int .i64 y2] h (fun v h' => ∃ w0 : Value, ∃ w1 : Value, ∃ w2 : Value, v = .tuple #[] ∧ S ψ h0 h' (.box b0 (v0_0 :: w0 :: .int .i64 r.qlambda :: w1 :: w2 :: .int .i64 r.qcount :: .int .i64 r.qlimit :: .int .i64 r.qnodes :: .int .i64 r.qbudget :: .bool r.qfull :: post0) :: .it (El.ow eL) [w0] r.qlater :: .it oL [w1] r.qchosen :: .it oL [w2] r.qfirst :: os))) := by
  intro n
  induction n with
  | zero => exact ⟨fun hp => absurd hp (by simp [pn_spec_l26Find_on]), fun hp => absurd hp (by simp [pn_spec_l26Find_on])⟩
  | succ n ih => exact ⟨rq_spec_l26Find_on ih.1 ih.2, rq_spec_l26Find_run ih.1 ih.2⟩
theorem ZJW : ∀ {ψ : CM} {h0 h : Heap} {os : List Ob} {y0 : ZDg} {b0 : Nat} {post0 : List Value} {v0_0 : Value} {v0_1 : Value} {v0_3 : Value} {v0_4 : Value} {y1 : List Int} {v1 : Value} {y2 : Int} {r : ZDg} (hp : ZGu y0 y1 y2 = some r) (st : S ψ h0 h (.box b0 (v0_0 :: v0_1 :: .int .i64 y0.qlambda :: v0_3 :: v0_4 :: .int .i64 y0.qcount :: .int .i64 y0.qlimit :: .int .i64 y0.qnodes :: .int .i64 y0.qbudget :: .bool y0.qfull :: post0) :: .it (El.ow eL) [v0_1] y0.qlater :: .it oL [v0_3] y0.qchosen :: .it oL [v0_4] y0.qfirst :: os)) (f0_0 : SlC (UB ψ h0) eL v0_0 y0.qm) (f1 : SlC (UB ψ h0) eI v1 y1), CallsH P ZDJ #[.pointer (some ⟨b0, 0, none⟩), v1, .int .i64 y2] h (fun v h' => ∃ w0 : Value, ∃ w1 : Value, ∃ w2 : Value, v = .tuple #[] ∧ S ψ h0 h' (.box b0 (v0_0 :: w0 :: .int .i64 r.qlambda :: w1 :: w2 :: .int .i64 r.qcount :: .int .i64 r.qlimit :: .int .i64 r.qnodes :: .int .i64 r.qbudget :: .bool r.qfull :: post0) :: .it (El.ow eL) [w0] r.qlater :: .it oL [w1] r.qchosen :: .it oL [w2] r.qfirst :: os)) := (rn_spec_l26Find_on fuel).2
section
variable {ψ : CM} {h : Heap} (hψ : CLe ψ (hcell h))
include hψ
theorem ZH5 {y0 v0 y1 y2 y3 r} (hp : ZFc y0 y1 y2 y3 = some r) (f0 : SlC (hcell h) eL v0 y0) : CallsH P ZHe #[v0, .int .i64 y1, .int .i64 y2, .int .i64 y3] h (fun v h' => ∃ wb0 : Nat, ∃ w1 : Value, ∃ w2 : Value, ∃ w3 : Value, ∃ w4 : Value, v = .pointer (some ⟨wb0, 0, none⟩) ∧ S ψ h h' [.box wb0 [w1, w2, .int .i64 r.qlambda, w3, w4, .int .i64 r.qcount, .int .i64 r.qlimit, .int .i64 r.qnodes, .int .i64 r.qbudget, .bool r.qfull], .it (El.ow eL) [w2] r.qlater, .it oL [w3] r.qchosen, .it oL [w4] r.qfirst]) := by
 apply ZIy
 rw [ZFc] at hp
 have st := S.start hψ
 refine Zz (f0.mono st.le).one ?_
 refine new_S st fun b19 h_2 st => ?_
 have st := st.nilO (E := eL)
 obtain ⟨n_4, hn⟩ := Zy hp
 refine ⟨fun n y10 y11 h_3 => ∃ xs : List (List Int), ∃ v_2 : Value, S ψ h h_3 [.box b19 [v0, v_2, .int .i64 y1, (.slice none 0 0), (.slice none 0 0), .int .i64 0, .int .i64 y2, .int .i64 0, .int .i64 y3, .bool false], .it (El.ow eL) [v_2] xs] ∧ loopN (ZEy y0 y1 y2 y3) n (y10, y11, xs) = some r, ⟨n_4, _, _, pk st [1,0], hn⟩, ?_⟩
 rintro n _ y10 y11 h_3 ⟨xs, v_2, st, hn⟩
 obtain ⟨m, a, rfl, hp, hs⟩ := Zw hn
 rw [ZEy] at hp
 refine vL f0 st.le ?_
 refine brQ hp (fun hp => ?_) fun hp => ?_
 ·refine ixV f0 st.le hp fun e28 u29 f hp => ?_
  refine vL f st.le ?_
  obtain ⟨l32, hx_2, hp⟩ := obind hp
  refine Zaz (E := eI) st rfl hx_2 fun v32 h_4 st => ?_
  refine ixV f0 st.le hp fun e35 u36 f_2 hp => ?_
  refine vL f_2 st.le ?_
  obtain ⟨n_3, hn_2⟩ := Zy hp
  refine ⟨fun n_2 y13 h_5 => ∃ xs_2 : List Int, S ψ h h_5 [.it oL [v32] xs_2, .box b19 [v0, v_2, .int .i64 y1, (.slice none 0 0), (.slice none 0 0), .int .i64 0, .int .i64 y2, .int .i64 0, .int .i64 y3, .bool false], .it (El.ow eL) [v_2] xs] ∧ loopN (ZDP y0 y1 y10 y11 xs) n_2 (y13, xs_2) = some a, ⟨n_3, _, pk st [0,1,2], hn_2⟩, ?_⟩
  rintro n_2 _ y13 h_5 ⟨xs_2, st, hn_2⟩
  obtain ⟨m_2, a_2, rfl, hp, hs_2⟩ := Zw hn_2
  rw [ZDP] at hp
  refine brQ hp (fun hp => ?_) fun hp => ?_
  ·refine ixI (st.rdL 0 rfl (Za _)) hp fun e48 hp => ?_
   refine ixV f0 st.le hp fun e52 u53 f_3 hp => ?_
   refine ixI (f_3.mono st.le) hp fun e55 hp => ?_
   refine ixA (st.rdL 0 rfl (Za _)) hp fun e58 p58 ad_6 hx_7 hp => ?_
   refine st1_S st 0 rfl ad_6 hx_7 rfl (fun _ => ⟨rfl, rfl⟩) fun h_6 st => ?_
   dsimp only [List.set] at st
   obtain rfl := oI hp
   exact ⟨m_2, ltS, _, pk st [0,1,2], hs_2⟩
  ·refine bV st 1 1 ?_
   refine Zz (st.rdL 0 rfl (Za _)).one ?_
   have st := st.freeze 0 rfl (Ze (Za _))
   dsimp only [List.set] at st
   have st := st.copyF 0 rfl
   obtain ⟨l66, hx_8, hp⟩ := obind hp
   refine Zcn st 2 rfl rfl rfl hx_8 fun v66 h_7 st => ?_
   refine Zb st 1 rfl rfl rfl (st.rdL 2 rfl (ZN _)).one fun h_8 st => ?_
   dsimp only [List.set] at st
   refine ixI (st.rdF 0 rfl) hp fun e70 hp => ?_
   refine brQ hp (fun hp => ?_) fun hp => ?_
   ·obtain rfl := oI hp
    obtain rfl := oI hs_2
    exact ⟨m, ltS, _, _, pk st [1,2], hs⟩
   ·obtain rfl := oI hp
    obtain rfl := oI hs_2
    exact ⟨m, ltS, _, _, pk st [1,2], hs⟩
 ·refine brQ hp (fun hp => ?_) fun hp => ?_
  ·refine vL f0 st.le ?_
   obtain ⟨l78, hx_10, hp⟩ := obind hp
   refine Zaz (E := eI) st rfl hx_10 fun v78 h_9 st => ?_
   have st := st.freeze 0 rfl (Ze (Za _))
   dsimp only [List.set] at st
   have st := st.nil eI
   have st := st.nil eI
   have st : S ψ h h_9 [.box b19 [v0, v_2, .int .i64 y1, (.slice none 0 0), (.slice none 0 0), .int .i64 0, .int .i64 y2, .int .i64 0, .int .i64 y3, .bool false], .it (El.ow eL) [v_2] xs, .it oL [(.slice none 0 0)] ([] : List Int), .it oL [(.slice none 0 0)] ([] : List Int), .it eL [v78] l78] := pk st [3,4,1,0,2]
   obtain ⟨r79, hx_11, hp⟩ := obind hp
   obtain ⟨φ, L, s, r_2⟩ := id st
   refine (ZJW hx_11 (s.upS r_2) (f0.mono s.ubH) ((frF r_2 4 rfl).mono s.ubF)).mono fun v_3 h_10 ⟨v79, v79_2, v79_3, eq, t⟩ => ⟨eq, ?_⟩
   replace st := s.downS t
   clear t s r_2
   obtain rfl := oI hp
   obtain rfl := oI hs
   exact ⟨b19, v0, v79, v79_2, v79_3, rfl, pk st [0,1,2,3]⟩
  ·have st := st.nilO (E := eI)
   have st := st.nilO (E := eI)
   obtain rfl := oI hp
   obtain rfl := oI hs
   exact ⟨b19, v0, v_2, (.slice none 0 0), (.slice none 0 0), rfl, pk st [2,3,1,0]⟩
theorem ZIL {m0 v0 lambda1 budget2 r} (hp : ZEX m0 lambda1 budget2 = some r) (f0 : SlC (hcell h) eL v0 m0) : CallsH P ZGv #[v0, .int .i64 lambda1, .int .i64 budget2] h (fun v h' => ∃ w0 : Value, v = .tuple #[w0, .int .i64 r.2] ∧ S ψ h h' [.it oL [w0] r.1]) := by
 apply ZIX
 rw [ZEX] at hp
 have st := S.start hψ
 obtain ⟨r12, hx, hp⟩ := obind hp
 obtain ⟨φ, L, s, r_2⟩ := id st
 refine (ZH5 s.fle hx (f0.mono st.le)).mono fun v_2 h_2 ⟨b12, v12, v12_2, v12_3, v12_4, eq, t⟩ => ⟨_, eq, ?_⟩
 replace st := join4 s r_2 t
 clear t s r_2
 refine bI st 0 5 ?_
 refine brQ hp (fun hp => ?_) fun hp => ?_
 ·refine bV st 0 4 ?_
  obtain rfl := oI hp
  exact ⟨v12_4, rfl, pk st [3]⟩
 ·refine bB st 0 9 ?_
  refine brQ hp (fun hp => ?_) fun hp => ?_
  ·have st := st.nilO (E := eI)
   obtain rfl := oI hp
   exact ⟨(.slice none 0 0), rfl, pk st [0]⟩
  ·have st := st.nilO (E := eI)
   obtain rfl := oI hp
   exact ⟨(.slice none 0 0), rfl, pk st [0]⟩
theorem Zrb {list0 v0 low1 high2 r} (hp : ZeV list0 low1 high2 = some r) (f0 : SlC (hcell h) eI v0 list0) : zR Zkp #[v0, .int .i64 low1, .int .i64 high2] h ψ (.bool r) := by
 apply ZwD
 rw [ZeV] at hp
 have st := S.start hψ
 refine lp1 hp (nlS st) fun m i7 h_2 a st hp hs => ?_
 rw [ZcC] at hp
 refine vL f0 st.le ?_
 refine brR hp (fun hp => tZ) fun hp => ?_
 refine ixI (f0.mono st.le) hp fun e16 hp => ?_
 refine cl0 hp st (fun s _ _ hx_2 => Zac s.fle hx_2) fun r20 h_3 st hp => ⟨_, rfl, ?_⟩
 refine brQ hp (fun hp => tZ) fun hp => ?_
 refine brR hp (fun hp => tZ) fun hp => ?_
 refine ixI (f0.mono st.le) hp fun e29 hp => ?_
 refine ixI (f0.mono st.le) hp fun e33 hp => ?_
 exact brQ hp (fun hp => tZ) fun hp => tZ
theorem ZI7 {list0 v0 r} (hp : ZFd list0 = some r) (f0 : SlC (hcell h) eL v0 list0) : zL ZGX #[v0] h ψ eL r := by
 apply ZJ3
 rw [ZFd] at hp
 have st := S.start hψ
 refine Zan (E := eL) (css := []) (xs := ([] : List (List Int))) st (fun _ => rfl) rfl rfl fun v7 h_2 st => ?_
 obtain ⟨n_4, hn⟩ := Zy hp
 refine ⟨fun n v3 i4 h_3 => ∃ out3 : List (List Int), S ψ h h_3 [.it (El.ow eL) [v3] out3] ∧ loopN (ZDT list0) n (out3, i4) = some r, ⟨n_4, _, pk st [0], hn⟩, ?_⟩
 rintro n _ v3 i4 h_3 ⟨out3, st, hn⟩
 obtain ⟨m, a, rfl, hp, hs⟩ := Zw hn
 rw [ZDT] at hp
 refine vL f0 st.le ?_
 refine brQ hp (fun hp => ?_) fun hp => ?_
 ·refine ZC (st.rdL 0 rfl (ZN _)) ?_
  refine ⟨fun k5 h_4 => S ψ h h_4 [.it (El.ow eL) [v3] out3] ∧ ZEh list0 out3 i4 k5 = some a, ?_, ?_⟩
  ·refine lp1 (os := [.it (El.ow eL) [v3] out3]) hp (pk st [0]) fun m_2 k5_2 h_10 a_2 st hp hs_2 => ?_
   rw [ZEl] at hp
   refine brQ hp (fun hp => ?_) fun hp => ?_
   ·refine ixA (st.rdL 0 rfl (ZN _)) hp fun e22 p22 ad_2 hx_8 hp => ?_
    refine Zc9 st 0 rfl ad_2 hx_8 fun u23 st => ?_
    refine ixV f0 st.le hp fun e26 u27 f_2 hp => ?_
    refine cl0 hp st (fun s_2 _ _ hx_10 => Zj0 s_2.fle hx_10 (st.rdF 0 rfl) (f_2.mono st.le)) fun r28 h_11 st hp => ⟨_, rfl, ?_⟩
    refine brQ hp (fun hp => ?_) fun hp => ?_
    ·obtain rfl := oI hp
     exact ⟨m_2, ltS, pk st [1], hs_2⟩
    ·obtain ⟨xm, hq, rfl⟩ := omap hp
     obtain rfl := oI hs_2
     exact ⟨pk st [1], hq⟩
   ·obtain ⟨xm, hq, rfl⟩ := omap hp
    obtain rfl := oI hs_2
    exact ⟨pk st [0], hq⟩
  ·rintro _ k5 h_4 ⟨st, hp⟩
   rw [ZEh] at hp
   refine Zan (E := eL) (css := []) (xs := ([] : List (List Int))) st (fun _ => rfl) rfl rfl fun v33 h_5 st => ?_
   obtain ⟨l36, hx, hp⟩ := obind hp
   refine ZtD none (some k5) (st.rdL 1 rfl (ZN _)) hx fun v36 hv => ?_
   obtain ⟨l37, hx_2, hp⟩ := obind hp
   refine app_S st 0 rfl (ZHw 1 rfl hv hx rfl ZG2) rfl rfl hx_2 fun v37 h_6 st => ?_
   dsimp only [List.set] at st
   refine ixV f0 st.le hp fun e41 u42 f hp => ?_
   refine cl1 hp st (fun s _ _ hx_4 => Zlh s.fle hx_4 (f.mono st.le)) fun r43 v43 h_7 st hp => ⟨_, rfl, ?_⟩
   refine Zz (st.rdL 0 rfl (Za _)).one ?_
   have st := st.freeze 0 rfl (Ze (Za _))
   dsimp only [List.set] at st
   have st := st.copyF 0 rfl
   obtain ⟨l45, hx_5, hp⟩ := obind hp
   refine Zcn st 1 rfl rfl rfl hx_5 fun v45 h_8 st => ?_
   dsimp only [List.set] at st
   obtain ⟨l49, hx_6, hp⟩ := obind hp
   refine ZtD (some k5) none (st.rdL 2 rfl (ZN _)) hx_6 fun v49 hv_2 => ?_
   obtain ⟨l50, hx_7, hp⟩ := obind hp
   refine app_S st 1 rfl (ZHw 2 rfl hv_2 hx_6 rfl ZG2) rfl rfl hx_7 fun v50 h_9 st => ?_
   dsimp only [List.set] at st
   obtain rfl := oI hp
   exact ⟨m, ltS, _, pk st [1], hs⟩
 ·obtain rfl := oI hp
  obtain rfl := oI hs
  exact ⟨v3, rfl, pk st [0]⟩
theorem ZJp {g0 v0_1 k1 orbits2 v2 r} (hp : ZD2 g0 k1 orbits2 = some r) (f0_1 : SlC (hcell h) eL v0_1 g0.Elements) (f2 : SlC (hcell h) eI v2 orbits2) : CallsH P ZGq #[.agg #[.int .i64 g0.Degree, v0_1], .int .i64 k1, v2] h (fun v h' => ∃ w0 : Value, v = .tuple #[.agg #[.int .i64 r.1.Points, w0], .int .i64 r.2] ∧ S ψ h h' [.it (El.ow eL) [w0] r.1.Blocks]) := by
 apply ZKh
 rw [ZD2] at hp
 have st := S.start hψ
 refine new_S st fun b3 h_2 st => ?_
 refine new_S st fun b6 h_3 st => ?_
 refine cl0 hp st (fun s _ _ hx => Zvo s.fle hx (st.cells 1 rfl) (f0_1.mono st.le)) fun r11 h_4 st hp => ⟨_, rfl, ?_⟩
 refine brQ hp (fun hp => ?_) fun hp => ?_
 ·refine Zb st 0 rfl rfl rfl rfl fun h_5 st => ?_
  refine Zb st 0 rfl rfl rfl rfl fun h_6 st => ?_
  dsimp only [List.set] at st
  refine bI st 0 0 ?_
  refine bV st 0 1 ?_
  have st := st.nilO (E := eL)
  obtain rfl := oI hp
  exact ⟨(.slice none 0 0), rfl, pk st [0]⟩
 ·refine bI st 1 0 ?_
  refine cl0 hp st (fun s_2 _ _ hx_2 => Zac s_2.fle hx_2) fun r17 h_7 st hp => ⟨_, rfl, ?_⟩
  refine brQ hp (fun hp => ?_) fun hp => ?_
  ·refine Zb st 0 rfl rfl rfl rfl fun h_8 st => ?_
   refine Zb st 0 rfl rfl rfl rfl fun h_9 st => ?_
   dsimp only [List.set] at st
   refine bI st 0 0 ?_
   refine bV st 0 1 ?_
   have st := st.nilO (E := eL)
   obtain rfl := oI hp
   exact ⟨(.slice none 0 0), rfl, pk st [0]⟩
  ·refine bI st 1 0 ?_
   refine cl0 hp st (fun s_3 _ _ hx_3 => ZEv s_3.fle hx_3) fun r23 h_10 st hp => ⟨_, rfl, ?_⟩
   refine brQ hp (fun hp => ?_) fun hp => ?_
   ·refine Zb st 0 rfl rfl rfl rfl fun h_11 st => ?_
    refine Zb st 0 rfl rfl rfl rfl fun h_12 st => ?_
    dsimp only [List.set] at st
    refine bI st 0 0 ?_
    refine bV st 0 1 ?_
    have st := st.nilO (E := eL)
    obtain rfl := oI hp
    exact ⟨(.slice none 0 0), rfl, pk st [0]⟩
   ·refine cl1 hp st (fun s_4 _ _ hx_4 => ZHg s_4.fle hx_4 (st.cells 1 rfl) (f0_1.mono st.le)) fun r27 v27 h_13 st hp => ⟨_, rfl, ?_⟩
    refine ZC (st.rdL 0 rfl (ZN _)) ?_
    refine cl0 hp st (fun s_5 _ _ hx_5 => Zrb s_5.fle hx_5 (f2.mono st.le)) fun r32 h_14 st hp => ⟨_, rfl, ?_⟩
    refine brQ hp (fun hp => ?_) fun hp => ?_
    ·refine Zb st 1 rfl rfl rfl rfl fun h_15 st => ?_
     refine Zb st 1 rfl rfl rfl rfl fun h_16 st => ?_
     dsimp only [List.set] at st
     refine bI st 1 0 ?_
     refine bV st 1 1 ?_
     have st := st.nilO (E := eL)
     obtain rfl := oI hp
     exact ⟨(.slice none 0 0), rfl, pk st [0]⟩
    ·refine Zan (E := eL) (css := []) (xs := ([] : List (List Int))) st (fun _ => rfl) rfl rfl fun v35 h_17 st => ?_
     obtain ⟨n_2, hn⟩ := Zy hp
     refine ⟨fun n v9 i10 h_18 => ∃ blocks9 : List (List Int), S ψ h h_18 [.it (El.ow eL) [v9] blocks9, .it (El.ow (El.sl eL)) [v27] r27, .box b6 [.int .i64 0, (.slice none 0 0)], .box b3 [.int .i64 g0.Degree, v0_1]] ∧ loopN (ZD0 g0 orbits2 r27) n (blocks9, i10) = some r, ⟨n_2, _, pk st [0,1,2,3], hn⟩, ?_⟩
     rintro n _ v9 i10 h_18 ⟨blocks9, st, hn⟩
     obtain ⟨m, a, rfl, hp, hs⟩ := Zw hn
     rw [ZD0] at hp
     refine vL f2 st.le ?_
     refine brQ hp (fun hp => ?_) fun hp => ?_
     ·refine ixI (f2.mono st.le) hp fun e46 hp => ?_
      refine ixA (st.rdL 1 rfl (ZN _)) hp fun e48 p48 ad_2 hx_7 hp => ?_
      refine Zc9 st 1 rfl ad_2 hx_7 fun u49 st => ?_
      obtain ⟨l50, hx_8, hp⟩ := obind hp
      refine app_S st 1 rfl (ZnM 0 rfl) rfl rfl hx_8 fun v50 h_19 st => ?_
      dsimp only [List.set] at st
      obtain rfl := oI hp
      exact ⟨m, ltS, _, pk st [1,2,3,4], hs⟩
     ·refine ZC (st.rdL 0 rfl (ZN _)) ?_
      refine brQ hp (fun hp => ?_) fun hp => ?_
      ·refine Zb st 2 rfl rfl rfl rfl fun h_20 st => ?_
       refine Zb st 2 rfl rfl rfl rfl fun h_21 st => ?_
       dsimp only [List.set] at st
       refine bI st 2 0 ?_
       refine bV st 2 1 ?_
       have st := st.nilO (E := eL)
       obtain rfl := oI hp
       obtain rfl := oI hs
       exact ⟨(.slice none 0 0), rfl, pk st [0]⟩
      ·refine ⟨fun _ => False, ?_⟩
       have stR_18 := st
       have xR_18 := ExtH.refl h_18
       obtain ⟨r58, hx_9, hp⟩ := obind hp
       obtain ⟨φ_6, L_6, s_6, r_7⟩ := id st
       refine (ZI7 s_6.fle hx_9 (st.rdL 0 rfl (ZN _))).mono fun v_7 h_22 ⟨v58, eq_6, t_6⟩ => ⟨_, eq_6, ExtBut.of_ext (xR_18.trans t_6.ext), ?_⟩
       replace xR_18 := xR_18.trans t_6.ext
       replace st := join1 s_6 r_7 t_6
       clear t_6 s_6 r_7
       refine ZA ?_
       refine ldI_K (stR_18.cells 3 rfl) 0 rfl rfl ?_
       refine Zz (st.rdL 0 rfl (ZN _)).one ?_
       refine Zb st 3 rfl rfl rfl rfl fun h_23 st => ?_
       refine Zb st 3 rfl rfl rfl (st.rdL 0 rfl (ZN _)).one fun h_24 st => ?_
       dsimp only [List.set] at st
       refine bI st 3 0 ?_
       refine bV st 3 1 ?_
       obtain rfl := oI hp
       obtain rfl := oI hs
       exact ⟨v58, rfl, pk st [0]⟩
theorem ZKH {g0 v0_1 t1 k2 lambda3 budget4 r} (hp : ZFu g0 t1 k2 lambda3 budget4 = some r) (f0_1 : SlC (hcell h) eL v0_1 g0.Elements) : CallsH P ZGY #[.agg #[.int .i64 g0.Degree, v0_1], .int .i64 t1, .int .i64 k2, .int .i64 lambda3, .int .i64 budget4] h (fun v h' => ∃ w0 : Value, v = .tuple #[.agg #[.int .i64 r.1.Points, w0], .int .i64 r.2] ∧ S ψ h h' [.it (El.ow eL) [w0] r.1.Blocks]) := by
 apply ZKI
 rw [ZFu] at hp
 have st := S.start hψ
 refine new_S st fun b5 h_2 st => ?_
 refine new_S st fun b10 h_3 st => ?_
 refine cl0 hp st (fun s _ _ hx => Zvo s.fle hx (st.cells 1 rfl) (f0_1.mono st.le)) fun r16 h_4 st hp => ⟨_, rfl, ?_⟩
 refine brQ hp (fun hp => ?_) fun hp => ?_
 ·refine Zb st 0 rfl rfl rfl rfl fun h_5 st => ?_
  refine Zb st 0 rfl rfl rfl rfl fun h_6 st => ?_
  dsimp only [List.set] at st
  refine bI st 0 0 ?_
  refine bV st 0 1 ?_
  have st := st.nilO (E := eL)
  obtain rfl := oI hp
  exact ⟨(.slice none 0 0), rfl, pk st [0]⟩
 ·refine cl0 hp st (fun s_2 _ _ hx_2 => ZKX s_2.fle hx_2) fun r20 h_7 st hp => ⟨_, rfl, ?_⟩
  refine brQ hp (fun hp => ?_) fun hp => ?_
  ·refine Zb st 0 rfl rfl rfl rfl fun h_8 st => ?_
   refine Zb st 0 rfl rfl rfl rfl fun h_9 st => ?_
   dsimp only [List.set] at st
   refine bI st 0 0 ?_
   refine bV st 0 1 ?_
   have st := st.nilO (E := eL)
   obtain rfl := oI hp
   exact ⟨(.slice none 0 0), rfl, pk st [0]⟩
  ·refine bI st 1 0 ?_
   refine bV st 1 1 ?_
   refine cl1 hp st (fun s_3 _ _ hx_3 => ZJM s_3.fle hx_3 (f0_1.mono st.le)) fun r27 v27 h_10 st hp => ⟨_, _, rfl, ?_⟩
   refine brQ hp (fun hp => ?_) fun hp => ?_
   ·refine Zb st 1 rfl rfl rfl rfl fun h_11 st => ?_
    refine Zb st 1 rfl rfl rfl rfl fun h_12 st => ?_
    dsimp only [List.set] at st
    refine bI st 1 0 ?_
    refine bV st 1 1 ?_
    have st := st.nilO (E := eL)
    obtain rfl := oI hp
    exact ⟨(.slice none 0 0), rfl, pk st [0]⟩
   ·refine ⟨fun h_13 => S ψ h h_13 [.it (El.ow eL) [v27] r27.1, .box b10 [.int .i64 0, (.slice none 0 0)], .box b5 [.int .i64 g0.Degree, v0_1]] ∧ ZFa g0 k2 lambda3 budget4 r27 = some r, ?_, ?_⟩
    ·refine brQ hp (fun hp => ?_) fun hp => ?_
     ·refine Zb st 1 rfl rfl rfl rfl fun h_20 st => ?_
      refine Zb st 1 rfl rfl rfl rfl fun h_21 st => ?_
      dsimp only [List.set] at st
      refine bI st 1 0 ?_
      refine bV st 1 1 ?_
      have st := st.nilO (E := eL)
      obtain rfl := oI hp
      exact ⟨(.slice none 0 0), rfl, pk st [0]⟩
     ·refine cl0 hp st (fun s_6 _ _ hx_6 => ZKQ s_6.fle hx_6) fun r38 h_22 st hp => ⟨_, rfl, ?_⟩
      refine brQ hp (fun hp => ?_) fun hp => ?_
      ·refine Zb st 1 rfl rfl rfl rfl fun h_23 st => ?_
       refine Zb st 1 rfl rfl rfl rfl fun h_24 st => ?_
       dsimp only [List.set] at st
       refine bI st 1 0 ?_
       refine bV st 1 1 ?_
       have st := st.nilO (E := eL)
       obtain rfl := oI hp
       exact ⟨(.slice none 0 0), rfl, pk st [0]⟩
      ·exact ⟨pk st [0,1,2], hp⟩
    ·rintro _ h_13 ⟨st, hp⟩
     rw [ZFa] at hp
     refine cl1 hp st (fun s_4 _ _ hx_4 => ZIL s_4.fle hx_4 (st.rdL 0 rfl (ZN _))) fun r46 v46 h_14 st hp => ⟨_, _, rfl, ?_⟩
     refine brQ hp (fun hp => ?_) fun hp => ?_
     ·refine Zb st 2 rfl rfl rfl rfl fun h_15 st => ?_
      refine Zb st 2 rfl rfl rfl rfl fun h_16 st => ?_
      dsimp only [List.set] at st
      refine bI st 2 0 ?_
      refine bV st 2 1 ?_
      have st := st.nilO (E := eL)
      obtain rfl := oI hp
      exact ⟨(.slice none 0 0), rfl, pk st [0]⟩
     ·refine bI st 3 0 ?_
      refine bV st 3 1 ?_
      refine cl1 hp st (fun s_5 _ _ hx_5 => ZJp s_5.fle hx_5 (f0_1.mono st.le) (st.rdL 0 rfl (Za _))) fun r56 v56 h_17 st hp => ⟨_, _, _, rfl, ?_⟩
      refine Zb st 3 rfl rfl rfl rfl fun h_18 st => ?_
      refine Zb st 3 rfl rfl rfl (st.rdL 0 rfl (ZN _)).one fun h_19 st => ?_
      dsimp only [List.set] at st
      refine bI st 3 0 ?_
      refine bV st 3 1 ?_
      obtain rfl := oI hp
      exact ⟨v56, rfl, pk st [0]⟩
theorem ZtJ {a0 v0 r} (hp : Zc2 a0 = some r) (f0 : SlC (hcell h) eI v0 a0) : zL Zlm #[v0] h ψ eI r := by
 apply ZrE
 rw [Zc2] at hp
 have st := S.start hψ
 refine vL f0 st.le ?_
 obtain ⟨l7, hx, hp⟩ := obind hp
 refine Zaz (E := eI) st rfl hx fun v7 h_2 st => ?_
 obtain ⟨n_2, hn⟩ := Zy hp
 refine ⟨fun n i4 h_3 => ∃ xs : List Int, S ψ h h_3 [.it oL [v7] xs] ∧ loopN (Zf5 a0) n (i4, xs) = some r, ⟨n_2, _, pk st [0], hn⟩, ?_⟩
 rintro n _ i4 h_3 ⟨xs, st, hn⟩
 obtain ⟨m, a, rfl, hp, hs⟩ := Zw hn
 rw [Zf5] at hp
 refine vL f0 st.le ?_
 refine brQ hp (fun hp => ?_) fun hp => ?_
 ·refine ixI (f0.mono st.le) hp fun e18 hp => ?_
  refine ixA (st.rdL 0 rfl (Za _)) hp fun e20 p20 ad_2 hx_3 hp => ?_
  refine st1_S st 0 rfl ad_2 hx_3 rfl (fun _ => ⟨rfl, rfl⟩) fun h_4 st => ?_
  dsimp only [List.set] at st
  obtain rfl := oI hp
  exact ⟨m, ltS, _, pk st [0], hs⟩
 ·obtain rfl := oI hp
  obtain rfl := oI hs
  exact ⟨v7, rfl, pk st [0]⟩
theorem ZsK {a0 v0 r} (hp : Zdz a0 = some r) (f0 : SlC (hcell h) eL v0 a0) : zL ZlJ #[v0] h ψ oL r := by
 apply Zq0
 rw [Zdz] at hp
 have st := S.start hψ
 refine vL f0 st.le ?_
 obtain ⟨l7, hx, hp⟩ := obind hp
 refine Zaz (E := oL) st rfl hx fun v7 h_2 st => ?_
 obtain ⟨n_2, hn⟩ := Zy hp
 refine ⟨fun n i4 h_3 => ∃ xs : List (List Int), S ψ h h_3 [.it (El.ow oL) [v7] xs] ∧ loopN (ZfD a0) n (i4, xs) = some r, ⟨n_2, _, pk st [0], hn⟩, ?_⟩
 rintro n _ i4 h_3 ⟨xs, st, hn⟩
 obtain ⟨m, a, rfl, hp, hs⟩ := Zw hn
 rw [ZfD] at hp
 refine vL f0 st.le ?_
 refine brQ hp (fun hp => ?_) fun hp => ?_
 ·refine ixV f0 st.le hp fun e18 u19 f hp => ?_
  refine cl1 hp st (fun s _ _ hx_3 => ZtJ s.fle hx_3 (f.mono st.le)) fun r20 v20 h_4 st hp => ⟨_, rfl, ?_⟩
  refine ixA (st.rdL 1 rfl (Ze (Za _))) hp fun e21 p21 ad_2 hx_4 hp => ?_
  refine Zh1 st 0 rfl ad_2 hx_4 rfl fun h_5 st => ?_
  dsimp only [List.set] at st
  obtain rfl := oI hp
  exact ⟨m, ltS, _, pk st [0], hs⟩
 ·obtain rfl := oI hp
  obtain rfl := oI hs
  exact ⟨v7, rfl, pk st [0]⟩
theorem ZFW {a0 v0_1 r} (hp : ZDL a0 = some r) (f0_1 : SlC (hcell h) eL v0_1 a0.Elements) : CallsH P ZEz #[.agg #[.int .i64 a0.Degree, v0_1]] h (fun v h' => ∃ w0 : Value, v = .agg #[.int .i64 r.Degree, w0] ∧ S ψ h h' [.it (El.ow oL) [w0] r.Elements]) := by
 apply ZKt
 rw [ZDL] at hp
 have st := S.start hψ
 refine new_S st fun b1 h_2 st => ?_
 refine new_S st fun b2 h_3 st => ?_
 refine new_S st fun b3 h_4 st => ?_
 refine bI st 2 0 ?_
 refine Zb st 0 rfl rfl rfl rfl fun h_5 st => ?_
 dsimp only [List.set] at st
 refine bV st 2 1 ?_
 refine cl1 hp st (fun s _ _ hx => ZsK s.fle hx (f0_1.mono st.le)) fun r9 v9 h_6 st hp => ⟨_, rfl, ?_⟩
 refine Zb st 1 rfl rfl rfl (st.rdL 0 rfl (Ze (Za _))).one fun h_7 st => ?_
 dsimp only [List.set] at st
 refine bI st 1 0 ?_
 refine bV st 1 1 ?_
 refine Zb st 2 rfl rfl rfl rfl fun h_8 st => ?_
 refine Zb st 2 rfl rfl rfl (st.rdL 0 rfl (Ze (Za _))).one fun h_9 st => ?_
 dsimp only [List.set] at st
 refine bI st 2 0 ?_
 refine bV st 2 1 ?_
 obtain rfl := oI hp
 exact ⟨v9, rfl, pk st [0]⟩
theorem Zah {n0 low1 high2 r} (hp : Z0 n0 low1 high2 = some r)  : zR Zab #[.int .i64 n0, .int .i64 low1, .int .i64 high2] h ψ (.bool r) := by
 apply Zp0
 rw [Z0] at hp
 have st := S.start hψ
 exact brQ hp (fun hp => tZ) fun hp => tZ
theorem Zmx {s0 : List (List Int)} {v0 : Value} {fn1 : (List Int) → Option Bool} {g1 : Nat} {cap1 : List Value} {r : Int} (hp : ZdU s0 fn1 = some r) (f0 : SlC (hcell h) eL v0 s0) (o1 : ctx.okf g1 = true) (k1 : ∀ {h1 : Heap}, ExtH h h1 → ∀ {ψ1 : CM}, CLe ψ1 (hcell h1) → ∀ {y0 : List Int} {u0_0 : Value} {r1 : Bool}, fn1 y0 = some r1 → SlC (hcell h1) eI u0_0 y0 → CallsH P g1 (([u0_0] : List Value) ++ cap1).toArray h1 (fun v h' => v = .bool r1 ∧ S ψ1 h1 h' [])) : zR ZhU #[v0, .func (.func g1) #[] cap1.toArray] h ψ (.int .i64 r) := by
 apply Zv4
 rw [ZdU] at hp
 have st := S.start hψ
 refine vL f0 st.le ?_
 refine lp1 hp (nlS st) fun m y8 h_2 a st hp hs => ?_
 rw [Zbh] at hp
 refine brR hp (fun hp => tZ) fun hp => ?_
 refine ixV f0 st.le hp fun e14 u15 f hp => ?_
 obtain ⟨r16, hx_2, hp⟩ := obind hp
 obtain ⟨φ, L, s, r_2⟩ := id st
 refine Zd4 o1 ?_
 refine (k1 st.ext s.fle hx_2 (f.mono st.le)).mono fun v_2 h_3 ⟨eq, t⟩ => ⟨_, eq, ?_⟩
 replace st := join0 s r_2 t
 clear t s r_2
 exact brQ hp (fun hp => tZ) fun hp => tZ
theorem Zjl {s0 : List (List Int)} {v0 : Value} {fn1 : (List Int) → Option Bool} {g1 : Nat} {cap1 : List Value} {r : Bool} (hp : Zdi s0 fn1 = some r) (f0 : SlC (hcell h) eL v0 s0) (o1 : ctx.okf g1 = true) (k1 : ∀ {h1 : Heap}, ExtH h h1 → ∀ {ψ1 : CM}, CLe ψ1 (hcell h1) → ∀ {y0 : List Int} {u0_0 : Value} {r1 : Bool}, fn1 y0 = some r1 → SlC (hcell h1) eI u0_0 y0 → CallsH P g1 (([u0_0] : List Value) ++ cap1).toArray h1 (fun v h' => v = .bool r1 ∧ S ψ1 h1 h' [])) : zR Ze2 #[v0, .func (.func g1) #[] cap1.toArray] h ψ (.bool r) := by
 apply Zp9
 rw [Zdi] at hp
 have st := S.start hψ
 refine cl0 hp st (fun s _ _ hx => Zmx s.fle hx (f0.mono st.le) o1 (fun hx1 => k1 (st.ext.trans hx1))) fun r7 h_2 st hp => ⟨_, rfl, ?_⟩
 exact tZ
theorem ZaY {list0 v0 r} (hp : ZI list0 = some r) (f0 : SlC (hcell h) eI v0 list0) : zR ZaA #[v0] h ψ (.int .i64 r) := by
 apply Zr5
 rw [ZI] at hp
 have st := S.start hψ
 refine vL f0 st.le ?_
 exact tZ
theorem ZjK {a0 v0 r} (hp : Zbu a0 = some r) (f0 : SlC (hcell h) eI v0 a0) : zL Zep #[v0] h ψ eI r := by
 apply ZtQ
 rw [Zbu] at hp
 have st := S.start hψ
 refine Zuy f0 (fun e1 e2 => Zps rfl ?_) (Zuc rfl ?_)
 ·subst e2
  obtain ⟨_, rfl⟩ := Zdj hp
  exact ⟨_, rfl, st.nilO⟩
 ·refine Zan (E := eI) (css := []) (xs := []) st (fun _ => rfl) rfl rfl fun v1 h1 st => ?_
  refine app_S st 0 rfl (ZnY (Zmh _) (f0.mono st.le)) rfl rfl hp fun v2 h2 st => ?_
  exact ⟨_, rfl, st⟩
end
theorem ZsZ {ψ : CM} {h0 h : Heap} {os : List Ob} {x0 : List Int} {v0 : Value} {r : List Int} (hp : ZeD x0 = some r) (st : S ψ h0 h (.it oL [v0] x0 :: os)) : CallsH P Zmd #[v0] h (fun v h' => v = .tuple #[] ∧ S ψ h0 h' (.it oL [v0] r :: os)) := by
  unfold ZeD at hp
  split at hp
  · rename_i hc
    obtain rfl := oI hp
    exact Zwl Tryz.sortM st hc
  · cases hp
section
variable {ψ : CM} {h : Heap} (hψ : CLe ψ (hcell h))
include hψ
theorem Zmg {p0 v0 r} (hp : Zdy p0 = some r) (f0 : SlC (hcell h) eI v0 p0) : zR Zgt #[v0] h ψ (.bool r) := by
 apply Zpb
 rw [Zdy] at hp
 have st := S.start hψ
 refine cl1 hp st (fun s _ _ hx => ZjK s.fle hx (f0.mono st.le)) fun r7 v7 h_2 st hp => ⟨_, rfl, ?_⟩
 obtain ⟨r9, hx_2, hp⟩ := obind hp
 obtain ⟨φ_2, L_2, s_2, r_3⟩ := id st
 refine (ZsZ hx_2 (s_2.upS r_3) ).mono fun v_3 h_3 ⟨eq_2, t_2⟩ => ⟨eq_2, ?_⟩
 replace st := s_2.downS t_2
 clear t_2 s_2 r_3
 refine ZC (st.rdL 0 rfl (Za _)) ?_
 refine lp1 (os := [.it oL [v7] r9]) hp (pk st [0]) fun m y12 h_4 a st hp hs => ?_
 rw [Zdf] at hp
 refine brQ hp (fun hp => ?_) fun hp => ?_
 ·refine ixI (st.rdL 0 rfl (Za _)) hp fun e15 hp => ?_
  refine brQ hp (fun hp => tZ) fun hp => ?_
  obtain rfl := oI hp
  exact ⟨m, ltS, pk st [0], hs⟩
 ·refine vL f0 st.le ?_
  exact tZ
theorem ZpY {p0 v0 y1 p1 r} (hp : ZhW p0 y1 = some r) (f0 : SlC (hcell h) eI v0 p0) (ck1 : CellsC (hcell h) p1 [.int .i64 y1]) : zR Zh8 #[v0, .pointer (some p1)] h ψ (.bool r) := by
 apply ZoJ
 rw [ZhW] at hp
 have st := S.start hψ
 refine ⟨fun _ => False, ?_⟩
 have stR_2 := st
 have xR_2 := ExtH.refl h
 obtain ⟨r5, hx, hp⟩ := obind hp
 obtain ⟨φ, L, s, r_2⟩ := id st
 refine (ZaY s.fle hx (f0.mono st.le)).mono fun v_2 h_2 ⟨eq, t⟩ => ⟨_, eq, ExtBut.of_ext (xR_2.trans t.ext), ?_⟩
 replace xR_2 := xR_2.trans t.ext
 replace st := join0 s r_2 t
 clear t s r_2
 refine ZA ?_
 refine kI ck1 stR_2.le 0 ?_
 refine brQ hp (fun hp => tZ) fun hp => ?_
 refine cl0 hp st (fun s_2 _ _ hx_2 => Zmg s_2.fle hx_2 (f0.mono st.le)) fun r10 h_3 st hp => ⟨_, rfl, ?_⟩
 exact tZ
theorem Zmb {degree0 list1 v1 r} (hp : ZdM degree0 list1 = some r) (f1 : SlC (hcell h) eL v1 list1) : zR Zhk #[.int .i64 degree0, v1] h ψ (.bool r) := by
 apply Zuh
 rw [ZdM] at hp
 have st := S.start hψ
 refine new_S st fun b2 h_2 st => ?_
 refine cl0 hp st (fun s _ _ hx => Zjl s.fle hx (f1.mono st.le) (by kernel_rfl) (fun hx1 => fun hψ1 => fun hp1 ff0 => ZpY hψ1 hp1 ff0 ((st.cells 0 rfl).mono (CLe.ext hx1)))) fun r7 h_3 st hp => ⟨_, rfl, ?_⟩
 exact tZ
theorem Znk {x0 r} (hp : ZcO x0 = some r)  : zR ZgM #[.int .i64 x0] h ψ (.bool r) := by
 apply ZrR
 rw [ZcO] at hp
 have st := S.start hψ
 exact tZ
theorem ZjJ {x0 y1 r} (hp : Za6 x0 y1 = some r)  : zR Zf6 #[.int .i64 x0, .int .i64 y1] h ψ (.int .i64 r) := by
 apply ZsM
 rw [Za6] at hp
 have st := S.start hψ
 refine cl0 hp st (fun s _ _ hx => Znk s.fle hx) fun r8 h_2 st hp => ⟨_, rfl, ?_⟩
 refine cl0 hp st (fun s_2 _ _ hx_2 => Znk s_2.fle hx_2) fun r10 h_3 st hp => ⟨_, rfl, ?_⟩
 refine brQ hp (fun hp => ?_) fun hp => ?_
 ·exact brQ hp (fun hp => tZ) fun hp => tZ
 ·refine brQ hp (fun hp => tZ) fun hp => ?_
  refine brQ hp (fun hp => tZ) fun hp => ?_
  exact brQ hp (fun hp => tZ) fun hp => tZ
theorem Zhq {s0 v0 s1 v1 r} (hp : Zam s0 s1 = some r) (f0 : SlC (hcell h) eI v0 s0) (f1 : SlC (hcell h) eI v1 s1) : zR ZdQ #[v0, v1] h ψ (.int .i64 r) := by
 apply Zst
 rw [Zam] at hp
 have st := S.start hψ
 refine vL f0 st.le ?_
 refine lp1 hp (nlS st) fun m y11 h_2 a st hp hs => ?_
 rw [Zbq] at hp
 refine brQ hp (fun hp => ?_) fun hp => ?_
 ·refine ixI (f0.mono st.le) hp fun e14 hp => ?_
  refine vL f1 st.le ?_
  refine brQ hp (fun hp => tZ) fun hp => ?_
  refine ixI (f1.mono st.le) hp fun e22 hp => ?_
  refine cl0 hp st (fun s _ _ hx_3 => ZjJ s.fle hx_3) fun r26 h_3 st hp => ⟨_, rfl, ?_⟩
  exact brQ hp (fun hp => tZ) fun hp => tZ
 ·refine vL f0 st.le ?_
  refine vL f1 st.le ?_
  exact brQ hp (fun hp => tZ) fun hp => tZ
end
theorem Zuw {ψ : CM} {h0 h : Heap} {os : List Ob} {E0 : El (List Int)} {x0 : List (List Int)} {v0 : Value} {fn1 : (List Int) → (List Int) → Option Int} {g1 : Nat} {cap1 : List Value} {r : List (List Int)} (hp : Zen x0 fn1 = some r) (st : S ψ h0 h (.it (El.ow E0) [v0] x0 :: os)) (o1 : ctx.okf g1 = true) (k1 : ∀ {h1 : Heap}, ExtH h0 h1 → ∀ {ψ1 : CM}, CLe ψ1 (hcell h1) → ∀ {y0 : List Int} {u0_0 : Value} {y1 : List Int} {u1_0 : Value} {r1 : Int}, fn1 y0 y1 = some r1 → SlC (hcell h1) eI u0_0 y0 → SlC (hcell h1) eI u1_0 y1 → CallsH P g1 (([u0_0, u1_0] : List Value) ++ cap1).toArray h1 (fun v h' => v = .int .i64 r1 ∧ S ψ1 h1 h' [])) (hz0 : E0.z = 1 := by exact rfl) (hf0 : Frz E0 eL := by first | exact Ze (Za _) | exact ZN _) : CallsH P ZmQ #[v0, .func (.func g1) #[] cap1.toArray] h (fun v h' => v = .tuple #[] ∧ S ψ h0 h' (.it (El.ow E0) [v0] r :: os)) := by
  unfold Zen at hp
  split at hp
  · rename_i hc
    obtain rfl := oI hp
    obtain ⟨fn, hf, hb, hn⟩ := ctxOk.fns g1 o1
    obtain ⟨c, hb⟩ := Option.isSome_iff_exists.1 hb
    exact ZrY Tryz.sortF Tryz.sortG st (Go.Proofs.enters_of hf hn hb) k1 hc.1 hc.2 hz0 hf0
  · cases hp
section
variable {ψ : CM} {h : Heap} (hψ : CLe ψ (hcell h))
include hψ
theorem Zu1 {n0 r} (hp : ZeN n0 = some r)  : zL ZiD #[.int .i64 n0] h ψ eI r := by
 apply Ztn
 rw [ZeN] at hp
 have st := S.start hψ
 obtain ⟨l6, hx, hp⟩ := obind hp
 refine Zaz (E := eI) st rfl hx fun v6 h_2 st => ?_
 refine ZC (st.rdL 0 rfl (Za _)) ?_
 obtain ⟨n_2, hn⟩ := Zy hp
 refine ⟨fun n y9 h_3 => ∃ xs : List Int, S ψ h h_3 [.it oL [v6] xs] ∧ loopN (ZcX l6) n (y9, xs) = some r, ⟨n_2, _, pk st [0], hn⟩, ?_⟩
 rintro n _ y9 h_3 ⟨xs, st, hn⟩
 obtain ⟨m, a, rfl, hp, hs⟩ := Zw hn
 rw [ZcX] at hp
 refine brQ hp (fun hp => ?_) fun hp => ?_
 ·refine ixA (st.rdL 0 rfl (Za _)) hp fun e15 p15 ad hx_2 hp => ?_
  refine st1_S st 0 rfl ad hx_2 rfl (fun _ => ⟨rfl, rfl⟩) fun h_4 st => ?_
  dsimp only [List.set] at st
  obtain rfl := oI hp
  exact ⟨m, ltS, _, pk st [0], hs⟩
 ·obtain rfl := oI hp
  obtain rfl := oI hs
  exact ⟨v6, rfl, pk st [0]⟩
theorem ZlW {p0 v0 r} (hp : ZcR p0 = some r) (f0 : SlC (hcell h) eI v0 p0) : zR ZgW #[v0] h ψ (.string r) := by
 apply Zqb
 rw [ZcR] at hp
 have st := S.start hψ
 refine vL f0 st.le ?_
 obtain ⟨l8, hx, hp⟩ := obind hp
 refine Zaz (E := (El.int .u8)) st rfl hx fun v8 h_2 st => ?_
 refine vL f0 st.le ?_
 obtain ⟨n_2, hn⟩ := Zy hp
 refine ⟨fun n y11 h_3 => ∃ xs : List Int, S ψ h h_3 [.it (El.ow (El.int .u8)) [v8] xs] ∧ loopN (ZdT p0) n (y11, xs) = some r, ⟨n_2, _, pk st [0], hn⟩, ?_⟩
 rintro n _ y11 h_3 ⟨xs, st, hn⟩
 obtain ⟨m, a, rfl, hp, hs⟩ := Zw hn
 rw [ZdT] at hp
 refine brQ hp (fun hp => ?_) fun hp => ?_
 ·refine ixI (f0.mono st.le) hp fun e14 hp => ?_
  refine ixA (st.rdL 0 rfl (Za _)) hp fun e20 p20 ad_2 hx_3 hp => ?_
  refine st1_S st 0 rfl ad_2 hx_3 rfl (fun _ => ⟨rfl, rfl⟩) fun h_4 st => ?_
  dsimp only [List.set] at st
  obtain rfl := oI hp
  exact ⟨m, ltS, _, pk st [0], hs⟩
 ·obtain ⟨s23, hx_4, hp⟩ := obind hp
  refine b2s_S (st.rdL 0 rfl (Za _)) hx_4 ?_
  exact tZ
theorem Zp2 {p0 v0 q1 v1 r} (hp : ZfO p0 q1 = some r) (f0 : SlC (hcell h) eI v0 p0) (f1 : SlC (hcell h) eI v1 q1) : zL ZkQ #[v0, v1] h ψ eI r := by
 apply ZsT
 rw [ZfO] at hp
 have st := S.start hψ
 refine vL f0 st.le ?_
 obtain ⟨l9, hx, hp⟩ := obind hp
 refine Zaz (E := eI) st rfl hx fun v9 h_2 st => ?_
 refine ZC (st.rdL 0 rfl (Za _)) ?_
 obtain ⟨n_2, hn⟩ := Zy hp
 refine ⟨fun n y12 h_3 => ∃ xs : List Int, S ψ h h_3 [.it oL [v9] xs] ∧ loopN (Zdw p0 q1 l9) n (y12, xs) = some r, ⟨n_2, _, pk st [0], hn⟩, ?_⟩
 rintro n _ y12 h_3 ⟨xs, st, hn⟩
 obtain ⟨m, a, rfl, hp, hs⟩ := Zw hn
 rw [Zdw] at hp
 refine brQ hp (fun hp => ?_) fun hp => ?_
 ·refine ixI (f0.mono st.le) hp fun e20 hp => ?_
  refine ixI (f1.mono st.le) hp fun e22 hp => ?_
  refine ixA (st.rdL 0 rfl (Za _)) hp fun e24 p24 ad_3 hx_4 hp => ?_
  refine st1_S st 0 rfl ad_3 hx_4 rfl (fun _ => ⟨rfl, rfl⟩) fun h_4 st => ?_
  dsimp only [List.set] at st
  obtain rfl := oI hp
  exact ⟨m, ltS, _, pk st [0], hs⟩
 ·obtain rfl := oI hp
  obtain rfl := oI hs
  exact ⟨v9, rfl, pk st [0]⟩
theorem Zm3 {degree0 genera1 v1 r} (hp : ZcN degree0 genera1 = some r) (f1 : SlC (hcell h) eL v1 genera1) : CallsH P Zhd #[.int .i64 degree0, v1] h (fun v h' => ∃ w0 : Value, v = .tuple #[w0, .bool r.2] ∧ S ψ h h' [.it (El.ow oL) [w0] r.1]) := by
 apply ZpA
 rw [ZcN] at hp
 have st := S.start hψ
 refine cl1 hp st (fun s _ _ hx => Zu1 s.fle hx) fun r14 v14 h_2 st hp => ⟨_, rfl, ?_⟩
 refine Zz (st.rdL 0 rfl (Za _)).one ?_
 refine ZjG st fun v15 h_3 st => ?_
 refine Zua (κ := ByteArray) (ν := Bool) kStr vBool st fun b16 h_4 st => ?_
 refine ixA (st.rdL 1 rfl (Ze (Za _))) hp fun e18 p18 ad hx_2 hp => ?_
 refine Zct st 1 rfl ad hx_2 fun u19 hd => ?_
 refine cl0 hp st (fun s_2 _ _ hx_3 => ZlW s_2.fle hx_3 (st.rowC 1 rfl hd hx_2 (Za _))) fun r20 h_5 st hp => ⟨_, rfl, ?_⟩
 refine ZlT (v := true) ZjI st 0 rfl rfl rfl fun h_6 st => ?_
 dsimp only [List.set] at st
 obtain ⟨n_4, hn⟩ := Zy hp
 refine ⟨fun n v6 k8 h_7 => ∃ elemen6 : List (List Int), ∃ mp : List (ByteArray × Bool), S ψ h h_7 [.mp b16 (mkV kStr vBool mp), .it (El.ow oL) [v6] elemen6] ∧ loopN (Za7 genera1) n (elemen6, k8, mp) = some r, ⟨n_4, _, _, pk st [0,1], hn⟩, ?_⟩
 rintro n _ v6 k8 h_7 ⟨elemen6, mp, st, hn⟩
 obtain ⟨m, a, rfl, hp, hs⟩ := Zw hn
 rw [Za7] at hp
 refine ZC (st.rdL 1 rfl (Ze (Za _))) ?_
 refine brQ hp (fun hp => ?_) fun hp => ?_
 ·refine vL f1 st.le ?_
  obtain ⟨n_3, hn_2⟩ := Zy hp
  refine ⟨fun n_2 v6_2 y30 h_8 => ∃ elemen6_2 : List (List Int), ∃ mp_2 : List (ByteArray × Bool), S ψ h h_8 [.mp b16 (mkV kStr vBool mp_2), .it (El.ow oL) [v6_2] elemen6_2] ∧ loopN (ZaW genera1 k8) n_2 (elemen6_2, y30, mp_2) = some a, ⟨n_3, _, _, pk st [0,1], hn_2⟩, ?_⟩
  rintro n_2 _ v6_2 y30 h_8 ⟨elemen6_2, mp_2, st, hn_2⟩
  obtain ⟨m_2, a_2, rfl, hp, hs_2⟩ := Zw hn_2
  rw [ZaW] at hp
  refine brQ hp (fun hp => ?_) fun hp => ?_
  ·refine ixV f1 st.le hp fun e32 u33 f hp => ?_
   refine ixA (st.rdL 1 rfl (Ze (Za _))) hp fun e36 p36 ad_3 hx_5 hp => ?_
   refine Zct st 1 rfl ad_3 hx_5 fun u37 hd_2 => ?_
   refine cl1 hp st (fun s_3 _ _ hx_6 => Zp2 s_3.fle hx_6 (st.rowC 1 rfl hd_2 hx_5 (Za _)) (f.mono st.le)) fun r39 v39 h_9 st hp => ⟨_, rfl, ?_⟩
   refine cl0 hp st (fun s_4 _ _ hx_7 => ZlW s_4.fle hx_7 (st.rdL 0 rfl (Za _))) fun r41 h_10 st hp => ⟨_, rfl, ?_⟩
   refine Zqe ZjI st 1 rfl rfl ?_
   refine brQ hp (fun hp => ?_) fun hp => ?_
   ·refine ZlT (v := true) ZjI st 1 rfl rfl rfl fun h_11 st => ?_
    dsimp only [List.set] at st
    refine Zz (st.rdL 0 rfl (Za _)).one ?_
    obtain ⟨l51, hx_8, hp⟩ := obind hp
    refine Zcn st 1 rfl rfl rfl hx_8 fun v51 h_12 st => ?_
    dsimp only [List.set] at st
    obtain rfl := oI hp
    exact ⟨m_2, ltS, _, _, pk st [0,1], hs_2⟩
   ·obtain rfl := oI hp
    exact ⟨m_2, ltS, _, _, pk st [1,2], hs_2⟩
  ·refine ZC (st.rdL 1 rfl (Ze (Za _))) ?_
   refine brQ hp (fun hp => ?_) fun hp => ?_
   ·have st := st.nilO (E := oL)
    obtain rfl := oI hp
    obtain rfl := oI hs_2
    obtain rfl := oI hs
    exact ⟨(.slice none 0 0), rfl, pk st [0]⟩
   ·obtain rfl := oI hp
    obtain rfl := oI hs_2
    exact ⟨m, ltS, _, _, pk st [0,1], hs⟩
 ·have st : S ψ h h_7 [.it (El.ow oL) [v6] elemen6, .mp b16 (mkV kStr vBool mp)] := pk st [1,0]
  obtain ⟨r57, hx_9, hp⟩ := obind hp
  obtain ⟨φ_5, L_5, s_5, r_6⟩ := id st
  refine (Zuw hx_9 (s_5.upS r_6) (by kernel_rfl) (fun hx1 => fun hψ1 => fun hp1 ff0 ff1 => Zhq hψ1 hp1 ff0 ff1)).mono fun v_6 h_13 ⟨eq_5, t_5⟩ => ⟨eq_5, ?_⟩
  replace st := s_5.downS t_5
  clear t_5 s_5 r_6
  obtain rfl := oI hp
  obtain rfl := oI hs
  exact ⟨v6, rfl, pk st [0]⟩
theorem ZoL {x0 : List (List Int)} {v0 : Value} {target1 : List Int} {v1 : Value} {fn2 : (List Int) → (List Int) → Option Int} {g2 : Nat} {cap2 : List Value} {r : Int × Bool} (hp : Ze4 x0 target1 fn2 = some r) (f0 : SlC (hcell h) eL v0 x0) (f1 : SlC (hcell h) eI v1 target1) (o2 : ctx.okf g2 = true) (k2 : ∀ {h1 : Heap}, ExtH h h1 → ∀ {ψ1 : CM}, CLe ψ1 (hcell h1) → ∀ {y0 : List Int} {u0_0 : Value} {y1 : List Int} {u1_0 : Value} {r1 : Int}, fn2 y0 y1 = some r1 → SlC (hcell h1) eI u0_0 y0 → SlC (hcell h1) eI u1_0 y1 → CallsH P g2 (([u0_0, u1_0] : List Value) ++ cap2).toArray h1 (fun v h' => v = .int .i64 r1 ∧ S ψ1 h1 h' [])) : zR Zkj #[v0, v1, .func (.func g2) #[] cap2.toArray] h ψ (.tuple #[.int .i64 r.1, .bool r.2]) := by
 apply Zt9
 rw [Ze4] at hp
 have st := S.start hψ
 refine vL f0 st.le ?_
 refine lp2 hp (nlS st) fun m i9 j10 h_2 a st hp hs => ?_
 rw [Zcw] at hp
 refine brQ hp (fun hp => ?_) fun hp => ?_
 ·obtain ⟨_, hx, hp⟩ := obind hp
  refine ⟨Zsl hx, ?_⟩
  refine ixV f0 st.le hp fun e27 u28 f hp => ?_
  obtain ⟨r30, hx_3, hp⟩ := obind hp
  obtain ⟨φ, L, s, r_2⟩ := id st
  refine Zd4 o2 ?_
  refine (k2 st.ext s.fle hx_3 (f.mono st.le) (f1.mono st.le)).mono fun v_2 h_3 ⟨eq, t⟩ => ⟨_, eq, ?_⟩
  replace st := join0 s r_2 t
  clear t s r_2
  exact brQ hp (fun hp => tZ) fun hp => tZ
 ·refine brR hp (fun hp => tZ) fun hp => ?_
  refine ixV f0 st.le hp fun e43 u44 f_2 hp => ?_
  obtain ⟨r46, hx_5, hp⟩ := obind hp
  obtain ⟨φ_2, L_2, s_2, r_3⟩ := id st
  refine Zd4 o2 ?_
  refine (k2 st.ext s_2.fle hx_5 (f_2.mono st.le) (f1.mono st.le)).mono fun v_3 h_4 ⟨eq_2, t_2⟩ => ⟨_, eq_2, ?_⟩
  replace st := join0 s_2 r_3 t_2
  clear t_2 s_2 r_3
  exact tZ
theorem ZpR {degree0 elemen1 v1 r} (hp : Zgg degree0 elemen1 = some r) (f1 : SlC ψ eL v1 elemen1) : CallsH P ZkV #[.int .i64 degree0, v1] h (fun v h' => ∃ w0 : Value, ∃ w1 : Value, v = .tuple #[w0, w1, .bool r.2.2] ∧ S ψ h h' [.it (El.ow eL) [w0] r.1, .it (El.ow eL) [w1] r.2.1]) := by
 apply Zra
 rw [Zgg] at hp
 have st := S.start hψ
 refine cl1 hp st (fun s _ _ hx => Zm3 s.fle hx SlC.nil) fun r16 v16 h_2 st hp => ⟨_, _, rfl, ?_⟩
 refine vL f1 st.leF ?_
 have st := st.nilO (E := eL)
 obtain ⟨n_2, hn⟩ := Zy hp
 refine ⟨fun n v7 v8 ok9 y21 h_3 => ∃ genera7 : List (List Int), ∃ all8 : List (List Int), S ψ h h_3 [.it (El.ow eL) [v7] genera7, .it (El.ow oL) [v8] all8] ∧ loopN (Zaf degree0 elemen1) n (genera7, all8, ok9, y21) = some r, ⟨n_2, _, _, pk st [0,1], hn⟩, ?_⟩
 rintro n _ v7 v8 ok9 y21 h_3 ⟨genera7, all8, st, hn⟩
 obtain ⟨m, a, rfl, hp, hs⟩ := Zw hn
 rw [Zaf] at hp
 refine brQ hp (fun hp => ?_) fun hp => ?_
 ·refine ixV f1 st.leF hp fun e23 u24 f hp => ?_
  refine ⟨fun h_4 => S ψ h h_4 [.it (El.ow eL) [v7] genera7, .it (El.ow oL) [v8] all8] ∧ Zfy degree0 genera7 y21 e23 = some a, ?_, ?_⟩
  ·refine cl0 hp st (fun s_3 _ _ hx_5 => ZoL s_3.fle hx_5 (st.rdL 1 rfl (Ze (Za _))) (f.mono st.leF) (by kernel_rfl) (fun hx1 => fun hψ1 => fun hp1 ff0 ff1 => Zhq hψ1 hp1 ff0 ff1)) fun r28 h_7 st hp => ⟨_, _, rfl, ?_⟩
   refine brQ hp (fun hp => ?_) fun hp => ?_
   ·obtain rfl := oI hp
    exact ⟨m, ltS, _, _, pk st [0,1], hs⟩
   ·refine brQ hp (fun hp => ?_) fun hp => ?_
    ·obtain rfl := oI hp
     exact ⟨m, ltS, _, _, pk st [0,1], hs⟩
    ·exact ⟨pk st [0,1], hp⟩
  ·rintro _ h_4 ⟨st, hp⟩
   rw [Zfy] at hp
   refine Zz (f.mono st.leF).one ?_
   have st := st.arg f
   obtain ⟨l39, hx_3, hp⟩ := obind hp
   refine Zcn st 0 rfl rfl rfl hx_3 fun v39 h_5 st => ?_
   dsimp only [List.set] at st
   refine cl1 hp st (fun s_2 _ _ hx_4 => Zm3 s_2.fle hx_4 (st.rdL 0 rfl (ZN _))) fun r43 v43 h_6 st hp => ⟨_, _, rfl, ?_⟩
   obtain rfl := oI hp
   exact ⟨m, ltS, _, _, pk st [1,0], hs⟩
 ·have st := st.frzIn 1 rfl (Ze (Za _))
  dsimp only [List.set] at st
  obtain rfl := oI hp
  obtain rfl := oI hs
  exact ⟨v7, v8, rfl, pk st [0,1]⟩
theorem ZuS {y0 v0_1 r} (hp : ZeF y0 = some r) (f0_1 : SlC ψ eL v0_1 y0.Elements) : zR Zk7 #[.agg #[.int .i64 y0.Degree, v0_1]] h ψ (.bool r) := by
 apply Zpz
 rw [ZeF] at hp
 have st := S.start hψ
 refine new_S st fun b1 h_2 st => ?_
 refine ⟨fun h_3 => S ψ h h_3 [.box b1 [.int .i64 y0.Degree, v0_1]] ∧ ZgB y0 = some r, ?_, ?_⟩
 ·refine bI st 0 0 ?_
  refine cl0 hp st (fun s_3 _ _ hx_5 => Zah s_3.fle hx_5) fun r9 h_7 st hp => ⟨_, rfl, ?_⟩
  refine brQ hp (fun hp => tZ) fun hp => ?_
  refine bV st 0 1 ?_
  refine vL f0_1 st.leF ?_
  refine brQ hp (fun hp => tZ) fun hp => ?_
  refine bV st 0 1 ?_
  refine vL f0_1 st.leF ?_
  refine brQ hp (fun hp => tZ) fun hp => ?_
  refine bI st 0 0 ?_
  refine bV st 0 1 ?_
  refine cl0 hp st (fun s_4 _ _ hx_6 => Zmb s_4.fle hx_6 (f0_1.mono st.leF)) fun r28 h_8 st hp => ⟨_, rfl, ?_⟩
  refine brQ hp (fun hp => tZ) fun hp => ?_
  exact ⟨pk st [0], hp⟩
 ·rintro _ h_3 ⟨st, hp⟩
  rw [ZgB] at hp
  refine lp1 (os := [.box b1 [.int .i64 y0.Degree, v0_1]]) hp (pk st [0]) fun m y3 h_4 a st hp hs => ?_
  rw [ZcI] at hp
  refine bV st 0 1 ?_
  refine vL f0_1 st.leF ?_
  refine brQ hp (fun hp => ?_) fun hp => ?_
  ·refine bV st 0 1 ?_
   refine ixV f0_1 st.leF hp fun e42 u43 f hp => ?_
   refine bV st 0 1 ?_
   refine ixV f0_1 st.leF hp fun e47 u48 f_2 hp => ?_
   refine cl0 hp st (fun s _ _ hx_3 => Zhq s.fle hx_3 (f.mono st.leF) (f_2.mono st.leF)) fun r49 h_5 st hp => ⟨_, rfl, ?_⟩
   refine brQ hp (fun hp => tZ) fun hp => ?_
   obtain rfl := oI hp
   exact ⟨m, ltS, pk st [0], hs⟩
  ·refine bI st 0 0 ?_
   refine bV st 0 1 ?_
   refine cl2 hp st (fun s_2 _ _ hx_4 => ZpR s_2.fle hx_4 (f0_1.mono s_2.bas)) fun r56 v56 v56_2 h_6 st hp => ⟨_, _, _, rfl, ?_⟩
   refine brR hp (fun hp => tZ) fun hp => ?_
   refine ZC (st.rdL 1 rfl (ZN _)) ?_
   refine bV st 2 1 ?_
   refine vL f0_1 st.leF ?_
   exact tZ
theorem ZH2 {n0 r} (hp : ZEs n0 = some r)  : zR ZF3 #[.int .i64 n0] h ψ (.bool r) := by
 apply ZJy
 rw [ZEs] at hp
 have st := S.start hψ
 refine cl0 hp st (fun s _ _ hx => Zah s.fle hx) fun r4 h_2 st hp => ⟨_, rfl, ?_⟩
 exact tZ
theorem ZGQ {n0 k1 r} (hp : ZDu n0 k1 = some r)  : zR ZFo #[.int .i64 n0, .int .i64 k1] h ψ (.int .i64 r) := by
 apply ZJI
 rw [ZDu] at hp
 have st := S.start hψ
 refine ⟨fun h_2 => S ψ h h_2 [] ∧ ZFp n0 k1 = some r, ?_, ?_⟩
 ·refine cl0 hp st (fun s _ _ hx_2 => Zah s.fle hx_2) fun r8 h_4 st hp => ⟨_, rfl, ?_⟩
  refine brQ hp (fun hp => tZ) fun hp => ?_
  refine cl0 hp st (fun s_2 _ _ hx_3 => Zah s_2.fle hx_3) fun r13 h_5 st hp => ⟨_, rfl, ?_⟩
  exact brQ hp (fun hp => tZ) fun hp => tZ
 ·rintro _ h_2 ⟨st, hp⟩
  rw [ZFp] at hp
  refine lp2 hp (nlS st) fun m count5 i6 h_3 a st hp hs => ?_
  rw [ZFL] at hp
  refine brR hp (fun hp => tZ) fun hp => ?_
  obtain ⟨_, hx, hp⟩ := obind hp
  refine ⟨Zaa hx, ?_⟩
  exact tZ
theorem ZHk {g0 v0_1 sizes1 v1 r} (hp : ZEw g0 sizes1 = some r) (f0_1 : SlC (hcell h) eL v0_1 g0.Elements) (f1 : SlC (hcell h) eI v1 sizes1) : zR ZFQ #[.agg #[.int .i64 g0.Degree, v0_1], v1] h ψ (.int .i64 r) := by
 apply ZIK
 rw [ZEw] at hp
 have st := S.start hψ
 refine new_S st fun b2 h_2 st => ?_
 refine bI st 0 0 ?_
 refine bV st 0 1 ?_
 obtain ⟨r10, hx, hp⟩ := obind hp
 obtain ⟨φ, L, s, r_2⟩ := id st
 refine (ZuS (CLe.refl _) hx (f0_1.mono st.le)).mono fun v_2 h_3 ⟨eq, t⟩ => ⟨_, eq, ?_⟩
 replace st := join0 s r_2 (t.weak s.fle)
 clear t s r_2
 refine brQ hp (fun hp => tZ) fun hp => ?_
 refine vL f1 st.le ?_
 refine lp1 (os := [.box b2 [.int .i64 g0.Degree, v0_1]]) hp (pk st [0]) fun m y14 h_4 a st hp hs => ?_
 rw [ZFj] at hp
 refine brQ hp (fun hp => ?_) fun hp => ?_
 ·refine ixI (f1.mono st.le) hp fun e16 hp => ?_
  refine bI st 0 0 ?_
  refine cl0 hp st (fun s_2 _ _ hx_3 => Zah s_2.fle hx_3) fun r21 h_5 st hp => ⟨_, rfl, ?_⟩
  refine brQ hp (fun hp => tZ) fun hp => ?_
  obtain rfl := oI hp
  exact ⟨m, ltS, pk st [0], hs⟩
 ·refine vL f1 st.le ?_
  refine lp1 (os := [.box b2 [.int .i64 g0.Degree, v0_1]]) hp (pk st [0]) fun m_2 y26 h_6 a_2 st hp hs_2 => ?_
  rw [ZDV] at hp
  refine brQ hp (fun hp => ?_) fun hp => ?_
  ·refine ixI (f1.mono st.le) hp fun e28 hp => ?_
   refine bI st 0 0 ?_
   refine cl0 hp st (fun s_3 _ _ hx_5 => ZGQ s_3.fle hx_5) fun r33 h_7 st hp => ⟨_, rfl, ?_⟩
   refine brQ hp (fun hp => ?_) fun hp => ?_
   ·obtain rfl := oI hp
    obtain rfl := oI hs_2
    obtain rfl := oI hs
    exact ⟨rfl, nlS st⟩
   ·obtain rfl := oI hp
    exact ⟨m_2, ltS, pk st [0], hs_2⟩
  ·obtain rfl := oI hp
   obtain rfl := oI hs_2
   obtain rfl := oI hs
   exact ⟨rfl, nlS st⟩
theorem Zpw {set0 v0 n1 r} (hp : ZeX set0 n1 = some r) (f0 : SlC (hcell h) eI v0 set0) : zR Zjg #[v0, .int .i64 n1] h ψ (.bool r) := by
 apply Zqy
 rw [ZeX] at hp
 have st := S.start hψ
 refine vL f0 st.le ?_
 refine lp2 hp (nlS st) fun m last5 y10 h_2 a st hp hs => ?_
 rw [Zbk] at hp
 refine brQ hp (fun hp => ?_) fun hp => ?_
 ·refine ixI (f0.mono st.le) hp fun e12 hp => ?_
  refine brQ hp (fun hp => tZ) fun hp => ?_
  exact brQ hp (fun hp => tZ) fun hp => tZ
 ·refine cl0 hp st (fun s _ _ hx_2 => Zah s.fle hx_2) fun r25 h_3 st hp => ⟨_, rfl, ?_⟩
  exact tZ
theorem ZK2 {n0 set1 v1 r} (hp : ZFy n0 set1 = some r) (f1 : SlC (hcell h) eI v1 set1) : CallsH P ZG6 #[.int .i64 n0, v1] h (fun v h' => ∃ w0 : Value, v = .tuple #[w0, .bool r.2] ∧ S ψ h h' [.it oL [w0] r.1]) := by
 apply ZJB
 rw [ZFy] at hp
 have st := S.start hψ
 refine cl0 hp st (fun s _ _ hx => Zpw s.fle hx (f1.mono st.le)) fun r12 h_2 st hp => ⟨_, rfl, ?_⟩
 refine brQ hp (fun hp => ?_) fun hp => ?_
 ·have st := st.nilO (E := eI)
  obtain rfl := oI hp
  exact ⟨(.slice none 0 0), rfl, pk st [0]⟩
 ·refine cl0 hp st (fun s_2 _ _ hx_2 => ZaY s_2.fle hx_2 (f1.mono st.le)) fun r15 h_3 st hp => ⟨_, rfl, ?_⟩
  refine lp1 hp (nlS st) fun m i7 h_4 a st hp hs => ?_
  rw [ZEg] at hp
  refine brQ hp (fun hp => ?_) fun hp => ?_
  ·refine ixI (f1.mono st.le) hp fun e24 hp => ?_
   refine brQ hp (fun hp => tZ) fun hp => ?_
   refine cl1 hp st (fun s_3 _ _ hx_4 => ZjK s_3.fle hx_4 (f1.mono st.le)) fun r33 v33 h_5 st hp => ⟨_, rfl, ?_⟩
   obtain ⟨n_3, hn_2⟩ := Zy hp
   refine ⟨fun n_2 j9 h_6 => ∃ xs : List Int, S ψ h h_6 [.it oL [v33] xs] ∧ loopN (ZD8 set1 r15 i7) n_2 (j9, xs) = some a, ⟨n_3, _, pk st [0], hn_2⟩, ?_⟩
   rintro n_2 _ j9 h_6 ⟨xs, st, hn_2⟩
   obtain ⟨m_2, a_2, rfl, hp, hs_2⟩ := Zw hn_2
   rw [ZD8] at hp
   refine brQ hp (fun hp => ?_) fun hp => ?_
   ·refine ixI (f1.mono st.le) hp fun e44 hp => ?_
    refine ixA (st.rdL 0 rfl (Za _)) hp fun e51 p51 ad_3 hx_6 hp => ?_
    refine st1_S st 0 rfl ad_3 hx_6 rfl (fun _ => ⟨rfl, rfl⟩) fun h_7 st => ?_
    dsimp only [List.set] at st
    obtain rfl := oI hp
    exact ⟨m_2, ltS, _, pk st [0], hs_2⟩
   ·obtain rfl := oI hp
    obtain rfl := oI hs_2
    obtain rfl := oI hs
    exact ⟨v33, rfl, pk st [0]⟩
  ·have st := st.nilO (E := eI)
   obtain rfl := oI hp
   obtain rfl := oI hs
   exact ⟨(.slice none 0 0), rfl, pk st [0]⟩
theorem ZJo {n0 k1 r} (hp : ZEP n0 k1 = some r)  : zL ZGT #[.int .i64 n0, .int .i64 k1] h ψ eL r := by
 apply ZI5
 rw [ZEP] at hp
 have st := S.start hψ
 refine cl1 hp st (fun s _ _ hx => Zu1 s.fle hx) fun r9 v9 h_2 st hp => ⟨_, rfl, ?_⟩
 have st := st.nilO (E := eL)
 obtain ⟨n_2, hn⟩ := Zy hp
 refine ⟨fun n v5 v6 more7 h_3 => ∃ list5 : List (List Int), ∃ set6 : List Int, S ψ h h_3 [.it (El.ow eL) [v5] list5, .it oL [v6] set6] ∧ loopN (ZD3 n0) n (list5, set6, more7) = some r, ⟨n_2, _, _, pk st [0,1], hn⟩, ?_⟩
 rintro n _ v5 v6 more7 h_3 ⟨list5, set6, st, hn⟩
 obtain ⟨m, a, rfl, hp, hs⟩ := Zw hn
 rw [ZD3] at hp
 refine brQ hp (fun hp => ?_) fun hp => ?_
 ·refine Zz (st.rdL 1 rfl (Za _)).one ?_
  have st := st.freeze 1 rfl (Ze (Za _))
  dsimp only [List.set] at st
  have st := st.copyF 1 rfl
  obtain ⟨l17, hx_2, hp⟩ := obind hp
  refine Zcn st 0 rfl rfl rfl hx_2 fun v17 h_4 st => ?_
  dsimp only [List.set] at st
  refine cl1 hp st (fun s_2 _ _ hx_3 => ZK2 s_2.fle hx_3 (st.rdF 1 rfl)) fun r21 v21 h_5 st hp => ⟨_, _, rfl, ?_⟩
  obtain rfl := oI hp
  exact ⟨m, ltS, _, _, pk st [1,0], hs⟩
 ·obtain rfl := oI hp
  obtain rfl := oI hs
  exact ⟨v5, rfl, pk st [0]⟩
theorem ZKi {p0 v0 set1 v1 r} (hp : ZEO p0 set1 = some r) (f0 : SlC (hcell h) eI v0 p0) (f1 : SlC (hcell h) eI v1 set1) : zL ZGd #[v0, v1] h ψ eI r := by
 apply ZKs
 rw [ZEO] at hp
 have st := S.start hψ
 refine vL f1 st.le ?_
 have st := st.nilO (E := eI)
 obtain ⟨n_2, hn⟩ := Zy hp
 refine ⟨fun n v5 y10 h_2 => ∃ out5 : List Int, S ψ h h_2 [.it oL [v5] out5] ∧ loopN (ZEk p0 set1) n (out5, y10) = some r, ⟨n_2, _, pk st [0], hn⟩, ?_⟩
 rintro n _ v5 y10 h_2 ⟨out5, st, hn⟩
 obtain ⟨m, a, rfl, hp, hs⟩ := Zw hn
 rw [ZEk] at hp
 refine brQ hp (fun hp => ?_) fun hp => ?_
 ·refine ixI (f1.mono st.le) hp fun e12 hp => ?_
  refine ixI (f0.mono st.le) hp fun e17 hp => ?_
  obtain ⟨l20, hx_3, hp⟩ := obind hp
  refine Zad st 0 rfl (fun _ => ⟨rfl, rfl⟩) rfl rfl hx_3 fun v20 h_3 st => ?_
  dsimp only [List.set] at st
  obtain rfl := oI hp
  exact ⟨m, ltS, _, pk st [0], hs⟩
 ·obtain ⟨r23, hx_4, hp⟩ := obind hp
  obtain ⟨φ, L, s, r_2⟩ := id st
  refine (ZsZ hx_4 (s.upS r_2) ).mono fun v_2 h_4 ⟨eq, t⟩ => ⟨eq, ?_⟩
  replace st := s.downS t
  clear t s r_2
  obtain rfl := oI hp
  obtain rfl := oI hs
  exact ⟨v5, rfl, pk st [0]⟩
end
theorem ZJd {ψ : CM} {h0 h : Heap} {os : List Ob} {x0 : List (List Int)} {v0 : Value} {fn1 : (List Int) → (List Int) → Option Bool} {g1 : Nat} {cap1 : List Value} {r : List (List Int)} (hp : ZFn x0 fn1 = some r) (st : S ψ h0 h (.it (El.ow eL) [v0] x0 :: os)) (o1 : ctx.okf g1 = true) (k1 : ∀ {h1 : Heap}, ExtH h0 h1 → ∀ {ψ1 : CM}, CLe ψ1 (hcell h1) → ∀ {y0 : List Int} {u0_0 : Value} {y1 : List Int} {u1_0 : Value} {r1 : Bool}, fn1 y0 y1 = some r1 → SlC (hcell h1) eI u0_0 y0 → SlC (hcell h1) eI u1_0 y1 → CallsH P g1 (([u0_0, u1_0] : List Value) ++ cap1).toArray h1 (fun v h' => v = .bool r1 ∧ S ψ1 h1 h' [])) : CallsH P ZGp #[v0, .func (.func g1) #[] cap1.toArray] h (fun v h' => ∃ w0 : Value, v = w0 ∧ S ψ h0 h' (.it (El.ow eL) [w0] r :: os)) := by
  apply ZJg
  unfold ZFn at hp
  split at hp
  case isFalse => cases hp
  rename_i hlen
  have frz : Frz eL eL := ZN _
  have ap : ∀ {k : Nat} {x : List Int} {ys : List (List Int)}, ys[k]? = some x → gIdx ys (k : Int) = some x := fun h => by unfold gIdx; rw [if_pos (by omega), Int.toNat_natCast]; exact h
  have w1 : ∀ {k : Nat}, k < x0.length → IntKind.i64.wrap ((k : Int) + 1) = ((k + 1 : Nat) : Int) := fun h => by rw [Zbf (by omega) (by omega)]; omega
  have w2 : ∀ {k : Nat}, k + 1 ≤ x0.length → IntKind.i64.wrap (((k + 1 : Nat) : Int) - 1) = (k : Int) := fun h => by rw [Zbf (by omega) (by omega)]; omega
  refine ZC (st.rdL 0 rfl frz) ?_
  refine ZCW (fun hc => ?_) (fun hc => ?_)
  · have hl : x0.length < 2 := by have := of_decide_eq_true hc; omega
    have hr : r = x0 := by
      cases x0 with
      | nil => exact (oI hp).symm
      | cons a t =>
        cases t with
        | nil => exact (oI hp).symm
        | cons b t => simp at hl; omega
    subst hr
    exact ⟨v0, rfl, st⟩
  · have hl : 2 ≤ x0.length := by have := of_decide_eq_false hc; omega
    refine ⟨fun n x5 h_2 => S ψ h0 h_2 (.it (El.ow eL) [v0] x0 :: os) ∧ ∃ k p q, x5 = ((k + 1 : Nat) : Int) ∧ k + 1 + n = x0.length ∧ x0[k]? = some p ∧ cpt fn1 p (x0.drop (k + 1)) = some q ∧ r = x0.take (k + 1) ++ q, ⟨x0.length - 1, st, ?_⟩, ?_⟩
    · cases x0 with
      | nil => simp at hl
      | cons a t =>
        have hp : (cpt fn1 a t).map (a :: ·) = some r := hp
        cases hq : cpt fn1 a t with
        | none => rw [hq] at hp; cases hp
        | some q => rw [hq] at hp; exact ⟨0, a, q, rfl, by simp; omega, rfl, by simpa using hq, by simpa using (oI hp).symm⟩
    · rintro n _ x5 h_2 ⟨st, k, p, q, rfl, hkn, hpk, hq, hr⟩
      refine ZC (st.rdL 0 rfl frz) ?_
      refine ZCW (fun hc => ?_) (fun hc => ?_)
      · have hk : k + 1 < x0.length := by have := of_decide_eq_true hc; omega
        obtain ⟨y, hy⟩ := Za5 (xs := x0) (k := k + 1) hk
        obtain ⟨b, l, f1, f2, f3⟩ := ZHs (ZHS hy) hq
        refine ZaR (st.rdL 0 rfl frz) (ap hy) fun p21 ad => ?_
        refine ldV_C (st.rdL 0 rfl frz) (CLe.refl _) ad (ap hy) fun u22 g22 => ?_
        simp only [w2 (k := k) (by omega)]
        refine ZaR (st.rdL 0 rfl frz) (ap hpk) fun p26 ad2 => ?_
        refine ldV_C (st.rdL 0 rfl frz) (CLe.refl _) ad2 (ap hpk) fun u27 g27 => ?_
        refine Zd4 o1 ?_
        obtain ⟨φ, L, s, q0⟩ := id st
        refine (k1 st.ext s.fle f1 g22 g27).mono fun v h_3 ⟨e, t⟩ => ⟨_, e, ?_⟩
        replace st := join0 s q0 t
        clear t s q0
        cases b with
        | false =>
          refine Zuc rfl ?_
          refine ⟨n - 1, by omega, st, k + 1, y, l, w1 hk, by omega, hy, f2, ?_⟩
          rw [hr, f3, ZHA hy]; simp
        | true =>
          refine Zps rfl ?_
          have hg : gSl x0 ((k + 1 : Nat) : Int) (x0.length : Int) = some (x0.drop (k + 1)) := by
            unfold gSl
            rw [if_pos ⟨by omega, by omega, by omega⟩, Int.toNat_natCast, Int.toNat_natCast, List.take_length]
          refine ZtD (some ((k + 1 : Nat) : Int)) none (st.rdL 0 rfl frz) hg fun v31 hv => ?_
          simp only [Option.getD_some, Option.getD_none, Int.toNat_natCast] at hv
          have hq2 : r = x0.take (k + 1) ++ l := by rw [hr, f3]; rfl
          refine ⟨fun n3 x5 x7 h_4 => ∃ ys : List (List Int), S ψ h0 h_4 (.it (El.ow eL) [v0] ys :: os) ∧ ∃ k' k2 p q, x5 = ((k' : Nat) : Int) ∧ x7 = ((k2 + 1 : Nat) : Int) ∧ k + 1 + k2 + 1 + n3 = x0.length ∧ ys.length = x0.length ∧ k' ≤ k + 1 + k2 ∧ x0[k + 1 + k2]? = some p ∧ (∀ j, k + 1 + k2 ≤ j → ys[j]? = x0[j]?) ∧ cpt fn1 p (x0.drop (k + 1 + k2 + 1)) = some q ∧ r = ys.take k' ++ q,
            ⟨x0.length - (k + 2), x0, st, k + 1, 0, y, l, rfl, rfl, by omega, rfl, by omega, hy, fun _ _ => rfl, f2, hq2⟩, ?_⟩
          rintro n3 _ x5 x7 h_4 ⟨ys, st, k', k2, p, q, rfl, rfl, hn3, hyl, hk', hpk, hys, hq, hr⟩
          have hgy : gSl ys ((k + 1 : Nat) : Int) (ys.length : Int) = some (ys.drop (k + 1)) := by
            unfold gSl
            rw [if_pos ⟨by omega, by omega, by omega⟩, Int.toNat_natCast, Int.toNat_natCast, List.take_length]
          have hv' : IsView v0 1 (((k + 1 : Nat) : Int)).toNat ((ys.length : Int)).toNat v31 := by rw [hyl]; exact hv
          have fv : SlC (hcell h_4) eL v31 (ys.drop (k + 1)) := hv'.C (st.rdL 0 rfl frz) hgy rfl
          refine ZC fv ?_
          refine ZCW (fun hc => ?_) (fun hc => ?_)
          · have hk2 : k + 1 + k2 + 1 < x0.length := by
              have := of_decide_eq_true hc
              rw [List.length_drop] at this; omega
            obtain ⟨y, hy⟩ := Za5 (xs := x0) (k := k + 1 + k2 + 1) hk2
            obtain ⟨b, l, f1, f2, f3⟩ := ZHs (ZHS hy) hq
            have g1 : (ys.drop (k + 1))[k2 + 1]? = some y := by rw [List.getElem?_drop, show k + 1 + (k2 + 1) = k + 1 + k2 + 1 by omega, hys _ (by omega)]; exact hy
            have g2 : (ys.drop (k + 1))[k2]? = some p := by rw [List.getElem?_drop, hys _ (by omega)]; exact hpk
            refine ZaR fv (ap g1) fun p41 ad => ?_
            refine ldV_C fv (CLe.refl _) ad (ap g1) fun u22 g22 => ?_
            simp only [w2 (k := k2) (by omega)]
            refine ZaR fv (ap g2) fun p46 ad2 => ?_
            refine ldV_C fv (CLe.refl _) ad2 (ap g2) fun u27 g27 => ?_
            refine Zd4 o1 ?_
            obtain ⟨φ, L, s, q0⟩ := id st
            refine (k1 st.ext s.fle f1 g22 g27).mono fun v h_5 ⟨e, t⟩ => ⟨_, e, ?_⟩
            replace st := join0 s q0 t
            clear t s q0
            have fv : SlC (hcell h_5) eL v31 (ys.drop (k + 1)) := hv'.C (st.rdL 0 rfl frz) hgy rfl
            cases b with
            | false =>
              refine Zps rfl ?_
              refine ZaR fv (ap g1) fun p54 ad3 => ?_
              have ad4 : AddrOf v0 (((k + 1 : Nat) : Int) + ((k2 + 1 : Nat) : Int)) 1 p54 := hv'.addr ad3 (by omega) (by rw [Int.toNat_natCast, Int.toNat_natCast, Int.toNat_natCast]; omega)
              have hgi : gIdx ys (((k + 1 : Nat) : Int) + ((k2 + 1 : Nat) : Int)) = some y := by
                rw [show ((k + 1 : Nat) : Int) + ((k2 + 1 : Nat) : Int) = ((k + 1 + k2 + 1 : Nat) : Int) by omega]
                exact ap (by rw [hys _ (by omega)]; exact hy)
              refine Zc9 st 0 rfl ad4 hgi fun u55 st => ?_
              obtain ⟨z, hz⟩ := Za5 (xs := ys) (k := k') (by omega)
              refine ZaR (st.rdL 1 rfl frz) (ap hz) fun p56 ad5 => ?_
              refine Zh1 st 0 rfl ad5 (ap hz) rfl fun h_6 st => ?_
              dsimp only [List.set] at st
              rw [Int.toNat_natCast] at st
              refine ⟨n3 - 1, by omega, _, st, k' + 1, k2 + 1, y, l, w1 (by omega), w1 (by omega), by omega, by rw [List.length_set]; exact hyl, by omega, hy, fun j hj => ?_, f2, ?_⟩
              · rw [List.getElem?_set_ne (by omega)]; exact hys j (by omega)
              · rw [hr, f3, ZHA (y := y) (List.getElem?_set_self (by omega)), List.take_set_of_le (Nat.le_refl _)]; simp
            | true =>
              refine Zuc rfl ?_
              exact ⟨n3 - 1, by omega, ys, st, k', k2 + 1, y, l, rfl, w1 (by omega), by omega, hyl, by omega, hy, fun j hj => hys j (by omega), f2, by rw [hr, f3]; rfl⟩
          · have hk2 : k + 1 + k2 + 1 = x0.length := by
              have := of_decide_eq_false hc
              rw [List.length_drop] at this; omega
            have hq0 : q = [] := by
              rw [hk2, List.drop_length] at hq
              exact (oI hq).symm
            refine ZJV ZG2 st 0 rfl rfl rfl (by omega) (by omega) fun v' h' st => ?_
            dsimp only [List.set] at st
            rw [Int.toNat_natCast] at st
            rw [hr, hq0, List.append_nil]
            exact ⟨v', rfl, st⟩
      · have hk : k + 1 = x0.length := by have := of_decide_eq_false hc; omega
        have hq0 : q = [] := by
          rw [hk, List.drop_length] at hq
          exact (oI hq).symm
        rw [hr, hq0, hk, List.take_length, List.append_nil]
        exact ⟨v0, rfl, st⟩
section
variable {ψ : CM} {h : Heap} (hψ : CLe ψ (hcell h))
include hψ
theorem ZuX {s0 v0 s1 v1 r} (hp : ZfP s0 s1 = some r) (f0 : SlC (hcell h) eI v0 s0) (f1 : SlC (hcell h) eI v1 s1) : zR Zh3 #[v0, v1] h ψ (.bool r) := by
 apply Zsp
 rw [ZfP] at hp
 have st := S.start hψ
 refine vL f0 st.le ?_
 refine vL f1 st.le ?_
 refine brQ hp (fun hp => tZ) fun hp => ?_
 refine vL f0 st.le ?_
 refine lp1 hp (nlS st) fun m y13 h_2 a st hp hs => ?_
 rw [Zfh] at hp
 refine brR hp (fun hp => tZ) fun hp => ?_
 refine ixI (f0.mono st.le) hp fun e18 hp => ?_
 refine ixI (f1.mono st.le) hp fun e22 hp => ?_
 exact brQ hp (fun hp => tZ) fun hp => tZ
theorem ZKA {g0 v0_1 set1 v1 r} (hp : ZFt g0 set1 = some r) (f0_1 : SlC (hcell h) eL v0_1 g0.Elements) (f1 : SlC (hcell h) eI v1 set1) : zL ZG1 #[.agg #[.int .i64 g0.Degree, v0_1], v1] h ψ eL r := by
 apply ZKB
 rw [ZFt] at hp
 have st := S.start hψ
 refine new_S st fun b2 h_2 st => ?_
 refine bV st 0 1 ?_
 refine vL f0_1 st.le ?_
 have st := st.nilO (E := eL)
 obtain ⟨n_2, hn⟩ := Zy hp
 refine ⟨fun n v5 y11 h_3 => ∃ images5 : List (List Int), S ψ h h_3 [.it (El.ow eL) [v5] images5, .box b2 [.int .i64 g0.Degree, v0_1]] ∧ loopN (ZEF g0 set1) n (images5, y11) = some r, ⟨n_2, _, pk st [0,1], hn⟩, ?_⟩
 rintro n _ v5 y11 h_3 ⟨images5, st, hn⟩
 obtain ⟨m, a, rfl, hp, hs⟩ := Zw hn
 rw [ZEF] at hp
 refine brQ hp (fun hp => ?_) fun hp => ?_
 ·refine ixV f0_1 st.le hp fun e13 u14 f hp => ?_
  refine cl1 hp st (fun s _ _ hx_2 => ZKi s.fle hx_2 (f.mono st.le) (f1.mono st.le)) fun r18 v18 h_4 st hp => ⟨_, rfl, ?_⟩
  refine Zz (st.rdL 0 rfl (Za _)).one ?_
  have st := st.freeze 0 rfl (Ze (Za _))
  dsimp only [List.set] at st
  have st := st.copyF 0 rfl
  obtain ⟨l20, hx_3, hp⟩ := obind hp
  refine Zcn st 1 rfl rfl rfl hx_3 fun v20 h_5 st => ?_
  dsimp only [List.set] at st
  obtain rfl := oI hp
  exact ⟨m, ltS, _, pk st [1,2], hs⟩
 ·obtain ⟨r23, hx_4, hp⟩ := obind hp
  obtain ⟨φ_2, L_2, s_2, r_3⟩ := id st
  refine (Zuw hx_4 (s_2.upS r_3) (by kernel_rfl) (fun hx1 => fun hψ1 => fun hp1 ff0 ff1 => Zhq hψ1 hp1 ff0 ff1)).mono fun v_3 h_6 ⟨eq_2, t_2⟩ => ⟨eq_2, ?_⟩
  replace st := s_2.downS t_2
  clear t_2 s_2 r_3
  obtain ⟨r25, hx_5, hp⟩ := obind hp
  refine (ZJd hx_5 st (by kernel_rfl) (fun hx1 => fun hψ1 => fun hp1 ff0 ff1 => ZuX hψ1 hp1 ff0 ff1)).mono fun v_4 h_7 ⟨v25, eq_3, st⟩ => ⟨_, eq_3, ?_⟩
  obtain rfl := oI hp
  obtain rfl := oI hs
  exact ⟨v25, rfl, pk st [0]⟩
theorem ZJQ {n0 set1 v1 r} (hp : ZFe n0 set1 = some r) (f1 : SlC (hcell h) eI v1 set1) : zR ZGM #[.int .i64 n0, v1] h ψ (.tuple #[.int .i64 r.1, .int .i64 r.2]) := by
 apply ZJL
 rw [ZFe] at hp
 have st := S.start hψ
 refine cl0 hp st (fun s _ _ hx => Zpw s.fle hx (f1.mono st.le)) fun r13 h_2 st hp => ⟨_, rfl, ?_⟩
 refine brQ hp (fun hp => tZ) fun hp => ?_
 refine vL f1 st.le ?_
 refine lp3 hp (nlS st) fun m rank6 from7 y17 h_3 a st hp hs => ?_
 rw [ZFq] at hp
 refine brR hp (fun hp => tZ) fun hp => ?_
 refine ixI (f1.mono st.le) hp fun e20 hp => ?_
 refine lp2 hp (nlS st) fun m_2 rank6_2 y10 h_4 a_2 st hp hs_2 => ?_
 rw [ZEu] at hp
 refine brQ hp (fun hp => ?_) fun hp => ?_
 ·refine cl0 hp st (fun s_2 _ _ hx_3 => ZaY s_2.fle hx_3 (f1.mono st.le)) fun r34 h_5 st hp => ⟨_, rfl, ?_⟩
  refine cl0 hp st (fun s_3 _ _ hx_4 => ZGQ s_3.fle hx_4) fun r38 h_6 st hp => ⟨_, rfl, ?_⟩
  obtain rfl := oI hp
  exact ⟨m_2, ltS, nlS st, hs_2⟩
 ·obtain rfl := oI hp
  obtain rfl := oI hs_2
  exact ⟨m, ltS, nlS st, hs⟩
theorem ZGR {g0 v0_1 k1 r} (hp : ZDW g0 k1 = some r) (f0_1 : SlC (hcell h) eL v0_1 g0.Elements) : zL ZER #[.agg #[.int .i64 g0.Degree, v0_1], .int .i64 k1] h ψ (El.sl eL) r := by
 apply ZKn
 rw [ZDW] at hp
 have st := S.start hψ
 refine new_S st fun b2 h_2 st => ?_
 refine bI st 0 0 ?_
 refine cl0 hp st (fun s _ _ hx => ZGQ s.fle hx) fun r17 h_3 st hp => ⟨_, rfl, ?_⟩
 obtain ⟨l18, hx_2, hp⟩ := obind hp
 refine Zaz (E := El.bool) st rfl hx_2 fun v18 h_4 st => ?_
 refine bI st 1 0 ?_
 refine cl1 hp st (fun s_2 _ _ hx_3 => ZJo s_2.fle hx_3) fun r22 v22 h_5 st hp => ⟨_, rfl, ?_⟩
 refine ZC (st.rdL 0 rfl (ZN _)) ?_
 have st := st.nilO (E := (El.sl eL))
 obtain ⟨n_4, hn⟩ := Zy hp
 refine ⟨fun n v6 y24 h_6 => ∃ orbits6 : List (List (List Int)), ∃ xs : List Bool, S ψ h h_6 [.it (El.ow (El.sl eL)) [v6] orbits6, .it (El.ow eL) [v22] r22, .it (El.ow El.bool) [v18] xs, .box b2 [.int .i64 g0.Degree, v0_1]] ∧ loopN (ZEa g0 r22) n (orbits6, y24, xs) = some r, ⟨n_4, _, _, pk st [0,1,2,3], hn⟩, ?_⟩
 rintro n _ v6 y24 h_6 ⟨orbits6, xs, st, hn⟩
 obtain ⟨m, a, rfl, hp, hs⟩ := Zw hn
 rw [ZEa] at hp
 refine brQ hp (fun hp => ?_) fun hp => ?_
 ·refine ixA (st.rdL 1 rfl (ZN _)) hp fun e27 p27 ad hx_4 hp => ?_
  refine Zc9 st 1 rfl ad hx_4 fun u28 st => ?_
  refine ixA (st.rdL 3 rfl ZDy) hp fun e31 p31 ad_2 hx_5 hp => ?_
  refine ldB_C (st.rdL 3 rfl ZDy) ad_2 hx_5 ?_
  refine brQ hp (fun hp => ?_) fun hp => ?_
  ·obtain rfl := oI hp
   exact ⟨m, ltS, _, _, pk st [1,2,3,4], hs⟩
  ·refine bI st 4 0 ?_
   refine bV st 4 1 ?_
   refine cl1 hp st (fun s_3 _ _ hx_6 => ZKA s_3.fle hx_6 (f0_1.mono st.le) (st.rdF 0 rfl)) fun r35 v35 h_7 st hp => ⟨_, rfl, ?_⟩
   refine ZC (st.rdL 0 rfl (ZN _)) ?_
   obtain ⟨n_3, hn_2⟩ := Zy hp
   refine ⟨fun n_2 y38 h_8 => ∃ xs_2 : List Bool, S ψ h h_8 [.it (El.ow eL) [v35] r35, .it eL [u28] e27, .it (El.ow (El.sl eL)) [v6] orbits6, .it (El.ow eL) [v22] r22, .it (El.ow El.bool) [v18] xs_2, .box b2 [.int .i64 g0.Degree, v0_1]] ∧ loopN (ZDQ g0 orbits6 y24 r35) n_2 (y38, xs_2) = some a, ⟨n_3, _, pk st [0,1,2,3,4,5], hn_2⟩, ?_⟩
   rintro n_2 _ y38 h_8 ⟨xs_2, st, hn_2⟩
   obtain ⟨m_2, a_2, rfl, hp, hs_2⟩ := Zw hn_2
   rw [ZDQ] at hp
   refine brQ hp (fun hp => ?_) fun hp => ?_
   ·refine ixA (st.rdL 0 rfl (ZN _)) hp fun e40 p40 ad_3 hx_7 hp => ?_
    refine Zc9 st 0 rfl ad_3 hx_7 fun u41 st => ?_
    refine bI st 6 0 ?_
    refine cl0 hp st (fun s_4 _ _ hx_8 => ZJQ s_4.fle hx_8 (st.rdF 0 rfl)) fun r46 h_9 st hp => ⟨_, _, rfl, ?_⟩
    refine ixA (st.rdL 5 rfl ZDy) hp fun e51 p51 ad_4 hx_9 hp => ?_
    refine st1_S st 5 rfl ad_4 hx_9 rfl (fun _ => ⟨rfl, rfl⟩) fun h_10 st => ?_
    dsimp only [List.set] at st
    obtain rfl := oI hp
    exact ⟨m_2, ltS, _, pk st [1,2,3,4,5,6], hs_2⟩
   ·refine Zz (st.rdL 0 rfl (ZN _)).one ?_
    have st := st.freeze 0 rfl (Ze (ZN _))
    dsimp only [List.set] at st
    have st := st.copyF 0 rfl
    obtain ⟨l56, hx_10, hp⟩ := obind hp
    refine Zcn st 2 rfl rfl rfl hx_10 fun v56 h_11 st => ?_
    dsimp only [List.set] at st
    obtain rfl := oI hp
    obtain rfl := oI hs_2
    exact ⟨m, ltS, _, _, pk st [2,3,4,5], hs⟩
 ·obtain rfl := oI hp
  obtain rfl := oI hs
  exact ⟨v6, rfl, pk st [0]⟩
theorem Zqn {s0 : List Int} {v0 : Value} {fn1 : Int → Option Bool} {g1 : Nat} {cap1 : List Value} {r : Int} (hp : ZeW s0 fn1 = some r) (f0 : SlC (hcell h) eI v0 s0) (o1 : ctx.okf g1 = true) (k1 : ∀ {h1 : Heap}, ExtH h h1 → ∀ {ψ1 : CM}, CLe ψ1 (hcell h1) → ∀ {y0 : Int} {r1 : Bool}, fn1 y0 = some r1 → CallsH P g1 (([.int .i64 y0] : List Value) ++ cap1).toArray h1 (fun v h' => v = .bool r1 ∧ S ψ1 h1 h' [])) : zR ZkR #[v0, .func (.func g1) #[] cap1.toArray] h ψ (.int .i64 r) := by
 apply ZqW
 rw [ZeW] at hp
 have st := S.start hψ
 refine vL f0 st.le ?_
 refine lp1 hp (nlS st) fun m y8 h_2 a st hp hs => ?_
 rw [Zcr] at hp
 refine brR hp (fun hp => tZ) fun hp => ?_
 refine ixI (f0.mono st.le) hp fun e14 hp => ?_
 obtain ⟨r16, hx_2, hp⟩ := obind hp
 obtain ⟨φ, L, s, r_2⟩ := id st
 refine Zd4 o1 ?_
 refine (k1 st.ext s.fle hx_2).mono fun v_2 h_3 ⟨eq, t⟩ => ⟨_, eq, ?_⟩
 replace st := join0 s r_2 t
 clear t s r_2
 exact brQ hp (fun hp => tZ) fun hp => tZ
theorem Zgq {s0 : List Int} {v0 : Value} {fn1 : Int → Option Bool} {g1 : Nat} {cap1 : List Value} {r : Bool} (hp : Zap s0 fn1 = some r) (f0 : SlC (hcell h) eI v0 s0) (o1 : ctx.okf g1 = true) (k1 : ∀ {h1 : Heap}, ExtH h h1 → ∀ {ψ1 : CM}, CLe ψ1 (hcell h1) → ∀ {y0 : Int} {r1 : Bool}, fn1 y0 = some r1 → CallsH P g1 (([.int .i64 y0] : List Value) ++ cap1).toArray h1 (fun v h' => v = .bool r1 ∧ S ψ1 h1 h' [])) : zR ZcM #[v0, .func (.func g1) #[] cap1.toArray] h ψ (.bool r) := by
 apply Ztb
 rw [Zap] at hp
 have st := S.start hψ
 refine cl0 hp st (fun s _ _ hx => Zqn s.fle hx (f0.mono st.le) o1 (fun hx1 => k1 (st.ext.trans hx1))) fun r7 h_2 st hp => ⟨_, rfl, ?_⟩
 exact tZ
theorem ZJn {s0 v0 v1 r} (hp : ZG7 s0 v1 = some r) (f0 : SlC (hcell h) eI v0 s0) : zR ZHf #[v0, .int .i64 v1] h ψ (.int .i64 r) := by
 apply ZJU
 rw [ZG7] at hp
 have st := S.start hψ
 refine vL f0 st.le ?_
 refine lp1 hp (nlS st) fun m y8 h_2 a st hp hs => ?_
 rw [ZEB] at hp
 refine brR hp (fun hp => tZ) fun hp => ?_
 refine ixI (f0.mono st.le) hp fun e14 hp => ?_
 exact brQ hp (fun hp => tZ) fun hp => tZ
theorem ZK0 {s0 v0 v1 r} (hp : ZFO s0 v1 = some r) (f0 : SlC (hcell h) eI v0 s0) : zR ZGG #[v0, .int .i64 v1] h ψ (.bool r) := by
 apply ZJ0
 rw [ZFO] at hp
 have st := S.start hψ
 refine cl0 hp st (fun s _ _ hx => ZJn s.fle hx (f0.mono st.le)) fun r7 h_2 st hp => ⟨_, rfl, ?_⟩
 exact tZ
theorem ZIj {x0 y1 p1 v1 r} (hp : ZFC x0 y1 = some r) (ck1 : CellsC (hcell h) p1 [v1]) (f1 : SlC (hcell h) eI v1 y1) : zR ZGb #[.int .i64 x0, .pointer (some p1)] h ψ (.bool r) := by
 apply ZKe
 rw [ZFC] at hp
 have st := S.start hψ
 refine kV ck1 st.le 0 ?_
 refine cl0 hp st (fun s _ _ hx => ZK0 s.fle hx (f1.mono st.le)) fun r6 h_2 st hp => ⟨_, rfl, ?_⟩
 exact tZ
theorem ZKF {set0 v0 part1 v1 r} (hp : ZFv set0 part1 = some r) (f0 : SlC (hcell h) eI v0 set0) (f1 : SlC (hcell h) eI v1 part1) : zR ZGk #[v0, v1] h ψ (.bool r) := by
 apply ZJz
 rw [ZFv] at hp
 have st := S.start hψ
 refine Zz (f0.mono st.le).one ?_
 refine new_S st fun b2 h_2 st => ?_
 refine cl0 hp st (fun s _ _ hx => Zgq s.fle hx (f1.mono st.le) (by kernel_rfl) (fun hx1 => fun hψ1 => fun hp1  => ZIj hψ1 hp1 ((st.cells 0 rfl).mono (CLe.ext hx1)) ((f0.mono st.le).mono (CLe.ext hx1)))) fun r7 h_3 st hp => ⟨_, rfl, ?_⟩
 exact tZ
theorem ZH4 {y0 v0_1 y1 y2 r} (hp : ZDO y0 y1 y2 = some r) (f0_1 : SlC (hcell h) eL v0_1 y0.Elements) : CallsH P ZGF #[.agg #[.int .i64 y0.Degree, v0_1], .int .i64 y1, .int .i64 y2] h (fun v h' => ∃ w0 : Value, v = .tuple #[w0, .int .i64 r.2] ∧ S ψ h h' [.it (El.ow oL) [w0] r.1]) := by
 apply ZJ9
 rw [ZDO] at hp
 have st := S.start hψ
 refine new_S st fun b3 h_2 st => ?_
 refine ⟨fun h_3 => S ψ h h_3 [.box b3 [.int .i64 y0.Degree, v0_1]] ∧ ZES y0 y1 y2 = some r, ?_, ?_⟩
 ·refine bI st 0 0 ?_
  refine bV st 0 1 ?_
  obtain ⟨r21, hx_11, hp⟩ := obind hp
  obtain ⟨φ_5, L_5, s_5, r_6⟩ := id st
  refine (ZuS (CLe.refl _) hx_11 (f0_1.mono st.le)).mono fun v_6 h_14 ⟨eq_5, t_5⟩ => ⟨_, eq_5, ?_⟩
  replace st := join0 s_5 r_6 (t_5.weak s_5.fle)
  clear t_5 s_5 r_6
  refine brQ hp (fun hp => ?_) fun hp => ?_
  ·have st := st.nilO (E := oL)
   obtain rfl := oI hp
   exact ⟨(.slice none 0 0), rfl, pk st [0]⟩
  ·refine cl0 hp st (fun s_6 _ _ hx_12 => Zah s_6.fle hx_12) fun r26 h_15 st hp => ⟨_, rfl, ?_⟩
   refine brQ hp (fun hp => ?_) fun hp => ?_
   ·have st := st.nilO (E := oL)
    obtain rfl := oI hp
    exact ⟨(.slice none 0 0), rfl, pk st [0]⟩
   ·refine bI st 0 0 ?_
    refine brQ hp (fun hp => ?_) fun hp => ?_
    ·have st := st.nilO (E := oL)
     obtain rfl := oI hp
     exact ⟨(.slice none 0 0), rfl, pk st [0]⟩
    ·exact ⟨pk st [0], hp⟩
 ·rintro _ h_3 ⟨st, hp⟩
  rw [ZES] at hp
  refine bI st 0 0 ?_
  refine bV st 0 1 ?_
  refine Zan (E := eI) (css := [[.int .i64 y1], [.int .i64 y2]]) (xs := ([y1, y2] : List Int)) st (fun _ => ⟨[], [], rfl, ⟨rfl, rfl⟩, ⟨[], [], rfl, ⟨rfl, rfl⟩, rfl⟩⟩) rfl rfl fun v37 h_4 st => ?_
  refine cl0 hp st (fun s _ _ hx => ZHk s.fle hx (f0_1.mono st.le) (st.rdL 0 rfl (Za _))) fun r38 h_5 st hp => ⟨_, rfl, ?_⟩
  refine brQ hp (fun hp => ?_) fun hp => ?_
  ·have st := st.nilO (E := oL)
   obtain rfl := oI hp
   exact ⟨(.slice none 0 0), rfl, pk st [0]⟩
  ·refine bI st 1 0 ?_
   refine bV st 1 1 ?_
   refine cl1 hp st (fun s_2 _ _ hx_2 => ZGR s_2.fle hx_2 (f0_1.mono st.le)) fun r44 v44 h_6 st hp => ⟨_, rfl, ?_⟩
   refine bI st 2 0 ?_
   refine bV st 2 1 ?_
   refine cl1 hp st (fun s_3 _ _ hx_3 => ZGR s_3.fle hx_3 (f0_1.mono st.le)) fun r47 v47 h_7 st hp => ⟨_, rfl, ?_⟩
   refine ZC (st.rdL 0 rfl (ZN _)) ?_
   have st := st.nilO (E := oL)
   obtain ⟨n_6, hn⟩ := Zy hp
   refine ⟨fun n v10 y49 h_8 => ∃ y10 : List (List Int), S ψ h h_8 [.it (El.ow oL) [v10] y10, .it (El.ow (El.sl eL)) [v47] r47, .it (El.ow (El.sl eL)) [v44] r44, .it oL [v37] ([y1, y2] : List Int), .box b3 [.int .i64 y0.Degree, v0_1]] ∧ loopN (ZDR r44 r47) n (y10, y49) = some r, ⟨n_6, _, pk st [0,1,2,3,4], hn⟩, ?_⟩
   rintro n _ v10 y49 h_8 ⟨y10, st, hn⟩
   obtain ⟨m, a, rfl, hp, hs⟩ := Zw hn
   rw [ZDR] at hp
   refine brQ hp (fun hp => ?_) fun hp => ?_
   ·refine ixA (st.rdL 1 rfl (ZN _)) hp fun e51 p51 ad hx_4 hp => ?_
    refine Zc9 st 1 rfl ad hx_4 fun u52 st => ?_
    refine ZC (st.rdL 3 rfl (ZN _)) ?_
    have st := st.nilO (E := eI)
    obtain ⟨n_5, hn_2⟩ := Zy hp
    refine ⟨fun n_2 v13 y55 h_9 => ∃ y13 : List Int, S ψ h h_9 [.it oL [v13] y13, .it (El.sl eL) [u52] e51, .it (El.ow oL) [v10] y10, .it (El.ow (El.sl eL)) [v47] r47, .it (El.ow (El.sl eL)) [v44] r44, .it oL [v37] ([y1, y2] : List Int), .box b3 [.int .i64 y0.Degree, v0_1]] ∧ loopN (ZD1 r44 y10 y49 e51) n_2 (y13, y55) = some a, ⟨n_5, _, pk st [0,1,2,3,4,5,6], hn_2⟩, ?_⟩
    rintro n_2 _ v13 y55 h_9 ⟨y13, st, hn_2⟩
    obtain ⟨m_2, a_2, rfl, hp, hs_2⟩ := Zw hn_2
    rw [ZD1] at hp
    refine brQ hp (fun hp => ?_) fun hp => ?_
    ·refine ixA (st.rdL 4 rfl (ZN _)) hp fun e57 p57 ad_2 hx_5 hp => ?_
     refine Zc9 st 4 rfl ad_2 hx_5 fun u58 st => ?_
     refine ZC (st.rdF 0 rfl) ?_
     refine lp2 (os := [.it (El.sl eL) [u58] e57, .it oL [v13] y13, .it (El.sl eL) [u52] e51, .it (El.ow oL) [v10] y10, .it (El.ow (El.sl eL)) [v47] r47, .it (El.ow (El.sl eL)) [v44] r44, .it oL [v37] ([y1, y2] : List Int), .box b3 [.int .i64 y0.Degree, v0_1]]) hp (pk st [0,1,2,3,4,5,6,7]) fun m_3 y16 y61 h_10 a_3 st hp hs_3 => ?_
     rw [ZD6] at hp
     refine brQ hp (fun hp => ?_) fun hp => ?_
     ·refine ixA (st.rdF 0 rfl) hp fun e63 p63 ad_3 hx_6 hp => ?_
      refine ZFU st 0 rfl ad_3 hx_6 fun u64 st => ?_
      refine ixA (st.rdF 3 rfl) hp fun e67 p67 ad_4 hx_7 hp => ?_
      refine ZFU st 3 rfl ad_4 hx_7 fun u68 st => ?_
      refine cl0 hp st (fun s_4 _ _ hx_8 => ZKF s_4.fle hx_8 (st.rdF 1 rfl) (st.rdF 0 rfl)) fun r69 h_11 st hp => ⟨_, rfl, ?_⟩
      refine brQ hp (fun hp => ?_) fun hp => ?_
      ·obtain rfl := oI hp
       exact ⟨m_3, ltS, pk st [2,3,4,5,6,7,8,9], hs_3⟩
      ·obtain rfl := oI hp
       exact ⟨m_3, ltS, pk st [2,3,4,5,6,7,8,9], hs_3⟩
     ·obtain ⟨l76, hx_9, hp⟩ := obind hp
      refine Zad st 1 rfl (fun _ => ⟨rfl, rfl⟩) rfl rfl hx_9 fun v76 h_12 st => ?_
      dsimp only [List.set] at st
      obtain rfl := oI hp
      obtain rfl := oI hs_3
      exact ⟨m_2, ltS, _, pk st [1,2,3,4,5,6,7], hs_2⟩
    ·refine Zz (st.rdL 0 rfl (Za _)).one ?_
     obtain ⟨l81, hx_10, hp⟩ := obind hp
     refine Zcn st 1 rfl rfl rfl hx_10 fun v81 h_13 st => ?_
     dsimp only [List.set] at st
     obtain rfl := oI hp
     obtain rfl := oI hs_2
     exact ⟨m, ltS, _, pk st [1,2,3,4,5], hs⟩
   ·obtain rfl := oI hp
    obtain rfl := oI hs
    exact ⟨v10, rfl, pk st [0]⟩
theorem ZcU {list0 v0 r} (hp : Z2 list0 = some r) (f0 : SlC (hcell h) eL v0 list0) : zR ZbG #[v0] h ψ (.int .i64 r) := by
 apply Zq8
 rw [Z2] at hp
 have st := S.start hψ
 refine vL f0 st.le ?_
 exact tZ
theorem ZrW {x0 y1 p1 r} (hp : Zcd x0 y1 = some r) (ck1 : CellsC (hcell h) p1 [.int .i64 y1]) : zR Zkv #[.int .i64 x0, .pointer (some p1)] h ψ (.bool r) := by
 apply ZwE
 rw [Zcd] at hp
 have st := S.start hψ
 refine kI ck1 st.le 0 ?_
 refine cl0 hp st (fun s _ _ hx => Zah s.fle hx) fun r7 h_2 st hp => ⟨_, rfl, ?_⟩
 exact tZ
theorem Zqo {q0 list1 v1 r} (hp : Zg4 q0 list1 = some r) (f1 : SlC (hcell h) eI v1 list1) : zR Zjv #[.int .i64 q0, v1] h ψ (.bool r) := by
 apply Zqu
 rw [Zg4] at hp
 have st := S.start hψ
 refine new_S st fun b2 h_2 st => ?_
 refine cl0 hp st (fun s _ _ hx => Zgq s.fle hx (f1.mono st.le) (by kernel_rfl) (fun hx1 => fun hψ1 => fun hp1  => ZrW hψ1 hp1 ((st.cells 0 rfl).mono (CLe.ext hx1)))) fun r7 h_3 st hp => ⟨_, rfl, ?_⟩
 exact tZ
theorem ZIP {row0 v0 y1 p1 v1 r} (hp : ZEt row0 y1 = some r) (f0 : SlC (hcell h) eI v0 row0) (ck1 : CellsC (hcell h) p1 [v1]) (f1 : SlC (hcell h) eL v1 y1) : zR ZG3 #[v0, .pointer (some p1)] h ψ (.bool r) := by
 apply ZId
 rw [ZEt] at hp
 have st := S.start hψ
 refine vL f0 st.le ?_
 refine kV ck1 st.le 0 ?_
 refine ixV f1 st.le hp fun e7 u8 f hp => ?_
 refine vL f st.le ?_
 refine brQ hp (fun hp => tZ) fun hp => ?_
 refine cl0 hp st (fun s _ _ hx_2 => Zqo s.fle hx_2 (f0.mono st.le)) fun r13 h_2 st hp => ⟨_, rfl, ?_⟩
 exact tZ
theorem ZKl {m0 v0 r} (hp : ZFh m0 = some r) (f0 : SlC (hcell h) eL v0 m0) : zR ZGD #[v0] h ψ (.bool r) := by
 apply ZIJ
 rw [ZFh] at hp
 have st := S.start hψ
 refine Zz (f0.mono st.le).one ?_
 refine new_S st fun b1 h_2 st => ?_
 refine ⟨fun h_3 => S ψ h h_3 [.box b1 [v0]] ∧ ZFT m0 = some r, ?_, ?_⟩
 ·refine bV st 0 0 ?_
  refine cl0 hp st (fun s_2 _ _ hx_2 => ZcU s_2.fle hx_2 (f0.mono st.le)) fun r4 h_5 st hp => ⟨_, rfl, ?_⟩
  refine cl0 hp st (fun s_3 _ _ hx_3 => Zah s_3.fle hx_3) fun r5 h_6 st hp => ⟨_, rfl, ?_⟩
  refine brQ hp (fun hp => tZ) fun hp => ?_
  refine bV st 0 0 ?_
  refine ixV f0 st.le hp fun e9 u10 f hp => ?_
  refine vL f st.le ?_
  refine brQ hp (fun hp => tZ) fun hp => ?_
  exact ⟨pk st [0], hp⟩
 ·rintro _ h_3 ⟨st, hp⟩
  rw [ZFT] at hp
  refine bV st 0 0 ?_
  refine cl0 hp st (fun s _ _ hx => Zjl s.fle hx (f0.mono st.le) (by kernel_rfl) (fun hx1 => fun hψ1 => fun hp1 ff0 => ZIP hψ1 hp1 ff0 ((st.cells 0 rfl).mono (CLe.ext hx1)) ((f0.mono st.le).mono (CLe.ext hx1)))) fun r16 h_4 st hp => ⟨_, rfl, ?_⟩
  exact tZ
theorem ZKm {lambda0 r} (hp : ZE3 lambda0 = some r)  : zR ZGg #[.int .i64 lambda0] h ψ (.bool r) := by
 apply ZKO
 rw [ZE3] at hp
 have st := S.start hψ
 refine cl0 hp st (fun s _ _ hx => Zah s.fle hx) fun r4 h_2 st hp => ⟨_, rfl, ?_⟩
 exact tZ
end
theorem ZEi {ψ : CM} {h0 h : Heap} {os : List Ob} {c0 : ZDh} {b0 : Nat} {post0 : List Value} {v0_2 : Value} {v0_5 : Value} {v0_6 : Value} {v0_7 : Value} {v0_9 : Value} {sums1 : List Int} {v1 : Value} {column2 : Int} {factor3 : Int} {r : List Int} (hp : ZDB c0 sums1 column2 factor3 = some r) (st : S ψ h0 h (.box b0 (.int .i64 c0.qcounter.qleft :: .bool c0.qcounter.qspent :: v0_2 :: .int .i64 c0.qlambda :: .int .i64 c0.qlimit :: v0_5 :: v0_6 :: v0_7 :: .int .i64 c0.qcount :: v0_9 :: post0) :: .it oL [v1] sums1 :: os)) (f0_2 : SlC (UB ψ h0) eL v0_2 c0.qmatrix) : CallsH P ZDD #[.pointer (some ⟨b0, 0, none⟩), v1, .int .i64 column2, .int .i64 factor3] h (fun v h' => v = .tuple #[] ∧ S ψ h0 h' (.box b0 (.int .i64 c0.qcounter.qleft :: .bool c0.qcounter.qspent :: v0_2 :: .int .i64 c0.qlambda :: .int .i64 c0.qlimit :: v0_5 :: v0_6 :: v0_7 :: .int .i64 c0.qcount :: v0_9 :: post0) :: .it oL [v1] r :: os)) := by
 apply ZKV
 rw [ZDB] at hp
 refine bV st 0 2 ?_
 refine vL f0_2 st.leU ?_
 obtain ⟨n_2, hn⟩ := Zy hp
 refine ⟨fun n y15 h_2 => ∃ xs : List Int, S ψ h0 h_2 (.box b0 (.int .i64 c0.qcounter.qleft :: .bool c0.qcounter.qspent :: v0_2 :: .int .i64 c0.qlambda :: .int .i64 c0.qlimit :: v0_5 :: v0_6 :: v0_7 :: .int .i64 c0.qcount :: v0_9 :: post0) :: .it oL [v1] xs :: os) ∧ loopN (ZEJ c0 column2 factor3) n (y15, xs) = some r, ⟨n_2, _, pkT st 2 [0,1], hn⟩, ?_⟩
 rintro n _ y15 h_2 ⟨xs, st, hn⟩
 obtain ⟨m, a, rfl, hp, hs⟩ := Zw hn
 rw [ZEJ] at hp
 refine brQ hp (fun hp => ?_) fun hp => ?_
 ·refine ixV f0_2 st.leU hp fun e18 u19 f hp => ?_
  refine ixI (st.rdL 1 rfl (Za _)) hp fun e22 hp => ?_
  refine ixI (f.mono st.leU) hp fun e27 hp => ?_
  refine ixA (st.rdL 1 rfl (Za _)) hp fun e31 p31 ad_4 hx_4 hp => ?_
  refine st1_S st 1 rfl ad_4 hx_4 rfl (fun _ => ⟨rfl, rfl⟩) fun h_3 st => ?_
  dsimp only [List.set] at st
  obtain rfl := oI hp
  exact ⟨m, ltS, _, pkT st 2 [0,1], hs⟩
 ·obtain rfl := oI hp
  obtain rfl := oI hs
  exact ⟨rfl, pkT st 2 [0,1]⟩
section
variable {ψ : CM} {h : Heap} (hψ : CLe ψ (hcell h))
include hψ
theorem ZHX {c0 p0 v0_2 v0_5 v0_6 v0_7 v0_9 r} (hp : ZEI c0 = some r) (ck0 : CellsC (hcell h) p0 [.int .i64 c0.qcounter.qleft, .bool c0.qcounter.qspent, v0_2, .int .i64 c0.qlambda, .int .i64 c0.qlimit, v0_5, v0_6, v0_7, .int .i64 c0.qcount, v0_9]) (f0_2 : SlC (hcell h) eL v0_2 c0.qmatrix) (f0_5 : SlC (hcell h) eI v0_5 c0.qsums) (f0_6 : SlC (hcell h) eI v0_6 c0.qlater) (f0_7 : SlC (hcell h) eI v0_7 c0.qchosen) (f0_9 : SlC (hcell h) eI v0_9 c0.qfirst) : zR ZFK #[.pointer (some p0)] h ψ (.bool r) := by
 apply ZJK
 rw [ZEI] at hp
 have st := S.start hψ
 refine kV ck0 st.le 5 ?_
 refine vL f0_5 st.le ?_
 refine lp1 hp (nlS st) fun m y10 h_2 a st hp hs => ?_
 rw [ZEe] at hp
 refine brR hp (fun hp => tZ) fun hp => ?_
 refine ixI (f0_5.mono st.le) hp fun e13 hp => ?_
 refine kI ck0 st.le 3 ?_
 refine brQ hp (fun hp => tZ) fun hp => ?_
 refine kV ck0 st.le 6 ?_
 refine ixI (f0_6.mono st.le) hp fun e28 hp => ?_
 refine kI ck0 st.le 3 ?_
 exact brQ hp (fun hp => tZ) fun hp => tZ
end
theorem ZJX {ψ : CM} {h0 h : Heap} {os : List Ob} {c0 : ZDi} {b0 : Nat} {post0 : List Value} {r : Bool × ZDi} (hp : ZFS c0 = some r) (st : S ψ h0 h (.box b0 (.int .i64 c0.qleft :: .bool c0.qspent :: post0) :: os))  : CallsH P ZGU #[.pointer (some ⟨b0, 0, none⟩)] h (fun v h' => v = .bool r.1 ∧ S ψ h0 h' (.box b0 (.int .i64 r.2.qleft :: .bool r.2.qspent :: post0) :: os)) := by
 apply ZJA
 rw [ZFS] at hp
 refine bI st 0 0 ?_
 refine brQ hp (fun hp => ?_) fun hp => ?_
 ·refine Zb st 0 rfl rfl rfl rfl fun h_2 st => ?_
  dsimp only [List.set] at st
  obtain rfl := oI hp
  exact ⟨rfl, pkT st 1 [0]⟩
 ·refine bI st 0 0 ?_
  refine Zb st 0 rfl rfl rfl rfl fun h_3 st => ?_
  dsimp only [List.set] at st
  obtain rfl := oI hp
  exact ⟨rfl, pkT st 1 [0]⟩
end Go.Proofs.YtapkemdomnkccaaGreat
