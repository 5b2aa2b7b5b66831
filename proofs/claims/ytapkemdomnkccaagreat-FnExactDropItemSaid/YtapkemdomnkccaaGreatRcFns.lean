/- Each call computes its plain function: printed by pgen.py. -/
import Derived.Test.YtapkemdomnkccaaGreatRcFnsP1
namespace Go.Proofs.YtapkemdomnkccaaGreat
open Go Go.Vc
set_option linter.unusedVariables false
set_option linter.unusedSimpArgs false
section
variable {ψ : CM} {h : Heap} (hψ : CLe ψ (hcell h))
include hψ
theorem ZpR {degree0 elemen1 v1 r} (hp : Zgg degree0 elemen1 = some r) (f1 : SlC ψ eL v1 elemen1) : CallsH P ZkV #[.int .i64 degree0, v1] h (fun v h' => ∃ w0 : Value, ∃ w1 : Value, v = .tuple #[w0, w1, .bool r.2.2] ∧ S ψ h h' [.it (El.ow eL) [w0] r.1, .it (El.ow eL) [w1] r.2.1]) := by
 apply Zra
 rw [Zgg] at hp
 have st := S.start hψ
 refine cl1 hp st (fun s _ _ hx => Zm3 s.fle hx SlC.nil) fun r16 v16 h_2 st hp => ⟨_, _, rfl, ?_⟩
 refine vL f1 st.leF ?_
 have st := st.nilO (E := eL)
 obtain ⟨n_2, hn⟩ := Zy hp
 refine ⟨fun n v7 v8 ok9 y21 h_3 => ∃ genera7 : List (List Int), ∃ all8 : List (List Int), S ψ h h_3 [.it (El.ow eL) [v7] genera7, .it (El.ow oL) [v8] all8] ∧ loopN (Zaf degree0 elemen1) n (genera7, all8, ok9, y21) = some r, ⟨n_2, _, _, pk st [0,1], hn⟩, ?_⟩
 rintro n _ v7 v8 ok9 y21 h_3 ⟨genera7, all8, st, hn⟩
 obtain ⟨m, a, rfl, hp, hs⟩ := Zw hn
 rw [Zaf] at hp
 refine brQ hp (fun hp => ?_) fun hp => ?_
 ·refine ixV f1 st.leF hp fun e23 u24 f hp => ?_
  refine ⟨fun h_4 => S ψ h h_4 [.it (El.ow eL) [v7] genera7, .it (El.ow oL) [v8] all8] ∧ Zfy degree0 genera7 y21 e23 = some a, ?_, ?_⟩
  ·refine cl0 hp st (fun s_3 _ _ hx_5 => ZoL s_3.fle hx_5 (st.rdL 1 rfl (Ze (Za _))) (f.mono st.leF) (by kernel_rfl) (fun hx1 => fun hψ1 => fun hp1 ff0 ff1 => Zhq hψ1 hp1 ff0 ff1)) fun r28 h_7 st hp => ⟨_, _, rfl, ?_⟩
   refine brQ hp (fun hp => ?_) fun hp => ?_
   ·obtain rfl := oI hp
    exact ⟨m, ltS, _, _, pk st [0,1], hs⟩
   ·refine brQ hp (fun hp => ?_) fun hp => ?_
    ·obtain rfl := oI hp
     exact ⟨m, ltS, _, _, pk st [0,1], hs⟩
    ·exact ⟨pk st [0,1], hp⟩
  ·rintro _ h_4 ⟨st, hp⟩
   rw [Zfy] at hp
   refine Zz (f.mono st.leF).one ?_
   have st := st.arg f
   obtain ⟨l39, hx_3, hp⟩ := obind hp
   refine Zcn st 0 rfl rfl rfl hx_3 fun v39 h_5 st => ?_
   dsimp only [List.set] at st
   refine cl1 hp st (fun s_2 _ _ hx_4 => Zm3 s_2.fle hx_4 (st.rdL 0 rfl (ZN _))) fun r43 v43 h_6 st hp => ⟨_, _, rfl, ?_⟩
   obtain rfl := oI hp
   exact ⟨m, ltS, _, _, pk st [1,0], hs⟩
 ·have st := st.frzIn 1 rfl (Ze (Za _))
  dsimp only [List.set] at st
  obtain rfl := oI hp
  obtain rfl := oI hs
  exact ⟨v7, v8, rfl, pk st [0,1]⟩
theorem ZuS {y0 v0_1 r} (hp : ZeF y0 = some r) (f0_1 : SlC ψ eL v0_1 y0.Elements) : zR Zk7 #[.agg #[.int .i64 y0.Degree, v0_1]] h ψ (.bool r) := by
 apply Zpz
 rw [ZeF] at hp
 have st := S.start hψ
 refine new_S st fun b1 h_2 st => ?_
 refine ⟨fun h_3 => S ψ h h_3 [.box b1 [.int .i64 y0.Degree, v0_1]] ∧ ZgB y0 = some r, ?_, ?_⟩
 ·refine bI st 0 0 ?_
  refine cl0 hp st (fun s_3 _ _ hx_5 => Zah s_3.fle hx_5) fun r9 h_7 st hp => ⟨_, rfl, ?_⟩
  refine brQ hp (fun hp => tZ) fun hp => ?_
  refine bV st 0 1 ?_
  refine vL f0_1 st.leF ?_
  refine brQ hp (fun hp => tZ) fun hp => ?_
  refine bV st 0 1 ?_
  refine vL f0_1 st.leF ?_
  refine brQ hp (fun hp => tZ) fun hp => ?_
  refine bI st 0 0 ?_
  refine bV st 0 1 ?_
  refine cl0 hp st (fun s_4 _ _ hx_6 => Zmb s_4.fle hx_6 (f0_1.mono st.leF)) fun r28 h_8 st hp => ⟨_, rfl, ?_⟩
  refine brQ hp (fun hp => tZ) fun hp => ?_
  exact ⟨pk st [0], hp⟩
 ·rintro _ h_3 ⟨st, hp⟩
  rw [ZgB] at hp
  refine lp1 (os := [.box b1 [.int .i64 y0.Degree, v0_1]]) hp (pk st [0]) fun m y3 h_4 a st hp hs => ?_
  rw [ZcI] at hp
  refine bV st 0 1 ?_
  refine vL f0_1 st.leF ?_
  refine brQ hp (fun hp => ?_) fun hp => ?_
  ·refine bV st 0 1 ?_
   refine ixV f0_1 st.leF hp fun e42 u43 f hp => ?_
   refine bV st 0 1 ?_
   refine ixV f0_1 st.leF hp fun e47 u48 f_2 hp => ?_
   refine cl0 hp st (fun s _ _ hx_3 => Zhq s.fle hx_3 (f.mono st.leF) (f_2.mono st.leF)) fun r49 h_5 st hp => ⟨_, rfl, ?_⟩
   refine brQ hp (fun hp => tZ) fun hp => ?_
   obtain rfl := oI hp
   exact ⟨m, ltS, pk st [0], hs⟩
  ·refine bI st 0 0 ?_
   refine bV st 0 1 ?_
   refine cl2 hp st (fun s_2 _ _ hx_4 => ZpR s_2.fle hx_4 (f0_1.mono s_2.bas)) fun r56 v56 v56_2 h_6 st hp => ⟨_, _, _, rfl, ?_⟩
   refine brR hp (fun hp => tZ) fun hp => ?_
   refine ZC (st.rdL 1 rfl (ZN _)) ?_
   refine bV st 2 1 ?_
   refine vL f0_1 st.leF ?_
   exact tZ
theorem ZrT {vals0 v0 r} (hp : Zew vals0 = some r) (f0 : SlC (hcell h) eI v0 vals0) : zR Zjt #[v0] h ψ (.int .i64 r) := by
 apply ZvF
 rw [Zew] at hp
 have st := S.start hψ
 refine vL f0 st.le ?_
 refine lp1 hp (nlS st) fun m y8 h_2 a st hp hs => ?_
 rw [Zcb] at hp
 refine brR hp (fun hp => tZ) fun hp => ?_
 refine ixI (f0.mono st.le) hp fun e10 hp => ?_
 exact brQ hp (fun hp => tZ) fun hp => tZ
theorem Zq9 {a0 b1 r} (hp : Ze5 a0 b1 = some r)  : zR ZlG #[.agg #[.int .i64 a0.A, .int .i64 a0.B], .agg #[.int .i64 b1.A, .int .i64 b1.B]] h ψ (.int .i64 r) := by
 apply Zo5
 rw [Ze5] at hp
 have st := S.start hψ
 refine new_S st fun b2 h_2 st => ?_
 refine new_S st fun b3 h_3 st => ?_
 refine ⟨fun _ => False, ?_⟩
 have stR_2 := st
 have xR_2 := ExtH.refl h_3
 refine bI st 1 0 ?_
 refine bI st 0 0 ?_
 obtain ⟨r9, hx, hp⟩ := obind hp
 obtain ⟨φ, L, s, r_2⟩ := id st
 refine (ZjJ s.fle hx).mono fun v_2 h_4 ⟨eq, t⟩ => ⟨_, eq, ExtBut.of_ext (xR_2.trans t.ext), ?_⟩
 replace xR_2 := xR_2.trans t.ext
 replace st := join0 s r_2 t
 clear t s r_2
 refine ZA ?_
 refine ldI_K (stR_2.cells 1 rfl) 1 rfl rfl ?_
 refine ZA ?_
 refine ldI_K (stR_2.cells 0 rfl) 1 rfl rfl ?_
 refine cl0 hp st (fun s_2 _ _ hx_2 => ZjJ s_2.fle hx_2) fun r14 h_5 st hp => ⟨_, rfl, ?_⟩
 refine Zan (E := eI) (css := [[.int .i64 r9], [.int .i64 r14]]) (xs := ([r9, r14] : List Int)) st (fun _ => ⟨[], [], rfl, ⟨rfl, rfl⟩, ⟨[], [], rfl, ⟨rfl, rfl⟩, rfl⟩⟩) rfl rfl fun v15 h_6 st => ?_
 refine cl0 hp st (fun s_3 _ _ hx_3 => ZrT s_3.fle hx_3 (st.rdL 0 rfl (Za _))) fun r16 h_7 st hp => ⟨_, rfl, ?_⟩
 exact tZ
theorem Zqn {s0 : List Int} {v0 : Value} {fn1 : Int → Option Bool} {g1 : Nat} {cap1 : List Value} {r : Int} (hp : ZeW s0 fn1 = some r) (f0 : SlC (hcell h) eI v0 s0) (o1 : ctx.okf g1 = true) (k1 : ∀ {h1 : Heap}, ExtH h h1 → ∀ {ψ1 : CM}, CLe ψ1 (hcell h1) → ∀ {y0 : Int} {r1 : Bool}, fn1 y0 = some r1 → CallsH P g1 (([.int .i64 y0] : List Value) ++ cap1).toArray h1 (fun v h' => v = .bool r1 ∧ S ψ1 h1 h' [])) : zR ZkR #[v0, .func (.func g1) #[] cap1.toArray] h ψ (.int .i64 r) := by
 apply ZqW
 rw [ZeW] at hp
 have st := S.start hψ
 refine vL f0 st.le ?_
 refine lp1 hp (nlS st) fun m y8 h_2 a st hp hs => ?_
 rw [Zcr] at hp
 refine brR hp (fun hp => tZ) fun hp => ?_
 refine ixI (f0.mono st.le) hp fun e14 hp => ?_
 obtain ⟨r16, hx_2, hp⟩ := obind hp
 obtain ⟨φ, L, s, r_2⟩ := id st
 refine Zd4 o1 ?_
 refine (k1 st.ext s.fle hx_2).mono fun v_2 h_3 ⟨eq, t⟩ => ⟨_, eq, ?_⟩
 replace st := join0 s r_2 t
 clear t s r_2
 exact brQ hp (fun hp => tZ) fun hp => tZ
theorem Zgq {s0 : List Int} {v0 : Value} {fn1 : Int → Option Bool} {g1 : Nat} {cap1 : List Value} {r : Bool} (hp : Zap s0 fn1 = some r) (f0 : SlC (hcell h) eI v0 s0) (o1 : ctx.okf g1 = true) (k1 : ∀ {h1 : Heap}, ExtH h h1 → ∀ {ψ1 : CM}, CLe ψ1 (hcell h1) → ∀ {y0 : Int} {r1 : Bool}, fn1 y0 = some r1 → CallsH P g1 (([.int .i64 y0] : List Value) ++ cap1).toArray h1 (fun v h' => v = .bool r1 ∧ S ψ1 h1 h' [])) : zR ZcM #[v0, .func (.func g1) #[] cap1.toArray] h ψ (.bool r) := by
 apply Ztb
 rw [Zap] at hp
 have st := S.start hψ
 refine cl0 hp st (fun s _ _ hx => Zqn s.fle hx (f0.mono st.le) o1 (fun hx1 => k1 (st.ext.trans hx1))) fun r7 h_2 st hp => ⟨_, rfl, ?_⟩
 exact tZ
theorem Zph {n0 r} (hp : Zgz n0 = some r)  : zR Zli #[.int .i64 n0] h ψ (.bool r) := by
 apply Zt5
 rw [Zgz] at hp
 have st := S.start hψ
 refine cl0 hp st (fun s _ _ hx => Zah s.fle hx) fun r4 h_2 st hp => ⟨_, rfl, ?_⟩
 exact tZ
theorem Zsu {n0 r} (hp : Zhi n0 = some r)  : zR Zjk #[.int .i64 n0] h ψ (.bool r) := by
 apply Ztr
 rw [Zhi] at hp
 have st := S.start hψ
 refine cl0 hp st (fun s _ _ hx => Zph s.fle hx) fun r4 h_2 st hp => ⟨_, rfl, ?_⟩
 exact tZ
theorem ZrB {colors0 v0 r} (hp : Zfg colors0 = some r) (f0 : SlC (hcell h) eI v0 colors0) : zR ZkC #[v0] h ψ (.bool r) := by
 apply Zvu
 rw [Zfg] at hp
 have st := S.start hψ
 refine vL f0 st.le ?_
 refine brR hp (fun hp => tZ) fun hp => ?_
 refine cl0 hp st (fun s _ _ hx => Zgq s.fle hx (f0.mono st.le) (by kernel_rfl) (fun hx1 => fun hψ1 => fun hp1  => Zsu hψ1 hp1 )) fun r8 h_2 st hp => ⟨_, rfl, ?_⟩
 exact tZ
theorem Zvd {g0 v0_0 v0_1 r} (hp : Ze9 g0 = some r) (f0_0 : SlC (hcell h) eI v0_0 g0.Colors) (f0_1 : SlC (hcell h) ZB v0_1 g0.Edges) : zR Zk1 #[.agg #[v0_0, v0_1]] h ψ (.bool r) := by
 apply Zqr
 rw [Ze9] at hp
 have st := S.start hψ
 refine new_S st fun b1 h_2 st => ?_
 refine bV st 0 1 ?_
 refine vL f0_1 st.le ?_
 refine lp1 (os := [.box b1 [v0_0, v0_1]]) hp (pk st [0]) fun m y8 h_3 a st hp hs => ?_
 rw [ZaK] at hp
 refine brQ hp (fun hp => ?_) fun hp => ?_
 ·refine ixA (f0_1.mono st.le) hp fun e11 p11 ad hx hp => ?_
  obtain ⟨cs, ck, hr⟩ := f0_1.cells ad hx rfl
  obtain rfl := ZbA hr
  refine kI ck st.le 0 ?_
  refine kI ck st.le 1 ?_
  refine new_S st fun b4 h_4 st => ?_
  refine Zb st 0 rfl rfl rfl rfl fun h_5 st => ?_
  refine Zb st 0 rfl rfl rfl rfl fun h_6 st => ?_
  dsimp only [List.set] at st
  refine ⟨fun _ => False, ?_⟩
  have stR_5 := st
  have xR_5 := ExtH.refl h_6
  refine bI st 0 0 ?_
  refine brQ hp (fun hp => tZ) fun hp => ?_
  refine bI st 0 0 ?_
  refine bI st 0 1 ?_
  refine brQ hp (fun hp => tZ) fun hp => ?_
  refine bV st 1 0 ?_
  obtain ⟨r28, hx_2, hp⟩ := obind hp
  obtain ⟨φ, L, s, r_2⟩ := id st
  refine (ZaY s.fle hx_2 (f0_0.mono st.le)).mono fun v_2 h_7 ⟨eq, t⟩ => ⟨_, eq, ExtBut.of_ext (xR_5.trans t.ext), ?_⟩
  replace xR_5 := xR_5.trans t.ext
  replace st := join0 s r_2 t
  clear t s r_2
  refine ZA ?_
  refine ldI_K (stR_5.cells 0 rfl) 1 rfl rfl ?_
  refine brQ hp (fun hp => tZ) fun hp => ?_
  refine brQ hp (fun hp => ?_) fun hp => ?_
  ·refine bV st 1 1 ?_
   refine ixA (f0_1.mono st.le) hp fun e39 p39 ad_2 hx_3 hp => ?_
   obtain ⟨cs_2, ck_2, hr_2⟩ := f0_1.cells ad_2 hx_3 rfl
   obtain rfl := ZbA hr_2
   refine kI ck_2 st.le 0 ?_
   refine kI ck_2 st.le 1 ?_
   refine bI st 0 0 ?_
   refine bI st 0 1 ?_
   refine cl0 hp st (fun s_2 _ _ hx_4 => Zq9 s_2.fle hx_4) fun r42 h_8 st hp => ⟨_, rfl, ?_⟩
   refine brQ hp (fun hp => tZ) fun hp => ?_
   obtain rfl := oI hp
   exact ⟨m, ltS, pk st [1], hs⟩
  ·obtain rfl := oI hp
   exact ⟨m, ltS, pk st [1], hs⟩
 ·refine bV st 0 0 ?_
  refine cl0 hp st (fun s_3 _ _ hx_5 => ZrB s_3.fle hx_5 (f0_0.mono st.le)) fun r49 h_9 st hp => ⟨_, rfl, ?_⟩
  refine brR hp (fun hp => tZ) fun hp => ?_
  refine bV st 0 1 ?_
  refine vL f0_1 st.le ?_
  exact tZ
theorem Znz {o0 v0_2 r} (hp : Zdn o0 = some r) (f0_2 : SlC (hcell h) eL v0_2 o0.Rows) : CallsH P ZgN #[.agg #[.int .i64 o0.Kind, .int .i64 o0.Size, v0_2]] h (fun v h' => ∃ w0 : Value, ∃ w1 : Value, v = .tuple #[.agg #[w0, w1], .bool r.2] ∧ S ψ h h' [.it oL [w0] r.1.Colors, .it (El.ow ZB) [w1] r.1.Edges]) := by
 apply Zt3
 rw [Zdn] at hp
 have st := S.start hψ
 refine new_S st fun b1 h_2 st => ?_
 refine new_S st fun b2 h_3 st => ?_
 refine bI st 1 1 ?_
 refine cl0 hp st (fun s _ _ hx => Zah s.fle hx) fun r9 h_4 st hp => ⟨_, rfl, ?_⟩
 refine brQ hp (fun hp => ?_) fun hp => ?_
 ·refine Zb st 0 rfl rfl rfl rfl fun h_5 st => ?_
  refine Zb st 0 rfl rfl rfl rfl fun h_6 st => ?_
  dsimp only [List.set] at st
  refine bV st 0 0 ?_
  refine bV st 0 1 ?_
  have st := st.nilO (E := eI)
  have st := st.nilO (E := ZB)
  obtain rfl := oI hp
  exact ⟨(.slice none 0 0), (.slice none 0 0), rfl, pk st [1,0]⟩
 ·refine bI st 1 1 ?_
  obtain ⟨l14, hx_2, hp⟩ := obind hp
  refine Zaz (E := eI) st rfl hx_2 fun v14 h_7 st => ?_
  refine Zz (st.rdL 0 rfl (Za _)).one ?_
  refine new_S st fun b4 h_8 st => ?_
  refine Zb st 0 rfl rfl rfl (st.rdL 1 rfl (Za _)).one fun h_9 st => ?_
  refine Zb st 0 rfl rfl rfl rfl fun h_10 st => ?_
  dsimp only [List.set] at st
  refine bV st 3 2 ?_
  refine vL f0_2 st.le ?_
  have st := st.nilO (E := ZB)
  obtain ⟨n_2, hn⟩ := Zy hp
  refine ⟨fun n y19 h_11 => ∃ xs : List Zg, ∃ v_3 : Value, S ψ h h_11 [.box b4 [v14, v_3], .it oL [v14] l14, .box b2 [(.slice none 0 0), (.slice none 0 0)], .box b1 [.int .i64 o0.Kind, .int .i64 o0.Size, v0_2], .it (El.ow ZB) [v_3] xs] ∧ loopN (Zby o0 l14) n (y19, xs) = some r, ⟨n_2, _, _, pk st [1,2,3,4,0], hn⟩, ?_⟩
  rintro n _ y19 h_11 ⟨xs, v_3, st, hn⟩
  obtain ⟨m, a, rfl, hp, hs⟩ := Zw hn
  rw [Zby] at hp
  refine brQ hp (fun hp => ?_) fun hp => ?_
  ·refine ixV f0_2 st.le hp fun e21 u22 f hp => ?_
   refine vL f st.le ?_
   refine brQ hp (fun hp => ?_) fun hp => ?_
   ·refine Zb st 2 rfl rfl rfl rfl fun h_12 st => ?_
    refine Zb st 2 rfl rfl rfl rfl fun h_13 st => ?_
    dsimp only [List.set] at st
    refine bV st 2 0 ?_
    refine bV st 2 1 ?_
    have st := st.nilO (E := eI)
    have st := st.nilO (E := ZB)
    obtain rfl := oI hp
    obtain rfl := oI hs
    exact ⟨(.slice none 0 0), (.slice none 0 0), rfl, pk st [1,0]⟩
   ·refine ⟨fun _ => False, ?_⟩
    have stR_10 := st
    have xR_10 := ExtH.refl h_11
    refine ixI (f.mono st.le) hp fun e30 hp => ?_
    refine ixI (f.mono st.le) hp fun e33 hp => ?_
    refine ZO st fun b36 h_14 xE st => ⟨ExtBut.of_ext (xR_10.trans xE), ?_⟩
    replace xR_10 := xR_10.trans xE
    refine Z7 ?_
    refine ldV_K (stR_10.cells 0 rfl) 1 rfl rfl ?_
    obtain ⟨l37, hx_6, hp⟩ := obind hp
    refine Zm5 st 5 rfl 0 rfl (fun _ => ⟨[.int .i64 e30], [.int .i64 e33], [], [], rfl, rfl, ⟨rfl, rfl⟩, ⟨rfl, rfl⟩⟩) rfl rfl hx_6 fun v37 h_15 xE st => ?_
    refine Zb st 1 rfl rfl rfl (st.rdL 5 rfl frzf_T_impl_Edge).one fun h_16 st => ?_
    dsimp only [List.set] at st
    obtain rfl := oI hp
    exact ⟨m, ltS, _, _, pk st [1,2,3,4,5], hs⟩
  ·refine ⟨fun _ => False, ?_⟩
   have stR_12 := st
   have xR_12 := ExtH.refl h_11
   refine bV st 0 0 ?_
   refine bV st 0 1 ?_
   obtain ⟨r42, hx_7, hp⟩ := obind hp
   obtain ⟨φ_2, L_2, s_2, r_3⟩ := id st
   refine (Zvd s_2.fle hx_7 (st.rdL 1 rfl (Za _)) (st.rdL 4 rfl frzf_T_impl_Edge)).mono fun v_4 h_17 ⟨eq_2, t_2⟩ => ⟨_, eq_2, ExtBut.of_ext (xR_12.trans t_2.ext), ?_⟩
   replace xR_12 := xR_12.trans t_2.ext
   replace st := join0 s_2 r_3 t_2
   clear t_2 s_2 r_3
   refine Z7 ?_
   refine ldV_K (stR_12.cells 0 rfl) 0 rfl rfl ?_
   refine Z7 ?_
   refine ldV_K (stR_12.cells 0 rfl) 1 rfl rfl ?_
   refine Zb st 2 rfl rfl rfl (st.rdL 1 rfl (Za _)).one fun h_18 st => ?_
   refine Zb st 2 rfl rfl rfl (st.rdL 4 rfl frzf_T_impl_Edge).one fun h_19 st => ?_
   dsimp only [List.set] at st
   refine bV st 2 0 ?_
   refine bV st 2 1 ?_
   obtain rfl := oI hp
   obtain rfl := oI hs
   exact ⟨v14, v_3, rfl, pk st [1,4]⟩
theorem ZcU {list0 v0 r} (hp : Z2 list0 = some r) (f0 : SlC (hcell h) eL v0 list0) : zR ZbG #[v0] h ψ (.int .i64 r) := by
 apply Zq8
 rw [Z2] at hp
 have st := S.start hψ
 refine vL f0 st.le ?_
 exact tZ
theorem Zqw {a0 v0 r} (hp : ZfQ a0 = some r) (f0 : SlC (hcell h) eL v0 a0) : zR ZkJ #[v0] h ψ (.bool r) := by
 apply ZpN
 rw [ZfQ] at hp
 have st := S.start hψ
 refine cl0 hp st (fun s _ _ hx => ZcU s.fle hx (f0.mono st.le)) fun r8 h_2 st hp => ⟨_, rfl, ?_⟩
 refine ⟨fun h_3 => S ψ h h_3 [] ∧ ZgH a0 = some r, ?_, ?_⟩
 ·refine cl0 hp st (fun s_3 _ _ hx_6 => Zah s_3.fle hx_6) fun r10 h_8 st hp => ⟨_, rfl, ?_⟩
  refine brQ hp (fun hp => tZ) fun hp => ?_
  refine cl0 hp st (fun s_4 _ _ hx_7 => Zmb s_4.fle hx_7 (f0.mono st.le)) fun r15 h_9 st hp => ⟨_, rfl, ?_⟩
  exact brQ hp (fun hp => tZ) fun hp => tZ
 ·rintro _ h_3 ⟨st, hp⟩
  rw [ZgH] at hp
  refine vL f0 st.le ?_
  refine lp1 hp (nlS st) fun m y20 h_4 a st hp hs => ?_
  rw [Zff] at hp
  refine brR hp (fun hp => tZ) fun hp => ?_
  refine vL f0 st.le ?_
  have st := st.nilO (E := eI)
  obtain ⟨n_3, hn_2⟩ := Zy hp
  refine ⟨fun n_2 v5 y25 h_5 => ∃ column5 : List Int, S ψ h h_5 [.it oL [v5] column5] ∧ loopN (Zcq a0 y20) n_2 (column5, y25) = some a, ⟨n_3, _, pk st [0], hn_2⟩, ?_⟩
  rintro n_2 _ v5 y25 h_5 ⟨column5, st, hn_2⟩
  obtain ⟨m_2, a_2, rfl, hp, hs_2⟩ := Zw hn_2
  rw [Zcq] at hp
  refine brQ hp (fun hp => ?_) fun hp => ?_
  ·refine ixV f0 st.le hp fun e31 u32 f hp => ?_
   refine ixI (f.mono st.le) hp fun e34 hp => ?_
   obtain ⟨l37, hx_4, hp⟩ := obind hp
   refine Zad st 0 rfl (fun _ => ⟨rfl, rfl⟩) rfl rfl hx_4 fun v37 h_6 st => ?_
   dsimp only [List.set] at st
   obtain rfl := oI hp
   exact ⟨m_2, ltS, _, pk st [0], hs_2⟩
  ·refine cl0 hp st (fun s_2 _ _ hx_5 => Zmg s_2.fle hx_5 (st.rdL 0 rfl (Za _))) fun r40 h_7 st hp => ⟨_, rfl, ?_⟩
   refine brQ hp (fun hp => ?_) fun hp => ?_
   ·obtain rfl := oI hp
    obtain rfl := oI hs_2
    obtain rfl := oI hs
    exact ⟨rfl, nlS st⟩
   ·obtain rfl := oI hp
    obtain rfl := oI hs_2
    exact ⟨m, ltS, nlS st, hs⟩
theorem Zpw {set0 v0 n1 r} (hp : ZeX set0 n1 = some r) (f0 : SlC (hcell h) eI v0 set0) : zR Zjg #[v0, .int .i64 n1] h ψ (.bool r) := by
 apply Zqy
 rw [ZeX] at hp
 have st := S.start hψ
 refine vL f0 st.le ?_
 refine lp2 hp (nlS st) fun m last5 y10 h_2 a st hp hs => ?_
 rw [Zbk] at hp
 refine brQ hp (fun hp => ?_) fun hp => ?_
 ·refine ixI (f0.mono st.le) hp fun e12 hp => ?_
  refine brQ hp (fun hp => tZ) fun hp => ?_
  exact brQ hp (fun hp => tZ) fun hp => tZ
 ·refine cl0 hp st (fun s _ _ hx_2 => Zah s.fle hx_2) fun r25 h_3 st hp => ⟨_, rfl, ?_⟩
  exact tZ
theorem ZsJ {block0 v0 points1 r} (hp : ZeH block0 points1 = some r) (f0 : SlC (hcell h) eI v0 block0) : zR Zky #[v0, .int .i64 points1] h ψ (.bool r) := by
 apply ZsV
 rw [ZeH] at hp
 have st := S.start hψ
 refine vL f0 st.le ?_
 refine brR hp (fun hp => tZ) fun hp => ?_
 refine cl0 hp st (fun s _ _ hx => Zpw s.fle hx (f0.mono st.le)) fun r11 h_2 st hp => ⟨_, rfl, ?_⟩
 exact tZ
theorem Zsh {b0 v0 y1 p1 r} (hp : Zgn b0 y1 = some r) (f0 : SlC (hcell h) eI v0 b0) (ck1 : CellsC (hcell h) p1 [.int .i64 y1]) : zR Zig #[v0, .pointer (some p1)] h ψ (.bool r) := by
 apply Zpl
 rw [Zgn] at hp
 have st := S.start hψ
 refine kI ck1 st.le 0 ?_
 refine cl0 hp st (fun s _ _ hx => ZsJ s.fle hx (f0.mono st.le)) fun r6 h_2 st hp => ⟨_, rfl, ?_⟩
 exact tZ
theorem ZpV {blocks0 v0 points1 r} (hp : Zhp blocks0 points1 = some r) (f0 : SlC (hcell h) eL v0 blocks0) : zR Zj9 #[v0, .int .i64 points1] h ψ (.bool r) := by
 apply ZuK
 rw [Zhp] at hp
 have st := S.start hψ
 refine new_S st fun b3 h_2 st => ?_
 refine bI st 0 0 ?_
 refine cl0 hp st (fun s _ _ hx => Zah s.fle hx) fun r6 h_3 st hp => ⟨_, rfl, ?_⟩
 refine brR hp (fun hp => tZ) fun hp => ?_
 refine cl0 hp st (fun s_2 _ _ hx_2 => Zjl s_2.fle hx_2 (f0.mono st.le) (by kernel_rfl) (fun hx1 => fun hψ1 => fun hp1 ff0 => Zsh hψ1 hp1 ff0 ((st.cells 0 rfl).mono (CLe.ext hx1)))) fun r10 h_4 st hp => ⟨_, rfl, ?_⟩
 exact tZ
theorem Zqi {x0 : List (List Int)} {v0 : Value} {fn1 : (List Int) → (List Int) → Option Int} {g1 : Nat} {cap1 : List Value} {r : Bool} (hp : ZeO x0 fn1 = some r) (f0 : SlC (hcell h) eL v0 x0) (o1 : ctx.okf g1 = true) (k1 : ∀ {h1 : Heap}, ExtH h h1 → ∀ {ψ1 : CM}, CLe ψ1 (hcell h1) → ∀ {y0 : List Int} {u0_0 : Value} {y1 : List Int} {u1_0 : Value} {r1 : Int}, fn1 y0 y1 = some r1 → SlC (hcell h1) eI u0_0 y0 → SlC (hcell h1) eI u1_0 y1 → CallsH P g1 (([u0_0, u1_0] : List Value) ++ cap1).toArray h1 (fun v h' => v = .int .i64 r1 ∧ S ψ1 h1 h' [])) : zR ZkZ #[v0, .func (.func g1) #[] cap1.toArray] h ψ (.bool r) := by
 apply Zre
 rw [ZeO] at hp
 have st := S.start hψ
 refine vL f0 st.le ?_
 refine lp1 hp (nlS st) fun m i5 h_2 a st hp hs => ?_
 rw [Zcp] at hp
 refine brR hp (fun hp => tZ) fun hp => ?_
 refine ixV f0 st.le hp fun e16 u17 f hp => ?_
 refine ixV f0 st.le hp fun e21 u22 f_2 hp => ?_
 obtain ⟨r23, hx_3, hp⟩ := obind hp
 obtain ⟨φ, L, s, r_2⟩ := id st
 refine Zd4 o1 ?_
 refine (k1 st.ext s.fle hx_3 (f.mono st.le) (f_2.mono st.le)).mono fun v_2 h_3 ⟨eq, t⟩ => ⟨_, eq, ?_⟩
 replace st := join0 s r_2 t
 clear t s r_2
 exact brQ hp (fun hp => tZ) fun hp => tZ
theorem Zpd {d0 v0_1 r} (hp : Zez d0 = some r) (f0_1 : SlC (hcell h) eL v0_1 d0.Blocks) : zR Zjh #[.agg #[.int .i64 d0.Points, v0_1]] h ψ (.bool r) := by
 apply ZwO
 rw [Zez] at hp
 have st := S.start hψ
 refine new_S st fun b1 h_2 st => ?_
 refine bV st 0 1 ?_
 refine bI st 0 0 ?_
 refine cl0 hp st (fun s _ _ hx => ZpV s.fle hx (f0_1.mono st.le)) fun r7 h_3 st hp => ⟨_, rfl, ?_⟩
 refine brR hp (fun hp => tZ) fun hp => ?_
 refine bV st 0 1 ?_
 refine vL f0_1 st.le ?_
 refine brR hp (fun hp => tZ) fun hp => ?_
 refine bV st 0 1 ?_
 refine cl0 hp st (fun s_2 _ _ hx_2 => Zqi s_2.fle hx_2 (f0_1.mono st.le) (by kernel_rfl) (fun hx1 => fun hψ1 => fun hp1 ff0 ff1 => Zhq hψ1 hp1 ff0 ff1)) fun r17 h_4 st hp => ⟨_, rfl, ?_⟩
 exact tZ
theorem Zd1 {lists0 v0 r} (hp : Zbc lists0 = some r) (f0 : SlC (hcell h) eL v0 lists0) : zL ZbL #[v0] h ψ oL r := by
 apply Zuu
 rw [Zbc] at hp
 have st := S.start hψ
 refine vL f0 st.le ?_
 have st := st.nilO (E := oL)
 obtain ⟨n_2, hn⟩ := Zy hp
 refine ⟨fun n v3 y8 h_2 => ∃ out3 : List (List Int), S ψ h h_2 [.it (El.ow oL) [v3] out3] ∧ loopN (Zdh lists0) n (out3, y8) = some r, ⟨n_2, _, pk st [0], hn⟩, ?_⟩
 rintro n _ v3 y8 h_2 ⟨out3, st, hn⟩
 obtain ⟨m, a, rfl, hp, hs⟩ := Zw hn
 rw [Zdh] at hp
 refine brQ hp (fun hp => ?_) fun hp => ?_
 ·refine ixV f0 st.le hp fun e10 u11 f hp => ?_
  refine cl1 hp st (fun s _ _ hx_2 => ZjK s.fle hx_2 (f.mono st.le)) fun r14 v14 h_3 st hp => ⟨_, rfl, ?_⟩
  refine Zz (st.rdL 0 rfl (Za _)).one ?_
  obtain ⟨l16, hx_3, hp⟩ := obind hp
  refine Zcn st 0 rfl rfl rfl hx_3 fun v16 h_4 st => ?_
  dsimp only [List.set] at st
  obtain rfl := oI hp
  exact ⟨m, ltS, _, pk st [0], hs⟩
 ·obtain rfl := oI hp
  obtain rfl := oI hs
  exact ⟨v3, rfl, pk st [0]⟩
theorem Zv5 {o0 v0_2 r} (hp : ZhY o0 = some r) (f0_2 : SlC (hcell h) eL v0_2 o0.Rows) : CallsH P ZiR #[.agg #[.int .i64 o0.Kind, .int .i64 o0.Size, v0_2]] h (fun v h' => ∃ w0 : Value, v = .agg #[.int .i64 r.Points, w0] ∧ S ψ h h' [.it (El.ow oL) [w0] r.Blocks]) := by
 apply Zu8
 rw [ZhY] at hp
 have st := S.start hψ
 refine new_S st fun b1 h_2 st => ?_
 refine new_S st fun b2 h_3 st => ?_
 refine ⟨fun _ => False, ?_⟩
 have stR_2 := st
 have xR_2 := ExtH.refl h_3
 refine bV st 1 2 ?_
 obtain ⟨r7, hx, hp⟩ := obind hp
 obtain ⟨φ, L, s, r_2⟩ := id st
 refine (Zd1 s.fle hx (f0_2.mono st.le)).mono fun v_2 h_4 ⟨v7, eq, t⟩ => ⟨_, eq, ExtBut.of_ext (xR_2.trans t.ext), ?_⟩
 replace xR_2 := xR_2.trans t.ext
 replace st := join1 s r_2 t
 clear t s r_2
 refine ZA ?_
 refine ldI_K (stR_2.cells 1 rfl) 1 rfl rfl ?_
 refine Zz (st.rdL 0 rfl (Ze (Za _))).one ?_
 refine Zb st 1 rfl rfl rfl rfl fun h_5 st => ?_
 refine Zb st 1 rfl rfl rfl (st.rdL 0 rfl (Ze (Za _))).one fun h_6 st => ?_
 dsimp only [List.set] at st
 refine bI st 1 0 ?_
 refine bV st 1 1 ?_
 obtain rfl := oI hp
 exact ⟨v7, rfl, pk st [0]⟩
theorem ZwH {x0 r} (hp : Zf4 x0 = some r)  : zR Ziv #[.int .i64 x0] h ψ (.bool r) := by
 apply Zs2
 rw [Zf4] at hp
 have st := S.start hψ
 exact brQ hp (fun hp => tZ) fun hp => tZ
theorem ZoH {h0 v0 r} (hp : ZfG h0 = some r) (f0 : SlC (hcell h) eL v0 h0) : zR Zjc #[v0] h ψ (.bool r) := by
 apply Zvk
 rw [ZfG] at hp
 have st := S.start hψ
 refine cl0 hp st (fun s _ _ hx => ZcU s.fle hx (f0.mono st.le)) fun r11 h_2 st hp => ⟨_, rfl, ?_⟩
 refine vL f0 st.le ?_
 refine lp1 hp (nlS st) fun m y14 h_3 a st hp hs => ?_
 rw [ZbI] at hp
 refine brQ hp (fun hp => ?_) fun hp => ?_
 ·refine ixV f0 st.le hp fun e17 u18 f hp => ?_
  refine ⟨fun h_4 => S ψ h h_4 [] ∧ Zf8 h0 y14 e17 = some a, ?_, ?_⟩
  ·refine cl0 hp st (fun s_2 _ _ hx_7 => ZaY s_2.fle hx_7 (f.mono st.le)) fun r20 h_7 st hp => ⟨_, rfl, ?_⟩
   refine brQ hp (fun hp => tZ) fun hp => ?_
   refine cl0 hp st (fun s_3 _ _ hx_8 => Zgq s_3.fle hx_8 (f.mono st.le) (by kernel_rfl) (fun hx1 => fun hψ1 => fun hp1  => ZwH hψ1 hp1 )) fun r25 h_8 st hp => ⟨_, rfl, ?_⟩
   exact brQ hp (fun hp => tZ) fun hp => tZ
  ·rintro _ h_4 ⟨st, hp⟩
   rw [Zf8] at hp
   obtain ⟨l29, hx_3, hp⟩ := obind hp
   refine Zhz none (some y14) f0 hx_3 rfl fun v29 f_2 => ?_
   refine vL f_2 st.le ?_
   refine lp1 hp (nlS st) fun m_2 y31 h_5 a_2 st hp hs_2 => ?_
   rw [ZcW] at hp
   refine brQ hp (fun hp => ?_) fun hp => ?_
   ·refine ixV f_2 st.le hp fun e33 u34 f_3 hp => ?_
    refine vL f st.le ?_
    refine lp2 hp (nlS st) fun m_3 sum8 y37 h_6 a_3 st hp hs_3 => ?_
    rw [ZcJ] at hp
    refine brQ hp (fun hp => ?_) fun hp => ?_
    ·refine ixI (f.mono st.le) hp fun e43 hp => ?_
     refine ixI (f_3.mono st.le) hp fun e47 hp => ?_
     obtain rfl := oI hp
     exact ⟨m_3, ltS, nlS st, hs_3⟩
    ·refine brQ hp (fun hp => ?_) fun hp => ?_
     ·obtain rfl := oI hp
      obtain rfl := oI hs_3
      obtain rfl := oI hs_2
      obtain rfl := oI hs
      exact ⟨rfl, nlS st⟩
     ·obtain rfl := oI hp
      obtain rfl := oI hs_3
      exact ⟨m_2, ltS, nlS st, hs_2⟩
   ·obtain rfl := oI hp
    obtain rfl := oI hs_2
    exact ⟨m, ltS, nlS st, hs⟩
 ·refine cl0 hp st (fun s_4 _ _ hx_9 => Zah s_4.fle hx_9) fun r57 h_9 st hp => ⟨_, rfl, ?_⟩
  exact tZ
theorem Zsb {levels0 column1 r} (hp : Zho levels0 column1 = some r)  : zR ZiU #[.int .i64 levels0, .int .i64 column1] h ψ (.bool r) := by
 apply ZpJ
 rw [Zho] at hp
 have st := S.start hψ
 refine cl0 hp st (fun s _ _ hx => Zah s.fle hx) fun r6 h_2 st hp => ⟨_, rfl, ?_⟩
 refine brR hp (fun hp => tZ) fun hp => ?_
 refine cl0 hp st (fun s_2 _ _ hx_2 => Zah s_2.fle hx_2) fun r9 h_3 st hp => ⟨_, rfl, ?_⟩
 exact tZ
theorem Zp1 {x0 y1 p1 v1_2 r} (hp : ZfR x0 y1 = some r) (ck1 : CellsC (hcell h) p1 [.int .i64 y1.Levels, .int .i64 y1.Columns, v1_2]) (f1_2 : SlC (hcell h) eL v1_2 y1.Rows) : zR ZjL #[.int .i64 x0, .pointer (some p1)] h ψ (.bool r) := by
 apply ZvZ
 rw [ZfR] at hp
 have st := S.start hψ
 refine kI ck1 st.le 0 ?_
 refine cl0 hp st (fun s _ _ hx => Zah s.fle hx) fun r8 h_2 st hp => ⟨_, rfl, ?_⟩
 exact tZ
theorem Zo2 {a0 v0_2 r} (hp : ZeC a0 = some r) (f0_2 : SlC (hcell h) eL v0_2 a0.Rows) : zR ZkW #[.agg #[.int .i64 a0.Levels, .int .i64 a0.Columns, v0_2]] h ψ (.bool r) := by
 apply Zuo
 rw [ZeC] at hp
 have st := S.start hψ
 refine new_S st fun b1 h_2 st => ?_
 refine ⟨fun h_3 => S ψ h h_3 [.box b1 [.int .i64 a0.Levels, .int .i64 a0.Columns, v0_2]] ∧ Zh0 a0 = some r, ?_, ?_⟩
 ·refine bI st 0 0 ?_
  refine bI st 0 1 ?_
  refine cl0 hp st (fun s_3 _ _ hx_4 => Zsb s_3.fle hx_4) fun r9 h_7 st hp => ⟨_, rfl, ?_⟩
  refine brQ hp (fun hp => tZ) fun hp => ?_
  refine bV st 0 2 ?_
  refine vL f0_2 st.le ?_
  refine brQ hp (fun hp => tZ) fun hp => ?_
  exact ⟨pk st [0], hp⟩
 ·rintro _ h_3 ⟨st, hp⟩
  rw [Zh0] at hp
  refine bV st 0 2 ?_
  refine vL f0_2 st.le ?_
  refine lp1 (os := [.box b1 [.int .i64 a0.Levels, .int .i64 a0.Columns, v0_2]]) hp (pk st [0]) fun m y20 h_4 a st hp hs => ?_
  rw [Zde] at hp
  refine brR hp (fun hp => tZ) fun hp => ?_
  refine ixV f0_2 st.le hp fun e22 u23 f hp => ?_
  refine ⟨fun _ => False, ?_⟩
  have stR_5 := st
  have xR_5 := ExtH.refl h_4
  obtain ⟨r25, hx_2, hp⟩ := obind hp
  obtain ⟨φ, L, s, r_2⟩ := id st
  refine (ZaY s.fle hx_2 (f.mono st.le)).mono fun v_2 h_5 ⟨eq, t⟩ => ⟨_, eq, ExtBut.of_ext (xR_5.trans t.ext), ?_⟩
  replace xR_5 := xR_5.trans t.ext
  replace st := join0 s r_2 t
  clear t s r_2
  refine ZA ?_
  refine ldI_K (stR_5.cells 0 rfl) 1 rfl rfl ?_
  refine brQ hp (fun hp => tZ) fun hp => ?_
  refine cl0 hp st (fun s_2 _ _ hx_3 => Zgq s_2.fle hx_3 (f.mono st.le) (by kernel_rfl) (fun hx1 => fun hψ1 => fun hp1  => Zp1 hψ1 hp1 ((st.cells 0 rfl).mono (CLe.ext hx1)) ((f0_2.mono st.le).mono (CLe.ext hx1)))) fun r32 h_6 st hp => ⟨_, rfl, ?_⟩
  refine brQ hp (fun hp => tZ) fun hp => ?_
  obtain rfl := oI hp
  exact ⟨m, ltS, pk st [0], hs⟩
theorem Zsw {o0 v0_2 r} (hp : ZgD o0 = some r) (f0_2 : SlC (hcell h) eL v0_2 o0.Rows) : CallsH P ZiT #[.agg #[.int .i64 o0.Kind, .int .i64 o0.Size, v0_2]] h (fun v h' => ∃ w0 : Value, v = .agg #[.int .i64 r.Levels, .int .i64 r.Columns, w0] ∧ S ψ h h' [.it (El.ow oL) [w0] r.Rows]) := by
 apply ZrD
 rw [ZgD] at hp
 have st := S.start hψ
 refine new_S st fun b1 h_2 st => ?_
 refine new_S st fun b2 h_3 st => ?_
 obtain ⟨r8, hx, hp⟩ := obind hp
 refine ⟨fun _ => False, ?_⟩
 have stR_2 := st
 have xR_2 := ExtH.refl h_3
 refine ⟨?_, ?_⟩
 ·refine Z7 ?_
  refine ldV_K (stR_2.cells 1 rfl) 2 rfl rfl ?_
  obtain ⟨φ_4, L_4, s_4, r_5⟩ := id st
  refine (Zd1 s_4.fle hx (f0_2.mono st.le)).mono fun v_5 h_22 ⟨v8_3, eq_4, t_4⟩ => ⟨_, eq_4, ExtBut.of_ext (xR_2.trans t_4.ext), ?_⟩
  replace xR_2 := xR_2.trans t_4.ext
  replace st := join1 s_4 r_5 t_4
  clear t_4 s_4 r_5
  refine Ziz st fun b3_3 h_23 xE st => ⟨ExtBut.of_ext (xR_2.trans xE), ?_⟩
  replace xR_2 := xR_2.trans xE
  refine ZA ?_
  refine ldI_K (stR_2.cells 1 rfl) 1 rfl rfl ?_
  refine Zz (st.rdL 1 rfl (Ze (Za _))).one ?_
  refine Zb st 0 rfl rfl rfl rfl fun h_24 st => ?_
  refine Zb st 0 rfl rfl rfl rfl fun h_25 st => ?_
  refine Zb st 0 rfl rfl rfl (st.rdL 1 rfl (Ze (Za _))).one fun h_26 st => ?_
  dsimp only [List.set] at st
  refine bV st 3 2 ?_
  refine vL f0_2 st.le ?_
  refine brQ hp (fun hp => ?_) fun hp => ?_
  ·refine bV st 3 2 ?_
   refine ixV f0_2 st.le hp fun e16_2 u17_2 f_2 hp => ?_
   refine cl0 hp st (fun s_5 _ _ hx_5 => ZaY s_5.fle hx_5 (f_2.mono st.le)) fun r18_2 h_27 st hp => ⟨_, rfl, ?_⟩
   refine Zb st 0 rfl rfl rfl rfl fun h_28 st => ?_
   dsimp only [List.set] at st
   refine bI st 0 0 ?_
   refine bI st 0 1 ?_
   refine bV st 0 2 ?_
   refine Zb st 2 rfl rfl rfl rfl fun h_29 st => ?_
   refine Zb st 2 rfl rfl rfl rfl fun h_30 st => ?_
   refine Zb st 2 rfl rfl rfl (st.rdL 1 rfl (Ze (Za _))).one fun h_31 st => ?_
   dsimp only [List.set] at st
   refine bI st 2 0 ?_
   refine bI st 2 1 ?_
   refine bV st 2 2 ?_
   obtain rfl := oI hp
   exact ⟨v8_3, rfl, pk st [1]⟩
  ·refine bI st 0 0 ?_
   refine bI st 0 1 ?_
   refine bV st 0 2 ?_
   refine Zb st 2 rfl rfl rfl rfl fun h_32 st => ?_
   refine Zb st 2 rfl rfl rfl rfl fun h_33 st => ?_
   refine Zb st 2 rfl rfl rfl (st.rdL 1 rfl (Ze (Za _))).one fun h_34 st => ?_
   dsimp only [List.set] at st
   refine bI st 2 0 ?_
   refine bI st 2 1 ?_
   refine bV st 2 2 ?_
   obtain rfl := oI hp
   exact ⟨v8_3, rfl, pk st [1]⟩
 ·refine Ziz st fun b3_4 h_35 xE st => ⟨ExtBut.of_ext (xR_2.trans xE), ?_⟩
  replace xR_2 := xR_2.trans xE
  refine Z7 ?_
  refine ldV_K (stR_2.cells 1 rfl) 2 rfl rfl ?_
  obtain ⟨φ_6, L_6, s_6, r_7⟩ := id st
  refine (Zd1 s_6.fle hx (f0_2.mono st.le)).mono fun v_7 h_36 ⟨v8_4, eq_6, t_6⟩ => ⟨_, eq_6, ExtBut.of_ext (xR_2.trans t_6.ext), ?_⟩
  replace xR_2 := xR_2.trans t_6.ext
  replace st := join1 s_6 r_7 t_6
  clear t_6 s_6 r_7
  refine ZA ?_
  refine ldI_K (stR_2.cells 1 rfl) 1 rfl rfl ?_
  refine Zz (st.rdL 0 rfl (Ze (Za _))).one ?_
  refine Zb st 1 rfl rfl rfl rfl fun h_37 st => ?_
  refine Zb st 1 rfl rfl rfl rfl fun h_38 st => ?_
  refine Zb st 1 rfl rfl rfl (st.rdL 0 rfl (Ze (Za _))).one fun h_39 st => ?_
  dsimp only [List.set] at st
  refine bV st 3 2 ?_
  refine vL f0_2 st.le ?_
  refine brQ hp (fun hp => ?_) fun hp => ?_
  ·refine bV st 3 2 ?_
   refine ixV f0_2 st.le hp fun e16_3 u17_3 f_3 hp => ?_
   refine cl0 hp st (fun s_7 _ _ hx_7 => ZaY s_7.fle hx_7 (f_3.mono st.le)) fun r18_3 h_40 st hp => ⟨_, rfl, ?_⟩
   refine Zb st 1 rfl rfl rfl rfl fun h_41 st => ?_
   dsimp only [List.set] at st
   refine bI st 1 0 ?_
   refine bI st 1 1 ?_
   refine bV st 1 2 ?_
   refine Zb st 2 rfl rfl rfl rfl fun h_42 st => ?_
   refine Zb st 2 rfl rfl rfl rfl fun h_43 st => ?_
   refine Zb st 2 rfl rfl rfl (st.rdL 0 rfl (Ze (Za _))).one fun h_44 st => ?_
   dsimp only [List.set] at st
   refine bI st 2 0 ?_
   refine bI st 2 1 ?_
   refine bV st 2 2 ?_
   obtain rfl := oI hp
   exact ⟨v8_4, rfl, pk st [0]⟩
  ·refine bI st 1 0 ?_
   refine bI st 1 1 ?_
   refine bV st 1 2 ?_
   refine Zb st 2 rfl rfl rfl rfl fun h_45 st => ?_
   refine Zb st 2 rfl rfl rfl rfl fun h_46 st => ?_
   refine Zb st 2 rfl rfl rfl (st.rdL 0 rfl (Ze (Za _))).one fun h_47 st => ?_
   dsimp only [List.set] at st
   refine bI st 2 0 ?_
   refine bI st 2 1 ?_
   refine bV st 2 2 ?_
   obtain rfl := oI hp
   exact ⟨v8_4, rfl, pk st [0]⟩
theorem ZgE {base0 e1 limit2 r} (hp : Zbv base0 e1 limit2 = some r)  : zR ZdV #[.int .i64 base0, .int .i64 e1, .int .i64 limit2] h ψ (.int .i64 r) := by
 apply ZpU
 rw [Zbv] at hp
 have st := S.start hψ
 refine lp2 hp (nlS st) fun m e1_2 power7 h_2 a st hp hs => ?_
 rw [ZaF] at hp
 refine ⟨fun h_3 => S ψ h h_3 [] ∧ ZcT base0 e1_2 power7 = some a, ?_, ?_⟩
 ·refine brR hp (fun hp => tZ) fun hp => ?_
  exact brQ hp (fun hp => tZ) fun hp => tZ
 ·rintro _ h_3 ⟨st, hp⟩
  rw [ZcT] at hp
  exact tZ
theorem ZlB {f0 v0_2 r} (hp : Zbm f0 = some r) (f0_2 : SlC (hcell h) eI v0_2 f0.Poly) : zR Zeq #[.agg #[.int .i64 f0.Prime, .int .i64 f0.Degree, v0_2]] h ψ (.int .i64 r) := by
 apply ZtX
 rw [Zbm] at hp
 have st := S.start hψ
 refine new_S st fun b1 h_2 st => ?_
 refine bI st 0 0 ?_
 refine bI st 0 1 ?_
 refine cl0 hp st (fun s _ _ hx => ZgE s.fle hx) fun r7 h_3 st hp => ⟨_, rfl, ?_⟩
 exact tZ
theorem Zb3 {n0 base1 count2 r} (hp : Zao n0 base1 count2 = some r)  : zL Zba #[.int .i64 n0, .int .i64 base1, .int .i64 count2] h ψ eI r := by
 apply ZqK
 rw [Zao] at hp
 have st := S.start hψ
 obtain ⟨l10, hx, hp⟩ := obind hp
 refine Zaz (E := eI) st rfl hx fun v10 h_2 st => ?_
 refine ZC (st.rdL 0 rfl (Za _)) ?_
 obtain ⟨n_2, hn⟩ := Zy hp
 refine ⟨fun n n0_2 y13 h_3 => ∃ xs : List Int, S ψ h h_3 [.it oL [v10] xs] ∧ loopN (Za9 base1 l10) n (n0_2, y13, xs) = some r, ⟨n_2, _, pk st [0], hn⟩, ?_⟩
 rintro n _ n0_2 y13 h_3 ⟨xs, st, hn⟩
 obtain ⟨m, a, rfl, hp, hs⟩ := Zw hn
 rw [Za9] at hp
 refine brQ hp (fun hp => ?_) fun hp => ?_
 ·obtain ⟨_, hx_2, hp⟩ := obind hp
  refine ⟨Zaa hx_2, ?_⟩
  refine ixA (st.rdL 0 rfl (Za _)) hp fun e21 p21 ad hx_3 hp => ?_
  refine st1_S st 0 rfl ad hx_3 rfl (fun _ => ⟨rfl, rfl⟩) fun h_4 st => ?_
  dsimp only [List.set] at st
  obtain ⟨_, hx_4, hp⟩ := obind hp
  refine ⟨Zaa hx_4, ?_⟩
  obtain rfl := oI hp
  exact ⟨m, ltS, _, pk st [0], hs⟩
 ·obtain rfl := oI hp
  obtain rfl := oI hs
  exact ⟨v10, rfl, pk st [0]⟩
theorem Zl9 {y0 v0 y1 v1 y2 r} (hp : ZbD y0 y1 y2 = some r) (f0 : SlC (hcell h) eI v0 y0) (f1 : SlC (hcell h) eI v1 y1) : zL Zhl #[v0, v1, .int .i64 y2] h ψ eI r := by
 apply ZsW
 rw [ZbD] at hp
 have st := S.start hψ
 refine cl1 hp st (fun s _ _ hx => ZjK s.fle hx (f0.mono st.le)) fun r15 v15 h_2 st hp => ⟨_, rfl, ?_⟩
 refine vL f1 st.le ?_
 refine ZC (st.rdL 0 rfl (Za _)) ?_
 obtain ⟨n_4, hn⟩ := Zy hp
 refine ⟨fun n y9 h_3 => ∃ xs : List Int, S ψ h h_3 [.it oL [v15] xs] ∧ loopN (ZaJ y1 y2) n (y9, xs) = some r, ⟨n_4, _, pk st [0], hn⟩, ?_⟩
 rintro n _ y9 h_3 ⟨xs, st, hn⟩
 obtain ⟨m, a, rfl, hp, hs⟩ := Zw hn
 rw [ZaJ] at hp
 refine brQ hp (fun hp => ?_) fun hp => ?_
 ·refine ixI (st.rdL 0 rfl (Za _)) hp fun e29 hp => ?_
  refine vL f1 st.le ?_
  obtain ⟨n_3, hn_2⟩ := Zy hp
  refine ⟨fun n_2 y33 h_4 => ∃ xs_2 : List Int, S ψ h h_4 [.it oL [v15] xs_2] ∧ loopN (ZcK y1 y2 y9 e29) n_2 (y33, xs_2) = some a, ⟨n_3, _, pk st [0], hn_2⟩, ?_⟩
  rintro n_2 _ y33 h_4 ⟨xs_2, st, hn_2⟩
  obtain ⟨m_2, a_2, rfl, hp, hs_2⟩ := Zw hn_2
  rw [ZcK] at hp
  refine brQ hp (fun hp => ?_) fun hp => ?_
  ·refine ixI (f1.mono st.le) hp fun e36 hp => ?_
   refine ixI (st.rdL 0 rfl (Za _)) hp fun e47 hp => ?_
   obtain ⟨_, hx_5, hp⟩ := obind hp
   refine ⟨Zaa hx_5, ?_⟩
   obtain ⟨_, hx_6, hp⟩ := obind hp
   refine ⟨Zaa hx_6, ?_⟩
   refine ixA (st.rdL 0 rfl (Za _)) hp fun e59 p59 ad_4 hx_7 hp => ?_
   refine st1_S st 0 rfl ad_4 hx_7 rfl (fun _ => ⟨rfl, rfl⟩) fun h_5 st => ?_
   dsimp only [List.set] at st
   obtain rfl := oI hp
   exact ⟨m_2, ltS, _, pk st [0], hs_2⟩
  ·obtain rfl := oI hp
   obtain rfl := oI hs_2
   exact ⟨m, ltS, _, pk st [0], hs⟩
 ·refine ZC (st.rdL 0 rfl (Za _)) ?_
  obtain ⟨l66, hx_8, hp⟩ := obind hp
  refine cut_S none (some (if ((xs.length : Int) : Int) < (IntKind.i64.wrap ((y1.length : Int) - 1)) then (xs.length : Int) else IntKind.i64.wrap ((y1.length : Int) - 1))) st 0 rfl hx_8 rfl fun v66 st => ?_
  dsimp only [List.set] at st
  obtain rfl := oI hp
  obtain rfl := oI hs
  exact ⟨v66, rfl, pk st [0]⟩
theorem Zp7 {x0 r} (hp : Zgk x0 = some r)  : zR ZiH #[.int .i64 x0] h ψ (.bool r) := by
 apply Zql
 rw [Zgk] at hp
 have st := S.start hψ
 exact tZ
theorem ZuC {list0 v0 r} (hp : ZfK list0 = some r) (f0 : SlC (hcell h) eI v0 list0) : zR ZiZ #[v0] h ψ (.bool r) := by
 apply Zum
 rw [ZfK] at hp
 have st := S.start hψ
 refine cl0 hp st (fun s _ _ hx => Zgq s.fle hx (f0.mono st.le) (by kernel_rfl) (fun hx1 => fun hψ1 => fun hp1  => Zp7 hψ1 hp1 )) fun r4 h_2 st hp => ⟨_, rfl, ?_⟩
 exact tZ
theorem Zom {poly0 v0 p1 r} (hp : Zdo poly0 p1 = some r) (f0 : SlC (hcell h) eI v0 poly0) : zR ZhS #[v0, .int .i64 p1] h ψ (.bool r) := by
 apply ZrC
 rw [Zdo] at hp
 have st := S.start hψ
 refine cl0 hp st (fun s _ _ hx => ZaY s.fle hx (f0.mono st.le)) fun r9 h_2 st hp => ⟨_, rfl, ?_⟩
 refine lp1 hp (nlS st) fun m d6 h_3 a st hp hs => ?_
 rw [ZhA] at hp
 refine brR hp (fun hp => tZ) fun hp => ?_
 refine lp1 hp (nlS st) fun m_2 n7 h_4 a_2 st hp hs_2 => ?_
 rw [Zg5] at hp
 refine cl0 hp st (fun s_2 _ _ hx_2 => ZgE s_2.fle hx_2) fun r20 h_5 st hp => ⟨_, rfl, ?_⟩
 refine brQ hp (fun hp => ?_) fun hp => ?_
 ·refine cl1 hp st (fun s_3 _ _ hx_3 => Zb3 s_3.fle hx_3) fun r28 v28 h_6 st hp => ⟨_, rfl, ?_⟩
  obtain ⟨l30, hx_4, hp⟩ := obind hp
  refine Zad st 0 rfl (fun _ => ⟨rfl, rfl⟩) rfl rfl hx_4 fun v30 h_7 st => ?_
  dsimp only [List.set] at st
  refine cl1 hp st (fun s_4 _ _ hx_5 => Zl9 s_4.fle hx_5 (f0.mono st.le) (st.rdL 0 rfl (Za _))) fun r32 v32 h_8 st hp => ⟨_, rfl, ?_⟩
  refine cl0 hp st (fun s_5 _ _ hx_6 => ZuC s_5.fle hx_6 (st.rdL 0 rfl (Za _))) fun r33 h_9 st hp => ⟨_, rfl, ?_⟩
  refine brQ hp (fun hp => ?_) fun hp => ?_
  ·obtain rfl := oI hp
   obtain rfl := oI hs_2
   obtain rfl := oI hs
   exact ⟨rfl, nlS st⟩
  ·obtain rfl := oI hp
   exact ⟨m_2, ltS, nlS st, hs_2⟩
 ·obtain rfl := oI hp
  obtain rfl := oI hs_2
  exact ⟨m, ltS, nlS st, hs⟩
theorem Zmt {n0 r} (hp : Zbx n0 = some r)  : zL Zha #[.int .i64 n0] h ψ eI r := by
 apply Zsa
 rw [Zbx] at hp
 have st := S.start hψ
 refine cl0 hp st (fun s _ _ hx => Zah s.fle hx) fun r6 h_2 st hp => ⟨_, rfl, ?_⟩
 refine brQ hp (fun hp => ?_) fun hp => ?_
 ·have st := st.nilO (E := eI)
  obtain rfl := oI hp
  exact ⟨(.slice none 0 0), rfl, pk st [0]⟩
 ·have st := st.nilO (E := eI)
  obtain ⟨n_4, hn⟩ := Zy hp
  refine ⟨fun n n0_2 v3 p4 h_3 => ∃ factor3 : List Int, S ψ h h_3 [.it oL [v3] factor3] ∧ loopN (ZaC) n (n0_2, factor3, p4) = some r, ⟨n_4, _, pk st [0], hn⟩, ?_⟩
  rintro n _ n0_2 v3 p4 h_3 ⟨factor3, st, hn⟩
  obtain ⟨m, a, rfl, hp, hs⟩ := Zw hn
  rw [ZaC] at hp
  refine brQ hp (fun hp => ?_) fun hp => ?_
  ·obtain ⟨n_3, hn_2⟩ := Zy hp
   refine ⟨fun n_2 n0_3 v3_2 h_4 => ∃ factor3_2 : List Int, S ψ h h_4 [.it oL [v3_2] factor3_2] ∧ loopN (ZbM p4) n_2 (n0_3, factor3_2) = some a, ⟨n_3, _, pk st [0], hn_2⟩, ?_⟩
   rintro n_2 _ n0_3 v3_2 h_4 ⟨factor3_2, st, hn_2⟩
   obtain ⟨m_2, a_2, rfl, hp, hs_2⟩ := Zw hn_2
   rw [ZbM] at hp
   obtain ⟨_, hx_2, hp⟩ := obind hp
   refine ⟨Zaa hx_2, ?_⟩
   refine brQ hp (fun hp => ?_) fun hp => ?_
   ·obtain ⟨l22, hx_3, hp⟩ := obind hp
    refine Zad st 0 rfl (fun _ => ⟨rfl, rfl⟩) rfl rfl hx_3 fun v22 h_5 st => ?_
    dsimp only [List.set] at st
    obtain ⟨_, hx_4, hp⟩ := obind hp
    refine ⟨Zaa hx_4, ?_⟩
    obtain rfl := oI hp
    exact ⟨m_2, ltS, _, pk st [0], hs_2⟩
   ·obtain rfl := oI hp
    obtain rfl := oI hs_2
    exact ⟨m, ltS, _, pk st [0], hs⟩
  ·refine brQ hp (fun hp => ?_) fun hp => ?_
   ·obtain ⟨l31, hx_5, hp⟩ := obind hp
    refine Zad st 0 rfl (fun _ => ⟨rfl, rfl⟩) rfl rfl hx_5 fun v31 h_6 st => ?_
    dsimp only [List.set] at st
    obtain rfl := oI hp
    obtain rfl := oI hs
    exact ⟨v31, rfl, pk st [0]⟩
   ·obtain rfl := oI hp
    obtain rfl := oI hs
    exact ⟨v3, rfl, pk st [0]⟩
theorem Zri {n0 r} (hp : Zec n0 = some r)  : zR ZjM #[.int .i64 n0] h ψ (.bool r) := by
 apply Zwu
 rw [Zec] at hp
 have st := S.start hψ
 refine cl1 hp st (fun s _ _ hx => Zmt s.fle hx) fun r4 v4 h_2 st hp => ⟨_, rfl, ?_⟩
 refine ZC (st.rdL 0 rfl (Za _)) ?_
 exact tZ
theorem ZoY {f0 v0_2 r} (hp : ZdN f0 = some r) (f0_2 : SlC (hcell h) eI v0_2 f0.Poly) : zR Zi6 #[.agg #[.int .i64 f0.Prime, .int .i64 f0.Degree, v0_2]] h ψ (.bool r) := by
 apply Zsf
 rw [ZdN] at hp
 have st := S.start hψ
 refine new_S st fun b1 h_2 st => ?_
 refine ⟨fun h_3 => S ψ h h_3 [.box b1 [.int .i64 f0.Prime, .int .i64 f0.Degree, v0_2]] ∧ Ze8 f0 = some r, ?_, ?_⟩
 ·refine bI st 0 0 ?_
  refine cl0 hp st (fun s_4 _ _ hx_6 => Zri s_4.fle hx_6) fun r7 h_9 st hp => ⟨_, rfl, ?_⟩
  refine brQ hp (fun hp => tZ) fun hp => ?_
  refine bI st 0 1 ?_
  refine brQ hp (fun hp => tZ) fun hp => ?_
  refine bI st 0 0 ?_
  refine bI st 0 1 ?_
  refine cl0 hp st (fun s_5 _ _ hx_7 => ZgE s_5.fle hx_7) fun r19 h_10 st hp => ⟨_, rfl, ?_⟩
  refine brQ hp (fun hp => tZ) fun hp => ?_
  exact ⟨pk st [0], hp⟩
 ·rintro _ h_3 ⟨st, hp⟩
  rw [Ze8] at hp
  refine ⟨fun h_4 => S ψ h h_4 [.box b1 [.int .i64 f0.Prime, .int .i64 f0.Degree, v0_2]] ∧ Zgj f0 = some r, ?_, ?_⟩
  ·refine ⟨fun _ => False, ?_⟩
   have stR_9 := st
   have xR_9 := ExtH.refl h_3
   refine bV st 0 2 ?_
   obtain ⟨r24, hx_4, hp⟩ := obind hp
   obtain ⟨φ_3, L_3, s_3, r_4⟩ := id st
   refine (ZaY s_3.fle hx_4 (f0_2.mono st.le)).mono fun v_4 h_8 ⟨eq_3, t_3⟩ => ⟨_, eq_3, ExtBut.of_ext (xR_9.trans t_3.ext), ?_⟩
   replace xR_9 := xR_9.trans t_3.ext
   replace st := join0 s_3 r_4 t_3
   clear t_3 s_3 r_4
   refine ZA ?_
   refine ldI_K (stR_9.cells 0 rfl) 1 rfl rfl ?_
   refine brQ hp (fun hp => tZ) fun hp => ?_
   refine bV st 0 2 ?_
   refine bI st 0 1 ?_
   refine ixI (f0_2.mono st.le) hp fun e34 hp => ?_
   refine brQ hp (fun hp => tZ) fun hp => ?_
   exact ⟨pk st [0], hp⟩
  ·rintro _ h_4 ⟨st, hp⟩
   rw [Zgj] at hp
   refine bV st 0 2 ?_
   refine vL f0_2 st.le ?_
   refine lp1 (os := [.box b1 [.int .i64 f0.Prime, .int .i64 f0.Degree, v0_2]]) hp (pk st [0]) fun m y41 h_5 a st hp hs => ?_
   rw [Zhh] at hp
   refine brQ hp (fun hp => ?_) fun hp => ?_
   ·refine ixI (f0_2.mono st.le) hp fun e43 hp => ?_
    refine bI st 0 0 ?_
    refine cl0 hp st (fun s _ _ hx_2 => Zah s.fle hx_2) fun r49 h_6 st hp => ⟨_, rfl, ?_⟩
    refine brQ hp (fun hp => tZ) fun hp => ?_
    obtain rfl := oI hp
    exact ⟨m, ltS, pk st [0], hs⟩
   ·refine bV st 0 2 ?_
    refine bI st 0 0 ?_
    refine cl0 hp st (fun s_2 _ _ hx_3 => Zom s_2.fle hx_3 (f0_2.mono st.le)) fun r56 h_7 st hp => ⟨_, rfl, ?_⟩
    exact tZ
theorem ZrW {x0 y1 p1 r} (hp : Zcd x0 y1 = some r) (ck1 : CellsC (hcell h) p1 [.int .i64 y1]) : zR Zkv #[.int .i64 x0, .pointer (some p1)] h ψ (.bool r) := by
 apply ZwE
 rw [Zcd] at hp
 have st := S.start hψ
 refine kI ck1 st.le 0 ?_
 refine cl0 hp st (fun s _ _ hx => Zah s.fle hx) fun r7 h_2 st hp => ⟨_, rfl, ?_⟩
 exact tZ
theorem Zqo {q0 list1 v1 r} (hp : Zg4 q0 list1 = some r) (f1 : SlC (hcell h) eI v1 list1) : zR Zjv #[.int .i64 q0, v1] h ψ (.bool r) := by
 apply Zqu
 rw [Zg4] at hp
 have st := S.start hψ
 refine new_S st fun b2 h_2 st => ?_
 refine cl0 hp st (fun s _ _ hx => Zgq s.fle hx (f1.mono st.le) (by kernel_rfl) (fun hx1 => fun hψ1 => fun hp1  => ZrW hψ1 hp1 ((st.cells 0 rfl).mono (CLe.ext hx1)))) fun r7 h_3 st hp => ⟨_, rfl, ?_⟩
 exact tZ
theorem Zug {row0 v0 y1 p1 v1 y2 p2 r} (hp : Zdr row0 y1 y2 = some r) (f0 : SlC (hcell h) eI v0 row0) (ck1 : CellsC (hcell h) p1 [v1]) (f1 : SlC (hcell h) eL v1 y1) (ck2 : CellsC (hcell h) p2 [.int .i64 y2]) : zR Zjr #[v0, .pointer (some p1), .pointer (some p2)] h ψ (.bool r) := by
 apply ZtW
 rw [Zdr] at hp
 have st := S.start hψ
 refine vL f0 st.le ?_
 refine kV ck1 st.le 0 ?_
 refine ixV f1 st.le hp fun e8 u9 f hp => ?_
 refine vL f st.le ?_
 refine brQ hp (fun hp => tZ) fun hp => ?_
 refine kI ck2 st.le 0 ?_
 refine cl0 hp st (fun s _ _ hx_2 => Zqo s.fle hx_2 (f0.mono st.le)) fun r15 h_2 st hp => ⟨_, rfl, ?_⟩
 exact tZ
theorem Zpe {f0 v0_2 m1 v1 r} (hp : ZfT f0 m1 = some r) (f0_2 : SlC (hcell h) eI v0_2 f0.Poly) (f1 : SlC (hcell h) eL v1 m1) : zR ZjE #[.agg #[.int .i64 f0.Prime, .int .i64 f0.Degree, v0_2], v1] h ψ (.bool r) := by
 apply Zvr
 rw [ZfT] at hp
 have st := S.start hψ
 refine new_S st fun b2 h_2 st => ?_
 refine Zz (f1.mono st.le).one ?_
 refine new_S st fun b3 h_3 st => ?_
 refine ⟨fun h_4 => S ψ h h_4 [.box b3 [v1], .box b2 [.int .i64 f0.Prime, .int .i64 f0.Degree, v0_2]] ∧ Zhn f0 m1 = some r, ?_, ?_⟩
 ·refine bI st 1 0 ?_
  refine bI st 1 1 ?_
  refine bV st 1 2 ?_
  refine cl0 hp st (fun s_3 _ _ hx_3 => ZoY s_3.fle hx_3 (f0_2.mono st.le)) fun r7 h_9 st hp => ⟨_, rfl, ?_⟩
  refine brQ hp (fun hp => tZ) fun hp => ?_
  refine bV st 0 0 ?_
  refine cl0 hp st (fun s_4 _ _ hx_4 => ZcU s_4.fle hx_4 (f1.mono st.le)) fun r11 h_10 st hp => ⟨_, rfl, ?_⟩
  refine cl0 hp st (fun s_5 _ _ hx_5 => Zah s_5.fle hx_5) fun r12 h_11 st hp => ⟨_, rfl, ?_⟩
  refine brQ hp (fun hp => tZ) fun hp => ?_
  refine bV st 0 0 ?_
  refine ixV f1 st.le hp fun e17 u18 f hp => ?_
  refine cl0 hp st (fun s_6 _ _ hx_7 => ZaY s_6.fle hx_7 (f.mono st.le)) fun r19 h_12 st hp => ⟨_, rfl, ?_⟩
  refine cl0 hp st (fun s_7 _ _ hx_8 => Zah s_7.fle hx_8) fun r20 h_13 st hp => ⟨_, rfl, ?_⟩
  refine brQ hp (fun hp => tZ) fun hp => ?_
  exact ⟨pk st [0,1], hp⟩
 ·rintro _ h_4 ⟨st, hp⟩
  rw [Zhn] at hp
  refine bI st 1 0 ?_
  refine bI st 1 1 ?_
  refine bV st 1 2 ?_
  refine cl0 hp st (fun s _ _ hx => ZlB s.fle hx (f0_2.mono st.le)) fun r24 h_5 st hp => ⟨_, rfl, ?_⟩
  refine new_S st fun b5 h_6 st => ?_
  refine Zb st 0 rfl rfl rfl rfl fun h_7 st => ?_
  dsimp only [List.set] at st
  refine bV st 1 0 ?_
  refine cl0 hp st (fun s_2 _ _ hx_2 => Zjl s_2.fle hx_2 (f1.mono st.le) (by kernel_rfl) (fun hx1 => fun hψ1 => fun hp1 ff0 => Zug hψ1 hp1 ff0 ((st.cells 1 rfl).mono (CLe.ext hx1)) ((f1.mono st.le).mono (CLe.ext hx1)) ((st.cells 0 rfl).mono (CLe.ext hx1)))) fun r27 h_8 st hp => ⟨_, rfl, ?_⟩
  exact tZ
theorem Zl2 {digits0 v0 base1 r} (hp : Zej digits0 base1 = some r) (f0 : SlC (hcell h) eI v0 digits0) : zR ZhJ #[v0, .int .i64 base1] h ψ (.int .i64 r) := by
 apply ZrS
 rw [Zej] at hp
 have st := S.start hψ
 refine vL f0 st.le ?_
 refine lp2 hp (nlS st) fun m n5 k6 h_2 a st hp hs => ?_
 rw [Znl] at hp
 refine brR hp (fun hp => tZ) fun hp => ?_
 refine ixI (f0.mono st.le) hp fun e19 hp => ?_
 exact tZ
theorem Zl8 {f0 v0_2 a1 b2 sign3 r} (hp : ZdY f0 a1 b2 sign3 = some r) (f0_2 : SlC (hcell h) eI v0_2 f0.Poly) : zR Zhm #[.agg #[.int .i64 f0.Prime, .int .i64 f0.Degree, v0_2], .int .i64 a1, .int .i64 b2, .int .i64 sign3] h ψ (.int .i64 r) := by
 apply ZwN
 rw [ZdY] at hp
 have st := S.start hψ
 refine new_S st fun b4 h_2 st => ?_
 refine ⟨fun _ => False, ?_⟩
 have stR_2 := st
 have xR_2 := ExtH.refl h_2
 refine bI st 0 0 ?_
 refine bI st 0 1 ?_
 obtain ⟨r17, hx, hp⟩ := obind hp
 obtain ⟨φ, L, s, r_2⟩ := id st
 refine (Zb3 s.fle hx).mono fun v_2 h_3 ⟨v17, eq, t⟩ => ⟨_, eq, ExtBut.of_ext (xR_2.trans t.ext), ?_⟩
 replace xR_2 := xR_2.trans t.ext
 replace st := join1 s r_2 t
 clear t s r_2
 refine ZA ?_
 refine ldI_K (stR_2.cells 0 rfl) 0 rfl rfl ?_
 refine ZA ?_
 refine ldI_K (stR_2.cells 0 rfl) 1 rfl rfl ?_
 refine cl1 hp st (fun s_2 _ _ hx_2 => Zb3 s_2.fle hx_2) fun r23 v23 h_4 st hp => ⟨_, rfl, ?_⟩
 refine ZC (st.rdL 1 rfl (Za _)) ?_
 obtain ⟨n_2, hn⟩ := Zy hp
 refine ⟨fun n y26 h_5 => ∃ xs : List Int, S ψ h h_5 [.it oL [v23] r23, .it oL [v17] xs, .box b4 [.int .i64 f0.Prime, .int .i64 f0.Degree, v0_2]] ∧ loopN (Zdb f0 sign3 r17 r23) n (y26, xs) = some r, ⟨n_2, _, pk st [0,1,2], hn⟩, ?_⟩
 rintro n _ y26 h_5 ⟨xs, st, hn⟩
 obtain ⟨m, a, rfl, hp, hs⟩ := Zw hn
 rw [Zdb] at hp
 refine brQ hp (fun hp => ?_) fun hp => ?_
 ·refine ixI (st.rdL 1 rfl (Za _)) hp fun e33 hp => ?_
  refine ixI (st.rdL 0 rfl (Za _)) hp fun e38 hp => ?_
  refine bI st 2 0 ?_
  refine bI st 2 0 ?_
  obtain ⟨_, hx_5, hp⟩ := obind hp
  refine ⟨Zaa hx_5, ?_⟩
  refine ixA (st.rdL 1 rfl (Za _)) hp fun e48 p48 ad_3 hx_6 hp => ?_
  refine st1_S st 1 rfl ad_3 hx_6 rfl (fun _ => ⟨rfl, rfl⟩) fun h_6 st => ?_
  dsimp only [List.set] at st
  obtain rfl := oI hp
  exact ⟨m, ltS, _, pk st [0,1,2], hs⟩
 ·refine bI st 2 0 ?_
  refine cl0 hp st (fun s_3 _ _ hx_7 => Zl2 s_3.fle hx_7 (st.rdL 1 rfl (Za _))) fun r53 h_7 st hp => ⟨_, rfl, ?_⟩
  exact tZ
theorem Zq1 {y0 v0_2 y1 y2 r} (hp : Zf9 y0 y1 y2 = some r) (f0_2 : SlC (hcell h) eI v0_2 y0.Poly) : zR Zi1 #[.agg #[.int .i64 y0.Prime, .int .i64 y0.Degree, v0_2], .int .i64 y1, .int .i64 y2] h ψ (.int .i64 r) := by
 apply Zui
 rw [Zf9] at hp
 have st := S.start hψ
 refine new_S st fun b3 h_2 st => ?_
 refine ⟨fun _ => False, ?_⟩
 have stR_2 := st
 have xR_2 := ExtH.refl h_2
 refine bI st 0 0 ?_
 refine bI st 0 1 ?_
 obtain ⟨r17, hx, hp⟩ := obind hp
 obtain ⟨φ, L, s, r_2⟩ := id st
 refine (Zb3 s.fle hx).mono fun v_2 h_3 ⟨v17, eq, t⟩ => ⟨_, eq, ExtBut.of_ext (xR_2.trans t.ext), ?_⟩
 replace xR_2 := xR_2.trans t.ext
 replace st := join1 s r_2 t
 clear t s r_2
 refine ZA ?_
 refine ldI_K (stR_2.cells 0 rfl) 0 rfl rfl ?_
 refine ZA ?_
 refine ldI_K (stR_2.cells 0 rfl) 1 rfl rfl ?_
 refine cl1 hp st (fun s_2 _ _ hx_2 => Zb3 s_2.fle hx_2) fun r23 v23 h_4 st hp => ⟨_, rfl, ?_⟩
 refine bI st 2 1 ?_
 obtain ⟨l27, hx_3, hp⟩ := obind hp
 refine Zaz (E := eI) st rfl hx_3 fun v27 h_5 st => ?_
 refine ZC (st.rdL 2 rfl (Za _)) ?_
 obtain ⟨n_4, hn⟩ := Zy hp
 refine ⟨fun n y30 h_6 => ∃ xs : List Int, S ψ h h_6 [.it oL [v27] xs, .it oL [v23] r23, .it oL [v17] r17, .box b3 [.int .i64 y0.Prime, .int .i64 y0.Degree, v0_2]] ∧ loopN (ZbU y0 r17 r23) n (y30, xs) = some r, ⟨n_4, _, pk st [0,1,2,3], hn⟩, ?_⟩
 rintro n _ y30 h_6 ⟨xs, st, hn⟩
 obtain ⟨m, a, rfl, hp, hs⟩ := Zw hn
 rw [ZbU] at hp
 refine brQ hp (fun hp => ?_) fun hp => ?_
 ·refine ZC (st.rdL 1 rfl (Za _)) ?_
  obtain ⟨n_3, hn_2⟩ := Zy hp
  refine ⟨fun n_2 y35 h_7 => ∃ xs_2 : List Int, S ψ h h_7 [.it oL [v27] xs_2, .it oL [v23] r23, .it oL [v17] r17, .box b3 [.int .i64 y0.Prime, .int .i64 y0.Degree, v0_2]] ∧ loopN (Zee y0 r17 r23 y30) n_2 (y35, xs_2) = some a, ⟨n_3, _, pk st [0,1,2,3], hn_2⟩, ?_⟩
  rintro n_2 _ y35 h_7 ⟨xs_2, st, hn_2⟩
  obtain ⟨m_2, a_2, rfl, hp, hs_2⟩ := Zw hn_2
  rw [Zee] at hp
  refine brQ hp (fun hp => ?_) fun hp => ?_
  ·refine ixI (st.rdL 0 rfl (Za _)) hp fun e46 hp => ?_
   refine ixI (st.rdL 2 rfl (Za _)) hp fun e50 hp => ?_
   refine ixI (st.rdL 1 rfl (Za _)) hp fun e54 hp => ?_
   refine bI st 3 0 ?_
   obtain ⟨_, hx_7, hp⟩ := obind hp
   refine ⟨Zaa hx_7, ?_⟩
   refine ixA (st.rdL 0 rfl (Za _)) hp fun e61 p61 ad_4 hx_8 hp => ?_
   refine st1_S st 0 rfl ad_4 hx_8 rfl (fun _ => ⟨rfl, rfl⟩) fun h_8 st => ?_
   dsimp only [List.set] at st
   obtain rfl := oI hp
   exact ⟨m_2, ltS, _, pk st [0,1,2,3], hs_2⟩
  ·obtain rfl := oI hp
   obtain rfl := oI hs_2
   exact ⟨m, ltS, _, pk st [0,1,2,3], hs⟩
 ·refine ⟨fun _ => False, ?_⟩
  have stR_13 := st
  have xR_13 := ExtH.refl h_6
  refine bV st 3 2 ?_
  refine bI st 3 0 ?_
  obtain ⟨r69, hx_9, hp⟩ := obind hp
  obtain ⟨φ_3, L_3, s_3, r_4⟩ := id st
  refine (Zl9 s_3.fle hx_9 (st.rdL 0 rfl (Za _)) (f0_2.mono st.le)).mono fun v_4 h_9 ⟨v69, eq_3, t_3⟩ => ⟨_, eq_3, ExtBut.of_ext (xR_13.trans t_3.ext), ?_⟩
  replace xR_13 := xR_13.trans t_3.ext
  replace st := join1 s_3 r_4 t_3
  clear t_3 s_3 r_4
  refine ZA ?_
  refine ldI_K (stR_13.cells 3 rfl) 0 rfl rfl ?_
  refine cl0 hp st (fun s_4 _ _ hx_10 => Zl2 s_4.fle hx_10 (st.rdL 0 rfl (Za _))) fun r72 h_10 st hp => ⟨_, rfl, ?_⟩
  exact tZ
theorem Zwe {y0 v0_2 r} (hp : Zef y0 = some r) (f0_2 : SlC (hcell h) eI v0_2 y0.Poly) : CallsH P ZkL #[.agg #[.int .i64 y0.Prime, .int .i64 y0.Degree, v0_2]] h (fun v h' => ∃ w0 : Value, ∃ w1 : Value, ∃ w2 : Value, ∃ w3 : Value, v = .agg #[.int .i64 r.qq, w0, w1, w2, w3] ∧ S ψ h h' [.it (El.ow oL) [w0] r.qadd, .it (El.ow oL) [w1] r.qsub, .it (El.ow oL) [w2] r.qmul, .it oL [w3] r.qinv]) := by
 apply ZtT
 rw [Zef] at hp
 have st := S.start hψ
 refine new_S st fun b1 h_2 st => ?_
 refine new_S st fun b2 h_3 st => ?_
 refine bI st 1 0 ?_
 refine bI st 1 1 ?_
 refine bV st 1 2 ?_
 refine cl0 hp st (fun s _ _ hx => ZlB s.fle hx (f0_2.mono st.le)) fun r10 h_4 st hp => ⟨_, rfl, ?_⟩
 refine new_S st fun b3 h_5 st => ?_
 refine Zb st 0 rfl rfl rfl rfl fun h_6 st => ?_
 refine Zb st 0 rfl rfl rfl rfl fun h_7 st => ?_
 refine Zb st 0 rfl rfl rfl rfl fun h_8 st => ?_
 refine Zb st 0 rfl rfl rfl rfl fun h_9 st => ?_
 refine Zb st 0 rfl rfl rfl rfl fun h_10 st => ?_
 dsimp only [List.set] at st
 refine bI st 0 0 ?_
 obtain ⟨l14, hx_2, hp⟩ := obind hp
 refine Zaz (E := eI) st rfl hx_2 fun v14 h_11 st => ?_
 refine Zb st 1 rfl rfl rfl (st.rdL 0 rfl (Za _)).one fun h_12 st => ?_
 dsimp only [List.set] at st
 have st := st.nilO (E := oL)
 have st := st.nilO (E := oL)
 have st := st.nilO (E := oL)
 obtain ⟨n_4, hn⟩ := Zy hp
 refine ⟨fun n y4 h_13 => ∃ xs : List (List Int), ∃ v_3 : Value, ∃ xs_2 : List (List Int), ∃ v_4 : Value, ∃ xs_3 : List (List Int), ∃ v_5 : Value, ∃ xs_4 : List Int, S ψ h h_13 [.it oL [v14] xs_4, .box b3 [.int .i64 r10, v_3, v_4, v_5, v14], .box b2 [.int .i64 0, (.slice none 0 0), (.slice none 0 0), (.slice none 0 0), (.slice none 0 0)], .box b1 [.int .i64 y0.Prime, .int .i64 y0.Degree, v0_2], .it (El.ow oL) [v_3] xs, .it (El.ow oL) [v_4] xs_2, .it (El.ow oL) [v_5] xs_3] ∧ loopN (Zdk y0 r10) n (y4, xs, xs_2, xs_3, xs_4) = some r, ⟨n_4, _, _, _, _, _, _, _, pk st [3,4,5,6,2,1,0], hn⟩, ?_⟩
 rintro n _ y4 h_13 ⟨xs, v_3, xs_2, v_4, xs_3, v_5, xs_4, st, hn⟩
 obtain ⟨m, a, rfl, hp, hs⟩ := Zw hn
 rw [Zdk] at hp
 refine bI st 1 0 ?_
 refine brQ hp (fun hp => ?_) fun hp => ?_
 ·obtain ⟨l24, hx_3, hp⟩ := obind hp
  obtain ⟨l27, hx_4, hp⟩ := obind hp
  obtain ⟨l30, hx_5, hp⟩ := obind hp
  refine useK (fun K => ∀ v24_2 v27_2 v30_2 h_19, S ψ h h_19 [.it oL [v30_2] l30, .it oL [v27_2] l27, .it oL [v24_2] l24, .it oL [v14] xs_4, .box b3 [.int .i64 r10, v_3, v_4, v_5, v14], .box b2 [.int .i64 0, (.slice none 0 0), (.slice none 0 0), (.slice none 0 0), (.slice none 0 0)], .box b1 [.int .i64 y0.Prime, .int .i64 y0.Degree, v0_2], .it (El.ow oL) [v_3] xs, .it (El.ow oL) [v_4] xs_2, .it (El.ow oL) [v_5] xs_3] → K v24_2 v27_2 v30_2 h_19) (fun v24_2 v27_2 v30_2 h_19 st => ?_) (fun K hK => ?_)
  ·obtain ⟨n_3, hn_2⟩ := Zy hp
   refine ⟨fun n_2 y8 h_35 => ∃ xs_5 : List Int, ∃ xs_6 : List Int, ∃ xs_7 : List Int, ∃ xs_8 : List Int, S ψ h h_35 [.it oL [v30_2] xs_8, .it oL [v27_2] xs_7, .it oL [v24_2] xs_6, .it oL [v14] xs_5, .box b3 [.int .i64 r10, v_3, v_4, v_5, v14], .box b2 [.int .i64 0, (.slice none 0 0), (.slice none 0 0), (.slice none 0 0), (.slice none 0 0)], .box b1 [.int .i64 y0.Prime, .int .i64 y0.Degree, v0_2], .it (El.ow oL) [v_3] xs, .it (El.ow oL) [v_4] xs_2, .it (El.ow oL) [v_5] xs_3] ∧ loopN (Zbz y0 r10 y4 xs xs_2 xs_3) n_2 (y8, xs_5, xs_6, xs_7, xs_8) = some a, ⟨n_3, _, _, _, _, pk st [0,1,2,3,4,5,6,7,8,9], hn_2⟩, ?_⟩
   rintro n_2 _ y8 h_35 ⟨xs_5, xs_6, xs_7, xs_8, st, hn_2⟩
   obtain ⟨m_2, a_2, rfl, hp, hs_2⟩ := Zw hn_2
   rw [Zbz] at hp
   refine bI st 4 0 ?_
   refine brQ hp (fun hp => ?_) fun hp => ?_
   ·refine ⟨fun _ => False, ?_⟩
    have stR_9 := st
    have xR_9 := ExtH.refl h_35
    refine bI st 6 0 ?_
    refine bI st 6 1 ?_
    refine bV st 6 2 ?_
    obtain ⟨r46, hx_6, hp⟩ := obind hp
    obtain ⟨φ_2, L_2, s_2, r_3⟩ := id st
    refine (Zl8 s_2.fle hx_6 (f0_2.mono st.le)).mono fun v_6 h_36 ⟨eq_2, t_2⟩ => ⟨_, eq_2, ExtBut.of_ext (xR_9.trans t_2.ext), ?_⟩
    replace xR_9 := xR_9.trans t_2.ext
    replace st := join0 s_2 r_3 t_2
    clear t_2 s_2 r_3
    refine ZA ?_
    refine ldI_K (stR_9.cells 6 rfl) 0 rfl rfl ?_
    refine ZA ?_
    refine ldI_K (stR_9.cells 6 rfl) 1 rfl rfl ?_
    refine Z7 ?_
    refine ldV_K (stR_9.cells 6 rfl) 2 rfl rfl ?_
    obtain ⟨r50, hx_7, hp⟩ := obind hp
    obtain ⟨φ_3, L_3, s_3, r_4⟩ := id st
    refine (Zl8 s_3.fle hx_7 (f0_2.mono st.le)).mono fun v_7 h_37 ⟨eq_3, t_3⟩ => ⟨_, eq_3, ExtBut.of_ext (xR_9.trans t_3.ext), ?_⟩
    replace xR_9 := xR_9.trans t_3.ext
    replace st := join0 s_3 r_4 t_3
    clear t_3 s_3 r_4
    refine ZA ?_
    refine ldI_K (stR_9.cells 6 rfl) 0 rfl rfl ?_
    refine ZA ?_
    refine ldI_K (stR_9.cells 6 rfl) 1 rfl rfl ?_
    refine Z7 ?_
    refine ldV_K (stR_9.cells 6 rfl) 2 rfl rfl ?_
    refine cl0 hp st (fun s_4 _ _ hx_8 => Zq1 s_4.fle hx_8 (f0_2.mono st.le)) fun r54 h_38 st hp => ⟨_, rfl, ?_⟩
    refine ixA (st.rdL 2 rfl (Za _)) hp fun e55 p55 ad hx_9 hp => ?_
    refine st1_S st 2 rfl ad hx_9 rfl (fun _ => ⟨rfl, rfl⟩) fun h_39 st => ?_
    dsimp only [List.set] at st
    refine ixA (st.rdL 1 rfl (Za _)) hp fun e56 p56 ad_2 hx_10 hp => ?_
    refine st1_S st 1 rfl ad_2 hx_10 rfl (fun _ => ⟨rfl, rfl⟩) fun h_40 st => ?_
    dsimp only [List.set] at st
    refine ixA (st.rdL 0 rfl (Za _)) hp fun e57 p57 ad_3 hx_11 hp => ?_
    refine st1_S st 0 rfl ad_3 hx_11 rfl (fun _ => ⟨rfl, rfl⟩) fun h_41 st => ?_
    dsimp only [List.set] at st
    refine ixI (st.rdL 0 rfl (Za _)) hp fun e60 hp => ?_
    refine brQ hp (fun hp => ?_) fun hp => ?_
    ·refine bV st 4 4 ?_
     refine ixA (st.rdL 3 rfl (Za _)) hp fun e67 p67 ad_5 hx_13 hp => ?_
     refine st1_S st 3 rfl ad_5 hx_13 rfl (fun _ => ⟨rfl, rfl⟩) fun h_42 st => ?_
     dsimp only [List.set] at st
     obtain rfl := oI hp
     exact ⟨m_2, ltS, _, _, _, _, pk st [0,1,2,3,4,5,6,7,8,9], hs_2⟩
    ·obtain rfl := oI hp
     exact ⟨m_2, ltS, _, _, _, _, pk st [0,1,2,3,4,5,6,7,8,9], hs_2⟩
   ·obtain ⟨l72, hx_14, hp⟩ := obind hp
    obtain ⟨l77, hx_15, hp⟩ := obind hp
    obtain ⟨l82, hx_16, hp⟩ := obind hp
    refine useK (fun K => ∀ h_60 v72_2 v77_2 v82_2, S ψ h h_60 [.it oL [v14] xs_5, .box b3 [.int .i64 r10, v72_2, v77_2, v82_2, v14], .box b2 [.int .i64 0, (.slice none 0 0), (.slice none 0 0), (.slice none 0 0), (.slice none 0 0)], .box b1 [.int .i64 y0.Prime, .int .i64 y0.Degree, v0_2], .it (El.ow oL) [v72_2] l72, .it (El.ow oL) [v77_2] l77, .it (El.ow oL) [v82_2] l82] → K h_60) (fun h_60 v72_2 v77_2 v82_2 st => ?_) (fun K hK => ?_)
    ·obtain rfl := oI hp
     obtain rfl := oI hs_2
     exact ⟨m, ltS, _, _, _, _, _, _, _, pk st [0,1,2,3,4,5,6], hs⟩
    ·refine ⟨fun b => blk v_3 = some b ∨ blk v_4 = some b, ?_⟩
     have stR_14 := st
     have xR_14 : ExtBut (fun b => blk v_3 = some b ∨ blk v_4 = some b) h_35 h_35 := ExtBut.refl _ _
     refine ⟨?_, ?_, ?_⟩
     ·refine Zz (st.rdL 2 rfl (Za _)).one ?_
      refine ZO st fun b71_3 h_61 xE st => ⟨xR_14.trans (ExtBut.of_ext xE), ?_⟩
      replace xR_14 := xR_14.trans (ExtBut.of_ext xE)
      refine ⟨?_, ?_, ?_⟩
      ·refine ZE (fun e => Or.elim e (fun e => stR_14.boxNe 4 7 rfl rfl e) (fun e => stR_14.boxNe 4 8 rfl rfl e)) ?_
       refine ldV_K (stR_14.cells 4 rfl) 1 rfl rfl ?_
       have st := st.pull 3 rfl
       dsimp only [List.eraseIdx] at st
       refine ZD st 7 rfl 0 rfl rfl rfl hx_14 fun v72_3 h_62 xE st => ⟨xR_14.trans (xE.mono fun _ e => .inl e), ?_⟩
       replace xR_14 := xR_14.trans (xE.mono fun _ e => .inl e)
       dsimp only [List.set] at st
       refine ⟨?_, ?_⟩
       ·refine Zz (st.rdL 2 rfl (Za _)).one ?_
        refine ZO st fun b76_3 h_63 xE st => ⟨xR_14.trans (ExtBut.of_ext xE), ?_⟩
        replace xR_14 := xR_14.trans (ExtBut.of_ext xE)
        refine ⟨?_, ?_⟩
        ·refine ZE (fun e => Or.elim e (fun e => stR_14.boxNe 4 7 rfl rfl e) (fun e => stR_14.boxNe 4 8 rfl rfl e)) ?_
         refine ldV_K (stR_14.cells 4 rfl) 2 rfl rfl ?_
         have st := st.pull 3 rfl
         dsimp only [List.eraseIdx] at st
         refine ZD st 8 rfl 0 rfl rfl rfl hx_15 fun v77_3 h_64 xE st => ⟨xR_14.trans (xE.mono fun _ e => .inr e), ?_⟩
         replace xR_14 := xR_14.trans (xE.mono fun _ e => .inr e)
         dsimp only [List.set] at st
         refine Zz (st.rdL 2 rfl (Za _)).one ?_
         refine ZO st fun b81_3 h_65 xE st => ⟨xR_14.trans (ExtBut.of_ext xE), ?_⟩
         replace xR_14 := xR_14.trans (ExtBut.of_ext xE)
         refine ZE (fun e => Or.elim e (fun e => stR_14.boxNe 4 7 rfl rfl e) (fun e => stR_14.boxNe 4 8 rfl rfl e)) ?_
         refine ldV_K (stR_14.cells 4 rfl) 3 rfl rfl ?_
         have st := st.pull 3 rfl
         dsimp only [List.eraseIdx] at st
         refine ZD st 9 rfl 0 rfl rfl rfl hx_16 fun v82_3 h_66 xE st => ?_
         refine Zb st 4 rfl rfl rfl (st.rdL 7 rfl (Ze (Za _))).one fun h_67 st => ?_
         refine Zb st 4 rfl rfl rfl (st.rdL 8 rfl (Ze (Za _))).one fun h_68 st => ?_
         refine Zb st 4 rfl rfl rfl (st.rdL 9 rfl (Ze (Za _))).one fun h_69 st => ?_
         dsimp only [List.set] at st
         exact hK h_69 v72_3 v77_3 v82_3 (pk st [3,4,5,6,7,8,9])
        ·refine Zz (st.rdL 2 rfl (Za _)).one ?_
         refine ZO st fun b81_4 h_70 xE st => ⟨xR_14.trans (ExtBut.of_ext xE), ?_⟩
         replace xR_14 := xR_14.trans (ExtBut.of_ext xE)
         refine ZE (fun e => Or.elim e (fun e => stR_14.boxNe 4 7 rfl rfl e) (fun e => stR_14.boxNe 4 8 rfl rfl e)) ?_
         refine ldV_K (stR_14.cells 4 rfl) 2 rfl rfl ?_
         have st := st.pull 4 rfl
         dsimp only [List.eraseIdx] at st
         refine ZD st 9 rfl 1 rfl rfl rfl hx_15 fun v77_4 h_71 xE st => ⟨xR_14.trans (xE.mono fun _ e => .inr e), ?_⟩
         replace xR_14 := xR_14.trans (xE.mono fun _ e => .inr e)
         dsimp only [List.set] at st
         refine ZE (fun e => Or.elim e (fun e => stR_14.boxNe 4 7 rfl rfl e) (fun e => stR_14.boxNe 4 8 rfl rfl e)) ?_
         refine ldV_K (stR_14.cells 4 rfl) 3 rfl rfl ?_
         have st := st.pull 3 rfl
         dsimp only [List.eraseIdx] at st
         refine ZD st 9 rfl 0 rfl rfl rfl hx_16 fun v82_4 h_72 xE st => ?_
         refine Zb st 4 rfl rfl rfl (st.rdL 7 rfl (Ze (Za _))).one fun h_73 st => ?_
         refine Zb st 4 rfl rfl rfl (st.rdL 8 rfl (Ze (Za _))).one fun h_74 st => ?_
         refine Zb st 4 rfl rfl rfl (st.rdL 9 rfl (Ze (Za _))).one fun h_75 st => ?_
         dsimp only [List.set] at st
         exact hK h_75 v72_3 v77_4 v82_4 (pk st [3,4,5,6,7,8,9])
       ·refine Zz (st.rdL 1 rfl (Za _)).one ?_
        refine ZO st fun b81_5 h_76 xE st => ⟨xR_14.trans (ExtBut.of_ext xE), ?_⟩
        replace xR_14 := xR_14.trans (ExtBut.of_ext xE)
        refine Zz (st.rdL 3 rfl (Za _)).one ?_
        refine ZO st fun b76_4 h_77 xE st => ⟨xR_14.trans (ExtBut.of_ext xE), ?_⟩
        replace xR_14 := xR_14.trans (ExtBut.of_ext xE)
        refine ZE (fun e => Or.elim e (fun e => stR_14.boxNe 4 7 rfl rfl e) (fun e => stR_14.boxNe 4 8 rfl rfl e)) ?_
        refine ldV_K (stR_14.cells 4 rfl) 2 rfl rfl ?_
        have st := st.pull 4 rfl
        dsimp only [List.eraseIdx] at st
        refine ZD st 9 rfl 0 rfl rfl rfl hx_15 fun v77_5 h_78 xE st => ⟨xR_14.trans (xE.mono fun _ e => .inr e), ?_⟩
        replace xR_14 := xR_14.trans (xE.mono fun _ e => .inr e)
        dsimp only [List.set] at st
        refine ZE (fun e => Or.elim e (fun e => stR_14.boxNe 4 7 rfl rfl e) (fun e => stR_14.boxNe 4 8 rfl rfl e)) ?_
        refine ldV_K (stR_14.cells 4 rfl) 3 rfl rfl ?_
        have st := st.pull 3 rfl
        dsimp only [List.eraseIdx] at st
        refine ZD st 9 rfl 1 rfl rfl rfl hx_16 fun v82_5 h_79 xE st => ?_
        refine Zb st 4 rfl rfl rfl (st.rdL 7 rfl (Ze (Za _))).one fun h_80 st => ?_
        refine Zb st 4 rfl rfl rfl (st.rdL 8 rfl (Ze (Za _))).one fun h_81 st => ?_
        refine Zb st 4 rfl rfl rfl (st.rdL 9 rfl (Ze (Za _))).one fun h_82 st => ?_
        dsimp only [List.set] at st
        exact hK h_82 v72_3 v77_5 v82_5 (pk st [3,4,5,6,7,8,9])
      ·refine Zz (st.rdL 2 rfl (Za _)).one ?_
       refine ZO st fun b76_5 h_83 xE st => ⟨xR_14.trans (ExtBut.of_ext xE), ?_⟩
       replace xR_14 := xR_14.trans (ExtBut.of_ext xE)
       refine ⟨?_, ?_⟩
       ·refine ZE (fun e => Or.elim e (fun e => stR_14.boxNe 4 7 rfl rfl e) (fun e => stR_14.boxNe 4 8 rfl rfl e)) ?_
        refine ldV_K (stR_14.cells 4 rfl) 1 rfl rfl ?_
        have st := st.pull 4 rfl
        dsimp only [List.eraseIdx] at st
        refine ZD st 8 rfl 1 rfl rfl rfl hx_14 fun v72_4 h_84 xE st => ⟨xR_14.trans (xE.mono fun _ e => .inl e), ?_⟩
        replace xR_14 := xR_14.trans (xE.mono fun _ e => .inl e)
        dsimp only [List.set] at st
        refine ⟨?_, ?_⟩
        ·refine ZE (fun e => Or.elim e (fun e => stR_14.boxNe 4 7 rfl rfl e) (fun e => stR_14.boxNe 4 8 rfl rfl e)) ?_
         refine ldV_K (stR_14.cells 4 rfl) 2 rfl rfl ?_
         have st := st.pull 3 rfl
         dsimp only [List.eraseIdx] at st
         refine ZD st 8 rfl 0 rfl rfl rfl hx_15 fun v77_6 h_85 xE st => ⟨xR_14.trans (xE.mono fun _ e => .inr e), ?_⟩
         replace xR_14 := xR_14.trans (xE.mono fun _ e => .inr e)
         dsimp only [List.set] at st
         refine Zz (st.rdL 2 rfl (Za _)).one ?_
         refine ZO st fun b81_6 h_86 xE st => ⟨xR_14.trans (ExtBut.of_ext xE), ?_⟩
         replace xR_14 := xR_14.trans (ExtBut.of_ext xE)
         refine ZE (fun e => Or.elim e (fun e => stR_14.boxNe 4 7 rfl rfl e) (fun e => stR_14.boxNe 4 8 rfl rfl e)) ?_
         refine ldV_K (stR_14.cells 4 rfl) 3 rfl rfl ?_
         have st := st.pull 3 rfl
         dsimp only [List.eraseIdx] at st
         refine ZD st 9 rfl 0 rfl rfl rfl hx_16 fun v82_6 h_87 xE st => ?_
         refine Zb st 4 rfl rfl rfl (st.rdL 7 rfl (Ze (Za _))).one fun h_88 st => ?_
         refine Zb st 4 rfl rfl rfl (st.rdL 8 rfl (Ze (Za _))).one fun h_89 st => ?_
         refine Zb st 4 rfl rfl rfl (st.rdL 9 rfl (Ze (Za _))).one fun h_90 st => ?_
         dsimp only [List.set] at st
         exact hK h_90 v72_4 v77_6 v82_6 (pk st [3,4,5,6,7,8,9])
        ·refine Zz (st.rdL 2 rfl (Za _)).one ?_
         refine ZO st fun b81_7 h_91 xE st => ⟨xR_14.trans (ExtBut.of_ext xE), ?_⟩
         replace xR_14 := xR_14.trans (ExtBut.of_ext xE)
         refine ZE (fun e => Or.elim e (fun e => stR_14.boxNe 4 7 rfl rfl e) (fun e => stR_14.boxNe 4 8 rfl rfl e)) ?_
         refine ldV_K (stR_14.cells 4 rfl) 2 rfl rfl ?_
         have st := st.pull 4 rfl
         dsimp only [List.eraseIdx] at st
         refine ZD st 9 rfl 1 rfl rfl rfl hx_15 fun v77_7 h_92 xE st => ⟨xR_14.trans (xE.mono fun _ e => .inr e), ?_⟩
         replace xR_14 := xR_14.trans (xE.mono fun _ e => .inr e)
         dsimp only [List.set] at st
         refine ZE (fun e => Or.elim e (fun e => stR_14.boxNe 4 7 rfl rfl e) (fun e => stR_14.boxNe 4 8 rfl rfl e)) ?_
         refine ldV_K (stR_14.cells 4 rfl) 3 rfl rfl ?_
         have st := st.pull 3 rfl
         dsimp only [List.eraseIdx] at st
         refine ZD st 9 rfl 0 rfl rfl rfl hx_16 fun v82_7 h_93 xE st => ?_
         refine Zb st 4 rfl rfl rfl (st.rdL 7 rfl (Ze (Za _))).one fun h_94 st => ?_
         refine Zb st 4 rfl rfl rfl (st.rdL 8 rfl (Ze (Za _))).one fun h_95 st => ?_
         refine Zb st 4 rfl rfl rfl (st.rdL 9 rfl (Ze (Za _))).one fun h_96 st => ?_
         dsimp only [List.set] at st
         exact hK h_96 v72_4 v77_7 v82_7 (pk st [3,4,5,6,7,8,9])
       ·refine Zz (st.rdL 2 rfl (Za _)).one ?_
        refine ZO st fun b81_8 h_97 xE st => ⟨xR_14.trans (ExtBut.of_ext xE), ?_⟩
        replace xR_14 := xR_14.trans (ExtBut.of_ext xE)
        refine ZE (fun e => Or.elim e (fun e => stR_14.boxNe 4 7 rfl rfl e) (fun e => stR_14.boxNe 4 8 rfl rfl e)) ?_
        refine ldV_K (stR_14.cells 4 rfl) 1 rfl rfl ?_
        have st := st.pull 5 rfl
        dsimp only [List.eraseIdx] at st
        refine ZD st 9 rfl 2 rfl rfl rfl hx_14 fun v72_5 h_98 xE st => ⟨xR_14.trans (xE.mono fun _ e => .inl e), ?_⟩
        replace xR_14 := xR_14.trans (xE.mono fun _ e => .inl e)
        dsimp only [List.set] at st
        refine ZE (fun e => Or.elim e (fun e => stR_14.boxNe 4 7 rfl rfl e) (fun e => stR_14.boxNe 4 8 rfl rfl e)) ?_
        refine ldV_K (stR_14.cells 4 rfl) 2 rfl rfl ?_
        have st := st.pull 4 rfl
        dsimp only [List.eraseIdx] at st
        refine ZD st 9 rfl 1 rfl rfl rfl hx_15 fun v77_8 h_99 xE st => ⟨xR_14.trans (xE.mono fun _ e => .inr e), ?_⟩
        replace xR_14 := xR_14.trans (xE.mono fun _ e => .inr e)
        dsimp only [List.set] at st
        refine ZE (fun e => Or.elim e (fun e => stR_14.boxNe 4 7 rfl rfl e) (fun e => stR_14.boxNe 4 8 rfl rfl e)) ?_
        refine ldV_K (stR_14.cells 4 rfl) 3 rfl rfl ?_
        have st := st.pull 3 rfl
        dsimp only [List.eraseIdx] at st
        refine ZD st 9 rfl 0 rfl rfl rfl hx_16 fun v82_8 h_100 xE st => ?_
        refine Zb st 4 rfl rfl rfl (st.rdL 7 rfl (Ze (Za _))).one fun h_101 st => ?_
        refine Zb st 4 rfl rfl rfl (st.rdL 8 rfl (Ze (Za _))).one fun h_102 st => ?_
        refine Zb st 4 rfl rfl rfl (st.rdL 9 rfl (Ze (Za _))).one fun h_103 st => ?_
        dsimp only [List.set] at st
        exact hK h_103 v72_5 v77_8 v82_8 (pk st [3,4,5,6,7,8,9])
      ·refine Zz (st.rdL 1 rfl (Za _)).one ?_
       refine ZO st fun b81_9 h_104 xE st => ⟨xR_14.trans (ExtBut.of_ext xE), ?_⟩
       replace xR_14 := xR_14.trans (ExtBut.of_ext xE)
       refine ⟨?_, ?_⟩
       ·refine ZE (fun e => Or.elim e (fun e => stR_14.boxNe 4 7 rfl rfl e) (fun e => stR_14.boxNe 4 8 rfl rfl e)) ?_
        refine ldV_K (stR_14.cells 4 rfl) 1 rfl rfl ?_
        have st := st.pull 4 rfl
        dsimp only [List.eraseIdx] at st
        refine ZD st 8 rfl 1 rfl rfl rfl hx_14 fun v72_6 h_105 xE st => ⟨xR_14.trans (xE.mono fun _ e => .inl e), ?_⟩
        replace xR_14 := xR_14.trans (xE.mono fun _ e => .inl e)
        dsimp only [List.set] at st
        refine Zz (st.rdL 3 rfl (Za _)).one ?_
        refine ZO st fun b76_6 h_106 xE st => ⟨xR_14.trans (ExtBut.of_ext xE), ?_⟩
        replace xR_14 := xR_14.trans (ExtBut.of_ext xE)
        refine ZE (fun e => Or.elim e (fun e => stR_14.boxNe 4 7 rfl rfl e) (fun e => stR_14.boxNe 4 8 rfl rfl e)) ?_
        refine ldV_K (stR_14.cells 4 rfl) 2 rfl rfl ?_
        have st := st.pull 4 rfl
        dsimp only [List.eraseIdx] at st
        refine ZD st 9 rfl 0 rfl rfl rfl hx_15 fun v77_9 h_107 xE st => ⟨xR_14.trans (xE.mono fun _ e => .inr e), ?_⟩
        replace xR_14 := xR_14.trans (xE.mono fun _ e => .inr e)
        dsimp only [List.set] at st
        refine ZE (fun e => Or.elim e (fun e => stR_14.boxNe 4 7 rfl rfl e) (fun e => stR_14.boxNe 4 8 rfl rfl e)) ?_
        refine ldV_K (stR_14.cells 4 rfl) 3 rfl rfl ?_
        have st := st.pull 3 rfl
        dsimp only [List.eraseIdx] at st
        refine ZD st 9 rfl 1 rfl rfl rfl hx_16 fun v82_9 h_108 xE st => ?_
        refine Zb st 4 rfl rfl rfl (st.rdL 7 rfl (Ze (Za _))).one fun h_109 st => ?_
        refine Zb st 4 rfl rfl rfl (st.rdL 8 rfl (Ze (Za _))).one fun h_110 st => ?_
        refine Zb st 4 rfl rfl rfl (st.rdL 9 rfl (Ze (Za _))).one fun h_111 st => ?_
        dsimp only [List.set] at st
        exact hK h_111 v72_6 v77_9 v82_9 (pk st [3,4,5,6,7,8,9])
       ·refine Zz (st.rdL 3 rfl (Za _)).one ?_
        refine ZO st fun b76_7 h_112 xE st => ⟨xR_14.trans (ExtBut.of_ext xE), ?_⟩
        replace xR_14 := xR_14.trans (ExtBut.of_ext xE)
        refine ZE (fun e => Or.elim e (fun e => stR_14.boxNe 4 7 rfl rfl e) (fun e => stR_14.boxNe 4 8 rfl rfl e)) ?_
        refine ldV_K (stR_14.cells 4 rfl) 1 rfl rfl ?_
        have st := st.pull 5 rfl
        dsimp only [List.eraseIdx] at st
        refine ZD st 9 rfl 2 rfl rfl rfl hx_14 fun v72_7 h_113 xE st => ⟨xR_14.trans (xE.mono fun _ e => .inl e), ?_⟩
        replace xR_14 := xR_14.trans (xE.mono fun _ e => .inl e)
        dsimp only [List.set] at st
        refine ZE (fun e => Or.elim e (fun e => stR_14.boxNe 4 7 rfl rfl e) (fun e => stR_14.boxNe 4 8 rfl rfl e)) ?_
        refine ldV_K (stR_14.cells 4 rfl) 2 rfl rfl ?_
        have st := st.pull 4 rfl
        dsimp only [List.eraseIdx] at st
        refine ZD st 9 rfl 0 rfl rfl rfl hx_15 fun v77_10 h_114 xE st => ⟨xR_14.trans (xE.mono fun _ e => .inr e), ?_⟩
        replace xR_14 := xR_14.trans (xE.mono fun _ e => .inr e)
        dsimp only [List.set] at st
        refine ZE (fun e => Or.elim e (fun e => stR_14.boxNe 4 7 rfl rfl e) (fun e => stR_14.boxNe 4 8 rfl rfl e)) ?_
        refine ldV_K (stR_14.cells 4 rfl) 3 rfl rfl ?_
        have st := st.pull 3 rfl
        dsimp only [List.eraseIdx] at st
        refine ZD st 9 rfl 1 rfl rfl rfl hx_16 fun v82_10 h_115 xE st => ?_
        refine Zb st 4 rfl rfl rfl (st.rdL 7 rfl (Ze (Za _))).one fun h_116 st => ?_
        refine Zb st 4 rfl rfl rfl (st.rdL 8 rfl (Ze (Za _))).one fun h_117 st => ?_
        refine Zb st 4 rfl rfl rfl (st.rdL 9 rfl (Ze (Za _))).one fun h_118 st => ?_
        dsimp only [List.set] at st
        exact hK h_118 v72_7 v77_10 v82_10 (pk st [3,4,5,6,7,8,9])
     ·refine Zz (st.rdL 1 rfl (Za _)).one ?_
      refine ZO st fun b76_8 h_119 xE st => ⟨xR_14.trans (ExtBut.of_ext xE), ?_⟩
      replace xR_14 := xR_14.trans (ExtBut.of_ext xE)
      refine ⟨?_, ?_⟩
      ·refine Zz (st.rdL 3 rfl (Za _)).one ?_
       refine ZO st fun b71_4 h_120 xE st => ⟨xR_14.trans (ExtBut.of_ext xE), ?_⟩
       replace xR_14 := xR_14.trans (ExtBut.of_ext xE)
       refine ⟨?_, ?_⟩
       ·refine ZE (fun e => Or.elim e (fun e => stR_14.boxNe 4 7 rfl rfl e) (fun e => stR_14.boxNe 4 8 rfl rfl e)) ?_
        refine ldV_K (stR_14.cells 4 rfl) 1 rfl rfl ?_
        have st := st.pull 4 rfl
        dsimp only [List.eraseIdx] at st
        refine ZD st 8 rfl 0 rfl rfl rfl hx_14 fun v72_8 h_121 xE st => ⟨xR_14.trans (xE.mono fun _ e => .inl e), ?_⟩
        replace xR_14 := xR_14.trans (xE.mono fun _ e => .inl e)
        dsimp only [List.set] at st
        refine ⟨?_, ?_⟩
        ·refine ZE (fun e => Or.elim e (fun e => stR_14.boxNe 4 7 rfl rfl e) (fun e => stR_14.boxNe 4 8 rfl rfl e)) ?_
         refine ldV_K (stR_14.cells 4 rfl) 2 rfl rfl ?_
         have st := st.pull 3 rfl
         dsimp only [List.eraseIdx] at st
         refine ZD st 8 rfl 1 rfl rfl rfl hx_15 fun v77_11 h_122 xE st => ⟨xR_14.trans (xE.mono fun _ e => .inr e), ?_⟩
         replace xR_14 := xR_14.trans (xE.mono fun _ e => .inr e)
         dsimp only [List.set] at st
         refine Zz (st.rdL 2 rfl (Za _)).one ?_
         refine ZO st fun b81_10 h_123 xE st => ⟨xR_14.trans (ExtBut.of_ext xE), ?_⟩
         replace xR_14 := xR_14.trans (ExtBut.of_ext xE)
         refine ZE (fun e => Or.elim e (fun e => stR_14.boxNe 4 7 rfl rfl e) (fun e => stR_14.boxNe 4 8 rfl rfl e)) ?_
         refine ldV_K (stR_14.cells 4 rfl) 3 rfl rfl ?_
         have st := st.pull 3 rfl
         dsimp only [List.eraseIdx] at st
         refine ZD st 9 rfl 0 rfl rfl rfl hx_16 fun v82_11 h_124 xE st => ?_
         refine Zb st 4 rfl rfl rfl (st.rdL 7 rfl (Ze (Za _))).one fun h_125 st => ?_
         refine Zb st 4 rfl rfl rfl (st.rdL 8 rfl (Ze (Za _))).one fun h_126 st => ?_
         refine Zb st 4 rfl rfl rfl (st.rdL 9 rfl (Ze (Za _))).one fun h_127 st => ?_
         dsimp only [List.set] at st
         exact hK h_127 v72_8 v77_11 v82_11 (pk st [3,4,5,6,7,8,9])
        ·refine Zz (st.rdL 2 rfl (Za _)).one ?_
         refine ZO st fun b81_11 h_128 xE st => ⟨xR_14.trans (ExtBut.of_ext xE), ?_⟩
         replace xR_14 := xR_14.trans (ExtBut.of_ext xE)
         refine ZE (fun e => Or.elim e (fun e => stR_14.boxNe 4 7 rfl rfl e) (fun e => stR_14.boxNe 4 8 rfl rfl e)) ?_
         refine ldV_K (stR_14.cells 4 rfl) 2 rfl rfl ?_
         have st := st.pull 4 rfl
         dsimp only [List.eraseIdx] at st
         refine ZD st 9 rfl 2 rfl rfl rfl hx_15 fun v77_12 h_129 xE st => ⟨xR_14.trans (xE.mono fun _ e => .inr e), ?_⟩
         replace xR_14 := xR_14.trans (xE.mono fun _ e => .inr e)
         dsimp only [List.set] at st
         refine ZE (fun e => Or.elim e (fun e => stR_14.boxNe 4 7 rfl rfl e) (fun e => stR_14.boxNe 4 8 rfl rfl e)) ?_
         refine ldV_K (stR_14.cells 4 rfl) 3 rfl rfl ?_
         have st := st.pull 3 rfl
         dsimp only [List.eraseIdx] at st
         refine ZD st 9 rfl 0 rfl rfl rfl hx_16 fun v82_12 h_130 xE st => ?_
         refine Zb st 4 rfl rfl rfl (st.rdL 7 rfl (Ze (Za _))).one fun h_131 st => ?_
         refine Zb st 4 rfl rfl rfl (st.rdL 8 rfl (Ze (Za _))).one fun h_132 st => ?_
         refine Zb st 4 rfl rfl rfl (st.rdL 9 rfl (Ze (Za _))).one fun h_133 st => ?_
         dsimp only [List.set] at st
         exact hK h_133 v72_8 v77_12 v82_12 (pk st [3,4,5,6,7,8,9])
       ·refine Zz (st.rdL 2 rfl (Za _)).one ?_
        refine ZO st fun b81_12 h_134 xE st => ⟨xR_14.trans (ExtBut.of_ext xE), ?_⟩
        replace xR_14 := xR_14.trans (ExtBut.of_ext xE)
        refine ZE (fun e => Or.elim e (fun e => stR_14.boxNe 4 7 rfl rfl e) (fun e => stR_14.boxNe 4 8 rfl rfl e)) ?_
        refine ldV_K (stR_14.cells 4 rfl) 1 rfl rfl ?_
        have st := st.pull 5 rfl
        dsimp only [List.eraseIdx] at st
        refine ZD st 9 rfl 1 rfl rfl rfl hx_14 fun v72_9 h_135 xE st => ⟨xR_14.trans (xE.mono fun _ e => .inl e), ?_⟩
        replace xR_14 := xR_14.trans (xE.mono fun _ e => .inl e)
        dsimp only [List.set] at st
        refine ZE (fun e => Or.elim e (fun e => stR_14.boxNe 4 7 rfl rfl e) (fun e => stR_14.boxNe 4 8 rfl rfl e)) ?_
        refine ldV_K (stR_14.cells 4 rfl) 2 rfl rfl ?_
        have st := st.pull 4 rfl
        dsimp only [List.eraseIdx] at st
        refine ZD st 9 rfl 2 rfl rfl rfl hx_15 fun v77_13 h_136 xE st => ⟨xR_14.trans (xE.mono fun _ e => .inr e), ?_⟩
        replace xR_14 := xR_14.trans (xE.mono fun _ e => .inr e)
        dsimp only [List.set] at st
        refine ZE (fun e => Or.elim e (fun e => stR_14.boxNe 4 7 rfl rfl e) (fun e => stR_14.boxNe 4 8 rfl rfl e)) ?_
        refine ldV_K (stR_14.cells 4 rfl) 3 rfl rfl ?_
        have st := st.pull 3 rfl
        dsimp only [List.eraseIdx] at st
        refine ZD st 9 rfl 0 rfl rfl rfl hx_16 fun v82_13 h_137 xE st => ?_
        refine Zb st 4 rfl rfl rfl (st.rdL 7 rfl (Ze (Za _))).one fun h_138 st => ?_
        refine Zb st 4 rfl rfl rfl (st.rdL 8 rfl (Ze (Za _))).one fun h_139 st => ?_
        refine Zb st 4 rfl rfl rfl (st.rdL 9 rfl (Ze (Za _))).one fun h_140 st => ?_
        dsimp only [List.set] at st
        exact hK h_140 v72_9 v77_13 v82_13 (pk st [3,4,5,6,7,8,9])
      ·refine Zz (st.rdL 1 rfl (Za _)).one ?_
       refine ZO st fun b81_13 h_141 xE st => ⟨xR_14.trans (ExtBut.of_ext xE), ?_⟩
       replace xR_14 := xR_14.trans (ExtBut.of_ext xE)
       refine Zz (st.rdL 4 rfl (Za _)).one ?_
       refine ZO st fun b71_5 h_142 xE st => ⟨xR_14.trans (ExtBut.of_ext xE), ?_⟩
       replace xR_14 := xR_14.trans (ExtBut.of_ext xE)
       refine ZE (fun e => Or.elim e (fun e => stR_14.boxNe 4 7 rfl rfl e) (fun e => stR_14.boxNe 4 8 rfl rfl e)) ?_
       refine ldV_K (stR_14.cells 4 rfl) 1 rfl rfl ?_
       have st := st.pull 5 rfl
       dsimp only [List.eraseIdx] at st
       refine ZD st 9 rfl 0 rfl rfl rfl hx_14 fun v72_10 h_143 xE st => ⟨xR_14.trans (xE.mono fun _ e => .inl e), ?_⟩
       replace xR_14 := xR_14.trans (xE.mono fun _ e => .inl e)
       dsimp only [List.set] at st
       refine ZE (fun e => Or.elim e (fun e => stR_14.boxNe 4 7 rfl rfl e) (fun e => stR_14.boxNe 4 8 rfl rfl e)) ?_
       refine ldV_K (stR_14.cells 4 rfl) 2 rfl rfl ?_
       have st := st.pull 4 rfl
       dsimp only [List.eraseIdx] at st
       refine ZD st 9 rfl 2 rfl rfl rfl hx_15 fun v77_14 h_144 xE st => ⟨xR_14.trans (xE.mono fun _ e => .inr e), ?_⟩
       replace xR_14 := xR_14.trans (xE.mono fun _ e => .inr e)
       dsimp only [List.set] at st
       refine ZE (fun e => Or.elim e (fun e => stR_14.boxNe 4 7 rfl rfl e) (fun e => stR_14.boxNe 4 8 rfl rfl e)) ?_
       refine ldV_K (stR_14.cells 4 rfl) 3 rfl rfl ?_
       have st := st.pull 3 rfl
       dsimp only [List.eraseIdx] at st
       refine ZD st 9 rfl 1 rfl rfl rfl hx_16 fun v82_14 h_145 xE st => ?_
       refine Zb st 4 rfl rfl rfl (st.rdL 7 rfl (Ze (Za _))).one fun h_146 st => ?_
       refine Zb st 4 rfl rfl rfl (st.rdL 8 rfl (Ze (Za _))).one fun h_147 st => ?_
       refine Zb st 4 rfl rfl rfl (st.rdL 9 rfl (Ze (Za _))).one fun h_148 st => ?_
       dsimp only [List.set] at st
       exact hK h_148 v72_10 v77_14 v82_14 (pk st [3,4,5,6,7,8,9])
     ·refine Zz (st.rdL 0 rfl (Za _)).one ?_
      refine ZO st fun b81_14 h_149 xE st => ⟨xR_14.trans (ExtBut.of_ext xE), ?_⟩
      replace xR_14 := xR_14.trans (ExtBut.of_ext xE)
      refine ⟨?_, ?_⟩
      ·refine Zz (st.rdL 3 rfl (Za _)).one ?_
       refine ZO st fun b71_6 h_150 xE st => ⟨xR_14.trans (ExtBut.of_ext xE), ?_⟩
       replace xR_14 := xR_14.trans (ExtBut.of_ext xE)
       refine ⟨?_, ?_⟩
       ·refine ZE (fun e => Or.elim e (fun e => stR_14.boxNe 4 7 rfl rfl e) (fun e => stR_14.boxNe 4 8 rfl rfl e)) ?_
        refine ldV_K (stR_14.cells 4 rfl) 1 rfl rfl ?_
        have st := st.pull 4 rfl
        dsimp only [List.eraseIdx] at st
        refine ZD st 8 rfl 0 rfl rfl rfl hx_14 fun v72_11 h_151 xE st => ⟨xR_14.trans (xE.mono fun _ e => .inl e), ?_⟩
        replace xR_14 := xR_14.trans (xE.mono fun _ e => .inl e)
        dsimp only [List.set] at st
        refine Zz (st.rdL 3 rfl (Za _)).one ?_
        refine ZO st fun b76_9 h_152 xE st => ⟨xR_14.trans (ExtBut.of_ext xE), ?_⟩
        replace xR_14 := xR_14.trans (ExtBut.of_ext xE)
        refine ZE (fun e => Or.elim e (fun e => stR_14.boxNe 4 7 rfl rfl e) (fun e => stR_14.boxNe 4 8 rfl rfl e)) ?_
        refine ldV_K (stR_14.cells 4 rfl) 2 rfl rfl ?_
        have st := st.pull 4 rfl
        dsimp only [List.eraseIdx] at st
        refine ZD st 9 rfl 0 rfl rfl rfl hx_15 fun v77_15 h_153 xE st => ⟨xR_14.trans (xE.mono fun _ e => .inr e), ?_⟩
        replace xR_14 := xR_14.trans (xE.mono fun _ e => .inr e)
        dsimp only [List.set] at st
        refine ZE (fun e => Or.elim e (fun e => stR_14.boxNe 4 7 rfl rfl e) (fun e => stR_14.boxNe 4 8 rfl rfl e)) ?_
        refine ldV_K (stR_14.cells 4 rfl) 3 rfl rfl ?_
        have st := st.pull 3 rfl
        dsimp only [List.eraseIdx] at st
        refine ZD st 9 rfl 2 rfl rfl rfl hx_16 fun v82_15 h_154 xE st => ?_
        refine Zb st 4 rfl rfl rfl (st.rdL 7 rfl (Ze (Za _))).one fun h_155 st => ?_
        refine Zb st 4 rfl rfl rfl (st.rdL 8 rfl (Ze (Za _))).one fun h_156 st => ?_
        refine Zb st 4 rfl rfl rfl (st.rdL 9 rfl (Ze (Za _))).one fun h_157 st => ?_
        dsimp only [List.set] at st
        exact hK h_157 v72_11 v77_15 v82_15 (pk st [3,4,5,6,7,8,9])
       ·refine Zz (st.rdL 3 rfl (Za _)).one ?_
        refine ZO st fun b76_10 h_158 xE st => ⟨xR_14.trans (ExtBut.of_ext xE), ?_⟩
        replace xR_14 := xR_14.trans (ExtBut.of_ext xE)
        refine ZE (fun e => Or.elim e (fun e => stR_14.boxNe 4 7 rfl rfl e) (fun e => stR_14.boxNe 4 8 rfl rfl e)) ?_
        refine ldV_K (stR_14.cells 4 rfl) 1 rfl rfl ?_
        have st := st.pull 5 rfl
        dsimp only [List.eraseIdx] at st
        refine ZD st 9 rfl 1 rfl rfl rfl hx_14 fun v72_12 h_159 xE st => ⟨xR_14.trans (xE.mono fun _ e => .inl e), ?_⟩
        replace xR_14 := xR_14.trans (xE.mono fun _ e => .inl e)
        dsimp only [List.set] at st
        refine ZE (fun e => Or.elim e (fun e => stR_14.boxNe 4 7 rfl rfl e) (fun e => stR_14.boxNe 4 8 rfl rfl e)) ?_
        refine ldV_K (stR_14.cells 4 rfl) 2 rfl rfl ?_
        have st := st.pull 4 rfl
        dsimp only [List.eraseIdx] at st
        refine ZD st 9 rfl 0 rfl rfl rfl hx_15 fun v77_16 h_160 xE st => ⟨xR_14.trans (xE.mono fun _ e => .inr e), ?_⟩
        replace xR_14 := xR_14.trans (xE.mono fun _ e => .inr e)
        dsimp only [List.set] at st
        refine ZE (fun e => Or.elim e (fun e => stR_14.boxNe 4 7 rfl rfl e) (fun e => stR_14.boxNe 4 8 rfl rfl e)) ?_
        refine ldV_K (stR_14.cells 4 rfl) 3 rfl rfl ?_
        have st := st.pull 3 rfl
        dsimp only [List.eraseIdx] at st
        refine ZD st 9 rfl 2 rfl rfl rfl hx_16 fun v82_16 h_161 xE st => ?_
        refine Zb st 4 rfl rfl rfl (st.rdL 7 rfl (Ze (Za _))).one fun h_162 st => ?_
        refine Zb st 4 rfl rfl rfl (st.rdL 8 rfl (Ze (Za _))).one fun h_163 st => ?_
        refine Zb st 4 rfl rfl rfl (st.rdL 9 rfl (Ze (Za _))).one fun h_164 st => ?_
        dsimp only [List.set] at st
        exact hK h_164 v72_12 v77_16 v82_16 (pk st [3,4,5,6,7,8,9])
      ·refine Zz (st.rdL 2 rfl (Za _)).one ?_
       refine ZO st fun b76_11 h_165 xE st => ⟨xR_14.trans (ExtBut.of_ext xE), ?_⟩
       replace xR_14 := xR_14.trans (ExtBut.of_ext xE)
       refine Zz (st.rdL 4 rfl (Za _)).one ?_
       refine ZO st fun b71_7 h_166 xE st => ⟨xR_14.trans (ExtBut.of_ext xE), ?_⟩
       replace xR_14 := xR_14.trans (ExtBut.of_ext xE)
       refine ZE (fun e => Or.elim e (fun e => stR_14.boxNe 4 7 rfl rfl e) (fun e => stR_14.boxNe 4 8 rfl rfl e)) ?_
       refine ldV_K (stR_14.cells 4 rfl) 1 rfl rfl ?_
       have st := st.pull 5 rfl
       dsimp only [List.eraseIdx] at st
       refine ZD st 9 rfl 0 rfl rfl rfl hx_14 fun v72_13 h_167 xE st => ⟨xR_14.trans (xE.mono fun _ e => .inl e), ?_⟩
       replace xR_14 := xR_14.trans (xE.mono fun _ e => .inl e)
       dsimp only [List.set] at st
       refine ZE (fun e => Or.elim e (fun e => stR_14.boxNe 4 7 rfl rfl e) (fun e => stR_14.boxNe 4 8 rfl rfl e)) ?_
       refine ldV_K (stR_14.cells 4 rfl) 2 rfl rfl ?_
       have st := st.pull 4 rfl
       dsimp only [List.eraseIdx] at st
       refine ZD st 9 rfl 1 rfl rfl rfl hx_15 fun v77_17 h_168 xE st => ⟨xR_14.trans (xE.mono fun _ e => .inr e), ?_⟩
       replace xR_14 := xR_14.trans (xE.mono fun _ e => .inr e)
       dsimp only [List.set] at st
       refine ZE (fun e => Or.elim e (fun e => stR_14.boxNe 4 7 rfl rfl e) (fun e => stR_14.boxNe 4 8 rfl rfl e)) ?_
       refine ldV_K (stR_14.cells 4 rfl) 3 rfl rfl ?_
       have st := st.pull 3 rfl
       dsimp only [List.eraseIdx] at st
       refine ZD st 9 rfl 2 rfl rfl rfl hx_16 fun v82_17 h_169 xE st => ?_
       refine Zb st 4 rfl rfl rfl (st.rdL 7 rfl (Ze (Za _))).one fun h_170 st => ?_
       refine Zb st 4 rfl rfl rfl (st.rdL 8 rfl (Ze (Za _))).one fun h_171 st => ?_
       refine Zb st 4 rfl rfl rfl (st.rdL 9 rfl (Ze (Za _))).one fun h_172 st => ?_
       dsimp only [List.set] at st
       exact hK h_172 v72_13 v77_17 v82_17 (pk st [3,4,5,6,7,8,9])
  ·refine ⟨fun _ => False, ?_⟩
   have stR_6 := st
   have xR_6 := ExtH.refl h_13
   refine ⟨?_, ?_, ?_⟩
   ·refine ZA ?_
    refine ldI_K (stR_6.cells 1 rfl) 0 rfl rfl ?_
    refine Zai (E := eI) st rfl hx_3 fun v24_3 h_20 xE st => ⟨ExtBut.of_ext (xR_6.trans xE), ?_⟩
    replace xR_6 := xR_6.trans xE
    refine ⟨?_, ?_⟩
    ·refine ZA ?_
     refine ldI_K (stR_6.cells 1 rfl) 0 rfl rfl ?_
     refine Zai (E := eI) st rfl hx_4 fun v27_3 h_21 xE st => ⟨ExtBut.of_ext (xR_6.trans xE), ?_⟩
     replace xR_6 := xR_6.trans xE
     refine ZA ?_
     refine ldI_K (stR_6.cells 1 rfl) 0 rfl rfl ?_
     refine Zai (E := eI) st rfl hx_5 fun v30_3 h_22 xE st => ⟨ExtBut.of_ext (xR_6.trans xE), ?_⟩
     replace xR_6 := xR_6.trans xE
     exact hK v24_3 v27_3 v30_3 h_22 (pk st [0,1,2,3,4,5,6,7,8,9])
    ·refine ZA ?_
     refine ldI_K (stR_6.cells 1 rfl) 0 rfl rfl ?_
     refine Zai (E := eI) st rfl hx_5 fun v30_4 h_23 xE st => ⟨ExtBut.of_ext (xR_6.trans xE), ?_⟩
     replace xR_6 := xR_6.trans xE
     refine ZA ?_
     refine ldI_K (stR_6.cells 1 rfl) 0 rfl rfl ?_
     refine Zai (E := eI) st rfl hx_4 fun v27_4 h_24 xE st => ⟨ExtBut.of_ext (xR_6.trans xE), ?_⟩
     replace xR_6 := xR_6.trans xE
     exact hK v24_3 v27_4 v30_4 h_24 (pk st [1,0,2,3,4,5,6,7,8,9])
   ·refine ZA ?_
    refine ldI_K (stR_6.cells 1 rfl) 0 rfl rfl ?_
    refine Zai (E := eI) st rfl hx_4 fun v27_5 h_25 xE st => ⟨ExtBut.of_ext (xR_6.trans xE), ?_⟩
    replace xR_6 := xR_6.trans xE
    refine ⟨?_, ?_⟩
    ·refine ZA ?_
     refine ldI_K (stR_6.cells 1 rfl) 0 rfl rfl ?_
     refine Zai (E := eI) st rfl hx_3 fun v24_4 h_26 xE st => ⟨ExtBut.of_ext (xR_6.trans xE), ?_⟩
     replace xR_6 := xR_6.trans xE
     refine ZA ?_
     refine ldI_K (stR_6.cells 1 rfl) 0 rfl rfl ?_
     refine Zai (E := eI) st rfl hx_5 fun v30_5 h_27 xE st => ⟨ExtBut.of_ext (xR_6.trans xE), ?_⟩
     replace xR_6 := xR_6.trans xE
     exact hK v24_4 v27_5 v30_5 h_27 (pk st [0,2,1,3,4,5,6,7,8,9])
    ·refine ZA ?_
     refine ldI_K (stR_6.cells 1 rfl) 0 rfl rfl ?_
     refine Zai (E := eI) st rfl hx_5 fun v30_6 h_28 xE st => ⟨ExtBut.of_ext (xR_6.trans xE), ?_⟩
     replace xR_6 := xR_6.trans xE
     refine ZA ?_
     refine ldI_K (stR_6.cells 1 rfl) 0 rfl rfl ?_
     refine Zai (E := eI) st rfl hx_3 fun v24_5 h_29 xE st => ⟨ExtBut.of_ext (xR_6.trans xE), ?_⟩
     replace xR_6 := xR_6.trans xE
     exact hK v24_5 v27_5 v30_6 h_29 (pk st [1,2,0,3,4,5,6,7,8,9])
   ·refine ZA ?_
    refine ldI_K (stR_6.cells 1 rfl) 0 rfl rfl ?_
    refine Zai (E := eI) st rfl hx_5 fun v30_7 h_30 xE st => ⟨ExtBut.of_ext (xR_6.trans xE), ?_⟩
    replace xR_6 := xR_6.trans xE
    refine ⟨?_, ?_⟩
    ·refine ZA ?_
     refine ldI_K (stR_6.cells 1 rfl) 0 rfl rfl ?_
     refine Zai (E := eI) st rfl hx_3 fun v24_6 h_31 xE st => ⟨ExtBut.of_ext (xR_6.trans xE), ?_⟩
     replace xR_6 := xR_6.trans xE
     refine ZA ?_
     refine ldI_K (stR_6.cells 1 rfl) 0 rfl rfl ?_
     refine Zai (E := eI) st rfl hx_4 fun v27_6 h_32 xE st => ⟨ExtBut.of_ext (xR_6.trans xE), ?_⟩
     replace xR_6 := xR_6.trans xE
     exact hK v24_6 v27_6 v30_7 h_32 (pk st [2,0,1,3,4,5,6,7,8,9])
    ·refine ZA ?_
     refine ldI_K (stR_6.cells 1 rfl) 0 rfl rfl ?_
     refine Zai (E := eI) st rfl hx_4 fun v27_7 h_33 xE st => ⟨ExtBut.of_ext (xR_6.trans xE), ?_⟩
     replace xR_6 := xR_6.trans xE
     refine ZA ?_
     refine ldI_K (stR_6.cells 1 rfl) 0 rfl rfl ?_
     refine Zai (E := eI) st rfl hx_3 fun v24_7 h_34 xE st => ⟨ExtBut.of_ext (xR_6.trans xE), ?_⟩
     replace xR_6 := xR_6.trans xE
     exact hK v24_7 v27_7 v30_7 h_34 (pk st [2,1,0,3,4,5,6,7,8,9])
 ·refine bI st 1 0 ?_
  refine bV st 1 1 ?_
  refine bV st 1 2 ?_
  refine bV st 1 3 ?_
  refine bV st 1 4 ?_
  refine Zb st 2 rfl rfl rfl rfl fun h_173 st => ?_
  refine Zb st 2 rfl rfl rfl (st.rdL 4 rfl (Ze (Za _))).one fun h_174 st => ?_
  refine Zb st 2 rfl rfl rfl (st.rdL 5 rfl (Ze (Za _))).one fun h_175 st => ?_
  refine Zb st 2 rfl rfl rfl (st.rdL 6 rfl (Ze (Za _))).one fun h_176 st => ?_
  refine Zb st 2 rfl rfl rfl (st.rdL 0 rfl (Za _)).one fun h_177 st => ?_
  dsimp only [List.set] at st
  refine bI st 2 0 ?_
  refine bV st 2 1 ?_
  refine bV st 2 2 ?_
  refine bV st 2 3 ?_
  refine bV st 2 4 ?_
  obtain rfl := oI hp
  obtain rfl := oI hs
  exact ⟨v_3, v_4, v_5, v14, rfl, pk st [4,5,6,0]⟩
theorem Zwk {row0 v0 y1 p1 r} (hp : ZcD row0 y1 = some r) (f0 : SlC (hcell h) eI v0 row0) (ck1 : CellsC (hcell h) p1 [.int .i64 y1]) : zR Zkm #[v0, .pointer (some p1)] h ψ (.bool r) := by
 apply ZtP
 rw [ZcD] at hp
 have st := S.start hψ
 refine kI ck1 st.le 0 ?_
 refine ixI (f0.mono st.le) hp fun e6 hp => ?_
 exact tZ
end
theorem r2_impl_arithmetic_addTimes {ψ : CM} {h0 h : Heap} {os : List Ob} {t0 : Z9} {v0_1 v0_2 v0_3 v0_4 : Value} {xss : List (List Int)} {v u w : Value} {ps : List (Nat × Value)} {i j : Int} {xs ys : List Int} {factor3 : Int} {r : List Int} (hp : Zfu t0 xs ys factor3 = some r) (st : S ψ h0 h (.it (El.pins eI ps) [v] xss :: os))
    (n1 : Nat) (h1 : ps[n1]? = some (i.toNat, u)) (n2 : Nat) (h2 : ps[n2]? = some (j.toNat, w)) (hne : i ≠ j) (hx1 : gIdx xss i = some xs) (hx2 : gIdx xss j = some ys) (f0_1 : SlC (UB ψ h0) eL v0_1 t0.qadd) (f0_2 : SlC (UB ψ h0) eL v0_2 t0.qsub) (f0_3 : SlC (UB ψ h0) eL v0_3 t0.qmul) (f0_4 : SlC (UB ψ h0) eI v0_4 t0.qinv) :
    CallsH P ZjS #[.agg #[.int .i64 t0.qq, v0_1, v0_2, v0_3, v0_4], u, w, .int .i64 factor3] h (fun v' h' => v' = .tuple #[] ∧ S ψ h0 h' (.it (El.pins eI ps) [v] (xss.set i.toNat r) :: os)) := by
  apply Ztp
  rw [Zfu] at hp
  obtain ⟨i0, i1⟩ := Zar hx1
  obtain ⟨j0, j1⟩ := Zar hx2
  have key : ∀ zs : List Int, gIdx (xss.set i.toNat zs) i = some zs ∧ gIdx (xss.set i.toNat zs) j = some ys := fun zs => by
    unfold gIdx
    rw [if_pos i0, if_pos j0, List.getElem?_set_self (ZL i1), List.getElem?_set_ne (by omega)]
    exact ⟨rfl, j1⟩
  have same : xss.set i.toNat xs = xss := by
    apply List.ext_getElem?
    intro k
    rw [List.getElem?_set]
    split
    · rename_i e; subst e; rw [if_pos (ZL i1), i1]
    · rfl
  refine new_S st fun b4 h_2 st => ?_
  refine ZC (st.rowP 1 rfl n2 h2 hx2 (Za _)) ?_
  obtain ⟨n_2, hn⟩ := Zy hp
  refine ⟨fun n y12 h_3 => ∃ zs : List Int, S ψ h0 h_3 (.box b4 [.int .i64 t0.qq, v0_1, v0_2, v0_3, v0_4] :: .it (El.pins eI ps) [v] (xss.set i.toNat zs) :: os) ∧ loopN (Zdp t0 ys factor3) n (y12, zs) = some r, ⟨n_2, xs, by rw [same]; exact st, hn⟩, ?_⟩
  rintro n _ y12 h_3 ⟨zs, st, hn⟩
  obtain ⟨m, a, rfl, hp, hs⟩ := Zw hn
  rw [Zdp] at hp
  obtain ⟨k1, k2⟩ := key zs
  refine bifP hp (fun hc hp => ?_) (fun hc hp => ?_)
  · obtain ⟨e15, hx, hp⟩ := obind hp
    refine ZaR (st.rowP 1 rfl n2 h2 k2 (Za _)) hx fun p15 ad => ?_
    refine ldI_C (st.rowP 1 rfl n2 h2 k2 (Za _)) ad hx ?_
    refine ldV_K (st.cells 0 rfl) 1 rfl rfl ?_
    obtain ⟨e23, hx_2, hp⟩ := obind hp
    refine ZaR (st.rowP 1 rfl n1 h1 k1 (Za _)) hx_2 fun p23 ad_2 => ?_
    refine ldI_C (st.rowP 1 rfl n1 h1 k1 (Za _)) ad_2 hx_2 ?_
    obtain ⟨e25, hx_3, hp⟩ := obind hp
    refine ZaR (f0_1.mono st.leU) hx_3 fun p25 ad_3 => ?_
    refine ldV_C f0_1 st.leU ad_3 hx_3 fun u26 f => ?_
    refine ldV_K (st.cells 0 rfl) 3 rfl rfl ?_
    obtain ⟨e30, hx_4, hp⟩ := obind hp
    refine ZaR (f0_3.mono st.leU) hx_4 fun p30 ad_4 => ?_
    refine ldV_C f0_3 st.leU ad_4 hx_4 fun u31 f_2 => ?_
    obtain ⟨e33, hx_5, hp⟩ := obind hp
    refine ZaR (f_2.mono st.leU) hx_5 fun p33 ad_5 => ?_
    refine ldI_C (f_2.mono st.leU) ad_5 hx_5 ?_
    obtain ⟨e35, hx_6, hp⟩ := obind hp
    refine ZaR (f.mono st.leU) hx_6 fun p35 ad_6 => ?_
    refine ldI_C (f.mono st.leU) ad_6 hx_6 ?_
    obtain ⟨e37, hx_7, hp⟩ := obind hp
    refine ZaR (st.rowP 1 rfl n1 h1 k1 (Za _)) hx_7 fun p37 ad_7 => ?_
    refine ZnO st 1 rfl n1 h1 k1 ad_7 hx_7 rfl (fun _ => ⟨rfl, rfl⟩) fun h_4 st => ?_
    dsimp only [List.set] at st
    rw [List.set_set] at st
    obtain rfl := oI hp
    exact ⟨m, Nat.lt_succ_self _, _, st, hs⟩
  · obtain rfl := oI hp
    obtain rfl := oI hs
    exact ⟨rfl, st.pickT 2 [1] (by decide) (by decide)⟩
section
variable {ψ : CM} {h : Heap} (hψ : CLe ψ (hcell h))
include hψ
theorem Zud {y0 v0_1 v0_2 v0_3 v0_4 y1 v1 r} (hp : Zea y0 y1 = some r) (f0_1 : SlC (hcell h) eL v0_1 y0.qadd) (f0_2 : SlC (hcell h) eL v0_2 y0.qsub) (f0_3 : SlC (hcell h) eL v0_3 y0.qmul) (f0_4 : SlC (hcell h) eI v0_4 y0.qinv) (f1 : SlC (hcell h) eL v1 y1) : CallsH P Zlp #[.agg #[.int .i64 y0.qq, v0_1, v0_2, v0_3, v0_4], v1] h (fun v h' => ∃ w0 : Value, ∃ w1 : Value, v = .tuple #[w0, w1, .int .i64 r.2.2] ∧ S ψ h h' [.it (El.ow oL) [w0] r.1, .it oL [w1] r.2.1]) := by
 apply Zvj
 rw [Zea] at hp
 have st := S.start hψ
 refine new_S st fun b2 h_2 st => ?_
 refine cl1 hp st (fun s _ _ hx => Zd1 s.fle hx (f1.mono st.le)) fun r19 v19 h_3 st hp => ⟨_, rfl, ?_⟩
 refine ⟨fun v8 y9 h_4 => ∃ y8 : List Int, ∃ xs : List (List Int), S ψ h h_4 [.it (El.ow oL) [v19] xs, .box b2 [.int .i64 y0.qq, v0_1, v0_2, v0_3, v0_4], .it oL [v8] y8] ∧ ZcH y8 y9 xs = some r, ?_, ?_⟩
 ·refine new_S st fun b10 h_5 st => ?_
  refine Zb st 0 rfl rfl rfl rfl fun h_6 st => ?_
  dsimp only [List.set] at st
  have st := st.nilO (E := eI)
  obtain ⟨n_6, hn⟩ := Zy hp
  refine ⟨fun n v8_2 y9_2 p10 h_7 => ∃ y8_2 : List Int, ∃ b10_2 : Nat, ∃ y10 : Int, ∃ xs_2 : List (List Int), S ψ h h_7 [.it oL [v8_2] y8_2, .box b10_2 [.int .i64 y10], .it (El.ow oL) [v19] xs_2, .box b2 [.int .i64 y0.qq, v0_1, v0_2, v0_3, v0_4]] ∧ p10 = ⟨b10_2, 0, none⟩ ∧ loopN (ZaX y0) n (y8_2, y9_2, y10, xs_2) = some r, ⟨n_6, _, _, _, _, pk st [0,1,2,3], rfl, hn⟩, ?_⟩
  rintro n _ v8_2 y9_2 p10 h_7 ⟨y8_2, b10_2, y10, xs_2, st, rfl, hn⟩
  obtain ⟨m, a, rfl, hp, hs⟩ := Zw hn
  rw [ZaX] at hp
  refine ⟨fun h_8 => S ψ h h_8 [.it oL [v8_2] y8_2, .box b10_2 [.int .i64 y10], .it (El.ow oL) [v19] xs_2, .box b2 [.int .i64 y0.qq, v0_1, v0_2, v0_3, v0_4]] ∧ Zdc y0 y8_2 y9_2 y10 xs_2 = some a, ?_, ?_⟩
  ·refine ZC (st.rdL 2 rfl (Ze (Za _))) ?_
   refine brQ hp (fun hp => ?_) fun hp => ?_
   ·refine bI st 1 0 ?_
    refine ixA (st.rdL 2 rfl (Ze (Za _))) hp fun e26 p26 ad_24 hx_32 hp => ?_
    refine Zct st 2 rfl ad_24 hx_32 fun u27 hd_4 => ?_
    refine ZC (st.rowC 2 rfl hd_4 hx_32 (Za _)) ?_
    refine brQ hp (fun hp => ?_) fun hp => ?_
    ·exact ⟨pk st [0,1,2,3], hp⟩
    ·obtain ⟨xm, hq, rfl⟩ := omap hp
     obtain rfl := oI hs
     exact ⟨_, _, pk st [2,3,0], hq⟩
   ·obtain ⟨xm, hq, rfl⟩ := omap hp
    obtain rfl := oI hs
    exact ⟨_, _, pk st [2,3,0], hq⟩
  ·rintro _ h_8 ⟨st, hp⟩
   rw [Zdc] at hp
   refine ⟨fun v8_3 y9_3 h_9 => ∃ y8_3 : List Int, ∃ xs_3 : List (List Int), S ψ h h_9 [.it oL [v8_3] y8_3, .box b10_2 [.int .i64 y10], .it (El.ow oL) [v19] xs_3, .box b2 [.int .i64 y0.qq, v0_1, v0_2, v0_3, v0_4]] ∧ Zd5 y10 y8_3 y9_3 xs_3 = some a, ?_, ?_⟩
   ·refine ZC (st.rdL 0 rfl (Za _)) ?_
    obtain ⟨l37, hx_3, hp⟩ := obind hp
    refine ZtD (some (y8_2.length : Int)) none (st.rdL 2 rfl (Ze (Za _))) hx_3 fun v37 hv => ?_
    refine cl0 hp st (fun s_2 _ _ hx_4 => Zmx s_2.fle hx_4 (hv.C (st.rdL 2 rfl (Ze (Za _))) hx_3 rfl) (by kernel_rfl) (fun hx1 => fun hψ1 => fun hp1 ff0 => Zwk hψ1 hp1 ff0 ((st.cells 1 rfl).mono (CLe.ext hx1)))) fun r39 h_13 st hp => ⟨_, rfl, ?_⟩
    refine brQ hp (fun hp => ?_) fun hp => ?_
    ·exact ⟨_, _, pk st [0,1,2,3], hp⟩
    ·refine ⟨fun y9_4 h_14 => ∃ xs_4 : List (List Int), S ψ h h_14 [.it oL [v8_2] y8_2, .box b10_2 [.int .i64 y10], .it (El.ow oL) [v19] xs_4, .box b2 [.int .i64 y0.qq, v0_1, v0_2, v0_3, v0_4]] ∧ Zdt y0 y8_2 y10 y9_4 xs_4 = some a, ?_, ?_⟩
     ·refine brQ hp (fun hp => ?_) fun hp => ?_
      ·refine ixA (st.rdL 2 rfl (Ze (Za _))) hp fun e54 p54 ad_18 hx_26 hp => ?_
       refine Zct st 2 rfl ad_18 hx_26 fun u55 hd_2 => ?_
       refine ixA (st.rdL 2 rfl (Ze (Za _))) hp fun e58 p58 ad_19 hx_27 hp => ?_
       refine Zct st 2 rfl ad_19 hx_27 fun u59 hd_3 => ?_
       refine ixA (st.rdL 2 rfl (Ze (Za _))) hp fun e60 p60 ad_20 hx_28 hp => ?_
       obtain ⟨e61, hx_29, hp⟩ := obind hp
       refine Zrx st 2 rfl rfl hx_27 hx_26 hd_3 hd_2 ad_20 hx_29 fun h_22 st => ?_
       dsimp only [List.set] at st
       refine bV st 3 2 ?_
       refine ixV f0_2 st.le hp fun e64 u65 f_4 hp => ?_
       refine ixI (f_4.mono st.le) hp fun e67 hp => ?_
       exact ⟨_, pk st [0,1,2,3], hp⟩
      ·exact ⟨_, pk st [0,1,2,3], hp⟩
     ·rintro _ y9_4 h_14 ⟨xs_4, st, hp⟩
      rw [Zdt] at hp
      refine ixA (st.rdL 2 rfl (Ze (Za _))) hp fun e71 p71 ad hx_5 hp => ?_
      refine Zct st 2 rfl ad hx_5 fun u72 hd => ?_
      refine bI st 1 0 ?_
      refine ixI (st.rowC 2 rfl hd hx_5 (Za _)) hp fun e74 hp => ?_
      refine bV st 3 3 ?_
      refine ixV f0_3 st.le hp fun e79 u80 f hp => ?_
      refine ixI (f.mono st.le) hp fun e82 hp => ?_
      refine ixA (st.rdL 2 rfl (Ze (Za _))) hp fun e86 p86 ad_5 hx_9 hp => ?_
      have st := st.pin0 2 rfl
      dsimp only [List.set] at st
      refine ZhL st 2 rfl ad_5 hx_9 fun u87 st => ?_
      dsimp only [List.set] at st
      refine ZC (st.rowP 2 rfl 0 rfl hx_9 (Za _)) ?_
      obtain ⟨n_5, hn_2⟩ := Zy hp
      refine ⟨fun n_2 y89 h_15 => ∃ xs_5 : List (List Int), S ψ h h_15 [.it oL [v8_2] y8_2, .box b10_2 [.int .i64 y10], .it (El.pins eI [(((y8_2.length : Int) : Int).toNat, u87)]) [v19] xs_5, .box b2 [.int .i64 y0.qq, v0_1, v0_2, v0_3, v0_4]] ∧ loopN (ZdF y0 y8_2 y10 e74 e82 e86) n_2 (y89, xs_5) = some a, ⟨n_5, _, pk st [0,1,2,3], hn_2⟩, ?_⟩
      rintro n_2 _ y89 h_15 ⟨xs_5, st, hn_2⟩
      obtain ⟨m_2, a_2, rfl, hp, hs_2⟩ := Zw hn_2
      rw [ZdF] at hp
      refine brQ hp (fun hp => ?_) fun hp => ?_
      ·obtain ⟨e, hx_10, hp⟩ := obind hp
       refine ixI (st.rowP 2 rfl 0 rfl hx_10 (Za _)) hp fun e92 hp => ?_
       refine ixA (st.rdP 2 rfl (Za _)) hp fun e96 p96 ad_7 hx_12 hp => ?_
       refine ZhL st 2 rfl ad_7 hx_12 fun u97 st => ?_
       dsimp only [List.set] at st
       refine bV st 3 3 ?_
       refine bV st 3 4 ?_
       refine ixI (f0_4.mono st.le) hp fun e104 hp => ?_
       refine ixV f0_3 st.le hp fun e106 u107 f_2 hp => ?_
       refine ixI (f_2.mono st.le) hp fun e109 hp => ?_
       refine ixA (st.rowP 2 rfl 0 rfl hx_12 (Za _)) hp fun e111 p111 ad_11 hx_16 hp => ?_
       refine ZnO st 2 rfl 0 rfl hx_12 ad_11 hx_16 rfl (fun _ => ⟨rfl, rfl⟩) fun h_16 st => ?_
       dsimp only [List.set] at st
       have st : S ψ h h_16 [.it oL [v8_2] y8_2, .box b10_2 [.int .i64 y10], .it (El.pins eI [(((y8_2.length : Int) : Int).toNat, u87)]) [v19] (xs_5.set ((y8_2.length : Int) : Int).toNat (e96.set (y89 : Int).toNat e109)), .box b2 [.int .i64 y0.qq, v0_1, v0_2, v0_3, v0_4]] := st.keepP 2 rfl [1]
       obtain rfl := oI hp
       exact ⟨m_2, ltS, _, pk st [0,1,2,3], hs_2⟩
      ·refine ZC (st.rdP 2 rfl (Za _)) ?_
       have st : S ψ h h_15 [.it oL [v8_2] y8_2, .box b10_2 [.int .i64 y10], .it (El.ow oL) [v19] xs_5, .box b2 [.int .i64 y0.qq, v0_1, v0_2, v0_3, v0_4]] := st.unpin 2 rfl
       obtain ⟨n_4, hn_3⟩ := Zy hp
       refine ⟨fun n_3 y115 h_17 => ∃ xs_6 : List (List Int), S ψ h h_17 [.it oL [v8_2] y8_2, .box b10_2 [.int .i64 y10], .it (El.ow oL) [v19] xs_6, .box b2 [.int .i64 y0.qq, v0_1, v0_2, v0_3, v0_4]] ∧ loopN (ZaZ y0 y8_2 y10 e82 xs_5) n_3 (y115, xs_6) = some a_2, ⟨n_4, _, pk st [0,1,2,3], hn_3⟩, ?_⟩
       rintro n_3 _ y115 h_17 ⟨xs_6, st, hn_3⟩
       obtain ⟨m_3, a_3, rfl, hp, hs_3⟩ := Zw hn_3
       rw [ZaZ] at hp
       refine brQ hp (fun hp => ?_) fun hp => ?_
       ·refine ixA (st.rdL 2 rfl (Ze (Za _))) hp fun e118 p118 ad_12 hx_17 hp => ?_
        have st := st.pin0 2 rfl
        dsimp only [List.set] at st
        refine ZhL st 2 rfl ad_12 hx_17 fun u119 st => ?_
        dsimp only [List.set] at st
        refine ⟨fun y129 h_18 => S ψ h h_18 [.it oL [v8_2] y8_2, .box b10_2 [.int .i64 y10], .it (El.pins eI [((y115 : Int).toNat, u119)]) [v19] xs_6, .box b2 [.int .i64 y0.qq, v0_1, v0_2, v0_3, v0_4]] ∧ ZbZ y0 y8_2 y10 y115 xs_6 e118 y129 = some a_3, ?_, ?_⟩
        ·refine brQ hp (fun hp => ?_) fun hp => ?_
         ·refine bI st 1 0 ?_
          refine ixI (st.rowP 2 rfl 0 rfl hx_17 (Za _)) hp fun e126 hp => ?_
          exact ⟨pk st [0,1,2,3], hp⟩
         ·exact ⟨pk st [0,1,2,3], hp⟩
        ·rintro _ y129 h_18 ⟨st, hp⟩
         rw [ZbZ] at hp
         refine brQ hp (fun hp => ?_) fun hp => ?_
         ·refine bI st 3 0 ?_
          refine bV st 3 1 ?_
          refine bV st 3 2 ?_
          refine bV st 3 3 ?_
          refine bV st 3 4 ?_
          refine ixA (st.rdP 2 rfl (Za _)) hp fun e134 p134 ad_13 hx_18 hp => ?_
          refine ZhL st 2 rfl ad_13 hx_18 fun u135 st => ?_
          dsimp only [List.set] at st
          refine bV st 3 2 ?_
          refine ixV f0_2 st.le hp fun e138 u139 f_3 hp => ?_
          refine bI st 1 0 ?_
          refine ixI (st.rowP 2 rfl 1 rfl hx_17 (Za _)) hp fun e142 hp => ?_
          refine ixI (f_3.mono st.le) hp fun e144 hp => ?_
          have st := st.pull 2 rfl
          dsimp only [List.eraseIdx] at st
          obtain ⟨ne146, hx_22, hp⟩ := obind hp
          obtain ⟨r146, hx_23, hp⟩ := obind hp
          obtain ⟨φ_3, L_3, s_3, r_4⟩ := id st
          refine (r2_impl_arithmetic_addTimes hx_23 (s_3.upS r_4) 1 rfl 0 rfl (Zqs hx_22) hx_17 hx_18 (f0_1.mono s_3.ubH) (f0_2.mono s_3.ubH) (f0_3.mono s_3.ubH) (f0_4.mono s_3.ubH)).mono fun v_4 h_19 ⟨eq_3, t_3⟩ => ⟨eq_3, ?_⟩
          replace st := s_3.downS t_3
          clear t_3 s_3 r_4
          have st : S ψ h h_19 [.it (El.ow oL) [v19] (xs_6.set (y115 : Int).toNat r146), .it oL [v8_2] y8_2, .box b10_2 [.int .i64 y10], .box b2 [.int .i64 y0.qq, v0_1, v0_2, v0_3, v0_4]] := st.unpin 0 rfl
          obtain rfl := oI hp
          exact ⟨m_3, ltS, _, pk st [1,2,0,3], hs_3⟩
         ·have st : S ψ h h_18 [.it oL [v8_2] y8_2, .box b10_2 [.int .i64 y10], .it (El.ow oL) [v19] xs_6, .box b2 [.int .i64 y0.qq, v0_1, v0_2, v0_3, v0_4]] := st.unpin 2 rfl
          obtain rfl := oI hp
          exact ⟨m_3, ltS, _, pk st [0,1,2,3], hs_3⟩
       ·refine bI st 1 0 ?_
        obtain ⟨l151, hx_25, hp⟩ := obind hp
        refine Zad st 0 rfl (fun _ => ⟨rfl, rfl⟩) rfl rfl hx_25 fun v151 h_20 st => ?_
        dsimp only [List.set] at st
        refine ZC (st.rdL 0 rfl (Za _)) ?_
        refine ZC (st.rdL 2 rfl (Ze (Za _))) ?_
        refine brQ hp (fun hp => ?_) fun hp => ?_
        ·obtain ⟨xm, hq, rfl⟩ := omap hp
         obtain rfl := oI hs_3
         obtain rfl := oI hs_2
         obtain rfl := oI hs
         exact ⟨_, _, pk st [2,3,0], hq⟩
        ·obtain ⟨xm, hq, rfl⟩ := omap hp
         obtain rfl := oI hs_3
         obtain rfl := oI hs_2
         exact ⟨_, _, pk st [0,1,2,3], hq⟩
   ·rintro _ v8_3 y9_3 h_9 ⟨y8_3, xs_3, st, hp⟩
    rw [Zd5] at hp
    refine bI st 1 0 ?_
    refine new_S st fun b10_3 h_10 st => ?_
    refine Zb st 0 rfl rfl rfl rfl fun h_11 st => ?_
    dsimp only [List.set] at st
    refine bI st 0 0 ?_
    refine Zb st 0 rfl rfl rfl rfl fun h_12 st => ?_
    dsimp only [List.set] at st
    obtain rfl := oI hp
    exact ⟨m, ltS, _, _, _, _, pk st [1,0,3,4], rfl, hs⟩
 ·rintro _ v8 y9 h_4 ⟨y8, xs, st, hp⟩
  rw [ZcH] at hp
  refine ZC (st.rdL 2 rfl (Za _)) ?_
  obtain ⟨l161, hx_2, hp⟩ := obind hp
  refine cut_S none (some (y8.length : Int)) st 0 rfl hx_2 rfl fun v161 st => ?_
  dsimp only [List.set] at st
  obtain rfl := oI hp
  exact ⟨v161, v8, rfl, pk st [0,2]⟩
theorem ZuX {s0 v0 s1 v1 r} (hp : ZfP s0 s1 = some r) (f0 : SlC (hcell h) eI v0 s0) (f1 : SlC (hcell h) eI v1 s1) : zR Zh3 #[v0, v1] h ψ (.bool r) := by
 apply Zsp
 rw [ZfP] at hp
 have st := S.start hψ
 refine vL f0 st.le ?_
 refine vL f1 st.le ?_
 refine brQ hp (fun hp => tZ) fun hp => ?_
 refine vL f0 st.le ?_
 refine lp1 hp (nlS st) fun m y13 h_2 a st hp hs => ?_
 rw [Zfh] at hp
 refine brR hp (fun hp => tZ) fun hp => ?_
 refine ixI (f0.mono st.le) hp fun e18 hp => ?_
 refine ixI (f1.mono st.le) hp fun e22 hp => ?_
 exact brQ hp (fun hp => tZ) fun hp => tZ
theorem ZvV {s0 : List (List Int)} {v0 : Value} {s1 : List (List Int)} {v1 : Value} {fn2 : (List Int) → (List Int) → Option Bool} {g2 : Nat} {cap2 : List Value} {r : Bool} (hp : Zg3 s0 s1 fn2 = some r) (f0 : SlC (hcell h) eL v0 s0) (f1 : SlC (hcell h) eL v1 s1) (o2 : ctx.okf g2 = true) (k2 : ∀ {h1 : Heap}, ExtH h h1 → ∀ {ψ1 : CM}, CLe ψ1 (hcell h1) → ∀ {y0 : List Int} {u0_0 : Value} {y1 : List Int} {u1_0 : Value} {r1 : Bool}, fn2 y0 y1 = some r1 → SlC (hcell h1) eI u0_0 y0 → SlC (hcell h1) eI u1_0 y1 → CallsH P g2 (([u0_0, u1_0] : List Value) ++ cap2).toArray h1 (fun v h' => v = .bool r1 ∧ S ψ1 h1 h' [])) : zR ZiE #[v0, v1, .func (.func g2) #[] cap2.toArray] h ψ (.bool r) := by
 apply ZvS
 rw [Zg3] at hp
 have st := S.start hψ
 refine vL f0 st.le ?_
 refine vL f1 st.le ?_
 refine brQ hp (fun hp => tZ) fun hp => ?_
 refine vL f0 st.le ?_
 refine lp1 hp (nlS st) fun m y17 h_2 a st hp hs => ?_
 rw [Zfl] at hp
 refine brR hp (fun hp => tZ) fun hp => ?_
 refine ixV f0 st.le hp fun e20 u21 f hp => ?_
 refine ixV f1 st.le hp fun e24 u25 f_2 hp => ?_
 obtain ⟨r29, hx_3, hp⟩ := obind hp
 obtain ⟨φ, L, s, r_2⟩ := id st
 refine Zd4 o2 ?_
 refine (k2 st.ext s.fle hx_3 (f.mono st.le) (f_2.mono st.le)).mono fun v_2 h_3 ⟨eq, t⟩ => ⟨_, eq, ?_⟩
 replace st := join0 s r_2 t
 clear t s r_2
 exact brQ hp (fun hp => tZ) fun hp => tZ
theorem ZqM {a0 v0 b1 v1 r} (hp : Zgd a0 b1 = some r) (f0 : SlC (hcell h) eL v0 a0) (f1 : SlC (hcell h) eL v1 b1) : zR Ziy #[v0, v1] h ψ (.bool r) := by
 apply ZtV
 rw [Zgd] at hp
 have st := S.start hψ
 refine cl0 hp st (fun s _ _ hx => ZvV s.fle hx (f0.mono st.le) (f1.mono st.le) (by kernel_rfl) (fun hx1 => fun hψ1 => fun hp1 ff0 ff1 => ZuX hψ1 hp1 ff0 ff1)) fun r7 h_2 st hp => ⟨_, rfl, ?_⟩
 exact tZ
theorem ZvD {c0 v0_2 v0_3 r} (hp : Zdx c0 = some r) (f0_2 : SlC (hcell h) eI v0_2 c0.Field.Poly) (f0_3 : SlC (hcell h) eL v0_3 c0.Rows) : zR Zj5 #[.agg #[.int .i64 c0.Field.Prime, .int .i64 c0.Field.Degree, v0_2, v0_3]] h ψ (.bool r) := by
 apply Ztt
 rw [Zdx] at hp
 have st := S.start hψ
 refine new_S st fun b1 h_2 st => ?_
 refine ⟨fun h_3 => S ψ h h_3 [.box b1 [.int .i64 c0.Field.Prime, .int .i64 c0.Field.Degree, v0_2, v0_3]] ∧ ZhR c0 = some r, ?_, ?_⟩
 ·refine ⟨fun _ => False, ?_⟩
  have stR_4 := st
  have xR_4 := ExtH.refl h_2
  refine bI st 0 0 ?_
  refine bI st 0 1 ?_
  refine bV st 0 2 ?_
  refine bV st 0 3 ?_
  obtain ⟨r10, hx_4, hp⟩ := obind hp
  obtain ⟨φ_4, L_4, s_4, r_5⟩ := id st
  refine (Zpe s_4.fle hx_4 (f0_2.mono st.le) (f0_3.mono st.le)).mono fun v_5 h_7 ⟨eq_4, t_4⟩ => ⟨_, eq_4, ExtBut.of_ext (xR_4.trans t_4.ext), ?_⟩
  replace xR_4 := xR_4.trans t_4.ext
  replace st := join0 s_4 r_5 t_4
  clear t_4 s_4 r_5
  refine brQ hp (fun hp => tZ) fun hp => ?_
  refine bV st 0 3 ?_
  refine vL f0_3 st.le ?_
  refine brQ hp (fun hp => tZ) fun hp => ?_
  refine bI st 0 0 ?_
  refine bI st 0 1 ?_
  refine bV st 0 2 ?_
  obtain ⟨r21, hx_5, hp⟩ := obind hp
  obtain ⟨φ_5, L_5, s_5, r_6⟩ := id st
  refine (ZlB s_5.fle hx_5 (f0_2.mono st.le)).mono fun v_6 h_8 ⟨eq_5, t_5⟩ => ⟨_, eq_5, ExtBut.of_ext (xR_4.trans t_5.ext), ?_⟩
  replace xR_4 := xR_4.trans t_5.ext
  replace st := join0 s_5 r_6 t_5
  clear t_5 s_5 r_6
  refine Z7 ?_
  refine ldV_K (stR_4.cells 0 rfl) 3 rfl rfl ?_
  refine cl0 hp st (fun s_6 _ _ hx_6 => ZcU s_6.fle hx_6 (f0_3.mono st.le)) fun r24 h_9 st hp => ⟨_, rfl, ?_⟩
  refine cl0 hp st (fun s_7 _ _ hx_7 => ZgE s_7.fle hx_7) fun r25 h_10 st hp => ⟨_, rfl, ?_⟩
  refine brQ hp (fun hp => tZ) fun hp => ?_
  exact ⟨pk st [0], hp⟩
 ·rintro _ h_3 ⟨st, hp⟩
  rw [ZhR] at hp
  refine ⟨fun _ => False, ?_⟩
  have stR_2 := st
  have xR_2 := ExtH.refl h_3
  refine bI st 0 0 ?_
  refine bI st 0 1 ?_
  refine bV st 0 2 ?_
  obtain ⟨r31, hx, hp⟩ := obind hp
  obtain ⟨φ, L, s, r_2⟩ := id st
  refine (Zwe s.fle hx (f0_2.mono st.le)).mono fun v_2 h_4 ⟨v31, v31_2, v31_3, v31_4, eq, t⟩ => ⟨_, _, _, _, _, eq, ExtBut.of_ext (xR_2.trans t.ext), ?_⟩
  replace xR_2 := xR_2.trans t.ext
  replace st := join4 s r_2 t
  clear t s r_2
  have st := st.freeze 0 rfl (Ze (Ze (Za _)))
  dsimp only [List.set] at st
  have st := st.freeze 1 rfl (Ze (Ze (Za _)))
  dsimp only [List.set] at st
  have st := st.freeze 2 rfl (Ze (Ze (Za _)))
  dsimp only [List.set] at st
  refine Z7 ?_
  refine ldV_K (stR_2.cells 0 rfl) 3 rfl rfl ?_
  refine cl2 hp st (fun s_2 _ _ hx_2 => Zud s_2.fle hx_2 (st.rdF 0 rfl) (st.rdF 1 rfl) (st.rdF 2 rfl) (st.rdL 3 rfl (Za _)) (f0_3.mono st.le)) fun r34 v34 v34_2 h_5 st hp => ⟨_, _, _, rfl, ?_⟩
  have st := st.freeze 0 rfl (Ze (Ze (Za _)))
  dsimp only [List.set] at st
  refine bV st 6 3 ?_
  refine cl0 hp st (fun s_3 _ _ hx_3 => ZqM s_3.fle hx_3 (st.rdF 0 rfl) (f0_3.mono st.le)) fun r41 h_6 st hp => ⟨_, rfl, ?_⟩
  exact tZ
theorem ZoX {n0 r} (hp : Zbe n0 = some r)  : zR Zko #[.int .i64 n0] h ψ (.tuple #[.int .i64 r.1, .int .i64 r.2]) := by
 apply ZpZ
 rw [Zbe] at hp
 have st := S.start hψ
 refine cl1 hp st (fun s _ _ hx => Zmt s.fle hx) fun r8 v8 h_2 st hp => ⟨_, rfl, ?_⟩
 refine ZC (st.rdL 0 rfl (Za _)) ?_
 refine lp1 (os := [.it oL [v8] r8]) hp (pk st [0]) fun m y11 h_3 a st hp hs => ?_
 rw [Za2] at hp
 refine brQ hp (fun hp => ?_) fun hp => ?_
 ·refine ixI (st.rdL 0 rfl (Za _)) hp fun e13 hp => ?_
  refine ixI (st.rdL 0 rfl (Za _)) hp fun e17 hp => ?_
  refine brQ hp (fun hp => tZ) fun hp => ?_
  obtain rfl := oI hp
  exact ⟨m, ltS, pk st [0], hs⟩
 ·refine ZC (st.rdL 0 rfl (Za _)) ?_
  refine brQ hp (fun hp => tZ) fun hp => ?_
  refine ⟨fun _ => False, ?_⟩
  have stR_11 := st
  have xR_11 := ExtH.refl h_3
  obtain ⟨r28, hx_4, hp⟩ := obind hp
  obtain ⟨φ_2, L_2, s_2, r_3⟩ := id st
  refine (ZaY s_2.fle hx_4 (st.rdL 0 rfl (Za _))).mono fun v_3 h_4 ⟨eq_2, t_2⟩ => ⟨_, eq_2, ExtBut.of_ext (xR_11.trans t_2.ext), ?_⟩
  replace xR_11 := xR_11.trans t_2.ext
  replace st := join0 s_2 r_3 t_2
  clear t_2 s_2 r_3
  refine ixA (st.rdL 0 rfl (Za _)) hp fun e25 p25 ad_3 hx_5 hp => ?_
  refine ZA ?_
  refine ldI_C (stR_11.rdL 0 rfl (Za _)) ad_3 hx_5 ?_
  exact tZ
theorem ZtB {q0 r} (hp : ZaU q0 = some r)  : CallsH P ZkH #[.int .i64 q0] h (fun v h' => ∃ w0 : Value, v = .tuple #[.agg #[.int .i64 r.1.Prime, .int .i64 r.1.Degree, w0], .int .i64 r.2] ∧ S ψ h h' [.it oL [w0] r.1.Poly]) := by
 apply ZvE
 rw [ZaU] at hp
 have st := S.start hψ
 refine new_S st fun b2 h_2 st => ?_
 refine cl0 hp st (fun s _ _ hx => ZoX s.fle hx) fun r9 h_3 st hp => ⟨_, _, rfl, ?_⟩
 refine ⟨fun h_4 => S ψ h h_4 [.box b2 [.int .i64 0, .int .i64 0, (.slice none 0 0)]] ∧ Zgb r9 = some r, ?_, ?_⟩
 ·refine brQ hp (fun hp => ?_) fun hp => ?_
  ·refine Zb st 0 rfl rfl rfl rfl fun h_14 st => ?_
   refine Zb st 0 rfl rfl rfl rfl fun h_15 st => ?_
   refine Zb st 0 rfl rfl rfl rfl fun h_16 st => ?_
   dsimp only [List.set] at st
   refine bI st 0 0 ?_
   refine bI st 0 1 ?_
   refine bV st 0 2 ?_
   have st := st.nilO (E := eI)
   obtain rfl := oI hp
   exact ⟨(.slice none 0 0), rfl, pk st [0]⟩
  ·refine brQ hp (fun hp => ?_) fun hp => ?_
   ·refine Zb st 0 rfl rfl rfl rfl fun h_17 st => ?_
    refine Zb st 0 rfl rfl rfl rfl fun h_18 st => ?_
    refine Zb st 0 rfl rfl rfl rfl fun h_19 st => ?_
    dsimp only [List.set] at st
    refine bI st 0 0 ?_
    refine bI st 0 1 ?_
    refine bV st 0 2 ?_
    have st := st.nilO (E := eI)
    obtain rfl := oI hp
    exact ⟨(.slice none 0 0), rfl, pk st [0]⟩
   ·exact ⟨pk st [0], hp⟩
 ·rintro _ h_4 ⟨st, hp⟩
  rw [Zgb] at hp
  refine lp1 (os := [.box b2 [.int .i64 0, .int .i64 0, (.slice none 0 0)]]) hp (pk st [0]) fun m n6 h_5 a st hp hs => ?_
  rw [ZgU] at hp
  refine cl1 hp st (fun s_2 _ _ hx_2 => Zb3 s_2.fle hx_2) fun r22 v22 h_6 st hp => ⟨_, rfl, ?_⟩
  obtain ⟨l24, hx_3, hp⟩ := obind hp
  refine Zad st 0 rfl (fun _ => ⟨rfl, rfl⟩) rfl rfl hx_3 fun v24 h_7 st => ?_
  dsimp only [List.set] at st
  refine cl0 hp st (fun s_3 _ _ hx_4 => Zom s_3.fle hx_4 (st.rdL 0 rfl (Za _))) fun r26 h_8 st hp => ⟨_, rfl, ?_⟩
  refine brQ hp (fun hp => ?_) fun hp => ?_
  ·obtain rfl := oI hp
   exact ⟨m, ltS, pk st [1], hs⟩
  ·refine cl1 hp st (fun s_4 _ _ hx_5 => Zb3 s_4.fle hx_5) fun r35 v35 h_9 st hp => ⟨_, rfl, ?_⟩
   obtain ⟨l37, hx_6, hp⟩ := obind hp
   refine Zad st 0 rfl (fun _ => ⟨rfl, rfl⟩) rfl rfl hx_6 fun v37 h_10 st => ?_
   dsimp only [List.set] at st
   refine Zz (st.rdL 0 rfl (Za _)).one ?_
   refine Zb st 2 rfl rfl rfl rfl fun h_11 st => ?_
   refine Zb st 2 rfl rfl rfl rfl fun h_12 st => ?_
   refine Zb st 2 rfl rfl rfl (st.rdL 0 rfl (Za _)).one fun h_13 st => ?_
   dsimp only [List.set] at st
   refine bI st 2 0 ?_
   refine bI st 2 1 ?_
   refine bV st 2 2 ?_
   obtain rfl := oI hp
   obtain rfl := oI hs
   exact ⟨v37, rfl, pk st [0]⟩
theorem ZtC {o0 v0_2 r} (hp : Zfj o0 = some r) (f0_2 : SlC (hcell h) eL v0_2 o0.Rows) : CallsH P Zk0 #[.agg #[.int .i64 o0.Kind, .int .i64 o0.Size, v0_2]] h (fun v h' => ∃ w0 : Value, ∃ w1 : Value, v = .agg #[.int .i64 r.Field.Prime, .int .i64 r.Field.Degree, w0, w1] ∧ S ψ h h' [.it oL [w0] r.Field.Poly, .it (El.ow oL) [w1] r.Rows]) := by
 apply Zvh
 rw [Zfj] at hp
 have st := S.start hψ
 refine new_S st fun b1 h_2 st => ?_
 refine new_S st fun b2 h_3 st => ?_
 refine bI st 1 1 ?_
 refine cl1 hp st (fun s _ _ hx => ZtB s.fle hx) fun r8 v8 h_4 st hp => ⟨_, _, _, _, rfl, ?_⟩
 refine new_S st fun b3 h_5 st => ?_
 refine Zb st 0 rfl rfl rfl rfl fun h_6 st => ?_
 refine Zb st 0 rfl rfl rfl rfl fun h_7 st => ?_
 refine Zb st 0 rfl rfl rfl (st.rdL 1 rfl (Za _)).one fun h_8 st => ?_
 dsimp only [List.set] at st
 refine ⟨fun _ => False, ?_⟩
 have stR_3 := st
 have xR_3 := ExtH.refl h_8
 refine bV st 3 2 ?_
 obtain ⟨r14, hx_2, hp⟩ := obind hp
 obtain ⟨φ_2, L_2, s_2, r_3⟩ := id st
 refine (Zd1 s_2.fle hx_2 (f0_2.mono st.le)).mono fun v_3 h_9 ⟨v14, eq_2, t_2⟩ => ⟨_, eq_2, ExtBut.of_ext (xR_3.trans t_2.ext), ?_⟩
 replace xR_3 := xR_3.trans t_2.ext
 replace st := join1 s_2 r_3 t_2
 clear t_2 s_2 r_3
 refine ZA ?_
 refine ldI_K (stR_3.cells 0 rfl) 0 rfl rfl ?_
 refine ZA ?_
 refine ldI_K (stR_3.cells 0 rfl) 1 rfl rfl ?_
 refine Z7 ?_
 refine ldV_K (stR_3.cells 0 rfl) 2 rfl rfl ?_
 refine Zz (st.rdL 0 rfl (Ze (Za _))).one ?_
 refine Zb st 3 rfl rfl rfl rfl fun h_10 st => ?_
 refine Zb st 3 rfl rfl rfl rfl fun h_11 st => ?_
 refine Zb st 3 rfl rfl rfl (st.rdL 2 rfl (Za _)).one fun h_12 st => ?_
 refine Zb st 3 rfl rfl rfl (st.rdL 0 rfl (Ze (Za _))).one fun h_13 st => ?_
 dsimp only [List.set] at st
 refine bI st 3 0 ?_
 refine bI st 3 1 ?_
 refine bV st 3 2 ?_
 refine bV st 3 3 ?_
 obtain rfl := oI hp
 exact ⟨v8, v14, rfl, pk st [2,0]⟩
theorem Zwx {o0 v0_2 r} (hp : ZhX o0 = some r) (f0_2 : SlC (hcell h) eL v0_2 o0.Rows) : CallsH P ZjR #[.agg #[.int .i64 o0.Kind, .int .i64 o0.Size, v0_2]] h (fun v h' => ∃ w0 : Value, v = .agg #[.int .i64 r.Degree, w0] ∧ S ψ h h' [.it (El.ow oL) [w0] r.Elements]) := by
 apply ZuM
 rw [ZhX] at hp
 have st := S.start hψ
 refine new_S st fun b1 h_2 st => ?_
 refine new_S st fun b2 h_3 st => ?_
 refine ⟨fun _ => False, ?_⟩
 have stR_2 := st
 have xR_2 := ExtH.refl h_3
 refine bV st 1 2 ?_
 obtain ⟨r7, hx, hp⟩ := obind hp
 obtain ⟨φ, L, s, r_2⟩ := id st
 refine (Zd1 s.fle hx (f0_2.mono st.le)).mono fun v_2 h_4 ⟨v7, eq, t⟩ => ⟨_, eq, ExtBut.of_ext (xR_2.trans t.ext), ?_⟩
 replace xR_2 := xR_2.trans t.ext
 replace st := join1 s r_2 t
 clear t s r_2
 refine ZA ?_
 refine ldI_K (stR_2.cells 1 rfl) 1 rfl rfl ?_
 refine Zz (st.rdL 0 rfl (Ze (Za _))).one ?_
 refine Zb st 1 rfl rfl rfl rfl fun h_5 st => ?_
 refine Zb st 1 rfl rfl rfl (st.rdL 0 rfl (Ze (Za _))).one fun h_6 st => ?_
 dsimp only [List.set] at st
 refine bI st 1 0 ?_
 refine bV st 1 1 ?_
 obtain rfl := oI hp
 exact ⟨v7, rfl, pk st [0]⟩
theorem ZuI {y0 v0_2 r} (hp : Zgm y0 = some r) (f0_2 : SlC (hcell h) eL v0_2 y0.Rows) : zR ZjF #[.agg #[.int .i64 y0.Kind, .int .i64 y0.Size, v0_2]] h ψ (.bool r) := by
 apply ZuN
 rw [Zgm] at hp
 have st := S.start hψ
 refine new_S st fun b1 h_2 st => ?_
 refine bI st 0 0 ?_
 refine brQ hp (fun hp => ?_) fun hp => ?_
 ·refine ⟨fun _ => False, ?_⟩
  have stR_4 := st
  have xR_4 := ExtH.refl h_2
  refine bV st 0 2 ?_
  obtain ⟨r11, hx, hp⟩ := obind hp
  obtain ⟨φ, L, s, r_2⟩ := id st
  refine (ZcU s.fle hx (f0_2.mono st.le)).mono fun v_2 h_3 ⟨eq, t⟩ => ⟨_, eq, ExtBut.of_ext (xR_4.trans t.ext), ?_⟩
  replace xR_4 := xR_4.trans t.ext
  replace st := join0 s r_2 t
  clear t s r_2
  refine ZA ?_
  refine ldI_K (stR_4.cells 0 rfl) 1 rfl rfl ?_
  refine brR hp (fun hp => tZ) fun hp => ?_
  refine bV st 0 2 ?_
  refine cl0 hp st (fun s_2 _ _ hx_2 => Zqw s_2.fle hx_2 (f0_2.mono st.le)) fun r18 h_4 st hp => ⟨_, rfl, ?_⟩
  exact tZ
 ·refine brQ hp (fun hp => ?_) fun hp => ?_
  ·refine bI st 0 0 ?_
   refine bI st 0 1 ?_
   refine bV st 0 2 ?_
   refine cl1 hp st (fun s_3 _ _ hx_3 => Zv5 s_3.fle hx_3 (f0_2.mono st.le)) fun r23 v23 h_5 st hp => ⟨_, _, rfl, ?_⟩
   have st := st.freeze 0 rfl (Ze (Ze (Za _)))
   dsimp only [List.set] at st
   refine cl0 hp st (fun s_4 _ _ hx_4 => Zpd s_4.fle hx_4 (st.rdF 0 rfl)) fun r24 h_6 st hp => ⟨_, rfl, ?_⟩
   exact tZ
  ·refine brQ hp (fun hp => ?_) fun hp => ?_
   ·refine ⟨fun _ => False, ?_⟩
    have stR_8 := st
    have xR_8 := ExtH.refl h_2
    refine bV st 0 2 ?_
    obtain ⟨r29, hx_5, hp⟩ := obind hp
    obtain ⟨φ_5, L_5, s_5, r_6⟩ := id st
    refine (ZcU s_5.fle hx_5 (f0_2.mono st.le)).mono fun v_6 h_7 ⟨eq_5, t_5⟩ => ⟨_, eq_5, ExtBut.of_ext (xR_8.trans t_5.ext), ?_⟩
    replace xR_8 := xR_8.trans t_5.ext
    replace st := join0 s_5 r_6 t_5
    clear t_5 s_5 r_6
    refine ZA ?_
    refine ldI_K (stR_8.cells 0 rfl) 1 rfl rfl ?_
    refine brR hp (fun hp => tZ) fun hp => ?_
    refine bV st 0 2 ?_
    refine cl0 hp st (fun s_6 _ _ hx_6 => ZoH s_6.fle hx_6 (f0_2.mono st.le)) fun r36 h_8 st hp => ⟨_, rfl, ?_⟩
    exact tZ
   ·refine brQ hp (fun hp => ?_) fun hp => ?_
    ·refine bV st 0 2 ?_
     refine vL f0_2 st.le ?_
     refine brR hp (fun hp => tZ) fun hp => ?_
     refine bI st 0 0 ?_
     refine bI st 0 1 ?_
     refine bV st 0 2 ?_
     refine cl1 hp st (fun s_7 _ _ hx_7 => Zsw s_7.fle hx_7 (f0_2.mono st.le)) fun r46 v46 h_9 st hp => ⟨_, _, _, rfl, ?_⟩
     have st := st.freeze 0 rfl (Ze (Ze (Za _)))
     dsimp only [List.set] at st
     refine cl0 hp st (fun s_8 _ _ hx_8 => Zo2 s_8.fle hx_8 (st.rdF 0 rfl)) fun r47 h_10 st hp => ⟨_, rfl, ?_⟩
     exact tZ
    ·refine brQ hp (fun hp => ?_) fun hp => ?_
     ·refine bI st 0 0 ?_
      refine bI st 0 1 ?_
      refine bV st 0 2 ?_
      refine cl2 hp st (fun s_9 _ _ hx_9 => ZtC s_9.fle hx_9 (f0_2.mono st.le)) fun r52 v52 v52_2 h_11 st hp => ⟨_, _, _, _, rfl, ?_⟩
      have st := st.freeze 1 rfl (Ze (Ze (Za _)))
      dsimp only [List.set] at st
      refine cl0 hp st (fun s_10 _ _ hx_10 => ZvD s_10.fle hx_10 (st.rdL 0 rfl (Za _)) (st.rdF 1 rfl)) fun r53 h_12 st hp => ⟨_, rfl, ?_⟩
      exact tZ
     ·refine brQ hp (fun hp => ?_) fun hp => ?_
      ·refine bI st 0 0 ?_
       refine bI st 0 1 ?_
       refine bV st 0 2 ?_
       refine cl2 hp st (fun s_11 _ _ hx_11 => Znz s_11.fle hx_11 (f0_2.mono st.le)) fun r58 v58 v58_2 h_13 st hp => ⟨_, _, _, rfl, ?_⟩
       refine new_S st fun b3 h_14 st => ?_
       refine Zb st 0 rfl rfl rfl (st.rdL 1 rfl (Za _)).one fun h_15 st => ?_
       refine Zb st 0 rfl rfl rfl (st.rdL 2 rfl frzf_T_impl_Edge).one fun h_16 st => ?_
       dsimp only [List.set] at st
       exact tZ
      ·refine brR hp (fun hp => tZ) fun hp => ?_
       refine bI st 0 0 ?_
       refine bI st 0 1 ?_
       refine bV st 0 2 ?_
       refine cl1 hp st (fun s_12 _ _ hx_12 => Zwx s_12.fle hx_12 (f0_2.mono st.le)) fun r65 v65 h_17 st hp => ⟨_, _, rfl, ?_⟩
       have st := st.freeze 0 rfl (Ze (Ze (Za _)))
       dsimp only [List.set] at st
       obtain ⟨r66, hx_13, hp⟩ := obind hp
       obtain ⟨φ_13, L_13, s_13, r_14⟩ := id st
       refine (ZuS (CLe.refl _) hx_13 (st.rdF 0 rfl)).mono fun v_14 h_18 ⟨eq_13, t_13⟩ => ⟨_, eq_13, ?_⟩
       replace st := join0 s_13 r_14 (t_13.weak s_13.fle)
       clear t_13 s_13 r_14
       exact tZ
theorem ZAA {s0 r} (hp : ZxI s0 = some r)  : zR ZyP #[.string s0] h ψ (.bool r) := by
 apply Zzp
 rw [ZxI] at hp
 have st := S.start hψ
 refine ⟨fun h_2 => S ψ h h_2 [] ∧ Zyc s0 = some r, ?_, ?_⟩
 ·refine brQ hp (fun hp => tZ) fun hp => ?_
  exact brQ hp (fun hp => tZ) fun hp => tZ
 ·rintro _ h_2 ⟨st, hp⟩
  rw [Zyc] at hp
  refine s2b_S st fun v16 h_3 st => ?_
  refine ZC (st.rdF 0 rfl) ?_
  refine lp1 (os := [.it (El.sl (El.int .u8)) [v16] (byts s0)]) hp (pk st [0]) fun m y18 h_4 a st hp hs => ?_
  rw [Zw3] at hp
  refine brR hp (fun hp => tZ) fun hp => ?_
  refine ixI (st.rdF 0 rfl) hp fun e21 hp => ?_
  refine ⟨fun letter5 h_5 => S ψ h h_5 [.it (El.sl (El.int .u8)) [v16] (byts s0)] ∧ Zw2 y18 e21 letter5 = some a, ?_, ?_⟩
  ·refine brQ hp (fun hp => ?_) fun hp => ?_
   ·exact ⟨pk st [0], hp⟩
   ·exact ⟨pk st [0], hp⟩
  ·rintro _ letter5 h_5 ⟨st, hp⟩
   rw [Zw2] at hp
   refine ⟨fun digit6 h_6 => S ψ h h_6 [.it (El.sl (El.int .u8)) [v16] (byts s0)] ∧ Zw1 y18 letter5 digit6 = some a, ?_, ?_⟩
   ·refine brQ hp (fun hp => ?_) fun hp => ?_
    ·exact ⟨pk st [0], hp⟩
    ·exact ⟨pk st [0], hp⟩
   ·rintro _ digit6 h_6 ⟨st, hp⟩
    rw [Zw1] at hp
    refine brQ hp (fun hp => ?_) fun hp => ?_
    ·refine brQ hp (fun hp => tZ) fun hp => ?_
     refine brQ hp (fun hp => tZ) fun hp => ?_
     obtain rfl := oI hp
     exact ⟨m, ltS, pk st [0], hs⟩
    ·obtain rfl := oI hp
     exact ⟨m, ltS, pk st [0], hs⟩
theorem Zzs {x0 v0_3 r} (hp : ZxF x0 = some r) (f0_3 : SlC (hcell h) eL v0_3 x0.Object.Rows) : zR ZyO #[.agg #[.string x0.Name, .int .i64 x0.Object.Kind, .int .i64 x0.Object.Size, v0_3, .string x0.Key]] h ψ (.bool r) := by
 apply ZzF
 rw [ZxF] at hp
 have st := S.start hψ
 refine new_S st fun b1 h_2 st => ?_
 refine bS st 0 0 ?_
 refine cl0 hp st (fun s _ _ hx => ZAA s.fle hx) fun r5 h_3 st hp => ⟨_, rfl, ?_⟩
 refine brR hp (fun hp => tZ) fun hp => ?_
 refine bI st 0 1 ?_
 refine bI st 0 2 ?_
 refine bV st 0 3 ?_
 refine cl0 hp st (fun s_2 _ _ hx_2 => ZuI s_2.fle hx_2 (f0_3.mono st.le)) fun r9 h_4 st hp => ⟨_, rfl, ?_⟩
 refine brR hp (fun hp => tZ) fun hp => ?_
 refine bS st 0 4 ?_
 refine brR hp (fun hp => tZ) fun hp => ?_
 refine bS st 0 4 ?_
 exact tZ
theorem ZAO {s0 : List ZwR} {v0 : Value} {fn1 : ZwR → Option Bool} {g1 : Nat} {cap1 : List Value} {r : Int} (hp : Zx3 s0 fn1 = some r) (f0 : SlC (hcell h) ZwU v0 s0) (o1 : ctx.okf g1 = true) (k1 : ∀ {h1 : Heap}, ExtH h h1 → ∀ {ψ1 : CM}, CLe ψ1 (hcell h1) → ∀ {y0 : ZwR} {u0_3 : Value} {r1 : Bool}, fn1 y0 = some r1 → SlC (hcell h1) eL u0_3 y0.Object.Rows → CallsH P g1 (([.agg #[.string y0.Name, .int .i64 y0.Object.Kind, .int .i64 y0.Object.Size, u0_3, .string y0.Key]] : List Value) ++ cap1).toArray h1 (fun v h' => v = .bool r1 ∧ S ψ1 h1 h' [])) : zR Zyj #[v0, .func (.func g1) #[] cap1.toArray] h ψ (.int .i64 r) := by
 apply ZAq
 rw [Zx3] at hp
 have st := S.start hψ
 refine vL f0 st.le ?_
 refine lp1 hp (nlS st) fun m y8 h_2 a st hp hs => ?_
 rw [Zxk] at hp
 refine brR hp (fun hp => tZ) fun hp => ?_
 refine ixA (f0.mono st.le) hp fun e14 p14 ad hx hp => ?_
 obtain ⟨cs, ck, hr⟩ := f0.cells ad hx rfl
 obtain ⟨v_2, rfl, f⟩ := ZwY hr
 refine kS ck st.le 0 ?_
 refine kI ck st.le 1 ?_
 refine kI ck st.le 2 ?_
 refine kV ck st.le 3 ?_
 refine kS ck st.le 4 ?_
 obtain ⟨r16, hx_2, hp⟩ := obind hp
 obtain ⟨φ, L, s, r_2⟩ := id st
 refine Zd4 o1 ?_
 refine (k1 st.ext s.fle hx_2 (f.mono st.le)).mono fun v_3 h_3 ⟨eq, t⟩ => ⟨_, eq, ?_⟩
 replace st := join0 s r_2 t
 clear t s r_2
 exact brQ hp (fun hp => tZ) fun hp => tZ
theorem Zzw {x0 v0_3 y1 v1_3 r} (hp : Zx6 x0 y1 = some r) (f0_3 : SlC (hcell h) eL v0_3 x0.Object.Rows) (f1_3 : SlC (hcell h) eL v1_3 y1.Object.Rows) : zR ZyQ #[.agg #[.string x0.Name, .int .i64 x0.Object.Kind, .int .i64 x0.Object.Size, v0_3, .string x0.Key], .agg #[.string y1.Name, .int .i64 y1.Object.Kind, .int .i64 y1.Object.Size, v1_3, .string y1.Key]] h ψ (.bool r) := by
 apply ZzC
 rw [Zx6] at hp
 have st := S.start hψ
 refine new_S st fun b2 h_2 st => ?_
 refine new_S st fun b3 h_3 st => ?_
 refine bI st 1 1 ?_
 refine bI st 0 1 ?_
 refine brR hp (fun hp => tZ) fun hp => ?_
 refine bS st 1 4 ?_
 refine bS st 0 4 ?_
 exact tZ
theorem ZAU {y0 v0_3 y1 p1 v1_3 r} (hp : Zxg y0 y1 = some r) (f0_3 : SlC (hcell h) eL v0_3 y0.Object.Rows) (ck1 : CellsC (hcell h) p1 [.string y1.Name, .int .i64 y1.Object.Kind, .int .i64 y1.Object.Size, v1_3, .string y1.Key]) (f1_3 : SlC (hcell h) eL v1_3 y1.Object.Rows) : zR Zyg #[.agg #[.string y0.Name, .int .i64 y0.Object.Kind, .int .i64 y0.Object.Size, v0_3, .string y0.Key], .pointer (some p1)] h ψ (.bool r) := by
 apply ZAJ
 rw [Zxg] at hp
 have st := S.start hψ
 refine new_S st fun b2 h_2 st => ?_
 refine kS ck1 st.le 0 ?_
 refine kI ck1 st.le 1 ?_
 refine kI ck1 st.le 2 ?_
 refine kV ck1 st.le 3 ?_
 refine kS ck1 st.le 4 ?_
 refine bS st 0 0 ?_
 refine bI st 0 1 ?_
 refine bI st 0 2 ?_
 refine bV st 0 3 ?_
 refine bS st 0 4 ?_
 refine cl0 hp st (fun s _ _ hx => Zzw s.fle hx (f1_3.mono st.le) (f0_3.mono st.le)) fun r6 h_3 st hp => ⟨_, rfl, ?_⟩
 exact tZ
theorem Zzj {items0 v0 x1 v1_3 r} (hp : Zxn items0 x1 = some r) (f0 : SlC (hcell h) ZwU v0 items0) (f1_3 : SlC (hcell h) eL v1_3 x1.Object.Rows) : zR Zya #[v0, .agg #[.string x1.Name, .int .i64 x1.Object.Kind, .int .i64 x1.Object.Size, v1_3, .string x1.Key]] h ψ (.int .i64 r) := by
 apply Zzo
 rw [Zxn] at hp
 have st := S.start hψ
 refine new_S st fun b3 h_2 st => ?_
 refine cl0 hp st (fun s _ _ hx => ZAO s.fle hx (f0.mono st.le) (by kernel_rfl) (fun hx1 => fun hψ1 => fun hp1 ff0 => ZAU hψ1 hp1 ff0 ((st.cells 0 rfl).mono (CLe.ext hx1)) ((f1_3.mono st.le).mono (CLe.ext hx1)))) fun r7 h_3 st hp => ⟨_, rfl, ?_⟩
 exact tZ
theorem ZzI {c0 v0_0 r} (hp : ZxC c0 = some r) (f0_0 : SlC (hcell h) ZwU v0_0 c0.Items) : zR ZyK #[.agg #[v0_0]] h ψ (.bool r) := by
 apply ZzW
 rw [ZxC] at hp
 have st := S.start hψ
 refine new_S st fun b1 h_2 st => ?_
 refine bV st 0 0 ?_
 refine vL f0_0 st.le ?_
 refine lp1 (os := [.box b1 [v0_0]]) hp (pk st [0]) fun m y8 h_3 a st hp hs => ?_
 rw [Zw7] at hp
 refine brQ hp (fun hp => ?_) fun hp => ?_
 ·refine ixA (f0_0.mono st.le) hp fun e11 p11 ad hx hp => ?_
  obtain ⟨cs, ck, hr⟩ := f0_0.cells ad hx rfl
  obtain ⟨v_2, rfl, f⟩ := ZwY hr
  refine kS ck st.le 0 ?_
  refine kI ck st.le 1 ?_
  refine kI ck st.le 2 ?_
  refine kV ck st.le 3 ?_
  refine kS ck st.le 4 ?_
  refine new_S st fun b4 h_4 st => ?_
  refine Zb st 0 rfl rfl rfl rfl fun h_5 st => ?_
  refine Zb st 0 rfl rfl rfl rfl fun h_6 st => ?_
  refine Zb st 0 rfl rfl rfl rfl fun h_7 st => ?_
  refine Zb st 0 rfl rfl rfl (f.mono st.le).one fun h_8 st => ?_
  refine Zb st 0 rfl rfl rfl rfl fun h_9 st => ?_
  dsimp only [List.set] at st
  refine bS st 0 0 ?_
  refine bI st 0 1 ?_
  refine bI st 0 2 ?_
  refine bV st 0 3 ?_
  refine bS st 0 4 ?_
  refine cl0 hp st (fun s _ _ hx_2 => Zzs s.fle hx_2 (f.mono st.le)) fun r14 h_10 st hp => ⟨_, rfl, ?_⟩
  refine brQ hp (fun hp => tZ) fun hp => ?_
  refine brQ hp (fun hp => ?_) fun hp => ?_
  ·refine bS st 0 0 ?_
   refine bV st 1 0 ?_
   refine ixA (f0_0.mono st.le) hp fun e26 p26 ad_2 hx_3 hp => ?_
   obtain ⟨cs_2, ck_2, hr_2⟩ := f0_0.cells ad_2 hx_3 rfl
   obtain ⟨v_4, rfl, f_2⟩ := ZwY hr_2
   refine kS ck_2 st.le 0 ?_
   refine brQ hp (fun hp => tZ) fun hp => ?_
   refine bV st 1 0 ?_
   obtain ⟨l36, hx_4, hp⟩ := obind hp
   refine Zhz none (some y8) f0_0 hx_4 rfl fun v36 f_3 => ?_
   refine bS st 0 0 ?_
   refine bI st 0 1 ?_
   refine bI st 0 2 ?_
   refine bV st 0 3 ?_
   refine bS st 0 4 ?_
   refine cl0 hp st (fun s_2 _ _ hx_5 => Zzj s_2.fle hx_5 (f_3.mono st.le) (f.mono st.le)) fun r38 h_11 st hp => ⟨_, rfl, ?_⟩
   refine brQ hp (fun hp => tZ) fun hp => ?_
   obtain rfl := oI hp
   exact ⟨m, ltS, pk st [1], hs⟩
  ·refine bV st 1 0 ?_
   obtain ⟨l36_2, hx_6, hp⟩ := obind hp
   refine Zhz none (some y8) f0_0 hx_6 rfl fun v36_2 f_4 => ?_
   refine bS st 0 0 ?_
   refine bI st 0 1 ?_
   refine bI st 0 2 ?_
   refine bV st 0 3 ?_
   refine bS st 0 4 ?_
   refine cl0 hp st (fun s_3 _ _ hx_7 => Zzj s_3.fle hx_7 (f_4.mono st.le) (f.mono st.le)) fun r38_2 h_12 st hp => ⟨_, rfl, ?_⟩
   refine brQ hp (fun hp => tZ) fun hp => ?_
   obtain rfl := oI hp
   exact ⟨m, ltS, pk st [1], hs⟩
 ·refine bV st 0 0 ?_
  refine vL f0_0 st.le ?_
  exact tZ
theorem ZBW {x0 : List ZwR} {v0 : Value} {target1 : ByteArray} {fn2 : ZwR → ByteArray → Option Int} {g2 : Nat} {cap2 : List Value} {r : Int × Bool} (hp : ZBh x0 target1 fn2 = some r) (f0 : SlC (hcell h) ZwU v0 x0) (o2 : ctx.okf g2 = true) (k2 : ∀ {h1 : Heap}, ExtH h h1 → ∀ {ψ1 : CM}, CLe ψ1 (hcell h1) → ∀ {y0 : ZwR} {u0_3 : Value} {y1 : ByteArray} {r1 : Int}, fn2 y0 y1 = some r1 → SlC (hcell h1) eL u0_3 y0.Object.Rows → CallsH P g2 (([.agg #[.string y0.Name, .int .i64 y0.Object.Kind, .int .i64 y0.Object.Size, u0_3, .string y0.Key], .string y1] : List Value) ++ cap2).toArray h1 (fun v h' => v = .int .i64 r1 ∧ S ψ1 h1 h' [])) : zR ZBx #[v0, .string target1, .func (.func g2) #[] cap2.toArray] h ψ (.tuple #[.int .i64 r.1, .bool r.2]) := by
 apply ZBI
 rw [ZBh] at hp
 have st := S.start hψ
 refine vL f0 st.le ?_
 refine lp2 hp (nlS st) fun m i9 j10 h_2 a st hp hs => ?_
 rw [ZAZ] at hp
 refine brQ hp (fun hp => ?_) fun hp => ?_
 ·obtain ⟨_, hx, hp⟩ := obind hp
  refine ⟨Zsl hx, ?_⟩
  refine ixA (f0.mono st.le) hp fun e27 p27 ad hx_2 hp => ?_
  obtain ⟨cs, ck, hr⟩ := f0.cells ad hx_2 rfl
  obtain ⟨v_2, rfl, f⟩ := ZwY hr
  refine kS ck st.le 0 ?_
  refine kI ck st.le 1 ?_
  refine kI ck st.le 2 ?_
  refine kV ck st.le 3 ?_
  refine kS ck st.le 4 ?_
  obtain ⟨r30, hx_3, hp⟩ := obind hp
  obtain ⟨φ, L, s, r_2⟩ := id st
  refine Zd4 o2 ?_
  refine (k2 st.ext s.fle hx_3 (f.mono st.le)).mono fun v_3 h_3 ⟨eq, t⟩ => ⟨_, eq, ?_⟩
  replace st := join0 s r_2 t
  clear t s r_2
  exact brQ hp (fun hp => tZ) fun hp => tZ
 ·refine brR hp (fun hp => tZ) fun hp => ?_
  refine ixA (f0.mono st.le) hp fun e43 p43 ad_2 hx_4 hp => ?_
  obtain ⟨cs_2, ck_2, hr_2⟩ := f0.cells ad_2 hx_4 rfl
  obtain ⟨v_4, rfl, f_2⟩ := ZwY hr_2
  refine kS ck_2 st.le 0 ?_
  refine kI ck_2 st.le 1 ?_
  refine kI ck_2 st.le 2 ?_
  refine kV ck_2 st.le 3 ?_
  refine kS ck_2 st.le 4 ?_
  obtain ⟨r46, hx_5, hp⟩ := obind hp
  obtain ⟨φ_2, L_2, s_2, r_3⟩ := id st
  refine Zd4 o2 ?_
  refine (k2 st.ext s_2.fle hx_5 (f_2.mono st.le)).mono fun v_5 h_4 ⟨eq_2, t_2⟩ => ⟨_, eq_2, ?_⟩
  replace st := join0 s_2 r_3 t_2
  clear t_2 s_2 r_3
  exact tZ
theorem ZBB {x0 r} (hp : ZA2 x0 = some r)  : zR ZBf #[.string x0] h ψ (.bool r) := by
 apply ZCm
 rw [ZA2] at hp
 have st := S.start hψ
 exact tZ
theorem ZBF {x0 y1 r} (hp : ZBk x0 y1 = some r)  : zR ZBz #[.string x0, .string y1] h ψ (.int .i64 r) := by
 apply ZBN
 rw [ZBk] at hp
 have st := S.start hψ
 refine cl0 hp st (fun s _ _ hx => ZBB s.fle hx) fun r8 h_2 st hp => ⟨_, rfl, ?_⟩
 refine cl0 hp st (fun s_2 _ _ hx_2 => ZBB s_2.fle hx_2) fun r10 h_3 st hp => ⟨_, rfl, ?_⟩
 refine brQ hp (fun hp => ?_) fun hp => ?_
 ·exact brQ hp (fun hp => tZ) fun hp => tZ
 ·refine brQ hp (fun hp => tZ) fun hp => ?_
  refine brQ hp (fun hp => tZ) fun hp => ?_
  exact brQ hp (fun hp => tZ) fun hp => tZ
theorem ZBU {x0 v0_3 name1 r} (hp : ZA0 x0 name1 = some r) (f0_3 : SlC (hcell h) eL v0_3 x0.Object.Rows) : zR ZBu #[.agg #[.string x0.Name, .int .i64 x0.Object.Kind, .int .i64 x0.Object.Size, v0_3, .string x0.Key], .string name1] h ψ (.int .i64 r) := by
 apply ZB0
 rw [ZA0] at hp
 have st := S.start hψ
 refine new_S st fun b2 h_2 st => ?_
 refine bS st 0 0 ?_
 refine cl0 hp st (fun s _ _ hx => ZBF s.fle hx) fun r8 h_3 st hp => ⟨_, rfl, ?_⟩
 exact tZ
theorem ZCn {c0 v0_0 name1 r} (hp : ZA7 c0 name1 = some r) (f0_0 : SlC (hcell h) ZwU v0_0 c0.Items) : zR ZBv #[.agg #[v0_0], .string name1] h ψ (.tuple #[.int .i64 r.1, .bool r.2]) := by
 apply ZBX
 rw [ZA7] at hp
 have st := S.start hψ
 refine new_S st fun b2 h_2 st => ?_
 refine bV st 0 0 ?_
 refine cl0 hp st (fun s _ _ hx => ZBW s.fle hx (f0_0.mono st.le) (by kernel_rfl) (fun hx1 => fun hψ1 => fun hp1 ff0 => ZBU hψ1 hp1 ff0)) fun r9 h_3 st hp => ⟨_, _, rfl, ?_⟩
 exact tZ
theorem ZB8 {o0 v0_2 r} (hp : ZBe o0 = some r) (f0_2 : SlC (hcell h) eL v0_2 o0.Rows) : CallsH P ZBs #[.agg #[.int .i64 o0.Kind, .int .i64 o0.Size, v0_2]] h (fun v h' => ∃ w0 : Value, v = .agg #[.int .i64 r.Kind, .int .i64 r.Size, w0] ∧ S ψ h h' [.it (El.ow oL) [w0] r.Rows]) := by
 apply ZBT
 rw [ZBe] at hp
 have st := S.start hψ
 refine new_S st fun b1 h_2 st => ?_
 refine new_S st fun b2 h_3 st => ?_
 refine bV st 1 2 ?_
 refine cl1 hp st (fun s _ _ hx => Zd1 s.fle hx (f0_2.mono st.le)) fun r5 v5 h_4 st hp => ⟨_, rfl, ?_⟩
 refine Zb st 2 rfl rfl rfl (st.rdL 0 rfl (Ze (Za _))).one fun h_5 st => ?_
 dsimp only [List.set] at st
 refine bI st 2 0 ?_
 refine bI st 2 1 ?_
 refine bV st 2 2 ?_
 refine Zb st 1 rfl rfl rfl rfl fun h_6 st => ?_
 refine Zb st 1 rfl rfl rfl rfl fun h_7 st => ?_
 refine Zb st 1 rfl rfl rfl (st.rdL 0 rfl (Ze (Za _))).one fun h_8 st => ?_
 dsimp only [List.set] at st
 refine bI st 1 0 ?_
 refine bI st 1 1 ?_
 refine bV st 1 2 ?_
 obtain rfl := oI hp
 exact ⟨v5, rfl, pk st [0]⟩
theorem ZCg {x0 v0_3 r} (hp : ZA5 x0 = some r) (f0_3 : SlC (hcell h) eL v0_3 x0.Object.Rows) : CallsH P ZBp #[.agg #[.string x0.Name, .int .i64 x0.Object.Kind, .int .i64 x0.Object.Size, v0_3, .string x0.Key]] h (fun v h' => ∃ w0 : Value, v = .agg #[.string r.Name, .int .i64 r.Object.Kind, .int .i64 r.Object.Size, w0, .string r.Key] ∧ S ψ h h' [.it (El.ow oL) [w0] r.Object.Rows]) := by
 apply ZB1
 rw [ZA5] at hp
 have st := S.start hψ
 refine new_S st fun b1 h_2 st => ?_
 refine new_S st fun b2 h_3 st => ?_
 refine bI st 1 1 ?_
 refine bI st 1 2 ?_
 refine bV st 1 3 ?_
 refine cl1 hp st (fun s _ _ hx => ZB8 s.fle hx (f0_3.mono st.le)) fun r5 v5 h_4 st hp => ⟨_, _, _, rfl, ?_⟩
 refine Zb st 2 rfl rfl rfl rfl fun h_5 st => ?_
 refine Zb st 2 rfl rfl rfl rfl fun h_6 st => ?_
 refine Zb st 2 rfl rfl rfl (st.rdL 0 rfl (Ze (Za _))).one fun h_7 st => ?_
 dsimp only [List.set] at st
 refine bS st 2 0 ?_
 refine bI st 2 1 ?_
 refine bI st 2 2 ?_
 refine bV st 2 3 ?_
 refine bS st 2 4 ?_
 refine Zb st 1 rfl rfl rfl rfl fun h_8 st => ?_
 refine Zb st 1 rfl rfl rfl rfl fun h_9 st => ?_
 refine Zb st 1 rfl rfl rfl rfl fun h_10 st => ?_
 refine Zb st 1 rfl rfl rfl (st.rdL 0 rfl (Ze (Za _))).one fun h_11 st => ?_
 refine Zb st 1 rfl rfl rfl rfl fun h_12 st => ?_
 dsimp only [List.set] at st
 refine bS st 1 0 ?_
 refine bI st 1 1 ?_
 refine bI st 1 2 ?_
 refine bV st 1 3 ?_
 refine bS st 1 4 ?_
 obtain rfl := oI hp
 exact ⟨v5, rfl, pk st [0]⟩
theorem ZDc {c0 v0_0 r} (hp : ZCx c0 = some r) (f0_0 : SlC (hcell h) ZwU v0_0 c0.Items) : CallsH P ZCD #[.agg #[v0_0]] h (fun v h' => ∃ w0 : Value, v = .agg #[w0] ∧ S ψ h h' [.it (El.ow ZwW) [w0] r.Items]) := by
 apply ZC0
 rw [ZCx] at hp
 have st := S.start hψ
 refine new_S st fun b1 h_2 st => ?_
 refine new_S st fun b2 h_3 st => ?_
 refine new_S st fun b3 h_4 st => ?_
 refine bV st 2 0 ?_
 refine vL f0_0 st.le ?_
 have st := st.nilO (E := ZwW)
 obtain ⟨n_2, hn⟩ := Zy hp
 refine ⟨fun n y9 h_5 => ∃ xs : List ZwR, ∃ v_2 : Value, S ψ h h_5 [.box b3 [v_2], .box b2 [(.slice none 0 0)], .box b1 [v0_0], .it (El.ow ZwW) [v_2] xs] ∧ loopN (ZCr c0) n (y9, xs) = some r, ⟨n_2, _, _, pk st [1,2,3,0], hn⟩, ?_⟩
 rintro n _ y9 h_5 ⟨xs, v_2, st, hn⟩
 obtain ⟨m, a, rfl, hp, hs⟩ := Zw hn
 rw [ZCr] at hp
 refine brQ hp (fun hp => ?_) fun hp => ?_
 ·refine ixA (f0_0.mono st.le) hp fun e11 p11 ad hx hp => ?_
  obtain ⟨cs, ck, hr⟩ := f0_0.cells ad hx rfl
  obtain ⟨v_3, rfl, f⟩ := ZwY hr
  refine kS ck st.le 0 ?_
  refine kI ck st.le 1 ?_
  refine kI ck st.le 2 ?_
  refine kV ck st.le 3 ?_
  refine kS ck st.le 4 ?_
  refine new_S st fun b5 h_6 st => ?_
  refine Zb st 0 rfl rfl rfl rfl fun h_7 st => ?_
  refine Zb st 0 rfl rfl rfl rfl fun h_8 st => ?_
  refine Zb st 0 rfl rfl rfl rfl fun h_9 st => ?_
  refine Zb st 0 rfl rfl rfl (f.mono st.le).one fun h_10 st => ?_
  refine Zb st 0 rfl rfl rfl rfl fun h_11 st => ?_
  dsimp only [List.set] at st
  refine ⟨fun _ => False, ?_⟩
  have stR_6 := st
  have xR_6 := ExtH.refl h_11
  refine bS st 0 0 ?_
  refine bI st 0 1 ?_
  refine bI st 0 2 ?_
  refine bV st 0 3 ?_
  refine bS st 0 4 ?_
  obtain ⟨r16, hx_2, hp⟩ := obind hp
  obtain ⟨φ, L, s, r_2⟩ := id st
  refine (ZCg s.fle hx_2 (f.mono st.le)).mono fun v_4 h_12 ⟨v16, eq, t⟩ => ⟨_, _, _, _, _, eq, ExtBut.of_ext (xR_6.trans t.ext), ?_⟩
  replace xR_6 := xR_6.trans t.ext
  replace st := join1 s r_2 t
  clear t s r_2
  refine ZO st fun b17 h_13 xE st => ⟨ExtBut.of_ext (xR_6.trans xE), ?_⟩
  replace xR_6 := xR_6.trans xE
  refine Z7 ?_
  refine ldV_K (stR_6.cells 1 rfl) 0 rfl rfl ?_
  have st := st.pull 1 rfl
  dsimp only [List.eraseIdx] at st
  have st := pko_T_impl_Item (x0 := r16.Name) (x1 := r16.Object.Kind) (x2 := r16.Object.Size) (x4 := r16.Key) st
  obtain ⟨l18, hx_3, hp⟩ := obind hp
  refine ZD st 5 rfl 0 rfl rfl rfl hx_3 fun v18 h_14 xE st => ?_
  refine Zb st 2 rfl rfl rfl (st.rdL 5 rfl frzo_T_impl_Item).one fun h_15 st => ?_
  dsimp only [List.set] at st
  obtain rfl := oI hp
  exact ⟨m, ltS, _, _, pk st [2,3,4,5], hs⟩
 ·refine bV st 0 0 ?_
  refine Zb st 1 rfl rfl rfl (st.rdL 3 rfl frzo_T_impl_Item).one fun h_16 st => ?_
  dsimp only [List.set] at st
  refine bV st 1 0 ?_
  obtain rfl := oI hp
  obtain rfl := oI hs
  exact ⟨v_2, rfl, pk st [3]⟩
end
theorem ZC4 {ψ : CM} {h0 h : Heap} {os : List Ob} {E0 : El ZwR} {x0 : List ZwR} {v0 : Value} {i1 j2 : Int} {r : List ZwR} (hp : ZCu x0 i1 j2 = some r) (st : S ψ h0 h (.it (El.ow E0) [v0] x0 :: os)) (hz0 : E0.z = 5 := by exact rfl) (hc0 : ([.string ⟨#[]⟩, .int .i64 0, .int .i64 0, .slice none 0 0, .string ⟨#[]⟩] : List Value) = E0.zc := by exact rfl) (hf0 : Frz E0 ZwU := by first | exact frzo_T_impl_Item | exact frzf_T_impl_Item) : CallsH P ZCH #[v0, .int .i64 i1, .int .i64 j2] h (fun v h' => ∃ w0 : Value, v = w0 ∧ S ψ h0 h' (.it (El.ow E0) [w0] r :: os)) := by
  apply ZC9
  unfold ZCu at hp
  split at hp
  case isFalse => cases hp
  rename_i hc
  obtain ⟨c1, c2, c3, c4, c5⟩ := hc
  obtain rfl := oI hp
  refine ZC (st.rdL 0 rfl hf0) ?_
  refine ZC2 (st.rdL 0 rfl hf0) c1 c2 c3 fun _ => ?_
  refine ZC8 (fun e => ?_) (fun e => ?_)
  · subst e
    rw [List.take_append_drop]
    exact ⟨v0, rfl, st⟩
  · refine ZC (st.rdL 0 rfl hf0) ?_
    exact ZC1 st 0 rfl hz0 hc0 c1 (by omega) c3 c4 c5 fun v' h' st => ⟨v', rfl, st⟩
section
variable {ψ : CM} {h : Heap} (hψ : CLe ψ (hcell h))
include hψ
theorem ZCO {c0 v0_0 name1 r} (hp : ZCq c0 name1 = some r) (f0_0 : SlC (hcell h) ZwU v0_0 c0.Items) : CallsH P ZCB #[.agg #[v0_0], .string name1] h (fun v h' => ∃ w0 : Value, v = .tuple #[.agg #[w0], .int .i64 r.2] ∧ S ψ h h' [.it (El.ow ZwW) [w0] r.1.Items]) := by
 apply ZDf
 rw [ZCq] at hp
 have st := S.start hψ
 refine new_S st fun b2 h_2 st => ?_
 refine new_S st fun b4 h_3 st => ?_
 refine bV st 1 0 ?_
 refine cl0 hp st (fun s _ _ hx => ZzI s.fle hx (f0_0.mono st.le)) fun r10 h_4 st hp => ⟨_, rfl, ?_⟩
 refine brQ hp (fun hp => ?_) fun hp => ?_
 ·refine Zb st 0 rfl rfl rfl rfl fun h_5 st => ?_
  dsimp only [List.set] at st
  refine bV st 0 0 ?_
  have st := st.nilO (E := ZwW)
  obtain rfl := oI hp
  exact ⟨(.slice none 0 0), rfl, pk st [0]⟩
 ·refine bV st 1 0 ?_
  refine cl0 hp st (fun s_2 _ _ hx_2 => ZCn s_2.fle hx_2 (f0_0.mono st.le)) fun r16 h_6 st hp => ⟨_, _, rfl, ?_⟩
  refine brQ hp (fun hp => ?_) fun hp => ?_
  ·refine Zb st 0 rfl rfl rfl rfl fun h_7 st => ?_
   dsimp only [List.set] at st
   refine bV st 0 0 ?_
   have st := st.nilO (E := ZwW)
   obtain rfl := oI hp
   exact ⟨(.slice none 0 0), rfl, pk st [0]⟩
  ·refine bV st 1 0 ?_
   refine cl1 hp st (fun s_3 _ _ hx_3 => ZDc s_3.fle hx_3 (f0_0.mono st.le)) fun r23 v23 h_8 st hp => ⟨_, rfl, ?_⟩
   refine new_S st fun b8 h_9 st => ?_
   refine Zb st 0 rfl rfl rfl (st.rdL 1 rfl frzo_T_impl_Item).one fun h_10 st => ?_
   dsimp only [List.set] at st
   refine bV st 0 0 ?_
   have st := st.pull 1 rfl
   dsimp only [List.eraseIdx] at st
   obtain ⟨r29, hx_4, hp⟩ := obind hp
   refine (ZC4 hx_4 st ).mono fun v_5 h_11 ⟨v29, eq_4, st⟩ => ⟨_, eq_4, ?_⟩
   refine Zb st 1 rfl rfl rfl (st.rdL 0 rfl frzo_T_impl_Item).one fun h_12 st => ?_
   dsimp only [List.set] at st
   refine bV st 1 0 ?_
   refine Zb st 2 rfl rfl rfl (st.rdL 0 rfl frzo_T_impl_Item).one fun h_13 st => ?_
   dsimp only [List.set] at st
   refine bV st 2 0 ?_
   obtain rfl := oI hp
   exact ⟨v29, rfl, pk st [0]⟩
theorem Zqm {a0 v0 k1 r} (hp : Ze0 a0 k1 = some r) (f0 : SlC (hcell h) eI v0 a0) : zR Zh4 #[v0, .int .i64 k1] h ψ (.int .i64 r) := by
 apply ZoV
 rw [Ze0] at hp
 have st := S.start hψ
 refine lp2 hp (nlS st) fun m k1_2 i5 h_2 a st hp hs => ?_
 rw [Zg2] at hp
 refine vL f0 st.le ?_
 refine brR hp (fun hp => tZ) fun hp => ?_
 refine ixI (f0.mono st.le) hp fun e14 hp => ?_
 exact brQ hp (fun hp => tZ) fun hp => tZ
theorem ZBY {a0 v0 k1 r} (hp : ZA9 a0 k1 = some r) (f0 : SlC (hcell h) eL v0 a0) : zR ZBy #[v0, .int .i64 k1] h ψ (.int .i64 r) := by
 apply ZBQ
 rw [ZA9] at hp
 have st := S.start hψ
 refine lp2 hp (nlS st) fun m k1_2 i5 h_2 a st hp hs => ?_
 rw [ZBg] at hp
 refine vL f0 st.le ?_
 refine brR hp (fun hp => tZ) fun hp => ?_
 refine ixV f0 st.le hp fun e14 u15 f hp => ?_
 refine cl0 hp st (fun s _ _ hx_2 => (Zqm s.fle hx_2 (f.mono st.le)).mono fun _ _ x => x) fun r17 h_3 st hp => ⟨_, rfl, ?_⟩
 exact brQ hp (fun hp => tZ) fun hp => tZ
theorem ZCR {a0 v0 k1 r} (hp : ZCz a0 k1 = some r) (f0 : SlC (hcell h) ZwU v0 a0) : zR ZCI #[v0, .int .i64 k1] h ψ (.int .i64 r) := by
 apply ZCY
 rw [ZCz] at hp
 have st := S.start hψ
 refine lp2 hp (nlS st) fun m k1_2 i5 h_2 a st hp hs => ?_
 rw [ZCp] at hp
 refine vL f0 st.le ?_
 refine brR hp (fun hp => tZ) fun hp => ?_
 refine ⟨fun _ => False, ?_⟩
 have stR_4 := st
 have xR_4 := ExtH.refl h_2
 obtain ⟨r18, hx, hp⟩ := obind hp
 obtain ⟨φ, L, s, r_2⟩ := id st
 refine (Zyb s.fle hx).mono fun v_2 h_3 ⟨eq, t⟩ => ⟨_, eq, ExtBut.of_ext (xR_4.trans t.ext), ?_⟩
 replace xR_4 := xR_4.trans t.ext
 replace st := join0 s r_2 t
 clear t s r_2
 refine ixA (f0.mono st.le) hp fun e14 p14 ad hx_2 hp => ?_
 obtain ⟨cs, ck, hr⟩ := f0.cells ad hx_2 rfl
 obtain ⟨v_3, rfl, f⟩ := ZwY hr
 refine ZAM ?_
 refine kS ck stR_4.le 0 ?_
 refine brQ hp (fun hp => tZ) fun hp => ?_
 refine ixA (f0.mono st.le) hp fun e24 p24 ad_2 hx_3 hp => ?_
 obtain ⟨cs_2, ck_2, hr_2⟩ := f0.cells ad_2 hx_3 rfl
 obtain ⟨v_4, rfl, f_2⟩ := ZwY hr_2
 refine kI ck_2 st.le 1 ?_
 refine brQ hp (fun hp => tZ) fun hp => ?_
 refine ixA (f0.mono st.le) hp fun e34 p34 ad_3 hx_4 hp => ?_
 obtain ⟨cs_3, ck_3, hr_3⟩ := f0.cells ad_3 hx_4 rfl
 obtain ⟨v_5, rfl, f_3⟩ := ZwY hr_3
 refine kI ck_3 st.le 2 ?_
 refine brQ hp (fun hp => tZ) fun hp => ?_
 refine ixA (f0.mono st.le) hp fun e44 p44 ad_4 hx_5 hp => ?_
 obtain ⟨cs_4, ck_4, hr_4⟩ := f0.cells ad_4 hx_5 rfl
 obtain ⟨v_6, rfl, f_4⟩ := ZwY hr_4
 refine kV ck_4 st.le 3 ?_
 refine cl0 hp st (fun s_2 _ _ hx_6 => (ZBY s_2.fle hx_6 (f_4.mono st.le)).mono fun _ _ x => x) fun r49 h_4 st hp => ⟨_, rfl, ?_⟩
 refine brQ hp (fun hp => tZ) fun hp => ?_
 refine ⟨fun _ => False, ?_⟩
 have stR_16 := st
 have xR_16 := ExtH.refl h_4
 obtain ⟨r58, hx_7, hp⟩ := obind hp
 obtain ⟨φ_3, L_3, s_3, r_4⟩ := id st
 refine (Zyb s_3.fle hx_7).mono fun v_8 h_5 ⟨eq_3, t_3⟩ => ⟨_, eq_3, ExtBut.of_ext (xR_16.trans t_3.ext), ?_⟩
 replace xR_16 := xR_16.trans t_3.ext
 replace st := join0 s_3 r_4 t_3
 clear t_3 s_3 r_4
 refine ixA (f0.mono st.le) hp fun e54 p54 ad_5 hx_8 hp => ?_
 obtain ⟨cs_5, ck_5, hr_5⟩ := f0.cells ad_5 hx_8 rfl
 obtain ⟨v_9, rfl, f_5⟩ := ZwY hr_5
 refine ZAM ?_
 refine kS ck_5 stR_16.le 4 ?_
 exact brQ hp (fun hp => tZ) fun hp => tZ
theorem ZCK {a0 v0_0 k1 r} (hp : ZCs a0 k1 = some r) (f0_0 : SlC (hcell h) ZwU v0_0 a0.Items) : zR ZCA #[.agg #[v0_0], .int .i64 k1] h ψ (.int .i64 r) := by
 apply ZDe
 rw [ZCs] at hp
 have st := S.start hψ
 refine new_S st fun b2 h_2 st => ?_
 refine bV st 0 0 ?_
 refine cl0 hp st (fun s _ _ hx => (ZCR s.fle hx (f0_0.mono st.le)).mono fun _ _ x => x) fun r8 h_3 st hp => ⟨_, rfl, ?_⟩
 exact brQ hp (fun hp => tZ) fun hp => tZ
theorem ZCT {y0 v0_0 y1 r} (hp : ZCC y0 y1 = some r) (f0_0 : SlC (hcell h) Zw5 v0_0 y0.Items) : zR ZCG #[.agg #[v0_0], .string y1] h ψ (.bool r) := by
 apply ZC3
 rw [ZCC] at hp
 have st := S.start hψ
 refine new_S st fun b2 h_2 st => ?_
 refine brQ hp (fun hp => tZ) fun hp => ?_
 refine bV st 0 0 ?_
 refine cl0 hp st (fun s _ _ hx => ZzT s.fle hx (f0_0.mono st.le)) fun r21 h_3 st hp => ⟨_, rfl, ?_⟩
 refine brQ hp (fun hp => tZ) fun hp => ?_
 refine bV st 0 0 ?_
 refine cl1 hp st (fun s_2 _ _ hx_2 => Zyf s_2.fle hx_2 (f0_0.mono st.le)) fun r26 v26 h_4 st hp => ⟨_, rfl, ?_⟩
 have st := st.freeze 0 rfl (Ze frzo_T_impl_Item)
 dsimp only [List.set] at st
 refine cl1 hp st (fun s_3 _ _ hx_3 => ZC6 s_3.fle hx_3 (st.rdF 0 rfl)) fun r28 v28 h_5 st hp => ⟨_, _, rfl, ?_⟩
 refine new_S st fun b6 h_6 st => ?_
 refine Zb st 0 rfl rfl rfl (st.rdL 1 rfl frzf_T_impl_Item).one fun h_7 st => ?_
 dsimp only [List.set] at st
 refine bV st 3 0 ?_
 refine cl1 hp st (fun s_4 _ _ hx_4 => Zyf s_4.fle hx_4 (f0_0.mono st.le)) fun r32 v32 h_8 st hp => ⟨_, rfl, ?_⟩
 refine new_S st fun b8 h_9 st => ?_
 refine Zb st 0 rfl rfl rfl (st.rdL 1 rfl frzo_T_impl_Item).one fun h_10 st => ?_
 dsimp only [List.set] at st
 refine bV st 0 0 ?_
 refine cl1 hp st (fun s_5 _ _ hx_5 => ZCO s_5.fle hx_5 (st.rdL 1 rfl frzo_T_impl_Item)) fun r36 v36 h_11 st hp => ⟨_, _, rfl, ?_⟩
 refine new_S st fun b9 h_12 st => ?_
 refine Zb st 0 rfl rfl rfl (st.rdL 1 rfl frzo_T_impl_Item).one fun h_13 st => ?_
 dsimp only [List.set] at st
 refine ⟨fun h_14 => S ψ h h_14 [.box b9 [v36], .it (El.ow ZwW) [v36] r36.1.Items, .box b8 [v32], .it (El.ow ZwW) [v32] r32.Items, .box b6 [v28], .it (El.ow ZwU) [v28] r28.1.Items, .it (El.sl ZwU) [v26] r26.Items, .box b2 [v0_0]] ∧ ZCy y0 y1 r28 r32 r36 = some r, ?_, ?_⟩
 ·refine bV st 0 0 ?_
  refine bV st 4 0 ?_
  refine cl0 hp st (fun s_16 _ _ hx_16 => ZAd s_16.fle hx_16 (st.rdL 1 rfl frzo_T_impl_Item) (st.rdL 5 rfl frzf_T_impl_Item)) fun r41 h_29 st hp => ⟨_, rfl, ?_⟩
  refine brQ hp (fun hp => tZ) fun hp => ?_
  refine brQ hp (fun hp => tZ) fun hp => ?_
  exact ⟨pk st [0,1,2,3,4,5,6,7], hp⟩
 ·rintro _ h_14 ⟨st, hp⟩
  rw [ZCy] at hp
  refine ⟨fun _ => False, ?_⟩
  have stR_11 := st
  have xR_11 := ExtH.refl h_14
  refine bV st 7 0 ?_
  obtain ⟨r50, hx_6, hp⟩ := obind hp
  obtain ⟨φ_6, L_6, s_6, r_7⟩ := id st
  refine (Zyf s_6.fle hx_6 (f0_0.mono st.le)).mono fun v_7 h_15 ⟨v50, eq_6, t_6⟩ => ⟨_, eq_6, ExtBut.of_ext (xR_11.trans t_6.ext), ?_⟩
  replace xR_11 := xR_11.trans t_6.ext
  replace st := join1 s_6 r_7 t_6
  clear t_6 s_6 r_7
  have st := st.freeze 0 rfl (Ze frzo_T_impl_Item)
  dsimp only [List.set] at st
  refine Z7 ?_
  refine ldV_K (stR_11.cells 2 rfl) 0 rfl rfl ?_
  refine cl0 hp st (fun s_7 _ _ hx_7 => ZAd s_7.fle hx_7 (st.rdL 4 rfl frzo_T_impl_Item) (st.rdF 0 rfl)) fun r51 h_16 st hp => ⟨_, rfl, ?_⟩
  refine brQ hp (fun hp => tZ) fun hp => ?_
  refine bV st 3 0 ?_
  have st : S ψ h h_16 [.it (El.ow ZwW) [v32] r32.Items, .it (El.sl ZwU) [v50] r50.Items, .box b9 [v36], .it (El.ow ZwW) [v36] r36.1.Items, .box b8 [v32], .box b6 [v28], .it (El.ow ZwU) [v28] r28.1.Items, .it (El.sl ZwU) [v26] r26.Items, .box b2 [v0_0]] := pk st [4,0,1,2,3,5,6,7,8]
  obtain ⟨r55, hx_8, hp⟩ := obind hp
  obtain ⟨φ_8, L_8, s_8, r_9⟩ := id st
  refine (ZAT hx_8 (s_8.upS r_9) ).mono fun v_9 h_17 ⟨eq_8, t_8⟩ => ⟨_, eq_8, ?_⟩
  replace st := s_8.downS t_8
  clear t_8 s_8 r_9
  refine ⟨fun h_18 => S ψ h h_18 [.it (El.ow ZwW) [v32] r55.2.Items, .it (El.sl ZwU) [v50] r50.Items, .box b9 [v36], .it (El.ow ZwW) [v36] r36.1.Items, .box b8 [v32], .box b6 [v28], .it (El.ow ZwU) [v28] r28.1.Items, .it (El.sl ZwU) [v26] r26.Items, .box b2 [v0_0]] ∧ ZCt y0 y1 r28 r36 = some r, ?_, ?_⟩
  ·refine brQ hp (fun hp => tZ) fun hp => ?_
   refine bV st 2 0 ?_
   refine bV st 5 0 ?_
   refine cl0 hp st (fun s_15 _ _ hx_15 => ZAd s_15.fle hx_15 (st.rdL 3 rfl frzo_T_impl_Item) (st.rdL 6 rfl frzf_T_impl_Item)) fun r61 h_28 st hp => ⟨_, rfl, ?_⟩
   refine brQ hp (fun hp => tZ) fun hp => ?_
   refine brQ hp (fun hp => tZ) fun hp => ?_
   exact ⟨pk st [0,1,2,3,4,5,6,7,8], hp⟩
  ·rintro _ h_18 ⟨st, hp⟩
   rw [ZCt] at hp
   refine bV st 2 0 ?_
   have st : S ψ h h_18 [.it (El.ow ZwW) [v36] r36.1.Items, .it (El.ow ZwW) [v32] r55.2.Items, .it (El.sl ZwU) [v50] r50.Items, .box b9 [v36], .box b8 [v32], .box b6 [v28], .it (El.ow ZwU) [v28] r28.1.Items, .it (El.sl ZwU) [v26] r26.Items, .box b2 [v0_0]] := pk st [3,0,1,2,4,5,6,7,8]
   obtain ⟨r71, hx_9, hp⟩ := obind hp
   obtain ⟨φ_9, L_9, s_9, r_10⟩ := id st
   refine (ZAT hx_9 (s_9.upS r_10) ).mono fun v_10 h_19 ⟨eq_9, t_9⟩ => ⟨_, eq_9, ?_⟩
   replace st := s_9.downS t_9
   clear t_9 s_9 r_10
   refine bV st 3 0 ?_
   refine cl0 hp st (fun s_10 _ _ hx_10 => (ZCK s_10.fle hx_10 (st.rdL 0 rfl frzo_T_impl_Item)).mono fun _ _ x => x) fun r74 h_20 st hp => ⟨_, rfl, ?_⟩
   refine brQ hp (fun hp => tZ) fun hp => ?_
   refine brQ hp (fun hp => tZ) fun hp => ?_
   refine bV st 8 0 ?_
   refine cl1 hp st (fun s_11 _ _ hx_11 => Zyf s_11.fle hx_11 (f0_0.mono st.le)) fun r82 v82 h_21 st hp => ⟨_, rfl, ?_⟩
   have st := st.freeze 0 rfl (Ze frzo_T_impl_Item)
   dsimp only [List.set] at st
   refine cl1 hp st (fun s_12 _ _ hx_12 => ZCO s_12.fle hx_12 (st.rdF 0 rfl)) fun r84 v84 h_22 st hp => ⟨_, _, rfl, ?_⟩
   refine new_S st fun b14 h_23 st => ?_
   refine Zb st 0 rfl rfl rfl (st.rdL 1 rfl frzo_T_impl_Item).one fun h_24 st => ?_
   dsimp only [List.set] at st
   refine ⟨fun h_25 => S ψ h h_25 [.box b14 [v84], .it (El.ow ZwW) [v84] r84.1.Items, .it (El.sl ZwU) [v82] r82.Items, .it (El.ow ZwW) [v36] r71.2.Items, .it (El.ow ZwW) [v32] r55.2.Items, .it (El.sl ZwU) [v50] r50.Items, .box b9 [v36], .box b8 [v32], .box b6 [v28], .it (El.ow ZwU) [v28] r28.1.Items, .it (El.sl ZwU) [v26] r26.Items, .box b2 [v0_0]] ∧ ZCw r71 = some r, ?_, ?_⟩
   ·refine bV st 0 0 ?_
    refine bV st 8 0 ?_
    refine cl0 hp st (fun s_14 _ _ hx_14 => ZAd s_14.fle hx_14 (st.rdL 1 rfl frzo_T_impl_Item) (st.rdL 9 rfl frzf_T_impl_Item)) fun r89 h_27 st hp => ⟨_, rfl, ?_⟩
    refine brQ hp (fun hp => tZ) fun hp => ?_
    refine brQ hp (fun hp => tZ) fun hp => ?_
    exact ⟨pk st [0,1,2,3,4,5,6,7,8,9,10,11], hp⟩
   ·rintro _ h_25 ⟨st, hp⟩
    rw [ZCw] at hp
    refine bV st 6 0 ?_
    refine cl0 hp st (fun s_13 _ _ hx_13 => (ZCK s_13.fle hx_13 (st.rdL 3 rfl frzo_T_impl_Item)).mono fun _ _ x => x) fun r98 h_26 st hp => ⟨_, rfl, ?_⟩
    refine brQ hp (fun hp => tZ) fun hp => ?_
    exact brQ hp (fun hp => tZ) fun hp => tZ
end
end Go.Proofs.YtapkemdomnkccaaGreat
