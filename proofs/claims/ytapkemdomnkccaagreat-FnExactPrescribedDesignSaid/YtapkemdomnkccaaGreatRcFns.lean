/- Each call computes its plain function: printed by pgen.py. -/
import Derived.Test.YtapkemdomnkccaaGreatRcFnsP1
namespace Go.Proofs.YtapkemdomnkccaaGreat
open Go Go.Vc
set_option linter.unusedVariables false
set_option linter.unusedSimpArgs false
theorem rq_impl_chooser_search {rf_impl_chooser_search : ZDh → Int → Option ZDh}  (ih_impl_chooser_search : ∀ {ψ : CM} {h0 h : Heap} {os : List Ob} {y0 : ZDh} {b0 : Nat} {post0 : List Value} {v0_2 : Value} {v0_5 : Value} {v0_6 : Value} {v0_7 : Value} {v0_9 : Value} {y1 : Int} {r : ZDh} (hp : rf_impl_chooser_search y0 y1 = some r) (st : S ψ h0 h (.box b0 (.int .i64 y0.qcounter.qleft :: .bool y0.qcounter.qspent :: v0_2 :: .int .i64 y0.qlambda :: .int .i64 y0.qlimit :: v0_5 :: v0_6 :: v0_7 :: .int .i64 y0.qcount :: v0_9 :: post0) :: .it oL [v0_5] y0.qsums :: .it oL [v0_6] y0.qlater :: .it oL [v0_7] y0.qchosen :: .it oL [v0_9] y0.qfirst :: os)) (f0_2 : SlC (UB ψ h0) eL v0_2 y0.qmatrix), CallsH P ZDF #[.pointer (some ⟨b0, 0, none⟩), .int .i64 y1] h (fun v h' => ∃ w0 : Value, ∃ w1 : Value, ∃ w2 : Value, ∃ w3 : Value, v = .tuple #[] ∧ S ψ h0 h' (.box b0 (.int .i64 r.qcounter.qleft :: .bool r.qcounter.qspent :: v0_2 :: .int .i64 r.qlambda :: .int .i64 r.qlimit :: w0 :: w1 :: w2 :: .int .i64 r.qcount :: w3 :: post0) :: .it oL [w0] r.qsums :: .it oL [w1] r.qlater :: .it oL [w2] r.qchosen :: .it oL [w3] r.qfirst :: os))) : ∀ {ψ : CM} {h0 h : Heap} {os : List Ob} {y0 : ZDh} {b0 : Nat} {post0 : List Value} {v0_2 : Value} {v0_5 : Value} {v0_6 : Value} {v0_7 : Value} {v0_9 : Value} {y1 : Int} {r : ZDh} (hp : q_impl_chooser_search rf_impl_chooser_search y0 y1 = some r) (st : S ψ h0 h (.box b0 (.int .i64 y0.qcounter.qleft :: .bool y0.qcounter.qspent :: v0_2 :: .int .i64 y0.qlambda :: .int .i64 y0.qlimit :: v0_5 :: v0_6 :: v0_7 :: .int .i64 y0.qcount :: v0_9 :: post0) :: .it oL [v0_5] y0.qsums :: .it oL [v0_6] y0.qlater :: .it oL [v0_7] y0.qchosen :: .it oL [v0_9] y0.qfirst :: os)) (f0_2 : SlC (UB ψ h0) eL v0_2 y0.qmatrix), CallsH P ZDF #[.pointer (some ⟨b0, 0, none⟩), .int .i64 y1] h (fun v h' => ∃ w0 : Value, ∃ w1 : Value, ∃ w2 : Value, ∃ w3 : Value, v = .tuple #[] ∧ S ψ h0 h' (.box b0 (.int .i64 r.qcounter.qleft :: .bool r.qcounter.qspent :: v0_2 :: .int .i64 r.qlambda :: .int .i64 r.qlimit :: w0 :: w1 :: w2 :: .int .i64 r.qcount :: w3 :: post0) :: .it oL [w0] r.qsums :: .it oL [w1] r.qlater :: .it oL [w2] r.qchosen :: .it oL [w3] r.qfirst :: os)) := by
 intro ψ h0 h os y0 b0 post0 v0_2 v0_5 v0_6 v0_7 v0_9 y1 r hp st f0_2
 apply ZIi
 rw [q_impl_chooser_search] at hp
 refine bV st 0 2 ?_
 refine ixV f0_2 st.leU hp fun e11 u12 f hp => ?_
 refine vL f st.leU ?_
 refine brQ hp (fun hp => ?_) fun hp => ?_
 ·refine cl0 hp st (fun s _ _ hx_2 => ZHX s.fle hx_2 (CellsC.part 0 10 (st.cells 0 rfl)) (f0_2.mono st.leU) (st.rdL 1 rfl (Za _)) (st.rdL 2 rfl (Za _)) (st.rdL 3 rfl (Za _)) (st.rdL 4 rfl (Za _))) fun r16 h_2 st hp => ⟨_, rfl, ?_⟩
  refine brQ hp (fun hp => ?_) fun hp => ?_
  ·refine ⟨fun h_3 => ∃ xs : List Int, ∃ v_3 : Value, S ψ h0 h_3 (.box b0 (.int .i64 y0.qcounter.qleft :: .bool y0.qcounter.qspent :: v0_2 :: .int .i64 y0.qlambda :: .int .i64 y0.qlimit :: v0_5 :: v0_6 :: v0_7 :: .int .i64 y0.qcount :: v_3 :: post0) :: .it oL [v0_5] y0.qsums :: .it oL [v0_6] y0.qlater :: .it oL [v0_7] y0.qchosen :: .it oL [v_3] xs :: os) ∧ ZEm y0 xs = some r, ?_, ?_⟩
   ·refine bI st 0 8 ?_
    refine brQ hp (fun hp => ?_) fun hp => ?_
    ·refine bV st 0 7 ?_
     refine cl1 hp st (fun s_2 _ _ hx_3 => ZjK s_2.fle hx_3 (st.rdL 3 rfl (Za _))) fun r27 v27 h_5 st hp => ⟨_, rfl, ?_⟩
     refine Zb st 1 rfl rfl rfl (st.rdL 0 rfl (Za _)).one fun h_6 st => ?_
     dsimp only [List.set] at st
     exact ⟨_, _, pkT st 6 [1,2,3,4,0], hp⟩
    ·exact ⟨_, _, pkT st 5 [0,1,2,3,4], hp⟩
   ·rintro _ h_3 ⟨xs, v_3, st, hp⟩
    rw [ZEm] at hp
    refine bI st 0 8 ?_
    refine Zb st 0 rfl rfl rfl rfl fun h_4 st => ?_
    dsimp only [List.set] at st
    obtain rfl := oI hp
    exact ⟨v0_5, v0_6, v0_7, v_3, rfl, pkT st 5 [0,1,2,3,4]⟩
  ·obtain rfl := oI hp
   exact ⟨v0_5, v0_6, v0_7, v0_9, rfl, pkT st 5 [0,1,2,3,4]⟩
 ·refine bV st 0 6 ?_
  have st : S ψ h0 h (.box b0 (.int .i64 y0.qcounter.qleft :: .bool y0.qcounter.qspent :: v0_2 :: .int .i64 y0.qlambda :: .int .i64 y0.qlimit :: v0_5 :: v0_6 :: v0_7 :: .int .i64 y0.qcount :: v0_9 :: post0) :: .it oL [v0_6] y0.qlater :: .it oL [v0_5] y0.qsums :: .it oL [v0_7] y0.qchosen :: .it oL [v0_9] y0.qfirst :: os) := pkT st 5 [0,2,1,3,4]
  obtain ⟨r43, hx_4, hp⟩ := obind hp
  obtain ⟨φ_3, L_3, s_3, r_4⟩ := id st
  refine (ZEi hx_4 (s_3.upS r_4) (f0_2.mono s_3.ubU)).mono fun v_5 h_7 ⟨eq_3, t_3⟩ => ⟨eq_3, ?_⟩
  replace st := s_3.downS t_3
  clear t_3 s_3 r_4
  refine Zan (E := El.bool) (css := [[.bool true], [.bool false]]) (xs := ([true, false] : List Bool)) st (fun _ => ⟨[], [], rfl, ⟨rfl, rfl⟩, ⟨[], [], rfl, ⟨rfl, rfl⟩, rfl⟩⟩) rfl rfl fun v44 h_8 st => ?_
  refine ZC (st.rdL 0 rfl ZDy) ?_
  obtain ⟨n_2, hn⟩ := Zy hp
  refine ⟨fun n y46 h_9 => ∃ q : Int, ∃ q_2 : Bool, ∃ q_3 : Int, ∃ q_4 : Int, ∃ q_5 : Int, ∃ xs_2 : List Int, ∃ v_6 : Value, ∃ xs_3 : List Int, ∃ v_7 : Value, ∃ xs_4 : List Int, ∃ v_8 : Value, ∃ xs_5 : List Int, ∃ v_9 : Value, S ψ h0 h_9 (.it (El.ow El.bool) [v44] ([true, false] : List Bool) :: .box b0 (.int .i64 q :: .bool q_2 :: v0_2 :: .int .i64 q_3 :: .int .i64 q_4 :: v_7 :: v_6 :: v_8 :: .int .i64 q_5 :: v_9 :: post0) :: .it oL [v_6] xs_2 :: .it oL [v_7] xs_3 :: .it oL [v_8] xs_4 :: .it oL [v_9] xs_5 :: os) ∧ loopN (ZDz rf_impl_chooser_search y0 y1) n (y46, q, q_2, q_3, q_4, q_5, xs_2, xs_3, xs_4, xs_5) = some r, ⟨n_2, _, _, _, _, _, _, _, _, _, _, _, _, _, pkT st 6 [0,1,2,3,4,5], hn⟩, ?_⟩
  rintro n _ y46 h_9 ⟨q, q_2, q_3, q_4, q_5, xs_2, v_6, xs_3, v_7, xs_4, v_8, xs_5, v_9, st, hn⟩
  obtain ⟨m, a, rfl, hp, hs⟩ := Zw hn
  rw [ZDz] at hp
  refine brQ hp (fun hp => ?_) fun hp => ?_
  ·refine ixA (st.rdL 0 rfl ZDy) hp fun e48 p48 ad_2 hx_5 hp => ?_
   refine ldB_C (st.rdL 0 rfl ZDy) ad_2 hx_5 ?_
   refine ⟨fun h_10 => ∃ xs_6 : List Int, ∃ xs_7 : List Int, ∃ v_10 : Value, S ψ h0 h_10 (.it (El.ow El.bool) [v44] ([true, false] : List Bool) :: .box b0 (.int .i64 q :: .bool q_2 :: v0_2 :: .int .i64 q_3 :: .int .i64 q_4 :: v_7 :: v_6 :: v_10 :: .int .i64 q_5 :: v_9 :: post0) :: .it oL [v_6] xs_2 :: .it oL [v_7] xs_6 :: .it oL [v_10] xs_7 :: .it oL [v_9] xs_5 :: os) ∧ ZEG rf_impl_chooser_search y0 y1 y46 q q_2 q_3 q_4 q_5 xs_2 xs_5 e48 xs_6 xs_7 = some a, ?_, ?_⟩
   ·refine brQ hp (fun hp => ?_) fun hp => ?_
    ·refine bV st 1 5 ?_
     have st : S ψ h0 h_9 (.box b0 (.int .i64 q :: .bool q_2 :: v0_2 :: .int .i64 q_3 :: .int .i64 q_4 :: v_7 :: v_6 :: v_8 :: .int .i64 q_5 :: v_9 :: post0) :: .it oL [v_7] xs_3 :: .it (El.ow El.bool) [v44] ([true, false] : List Bool) :: .it oL [v_6] xs_2 :: .it oL [v_8] xs_4 :: .it oL [v_9] xs_5 :: os) := pkT st 6 [1,3,0,2,4,5]
     obtain ⟨r57, hx_11, hp⟩ := obind hp
     obtain ⟨φ_8, L_8, s_8, r_9⟩ := id st
     refine (ZEi hx_11 (s_8.upS r_9) (f0_2.mono s_8.ubU)).mono fun v_19 h_17 ⟨eq_8, t_8⟩ => ⟨eq_8, ?_⟩
     replace st := s_8.downS t_8
     clear t_8 s_8 r_9
     refine bV st 0 7 ?_
     obtain ⟨l65, hx_12, hp⟩ := obind hp
     refine Zad st 4 rfl (fun _ => ⟨rfl, rfl⟩) rfl rfl hx_12 fun v65 h_18 st => ?_
     refine Zb st 0 rfl rfl rfl (st.rdL 4 rfl (Za _)).one fun h_19 st => ?_
     dsimp only [List.set] at st
     exact ⟨_, _, _, pkT st 6 [2,0,3,1,4,5], hp⟩
    ·exact ⟨_, _, _, pkT st 6 [0,1,2,3,4,5], hp⟩
   ·rintro _ h_10 ⟨xs_6, xs_7, v_10, st, hp⟩
    rw [ZEG] at hp
    refine ⟨fun h_11 => ∃ q_6 : Int, ∃ q_7 : Bool, ∃ q_8 : Int, ∃ q_9 : Int, ∃ q_10 : Int, ∃ xs_8 : List Int, ∃ v_11 : Value, ∃ xs_9 : List Int, ∃ v_12 : Value, ∃ xs_10 : List Int, ∃ v_13 : Value, ∃ xs_11 : List Int, ∃ v_14 : Value, S ψ h0 h_11 (.it (El.ow El.bool) [v44] ([true, false] : List Bool) :: .box b0 (.int .i64 q_6 :: .bool q_7 :: v0_2 :: .int .i64 q_8 :: .int .i64 q_9 :: v_12 :: v_11 :: v_13 :: .int .i64 q_10 :: v_14 :: post0) :: .it oL [v_11] xs_8 :: .it oL [v_12] xs_9 :: .it oL [v_13] xs_10 :: .it oL [v_14] xs_11 :: os) ∧ ZDt y0 y1 y46 e48 q_6 q_7 q_8 q_9 q_10 xs_8 xs_9 xs_10 xs_11 = some a, ?_, ?_⟩
    ·refine cl0 hp st (fun s_5 _ _ hx_8 => ZHX s_5.fle hx_8 (CellsC.part 0 10 (st.cells 1 rfl)) (f0_2.mono st.leU) (st.rdL 3 rfl (Za _)) (st.rdL 2 rfl (Za _)) (st.rdL 4 rfl (Za _)) (st.rdL 5 rfl (Za _))) fun r69 h_14 st hp => ⟨_, rfl, ?_⟩
     refine brQ hp (fun hp => ?_) fun hp => ?_
     ·refine bI st 1 8 ?_
      refine bI st 1 4 ?_
      refine brQ hp (fun hp => ?_) fun hp => ?_
      ·refine bB st 1 1 ?_
       refine brQ hp (fun hp => ?_) fun hp => ?_
       ·have st : S ψ h0 h_14 (.box b0 (.int .i64 q :: .bool q_2 :: v0_2 :: .int .i64 q_3 :: .int .i64 q_4 :: v_7 :: v_6 :: v_10 :: .int .i64 q_5 :: v_9 :: post0) :: .it (El.ow El.bool) [v44] ([true, false] : List Bool) :: .it oL [v_6] xs_2 :: .it oL [v_7] xs_6 :: .it oL [v_10] xs_7 :: .it oL [v_9] xs_5 :: os) := pkT st 6 [1,0,2,3,4,5]
        obtain ⟨r93, hx_9, hp⟩ := obind hp
        obtain ⟨φ_6, L_6, s_6, r_7⟩ := id st
        refine (ZJX hx_9 (s_6.upS r_7) ).mono fun v_17 h_15 ⟨eq_6, t_6⟩ => ⟨_, eq_6, ?_⟩
        replace st := s_6.downS t_6
        clear t_6 s_6 r_7
        refine brQ hp (fun hp => ?_) fun hp => ?_
        ·have st : S ψ h0 h_15 (.box b0 (.int .i64 r93.2.qleft :: .bool r93.2.qspent :: v0_2 :: .int .i64 q_3 :: .int .i64 q_4 :: v_7 :: v_6 :: v_10 :: .int .i64 q_5 :: v_9 :: post0) :: .it oL [v_7] xs_6 :: .it oL [v_6] xs_2 :: .it oL [v_10] xs_7 :: .it oL [v_9] xs_5 :: .it (El.ow El.bool) [v44] ([true, false] : List Bool) :: os) := pkT st 6 [0,3,2,4,5,1]
         obtain ⟨r98, hx_10, hp⟩ := obind hp
         obtain ⟨φ_7, L_7, s_7, r_8⟩ := id st
         refine (ih_impl_chooser_search hx_10 (s_7.upS r_8) (f0_2.mono s_7.ubU)).mono fun v_18 h_16 ⟨v98, v98_2, v98_3, v98_4, eq_7, t_7⟩ => ⟨eq_7, ?_⟩
         replace st := s_7.downS t_7
         clear t_7 s_7 r_8
         exact ⟨_, _, _, _, _, _, _, _, _, _, _, _, _, pkT st 6 [5,0,2,1,3,4], hp⟩
        ·exact ⟨_, _, _, _, _, _, _, _, _, _, _, _, _, pkT st 6 [1,0,2,3,4,5], hp⟩
       ·exact ⟨_, _, _, _, _, _, _, _, _, _, _, _, _, pkT st 6 [0,1,2,3,4,5], hp⟩
      ·exact ⟨_, _, _, _, _, _, _, _, _, _, _, _, _, pkT st 6 [0,1,2,3,4,5], hp⟩
     ·exact ⟨_, _, _, _, _, _, _, _, _, _, _, _, _, pkT st 6 [0,1,2,3,4,5], hp⟩
    ·rintro _ h_11 ⟨q_6, q_7, q_8, q_9, q_10, xs_8, v_11, xs_9, v_12, xs_10, v_13, xs_11, v_14, st, hp⟩
     rw [ZDt] at hp
     refine brQ hp (fun hp => ?_) fun hp => ?_
     ·refine bV st 1 5 ?_
      have st : S ψ h0 h_11 (.box b0 (.int .i64 q_6 :: .bool q_7 :: v0_2 :: .int .i64 q_8 :: .int .i64 q_9 :: v_12 :: v_11 :: v_13 :: .int .i64 q_10 :: v_14 :: post0) :: .it oL [v_12] xs_9 :: .it (El.ow El.bool) [v44] ([true, false] : List Bool) :: .it oL [v_11] xs_8 :: .it oL [v_13] xs_10 :: .it oL [v_14] xs_11 :: os) := pkT st 6 [1,3,0,2,4,5]
      obtain ⟨r106, hx_6, hp⟩ := obind hp
      obtain ⟨φ_4, L_4, s_4, r_5⟩ := id st
      refine (ZEi hx_6 (s_4.upS r_5) (f0_2.mono s_4.ubU)).mono fun v_15 h_12 ⟨eq_4, t_4⟩ => ⟨eq_4, ?_⟩
      replace st := s_4.downS t_4
      clear t_4 s_4 r_5
      refine bV st 0 7 ?_
      refine bV st 0 7 ?_
      refine ZC (st.rdL 4 rfl (Za _)) ?_
      obtain ⟨l118, hx_7, hp⟩ := obind hp
      refine cut_S none (some (IntKind.i64.wrap ((xs_10.length : Int) - 1))) st 4 rfl hx_7 rfl fun v118 st => ?_
      refine Zb st 0 rfl rfl rfl (st.rdL 4 rfl (Za _)).one fun h_13 st => ?_
      dsimp only [List.set] at st
      obtain rfl := oI hp
      exact ⟨m, ltS, _, _, _, _, _, _, _, _, _, _, _, _, _, pkT st 6 [2,0,3,1,4,5], hs⟩
     ·obtain rfl := oI hp
      exact ⟨m, ltS, _, _, _, _, _, _, _, _, _, _, _, _, _, pkT st 6 [0,1,2,3,4,5], hs⟩
  ·refine bV st 1 6 ?_
   have st : S ψ h0 h_9 (.box b0 (.int .i64 q :: .bool q_2 :: v0_2 :: .int .i64 q_3 :: .int .i64 q_4 :: v_7 :: v_6 :: v_8 :: .int .i64 q_5 :: v_9 :: post0) :: .it oL [v_6] xs_2 :: .it (El.ow El.bool) [v44] ([true, false] : List Bool) :: .it oL [v_7] xs_3 :: .it oL [v_8] xs_4 :: .it oL [v_9] xs_5 :: os) := pkT st 6 [1,2,0,3,4,5]
   obtain ⟨r128, hx_13, hp⟩ := obind hp
   obtain ⟨φ_9, L_9, s_9, r_10⟩ := id st
   refine (ZEi hx_13 (s_9.upS r_10) (f0_2.mono s_9.ubU)).mono fun v_20 h_20 ⟨eq_9, t_9⟩ => ⟨eq_9, ?_⟩
   replace st := s_9.downS t_9
   clear t_9 s_9 r_10
   obtain rfl := oI hp
   obtain rfl := oI hs
   exact ⟨v_7, v_6, v_8, v_9, rfl, pkT st 6 [0,3,1,4,5]⟩
theorem rn_impl_chooser_search : ∀ n, (∀ {ψ : CM} {h0 h : Heap} {os : List Ob} {y0 : ZDh} {b0 : Nat} {post0 : List Value} {v0_2 : Value} {v0_5 : Value} {v0_6 : Value} {v0_7 : Value} {v0_9 : Value} {y1 : Int} {r : ZDh} (hp : (pn_impl_chooser_search n) y0 y1 = some r) (st : S ψ h0 h (.box b0 (.int .i64 y0.qcounter.qleft :: .bool y0.qcounter.qspent :: v0_2 :: .int .i64 y0.qlambda :: .int .i64 y0.qlimit :: v0_5 :: v0_6 :: v0_7 :: .int .i64 y0.qcount :: v0_9 :: post0) :: .it oL [v0_5] y0.qsums :: .it oL [v0_6] y0.qlater :: .it oL [v0_7] y0.qchosen :: .it oL [v0_9] y0.qfirst :: os)) (f0_2 : SlC (UB ψ h0) eL v0_2 y0.qmatrix), CallsH P ZDF #[.pointer (some ⟨b0, 0, none⟩), .int .i64 y1] h (fun v h' => ∃ w0 : Value, ∃ w1 : Value, ∃ w2 : Value, ∃ w3 : Value, v = .tuple #[] ∧ S ψ h0 h' (.box b0 (.int .i64 r.qcounter.qleft :: .bool r.qcounter.qspent :: v0_2 :: .int .i64 r.qlambda :: .int .i64 r.qlimit :: w0 :: w1 :: w2 :: .int .i64 r.qcount :: w3 :: post0) :: .it oL [w0] r.qsums :: .it oL [w1] r.qlater :: .it oL [w2] r.qchosen :: .it oL [w3] r.qfirst :: os))) := by
  intro n
  induction n with
  | zero => exact fun hp => absurd hp (by simp [pn_impl_chooser_search])
  | succ n ih => exact rq_impl_chooser_search ih
theorem ZHp : ∀ {ψ : CM} {h0 h : Heap} {os : List Ob} {y0 : ZDh} {b0 : Nat} {post0 : List Value} {v0_2 : Value} {v0_5 : Value} {v0_6 : Value} {v0_7 : Value} {v0_9 : Value} {y1 : Int} {r : ZDh} (hp : ZEK y0 y1 = some r) (st : S ψ h0 h (.box b0 (.int .i64 y0.qcounter.qleft :: .bool y0.qcounter.qspent :: v0_2 :: .int .i64 y0.qlambda :: .int .i64 y0.qlimit :: v0_5 :: v0_6 :: v0_7 :: .int .i64 y0.qcount :: v0_9 :: post0) :: .it oL [v0_5] y0.qsums :: .it oL [v0_6] y0.qlater :: .it oL [v0_7] y0.qchosen :: .it oL [v0_9] y0.qfirst :: os)) (f0_2 : SlC (UB ψ h0) eL v0_2 y0.qmatrix), CallsH P ZDF #[.pointer (some ⟨b0, 0, none⟩), .int .i64 y1] h (fun v h' => ∃ w0 : Value, ∃ w1 : Value, ∃ w2 : Value, ∃ w3 : Value, v = .tuple #[] ∧ S ψ h0 h' (.box b0 (.int .i64 r.qcounter.qleft :: .bool r.qcounter.qspent :: v0_2 :: .int .i64 r.qlambda :: .int .i64 r.qlimit :: w0 :: w1 :: w2 :: .int .i64 r.qcount :: w3 :: post0) :: .it oL [w0] r.qsums :: .it oL [w1] r.qlater :: .it oL [w2] r.qchosen :: .it oL [w3] r.qfirst :: os)) := (rn_impl_chooser_search fuel)
section
variable {ψ : CM} {h : Heap} (hψ : CLe ψ (hcell h))
include hψ
theorem ZIk {m0 v0 lambda1 limit2 budget3 r} (hp : ZE9 m0 lambda1 limit2 budget3 = some r) (f0 : SlC (hcell h) eL v0 m0) : CallsH P ZG4 #[v0, .int .i64 lambda1, .int .i64 limit2, .int .i64 budget3] h (fun v h' => ∃ wb0 : Nat, ∃ w1 : Value, ∃ w2 : Value, ∃ w3 : Value, ∃ w4 : Value, ∃ w5 : Value, v = .pointer (some ⟨wb0, 0, none⟩) ∧ S ψ h h' [.box wb0 [.int .i64 r.qcounter.qleft, .bool r.qcounter.qspent, w1, .int .i64 r.qlambda, .int .i64 r.qlimit, w2, w3, w4, .int .i64 r.qcount, w5], .it oL [w2] r.qsums, .it oL [w3] r.qlater, .it oL [w4] r.qchosen, .it oL [w5] r.qfirst]) := by
 apply ZIF
 rw [ZE9] at hp
 have st := S.start hψ
 obtain ⟨l18, hx, hp⟩ := obind hp
 obtain ⟨l21, hx_2, hp⟩ := obind hp
 refine ⟨?_, ?_⟩
 ·refine vL f0 st.le ?_
  refine Zaz (E := eI) st rfl hx fun v18_3 h_11 st => ?_
  refine vL f0 st.le ?_
  refine Zaz (E := eI) st rfl hx_2 fun v21_3 h_12 st => ?_
  refine Zz (f0.mono st.le).one ?_
  refine Zz (st.rdL 1 rfl (Za _)).one ?_
  refine Zz (st.rdL 0 rfl (Za _)).one ?_
  refine new_S st fun b23_3 h_13 st => ?_
  refine ixV f0 st.le hp fun e25_2 u26_2 f_2 hp => ?_
  refine vL f_2 st.le ?_
  obtain ⟨n_4, hn_2⟩ := Zy hp
  refine ⟨fun n_3 y28_2 h_14 => ∃ xs_2 : List Int, S ψ h h_14 [.box b23_3 [.int .i64 budget3, .bool false, v0, .int .i64 lambda1, .int .i64 limit2, v18_3, v21_3, (.slice none 0 0), .int .i64 0, (.slice none 0 0)], .it oL [v21_3] xs_2, .it oL [v18_3] l18] ∧ loopN (ZEc m0 lambda1 limit2 budget3 l18 e25_2) n_3 (y28_2, xs_2) = some r, ⟨n_4, _, pk st [0,1,2], hn_2⟩, ?_⟩
  rintro n_3 _ y28_2 h_14 ⟨xs_2, st, hn_2⟩
  obtain ⟨m_2, a_2, rfl, hp, hs_2⟩ := Zw hn_2
  rw [ZEc] at hp
  refine brQ hp (fun hp => ?_) fun hp => ?_
  ·refine bV st 0 6 ?_
   obtain ⟨r37_2, hx_7, hp⟩ := obind hp
   obtain ⟨φ_3, L_3, s_3, r_4⟩ := id st
   refine (ZEi hx_7 (s_3.upS r_4) (f0.mono s_3.ubH)).mono fun v_4 h_15 ⟨eq_3, t_3⟩ => ⟨eq_3, ?_⟩
   replace st := s_3.downS t_3
   clear t_3 s_3 r_4
   obtain rfl := oI hp
   exact ⟨m_2, ltS, _, pk st [0,1,2], hs_2⟩
  ·have st := st.nil eI
   have st := st.nil eI
   have st : S ψ h h_14 [.box b23_3 [.int .i64 budget3, .bool false, v0, .int .i64 lambda1, .int .i64 limit2, v18_3, v21_3, (.slice none 0 0), .int .i64 0, (.slice none 0 0)], .it oL [v18_3] l18, .it oL [v21_3] xs_2, .it oL [(.slice none 0 0)] ([] : List Int), .it oL [(.slice none 0 0)] ([] : List Int)] := pk st [2,4,3,1,0]
   obtain ⟨r40_2, hx_8, hp⟩ := obind hp
   obtain ⟨φ_4, L_4, s_4, r_5⟩ := id st
   refine (ZHp hx_8 (s_4.upS r_5) (f0.mono s_4.ubH)).mono fun v_5 h_16 ⟨v40_5, v40_6, v40_7, v40_8, eq_4, t_4⟩ => ⟨eq_4, ?_⟩
   replace st := s_4.downS t_4
   clear t_4 s_4 r_5
   obtain rfl := oI hp
   obtain rfl := oI hs_2
   exact ⟨b23_3, v0, v40_5, v40_6, v40_7, v40_8, rfl, pk st [0,1,2,3,4]⟩
 ·refine vL f0 st.le ?_
  refine Zaz (E := eI) st rfl hx_2 fun v21_4 h_17 st => ?_
  refine vL f0 st.le ?_
  refine Zaz (E := eI) st rfl hx fun v18_4 h_18 st => ?_
  refine Zz (f0.mono st.le).one ?_
  refine Zz (st.rdL 0 rfl (Za _)).one ?_
  refine Zz (st.rdL 1 rfl (Za _)).one ?_
  refine new_S st fun b23_4 h_19 st => ?_
  refine ixV f0 st.le hp fun e25_3 u26_3 f_3 hp => ?_
  refine vL f_3 st.le ?_
  obtain ⟨n_6, hn_3⟩ := Zy hp
  refine ⟨fun n_5 y28_3 h_20 => ∃ xs_3 : List Int, S ψ h h_20 [.box b23_4 [.int .i64 budget3, .bool false, v0, .int .i64 lambda1, .int .i64 limit2, v18_4, v21_4, (.slice none 0 0), .int .i64 0, (.slice none 0 0)], .it oL [v18_4] l18, .it oL [v21_4] xs_3] ∧ loopN (ZEc m0 lambda1 limit2 budget3 l18 e25_3) n_5 (y28_3, xs_3) = some r, ⟨n_6, _, pk st [0,1,2], hn_3⟩, ?_⟩
  rintro n_5 _ y28_3 h_20 ⟨xs_3, st, hn_3⟩
  obtain ⟨m_3, a_3, rfl, hp, hs_3⟩ := Zw hn_3
  rw [ZEc] at hp
  refine brQ hp (fun hp => ?_) fun hp => ?_
  ·refine bV st 0 6 ?_
   have st : S ψ h h_20 [.box b23_4 [.int .i64 budget3, .bool false, v0, .int .i64 lambda1, .int .i64 limit2, v18_4, v21_4, (.slice none 0 0), .int .i64 0, (.slice none 0 0)], .it oL [v21_4] xs_3, .it oL [v18_4] l18] := pk st [0,2,1]
   obtain ⟨r37_3, hx_10, hp⟩ := obind hp
   obtain ⟨φ_5, L_5, s_5, r_6⟩ := id st
   refine (ZEi hx_10 (s_5.upS r_6) (f0.mono s_5.ubH)).mono fun v_6 h_21 ⟨eq_5, t_5⟩ => ⟨eq_5, ?_⟩
   replace st := s_5.downS t_5
   clear t_5 s_5 r_6
   obtain rfl := oI hp
   exact ⟨m_3, ltS, _, pk st [0,2,1], hs_3⟩
  ·have st := st.nil eI
   have st := st.nil eI
   have st : S ψ h h_20 [.box b23_4 [.int .i64 budget3, .bool false, v0, .int .i64 lambda1, .int .i64 limit2, v18_4, v21_4, (.slice none 0 0), .int .i64 0, (.slice none 0 0)], .it oL [v18_4] l18, .it oL [v21_4] xs_3, .it oL [(.slice none 0 0)] ([] : List Int), .it oL [(.slice none 0 0)] ([] : List Int)] := pk st [2,3,4,1,0]
   obtain ⟨r40_3, hx_11, hp⟩ := obind hp
   obtain ⟨φ_6, L_6, s_6, r_7⟩ := id st
   refine (ZHp hx_11 (s_6.upS r_7) (f0.mono s_6.ubH)).mono fun v_7 h_22 ⟨v40_9, v40_10, v40_11, v40_12, eq_6, t_6⟩ => ⟨eq_6, ?_⟩
   replace st := s_6.downS t_6
   clear t_6 s_6 r_7
   obtain rfl := oI hp
   obtain rfl := oI hs_3
   exact ⟨b23_4, v0, v40_9, v40_10, v40_11, v40_12, rfl, pk st [0,1,2,3,4]⟩
theorem ZIY {m0 v0 lambda1 budget2 r} (hp : ZDY m0 lambda1 budget2 = some r) (f0 : SlC (hcell h) eL v0 m0) : CallsH P ZGL #[v0, .int .i64 lambda1, .int .i64 budget2] h (fun v h' => ∃ w0 : Value, v = .tuple #[w0, .int .i64 r.2] ∧ S ψ h h' [.it oL [w0] r.1]) := by
 apply ZKG
 rw [ZDY] at hp
 have st := S.start hψ
 refine cl0 hp st (fun s _ _ hx => ZKl s.fle hx (f0.mono st.le)) fun r10 h_2 st hp => ⟨_, rfl, ?_⟩
 refine brQ hp (fun hp => ?_) fun hp => ?_
 ·have st := st.nilO (E := eI)
  obtain rfl := oI hp
  exact ⟨(.slice none 0 0), rfl, pk st [0]⟩
 ·refine ⟨fun h_3 => S ψ h h_3 [] ∧ ZF0 m0 lambda1 budget2 = some r, ?_, ?_⟩
  ·refine cl0 hp st (fun s_3 _ _ hx_3 => ZH2 s_3.fle hx_3) fun r13 h_5 st hp => ⟨_, rfl, ?_⟩
   refine brQ hp (fun hp => ?_) fun hp => ?_
   ·have st := st.nilO (E := eI)
    obtain rfl := oI hp
    exact ⟨(.slice none 0 0), rfl, pk st [0]⟩
   ·refine cl0 hp st (fun s_4 _ _ hx_4 => ZKm s_4.fle hx_4) fun r17 h_6 st hp => ⟨_, rfl, ?_⟩
    refine brR hp (fun hp => tZ) fun hp => ?_
    have st := st.nilO (E := eI)
    obtain rfl := oI hp
    exact ⟨(.slice none 0 0), rfl, pk st [0]⟩
  ·rintro _ h_3 ⟨st, hp⟩
   rw [ZF0] at hp
   obtain ⟨r23, hx_2, hp⟩ := obind hp
   obtain ⟨φ_2, L_2, s_2, r_3⟩ := id st
   refine (ZIk s_2.fle hx_2 (f0.mono st.le)).mono fun v_3 h_4 ⟨b23, v23, v23_2, v23_3, v23_4, v23_5, eq_2, t_2⟩ => ⟨_, eq_2, ?_⟩
   replace st := join5 s_2 r_3 t_2
   clear t_2 s_2 r_3
   refine bB st 0 1 ?_
   refine brQ hp (fun hp => ?_) fun hp => ?_
   ·have st := st.nilO (E := eI)
    obtain rfl := oI hp
    exact ⟨(.slice none 0 0), rfl, pk st [0]⟩
   ·refine bI st 0 8 ?_
    refine brQ hp (fun hp => ?_) fun hp => ?_
    ·have st := st.nilO (E := eI)
     obtain rfl := oI hp
     exact ⟨(.slice none 0 0), rfl, pk st [0]⟩
    ·refine bV st 0 9 ?_
     obtain rfl := oI hp
     exact ⟨v23_5, rfl, pk st [4]⟩
theorem ZIu {list0 v0 n1 r} (hp : ZFw list0 n1 = some r) (f0 : SlC (hcell h) eI v0 list0) : zR ZGN #[v0, .int .i64 n1] h ψ (.bool r) := by
 apply ZIt
 rw [ZFw] at hp
 have st := S.start hψ
 refine vL f0 st.le ?_
 refine lp2 hp (nlS st) fun m last5 y10 h_2 a st hp hs => ?_
 rw [ZDw] at hp
 refine brR hp (fun hp => tZ) fun hp => ?_
 refine ixI (f0.mono st.le) hp fun e12 hp => ?_
 refine cl0 hp st (fun s _ _ hx_2 => Zah s.fle hx_2) fun r19 h_3 st hp => ⟨_, rfl, ?_⟩
 exact brQ hp (fun hp => tZ) fun hp => tZ
theorem ZJw {list0 v0 r} (hp : ZF1 list0 = some r) (f0 : SlC (hcell h) (El.sl eL) v0 list0) : zR ZGP #[v0] h ψ (.int .i64 r) := by
 apply ZJH
 rw [ZF1] at hp
 have st := S.start hψ
 refine vL f0 st.le ?_
 exact tZ
theorem Zd1 {lists0 v0 r} (hp : Zbc lists0 = some r) (f0 : SlC (hcell h) eL v0 lists0) : zL ZbL #[v0] h ψ oL r := by
 apply Zuu
 rw [Zbc] at hp
 have st := S.start hψ
 refine vL f0 st.le ?_
 have st := st.nilO (E := oL)
 obtain ⟨n_2, hn⟩ := Zy hp
 refine ⟨fun n v3 y8 h_2 => ∃ out3 : List (List Int), S ψ h h_2 [.it (El.ow oL) [v3] out3] ∧ loopN (Zdh lists0) n (out3, y8) = some r, ⟨n_2, _, pk st [0], hn⟩, ?_⟩
 rintro n _ v3 y8 h_2 ⟨out3, st, hn⟩
 obtain ⟨m, a, rfl, hp, hs⟩ := Zw hn
 rw [Zdh] at hp
 refine brQ hp (fun hp => ?_) fun hp => ?_
 ·refine ixV f0 st.le hp fun e10 u11 f hp => ?_
  refine cl1 hp st (fun s _ _ hx_2 => ZjK s.fle hx_2 (f.mono st.le)) fun r14 v14 h_3 st hp => ⟨_, rfl, ?_⟩
  refine Zz (st.rdL 0 rfl (Za _)).one ?_
  obtain ⟨l16, hx_3, hp⟩ := obind hp
  refine Zcn st 0 rfl rfl rfl hx_3 fun v16 h_4 st => ?_
  dsimp only [List.set] at st
  obtain rfl := oI hp
  exact ⟨m, ltS, _, pk st [0], hs⟩
 ·obtain rfl := oI hp
  obtain rfl := oI hs
  exact ⟨v3, rfl, pk st [0]⟩
theorem ZJO {points0 blocks1 v1 r} (hp : ZEW points0 blocks1 = some r) (f1 : SlC (hcell h) eL v1 blocks1) : CallsH P ZGa #[.int .i64 points0, v1] h (fun v h' => ∃ w0 : Value, v = .tuple #[.agg #[.int .i64 r.1.Points, w0], .int .i64 r.2] ∧ S ψ h h' [.it (El.ow oL) [w0] r.1.Blocks]) := by
 apply ZH8
 rw [ZEW] at hp
 have st := S.start hψ
 refine new_S st fun b4 h_2 st => ?_
 refine vL f1 st.le ?_
 refine brQ hp (fun hp => ?_) fun hp => ?_
 ·refine Zb st 0 rfl rfl rfl rfl fun h_3 st => ?_
  refine Zb st 0 rfl rfl rfl rfl fun h_4 st => ?_
  dsimp only [List.set] at st
  refine bI st 0 0 ?_
  refine bV st 0 1 ?_
  have st := st.nilO (E := oL)
  obtain rfl := oI hp
  exact ⟨(.slice none 0 0), rfl, pk st [0]⟩
 ·refine cl1 hp st (fun s _ _ hx => Zd1 s.fle hx (f1.mono st.le)) fun r13 v13 h_5 st hp => ⟨_, rfl, ?_⟩
  refine Zz (st.rdL 0 rfl (Ze (Za _))).one ?_
  refine new_S st fun b6 h_6 st => ?_
  refine Zb st 0 rfl rfl rfl rfl fun h_7 st => ?_
  refine Zb st 0 rfl rfl rfl (st.rdL 1 rfl (Ze (Za _))).one fun h_8 st => ?_
  dsimp only [List.set] at st
  refine bV st 0 1 ?_
  have st : S ψ h h_8 [.it (El.ow oL) [v13] r13, .box b6 [.int .i64 points0, v13], .box b4 [.int .i64 0, (.slice none 0 0)]] := pk st [1,0,2]
  obtain ⟨r17, hx_2, hp⟩ := obind hp
  obtain ⟨φ_2, L_2, s_2, r_3⟩ := id st
  refine (Zuw hx_2 (s_2.upS r_3) (by kernel_rfl) (fun hx1 => fun hψ1 => fun hp1 ff0 ff1 => Zhq hψ1 hp1 ff0 ff1)).mono fun v_3 h_9 ⟨eq_2, t_2⟩ => ⟨eq_2, ?_⟩
  replace st := s_2.downS t_2
  clear t_2 s_2 r_3
  refine bI st 1 0 ?_
  refine bV st 1 1 ?_
  refine Zb st 2 rfl rfl rfl rfl fun h_10 st => ?_
  refine Zb st 2 rfl rfl rfl (st.rdL 0 rfl (Ze (Za _))).one fun h_11 st => ?_
  dsimp only [List.set] at st
  refine bI st 2 0 ?_
  refine bV st 2 1 ?_
  obtain rfl := oI hp
  exact ⟨v13, rfl, pk st [0]⟩
theorem ZJR {g0 v0_1 k1 orbits2 v2 r} (hp : ZFk g0 k1 orbits2 = some r) (f0_1 : SlC (hcell h) eL v0_1 g0.Elements) (f2 : SlC (hcell h) eI v2 orbits2) : CallsH P ZHa #[.agg #[.int .i64 g0.Degree, v0_1], .int .i64 k1, v2] h (fun v h' => ∃ w0 : Value, v = .tuple #[.agg #[.int .i64 r.1.Points, w0], .int .i64 r.2] ∧ S ψ h h' [.it (El.ow oL) [w0] r.1.Blocks]) := by
 apply ZI6
 rw [ZFk] at hp
 have st := S.start hψ
 refine new_S st fun b3 h_2 st => ?_
 refine new_S st fun b6 h_3 st => ?_
 refine bI st 1 0 ?_
 refine bV st 1 1 ?_
 obtain ⟨r15, hx, hp⟩ := obind hp
 obtain ⟨φ, L, s, r_2⟩ := id st
 refine (ZuS (CLe.refl _) hx (f0_1.mono st.le)).mono fun v_2 h_4 ⟨eq, t⟩ => ⟨_, eq, ?_⟩
 replace st := join0 s r_2 (t.weak s.fle)
 clear t s r_2
 refine brQ hp (fun hp => ?_) fun hp => ?_
 ·refine Zb st 0 rfl rfl rfl rfl fun h_5 st => ?_
  refine Zb st 0 rfl rfl rfl rfl fun h_6 st => ?_
  dsimp only [List.set] at st
  refine bI st 0 0 ?_
  refine bV st 0 1 ?_
  have st := st.nilO (E := oL)
  obtain rfl := oI hp
  exact ⟨(.slice none 0 0), rfl, pk st [0]⟩
 ·refine brQ hp (fun hp => ?_) fun hp => ?_
  ·refine Zb st 0 rfl rfl rfl rfl fun h_7 st => ?_
   refine Zb st 0 rfl rfl rfl rfl fun h_8 st => ?_
   dsimp only [List.set] at st
   refine bI st 0 0 ?_
   refine bV st 0 1 ?_
   have st := st.nilO (E := oL)
   obtain rfl := oI hp
   exact ⟨(.slice none 0 0), rfl, pk st [0]⟩
  ·refine bI st 1 0 ?_
   refine bV st 1 1 ?_
   refine Zan (E := eI) (css := [[.int .i64 k1]]) (xs := ([k1] : List Int)) st (fun _ => ⟨[], [], rfl, ⟨rfl, rfl⟩, rfl⟩) rfl rfl fun v24 h_9 st => ?_
   refine cl0 hp st (fun s_2 _ _ hx_2 => ZHk s_2.fle hx_2 (f0_1.mono st.le) (st.rdL 0 rfl (Za _))) fun r25 h_10 st hp => ⟨_, rfl, ?_⟩
   refine brQ hp (fun hp => ?_) fun hp => ?_
   ·refine Zb st 1 rfl rfl rfl rfl fun h_11 st => ?_
    refine Zb st 1 rfl rfl rfl rfl fun h_12 st => ?_
    dsimp only [List.set] at st
    refine bI st 1 0 ?_
    refine bV st 1 1 ?_
    have st := st.nilO (E := oL)
    obtain rfl := oI hp
    exact ⟨(.slice none 0 0), rfl, pk st [0]⟩
   ·refine bI st 2 0 ?_
    refine bV st 2 1 ?_
    refine cl1 hp st (fun s_3 _ _ hx_3 => ZGR s_3.fle hx_3 (f0_1.mono st.le)) fun r32 v32 h_13 st hp => ⟨_, rfl, ?_⟩
    refine cl0 hp st (fun s_4 _ _ hx_4 => ZJw s_4.fle hx_4 (st.rdL 0 rfl (ZN _))) fun r35 h_14 st hp => ⟨_, rfl, ?_⟩
    refine cl0 hp st (fun s_5 _ _ hx_5 => ZIu s_5.fle hx_5 (f2.mono st.le)) fun r36 h_15 st hp => ⟨_, rfl, ?_⟩
    refine brQ hp (fun hp => ?_) fun hp => ?_
    ·refine Zb st 2 rfl rfl rfl rfl fun h_16 st => ?_
     refine Zb st 2 rfl rfl rfl rfl fun h_17 st => ?_
     dsimp only [List.set] at st
     refine bI st 2 0 ?_
     refine bV st 2 1 ?_
     have st := st.nilO (E := oL)
     obtain rfl := oI hp
     exact ⟨(.slice none 0 0), rfl, pk st [0]⟩
    ·refine vL f2 st.le ?_
     have st := st.nilO (E := eL)
     obtain ⟨n_2, hn⟩ := Zy hp
     refine ⟨fun n v10 y41 h_18 => ∃ blocks10 : List (List Int), S ψ h h_18 [.it (El.ow eL) [v10] blocks10, .it (El.ow (El.sl eL)) [v32] r32, .it oL [v24] ([k1] : List Int), .box b6 [.int .i64 0, (.slice none 0 0)], .box b3 [.int .i64 g0.Degree, v0_1]] ∧ loopN (ZEx g0 orbits2 r32) n (blocks10, y41) = some r, ⟨n_2, _, pk st [0,1,2,3,4], hn⟩, ?_⟩
     rintro n _ v10 y41 h_18 ⟨blocks10, st, hn⟩
     obtain ⟨m, a, rfl, hp, hs⟩ := Zw hn
     rw [ZEx] at hp
     refine brQ hp (fun hp => ?_) fun hp => ?_
     ·refine ixI (f2.mono st.le) hp fun e43 hp => ?_
      refine ixA (st.rdL 1 rfl (ZN _)) hp fun e48 p48 ad_2 hx_7 hp => ?_
      refine Zc9 st 1 rfl ad_2 hx_7 fun u49 st => ?_
      obtain ⟨l50, hx_8, hp⟩ := obind hp
      refine app_S st 1 rfl (ZnM 0 rfl) rfl rfl hx_8 fun v50 h_19 st => ?_
      dsimp only [List.set] at st
      obtain rfl := oI hp
      exact ⟨m, ltS, _, pk st [1,2,3,4,5], hs⟩
     ·refine bI st 4 0 ?_
      refine cl1 hp st (fun s_6 _ _ hx_9 => ZJO s_6.fle hx_9 (st.rdL 0 rfl (ZN _))) fun r55 v55 h_20 st hp => ⟨_, _, _, rfl, ?_⟩
      refine Zb st 4 rfl rfl rfl rfl fun h_21 st => ?_
      refine Zb st 4 rfl rfl rfl (st.rdL 0 rfl (Ze (Za _))).one fun h_22 st => ?_
      dsimp only [List.set] at st
      refine bI st 4 0 ?_
      refine bV st 4 1 ?_
      obtain rfl := oI hp
      obtain rfl := oI hs
      exact ⟨v55, rfl, pk st [0]⟩
theorem ZHJ {g0 v0_1 t1 k2 lambda3 budget4 r} (hp : ZEq g0 t1 k2 lambda3 budget4 = some r) (f0_1 : SlC (hcell h) eL v0_1 g0.Elements) : CallsH P ZFE #[.agg #[.int .i64 g0.Degree, v0_1], .int .i64 t1, .int .i64 k2, .int .i64 lambda3, .int .i64 budget4] h (fun v h' => ∃ w0 : Value, v = .tuple #[.agg #[.int .i64 r.1.Points, w0], .int .i64 r.2] ∧ S ψ h h' [.it (El.ow oL) [w0] r.1.Blocks]) := by
 apply ZJa
 rw [ZEq] at hp
 have st := S.start hψ
 refine new_S st fun b5 h_2 st => ?_
 refine new_S st fun b10 h_3 st => ?_
 refine bI st 1 0 ?_
 refine bV st 1 1 ?_
 obtain ⟨r16, hx, hp⟩ := obind hp
 obtain ⟨φ, L, s, r_2⟩ := id st
 refine (ZuS (CLe.refl _) hx (f0_1.mono st.le)).mono fun v_2 h_4 ⟨eq, t⟩ => ⟨_, eq, ?_⟩
 replace st := join0 s r_2 (t.weak s.fle)
 clear t s r_2
 refine brQ hp (fun hp => ?_) fun hp => ?_
 ·refine Zb st 0 rfl rfl rfl rfl fun h_5 st => ?_
  refine Zb st 0 rfl rfl rfl rfl fun h_6 st => ?_
  dsimp only [List.set] at st
  refine bI st 0 0 ?_
  refine bV st 0 1 ?_
  have st := st.nilO (E := oL)
  obtain rfl := oI hp
  exact ⟨(.slice none 0 0), rfl, pk st [0]⟩
 ·refine cl0 hp st (fun s_2 _ _ hx_2 => ZH2 s_2.fle hx_2) fun r20 h_7 st hp => ⟨_, rfl, ?_⟩
  refine brQ hp (fun hp => ?_) fun hp => ?_
  ·refine Zb st 0 rfl rfl rfl rfl fun h_8 st => ?_
   refine Zb st 0 rfl rfl rfl rfl fun h_9 st => ?_
   dsimp only [List.set] at st
   refine bI st 0 0 ?_
   refine bV st 0 1 ?_
   have st := st.nilO (E := oL)
   obtain rfl := oI hp
   exact ⟨(.slice none 0 0), rfl, pk st [0]⟩
  ·refine bI st 1 0 ?_
   refine bV st 1 1 ?_
   refine cl1 hp st (fun s_3 _ _ hx_3 => ZH4 s_3.fle hx_3 (f0_1.mono st.le)) fun r27 v27 h_10 st hp => ⟨_, _, rfl, ?_⟩
   refine brQ hp (fun hp => ?_) fun hp => ?_
   ·refine Zb st 1 rfl rfl rfl rfl fun h_11 st => ?_
    refine Zb st 1 rfl rfl rfl rfl fun h_12 st => ?_
    dsimp only [List.set] at st
    refine bI st 1 0 ?_
    refine bV st 1 1 ?_
    have st := st.nilO (E := oL)
    obtain rfl := oI hp
    exact ⟨(.slice none 0 0), rfl, pk st [0]⟩
   ·refine brQ hp (fun hp => ?_) fun hp => ?_
    ·refine Zb st 1 rfl rfl rfl rfl fun h_13 st => ?_
     refine Zb st 1 rfl rfl rfl rfl fun h_14 st => ?_
     dsimp only [List.set] at st
     refine bI st 1 0 ?_
     refine bV st 1 1 ?_
     have st := st.nilO (E := oL)
     obtain rfl := oI hp
     exact ⟨(.slice none 0 0), rfl, pk st [0]⟩
    ·refine cl1 hp st (fun s_4 _ _ hx_4 => ZIY s_4.fle hx_4 (st.rdL 0 rfl (Ze (Za _)))) fun r41 v41 h_15 st hp => ⟨_, _, rfl, ?_⟩
     refine brQ hp (fun hp => ?_) fun hp => ?_
     ·refine Zb st 2 rfl rfl rfl rfl fun h_16 st => ?_
      refine Zb st 2 rfl rfl rfl rfl fun h_17 st => ?_
      dsimp only [List.set] at st
      refine bI st 2 0 ?_
      refine bV st 2 1 ?_
      have st := st.nilO (E := oL)
      obtain rfl := oI hp
      exact ⟨(.slice none 0 0), rfl, pk st [0]⟩
     ·refine bI st 3 0 ?_
      refine bV st 3 1 ?_
      refine cl1 hp st (fun s_5 _ _ hx_5 => ZJR s_5.fle hx_5 (f0_1.mono st.le) (st.rdL 0 rfl (Za _))) fun r51 v51 h_18 st hp => ⟨_, _, _, rfl, ?_⟩
      refine Zb st 3 rfl rfl rfl rfl fun h_19 st => ?_
      refine Zb st 3 rfl rfl rfl (st.rdL 0 rfl (Ze (Za _))).one fun h_20 st => ?_
      dsimp only [List.set] at st
      refine bI st 3 0 ?_
      refine bV st 3 1 ?_
      obtain rfl := oI hp
      exact ⟨v51, rfl, pk st [0]⟩
theorem Zma {a0 v0 b1 v1 r} (hp : Zb1 a0 b1 = some r) (f0 : SlC (hcell h) eI v0 a0) (f1 : SlC (hcell h) eI v1 b1) : zR ZhK #[v0, v1] h ψ (.bool r) := by
 apply ZtK
 rw [Zb1] at hp
 have st := S.start hψ
 refine vL f0 st.le ?_
 refine vL f1 st.le ?_
 refine brQ hp (fun hp => tZ) fun hp => ?_
 refine lp1 hp (nlS st) fun m i5 h_2 a st hp hs => ?_
 rw [Zem] at hp
 refine vL f0 st.le ?_
 refine brR hp (fun hp => tZ) fun hp => ?_
 refine ixI (f0.mono st.le) hp fun e19 hp => ?_
 refine ixI (f1.mono st.le) hp fun e23 hp => ?_
 exact brQ hp (fun hp => tZ) fun hp => tZ
theorem Zu2 {a0 v0 b1 v1 r} (hp : Zfp a0 b1 = some r) (f0 : SlC (hcell h) eL v0 a0) (f1 : SlC (hcell h) eL v1 b1) : zR Zkh #[v0, v1] h ψ (.bool r) := by
 apply Zp8
 rw [Zfp] at hp
 have st := S.start hψ
 refine vL f0 st.le ?_
 refine vL f1 st.le ?_
 refine brQ hp (fun hp => tZ) fun hp => ?_
 refine lp1 hp (nlS st) fun m i5 h_2 a st hp hs => ?_
 rw [ZfW] at hp
 refine vL f0 st.le ?_
 refine brR hp (fun hp => tZ) fun hp => ?_
 refine ixV f0 st.le hp fun e19 u20 f hp => ?_
 refine ixV f1 st.le hp fun e23 u24 f_2 hp => ?_
 refine cl0 hp st (fun s _ _ hx_3 => Zma s.fle hx_3 (f.mono st.le) (f_2.mono st.le)) fun r25 h_3 st hp => ⟨_, rfl, ?_⟩
 exact brQ hp (fun hp => tZ) fun hp => tZ
theorem ZGy {a0 v0_1 b1 v1_1 r} (hp : ZD4 a0 b1 = some r) (f0_1 : SlC (hcell h) eL v0_1 a0.Blocks) (f1_1 : SlC (hcell h) eL v1_1 b1.Blocks) : zR ZET #[.agg #[.int .i64 a0.Points, v0_1], .agg #[.int .i64 b1.Points, v1_1]] h ψ (.bool r) := by
 apply ZKa
 rw [ZD4] at hp
 have st := S.start hψ
 refine new_S st fun b2 h_2 st => ?_
 refine new_S st fun b3 h_3 st => ?_
 refine bI st 1 0 ?_
 refine bI st 0 0 ?_
 refine brQ hp (fun hp => tZ) fun hp => ?_
 refine bV st 1 1 ?_
 refine bV st 0 1 ?_
 refine cl0 hp st (fun s _ _ hx => Zu2 s.fle hx (f0_1.mono st.le) (f1_1.mono st.le)) fun r14 h_4 st hp => ⟨_, rfl, ?_⟩
 exact brQ hp (fun hp => tZ) fun hp => tZ
theorem ZJk {a0 v0_1 b1 v1_1 r} (hp : ZE7 a0 b1 = some r) (f0_1 : SlC (hcell h) eL v0_1 a0.Elements) (f1_1 : SlC (hcell h) eL v1_1 b1.Elements) : zR ZG9 #[.agg #[.int .i64 a0.Degree, v0_1], .agg #[.int .i64 b1.Degree, v1_1]] h ψ (.bool r) := by
 apply ZKE
 rw [ZE7] at hp
 have st := S.start hψ
 refine new_S st fun b2 h_2 st => ?_
 refine new_S st fun b3 h_3 st => ?_
 refine bI st 1 0 ?_
 refine bI st 0 0 ?_
 refine brQ hp (fun hp => tZ) fun hp => ?_
 refine bV st 1 1 ?_
 refine bV st 0 1 ?_
 refine cl0 hp st (fun s _ _ hx => Zu2 s.fle hx (f0_1.mono st.le) (f1_1.mono st.le)) fun r14 h_4 st hp => ⟨_, rfl, ?_⟩
 exact brQ hp (fun hp => tZ) fun hp => tZ
end
theorem ZoA {ψ : CM} {h0 h : Heap} {os : List Ob} {a0 : List Int} {v0 : Value} {k1 : Int} {r : Int × (List Int)} (hp : ZcS a0 k1 = some r) (st : S ψ h0 h (.it oL [v0] a0 :: os))  : CallsH P ZgJ #[v0, .int .i64 k1] h (fun v h' => v = .int .i64 r.1 ∧ S ψ h0 h' (.it oL [v0] r.2 :: os)) := by
 apply ZuP
 rw [ZcS] at hp
 obtain ⟨n_2, hn⟩ := Zy hp
 refine ⟨fun n k1_2 i5 h_2 => ∃ xs : List Int, S ψ h0 h_2 (.it oL [v0] xs :: os) ∧ loopN (Zel) n (k1_2, i5, xs) = some r, ⟨n_2, _, pkT st 1 [0], hn⟩, ?_⟩
 rintro n _ k1_2 i5 h_2 ⟨xs, st, hn⟩
 obtain ⟨m, a, rfl, hp, hs⟩ := Zw hn
 rw [Zel] at hp
 refine ZC (st.rdL 0 rfl (Za _)) ?_
 refine brQ hp (fun hp => ?_) fun hp => ?_
 ·refine ixA (st.rdL 0 rfl (Za _)) hp fun e15 p15 ad hx hp => ?_
  refine st1_S st 0 rfl ad hx rfl (fun _ => ⟨rfl, rfl⟩) fun h_3 st => ?_
  dsimp only [List.set] at st
  obtain rfl := oI hp
  exact ⟨m, ltS, _, pkT st 1 [0], hs⟩
 ·obtain rfl := oI hp
  obtain rfl := oI hs
  exact ⟨rfl, pkT st 1 [0]⟩
theorem Zs5 {ψ : CM} {h0 h : Heap} {os : List Ob} {a0 : List (List Int)} {v0 : Value} {k1 : Int} {r : Int × (List (List Int))} (hp : Zek a0 k1 = some r) (st : S ψ h0 h (.it (El.ow oL) [v0] a0 :: os))  : CallsH P ZiL #[v0, .int .i64 k1] h (fun v h' => v = .int .i64 r.1 ∧ S ψ h0 h' (.it (El.ow oL) [v0] r.2 :: os)) := by
 apply Ztm
 rw [Zek] at hp
 obtain ⟨n_2, hn⟩ := Zy hp
 refine ⟨fun n k1_2 i5 h_2 => ∃ xs : List (List Int), S ψ h0 h_2 (.it (El.ow oL) [v0] xs :: os) ∧ loopN (Zgr) n (k1_2, i5, xs) = some r, ⟨n_2, _, pkT st 1 [0], hn⟩, ?_⟩
 rintro n _ k1_2 i5 h_2 ⟨xs, st, hn⟩
 obtain ⟨m, a, rfl, hp, hs⟩ := Zw hn
 rw [Zgr] at hp
 refine ZC (st.rdL 0 rfl (Ze (Za _))) ?_
 refine brQ hp (fun hp => ?_) fun hp => ?_
 ·refine ixA (st.rdL 0 rfl (Ze (Za _))) hp fun e14 p14 ad hx hp => ?_
  refine Zct st 0 rfl ad hx fun u15 hd => ?_
  have st := foc_S st 0 rfl hd hx
  dsimp only [List.set] at st
  obtain ⟨r17, hx_2, hp⟩ := obind hp
  obtain ⟨φ, L, s, r_2⟩ := id st
  refine (ZoA hx_2 (s.upS r_2) ).mono fun v_2 h_3 ⟨eq, t⟩ => ⟨_, eq, ?_⟩
  replace st := s.downS t
  clear t s r_2
  have st := unf_S st 0 rfl
  dsimp only [List.set] at st
  obtain rfl := oI hp
  exact ⟨m, ltS, _, pkT st 1 [0], hs⟩
 ·obtain rfl := oI hp
  obtain rfl := oI hs
  exact ⟨rfl, pkT st 1 [0]⟩
theorem ZI8 {ψ : CM} {h0 h : Heap} {os : List Ob} {a0 : ZaB} {v0_1 : Value} {k1 : Int} {r : Int × ZaB} (hp : ZE6 a0 k1 = some r) (st : S ψ h0 h (.it (El.ow oL) [v0_1] a0.Elements :: os))  : CallsH P ZGf #[.agg #[.int .i64 a0.Degree, v0_1], .int .i64 k1] h (fun v h' => v = .int .i64 r.1 ∧ S ψ h0 h' (.it (El.ow oL) [v0_1] r.2.Elements :: os)) := by
 apply ZI9
 rw [ZE6] at hp
 refine new_S st fun b2 h_2 st => ?_
 refine bV st 0 1 ?_
 have st : S ψ h0 h_2 (.it (El.ow oL) [v0_1] a0.Elements :: .box b2 [.int .i64 a0.Degree, v0_1] :: os) := pkT st 2 [1,0]
 obtain ⟨r8, hx, hp⟩ := obind hp
 obtain ⟨φ, L, s, r_2⟩ := id st
 refine (Zs5 hx (s.upS r_2) ).mono fun v_2 h_3 ⟨eq, t⟩ => ⟨_, eq, ?_⟩
 replace st := s.downS t
 clear t s r_2
 obtain rfl := oI hp
 exact ⟨rfl, pkT st 2 [0]⟩
theorem ZIs {ψ : CM} {h0 h : Heap} {os : List Ob} {a0 : ZaT} {v0_1 : Value} {k1 : Int} {r : Int × ZaT} (hp : ZE4 a0 k1 = some r) (st : S ψ h0 h (.it (El.ow oL) [v0_1] a0.Blocks :: os))  : CallsH P ZF6 #[.agg #[.int .i64 a0.Points, v0_1], .int .i64 k1] h (fun v h' => v = .int .i64 r.1 ∧ S ψ h0 h' (.it (El.ow oL) [v0_1] r.2.Blocks :: os)) := by
 apply ZIg
 rw [ZE4] at hp
 refine new_S st fun b2 h_2 st => ?_
 refine bV st 0 1 ?_
 have st : S ψ h0 h_2 (.it (El.ow oL) [v0_1] a0.Blocks :: .box b2 [.int .i64 a0.Points, v0_1] :: os) := pkT st 2 [1,0]
 obtain ⟨r8, hx, hp⟩ := obind hp
 obtain ⟨φ, L, s, r_2⟩ := id st
 refine (Zs5 hx (s.upS r_2) ).mono fun v_2 h_3 ⟨eq, t⟩ => ⟨_, eq, ?_⟩
 replace st := s.downS t
 clear t s r_2
 obtain rfl := oI hp
 exact ⟨rfl, pkT st 2 [0]⟩
section
variable {ψ : CM} {h : Heap} (hψ : CLe ψ (hcell h))
include hψ
theorem Zqm {a0 v0 k1 r} (hp : Ze0 a0 k1 = some r) (f0 : SlC (hcell h) eI v0 a0) : zR Zh4 #[v0, .int .i64 k1] h ψ (.int .i64 r) := by
 apply ZoV
 rw [Ze0] at hp
 have st := S.start hψ
 refine lp2 hp (nlS st) fun m k1_2 i5 h_2 a st hp hs => ?_
 rw [Zg2] at hp
 refine vL f0 st.le ?_
 refine brR hp (fun hp => tZ) fun hp => ?_
 refine ixI (f0.mono st.le) hp fun e14 hp => ?_
 exact brQ hp (fun hp => tZ) fun hp => tZ
theorem ZBY {a0 v0 k1 r} (hp : ZA9 a0 k1 = some r) (f0 : SlC (hcell h) eL v0 a0) : zR ZBy #[v0, .int .i64 k1] h ψ (.int .i64 r) := by
 apply ZBQ
 rw [ZA9] at hp
 have st := S.start hψ
 refine lp2 hp (nlS st) fun m k1_2 i5 h_2 a st hp hs => ?_
 rw [ZBg] at hp
 refine vL f0 st.le ?_
 refine brR hp (fun hp => tZ) fun hp => ?_
 refine ixV f0 st.le hp fun e14 u15 f hp => ?_
 refine cl0 hp st (fun s _ _ hx_2 => (Zqm s.fle hx_2 (f.mono st.le)).mono fun _ _ x => x) fun r17 h_3 st hp => ⟨_, rfl, ?_⟩
 exact brQ hp (fun hp => tZ) fun hp => tZ
theorem ZHZ {a0 v0_1 k1 r} (hp : ZEA a0 k1 = some r) (f0_1 : SlC (hcell h) eL v0_1 a0.Blocks) : zR ZFV #[.agg #[.int .i64 a0.Points, v0_1], .int .i64 k1] h ψ (.int .i64 r) := by
 apply ZJ8
 rw [ZEA] at hp
 have st := S.start hψ
 refine new_S st fun b2 h_2 st => ?_
 refine bV st 0 1 ?_
 refine cl0 hp st (fun s _ _ hx => (ZBY s.fle hx (f0_1.mono st.le)).mono fun _ _ x => x) fun r8 h_3 st hp => ⟨_, rfl, ?_⟩
 exact brQ hp (fun hp => tZ) fun hp => tZ
theorem ZIA {y0 v0_1 y1 y2 y3 y4 r} (hp : ZFX y0 y1 y2 y3 y4 = some r) (f0_1 : SlC (hcell h) eL v0_1 y0.Elements) : zR ZGs #[.agg #[.int .i64 y0.Degree, v0_1], .int .i64 y1, .int .i64 y2, .int .i64 y3, .int .i64 y4] h ψ (.bool r) := by
 apply ZIB
 rw [ZFX] at hp
 have st := S.start hψ
 refine new_S st fun b5 h_2 st => ?_
 refine bI st 0 0 ?_
 refine bV st 0 1 ?_
 refine cl0 hp st (fun s _ _ hx => ZK1 s.fle hx (f0_1.mono st.le)) fun r24 h_3 st hp => ⟨_, rfl, ?_⟩
 refine brQ hp (fun hp => tZ) fun hp => ?_
 refine bI st 0 0 ?_
 refine bV st 0 1 ?_
 refine cl1 hp st (fun s_2 _ _ hx_2 => ZFW s_2.fle hx_2 (f0_1.mono st.le)) fun r29 v29 h_4 st hp => ⟨_, _, rfl, ?_⟩
 have st := st.freeze 0 rfl (Ze (Ze (Za _)))
 dsimp only [List.set] at st
 refine cl1 hp st (fun s_3 _ _ hx_3 => ZKH s_3.fle hx_3 (st.rdF 0 rfl)) fun r34 v34 h_5 st hp => ⟨_, _, _, rfl, ?_⟩
 refine new_S st fun b12 h_6 st => ?_
 refine Zb st 0 rfl rfl rfl rfl fun h_7 st => ?_
 refine Zb st 0 rfl rfl rfl (st.rdL 1 rfl (ZN _)).one fun h_8 st => ?_
 dsimp only [List.set] at st
 refine bI st 3 0 ?_
 refine bV st 3 1 ?_
 refine cl1 hp st (fun s_4 _ _ hx_4 => ZFW s_4.fle hx_4 (f0_1.mono st.le)) fun r38 v38 h_9 st hp => ⟨_, _, rfl, ?_⟩
 refine new_S st fun b14 h_10 st => ?_
 refine Zb st 0 rfl rfl rfl rfl fun h_11 st => ?_
 refine Zb st 0 rfl rfl rfl (st.rdL 1 rfl (Ze (Za _))).one fun h_12 st => ?_
 dsimp only [List.set] at st
 refine bI st 0 0 ?_
 refine bV st 0 1 ?_
 refine cl1 hp st (fun s_5 _ _ hx_5 => ZHJ s_5.fle hx_5 (st.rdL 1 rfl (Ze (Za _)))) fun r45 v45 h_13 st hp => ⟨_, _, _, rfl, ?_⟩
 refine new_S st fun b15 h_14 st => ?_
 refine Zb st 0 rfl rfl rfl rfl fun h_15 st => ?_
 refine Zb st 0 rfl rfl rfl (st.rdL 1 rfl (Ze (Za _))).one fun h_16 st => ?_
 dsimp only [List.set] at st
 refine ⟨fun h_17 => S ψ h h_17 [.box b15 [.int .i64 r45.1.Points, v45], .it (El.ow oL) [v45] r45.1.Blocks, .box b14 [.int .i64 r38.Degree, v38], .it (El.ow oL) [v38] r38.Elements, .box b12 [.int .i64 r34.1.Points, v34], .it (El.ow eL) [v34] r34.1.Blocks, .it (El.sl eL) [v29] r29.Elements, .box b5 [.int .i64 y0.Degree, v0_1]] ∧ ZEZ y0 y1 y2 y3 y4 r34 r38 r45 = some r, ?_, ?_⟩
 ·refine bI st 0 0 ?_
  refine bV st 0 1 ?_
  refine bI st 4 0 ?_
  refine bV st 4 1 ?_
  refine cl0 hp st (fun s_16 _ _ hx_16 => ZGy s_16.fle hx_16 (st.rdL 1 rfl (Ze (Za _))) (st.rdL 5 rfl (ZN _))) fun r50 h_33 st hp => ⟨_, rfl, ?_⟩
  refine brQ hp (fun hp => tZ) fun hp => ?_
  refine brQ hp (fun hp => tZ) fun hp => ?_
  exact ⟨pk st [0,1,2,3,4,5,6,7], hp⟩
 ·rintro _ h_17 ⟨st, hp⟩
  rw [ZEZ] at hp
  refine ⟨fun _ => False, ?_⟩
  have stR_9 := st
  have xR_9 := ExtH.refl h_17
  refine bI st 7 0 ?_
  refine bV st 7 1 ?_
  obtain ⟨r59, hx_6, hp⟩ := obind hp
  obtain ⟨φ_6, L_6, s_6, r_7⟩ := id st
  refine (ZFW s_6.fle hx_6 (f0_1.mono st.le)).mono fun v_7 h_18 ⟨v59, eq_6, t_6⟩ => ⟨_, _, eq_6, ExtBut.of_ext (xR_9.trans t_6.ext), ?_⟩
  replace xR_9 := xR_9.trans t_6.ext
  replace st := join1 s_6 r_7 t_6
  clear t_6 s_6 r_7
  have st := st.freeze 0 rfl (Ze (Ze (Za _)))
  dsimp only [List.set] at st
  refine ZA ?_
  refine ldI_K (stR_9.cells 2 rfl) 0 rfl rfl ?_
  refine Z7 ?_
  refine ldV_K (stR_9.cells 2 rfl) 1 rfl rfl ?_
  refine cl0 hp st (fun s_7 _ _ hx_7 => ZJk s_7.fle hx_7 (st.rdL 4 rfl (Ze (Za _))) (st.rdF 0 rfl)) fun r60 h_19 st hp => ⟨_, rfl, ?_⟩
  refine brQ hp (fun hp => tZ) fun hp => ?_
  refine bI st 3 0 ?_
  refine bV st 3 1 ?_
  have st : S ψ h h_19 [.it (El.ow oL) [v38] r38.Elements, .it (El.sl eL) [v59] r59.Elements, .box b15 [.int .i64 r45.1.Points, v45], .it (El.ow oL) [v45] r45.1.Blocks, .box b14 [.int .i64 r38.Degree, v38], .box b12 [.int .i64 r34.1.Points, v34], .it (El.ow eL) [v34] r34.1.Blocks, .it (El.sl eL) [v29] r29.Elements, .box b5 [.int .i64 y0.Degree, v0_1]] := pk st [4,0,1,2,3,5,6,7,8]
  obtain ⟨r64, hx_8, hp⟩ := obind hp
  obtain ⟨φ_8, L_8, s_8, r_9⟩ := id st
  refine (ZI8 hx_8 (s_8.upS r_9) ).mono fun v_9 h_20 ⟨eq_8, t_8⟩ => ⟨_, eq_8, ?_⟩
  replace st := s_8.downS t_8
  clear t_8 s_8 r_9
  refine ⟨fun h_21 => S ψ h h_21 [.it (El.ow oL) [v38] r64.2.Elements, .it (El.sl eL) [v59] r59.Elements, .box b15 [.int .i64 r45.1.Points, v45], .it (El.ow oL) [v45] r45.1.Blocks, .box b14 [.int .i64 r38.Degree, v38], .box b12 [.int .i64 r34.1.Points, v34], .it (El.ow eL) [v34] r34.1.Blocks, .it (El.sl eL) [v29] r29.Elements, .box b5 [.int .i64 y0.Degree, v0_1]] ∧ ZFl y0 y1 y2 y3 y4 r34 r45 = some r, ?_, ?_⟩
  ·refine brQ hp (fun hp => tZ) fun hp => ?_
   refine bI st 2 0 ?_
   refine bV st 2 1 ?_
   refine bI st 5 0 ?_
   refine bV st 5 1 ?_
   refine cl0 hp st (fun s_15 _ _ hx_15 => ZGy s_15.fle hx_15 (st.rdL 3 rfl (Ze (Za _))) (st.rdL 6 rfl (ZN _))) fun r70 h_32 st hp => ⟨_, rfl, ?_⟩
   refine brQ hp (fun hp => tZ) fun hp => ?_
   refine brQ hp (fun hp => tZ) fun hp => ?_
   exact ⟨pk st [0,1,2,3,4,5,6,7,8], hp⟩
  ·rintro _ h_21 ⟨st, hp⟩
   rw [ZFl] at hp
   refine bI st 2 0 ?_
   refine bV st 2 1 ?_
   have st : S ψ h h_21 [.it (El.ow oL) [v45] r45.1.Blocks, .it (El.ow oL) [v38] r64.2.Elements, .it (El.sl eL) [v59] r59.Elements, .box b15 [.int .i64 r45.1.Points, v45], .box b14 [.int .i64 r38.Degree, v38], .box b12 [.int .i64 r34.1.Points, v34], .it (El.ow eL) [v34] r34.1.Blocks, .it (El.sl eL) [v29] r29.Elements, .box b5 [.int .i64 y0.Degree, v0_1]] := pk st [3,0,1,2,4,5,6,7,8]
   obtain ⟨r80, hx_9, hp⟩ := obind hp
   obtain ⟨φ_9, L_9, s_9, r_10⟩ := id st
   refine (ZIs hx_9 (s_9.upS r_10) ).mono fun v_10 h_22 ⟨eq_9, t_9⟩ => ⟨_, eq_9, ?_⟩
   replace st := s_9.downS t_9
   clear t_9 s_9 r_10
   refine bI st 3 0 ?_
   refine bV st 3 1 ?_
   refine cl0 hp st (fun s_10 _ _ hx_10 => (ZHZ s_10.fle hx_10 (st.rdL 0 rfl (Ze (Za _)))).mono fun _ _ x => x) fun r83 h_23 st hp => ⟨_, rfl, ?_⟩
   refine brQ hp (fun hp => tZ) fun hp => ?_
   refine brQ hp (fun hp => tZ) fun hp => ?_
   refine bI st 8 0 ?_
   refine bV st 8 1 ?_
   refine cl1 hp st (fun s_11 _ _ hx_11 => ZFW s_11.fle hx_11 (f0_1.mono st.le)) fun r91 v91 h_24 st hp => ⟨_, _, rfl, ?_⟩
   have st := st.freeze 0 rfl (Ze (Ze (Za _)))
   dsimp only [List.set] at st
   refine cl1 hp st (fun s_12 _ _ hx_12 => ZHJ s_12.fle hx_12 (st.rdF 0 rfl)) fun r96 v96 h_25 st hp => ⟨_, _, _, rfl, ?_⟩
   refine new_S st fun b20 h_26 st => ?_
   refine Zb st 0 rfl rfl rfl rfl fun h_27 st => ?_
   refine Zb st 0 rfl rfl rfl (st.rdL 1 rfl (Ze (Za _))).one fun h_28 st => ?_
   dsimp only [List.set] at st
   refine ⟨fun h_29 => S ψ h h_29 [.box b20 [.int .i64 r96.1.Points, v96], .it (El.ow oL) [v96] r96.1.Blocks, .it (El.sl eL) [v91] r91.Elements, .it (El.ow oL) [v45] r80.2.Blocks, .it (El.ow oL) [v38] r64.2.Elements, .it (El.sl eL) [v59] r59.Elements, .box b15 [.int .i64 r45.1.Points, v45], .box b14 [.int .i64 r38.Degree, v38], .box b12 [.int .i64 r34.1.Points, v34], .it (El.ow eL) [v34] r34.1.Blocks, .it (El.sl eL) [v29] r29.Elements, .box b5 [.int .i64 y0.Degree, v0_1]] ∧ ZFr r45 r80 = some r, ?_, ?_⟩
   ·refine bI st 0 0 ?_
    refine bV st 0 1 ?_
    refine bI st 8 0 ?_
    refine bV st 8 1 ?_
    refine cl0 hp st (fun s_14 _ _ hx_14 => ZGy s_14.fle hx_14 (st.rdL 1 rfl (Ze (Za _))) (st.rdL 9 rfl (ZN _))) fun r101 h_31 st hp => ⟨_, rfl, ?_⟩
    refine brQ hp (fun hp => tZ) fun hp => ?_
    refine brQ hp (fun hp => tZ) fun hp => ?_
    exact ⟨pk st [0,1,2,3,4,5,6,7,8,9,10,11], hp⟩
   ·rintro _ h_29 ⟨st, hp⟩
    rw [ZFr] at hp
    refine bI st 6 0 ?_
    refine bV st 6 1 ?_
    refine cl0 hp st (fun s_13 _ _ hx_13 => (ZHZ s_13.fle hx_13 (st.rdL 3 rfl (Ze (Za _)))).mono fun _ _ x => x) fun r110 h_30 st hp => ⟨_, rfl, ?_⟩
    refine brQ hp (fun hp => tZ) fun hp => ?_
    exact brQ hp (fun hp => tZ) fun hp => tZ
end
end Go.Proofs.YtapkemdomnkccaaGreat
