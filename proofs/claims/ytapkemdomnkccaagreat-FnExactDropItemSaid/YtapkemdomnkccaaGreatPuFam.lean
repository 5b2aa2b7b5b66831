/- Sizes, copies and equality of the data of the statements: printed by pfam.py. -/
import Derived.Test.YtapkemdomnkccaaGreatPuFns
import Derived.Test.YtapkemdomnkccaaGreatPuLib
namespace Go.Proofs.YtapkemdomnkccaaGreat
open Go Go.Vc
set_option linter.unusedSimpArgs false
set_option linter.unusedVariables false
theorem Zww : Sz Zb7 (OkL I64) (SmL (fun _ => True)) := by
  intro xs left hok h0 h1
  have hM := hok.1
  unfold M63 at hM
  unfold Zb7
  rw [Zob h0 h1 (by omega) (by omega)]
  by_cases hlt : left - (xs.length : Int) < 0
  · have : decide (left - (xs.length : Int) < 0) = true := by simpa using hlt
    rw [this]; exact ⟨-1, rfl, .inl rfl⟩
  · have : decide (left - (xs.length : Int) < 0) = false := by simpa using hlt
    rw [this]; exact ⟨_, rfl, .inr ⟨by omega, by omega, by omega, fun _ _ => trivial⟩⟩
theorem ZpQ : Sz Zfv (OkL (OkL I64)) (SmL (SmL (fun _ => True))) := by
  refine Zve (f := Zb7) (B := Zge) Zww (fun xs left => rfl) ?_ ?_
  · intro xs k x l r hx hr
    rw [Zge, lt_t (ZV hx), Zak hx]
    simp only [cond_true, Option.bind_some]
    rw [show Zb7 _ l = some r from hr]
    simp only [Option.bind_some]
    cases decide (r < 0) <;> rfl
  · intro xs l
    rw [Zge, lt_f]; rfl
def ZlE (x : ZZ) : Prop := I64 x.Kind ∧ I64 x.Size ∧ (OkL (OkL I64)) x.Rows
def Zkc (x : ZZ) : Prop := (SmL (SmL (fun _ => True))) x.Rows
theorem Zro : Sz Zgf ZlE Zkc := by
  intro x left hok h0 h1
  unfold Zgf
  obtain ⟨k0, k1, k2⟩ := hok
  obtain ⟨r2, e2, c2⟩ := ZpQ x.Rows left k2 (by omega) (by omega)
  first | rw [e2] | rw [show Zfv _ _ = some r2 from e2]
  simp only [Option.bind_some]
  rcases c2 with rfl | ⟨l2, g2, s2⟩
  · exact ⟨-1, rfl, .inl rfl⟩
  have d2 : decide (r2 < 0) = false := by simpa using l2
  rw [d2]
  simp only [cond_false]
  exact ⟨_, rfl, .inr ⟨by omega, by omega, s2⟩⟩
def ZxH (x : ZwV) : Prop := OkS x.Name ∧ ZlE x.Object ∧ OkS x.Key
def ZxS (x : ZwV) : Prop := Zkc x.Object
theorem ZzA : Sz Zxd ZxH ZxS := by
  intro x left hok h0 h1
  unfold Zxd
  obtain ⟨k0, k1, k2⟩ := hok
  have m0 : x.Name.size ≤ 9223372036854775807 := k0
  rw [Zob (left := left) (n := (x.Name.size : Int)) (by omega) (by omega) (by omega) (by omega)]
  by_cases q0 : left - (x.Name.size : Int) < 0
  · have : decide (left - (x.Name.size : Int) < 0) = true := by simpa using q0
    rw [this]; exact ⟨-1, rfl, .inl rfl⟩
  have e0 : decide (left - (x.Name.size : Int) < 0) = false := by simpa using q0
  rw [e0]
  simp only [cond_false]
  obtain ⟨r1, e1, c1⟩ := Zro x.Object (left - (x.Name.size : Int)) k1 (by omega) (by omega)
  first | rw [e1] | rw [show Zgf _ _ = some r1 from e1]
  simp only [Option.bind_some]
  rcases c1 with rfl | ⟨l1, g1, s1⟩
  · exact ⟨-1, rfl, .inl rfl⟩
  have d1 : decide (r1 < 0) = false := by simpa using l1
  rw [d1]
  simp only [cond_false]
  have m2 : x.Key.size ≤ 9223372036854775807 := k2
  rw [Zob (left := r1) (n := (x.Key.size : Int)) (by omega) (by omega) (by omega) (by omega)]
  by_cases q2 : r1 - (x.Key.size : Int) < 0
  · have : decide (r1 - (x.Key.size : Int) < 0) = true := by simpa using q2
    rw [this]; exact ⟨-1, rfl, .inl rfl⟩
  have e2 : decide (r1 - (x.Key.size : Int) < 0) = false := by simpa using q2
  rw [e2]
  simp only [cond_false]
  exact ⟨_, rfl, .inr ⟨by omega, by omega, s1⟩⟩
theorem ZzJ : Sz ZxK (OkL ZxH) (SmL ZxS) := by
  refine Zve (f := Zxd) (B := ZxV) ZzA (fun xs left => rfl) ?_ ?_
  · intro xs k x l r hx hr
    rw [ZxV, lt_t (ZV hx), Zak hx]
    simp only [cond_true, Option.bind_some]
    rw [show Zxd _ l = some r from hr]
    simp only [Option.bind_some]
    cases decide (r < 0) <;> rfl
  · intro xs l
    rw [ZxV, lt_f]; rfl
def ZyD (x : ZwT) : Prop := (OkL ZxH) x.Items
def ZyJ (x : ZwT) : Prop := (SmL ZxS) x.Items
theorem ZzN : Sz ZxQ ZyD ZyJ := by
  intro x left hok h0 h1
  unfold ZxQ
  have k0 := hok
  obtain ⟨r0, e0, c0⟩ := ZzJ x.Items left k0 (by omega) (by omega)
  first | rw [e0] | rw [show ZxK _ _ = some r0 from e0]
  simp only [Option.bind_some]
  rcases c0 with rfl | ⟨l0, g0, s0⟩
  · exact ⟨-1, rfl, .inl rfl⟩
  have d0 : decide (r0 < 0) = false := by simpa using l0
  rw [d0]
  simp only [cond_false]
  exact ⟨_, rfl, .inr ⟨by omega, by omega, s0⟩⟩
theorem ZwB {x : List Int} (h : (SmL (fun _ => True)) x) : Zc2 x = some ((List.map (fun x => x)) x) := by
  unfold Zc2
  have hl := h.1
  rw [Zgh (by omega) (by omega)]
  refine (Znb (c := (fun x => x)) (g := fun xs => xs) (by unfold M63; omega) ?_ ?_)
  · intro k a xs x0 ha hx
    rw [Zf5, lt_t (ZV ha), Zak ha, Zak hx]
    rfl
  · intro xs
    rw [Zf5, lt_f]; rfl
theorem ZqP {x : List (List Int)} (h : (SmL (SmL (fun _ => True))) x) : Zdz x = some ((List.map (List.map (fun x => x))) x) := by
  unfold Zdz
  have hl := h.1
  rw [Zgh (by omega) (by omega)]
  refine (Znb (c := (List.map (fun x => x))) (g := fun xs => xs) (by unfold M63; omega) ?_ ?_)
  · intro k a xs x0 ha hx
    rw [ZfD, lt_t (ZV ha), Zak ha, Zak hx]
    simp only [cond_true, Option.bind_some]
    rw [show Zc2 _ = _ from ZwB (h.2 a (List.mem_of_getElem? ha))]
    rfl
  · intro xs
    rw [ZfD, lt_f]; rfl
def Ze3 (x : ZZ) : Zx := Zx.mk x.Kind x.Size ((List.map (List.map (fun x => x))) x.Rows)
theorem ZqZ {x : ZZ} (h : Zkc x) : ZbO x = some (Ze3 x) := by
  unfold ZbO
  have h2 := h
  rw [show Zdz _ = _ from ZqP h2]
  simp only [Option.bind_some]
  rfl
def ZxT (x : ZwV) : ZwR := ZwR.mk x.Name (Ze3 x.Object) x.Key
theorem ZAg {x : ZwV} (h : ZxS x) : Zxl x = some (ZxT x) := by
  unfold Zxl
  have h1 := h
  rw [show ZbO _ = _ from ZqZ h1]
  simp only [Option.bind_some]
  rfl
theorem ZAn {x : List ZwV} (h : (SmL ZxS) x) : Zxt x = some ((List.map ZxT) x) := by
  unfold Zxt
  have hl := h.1
  rw [Zgh (by omega) (by omega)]
  refine (Znb (c := ZxT) (g := fun xs => xs) (by unfold M63; omega) ?_ ?_)
  · intro k a xs x0 ha hx
    rw [ZxA, lt_t (ZV ha), Zak ha, Zak hx]
    simp only [cond_true, Option.bind_some]
    rw [show Zxl _ = _ from ZAg (h.2 a (List.mem_of_getElem? ha))]
    rfl
  · intro xs
    rw [ZxA, lt_f]; rfl
def ZxD (x : ZwT) : ZwS := ZwS.mk ((List.map ZxT) x.Items)
theorem ZzH {x : ZwT} (h : ZyJ x) : Zw9 x = some (ZxD x) := by
  unfold Zw9
  have h0 := h
  rw [show Zxt _ = _ from ZAn h0]
  simp only [Option.bind_some]
  rfl
theorem ZmN {a b : List Int} (h : (OkL (fun _ => True)) a) : IsQ (Zb1 a b) (a = b) := by
  unfold Zb1
  refine ZcB (B := Zem a b) h.1 (fun k x y hx hy => ?_) ?_
  · rw [Zem, lt_t (ZV hx), Zak hx, Zak hy]
    simp only [cond_true, Option.bind_some]
    refine ZaE (c := x == y) (by simp) ?_
    rw [bne]; cases (x == y) <;> rfl
  · rw [Zem, lt_f]; rfl
theorem Zrn {a b : List (List Int)} (h : (OkL (OkL (fun _ => True))) a) : IsQ (Zfp a b) (a = b) := by
  unfold Zfp
  refine ZcB (B := ZfW a b) h.1 (fun k x y hx hy => ?_) ?_
  · rw [ZfW, lt_t (ZV hx), Zak hx, Zak hy]
    simp only [cond_true, Option.bind_some]
    obtain ⟨c, hc, hq⟩ := ZmN (a := x) (b := y) (h.2 x (List.mem_of_getElem? hx))
    rw [show Zb1 _ _ = _ from hc]
    simp only [Option.bind_some]
    refine ZaE hq ?_
    cases c <;> rfl
  · rw [ZfW, lt_f]; rfl
def Zsm (x : Zx) : Prop := (OkL (OkL (fun _ => True))) x.Rows
theorem Zws {a b : Zx} (h : Zsm a) : IsQ (Zf0 a b) (a = b) := by
  unfold Zf0
  have h2 := h
  refine q_ne (fun e0 => ?_) (fun hn hq => hn (by rw [hq]))
  refine q_ne (fun e1 => ?_) (fun hn hq => hn (by rw [hq]))
  refine q_sub (Zrn (a := a.Rows) (b := b.Rows) h2) (fun e2 => ?_) (fun hn hq => hn (by rw [hq]))
  refine IsQ.t ?_
  cases a; cases b; simp_all
def Zyq (x : ZwR) : Prop := Zsm x.Object
theorem ZAB {a b : ZwR} (h : Zyq a) : IsQ (Zxo a b) (a = b) := by
  unfold Zxo
  have h1 := h
  refine Zy2 (fun e0 => ?_) (fun hn hq => hn (by rw [hq]))
  refine q_sub (Zws (a := a.Object) (b := b.Object) h1) (fun e1 => ?_) (fun hn hq => hn (by rw [hq]))
  refine Zy2 (fun e2 => ?_) (fun hn hq => hn (by rw [hq]))
  refine IsQ.t ?_
  cases a; cases b; simp_all
theorem ZAH {a b : List ZwR} (h : (OkL Zyq) a) : IsQ (ZxE a b) (a = b) := by
  unfold ZxE
  refine ZcB (B := ZxP a b) h.1 (fun k x y hx hy => ?_) ?_
  · rw [ZxP, lt_t (ZV hx), Zak hx, Zak hy]
    simp only [cond_true, Option.bind_some]
    obtain ⟨c, hc, hq⟩ := ZAB (a := x) (b := y) (h.2 x (List.mem_of_getElem? hx))
    rw [show Zxo _ _ = _ from hc]
    simp only [Option.bind_some]
    refine ZaE hq ?_
    cases c <;> rfl
  · rw [ZxP, lt_f]; rfl
def Zzk (x : ZwS) : Prop := (OkL Zyq) x.Items
theorem ZAI {a b : ZwS} (h : Zzk a) : IsQ (ZxR a b) (a = b) := by
  unfold ZxR
  have h0 := h
  refine q_sub (ZAH (a := a.Items) (b := b.Items) h0) (fun e0 => ?_) (fun hn hq => hn (by rw [hq]))
  refine IsQ.t ?_
  cases a; cases b; simp_all
end Go.Proofs.YtapkemdomnkccaaGreat
