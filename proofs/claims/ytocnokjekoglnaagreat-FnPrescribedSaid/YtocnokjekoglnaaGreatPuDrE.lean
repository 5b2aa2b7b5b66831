import Derived.Test.YtocnokjekoglnaaGreatCeFns
import Derived.Test.YtocnokjekoglnaaGreatPuJa
import Derived.KernelRfl
namespace Go.Proofs.YtocnokjekoglnaaGreat
open Go Go.Vc
set_option linter.unusedSimpArgs false
set_option linter.unusedVariables false
set_option maxRecDepth 100000
def grpB (g : Zb) : Bool := Nat.ble g.Elements.length 2000 && g.Elements.all fun r => Nat.ble r.length 2000
theorem ZjQ {g : Zb} (h : grpB g = true) : Sz2 g.Elements := by
  unfold grpB at h
  rw [Bool.and_eq_true, Nat.ble_eq, List.all_eq_true] at h
  exact ⟨by omega, fun b hb => by have := h.2 b hb; rw [Nat.ble_eq] at this; omega⟩
noncomputable def affT (n : Int) : Bool := match ZeG 400 n [1] with
  | some g => grpB g
  | none => false
noncomputable def frobT (p e : Int) : Bool := match Zgx 400 p e with
  | some r => grpB r.1
  | none => false
def permB (n : Int) (r : List Int) : Bool := decide ((r.length : Int) = n) && (r.all (fun x => decide (0 ≤ x) && decide (x < n)) && decide r.Nodup)
noncomputable def turnT (n a b : Int) : Bool := match ZgV 400 n a b with
  | some r => permB n r
  | none => false
theorem ZpM : ([1, 2, 3, 4, 5, 6, 7, 8, 9, 10, 11, 12, 13] : List Int).all affT = true := by kernel_rfl
theorem ZnL : ([1, 2, 3, 6] : List Int).all (frobT 7) = true := by kernel_rfl
theorem ZoE : ([5, 11, 13] : List Int).all (fun p => ([1, 2, 4] : List Int).all (frobT p)) = true := by kernel_rfl
theorem Zhr : ([1, 2, 3, 4, 5, 6, 7, 8, 9, 10, 11, 12, 13] : List Int).all (fun n => turnT n 1 1) = true := by kernel_rfl
theorem ZpQ : ([1, 2, 3, 4, 5, 6, 7, 8] : List Int).all (fun n => turnT n (n - 1) 0) = true := by kernel_rfl
theorem Zp7 : ([5, 7, 11, 13] : List Int).all (fun n => ([2, 3, 4] : List Int).all fun a => turnT n a 0) = true := by kernel_rfl
end Go.Proofs.YtocnokjekoglnaaGreat
