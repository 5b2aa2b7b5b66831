import Derived.Test.YtocnokjekoglnaaVcS3
namespace Go.Vc
set_option linter.unusedVariables false
set_option linter.unusedSimpArgs false
open Go
section
variable {ψ : CM} {h0 h : Heap} {os : List Ob} {α : Type}
theorem AllR.ix {φ : CM} {E : El α} : ∀ {L : Rws} {css : List (List Value)} {xs : List α}, AllR φ E L css xs →
    ∃ Ls : List Rws, L = Ls.flatten ∧ Ls.length = xs.length ∧ css.length = xs.length ∧ ∀ (n : Nat) l c x, Ls[n]? = some l → css[n]? = some c → xs[n]? = some x → E.R φ l c x
  | _, [], [], h => ⟨[], h, rfl, rfl, fun n l c x h => by simp at h⟩
  | _, c :: cs, x :: xs, ⟨L1, L2, h1, h2, h3⟩ => by
    obtain ⟨Ls, g1, g2, g3, g4⟩ := AllR.ix h3
    refine ⟨L1 :: Ls, by rw [h1, g1]; simp, by simp [g2], by simp [g3], fun n l c' x' a b d => ?_⟩
    cases n with
    | zero => simp at a b d; subst a b d; exact h2
    | succ n => exact g4 n l c' x' (by simpa using a) (by simpa using b) (by simpa using d)
  | _, [], _ :: _, h => h.elim
  | _, _ :: _, [], h => h.elim
theorem AllR.singles {φ : CM} {E : El α} (hz : E.z = 1) : ∀ {L : Rws} {css : List (List Value)} {xs : List α}, AllR φ E L css xs → ∃ ds : List Value, css = ds.map fun d => [d]
  | _, [], [], _ => ⟨[], rfl⟩
  | _, c :: cs, x :: xs, ⟨L1, L2, h1, h2, h3⟩ => by
    obtain ⟨ds, rfl⟩ := AllR.singles hz h3
    have hl := E.len h2
    rw [hz] at hl
    match c, hl with
    | [d], _ => exact ⟨d :: ds, rfl⟩
  | _, [], _ :: _, h => h.elim
  | _, _ :: _, [], h => h.elim
theorem ZdT : ∀ ds : List Value, (ds.map fun d => [d]).flatten = ds
  | [] => rfl
  | d :: ds => by rw [List.map_cons, List.flatten_cons, ZdT ds]; rfl
theorem ZiQ {pre ds rest : List Value} {n : Nat} {w : Value} (h : n < ds.length) : (pre ++ ds ++ rest).set (pre.length + n) w = pre ++ ds.set n w ++ rest := by
  rw [List.append_assoc, List.set_append, if_neg (by omega), List.set_append, if_pos (by omega)]
  simp
theorem Zg0 {φ : CM} {M : Rws} {b n : Nat} {row : List Value} {v : Value} {K : Heap → Prop} (s : S0 ψ h0 h φ ((b, Row.cs (row)) :: M)) (hn : n < row.length) (h1 : v.oneCell' = true)
    (hK : ∀ h', S0 ψ h0 h' φ ((b, Row.cs (row.set n v)) :: M) → K h') : vStore1 h ⟨b, n, none⟩ v K := by
  have e : row = row.take n ++ [row[n]] ++ row.drop (n + 1) := by simp
  have e2 : row.set n v = row.take n ++ [v] ++ row.drop (n + 1) := by
    rw [List.set_eq_take_append_cons_drop, if_pos hn]; simp
  have sm : Sta h0 h ((b, Row.cs (row.take n ++ [row[n]] ++ row.drop (n + 1))) :: M) fun x => CLe φ (hcell x) := by rw [← e]; exact s.sta
  have := Zb4 [v] [row[n]] (row.take n) n 0 h K (by rw [List.length_take]; omega) rfl (fun u hu => by simp at hu; rw [hu]; exact h1) sm fun h' t => hK h' (by rw [e2]; exact s.of_sta' t (by rfl))
  exact this
end
end Go.Vc
