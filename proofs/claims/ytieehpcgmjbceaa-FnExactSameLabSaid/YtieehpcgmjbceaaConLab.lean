/- Labs: words, recipes, objects: compared, copied, measured. -/
import Derived.Test.YtieehpcgmjbceaaConItem
import Derived.Test.YtieehpcgmjbceaaConSz
namespace Go.Proofs.Ytieehpcgmjbceaa
open Go Go.Vc

theorem rdSt {h : Heap} {v : Value} {xs : List ByteArray} (hs : SlAt 1 eStB h v xs) {k : Nat} {x : ByteArray} (hx : xs[k]? = some x) {K : ByteArray → Prop} (hk : x.size ≤ 9223372036854775807 → K x) : vIdx v (k : Int) 1 fun p => ldS h p K :=
  vIdx_sl hs hx fun _ he => ldS_of he.stB.1 (hk he.stB.2)

section
variable {h : Heap} {v u : Value} {xs ys : List ByteArray}
theorem eqWords_ok (hv : SlB 1 eStB h v xs) (hu : SlB 1 eStB h u ys) : CallsH P id_laws_eqStringS #[v, u] h (Eqs h xs ys) := by
  apply w_laws_eqStringS
  unfold F_laws_eqStringS
  refine vLen_sl hv.1 (vLen_sl hu.1 (bif_ne (fun hne => eqs_f (ne_of_len (by omega)) (ExtH.refl _)) fun heq => ?_))
  refine loop_up xs.length hv.2 (fun k h' => ExtH h h' ∧ Agr xs ys k) ⟨ExtH.refl _, Agr.zero _ _⟩ fun J n k h' hk ⟨hx, ha⟩ next => ?_
  refine vLen_sl hv.1 (bif_lt (fun hlt => ?_) fun hge => eqs_t (ha.all (by omega) (by omega)) hx)
  obtain ⟨x, ex⟩ := get_some (xs := xs) (k := k) (by omega)
  obtain ⟨y, ey⟩ := get_some (xs := ys) (k := k) (by omega)
  refine rdSt (hv.1.ext mono_stB hx) ex fun _ => rdSt (hu.1.ext mono_stB hx) ey fun _ => bif_strne (fun hne => eqs_f (ne_of_get ex ey hne) hx) fun he => ?_
  subst he
  exact next _ (by omega) ⟨hx, ha.succ (by rw [ex, ey])⟩
theorem specWords_ok (hv : SlB 1 eStB h v xs) (hu : SlB 1 eStB h u ys) : CallsH P id_spec_l32Words #[v, u] h (Eqs h xs ys) := by
  apply w_spec_l32Words
  unfold F_spec_l32Words
  refine vLen_sl hv.1 (vLen_sl hu.1 (bif_ne (fun hne => eqs_f (ne_of_len (by omega)) (ExtH.refl _)) fun heq => ?_))
  refine loop_up xs.length hv.2 (fun k h' => ExtH h h' ∧ Agr xs ys k) ⟨ExtH.refl _, Agr.zero _ _⟩ fun J n k h' hk ⟨hx, ha⟩ next => ?_
  refine vLen_sl hv.1 (bif_lt (fun hlt => ?_) fun hge => eqs_t (ha.all (by omega) (by omega)) hx)
  obtain ⟨x, ex⟩ := get_some (xs := xs) (k := k) (by omega)
  obtain ⟨y, ey⟩ := get_some (xs := ys) (k := k) (by omega)
  refine rdSt (hv.1.ext mono_stB hx) ex fun _ => rdSt (hu.1.ext mono_stB hx) ey fun _ => bif_strne (fun hne => eqs_f (ne_of_get ex ey hne) hx) fun he => ?_
  subst he
  exact next _ (by omega) ⟨hx, ha.succ (by rw [ex, ey])⟩
theorem implWords_ok (hv : SlB 1 eStB h v xs) (hu : SlB 1 eStB h u ys) : CallsH P id_slices_Equal_string_string #[v, u] h (Eqs h xs ys) := by
  apply w_slices_Equal_string_string
  unfold F_slices_Equal_string_string
  refine vLen_sl hv.1 (vLen_sl hu.1 (bif_ne (fun hne => eqs_f (ne_of_len (by omega)) (ExtH.refl _)) fun heq => vLen_sl hv.1 ?_))
  refine loop_up xs.length hv.2 (fun k h' => ExtH h h' ∧ Agr xs ys k) ⟨ExtH.refl _, Agr.zero _ _⟩ fun J n k h' hk ⟨hx, ha⟩ next => ?_
  refine bif_lt (fun hlt => ?_) fun hge => eqs_t (ha.all (by omega) (by omega)) hx
  obtain ⟨x, ex⟩ := get_some (xs := xs) (k := k) (by omega)
  obtain ⟨y, ey⟩ := get_some (xs := ys) (k := k) (by omega)
  refine rdSt (hv.1.ext mono_stB hx) ex fun _ => rdSt (hu.1.ext mono_stB hx) ey fun _ => bif_strne (fun hne => eqs_f (ne_of_get ex ey hne) hx) fun he => ?_
  subst he
  exact next _ (by omega) ⟨hx, ha.succ (by rw [ex, ey])⟩
def SmWords (xs : List ByteArray) : Prop := Sm xs ∧ ∀ x ∈ xs, x.size ≤ 1048576
theorem toWords_ok (hv : SlB 1 eStB h v xs) (hs : SmWords xs) :
    CallsH P id_laws_toStringS #[v] h fun r h' => ExtH h h' ∧ Fp (h.size ≤ ·) h' fun x => SlB 1 eStB x r xs := by
  obtain ⟨hs, _⟩ := hs
  unfold Sm at hs
  apply w_laws_toStringS
  unfold F_laws_toStringS
  refine vLen_sl hv.1 ?_
  have st : Sta h h [] (fun x => ExtH h x) := Sta.start fun _ h => h
  refine make_fill (z := 1) (E := eStB) (xs := xs) st rfl (by omega) (by omega) fun b h1 f => ?_
  refine loop_up xs.length hv.2 (fun k h' => ∃ css, Fill 1 _ eStB xs h h' [] _ b k css) ⟨[], f⟩ fun J n k h' hk ⟨css, f⟩ next => ?_
  refine vLen_sl hv.1 (bif_lt (fun hlt => ?_) fun hge => ⟨f.st.ext, (f.done (by omega)).imp fun _ h => ⟨h, hv.2⟩⟩)
  obtain ⟨x, ex⟩ := get_some (xs := xs) (k := k) (by omega)
  refine rdSt (hv.1.ext mono_stB f.st.ext) ex fun hx => ?_
  refine f.idx (by omega) fun hl => ?_
  refine store_mid (f.mid (by omega)) 0 hl rfl rfl rfl fun h2 st => ?_
  exact next _ (by omega) ⟨_, fill_step ex f.len f.zz rfl (st.imp fun y hy => ⟨hy, fun _ _ _ => ⟨rfl, hx⟩⟩)⟩
theorem mem_take_succ {α : Type} {xs : List α} {k : Nat} {x : α} (ex : xs[k]? = some x) {p : α → Prop} (h1 : ∀ y ∈ xs.take k, p y) (h2 : p x) : ∀ y ∈ xs.take (k + 1), p y := by
  rw [List.take_add_one, ex]
  intro w hw
  rcases List.mem_append.1 hw with h3 | h3
  · exact h1 w h3
  · simp at h3; subst h3; exact h2
theorem szWords_ok {l : Int} (hv : SlB 1 eStB h v xs) (hl : 0 ≤ l) (hb : l ≤ 1048576) : CallsH P id_laws_szStringS #[v, .int .i64 l] h (SzP h l (SmWords xs)) := by
  apply w_laws_szStringS
  unfold F_laws_szStringS
  have hn := hv.2
  refine vLen_sl hv.1 ?_
  rw [sub_wrap hl hb (by omega) (by omega)]
  refine bif_lt (fun _ => szp_neg hl (ExtH.refl _)) fun hge => ?_
  refine loop_upA xs.length hv.2 (fun k a h' => ExtH h h' ∧ 0 ≤ a ∧ a ≤ l ∧ ∀ x ∈ xs.take k, x.size ≤ 1048576) ⟨ExtH.refl _, hge, by omega, by simp⟩ fun J n k a h' hk ⟨hx, h0, ha, hs⟩ next => ?_
  refine vLen_sl hv.1 (bif_lt (fun hlt => ?_) fun hge => ⟨_, rfl, hx, ha, fun _ => ⟨by unfold Sm; omega, by rwa [List.take_of_length_le (by omega)] at hs⟩⟩)
  obtain ⟨x, ex⟩ := get_some (xs := xs) (k := k) (by omega)
  refine rdSt (hv.1.ext mono_stB hx) ex fun hsz => ?_
  rw [sub_wrap h0 (by omega) (by omega) (by omega)]
  exact bif_lt (fun _ => szp_neg hl hx) fun hge => next _ _ (by omega) ⟨hx, hge, by omega, mem_take_succ ex hs (by omega)⟩
end

section
variable {h : Heap} {n m n' m' : ByteArray} {v u v' u' : Value} {ps ps' : List Int} {ws ws' : List ByteArray}
theorem rec_ne1 (hne : n ≠ n') : (⟨n, m, ps, ws⟩ : DRecipe) ≠ ⟨n', m', ps', ws'⟩ := fun e => hne (congrArg DRecipe.name e)
theorem rec_ne2 (hne : m ≠ m') : (⟨n, m, ps, ws⟩ : DRecipe) ≠ ⟨n', m', ps', ws'⟩ := fun e => hne (congrArg DRecipe.verb e)
theorem rec_ne3 (hne : ps ≠ ps') : (⟨n, m, ps, ws⟩ : DRecipe) ≠ ⟨n', m', ps', ws'⟩ := fun e => hne (congrArg DRecipe.params e)
theorem rec_ne4 (hne : ws ≠ ws') : (⟨n, m, ps, ws⟩ : DRecipe) ≠ ⟨n', m', ps', ws'⟩ := fun e => hne (congrArg DRecipe.inputs e)
theorem rec_eq (h1 : n = n') (h2 : m = m') (h3 : ps = ps') (h4 : ws = ws') : (⟨n, m, ps, ws⟩ : DRecipe) = ⟨n', m', ps', ws'⟩ := by rw [h1, h2, h3, h4]

theorem eqRecipe_ok (hv : SlB 1 eI64 h v ps) (hu : SlB 1 eStB h u ws) (hv' : SlB 1 eI64 h v' ps') (hu' : SlB 1 eStB h u' ws') :
    CallsH P id_laws_eqRecipe #[.agg #[.string n, .string m, v, u], .agg #[.string n', .string m', v', u']] h (Eqs h (⟨n, m, ps, ws⟩ : DRecipe) ⟨n', m', ps', ws'⟩) := by
  apply w_laws_eqRecipe
  unfold F_laws_eqRecipe
  have st : Sta h h [] (fun x => ExtH h x) := Sta.start fun _ h => h
  (repeat (first | refine new_st st fun _ _ st => ?_ | refine ldI_st st 0 rfl rfl rfl ?_ | refine ldI_st st 1 rfl rfl rfl ?_ | refine ldI_st st 2 rfl rfl rfl ?_ | refine ldI_st st 3 rfl rfl rfl ?_ | refine ldI_st st 4 rfl rfl rfl ?_ | refine ldI_st st 5 rfl rfl rfl ?_ | refine ldS_st st 0 rfl rfl rfl ?_ | refine ldS_st st 1 rfl rfl rfl ?_ | refine ldS_st st 2 rfl rfl rfl ?_ | refine ldS_st st 3 rfl rfl rfl ?_ | refine ldS_st st 4 rfl rfl rfl ?_ | refine ldS_st st 5 rfl rfl rfl ?_ | refine ldV_st st 0 rfl rfl rfl ?_ | refine ldV_st st 1 rfl rfl rfl ?_ | refine ldV_st st 2 rfl rfl rfl ?_ | refine ldV_st st 3 rfl rfl rfl ?_ | refine ldV_st st 4 rfl rfl rfl ?_ | refine ldV_st st 5 rfl rfl rfl ?_ | refine ldB_st st 0 rfl rfl rfl ?_ | refine ldB_st st 1 rfl rfl rfl ?_ | refine ldB_st st 2 rfl rfl rfl ?_ | refine ldB_st st 3 rfl rfl rfl ?_ | refine ldB_st st 4 rfl rfl rfl ?_ | refine ldB_st st 5 rfl rfl rfl ?_ | refine ldP_st st 0 rfl rfl rfl ?_ | refine ldP_st st 1 rfl rfl rfl ?_ | refine ldP_st st 2 rfl rfl rfl ?_ | refine ldP_st st 3 rfl rfl rfl ?_ | refine ldP_st st 4 rfl rfl rfl ?_ | refine ldP_st st 5 rfl rfl rfl ?_ | (refine store_st st 0 rfl rfl rfl (by first | rfl | assumption) fun _ st => ?_; dsimp only [List.set] at st) | (refine store_st st 1 rfl rfl rfl (by first | rfl | assumption) fun _ st => ?_; dsimp only [List.set] at st) | (refine store_st st 2 rfl rfl rfl (by first | rfl | assumption) fun _ st => ?_; dsimp only [List.set] at st) | (refine store_st st 3 rfl rfl rfl (by first | rfl | assumption) fun _ st => ?_; dsimp only [List.set] at st) | (refine store_st st 4 rfl rfl rfl (by first | rfl | assumption) fun _ st => ?_; dsimp only [List.set] at st) | (refine store_st st 5 rfl rfl rfl (by first | rfl | assumption) fun _ st => ?_; dsimp only [List.set] at st)))
  refine bif_strne (fun hne => eqs_f (rec_ne1 hne) st.ext) fun e1 => ?_
  (repeat (first | refine new_st st fun _ _ st => ?_ | refine ldI_st st 0 rfl rfl rfl ?_ | refine ldI_st st 1 rfl rfl rfl ?_ | refine ldI_st st 2 rfl rfl rfl ?_ | refine ldI_st st 3 rfl rfl rfl ?_ | refine ldI_st st 4 rfl rfl rfl ?_ | refine ldI_st st 5 rfl rfl rfl ?_ | refine ldS_st st 0 rfl rfl rfl ?_ | refine ldS_st st 1 rfl rfl rfl ?_ | refine ldS_st st 2 rfl rfl rfl ?_ | refine ldS_st st 3 rfl rfl rfl ?_ | refine ldS_st st 4 rfl rfl rfl ?_ | refine ldS_st st 5 rfl rfl rfl ?_ | refine ldV_st st 0 rfl rfl rfl ?_ | refine ldV_st st 1 rfl rfl rfl ?_ | refine ldV_st st 2 rfl rfl rfl ?_ | refine ldV_st st 3 rfl rfl rfl ?_ | refine ldV_st st 4 rfl rfl rfl ?_ | refine ldV_st st 5 rfl rfl rfl ?_ | refine ldB_st st 0 rfl rfl rfl ?_ | refine ldB_st st 1 rfl rfl rfl ?_ | refine ldB_st st 2 rfl rfl rfl ?_ | refine ldB_st st 3 rfl rfl rfl ?_ | refine ldB_st st 4 rfl rfl rfl ?_ | refine ldB_st st 5 rfl rfl rfl ?_ | refine ldP_st st 0 rfl rfl rfl ?_ | refine ldP_st st 1 rfl rfl rfl ?_ | refine ldP_st st 2 rfl rfl rfl ?_ | refine ldP_st st 3 rfl rfl rfl ?_ | refine ldP_st st 4 rfl rfl rfl ?_ | refine ldP_st st 5 rfl rfl rfl ?_ | (refine store_st st 0 rfl rfl rfl (by first | rfl | assumption) fun _ st => ?_; dsimp only [List.set] at st) | (refine store_st st 1 rfl rfl rfl (by first | rfl | assumption) fun _ st => ?_; dsimp only [List.set] at st) | (refine store_st st 2 rfl rfl rfl (by first | rfl | assumption) fun _ st => ?_; dsimp only [List.set] at st) | (refine store_st st 3 rfl rfl rfl (by first | rfl | assumption) fun _ st => ?_; dsimp only [List.set] at st) | (refine store_st st 4 rfl rfl rfl (by first | rfl | assumption) fun _ st => ?_; dsimp only [List.set] at st) | (refine store_st st 5 rfl rfl rfl (by first | rfl | assumption) fun _ st => ?_; dsimp only [List.set] at st)))
  refine bif_strne (fun hne => eqs_f (rec_ne2 hne) st.ext) fun e2 => ?_
  (repeat (first | refine new_st st fun _ _ st => ?_ | refine ldI_st st 0 rfl rfl rfl ?_ | refine ldI_st st 1 rfl rfl rfl ?_ | refine ldI_st st 2 rfl rfl rfl ?_ | refine ldI_st st 3 rfl rfl rfl ?_ | refine ldI_st st 4 rfl rfl rfl ?_ | refine ldI_st st 5 rfl rfl rfl ?_ | refine ldS_st st 0 rfl rfl rfl ?_ | refine ldS_st st 1 rfl rfl rfl ?_ | refine ldS_st st 2 rfl rfl rfl ?_ | refine ldS_st st 3 rfl rfl rfl ?_ | refine ldS_st st 4 rfl rfl rfl ?_ | refine ldS_st st 5 rfl rfl rfl ?_ | refine ldV_st st 0 rfl rfl rfl ?_ | refine ldV_st st 1 rfl rfl rfl ?_ | refine ldV_st st 2 rfl rfl rfl ?_ | refine ldV_st st 3 rfl rfl rfl ?_ | refine ldV_st st 4 rfl rfl rfl ?_ | refine ldV_st st 5 rfl rfl rfl ?_ | refine ldB_st st 0 rfl rfl rfl ?_ | refine ldB_st st 1 rfl rfl rfl ?_ | refine ldB_st st 2 rfl rfl rfl ?_ | refine ldB_st st 3 rfl rfl rfl ?_ | refine ldB_st st 4 rfl rfl rfl ?_ | refine ldB_st st 5 rfl rfl rfl ?_ | refine ldP_st st 0 rfl rfl rfl ?_ | refine ldP_st st 1 rfl rfl rfl ?_ | refine ldP_st st 2 rfl rfl rfl ?_ | refine ldP_st st 3 rfl rfl rfl ?_ | refine ldP_st st 4 rfl rfl rfl ?_ | refine ldP_st st 5 rfl rfl rfl ?_ | (refine store_st st 0 rfl rfl rfl (by first | rfl | assumption) fun _ st => ?_; dsimp only [List.set] at st) | (refine store_st st 1 rfl rfl rfl (by first | rfl | assumption) fun _ st => ?_; dsimp only [List.set] at st) | (refine store_st st 2 rfl rfl rfl (by first | rfl | assumption) fun _ st => ?_; dsimp only [List.set] at st) | (refine store_st st 3 rfl rfl rfl (by first | rfl | assumption) fun _ st => ?_; dsimp only [List.set] at st) | (refine store_st st 4 rfl rfl rfl (by first | rfl | assumption) fun _ st => ?_; dsimp only [List.set] at st) | (refine store_st st 5 rfl rfl rfl (by first | rfl | assumption) fun _ st => ?_; dsimp only [List.set] at st)))
  refine (eqRow_ok (hv.ext mono_i64 st.ext) (hv'.ext mono_i64 st.ext)).mono fun _ _ ⟨e, x2⟩ => ⟨_, e, ?_⟩
  replace st := st.call x2
  refine bif_ndec (fun hne => eqs_f (rec_ne3 hne) st.ext) fun e3 => ?_
  (repeat (first | refine new_st st fun _ _ st => ?_ | refine ldI_st st 0 rfl rfl rfl ?_ | refine ldI_st st 1 rfl rfl rfl ?_ | refine ldI_st st 2 rfl rfl rfl ?_ | refine ldI_st st 3 rfl rfl rfl ?_ | refine ldI_st st 4 rfl rfl rfl ?_ | refine ldI_st st 5 rfl rfl rfl ?_ | refine ldS_st st 0 rfl rfl rfl ?_ | refine ldS_st st 1 rfl rfl rfl ?_ | refine ldS_st st 2 rfl rfl rfl ?_ | refine ldS_st st 3 rfl rfl rfl ?_ | refine ldS_st st 4 rfl rfl rfl ?_ | refine ldS_st st 5 rfl rfl rfl ?_ | refine ldV_st st 0 rfl rfl rfl ?_ | refine ldV_st st 1 rfl rfl rfl ?_ | refine ldV_st st 2 rfl rfl rfl ?_ | refine ldV_st st 3 rfl rfl rfl ?_ | refine ldV_st st 4 rfl rfl rfl ?_ | refine ldV_st st 5 rfl rfl rfl ?_ | refine ldB_st st 0 rfl rfl rfl ?_ | refine ldB_st st 1 rfl rfl rfl ?_ | refine ldB_st st 2 rfl rfl rfl ?_ | refine ldB_st st 3 rfl rfl rfl ?_ | refine ldB_st st 4 rfl rfl rfl ?_ | refine ldB_st st 5 rfl rfl rfl ?_ | refine ldP_st st 0 rfl rfl rfl ?_ | refine ldP_st st 1 rfl rfl rfl ?_ | refine ldP_st st 2 rfl rfl rfl ?_ | refine ldP_st st 3 rfl rfl rfl ?_ | refine ldP_st st 4 rfl rfl rfl ?_ | refine ldP_st st 5 rfl rfl rfl ?_ | (refine store_st st 0 rfl rfl rfl (by first | rfl | assumption) fun _ st => ?_; dsimp only [List.set] at st) | (refine store_st st 1 rfl rfl rfl (by first | rfl | assumption) fun _ st => ?_; dsimp only [List.set] at st) | (refine store_st st 2 rfl rfl rfl (by first | rfl | assumption) fun _ st => ?_; dsimp only [List.set] at st) | (refine store_st st 3 rfl rfl rfl (by first | rfl | assumption) fun _ st => ?_; dsimp only [List.set] at st) | (refine store_st st 4 rfl rfl rfl (by first | rfl | assumption) fun _ st => ?_; dsimp only [List.set] at st) | (refine store_st st 5 rfl rfl rfl (by first | rfl | assumption) fun _ st => ?_; dsimp only [List.set] at st)))
  refine (eqWords_ok (hu.ext mono_stB st.ext) (hu'.ext mono_stB st.ext)).mono fun _ _ ⟨e, x2⟩ => ⟨_, e, ?_⟩
  replace st := st.call x2
  exact bif_ndec (fun hne => eqs_f (rec_ne4 hne) st.ext) fun e4 => eqs_t (rec_eq e1 e2 e3 e4) st.ext
theorem implRecipe_ok (hv : SlB 1 eI64 h v ps) (hu : SlB 1 eStB h u ws) (hv' : SlB 1 eI64 h v' ps') (hu' : SlB 1 eStB h u' ws') :
    CallsH P id_impl_sameRecipe #[.agg #[.string n, .string m, v, u], .agg #[.string n', .string m', v', u']] h (Eqs h (⟨n, m, ps, ws⟩ : DRecipe) ⟨n', m', ps', ws'⟩) := by
  apply w_impl_sameRecipe
  unfold F_impl_sameRecipe
  have st : Sta h h [] (fun x => ExtH h x) := Sta.start fun _ h => h
  (repeat (first | refine new_st st fun _ _ st => ?_ | refine ldI_st st 0 rfl rfl rfl ?_ | refine ldI_st st 1 rfl rfl rfl ?_ | refine ldI_st st 2 rfl rfl rfl ?_ | refine ldI_st st 3 rfl rfl rfl ?_ | refine ldI_st st 4 rfl rfl rfl ?_ | refine ldI_st st 5 rfl rfl rfl ?_ | refine ldS_st st 0 rfl rfl rfl ?_ | refine ldS_st st 1 rfl rfl rfl ?_ | refine ldS_st st 2 rfl rfl rfl ?_ | refine ldS_st st 3 rfl rfl rfl ?_ | refine ldS_st st 4 rfl rfl rfl ?_ | refine ldS_st st 5 rfl rfl rfl ?_ | refine ldV_st st 0 rfl rfl rfl ?_ | refine ldV_st st 1 rfl rfl rfl ?_ | refine ldV_st st 2 rfl rfl rfl ?_ | refine ldV_st st 3 rfl rfl rfl ?_ | refine ldV_st st 4 rfl rfl rfl ?_ | refine ldV_st st 5 rfl rfl rfl ?_ | refine ldB_st st 0 rfl rfl rfl ?_ | refine ldB_st st 1 rfl rfl rfl ?_ | refine ldB_st st 2 rfl rfl rfl ?_ | refine ldB_st st 3 rfl rfl rfl ?_ | refine ldB_st st 4 rfl rfl rfl ?_ | refine ldB_st st 5 rfl rfl rfl ?_ | refine ldP_st st 0 rfl rfl rfl ?_ | refine ldP_st st 1 rfl rfl rfl ?_ | refine ldP_st st 2 rfl rfl rfl ?_ | refine ldP_st st 3 rfl rfl rfl ?_ | refine ldP_st st 4 rfl rfl rfl ?_ | refine ldP_st st 5 rfl rfl rfl ?_ | (refine store_st st 0 rfl rfl rfl (by first | rfl | assumption) fun _ st => ?_; dsimp only [List.set] at st) | (refine store_st st 1 rfl rfl rfl (by first | rfl | assumption) fun _ st => ?_; dsimp only [List.set] at st) | (refine store_st st 2 rfl rfl rfl (by first | rfl | assumption) fun _ st => ?_; dsimp only [List.set] at st) | (refine store_st st 3 rfl rfl rfl (by first | rfl | assumption) fun _ st => ?_; dsimp only [List.set] at st) | (refine store_st st 4 rfl rfl rfl (by first | rfl | assumption) fun _ st => ?_; dsimp only [List.set] at st) | (refine store_st st 5 rfl rfl rfl (by first | rfl | assumption) fun _ st => ?_; dsimp only [List.set] at st)))
  refine bif_steq (fun e1 => ?_) fun hne => eqs_f (rec_ne1 hne) st.ext
  (repeat (first | refine new_st st fun _ _ st => ?_ | refine ldI_st st 0 rfl rfl rfl ?_ | refine ldI_st st 1 rfl rfl rfl ?_ | refine ldI_st st 2 rfl rfl rfl ?_ | refine ldI_st st 3 rfl rfl rfl ?_ | refine ldI_st st 4 rfl rfl rfl ?_ | refine ldI_st st 5 rfl rfl rfl ?_ | refine ldS_st st 0 rfl rfl rfl ?_ | refine ldS_st st 1 rfl rfl rfl ?_ | refine ldS_st st 2 rfl rfl rfl ?_ | refine ldS_st st 3 rfl rfl rfl ?_ | refine ldS_st st 4 rfl rfl rfl ?_ | refine ldS_st st 5 rfl rfl rfl ?_ | refine ldV_st st 0 rfl rfl rfl ?_ | refine ldV_st st 1 rfl rfl rfl ?_ | refine ldV_st st 2 rfl rfl rfl ?_ | refine ldV_st st 3 rfl rfl rfl ?_ | refine ldV_st st 4 rfl rfl rfl ?_ | refine ldV_st st 5 rfl rfl rfl ?_ | refine ldB_st st 0 rfl rfl rfl ?_ | refine ldB_st st 1 rfl rfl rfl ?_ | refine ldB_st st 2 rfl rfl rfl ?_ | refine ldB_st st 3 rfl rfl rfl ?_ | refine ldB_st st 4 rfl rfl rfl ?_ | refine ldB_st st 5 rfl rfl rfl ?_ | refine ldP_st st 0 rfl rfl rfl ?_ | refine ldP_st st 1 rfl rfl rfl ?_ | refine ldP_st st 2 rfl rfl rfl ?_ | refine ldP_st st 3 rfl rfl rfl ?_ | refine ldP_st st 4 rfl rfl rfl ?_ | refine ldP_st st 5 rfl rfl rfl ?_ | (refine store_st st 0 rfl rfl rfl (by first | rfl | assumption) fun _ st => ?_; dsimp only [List.set] at st) | (refine store_st st 1 rfl rfl rfl (by first | rfl | assumption) fun _ st => ?_; dsimp only [List.set] at st) | (refine store_st st 2 rfl rfl rfl (by first | rfl | assumption) fun _ st => ?_; dsimp only [List.set] at st) | (refine store_st st 3 rfl rfl rfl (by first | rfl | assumption) fun _ st => ?_; dsimp only [List.set] at st) | (refine store_st st 4 rfl rfl rfl (by first | rfl | assumption) fun _ st => ?_; dsimp only [List.set] at st) | (refine store_st st 5 rfl rfl rfl (by first | rfl | assumption) fun _ st => ?_; dsimp only [List.set] at st)))
  refine bif_steq (fun e2 => ?_) fun hne => eqs_f (rec_ne2 hne) st.ext
  (repeat (first | refine new_st st fun _ _ st => ?_ | refine ldI_st st 0 rfl rfl rfl ?_ | refine ldI_st st 1 rfl rfl rfl ?_ | refine ldI_st st 2 rfl rfl rfl ?_ | refine ldI_st st 3 rfl rfl rfl ?_ | refine ldI_st st 4 rfl rfl rfl ?_ | refine ldI_st st 5 rfl rfl rfl ?_ | refine ldS_st st 0 rfl rfl rfl ?_ | refine ldS_st st 1 rfl rfl rfl ?_ | refine ldS_st st 2 rfl rfl rfl ?_ | refine ldS_st st 3 rfl rfl rfl ?_ | refine ldS_st st 4 rfl rfl rfl ?_ | refine ldS_st st 5 rfl rfl rfl ?_ | refine ldV_st st 0 rfl rfl rfl ?_ | refine ldV_st st 1 rfl rfl rfl ?_ | refine ldV_st st 2 rfl rfl rfl ?_ | refine ldV_st st 3 rfl rfl rfl ?_ | refine ldV_st st 4 rfl rfl rfl ?_ | refine ldV_st st 5 rfl rfl rfl ?_ | refine ldB_st st 0 rfl rfl rfl ?_ | refine ldB_st st 1 rfl rfl rfl ?_ | refine ldB_st st 2 rfl rfl rfl ?_ | refine ldB_st st 3 rfl rfl rfl ?_ | refine ldB_st st 4 rfl rfl rfl ?_ | refine ldB_st st 5 rfl rfl rfl ?_ | refine ldP_st st 0 rfl rfl rfl ?_ | refine ldP_st st 1 rfl rfl rfl ?_ | refine ldP_st st 2 rfl rfl rfl ?_ | refine ldP_st st 3 rfl rfl rfl ?_ | refine ldP_st st 4 rfl rfl rfl ?_ | refine ldP_st st 5 rfl rfl rfl ?_ | (refine store_st st 0 rfl rfl rfl (by first | rfl | assumption) fun _ st => ?_; dsimp only [List.set] at st) | (refine store_st st 1 rfl rfl rfl (by first | rfl | assumption) fun _ st => ?_; dsimp only [List.set] at st) | (refine store_st st 2 rfl rfl rfl (by first | rfl | assumption) fun _ st => ?_; dsimp only [List.set] at st) | (refine store_st st 3 rfl rfl rfl (by first | rfl | assumption) fun _ st => ?_; dsimp only [List.set] at st) | (refine store_st st 4 rfl rfl rfl (by first | rfl | assumption) fun _ st => ?_; dsimp only [List.set] at st) | (refine store_st st 5 rfl rfl rfl (by first | rfl | assumption) fun _ st => ?_; dsimp only [List.set] at st)))
  refine (implRow_ok (hv.ext mono_i64 st.ext) (hv'.ext mono_i64 st.ext)).mono fun _ _ ⟨e, x2⟩ => ⟨_, e, ?_⟩
  replace st := st.call x2
  refine bif_dec (fun e3 => ?_) fun hne => eqs_f (rec_ne3 hne) st.ext
  (repeat (first | refine new_st st fun _ _ st => ?_ | refine ldI_st st 0 rfl rfl rfl ?_ | refine ldI_st st 1 rfl rfl rfl ?_ | refine ldI_st st 2 rfl rfl rfl ?_ | refine ldI_st st 3 rfl rfl rfl ?_ | refine ldI_st st 4 rfl rfl rfl ?_ | refine ldI_st st 5 rfl rfl rfl ?_ | refine ldS_st st 0 rfl rfl rfl ?_ | refine ldS_st st 1 rfl rfl rfl ?_ | refine ldS_st st 2 rfl rfl rfl ?_ | refine ldS_st st 3 rfl rfl rfl ?_ | refine ldS_st st 4 rfl rfl rfl ?_ | refine ldS_st st 5 rfl rfl rfl ?_ | refine ldV_st st 0 rfl rfl rfl ?_ | refine ldV_st st 1 rfl rfl rfl ?_ | refine ldV_st st 2 rfl rfl rfl ?_ | refine ldV_st st 3 rfl rfl rfl ?_ | refine ldV_st st 4 rfl rfl rfl ?_ | refine ldV_st st 5 rfl rfl rfl ?_ | refine ldB_st st 0 rfl rfl rfl ?_ | refine ldB_st st 1 rfl rfl rfl ?_ | refine ldB_st st 2 rfl rfl rfl ?_ | refine ldB_st st 3 rfl rfl rfl ?_ | refine ldB_st st 4 rfl rfl rfl ?_ | refine ldB_st st 5 rfl rfl rfl ?_ | refine ldP_st st 0 rfl rfl rfl ?_ | refine ldP_st st 1 rfl rfl rfl ?_ | refine ldP_st st 2 rfl rfl rfl ?_ | refine ldP_st st 3 rfl rfl rfl ?_ | refine ldP_st st 4 rfl rfl rfl ?_ | refine ldP_st st 5 rfl rfl rfl ?_ | (refine store_st st 0 rfl rfl rfl (by first | rfl | assumption) fun _ st => ?_; dsimp only [List.set] at st) | (refine store_st st 1 rfl rfl rfl (by first | rfl | assumption) fun _ st => ?_; dsimp only [List.set] at st) | (refine store_st st 2 rfl rfl rfl (by first | rfl | assumption) fun _ st => ?_; dsimp only [List.set] at st) | (refine store_st st 3 rfl rfl rfl (by first | rfl | assumption) fun _ st => ?_; dsimp only [List.set] at st) | (refine store_st st 4 rfl rfl rfl (by first | rfl | assumption) fun _ st => ?_; dsimp only [List.set] at st) | (refine store_st st 5 rfl rfl rfl (by first | rfl | assumption) fun _ st => ?_; dsimp only [List.set] at st)))
  refine (implWords_ok (hu.ext mono_stB st.ext) (hu'.ext mono_stB st.ext)).mono fun _ _ ⟨e, x2⟩ => ⟨_, e, ?_, st.ext.trans x2⟩
  subst e1; subst e2; subst e3
  simp
def SmRec (x : DRecipe) : Prop := x.name.size ≤ 1048576 ∧ x.verb.size ≤ 1048576 ∧ Sm x.params ∧ SmWords x.inputs
theorem toRecipe_ok (hv : SlB 1 eI64 h v ps) (hu : SlB 1 eStB h u ws) (hs : SmRec ⟨n, m, ps, ws⟩) :
    CallsH P id_laws_toRecipe #[.agg #[.string n, .string m, v, u]] h fun r h' => ∃ v' u', r = .agg #[.string n, .string m, v', u'] ∧ ExtH h h' ∧ Fp (h.size ≤ ·) h' fun x => SlB 1 eI64 x v' ps ∧ SlB 1 eStB x u' ws := by
  obtain ⟨_, _, s1, s2⟩ := hs
  apply w_laws_toRecipe
  unfold F_laws_toRecipe
  have st : Sta h h [] (fun x => ExtH h x) := Sta.start fun _ h => h
  (repeat (first | refine new_st st fun _ _ st => ?_ | refine ldI_st st 0 rfl rfl rfl ?_ | refine ldI_st st 1 rfl rfl rfl ?_ | refine ldI_st st 2 rfl rfl rfl ?_ | refine ldI_st st 3 rfl rfl rfl ?_ | refine ldI_st st 4 rfl rfl rfl ?_ | refine ldI_st st 5 rfl rfl rfl ?_ | refine ldS_st st 0 rfl rfl rfl ?_ | refine ldS_st st 1 rfl rfl rfl ?_ | refine ldS_st st 2 rfl rfl rfl ?_ | refine ldS_st st 3 rfl rfl rfl ?_ | refine ldS_st st 4 rfl rfl rfl ?_ | refine ldS_st st 5 rfl rfl rfl ?_ | refine ldV_st st 0 rfl rfl rfl ?_ | refine ldV_st st 1 rfl rfl rfl ?_ | refine ldV_st st 2 rfl rfl rfl ?_ | refine ldV_st st 3 rfl rfl rfl ?_ | refine ldV_st st 4 rfl rfl rfl ?_ | refine ldV_st st 5 rfl rfl rfl ?_ | refine ldB_st st 0 rfl rfl rfl ?_ | refine ldB_st st 1 rfl rfl rfl ?_ | refine ldB_st st 2 rfl rfl rfl ?_ | refine ldB_st st 3 rfl rfl rfl ?_ | refine ldB_st st 4 rfl rfl rfl ?_ | refine ldB_st st 5 rfl rfl rfl ?_ | refine ldP_st st 0 rfl rfl rfl ?_ | refine ldP_st st 1 rfl rfl rfl ?_ | refine ldP_st st 2 rfl rfl rfl ?_ | refine ldP_st st 3 rfl rfl rfl ?_ | refine ldP_st st 4 rfl rfl rfl ?_ | refine ldP_st st 5 rfl rfl rfl ?_ | (refine store_st st 0 rfl rfl rfl (by first | rfl | assumption) fun _ st => ?_; dsimp only [List.set] at st) | (refine store_st st 1 rfl rfl rfl (by first | rfl | assumption) fun _ st => ?_; dsimp only [List.set] at st) | (refine store_st st 2 rfl rfl rfl (by first | rfl | assumption) fun _ st => ?_; dsimp only [List.set] at st) | (refine store_st st 3 rfl rfl rfl (by first | rfl | assumption) fun _ st => ?_; dsimp only [List.set] at st) | (refine store_st st 4 rfl rfl rfl (by first | rfl | assumption) fun _ st => ?_; dsimp only [List.set] at st) | (refine store_st st 5 rfl rfl rfl (by first | rfl | assumption) fun _ st => ?_; dsimp only [List.set] at st)))
  have hn := st.ext.1
  refine (toRow_ok (hv.ext mono_i64 st.ext) s1).mono fun r h2 ⟨x2, hm⟩ => ⟨_, rfl, ?_⟩
  replace st := st.make x2 hm
  have ov := hm.now.one
  (repeat (first | refine new_st st fun _ _ st => ?_ | refine ldI_st st 0 rfl rfl rfl ?_ | refine ldI_st st 1 rfl rfl rfl ?_ | refine ldI_st st 2 rfl rfl rfl ?_ | refine ldI_st st 3 rfl rfl rfl ?_ | refine ldI_st st 4 rfl rfl rfl ?_ | refine ldI_st st 5 rfl rfl rfl ?_ | refine ldS_st st 0 rfl rfl rfl ?_ | refine ldS_st st 1 rfl rfl rfl ?_ | refine ldS_st st 2 rfl rfl rfl ?_ | refine ldS_st st 3 rfl rfl rfl ?_ | refine ldS_st st 4 rfl rfl rfl ?_ | refine ldS_st st 5 rfl rfl rfl ?_ | refine ldV_st st 0 rfl rfl rfl ?_ | refine ldV_st st 1 rfl rfl rfl ?_ | refine ldV_st st 2 rfl rfl rfl ?_ | refine ldV_st st 3 rfl rfl rfl ?_ | refine ldV_st st 4 rfl rfl rfl ?_ | refine ldV_st st 5 rfl rfl rfl ?_ | refine ldB_st st 0 rfl rfl rfl ?_ | refine ldB_st st 1 rfl rfl rfl ?_ | refine ldB_st st 2 rfl rfl rfl ?_ | refine ldB_st st 3 rfl rfl rfl ?_ | refine ldB_st st 4 rfl rfl rfl ?_ | refine ldB_st st 5 rfl rfl rfl ?_ | refine ldP_st st 0 rfl rfl rfl ?_ | refine ldP_st st 1 rfl rfl rfl ?_ | refine ldP_st st 2 rfl rfl rfl ?_ | refine ldP_st st 3 rfl rfl rfl ?_ | refine ldP_st st 4 rfl rfl rfl ?_ | refine ldP_st st 5 rfl rfl rfl ?_ | (refine store_st st 0 rfl rfl rfl (by first | rfl | assumption) fun _ st => ?_; dsimp only [List.set] at st) | (refine store_st st 1 rfl rfl rfl (by first | rfl | assumption) fun _ st => ?_; dsimp only [List.set] at st) | (refine store_st st 2 rfl rfl rfl (by first | rfl | assumption) fun _ st => ?_; dsimp only [List.set] at st) | (refine store_st st 3 rfl rfl rfl (by first | rfl | assumption) fun _ st => ?_; dsimp only [List.set] at st) | (refine store_st st 4 rfl rfl rfl (by first | rfl | assumption) fun _ st => ?_; dsimp only [List.set] at st) | (refine store_st st 5 rfl rfl rfl (by first | rfl | assumption) fun _ st => ?_; dsimp only [List.set] at st)))
  have hn2 := st.ext.1
  refine (toWords_ok (hu.ext mono_stB st.ext) s2).mono fun r h2 ⟨x2, hm⟩ => ⟨_, rfl, ?_⟩
  replace st := st.make x2 hm
  have ou := hm.now.one
  (repeat (first | refine new_st st fun _ _ st => ?_ | refine ldI_st st 0 rfl rfl rfl ?_ | refine ldI_st st 1 rfl rfl rfl ?_ | refine ldI_st st 2 rfl rfl rfl ?_ | refine ldI_st st 3 rfl rfl rfl ?_ | refine ldI_st st 4 rfl rfl rfl ?_ | refine ldI_st st 5 rfl rfl rfl ?_ | refine ldS_st st 0 rfl rfl rfl ?_ | refine ldS_st st 1 rfl rfl rfl ?_ | refine ldS_st st 2 rfl rfl rfl ?_ | refine ldS_st st 3 rfl rfl rfl ?_ | refine ldS_st st 4 rfl rfl rfl ?_ | refine ldS_st st 5 rfl rfl rfl ?_ | refine ldV_st st 0 rfl rfl rfl ?_ | refine ldV_st st 1 rfl rfl rfl ?_ | refine ldV_st st 2 rfl rfl rfl ?_ | refine ldV_st st 3 rfl rfl rfl ?_ | refine ldV_st st 4 rfl rfl rfl ?_ | refine ldV_st st 5 rfl rfl rfl ?_ | refine ldB_st st 0 rfl rfl rfl ?_ | refine ldB_st st 1 rfl rfl rfl ?_ | refine ldB_st st 2 rfl rfl rfl ?_ | refine ldB_st st 3 rfl rfl rfl ?_ | refine ldB_st st 4 rfl rfl rfl ?_ | refine ldB_st st 5 rfl rfl rfl ?_ | refine ldP_st st 0 rfl rfl rfl ?_ | refine ldP_st st 1 rfl rfl rfl ?_ | refine ldP_st st 2 rfl rfl rfl ?_ | refine ldP_st st 3 rfl rfl rfl ?_ | refine ldP_st st 4 rfl rfl rfl ?_ | refine ldP_st st 5 rfl rfl rfl ?_ | (refine store_st st 0 rfl rfl rfl (by first | rfl | assumption) fun _ st => ?_; dsimp only [List.set] at st) | (refine store_st st 1 rfl rfl rfl (by first | rfl | assumption) fun _ st => ?_; dsimp only [List.set] at st) | (refine store_st st 2 rfl rfl rfl (by first | rfl | assumption) fun _ st => ?_; dsimp only [List.set] at st) | (refine store_st st 3 rfl rfl rfl (by first | rfl | assumption) fun _ st => ?_; dsimp only [List.set] at st) | (refine store_st st 4 rfl rfl rfl (by first | rfl | assumption) fun _ st => ?_; dsimp only [List.set] at st) | (refine store_st st 5 rfl rfl rfl (by first | rfl | assumption) fun _ st => ?_; dsimp only [List.set] at st)))
  exact ⟨_, _, rfl, st.ext, (st.now.1.2.wide fun c hc => by omega).and (st.now.2.wide fun c hc => by omega)⟩
theorem szRecipe_ok {l : Int} (hv : SlB 1 eI64 h v ps) (hu : SlB 1 eStB h u ws) (hn : n.size ≤ 9223372036854775807) (hm : m.size ≤ 9223372036854775807) (hl : 0 ≤ l) (hb : l ≤ 1048576) :
    CallsH P id_laws_szRecipe #[.agg #[.string n, .string m, v, u], .int .i64 l] h (SzP h l (SmRec ⟨n, m, ps, ws⟩)) := by
  apply w_laws_szRecipe
  unfold F_laws_szRecipe
  have st : Sta h h [] (fun x => ExtH h x) := Sta.start fun _ h => h
  (repeat (first | refine new_st st fun _ _ st => ?_ | refine ldI_st st 0 rfl rfl rfl ?_ | refine ldI_st st 1 rfl rfl rfl ?_ | refine ldI_st st 2 rfl rfl rfl ?_ | refine ldI_st st 3 rfl rfl rfl ?_ | refine ldI_st st 4 rfl rfl rfl ?_ | refine ldI_st st 5 rfl rfl rfl ?_ | refine ldS_st st 0 rfl rfl rfl ?_ | refine ldS_st st 1 rfl rfl rfl ?_ | refine ldS_st st 2 rfl rfl rfl ?_ | refine ldS_st st 3 rfl rfl rfl ?_ | refine ldS_st st 4 rfl rfl rfl ?_ | refine ldS_st st 5 rfl rfl rfl ?_ | refine ldV_st st 0 rfl rfl rfl ?_ | refine ldV_st st 1 rfl rfl rfl ?_ | refine ldV_st st 2 rfl rfl rfl ?_ | refine ldV_st st 3 rfl rfl rfl ?_ | refine ldV_st st 4 rfl rfl rfl ?_ | refine ldV_st st 5 rfl rfl rfl ?_ | refine ldB_st st 0 rfl rfl rfl ?_ | refine ldB_st st 1 rfl rfl rfl ?_ | refine ldB_st st 2 rfl rfl rfl ?_ | refine ldB_st st 3 rfl rfl rfl ?_ | refine ldB_st st 4 rfl rfl rfl ?_ | refine ldB_st st 5 rfl rfl rfl ?_ | refine ldP_st st 0 rfl rfl rfl ?_ | refine ldP_st st 1 rfl rfl rfl ?_ | refine ldP_st st 2 rfl rfl rfl ?_ | refine ldP_st st 3 rfl rfl rfl ?_ | refine ldP_st st 4 rfl rfl rfl ?_ | refine ldP_st st 5 rfl rfl rfl ?_ | (refine store_st st 0 rfl rfl rfl (by first | rfl | assumption) fun _ st => ?_; dsimp only [List.set] at st) | (refine store_st st 1 rfl rfl rfl (by first | rfl | assumption) fun _ st => ?_; dsimp only [List.set] at st) | (refine store_st st 2 rfl rfl rfl (by first | rfl | assumption) fun _ st => ?_; dsimp only [List.set] at st) | (refine store_st st 3 rfl rfl rfl (by first | rfl | assumption) fun _ st => ?_; dsimp only [List.set] at st) | (refine store_st st 4 rfl rfl rfl (by first | rfl | assumption) fun _ st => ?_; dsimp only [List.set] at st) | (refine store_st st 5 rfl rfl rfl (by first | rfl | assumption) fun _ st => ?_; dsimp only [List.set] at st)))
  rw [sub_wrap hl hb (by omega) (by omega)]
  refine bif_lt (fun _ => szp_neg hl st.ext) fun hge => ?_
  (repeat (first | refine new_st st fun _ _ st => ?_ | refine ldI_st st 0 rfl rfl rfl ?_ | refine ldI_st st 1 rfl rfl rfl ?_ | refine ldI_st st 2 rfl rfl rfl ?_ | refine ldI_st st 3 rfl rfl rfl ?_ | refine ldI_st st 4 rfl rfl rfl ?_ | refine ldI_st st 5 rfl rfl rfl ?_ | refine ldS_st st 0 rfl rfl rfl ?_ | refine ldS_st st 1 rfl rfl rfl ?_ | refine ldS_st st 2 rfl rfl rfl ?_ | refine ldS_st st 3 rfl rfl rfl ?_ | refine ldS_st st 4 rfl rfl rfl ?_ | refine ldS_st st 5 rfl rfl rfl ?_ | refine ldV_st st 0 rfl rfl rfl ?_ | refine ldV_st st 1 rfl rfl rfl ?_ | refine ldV_st st 2 rfl rfl rfl ?_ | refine ldV_st st 3 rfl rfl rfl ?_ | refine ldV_st st 4 rfl rfl rfl ?_ | refine ldV_st st 5 rfl rfl rfl ?_ | refine ldB_st st 0 rfl rfl rfl ?_ | refine ldB_st st 1 rfl rfl rfl ?_ | refine ldB_st st 2 rfl rfl rfl ?_ | refine ldB_st st 3 rfl rfl rfl ?_ | refine ldB_st st 4 rfl rfl rfl ?_ | refine ldB_st st 5 rfl rfl rfl ?_ | refine ldP_st st 0 rfl rfl rfl ?_ | refine ldP_st st 1 rfl rfl rfl ?_ | refine ldP_st st 2 rfl rfl rfl ?_ | refine ldP_st st 3 rfl rfl rfl ?_ | refine ldP_st st 4 rfl rfl rfl ?_ | refine ldP_st st 5 rfl rfl rfl ?_ | (refine store_st st 0 rfl rfl rfl (by first | rfl | assumption) fun _ st => ?_; dsimp only [List.set] at st) | (refine store_st st 1 rfl rfl rfl (by first | rfl | assumption) fun _ st => ?_; dsimp only [List.set] at st) | (refine store_st st 2 rfl rfl rfl (by first | rfl | assumption) fun _ st => ?_; dsimp only [List.set] at st) | (refine store_st st 3 rfl rfl rfl (by first | rfl | assumption) fun _ st => ?_; dsimp only [List.set] at st) | (refine store_st st 4 rfl rfl rfl (by first | rfl | assumption) fun _ st => ?_; dsimp only [List.set] at st) | (refine store_st st 5 rfl rfl rfl (by first | rfl | assumption) fun _ st => ?_; dsimp only [List.set] at st)))
  rw [sub_wrap hge (by omega) (by omega) (by omega)]
  refine bif_lt (fun _ => szp_neg hl st.ext) fun hge2 => ?_
  (repeat (first | refine new_st st fun _ _ st => ?_ | refine ldI_st st 0 rfl rfl rfl ?_ | refine ldI_st st 1 rfl rfl rfl ?_ | refine ldI_st st 2 rfl rfl rfl ?_ | refine ldI_st st 3 rfl rfl rfl ?_ | refine ldI_st st 4 rfl rfl rfl ?_ | refine ldI_st st 5 rfl rfl rfl ?_ | refine ldS_st st 0 rfl rfl rfl ?_ | refine ldS_st st 1 rfl rfl rfl ?_ | refine ldS_st st 2 rfl rfl rfl ?_ | refine ldS_st st 3 rfl rfl rfl ?_ | refine ldS_st st 4 rfl rfl rfl ?_ | refine ldS_st st 5 rfl rfl rfl ?_ | refine ldV_st st 0 rfl rfl rfl ?_ | refine ldV_st st 1 rfl rfl rfl ?_ | refine ldV_st st 2 rfl rfl rfl ?_ | refine ldV_st st 3 rfl rfl rfl ?_ | refine ldV_st st 4 rfl rfl rfl ?_ | refine ldV_st st 5 rfl rfl rfl ?_ | refine ldB_st st 0 rfl rfl rfl ?_ | refine ldB_st st 1 rfl rfl rfl ?_ | refine ldB_st st 2 rfl rfl rfl ?_ | refine ldB_st st 3 rfl rfl rfl ?_ | refine ldB_st st 4 rfl rfl rfl ?_ | refine ldB_st st 5 rfl rfl rfl ?_ | refine ldP_st st 0 rfl rfl rfl ?_ | refine ldP_st st 1 rfl rfl rfl ?_ | refine ldP_st st 2 rfl rfl rfl ?_ | refine ldP_st st 3 rfl rfl rfl ?_ | refine ldP_st st 4 rfl rfl rfl ?_ | refine ldP_st st 5 rfl rfl rfl ?_ | (refine store_st st 0 rfl rfl rfl (by first | rfl | assumption) fun _ st => ?_; dsimp only [List.set] at st) | (refine store_st st 1 rfl rfl rfl (by first | rfl | assumption) fun _ st => ?_; dsimp only [List.set] at st) | (refine store_st st 2 rfl rfl rfl (by first | rfl | assumption) fun _ st => ?_; dsimp only [List.set] at st) | (refine store_st st 3 rfl rfl rfl (by first | rfl | assumption) fun _ st => ?_; dsimp only [List.set] at st) | (refine store_st st 4 rfl rfl rfl (by first | rfl | assumption) fun _ st => ?_; dsimp only [List.set] at st) | (refine store_st st 5 rfl rfl rfl (by first | rfl | assumption) fun _ st => ?_; dsimp only [List.set] at st)))
  refine (szRow_ok (hv.ext mono_i64 st.ext) hge2 (by omega)).mono fun _ _ ⟨y, e, x2, hy, hp⟩ => ⟨_, e, ?_⟩
  replace st := st.call x2
  refine bif_lt (fun _ => szp_neg hl st.ext) fun hge3 => ?_
  (repeat (first | refine new_st st fun _ _ st => ?_ | refine ldI_st st 0 rfl rfl rfl ?_ | refine ldI_st st 1 rfl rfl rfl ?_ | refine ldI_st st 2 rfl rfl rfl ?_ | refine ldI_st st 3 rfl rfl rfl ?_ | refine ldI_st st 4 rfl rfl rfl ?_ | refine ldI_st st 5 rfl rfl rfl ?_ | refine ldS_st st 0 rfl rfl rfl ?_ | refine ldS_st st 1 rfl rfl rfl ?_ | refine ldS_st st 2 rfl rfl rfl ?_ | refine ldS_st st 3 rfl rfl rfl ?_ | refine ldS_st st 4 rfl rfl rfl ?_ | refine ldS_st st 5 rfl rfl rfl ?_ | refine ldV_st st 0 rfl rfl rfl ?_ | refine ldV_st st 1 rfl rfl rfl ?_ | refine ldV_st st 2 rfl rfl rfl ?_ | refine ldV_st st 3 rfl rfl rfl ?_ | refine ldV_st st 4 rfl rfl rfl ?_ | refine ldV_st st 5 rfl rfl rfl ?_ | refine ldB_st st 0 rfl rfl rfl ?_ | refine ldB_st st 1 rfl rfl rfl ?_ | refine ldB_st st 2 rfl rfl rfl ?_ | refine ldB_st st 3 rfl rfl rfl ?_ | refine ldB_st st 4 rfl rfl rfl ?_ | refine ldB_st st 5 rfl rfl rfl ?_ | refine ldP_st st 0 rfl rfl rfl ?_ | refine ldP_st st 1 rfl rfl rfl ?_ | refine ldP_st st 2 rfl rfl rfl ?_ | refine ldP_st st 3 rfl rfl rfl ?_ | refine ldP_st st 4 rfl rfl rfl ?_ | refine ldP_st st 5 rfl rfl rfl ?_ | (refine store_st st 0 rfl rfl rfl (by first | rfl | assumption) fun _ st => ?_; dsimp only [List.set] at st) | (refine store_st st 1 rfl rfl rfl (by first | rfl | assumption) fun _ st => ?_; dsimp only [List.set] at st) | (refine store_st st 2 rfl rfl rfl (by first | rfl | assumption) fun _ st => ?_; dsimp only [List.set] at st) | (refine store_st st 3 rfl rfl rfl (by first | rfl | assumption) fun _ st => ?_; dsimp only [List.set] at st) | (refine store_st st 4 rfl rfl rfl (by first | rfl | assumption) fun _ st => ?_; dsimp only [List.set] at st) | (refine store_st st 5 rfl rfl rfl (by first | rfl | assumption) fun _ st => ?_; dsimp only [List.set] at st)))
  refine (szWords_ok (hu.ext mono_stB st.ext) hge3 (by omega)).mono fun _ _ ⟨y, e, x2, hy, hp2⟩ => ⟨_, e, ?_⟩
  replace st := st.call x2
  exact bif_lt (fun _ => szp_neg hl st.ext) fun hge4 => ⟨_, rfl, st.ext, by omega, fun _ => ⟨(by omega : n.size ≤ 1048576), (by omega : m.size ≤ 1048576), hp hge3, hp2 hge4⟩⟩
end

section
variable {h : Heap} {v u : Value} {xs ys : List DRecipe}
theorem eqRecipes_ok (hv : SlB 4 eRecipe h v xs) (hu : SlB 4 eRecipe h u ys) : CallsH P id_laws_eqRecipeS #[v, u] h (Eqs h xs ys) := by
  apply w_laws_eqRecipeS
  unfold F_laws_eqRecipeS
  refine vLen_sl hv.1 (vLen_sl hu.1 (bif_ne (fun hne => eqs_f (ne_of_len (by omega)) (ExtH.refl _)) fun heq => ?_))
  refine loop_up xs.length hv.2 (fun k h' => ExtH h h' ∧ Agr xs ys k) ⟨ExtH.refl _, Agr.zero _ _⟩ fun J n k h' hk ⟨hx, ha⟩ next => ?_
  refine vLen_sl hv.1 (bif_lt (fun hlt => ?_) fun hge => eqs_t (ha.all (by omega) (by omega)) hx)
  obtain ⟨x, ex⟩ := get_some (xs := xs) (k := k) (by omega)
  obtain ⟨y, ey⟩ := get_some (xs := ys) (k := k) (by omega)
  refine vIdx_sl (hv.1.ext mono_recipe hx) ex fun p hp => ?_
  obtain ⟨cs, _, hp, v, w, rfl, _, _, hv, hw⟩ := hp
  (repeat (first | refine ldI_ce hp 0 rfl rfl ?_ | refine ldI_ce hp 1 rfl rfl ?_ | refine ldI_ce hp 2 rfl rfl ?_ | refine ldI_ce hp 3 rfl rfl ?_ | refine ldI_ce hp 4 rfl rfl ?_ | refine ldI_ce hp 5 rfl rfl ?_ | refine ldS_ce hp 0 rfl rfl ?_ | refine ldS_ce hp 1 rfl rfl ?_ | refine ldS_ce hp 2 rfl rfl ?_ | refine ldS_ce hp 3 rfl rfl ?_ | refine ldS_ce hp 4 rfl rfl ?_ | refine ldS_ce hp 5 rfl rfl ?_ | refine ldV_ce hp 0 rfl rfl ?_ | refine ldV_ce hp 1 rfl rfl ?_ | refine ldV_ce hp 2 rfl rfl ?_ | refine ldV_ce hp 3 rfl rfl ?_ | refine ldV_ce hp 4 rfl rfl ?_ | refine ldV_ce hp 5 rfl rfl ?_ | refine ldB_ce hp 0 rfl rfl ?_ | refine ldB_ce hp 1 rfl rfl ?_ | refine ldB_ce hp 2 rfl rfl ?_ | refine ldB_ce hp 3 rfl rfl ?_ | refine ldB_ce hp 4 rfl rfl ?_ | refine ldB_ce hp 5 rfl rfl ?_))
  refine vIdx_sl (hu.1.ext mono_recipe hx) ey fun q hq => ?_
  obtain ⟨cs, _, hq, u, z, rfl, _, _, hu, hz⟩ := hq
  (repeat (first | refine ldI_ce hq 0 rfl rfl ?_ | refine ldI_ce hq 1 rfl rfl ?_ | refine ldI_ce hq 2 rfl rfl ?_ | refine ldI_ce hq 3 rfl rfl ?_ | refine ldI_ce hq 4 rfl rfl ?_ | refine ldI_ce hq 5 rfl rfl ?_ | refine ldS_ce hq 0 rfl rfl ?_ | refine ldS_ce hq 1 rfl rfl ?_ | refine ldS_ce hq 2 rfl rfl ?_ | refine ldS_ce hq 3 rfl rfl ?_ | refine ldS_ce hq 4 rfl rfl ?_ | refine ldS_ce hq 5 rfl rfl ?_ | refine ldV_ce hq 0 rfl rfl ?_ | refine ldV_ce hq 1 rfl rfl ?_ | refine ldV_ce hq 2 rfl rfl ?_ | refine ldV_ce hq 3 rfl rfl ?_ | refine ldV_ce hq 4 rfl rfl ?_ | refine ldV_ce hq 5 rfl rfl ?_ | refine ldB_ce hq 0 rfl rfl ?_ | refine ldB_ce hq 1 rfl rfl ?_ | refine ldB_ce hq 2 rfl rfl ?_ | refine ldB_ce hq 3 rfl rfl ?_ | refine ldB_ce hq 4 rfl rfl ?_ | refine ldB_ce hq 5 rfl rfl ?_))
  refine (eqRecipe_ok hv hw hu hz).mono fun _ _ ⟨e, x2⟩ => ⟨_, e, ?_⟩
  refine bif_ndec (fun hne => eqs_f (ne_of_get ex ey hne) (hx.trans x2)) fun he => ?_
  exact next _ (by omega) ⟨hx.trans x2, ha.succ (by rw [ex, ey]; exact congrArg some he)⟩
theorem implRecipes_ok (hv : SlB 4 eRecipe h v xs) (hu : SlB 4 eRecipe h u ys) : CallsH P id_slices_EqualFunc_impl_Recipe_impl_Recipe_impl_Recipe_impl_Recipe #[v, u, .func (.func id_impl_sameRecipe) #[] #[]] h (Eqs h xs ys) := by
  apply w_slices_EqualFunc_impl_Recipe_impl_Recipe_impl_Recipe_impl_Recipe (cap2 := [])
  unfold F_slices_EqualFunc_impl_Recipe_impl_Recipe_impl_Recipe_impl_Recipe
  refine vLen_sl hv.1 (vLen_sl hu.1 (bif_ne (fun hne => eqs_f (ne_of_len (by omega)) (ExtH.refl _)) fun heq => vLen_sl hv.1 ?_))
  refine loop_up xs.length hv.2 (fun k h' => ExtH h h' ∧ Agr xs ys k) ⟨ExtH.refl _, Agr.zero _ _⟩ fun J n k h' hk ⟨hx, ha⟩ next => ?_
  refine bif_lt (fun hlt => ?_) fun hge => eqs_t (ha.all (by omega) (by omega)) hx
  obtain ⟨x, ex⟩ := get_some (xs := xs) (k := k) (by omega)
  obtain ⟨y, ey⟩ := get_some (xs := ys) (k := k) (by omega)
  have st : Sta h' h' [] (fun x => ExtH h' x) := Sta.start fun _ h => h
  refine vIdx_sl (hv.1.ext mono_recipe hx) ex fun p hp => ?_
  obtain ⟨cs, _, hp, v, w, rfl, _, _, hv, hw⟩ := hp
  (repeat (first | refine ldI_ce hp 0 rfl rfl ?_ | refine ldI_ce hp 1 rfl rfl ?_ | refine ldI_ce hp 2 rfl rfl ?_ | refine ldI_ce hp 3 rfl rfl ?_ | refine ldI_ce hp 4 rfl rfl ?_ | refine ldI_ce hp 5 rfl rfl ?_ | refine ldS_ce hp 0 rfl rfl ?_ | refine ldS_ce hp 1 rfl rfl ?_ | refine ldS_ce hp 2 rfl rfl ?_ | refine ldS_ce hp 3 rfl rfl ?_ | refine ldS_ce hp 4 rfl rfl ?_ | refine ldS_ce hp 5 rfl rfl ?_ | refine ldV_ce hp 0 rfl rfl ?_ | refine ldV_ce hp 1 rfl rfl ?_ | refine ldV_ce hp 2 rfl rfl ?_ | refine ldV_ce hp 3 rfl rfl ?_ | refine ldV_ce hp 4 rfl rfl ?_ | refine ldV_ce hp 5 rfl rfl ?_ | refine ldB_ce hp 0 rfl rfl ?_ | refine ldB_ce hp 1 rfl rfl ?_ | refine ldB_ce hp 2 rfl rfl ?_ | refine ldB_ce hp 3 rfl rfl ?_ | refine ldB_ce hp 4 rfl rfl ?_ | refine ldB_ce hp 5 rfl rfl ?_))
  have ov := hv.one
  have ow := hw.one
  (repeat (first | refine new_st st fun _ _ st => ?_ | refine ldI_st st 0 rfl rfl rfl ?_ | refine ldI_st st 1 rfl rfl rfl ?_ | refine ldI_st st 2 rfl rfl rfl ?_ | refine ldI_st st 3 rfl rfl rfl ?_ | refine ldI_st st 4 rfl rfl rfl ?_ | refine ldI_st st 5 rfl rfl rfl ?_ | refine ldS_st st 0 rfl rfl rfl ?_ | refine ldS_st st 1 rfl rfl rfl ?_ | refine ldS_st st 2 rfl rfl rfl ?_ | refine ldS_st st 3 rfl rfl rfl ?_ | refine ldS_st st 4 rfl rfl rfl ?_ | refine ldS_st st 5 rfl rfl rfl ?_ | refine ldV_st st 0 rfl rfl rfl ?_ | refine ldV_st st 1 rfl rfl rfl ?_ | refine ldV_st st 2 rfl rfl rfl ?_ | refine ldV_st st 3 rfl rfl rfl ?_ | refine ldV_st st 4 rfl rfl rfl ?_ | refine ldV_st st 5 rfl rfl rfl ?_ | refine ldB_st st 0 rfl rfl rfl ?_ | refine ldB_st st 1 rfl rfl rfl ?_ | refine ldB_st st 2 rfl rfl rfl ?_ | refine ldB_st st 3 rfl rfl rfl ?_ | refine ldB_st st 4 rfl rfl rfl ?_ | refine ldB_st st 5 rfl rfl rfl ?_ | refine ldP_st st 0 rfl rfl rfl ?_ | refine ldP_st st 1 rfl rfl rfl ?_ | refine ldP_st st 2 rfl rfl rfl ?_ | refine ldP_st st 3 rfl rfl rfl ?_ | refine ldP_st st 4 rfl rfl rfl ?_ | refine ldP_st st 5 rfl rfl rfl ?_ | (refine store_st st 0 rfl rfl rfl (by first | rfl | assumption) fun _ st => ?_; dsimp only [List.set] at st) | (refine store_st st 1 rfl rfl rfl (by first | rfl | assumption) fun _ st => ?_; dsimp only [List.set] at st) | (refine store_st st 2 rfl rfl rfl (by first | rfl | assumption) fun _ st => ?_; dsimp only [List.set] at st) | (refine store_st st 3 rfl rfl rfl (by first | rfl | assumption) fun _ st => ?_; dsimp only [List.set] at st) | (refine store_st st 4 rfl rfl rfl (by first | rfl | assumption) fun _ st => ?_; dsimp only [List.set] at st) | (refine store_st st 5 rfl rfl rfl (by first | rfl | assumption) fun _ st => ?_; dsimp only [List.set] at st)))
  refine vIdx_sl (hu.1.ext mono_recipe hx) ey fun q hq => ?_
  obtain ⟨cs, _, hq, u, z, rfl, _, _, hu, hz⟩ := hq
  replace hq := hq.ext st.ext
  (repeat (first | refine ldI_ce hq 0 rfl rfl ?_ | refine ldI_ce hq 1 rfl rfl ?_ | refine ldI_ce hq 2 rfl rfl ?_ | refine ldI_ce hq 3 rfl rfl ?_ | refine ldI_ce hq 4 rfl rfl ?_ | refine ldI_ce hq 5 rfl rfl ?_ | refine ldS_ce hq 0 rfl rfl ?_ | refine ldS_ce hq 1 rfl rfl ?_ | refine ldS_ce hq 2 rfl rfl ?_ | refine ldS_ce hq 3 rfl rfl ?_ | refine ldS_ce hq 4 rfl rfl ?_ | refine ldS_ce hq 5 rfl rfl ?_ | refine ldV_ce hq 0 rfl rfl ?_ | refine ldV_ce hq 1 rfl rfl ?_ | refine ldV_ce hq 2 rfl rfl ?_ | refine ldV_ce hq 3 rfl rfl ?_ | refine ldV_ce hq 4 rfl rfl ?_ | refine ldV_ce hq 5 rfl rfl ?_ | refine ldB_ce hq 0 rfl rfl ?_ | refine ldB_ce hq 1 rfl rfl ?_ | refine ldB_ce hq 2 rfl rfl ?_ | refine ldB_ce hq 3 rfl rfl ?_ | refine ldB_ce hq 4 rfl rfl ?_ | refine ldB_ce hq 5 rfl rfl ?_))
  have ou := hu.one
  have oz := hz.one
  (repeat (first | refine new_st st fun _ _ st => ?_ | refine ldI_st st 0 rfl rfl rfl ?_ | refine ldI_st st 1 rfl rfl rfl ?_ | refine ldI_st st 2 rfl rfl rfl ?_ | refine ldI_st st 3 rfl rfl rfl ?_ | refine ldI_st st 4 rfl rfl rfl ?_ | refine ldI_st st 5 rfl rfl rfl ?_ | refine ldS_st st 0 rfl rfl rfl ?_ | refine ldS_st st 1 rfl rfl rfl ?_ | refine ldS_st st 2 rfl rfl rfl ?_ | refine ldS_st st 3 rfl rfl rfl ?_ | refine ldS_st st 4 rfl rfl rfl ?_ | refine ldS_st st 5 rfl rfl rfl ?_ | refine ldV_st st 0 rfl rfl rfl ?_ | refine ldV_st st 1 rfl rfl rfl ?_ | refine ldV_st st 2 rfl rfl rfl ?_ | refine ldV_st st 3 rfl rfl rfl ?_ | refine ldV_st st 4 rfl rfl rfl ?_ | refine ldV_st st 5 rfl rfl rfl ?_ | refine ldB_st st 0 rfl rfl rfl ?_ | refine ldB_st st 1 rfl rfl rfl ?_ | refine ldB_st st 2 rfl rfl rfl ?_ | refine ldB_st st 3 rfl rfl rfl ?_ | refine ldB_st st 4 rfl rfl rfl ?_ | refine ldB_st st 5 rfl rfl rfl ?_ | refine ldP_st st 0 rfl rfl rfl ?_ | refine ldP_st st 1 rfl rfl rfl ?_ | refine ldP_st st 2 rfl rfl rfl ?_ | refine ldP_st st 3 rfl rfl rfl ?_ | refine ldP_st st 4 rfl rfl rfl ?_ | refine ldP_st st 5 rfl rfl rfl ?_ | (refine store_st st 0 rfl rfl rfl (by first | rfl | assumption) fun _ st => ?_; dsimp only [List.set] at st) | (refine store_st st 1 rfl rfl rfl (by first | rfl | assumption) fun _ st => ?_; dsimp only [List.set] at st) | (refine store_st st 2 rfl rfl rfl (by first | rfl | assumption) fun _ st => ?_; dsimp only [List.set] at st) | (refine store_st st 3 rfl rfl rfl (by first | rfl | assumption) fun _ st => ?_; dsimp only [List.set] at st) | (refine store_st st 4 rfl rfl rfl (by first | rfl | assumption) fun _ st => ?_; dsimp only [List.set] at st) | (refine store_st st 5 rfl rfl rfl (by first | rfl | assumption) fun _ st => ?_; dsimp only [List.set] at st)))
  refine vOkf_of (by kernel_rfl) ((implRecipe_ok (hv.ext mono_i64 st.ext) (hw.ext mono_stB st.ext) (hu.ext mono_i64 st.ext) (hz.ext mono_stB st.ext)).mono fun _ _ ⟨e, x2⟩ => ⟨_, e, ?_⟩)
  replace x2 := hx.trans (st.ext.trans x2)
  refine bif_ndec (fun hne => eqs_f (ne_of_get ex ey hne) x2) fun he => ?_
  exact next _ (by omega) ⟨x2, ha.succ (by rw [ex, ey]; exact congrArg some he)⟩
def SmRecs (xs : List DRecipe) : Prop := Sm xs ∧ ∀ x ∈ xs, SmRec x
theorem toRecipes_ok (hv : SlB 4 eRecipe h v xs) (hs : SmRecs xs) : CallsH P id_laws_toRecipeS #[v] h fun r h' => ExtH h h' ∧ Fp (h.size ≤ ·) h' fun x => SlB 4 eRecipe x r xs := by
  obtain ⟨hs, hi⟩ := hs
  unfold Sm at hs
  apply w_laws_toRecipeS
  unfold F_laws_toRecipeS
  refine vLen_sl hv.1 ?_
  have st : Sta h h [] (fun x => ExtH h x) := Sta.start fun _ h => h
  refine make_fill (z := 4) (E := eRecipe) (xs := xs) st rfl (by omega) (by omega) fun b h1 f => ?_
  refine loop_up xs.length hv.2 (fun k h' => ∃ css, Fill 4 _ eRecipe xs h h' [] _ b k css) ⟨[], f⟩ fun J n k h' hk ⟨css, f⟩ next => ?_
  refine vLen_sl hv.1 (bif_lt (fun hlt => ?_) fun hge => ⟨f.st.ext, (f.done (by omega)).imp fun _ h => ⟨h, hv.2⟩⟩)
  obtain ⟨x, ex⟩ := get_some (xs := xs) (k := k) (by omega)
  refine vIdx_sl (hv.1.ext mono_recipe f.st.ext) ex fun p hp => ?_
  obtain ⟨cs, _, hp, v, w, rfl, i1, i2, hv, hw⟩ := hp
  (repeat (first | refine ldI_ce hp 0 rfl rfl ?_ | refine ldI_ce hp 1 rfl rfl ?_ | refine ldI_ce hp 2 rfl rfl ?_ | refine ldI_ce hp 3 rfl rfl ?_ | refine ldI_ce hp 4 rfl rfl ?_ | refine ldI_ce hp 5 rfl rfl ?_ | refine ldS_ce hp 0 rfl rfl ?_ | refine ldS_ce hp 1 rfl rfl ?_ | refine ldS_ce hp 2 rfl rfl ?_ | refine ldS_ce hp 3 rfl rfl ?_ | refine ldS_ce hp 4 rfl rfl ?_ | refine ldS_ce hp 5 rfl rfl ?_ | refine ldV_ce hp 0 rfl rfl ?_ | refine ldV_ce hp 1 rfl rfl ?_ | refine ldV_ce hp 2 rfl rfl ?_ | refine ldV_ce hp 3 rfl rfl ?_ | refine ldV_ce hp 4 rfl rfl ?_ | refine ldV_ce hp 5 rfl rfl ?_ | refine ldB_ce hp 0 rfl rfl ?_ | refine ldB_ce hp 1 rfl rfl ?_ | refine ldB_ce hp 2 rfl rfl ?_ | refine ldB_ce hp 3 rfl rfl ?_ | refine ldB_ce hp 4 rfl rfl ?_ | refine ldB_ce hp 5 rfl rfl ?_))
  refine (toRecipe_ok hv hw (hi x (List.mem_of_getElem? ex))).mono fun r h2 ⟨v', u', e, x2, hm⟩ => ⟨_, _, v', u', e, ?_⟩
  have st := (f.mid (by omega)).make x2 hm
  refine (f.call x2).idx (by omega) fun hl => ?_
  refine store_mid st 0 hl rfl rfl rfl fun h3 st => ?_
  refine store_mid st 1 hl rfl rfl rfl fun h3 st => ?_
  refine store_mid st 2 hl rfl rfl hm.now.1.one fun h3 st => ?_
  refine store_mid st 3 hl rfl rfl hm.now.2.one fun h3 st => ?_
  exact next _ (by omega) ⟨_, fill_step ex f.len f.zz rfl (st.imp fun y hy => ⟨hy.1, (hy.2.wide fun c hc => f.fresh hc).imp fun _ h => ⟨_, _, rfl, i1, i2, h.1, h.2⟩⟩)⟩
theorem szRecipes_ok {l : Int} (hv : SlB 4 eRecipe h v xs) (hl : 0 ≤ l) (hb : l ≤ 1048576) : CallsH P id_laws_szRecipeS #[v, .int .i64 l] h (SzP h l (SmRecs xs)) := by
  apply w_laws_szRecipeS
  unfold F_laws_szRecipeS
  have hn := hv.2
  refine vLen_sl hv.1 ?_
  rw [sub_wrap hl hb (by omega) (by omega)]
  refine bif_lt (fun _ => szp_neg hl (ExtH.refl _)) fun hge => ?_
  refine loop_upA xs.length hv.2 (fun k a h' => ExtH h h' ∧ 0 ≤ a ∧ a ≤ l ∧ ∀ x ∈ xs.take k, SmRec x) ⟨ExtH.refl _, hge, by omega, by simp⟩ fun J n k a h' hk ⟨hx, h0, ha, hs⟩ next => ?_
  refine vLen_sl hv.1 (bif_lt (fun hlt => ?_) fun hge => ⟨_, rfl, hx, ha, fun _ => ⟨by unfold Sm; omega, by rwa [List.take_of_length_le (by omega)] at hs⟩⟩)
  obtain ⟨x, ex⟩ := get_some (xs := xs) (k := k) (by omega)
  refine vIdx_sl (hv.1.ext mono_recipe hx) ex fun p hp => ?_
  obtain ⟨cs, _, hp, v, w, rfl, i1, i2, hv, hw⟩ := hp
  (repeat (first | refine ldI_ce hp 0 rfl rfl ?_ | refine ldI_ce hp 1 rfl rfl ?_ | refine ldI_ce hp 2 rfl rfl ?_ | refine ldI_ce hp 3 rfl rfl ?_ | refine ldI_ce hp 4 rfl rfl ?_ | refine ldI_ce hp 5 rfl rfl ?_ | refine ldS_ce hp 0 rfl rfl ?_ | refine ldS_ce hp 1 rfl rfl ?_ | refine ldS_ce hp 2 rfl rfl ?_ | refine ldS_ce hp 3 rfl rfl ?_ | refine ldS_ce hp 4 rfl rfl ?_ | refine ldS_ce hp 5 rfl rfl ?_ | refine ldV_ce hp 0 rfl rfl ?_ | refine ldV_ce hp 1 rfl rfl ?_ | refine ldV_ce hp 2 rfl rfl ?_ | refine ldV_ce hp 3 rfl rfl ?_ | refine ldV_ce hp 4 rfl rfl ?_ | refine ldV_ce hp 5 rfl rfl ?_ | refine ldB_ce hp 0 rfl rfl ?_ | refine ldB_ce hp 1 rfl rfl ?_ | refine ldB_ce hp 2 rfl rfl ?_ | refine ldB_ce hp 3 rfl rfl ?_ | refine ldB_ce hp 4 rfl rfl ?_ | refine ldB_ce hp 5 rfl rfl ?_))
  refine (szRecipe_ok hv hw i1 i2 h0 (by omega)).mono fun _ _ ⟨y, e, x2, hy, hp⟩ => ⟨_, e, ?_⟩
  exact bif_lt (fun _ => szp_neg hl (hx.trans x2)) fun hge => next _ _ (by omega) ⟨hx.trans x2, hge, by omega, mem_take_succ ex hs (hp hge)⟩
end

section
variable {h : Heap} {v u : Value} {xs ys : List DObject}
theorem eqObjects_ok (hv : SlB 3 eObject h v xs) (hu : SlB 3 eObject h u ys) : CallsH P id_laws_eqObjectS #[v, u] h (Eqs h xs ys) := by
  apply w_laws_eqObjectS
  unfold F_laws_eqObjectS
  refine vLen_sl hv.1 (vLen_sl hu.1 (bif_ne (fun hne => eqs_f (ne_of_len (by omega)) (ExtH.refl _)) fun heq => ?_))
  refine loop_up xs.length hv.2 (fun k h' => ExtH h h' ∧ Agr xs ys k) ⟨ExtH.refl _, Agr.zero _ _⟩ fun J n k h' hk ⟨hx, ha⟩ next => ?_
  refine vLen_sl hv.1 (bif_lt (fun hlt => ?_) fun hge => eqs_t (ha.all (by omega) (by omega)) hx)
  obtain ⟨x, ex⟩ := get_some (xs := xs) (k := k) (by omega)
  obtain ⟨y, ey⟩ := get_some (xs := ys) (k := k) (by omega)
  refine vIdx_sl (hv.1.ext mono_object hx) ex fun p hp => ?_
  obtain ⟨cs, _, hp, v, rfl, _, _, hv⟩ := hp
  (repeat (first | refine ldI_ce hp 0 rfl rfl ?_ | refine ldI_ce hp 1 rfl rfl ?_ | refine ldI_ce hp 2 rfl rfl ?_ | refine ldI_ce hp 3 rfl rfl ?_ | refine ldI_ce hp 4 rfl rfl ?_ | refine ldI_ce hp 5 rfl rfl ?_ | refine ldS_ce hp 0 rfl rfl ?_ | refine ldS_ce hp 1 rfl rfl ?_ | refine ldS_ce hp 2 rfl rfl ?_ | refine ldS_ce hp 3 rfl rfl ?_ | refine ldS_ce hp 4 rfl rfl ?_ | refine ldS_ce hp 5 rfl rfl ?_ | refine ldV_ce hp 0 rfl rfl ?_ | refine ldV_ce hp 1 rfl rfl ?_ | refine ldV_ce hp 2 rfl rfl ?_ | refine ldV_ce hp 3 rfl rfl ?_ | refine ldV_ce hp 4 rfl rfl ?_ | refine ldV_ce hp 5 rfl rfl ?_ | refine ldB_ce hp 0 rfl rfl ?_ | refine ldB_ce hp 1 rfl rfl ?_ | refine ldB_ce hp 2 rfl rfl ?_ | refine ldB_ce hp 3 rfl rfl ?_ | refine ldB_ce hp 4 rfl rfl ?_ | refine ldB_ce hp 5 rfl rfl ?_))
  refine vIdx_sl (hu.1.ext mono_object hx) ey fun q hq => ?_
  obtain ⟨cs, _, hq, u, rfl, _, _, hu⟩ := hq
  (repeat (first | refine ldI_ce hq 0 rfl rfl ?_ | refine ldI_ce hq 1 rfl rfl ?_ | refine ldI_ce hq 2 rfl rfl ?_ | refine ldI_ce hq 3 rfl rfl ?_ | refine ldI_ce hq 4 rfl rfl ?_ | refine ldI_ce hq 5 rfl rfl ?_ | refine ldS_ce hq 0 rfl rfl ?_ | refine ldS_ce hq 1 rfl rfl ?_ | refine ldS_ce hq 2 rfl rfl ?_ | refine ldS_ce hq 3 rfl rfl ?_ | refine ldS_ce hq 4 rfl rfl ?_ | refine ldS_ce hq 5 rfl rfl ?_ | refine ldV_ce hq 0 rfl rfl ?_ | refine ldV_ce hq 1 rfl rfl ?_ | refine ldV_ce hq 2 rfl rfl ?_ | refine ldV_ce hq 3 rfl rfl ?_ | refine ldV_ce hq 4 rfl rfl ?_ | refine ldV_ce hq 5 rfl rfl ?_ | refine ldB_ce hq 0 rfl rfl ?_ | refine ldB_ce hq 1 rfl rfl ?_ | refine ldB_ce hq 2 rfl rfl ?_ | refine ldB_ce hq 3 rfl rfl ?_ | refine ldB_ce hq 4 rfl rfl ?_ | refine ldB_ce hq 5 rfl rfl ?_))
  refine (eqObject_ok hv hu).mono fun _ _ ⟨e, x2⟩ => ⟨_, e, ?_⟩
  refine bif_ndec (fun hne => eqs_f (ne_of_get ex ey hne) (hx.trans x2)) fun he => ?_
  exact next _ (by omega) ⟨hx.trans x2, ha.succ (by rw [ex, ey]; exact congrArg some he)⟩
theorem implObjects_ok (hv : SlB 3 eObject h v xs) (hu : SlB 3 eObject h u ys) : CallsH P id_slices_EqualFunc_impl_Object_impl_Object_impl_Object_impl_Object #[v, u, .func (.func id_impl_SameObject) #[] #[]] h (Eqs h xs ys) := by
  apply w_slices_EqualFunc_impl_Object_impl_Object_impl_Object_impl_Object (cap2 := [])
  unfold F_slices_EqualFunc_impl_Object_impl_Object_impl_Object_impl_Object
  refine vLen_sl hv.1 (vLen_sl hu.1 (bif_ne (fun hne => eqs_f (ne_of_len (by omega)) (ExtH.refl _)) fun heq => vLen_sl hv.1 ?_))
  refine loop_up xs.length hv.2 (fun k h' => ExtH h h' ∧ Agr xs ys k) ⟨ExtH.refl _, Agr.zero _ _⟩ fun J n k h' hk ⟨hx, ha⟩ next => ?_
  refine bif_lt (fun hlt => ?_) fun hge => eqs_t (ha.all (by omega) (by omega)) hx
  obtain ⟨x, ex⟩ := get_some (xs := xs) (k := k) (by omega)
  obtain ⟨y, ey⟩ := get_some (xs := ys) (k := k) (by omega)
  have st : Sta h' h' [] (fun x => ExtH h' x) := Sta.start fun _ h => h
  refine vIdx_sl (hv.1.ext mono_object hx) ex fun p hp => ?_
  obtain ⟨cs, _, hp, v, rfl, _, _, hv⟩ := hp
  (repeat (first | refine ldI_ce hp 0 rfl rfl ?_ | refine ldI_ce hp 1 rfl rfl ?_ | refine ldI_ce hp 2 rfl rfl ?_ | refine ldI_ce hp 3 rfl rfl ?_ | refine ldI_ce hp 4 rfl rfl ?_ | refine ldI_ce hp 5 rfl rfl ?_ | refine ldS_ce hp 0 rfl rfl ?_ | refine ldS_ce hp 1 rfl rfl ?_ | refine ldS_ce hp 2 rfl rfl ?_ | refine ldS_ce hp 3 rfl rfl ?_ | refine ldS_ce hp 4 rfl rfl ?_ | refine ldS_ce hp 5 rfl rfl ?_ | refine ldV_ce hp 0 rfl rfl ?_ | refine ldV_ce hp 1 rfl rfl ?_ | refine ldV_ce hp 2 rfl rfl ?_ | refine ldV_ce hp 3 rfl rfl ?_ | refine ldV_ce hp 4 rfl rfl ?_ | refine ldV_ce hp 5 rfl rfl ?_ | refine ldB_ce hp 0 rfl rfl ?_ | refine ldB_ce hp 1 rfl rfl ?_ | refine ldB_ce hp 2 rfl rfl ?_ | refine ldB_ce hp 3 rfl rfl ?_ | refine ldB_ce hp 4 rfl rfl ?_ | refine ldB_ce hp 5 rfl rfl ?_))
  have ov := hv.one
  (repeat (first | refine new_st st fun _ _ st => ?_ | refine ldI_st st 0 rfl rfl rfl ?_ | refine ldI_st st 1 rfl rfl rfl ?_ | refine ldI_st st 2 rfl rfl rfl ?_ | refine ldI_st st 3 rfl rfl rfl ?_ | refine ldI_st st 4 rfl rfl rfl ?_ | refine ldI_st st 5 rfl rfl rfl ?_ | refine ldS_st st 0 rfl rfl rfl ?_ | refine ldS_st st 1 rfl rfl rfl ?_ | refine ldS_st st 2 rfl rfl rfl ?_ | refine ldS_st st 3 rfl rfl rfl ?_ | refine ldS_st st 4 rfl rfl rfl ?_ | refine ldS_st st 5 rfl rfl rfl ?_ | refine ldV_st st 0 rfl rfl rfl ?_ | refine ldV_st st 1 rfl rfl rfl ?_ | refine ldV_st st 2 rfl rfl rfl ?_ | refine ldV_st st 3 rfl rfl rfl ?_ | refine ldV_st st 4 rfl rfl rfl ?_ | refine ldV_st st 5 rfl rfl rfl ?_ | refine ldB_st st 0 rfl rfl rfl ?_ | refine ldB_st st 1 rfl rfl rfl ?_ | refine ldB_st st 2 rfl rfl rfl ?_ | refine ldB_st st 3 rfl rfl rfl ?_ | refine ldB_st st 4 rfl rfl rfl ?_ | refine ldB_st st 5 rfl rfl rfl ?_ | refine ldP_st st 0 rfl rfl rfl ?_ | refine ldP_st st 1 rfl rfl rfl ?_ | refine ldP_st st 2 rfl rfl rfl ?_ | refine ldP_st st 3 rfl rfl rfl ?_ | refine ldP_st st 4 rfl rfl rfl ?_ | refine ldP_st st 5 rfl rfl rfl ?_ | (refine store_st st 0 rfl rfl rfl (by first | rfl | assumption) fun _ st => ?_; dsimp only [List.set] at st) | (refine store_st st 1 rfl rfl rfl (by first | rfl | assumption) fun _ st => ?_; dsimp only [List.set] at st) | (refine store_st st 2 rfl rfl rfl (by first | rfl | assumption) fun _ st => ?_; dsimp only [List.set] at st) | (refine store_st st 3 rfl rfl rfl (by first | rfl | assumption) fun _ st => ?_; dsimp only [List.set] at st) | (refine store_st st 4 rfl rfl rfl (by first | rfl | assumption) fun _ st => ?_; dsimp only [List.set] at st) | (refine store_st st 5 rfl rfl rfl (by first | rfl | assumption) fun _ st => ?_; dsimp only [List.set] at st)))
  refine vIdx_sl (hu.1.ext mono_object hx) ey fun q hq => ?_
  obtain ⟨cs, _, hq, u, rfl, _, _, hu⟩ := hq
  replace hq := hq.ext st.ext
  (repeat (first | refine ldI_ce hq 0 rfl rfl ?_ | refine ldI_ce hq 1 rfl rfl ?_ | refine ldI_ce hq 2 rfl rfl ?_ | refine ldI_ce hq 3 rfl rfl ?_ | refine ldI_ce hq 4 rfl rfl ?_ | refine ldI_ce hq 5 rfl rfl ?_ | refine ldS_ce hq 0 rfl rfl ?_ | refine ldS_ce hq 1 rfl rfl ?_ | refine ldS_ce hq 2 rfl rfl ?_ | refine ldS_ce hq 3 rfl rfl ?_ | refine ldS_ce hq 4 rfl rfl ?_ | refine ldS_ce hq 5 rfl rfl ?_ | refine ldV_ce hq 0 rfl rfl ?_ | refine ldV_ce hq 1 rfl rfl ?_ | refine ldV_ce hq 2 rfl rfl ?_ | refine ldV_ce hq 3 rfl rfl ?_ | refine ldV_ce hq 4 rfl rfl ?_ | refine ldV_ce hq 5 rfl rfl ?_ | refine ldB_ce hq 0 rfl rfl ?_ | refine ldB_ce hq 1 rfl rfl ?_ | refine ldB_ce hq 2 rfl rfl ?_ | refine ldB_ce hq 3 rfl rfl ?_ | refine ldB_ce hq 4 rfl rfl ?_ | refine ldB_ce hq 5 rfl rfl ?_))
  have ou := hu.one
  (repeat (first | refine new_st st fun _ _ st => ?_ | refine ldI_st st 0 rfl rfl rfl ?_ | refine ldI_st st 1 rfl rfl rfl ?_ | refine ldI_st st 2 rfl rfl rfl ?_ | refine ldI_st st 3 rfl rfl rfl ?_ | refine ldI_st st 4 rfl rfl rfl ?_ | refine ldI_st st 5 rfl rfl rfl ?_ | refine ldS_st st 0 rfl rfl rfl ?_ | refine ldS_st st 1 rfl rfl rfl ?_ | refine ldS_st st 2 rfl rfl rfl ?_ | refine ldS_st st 3 rfl rfl rfl ?_ | refine ldS_st st 4 rfl rfl rfl ?_ | refine ldS_st st 5 rfl rfl rfl ?_ | refine ldV_st st 0 rfl rfl rfl ?_ | refine ldV_st st 1 rfl rfl rfl ?_ | refine ldV_st st 2 rfl rfl rfl ?_ | refine ldV_st st 3 rfl rfl rfl ?_ | refine ldV_st st 4 rfl rfl rfl ?_ | refine ldV_st st 5 rfl rfl rfl ?_ | refine ldB_st st 0 rfl rfl rfl ?_ | refine ldB_st st 1 rfl rfl rfl ?_ | refine ldB_st st 2 rfl rfl rfl ?_ | refine ldB_st st 3 rfl rfl rfl ?_ | refine ldB_st st 4 rfl rfl rfl ?_ | refine ldB_st st 5 rfl rfl rfl ?_ | refine ldP_st st 0 rfl rfl rfl ?_ | refine ldP_st st 1 rfl rfl rfl ?_ | refine ldP_st st 2 rfl rfl rfl ?_ | refine ldP_st st 3 rfl rfl rfl ?_ | refine ldP_st st 4 rfl rfl rfl ?_ | refine ldP_st st 5 rfl rfl rfl ?_ | (refine store_st st 0 rfl rfl rfl (by first | rfl | assumption) fun _ st => ?_; dsimp only [List.set] at st) | (refine store_st st 1 rfl rfl rfl (by first | rfl | assumption) fun _ st => ?_; dsimp only [List.set] at st) | (refine store_st st 2 rfl rfl rfl (by first | rfl | assumption) fun _ st => ?_; dsimp only [List.set] at st) | (refine store_st st 3 rfl rfl rfl (by first | rfl | assumption) fun _ st => ?_; dsimp only [List.set] at st) | (refine store_st st 4 rfl rfl rfl (by first | rfl | assumption) fun _ st => ?_; dsimp only [List.set] at st) | (refine store_st st 5 rfl rfl rfl (by first | rfl | assumption) fun _ st => ?_; dsimp only [List.set] at st)))
  refine vOkf_of (by kernel_rfl) ((implObject_ok (hv.ext mono_row st.ext) (hu.ext mono_row st.ext)).mono fun _ _ ⟨e, x2⟩ => ⟨_, e, ?_⟩)
  replace x2 := hx.trans (st.ext.trans x2)
  refine bif_ndec (fun hne => eqs_f (ne_of_get ex ey hne) x2) fun he => ?_
  exact next _ (by omega) ⟨x2, ha.succ (by rw [ex, ey]; exact congrArg some he)⟩
def SmObjs (xs : List DObject) : Prop := Sm xs ∧ ∀ x ∈ xs, SmObj x
theorem toObjects_ok (hv : SlB 3 eObject h v xs) (hs : SmObjs xs) : CallsH P id_laws_toObjectS #[v] h fun r h' => ExtH h h' ∧ Fp (h.size ≤ ·) h' fun x => SlB 3 eObject x r xs := by
  obtain ⟨hs, hi⟩ := hs
  unfold Sm at hs
  apply w_laws_toObjectS
  unfold F_laws_toObjectS
  refine vLen_sl hv.1 ?_
  have st : Sta h h [] (fun x => ExtH h x) := Sta.start fun _ h => h
  refine make_fill (z := 3) (E := eObject) (xs := xs) st rfl (by omega) (by omega) fun b h1 f => ?_
  refine loop_up xs.length hv.2 (fun k h' => ∃ css, Fill 3 _ eObject xs h h' [] _ b k css) ⟨[], f⟩ fun J n k h' hk ⟨css, f⟩ next => ?_
  refine vLen_sl hv.1 (bif_lt (fun hlt => ?_) fun hge => ⟨f.st.ext, (f.done (by omega)).imp fun _ h => ⟨h, hv.2⟩⟩)
  obtain ⟨x, ex⟩ := get_some (xs := xs) (k := k) (by omega)
  refine vIdx_sl (hv.1.ext mono_object f.st.ext) ex fun p hp => ?_
  obtain ⟨cs, _, hp, v, rfl, i1, i2, hv⟩ := hp
  (repeat (first | refine ldI_ce hp 0 rfl rfl ?_ | refine ldI_ce hp 1 rfl rfl ?_ | refine ldI_ce hp 2 rfl rfl ?_ | refine ldI_ce hp 3 rfl rfl ?_ | refine ldI_ce hp 4 rfl rfl ?_ | refine ldI_ce hp 5 rfl rfl ?_ | refine ldS_ce hp 0 rfl rfl ?_ | refine ldS_ce hp 1 rfl rfl ?_ | refine ldS_ce hp 2 rfl rfl ?_ | refine ldS_ce hp 3 rfl rfl ?_ | refine ldS_ce hp 4 rfl rfl ?_ | refine ldS_ce hp 5 rfl rfl ?_ | refine ldV_ce hp 0 rfl rfl ?_ | refine ldV_ce hp 1 rfl rfl ?_ | refine ldV_ce hp 2 rfl rfl ?_ | refine ldV_ce hp 3 rfl rfl ?_ | refine ldV_ce hp 4 rfl rfl ?_ | refine ldV_ce hp 5 rfl rfl ?_ | refine ldB_ce hp 0 rfl rfl ?_ | refine ldB_ce hp 1 rfl rfl ?_ | refine ldB_ce hp 2 rfl rfl ?_ | refine ldB_ce hp 3 rfl rfl ?_ | refine ldB_ce hp 4 rfl rfl ?_ | refine ldB_ce hp 5 rfl rfl ?_))
  refine (toObject_ok hv (hi x (List.mem_of_getElem? ex))).mono fun r h2 ⟨u, e, x2, hm⟩ => ⟨_, _, u, e, ?_⟩
  have st := (f.mid (by omega)).make x2 hm
  refine (f.call x2).idx (by omega) fun hl => ?_
  refine store_mid st 0 hl rfl rfl rfl fun h3 st => ?_
  refine store_mid st 1 hl rfl rfl rfl fun h3 st => ?_
  refine store_mid st 2 hl rfl rfl hm.now.one fun h3 st => ?_
  exact next _ (by omega) ⟨_, fill_step ex f.len f.zz rfl (st.imp fun y hy => ⟨hy.1, (hy.2.wide fun c hc => f.fresh hc).imp fun _ h => ⟨_, rfl, i1, i2, h⟩⟩)⟩
theorem szObjects_ok {l : Int} (hv : SlB 3 eObject h v xs) (hl : 0 ≤ l) (hb : l ≤ 1048576) : CallsH P id_laws_szObjectS #[v, .int .i64 l] h (SzP h l (SmObjs xs)) := by
  apply w_laws_szObjectS
  unfold F_laws_szObjectS
  have hn := hv.2
  refine vLen_sl hv.1 ?_
  rw [sub_wrap hl hb (by omega) (by omega)]
  refine bif_lt (fun _ => szp_neg hl (ExtH.refl _)) fun hge => ?_
  refine loop_upA xs.length hv.2 (fun k a h' => ExtH h h' ∧ 0 ≤ a ∧ a ≤ l ∧ ∀ x ∈ xs.take k, SmObj x) ⟨ExtH.refl _, hge, by omega, by simp⟩ fun J n k a h' hk ⟨hx, h0, ha, hs⟩ next => ?_
  refine vLen_sl hv.1 (bif_lt (fun hlt => ?_) fun hge => ⟨_, rfl, hx, ha, fun _ => ⟨by unfold Sm; omega, by rwa [List.take_of_length_le (by omega)] at hs⟩⟩)
  obtain ⟨x, ex⟩ := get_some (xs := xs) (k := k) (by omega)
  refine vIdx_sl (hv.1.ext mono_object hx) ex fun p hp => ?_
  obtain ⟨cs, _, hp, v, rfl, i1, i2, hv⟩ := hp
  (repeat (first | refine ldI_ce hp 0 rfl rfl ?_ | refine ldI_ce hp 1 rfl rfl ?_ | refine ldI_ce hp 2 rfl rfl ?_ | refine ldI_ce hp 3 rfl rfl ?_ | refine ldI_ce hp 4 rfl rfl ?_ | refine ldI_ce hp 5 rfl rfl ?_ | refine ldS_ce hp 0 rfl rfl ?_ | refine ldS_ce hp 1 rfl rfl ?_ | refine ldS_ce hp 2 rfl rfl ?_ | refine ldS_ce hp 3 rfl rfl ?_ | refine ldS_ce hp 4 rfl rfl ?_ | refine ldS_ce hp 5 rfl rfl ?_ | refine ldV_ce hp 0 rfl rfl ?_ | refine ldV_ce hp 1 rfl rfl ?_ | refine ldV_ce hp 2 rfl rfl ?_ | refine ldV_ce hp 3 rfl rfl ?_ | refine ldV_ce hp 4 rfl rfl ?_ | refine ldV_ce hp 5 rfl rfl ?_ | refine ldB_ce hp 0 rfl rfl ?_ | refine ldB_ce hp 1 rfl rfl ?_ | refine ldB_ce hp 2 rfl rfl ?_ | refine ldB_ce hp 3 rfl rfl ?_ | refine ldB_ce hp 4 rfl rfl ?_ | refine ldB_ce hp 5 rfl rfl ?_))
  refine (szObject_ok hv h0 (by omega)).mono fun _ _ ⟨y, e, x2, hy, hp⟩ => ⟨_, e, ?_⟩
  exact bif_lt (fun _ => szp_neg hl (hx.trans x2)) fun hge => next _ _ (by omega) ⟨hx.trans x2, hge, by omega, mem_take_succ ex hs (hp hge)⟩
end

end Go.Proofs.Ytieehpcgmjbceaa
