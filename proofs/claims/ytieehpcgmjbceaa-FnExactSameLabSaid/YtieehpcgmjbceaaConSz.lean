/- The laws' measures: what is not too large is small. -/
import Derived.Test.YtieehpcgmjbceaaConTo
namespace Go.Proofs.Ytieehpcgmjbceaa
open Go Go.Vc

/-- What a measure answers. -/
def SzP (h : Heap) (l : Int) (p : Prop) : Value → Heap → Prop := fun r h' => ∃ y, r = .int .i64 y ∧ ExtH h h' ∧ y ≤ l ∧ (0 ≤ y → p)
theorem szp_neg {h h' : Heap} {l : Int} {p : Prop} (hl : 0 ≤ l) (hx : ExtH h h') : SzP h l p (.int .i64 (-1)) h' := ⟨_, rfl, hx, by omega, fun h => by omega⟩
theorem sub_wrap {l n : Int} (hl : 0 ≤ l) (hb : l ≤ 1048576) (h0 : 0 ≤ n) (hn : n ≤ 9223372036854775807) : IntKind.i64.wrap (l - n) = l - n := wrap64_of (by omega) (by omega)

theorem szRow_ok {h : Heap} {v : Value} {xs : List Int} {l : Int} (hv : SlB 1 eI64 h v xs) (hl : 0 ≤ l) (hb : l ≤ 1048576) : CallsH P id_laws_szInt64S #[v, .int .i64 l] h (SzP h l (Sm xs)) := by
  apply w_laws_szInt64S
  unfold F_laws_szInt64S
  have hn := hv.2
  refine vLen_sl hv.1 ?_
  rw [sub_wrap hl hb (by omega) (by omega)]
  exact bif_lt (fun _ => szp_neg hl (ExtH.refl _)) fun hge => ⟨_, rfl, ExtH.refl _, by omega, fun _ => by unfold Sm; omega⟩

theorem szRows_ok {h : Heap} {v : Value} {xs : Rows2} {l : Int} (hv : SlB 1 eRow h v xs) (hl : 0 ≤ l) (hb : l ≤ 1048576) : CallsH P id_laws_szInt64SS #[v, .int .i64 l] h (SzP h l (SmRows xs)) := by
  apply w_laws_szInt64SS
  unfold F_laws_szInt64SS
  have hn := hv.2
  refine vLen_sl hv.1 ?_
  rw [sub_wrap hl hb (by omega) (by omega)]
  refine bif_lt (fun _ => szp_neg hl (ExtH.refl _)) fun hge => ?_
  refine loop_upA xs.length hv.2 (fun k a h' => ExtH h h' ∧ 0 ≤ a ∧ a ≤ l ∧ ∀ x ∈ xs.take k, Sm x) ⟨ExtH.refl _, hge, by omega, by simp⟩ fun J n k a h' hk ⟨hx, h0, ha, hs⟩ next => ?_
  refine vLen_sl hv.1 (bif_lt (fun hlt => ?_) fun hge => ⟨_, rfl, hx, ha, fun _ => ⟨by unfold Sm; omega, by rwa [List.take_of_length_le (by omega)] at hs⟩⟩)
  obtain ⟨x, ex⟩ := get_some (xs := xs) (k := k) (by omega)
  refine rdRow (hv.ext mono_row hx) ex fun u hu => (szRow_ok hu h0 (by omega)).mono fun _ _ ⟨y, e, x2, hy, hp⟩ => ⟨_, e, ?_⟩
  refine bif_lt (fun _ => szp_neg hl (hx.trans x2)) fun hge => next _ _ (by omega) ⟨hx.trans x2, hge, by omega, ?_⟩
  rw [List.take_add_one, ex]
  intro w hw
  rcases List.mem_append.1 hw with h1 | h1
  · exact hs w h1
  · simp at h1; subst h1; exact hp hge

theorem szObject_ok {h : Heap} {v : Value} {a b : Int} {xs : Rows2} {l : Int} (hv : SlB 1 eRow h v xs) (hl : 0 ≤ l) (hb : l ≤ 1048576) : CallsH P id_laws_szObject #[.agg #[.int .i64 a, .int .i64 b, v], .int .i64 l] h (SzP h l (SmRows xs)) := by
  apply w_laws_szObject
  unfold F_laws_szObject
  have st : Sta h h [] (fun x => ExtH h x) := Sta.start fun _ h => h
  (repeat (first | refine new_st st fun _ _ st => ?_ | refine ldI_st st 0 rfl rfl rfl ?_ | refine ldI_st st 1 rfl rfl rfl ?_ | refine ldI_st st 2 rfl rfl rfl ?_ | refine ldI_st st 3 rfl rfl rfl ?_ | refine ldI_st st 4 rfl rfl rfl ?_ | refine ldI_st st 5 rfl rfl rfl ?_ | refine ldS_st st 0 rfl rfl rfl ?_ | refine ldS_st st 1 rfl rfl rfl ?_ | refine ldS_st st 2 rfl rfl rfl ?_ | refine ldS_st st 3 rfl rfl rfl ?_ | refine ldS_st st 4 rfl rfl rfl ?_ | refine ldS_st st 5 rfl rfl rfl ?_ | refine ldV_st st 0 rfl rfl rfl ?_ | refine ldV_st st 1 rfl rfl rfl ?_ | refine ldV_st st 2 rfl rfl rfl ?_ | refine ldV_st st 3 rfl rfl rfl ?_ | refine ldV_st st 4 rfl rfl rfl ?_ | refine ldV_st st 5 rfl rfl rfl ?_ | refine ldB_st st 0 rfl rfl rfl ?_ | refine ldB_st st 1 rfl rfl rfl ?_ | refine ldB_st st 2 rfl rfl rfl ?_ | refine ldB_st st 3 rfl rfl rfl ?_ | refine ldB_st st 4 rfl rfl rfl ?_ | refine ldB_st st 5 rfl rfl rfl ?_ | refine ldP_st st 0 rfl rfl rfl ?_ | refine ldP_st st 1 rfl rfl rfl ?_ | refine ldP_st st 2 rfl rfl rfl ?_ | refine ldP_st st 3 rfl rfl rfl ?_ | refine ldP_st st 4 rfl rfl rfl ?_ | refine ldP_st st 5 rfl rfl rfl ?_ | (refine store_st st 0 rfl rfl rfl (by first | rfl | assumption) fun _ st => ?_; dsimp only [List.set] at st) | (refine store_st st 1 rfl rfl rfl (by first | rfl | assumption) fun _ st => ?_; dsimp only [List.set] at st) | (refine store_st st 2 rfl rfl rfl (by first | rfl | assumption) fun _ st => ?_; dsimp only [List.set] at st) | (refine store_st st 3 rfl rfl rfl (by first | rfl | assumption) fun _ st => ?_; dsimp only [List.set] at st) | (refine store_st st 4 rfl rfl rfl (by first | rfl | assumption) fun _ st => ?_; dsimp only [List.set] at st) | (refine store_st st 5 rfl rfl rfl (by first | rfl | assumption) fun _ st => ?_; dsimp only [List.set] at st)))
  refine (szRows_ok (hv.ext mono_row st.ext) hl hb).mono fun _ _ ⟨y, e, x2, hy, hp⟩ => ⟨_, e, ?_⟩
  exact bif_lt (fun _ => szp_neg hl (st.ext.trans x2)) fun hge => ⟨_, rfl, st.ext.trans x2, hy, hp⟩

theorem szItem_ok {h : Heap} {n key : ByteArray} {v : Value} {a b : Int} {xs : Rows2} {l : Int} (hv : SlB 1 eRow h v xs) (hn : n.size ≤ 9223372036854775807) (hk : key.size ≤ 9223372036854775807) (hl : 0 ≤ l) (hb : l ≤ 1048576) :
    CallsH P id_laws_szItem #[.agg #[.string n, .int .i64 a, .int .i64 b, v, .string key], .int .i64 l] h (SzP h l (SmItem ⟨n, ⟨a, b, xs⟩, key⟩)) := by
  apply w_laws_szItem
  unfold F_laws_szItem
  have st : Sta h h [] (fun x => ExtH h x) := Sta.start fun _ h => h
  (repeat (first | refine new_st st fun _ _ st => ?_ | refine ldI_st st 0 rfl rfl rfl ?_ | refine ldI_st st 1 rfl rfl rfl ?_ | refine ldI_st st 2 rfl rfl rfl ?_ | refine ldI_st st 3 rfl rfl rfl ?_ | refine ldI_st st 4 rfl rfl rfl ?_ | refine ldI_st st 5 rfl rfl rfl ?_ | refine ldS_st st 0 rfl rfl rfl ?_ | refine ldS_st st 1 rfl rfl rfl ?_ | refine ldS_st st 2 rfl rfl rfl ?_ | refine ldS_st st 3 rfl rfl rfl ?_ | refine ldS_st st 4 rfl rfl rfl ?_ | refine ldS_st st 5 rfl rfl rfl ?_ | refine ldV_st st 0 rfl rfl rfl ?_ | refine ldV_st st 1 rfl rfl rfl ?_ | refine ldV_st st 2 rfl rfl rfl ?_ | refine ldV_st st 3 rfl rfl rfl ?_ | refine ldV_st st 4 rfl rfl rfl ?_ | refine ldV_st st 5 rfl rfl rfl ?_ | refine ldB_st st 0 rfl rfl rfl ?_ | refine ldB_st st 1 rfl rfl rfl ?_ | refine ldB_st st 2 rfl rfl rfl ?_ | refine ldB_st st 3 rfl rfl rfl ?_ | refine ldB_st st 4 rfl rfl rfl ?_ | refine ldB_st st 5 rfl rfl rfl ?_ | refine ldP_st st 0 rfl rfl rfl ?_ | refine ldP_st st 1 rfl rfl rfl ?_ | refine ldP_st st 2 rfl rfl rfl ?_ | refine ldP_st st 3 rfl rfl rfl ?_ | refine ldP_st st 4 rfl rfl rfl ?_ | refine ldP_st st 5 rfl rfl rfl ?_ | (refine store_st st 0 rfl rfl rfl (by first | rfl | assumption) fun _ st => ?_; dsimp only [List.set] at st) | (refine store_st st 1 rfl rfl rfl (by first | rfl | assumption) fun _ st => ?_; dsimp only [List.set] at st) | (refine store_st st 2 rfl rfl rfl (by first | rfl | assumption) fun _ st => ?_; dsimp only [List.set] at st) | (refine store_st st 3 rfl rfl rfl (by first | rfl | assumption) fun _ st => ?_; dsimp only [List.set] at st) | (refine store_st st 4 rfl rfl rfl (by first | rfl | assumption) fun _ st => ?_; dsimp only [List.set] at st) | (refine store_st st 5 rfl rfl rfl (by first | rfl | assumption) fun _ st => ?_; dsimp only [List.set] at st)))
  rw [sub_wrap hl hb (by omega) (by omega)]
  refine bif_lt (fun _ => szp_neg hl st.ext) fun hge => ?_
  (repeat (first | refine new_st st fun _ _ st => ?_ | refine ldI_st st 0 rfl rfl rfl ?_ | refine ldI_st st 1 rfl rfl rfl ?_ | refine ldI_st st 2 rfl rfl rfl ?_ | refine ldI_st st 3 rfl rfl rfl ?_ | refine ldI_st st 4 rfl rfl rfl ?_ | refine ldI_st st 5 rfl rfl rfl ?_ | refine ldS_st st 0 rfl rfl rfl ?_ | refine ldS_st st 1 rfl rfl rfl ?_ | refine ldS_st st 2 rfl rfl rfl ?_ | refine ldS_st st 3 rfl rfl rfl ?_ | refine ldS_st st 4 rfl rfl rfl ?_ | refine ldS_st st 5 rfl rfl rfl ?_ | refine ldV_st st 0 rfl rfl rfl ?_ | refine ldV_st st 1 rfl rfl rfl ?_ | refine ldV_st st 2 rfl rfl rfl ?_ | refine ldV_st st 3 rfl rfl rfl ?_ | refine ldV_st st 4 rfl rfl rfl ?_ | refine ldV_st st 5 rfl rfl rfl ?_ | refine ldB_st st 0 rfl rfl rfl ?_ | refine ldB_st st 1 rfl rfl rfl ?_ | refine ldB_st st 2 rfl rfl rfl ?_ | refine ldB_st st 3 rfl rfl rfl ?_ | refine ldB_st st 4 rfl rfl rfl ?_ | refine ldB_st st 5 rfl rfl rfl ?_ | refine ldP_st st 0 rfl rfl rfl ?_ | refine ldP_st st 1 rfl rfl rfl ?_ | refine ldP_st st 2 rfl rfl rfl ?_ | refine ldP_st st 3 rfl rfl rfl ?_ | refine ldP_st st 4 rfl rfl rfl ?_ | refine ldP_st st 5 rfl rfl rfl ?_ | (refine store_st st 0 rfl rfl rfl (by first | rfl | assumption) fun _ st => ?_; dsimp only [List.set] at st) | (refine store_st st 1 rfl rfl rfl (by first | rfl | assumption) fun _ st => ?_; dsimp only [List.set] at st) | (refine store_st st 2 rfl rfl rfl (by first | rfl | assumption) fun _ st => ?_; dsimp only [List.set] at st) | (refine store_st st 3 rfl rfl rfl (by first | rfl | assumption) fun _ st => ?_; dsimp only [List.set] at st) | (refine store_st st 4 rfl rfl rfl (by first | rfl | assumption) fun _ st => ?_; dsimp only [List.set] at st) | (refine store_st st 5 rfl rfl rfl (by first | rfl | assumption) fun _ st => ?_; dsimp only [List.set] at st)))
  refine (szObject_ok (hv.ext mono_row st.ext) hge (by omega)).mono fun _ _ ⟨y, e, x2, hy, hp⟩ => ⟨_, e, ?_⟩
  replace st := st.call x2
  refine bif_lt (fun _ => szp_neg hl st.ext) fun hge2 => ?_
  (repeat (first | refine new_st st fun _ _ st => ?_ | refine ldI_st st 0 rfl rfl rfl ?_ | refine ldI_st st 1 rfl rfl rfl ?_ | refine ldI_st st 2 rfl rfl rfl ?_ | refine ldI_st st 3 rfl rfl rfl ?_ | refine ldI_st st 4 rfl rfl rfl ?_ | refine ldI_st st 5 rfl rfl rfl ?_ | refine ldS_st st 0 rfl rfl rfl ?_ | refine ldS_st st 1 rfl rfl rfl ?_ | refine ldS_st st 2 rfl rfl rfl ?_ | refine ldS_st st 3 rfl rfl rfl ?_ | refine ldS_st st 4 rfl rfl rfl ?_ | refine ldS_st st 5 rfl rfl rfl ?_ | refine ldV_st st 0 rfl rfl rfl ?_ | refine ldV_st st 1 rfl rfl rfl ?_ | refine ldV_st st 2 rfl rfl rfl ?_ | refine ldV_st st 3 rfl rfl rfl ?_ | refine ldV_st st 4 rfl rfl rfl ?_ | refine ldV_st st 5 rfl rfl rfl ?_ | refine ldB_st st 0 rfl rfl rfl ?_ | refine ldB_st st 1 rfl rfl rfl ?_ | refine ldB_st st 2 rfl rfl rfl ?_ | refine ldB_st st 3 rfl rfl rfl ?_ | refine ldB_st st 4 rfl rfl rfl ?_ | refine ldB_st st 5 rfl rfl rfl ?_ | refine ldP_st st 0 rfl rfl rfl ?_ | refine ldP_st st 1 rfl rfl rfl ?_ | refine ldP_st st 2 rfl rfl rfl ?_ | refine ldP_st st 3 rfl rfl rfl ?_ | refine ldP_st st 4 rfl rfl rfl ?_ | refine ldP_st st 5 rfl rfl rfl ?_ | (refine store_st st 0 rfl rfl rfl (by first | rfl | assumption) fun _ st => ?_; dsimp only [List.set] at st) | (refine store_st st 1 rfl rfl rfl (by first | rfl | assumption) fun _ st => ?_; dsimp only [List.set] at st) | (refine store_st st 2 rfl rfl rfl (by first | rfl | assumption) fun _ st => ?_; dsimp only [List.set] at st) | (refine store_st st 3 rfl rfl rfl (by first | rfl | assumption) fun _ st => ?_; dsimp only [List.set] at st) | (refine store_st st 4 rfl rfl rfl (by first | rfl | assumption) fun _ st => ?_; dsimp only [List.set] at st) | (refine store_st st 5 rfl rfl rfl (by first | rfl | assumption) fun _ st => ?_; dsimp only [List.set] at st)))
  rw [sub_wrap hge2 (by omega) (by omega) (by omega)]
  exact bif_lt (fun _ => szp_neg hl st.ext) fun hge3 => ⟨_, rfl, st.ext, by omega, fun _ => ⟨(by omega : n.size ≤ 1048576), hp hge2, (by omega : key.size ≤ 1048576)⟩⟩

theorem szItems_ok {h : Heap} {v : Value} {xs : List DItem} {l : Int} (hv : SlB 5 eItem h v xs) (hl : 0 ≤ l) (hb : l ≤ 1048576) : CallsH P id_laws_szItemS #[v, .int .i64 l] h (SzP h l (SmCat xs)) := by
  apply w_laws_szItemS
  unfold F_laws_szItemS
  have hn := hv.2
  refine vLen_sl hv.1 ?_
  rw [sub_wrap hl hb (by omega) (by omega)]
  refine bif_lt (fun _ => szp_neg hl (ExtH.refl _)) fun hge => ?_
  refine loop_upA xs.length hv.2 (fun k a h' => ExtH h h' ∧ 0 ≤ a ∧ a ≤ l ∧ ∀ x ∈ xs.take k, SmItem x) ⟨ExtH.refl _, hge, by omega, by simp⟩ fun J n k a h' hk ⟨hx, h0, ha, hs⟩ next => ?_
  refine vLen_sl hv.1 (bif_lt (fun hlt => ?_) fun hge => ⟨_, rfl, hx, ha, fun _ => ⟨by unfold Sm; omega, by rwa [List.take_of_length_le (by omega)] at hs⟩⟩)
  obtain ⟨x, ex⟩ := get_some (xs := xs) (k := k) (by omega)
  refine vIdx_sl (hv.1.ext mono_item hx) ex fun p hp => ?_
  obtain ⟨cs, _, hp, v, rfl, i1, i2, i3, hv, i4⟩ := hp
  (repeat (first | refine ldI_ce hp 0 rfl rfl ?_ | refine ldI_ce hp 1 rfl rfl ?_ | refine ldI_ce hp 2 rfl rfl ?_ | refine ldI_ce hp 3 rfl rfl ?_ | refine ldI_ce hp 4 rfl rfl ?_ | refine ldI_ce hp 5 rfl rfl ?_ | refine ldS_ce hp 0 rfl rfl ?_ | refine ldS_ce hp 1 rfl rfl ?_ | refine ldS_ce hp 2 rfl rfl ?_ | refine ldS_ce hp 3 rfl rfl ?_ | refine ldS_ce hp 4 rfl rfl ?_ | refine ldS_ce hp 5 rfl rfl ?_ | refine ldV_ce hp 0 rfl rfl ?_ | refine ldV_ce hp 1 rfl rfl ?_ | refine ldV_ce hp 2 rfl rfl ?_ | refine ldV_ce hp 3 rfl rfl ?_ | refine ldV_ce hp 4 rfl rfl ?_ | refine ldV_ce hp 5 rfl rfl ?_ | refine ldB_ce hp 0 rfl rfl ?_ | refine ldB_ce hp 1 rfl rfl ?_ | refine ldB_ce hp 2 rfl rfl ?_ | refine ldB_ce hp 3 rfl rfl ?_ | refine ldB_ce hp 4 rfl rfl ?_ | refine ldB_ce hp 5 rfl rfl ?_))
  refine (szItem_ok hv i1 i4 h0 (by omega)).mono fun _ _ ⟨y, e, x2, hy, hp⟩ => ⟨_, e, ?_⟩
  refine bif_lt (fun _ => szp_neg hl (hx.trans x2)) fun hge => next _ _ (by omega) ⟨hx.trans x2, hge, by omega, ?_⟩
  rw [List.take_add_one, ex]
  intro w hw
  rcases List.mem_append.1 hw with h1 | h1
  · exact hs w h1
  · simp at h1; subst h1; exact hp hge

theorem szCatalog_ok {h : Heap} {v : Value} {xs : List DItem} {l : Int} (hv : SlB 5 eItem h v xs) (hl : 0 ≤ l) (hb : l ≤ 1048576) : CallsH P id_laws_szCatalog #[.agg #[v], .int .i64 l] h (SzP h l (SmCat xs)) := by
  apply w_laws_szCatalog
  unfold F_laws_szCatalog
  have st : Sta h h [] (fun x => ExtH h x) := Sta.start fun _ h => h
  (repeat (first | refine new_st st fun _ _ st => ?_ | refine ldI_st st 0 rfl rfl rfl ?_ | refine ldI_st st 1 rfl rfl rfl ?_ | refine ldI_st st 2 rfl rfl rfl ?_ | refine ldI_st st 3 rfl rfl rfl ?_ | refine ldI_st st 4 rfl rfl rfl ?_ | refine ldI_st st 5 rfl rfl rfl ?_ | refine ldS_st st 0 rfl rfl rfl ?_ | refine ldS_st st 1 rfl rfl rfl ?_ | refine ldS_st st 2 rfl rfl rfl ?_ | refine ldS_st st 3 rfl rfl rfl ?_ | refine ldS_st st 4 rfl rfl rfl ?_ | refine ldS_st st 5 rfl rfl rfl ?_ | refine ldV_st st 0 rfl rfl rfl ?_ | refine ldV_st st 1 rfl rfl rfl ?_ | refine ldV_st st 2 rfl rfl rfl ?_ | refine ldV_st st 3 rfl rfl rfl ?_ | refine ldV_st st 4 rfl rfl rfl ?_ | refine ldV_st st 5 rfl rfl rfl ?_ | refine ldB_st st 0 rfl rfl rfl ?_ | refine ldB_st st 1 rfl rfl rfl ?_ | refine ldB_st st 2 rfl rfl rfl ?_ | refine ldB_st st 3 rfl rfl rfl ?_ | refine ldB_st st 4 rfl rfl rfl ?_ | refine ldB_st st 5 rfl rfl rfl ?_ | refine ldP_st st 0 rfl rfl rfl ?_ | refine ldP_st st 1 rfl rfl rfl ?_ | refine ldP_st st 2 rfl rfl rfl ?_ | refine ldP_st st 3 rfl rfl rfl ?_ | refine ldP_st st 4 rfl rfl rfl ?_ | refine ldP_st st 5 rfl rfl rfl ?_ | (refine store_st st 0 rfl rfl rfl (by first | rfl | assumption) fun _ st => ?_; dsimp only [List.set] at st) | (refine store_st st 1 rfl rfl rfl (by first | rfl | assumption) fun _ st => ?_; dsimp only [List.set] at st) | (refine store_st st 2 rfl rfl rfl (by first | rfl | assumption) fun _ st => ?_; dsimp only [List.set] at st) | (refine store_st st 3 rfl rfl rfl (by first | rfl | assumption) fun _ st => ?_; dsimp only [List.set] at st) | (refine store_st st 4 rfl rfl rfl (by first | rfl | assumption) fun _ st => ?_; dsimp only [List.set] at st) | (refine store_st st 5 rfl rfl rfl (by first | rfl | assumption) fun _ st => ?_; dsimp only [List.set] at st)))
  refine (szItems_ok (hv.ext mono_item st.ext) hl hb).mono fun _ _ ⟨y, e, x2, hy, hp⟩ => ⟨_, e, ?_⟩
  exact bif_lt (fun _ => szp_neg hl (st.ext.trans x2)) fun hge => ⟨_, rfl, st.ext.trans x2, hy, hp⟩

end Go.Proofs.Ytieehpcgmjbceaa
