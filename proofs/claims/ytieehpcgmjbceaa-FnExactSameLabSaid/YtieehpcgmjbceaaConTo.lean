/- The laws' copies: rows, objects, items, catalogs. -/
import Derived.Test.YtieehpcgmjbceaaConData
import Derived.Test.YtieehpcgmjbceaaVcLoop
namespace Go.Proofs.Ytieehpcgmjbceaa
open Go Go.Vc

/-- A row that is small enough to be made. -/
def Sm {α : Type} (xs : List α) : Prop := xs.length ≤ 1048576
def SmRows (xs : Rows2) : Prop := Sm xs ∧ ∀ x ∈ xs, Sm x
def SmObj (o : DObject) : Prop := SmRows o.rows
def SmItem (o : DItem) : Prop := o.name.size ≤ 1048576 ∧ SmObj o.obj ∧ o.key.size ≤ 1048576
def SmCat (xs : List DItem) : Prop := Sm xs ∧ ∀ x ∈ xs, SmItem x

theorem toRow_ok {h : Heap} {v : Value} {xs : List Int} (hv : SlB 1 eI64 h v xs) (hs : Sm xs) :
    CallsH P id_laws_toInt64S #[v] h fun r h' => ExtH h h' ∧ Fp (h.size ≤ ·) h' fun x => SlB 1 eI64 x r xs := by
  unfold Sm at hs
  apply w_laws_toInt64S
  unfold F_laws_toInt64S
  refine vLen_sl hv.1 ?_
  have st : Sta h h [] (fun x => ExtH h x) := Sta.start fun _ h => h
  refine make_fill (z := 1) (E := eI64) (xs := xs) st rfl (by omega) (by omega) fun b h1 f => ?_
  refine loop_up xs.length hv.2 (fun k h' => ∃ css, Fill 1 _ eI64 xs h h' [] _ b k css) ⟨[], f⟩ fun J n k h' hk ⟨css, f⟩ next => ?_
  refine vLen_sl hv.1 (bif_lt (fun hlt => ?_) fun hge => ⟨f.st.ext, (f.done (by omega)).imp fun _ h => ⟨h, hv.2⟩⟩)
  obtain ⟨x, ex⟩ := get_some (xs := xs) (k := k) (by omega)
  refine rdI (hv.1.ext mono_i64 f.st.ext) ex fun hx => ?_
  refine f.idx (by omega) fun hl => ?_
  refine store_mid (f.mid (by omega)) 0 hl rfl rfl rfl fun h2 st => ?_
  exact next _ (by omega) ⟨_, fill_step ex f.len f.zz rfl (st.imp fun y hy => ⟨hy, fun _ _ _ => ⟨rfl, hx⟩⟩)⟩

theorem toRows_ok {h : Heap} {v : Value} {xs : Rows2} (hv : SlB 1 eRow h v xs) (hs : SmRows xs) :
    CallsH P id_laws_toInt64SS #[v] h fun r h' => ExtH h h' ∧ Fp (h.size ≤ ·) h' fun x => SlB 1 eRow x r xs := by
  obtain ⟨hs, hi⟩ := hs
  unfold Sm at hs
  apply w_laws_toInt64SS
  unfold F_laws_toInt64SS
  refine vLen_sl hv.1 ?_
  have st : Sta h h [] (fun x => ExtH h x) := Sta.start fun _ h => h
  refine make_fill (z := 1) (E := eRow) (xs := xs) st rfl (by omega) (by omega) fun b h1 f => ?_
  refine loop_up xs.length hv.2 (fun k h' => ∃ css, Fill 1 _ eRow xs h h' [] _ b k css) ⟨[], f⟩ fun J n k h' hk ⟨css, f⟩ next => ?_
  refine vLen_sl hv.1 (bif_lt (fun hlt => ?_) fun hge => ⟨f.st.ext, (f.done (by omega)).imp fun _ h => ⟨h, hv.2⟩⟩)
  obtain ⟨x, ex⟩ := get_some (xs := xs) (k := k) (by omega)
  refine rdRow (hv.ext mono_row f.st.ext) ex fun u hu => ?_
  refine (toRow_ok hu (hi x (List.mem_of_getElem? ex))).mono fun r h2 ⟨x2, hm⟩ => ⟨_, rfl, ?_⟩
  have st := (f.mid (by omega)).make x2 hm
  refine (f.call x2).idx (by omega) fun hl => ?_
  refine store_mid st 0 hl rfl rfl hm.now.one fun h3 st => ?_
  exact next _ (by omega) ⟨_, fill_step ex f.len f.zz rfl (st.imp fun y hy => ⟨hy.1, (hy.2.wide fun c hc => f.fresh hc).imp fun _ h => ⟨_, rfl, h⟩⟩)⟩

theorem toObject_ok {h : Heap} {a b : Int} {v : Value} {xs : Rows2} (hv : SlB 1 eRow h v xs) (hs : SmRows xs) :
    CallsH P id_laws_toObject #[.agg #[.int .i64 a, .int .i64 b, v]] h fun r h' => ∃ u, r = .agg #[.int .i64 a, .int .i64 b, u] ∧ ExtH h h' ∧ Fp (h.size ≤ ·) h' fun x => SlB 1 eRow x u xs := by
  apply w_laws_toObject
  unfold F_laws_toObject
  have st : Sta h h [] (fun x => ExtH h x) := Sta.start fun _ h => h
  (repeat (first | refine new_st st fun _ _ st => ?_ | refine ldI_st st 0 rfl rfl rfl ?_ | refine ldI_st st 1 rfl rfl rfl ?_ | refine ldI_st st 2 rfl rfl rfl ?_ | refine ldI_st st 3 rfl rfl rfl ?_ | refine ldI_st st 4 rfl rfl rfl ?_ | refine ldI_st st 5 rfl rfl rfl ?_ | refine ldS_st st 0 rfl rfl rfl ?_ | refine ldS_st st 1 rfl rfl rfl ?_ | refine ldS_st st 2 rfl rfl rfl ?_ | refine ldS_st st 3 rfl rfl rfl ?_ | refine ldS_st st 4 rfl rfl rfl ?_ | refine ldS_st st 5 rfl rfl rfl ?_ | refine ldV_st st 0 rfl rfl rfl ?_ | refine ldV_st st 1 rfl rfl rfl ?_ | refine ldV_st st 2 rfl rfl rfl ?_ | refine ldV_st st 3 rfl rfl rfl ?_ | refine ldV_st st 4 rfl rfl rfl ?_ | refine ldV_st st 5 rfl rfl rfl ?_ | refine ldB_st st 0 rfl rfl rfl ?_ | refine ldB_st st 1 rfl rfl rfl ?_ | refine ldB_st st 2 rfl rfl rfl ?_ | refine ldB_st st 3 rfl rfl rfl ?_ | refine ldB_st st 4 rfl rfl rfl ?_ | refine ldB_st st 5 rfl rfl rfl ?_ | refine ldP_st st 0 rfl rfl rfl ?_ | refine ldP_st st 1 rfl rfl rfl ?_ | refine ldP_st st 2 rfl rfl rfl ?_ | refine ldP_st st 3 rfl rfl rfl ?_ | refine ldP_st st 4 rfl rfl rfl ?_ | refine ldP_st st 5 rfl rfl rfl ?_ | (refine store_st st 0 rfl rfl rfl (by first | rfl | assumption) fun _ st => ?_; dsimp only [List.set] at st) | (refine store_st st 1 rfl rfl rfl (by first | rfl | assumption) fun _ st => ?_; dsimp only [List.set] at st) | (refine store_st st 2 rfl rfl rfl (by first | rfl | assumption) fun _ st => ?_; dsimp only [List.set] at st) | (refine store_st st 3 rfl rfl rfl (by first | rfl | assumption) fun _ st => ?_; dsimp only [List.set] at st) | (refine store_st st 4 rfl rfl rfl (by first | rfl | assumption) fun _ st => ?_; dsimp only [List.set] at st) | (refine store_st st 5 rfl rfl rfl (by first | rfl | assumption) fun _ st => ?_; dsimp only [List.set] at st)))
  refine (toRows_ok (hv.ext mono_row st.ext) hs).mono fun r h2 ⟨x2, hm⟩ => ⟨_, rfl, ?_⟩
  have hn := st.ext.1
  replace st := st.make x2 hm
  have ou := hm.now.one
  (repeat (first | refine new_st st fun _ _ st => ?_ | refine ldI_st st 0 rfl rfl rfl ?_ | refine ldI_st st 1 rfl rfl rfl ?_ | refine ldI_st st 2 rfl rfl rfl ?_ | refine ldI_st st 3 rfl rfl rfl ?_ | refine ldI_st st 4 rfl rfl rfl ?_ | refine ldI_st st 5 rfl rfl rfl ?_ | refine ldS_st st 0 rfl rfl rfl ?_ | refine ldS_st st 1 rfl rfl rfl ?_ | refine ldS_st st 2 rfl rfl rfl ?_ | refine ldS_st st 3 rfl rfl rfl ?_ | refine ldS_st st 4 rfl rfl rfl ?_ | refine ldS_st st 5 rfl rfl rfl ?_ | refine ldV_st st 0 rfl rfl rfl ?_ | refine ldV_st st 1 rfl rfl rfl ?_ | refine ldV_st st 2 rfl rfl rfl ?_ | refine ldV_st st 3 rfl rfl rfl ?_ | refine ldV_st st 4 rfl rfl rfl ?_ | refine ldV_st st 5 rfl rfl rfl ?_ | refine ldB_st st 0 rfl rfl rfl ?_ | refine ldB_st st 1 rfl rfl rfl ?_ | refine ldB_st st 2 rfl rfl rfl ?_ | refine ldB_st st 3 rfl rfl rfl ?_ | refine ldB_st st 4 rfl rfl rfl ?_ | refine ldB_st st 5 rfl rfl rfl ?_ | refine ldP_st st 0 rfl rfl rfl ?_ | refine ldP_st st 1 rfl rfl rfl ?_ | refine ldP_st st 2 rfl rfl rfl ?_ | refine ldP_st st 3 rfl rfl rfl ?_ | refine ldP_st st 4 rfl rfl rfl ?_ | refine ldP_st st 5 rfl rfl rfl ?_ | (refine store_st st 0 rfl rfl rfl (by first | rfl | assumption) fun _ st => ?_; dsimp only [List.set] at st) | (refine store_st st 1 rfl rfl rfl (by first | rfl | assumption) fun _ st => ?_; dsimp only [List.set] at st) | (refine store_st st 2 rfl rfl rfl (by first | rfl | assumption) fun _ st => ?_; dsimp only [List.set] at st) | (refine store_st st 3 rfl rfl rfl (by first | rfl | assumption) fun _ st => ?_; dsimp only [List.set] at st) | (refine store_st st 4 rfl rfl rfl (by first | rfl | assumption) fun _ st => ?_; dsimp only [List.set] at st) | (refine store_st st 5 rfl rfl rfl (by first | rfl | assumption) fun _ st => ?_; dsimp only [List.set] at st)))
  exact ⟨_, rfl, st.ext, st.now.2.wide fun c hc => by omega⟩

theorem toItem_ok {h : Heap} {n key : ByteArray} {a b : Int} {v : Value} {xs : Rows2} (hv : SlB 1 eRow h v xs) (hs : SmRows xs) :
    CallsH P id_laws_toItem #[.agg #[.string n, .int .i64 a, .int .i64 b, v, .string key]] h fun r h' => ∃ u, r = .agg #[.string n, .int .i64 a, .int .i64 b, u, .string key] ∧ ExtH h h' ∧ Fp (h.size ≤ ·) h' fun x => SlB 1 eRow x u xs := by
  apply w_laws_toItem
  unfold F_laws_toItem
  have st : Sta h h [] (fun x => ExtH h x) := Sta.start fun _ h => h
  (repeat (first | refine new_st st fun _ _ st => ?_ | refine ldI_st st 0 rfl rfl rfl ?_ | refine ldI_st st 1 rfl rfl rfl ?_ | refine ldI_st st 2 rfl rfl rfl ?_ | refine ldI_st st 3 rfl rfl rfl ?_ | refine ldI_st st 4 rfl rfl rfl ?_ | refine ldI_st st 5 rfl rfl rfl ?_ | refine ldS_st st 0 rfl rfl rfl ?_ | refine ldS_st st 1 rfl rfl rfl ?_ | refine ldS_st st 2 rfl rfl rfl ?_ | refine ldS_st st 3 rfl rfl rfl ?_ | refine ldS_st st 4 rfl rfl rfl ?_ | refine ldS_st st 5 rfl rfl rfl ?_ | refine ldV_st st 0 rfl rfl rfl ?_ | refine ldV_st st 1 rfl rfl rfl ?_ | refine ldV_st st 2 rfl rfl rfl ?_ | refine ldV_st st 3 rfl rfl rfl ?_ | refine ldV_st st 4 rfl rfl rfl ?_ | refine ldV_st st 5 rfl rfl rfl ?_ | refine ldB_st st 0 rfl rfl rfl ?_ | refine ldB_st st 1 rfl rfl rfl ?_ | refine ldB_st st 2 rfl rfl rfl ?_ | refine ldB_st st 3 rfl rfl rfl ?_ | refine ldB_st st 4 rfl rfl rfl ?_ | refine ldB_st st 5 rfl rfl rfl ?_ | refine ldP_st st 0 rfl rfl rfl ?_ | refine ldP_st st 1 rfl rfl rfl ?_ | refine ldP_st st 2 rfl rfl rfl ?_ | refine ldP_st st 3 rfl rfl rfl ?_ | refine ldP_st st 4 rfl rfl rfl ?_ | refine ldP_st st 5 rfl rfl rfl ?_ | (refine store_st st 0 rfl rfl rfl (by first | rfl | assumption) fun _ st => ?_; dsimp only [List.set] at st) | (refine store_st st 1 rfl rfl rfl (by first | rfl | assumption) fun _ st => ?_; dsimp only [List.set] at st) | (refine store_st st 2 rfl rfl rfl (by first | rfl | assumption) fun _ st => ?_; dsimp only [List.set] at st) | (refine store_st st 3 rfl rfl rfl (by first | rfl | assumption) fun _ st => ?_; dsimp only [List.set] at st) | (refine store_st st 4 rfl rfl rfl (by first | rfl | assumption) fun _ st => ?_; dsimp only [List.set] at st) | (refine store_st st 5 rfl rfl rfl (by first | rfl | assumption) fun _ st => ?_; dsimp only [List.set] at st)))
  refine (toObject_ok (hv.ext mono_row st.ext) hs).mono fun r h2 ⟨u, e, x2, hm⟩ => ⟨_, _, u, e, ?_⟩
  have hn := st.ext.1
  replace st := st.make x2 hm
  have ou := hm.now.one
  (repeat (first | refine new_st st fun _ _ st => ?_ | refine ldI_st st 0 rfl rfl rfl ?_ | refine ldI_st st 1 rfl rfl rfl ?_ | refine ldI_st st 2 rfl rfl rfl ?_ | refine ldI_st st 3 rfl rfl rfl ?_ | refine ldI_st st 4 rfl rfl rfl ?_ | refine ldI_st st 5 rfl rfl rfl ?_ | refine ldS_st st 0 rfl rfl rfl ?_ | refine ldS_st st 1 rfl rfl rfl ?_ | refine ldS_st st 2 rfl rfl rfl ?_ | refine ldS_st st 3 rfl rfl rfl ?_ | refine ldS_st st 4 rfl rfl rfl ?_ | refine ldS_st st 5 rfl rfl rfl ?_ | refine ldV_st st 0 rfl rfl rfl ?_ | refine ldV_st st 1 rfl rfl rfl ?_ | refine ldV_st st 2 rfl rfl rfl ?_ | refine ldV_st st 3 rfl rfl rfl ?_ | refine ldV_st st 4 rfl rfl rfl ?_ | refine ldV_st st 5 rfl rfl rfl ?_ | refine ldB_st st 0 rfl rfl rfl ?_ | refine ldB_st st 1 rfl rfl rfl ?_ | refine ldB_st st 2 rfl rfl rfl ?_ | refine ldB_st st 3 rfl rfl rfl ?_ | refine ldB_st st 4 rfl rfl rfl ?_ | refine ldB_st st 5 rfl rfl rfl ?_ | refine ldP_st st 0 rfl rfl rfl ?_ | refine ldP_st st 1 rfl rfl rfl ?_ | refine ldP_st st 2 rfl rfl rfl ?_ | refine ldP_st st 3 rfl rfl rfl ?_ | refine ldP_st st 4 rfl rfl rfl ?_ | refine ldP_st st 5 rfl rfl rfl ?_ | (refine store_st st 0 rfl rfl rfl (by first | rfl | assumption) fun _ st => ?_; dsimp only [List.set] at st) | (refine store_st st 1 rfl rfl rfl (by first | rfl | assumption) fun _ st => ?_; dsimp only [List.set] at st) | (refine store_st st 2 rfl rfl rfl (by first | rfl | assumption) fun _ st => ?_; dsimp only [List.set] at st) | (refine store_st st 3 rfl rfl rfl (by first | rfl | assumption) fun _ st => ?_; dsimp only [List.set] at st) | (refine store_st st 4 rfl rfl rfl (by first | rfl | assumption) fun _ st => ?_; dsimp only [List.set] at st) | (refine store_st st 5 rfl rfl rfl (by first | rfl | assumption) fun _ st => ?_; dsimp only [List.set] at st)))
  exact ⟨_, rfl, st.ext, st.now.2.wide fun c hc => by omega⟩

theorem toItems_ok {h : Heap} {v : Value} {xs : List DItem} (hv : SlB 5 eItem h v xs) (hs : SmCat xs) :
    CallsH P id_laws_toItemS #[v] h fun r h' => ExtH h h' ∧ Fp (h.size ≤ ·) h' fun x => SlB 5 eItem x r xs := by
  obtain ⟨hs, hi⟩ := hs
  unfold Sm at hs
  apply w_laws_toItemS
  unfold F_laws_toItemS
  refine vLen_sl hv.1 ?_
  have st : Sta h h [] (fun x => ExtH h x) := Sta.start fun _ h => h
  refine make_fill (z := 5) (E := eItem) (xs := xs) st rfl (by omega) (by omega) fun b h1 f => ?_
  refine loop_up xs.length hv.2 (fun k h' => ∃ css, Fill 5 _ eItem xs h h' [] _ b k css) ⟨[], f⟩ fun J n k h' hk ⟨css, f⟩ next => ?_
  refine vLen_sl hv.1 (bif_lt (fun hlt => ?_) fun hge => ⟨f.st.ext, (f.done (by omega)).imp fun _ h => ⟨h, hv.2⟩⟩)
  obtain ⟨x, ex⟩ := get_some (xs := xs) (k := k) (by omega)
  refine vIdx_sl (hv.1.ext mono_item f.st.ext) ex fun p hp => ?_
  obtain ⟨cs, _, hp, v, rfl, i1, i2, i3, hv, i4⟩ := hp
  (repeat (first | refine ldI_ce hp 0 rfl rfl ?_ | refine ldI_ce hp 1 rfl rfl ?_ | refine ldI_ce hp 2 rfl rfl ?_ | refine ldI_ce hp 3 rfl rfl ?_ | refine ldI_ce hp 4 rfl rfl ?_ | refine ldI_ce hp 5 rfl rfl ?_ | refine ldS_ce hp 0 rfl rfl ?_ | refine ldS_ce hp 1 rfl rfl ?_ | refine ldS_ce hp 2 rfl rfl ?_ | refine ldS_ce hp 3 rfl rfl ?_ | refine ldS_ce hp 4 rfl rfl ?_ | refine ldS_ce hp 5 rfl rfl ?_ | refine ldV_ce hp 0 rfl rfl ?_ | refine ldV_ce hp 1 rfl rfl ?_ | refine ldV_ce hp 2 rfl rfl ?_ | refine ldV_ce hp 3 rfl rfl ?_ | refine ldV_ce hp 4 rfl rfl ?_ | refine ldV_ce hp 5 rfl rfl ?_ | refine ldB_ce hp 0 rfl rfl ?_ | refine ldB_ce hp 1 rfl rfl ?_ | refine ldB_ce hp 2 rfl rfl ?_ | refine ldB_ce hp 3 rfl rfl ?_ | refine ldB_ce hp 4 rfl rfl ?_ | refine ldB_ce hp 5 rfl rfl ?_))
  refine (toItem_ok hv (hi x (List.mem_of_getElem? ex)).2.1).mono fun r h2 ⟨u, e, x2, hm⟩ => ⟨_, _, _, u, _, e, ?_⟩
  have st := (f.mid (by omega)).make x2 hm
  refine (f.call x2).idx (by omega) fun hl => ?_
  refine store_mid st 0 hl rfl rfl rfl fun h3 st => ?_
  refine store_mid st 1 hl rfl rfl rfl fun h3 st => ?_
  refine store_mid st 2 hl rfl rfl rfl fun h3 st => ?_
  refine store_mid st 3 hl rfl rfl hm.now.one fun h3 st => ?_
  refine store_mid st 4 hl rfl rfl rfl fun h3 st => ?_
  exact next _ (by omega) ⟨_, fill_step ex f.len f.zz rfl (st.imp fun y hy => ⟨hy.1, (hy.2.wide fun c hc => f.fresh hc).imp fun _ h => ⟨_, rfl, i1, i2, i3, h, i4⟩⟩)⟩

theorem toCatalog_ok {h : Heap} {v : Value} {xs : List DItem} (hv : SlB 5 eItem h v xs) (hs : SmCat xs) :
    CallsH P id_laws_toCatalog #[.agg #[v]] h fun r h' => ∃ u, r = .agg #[u] ∧ ExtH h h' ∧ Fp (h.size ≤ ·) h' fun x => SlB 5 eItem x u xs := by
  apply w_laws_toCatalog
  unfold F_laws_toCatalog
  have st : Sta h h [] (fun x => ExtH h x) := Sta.start fun _ h => h
  (repeat (first | refine new_st st fun _ _ st => ?_ | refine ldI_st st 0 rfl rfl rfl ?_ | refine ldI_st st 1 rfl rfl rfl ?_ | refine ldI_st st 2 rfl rfl rfl ?_ | refine ldI_st st 3 rfl rfl rfl ?_ | refine ldI_st st 4 rfl rfl rfl ?_ | refine ldI_st st 5 rfl rfl rfl ?_ | refine ldS_st st 0 rfl rfl rfl ?_ | refine ldS_st st 1 rfl rfl rfl ?_ | refine ldS_st st 2 rfl rfl rfl ?_ | refine ldS_st st 3 rfl rfl rfl ?_ | refine ldS_st st 4 rfl rfl rfl ?_ | refine ldS_st st 5 rfl rfl rfl ?_ | refine ldV_st st 0 rfl rfl rfl ?_ | refine ldV_st st 1 rfl rfl rfl ?_ | refine ldV_st st 2 rfl rfl rfl ?_ | refine ldV_st st 3 rfl rfl rfl ?_ | refine ldV_st st 4 rfl rfl rfl ?_ | refine ldV_st st 5 rfl rfl rfl ?_ | refine ldB_st st 0 rfl rfl rfl ?_ | refine ldB_st st 1 rfl rfl rfl ?_ | refine ldB_st st 2 rfl rfl rfl ?_ | refine ldB_st st 3 rfl rfl rfl ?_ | refine ldB_st st 4 rfl rfl rfl ?_ | refine ldB_st st 5 rfl rfl rfl ?_ | refine ldP_st st 0 rfl rfl rfl ?_ | refine ldP_st st 1 rfl rfl rfl ?_ | refine ldP_st st 2 rfl rfl rfl ?_ | refine ldP_st st 3 rfl rfl rfl ?_ | refine ldP_st st 4 rfl rfl rfl ?_ | refine ldP_st st 5 rfl rfl rfl ?_ | (refine store_st st 0 rfl rfl rfl (by first | rfl | assumption) fun _ st => ?_; dsimp only [List.set] at st) | (refine store_st st 1 rfl rfl rfl (by first | rfl | assumption) fun _ st => ?_; dsimp only [List.set] at st) | (refine store_st st 2 rfl rfl rfl (by first | rfl | assumption) fun _ st => ?_; dsimp only [List.set] at st) | (refine store_st st 3 rfl rfl rfl (by first | rfl | assumption) fun _ st => ?_; dsimp only [List.set] at st) | (refine store_st st 4 rfl rfl rfl (by first | rfl | assumption) fun _ st => ?_; dsimp only [List.set] at st) | (refine store_st st 5 rfl rfl rfl (by first | rfl | assumption) fun _ st => ?_; dsimp only [List.set] at st)))
  refine (toItems_ok (hv.ext mono_item st.ext) hs).mono fun r h2 ⟨x2, hm⟩ => ⟨_, rfl, ?_⟩
  have hn := st.ext.1
  replace st := st.make x2 hm
  have ou := hm.now.one
  (repeat (first | refine new_st st fun _ _ st => ?_ | refine ldI_st st 0 rfl rfl rfl ?_ | refine ldI_st st 1 rfl rfl rfl ?_ | refine ldI_st st 2 rfl rfl rfl ?_ | refine ldI_st st 3 rfl rfl rfl ?_ | refine ldI_st st 4 rfl rfl rfl ?_ | refine ldI_st st 5 rfl rfl rfl ?_ | refine ldS_st st 0 rfl rfl rfl ?_ | refine ldS_st st 1 rfl rfl rfl ?_ | refine ldS_st st 2 rfl rfl rfl ?_ | refine ldS_st st 3 rfl rfl rfl ?_ | refine ldS_st st 4 rfl rfl rfl ?_ | refine ldS_st st 5 rfl rfl rfl ?_ | refine ldV_st st 0 rfl rfl rfl ?_ | refine ldV_st st 1 rfl rfl rfl ?_ | refine ldV_st st 2 rfl rfl rfl ?_ | refine ldV_st st 3 rfl rfl rfl ?_ | refine ldV_st st 4 rfl rfl rfl ?_ | refine ldV_st st 5 rfl rfl rfl ?_ | refine ldB_st st 0 rfl rfl rfl ?_ | refine ldB_st st 1 rfl rfl rfl ?_ | refine ldB_st st 2 rfl rfl rfl ?_ | refine ldB_st st 3 rfl rfl rfl ?_ | refine ldB_st st 4 rfl rfl rfl ?_ | refine ldB_st st 5 rfl rfl rfl ?_ | refine ldP_st st 0 rfl rfl rfl ?_ | refine ldP_st st 1 rfl rfl rfl ?_ | refine ldP_st st 2 rfl rfl rfl ?_ | refine ldP_st st 3 rfl rfl rfl ?_ | refine ldP_st st 4 rfl rfl rfl ?_ | refine ldP_st st 5 rfl rfl rfl ?_ | (refine store_st st 0 rfl rfl rfl (by first | rfl | assumption) fun _ st => ?_; dsimp only [List.set] at st) | (refine store_st st 1 rfl rfl rfl (by first | rfl | assumption) fun _ st => ?_; dsimp only [List.set] at st) | (refine store_st st 2 rfl rfl rfl (by first | rfl | assumption) fun _ st => ?_; dsimp only [List.set] at st) | (refine store_st st 3 rfl rfl rfl (by first | rfl | assumption) fun _ st => ?_; dsimp only [List.set] at st) | (refine store_st st 4 rfl rfl rfl (by first | rfl | assumption) fun _ st => ?_; dsimp only [List.set] at st) | (refine store_st st 5 rfl rfl rfl (by first | rfl | assumption) fun _ st => ?_; dsimp only [List.set] at st)))
  exact ⟨_, rfl, st.ext, st.now.2.wide fun c hc => by omega⟩

end Go.Proofs.Ytieehpcgmjbceaa
