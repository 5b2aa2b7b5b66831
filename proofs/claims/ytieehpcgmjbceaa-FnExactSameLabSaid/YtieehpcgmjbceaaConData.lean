/- The program's data, and how it lies in cells. -/
import Derived.Test.YtieehpcgmjbceaaVcFns
import Derived.Test.YtieehpcgmjbceaaVcRead
namespace Go.Proofs.Ytieehpcgmjbceaa
open Go Go.Vc Go.ChangeShapes Go.WideShapes

abbrev Rows2 := List (List Int)
abbrev eRow : Elem (List Int) := eSlB 1 eI64
abbrev eRows : Elem Rows2 := eSlB 1 eRow
structure DObject where
  kind : Int
  size : Int
  rows : Rows2
deriving DecidableEq, Inhabited
structure DItem where
  name : ByteArray
  obj : DObject
  key : ByteArray
deriving DecidableEq, Inhabited
structure DRecipe where
  name : ByteArray
  verb : ByteArray
  params : List Int
  inputs : List ByteArray
deriving DecidableEq, Inhabited
structure DLab where
  recipes : List DRecipe
  objects : List DObject
deriving DecidableEq, Inhabited

def eObject : Elem DObject := fun h cs o => ∃ v, cs = [.int .i64 o.kind, .int .i64 o.size, v] ∧ I64 o.kind ∧ I64 o.size ∧ SlB 1 eRow h v o.rows
def eItem : Elem DItem := fun h cs o => ∃ v, cs = [.string o.name, .int .i64 o.obj.kind, .int .i64 o.obj.size, v, .string o.key] ∧ o.name.size ≤ 9223372036854775807 ∧ I64 o.obj.kind ∧ I64 o.obj.size ∧ SlB 1 eRow h v o.obj.rows ∧ o.key.size ≤ 9223372036854775807
def eCatalog : Elem (List DItem) := fun h cs o => ∃ v, cs = [v] ∧ SlB 5 eItem h v o

abbrev eStrs : Elem (List ByteArray) := eSlB 1 eStB
def eRecipe : Elem DRecipe := fun h cs o => ∃ v u, cs = [.string o.name, .string o.verb, v, u] ∧ o.name.size ≤ 9223372036854775807 ∧ o.verb.size ≤ 9223372036854775807 ∧ SlB 1 eI64 h v o.params ∧ SlB 1 eStB h u o.inputs
def eLab : Elem DLab := fun h cs o => ∃ v u, cs = [v, u] ∧ SlB 4 eRecipe h v o.recipes ∧ SlB 3 eObject h u o.objects

theorem mono_row : Mono eRow := mono_slB mono_i64
theorem mono_rows : Mono eRows := mono_slB mono_row
theorem mono_object : Mono eObject := fun _ _ _ _ hx ⟨v, h1, h2, h3, h4⟩ => ⟨v, h1, h2, h3, h4.ext mono_row hx⟩
theorem mono_item : Mono eItem := fun _ _ _ _ hx ⟨v, h1, h2, h3, h4, h5, h6⟩ => ⟨v, h1, h2, h3, h4, h5.ext mono_row hx, h6⟩
theorem mono_recipe : Mono eRecipe := fun _ _ _ _ hx ⟨v, u, h1, h2, h3, h4, h5⟩ => ⟨v, u, h1, h2, h3, h4.ext mono_i64 hx, h5.ext mono_stB hx⟩
theorem mono_lab : Mono eLab := fun _ _ _ _ hx ⟨v, u, h1, h4, h5⟩ => ⟨v, u, h1, h4.ext mono_recipe hx, h5.ext mono_object hx⟩
theorem mono_catalog : Mono eCatalog := fun _ _ _ _ hx ⟨v, h1, h2⟩ => ⟨v, h1, h2.ext mono_item hx⟩

section
variable {H : Type} {enc : TypeId × Value → H}
theorem reads_row : Reads enc P eRow t_S_int64 := reads_slice (e := t_int64) (by kernel_rfl) (by kernel_rfl) (reads_i64 (by kernel_rfl))
theorem reads_rows : Reads enc P eRows t_S_S_int64 := reads_slice (e := t_S_int64) (by kernel_rfl) (by kernel_rfl) reads_row
theorem reads_object : Reads enc P eObject t_laws_Object := by
  intro W base spare held fuel cs x h
  have hl : cs.length = 3 := reads_len h (u := (t_int64, 0)) (by kernel_rfl) (by kernel_rfl)
  match cs, hl with
  | [a, b, c], _ =>
    obtain ⟨x0, g0⟩ := reads_fld h 0 (t' := t_int64) (off := 0) (z := 1) (by kernel_rfl) (by kernel_rfl) (reads_i64 (by kernel_rfl))
    obtain ⟨x1, g1⟩ := reads_fld h 1 (t' := t_int64) (off := 1) (z := 1) (by kernel_rfl) (by kernel_rfl) (reads_i64 (by kernel_rfl))
    obtain ⟨x2, g2⟩ := reads_fld h 2 (t' := t_S_S_int64) (off := 2) (z := 1) (by kernel_rfl) (by kernel_rfl) reads_rows
    obtain ⟨e0, i0⟩ := g0
    obtain ⟨e1, i1⟩ := g1
    obtain ⟨v, e2, i2⟩ := g2
    cases e0; cases e1; cases e2
    exact ⟨⟨x0, x1, x2⟩, _, rfl, i0, i1, i2⟩
theorem reads_item : Reads enc P eItem t_laws_Item := by
  intro W base spare held fuel cs x h
  have hl : cs.length = 5 := reads_len h (u := (t_string, 0)) (by kernel_rfl) (by kernel_rfl)
  match cs, hl with
  | [a, b, c, d, e], _ =>
    obtain ⟨x0, e0, i0⟩ := reads_fld h 0 (t' := t_string) (off := 0) (z := 1) (by kernel_rfl) (by kernel_rfl) (reads_str (by kernel_rfl))
    obtain ⟨x1, v, e1, i1⟩ := reads_fld h 1 (t' := t_laws_Object) (off := 1) (z := 3) (by kernel_rfl) (by kernel_rfl) reads_object
    obtain ⟨x2, e2, i2⟩ := reads_fld h 2 (t' := t_string) (off := 4) (z := 1) (by kernel_rfl) (by kernel_rfl) (reads_str (by kernel_rfl))
    cases e0; cases e1; cases e2
    exact ⟨⟨x0, x1, x2⟩, _, rfl, i0, i1.1, i1.2.1, i1.2.2, i2⟩
theorem reads_strs : Reads enc P eStrs t_S_string := reads_slice (e := t_string) (by kernel_rfl) (by kernel_rfl) (reads_str (by kernel_rfl))
theorem reads_recipe : Reads enc P eRecipe t_laws_Recipe := by
  intro W base spare held fuel cs x h
  have hl : cs.length = 4 := reads_len h (u := (t_string, 0)) (by kernel_rfl) (by kernel_rfl)
  match cs, hl with
  | [a, b, c, d], _ =>
    obtain ⟨x0, e0, i0⟩ := reads_fld h 0 (t' := t_string) (off := 0) (z := 1) (by kernel_rfl) (by kernel_rfl) (reads_str (by kernel_rfl))
    obtain ⟨x1, e1, i1⟩ := reads_fld h 1 (t' := t_string) (off := 1) (z := 1) (by kernel_rfl) (by kernel_rfl) (reads_str (by kernel_rfl))
    obtain ⟨x2, v, e2, i2⟩ := reads_fld h 2 (t' := t_S_int64) (off := 2) (z := 1) (by kernel_rfl) (by kernel_rfl) reads_row
    obtain ⟨x3, u, e3, i3⟩ := reads_fld h 3 (t' := t_S_string) (off := 3) (z := 1) (by kernel_rfl) (by kernel_rfl) reads_strs
    cases e0; cases e1; cases e2; cases e3
    exact ⟨⟨x0, x1, x2, x3⟩, _, _, rfl, i0, i1, i2, i3⟩
theorem reads_recipes : Reads enc P (eSlB 4 eRecipe) t_S_laws_Recipe := reads_slice (e := t_laws_Recipe) (by kernel_rfl) (by kernel_rfl) reads_recipe
theorem reads_objects : Reads enc P (eSlB 3 eObject) t_S_laws_Object := reads_slice (e := t_laws_Object) (by kernel_rfl) (by kernel_rfl) reads_object
theorem reads_lab : Reads enc P eLab t_laws_Lab := by
  intro W base spare held fuel cs x h
  have hl : cs.length = 2 := reads_len h (u := (t_S_laws_Recipe, 0)) (by kernel_rfl) (by kernel_rfl)
  match cs, hl with
  | [a, b], _ =>
    obtain ⟨x0, v, e0, i0⟩ := reads_fld h 0 (t' := t_S_laws_Recipe) (off := 0) (z := 1) (by kernel_rfl) (by kernel_rfl) reads_recipes
    obtain ⟨x1, u, e1, i1⟩ := reads_fld h 1 (t' := t_S_laws_Object) (off := 1) (z := 1) (by kernel_rfl) (by kernel_rfl) reads_objects
    cases e0; cases e1
    exact ⟨⟨x0, x1⟩, _, _, rfl, i0, i1⟩
theorem reads_items : Reads enc P (eSlB 5 eItem) t_S_laws_Item := reads_slice (e := t_laws_Item) (by kernel_rfl) (by kernel_rfl) reads_item
theorem reads_catalog : Reads enc P eCatalog t_laws_Catalog := by
  intro W base spare held fuel cs x h
  have hl : cs.length = 1 := reads_len h (u := (t_S_laws_Item, 0)) (by kernel_rfl) (by kernel_rfl)
  match cs, hl with
  | [a], _ =>
    obtain ⟨x0, v, e0, i0⟩ := reads_fld h 0 (t' := t_S_laws_Item) (off := 0) (z := 1) (by kernel_rfl) (by kernel_rfl) reads_items
    cases e0
    exact ⟨x0, _, rfl, i0⟩
end

end Go.Proofs.Ytieehpcgmjbceaa
