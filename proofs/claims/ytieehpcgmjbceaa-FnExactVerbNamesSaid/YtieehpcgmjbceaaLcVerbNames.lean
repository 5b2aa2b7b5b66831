/- The law FnExactVerbNames: its contract. -/
import Derived.Test.YtieehpcgmjbceaaConVerb
import Derived.Test.YtieehpcgmjbceaaVcTop
namespace Go.Proofs.Ytieehpcgmjbceaa
open Go Go.Vc

theorem verbNames_args {h : Heap} : LawOk P id_laws_FnExactVerbNames #[] h := by
  apply w_laws_FnExactVerbNames
  unfold F_laws_FnExactVerbNames
  have hE : ∀ (h : Heap) (x : ByteArray), x ∈ verbsL → eStr h [.string x] x := fun h x _ => rfl
  have hlen : (verbsL.map Value.string).length = 23 := rfl
  refine specVerbNames_ok.mono fun w0 h1 ⟨ow, x1⟩ => ⟨w0, rfl, ?_⟩
  refine implVerbNames_ok.mono fun g0 h2 ⟨⟨b, hb, og⟩, x2⟩ => ⟨g0, rfl, ?_⟩
  have ow2 := ow.ext x2
  refine CallsH.eq (eqStringS_ok (og.sl (hE _)) (ow2.sl (hE _)) (by decide)) ⟨_, rfl, ?_⟩
  refine bif_neg (by simp) ?_
  refine (markStringS_ok (k := 1) og (by decide) (by rw [hlen]; decide)).mono fun _ h3 ⟨hr, om, x3⟩ => ⟨_, hr, ?_⟩
  rw [hlen] at om
  refine (heldStringS_ok om (by decide) (by decide)).mono fun _ h4 ⟨hr, x4⟩ => ⟨_, hr, ?_⟩
  refine bif_neg (by decide) (bif_neg (by decide) ?_)
  refine implVerbNames_ok.mono fun g1 h5 ⟨⟨b1, hb1, og1⟩, x5⟩ => ⟨g1, rfl, ?_⟩
  have hne : ¬ (h.size = b) := by have := ow.lt; omega
  have ow5 := ((ow2.but x3 hne).ext x4).ext x5
  refine CallsH.eq (eqStringS_ok (og1.sl (hE _)) (ow5.sl (hE _)) (by decide)) ⟨_, rfl, ?_⟩
  refine bif_neg (by simp) ?_
  refine (heldStringS_ok ((om.ext x4).ext x5) (by decide) (by decide)).mono fun _ h6 ⟨hr, x6⟩ => ⟨_, hr, ?_⟩
  refine bif_neg (by decide) (bif_neg (by decide) ⟨rfl, ?_⟩)
  have e3 : ExtH h h3 := x3.ext (x1.trans x2) fun x hx => by have := x1.1; omega
  exact ((e3.trans x4).trans x5).trans x6

end Go.Proofs.Ytieehpcgmjbceaa
