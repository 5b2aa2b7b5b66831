import Derived.Test.YtocnokjekoglnaaVcSw
namespace Go.Vc
set_option linter.unusedVariables false
set_option linter.unusedSimpArgs false
open Go
section
variable {ψ : CM} {h0 h : Heap} {os : List Ob} {α : Type}
theorem Hd.ext {h h' : Heap} {v u : Value} {i : Int} (hd : Hd h v i u) (hx : ExtH h h') : Hd h' v i u := by
  obtain ⟨a, n, c, e, hh⟩ := hd; exact ⟨a, n, c, e, CLe.ext hx _ _ hh⟩
def El.raw : El Rws where
  z := 0
  R := fun _ L cs x => cs = [] ∧ L = x
  mono := fun _ h => h
  len := fun h => by rw [h.1]; rfl
  one := fun h v hv => by rw [h.1] at hv; simp at hv
  zc := []
  zx := []
  hz := fun _ => ⟨rfl, rfl⟩
theorem AllR.atc {φ : CM} {E : El α} : ∀ {L : Rws} {css : List (List Value)} {xs : List α} {i : Nat} {c : List Value} {x : α}, AllR φ E L css xs → css[i]? = some c → xs[i]? = some x →
    ∃ M1 Mo M2, L = M1 ++ Mo ++ M2 ∧ E.R φ Mo c x ∧ ∀ φ' Mo' c' x', CLe φ φ' → E.R φ' Mo' c' x' → AllR φ' E (M1 ++ Mo' ++ M2) (css.set i c') (xs.set i x')
  | _, [], _, i, c, x, _, h, _ => by simp at h
  | _, _ :: _, [], _, _, _, h, _, _ => h.elim
  | L, c0 :: css, x0 :: xs, i, c, x, ⟨L1, L2, e, h1, h2⟩, hc, hx => by
    cases i with
    | zero =>
      simp at hc hx; subst hc hx
      exact ⟨[], L1, L2, by simpa using e, h1, fun φ' Mo' c' x' hl hr => ⟨Mo', L2, by simp, hr, h2.mono hl⟩⟩
    | succ i =>
      obtain ⟨M1, Mo, M2, e', g1, g2⟩ := AllR.atc h2 (by simpa using hc) (by simpa using hx)
      exact ⟨L1 ++ M1, Mo, M2, by rw [e, e']; simp, g1, fun φ' Mo' c' x' hl hr => ⟨L1, M1 ++ Mo' ++ M2, by simp, E.mono hl h1, g2 φ' Mo' c' x' hl hr⟩⟩
theorem S0.re {φ φ' : CM} {h' : Heap} {L L' : Rws} (s : S0 ψ h0 h φ L) (s' : S0 φ h0 h' φ' L') : S0 ψ h0 h' φ' L' :=
  ⟨s'.ext, s'.row, s'.low, s'.nod, s'.fle, s'.dis, fun p u hp => s'.bas p u (s.bas p u hp), fun p u hp hb => s.old p u (s'.old p u hp hb) hb⟩
theorem S0.self {φ : CM} {L : Rws} (s : S0 ψ h0 h φ L) : S0 φ h0 h φ L := ⟨s.ext, s.row, s.low, s.nod, s.fle, s.dis, fun _ _ h => h, fun _ _ h _ => h⟩
theorem ZiM {E : El α} {bytes z : Nat} {zero cs : List Value} {t el : TypeId} {v u : Value} {xss : List (List α)} {r zs e : List α} {y : α} {i : Int} (st : S ψ h0 h os) (k : Nat) (ho : os[k]? = some (.it (El.ow (El.ow E)) [v] xss)) (hi : gIdx xss i = some r) (hd : Hd h v i u)
    (hy : ∀ φ, E.R φ [] cs y) (hz : E.z = z) (hz0 : zero.length = z) (hb : gApp bytes r [y] = some zs) (_he : gIdx xss i = some e) {K : Heap → Prop} (hK : ∀ h', S ψ h0 h' (os.set k (.it (El.ow (El.ow E)) [v] (xss.set i.toNat zs))) → K h') :
    vNewS h (.cells cs.toArray t) 1 fun w h1 => vAppend z bytes zero el u w h1 fun u' h2 => vIdx v i 1 fun q => vStore1 h2 q u' K := by
  obtain ⟨i0, i1⟩ := Zaz hi
  obtain ⟨φ, L, s, rr⟩ := st
  obtain ⟨L1, Lo, L2, e1, e2, _, e4⟩ := rr.at ho
  rcases El.ow_to e2 with ⟨_, rfl, _⟩ | ⟨b, c, pre, css, rest, Lr, rfl, hc, hrest, rfl, hall⟩
  · simp at i1
  obtain ⟨ds, rfl⟩ := hall.singles rfl
  rw [ZdT] at e1
  have hlen := hall.length
  rw [List.length_map] at hlen
  have li := Zr i1
  have hrow : RowIs h b (pre ++ ds ++ rest) := s.row b (.cs (pre ++ ds ++ rest)) (by rw [e1]; simp)
  have hu : ds[i.toNat]? = some u := by
    obtain ⟨a, n, c', e, hh⟩ := hd; cases e
    rw [ZC, Nat.mul_one] at hh
    have : hcell h ⟨b, pre.length + i.toNat, none⟩ = some ds[i.toNat] := by
      refine hrow.cell ?_
      rw [List.getElem?_append_left (by rw [List.length_append]; omega), List.getElem?_append_right (by omega)]
      simp
    rw [hh] at this
    rw [List.getElem?_eq_getElem (by omega)]; exact this.symm
  obtain ⟨M1, Mo, M2, rfl, hR, hset⟩ := hall.atc (i := i.toNat) (c := [u]) (by rw [List.getElem?_map, hu]; rfl) i1
  have hp : L.Perm (Mo ++ ([(b, Row.cs (pre ++ ds ++ rest))] ++ (M1 ++ M2 ++ (L1 ++ L2)))) := by
    rw [e1]
    have p1 : (L1 ++ ((b, Row.cs (pre ++ ds ++ rest)) :: (M1 ++ Mo ++ M2)) ++ L2).Perm (((b, Row.cs (pre ++ ds ++ rest)) :: (M1 ++ Mo ++ M2)) ++ (L1 ++ L2)) := by
      rw [List.append_assoc]
      refine List.perm_append_comm_assoc ..
    refine p1.trans ?_
    have p2 : (M1 ++ Mo ++ M2).Perm (Mo ++ (M1 ++ M2)) := by
      rw [List.append_assoc]; exact List.perm_append_comm_assoc ..
    have p3 : (((b, Row.cs (pre ++ ds ++ rest)) :: (M1 ++ Mo ++ M2)) ++ (L1 ++ L2)).Perm (((b, Row.cs (pre ++ ds ++ rest)) :: (Mo ++ (M1 ++ M2))) ++ (L1 ++ L2)) := (p2.cons _).append_right _
    refine p3.trans ?_
    have : ((b, Row.cs (pre ++ ds ++ rest)) :: (Mo ++ (M1 ++ M2))) ++ (L1 ++ L2) = [(b, Row.cs (pre ++ ds ++ rest))] ++ (Mo ++ (M1 ++ M2 ++ (L1 ++ L2))) := by simp
    rw [this]
    exact List.perm_append_comm_assoc ..
  have stt : S φ h0 h [.it (El.ow E) [u] r, .box b (pre ++ ds ++ rest), .it El.raw [] (M1 ++ M2 ++ (L1 ++ L2))] :=
    ⟨φ, _, s.self.perm hp, Mo, _, rfl, hR, [(b, Row.cs (pre ++ ds ++ rest))], _, rfl, rfl, _, [], by simp, ⟨rfl, rfl⟩, rfl⟩
  refine ZU stt 0 rfl hy hz hz0 hb fun u' h' st2 => ?_
  refine ⟨⟨i0, by omega⟩, ?_⟩
  rw [ZC, Nat.mul_one]
  obtain ⟨φ', L', s2, Mo', X, rfl, q1, B, Y, rfl, q2, Z, W, rfl, q3, q4⟩ := st2
  have q2' : B = [(b, Row.cs (pre ++ ds ++ rest))] := q2
  obtain ⟨_, q3'⟩ := q3
  have q4' : W = [] := q4
  subst q2' q3' q4'
  have s3 : S0 φ h0 h' φ' ((b, Row.cs (pre ++ ds ++ rest)) :: (Mo' ++ (M1 ++ M2 ++ (L1 ++ L2)))) := s2.perm (by
    simp only [List.append_nil]
    exact List.perm_append_comm_assoc ..)
  refine Zg0 s3 (by simp; omega) ((El.ow E).one q1 u' (by simp)) fun h'' s4 => ?_
  rw [ZiQ (by omega)] at s4
  have hcle : CLe φ φ' := s4.bas
  refine hK h'' ⟨φ', L1 ++ ((b, Row.cs (pre ++ ds.set i.toNat u' ++ rest)) :: (M1 ++ Mo' ++ M2)) ++ L2, (s.re s4).perm ?_, e4 φ' (.it (El.ow (El.ow E)) _ _) _ hcle ⟨_, rfl, .inr ⟨b, c, pre, (ds.map fun d => [d]).set i.toNat [u'], rest, M1 ++ Mo' ++ M2, by simp, by simpa using hc, by simpa using hrest, ?_, hset φ' Mo' [u'] zs hcle q1⟩⟩⟩
  · have p1 : (L1 ++ ((b, Row.cs (pre ++ ds.set i.toNat u' ++ rest)) :: (M1 ++ Mo' ++ M2)) ++ L2).Perm (((b, Row.cs (pre ++ ds.set i.toNat u' ++ rest)) :: (M1 ++ Mo' ++ M2)) ++ (L1 ++ L2)) := by
      rw [List.append_assoc]
      refine List.perm_append_comm_assoc ..
    refine (p1.trans ?_).symm
    have p2 : (M1 ++ Mo' ++ M2).Perm (Mo' ++ (M1 ++ M2)) := by
      rw [List.append_assoc]; exact List.perm_append_comm_assoc ..
    have p3 : (((b, Row.cs (pre ++ ds.set i.toNat u' ++ rest)) :: (M1 ++ Mo' ++ M2)) ++ (L1 ++ L2)).Perm (((b, Row.cs (pre ++ ds.set i.toNat u' ++ rest)) :: (Mo' ++ (M1 ++ M2))) ++ (L1 ++ L2)) := (p2.cons _).append_right _
    refine p3.trans (List.Perm.of_eq ?_)
    simp
  · rw [← List.map_set, ZdT]
end
end Go.Vc
