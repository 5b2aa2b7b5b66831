/- The search for choices of columns, in plain terms. -/
import Derived.Test.YtieehpcgmjbceaaVcLib
namespace Go.Proofs.Ytieehpcgmjbceaa
open Go Go.Vc

structure ChS where
  nodes : Int
  full : Bool
  count : Int
  first : List Int

def colOf (m : List (List Int)) (c : Nat) : List Int := m.map fun r => r.getD c 0
def tailsOf (m : List (List Int)) (c : Nat) : List Int := m.map fun r => (r.drop c).sum
def addL (a b : List Int) : List Int := List.zipWith (· + ·) a b
def lowB (lam : Int) (s t : List Int) : Bool := (addL s t).any (· < lam)
def highB (lam : Int) (s : List Int) : Bool := s.any (lam < ·)
/-- A node, if it may be visited. -/
def onCh (limit budget : Int) (low : Bool) (f : ChS → ChS) (s : ChS) : ChS :=
  bif low || s.full || s.count == limit then s else bif s.nodes == budget then { s with full := true } else f { s with nodes := s.nodes + 1 }
/-- r columns are left of n. -/
def goCh (m : List (List Int)) (lam limit budget : Int) (n : Nat) : Nat → List Int → List Int → ChS → ChS
  | 0, _, ch, s => { s with count := s.count + 1, first := bif s.count == 0 then ch else s.first }
  | r + 1, sums, ch, s =>
    let nx := addL sums (colOf m (n - (r + 1)))
    let s1 := bif highB lam nx then s else onCh limit budget (lowB lam nx (tailsOf m (n - r))) (goCh m lam limit budget n r nx (ch ++ [((n - (r + 1) : Nat) : Int)])) s
    onCh limit budget (lowB lam sums (tailsOf m (n - r))) (goCh m lam limit budget n r sums ch) s1

end Go.Proofs.Ytieehpcgmjbceaa
