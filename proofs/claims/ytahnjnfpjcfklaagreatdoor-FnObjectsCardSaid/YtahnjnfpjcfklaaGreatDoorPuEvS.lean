import Derived.Test.YtahnjnfpjcfklaaGreatDoorPuEv
import Derived.Test.YtahnjnfpjcfklaaGreatDoorPuCmp
namespace Go.Vc
set_option linter.unusedVariables false
set_option linter.unusedSimpArgs false
open Go
noncomputable instance {α:Type} [Frc α]:Frc (Option α) where
 frc o k:=Option.rec (k none) (fun a=>Frc.frc a fun a=>k (some a)) o
 ok o k:=by cases o<;>first|rfl|exact Frc.ok _ _
noncomputable def cSl {α:Type} (xs:List α) (lo hi:Int):Option (List α):=bif lei 0 lo&&(lei lo hi&&lei hi (len xs)) then some ((xs.take hi.toNat).drop lo.toNat) else none
theorem Zp {α:Type} (xs:List α) (lo hi:Int):gSl xs lo hi=cSl xs lo hi:=by
 unfold gSl cSl;rw [<-Zk,<-Zk,<-Zk,Zox];by_cases h:0<=lo/\lo<=hi/\hi<=(xs.length:Int)
 ·rw [if_pos h,decide_eq_true h.1,decide_eq_true h.2.1,decide_eq_true h.2.2];rfl
 ·rw [if_neg h];cases a:(decide (0<=lo)&&(decide (lo<=hi)&&decide (hi<=(xs.length:Int)))) with
  | false=>rfl
  | true=>simp at a;exact absurd ⟨a.1,a.2.1,a.2.2⟩ h
end Go.Vc
