import Derived.Test.YtcneolcmjjlmnaaGreatDoorPuBase
import Derived.Sort.LotA
open Bool renaming false->Jj
namespace Go.Vc
set_option linter.unusedVariables false
set_option linter.unusedSimpArgs false
open Go
def sortI (xs:Jb):Jb:=xs.mergeSort λx y=>decide (x<=y)
def lexC:Jb->Jb->Int
 | [],[]=>0
 | [],_::_=>-1
 | _::_,[]=>1
 | a::as,b::bs=>if a<b then -1 else if b<a then 1 else lexC as bs
def lexLt (a b:Jb):Bool:=decide (lexC a b<0)
def sortRows (xs:Ja):Ja:=xs.mergeSort λx y=>!lexLt y x
theorem Zv5:∀a,lexC a a=0
 | []=>rfl
 | a::as=>by simp [lexC,Zv5 as]
theorem Zci:∀a b,lexC b a=-lexC a b
 | [],[]=>rfl
 | [],_::_=>rfl
 | _::_,[]=>rfl
 | a::as,b::bs=>by
  simp only [lexC];rcases Int.lt_trichotomy a b with h|h|h
  .omega
  .rw [if_neg Z,if_neg Z,if_neg Z,if_neg Z,Zci as bs]
  .omega
theorem ZEi:∀a b,lexC a b=0->a=b
 | [],[],_=>rfl
 | [],_::_,h=>by simp [lexC] at h
 | _::_,[],h=>by simp [lexC] at h
 | a::as,b::bs,h=>by
  simp only [lexC] at h;rcases Int.lt_trichotomy a b with k|k|k
  .omega
  .rw [if_neg Z,if_neg Z] at h;rw [k,ZEi as bs h]
  .omega
theorem ZhD:∀a b c,lexC a b<=0->lexC b c<=0->lexC a c<=0/\(lexC a c=0->lexC a b=0)
 | [],[],[],_,_=>by simp [lexC]
 | [],[],_::_,_,_=>by simp [lexC]
 | [],_::_,[],_,h=>by simp [lexC] at h
 | [],_::_,_::_,_,_=>by simp [lexC]
 | _::_,[],_,h,_=>by simp [lexC] at h
 | _::_,_::_,[],_,h=>by simp [lexC] at h
 | a::as,b::bs,c::cs,h,k=>by
  have e:=ZhD as bs cs;grind [lexC]
theorem lexSwo:Sort.SWO lexLt:=by
 have T:∀x y z,lexLt x y=Jj->lexLt y z=Jj->lexLt x z=false:=λx y z h k=>by
  grind [lexLt,decide_eq_false_iff_not,Int.not_lt,Zci,ZhD]
 refine ⟨λx=>by simp [lexLt,Zv5],λx y z h k=>?_,T⟩;simp only [lexLt,decide_eq_true_eq] at *;grind [ZhD,Int.lt_or_le,lexC]
theorem lexTot (x y:Jb) (h:lexLt x y=Jj) (k:lexLt y x=Jj):x=y:=by
 grind [lexLt,decide_eq_false_iff_not,Int.not_lt,Zci,ZEi]
theorem ZxJ {xs e:Ja} (hp:e.Perm xs) (hs:∀i j,i<j->j<e.length->lexLt e[j]! e[i]! =Jj):e=sortRows xs:=by
 have g:=hp.length_eq;have:=Sort.sorted_unique_holds lexSwo lexTot xs.toArray e.toArray ⟨by simp [g],λi hi=>?_,?_⟩ λi j _ h1 a=>?_
 .assumption
 .grind
 .grind
 .grind
theorem ZhA (xs:Ja):(sortRows xs).Perm xs:=List.mergeSort_perm _ _
def ltC {α:Type} (e:α->α->Int) (x y:α):Bool:=decide (e x y<0)
structure CmpOk {α:Type} (cf:α->α->Int):Prop where
 swo:Sort.SWO (ltC cf)
 tot:∀x y,ltC cf x y=Jj->ltC cf y x=Jj->x=y
def sortC {α:Type} (e:α->α->Int) (xs:List α):List α:=xs.mergeSort λx y=>!ltC e y x
end Go.Vc
