import Derived.Test.YtahnjnfpjcfklaaGreatDoorPuBase
import Derived.Sort.LotA
namespace Go.Vc
set_option linter.unusedVariables false
set_option linter.unusedSimpArgs false
open Go
def sortI (xs:List Int):List Int:=xs.mergeSort fun x y=>decide (x<=y)
def lexC:List Int->List Int->Int
 | [],[]=>0
 | [],_::_=>-1
 | _::_,[]=>1
 | a::as,b::bs=>if a<b then -1 else if b<a then 1 else lexC as bs
def lexLt (a b:List Int):Bool:=decide (lexC a b<0)
def sortRows (xs:List (List Int)):List (List Int):=xs.mergeSort fun x y=>!lexLt y x
theorem Zru:∀ a,lexC a a=0
 | []=>rfl
 | a::as=>by simp [lexC,Zru as]
theorem ZaQ:∀ a b,lexC b a=-lexC a b
 | [],[]=>rfl
 | [],_::_=>rfl
 | _::_,[]=>rfl
 | a::as,b::bs=>by
  simp only [lexC];rcases Int.lt_trichotomy a b with h|h|h
  ·rw [if_neg ω,if_pos h,if_pos h];rfl
  ·rw [if_neg ω,if_neg ω,if_neg ω,if_neg ω,ZaQ as bs]
  ·rw [if_pos h,if_neg ω,if_pos h]
theorem Zte:∀ a b,lexC a b=0->a=b
 | [],[],_=>rfl
 | [],_::_,h=>by simp [lexC] at h
 | _::_,[],h=>by simp [lexC] at h
 | a::as,b::bs,h=>by
  simp only [lexC] at h;rcases Int.lt_trichotomy a b with k|k|k
  ·rw [if_pos k] at h;simp at h
  ·rw [if_neg ω,if_neg ω] at h;rw [k,Zte as bs h]
  ·rw [if_neg ω,if_pos k] at h;simp at h
theorem ZfO:∀ a b c,lexC a b<=0->lexC b c<=0->lexC a c<=0/\(lexC a c=0->lexC a b=0)
 | [],[],[],_,_=>by simp [lexC]
 | [],[],_::_,_,_=>by simp [lexC]
 | [],_::_,[],_,h=>by simp [lexC] at h
 | [],_::_,_::_,_,_=>by simp [lexC]
 | _::_,[],_,h,_=>by simp [lexC] at h
 | _::_,_::_,[],_,h=>by simp [lexC] at h
 | a::as,b::bs,c::cs,h,k=>by
  have g:=ZfO as bs cs;simp only [lexC] at h k ⊢
  repeat (any_goals split at h)
  all_goals repeat (any_goals split at k)
  all_goals repeat (any_goals split)
  all_goals first
   | omega
   | (refine ⟨by omega,fun e=>by omega⟩)
   | exact g h k
   | (simp at h;done)
   | (simp at k;done)
theorem lexSwo:Sort.SWO lexLt:=by
 have T:∀ x y z,lexLt x y=false->lexLt y z=false->lexLt x z=false:=fun x y z h k=>by
  simp only [lexLt,decide_eq_false_iff_not,Int.not_lt] at *;have a:=ZaQ x y;have e:=ZaQ y z;have f:=ZaQ x z;have:=(ZfO z y x ω ω).1;omega
 refine ⟨fun x=>by simp [lexLt,Zru],fun x y z h k=>?_,T⟩;simp only [lexLt,decide_eq_true_eq] at *;have t:=ZfO x y z ω ω;rcases Int.lt_or_le (lexC x z) 0 with g|g
 ·exact g
 ·have:=t.2 ω;omega
theorem lexTot (x y:List Int) (h:lexLt x y=false) (k:lexLt y x=false):x=y:=by
 simp only [lexLt,decide_eq_false_iff_not,Int.not_lt] at *;have:=ZaQ x y;exact Zte _ _ ω
theorem ZrN {xs e:List (List Int)} (hp:e.Perm xs) (hs:∀ i j,i<j->j<e.length->lexLt e[j]! e[i]! =false):e=sortRows xs:=by
 have g:=hp.length_eq;have:=Sort.sorted_unique_holds lexSwo lexTot xs.toArray e.toArray ⟨by simp [g],fun i hi=>?_,?_⟩ fun i j _ h1 a=>?_
 ·simpa [sortRows] using this
 ·rcases hi with h|h
  ·omega
  ·simp at h;simp [List.getElem?_eq_none (show e.length<=i by omega),List.getElem?_eq_none h]
 ·rw [Array.toList_extract,Array.toList_extract];simp only [List.size_toArray,List.extract_eq_take_drop,List.drop_zero,Nat.sub_zero,List.take_length];rw [<-g,List.take_length];exact hp
 ·have:=hs i j h1 (by simp at a;omega);simpa using this
theorem ZeA (xs:List (List Int)):(sortRows xs).Perm xs:=List.mergeSort_perm _ _
def ltC {α:Type} (a:α->α->Int) (x y:α):Bool:=decide (a x y<0)
structure CmpOk {α:Type} (cf:α->α->Int):Prop where
 swo:Sort.SWO (ltC cf)
 tot:∀ x y,ltC cf x y=false->ltC cf y x=false->x=y
def sortC {α:Type} (a:α->α->Int) (xs:List α):List α:=xs.mergeSort fun x y=>!ltC a y x
end Go.Vc
