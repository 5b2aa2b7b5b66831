import Derived.Test.YtccncimchmimdaaGreatDoorPuFns
import Derived.Test.YtccncimchmimdaaGreatDoorPuLib
namespace Go.Proofs.YtccncimchmimdaaGreatDoor
open Go Go.Vc
set_option linter.unusedSimpArgs false
set_option linter.unusedVariables false
theorem Zws:Sz ZeX (OkL I64) (SmL (fun _=>True)):=by
 intro xs left e a b
 have g:=e.1
 unfold M63 at g
 unfold ZeX
 rw [Zrc a b ω ω]
 by_cases c:left-(xs.length:Int)<0
 ·have:decide (left-(xs.length:Int)<0)=true:=by simpa using c
  rw [this];exact ⟨-1,rfl,.inl rfl⟩
 ·have:decide (left-(xs.length:Int)<0)=false:=by simpa using c
  rw [this];exact ⟨_,rfl,.inr ⟨by omega,by omega,by omega,fun _ _=>trivial⟩⟩
theorem ZDj:Sz Zhl (OkL (OkL I64)) (SmL (SmL (fun _=>True))):=by
 refine ZBe (f:=ZeX) (B:=Zik) Zws (fun xs left=>rfl) ?_ ?_
 ·intro xs k x l r a c
  rw [Zik,lt_t (Zaf a),Zcw a]
  simp only [cond_true,Option.bind_some]
  rw [show ZeX _ l=some r from c]
  simp only [Option.bind_some]
  cases decide (r<0)<;>rfl
 ·intro xs l
  rw [Zik,lt_f];rfl
def ZmB (x:Zan):Prop:=I64 x.Kind/\I64 x.Size/\(OkL (OkL I64)) x.Rows
def ZpW (x:Zan):Prop:=(SmL (SmL (fun _=>True))) x.Rows
theorem Zyv:Sz Zit ZmB ZpW:=by
 intro x left j f g
 unfold Zit
 obtain ⟨h,k1,b⟩:=j
 obtain ⟨r2,a,c2⟩:=ZDj x.Rows left b ω ω
 first|rw [a]|rw [show Zhl _ _=some r2 from a]
 simp only [Option.bind_some]
 rcases c2 with rfl|⟨l2,i,c⟩
 ·exact ⟨-1,rfl,.inl rfl⟩
 have e:decide (r2<0)=false:=by simpa using l2
 rw [e]
 simp only [cond_false]
 exact ⟨_,rfl,.inr ⟨by omega,by omega,c⟩⟩
theorem ZxT {x:List Int} (h:(SmL (fun _=>True)) x):Ze9 x=some ((List.map (fun x=>x)) x):=by
 unfold Ze9
 have l:=h.1
 rw [Zjp ω ω]
 refine (Zsg (c:=(fun x=>x)) (g:=fun xs=>xs) (by unfold M63;omega) ?_ ?_)
 ·intro k a xs e j b
  rw [Zjf,lt_t (Zaf j),Zcw j,Zcw b]
  rfl
 ·intro xs
  rw [Zjf,lt_f];rfl
theorem Zy2 {x:List (List Int)} (h:(SmL (SmL (fun _=>True))) x):Zft x=some ((List.map (List.map (fun x=>x))) x):=by
 unfold Zft
 have l:=h.1
 rw [Zjp ω ω]
 refine (Zsg (c:=(List.map (fun x=>x))) (g:=fun xs=>xs) (by unfold M63;omega) ?_ ?_)
 ·intro k a xs e j b
  rw [ZhX,lt_t (Zaf j),Zcw j,Zcw b]
  simp only [cond_true,Option.bind_some]
  rw [show Ze9 _=_ from ZxT (h.2 a (List.mem_of_getElem? j))]
  rfl
 ·intro xs
  rw [ZhX,lt_f];rfl
def Zhz (x:Zan):ZF:=ZF.mk x.Kind x.Size ((List.map (List.map (fun x=>x))) x.Rows)
theorem Zw6 {x:Zan} (h:ZpW x):ZeL x=some (Zhz x):=by
 unfold ZeL
 have a:=h
 rw [show Zft _=_ from Zy2 a]
 simp only [Option.bind_some]
 rfl
theorem Zxg {a b:List Int} (h:(OkL (fun _=>True)) a):IsQ (Zg1 a b) (a=b):=by
 unfold Zg1
 refine Zfb (B:=Zjx a b) h.1 (fun k x y e g=>?_) ?_
 ·rw [Zjx,lt_t (Zaf e),Zcw e,Zcw g]
  simp only [cond_true,Option.bind_some]
  refine ZbT (c:=x==y) (by simp) ?_
  rw [bne];cases (x==y)<;>rfl
 ·rw [Zjx,lt_f];rfl
theorem Zx8 {a b:List (List Int)} (h:(OkL (OkL (fun _=>True))) a):IsQ (Zh3 a b) (a=b):=by
 unfold Zh3
 refine Zfb (B:=Zil a b) h.1 (fun k x y e j=>?_) ?_
 ·rw [Zil,lt_t (Zaf e),Zcw e,Zcw j]
  simp only [cond_true,Option.bind_some]
  obtain ⟨c,f,g⟩:=Zxg (a:=x) (b:=y) (h.2 x (List.mem_of_getElem? e))
  rw [show Zg1 _ _=_ from f]
  simp only [Option.bind_some]
  refine ZbT g ?_
  cases c<;>rfl
 ·rw [Zil,lt_f];rfl
def ZGs (x:ZF):Prop:=(OkL (OkL (fun _=>True))) x.Rows
theorem ZBV {a b:ZF} (h:ZGs a):IsQ (Zhs a b) (a=b):=by
 unfold Zhs
 have f:=h
 refine q_ne (fun g=>?_) (fun c e=>c (by rw [e]))
 refine q_ne (fun i=>?_) (fun c e=>c (by rw [e]))
 refine q_sub (Zx8 (a:=a.Rows) (b:=b.Rows) f) (fun j=>?_) (fun c e=>c (by rw [e]))
 refine IsQ.t ?_
 cases a;cases b;simp_all
end Go.Proofs.YtccncimchmimdaaGreatDoor
