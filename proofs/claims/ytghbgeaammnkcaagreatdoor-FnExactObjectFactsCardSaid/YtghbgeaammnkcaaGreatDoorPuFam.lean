import Derived.Test.YtghbgeaammnkcaaGreatDoorPuFns
import Derived.Test.YtghbgeaammnkcaaGreatDoorPuLib
namespace Go.Proofs.YtghbgeaammnkcaaGreatDoor
open Go Go.Vc
set_option linter.unusedSimpArgs false
set_option linter.unusedVariables false
theorem ZwI:Sz Zep (OkL I64) (SmL (fun _=>True)):=by
 intro xs left hok a b
 have hM:=hok.1
 unfold M63 at hM
 unfold Zep
 rw [Zs3 a b (by omega) (by omega)]
 by_cases hlt:left-(xs.length:Int)<0
 ·have:decide (left-(xs.length:Int)<0)=true:=by simpa using hlt
  rw [this];exact ⟨-1,rfl,.inl rfl⟩
 ·have:decide (left-(xs.length:Int)<0)=false:=by simpa using hlt
  rw [this];exact ⟨_,rfl,.inr ⟨by omega,by omega,by omega,fun _ _=>trivial⟩⟩
theorem Zyb:Sz ZgI (OkL (OkL I64)) (SmL (SmL (fun _=>True))):=by
 refine Zzm (f:=Zep) (B:=ZiA) ZwI (fun xs left=>rfl) ?_ ?_
 ·intro xs k x l r a hr
  rw [ZiA,lt_t (Z6 a),Za5 a]
  simp only [cond_true,Option.bind_some]
  rw [show Zep _ l=some r from hr]
  simp only [Option.bind_some]
  cases decide (r<0)<;>rfl
 ·intro xs l
  rw [ZiA,lt_f];rfl
def ZpR (x:Zag):Prop:=I64 x.Kind∧I64 x.Size∧(OkL (OkL I64)) x.Rows
def Zoq (x:Zag):Prop:=(SmL (SmL (fun _=>True))) x.Rows
theorem ZEg:Sz ZgM ZpR Zoq:=by
 intro x left hok f g
 unfold ZgM
 obtain ⟨h,k1,c⟩:=hok
 obtain ⟨a,b,c2⟩:=Zyb x.Rows left c (by omega) (by omega)
 first|rw [b]|rw [show ZgI _ _=some a from b]
 simp only [Option.bind_some]
 rcases c2 with rfl|⟨l2,i,s2⟩
 ·exact ⟨-1,rfl,.inl rfl⟩
 have e:decide (a<0)=false:=by simpa using l2
 rw [e]
 simp only [cond_false]
 exact ⟨_,rfl,.inr ⟨by omega,by omega,s2⟩⟩
theorem ZvC {x:List Int} (h:(SmL (fun _=>True)) x):Zfw x=some ((List.map (fun x=>x)) x):=by
 unfold Zfw
 have hl:=h.1
 rw [Zhy (by omega) (by omega)]
 refine (Zsm (c:=(fun x=>x)) (g:=fun xs=>xs) (by unfold M63;omega) ?_ ?_)
 ·intro k a xs e ha b
  rw [ZgX,lt_t (Z6 ha),Za5 ha,Za5 b]
  rfl
 ·intro xs
  rw [ZgX,lt_f];rfl
theorem Zyj {x:List (List Int)} (h:(SmL (SmL (fun _=>True))) x):Zgt x=some ((List.map (List.map (fun x=>x))) x):=by
 unfold Zgt
 have hl:=h.1
 rw [Zhy (by omega) (by omega)]
 refine (Zsm (c:=(List.map (fun x=>x))) (g:=fun xs=>xs) (by unfold M63;omega) ?_ ?_)
 ·intro k a xs e ha b
  rw [ZhT,lt_t (Z6 ha),Za5 ha,Za5 b]
  simp only [cond_true,Option.bind_some]
  rw [show Zfw _=_ from ZvC (h.2 a (List.mem_of_getElem? ha))]
  rfl
 ·intro xs
  rw [ZhT,lt_f];rfl
def Zb3 (x:Zag):Zl:=Zl.mk x.Kind x.Size ((List.map (List.map (fun x=>x))) x.Rows)
theorem ZET {x:Zag} (h:Zoq x):Zc6 x=some (Zb3 x):=by
 unfold Zc6
 have a:=h
 rw [show Zgt _=_ from Zyj a]
 simp only [Option.bind_some]
 rfl
theorem Zxt {a b:List ByteArray} (h:(OkL (fun _=>True)) a):IsQ (Zew a b) (a=b):=by
 unfold Zew
 refine ZdG (B:=Zh0 a b) h.1 (fun k x y e hy=>?_) ?_
 ·rw [Zh0,lt_t (Z6 e),Za5 e,Za5 hy]
  simp only [cond_true,Option.bind_some]
  refine Zbr (c:=x.toList==y.toList) (ZAJ x y) ?_
  cases (x.toList==y.toList)<;>rfl
 ·rw [Zh0,lt_f];rfl
theorem ZCT {a b:List Int} (h:(OkL (fun _=>True)) a):IsQ (ZfK a b) (a=b):=by
 unfold ZfK
 refine ZdG (B:=ZjK a b) h.1 (fun k x y e hy=>?_) ?_
 ·rw [ZjK,lt_t (Z6 e),Za5 e,Za5 hy]
  simp only [cond_true,Option.bind_some]
  refine Zbr (c:=x==y) (by simp) ?_
  rw [bne];cases (x==y)<;>rfl
 ·rw [ZjK,lt_f];rfl
theorem Zu3 {a b:List (List Int)} (h:(OkL (OkL (fun _=>True))) a):IsQ (Zi3 a b) (a=b):=by
 unfold Zi3
 refine ZdG (B:=Zia a b) h.1 (fun k x y e hy=>?_) ?_
 ·rw [Zia,lt_t (Z6 e),Za5 e,Za5 hy]
  simp only [cond_true,Option.bind_some]
  obtain ⟨c,f,g⟩:=ZCT (a:=x) (b:=y) (h.2 x (List.mem_of_getElem? e))
  rw [show ZfK _ _=_ from f]
  simp only [Option.bind_some]
  refine Zbr g ?_
  cases c<;>rfl
 ·rw [Zia,lt_f];rfl
def ZA3 (x:Zl):Prop:=(OkL (OkL (fun _=>True))) x.Rows
theorem ZEf {a b:Zl} (h:ZA3 a):IsQ (ZhX a b) (a=b):=by
 unfold ZhX
 have f:=h
 refine q_ne (fun g=>?_) (fun c e=>c (by rw [e]))
 refine q_ne (fun i=>?_) (fun c e=>c (by rw [e]))
 refine q_sub (Zu3 (a:=a.Rows) (b:=b.Rows) f) (fun j=>?_) (fun c e=>c (by rw [e]))
 refine IsQ.t ?_
 cases a;cases b;simp_all
end Go.Proofs.YtghbgeaammnkcaaGreatDoor
