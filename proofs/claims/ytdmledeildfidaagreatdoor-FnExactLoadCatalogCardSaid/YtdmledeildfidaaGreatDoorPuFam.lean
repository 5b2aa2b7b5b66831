import Derived.Test.YtdmledeildfidaaGreatDoorPuFns
import Derived.Test.YtdmledeildfidaaGreatDoorPuLib
namespace Go.Proofs.YtdmledeildfidaaGreatDoor
open Go Go.Vc
set_option linter.unusedSimpArgs false
set_option linter.unusedVariables false
theorem ZIM {a b:List Int} (h:(OkL (fun _=>True)) a):IsQ (ZiA a b) (a=b):=by
 unfold ZiA;refine Zdi (B:=Zj5 a b) h.1 (fun k x y e g=>?_) ?_
 ·rw [Zj5,lt_t (Z9 e),ZbC e,ZbC g];simp only [cond_true,Option.bind_some];refine Zbm (c:=x==y) (by simp) ?_;rw [bne];cases (x==y)<;>rfl
 ·rw [Zj5,lt_f];rfl
theorem ZCW {a b:List (List Int)} (h:(OkL (OkL (fun _=>True))) a):IsQ (Zjb a b) (a=b):=by
 unfold Zjb;refine Zdi (B:=ZjF a b) h.1 (fun k x y e j=>?_) ?_
 ·rw [ZjF,lt_t (Z9 e),ZbC e,ZbC j];simp only [cond_true,Option.bind_some];obtain ⟨c,f,g⟩:=ZIM (a:=x) (b:=y) (h.2 x (List.mem_of_getElem? e));rw [show ZiA _ _=_ from f];simp only [Option.bind_some];refine Zbm g ?_;cases c<;>rfl
 ·rw [ZjF,lt_f];rfl
def Zv8 (x:Zf):Prop:=(OkL (OkL (fun _=>True))) x.Rows
theorem ZFR {a b:Zf} (h:Zv8 a):IsQ (ZkF a b) (a=b):=by
 unfold ZkF;have f:=h;refine q_ne (fun g=>?_) (fun c e=>c (by rw [e]));refine q_ne (fun i=>?_) (fun c e=>c (by rw [e]));refine q_sub (ZCW (a:=a.Rows) (b:=b.Rows) f) (fun j=>?_) (fun c e=>c (by rw [e]));refine IsQ.t ?_;cases a;cases b;simp_all
def Zne (x:Zd):Prop:=Zv8 x.Object
theorem ZwN {a b:Zd} (h:Zne a):IsQ (Zik a b) (a=b):=by
 unfold Zik;have h1:=h;refine Zq1 (fun f=>?_) (fun c e=>c (by rw [e]));refine q_sub (ZFR (a:=a.Object) (b:=b.Object) h1) (fun g=>?_) (fun c e=>c (by rw [e]));refine Zq1 (fun i=>?_) (fun c e=>c (by rw [e]));refine IsQ.t ?_;cases a;cases b;simp_all
theorem ZFt {a b:List Zd} (h:(OkL Zne) a):IsQ (ZkT a b) (a=b):=by
 unfold ZkT;refine Zdi (B:=Zl6 a b) h.1 (fun k x y e j=>?_) ?_
 ·rw [Zl6,lt_t (Z9 e),ZbC e,ZbC j];simp only [cond_true,Option.bind_some];obtain ⟨c,f,g⟩:=ZwN (a:=x) (b:=y) (h.2 x (List.mem_of_getElem? e));rw [show Zik _ _=_ from f];simp only [Option.bind_some];refine Zbm g ?_;cases c<;>rfl
 ·rw [Zl6,lt_f];rfl
def Zu1 (x:Zm):Prop:=(OkL Zne) x.Items
theorem ZHG {a b:Zm} (h:Zu1 a):IsQ (ZfR a b) (a=b):=by
 unfold ZfR;have c:=h;refine q_sub (ZFt (a:=a.Items) (b:=b.Items) c) (fun g=>?_) (fun e f=>e (by rw [f]));refine IsQ.t ?_;cases a;cases b;simp_all
end Go.Proofs.YtdmledeildfidaaGreatDoor
