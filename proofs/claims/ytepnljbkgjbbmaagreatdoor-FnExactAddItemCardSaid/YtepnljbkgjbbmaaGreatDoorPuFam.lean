import Derived.Test.YtepnljbkgjbbmaaGreatDoorPuFns
import Derived.Test.YtepnljbkgjbbmaaGreatDoorPuLib
namespace Go.Proofs.YtepnljbkgjbbmaaGreatDoor
open Go Go.Vc
set_option linter.unusedSimpArgs false
set_option linter.unusedVariables false
theorem Zyu:Sz Zey (OkL I64) (SmL (fun _=>True)):=by
 intro xs left g a h1
 have h:=g.1
 unfold M63 at h
 unfold Zey
 rw [Zkx a h1 ω ω]
 by_cases e:left-(xs.length:Int)<0
 ·have:decide (left-(xs.length:Int)<0)=true:=by simpa using e
  rw [this];exact ⟨-1,rfl,.inl rfl⟩
 ·have:decide (left-(xs.length:Int)<0)=false:=by simpa using e
  rw [this];exact ⟨_,rfl,.inr ⟨by omega,by omega,by omega,fun _ _=>trivial⟩⟩
theorem ZAv:Sz Zk4 (OkL (OkL I64)) (SmL (SmL (fun _=>True))):=by
 refine ZrF (f:=Zey) (B:=Zls) Zyu (fun xs left=>rfl) ?_ ?_
 ·intro xs k x l r a e
  rw [Zls,lt_t (ZY a),Zav a]
  simp only [cond_true,Option.bind_some]
  rw [show Zey _ l=some r from e]
  simp only [Option.bind_some]
  cases decide (r<0)<;>rfl
 ·intro xs l
  rw [Zls,lt_f];rfl
def Zih (x:Z1):Prop:=I64 x.Kind/\I64 x.Size/\(OkL (OkL I64)) x.Rows
def ZkO (x:Z1):Prop:=(SmL (SmL (fun _=>True))) x.Rows
theorem ZtM:Sz Zfg Zih ZkO:=by
 intro x left g e h1
 unfold Zfg
 obtain ⟨k0,k1,k2⟩:=g
 obtain ⟨r2,a,c2⟩:=ZAv x.Rows left k2 ω ω
 first|rw [a]|rw [show Zk4 _ _=some r2 from a]
 simp only [Option.bind_some]
 rcases c2 with rfl|⟨l2,f,s2⟩
 ·exact ⟨-1,rfl,.inl rfl⟩
 have c:decide (r2<0)=false:=by simpa using l2
 rw [c]
 simp only [cond_false]
 exact ⟨_,rfl,.inr ⟨by omega,by omega,s2⟩⟩
def ZgE (x:Zal):Prop:=OkS x.Name/\Zih x.Object/\OkS x.Key
def Zhz (x:Zal):Prop:=ZkO x.Object
theorem ZAq:Sz ZeH ZgE Zhz:=by
 intro x left o i h1
 unfold ZeH
 obtain ⟨k0,k1,k2⟩:=o
 have j:x.Name.size<=9223372036854775807:=k0
 rw [Zkx (left:=left) (n:=(x.Name.size:Int)) ω ω ω ω]
 by_cases c:left-(x.Name.size:Int)<0
 ·have:decide (left-(x.Name.size:Int)<0)=true:=by simpa using c
  rw [this];exact ⟨-1,rfl,.inl rfl⟩
 have f:decide (left-(x.Name.size:Int)<0)=false:=by simpa using c
 rw [f]
 simp only [cond_false]
 obtain ⟨a,e,c1⟩:=ZtM x.Object (left-(x.Name.size:Int)) k1 ω ω
 first|rw [e]|rw [show Zfg _ _=some a from e]
 simp only [Option.bind_some]
 rcases c1 with rfl|⟨l1,k,s1⟩
 ·exact ⟨-1,rfl,.inl rfl⟩
 have g:decide (a<0)=false:=by simpa using l1
 rw [g]
 simp only [cond_false]
 have l:x.Key.size<=9223372036854775807:=k2
 rw [Zkx (left:=a) (n:=(x.Key.size:Int)) ω ω ω ω]
 by_cases q2:a-(x.Key.size:Int)<0
 ·have:decide (a-(x.Key.size:Int)<0)=true:=by simpa using q2
  rw [this];exact ⟨-1,rfl,.inl rfl⟩
 have h:decide (a-(x.Key.size:Int)<0)=false:=by simpa using q2
 rw [h]
 simp only [cond_false]
 exact ⟨_,rfl,.inr ⟨by omega,by omega,s1⟩⟩
theorem ZDc:Sz Zkr (OkL ZgE) (SmL Zhz):=by
 refine ZrF (f:=ZeH) (B:=Zkz) ZAq (fun xs left=>rfl) ?_ ?_
 ·intro xs k x l r a e
  rw [Zkz,lt_t (ZY a),Zav a]
  simp only [cond_true,Option.bind_some]
  rw [show ZeH _ l=some r from e]
  simp only [Option.bind_some]
  cases decide (r<0)<;>rfl
 ·intro xs l
  rw [Zkz,lt_f];rfl
def Zo6 (x:Zae):Prop:=(OkL ZgE) x.Items
def Zp0 (x:Zae):Prop:=(SmL Zhz) x.Items
theorem ZHN:Sz ZlF Zo6 Zp0:=by
 intro x left j h h1
 unfold ZlF
 have k0:=j
 obtain ⟨a,c,e⟩:=ZDc x.Items left k0 ω ω
 first|rw [c]|rw [show Zkr _ _=some a from c]
 simp only [Option.bind_some]
 rcases e with rfl|⟨l0,i,f⟩
 ·exact ⟨-1,rfl,.inl rfl⟩
 have g:decide (a<0)=false:=by simpa using l0
 rw [g]
 simp only [cond_false]
 exact ⟨_,rfl,.inr ⟨by omega,by omega,f⟩⟩
theorem ZIt {x:List Int} (h:(SmL (fun _=>True)) x):ZgK x=some ((List.map (fun x=>x)) x):=by
 unfold ZgK
 have l:=h.1
 rw [ZfA ω ω]
 refine (Zm6 (c:=(fun x=>x)) (g:=fun xs=>xs) (by unfold M63;omega) ?_ ?_)
 ·intro k a xs x0 j e
  rw [Zj7,lt_t (ZY j),Zav j,Zav e]
  rfl
 ·intro xs
  rw [Zj7,lt_f];rfl
theorem Zxk {x:List (List Int)} (h:(SmL (SmL (fun _=>True))) x):Zgg x=some ((List.map (List.map (fun x=>x))) x):=by
 unfold Zgg
 have l:=h.1
 rw [ZfA ω ω]
 refine (Zm6 (c:=(List.map (fun x=>x))) (g:=fun xs=>xs) (by unfold M63;omega) ?_ ?_)
 ·intro k a xs x0 j e
  rw [ZiX,lt_t (ZY j),Zav j,Zav e]
  simp only [cond_true,Option.bind_some]
  rw [show ZgK _=_ from ZIt (h.2 a (List.mem_of_getElem? j))]
  rfl
 ·intro xs
  rw [ZiX,lt_f];rfl
def ZeT (x:Z1):Zg:=Zg.mk x.Kind x.Size ((List.map (List.map (fun x=>x))) x.Rows)
theorem Zta {x:Z1} (h:ZkO x):Zcl x=some (ZeT x):=by
 unfold Zcl
 have a:=h
 rw [show Zgg _=_ from Zxk a]
 simp only [Option.bind_some]
 rfl
def Zh4 (x:Zal):Zd:=Zd.mk x.Name (ZeT x.Object) x.Key
theorem ZCj {x:Zal} (h:Zhz x):Zf0 x=some (Zh4 x):=by
 unfold Zf0
 have h1:=h
 rw [show Zcl _=_ from Zta h1]
 simp only [Option.bind_some]
 rfl
theorem ZxB {x:List Zal} (h:(SmL Zhz) x):Zf6 x=some ((List.map Zh4) x):=by
 unfold Zf6
 have l:=h.1
 rw [ZfA ω ω]
 refine (Zm6 (c:=Zh4) (g:=fun xs=>xs) (by unfold M63;omega) ?_ ?_)
 ·intro k a xs x0 j e
  rw [Zlk,lt_t (ZY j),Zav j,Zav e]
  simp only [cond_true,Option.bind_some]
  rw [show Zf0 _=_ from ZCj (h.2 a (List.mem_of_getElem? j))]
  rfl
 ·intro xs
  rw [Zlk,lt_f];rfl
def Zhs (x:Zae):Zi:=Zi.mk ((List.map Zh4) x.Items)
theorem ZHF {x:Zae} (h:Zp0 x):Zd3 x=some (Zhs x):=by
 unfold Zd3
 have a:=h
 rw [show Zf6 _=_ from ZxB a]
 simp only [Option.bind_some]
 rfl
theorem ZFR {a b:List Int} (h:(OkL (fun _=>True)) a):IsQ (Zia a b) (a=b):=by
 unfold Zia
 refine Zdc (B:=ZkM a b) h.1 (fun k x y e g=>?_) ?_
 ·rw [ZkM,lt_t (ZY e),Zav e,Zav g]
  simp only [cond_true,Option.bind_some]
  refine Zbk (c:=x==y) (by simp) ?_
  rw [bne];cases (x==y)<;>rfl
 ·rw [ZkM,lt_f];rfl
theorem ZCF {a b:List (List Int)} (h:(OkL (OkL (fun _=>True))) a):IsQ (Zkh a b) (a=b):=by
 unfold Zkh
 refine Zdc (B:=Zkf a b) h.1 (fun k x y e j=>?_) ?_
 ·rw [Zkf,lt_t (ZY e),Zav e,Zav j]
  simp only [cond_true,Option.bind_some]
  obtain ⟨c,f,g⟩:=ZFR (a:=x) (b:=y) (h.2 x (List.mem_of_getElem? e))
  rw [show Zia _ _=_ from f]
  simp only [Option.bind_some]
  refine Zbk g ?_
  cases c<;>rfl
 ·rw [Zkf,lt_f];rfl
def ZnZ (x:Zg):Prop:=(OkL (OkL (fun _=>True))) x.Rows
theorem ZvN {a b:Zg} (h:ZnZ a):IsQ (Zhn a b) (a=b):=by
 unfold Zhn
 have f:=h
 refine q_ne (fun g=>?_) (fun c e=>c (by rw [e]))
 refine q_ne (fun i=>?_) (fun c e=>c (by rw [e]))
 refine q_sub (ZCF (a:=a.Rows) (b:=b.Rows) f) (fun j=>?_) (fun c e=>c (by rw [e]))
 refine IsQ.t ?_
 cases a;cases b;simp_all
def ZpR (x:Zd):Prop:=ZnZ x.Object
theorem ZGh {a b:Zd} (h:ZpR a):IsQ (Zh6 a b) (a=b):=by
 unfold Zh6
 have h1:=h
 refine Zq9 (fun f=>?_) (fun c e=>c (by rw [e]))
 refine q_sub (ZvN (a:=a.Object) (b:=b.Object) h1) (fun g=>?_) (fun c e=>c (by rw [e]))
 refine Zq9 (fun i=>?_) (fun c e=>c (by rw [e]))
 refine IsQ.t ?_
 cases a;cases b;simp_all
theorem ZFW {a b:List Zd} (h:(OkL ZpR) a):IsQ (Zi2 a b) (a=b):=by
 unfold Zi2
 refine Zdc (B:=ZiM a b) h.1 (fun k x y e j=>?_) ?_
 ·rw [ZiM,lt_t (ZY e),Zav e,Zav j]
  simp only [cond_true,Option.bind_some]
  obtain ⟨c,f,g⟩:=ZGh (a:=x) (b:=y) (h.2 x (List.mem_of_getElem? e))
  rw [show Zh6 _ _=_ from f]
  simp only [Option.bind_some]
  refine Zbk g ?_
  cases c<;>rfl
 ·rw [ZiM,lt_f];rfl
def Zq2 (x:Zi):Prop:=(OkL ZpR) x.Items
theorem Zuo {a b:Zi} (h:Zq2 a):IsQ (Zds a b) (a=b):=by
 unfold Zds
 have c:=h
 refine q_sub (ZFW (a:=a.Items) (b:=b.Items) c) (fun g=>?_) (fun e f=>e (by rw [f]))
 refine IsQ.t ?_
 cases a;cases b;simp_all
end Go.Proofs.YtepnljbkgjbbmaaGreatDoor
