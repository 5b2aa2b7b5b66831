import Derived.Test.YtepnljbkgjbbmaaGreatDoorPuFns
import Derived.Test.YtepnljbkgjbbmaaGreatDoorPuLib
namespace Go.Proofs.YtepnljbkgjbbmaaGreatDoor
open Go Go.Vc
set_option linter.unusedSimpArgs false
set_option linter.unusedVariables false
theorem ZFk:Sz ZdR (OkL I64) (SmL (fun _=>True)):=by
 intro xs left g a h1
 have h:=g.1
 unfold M63 at h
 unfold ZdR
 rw [Zmz a h1 ω ω]
 by_cases e:left-(xs.length:Int)<0
 ·have:decide (left-(xs.length:Int)<0)=true:=by simpa using e
  rw [this];exact ⟨-1,rfl,.inl rfl⟩
 ·have:decide (left-(xs.length:Int)<0)=false:=by simpa using e
  rw [this];exact ⟨_,rfl,.inr ⟨by omega,by omega,by omega,fun _ _=>trivial⟩⟩
theorem ZEd:Sz ZhQ (OkL (OkL I64)) (SmL (SmL (fun _=>True))):=by
 refine Ztk (f:=ZdR) (B:=ZjT) ZFk (fun xs left=>rfl) ?_ ?_
 ·intro xs k x l r a e
  rw [ZjT,lt_t (Z0 a),Zax a]
  simp only [cond_true,Option.bind_some]
  rw [show ZdR _ l=some r from e]
  simp only [Option.bind_some]
  cases decide (r<0)<;>rfl
 ·intro xs l
  rw [ZjT,lt_f];rfl
def ZjQ (x:Z4):Prop:=I64 x.Kind/\I64 x.Size/\(OkL (OkL I64)) x.Rows
def ZmE (x:Z4):Prop:=(SmL (SmL (fun _=>True))) x.Rows
theorem Zrg:Sz Zep ZjQ ZmE:=by
 intro x left g e h1
 unfold Zep
 obtain ⟨k0,k1,k2⟩:=g
 obtain ⟨r2,a,c2⟩:=ZEd x.Rows left k2 ω ω
 first|rw [a]|rw [show ZhQ _ _=some r2 from a]
 simp only [Option.bind_some]
 rcases c2 with rfl|⟨l2,f,s2⟩
 ·exact ⟨-1,rfl,.inl rfl⟩
 have c:decide (r2<0)=false:=by simpa using l2
 rw [c]
 simp only [cond_false]
 exact ⟨_,rfl,.inr ⟨by omega,by omega,s2⟩⟩
def ZhR (x:Zal):Prop:=OkS x.Name/\ZjQ x.Object/\OkS x.Key
def ZhF (x:Zal):Prop:=ZmE x.Object
theorem Zwe:Sz Zd2 ZhR ZhF:=by
 intro x left o i h1
 unfold Zd2
 obtain ⟨k0,k1,k2⟩:=o
 have j:x.Name.size<=9223372036854775807:=k0
 rw [Zmz (left:=left) (n:=(x.Name.size:Int)) ω ω ω ω]
 by_cases c:left-(x.Name.size:Int)<0
 ·have:decide (left-(x.Name.size:Int)<0)=true:=by simpa using c
  rw [this];exact ⟨-1,rfl,.inl rfl⟩
 have f:decide (left-(x.Name.size:Int)<0)=false:=by simpa using c
 rw [f]
 simp only [cond_false]
 obtain ⟨a,e,c1⟩:=Zrg x.Object (left-(x.Name.size:Int)) k1 ω ω
 first|rw [e]|rw [show Zep _ _=some a from e]
 simp only [Option.bind_some]
 rcases c1 with rfl|⟨l1,k,s1⟩
 ·exact ⟨-1,rfl,.inl rfl⟩
 have g:decide (a<0)=false:=by simpa using l1
 rw [g]
 simp only [cond_false]
 have l:x.Key.size<=9223372036854775807:=k2
 rw [Zmz (left:=a) (n:=(x.Key.size:Int)) ω ω ω ω]
 by_cases q2:a-(x.Key.size:Int)<0
 ·have:decide (a-(x.Key.size:Int)<0)=true:=by simpa using q2
  rw [this];exact ⟨-1,rfl,.inl rfl⟩
 have h:decide (a-(x.Key.size:Int)<0)=false:=by simpa using q2
 rw [h]
 simp only [cond_false]
 exact ⟨_,rfl,.inr ⟨by omega,by omega,s1⟩⟩
theorem ZCC:Sz ZiR (OkL ZhR) (SmL ZhF):=by
 refine Ztk (f:=Zd2) (B:=Zia) Zwe (fun xs left=>rfl) ?_ ?_
 ·intro xs k x l r a e
  rw [Zia,lt_t (Z0 a),Zax a]
  simp only [cond_true,Option.bind_some]
  rw [show Zd2 _ l=some r from e]
  simp only [Option.bind_some]
  cases decide (r<0)<;>rfl
 ·intro xs l
  rw [Zia,lt_f];rfl
def ZnA (x:Zag):Prop:=(OkL ZhR) x.Items
def Zo3 (x:Zag):Prop:=(SmL ZhF) x.Items
theorem ZA0:Sz Zi0 ZnA Zo3:=by
 intro x left j h h1
 unfold Zi0
 have k0:=j
 obtain ⟨a,c,e⟩:=ZCC x.Items left k0 ω ω
 first|rw [c]|rw [show ZiR _ _=some a from c]
 simp only [Option.bind_some]
 rcases e with rfl|⟨l0,i,f⟩
 ·exact ⟨-1,rfl,.inl rfl⟩
 have g:decide (a<0)=false:=by simpa using l0
 rw [g]
 simp only [cond_false]
 exact ⟨_,rfl,.inr ⟨by omega,by omega,f⟩⟩
theorem ZEx {x:List Int} (h:(SmL (fun _=>True)) x):Zge x=some ((List.map (fun x=>x)) x):=by
 unfold Zge
 have l:=h.1
 rw [Zf7 ω ω]
 refine (ZnV (c:=(fun x=>x)) (g:=fun xs=>xs) (by unfold M63;omega) ?_ ?_)
 ·intro k a xs x0 j e
  rw [ZiU,lt_t (Z0 j),Zax j,Zax e]
  rfl
 ·intro xs
  rw [ZiU,lt_f];rfl
theorem ZCZ {x:List (List Int)} (h:(SmL (SmL (fun _=>True))) x):Zha x=some ((List.map (List.map (fun x=>x))) x):=by
 unfold Zha
 have l:=h.1
 rw [Zf7 ω ω]
 refine (ZnV (c:=(List.map (fun x=>x))) (g:=fun xs=>xs) (by unfold M63;omega) ?_ ?_)
 ·intro k a xs x0 j e
  rw [ZhB,lt_t (Z0 j),Zax j,Zax e]
  simp only [cond_true,Option.bind_some]
  rw [show Zge _=_ from ZEx (h.2 a (List.mem_of_getElem? j))]
  rfl
 ·intro xs
  rw [ZhB,lt_f];rfl
def Zg5 (x:Z4):Zg:=Zg.mk x.Kind x.Size ((List.map (List.map (fun x=>x))) x.Rows)
theorem ZuY {x:Z4} (h:ZmE x):ZbR x=some (Zg5 x):=by
 unfold ZbR
 have a:=h
 rw [show Zha _=_ from ZCZ a]
 simp only [Option.bind_some]
 rfl
def ZhX (x:Zal):Ze:=Ze.mk x.Name (Zg5 x.Object) x.Key
theorem Zze {x:Zal} (h:ZhF x):ZgB x=some (ZhX x):=by
 unfold ZgB
 have h1:=h
 rw [show ZbR _=_ from ZuY h1]
 simp only [Option.bind_some]
 rfl
theorem Zxx {x:List Zal} (h:(SmL ZhF) x):ZfA x=some ((List.map ZhX) x):=by
 unfold ZfA
 have l:=h.1
 rw [Zf7 ω ω]
 refine (ZnV (c:=ZhX) (g:=fun xs=>xs) (by unfold M63;omega) ?_ ?_)
 ·intro k a xs x0 j e
  rw [Zhz,lt_t (Z0 j),Zax j,Zax e]
  simp only [cond_true,Option.bind_some]
  rw [show ZgB _=_ from Zze (h.2 a (List.mem_of_getElem? j))]
  rfl
 ·intro xs
  rw [Zhz,lt_f];rfl
def Zjs (x:Zag):ZL:=ZL.mk ((List.map ZhX) x.Items)
theorem ZCm {x:Zag} (h:Zo3 x):ZcZ x=some (Zjs x):=by
 unfold ZcZ
 have a:=h
 rw [show ZfA _=_ from Zxx a]
 simp only [Option.bind_some]
 rfl
theorem ZA8 {a b:List Int} (h:(OkL (fun _=>True)) a):IsQ (ZfC a b) (a=b):=by
 unfold ZfC
 refine ZdX (B:=Zjb a b) h.1 (fun k x y e g=>?_) ?_
 ·rw [Zjb,lt_t (Z0 e),Zax e,Zax g]
  simp only [cond_true,Option.bind_some]
  refine Zbx (c:=x==y) (by simp) ?_
  rw [bne];cases (x==y)<;>rfl
 ·rw [Zjb,lt_f];rfl
theorem ZDs {a b:List (List Int)} (h:(OkL (OkL (fun _=>True))) a):IsQ (ZhW a b) (a=b):=by
 unfold ZhW
 refine ZdX (B:=Zjw a b) h.1 (fun k x y e j=>?_) ?_
 ·rw [Zjw,lt_t (Z0 e),Zax e,Zax j]
  simp only [cond_true,Option.bind_some]
  obtain ⟨c,f,g⟩:=ZA8 (a:=x) (b:=y) (h.2 x (List.mem_of_getElem? e))
  rw [show ZfC _ _=_ from f]
  simp only [Option.bind_some]
  refine Zbx g ?_
  cases c<;>rfl
 ·rw [Zjw,lt_f];rfl
def Zoe (x:Zg):Prop:=(OkL (OkL (fun _=>True))) x.Rows
theorem Zql {a b:Zg} (h:Zoe a):IsQ (Zhe a b) (a=b):=by
 unfold Zhe
 have f:=h
 refine q_ne (fun g=>?_) (fun c e=>c (by rw [e]))
 refine q_ne (fun i=>?_) (fun c e=>c (by rw [e]))
 refine q_sub (ZDs (a:=a.Rows) (b:=b.Rows) f) (fun j=>?_) (fun c e=>c (by rw [e]))
 refine IsQ.t ?_
 cases a;cases b;simp_all
def Zlq (x:Ze):Prop:=Zoe x.Object
theorem ZsD {a b:Ze} (h:Zlq a):IsQ (Zci a b) (a=b):=by
 unfold Zci
 have h1:=h
 refine ZrG (fun f=>?_) (fun c e=>c (by rw [e]))
 refine q_sub (Zql (a:=a.Object) (b:=b.Object) h1) (fun g=>?_) (fun c e=>c (by rw [e]))
 refine ZrG (fun i=>?_) (fun c e=>c (by rw [e]))
 refine IsQ.t ?_
 cases a;cases b;simp_all
theorem ZAC {a b:List Ze} (h:(OkL Zlq) a):IsQ (ZhC a b) (a=b):=by
 unfold ZhC
 refine ZdX (B:=ZjI a b) h.1 (fun k x y e j=>?_) ?_
 ·rw [ZjI,lt_t (Z0 e),Zax e,Zax j]
  simp only [cond_true,Option.bind_some]
  obtain ⟨c,f,g⟩:=ZsD (a:=x) (b:=y) (h.2 x (List.mem_of_getElem? e))
  rw [show Zci _ _=_ from f]
  simp only [Option.bind_some]
  refine Zbx g ?_
  cases c<;>rfl
 ·rw [ZjI,lt_f];rfl
def ZrR (x:ZL):Prop:=(OkL Zlq) x.Items
theorem ZHn {a b:ZL} (h:ZrR a):IsQ (Zji a b) (a=b):=by
 unfold Zji
 have c:=h
 refine q_sub (ZAC (a:=a.Items) (b:=b.Items) c) (fun g=>?_) (fun e f=>e (by rw [f]))
 refine IsQ.t ?_
 cases a;cases b;simp_all
end Go.Proofs.YtepnljbkgjbbmaaGreatDoor
