import Derived.Test.YtahnjnfpjcfklaaGreatDoorPuJa
open Go.IntKind renaming i64->ε
namespace Go.Vc
set_option linter.unusedVariables false
set_option linter.unusedSimpArgs false
open Go
set_option maxRecDepth 4000
class Frc (α:Type) where
 frc:{β:Type}->α->(α->β)->β
 ok:∀ {β:Type} (a:α) (k:α->β),frc a k=k a
noncomputable instance:Frc Nat where
 frc n k:=Nat.rec (k 0) (fun m _=>k (Nat.succ m)) n
 ok n k:=by cases n<;>rfl
noncomputable instance:Frc Int where
 frc i k:=Int.rec (fun n=>Frc.frc n fun n=>k (.ofNat n)) (fun n=>Frc.frc n fun n=>k (.negSucc n)) i
 ok i k:=by cases i<;>exact Frc.ok _ _
noncomputable instance:Frc Bool where
 frc b k:=Bool.rec (k false) (k true) b
 ok b k:=by cases b<;>rfl
noncomputable instance:Frc Unit where
 frc _ k:=k ()
 ok _ _:=rfl
noncomputable instance {α β:Type} [Frc α] [Frc β]:Frc (α×β) where
 frc p k:=Prod.rec (fun a b=>Frc.frc a fun a=>Frc.frc b fun b=>k (a,b)) p
 ok p k:=by cases p;show Frc.frc _ _=_;rw [Frc.ok,Frc.ok]
noncomputable instance {α β:Type} [Frc α] [Frc β]:Frc (α ⊕ β) where
 frc p k:=Sum.rec (fun a=>Frc.frc a fun a=>k (.inl a)) (fun b=>Frc.frc b fun b=>k (.inr b)) p
 ok p k:=by cases p<;>exact Frc.ok _ _
noncomputable def frcL {α e:Type} [Frc α] (l:List α):(List α->e)->e:=List.rec (fun k=>k []) (fun a _ h k=>Frc.frc a fun g=>h fun l'=>k (g::l')) l
theorem Zum {α e:Type} [Frc α]:∀ (l:List α) (k:List α->e),frcL l k=k l
 | [],_=>rfl
 | a::l,k=>by
  show Frc.frc a _=_;rw [Frc.ok];exact Zum l _
noncomputable instance {α:Type} [Frc α]:Frc (List α):=⟨frcL,Zum⟩
def Le {α:Type} (a b:Option α):Prop:=∀ r,a=some r->b=some r
theorem Le.rfl {α:Type} {a:Option α}:Le a a:=fun _ h=>h
noncomputable def fbind {α e:Type} [Frc α] (x:Option α) (f:α->Option e):Option e:=Option.rec none (fun a=>Frc.frc a f) x
noncomputable def fmap {α e:Type} (x:Option α) (f:α->e):Option e:=Option.rec none (fun a=>some (f a)) x
noncomputable def lpF {e ρ:Type} [Frc e] (n:Nat) (B:e->Option (e ⊕ ρ)):e->Option ρ:=
 Nat.rec (fun _=>none) (fun _ g s=>Option.rec none (fun a=>Sum.rec (fun s'=>Frc.frc s' g) (fun r=>some r) a) (B s)) n
theorem Zn {α j:Type} [Frc α] {x y:Option α} {f g:α->Option j} (h:Le x y) (k:∀ a,Le (f a) (g a)):Le (fbind x f) (y.bind g):=by
 intro r e;cases x with
 | none=>cases e
 | some a=>
  rw [h a rfl];have:Frc.frc a f=some r:=e;rw [Frc.ok] at this;exact k a r this
theorem Zr {α g:Type} {x y:Option α} {f:α->g} (h:Le x y):Le (fmap x f) (y.map f):=by
 intro r e;cases x with
 | none=>cases e
 | some a=>rw [h a rfl];exact e
theorem le_if {α:Type} {c:Bool} {a b e g:Option α} (h:Le a e) (k:Le b g):Le (bif c then a else b) (bif c then e else g):=by
 cases c
 ·exact k
 ·exact h
theorem Zq {j ρ:Type} [Frc j] {n:Nat} {B C:j->Option (j ⊕ ρ)} {s:j} (h:∀ s,Le (B s) (C s)):Le (lpF n B s) (loop C s):=by
 intro r g;rw [Zho];refine ⟨n,?_⟩;induction n generalizing s with
 | zero=>cases g
 | succ n l=>
  have e:lpF (n+1) B s=Option.rec none (fun a=>Sum.rec (fun s'=>Frc.frc s' (lpF n B)) (fun r=>some r) a) (B s):=Eq.refl _;rw [e] at g;cases f:B s with
  | none=>rw [f] at g;cases g
  | some a=>
   rw [f] at g;unfold loopN;rw [h s a f];cases a with
   | inl s'=>
    have k:Frc.frc s' (lpF n B)=some r:=g;rw [Frc.ok] at k;exact l k
   | inr r'=>exact g
noncomputable def cwP (n:Nat):Int:=bif Nat.ble n 9223372036854775807 then .ofNat n else ε.wrap (.ofNat n)
noncomputable def cwN (n:Nat):Int:=bif Nat.ble n 9223372036854775807 then .negSucc n else ε.wrap (.negSucc n)
noncomputable def cw (x:Int):Int:=Int.rec cwP cwN x
theorem ZFP (n:Nat):ε.wrap (.ofNat n)=cwP n:=by
 unfold cwP;generalize e:(9223372036854775807:Nat)=M;cases h:Nat.ble n M with
 | false=>rw [cond_false]
 | true=>
  have a:n<=M:=Nat.le_of_ble_eq_true h;have h1:(Int.ofNat n)=(n:Int):=Eq.refl _;rw [cond_true];exact Zbd (by rw [h1];omega) (by rw [h1];omega)
theorem ZD0 (n:Nat):ε.wrap (.negSucc n)=cwN n:=by
 unfold cwN;generalize e:(9223372036854775807:Nat)=M;cases h:Nat.ble n M with
 | false=>rw [cond_false]
 | true=>
  have a:n<=M:=Nat.le_of_ble_eq_true h;rw [cond_true];exact Zbd ω ω
theorem cw_ok (x:Int):ε.wrap x=cw x:=by
 cases x with
 | ofNat n=>exact ZFP n
 | negSucc n=>exact ZD0 n
noncomputable def lti (a b:Int):Bool:=Int.rec (fun m=>Int.rec (fun n=>Nat.ble (Nat.succ m) n) (fun _=>false) b) (fun m=>Int.rec (fun _=>true) (fun n=>Nat.ble (Nat.succ n) m) b) a
theorem Zm (a b:Int):decide (a<b)=lti a b:=by
 cases a<;>cases b<;>rename_i m n<;>simp only [lti]
 all_goals (rw [Bool.eq_iff_iff];simp only [decide_eq_true_eq,Nat.ble_eq,Bool.false_eq_true,Int.ofNat_eq_natCast,iff_true,iff_false];try omega)
noncomputable def lei (a b:Int):Bool:=!lti b a
theorem Zk (a b:Int):decide (a<=b)=lei a b:=by
 unfold lei;rw [<-Zm];rw [Bool.eq_iff_iff];simp
noncomputable def eqi (a b:Int):Bool:=Int.rec (fun m=>Int.rec (fun n=>Nat.beq m n) (fun _=>false) b) (fun m=>Int.rec (fun _=>false) (fun n=>Nat.beq m n) b) a
theorem Zl (a b:Int):(a==b)=eqi a b:=by
 cases a<;>cases b<;>rename_i m n<;>simp only [eqi]<;>rw [Bool.eq_iff_iff]<;>simp<;>omega
theorem Zv (a b:Int):(a !=b)=!(a==b):=rfl
noncomputable def nth {α:Type} (xs:List α):Nat->Option α:=List.rec (fun _=>none) (fun a _ e n=>Nat.rec (some a) (fun m _=>e m) n) xs
theorem Zr1 {α:Type}:∀ (xs:List α) (n:Nat),nth xs n=xs[n]?
 | [],n=>by simp [nth]
 | a::xs,0=>rfl
 | a::xs,n+1=>by
  show nth xs n=_;rw [Zr1 xs n];simp
noncomputable def cIdx {α:Type} (xs:List α) (i:Int):Option α:=Int.rec (fun n=>nth xs n) (fun _=>none) i
theorem Zt {α:Type} (xs:List α) (i:Int):gIdx xs i=cIdx xs i:=by
 unfold gIdx;cases i with
 | ofNat n=>rw [if_pos (by simp)];exact (Zr1 xs n).symm
 | negSucc n=>rw [if_neg ω];rfl
noncomputable def cNz (b:Int):Option Unit:=bif eqi b 0 then none else some ()
theorem Zo (b:Int):gNz b=cNz b:=by
 unfold gNz cNz;rw [<-Zl];by_cases h:b=0
 ·simp [h]
 ·have:(b==0)=false:=by simpa using h
  rw [if_pos h,this];rfl
noncomputable def len {α:Type} (xs:List α):Nat:=List.rec 0 (fun _ _ n=>Nat.succ n) xs
theorem Zox {α:Type}:∀ xs:List α,len xs=xs.length
 | []=>rfl
 | _::xs=>congrArg Nat.succ (Zox xs)
noncomputable def cApp {α:Type} (b:Nat) (xs e:List α):Option (List α):=bif Nat.ble (Nat.add (len xs) (len e)) 100000&&Nat.ble b 64 then some (List.rec e (fun a _ r=>a::r) xs) else none
theorem recApp {α:Type} (e:List α):∀ xs:List α,(List.rec e (fun a _ r=>a::r) xs:List α)=xs++e
 | []=>rfl
 | a::xs=>congrArg (a::·) (recApp e xs)
theorem Zu {α:Type} (b:Nat) (xs g:List α):Le (cApp b xs g) (gApp b xs g):=by
 intro r h;unfold cApp at h;cases a:(Nat.ble (Nat.add (len xs) (len g)) 100000&&Nat.ble b 64) with
 | false=>rw [a] at h;cases h
 | true=>
  rw [a] at h;simp only [Bool.and_eq_true,Nat.ble_eq,Zox] at a;obtain ⟨h1,e⟩:=a;have j:xs.length+g.length<=100000:=h1;unfold gApp;rw [if_pos]
  ·rw [recApp] at h;exact h
  ·constructor
   ·have:=Nat.mul_le_mul j e;omega
   ·omega
noncomputable def cMake {α:Type} (b:Nat) (z:α) (n c:Int):Option (List α):=bif lei 0 n&&lei n c&&lei c 100000&&Nat.ble b 64 then some (Nat.rec [] (fun _ r=>z::r) n.toNat) else none
theorem recRep {α:Type} (z:α):∀ n:Nat,(Nat.rec [] (fun _ r=>z::r) n:List α)=List.replicate n z
 | 0=>rfl
 | n+1=>congrArg (z::·) (recRep z n)
theorem Zs {α:Type} (b:Nat) (z:α) (n c:Int):Le (cMake b z n c) (gMake b z n c):=by
 intro r h;unfold cMake at h;cases a:(lei 0 n&&lei n c&&lei c 100000&&Nat.ble b 64) with
 | false=>rw [a] at h;cases h
 | true=>
  rw [a] at h;simp only [Bool.and_eq_true,Nat.ble_eq,<-Zk,decide_eq_true_eq] at a;obtain ⟨⟨⟨h1,e⟩,f⟩,g⟩:=a;unfold gMake;rw [if_pos]
  ·rw [recRep] at h;exact h
  ·refine ⟨h1,e,?_,by omega⟩;have:c*(b:Int)<=100000*64:=Int.mul_le_mul f ω ω ω;omega
end Go.Vc
