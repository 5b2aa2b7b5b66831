import Derived.Test.YtcneolcmjjlmnaaGreatDoorPuJa
open Nat renaming succ->XY,ble->JJ,le_of_ble_eq_true->XO,ble_eq->XH,beq->Jv,add->WF
open Bool renaming eq_iff_iff->Yx,and_eq_true->Jz
open Option renaming some->Jg,none->Jh
open Go.IntKind renaming i64->Y
namespace Go.Vc
set_option linter.unusedVariables false
set_option linter.unusedSimpArgs false
open Go
set_option maxRecDepth 4000
class Frc (α:Type) where
 frc:{β:Type}->α->(α->β)->β
 ok:∀{β:Type} (a:α) (k:α->β),frc a k=k a
noncomputable instance:Frc Nat where
 frc n k:=Nat.rec (k 0) (λm _=>k (XY m)) n
 ok n k:=by cases n<;>rfl
noncomputable instance:Frc Int where
 frc i k:=Int.rec (λn=>Frc.frc n λn=>k (.ofNat n)) (λn=>Frc.frc n λn=>k (.negSucc n)) i
 ok i k:=by cases i<;>exact Frc.ok _ _
noncomputable instance:Frc Bool where
 frc b k:=Bool.rec (k false) (k true) b
 ok b k:=by cases b<;>rfl
noncomputable instance:Frc Unit where
 frc _ k:=k ()
 ok _ _:=rfl
noncomputable instance {α β:Type} [Frc α] [Frc β]:Frc (α×β) where
 frc p k:=Prod.rec (λa b=>Frc.frc a λa=>Frc.frc b λb=>k (a,b)) p
 ok p k:=by cases p;show Frc.frc _ _=_;rw [Frc.ok,Frc.ok]
noncomputable instance {α β:Type} [Frc α] [Frc β]:Frc (α ⊕ β) where
 frc p k:=Sum.rec (λa=>Frc.frc a λa=>k (.inl a)) (λb=>Frc.frc b λb=>k (.inr b)) p
 ok p k:=by cases p<;>exact Frc.ok _ _
noncomputable def frcL {α e:Type} [Frc α] (l:List α):(List α->e)->e:=List.rec (λk=>k []) (λa _ h k=>Frc.frc a λg=>h λl'=>k (g::l')) l
theorem Zuf {α e:Type} [Frc α]:∀(l:List α) (k:List α->e),frcL l k=k l
 | [],_=>rfl
 | a::l,k=>by
  show Frc.frc a _=_;rw [Frc.ok];exact Zuf l _
noncomputable instance {α:Type} [Frc α]:Frc (List α):=⟨frcL,Zuf⟩
def Le {α:Type} (a b:Jm α):Prop:=∀r,a=Jg r->b=Jg r
theorem Le.rfl {α:Type} {a:Jm α}:Le a a:=λ_ h=>h
noncomputable def fbind {α e:Type} [Frc α] (x:Jm α) (f:α->Jm e):Jm e:=Option.rec Jh (λa=>Frc.frc a f) x
noncomputable def fmap {α e:Type} (x:Jm α) (f:α->e):Jm e:=Option.rec Jh (λa=>Jg (f a)) x
noncomputable def lpF {σ ρ:Type} [Frc σ] (n:Nat) (B:σ->Jm (σ ⊕ ρ)):σ->Jm ρ:=
 Nat.rec (λ_=>Jh) (λ_ e s=>Option.rec Jh (λa=>Sum.rec (λs'=>Frc.frc s' e) (λr=>Jg r) a) (B s)) n
theorem Zp {α j:Type} [Frc α] {x y:Jm α} {f g:α->Jm j} (h:Le x y) (k:∀a,Le (f a) (g a)):Le (fbind x f) (y.bind g):=by
 intro r e;cases x with
 | none=>cases e
 | some a=>
  rw [h a rfl];have:Frc.frc a f=Jg r:=e;rw [Frc.ok] at this;exact k a r this
theorem Zs {α g:Type} {x y:Jm α} {f:α->g} (h:Le x y):Le (fmap x f) (y.map f):=by
 intro r e;cases x with
 | none=>cases e
 | some a=>rw [h a rfl];exact e
theorem le_if {α:Type} {c:Bool} {a b g e:Jm α} (h:Le a g) (k:Le b e):Le (bif c then a else b) (bif c then g else e):=by
 cases c
 .exact k
 .exact h
theorem Zx {σ ρ:Type} [Frc σ] {n:Nat} {B C:σ->Jm (σ ⊕ ρ)} {s:σ} (h:∀s,Le (B s) (C s)):Le (lpF n B s) (loop C s):=by
 intro r g;rw [Zhx];refine ⟨n,?_⟩;induction n generalizing s with
 | zero=>cases g
 | succ n k=>
  have e:lpF (n+1) B s=Option.rec Jh (λa=>Sum.rec (λs'=>Frc.frc s' (lpF n B)) (λr=>Jg r) a) (B s):=Eq.refl _;rw [e] at g;cases f:B s with
  | none=>rw [f] at g;cases g
  | some a=>
   rw [f] at g;unfold loopN;rw [h s a f];cases a with
   | inl s'=>
    have j:Frc.frc s' (lpF n B)=Jg r:=g;rw [Frc.ok] at j;exact k j
   | inr r'=>exact g
noncomputable def cwP (n:Nat):Int:=bif JJ n 9223372036854775807 then .ofNat n else Y.wrap (.ofNat n)
noncomputable def cwN (n:Nat):Int:=bif JJ n 9223372036854775807 then .negSucc n else Y.wrap (.negSucc n)
noncomputable def cw (x:Int):Int:=Int.rec cwP cwN x
theorem ZN1 (n:Nat):Y.wrap (.ofNat n)=cwP n:=by
 unfold cwP;generalize e:(9223372036854775807:Nat)=M;cases h:JJ n M with
 | false=>rw [cond_false]
 | true=>
  have a:n<=M:=XO h;have h1:(Int.ofNat n)=(n:Int):=Eq.refl _;rw [cond_true];exact Zap (by rw [h1];omega) (by rw [h1];omega)
theorem ZOZ (n:Nat):Y.wrap (.negSucc n)=cwN n:=by
 unfold cwN;generalize e:(9223372036854775807:Nat)=M;cases h:JJ n M with
 | false=>rw [cond_false]
 | true=>
  have a:n<=M:=XO h;rw [cond_true];exact Zap Z Z
theorem cw_ok (x:Int):Y.wrap x=cw x:=by
 cases x with
 | ofNat n=>exact ZN1 n
 | negSucc n=>exact ZOZ n
noncomputable def lti (a b:Int):Bool:=Int.rec (λm=>Int.rec (λn=>JJ (XY m) n) (λ_=>false) b) (λm=>Int.rec (λ_=>true) (λn=>JJ (XY n) m) b) a
theorem Zo (a b:Int):decide (a<b)=lti a b:=by
 cases a<;>cases b<;>rename_i m n<;>simp only [lti]
 all_goals (rw [Yx];simp only [decide_eq_true_eq,XH,Bool.false_eq_true,Int.ofNat_eq_natCast,iff_true,iff_false];try omega)
noncomputable def lei (a b:Int):Bool:=!lti b a
theorem Zm (a b:Int):decide (a<=b)=lei a b:=by
 unfold lei;rw [<-Zo];rw [Yx];simp
noncomputable def eqi (a b:Int):Bool:=Int.rec (λm=>Int.rec (λn=>Jv m n) (λ_=>false) b) (λm=>Int.rec (λ_=>false) (λn=>Jv m n) b) a
theorem Zn (a b:Int):(a==b)=eqi a b:=by
 cases a<;>cases b<;>rename_i m n<;>simp only [eqi]<;>rw [Yx]<;>simp<;>omega
theorem Zr (a b:Int):(a !=b)=!(a==b):=rfl
noncomputable def nth {α:Type} (xs:List α):Nat->Jm α:=List.rec (λ_=>Jh) (λa _ e n=>Nat.rec (Jg a) (λm _=>e m) n) xs
theorem ZwA {α:Type}:∀(xs:List α) (n:Nat),nth xs n=xs[n]?
 | [],n=>by simp [nth]
 | a::xs,0=>rfl
 | a::xs,n+1=>by
  show nth xs n=_;rw [ZwA xs n];simp
noncomputable def cIdx {α:Type} (xs:List α) (i:Int):Jm α:=Int.rec (λn=>nth xs n) (λ_=>Jh) i
theorem Zq {α:Type} (xs:List α) (i:Int):gIdx xs i=cIdx xs i:=by
 unfold gIdx;cases i with
 | ofNat n=>rw [if_pos (by simp)];exact (ZwA xs n).symm
 | negSucc n=>rw [if_neg Z];rfl
noncomputable def cNz (b:Int):Jm Unit:=bif eqi b 0 then Jh else Jg ()
theorem Zt (b:Int):gNz b=cNz b:=by
 unfold gNz cNz;rw [<-Zn];by_cases h:b=0
 .simp [h]
 .have:(b==0)=false:=by simpa using h
  rw [if_pos h,this];rfl
noncomputable def len {α:Type} (xs:List α):Nat:=List.rec 0 (λ_ _ n=>XY n) xs
theorem Zo7 {α:Type}:∀xs:List α,len xs=xs.length
 | []=>rfl
 | _::xs=>congrArg XY (Zo7 xs)
noncomputable def cApp {α:Type} (b:Nat) (xs e:List α):Jm (List α):=bif JJ (WF (len xs) (len e)) 100000&&JJ b 64 then Jg (List.rec e (λa _ r=>a::r) xs) else Jh
theorem recApp {α:Type} (e:List α):∀xs:List α,(List.rec e (λa _ r=>a::r) xs:List α)=xs++e
 | []=>rfl
 | a::xs=>congrArg (a::·) (recApp e xs)
theorem Zw {α:Type} (b:Nat) (xs g:List α):Le (cApp b xs g) (gApp b xs g):=by
 intro r h;unfold cApp at h;cases a:(JJ (WF (len xs) (len g)) 100000&&JJ b 64) with
 | false=>rw [a] at h;cases h
 | true=>
  rw [a] at h;simp only [Jz,XH,Zo7] at a;obtain ⟨h1,e⟩:=a;have j:xs.length+g.length<=100000:=h1;unfold gApp;rw [if_pos]
  .rw [recApp] at h;exact h
  .constructor
   .have:=Nat.mul_le_mul j e;omega
   .omega
noncomputable def cMake {α:Type} (b:Nat) (z:α) (n c:Int):Jm (List α):=bif lei 0 n&&lei n c&&lei c 100000&&JJ b 64 then Jg (Nat.rec [] (λ_ r=>z::r) n.toNat) else Jh
theorem recRep {α:Type} (z:α):∀n:Nat,(Nat.rec [] (λ_ r=>z::r) n:List α)=List.replicate n z
 | 0=>rfl
 | n+1=>congrArg (z::·) (recRep z n)
theorem Zv {α:Type} (b:Nat) (z:α) (n c:Int):Le (cMake b z n c) (gMake b z n c):=by
 intro r h;unfold cMake at h;cases a:(lei 0 n&&lei n c&&lei c 100000&&JJ b 64) with
 | false=>rw [a] at h;cases h
 | true=>
  rw [a] at h;simp only [Jz,XH,<-Zm,decide_eq_true_eq] at a;obtain ⟨⟨⟨h1,e⟩,f⟩,g⟩:=a;unfold gMake;rw [if_pos]
  .rw [recRep] at h;exact h
  .refine ⟨h1,e,?_,by omega⟩;have:c*(b:Int)<=100000*64:=Int.mul_le_mul f Z Z Z;omega
end Go.Vc
