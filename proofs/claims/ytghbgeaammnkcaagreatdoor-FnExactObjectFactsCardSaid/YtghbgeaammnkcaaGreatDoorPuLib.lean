import Derived.Test.YtghbgeaammnkcaaGreatDoorPuBase
import Derived.Test.YtghbgeaammnkcaaGreatDoorVcLib
namespace Go.Vc
set_option linter.unusedVariables false
set_option linter.unusedSimpArgs false
open Go
def M63:Nat:=9223372036854775807
theorem wrapN {k n:Nat} (h:k<n) (a:n≤M63):IntKind.i64.wrap ((k:Int)+1)=((k+1:Nat):Int):=by
 unfold M63 at a
 rw [Za4 (by omega) (by omega)];omega
theorem Z6 {α:Type} {xs:List α} {k:Nat} {x:α} (h:xs[k]?=some x):k<xs.length:=by
 rcases Nat.lt_or_ge k xs.length with h'|h'
 ·exact h'
 ·rw [List.getElem?_eq_none h'] at h;cases h
theorem Zbo {α:Type} {xs:List α} {k:Nat} (h:k<xs.length):∃ x,xs[k]?=some x:=⟨xs[k],by simp [h]⟩
theorem Za5 {α:Type} {xs:List α} {k:Nat} {x:α} (h:xs[k]?=some x):gIdx xs (k:Int)=some x:=by
 unfold gIdx;rw [if_pos (by omega),Int.toNat_natCast,h]
theorem lt_t {α:Type} {xs:List α} {k:Nat} (h:k<xs.length):decide ((k:Int)<(xs.length:Int))=true:=by simpa using h
theorem lt_f {α:Type} {xs:List α}:decide ((xs.length:Int)<(xs.length:Int))=false:=by simp
theorem ZAJ (x y:ByteArray):(x.toList==y.toList)=true↔x=y:=by
 rw [ByteArray.toList_eq,ByteArray.toList_eq]
 constructor
 ·intro h
  have h':x.data.toList=y.data.toList:=by simpa using h
  exact WideShapes.bytes_inj h'
 ·rintro rfl;simp
def IsQ (o:Option Bool) (p:Prop):Prop:=∃ c,o=some c∧(c=true↔p)
theorem IsQ.t {p:Prop} (h:p):IsQ (some true) p:=⟨true,rfl,by simp [h]⟩
theorem IsQ.f {p:Prop} (h:¬ p):IsQ (some false) p:=⟨false,rfl,by simp [h]⟩
theorem IsQ.eq {o:Option Bool} {p:Prop} (h:IsQ o p) (hp:p):o=some true:=by
 obtain ⟨c,a,b⟩:=h;rw [a,b.2 hp]
theorem IsQ.ne {o:Option Bool} {p:Prop} (h:IsQ o p) (hp:¬ p):o=some false:=by
 obtain ⟨c,a,b⟩:=h
 cases c with
 | false=>exact a
 | true=>exact absurd (b.1 rfl) hp
theorem IsQ.congr {o:Option Bool} {p q:Prop} (h:IsQ o p) (hpq:p↔q):IsQ o q:=by
 obtain ⟨c,a,b⟩:=h;exact ⟨c,a,b.trans hpq⟩
theorem IsQ.bind_and {o:Option Bool} {k:Option Bool} {p q:Prop} (h:IsQ o p) (hk:p→IsQ k q):IsQ (o.bind fun r=>bif r then k else some false) (p∧q):=by
 obtain ⟨c,rfl,a⟩:=h
 cases c with
 | false=>exact ⟨false,rfl,by simp;intro hp;exact absurd (a.2 hp) (by simp)⟩
 | true=>
  obtain ⟨d,b,e⟩:=hk (a.1 rfl)
  exact ⟨d,b,by rw [e];exact ⟨fun x=>⟨a.1 rfl,x⟩,fun x=>x.2⟩⟩
theorem IsQ.bind_id {o:Option Bool} {p:Prop} (h:IsQ o p):IsQ (o.bind fun r=>some r) p:=by
 obtain ⟨c,rfl,a⟩:=h;exact ⟨c,rfl,a⟩
theorem q_ne {x y:Int} {o:Option Bool} {q:Prop} (a:x=y→IsQ o q) (b:x≠y→¬ q):IsQ (bif x !=y then some false else o) q:=by
 by_cases h:x=y
 ·subst h;have:(x !=x)=false:=by simp
  rw [this];exact a rfl
 ·have:(x !=y)=true:=by simpa using h
  rw [this];exact IsQ.f (b h)
theorem q_sub {a:Option Bool} {o:Option Bool} {p q:Prop} (hE:IsQ a p) (b:p→IsQ o q) (c:¬ p→¬ q):IsQ (a.bind fun r=>bif !r then some false else o) q:=by
 by_cases h:p
 ·rw [hE.eq h];exact b h
 ·rw [hE.ne h];exact IsQ.f (c h)
def Step {ρ:Type} (o:Option (Int ⊕ ρ)) (k:Nat) (f:ρ) (p:Prop):Prop:=∃ c:Bool,(c=true↔p)∧o=some (bif c then .inl (IntKind.i64.wrap ((k:Int)+1)) else .inr f)
theorem ZBN {α ρ:Type} {xs ys:List α} {B:Int→Option (Int ⊕ ρ)} {t f:ρ} (hl:xs.length=ys.length) (hN:xs.length≤M63)
  (hs:∀ (k:Nat) x y,xs[k]?=some x→ys[k]?=some y→Step (B (k:Int)) k f (x=y)) (he:B (xs.length:Int)=some (.inr t)):∃ c:Bool,loop B 0=some (bif c then t else f)∧(c=true↔xs=ys):=by
 have key:∀ (d k:Nat),k+d=xs.length→(∀ j,j<k→xs[j]?=ys[j]?)→∃ c:Bool,loop B (k:Int)=some (bif c then t else f)∧(c=true↔xs=ys):=by
  intro d
  induction d with
  | zero=>
   intro k hk ha
   obtain rfl:k=xs.length:=by omega
   have hxy:xs=ys:=List.ext_getElem? fun j=>by
    by_cases hj:j<xs.length
    ·exact ha j hj
    ·rw [List.getElem?_eq_none (by omega),List.getElem?_eq_none (by omega)]
   exact ⟨true,Zc he,by simp [hxy]⟩
  | succ d ih=>
   intro k hk ha
   obtain ⟨x,a⟩:=Zbo (xs:=xs) (k:=k) (by omega)
   obtain ⟨y,hy⟩:=Zbo (xs:=ys) (k:=k) (by omega)
   obtain ⟨c,b,hB⟩:=hs k x y a hy
   cases c with
   | false=>
    refine ⟨false,Zc hB,by simp;intro e;subst e;rw [a] at hy;cases hy;exact absurd (b.2 rfl) (by simp)⟩
   | true=>
    have hxy:=b.1 rfl
    subst hxy
    have hB':B (k:Int)=some (.inl ((k+1:Nat):Int)):=by rw [hB,←wrapN (n:=xs.length) (by omega) hN];rfl
    rw [ZL hB']
    refine ih (k+1) (by omega) fun j hj=>?_
    by_cases hjk:j=k
    ·subst hjk;rw [a,hy]
    ·exact ha j (by omega)
 exact key xs.length 0 (by omega) fun j hj=>by omega
theorem ZdG {α:Type} {xs ys:List α} {B:Int→Option (Int ⊕ Bool)} (hN:xs.length≤M63)
  (hs:∀ (k:Nat) x y,xs[k]?=some x→ys[k]?=some y→Step (B (k:Int)) k false (x=y)) (he:B (xs.length:Int)=some (.inr true)):
  IsQ (bif ((xs.length:Int):Int) !=(ys.length:Int) then some false else loop B 0) (xs=ys):=by
 refine q_ne (fun h=>?_) fun h e=>h (by rw [e])
 obtain ⟨c,a,b⟩:=ZBN (t:=true) (f:=false) (by omega) hN hs he
 refine ⟨c,?_,b⟩
 rw [a];cases c<;>rfl
theorem Zbr {ρ:Type} {o:Option (Int ⊕ ρ)} {k:Nat} {f:ρ} {p:Prop} {c:Bool} (a:c=true↔p) (h:o=some (bif c then .inl (IntKind.i64.wrap ((k:Int)+1)) else .inr f)):Step o k f p:=⟨c,a,h⟩
theorem Zsm {α β ρ:Type} {as:List α} {z:β} {c:α→β} {B:Int×List β→Option ((Int×List β) ⊕ ρ)} {g:List β→ρ} (hN:as.length≤M63)
  (hs:∀ (k:Nat) a (xs:List β) b,as[k]?=some a→xs[k]?=some b→B ((k:Int),xs)=some (.inl (IntKind.i64.wrap ((k:Int)+1),xs.set ((k:Int)).toNat (c a))))
  (he:∀ xs:List β,B ((as.length:Int),xs)=some (.inr (g xs))):loop B (0,List.replicate as.length z)=some (g (as.map c)):=by
 let f:Nat→Int×List β:=fun k=>((k:Int),(as.take k).map c++List.replicate (as.length-k) z)
 have e:f 0=(0,List.replicate as.length z):=by simp [f]
 rw [←e,Ziq f as.length fun k hk=>?_]
 ·have:f as.length=((as.length:Int),as.map c):=by simp only [f,List.take_length,Nat.sub_self,List.replicate_zero,List.append_nil]
  rw [this];exact Zc (he _)
 ·obtain ⟨a,ha⟩:=Zbo (xs:=as) (k:=k) hk
  have hr:List.replicate (as.length-k) z=z::List.replicate (as.length-(k+1)) z:=by
   rw [show as.length-k=(as.length-(k+1))+1 by omega,List.replicate_succ]
  have hln:((as.take k).map c).length=k:=by rw [List.length_map,List.length_take];omega
  have h:((as.take k).map c++List.replicate (as.length-k) z)[k]?=some z:=by
   rw [List.getElem?_append_right (by omega),hln,hr];simp
  rw [hs k a _ z ha h,wrapN hk hN,Int.toNat_natCast]
  have:((as.take k).map c++List.replicate (as.length-k) z).set k (c a)=(as.take (k+1)).map c++List.replicate (as.length-(k+1)) z:=by
   rw [List.set_append,if_neg (by omega),hln,hr,List.take_add_one,ha]
   simp
  rw [this]
theorem Zhy {α:Type} {b n:Nat} {z:α} (h:n*b≤140737488355328) (a:n≤4611686018427387904):gMake b z (n:Int) (n:Int)=some (List.replicate n z):=by
 unfold gMake
 have h':((n*b:Nat):Int)≤140737488355328:=by omega
 rw [Int.natCast_mul] at h'
 rw [if_pos ⟨by omega,by omega,h',by omega⟩,Int.toNat_natCast]
def Sz {α:Type} (f:α→Int→Option Int) (Ok Sm:α→Prop):Prop:=∀ x left,Ok x→0≤left→left≤1048576→∃ r,f x left=some r∧(r=-1∨(0≤r∧r≤left∧Sm x))
def OkL {α:Type} (ok:α→Prop) (l:List α):Prop:=l.length≤M63∧∀ x∈l,ok x
def SmL {α:Type} (sm:α→Prop) (l:List α):Prop:=l.length≤1048576∧∀ x∈l,sm x
theorem Zs3 {left n:Int} (a:0≤left) (b:left≤1048576) (c:0≤n) (hm:n≤9223372036854775807):IntKind.i64.wrap (left-n)=left-n:=Za4 (by omega) (by omega)
theorem Zv5 {α:Type} {xs:List α} {f:α→Int→Option Int} {Ok Sm:α→Prop} {B:Int×Int→Option ((Int×Int) ⊕ Int)} (hf:Sz f Ok Sm) (hok:OkL Ok xs) {left:Int} (e:0≤left) (i:left≤1048576)
  (hs:∀ (k:Nat) x l r,xs[k]?=some x→f x l=some r→B (l,(k:Int))=some (bif decide (r<0) then .inr (-1) else .inl (r,IntKind.i64.wrap ((k:Int)+1))))
  (he:∀ l,B (l,(xs.length:Int))=some (.inr l)):∃ r,loop B (left,0)=some r∧(r=-1∨(0≤r∧r≤left∧∀ x∈xs,Sm x)):=by
 have key:∀ (d k:Nat) (l:Int),k+d=xs.length→0≤l→l≤left→(∀ x∈xs.take k,Sm x)→∃ r,loop B (l,(k:Int))=some r∧(r=-1∨(0≤r∧r≤left∧∀ x∈xs,Sm x)):=by
  intro d
  induction d with
  | zero=>
   intro k l hk hl a ha
   obtain rfl:k=xs.length:=by omega
   rw [List.take_length] at ha
   exact ⟨l,Zc (he l),.inr ⟨hl,a,ha⟩⟩
  | succ d ih=>
   intro k l hk hl a ha
   obtain ⟨x,b⟩:=Zbo (xs:=xs) (k:=k) (by omega)
   obtain ⟨r,hr,hcase⟩:=hf x l (hok.2 x (List.mem_of_getElem? b)) hl (by omega)
   have hB:=hs k x l r b hr
   rcases hcase with rfl|⟨c,j,hsm⟩
   ·refine ⟨-1,Zc ?_,.inl rfl⟩
    rw [hB];rfl
   ·have g:decide (r<0)=false:=by simpa using c
    rw [g] at hB
    have hB':B (l,(k:Int))=some (.inl (r,((k+1:Nat):Int))):=by rw [hB,←wrapN (n:=xs.length) (by omega) hok.1];rfl
    rw [ZL hB']
    refine ih (k+1) r (by omega) c (by omega) ?_
    rw [List.take_add_one,b]
    intro y hy
    rcases List.mem_append.1 hy with h|h
    ·exact ha y h
    ·simp at h;subst h;exact hsm
 exact key xs.length 0 left (by omega) e (by omega) (by simp)
theorem Zzm {α:Type} {f:α→Int→Option Int} {Ok Sm:α→Prop} {p:List α→Int→Option Int} {B:List α→Int×Int→Option ((Int×Int) ⊕ Int)} (hf:Sz f Ok Sm)
  (hp:∀ xs left,p xs left=bif decide ((IntKind.i64.wrap (left-(xs.length:Int)):Int)<0) then some (-1) else loop (B xs) (IntKind.i64.wrap (left-(xs.length:Int)),0))
  (hs:∀ xs (k:Nat) x l r,xs[k]?=some x→f x l=some r→B xs (l,(k:Int))=some (bif decide (r<0) then .inr (-1) else .inl (r,IntKind.i64.wrap ((k:Int)+1))))
  (he:∀ xs l,B xs (l,(xs.length:Int))=some (.inr l)):Sz p (OkL Ok) (SmL Sm):=by
 intro xs left hok g h
 have hM:=hok.1
 unfold M63 at hM
 rw [hp,Zs3 g h (by omega) (by omega)]
 by_cases hlt:left-(xs.length:Int)<0
 ·have:decide (left-(xs.length:Int)<0)=true:=by simpa using hlt
  rw [this];exact ⟨-1,rfl,.inl rfl⟩
 ·have:decide (left-(xs.length:Int)<0)=false:=by simpa using hlt
  rw [this]
  obtain ⟨r,i,e⟩:=Zv5 (B:=B xs) hf hok (left:=left-xs.length) (by omega) (by omega) (hs xs) (he xs)
  refine ⟨r,i,?_⟩
  rcases e with e|⟨a,b,c⟩
  ·exact .inl e
  ·exact .inr ⟨a,by omega,by omega,c⟩
end Go.Vc
