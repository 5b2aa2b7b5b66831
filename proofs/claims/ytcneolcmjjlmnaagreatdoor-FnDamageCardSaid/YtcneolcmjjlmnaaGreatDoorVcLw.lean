import Derived.Test.YtcneolcmjjlmnaaGreatDoorVcAu
open Option renaming some->Jg
namespace Go.Vc
set_option linter.unusedSimpArgs false
set_option linter.unusedVariables false
open Go
section
variable {ψ:CM} {h0 h:Heap} {os:List Ob} {σ ρ:Type} {b:σ->Jm (σ ⊕ ρ)} {s:σ} {r:ρ}
theorem endJ {G:Prop} (h:G:=by
  repeat apply Exists.intro
  refine ⟨?_,rfl⟩;exact C.sel selA):G:=h
theorem lw11 {α k:Type} {j:α} {B:(Nat->α->Heap->Prop)->Nat->Env->α->Heap->Prop} (I:loop b s=Jg r) (F:α->k->List Ob×σ)
  (H:∀{e m} x g d a,S ψ h0 g (F x d).1->b (F x d).2=Jg a->nx b m a=Jg r->B (λn x h=>∃d,S ψ h0 h (F x d).1/\loopN b n (F x d).2=Jg r) (m+1) e x g)
  (G:∃d,S ψ h0 h (F j d).1/\(F j d).2=s:=by exact endJ):
  ∃J:Nat->α->Heap->Prop,(∃n,J n j h)/\∀(n:Nat) (e:Env) (x:α) (g:Heap),J n x g->B J n e x g:=by
 obtain ⟨n,f⟩:=ZP I;obtain ⟨d,q,rfl⟩:=G;refine ⟨λn x h=>∃d,S ψ h0 h (F x d).1/\loopN b n (F x d).2=Jg r,⟨n,d,q,f⟩,λn _ x g=>?_⟩;rintro ⟨d,q,w0⟩;obtain ⟨m,a,rfl,p,t⟩:=ZN w0;exact H x g d a q p (by cases a<;>exact t)
theorem lw12 {α l κ:Type} {k:α} {B:(Nat->α->Heap->Prop)->Nat->Env->α->Heap->Prop} (I:loop b s=Jg r) (F:α->l->κ->List Ob×σ)
  (H:∀{e m} x j d f a,S ψ h0 j (F x d f).1->b (F x d f).2=Jg a->nx b m a=Jg r->B (λn x h=>∃d f,S ψ h0 h (F x d f).1/\loopN b n (F x d f).2=Jg r) (m+1) e x j)
  (G:∃d f,S ψ h0 h (F k d f).1/\(F k d f).2=s:=by exact endJ):
  ∃J:Nat->α->Heap->Prop,(∃n,J n k h)/\∀(n:Nat) (e:Env) (x:α) (j:Heap),J n x j->B J n e x j:=by
 obtain ⟨n,g⟩:=ZP I;obtain ⟨d,f,q,rfl⟩:=G;refine ⟨λn x h=>∃d f,S ψ h0 h (F x d f).1/\loopN b n (F x d f).2=Jg r,⟨n,d,f,q,g⟩,λn _ x j=>?_⟩;rintro ⟨d,f,q,w0⟩;obtain ⟨m,a,rfl,p,t⟩:=ZN w0;exact H x j d f a q p (by cases a<;>exact t)
theorem lw13 {α o κ l:Type} {k:α} {B:(Nat->α->Heap->Prop)->Nat->Env->α->Heap->Prop} (I:loop b s=Jg r) (F:α->o->κ->l->List Ob×σ)
  (H:∀{e m} x j d g f a,S ψ h0 j (F x d g f).1->b (F x d g f).2=Jg a->nx b m a=Jg r->B (λn x h=>∃d g f,S ψ h0 h (F x d g f).1/\loopN b n (F x d g f).2=Jg r) (m+1) e x j)
  (G:∃d g f,S ψ h0 h (F k d g f).1/\(F k d g f).2=s:=by exact endJ):
  ∃J:Nat->α->Heap->Prop,(∃n,J n k h)/\∀(n:Nat) (e:Env) (x:α) (j:Heap),J n x j->B J n e x j:=by
 obtain ⟨n,i⟩:=ZP I;obtain ⟨d,g,f,q,rfl⟩:=G;refine ⟨λn x h=>∃d g f,S ψ h0 h (F x d g f).1/\loopN b n (F x d g f).2=Jg r,⟨n,d,g,f,q,i⟩,λn _ x j=>?_⟩;rintro ⟨d,g,f,q,w0⟩;obtain ⟨m,a,rfl,p,t⟩:=ZN w0;exact H x j d g f a q p (by cases a<;>exact t)
theorem lw14 {α u κ o ν:Type} {l:α} {B:(Nat->α->Heap->Prop)->Nat->Env->α->Heap->Prop} (I:loop b s=Jg r) (F:α->u->κ->o->ν->List Ob×σ)
  (H:∀{e m} x k d i f g a,S ψ h0 k (F x d i f g).1->b (F x d i f g).2=Jg a->nx b m a=Jg r->B (λn x h=>∃d i f g,S ψ h0 h (F x d i f g).1/\loopN b n (F x d i f g).2=Jg r) (m+1) e x k)
  (G:∃d i f g,S ψ h0 h (F l d i f g).1/\(F l d i f g).2=s:=by exact endJ):
  ∃J:Nat->α->Heap->Prop,(∃n,J n l h)/\∀(n:Nat) (e:Env) (x:α) (k:Heap),J n x k->B J n e x k:=by
 obtain ⟨n,j⟩:=ZP I;obtain ⟨d,i,f,g,q,rfl⟩:=G;refine ⟨λn x h=>∃d i f g,S ψ h0 h (F x d i f g).1/\loopN b n (F x d i f g).2=Jg r,⟨n,d,i,f,g,q,j⟩,λn _ x k=>?_⟩;rintro ⟨d,i,f,g,q,w0⟩;obtain ⟨m,a,rfl,p,t⟩:=ZN w0;exact H x k d i f g a q p (by cases a<;>exact t)
theorem lw21 {α j o:Type} {k:α} {l:j} {B:(Nat->α->j->Heap->Prop)->Nat->Env->α->j->Heap->Prop} (I:loop b s=Jg r) (F:α->j->o->List Ob×σ)
  (H:∀{e m} x y g d a,S ψ h0 g (F x y d).1->b (F x y d).2=Jg a->nx b m a=Jg r->B (λn x y h=>∃d,S ψ h0 h (F x y d).1/\loopN b n (F x y d).2=Jg r) (m+1) e x y g)
  (G:∃d,S ψ h0 h (F k l d).1/\(F k l d).2=s:=by exact endJ):
  ∃J:Nat->α->j->Heap->Prop,(∃n,J n k l h)/\∀(n:Nat) (e:Env) (x:α) (y:j) (g:Heap),J n x y g->B J n e x y g:=by
 obtain ⟨n,f⟩:=ZP I;obtain ⟨d,q,rfl⟩:=G;refine ⟨λn x y h=>∃d,S ψ h0 h (F x y d).1/\loopN b n (F x y d).2=Jg r,⟨n,d,q,f⟩,λn _ x y g=>?_⟩;rintro ⟨d,q,w0⟩;obtain ⟨m,a,rfl,p,t⟩:=ZN w0;exact H x y g d a q p (by cases a<;>exact t)
theorem lw22 {α k u κ:Type} {l:α} {o:k} {B:(Nat->α->k->Heap->Prop)->Nat->Env->α->k->Heap->Prop} (I:loop b s=Jg r) (F:α->k->u->κ->List Ob×σ)
  (H:∀{e m} x y j d f a,S ψ h0 j (F x y d f).1->b (F x y d f).2=Jg a->nx b m a=Jg r->B (λn x y h=>∃d f,S ψ h0 h (F x y d f).1/\loopN b n (F x y d f).2=Jg r) (m+1) e x y j)
  (G:∃d f,S ψ h0 h (F l o d f).1/\(F l o d f).2=s:=by exact endJ):
  ∃J:Nat->α->k->Heap->Prop,(∃n,J n l o h)/\∀(n:Nat) (e:Env) (x:α) (y:k) (j:Heap),J n x y j->B J n e x y j:=by
 obtain ⟨n,g⟩:=ZP I;obtain ⟨d,f,q,rfl⟩:=G;refine ⟨λn x y h=>∃d f,S ψ h0 h (F x y d f).1/\loopN b n (F x y d f).2=Jg r,⟨n,d,f,q,g⟩,λn _ x y j=>?_⟩;rintro ⟨d,f,q,w0⟩;obtain ⟨m,a,rfl,p,t⟩:=ZN w0;exact H x y j d f a q p (by cases a<;>exact t)
theorem lw23 {α k w κ u:Type} {l:α} {o:k} {B:(Nat->α->k->Heap->Prop)->Nat->Env->α->k->Heap->Prop} (I:loop b s=Jg r) (F:α->k->w->κ->u->List Ob×σ)
  (H:∀{e m} x y j d g f a,S ψ h0 j (F x y d g f).1->b (F x y d g f).2=Jg a->nx b m a=Jg r->B (λn x y h=>∃d g f,S ψ h0 h (F x y d g f).1/\loopN b n (F x y d g f).2=Jg r) (m+1) e x y j)
  (G:∃d g f,S ψ h0 h (F l o d g f).1/\(F l o d g f).2=s:=by exact endJ):
  ∃J:Nat->α->k->Heap->Prop,(∃n,J n l o h)/\∀(n:Nat) (e:Env) (x:α) (y:k) (j:Heap),J n x y j->B J n e x y j:=by
 obtain ⟨n,i⟩:=ZP I;obtain ⟨d,g,f,q,rfl⟩:=G;refine ⟨λn x y h=>∃d g f,S ψ h0 h (F x y d g f).1/\loopN b n (F x y d g f).2=Jg r,⟨n,d,g,f,q,i⟩,λn _ x y j=>?_⟩;rintro ⟨d,g,f,q,w0⟩;obtain ⟨m,a,rfl,p,t⟩:=ZN w0;exact H x y j d g f a q p (by cases a<;>exact t)
theorem lw31 {α j k w:Type} {l:α} {u:j} {o:k} {B:(Nat->α->j->k->Heap->Prop)->Nat->Env->α->j->k->Heap->Prop} (I:loop b s=Jg r) (F:α->j->k->w->List Ob×σ)
  (H:∀{e m} x y z g d a,S ψ h0 g (F x y z d).1->b (F x y z d).2=Jg a->nx b m a=Jg r->B (λn x y z h=>∃d,S ψ h0 h (F x y z d).1/\loopN b n (F x y z d).2=Jg r) (m+1) e x y z g)
  (G:∃d,S ψ h0 h (F l u o d).1/\(F l u o d).2=s:=by exact endJ):
  ∃J:Nat->α->j->k->Heap->Prop,(∃n,J n l u o h)/\∀(n:Nat) (e:Env) (x:α) (y:j) (z:k) (g:Heap),J n x y z g->B J n e x y z g:=by
 obtain ⟨n,f⟩:=ZP I;obtain ⟨d,q,rfl⟩:=G;refine ⟨λn x y z h=>∃d,S ψ h0 h (F x y z d).1/\loopN b n (F x y z d).2=Jg r,⟨n,d,q,f⟩,λn _ x y z g=>?_⟩;rintro ⟨d,q,w0⟩;obtain ⟨m,a,rfl,p,t⟩:=ZN w0;exact H x y z g d a q p (by cases a<;>exact t)
theorem lw32 {α k l ι κ:Type} {o:α} {w:k} {u:l} {B:(Nat->α->k->l->Heap->Prop)->Nat->Env->α->k->l->Heap->Prop} (I:loop b s=Jg r) (F:α->k->l->ι->κ->List Ob×σ)
  (H:∀{e m} x y z j d f a,S ψ h0 j (F x y z d f).1->b (F x y z d f).2=Jg a->nx b m a=Jg r->B (λn x y z h=>∃d f,S ψ h0 h (F x y z d f).1/\loopN b n (F x y z d f).2=Jg r) (m+1) e x y z j)
  (G:∃d f,S ψ h0 h (F o w u d f).1/\(F o w u d f).2=s:=by exact endJ):
  ∃J:Nat->α->k->l->Heap->Prop,(∃n,J n o w u h)/\∀(n:Nat) (e:Env) (x:α) (y:k) (z:l) (j:Heap),J n x y z j->B J n e x y z j:=by
 obtain ⟨n,g⟩:=ZP I;obtain ⟨d,f,q,rfl⟩:=G;refine ⟨λn x y z h=>∃d f,S ψ h0 h (F x y z d f).1/\loopN b n (F x y z d f).2=Jg r,⟨n,d,f,q,g⟩,λn _ x y z j=>?_⟩;rintro ⟨d,f,q,w0⟩;obtain ⟨m,a,rfl,p,t⟩:=ZN w0;exact H x y z j d f a q p (by cases a<;>exact t)
theorem lw42 {α k l o ι κ:Type} {x':α} {y':k} {z':l} {w:o} {B:(Nat->α->k->l->o->Heap->Prop)->Nat->Env->α->k->l->o->Heap->Prop} (I:loop b s=Jg r) (F:α->k->l->o->ι->κ->List Ob×σ)
  (H:∀{e m} x y z u j d f a,S ψ h0 j (F x y z u d f).1->b (F x y z u d f).2=Jg a->nx b m a=Jg r->B (λn x y z u h=>∃d f,S ψ h0 h (F x y z u d f).1/\loopN b n (F x y z u d f).2=Jg r) (m+1) e x y z u j)
  (G:∃d f,S ψ h0 h (F x' y' z' w d f).1/\(F x' y' z' w d f).2=s:=by exact endJ):
  ∃J:Nat->α->k->l->o->Heap->Prop,(∃n,J n x' y' z' w h)/\∀(n:Nat) (e:Env) (x:α) (y:k) (z:l) (u:o) (j:Heap),J n x y z u j->B J n e x y z u j:=by
 obtain ⟨n,g⟩:=ZP I;obtain ⟨d,f,q,rfl⟩:=G;refine ⟨λn x y z u h=>∃d f,S ψ h0 h (F x y z u d f).1/\loopN b n (F x y z u d f).2=Jg r,⟨n,d,f,q,g⟩,λn _ x y z u j=>?_⟩;rintro ⟨d,f,q,w0⟩;obtain ⟨m,a,rfl,p,t⟩:=ZN w0;exact H x y z u j d f a q p (by cases a<;>exact t)
end
def dkN (n:Nat):TK:=match n with|0=>.i .i64|1=>.v|2=>.s|3=>.b|4=>.p|_=>.i .u8
noncomputable def dks (l:List Nat):List (Nat×TK):=List.rec [] (λx _ r=>(x/6,dkN (x%6))::r) l
noncomputable def an (l:List (List Nat)):List (Nat×List (Nat×TK)):=List.rec [] (λx _ r=>List.rec r (λy e _=>(y,dks e)::r) x) l
noncomputable def rgN (a n:Nat) (r:List Nat):List Nat:=Nat.rec (λ_=>r) (λ_ f a=>a::f (a+1)) n a
noncomputable def rgs (l:List (Nat×Nat)):List Nat:=List.rec [] (λx _ r=>rgN x.1 x.2 r) l
end Go.Vc
