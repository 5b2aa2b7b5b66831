import Derived.Test.YtahnjnfpjcfklaaGreatDoorVcAu
namespace Go.Vc
set_option linter.unusedSimpArgs false
set_option linter.unusedVariables false
open Go
section
variable {ψ:CM} {h0 h:Heap} {os:List Ob} {σ ρ:Type} {b:σ->Option (σ ⊕ ρ)} {s:σ} {r:ρ}
theorem endJ {G:Prop} (h:G:=by
  repeat apply Exists.intro
  refine ⟨?_,rfl⟩;exact C.sel selA):G:=h
theorem lw11 {α k:Type} {j:α} {B:(Nat->α->Heap->Prop)->Nat->Env->α->Heap->Prop} (I:loop b s=some r) (F:α->k->List Ob×σ)
  (H:∀ {e m} x g d a,S ψ h0 g (F x d).1->b (F x d).2=some a->nx b m a=some r->B (fun n x h=>∃ d,S ψ h0 h (F x d).1/\loopN b n (F x d).2=some r) (m+1) e x g)
  (G:∃ d,S ψ h0 h (F j d).1/\(F j d).2=s:=by exact endJ):
  ∃ J:Nat->α->Heap->Prop,(∃ n,J n j h)/\∀ (n:Nat) (e:Env) (x:α) (g:Heap),J n x g->B J n e x g:=by
 obtain ⟨n,f⟩:=ZN I;obtain ⟨d,q,rfl⟩:=G;refine ⟨fun n x h=>∃ d,S ψ h0 h (F x d).1/\loopN b n (F x d).2=some r,⟨n,d,q,f⟩,fun n _ x g=>?_⟩;rintro ⟨d,q,w0⟩;obtain ⟨m,a,rfl,p,t⟩:=ZM w0;exact H x g d a q p (by cases a<;>exact t)
theorem lw12 {α l κ:Type} {k:α} {B:(Nat->α->Heap->Prop)->Nat->Env->α->Heap->Prop} (I:loop b s=some r) (F:α->l->κ->List Ob×σ)
  (H:∀ {e m} x j d f a,S ψ h0 j (F x d f).1->b (F x d f).2=some a->nx b m a=some r->B (fun n x h=>∃ d f,S ψ h0 h (F x d f).1/\loopN b n (F x d f).2=some r) (m+1) e x j)
  (G:∃ d f,S ψ h0 h (F k d f).1/\(F k d f).2=s:=by exact endJ):
  ∃ J:Nat->α->Heap->Prop,(∃ n,J n k h)/\∀ (n:Nat) (e:Env) (x:α) (j:Heap),J n x j->B J n e x j:=by
 obtain ⟨n,g⟩:=ZN I;obtain ⟨d,f,q,rfl⟩:=G;refine ⟨fun n x h=>∃ d f,S ψ h0 h (F x d f).1/\loopN b n (F x d f).2=some r,⟨n,d,f,q,g⟩,fun n _ x j=>?_⟩;rintro ⟨d,f,q,w0⟩;obtain ⟨m,a,rfl,p,t⟩:=ZM w0;exact H x j d f a q p (by cases a<;>exact t)
theorem lw14 {α o κ u ν:Type} {l:α} {B:(Nat->α->Heap->Prop)->Nat->Env->α->Heap->Prop} (I:loop b s=some r) (F:α->o->κ->u->ν->List Ob×σ)
  (H:∀ {e m} x k d i f g a,S ψ h0 k (F x d i f g).1->b (F x d i f g).2=some a->nx b m a=some r->B (fun n x h=>∃ d i f g,S ψ h0 h (F x d i f g).1/\loopN b n (F x d i f g).2=some r) (m+1) e x k)
  (G:∃ d i f g,S ψ h0 h (F l d i f g).1/\(F l d i f g).2=s:=by exact endJ):
  ∃ J:Nat->α->Heap->Prop,(∃ n,J n l h)/\∀ (n:Nat) (e:Env) (x:α) (k:Heap),J n x k->B J n e x k:=by
 obtain ⟨n,j⟩:=ZN I;obtain ⟨d,i,f,g,q,rfl⟩:=G;refine ⟨fun n x h=>∃ d i f g,S ψ h0 h (F x d i f g).1/\loopN b n (F x d i f g).2=some r,⟨n,d,i,f,g,q,j⟩,fun n _ x k=>?_⟩;rintro ⟨d,i,f,g,q,w0⟩;obtain ⟨m,a,rfl,p,t⟩:=ZM w0;exact H x k d i f g a q p (by cases a<;>exact t)
theorem lw21 {α j o:Type} {k:α} {l:j} {B:(Nat->α->j->Heap->Prop)->Nat->Env->α->j->Heap->Prop} (I:loop b s=some r) (F:α->j->o->List Ob×σ)
  (H:∀ {e m} x y g d a,S ψ h0 g (F x y d).1->b (F x y d).2=some a->nx b m a=some r->B (fun n x y h=>∃ d,S ψ h0 h (F x y d).1/\loopN b n (F x y d).2=some r) (m+1) e x y g)
  (G:∃ d,S ψ h0 h (F k l d).1/\(F k l d).2=s:=by exact endJ):
  ∃ J:Nat->α->j->Heap->Prop,(∃ n,J n k l h)/\∀ (n:Nat) (e:Env) (x:α) (y:j) (g:Heap),J n x y g->B J n e x y g:=by
 obtain ⟨n,f⟩:=ZN I;obtain ⟨d,q,rfl⟩:=G;refine ⟨fun n x y h=>∃ d,S ψ h0 h (F x y d).1/\loopN b n (F x y d).2=some r,⟨n,d,q,f⟩,fun n _ x y g=>?_⟩;rintro ⟨d,q,w0⟩;obtain ⟨m,a,rfl,p,t⟩:=ZM w0;exact H x y g d a q p (by cases a<;>exact t)
theorem lw22 {α k u κ:Type} {l:α} {o:k} {B:(Nat->α->k->Heap->Prop)->Nat->Env->α->k->Heap->Prop} (I:loop b s=some r) (F:α->k->u->κ->List Ob×σ)
  (H:∀ {e m} x y j d f a,S ψ h0 j (F x y d f).1->b (F x y d f).2=some a->nx b m a=some r->B (fun n x y h=>∃ d f,S ψ h0 h (F x y d f).1/\loopN b n (F x y d f).2=some r) (m+1) e x y j)
  (G:∃ d f,S ψ h0 h (F l o d f).1/\(F l o d f).2=s:=by exact endJ):
  ∃ J:Nat->α->k->Heap->Prop,(∃ n,J n l o h)/\∀ (n:Nat) (e:Env) (x:α) (y:k) (j:Heap),J n x y j->B J n e x y j:=by
 obtain ⟨n,g⟩:=ZN I;obtain ⟨d,f,q,rfl⟩:=G;refine ⟨fun n x y h=>∃ d f,S ψ h0 h (F x y d f).1/\loopN b n (F x y d f).2=some r,⟨n,d,f,q,g⟩,fun n _ x y j=>?_⟩;rintro ⟨d,f,q,w0⟩;obtain ⟨m,a,rfl,p,t⟩:=ZM w0;exact H x y j d f a q p (by cases a<;>exact t)
theorem lw31 {α k j w:Type} {l:α} {u:k} {o:j} {B:(Nat->α->k->j->Heap->Prop)->Nat->Env->α->k->j->Heap->Prop} (I:loop b s=some r) (F:α->k->j->w->List Ob×σ)
  (H:∀ {e m} x y z g d a,S ψ h0 g (F x y z d).1->b (F x y z d).2=some a->nx b m a=some r->B (fun n x y z h=>∃ d,S ψ h0 h (F x y z d).1/\loopN b n (F x y z d).2=some r) (m+1) e x y z g)
  (G:∃ d,S ψ h0 h (F l u o d).1/\(F l u o d).2=s:=by exact endJ):
  ∃ J:Nat->α->k->j->Heap->Prop,(∃ n,J n l u o h)/\∀ (n:Nat) (e:Env) (x:α) (y:k) (z:j) (g:Heap),J n x y z g->B J n e x y z g:=by
 obtain ⟨n,f⟩:=ZN I;obtain ⟨d,q,rfl⟩:=G;refine ⟨fun n x y z h=>∃ d,S ψ h0 h (F x y z d).1/\loopN b n (F x y z d).2=some r,⟨n,d,q,f⟩,fun n _ x y z g=>?_⟩;rintro ⟨d,q,w0⟩;obtain ⟨m,a,rfl,p,t⟩:=ZM w0;exact H x y z g d a q p (by cases a<;>exact t)
theorem lw32 {α l k ι κ:Type} {o:α} {w:l} {u:k} {B:(Nat->α->l->k->Heap->Prop)->Nat->Env->α->l->k->Heap->Prop} (I:loop b s=some r) (F:α->l->k->ι->κ->List Ob×σ)
  (H:∀ {e m} x y z j d f a,S ψ h0 j (F x y z d f).1->b (F x y z d f).2=some a->nx b m a=some r->B (fun n x y z h=>∃ d f,S ψ h0 h (F x y z d f).1/\loopN b n (F x y z d f).2=some r) (m+1) e x y z j)
  (G:∃ d f,S ψ h0 h (F o w u d f).1/\(F o w u d f).2=s:=by exact endJ):
  ∃ J:Nat->α->l->k->Heap->Prop,(∃ n,J n o w u h)/\∀ (n:Nat) (e:Env) (x:α) (y:l) (z:k) (j:Heap),J n x y z j->B J n e x y z j:=by
 obtain ⟨n,g⟩:=ZN I;obtain ⟨d,f,q,rfl⟩:=G;refine ⟨fun n x y z h=>∃ d f,S ψ h0 h (F x y z d f).1/\loopN b n (F x y z d f).2=some r,⟨n,d,f,q,g⟩,fun n _ x y z j=>?_⟩;rintro ⟨d,f,q,w0⟩;obtain ⟨m,a,rfl,p,t⟩:=ZM w0;exact H x y z j d f a q p (by cases a<;>exact t)
theorem lw42 {α o l k ι κ:Type} {w:α} {y':o} {z':l} {u':k} {B:(Nat->α->o->l->k->Heap->Prop)->Nat->Env->α->o->l->k->Heap->Prop} (I:loop b s=some r) (F:α->o->l->k->ι->κ->List Ob×σ)
  (H:∀ {e m} x y z u j d f a,S ψ h0 j (F x y z u d f).1->b (F x y z u d f).2=some a->nx b m a=some r->B (fun n x y z u h=>∃ d f,S ψ h0 h (F x y z u d f).1/\loopN b n (F x y z u d f).2=some r) (m+1) e x y z u j)
  (G:∃ d f,S ψ h0 h (F w y' z' u' d f).1/\(F w y' z' u' d f).2=s:=by exact endJ):
  ∃ J:Nat->α->o->l->k->Heap->Prop,(∃ n,J n w y' z' u' h)/\∀ (n:Nat) (e:Env) (x:α) (y:o) (z:l) (u:k) (j:Heap),J n x y z u j->B J n e x y z u j:=by
 obtain ⟨n,g⟩:=ZN I;obtain ⟨d,f,q,rfl⟩:=G;refine ⟨fun n x y z u h=>∃ d f,S ψ h0 h (F x y z u d f).1/\loopN b n (F x y z u d f).2=some r,⟨n,d,f,q,g⟩,fun n _ x y z u j=>?_⟩;rintro ⟨d,f,q,w0⟩;obtain ⟨m,a,rfl,p,t⟩:=ZM w0;exact H x y z u j d f a q p (by cases a<;>exact t)
end
def dkN (n:Nat):TK:=match n with|0=>.i .i64|1=>.v|2=>.s|3=>.b|4=>.p|_=>.i .u8
noncomputable def dks (l:List Nat):List (Nat×TK):=List.rec [] (fun x _ r=>(x/6,dkN (x%6))::r) l
noncomputable def an (l:List (List Nat)):List (Nat×List (Nat×TK)):=List.rec [] (fun x _ r=>List.rec r (fun y a _=>(y,dks a)::r) x) l
noncomputable def rgN (a n:Nat) (r:List Nat):List Nat:=Nat.rec (fun _=>r) (fun _ f a=>a::f (a+1)) n a
noncomputable def rgs (l:List (Nat×Nat)):List Nat:=List.rec [] (fun x _ r=>rgN x.1 x.2 r) l
end Go.Vc
