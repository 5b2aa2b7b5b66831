import Derived.Test.YtdmledeildfidaaGreatDoorVcAu
namespace Go.Vc
set_option linter.unusedSimpArgs false
set_option linter.unusedVariables false
open Go
section
variable {ψ:CM} {h0 h:Heap} {os:List Ob} {σ ρ:Type} {b:σ->Option (σ ⊕ ρ)} {s:σ} {r:ρ}
theorem endJ {G:Prop} (h:G:=by
  repeat apply Exists.intro
  refine ⟨?_,rfl⟩;exact T.sel selA):G:=h
theorem lw11 {j l:Type} {k:j} {B:(Nat->j->Heap->Prop)->Nat->Env->j->Heap->Prop} (I:loop b s=some r) (F:j->l->List Ob×σ)
  (H:∀ {e m} x g d a,S ψ h0 g (F x d).1->b (F x d).2=some a->nx b m a=some r->B (fun n x h=>∃ d,S ψ h0 h (F x d).1/\loopN b n (F x d).2=some r) (m+1) e x g)
  (G:∃ d,S ψ h0 h (F k d).1/\(F k d).2=s:=by exact endJ):
  ∃ J:Nat->j->Heap->Prop,(∃ n,J n k h)/\∀ (n:Nat) (e:Env) (x:j) (g:Heap),J n x g->B J n e x g:=by
 obtain ⟨n,c⟩:=Zad I;obtain ⟨d,q,rfl⟩:=G;refine ⟨fun n x h=>∃ d,S ψ h0 h (F x d).1/\loopN b n (F x d).2=some r,⟨n,d,q,c⟩,fun n _ x g=>?_⟩;rintro ⟨d,q,w0⟩;obtain ⟨m,a,rfl,p,t⟩:=Zab w0;exact H x g d a q p (by cases a<;>exact t)
theorem lw12 {j l κ:Type} {k:j} {B:(Nat->j->Heap->Prop)->Nat->Env->j->Heap->Prop} (I:loop b s=some r) (F:j->l->κ->List Ob×σ)
  (H:∀ {e m} x g d c a,S ψ h0 g (F x d c).1->b (F x d c).2=some a->nx b m a=some r->B (fun n x h=>∃ d c,S ψ h0 h (F x d c).1/\loopN b n (F x d c).2=some r) (m+1) e x g)
  (G:∃ d c,S ψ h0 h (F k d c).1/\(F k d c).2=s:=by exact endJ):
  ∃ J:Nat->j->Heap->Prop,(∃ n,J n k h)/\∀ (n:Nat) (e:Env) (x:j) (g:Heap),J n x g->B J n e x g:=by
 obtain ⟨n,f⟩:=Zad I;obtain ⟨d,c,q,rfl⟩:=G;refine ⟨fun n x h=>∃ d c,S ψ h0 h (F x d c).1/\loopN b n (F x d c).2=some r,⟨n,d,c,q,f⟩,fun n _ x g=>?_⟩;rintro ⟨d,c,q,w0⟩;obtain ⟨m,a,rfl,p,t⟩:=Zab w0;exact H x g d c a q p (by cases a<;>exact t)
theorem lw14 {k u κ o ν:Type} {l:k} {B:(Nat->k->Heap->Prop)->Nat->Env->k->Heap->Prop} (I:loop b s=some r) (F:k->u->κ->o->ν->List Ob×σ)
  (H:∀ {e m} x j d c f g a,S ψ h0 j (F x d c f g).1->b (F x d c f g).2=some a->nx b m a=some r->B (fun n x h=>∃ d c f g,S ψ h0 h (F x d c f g).1/\loopN b n (F x d c f g).2=some r) (m+1) e x j)
  (G:∃ d c f g,S ψ h0 h (F l d c f g).1/\(F l d c f g).2=s:=by exact endJ):
  ∃ J:Nat->k->Heap->Prop,(∃ n,J n l h)/\∀ (n:Nat) (e:Env) (x:k) (j:Heap),J n x j->B J n e x j:=by
 obtain ⟨n,i⟩:=Zad I;obtain ⟨d,c,f,g,q,rfl⟩:=G;refine ⟨fun n x h=>∃ d c f g,S ψ h0 h (F x d c f g).1/\loopN b n (F x d c f g).2=some r,⟨n,d,c,f,g,q,i⟩,fun n _ x j=>?_⟩;rintro ⟨d,c,f,g,q,w0⟩;obtain ⟨m,a,rfl,p,t⟩:=Zab w0;exact H x j d c f g a q p (by cases a<;>exact t)
theorem lw21 {j k u:Type} {o:j} {l:k} {B:(Nat->j->k->Heap->Prop)->Nat->Env->j->k->Heap->Prop} (I:loop b s=some r) (F:j->k->u->List Ob×σ)
  (H:∀ {e m} x y g d a,S ψ h0 g (F x y d).1->b (F x y d).2=some a->nx b m a=some r->B (fun n x y h=>∃ d,S ψ h0 h (F x y d).1/\loopN b n (F x y d).2=some r) (m+1) e x y g)
  (G:∃ d,S ψ h0 h (F o l d).1/\(F o l d).2=s:=by exact endJ):
  ∃ J:Nat->j->k->Heap->Prop,(∃ n,J n o l h)/\∀ (n:Nat) (e:Env) (x:j) (y:k) (g:Heap),J n x y g->B J n e x y g:=by
 obtain ⟨n,c⟩:=Zad I;obtain ⟨d,q,rfl⟩:=G;refine ⟨fun n x y h=>∃ d,S ψ h0 h (F x y d).1/\loopN b n (F x y d).2=some r,⟨n,d,q,c⟩,fun n _ x y g=>?_⟩;rintro ⟨d,q,w0⟩;obtain ⟨m,a,rfl,p,t⟩:=Zab w0;exact H x y g d a q p (by cases a<;>exact t)
theorem lw22 {j k u κ:Type} {o:j} {l:k} {B:(Nat->j->k->Heap->Prop)->Nat->Env->j->k->Heap->Prop} (I:loop b s=some r) (F:j->k->u->κ->List Ob×σ)
  (H:∀ {e m} x y g d c a,S ψ h0 g (F x y d c).1->b (F x y d c).2=some a->nx b m a=some r->B (fun n x y h=>∃ d c,S ψ h0 h (F x y d c).1/\loopN b n (F x y d c).2=some r) (m+1) e x y g)
  (G:∃ d c,S ψ h0 h (F o l d c).1/\(F o l d c).2=s:=by exact endJ):
  ∃ J:Nat->j->k->Heap->Prop,(∃ n,J n o l h)/\∀ (n:Nat) (e:Env) (x:j) (y:k) (g:Heap),J n x y g->B J n e x y g:=by
 obtain ⟨n,f⟩:=Zad I;obtain ⟨d,c,q,rfl⟩:=G;refine ⟨fun n x y h=>∃ d c,S ψ h0 h (F x y d c).1/\loopN b n (F x y d c).2=some r,⟨n,d,c,q,f⟩,fun n _ x y g=>?_⟩;rintro ⟨d,c,q,w0⟩;obtain ⟨m,a,rfl,p,t⟩:=Zab w0;exact H x y g d c a q p (by cases a<;>exact t)
theorem lw31 {j k l ι:Type} {u:j} {o:k} {w:l} {B:(Nat->j->k->l->Heap->Prop)->Nat->Env->j->k->l->Heap->Prop} (I:loop b s=some r) (F:j->k->l->ι->List Ob×σ)
  (H:∀ {e m} x y z g d a,S ψ h0 g (F x y z d).1->b (F x y z d).2=some a->nx b m a=some r->B (fun n x y z h=>∃ d,S ψ h0 h (F x y z d).1/\loopN b n (F x y z d).2=some r) (m+1) e x y z g)
  (G:∃ d,S ψ h0 h (F u o w d).1/\(F u o w d).2=s:=by exact endJ):
  ∃ J:Nat->j->k->l->Heap->Prop,(∃ n,J n u o w h)/\∀ (n:Nat) (e:Env) (x:j) (y:k) (z:l) (g:Heap),J n x y z g->B J n e x y z g:=by
 obtain ⟨n,c⟩:=Zad I;obtain ⟨d,q,rfl⟩:=G;refine ⟨fun n x y z h=>∃ d,S ψ h0 h (F x y z d).1/\loopN b n (F x y z d).2=some r,⟨n,d,q,c⟩,fun n _ x y z g=>?_⟩;rintro ⟨d,q,w0⟩;obtain ⟨m,a,rfl,p,t⟩:=Zab w0;exact H x y z g d a q p (by cases a<;>exact t)
theorem lw32 {j k l ι κ:Type} {u:j} {o:k} {w:l} {B:(Nat->j->k->l->Heap->Prop)->Nat->Env->j->k->l->Heap->Prop} (I:loop b s=some r) (F:j->k->l->ι->κ->List Ob×σ)
  (H:∀ {e m} x y z g d c a,S ψ h0 g (F x y z d c).1->b (F x y z d c).2=some a->nx b m a=some r->B (fun n x y z h=>∃ d c,S ψ h0 h (F x y z d c).1/\loopN b n (F x y z d c).2=some r) (m+1) e x y z g)
  (G:∃ d c,S ψ h0 h (F u o w d c).1/\(F u o w d c).2=s:=by exact endJ):
  ∃ J:Nat->j->k->l->Heap->Prop,(∃ n,J n u o w h)/\∀ (n:Nat) (e:Env) (x:j) (y:k) (z:l) (g:Heap),J n x y z g->B J n e x y z g:=by
 obtain ⟨n,f⟩:=Zad I;obtain ⟨d,c,q,rfl⟩:=G;refine ⟨fun n x y z h=>∃ d c,S ψ h0 h (F x y z d c).1/\loopN b n (F x y z d c).2=some r,⟨n,d,c,q,f⟩,fun n _ x y z g=>?_⟩;rintro ⟨d,c,q,w0⟩;obtain ⟨m,a,rfl,p,t⟩:=Zab w0;exact H x y z g d c a q p (by cases a<;>exact t)
theorem lw42 {j k o l ι κ:Type} {x':j} {w:k} {z':o} {u':l} {B:(Nat->j->k->o->l->Heap->Prop)->Nat->Env->j->k->o->l->Heap->Prop} (I:loop b s=some r) (F:j->k->o->l->ι->κ->List Ob×σ)
  (H:∀ {e m} x y z u g d c a,S ψ h0 g (F x y z u d c).1->b (F x y z u d c).2=some a->nx b m a=some r->B (fun n x y z u h=>∃ d c,S ψ h0 h (F x y z u d c).1/\loopN b n (F x y z u d c).2=some r) (m+1) e x y z u g)
  (G:∃ d c,S ψ h0 h (F x' w z' u' d c).1/\(F x' w z' u' d c).2=s:=by exact endJ):
  ∃ J:Nat->j->k->o->l->Heap->Prop,(∃ n,J n x' w z' u' h)/\∀ (n:Nat) (e:Env) (x:j) (y:k) (z:o) (u:l) (g:Heap),J n x y z u g->B J n e x y z u g:=by
 obtain ⟨n,f⟩:=Zad I;obtain ⟨d,c,q,rfl⟩:=G;refine ⟨fun n x y z u h=>∃ d c,S ψ h0 h (F x y z u d c).1/\loopN b n (F x y z u d c).2=some r,⟨n,d,c,q,f⟩,fun n _ x y z u g=>?_⟩;rintro ⟨d,c,q,w0⟩;obtain ⟨m,a,rfl,p,t⟩:=Zab w0;exact H x y z u g d c a q p (by cases a<;>exact t)
end
def dkN (n:Nat):TK:=match n with|0=>.i .i64|1=>.v|2=>.s|3=>.b|4=>.p|_=>.i .u8
noncomputable def dks (l:List Nat):List (Nat×TK):=List.rec [] (fun x _ r=>(x/6,dkN (x%6))::r) l
noncomputable def an (l:List (List Nat)):List (Nat×List (Nat×TK)):=List.rec [] (fun x _ r=>List.rec r (fun y a _=>(y,dks a)::r) x) l
noncomputable def rgN (a n:Nat) (r:List Nat):List Nat:=Nat.rec (fun _=>r) (fun _ f a=>a::f (a+1)) n a
noncomputable def rgs (l:List (Nat×Nat)):List Nat:=List.rec [] (fun x _ r=>rgN x.1 x.2 r) l
end Go.Vc
