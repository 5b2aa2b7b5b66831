import Derived.Test.YtccncimchmimdaaGreatDoorVcS3
namespace Go.Vc
set_option linter.unusedVariables false
set_option linter.unusedSimpArgs false
open Go
section
variable {ψ:CM} {h0 h:Heap} {os:List Ob} {α ρ:Type}
abbrev eI:El Int:=El.int .i64
abbrev eL:El (List Int):=El.sl (El.int .i64)
abbrev oL:El (List Int):=El.ow (El.int .i64)
theorem nlS (C:S ψ h0 h os):S ψ h0 h []:=C.pick [] (by decide)
theorem pk (C:S ψ h0 h os) (is:List Nat) (a:is.Nodup:=by decide):S ψ h0 h (is.filterMap fun i=>os[i]?):=C.pick is a
theorem pkT (C:S ψ h0 h os) (n:Nat) (is:List Nat) (c:is.Nodup:=by decide) (a:∀ i∈is,i<n:=by decide):S ψ h0 h ((is.filterMap fun i=>os[i]?)++os.drop n):=C.pickT n is c a
theorem oI {a b:α} (h:some a=some b):a=b:=Option.some.inj h
theorem ltS {m:Nat}:m<m+1:=Nat.lt_succ_self _
theorem tZ {G:Prop} (h:G:=by first|(obtain rfl:=oI D;first|exact ⟨rfl,nlS C⟩|(obtain rfl:=oI I;exact ⟨rfl,nlS C⟩)|exact ⟨m,ltS,nlS C,I⟩)|exact ⟨nlS C,D⟩):G:=h
theorem brQ {c:Bool} {a b:Option ρ} {r:ρ} {A B:Prop} (D:(bif c then a else b)=some r) (g:a=some r->A) (e:b=some r->B):bif c then A else B:=bifP D (fun _=>g) (fun _=>e)
theorem brR {c:Bool} {a b:Option ρ} {r:ρ} {A B:Prop} (D:(bif c then a else b)=some r) (e:b=some r->B) (g:a=some r->A):bif c then A else B:=bifP D (fun _=>g) (fun _=>e)
theorem kI {β:CM} {k:IntKind} {p a:Addr} {cs:List Value} {x:Int} {K:Int->Prop} (D:CellsC β p cs) (c:CLe β (hcell h)) (j:Nat) (g:K x) (e:a=p.add j:=by exact rfl) (b:cs[j]?=some (.int k x):=by exact rfl):ldI k h a K:=ldI_K (D.mono c) j e b g
theorem bI {k:IntKind} {b:Nat} {a:Addr} {cs:List Value} {x:Int} {K:Int->Prop} (C:S ψ h0 h os) (i j:Nat) (g:K x) (l:os[i]?=some (.box b cs):=by exact rfl) (e:a=Addr.add ⟨b,0,none⟩ j:=by exact rfl) (c:cs[j]?=some (.int k x):=by exact rfl):ldI k h a K:=ldI_K (C.cells i l) j e c g
theorem kV {β:CM} {p a:Addr} {cs:List Value} {x:Value} {K:Value->Prop} (D:CellsC β p cs) (c:CLe β (hcell h)) (j:Nat) (g:K x) (e:a=p.add j:=by exact rfl) (b:cs[j]?=some (x):=by exact rfl):ldV h a K:=ldV_K (D.mono c) j e b g
theorem bV {b:Nat} {a:Addr} {cs:List Value} {x:Value} {K:Value->Prop} (C:S ψ h0 h os) (i j:Nat) (g:K x) (k:os[i]?=some (.box b cs):=by exact rfl) (e:a=Addr.add ⟨b,0,none⟩ j:=by exact rfl) (c:cs[j]?=some (x):=by exact rfl):ldV h a K:=ldV_K (C.cells i k) j e c g
theorem bB {b:Nat} {a:Addr} {cs:List Value} {x:Bool} {K:Bool->Prop} (C:S ψ h0 h os) (i j:Nat) (g:K x) (k:os[i]?=some (.box b cs):=by exact rfl) (e:a=Addr.add ⟨b,0,none⟩ j:=by exact rfl) (c:cs[j]?=some (.bool x):=by exact rfl):ldB h a K:=ldB_K (C.cells i k) j e c g
theorem vL {a c:CM} {E:El α} {v:Value} {xs:List α} {K:Nat->Prop} (e:SlC a E v xs) (j:CLe a c) (g:K xs.length):vLen v K:=Zp e g
theorem ixI {k:IntKind} {v:Value} {xs:List Int} {i:Int} {o:Int->Option ρ} {r:ρ} {K:Int->Prop} (c:SlC (hcell h) (El.int k) v xs) (D:(gIdx xs i).bind o=some r) (e:∀ x,o x=some r->K x):vIdx v i 1 fun p=>ldI k h p K:=by
 obtain ⟨x,a,D⟩:=obind D
 exact Z6 c a fun p b=>ldI_C c b a (e x D)
theorem ixV {β:CM} {E:El α} {v:Value} {xs:List (List α)} {i:Int} {o:List α->Option ρ} {r:ρ} {K:Value->Prop} (c:SlC β (El.sl E) v xs) (e:CLe β (hcell h)) (D:(gIdx xs i).bind o=some r) (g:∀ x u,SlC β E u x->o x=some r->K u):vIdx v i 1 fun p=>ldV h p K:=by
 obtain ⟨x,a,D⟩:=obind D
 exact Z6 c a fun p b=>ldV_C c e b a fun u f=>g x u f D
theorem ixA {c:CM} {E:El α} {v:Value} {xs:List α} {i:Int} {z:Nat} {o:α->Option ρ} {r:ρ} {K:Addr->Prop} (e:SlC c E v xs) (D:(gIdx xs i).bind o=some r) (g:∀ x p,AddrOf v i z p->gIdx xs i=some x->o x=some r->K p):vIdx v i z K:=by
 obtain ⟨x,a,D⟩:=obind D
 exact Z6 e a fun p b=>g x p b a D
theorem cl0 {P:Program} {f:FuncId} {j:Array Value} {R:Value->Heap->Prop} {c:Option α} {o:α->Option ρ} {r:ρ} {V:α->Value} (D:c.bind o=some r) (C:S ψ h0 h os)
  (H:∀ {k L},S0 ψ h0 h k L->Rel k os L->∀ {x},c=some x->CallsH P f j h fun v g=>v=V x/\S k h g []) (K:∀ x g,S ψ h0 g os->o x=some r->R (V x) g):CallsH P f j h R:=by
 obtain ⟨x,a,D⟩:=obind D
 obtain ⟨k,L,s,q⟩:=id C
 exact (H s q a).mono fun v g ⟨e,t⟩=>by subst e;exact K x g (join0 s q t) D
theorem cl1 {P:Program} {f:FuncId} {j:Array Value} {R:Value->Heap->Prop} {c:Option α} {o:α->Option ρ} {r:ρ} {β:Type} {V:α->β->Value} {a:α->β->Ob} (D:c.bind o=some r) (C:S ψ h0 h os)
  (H:∀ {k L},S0 ψ h0 h k L->Rel k os L->∀ {x},c=some x->CallsH P f j h fun v g=>∃ w,v=V x w/\S k h g [a x w]) (K:∀ x w g,S ψ h0 g (a x w::os)->o x=some r->R (V x w) g):CallsH P f j h R:=by
 obtain ⟨x,b,D⟩:=obind D
 obtain ⟨k,L,s,q⟩:=id C
 exact (H s q b).mono fun v g ⟨w,e,t⟩=>by subst e;exact K x w g (join1 s q t) D
theorem cl2 {P:Program} {f:FuncId} {k:Array Value} {R:Value->Heap->Prop} {c:Option α} {o:α->Option ρ} {r:ρ} {β γ:Type} {V:α->β->γ->Value} {a b:α->β->γ->Ob} (D:c.bind o=some r) (C:S ψ h0 h os)
  (H:∀ {l L},S0 ψ h0 h l L->Rel l os L->∀ {x},c=some x->CallsH P f k h fun v j=>∃ w y,v=V x w y/\S l h j [a x w y,b x w y]) (K:∀ x w y j,S ψ h0 j (a x w y::b x w y::os)->o x=some r->R (V x w y) j):CallsH P f k h R:=by
 obtain ⟨x,g,D⟩:=obind D
 obtain ⟨l,L,s,q⟩:=id C
 exact (H s q g).mono fun v j ⟨w,y,e,t⟩=>by subst e;exact K x w y j (join2 s q t) D
end
section
variable {ψ:CM} {h0 h:Heap} {os:List Ob} {α β γ δ ρ:Type}
abbrev nx {σ:Type} (b:σ->Option (σ ⊕ ρ)) (m:Nat) (z:σ ⊕ ρ):Option ρ:=match z with|.inl s'=>loopN b m s'|.inr r=>some r
abbrev lq1 (a:α) (h:Heap) (B:(Nat->α->Heap->Prop)->Nat->α->Heap->Prop):Prop:=∃ J:Nat->α->Heap->Prop,(∃ n,J n a h)/\∀ (n:Nat) (_:Env) (x:α) (h':Heap),J n x h'->B J n x h'
abbrev lq2 (a:α) (b:β) (h:Heap) (B:(Nat->α->β->Heap->Prop)->Nat->α->β->Heap->Prop):Prop:=∃ J:Nat->α->β->Heap->Prop,(∃ n,J n a b h)/\∀ (n:Nat) (_:Env) (x:α) (y:β) (h':Heap),J n x y h'->B J n x y h'
abbrev lq3 (a:α) (b:β) (c:γ) (h:Heap) (B:(Nat->α->β->γ->Heap->Prop)->Nat->α->β->γ->Heap->Prop):Prop:=∃ J:Nat->α->β->γ->Heap->Prop,(∃ n,J n a b c h)/\∀ (n:Nat) (_:Env) (x:α) (y:β) (z:γ) (h':Heap),J n x y z h'->B J n x y z h'
abbrev lq4 (a:α) (b:β) (c:γ) (d:δ) (h:Heap) (B:(Nat->α->β->γ->δ->Heap->Prop)->Nat->α->β->γ->δ->Heap->Prop):Prop:=∃ J:Nat->α->β->γ->δ->Heap->Prop,(∃ n,J n a b c d h)/\∀ (n:Nat) (_:Env) (x:α) (y:β) (z:γ) (u:δ) (h':Heap),J n x y z u h'->B J n x y z u h'
abbrev ag1 (J:Nat->α->Heap->Prop) (n:Nat) (a:α) (h:Heap):Prop:=∃ m,m<n/\J m a h
abbrev ag2 (J:Nat->α->β->Heap->Prop) (n:Nat) (a:α) (b:β) (h:Heap):Prop:=∃ m,m<n/\J m a b h
abbrev ag3 (J:Nat->α->β->γ->Heap->Prop) (n:Nat) (a:α) (b:β) (c:γ) (h:Heap):Prop:=∃ m,m<n/\J m a b c h
abbrev ag4 (J:Nat->α->β->γ->δ->Heap->Prop) (n:Nat) (a:α) (b:β) (c:γ) (d:δ) (h:Heap):Prop:=∃ m,m<n/\J m a b c d h
theorem lp1 {B:(Nat->α->Heap->Prop)->Nat->α->Heap->Prop} {b:α->Option (α ⊕ ρ)} {a:α} {r:ρ} (D:loop b a=some r) (C:S ψ h0 h os)
  (H:∀ m x e z,S ψ h0 e os->b x=some z->nx b m z=some r->B (fun n x h=>S ψ h0 h os/\loopN b n x=some r) (m+1) x e):lq1 a h B:=by
 obtain ⟨n,c⟩:=Zl D
 refine ⟨fun n x h=>S ψ h0 h os/\loopN b n x=some r,⟨n,C,c⟩,fun n _ x e ⟨C,c⟩=>?_⟩
 obtain ⟨m,z,rfl,D,I⟩:=Zk c
 exact H m x e z C D (by cases z<;>exact I)
theorem lp2 {B:(Nat->α->β->Heap->Prop)->Nat->α->β->Heap->Prop} {b:α×β->Option ((α×β) ⊕ ρ)} {a:α} {g:β} {r:ρ} (D:loop b (a,g)=some r) (C:S ψ h0 h os)
  (H:∀ m x y e z,S ψ h0 e os->b (x,y)=some z->nx b m z=some r->B (fun n x y h=>S ψ h0 h os/\loopN b n (x,y)=some r) (m+1) x y e):lq2 a g h B:=by
 obtain ⟨n,c⟩:=Zl D
 refine ⟨fun n x y h=>S ψ h0 h os/\loopN b n (x,y)=some r,⟨n,C,c⟩,fun n _ x y e ⟨C,c⟩=>?_⟩
 obtain ⟨m,z,rfl,D,I⟩:=Zk c
 exact H m x y e z C D (by cases z<;>exact I)
end
end Go.Vc
