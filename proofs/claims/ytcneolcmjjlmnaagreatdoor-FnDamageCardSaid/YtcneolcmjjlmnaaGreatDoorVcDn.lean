import Derived.Test.YtcneolcmjjlmnaaGreatDoorVcS3
open Option renaming some->Jg
open Go renaming Value->Jl
namespace Go.Vc
set_option linter.unusedVariables false
set_option linter.unusedSimpArgs false
open Go
section
variable {ψ:CM} {h0 h:Heap} {os:List Ob} {α ρ:Type}
abbrev eI:El Int:=El.int .i64
abbrev eL:El Jb:=El.sl (El.int .i64)
abbrev oL:El Jb:=El.ow (El.int .i64)
theorem nlS (C:S ψ h0 h os):S ψ h0 h []:=C.pick [] (by decide)
theorem pk (C:S ψ h0 h os) (is:List Nat) (e:is.Nodup:=by decide):S ψ h0 h (is.filterMap λi=>os[i]?):=C.pick is e
theorem pkT (C:S ψ h0 h os) (n:Nat) (is:List Nat) (e:is.Nodup:=by decide) (a:∀i∈is,i<n:=by decide):S ψ h0 h ((is.filterMap λi=>os[i]?)++os.drop n):=C.pickT n is e a
theorem oI {a b:α} (h:Jg a=Jg b):a=b:=Option.some.inj h
theorem ltS {m:Nat}:m<m+1:=Nat.lt_succ_self _
theorem tZ {G:Prop} (h:G:=by first|(obtain rfl:=oI N;first|exact ⟨rfl,nlS C⟩|(obtain rfl:=oI O;exact ⟨rfl,nlS C⟩)|exact ⟨m,ltS,nlS C,O⟩)|exact ⟨nlS C,N⟩):G:=h
theorem brQ {c:Bool} {a b:Jm ρ} {r:ρ} {A B:Prop} (N:(bif c then a else b)=Jg r) (g:a=Jg r->A) (e:b=Jg r->B):brn c A B:=bifP N (λ_=>g) (λ_=>e)
theorem kI {β:CM} {k:IntKind} {p a:Addr} {cs:Jc} {x:Int} {K:Int->Prop} (N:CellsC β p cs) (g:CLe β (hcell h)) (j:Nat) (l:K x) (o:a=p.add j:=by exact rfl) (e:cs[j]?=Jg (.int k x):=by exact rfl):ldI k h a K:=ldI_K (N.mono g) j o e l
theorem bI {k:IntKind} {b:Nat} {a:Addr} {cs:Jc} {x:Int} {K:Int->Prop} (C:S ψ h0 h os) (i j:Nat) (g:K x) (l:os[i]?=Jg (.box b cs):=by exact rfl) (o:a=Addr.add ⟨b,0,none⟩ j:=by exact rfl) (e:cs[j]?=Jg (.int k x):=by exact rfl):ldI k h a K:=ldI_K (C.cells i l) j o e g
theorem kV {β:CM} {p a:Addr} {cs:Jc} {x:Jl} {K:Jl->Prop} (N:CellsC β p cs) (g:CLe β (hcell h)) (j:Nat) (k:K x) (l:a=p.add j:=by exact rfl) (e:cs[j]?=Jg (x):=by exact rfl):ldV h a K:=ldV_K (N.mono g) j l e k
theorem bV {b:Nat} {a:Addr} {cs:Jc} {x:Jl} {K:Jl->Prop} (C:S ψ h0 h os) (i j:Nat) (g:K x) (k:os[i]?=Jg (.box b cs):=by exact rfl) (l:a=Addr.add ⟨b,0,none⟩ j:=by exact rfl) (e:cs[j]?=Jg (x):=by exact rfl):ldV h a K:=ldV_K (C.cells i k) j l e g
theorem kS {β:CM} {p a:Addr} {cs:Jc} {x:Jd} {K:Jd->Prop} (N:CellsC β p cs) (g:CLe β (hcell h)) (j:Nat) (k:K x) (l:a=p.add j:=by exact rfl) (e:cs[j]?=Jg (.string x):=by exact rfl):ldS h a K:=ldS_K (N.mono g) j l e k
theorem bB {b:Nat} {a:Addr} {cs:Jc} {x:Bool} {K:Bool->Prop} (C:S ψ h0 h os) (i j:Nat) (g:K x) (k:os[i]?=Jg (.box b cs):=by exact rfl) (l:a=Addr.add ⟨b,0,none⟩ j:=by exact rfl) (e:cs[j]?=Jg (.bool x):=by exact rfl):ldB h a K:=ldB_K (C.cells i k) j l e g
theorem vL {φ e:CM} {E:El α} {v:Jl} {xs:List α} {K:Nat->Prop} (j:SlC φ E v xs) (k:CLe φ e) (g:K xs.length):vLen v K:=ZF j g
theorem ixI {k:IntKind} {v:Jl} {xs:Jb} {i:Int} {o:Int->Jm ρ} {r:ρ} {K:Addr->Int->Prop} (g:SlC (hcell h) (El.int k) v xs) (N:(gIdx xs i).bind o=Jg r) (e:∀{p} x,o x=Jg r->K p x):vIdx v i 1 λp=>ldI k h p (K p):=by
 obtain ⟨x,a,N⟩:=obind N;grind [ZS,ldI_C]
theorem ixV {β:CM} {E:El α} {v:Jl} {xs:List (List α)} {i:Int} {o:List α->Jm ρ} {r:ρ} {K:Addr->Jl->Prop} (j:SlC β (El.sl E) v xs) (e:CLe β (hcell h)) (N:(gIdx xs i).bind o=Jg r) (g:∀{p} x u,SlC β E u x->o x=Jg r->K p u):vIdx v i 1 λp=>ldV h p (K p):=by
 obtain ⟨x,a,N⟩:=obind N;grind [ZS,ldV_C]
theorem ixS {v:Jl} {xs:List Jd} {i:Int} {o:Jd->Jm ρ} {r:ρ} {K:Addr->Jd->Prop} (g:SlC (hcell h) El.str v xs) (N:(gIdx xs i).bind o=Jg r) (e:∀{p} x,o x=Jg r->K p x):vIdx v i 1 λp=>ldS h p (K p):=by
 obtain ⟨x,a,N⟩:=obind N;grind [ZS,ldS_C]
theorem ixA {φ:CM} {E:El α} {v:Jl} {xs:List α} {i:Int} {z:Nat} {o:α->Jm ρ} {r:ρ} {K:Addr->Prop} (g:SlC φ E v xs) (N:(gIdx xs i).bind o=Jg r) (e:∀x p,AddrOf v i z p->gIdx xs i=Jg x->o x=Jg r->K p):vIdx v i z K:=by
 obtain ⟨x,a,N⟩:=obind N;grind [ZS]
theorem cl0 {P:Program} {f:FuncId} {j:Array Jl} {R:Jl->Heap->Prop} {c:Jm α} {o:α->Jm ρ} {r:ρ} {V:α->Jl} (N:c.bind o=Jg r) (C:S ψ h0 h os)
  (H:∀{φ L},S0 ψ h0 h φ L->Rel φ os L->∀{x},c=Jg x->CallsH P f j h λv g=>v=V x/\S φ h g []) (K:∀x g,S ψ h0 g os->o x=Jg r->R (V x) g):CallsH P f j h R:=by
 obtain ⟨x,a,N⟩:=obind N;obtain ⟨φ,L,s,q⟩:=id C;exact (H s q a).mono λv g ⟨e,t⟩=>by subst e;exact K x g (join0 s q t) N
theorem cl1 {P:Program} {f:FuncId} {k:Array Jl} {R:Jl->Heap->Prop} {c:Jm α} {o:α->Jm ρ} {r:ρ} {β:Type} {V:α->β->Jl} {a:α->β->Ob} (N:c.bind o=Jg r) (C:S ψ h0 h os)
  (H:∀{φ L},S0 ψ h0 h φ L->Rel φ os L->∀{x},c=Jg x->CallsH P f k h λv j=>∃w,v=V x w/\S φ h j [a x w]) (K:∀x w j,S ψ h0 j (a x w::os)->o x=Jg r->R (V x w) j):CallsH P f k h R:=by
 obtain ⟨x,g,N⟩:=obind N;obtain ⟨φ,L,s,q⟩:=id C;exact (H s q g).mono λv j ⟨w,e,t⟩=>by subst e;exact K x w j (join1 s q t) N
theorem cl2 {P:Program} {f:FuncId} {k:Array Jl} {R:Jl->Heap->Prop} {c:Jm α} {o:α->Jm ρ} {r:ρ} {β γ:Type} {V:α->β->γ->Jl} {a b:α->β->γ->Ob} (N:c.bind o=Jg r) (C:S ψ h0 h os)
  (H:∀{φ L},S0 ψ h0 h φ L->Rel φ os L->∀{x},c=Jg x->CallsH P f k h λv j=>∃w y,v=V x w y/\S φ h j [a x w y,b x w y]) (K:∀x w y j,S ψ h0 j (a x w y::b x w y::os)->o x=Jg r->R (V x w y) j):CallsH P f k h R:=by
 obtain ⟨x,g,N⟩:=obind N;obtain ⟨φ,L,s,q⟩:=id C;exact (H s q g).mono λv j ⟨w,y,e,t⟩=>by subst e;exact K x w y j (join2 s q t) N
end
section
variable {ψ:CM} {h0 h:Heap} {os:List Ob} {α β γ δ ρ:Type}
abbrev nx {σ:Type} (b:σ->Jm (σ ⊕ ρ)) (m:Nat) (z:σ ⊕ ρ):Jm ρ:=match z with|.inl s'=>loopN b m s'|.inr r=>Jg r
abbrev lq1 (a:α) (h:Heap) (B:(Nat->α->Heap->Prop)->Nat->Env->α->Heap->Prop):Prop:=∃J:Nat->α->Heap->Prop,(∃n,J n a h)/\∀(n:Nat) (e:Env) (x:α) (h':Heap),J n x h'->B J n e x h'
abbrev lq2 (a:α) (b:β) (h:Heap) (B:(Nat->α->β->Heap->Prop)->Nat->Env->α->β->Heap->Prop):Prop:=∃J:Nat->α->β->Heap->Prop,(∃n,J n a b h)/\∀(n:Nat) (e:Env) (x:α) (y:β) (h':Heap),J n x y h'->B J n e x y h'
abbrev lq3 (a:α) (b:β) (c:γ) (h:Heap) (B:(Nat->α->β->γ->Heap->Prop)->Nat->Env->α->β->γ->Heap->Prop):Prop:=∃J:Nat->α->β->γ->Heap->Prop,(∃n,J n a b c h)/\∀(n:Nat) (e:Env) (x:α) (y:β) (z:γ) (h':Heap),J n x y z h'->B J n e x y z h'
theorem lp1 {B:(Nat->α->Heap->Prop)->Nat->Env->α->Heap->Prop} {b:α->Jm (α ⊕ ρ)} {a:α} {r:ρ} (N:loop b a=Jg r) (C:S ψ h0 h os)
  (H:∀{e} m x g z,S ψ h0 g os->b x=Jg z->nx b m z=Jg r->B (λn x h=>S ψ h0 h os/\loopN b n x=Jg r) (m+1) e x g):lq1 a h B:=by
 obtain ⟨n,f⟩:=ZP N;refine ⟨λn x h=>S ψ h0 h os/\loopN b n x=Jg r,⟨n,C,f⟩,λn _ x g ⟨C,f⟩=>?_⟩;obtain ⟨m,z,rfl,N,O⟩:=ZN f;exact H m x g z C N (by cases z<;>exact O)
theorem lp2 {B:(Nat->α->β->Heap->Prop)->Nat->Env->α->β->Heap->Prop} {b:α×β->Jm ((α×β) ⊕ ρ)} {a:α} {j:β} {r:ρ} (N:loop b (a,j)=Jg r) (C:S ψ h0 h os)
  (H:∀{e} m x y g z,S ψ h0 g os->b (x,y)=Jg z->nx b m z=Jg r->B (λn x y h=>S ψ h0 h os/\loopN b n (x,y)=Jg r) (m+1) e x y g):lq2 a j h B:=by
 obtain ⟨n,f⟩:=ZP N;refine ⟨λn x y h=>S ψ h0 h os/\loopN b n (x,y)=Jg r,⟨n,C,f⟩,λn _ x y g ⟨C,f⟩=>?_⟩;obtain ⟨m,z,rfl,N,O⟩:=ZN f;exact H m x y g z C N (by cases z<;>exact O)
theorem lp3 {B:(Nat->α->β->γ->Heap->Prop)->Nat->Env->α->β->γ->Heap->Prop} {b:α×β×γ->Jm ((α×β×γ) ⊕ ρ)} {a:α} {j:β} {c:γ} {r:ρ} (N:loop b (a,j,c)=Jg r) (C:S ψ h0 h os)
  (H:∀{e} m x y u g z,S ψ h0 g os->b (x,y,u)=Jg z->nx b m z=Jg r->B (λn x y u h=>S ψ h0 h os/\loopN b n (x,y,u)=Jg r) (m+1) e x y u g):lq3 a j c h B:=by
 obtain ⟨n,f⟩:=ZP N;refine ⟨λn x y u h=>S ψ h0 h os/\loopN b n (x,y,u)=Jg r,⟨n,C,f⟩,λn _ x y u g ⟨C,f⟩=>?_⟩;obtain ⟨m,z,rfl,N,O⟩:=ZN f;exact H m x y u g z C N (by cases z<;>exact O)
end
end Go.Vc
