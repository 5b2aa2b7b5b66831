import Derived.Test.YtahnjnfpjcfklaaGreatDoorVcS3
namespace Go.Vc
set_option linter.unusedVariables false
set_option linter.unusedSimpArgs false
open Go
section
variable {ψ:CM} {h0 h:Heap} {os:List Ob} {α ρ:Type}
abbrev eI:El Int:=El.int .i64
abbrev eL:El (List Int):=El.sl (El.int .i64)
abbrev oL:El (List Int):=El.ow (El.int .i64)
theorem nlS (C:S ψ h0 h os):S ψ h0 h []:=C.pick [] (by decide)
theorem pk (C:S ψ h0 h os) (is:List Nat) (a:is.Nodup:=by decide):S ψ h0 h (is.filterMap fun i=>os[i]?):=C.pick is a
theorem pkT (C:S ψ h0 h os) (n:Nat) (is:List Nat) (e:is.Nodup:=by decide) (a:∀ i∈is,i<n:=by decide):S ψ h0 h ((is.filterMap fun i=>os[i]?)++os.drop n):=C.pickT n is e a
theorem oI {a b:α} (h:some a=some b):a=b:=Option.some.inj h
theorem ltS {m:Nat}:m<m+1:=Nat.lt_succ_self _
theorem tZ {G:Prop} (h:G:=by first|(obtain rfl:=oI N;first|exact ⟨rfl,nlS C⟩|(obtain rfl:=oI O;exact ⟨rfl,nlS C⟩)|exact ⟨m,ltS,nlS C,O⟩)|exact ⟨nlS C,N⟩):G:=h
theorem brQ {c:Bool} {a b:Option ρ} {r:ρ} {A B:Prop} (N:(bif c then a else b)=some r) (g:a=some r->A) (e:b=some r->B):brn c A B:=bifP N (fun _=>g) (fun _=>e)
theorem kI {β:CM} {k:IntKind} {p a:Addr} {cs:List Value} {x:Int} {K:Int->Prop} (N:CellsC β p cs) (g:CLe β (hcell h)) (j:Nat) (o:K x) (l:a=p.add j:=by exact rfl) (e:cs[j]?=some (.int k x):=by exact rfl):ldI k h a K:=ldI_K (N.mono g) j l e o
theorem bI {k:IntKind} {b:Nat} {a:Addr} {cs:List Value} {x:Int} {K:Int->Prop} (C:S ψ h0 h os) (i j:Nat) (l:K x) (o:os[i]?=some (.box b cs):=by exact rfl) (g:a=Addr.add ⟨b,0,none⟩ j:=by exact rfl) (e:cs[j]?=some (.int k x):=by exact rfl):ldI k h a K:=ldI_K (C.cells i o) j g e l
theorem kV {β:CM} {p a:Addr} {cs:List Value} {x:Value} {K:Value->Prop} (N:CellsC β p cs) (g:CLe β (hcell h)) (j:Nat) (l:K x) (k:a=p.add j:=by exact rfl) (e:cs[j]?=some (x):=by exact rfl):ldV h a K:=ldV_K (N.mono g) j k e l
theorem bV {b:Nat} {a:Addr} {cs:List Value} {x:Value} {K:Value->Prop} (C:S ψ h0 h os) (i j:Nat) (k:K x) (l:os[i]?=some (.box b cs):=by exact rfl) (g:a=Addr.add ⟨b,0,none⟩ j:=by exact rfl) (e:cs[j]?=some (x):=by exact rfl):ldV h a K:=ldV_K (C.cells i l) j g e k
theorem bB {b:Nat} {a:Addr} {cs:List Value} {x:Bool} {K:Bool->Prop} (C:S ψ h0 h os) (i j:Nat) (k:K x) (l:os[i]?=some (.box b cs):=by exact rfl) (g:a=Addr.add ⟨b,0,none⟩ j:=by exact rfl) (e:cs[j]?=some (.bool x):=by exact rfl):ldB h a K:=ldB_K (C.cells i l) j g e k
theorem vL {φ a:CM} {E:El α} {v:Value} {xs:List α} {K:Nat->Prop} (e:SlC φ E v xs) (j:CLe φ a) (g:K xs.length):vLen v K:=Zy e g
theorem ixI {k:IntKind} {v:Value} {xs:List Int} {i:Int} {o:Int->Option ρ} {r:ρ} {K:Addr->Int->Prop} (g:SlC (hcell h) (El.int k) v xs) (N:(gIdx xs i).bind o=some r) (j:∀ {p} x,o x=some r->K p x):vIdx v i 1 fun p=>ldI k h p (K p):=by
 obtain ⟨x,a,N⟩:=obind N;exact ZV g a fun p e=>ldI_C g e a (j x N)
theorem ixV {β:CM} {E:El α} {v:Value} {xs:List (List α)} {i:Int} {o:List α->Option ρ} {r:ρ} {K:Addr->Value->Prop} (g:SlC β (El.sl E) v xs) (j:CLe β (hcell h)) (N:(gIdx xs i).bind o=some r) (k:∀ {p} x u,SlC β E u x->o x=some r->K p u):vIdx v i 1 fun p=>ldV h p (K p):=by
 obtain ⟨x,a,N⟩:=obind N;exact ZV g a fun p e=>ldV_C g j e a fun u f=>k x u f N
theorem ixS {v:Value} {xs:List ByteArray} {i:Int} {o:ByteArray->Option ρ} {r:ρ} {K:Addr->ByteArray->Prop} (g:SlC (hcell h) El.str v xs) (N:(gIdx xs i).bind o=some r) (j:∀ {p} x,o x=some r->K p x):vIdx v i 1 fun p=>ldS h p (K p):=by
 obtain ⟨x,a,N⟩:=obind N;exact ZV g a fun p e=>ldS_C g e a (j x N)
theorem ixA {φ:CM} {E:El α} {v:Value} {xs:List α} {i:Int} {z:Nat} {o:α->Option ρ} {r:ρ} {K:Addr->Prop} (g:SlC φ E v xs) (N:(gIdx xs i).bind o=some r) (j:∀ x p,AddrOf v i z p->gIdx xs i=some x->o x=some r->K p):vIdx v i z K:=by
 obtain ⟨x,a,N⟩:=obind N;exact ZV g a fun p e=>j x p e a N
theorem cl0 {P:Program} {f:FuncId} {j:Array Value} {R:Value->Heap->Prop} {c:Option α} {o:α->Option ρ} {r:ρ} {V:α->Value} (N:c.bind o=some r) (C:S ψ h0 h os)
  (H:∀ {φ L},S0 ψ h0 h φ L->Rel φ os L->∀ {x},c=some x->CallsH P f j h fun v g=>v=V x/\S φ h g []) (K:∀ x g,S ψ h0 g os->o x=some r->R (V x) g):CallsH P f j h R:=by
 obtain ⟨x,a,N⟩:=obind N;obtain ⟨φ,L,s,q⟩:=id C;exact (H s q a).mono fun v g ⟨e,t⟩=>by subst e;exact K x g (join0 s q t) N
theorem cl1 {P:Program} {f:FuncId} {k:Array Value} {R:Value->Heap->Prop} {c:Option α} {o:α->Option ρ} {r:ρ} {β:Type} {V:α->β->Value} {a:α->β->Ob} (N:c.bind o=some r) (C:S ψ h0 h os)
  (H:∀ {φ L},S0 ψ h0 h φ L->Rel φ os L->∀ {x},c=some x->CallsH P f k h fun v j=>∃ w,v=V x w/\S φ h j [a x w]) (K:∀ x w j,S ψ h0 j (a x w::os)->o x=some r->R (V x w) j):CallsH P f k h R:=by
 obtain ⟨x,g,N⟩:=obind N;obtain ⟨φ,L,s,q⟩:=id C;exact (H s q g).mono fun v j ⟨w,e,t⟩=>by subst e;exact K x w j (join1 s q t) N
theorem cl2 {P:Program} {f:FuncId} {k:Array Value} {R:Value->Heap->Prop} {c:Option α} {o:α->Option ρ} {r:ρ} {β γ:Type} {V:α->β->γ->Value} {a b:α->β->γ->Ob} (N:c.bind o=some r) (C:S ψ h0 h os)
  (H:∀ {φ L},S0 ψ h0 h φ L->Rel φ os L->∀ {x},c=some x->CallsH P f k h fun v j=>∃ w y,v=V x w y/\S φ h j [a x w y,b x w y]) (K:∀ x w y j,S ψ h0 j (a x w y::b x w y::os)->o x=some r->R (V x w y) j):CallsH P f k h R:=by
 obtain ⟨x,g,N⟩:=obind N;obtain ⟨φ,L,s,q⟩:=id C;exact (H s q g).mono fun v j ⟨w,y,e,t⟩=>by subst e;exact K x w y j (join2 s q t) N
end
section
variable {ψ:CM} {h0 h:Heap} {os:List Ob} {α β γ δ ρ:Type}
abbrev nx {σ:Type} (b:σ->Option (σ ⊕ ρ)) (m:Nat) (z:σ ⊕ ρ):Option ρ:=match z with|.inl s'=>loopN b m s'|.inr r=>some r
abbrev lq1 (a:α) (h:Heap) (B:(Nat->α->Heap->Prop)->Nat->Env->α->Heap->Prop):Prop:=∃ J:Nat->α->Heap->Prop,(∃ n,J n a h)/\∀ (n:Nat) (e:Env) (x:α) (h':Heap),J n x h'->B J n e x h'
abbrev lq2 (a:α) (b:β) (h:Heap) (B:(Nat->α->β->Heap->Prop)->Nat->Env->α->β->Heap->Prop):Prop:=∃ J:Nat->α->β->Heap->Prop,(∃ n,J n a b h)/\∀ (n:Nat) (e:Env) (x:α) (y:β) (h':Heap),J n x y h'->B J n e x y h'
theorem lp1 {B:(Nat->α->Heap->Prop)->Nat->Env->α->Heap->Prop} {b:α->Option (α ⊕ ρ)} {a:α} {r:ρ} (N:loop b a=some r) (C:S ψ h0 h os)
  (H:∀ {e} m x g z,S ψ h0 g os->b x=some z->nx b m z=some r->B (fun n x h=>S ψ h0 h os/\loopN b n x=some r) (m+1) e x g):lq1 a h B:=by
 obtain ⟨n,f⟩:=ZN N;refine ⟨fun n x h=>S ψ h0 h os/\loopN b n x=some r,⟨n,C,f⟩,fun n _ x g ⟨C,f⟩=>?_⟩;obtain ⟨m,z,rfl,N,O⟩:=ZM f;exact H m x g z C N (by cases z<;>exact O)
theorem lp2 {B:(Nat->α->β->Heap->Prop)->Nat->Env->α->β->Heap->Prop} {b:α×β->Option ((α×β) ⊕ ρ)} {a:α} {j:β} {r:ρ} (N:loop b (a,j)=some r) (C:S ψ h0 h os)
  (H:∀ {e} m x y g z,S ψ h0 g os->b (x,y)=some z->nx b m z=some r->B (fun n x y h=>S ψ h0 h os/\loopN b n (x,y)=some r) (m+1) e x y g):lq2 a j h B:=by
 obtain ⟨n,f⟩:=ZN N;refine ⟨fun n x y h=>S ψ h0 h os/\loopN b n (x,y)=some r,⟨n,C,f⟩,fun n _ x y g ⟨C,f⟩=>?_⟩;obtain ⟨m,z,rfl,N,O⟩:=ZM f;exact H m x y g z C N (by cases z<;>exact O)
end
end Go.Vc
