import Derived.Test.YtghbgeaammnkcaaGreatDoorVcS3
namespace Go.Vc
set_option linter.unusedVariables false
set_option linter.unusedSimpArgs false
open Go
section
variable {ψ:CM} {h0 h:Heap} {os:List Ob} {α ρ:Type}
abbrev eI:El Int:=El.int .i64
abbrev eL:El (List Int):=El.sl (El.int .i64)
abbrev oL:El (List Int):=El.ow (El.int .i64)
theorem nlS (C:S ψ h0 h os):S ψ h0 h []:=C.pick [] (by decide)
theorem pk (C:S ψ h0 h os) (is:List Nat) (hnd:is.Nodup:=by decide):S ψ h0 h (is.filterMap fun i=>os[i]?):=C.pick is hnd
theorem pkT (C:S ψ h0 h os) (n:Nat) (is:List Nat) (hnd:is.Nodup:=by decide) (a:∀ i∈is,i<n:=by decide):S ψ h0 h ((is.filterMap fun i=>os[i]?)++os.drop n):=C.pickT n is hnd a
theorem oI {a b:α} (h:some a=some b):a=b:=Option.some.inj h
theorem ltS {m:Nat}:m<m+1:=Nat.lt_succ_self _
theorem tZ {G:Prop} (h:G:=by first|(obtain rfl:=oI D;first|exact ⟨rfl,nlS C⟩|(obtain rfl:=oI I;exact ⟨rfl,nlS C⟩)|exact ⟨m,ltS,nlS C,I⟩)|exact ⟨nlS C,D⟩):G:=h
theorem brQ {c:Bool} {a b:Option ρ} {r:ρ} {A B:Prop} (D:(bif c then a else b)=some r) (ha:a=some r→A) (e:b=some r→B):bif c then A else B:=bifP D (fun _=>ha) (fun _=>e)
theorem brR {c:Bool} {a b:Option ρ} {r:ρ} {A B:Prop} (D:(bif c then a else b)=some r) (e:b=some r→B) (ha:a=some r→A):bif c then A else B:=bifP D (fun _=>ha) (fun _=>e)
theorem kI {β:CM} {k:IntKind} {p a:Addr} {cs:List Value} {x:Int} {K:Int→Prop} (D:CellsC β p cs) (hle:CLe β (hcell h)) (j:Nat) (hk:K x) (ha:a=p.add j:=by exact rfl) (b:cs[j]?=some (.int k x):=by exact rfl):ldI k h a K:=ldI_K (D.mono hle) j ha b hk
theorem bI {k:IntKind} {b:Nat} {a:Addr} {cs:List Value} {x:Int} {K:Int→Prop} (C:S ψ h0 h os) (i j:Nat) (hk:K x) (ho:os[i]?=some (.box b cs):=by exact rfl) (ha:a=Addr.add ⟨b,0,none⟩ j:=by exact rfl) (c:cs[j]?=some (.int k x):=by exact rfl):ldI k h a K:=ldI_K (C.cells i ho) j ha c hk
theorem kV {β:CM} {p a:Addr} {cs:List Value} {x:Value} {K:Value→Prop} (D:CellsC β p cs) (hle:CLe β (hcell h)) (j:Nat) (hk:K x) (ha:a=p.add j:=by exact rfl) (b:cs[j]?=some (x):=by exact rfl):ldV h a K:=ldV_K (D.mono hle) j ha b hk
theorem bV {b:Nat} {a:Addr} {cs:List Value} {x:Value} {K:Value→Prop} (C:S ψ h0 h os) (i j:Nat) (hk:K x) (ho:os[i]?=some (.box b cs):=by exact rfl) (ha:a=Addr.add ⟨b,0,none⟩ j:=by exact rfl) (c:cs[j]?=some (x):=by exact rfl):ldV h a K:=ldV_K (C.cells i ho) j ha c hk
theorem vL {φ φ':CM} {E:El α} {v:Value} {xs:List α} {K:Nat→Prop} (ha:SlC φ E v xs) (hle:CLe φ φ') (hk:K xs.length):vLen v K:=Zu ha hk
theorem ixI {k:IntKind} {v:Value} {xs:List Int} {i:Int} {o:Int→Option ρ} {r:ρ} {K:Int→Prop} (ha:SlC (hcell h) (El.int k) v xs) (D:(gIdx xs i).bind o=some r) (hk:∀ x,o x=some r→K x):vIdx v i 1 fun p=>ldI k h p K:=by
 obtain ⟨x,a,D⟩:=obind D
 exact Zaq ha a fun p b=>ldI_C ha b a (hk x D)
theorem ixV {β:CM} {E:El α} {v:Value} {xs:List (List α)} {i:Int} {o:List α→Option ρ} {r:ρ} {K:Value→Prop} (ha:SlC β (El.sl E) v xs) (hle:CLe β (hcell h)) (D:(gIdx xs i).bind o=some r) (hk:∀ x u,SlC β E u x→o x=some r→K u):vIdx v i 1 fun p=>ldV h p K:=by
 obtain ⟨x,a,D⟩:=obind D
 exact Zaq ha a fun p b=>ldV_C ha hle b a fun u f=>hk x u f D
theorem ixS {v:Value} {xs:List ByteArray} {i:Int} {o:ByteArray→Option ρ} {r:ρ} {K:ByteArray→Prop} (ha:SlC (hcell h) El.str v xs) (D:(gIdx xs i).bind o=some r) (hk:∀ x,o x=some r→K x):vIdx v i 1 fun p=>ldS h p K:=by
 obtain ⟨x,a,D⟩:=obind D
 exact Zaq ha a fun p b=>ldS_C ha b a (hk x D)
theorem ixA {φ:CM} {E:El α} {v:Value} {xs:List α} {i:Int} {z:Nat} {o:α→Option ρ} {r:ρ} {K:Addr→Prop} (ha:SlC φ E v xs) (D:(gIdx xs i).bind o=some r) (hk:∀ x p,AddrOf v i z p→gIdx xs i=some x→o x=some r→K p):vIdx v i z K:=by
 obtain ⟨x,a,D⟩:=obind D
 exact Zaq ha a fun p b=>hk x p b a D
theorem cl0 {P:Program} {f:FuncId} {args:Array Value} {R:Value→Heap→Prop} {c:Option α} {o:α→Option ρ} {r:ρ} {V:α→Value} (D:c.bind o=some r) (C:S ψ h0 h os)
  (H:∀ {φ L},S0 ψ h0 h φ L→Rel φ os L→∀ {x},c=some x→CallsH P f args h fun v h'=>v=V x∧S φ h h' []) (K:∀ x h',S ψ h0 h' os→o x=some r→R (V x) h'):CallsH P f args h R:=by
 obtain ⟨x,a,D⟩:=obind D
 obtain ⟨φ,L,s,q⟩:=id C
 exact (H s q a).mono fun v h' ⟨e,t⟩=>by subst e;exact K x h' (join0 s q t) D
theorem cl1 {P:Program} {f:FuncId} {args:Array Value} {R:Value→Heap→Prop} {c:Option α} {o:α→Option ρ} {r:ρ} {β:Type} {V:α→β→Value} {a:α→β→Ob} (D:c.bind o=some r) (C:S ψ h0 h os)
  (H:∀ {φ L},S0 ψ h0 h φ L→Rel φ os L→∀ {x},c=some x→CallsH P f args h fun v h'=>∃ w,v=V x w∧S φ h h' [a x w]) (K:∀ x w h',S ψ h0 h' (a x w::os)→o x=some r→R (V x w) h'):CallsH P f args h R:=by
 obtain ⟨x,b,D⟩:=obind D
 obtain ⟨φ,L,s,q⟩:=id C
 exact (H s q b).mono fun v h' ⟨w,e,t⟩=>by subst e;exact K x w h' (join1 s q t) D
theorem cl2 {P:Program} {f:FuncId} {args:Array Value} {R:Value→Heap→Prop} {c:Option α} {o:α→Option ρ} {r:ρ} {β γ:Type} {V:α→β→γ→Value} {a b:α→β→γ→Ob} (D:c.bind o=some r) (C:S ψ h0 h os)
  (H:∀ {φ L},S0 ψ h0 h φ L→Rel φ os L→∀ {x},c=some x→CallsH P f args h fun v h'=>∃ w y,v=V x w y∧S φ h h' [a x w y,b x w y]) (K:∀ x w y h',S ψ h0 h' (a x w y::b x w y::os)→o x=some r→R (V x w y) h'):CallsH P f args h R:=by
 obtain ⟨x,g,D⟩:=obind D
 obtain ⟨φ,L,s,q⟩:=id C
 exact (H s q g).mono fun v h' ⟨w,y,e,t⟩=>by subst e;exact K x w y h' (join2 s q t) D
end
section
variable {ψ:CM} {h0 h:Heap} {os:List Ob} {α β γ δ ρ:Type}
abbrev nx {σ:Type} (b:σ→Option (σ ⊕ ρ)) (m:Nat) (z:σ ⊕ ρ):Option ρ:=match z with|.inl s'=>loopN b m s'|.inr r=>some r
abbrev lq1 (a:α) (h:Heap) (B:(Nat→α→Heap→Prop)→Nat→α→Heap→Prop):Prop:=∃ J:Nat→α→Heap→Prop,(∃ n,J n a h)∧∀ (n:Nat) (_:Env) (x:α) (h':Heap),J n x h'→B J n x h'
abbrev lq2 (a:α) (b:β) (h:Heap) (B:(Nat→α→β→Heap→Prop)→Nat→α→β→Heap→Prop):Prop:=∃ J:Nat→α→β→Heap→Prop,(∃ n,J n a b h)∧∀ (n:Nat) (_:Env) (x:α) (y:β) (h':Heap),J n x y h'→B J n x y h'
abbrev lq3 (a:α) (b:β) (c:γ) (h:Heap) (B:(Nat→α→β→γ→Heap→Prop)→Nat→α→β→γ→Heap→Prop):Prop:=∃ J:Nat→α→β→γ→Heap→Prop,(∃ n,J n a b c h)∧∀ (n:Nat) (_:Env) (x:α) (y:β) (z:γ) (h':Heap),J n x y z h'→B J n x y z h'
abbrev lq4 (a:α) (b:β) (c:γ) (d:δ) (h:Heap) (B:(Nat→α→β→γ→δ→Heap→Prop)→Nat→α→β→γ→δ→Heap→Prop):Prop:=∃ J:Nat→α→β→γ→δ→Heap→Prop,(∃ n,J n a b c d h)∧∀ (n:Nat) (_:Env) (x:α) (y:β) (z:γ) (u:δ) (h':Heap),J n x y z u h'→B J n x y z u h'
abbrev ag1 (J:Nat→α→Heap→Prop) (n:Nat) (a:α) (h:Heap):Prop:=∃ m,m<n∧J m a h
abbrev ag2 (J:Nat→α→β→Heap→Prop) (n:Nat) (a:α) (b:β) (h:Heap):Prop:=∃ m,m<n∧J m a b h
abbrev ag3 (J:Nat→α→β→γ→Heap→Prop) (n:Nat) (a:α) (b:β) (c:γ) (h:Heap):Prop:=∃ m,m<n∧J m a b c h
abbrev ag4 (J:Nat→α→β→γ→δ→Heap→Prop) (n:Nat) (a:α) (b:β) (c:γ) (d:δ) (h:Heap):Prop:=∃ m,m<n∧J m a b c d h
theorem lp1 {B:(Nat→α→Heap→Prop)→Nat→α→Heap→Prop} {b:α→Option (α ⊕ ρ)} {a:α} {r:ρ} (D:loop b a=some r) (C:S ψ h0 h os)
  (H:∀ m x h' z,S ψ h0 h' os→b x=some z→nx b m z=some r→B (fun n x h=>S ψ h0 h os∧loopN b n x=some r) (m+1) x h'):lq1 a h B:=by
 obtain ⟨n,c⟩:=Zi D
 refine ⟨fun n x h=>S ψ h0 h os∧loopN b n x=some r,⟨n,C,c⟩,fun n _ x h' ⟨C,c⟩=>?_⟩
 obtain ⟨m,z,rfl,D,I⟩:=Zh c
 exact H m x h' z C D (by cases z<;>exact I)
theorem lp2 {B:(Nat→α→β→Heap→Prop)→Nat→α→β→Heap→Prop} {b:α×β→Option ((α×β) ⊕ ρ)} {a:α} {a':β} {r:ρ} (D:loop b (a,a')=some r) (C:S ψ h0 h os)
  (H:∀ m x y h' z,S ψ h0 h' os→b (x,y)=some z→nx b m z=some r→B (fun n x y h=>S ψ h0 h os∧loopN b n (x,y)=some r) (m+1) x y h'):lq2 a a' h B:=by
 obtain ⟨n,c⟩:=Zi D
 refine ⟨fun n x y h=>S ψ h0 h os∧loopN b n (x,y)=some r,⟨n,C,c⟩,fun n _ x y h' ⟨C,c⟩=>?_⟩
 obtain ⟨m,z,rfl,D,I⟩:=Zh c
 exact H m x y h' z C D (by cases z<;>exact I)
end
end Go.Vc
