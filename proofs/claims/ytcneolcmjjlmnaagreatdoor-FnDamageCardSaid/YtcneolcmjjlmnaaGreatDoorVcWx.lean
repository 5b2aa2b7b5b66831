import Derived.Test.YtcneolcmjjlmnaaGreatDoorVcLw
import Derived.Test.YtcneolcmjjlmnaaGreatDoorVcMap
import Derived.KernelRfl
open Nat renaming lt_or_ge->J9
open List renaming getElem?_eq_none->Xv,getElem?_set_self->Xe,getElem?_set_ne->Xo,length_cons->Jy,ext_getElem?->Xa,length->Jk
open Option renaming some->Jg
open Go renaming Value->Jl
namespace Go.Vc
set_option linter.unusedVariables false
set_option linter.unusedSimpArgs false
open Go
class Kn (f:Nat) (Q:outParam Prop):Prop where
  p:Q
theorem kn {P:Program} {f:Nat} {Q:Prop} [k:Kn f Q] {a:Array Jl} {h:Heap} {R:Jl->Heap->Prop} (H:Q->CallsH P f a h R):CallsH P f a h R:=H k.p
section
variable {ψ:CM} {h0 h:Heap} {os:List Ob} {α ρ:Type}
section
variable {β:Type} {a b c d e f g i j k l m:β} {z:List β}
theorem gax0:(a::z)[0]?=Jg a:=rfl
theorem gax1:(a::b::z)[1]?=Jg b:=rfl
theorem gax2:(a::b::c::z)[2]?=Jg c:=rfl
theorem gax3:(a::b::c::d::z)[3]?=Jg d:=rfl
theorem gax4:(a::b::c::d::e::z)[4]?=Jg e:=rfl
theorem gax5:(a::b::c::d::e::f::z)[5]?=Jg f:=rfl
theorem gax6:(a::b::c::d::e::f::g::z)[6]?=Jg g:=rfl
theorem gax7:(a::b::c::d::e::f::g::i::z)[7]?=Jg i:=rfl
theorem gax8:(a::b::c::d::e::f::g::i::j::z)[8]?=Jg j:=rfl
theorem gax9:(a::b::c::d::e::f::g::i::j::k::z)[9]?=Jg k:=rfl
end
theorem gaxP {β:Type} {cs:List β} {i:Nat} {o:β} (h:cs[i]?=Jg o:=by first|exact gax0|exact gax1|exact gax2|exact gax3|exact gax4|exact gax5|exact gax6|exact gax7|exact gax8|exact gax9|fail):cs[i]?=Jg o:=h
theorem slW {G:Prop} (h:G:=by first
  | exact SlC.mono C.le (by assumption)
  | exact C.rdL _ gatP frzA
  | exact C.rdF _ gatP
  | exact CellsC.mono C.le (by assumption)
  | exact SlC.mono C.leU (by assumption)
  | exact SlC.mono C.leF (by assumption)
  | exact CellsC.mono C.leF (by assumption)
  | exact CellsC.mono C.leU (by assumption)
  | assumption
  | exact C.cells _ gatP
  | exact CellsC.part 0 3 (CellsC.mono C.le (by assumption))
  | exact CellsC.part 1 3 (CellsC.mono C.le (by assumption))
  | exact rwW (by assumption) C gatP (by assumption) frzA
  | exact SlC.mono stR.le (by assumption)
  | exact stR.rdL _ gatP frzA
  | exact stR.rdF _ gatP
  | exact SlC.nil
  | fail):G:=h
theorem arW {G:Prop} (h:G:=by first
  | exact slW
  | exact SlC.mono s.bas (by assumption)
  | exact SlC.mono s.ubU (by assumption)
  | exact hL.ext s.ext
  | kernel_rfl
  | fail):G:=h
theorem b2W {v:Jl} {xs:Jb} {o:Jd->Jm ρ} {r:ρ} {K:Jd->Prop} (u:SlC (hcell h) (El.int .u8) v xs) (D:(gByt xs).bind o=Jg r) (k:∀c,o c=Jg r->K c):vB2S v h K:=by
  obtain ⟨c,g,D⟩:=obind D;exact b2s_S u g (k c D)
theorem vcW {E:El α} {v:Jl} {xs:List α} {z:Nat} {a b:Int} {o:List α->Jm ρ} {r:ρ} {K:Jl->Prop} (x:SlC (hcell h) E v xs) (D:(gSl xs a b).bind o=Jg r) (k:∀u w,SlC (hcell h) E u w->o w=Jg r->K u) (hz:E.z=z:=by first|exact rfl|fail):vSliceS v z (Jg (.int .i64 a)) (Jg (.int .i64 b)) none K:=by
  obtain ⟨c,g,D⟩:=obind D;exact Zey (Jg a) (Jg b) x g hz λu f=>k u c f D
theorem vcX {E:El α} {v:Jl} {xs:List α} {z:Nat} {a:Int} {o:List α->Jm ρ} {r:ρ} {K:Jl->Prop} (x:SlC (hcell h) E v xs) (D:(gSl xs a (Jk xs)).bind o=Jg r) (k:∀u w,SlC (hcell h) E u w->o w=Jg r->K u) (hz:E.z=z:=by first|exact rfl|fail):vSliceS v z (Jg (.int .i64 a)) none none K:=by
  obtain ⟨c,g,D⟩:=obind D;exact Zey (Jg a) none x g hz λu f=>k u c f D
theorem vcY {E:El α} {v:Jl} {xs:List α} {z:Nat} {b:Int} {o:List α->Jm ρ} {r:ρ} {K:Jl->Prop} (x:SlC (hcell h) E v xs) (D:(gSl xs 0 b).bind o=Jg r) (k:∀u w,SlC (hcell h) E u w->o w=Jg r->K u) (hz:E.z=z:=by first|exact rfl|fail):vSliceS v z none (Jg (.int .i64 b)) none K:=by
  obtain ⟨c,g,D⟩:=obind D;exact Zey none (Jg b) x g hz λu f=>k u c f D
theorem apW {E:El α} {bytes z:Nat} {zero:Jc} {el:TypeId} {v u:Jl} {xs ys:List α} {o:List α->Jm ρ} {r:ρ} {i:Nat} {K:Jl->Heap->Prop} (D:(gApp bytes xs ys).bind o=Jg r) (C:S ψ h0 h os) (ho:os[i]?=Jg (.it (El.ow E) [v] xs)) (O:Src ψ h0 h os E u ys)
    (hk:∀zs x h',S ψ h0 h' (os.set i (.it (El.ow E) [x] zs))->o zs=Jg r->K x h') (hz:E.z=z:=by first|exact rfl|fail) (w:Jk zero=z:=by first|exact rfl|fail):vAppend z bytes zero el v u h K:=by
  obtain ⟨zs,g,D⟩:=obind D;exact app_S C i ho O hz w g λx h' s=>hk zs x h' s D
theorem plA {E:El α} (h:Plain E:=by first|exact Zcy _|exact ZHF|exact ZJ2|fail):Plain E:=h
theorem srW {E:El α} {u:Jl} {o:List α} (s:Src ψ h0 h os E u o:=by first|exact Znu _ gatP|exact ZdE plA slW|exact ZNG _ gatP (ZNN plA)|fail):Src ψ h0 h os E u o:=s
theorem puW {E:El α} {bytes z:Nat} {zero cs:Jc} {t el:TypeId} {v:Jl} {xs:List α} {y:α} {o:List α->Jm ρ} {r:ρ} {i:Nat} {K:Jl->Heap->Jl->Heap->Prop} (D:(gApp bytes xs [y]).bind o=Jg r) (s:S ψ h0 h os) (ho:os[i]?=Jg (.it (El.ow E) [v] xs))
    (hk:∀{u h1} zs v' x,S ψ h0 x (os.set i (.it (El.ow E) [v'] zs))->o zs=Jg r->K u h1 v' x) (hy:∀φ,E.R φ [] cs y:=by first|exact fun _=>⟨rfl,rfl⟩|fail) (hz:E.z=z:=by first|exact rfl|fail) (w:Jk zero=z:=by first|exact rfl|fail):vNewS h (.cells cs.toArray t) 1 λu x=>vAppend z bytes zero el v u x (K u x):=by
  obtain ⟨zs,g,D⟩:=obind D;exact ZcA s i ho hy hz w g λv' x s=>hk zs v' x s D
theorem roW {E E':El α} {bytes z:Nat} {zero:Jc} {t el:TypeId} {v w:Jl} {xs:List (List α)} {y:List α} {o:List (List α)->Jm ρ} {r:ρ} {i j:Nat} {K:Jl->Heap->Jl->Heap->Prop} (D:(gApp bytes xs [y]).bind o=Jg r) (s:S ψ h0 h os) (ho:os[i]?=Jg (.it (El.ow (El.sl E)) [v] xs)) (hj:os[j]?=Jg (.it (El.ow E') [w] y))
    (hk:∀{u h1} zs v' h',S ψ h0 h' ((os.set j (.it (El.sl E) [w] y)).set i (.it (El.ow (El.sl E)) [v'] zs))->o zs=Jg r->K u h1 v' h') (hf:Frz (El.ow E') (El.sl E):=by first|exact frzA|fail) (a6:j≠i:=by first|decide|fail) (hz:1=z:=by first|exact rfl|fail) (x:Jk zero=z:=by first|exact rfl|fail):vNewS h (.cells [w].toArray t) 1 λu h'=>vAppend z bytes zero el v u h' (K u h'):=by
  obtain ⟨zs,g,D⟩:=obind D;have lt:j<Jk os:=by
    rcases J9 j (Jk os) with h|h
    . exact h
    . rw [Xv h] at hj;cases hj
  have s1:=(s.freeze j hj hf).copyF j (by rw [Xe lt]);exact Zcn s1 i (by rw [Xo a6];exact ho) hz x g λv' h' s=>hk zs v' h' s D
theorem rfW {E:El α} {bytes z:Nat} {zero:Jc} {t el:TypeId} {v w:Jl} {xs:List (List α)} {y:List α} {o:List (List α)->Jm ρ} {r:ρ} {i j:Nat} {K:Jl->Heap->Jl->Heap->Prop} (D:(gApp bytes xs [y]).bind o=Jg r) (s:S ψ h0 h os) (ho:os[i]?=Jg (.it (El.ow (El.sl E)) [v] xs)) (hj:os[j]?=Jg (.it (El.sl E) [w] y))
    (hk:∀{u h1} zs v' h',S ψ h0 h' (os.set i (.it (El.ow (El.sl E)) [v'] zs))->o zs=Jg r->K u h1 v' h') (hz:1=z:=by first|exact rfl|fail) (x:Jk zero=z:=by first|exact rfl|fail):vNewS h (.cells [w].toArray t) 1 λu h'=>vAppend z bytes zero el v u h' (K u h'):=by
  obtain ⟨zs,g,D⟩:=obind D;exact Zcn (s.copyF j hj) i ho hz x g λv' h' s=>hk zs v' h' s D
theorem gnA {b:Int} {o:Unit->Jm ρ} {r:ρ} {B:Prop} (D:(gNn b).bind o=Jg r) (k:o ()=Jg r->B):0<=b/\B:=by
  obtain ⟨_,s,D⟩:=obind D;exact ⟨Zz6 s,k D⟩
inductive LitI:Jc->Jb->Prop where
  | n:LitI [] []
  | c {x:Int} {cs:Jc} {xs:Jb}:LitI cs xs->LitI (.int .i64 x::cs) (x::xs)
theorem LitI.all {φ:CM}:∀{cs:Jc} {xs:Jb},LitI cs xs->AllR φ eI [] (cs.map λc=>[c]) xs
  | _,_,.n=>rfl
  | _,_,.c l=>⟨[],[],rfl,⟨rfl,rfl⟩,l.all⟩
theorem LitI.flat (cs:Jc):(cs.map λc=>[c]).flatten=cs:=by
  induction cs with
  | nil=>rfl
  | cons c cs o=>rw [List.map_cons,List.flatten_cons,o];rfl
theorem LitI.len:∀{cs:Jc} {xs:Jb},LitI cs xs->Jk xs=Jk cs
  | _,_,.n=>rfl
  | _,_,.c l=>by rw [Jy,Jy,l.len]
theorem liW {cs:Jc} {xs:Jb} {t:TypeId} {n:Nat} {K:Jl->Heap->Prop} (l:LitI cs xs) (C:S ψ h0 h os) (o:Jk cs=n) (w:∀v u,S ψ h0 u (.it (El.ow eI) [v] xs::os)->K v u):vNewS h (.cells cs.toArray t) n K:=
  ZW C (λ_=>l.all) (LitI.flat cs) (l.len.trans o) w
theorem stW {E:El α} {v c:Jl} {xs:List α} {k:Int} {y x0:α} {p:Addr} {i:Nat} {K:Heap->Prop} (N:AddrOf v k 1 p) (C:S ψ h0 h os) (ho:os[i]?=Jg (.it (El.ow E) [v] xs)) (hk:gIdx xs k=Jg x0)
    (hK:∀h',S ψ h0 h' (os.set i (.it (El.ow E) [v] (xs.set k.toNat y)))->K h') (hz:E.z=1:=by exact rfl) (hy:∀φ,E.R φ [] [c] y:=by exact fun _=>⟨rfl,rfl⟩):vStore1 h p c K:=st1_S C i ho N hk hz hy hK
theorem srwW {E:El α} {v u o:Jl} {xss:List (List α)} {i j:Int} {xs:List α} {x0 y:α} {q:Addr} {k:Nat} {K:Heap->Prop} (s:AddrOf u j 1 q) (w:Hd h v i u) (C:S ψ h0 h os) (ho:os[k]?=Jg (.it (El.ow (El.ow E)) [v] xss)) (x:gIdx xss i=Jg xs) (hj:gIdx xs j=Jg x0)
    (hK:∀h',S ψ h0 h' (os.set k (.it (El.ow (El.ow E)) [v] (xss.set i.toNat (xs.set j.toNat y))))->K h') (hz:E.z=1:=by exact rfl) (hy:∀φ,E.R φ [] [o] y:=by exact fun _=>⟨rfl,rfl⟩):vStore1 h q o K:=Zk1 C k ho w x s hj hz hy hK
theorem rwW {E E':El α} {v u:Jl} {w:List (List α)} {i:Int} {xs:List α} {k:Nat} (o:Hd h v i u) (C:S ψ h0 h os) (x:os[k]?=Jg (.it (El.ow (El.ow E)) [v] w)) (s:gIdx w i=Jg xs) (hf:Frz E E'):SlC (hcell h) E' u xs:=C.rowC k x o s hf
theorem lcI {k:IntKind} {v:Jl} {xs:Jb} {i x:Int} {p:Addr} {K:Int->Prop} (N:AddrOf v i 1 p) (u:SlC (hcell h) (El.int k) v xs) (hi:gIdx xs i=Jg x) (o:K x):ldI k h p K:=ldI_C u N hi o
theorem lcB {v:Jl} {xs:List Bool} {i:Int} {x:Bool} {p:Addr} {K:Bool->Prop} (N:AddrOf v i 1 p) (u:SlC (hcell h) El.bool v xs) (hi:gIdx xs i=Jg x) (o:K x):ldB h p K:=ldB_C u N hi o
theorem lcS {v:Jl} {xs:List Jd} {i:Int} {x:Jd} {p:Addr} {K:Jd->Prop} (N:AddrOf v i 1 p) (u:SlC (hcell h) El.str v xs) (hi:gIdx xs i=Jg x) (o:K x):ldS h p K:=ldS_C u N hi o
theorem lcV {E:El α} {v:Jl} {xs:List (List α)} {i:Int} {x:List α} {p:Addr} {K:Jl->Prop} (N:AddrOf v i 1 p) (w:SlC (hcell h) (El.sl E) v xs) (hi:gIdx xs i=Jg x) (o:∀u,SlC (hcell h) E u x->K u):ldV h p K:=ldV_C w (CLe.refl _) N hi o
theorem onW {v:Jl} {A B:Prop} (h:v.oneCell'=true) (k:A):(match v.oneCell' with|true=>A|false=>B):=by rw [h];exact k
theorem pcA {G:Prop} (h:G:=by first|exact SlC.mono s.ubU (by assumption)|exact SlC.mono s.bas (by assumption)|exact (frF rl _ gatP).mono s.ubF|kernel_rfl|fail):G:=h
theorem pcW {P:Program} {f:FuncId} {u:Array Jl} {as:Jc} {R:Jl->Heap->Prop} {o i:Nat} {cs:Jc} (C:S ψ h0 h os) (e:u.toList=.pointer (Jg ⟨o,0,none⟩)::as) (w:os[i]?=Jg (.box o cs)) (k:S ψ h0 h (.box o cs::os.eraseIdx i)->CallsH P f u h R):CallsH P f u h R:=k (C.sel (.c w .r))
theorem piW {E:El α} {bytes z:Nat} {zero cs:Jc} {t el:TypeId} {v:Jl} {xs:List α} {y:α} {o:List α->Jm ρ} {r:ρ} {i j:Nat} {K:Jl->Heap->Jl->Heap->Prop} (D:(gApp bytes xs [y]).bind o=Jg r) (s:S ψ h0 h os) (hj:os[j]?=Jg (.it E cs y)) (ho:(os.eraseIdx j)[i]?=Jg (.it (El.ow E) [v] xs))
    (hk:∀{u h1} zs v' x,S ψ h0 x ((os.eraseIdx j).set i (.it (El.ow E) [v'] zs))->o zs=Jg r->K u h1 v' x) (hz:E.z=z:=by first|exact rfl|fail) (w:Jk zero=z:=by first|exact rfl|fail):vNewS h (.cells cs.toArray t) 1 λu x=>vAppend z bytes zero el v u x (K u x):=by
  obtain ⟨zs,g,D⟩:=obind D;exact Zcn (s.sel (.c hj .r)) i ho hz w g λv' x s=>hk zs v' x s D
theorem nfW {E:El α} {w:Jl} {y:List α} {j:Nat} {t:TypeId} {K:Jl->Heap->Prop} (s:S ψ h0 h os) (o:os[j]?=Jg (.it (El.ow E) [w] y)) (x:∀v u,S ψ h0 u (.it (El.ow (El.sl E)) [v] [y]::os.set j (.it (El.sl E) [w] y))->K v u) (hf:Frz (El.ow E) (El.sl E):=by first|exact frzA|fail):vNewS h (.cells #[w] t) 1 K:=by
  have lt:j<Jk os:=by
    rcases J9 j (Jk os) with h|h
    . exact h
    . rw [Xv h] at o;cases o
  exact Zcp ((s.freeze j o hf).copyF j (by rw [Xe lt])) x
theorem ncW {E:El α} {w:Jl} {y:List α} {j:Nat} {t:TypeId} {K:Jl->Heap->Prop} (s:S ψ h0 h os) (x:os[j]?=Jg (.it (El.sl E) [w] y)) (u:∀v o,S ψ h0 o (.it (El.ow (El.sl E)) [v] [y]::os)->K v o):vNewS h (.cells #[w] t) 1 K:=Zcp (s.copyF j x) u
theorem idW {P:Program} {f:FuncId} {o:Array Jl} {R:Jl->Heap->Prop} (k:CallsH P f o h R):CallsH P f o h R:=k
theorem caW {P:Program} {f:FuncId} {w:Array Jl} {R:Jl->Heap->Prop} {c:Jm α} {o:α->Jm ρ} {r:ρ} {Q:α->CM->Jl->Heap->Prop} (N:c.bind o=Jg r) (C:S ψ h0 h os)
    (H:∀{φ L},S0 ψ h0 h φ L->∀{x},c=Jg x->CallsH P f w h (Q x φ)) (K:∀{φ L} x v h',S0 ψ h0 h φ L->Rel φ os L->Q x φ v h'->o x=Jg r->R v h'):CallsH P f w h R:=by
  obtain ⟨x,u,N⟩:=obind N;obtain ⟨φ,L,s,q⟩:=id C;exact (H s u).mono λv h' t=>K x v h' s q t N
theorem joinW {φ:CM} {L:Rws} {u:Heap} {o:List Ob} (s:S0 ψ h0 h φ L) (r:Rel φ os L) (t:S φ h u o):S ψ h0 u (o++os):=joinS s r t
theorem ixC {φ:CM} {E:El α} {v:Jl} {xs:List α} {i:Int} {o:α->Jm ρ} {r:ρ} {K:Addr->Prop} {z:Nat} (ha:SlC φ E v xs) (N:(gIdx xs i).bind o=Jg r) (hk:∀x p cs,CellsC φ p cs->E.R φ [] cs x->o x=Jg r->K p) (hz:E.z=z:=by first|exact rfl|fail):vIdx v i z K:=by
  obtain ⟨x,s,N⟩:=obind N;exact ZS ha s λp u=>by
    obtain ⟨cs,w,hr⟩:=ha.cells u s hz;exact hk x p cs w hr N
theorem Zao {β:Type 1} {os:List β} {i:Nat} {o:β} (h:os[i]?=Jg o):os.set i o=os:=by
  apply Xa;intro j;by_cases e:i=j
  . subst e;have lt:i<Jk os:=by
      rcases J9 i (Jk os) with h'|h'
      . exact h'
      . rw [Xv h'] at h;cases h
    rw [Xe lt,h]
  . rw [Xo e]
section
variable {δ τ υ:Type} {E:El δ} {B1:(Nat->Jl->Heap->Prop)->Nat->Env->Jl->Heap->Prop} {x':Jl} {y':τ} {d':δ} {i:Nat} {r:ρ}
theorem loO {o:Jl->δ->List Ob} {b:δ->Jm (δ ⊕ ρ)} {B:(Nat->Jl->Heap->Prop)->Nat->Env->Jl->Heap->Prop} (N:loop b d'=Jg r) (C:S ψ h0 h os) (u:os[i]?=Jg (.it E [x'] d'))
    (H:∀{e m} x h' d a,S ψ h0 h' (o x d)->b d=Jg a->nx b m a=Jg r->B (λn x h=>∃d,S ψ h0 h (o x d)/\loopN b n d=Jg r) (m+1) e x h')
    (e:(λx d=>os.set i (.it E [x] d))=o:=by first|(dsimp only [List.set];done)|exact rfl):lq1 x' h B:=by
  subst e;exact lw11 N (λx d=>(os.set i (.it E [x] d),d)) H ⟨d',by rw [Zao u];exact C,rfl⟩
theorem loOS {o:Jl->δ->List Ob} {b:δ×τ->Jm ((δ×τ) ⊕ ρ)} {B:(Nat->Jl->τ->Heap->Prop)->Nat->Env->Jl->τ->Heap->Prop} (N:loop b (d',y')=Jg r) (C:S ψ h0 h os) (u:os[i]?=Jg (.it E [x'] d'))
    (H:∀{e m} x y h' d a,S ψ h0 h' (o x d)->b (d,y)=Jg a->nx b m a=Jg r->B (λn x y h=>∃d,S ψ h0 h (o x d)/\loopN b n (d,y)=Jg r) (m+1) e x y h')
    (e:(λx d=>os.set i (.it E [x] d))=o:=by first|(dsimp only [List.set];done)|exact rfl):lq2 x' y' h B:=by
  subst e;exact lw21 N (λx y d=>(os.set i (.it E [x] d),d,y)) H ⟨d',by rw [Zao u];exact C,rfl⟩
theorem loSO {o:Jl->δ->List Ob} {b:τ×δ->Jm ((τ×δ) ⊕ ρ)} {B:(Nat->τ->Jl->Heap->Prop)->Nat->Env->τ->Jl->Heap->Prop} (N:loop b (y',d')=Jg r) (C:S ψ h0 h os) (u:os[i]?=Jg (.it E [x'] d'))
    (H:∀{e m} y x h' d a,S ψ h0 h' (o x d)->b (y,d)=Jg a->nx b m a=Jg r->B (λn y x h=>∃d,S ψ h0 h (o x d)/\loopN b n (y,d)=Jg r) (m+1) e y x h')
    (e:(λx d=>os.set i (.it E [x] d))=o:=by first|(dsimp only [List.set];done)|exact rfl):lq2 y' x' h B:=by
  subst e;exact lw21 N (λy x d=>(os.set i (.it E [x] d),y,d)) H ⟨d',by rw [Zao u];exact C,rfl⟩
theorem loOSS {u:υ} {o:Jl->δ->List Ob} {b:δ×τ×υ->Jm ((δ×τ×υ) ⊕ ρ)} {B:(Nat->Jl->τ->υ->Heap->Prop)->Nat->Env->Jl->τ->υ->Heap->Prop} (N:loop b (d',y',u)=Jg r) (C:S ψ h0 h os) (w:os[i]?=Jg (.it E [x'] d'))
    (H:∀{e m} x y z h' d a,S ψ h0 h' (o x d)->b (d,y,z)=Jg a->nx b m a=Jg r->B (λn x y z h=>∃d,S ψ h0 h (o x d)/\loopN b n (d,y,z)=Jg r) (m+1) e x y z h')
    (e:(λx d=>os.set i (.it E [x] d))=o:=by first|(dsimp only [List.set];done)|exact rfl):lq3 x' y' u h B:=by
  subst e;exact lw31 N (λx y z d=>(os.set i (.it E [x] d),d,y,z)) H ⟨d',by rw [Zao w];exact C,rfl⟩
theorem loI {w:Jc} {o:δ->List Ob} {b:τ×δ->Jm ((τ×δ) ⊕ ρ)} {B:(Nat->τ->Heap->Prop)->Nat->Env->τ->Heap->Prop} (N:loop b (y',d')=Jg r) (C:S ψ h0 h os) (u:os[i]?=Jg (.it E w d'))
    (H:∀{e m} y h' d a,S ψ h0 h' (o d)->b (y,d)=Jg a->nx b m a=Jg r->B (λn y h=>∃d,S ψ h0 h (o d)/\loopN b n (y,d)=Jg r) (m+1) e y h')
    (e:(λd=>os.set i (.it E w d))=o:=by first|(dsimp only [List.set];done)|exact rfl):lq1 y' h B:=by
  subst e;exact lw11 N (λy d=>(os.set i (.it E w d),y,d)) H ⟨d',by rw [Zao u];exact C,rfl⟩
theorem loB {j x c:Nat} {cs:Jc} {w:Jl} {ps:δ->Jl->List Ob} {b:τ×δ->Jm ((τ×δ) ⊕ ρ)} {B:(Nat->τ->Heap->Prop)->Nat->Env->τ->Heap->Prop} (N:loop b (y',d')=Jg r) (C:S ψ h0 h os) (o:os[j]?=Jg (.box x cs)/\cs[c]?=Jg w/\os[i]?=Jg (.it E [w] d'))
    (H:∀{e m} y h' d w a,S ψ h0 h' (ps d w)->b (y,d)=Jg a->nx b m a=Jg r->B (λn y h=>∃d w,S ψ h0 h (ps d w)/\loopN b n (y,d)=Jg r) (m+1) e y h')
    (e:(λd w=>(os.set j (.box x (cs.set c w))).set i (.it E [w] d))=ps:=by first|(dsimp only [List.set];done)|exact rfl):lq1 y' h B:=by
  subst e;obtain ⟨s,o,ho⟩:=o;have u:cs.set c w=cs:=by
    apply Xa;intro j;by_cases e:c=j
    . subst e;have lt:c<Jk cs:=by
        rcases J9 c (Jk cs) with h'|h'
        . exact h'
        . rw [Xv h'] at o;cases o
      rw [Xe lt,o]
    . rw [Xo e]
  exact lw12 N (λy d w=>((os.set j (.box x (cs.set c w))).set i (.it E [w] d),y,d)) H ⟨d',w,by rw [u,Zao s,Zao ho];exact C,rfl⟩
end
theorem loOOS {a3 a4 a2:Type} {a9:Jl} {a7:Jl} {a8:a3} {a6:a4} {a5:a2} {E0:El a4} {v:Nat} {E1:El a2} {w:Nat} {r:ρ} {b:a4×a2×a3->Jm ((a4×a2×a3) ⊕ ρ)} {ps:Jl->Jl->a4->a2->List Ob} {B:(Nat->Jl->Jl->a3->Heap->Prop)->Nat->Env->Jl->Jl->a3->Heap->Prop} (N:loop b (a6,a5,a8)=Jg r) (C:S ψ h0 h os) (x:os[v]?=Jg (.it E0 [a9] a6)) (y:os[w]?=Jg (.it E1 [a7] a5))
    (H:∀{e m} x0 x1 u h' o s a,S ψ h0 h' (ps x0 x1 o s)->b (o,s,u)=Jg a->nx b m a=Jg r->B (λn x0 x1 u h=>∃o s,S ψ h0 h (ps x0 x1 o s)/\loopN b n (o,s,u)=Jg r) (m+1) e x0 x1 u h')
    (e:(λx0 x1 o s=>((os.set v (.it E0 [x0] o)).set w (.it E1 [x1] s)))=ps:=by first|(dsimp only [List.set];done)|exact rfl):lq3 a9 a7 a8 h B:=by
  subst e;exact lw32 N (λx0 x1 u o s=>(((os.set v (.it E0 [x0] o)).set w (.it E1 [x1] s)),(o,s,u))) H ⟨a6,a5,by rw [Zao x,Zao y];exact C,rfl⟩
theorem loSSI {a2 x a3:Type} {a5:a2} {a6:x} {a4:a3} {E2:El a3} {v:Nat} {w2:Jc} {r:ρ} {b:a2×x×a3->Jm ((a2×x×a3) ⊕ ρ)} {ps:a3->List Ob} {B:(Nat->a2->x->Heap->Prop)->Nat->Env->a2->x->Heap->Prop} (N:loop b (a5,a6,a4)=Jg r) (C:S ψ h0 h os) (w:os[v]?=Jg (.it E2 w2 a4))
    (H:∀{e m} s u h' o a,S ψ h0 h' (ps o)->b (s,u,o)=Jg a->nx b m a=Jg r->B (λn s u h=>∃o,S ψ h0 h (ps o)/\loopN b n (s,u,o)=Jg r) (m+1) e s u h')
    (e:(λo=>(os.set v (.it E2 w2 o)))=ps:=by first|(dsimp only [List.set];done)|exact rfl):lq2 a5 a6 h B:=by
  subst e;exact lw21 N (λs u o=>((os.set v (.it E2 w2 o)),(s,u,o))) H ⟨a4,by rw [Zao w];exact C,rfl⟩
theorem loSSO {a2 x a3:Type} {a5:a2} {a6:x} {a7:Jl} {a4:a3} {E2:El a3} {v:Nat} {r:ρ} {b:a2×x×a3->Jm ((a2×x×a3) ⊕ ρ)} {ps:Jl->a3->List Ob} {B:(Nat->a2->x->Jl->Heap->Prop)->Nat->Env->a2->x->Jl->Heap->Prop} (N:loop b (a5,a6,a4)=Jg r) (C:S ψ h0 h os) (w:os[v]?=Jg (.it E2 [a7] a4))
    (H:∀{e m} s u x2 h' o a,S ψ h0 h' (ps x2 o)->b (s,u,o)=Jg a->nx b m a=Jg r->B (λn s u x2 h=>∃o,S ψ h0 h (ps x2 o)/\loopN b n (s,u,o)=Jg r) (m+1) e s u x2 h')
    (e:(λx2 o=>(os.set v (.it E2 [x2] o)))=ps:=by first|(dsimp only [List.set];done)|exact rfl):lq3 a5 a6 a7 h B:=by
  subst e;exact lw31 N (λs u x2 o=>((os.set v (.it E2 [x2] o)),(s,u,o))) H ⟨a4,by rw [Zao w];exact C,rfl⟩
theorem loOSI {a2 a4 a3:Type} {a8:Jl} {a7:a2} {a6:a4} {a5:a3} {E0:El a4} {v:Nat} {E2:El a3} {w:Nat} {w2:Jc} {r:ρ} {b:a4×a2×a3->Jm ((a4×a2×a3) ⊕ ρ)} {ps:Jl->a4->a3->List Ob} {B:(Nat->Jl->a2->Heap->Prop)->Nat->Env->Jl->a2->Heap->Prop} (N:loop b (a6,a7,a5)=Jg r) (C:S ψ h0 h os) (x:os[v]?=Jg (.it E0 [a8] a6)) (y:os[w]?=Jg (.it E2 w2 a5))
    (H:∀{e m} x0 u h' o s a,S ψ h0 h' (ps x0 o s)->b (o,u,s)=Jg a->nx b m a=Jg r->B (λn x0 u h=>∃o s,S ψ h0 h (ps x0 o s)/\loopN b n (o,u,s)=Jg r) (m+1) e x0 u h')
    (e:(λx0 o s=>((os.set v (.it E0 [x0] o)).set w (.it E2 w2 s)))=ps:=by first|(dsimp only [List.set];done)|exact rfl):lq2 a8 a7 h B:=by
  subst e;exact lw22 N (λx0 u o s=>(((os.set v (.it E0 [x0] o)).set w (.it E2 w2 s)),(o,u,s))) H ⟨a6,a5,by rw [Zao x,Zao y];exact C,rfl⟩
theorem loOSD {a2 a3:Type} {a8:Jl} {a7:a2} {a6:a3} {a5:Int} {a4:Int} {E0:El a3} {u:Nat} {v w:Nat} {c2:Jl} {p2:Jc} {r:ρ} {b:a3×a2×Int×Int->Jm ((a3×a2×Int×Int) ⊕ ρ)} {ps:Jl->a3->Int->Int->List Ob} {B:(Nat->Jl->a2->Heap->Prop)->Nat->Env->Jl->a2->Heap->Prop} (N:loop b (a6,a7,a5,a4)=Jg r) (C:S ψ h0 h os) (x:os[u]?=Jg (.it E0 [a8] a6)) (y:os[v]?=Jg (.box w (c2::.int .i64 a5::.int .u64 a4::p2)))
    (H:∀{e m} x0 s h' o q2 s2 a,S ψ h0 h' (ps x0 o q2 s2)->b (o,s,q2,s2)=Jg a->nx b m a=Jg r->B (λn x0 s h=>∃o q2 s2,S ψ h0 h (ps x0 o q2 s2)/\loopN b n (o,s,q2,s2)=Jg r) (m+1) e x0 s h')
    (e:(λx0 o q2 s2=>((os.set u (.it E0 [x0] o)).set v (.box w (c2::.int .i64 q2::.int .u64 s2::p2))))=ps:=by first|(dsimp only [List.set];done)|exact rfl):lq2 a8 a7 h B:=by
  subst e;exact lw23 N (λx0 s o q2 s2=>(((os.set u (.it E0 [x0] o)).set v (.box w (c2::.int .i64 q2::.int .u64 s2::p2))),(o,s,q2,s2))) H ⟨a6,a5,a4,by rw [Zao x,Zao y];exact C,rfl⟩
theorem loSDI {a3 a4:Type} {a8:a3} {a5:Int} {a7:Int} {a6:a4} {v w:Nat} {c1:Jl} {p1:Jc} {E2:El a4} {x:Nat} {w2:Jc} {r:ρ} {b:a3×Int×Int×a4->Jm ((a3×Int×Int×a4) ⊕ ρ)} {ps:Int->Int->a4->List Ob} {B:(Nat->a3->Heap->Prop)->Nat->Env->a3->Heap->Prop} (N:loop b (a8,a5,a7,a6)=Jg r) (C:S ψ h0 h os) (y:os[v]?=Jg (.box w (c1::.int .i64 a5::.int .u64 a7::p1))) (a2:os[x]?=Jg (.it E2 w2 a6))
    (H:∀{e m} u h' o s1 s a,S ψ h0 h' (ps o s1 s)->b (u,o,s1,s)=Jg a->nx b m a=Jg r->B (λn u h=>∃o s1 s,S ψ h0 h (ps o s1 s)/\loopN b n (u,o,s1,s)=Jg r) (m+1) e u h')
    (e:(λo s1 s=>((os.set v (.box w (c1::.int .i64 o::.int .u64 s1::p1))).set x (.it E2 w2 s)))=ps:=by first|(dsimp only [List.set];done)|exact rfl):lq1 a8 h B:=by
  subst e;exact lw13 N (λu o s1 s=>(((os.set v (.box w (c1::.int .i64 o::.int .u64 s1::p1))).set x (.it E2 w2 s)),(u,o,s1,s))) H ⟨a5,a7,a6,by rw [Zao y,Zao a2];exact C,rfl⟩
theorem loOD {a2:Type} {a6:Jl} {a5:a2} {a3:Int} {a4:Int} {E0:El a2} {u:Nat} {v w:Nat} {c1:Jl} {p1:Jc} {r:ρ} {b:a2×Int×Int->Jm ((a2×Int×Int) ⊕ ρ)} {ps:Jl->a2->Int->Int->List Ob} {B:(Nat->Jl->Heap->Prop)->Nat->Env->Jl->Heap->Prop} (N:loop b (a5,a3,a4)=Jg r) (C:S ψ h0 h os) (x:os[u]?=Jg (.it E0 [a6] a5)) (y:os[v]?=Jg (.box w (c1::.int .i64 a3::.int .u64 a4::p1)))
    (H:∀{e m} x0 h' o s s1 a,S ψ h0 h' (ps x0 o s s1)->b (o,s,s1)=Jg a->nx b m a=Jg r->B (λn x0 h=>∃o s s1,S ψ h0 h (ps x0 o s s1)/\loopN b n (o,s,s1)=Jg r) (m+1) e x0 h')
    (e:(λx0 o s s1=>((os.set u (.it E0 [x0] o)).set v (.box w (c1::.int .i64 s::.int .u64 s1::p1))))=ps:=by first|(dsimp only [List.set];done)|exact rfl):lq1 a6 h B:=by
  subst e;exact lw13 N (λx0 o s s1=>(((os.set u (.it E0 [x0] o)).set v (.box w (c1::.int .i64 s::.int .u64 s1::p1))),(o,s,s1))) H ⟨a5,a3,a4,by rw [Zao x,Zao y];exact C,rfl⟩
theorem loSOD {a3 a2:Type} {a7:a3} {a8:Jl} {a4:a2} {a6:Int} {a5:Int} {E1:El a2} {u:Nat} {v w:Nat} {c2:Jl} {p2:Jc} {r:ρ} {b:a3×a2×Int×Int->Jm ((a3×a2×Int×Int) ⊕ ρ)} {ps:Jl->a2->Int->Int->List Ob} {B:(Nat->a3->Jl->Heap->Prop)->Nat->Env->a3->Jl->Heap->Prop} (N:loop b (a7,a4,a6,a5)=Jg r) (C:S ψ h0 h os) (x:os[u]?=Jg (.it E1 [a8] a4)) (y:os[v]?=Jg (.box w (c2::.int .i64 a6::.int .u64 a5::p2)))
    (H:∀{e m} s x1 h' o q2 s2 a,S ψ h0 h' (ps x1 o q2 s2)->b (s,o,q2,s2)=Jg a->nx b m a=Jg r->B (λn s x1 h=>∃o q2 s2,S ψ h0 h (ps x1 o q2 s2)/\loopN b n (s,o,q2,s2)=Jg r) (m+1) e s x1 h')
    (e:(λx1 o q2 s2=>((os.set u (.it E1 [x1] o)).set v (.box w (c2::.int .i64 q2::.int .u64 s2::p2))))=ps:=by first|(dsimp only [List.set];done)|exact rfl):lq2 a7 a8 h B:=by
  subst e;exact lw23 N (λs x1 o q2 s2=>(((os.set u (.it E1 [x1] o)).set v (.box w (c2::.int .i64 q2::.int .u64 s2::p2))),(s,o,q2,s2))) H ⟨a4,a6,a5,by rw [Zao x,Zao y];exact C,rfl⟩
theorem cuW0 {A:(Heap->Prop)->Prop} {B:Env->Heap->Prop} {G:Jm ρ} {r:ρ} (C:S ψ h0 h os) (u:A λl=>S ψ h0 l os/\G=Jg r) (o:∀{e} l,S ψ h0 l os->G=Jg r->B e l):∃J:Heap->Prop,A J/\∀(e:Env) (l:Heap),J l->B e l:=⟨_,u,λe l ⟨s,g⟩=>o l s g⟩
theorem cuW1 {τ:Type} {A:(τ->Heap->Prop)->Prop} {B:Env->τ->Heap->Prop} {G:τ->Jm ρ} {r:ρ} (C:S ψ h0 h os) (u:A λx l=>S ψ h0 l os/\G x=Jg r) (o:∀{e} x l,S ψ h0 l os->G x=Jg r->B e x l):∃J:τ->Heap->Prop,A J/\∀(e:Env) (x:τ) (l:Heap),J x l->B e x l:=⟨_,u,λe x l ⟨s,g⟩=>o x l s g⟩
theorem cuW2 {τ υ:Type} {A:(τ->υ->Heap->Prop)->Prop} {B:Env->τ->υ->Heap->Prop} {G:τ->υ->Jm ρ} {r:ρ} (C:S ψ h0 h os) (u:A λx y l=>S ψ h0 l os/\G x y=Jg r) (o:∀{e} x y l,S ψ h0 l os->G x y=Jg r->B e x y l):∃J:τ->υ->Heap->Prop,A J/\∀(e:Env) (x:τ) (y:υ) (l:Heap),J x y l->B e x y l:=⟨_,u,λe x y l ⟨s,g⟩=>o x y l s g⟩
theorem cuD  {v w:Nat} {x:Jl} {y:Jc} {a3 a4:Int} {A:(Heap->Prop)->Prop} {B:Env->Heap->Prop} {G:Int->Int->Jm ρ} {r:ρ} (C:S ψ h0 h os) (a2:os[v]?=Jg (.box w (x::.int .i64 a3::.int .u64 a4::y))) (H1:A λl=>∃o u,S ψ h0 l (os.set v (.box w (x::.int .i64 o::.int .u64 u::y)))/\G o u=Jg r) (H2:∀{e} l o u,S ψ h0 l (os.set v (.box w (x::.int .i64 o::.int .u64 u::y)))->G o u=Jg r->B e l):∃J:Heap->Prop,A J/\∀(e:Env) (l:Heap),J l->B e l:=⟨_,H1,λe l ⟨o,u,s,g⟩=>H2 l o u s g⟩
theorem cuSD {a2:Type} {v w:Nat} {c1:Jl} {p1:Jc} {a3 a4:Int} {A:(a2->Heap->Prop)->Prop} {B:Env->a2->Heap->Prop} {G:a2->Int->Int->Jm ρ} {r:ρ} (C:S ψ h0 h os) (x:os[v]?=Jg (.box w (c1::.int .i64 a3::.int .u64 a4::p1))) (H1:A λo l=>∃u s1,S ψ h0 l (os.set v (.box w (c1::.int .i64 u::.int .u64 s1::p1)))/\G o u s1=Jg r) (H2:∀{e} o l u s1,S ψ h0 l (os.set v (.box w (c1::.int .i64 u::.int .u64 s1::p1)))->G o u s1=Jg r->B e o l):∃J:a2->Heap->Prop,A J/\∀(e:Env) (o:a2) (l:Heap),J o l->B e o l:=⟨_,H1,λe o l ⟨u,s1,s,g⟩=>H2 o l u s1 s g⟩
theorem cuSSD {a3 a2:Type} {v w:Nat} {c2:Jl} {p2:Jc} {a5 a4:Int} {A:(a3->a2->Heap->Prop)->Prop} {B:Env->a3->a2->Heap->Prop} {G:a3->a2->Int->Int->Jm ρ} {r:ρ} (C:S ψ h0 h os) (x:os[v]?=Jg (.box w (c2::.int .i64 a5::.int .u64 a4::p2))) (H1:A λo u l=>∃q2 s2,S ψ h0 l (os.set v (.box w (c2::.int .i64 q2::.int .u64 s2::p2)))/\G o u q2 s2=Jg r) (H2:∀{e} o u l q2 s2,S ψ h0 l (os.set v (.box w (c2::.int .i64 q2::.int .u64 s2::p2)))->G o u q2 s2=Jg r->B e o u l):∃J:a3->a2->Heap->Prop,A J/\∀(e:Env) (o:a3) (u:a2) (l:Heap),J o u l->B e o u l:=⟨_,H1,λe o u l ⟨q2,s2,s,g⟩=>H2 o u l q2 s2 s g⟩
theorem cuOD {a3:Type} {E0:El a3} {v:Nat} {a8:Jl} {a7:a3} {w x:Nat} {c1:Jl} {p1:Jc} {a5 a6:Int} {A:(Jl->Heap->Prop)->Prop} {B:Env->Jl->Heap->Prop} {G:a3->Int->Int->Jm ρ} {r:ρ} (C:S ψ h0 h os) (y:os[v]?=Jg (.it E0 [a8] a7)) (a2:os[w]?=Jg (.box x (c1::.int .i64 a5::.int .u64 a6::p1))) (H1:A λx0 l=>∃o u s1,S ψ h0 l ((os.set v (.it E0 [x0] o)).set w (.box x (c1::.int .i64 u::.int .u64 s1::p1)))/\G o u s1=Jg r) (H2:∀{e} x0 l o u s1,S ψ h0 l ((os.set v (.it E0 [x0] o)).set w (.box x (c1::.int .i64 u::.int .u64 s1::p1)))->G o u s1=Jg r->B e x0 l):∃J:Jl->Heap->Prop,A J/\∀(e:Env) (x0:Jl) (l:Heap),J x0 l->B e x0 l:=⟨_,H1,λe x0 l ⟨o,u,s1,s,g⟩=>H2 x0 l o u s1 s g⟩
theorem cuOS {a2 x:Type} {E0:El a2} {v:Nat} {a5:Jl} {a4:a2} {A:(Jl->x->Heap->Prop)->Prop} {B:Env->Jl->x->Heap->Prop} {G:a2->x->Jm ρ} {r:ρ} (C:S ψ h0 h os) (w:os[v]?=Jg (.it E0 [a5] a4)) (H1:A λx0 o l=>∃u,S ψ h0 l (os.set v (.it E0 [x0] u))/\G u o=Jg r) (H2:∀{e} x0 o l u,S ψ h0 l (os.set v (.it E0 [x0] u))->G u o=Jg r->B e x0 o l):∃J:Jl->x->Heap->Prop,A J/\∀(e:Env) (x0:Jl) (o:x) (l:Heap),J x0 o l->B e x0 o l:=⟨_,H1,λe x0 o l ⟨u,s,g⟩=>H2 x0 o l u s g⟩
theorem cuO {w:Type} {x:El w} {u:Nat} {a3:Jl} {a2:w} {A:(Jl->Heap->Prop)->Prop} {B:Env->Jl->Heap->Prop} {G:w->Jm ρ} {r:ρ} (C:S ψ h0 h os) (v:os[u]?=Jg (.it x [a3] a2)) (H1:A λx0 l=>∃o,S ψ h0 l (os.set u (.it x [x0] o))/\G o=Jg r) (H2:∀{e} x0 l o,S ψ h0 l (os.set u (.it x [x0] o))->G o=Jg r->B e x0 l):∃J:Jl->Heap->Prop,A J/\∀(e:Env) (x0:Jl) (l:Heap),J x0 l->B e x0 l:=⟨_,H1,λe x0 l ⟨o,s,g⟩=>H2 x0 l o s g⟩
theorem exR (C:S ψ h0 h os):ExtH h h:=eX h
theorem exW {h1 o:Heap} {B:Nat->Prop} {K:Prop} (x:ExtH h1 o) (k:K):ExtBut B h1 o/\K:=⟨eZ x,k⟩
end
theorem wX {G:Prop} (h:G:=by
    repeat
      conv=>whnf
      first
      | ((with_reducible show brn _ _ _);  refine brQ N ?_ ?_<;>intro N)
      | refine onW oneA ?_
      | ((with_reducible show vLen _ _);  refine ZF slW ?_)
      | ((with_reducible show vStore1 _ _ _ _);  first
         | refine boxA fun _ C=>?_
         | (refine stW (by assumption) C gatP (by assumption) fun _ C=>?_;dsimp only [List.set] at C)
         | (refine srwW (by assumption) (by assumption) C gatP (by assumption) (by assumption) fun _ C=>?_;dsimp only [List.set] at C))
      | ((with_reducible show vIdx _ _ _ _);  first
         | refine ixI slW N fun _ N=>?_
         | (refine ixA slW N fun _ _ w o N=>?_;refine Za9 C _ gatP w o fun _ hd=>?_)
         | refine ixV (by assumption) C.le N fun _ _ f N=>?_
         | refine ixV slW (CLe.refl _) N fun _ _ f N=>?_
         | refine ixS slW N fun _ N=>?_
         | (refine ixC slW N fun _ _ _ ck hr N=>?_
            (first|obtain ⟨rfl,u⟩:=ZE6 hr|obtain ⟨rfl,u⟩:=ZHX hr|obtain ⟨rfl,u⟩:=ZGg hr|obtain ⟨rfl,u,v⟩:=ZKi hr|obtain ⟨rfl,u⟩:=ZOX hr|obtain ⟨rfl,u⟩:=ZLF hr|obtain rfl:=Zcu hr|obtain ⟨rfl,u,v⟩:=ZHI hr|obtain ⟨rfl,u⟩:=ZMN hr|obtain ⟨rfl,u⟩:=ZaV hr|obtain ⟨rfl,u⟩:=ZNC hr|obtain ⟨rfl,u,v,x,y,f4,f5⟩:=ZKD hr|obtain ⟨rfl,u,v,x,y⟩:=ZNE hr|obtain rfl:=ZLJ hr|obtain ⟨rfl,u,v,x,y,f4,f5⟩:=ZEU hr|fail))
         | refine ixA slW N fun _ _ w o N=>?_)
      | (refine idW ?_
         refine kn fun q=>?_;obtain ⟨_,o,N⟩:=obind N;refine pcW C rfl gatP fun C=>?_;dsimp only [List.eraseIdx] at C;obtain ⟨_,_,s,rl⟩:=id C
         first|refine (q o (s.upS rl) pcA).mono fun _ _ t=>?_|refine (q o (s.upS rl) pcA pcA).mono fun _ _ t=>?_|refine (q o (s.upS rl) pcA pcA pcA).mono fun _ _ t=>?_
         first|obtain ⟨rfl,t⟩:=t|obtain ⟨_,rfl,t⟩:=t|obtain ⟨_,_,rfl,t⟩:=t|obtain ⟨_,_,_,rfl,t⟩:=t
         replace C:=s.downS t;clear t s rl
         first|refine ⟨_,rfl,?_⟩|refine ⟨_,_,rfl,?_⟩|refine ⟨_,_,_,rfl,?_⟩|refine ⟨_,_,_,_,rfl,?_⟩|refine ⟨_,_,_,_,_,rfl,?_⟩)
      | (refine idW ?_
         refine kn fun q=>?_;obtain ⟨_,o,N⟩:=obind N;replace C:=S.freeze (E:=El.ow _) (E':=El.sl _) C _ gatP frzA;dsimp only [List.set] at C;refine pcW C rfl gatP fun C=>?_;dsimp only [List.eraseIdx] at C;obtain ⟨_,_,s,rl⟩:=id C
         first|refine (q o (s.upS rl) pcA).mono fun _ _ t=>?_|refine (q o (s.upS rl) pcA pcA).mono fun _ _ t=>?_|refine (q o (s.upS rl) pcA pcA pcA).mono fun _ _ t=>?_
         first|obtain ⟨rfl,t⟩:=t|obtain ⟨_,rfl,t⟩:=t|obtain ⟨_,_,rfl,t⟩:=t|obtain ⟨_,_,_,rfl,t⟩:=t
         replace C:=s.downS t;clear t s rl
         first|refine ⟨_,rfl,?_⟩|refine ⟨_,_,rfl,?_⟩|refine ⟨_,_,_,rfl,?_⟩|refine ⟨_,_,_,_,rfl,?_⟩|refine ⟨_,_,_,_,_,rfl,?_⟩)
      | (refine idW ?_
         refine kn fun q=>?_;refine caW N C (fun s _ o=>by first|(apply q s.fle o<;>exact arW)|(apply q o<;>exact arW)) fun _ _ _ s rl q N=>?_
         first|obtain ⟨rfl,t⟩:=q|obtain ⟨_,rfl,t⟩:=q|obtain ⟨_,_,rfl,t⟩:=q|obtain ⟨_,_,_,rfl,t⟩:=q|obtain ⟨_,_,_,_,rfl,t⟩:=q|obtain ⟨_,_,_,_,_,rfl,t⟩:=q
         have xE:=t.ext
         try replace xR:=xR.trans xE
         have C:=joinW s rl t;dsimp only [List.cons_append,List.nil_append] at C;clear t s rl xE
         first|refine ⟨_,rfl,?_⟩|refine ⟨_,_,rfl,?_⟩|refine ⟨_,_,_,rfl,?_⟩|refine ⟨_,_,_,_,rfl,?_⟩|refine ⟨_,_,_,_,_,rfl,?_⟩)
      | ((with_reducible show vNewS _ _ _ _);  first
         | (refine puW N C gatP fun _ _ _ C N=>?_;dsimp only [List.set] at C)
         | (refine roW N C gatP gatP fun _ _ _ C N=>?_;dsimp only [List.set] at C)
         | (refine rfW N C gatP gatP fun _ _ _ C N=>?_;dsimp only [List.set] at C)
         | (refine piW N C gatP gatP fun _ _ _ C N=>?_;dsimp only [List.set,List.eraseIdx] at C)
         | ((with_reducible show vNewS _ (Obj.cells _ (2:Nat)) _ _);refine neA eI fun _ _ C=>?_)
         | ((with_reducible show vNewS _ (Obj.cells _ (9:Nat)) _ _);refine neA El.str fun _ _ C=>?_)
         | ((with_reducible show vNewS _ (Obj.cells _ (4:Nat)) _ _);refine neA El.bool fun _ _ C=>?_)
         | ((with_reducible show vNewS _ (Obj.cells _ (5:Nat)) _ _);refine neA (El.int .u8) fun _ _ C=>?_)
         | (refine ncW C gatP fun _ _ C=>?_)
         | (refine nfW C gatP fun _ _ C=>?_;dsimp only [List.set] at C;exact wX)
         | refine Zcp C fun _ _ C=>?_
         | ((with_reducible show vNewS _ (Obj.cells _ (2:Nat)) _ _);refine liW (by repeat constructor) C rfl fun _ _ C=>?_)
         | (refine neA eL fun _ _ C=>?_;exact wX)
         | (refine neA oL fun _ _ C=>?_;exact wX)
         | fail)
      | ((with_reducible show vAppend _ _ _ _ _ _ _ _);  refine apW N C gatP srW fun _ _ _ C N=>?_;dsimp only [List.set] at C)
      | ((with_reducible show vStrIdx _ _ _);  refine stI N fun _ N=>?_)
      | ((with_reducible show vSliceStr _ _ _ _);  first|refine ssA N fun _ N=>?_|refine ssB N fun _ N=>?_|refine ssC N fun _ N=>?_)
      | ((with_reducible show vSliceS _ _ _ _ _ _);  first|refine vcW slW N fun _ _ f N=>?_|refine vcX slW N fun _ _ f N=>?_|refine vcY slW N fun _ _ f N=>?_)
      | ((with_reducible show vB2S _ _ _);  refine b2W slW N fun _ N=>?_)
      | ((with_reducible show vS2B _ _ _);  refine s2b_S C fun _ _ C=>?_)
      | ((with_reducible show vNew _ _ _);  refine ZfW C fun _ _ xE C=>?_
         try replace xR:=xR.trans xE
         clear xE)
      | ((with_reducible show vMake _ _ _ _ _ _ _);  first
         | refine mkO eI N fun _ _ _ C N=>?_
         | refine mkO El.bool N fun _ _ _ C N=>?_
         | refine mkO El.str N fun _ _ _ C N=>?_
         | (refine mkO oL N fun _ _ _ C N=>?_;exact wX)
         | (refine mkO eL N fun _ _ _ C N=>?_;exact wX))
      | ((with_reducible show vOne _ _);  refine ZD oneA ?_)
      | refine lVA ?_
      | refine lIA ?_
      | refine lSA ?_
      | refine lBA ?_
      | refine lPA ?_
      | refine Z8 ?_
      | refine Z9 ?_
      | refine Zpl ?_
      | refine ZF5 ?_
      | refine ZEA ?_
      | refine lcI (by assumption) slW (by assumption) ?_
      | refine lcV (by assumption) slW (by assumption) fun _ f=>?_
      | refine lcB (by assumption) slW (by assumption) ?_
      | refine lcS (by assumption) slW (by assumption) ?_
      | exact endX
      | refine exW xR ?_
      | refine gzA N fun N=>?_
      | refine gnA N fun N=>?_
      | refine gfA N fun N=>?_
      | (refine ⟨(fun _=>False:Nat->Prop),?_⟩
         have stR:=C;have xR:=exR C;skip)
      | refine loB N C ⟨gatP,gaxP,gatP⟩ fun _ _ _ _ _ C N O=>?_
      | refine loI N C gatP fun _ _ _ _ C N O=>?_
      | refine loOS N C gatP fun _ _ _ _ _ C N O=>?_
      | refine loO N C gatP fun _ _ _ _ C N O=>?_
      | refine loSO N C gatP fun _ _ _ _ _ C N O=>?_
      | refine loOSS N C gatP fun _ _ _ _ _ _ C N O=>?_
      | refine loOSI N C gatP gatP fun _ _ _ _ _ _ C N O=>?_
      | refine loSSI N C gatP fun _ _ _ _ _ C N O=>?_
      | refine loSSO N C gatP fun _ _ _ _ _ _ C N O=>?_
      | refine loOOS N C gatP gatP fun _ _ _ _ _ _ _ C N O=>?_
      | refine loOSD N C gatP gatP fun _ _ _ _ _ _ _ C N O=>?_
      | refine loSDI N C gatP gatP fun _ _ _ _ _ _ C N O=>?_
      | refine loOD N C gatP gatP fun _ _ _ _ _ _ C N O=>?_
      | refine loSOD N C gatP gatP fun _ _ _ _ _ _ _ C N O=>?_
      | refine lp1 N C fun _ _ _ _ C N O=>?_
      | refine lp2 N C fun _ _ _ _ _ C N O=>?_
      | refine lp3 N C fun _ _ _ _ _ _ C N O=>?_
      | (apply cuD C gatP<;>exact wX)
      | (apply cuSD C gatP<;>exact wX)
      | (apply cuSSD C gatP<;>exact wX)
      | (apply cuOD C gatP gatP<;>exact wX)
      | (apply cuW0 C<;>exact wX)
      | (apply cuW1 C<;>exact wX)
      | (apply cuW2 C<;>exact wX)
      | (apply cuO C gatP<;>exact wX)
      | (apply cuOS C gatP<;>exact wX)
      | (refine fun _ (C:S _ _ _ _) N=>?_)
      | (refine fun _ _ (C:S _ _ _ _) N=>?_)
      | (refine fun _ _ _ (C:S _ _ _ _) N=>?_;try dsimp only [List.set] at C)
      | (refine fun _ _ _ _ (C:S _ _ _ _) N=>?_;try dsimp only [List.set] at C)
      | (refine fun _ _ _ _ _ (C:S _ _ _ _) N=>?_;try dsimp only [List.set] at C)
      | (refine fun _ _ _ _ _ _ (C:S _ _ _ _) N=>?_;try dsimp only [List.set] at C)
      | (refine fun _ _ _ _ _ _ _ (C:S _ _ _ _) N=>?_;try dsimp only [List.set] at C)
    first|done|fail):G:=h
end Go.Vc
