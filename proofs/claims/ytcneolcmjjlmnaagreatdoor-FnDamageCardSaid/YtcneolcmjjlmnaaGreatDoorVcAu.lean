import Derived.Test.YtcneolcmjjlmnaaGreatDoorVcDn
open List renaming append_assoc->Js
open Option renaming some->Jg
open Go renaming Value->Jl
namespace Go.Vc
set_option linter.unusedVariables false
set_option linter.unusedSimpArgs false
open Go
section
variable {ψ:CM} {h0 h:Heap} {os:List Ob} {α ρ:Type}
section
variable {a b c d e f g i j k l m n o p q:Ob} {z:List Ob}
theorem gat0:(a::z)[0]?=Jg a:=rfl
theorem gat1:(a::b::z)[1]?=Jg b:=rfl
theorem gat2:(a::b::c::z)[2]?=Jg c:=rfl
theorem gat3:(a::b::c::d::z)[3]?=Jg d:=rfl
theorem gat4:(a::b::c::d::e::z)[4]?=Jg e:=rfl
theorem gat5:(a::b::c::d::e::f::z)[5]?=Jg f:=rfl
theorem gat6:(a::b::c::d::e::f::g::z)[6]?=Jg g:=rfl
theorem gat7:(a::b::c::d::e::f::g::i::z)[7]?=Jg i:=rfl
theorem gat8:(a::b::c::d::e::f::g::i::j::z)[8]?=Jg j:=rfl
theorem gat9:(a::b::c::d::e::f::g::i::j::k::z)[9]?=Jg k:=rfl
theorem gat10:(a::b::c::d::e::f::g::i::j::k::l::z)[10]?=Jg l:=rfl
theorem gat11:(a::b::c::d::e::f::g::i::j::k::l::m::z)[11]?=Jg m:=rfl
theorem gat12:(a::b::c::d::e::f::g::i::j::k::l::m::n::z)[12]?=Jg n:=rfl
theorem gat13:(a::b::c::d::e::f::g::i::j::k::l::m::n::o::z)[13]?=Jg o:=rfl
theorem gat14:(a::b::c::d::e::f::g::i::j::k::l::m::n::o::p::z)[14]?=Jg p:=rfl
theorem gat15:(a::b::c::d::e::f::g::i::j::k::l::m::n::o::p::q::z)[15]?=Jg q:=rfl
end
theorem gatP {i:Nat} {o:Ob} (h:os[i]?=Jg o:=by first|exact gat0|exact gat1|exact gat2|exact gat3|exact gat4|exact gat5|exact gat6|exact gat7|exact gat8|exact gat9|exact gat10|exact gat11|exact gat12|exact gat13|exact gat14|exact gat15|fail):os[i]?=Jg o:=h
theorem slA {G:Prop} (h:G:=by first
    | exact SlC.mono C.le (by assumption)
    | exact C.rdL _ gatP frzA
    | exact C.rdF _ gatP
    | exact CellsC.mono C.le (by assumption)
    | exact SlC.mono C.leU (by assumption)
    | exact CellsC.mono C.leU (by assumption)
    | exact SlC.nil
    | fail):G:=h
theorem boxA {w:List Ob} {a:Addr} {b i j:Nat} {cs:Jc} {v:Jl} {K:Heap->Prop} (x:∀u,S ψ h0 u w->K u) (ha:a=⟨b,j,none⟩:=by exact rfl) (s:S ψ h0 h os:=by exact C) (ho:os[i]?=Jg (.box b cs):=by exact gatP) (hj:(cs[j]?).isSome=true:=by exact rfl) (h1:v.oneCell'=true:=by exact oneA) (e:os.set i (.box b (cs.set j v))=w:=by first|(dsimp only [List.set];done)|exact rfl):vStore1 h a v K:=
  ZcH s i ha ho hj h1 λu t=>x u (e▸t)
theorem oneA {v:Jl} (h:v.oneCell'=true:=by first
    | exact rfl
    | exact SlC.one (by assumption)
    | exact SlC.one (C.rdL _ gatP frzA)
    | exact SlC.one (C.rdF _ gatP)
    | fail):v.oneCell'=true:=h
inductive Se (ψ:CM):List Ob->List Ob->Prop where
  | n {os:List Ob}:Se ψ os []
  | r {os:List Ob}:Se ψ os os
  | d {o:Ob} {os ts:List Ob}:Se ψ os ts->Se ψ (o::os) ts
  | c {o:Ob} {os ts:List Ob} {i:Nat}:os[i]?=Jg o->Se ψ (os.eraseIdx i) ts->Se ψ os (o::ts)
  | z {β:Type} {E:El β} {os ts:List Ob}:Se ψ os ts->Se ψ os (.it (El.ow E) [.slice none 0 0] []::ts)
  | y {β:Type} {E:El β} {os ts:List Ob}:Se ψ os ts->Se ψ os (.it (El.sl E) [.slice none 0 0] []::ts)
  | a {β:Type} {E:El β} {v:Jl} {xs:List β} {os ts:List Ob}:SlC ψ E v xs->Se ψ os ts->Se ψ os (.it (El.sl E) [v] xs::ts)
theorem Se.rel {φ:CM} (hl:CLe ψ φ):∀{os u:List Ob},Se ψ os u->∀{L:Rws},Rel φ os L->∃M r,L.Perm (M++r)/\Rel φ u M
  | _,_,.n,L,_=>⟨[],L,.refl _,rfl⟩
  | _,_,.r,L,h=>⟨L,[],by simp,h⟩
  | _,_,.d s,L,h=>by
    obtain ⟨Lo,L2,rfl,_,w⟩:=h;obtain ⟨M,r,p,v⟩:=s.rel hl w;exact ⟨M,Lo++r,(p.append_left Lo).trans (by rw [<-Js,<-Js];exact List.perm_append_comm.append_right r),v⟩
  | _,_,.c k s,L,h=>by
    obtain ⟨L1,Lo,L2,rfl,w,x,_⟩:=h.at k;obtain ⟨M,r,p,v⟩:=s.rel hl x;refine ⟨Lo++M,r,?_,Lo,M,rfl,w,v⟩;have y:(L1++Lo++L2).Perm (Lo++(L1++L2)):=by
      rw [<-Js];exact List.perm_append_comm.append_right L2
    rw [Js Lo M r];exact y.trans (p.append_left Lo)
  | _,_,.z s,L,h=>by
    obtain ⟨M,r,p,v⟩:=s.rel hl h;exact ⟨M,r,p,[],M,rfl,⟨_,rfl,.inl ⟨rfl,rfl,rfl⟩⟩,v⟩
  | _,_,.y s,L,h=>by
    obtain ⟨M,r,p,v⟩:=s.rel hl h;exact ⟨M,r,p,[],M,rfl,El.sl_of SlC.nil,v⟩
  | _,_,.a f s,L,h=>by
    obtain ⟨M,r,p,v⟩:=s.rel hl h;exact ⟨M,r,p,[],M,rfl,El.sl_of (SlC.mono hl f),v⟩
theorem S.sel {u:List Ob} (C:S ψ h0 h os) (s:Se ψ os u):S ψ h0 h u:=by
  obtain ⟨φ,L,v,x⟩:=C;obtain ⟨M,r,p,w⟩:=s.rel v.bas x;exact ⟨φ,M,(v.perm p).sub (List.sublist_append_left ..),w⟩
theorem selA {r:List Ob} (h:Se ψ os r:=by (repeat first|exact Se.n|exact Se.r|refine Se.c gatP ?_|refine Se.z ?_|refine Se.y ?_|refine Se.d ?_|refine Se.a (by assumption) ?_);first|done|fail):Se ψ os r:=h
theorem ce0 {P:Program} {f:FuncId} {w:Array Jl} {R:Jl->Heap->Prop} {V:Jl} (C:S ψ h0 h os) (H:∀{φ L},S0 ψ h0 h φ L->CallsH P f w h λv u=>v=V/\S φ h u []) (K:∀u,ExtH h u->S ψ h0 u os->R V u):CallsH P f w h R:=by
  obtain ⟨φ,L,s,q⟩:=id C;exact (H s).mono λv u ⟨e,t⟩=>by subst e;exact K u t.ext (join0 s q t)
theorem ce1 {P:Program} {f:FuncId} {x:Array Jl} {R:Jl->Heap->Prop} {V:Jl->Jl} {a:Jl->Ob} (C:S ψ h0 h os) (H:∀{φ L},S0 ψ h0 h φ L->CallsH P f x h λv u=>∃w,v=V w/\S φ h u [a w]) (K:∀w u,ExtH h u->S ψ h0 u (a w::os)->R (V w) u):CallsH P f x h R:=by
  obtain ⟨φ,L,s,q⟩:=id C;exact (H s).mono λv u ⟨w,e,t⟩=>by subst e;exact K w u t.ext (join1 s q t)
theorem frA {u:List Ob} {E E':El α} {cs:Jc} {x:α} (i:Nat) (s:S ψ h0 h os:=by exact C) (w:os[i]?=Jg (.it E cs x):=by exact rfl) (hf:Frz E E':=by exact frzA) (e:os.set i (.it E' cs x)=u:=by first|(dsimp only [List.set];done)|exact rfl):S ψ h0 h u:=e▸s.freeze i w hf
theorem stI {s:Jd} {i:Int} {o:UInt8->Jm ρ} {r:ρ} {K:UInt8->Prop} (D:(gSt s i).bind o=Jg r) (k:∀c,o c=Jg r->K c):vStrIdx s i K:=by
  obtain ⟨c,h,D⟩:=obind D;exact ZFh h (k c D)
theorem ssA {s:Jd} {a b:Int} {o:Jd->Jm ρ} {r:ρ} {K:Jd->Prop} (D:(gStSl s a b).bind o=Jg r) (k:∀c,o c=Jg r->K c):vSliceStr s (Jg (.int .i64 a)) (Jg (.int .i64 b)) K:=by
  obtain ⟨c,h,D⟩:=obind D;exact ZqT (Jg a) (Jg b) h (k c D)
theorem ssB {s:Jd} {a:Int} {o:Jd->Jm ρ} {r:ρ} {K:Jd->Prop} (D:(gStSl s a s.size).bind o=Jg r) (k:∀c,o c=Jg r->K c):vSliceStr s (Jg (.int .i64 a)) none K:=by
  obtain ⟨c,h,D⟩:=obind D;exact ZqT (Jg a) none h (k c D)
theorem ssC {s:Jd} {b:Int} {o:Jd->Jm ρ} {r:ρ} {K:Jd->Prop} (D:(gStSl s 0 b).bind o=Jg r) (k:∀c,o c=Jg r->K c):vSliceStr s none (Jg (.int .i64 b)) K:=by
  obtain ⟨c,h,D⟩:=obind D;exact ZqT none (Jg b) h (k c D)
theorem puA {E:El α} {bytes z:Nat} {zero cs:Jc} {t el:TypeId} {v:Jl} {xs:List α} {y:α} {o:List α->Jm ρ} {r:ρ} {ps:Jl->List α->List Ob} {K:Jl->Heap->Jl->Heap->Prop} (D:(gApp bytes xs [y]).bind o=Jg r) (i:Nat)
    (hk:∀{u h1} zs v' h',S ψ h0 h' (ps v' zs)->o zs=Jg r->K u h1 v' h') (s:S ψ h0 h os:=by exact C) (ho:os[i]?=Jg (.it (El.ow E) [v] xs):=by exact rfl) (hy:∀φ,E.R φ [] cs y:=by exact fun _=>⟨rfl,rfl⟩) (hz:E.z=z:=by exact rfl) (w:zero.length=z:=by exact rfl)
    (e:(λv' zs=>os.set i (.it (El.ow E) [v'] zs))=ps:=by first|(dsimp only [List.set];done)|exact rfl):vNewS h (.cells cs.toArray t) 1 λu h'=>vAppend z bytes zero el v u h' (K u h'):=by
  obtain ⟨zs,x,D⟩:=obind D;subst e;exact ZcA s i ho hy hz w x λv' h' s=>hk zs v' h' s D
theorem piA {E:El α} {bytes z:Nat} {zero cs:Jc} {t el:TypeId} {v:Jl} {xs:List α} {y:α} {o:List α->Jm ρ} {r:ρ} {ps:Jl->List α->List Ob} {K:Jl->Heap->Jl->Heap->Prop} (D:(gApp bytes xs [y]).bind o=Jg r) (i:Nat)
    (hk:∀{u h1} zs v' h',S ψ h0 h' (ps v' zs)->o zs=Jg r->K u h1 v' h') (s:S ψ h0 h (.it E cs y::os):=by exact C) (ho:os[i]?=Jg (.it (El.ow E) [v] xs):=by exact rfl) (hz:E.z=z:=by exact rfl) (w:zero.length=z:=by exact rfl)
    (e:(λv' zs=>os.set i (.it (El.ow E) [v'] zs))=ps:=by first|(dsimp only [List.set];done)|exact rfl):vNewS h (.cells cs.toArray t) 1 λu h'=>vAppend z bytes zero el v u h' (K u h'):=by
  obtain ⟨zs,x,D⟩:=obind D;subst e;exact Zcn s i ho hz w x λv' h' s=>hk zs v' h' s D
theorem mkO (E:El α) {bytes:Nat} {zero:Jc} {el:TypeId} {n c:Int} {o:List α->Jm ρ} {r:ρ} {K:Jl->Heap->Prop} (D:(gMake bytes E.zx n c).bind o=Jg r)
    (x:∀xs v w,S ψ h0 w (.it (El.ow E) [v] xs::os)->o xs=Jg r->K v w) (s:S ψ h0 h os:=by exact C) (hz:zero=E.zc:=by exact rfl):vMake bytes zero el n c h K:=by
  obtain ⟨zs,u,D⟩:=obind D;exact Zwz s hz u λv w s=>x zs v w s D
theorem gzA {b:Int} {o:Unit->Jm ρ} {r:ρ} {B:Prop} (D:(gNz b).bind o=Jg r) (k:o ()=Jg r->B):b≠0/\B:=by
  obtain ⟨_,s,D⟩:=obind D;exact ⟨ZFL s,k D⟩
theorem gfA {a b:Jd} {o:Unit->Jm ρ} {r:ρ} {B:Prop} (D:(gFit a b).bind o=Jg r) (k:o ()=Jg r->B):((a.size+b.size:Nat):Int)<=IntKind.i64.max/\B:=by
  obtain ⟨_,s,D⟩:=obind D;exact ⟨ZEO s,k D⟩
abbrev annO:Ann:=⟨[],[],[],[]⟩
abbrev sc (h:Heap) (E:El α) (v:Jl) (xs:List α):Prop:=SlC (hcell h) E v xs
theorem cm0 {P:Program} {f:FuncId} {w:Array Jl} {R:Jl->Heap->Prop} {c:Jm α} {o:α->Jm ρ} {r:ρ} {V:α->Jl} (N:c.bind o=Jg r) (C:S ψ h0 h os)
    (H:∀{φ x},CLe φ (hcell h)->c=Jg x->CallsH P f w h λv h'=>v=V x/\S φ h h' []) (K:∀x h',S ψ h0 h' os->o x=Jg r->R (V x) h'):CallsH P f w h R:=cl0 N C (λs _ _ u=>H s.fle u) K
theorem cm1 {P:Program} {f:FuncId} {a2:Array Jl} {R:Jl->Heap->Prop} {c:Jm α} {o:α->Jm ρ} {r:ρ} {β:Type} {V:α->β->Jl} {a:α->β->Ob} (N:c.bind o=Jg r) (C:S ψ h0 h os)
    (H:∀{φ x},CLe φ (hcell h)->c=Jg x->CallsH P f a2 h λv h'=>∃w,v=V x w/\S φ h h' [a x w]) (K:∀x w h',S ψ h0 h' (a x w::os)->o x=Jg r->R (V x w) h'):CallsH P f a2 h R:=cl1 N C (λs _ _ u=>H s.fle u) K
theorem cm2 {P:Program} {f:FuncId} {a2:Array Jl} {R:Jl->Heap->Prop} {c:Jm α} {o:α->Jm ρ} {r:ρ} {β γ:Type} {V:α->β->γ->Jl} {a b:α->β->γ->Ob} (N:c.bind o=Jg r) (C:S ψ h0 h os)
    (H:∀{φ x},CLe φ (hcell h)->c=Jg x->CallsH P f a2 h λv h'=>∃w y,v=V x w y/\S φ h h' [a x w y,b x w y]) (K:∀x w y h',S ψ h0 h' (a x w y::b x w y::os)->o x=Jg r->R (V x w y) h'):CallsH P f a2 h R:=cl2 N C (λs _ _ u=>H s.fle u) K
section
variable {p a:Addr} {cs:Jc} {j b:Nat}
theorem adB:p=p.add 0:=rfl
theorem adC {n m:Nat}:(p.add n).add m=p.add (n+m):=by
  unfold Addr.add;by_cases h:n=0<;>by_cases k:m=0<;>simp [h,k,Nat.add_assoc]
theorem adE {l n m:Nat}:((p.add l).add n).add m=p.add (l+n+m):=by rw [adC,adC,Nat.add_assoc]
theorem adrA (e:a=p.add j:=by first|exact adE|exact adC|exact rfl|exact adB|fail):a=p.add j:=e
theorem celA (c:CellsC (hcell h) p cs:=by first
    | exact C.cells _ gatP
    | exact CellsC.mono C.le (by assumption)
    | exact CellsC.mono C.leU (by assumption)
    | exact CellsC.mono C.leF (by assumption)
    | assumption
    | exact CellsC.mono stR.le (by assumption)
    | exact stR.cells _ gatP
    | exact CellsC.mono stR.leU (by assumption)
    | exact CellsC.mono stR.leF (by assumption)
    | fail):CellsC (hcell h) p cs:=c
theorem lIA {k:IntKind} {x:Int} {K:Int->Prop} (u:K x) (w:a=p.add j:=by exact adrA) (N:CellsC (hcell h) p cs:=by exact celA) (r:cs[j]?=Jg (.int k x):=by exact rfl):ldI k h a K:=ldI_K N j w r u
theorem lVA {x:Jl} {K:Jl->Prop} (u:K x) (w:a=p.add j:=by exact adrA) (N:CellsC (hcell h) p cs:=by exact celA) (r:cs[j]?=Jg x:=by exact rfl):ldV h a K:=ldV_K N j w r u
theorem lSA {x:Jd} {K:Jd->Prop} (u:K x) (w:a=p.add j:=by exact adrA) (N:CellsC (hcell h) p cs:=by exact celA) (r:cs[j]?=Jg (.string x):=by exact rfl):ldS h a K:=ldS_K N j w r u
theorem lBA {x:Bool} {K:Bool->Prop} (u:K x) (w:a=p.add j:=by exact adrA) (N:CellsC (hcell h) p cs:=by exact celA) (r:cs[j]?=Jg (.bool x):=by exact rfl):ldB h a K:=ldB_K N j w r u
theorem lPA {x:Addr} {K:Addr->Prop} (u:K x) (w:a=p.add j:=by exact adrA) (N:CellsC (hcell h) p cs:=by exact celA) (r:cs[j]?=Jg (.pointer (Jg x)):=by exact rfl):ldP h a K:=ldP_K N j w r u
theorem neA (E:El α) {t:TypeId} {K:Jl->Heap->Prop} (w:∀v u,S ψ h0 u (.it (El.ow E) [v] []::os)->K v u) (s:S ψ h0 h os:=by exact C):vNewS h (.cells ([]:Jc).toArray t) 0 K:=
  ZW (E:=E) (css:=[]) (xs:=[]) s (λ_=>rfl) rfl rfl w
structure Bx (F:Prop):Prop where
  p:F
theorem lsA {F G:Prop} (k:F) (f:Bx F->G:=by
    intro k
    repeat first|refine lVA ?_|refine lIA ?_|refine lSA ?_|refine lBA ?_|refine lPA ?_
    exact k.p):G:=f ⟨k⟩
theorem brZ {c:Bool} {a b:Jm ρ} {r:ρ} {A B:Prop} (s:b=Jg r->B) (h:(bif c then a else b)=Jg r:=by exact N) (u:a=Jg r->A:=by intro N;exact tZ):brn c A B:=brQ h u s
theorem brY {c:Bool} {a b:Jm ρ} {r:ρ} {A B:Prop} (u:a=Jg r->A) (h:(bif c then a else b)=Jg r:=by exact N) (s:b=Jg r->B:=by intro N;exact tZ):brn c A B:=brQ h u s
theorem enA {G:Prop} (h:G:=by
    first
    | (repeat apply Exists.intro
       first|exact ⟨rfl,C.sel selA⟩|exact ⟨C.sel selA,N⟩)
    | (apply Exists.intro
       refine ⟨ltS,?_⟩
       repeat apply Exists.intro
       exact ⟨C.sel selA,by assumption⟩)
    | fail):G:=h
theorem endX {G:Prop} (h:G:=by
    first
    | exact enA
    | (obtain rfl:=oI N
       clear N
       (repeat first|exact enA|(obtain rfl:=oI O;clear O))
       first|done|fail)
    | (obtain ⟨_,r,rfl⟩:=omap N
       obtain rfl:=oI O
       (repeat apply Exists.intro)
       exact ⟨C.sel selA,r⟩)):G:=h
theorem endL {G:Prop} (h:G:=by
    obtain rfl:=oI N;apply Exists.intro;refine ⟨ltS,?_⟩
    repeat apply Exists.intro
    first|exact ⟨C.sel selA,O⟩|exact ⟨C.sel selA,by assumption⟩):G:=h
theorem endM {G:Prop} (h:G:=by
    apply Exists.intro;refine ⟨ltS,?_⟩
    repeat apply Exists.intro
    first|exact ⟨C.sel selA,O⟩|exact ⟨C.sel selA,by assumption⟩):G:=h
theorem endI {G:Prop} (h:G:=by
    obtain ⟨_,r⟩:=ZP N
    repeat apply Exists.intro
    exact ⟨C.sel selA,r⟩):G:=h
theorem endC {G:Prop} (h:G:=by
    repeat apply Exists.intro
    exact ⟨C.sel selA,N⟩):G:=h
theorem endR {G:Prop} (h:G:=by
    repeat apply Exists.intro
    exact ⟨rfl,C.sel selA⟩):G:=h
theorem endS {G:Prop} (h:G:=by
    obtain rfl:=oI N
    repeat apply Exists.intro
    exact ⟨rfl,C.sel selA⟩):G:=h
end
end
end Go.Vc
