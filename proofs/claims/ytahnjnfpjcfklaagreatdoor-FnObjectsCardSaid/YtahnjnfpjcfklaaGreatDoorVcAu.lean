import Derived.Test.YtahnjnfpjcfklaaGreatDoorVcDn
namespace Go.Vc
set_option linter.unusedVariables false
set_option linter.unusedSimpArgs false
open Go
section
variable {ψ:CM} {h0 h:Heap} {os:List Ob} {α ρ:Type}
section
variable {a b c d e f g i j k l m n o p q:Ob} {z:List Ob}
theorem gat0:(a::z)[0]?=some a:=rfl
theorem gat1:(a::b::z)[1]?=some b:=rfl
theorem gat2:(a::b::c::z)[2]?=some c:=rfl
theorem gat3:(a::b::c::d::z)[3]?=some d:=rfl
theorem gat4:(a::b::c::d::e::z)[4]?=some e:=rfl
theorem gat5:(a::b::c::d::e::f::z)[5]?=some f:=rfl
theorem gat6:(a::b::c::d::e::f::g::z)[6]?=some g:=rfl
theorem gat7:(a::b::c::d::e::f::g::i::z)[7]?=some i:=rfl
theorem gat8:(a::b::c::d::e::f::g::i::j::z)[8]?=some j:=rfl
theorem gat9:(a::b::c::d::e::f::g::i::j::k::z)[9]?=some k:=rfl
theorem gat10:(a::b::c::d::e::f::g::i::j::k::l::z)[10]?=some l:=rfl
theorem gat11:(a::b::c::d::e::f::g::i::j::k::l::m::z)[11]?=some m:=rfl
theorem gat12:(a::b::c::d::e::f::g::i::j::k::l::m::n::z)[12]?=some n:=rfl
theorem gat13:(a::b::c::d::e::f::g::i::j::k::l::m::n::o::z)[13]?=some o:=rfl
theorem gat14:(a::b::c::d::e::f::g::i::j::k::l::m::n::o::p::z)[14]?=some p:=rfl
theorem gat15:(a::b::c::d::e::f::g::i::j::k::l::m::n::o::p::q::z)[15]?=some q:=rfl
end
theorem gatP {i:Nat} {o:Ob} (h:os[i]?=some o:=by first|exact gat0|exact gat1|exact gat2|exact gat3|exact gat4|exact gat5|exact gat6|exact gat7|exact gat8|exact gat9|exact gat10|exact gat11|exact gat12|exact gat13|exact gat14|exact gat15|fail):os[i]?=some o:=h
theorem slA {G:Prop} (h:G:=by first
    | exact SlC.mono C.le (by assumption)
    | exact C.rdL _ gatP frzA
    | exact C.rdF _ gatP
    | exact CellsC.mono C.le (by assumption)
    | exact SlC.mono C.leU (by assumption)
    | exact CellsC.mono C.leU (by assumption)
    | exact SlC.nil
    | fail):G:=h
theorem boxA {u:List Ob} {a:Addr} {b i j:Nat} {cs:List Value} {v:Value} {K:Heap->Prop} (x:∀ r,S ψ h0 r u->K r) (w:a=⟨b,j,none⟩:=by exact rfl) (s:S ψ h0 h os:=by exact C) (ho:os[i]?=some (.box b cs):=by exact gatP) (hj:(cs[j]?).isSome=true:=by exact rfl) (h1:v.oneCell'=true:=by exact oneA) (e:os.set i (.box b (cs.set j v))=u:=by first|(dsimp only [List.set];done)|exact rfl):vStore1 h a v K:=
  ZcI s i w ho hj h1 fun r t=>x r (e▸t)
theorem oneA {v:Value} (h:v.oneCell'=true:=by first
    | exact rfl
    | exact SlC.one (by assumption)
    | exact SlC.one (C.rdL _ gatP frzA)
    | exact SlC.one (C.rdF _ gatP)
    | fail):v.oneCell'=true:=h
inductive Se:List Ob->List Ob->Prop where
  | n {os:List Ob}:Se os []
  | c {o:Ob} {os ts:List Ob} {i:Nat}:os[i]?=some o->Se (os.eraseIdx i) ts->Se os (o::ts)
  | z {β:Type} {E:El β} {os ts:List Ob}:Se os ts->Se os (.it (El.ow E) [.slice none 0 0] []::ts)
  | y {β:Type} {E:El β} {os ts:List Ob}:Se os ts->Se os (.it (El.sl E) [.slice none 0 0] []::ts)
theorem Se.rel {φ:CM}:∀ {os u:List Ob},Se os u->∀ {L:Rws},Rel φ os L->∃ M r,L.Perm (M++r)/\Rel φ u M
  | _,_,.n,L,_=>⟨[],L,.refl _,rfl⟩
  | _,_,.c k s,L,h=>by
    obtain ⟨L1,Lo,L2,rfl,w,x,_⟩:=h.at k;obtain ⟨M,r,p,v⟩:=s.rel x;refine ⟨Lo++M,r,?_,Lo,M,rfl,w,v⟩;have y:(L1++Lo++L2).Perm (Lo++(L1++L2)):=by
      rw [<-List.append_assoc];exact List.perm_append_comm.append_right L2
    rw [List.append_assoc Lo M r];exact y.trans (p.append_left Lo)
  | _,_,.z s,L,h=>by
    obtain ⟨M,r,p,v⟩:=s.rel h;exact ⟨M,r,p,[],M,rfl,⟨_,rfl,.inl ⟨rfl,rfl,rfl⟩⟩,v⟩
  | _,_,.y s,L,h=>by
    obtain ⟨M,r,p,v⟩:=s.rel h;exact ⟨M,r,p,[],M,rfl,El.sl_of SlC.nil,v⟩
theorem S.sel {u:List Ob} (C:S ψ h0 h os) (s:Se os u):S ψ h0 h u:=by
  obtain ⟨φ,L,v,x⟩:=C;obtain ⟨M,r,p,w⟩:=s.rel x;exact ⟨φ,M,(v.perm p).sub (List.sublist_append_left ..),w⟩
theorem selA {r:List Ob} (h:Se os r:=by (repeat first|exact Se.n|refine Se.c gatP ?_|refine Se.z ?_|refine Se.y ?_);first|done|fail):Se os r:=h
theorem ce0 {P:Program} {f:FuncId} {u:Array Value} {R:Value->Heap->Prop} {V:Value} (C:S ψ h0 h os) (H:∀ {φ L},S0 ψ h0 h φ L->CallsH P f u h fun v r=>v=V/\S φ h r []) (K:∀ r,ExtH h r->S ψ h0 r os->R V r):CallsH P f u h R:=by
  obtain ⟨φ,L,s,q⟩:=id C;exact (H s).mono fun v r ⟨e,t⟩=>by subst e;exact K r t.ext (join0 s q t)
theorem ce1 {P:Program} {f:FuncId} {u:Array Value} {R:Value->Heap->Prop} {V:Value->Value} {a:Value->Ob} (C:S ψ h0 h os) (H:∀ {φ L},S0 ψ h0 h φ L->CallsH P f u h fun v r=>∃ w,v=V w/\S φ h r [a w]) (K:∀ w r,ExtH h r->S ψ h0 r (a w::os)->R (V w) r):CallsH P f u h R:=by
  obtain ⟨φ,L,s,q⟩:=id C;exact (H s).mono fun v r ⟨w,e,t⟩=>by subst e;exact K w r t.ext (join1 s q t)
theorem frA {r:List Ob} {E u:El α} {cs:List Value} {x:α} (i:Nat) (s:S ψ h0 h os:=by exact C) (ho:os[i]?=some (.it E cs x):=by exact rfl) (w:Frz E u:=by exact frzA) (e:os.set i (.it u cs x)=r:=by first|(dsimp only [List.set];done)|exact rfl):S ψ h0 h r:=e▸s.freeze i ho w
theorem ssB {s:ByteArray} {a:Int} {o:ByteArray->Option ρ} {r:ρ} {K:ByteArray->Prop} (D:(gStSl s a s.size).bind o=some r) (k:∀ c,o c=some r->K c):vSliceStr s (some (.int .i64 a)) none K:=by
  obtain ⟨c,h,D⟩:=obind D;exact ZtD (some a) none h (k c D)
theorem ssC {s:ByteArray} {b:Int} {o:ByteArray->Option ρ} {r:ρ} {K:ByteArray->Prop} (D:(gStSl s 0 b).bind o=some r) (k:∀ c,o c=some r->K c):vSliceStr s none (some (.int .i64 b)) K:=by
  obtain ⟨c,h,D⟩:=obind D;exact ZtD none (some b) h (k c D)
theorem puA {E:El α} {bytes z:Nat} {zero cs:List Value} {t el:TypeId} {v:Value} {xs:List α} {y:α} {o:List α->Option ρ} {r:ρ} {ps:Value->List α->List Ob} {K:Value->Heap->Value->Heap->Prop} (D:(gApp bytes xs [y]).bind o=some r) (i:Nat)
    (hk:∀ {u h1} zs v' h',S ψ h0 h' (ps v' zs)->o zs=some r->K u h1 v' h') (s:S ψ h0 h os:=by exact C) (ho:os[i]?=some (.it (El.ow E) [v] xs):=by exact rfl) (hy:∀ φ,E.R φ [] cs y:=by exact fun _=>⟨rfl,rfl⟩) (hz:E.z=z:=by exact rfl) (w:zero.length=z:=by exact rfl)
    (e:(fun v' zs=>os.set i (.it (El.ow E) [v'] zs))=ps:=by first|(dsimp only [List.set];done)|exact rfl):vNewS h (.cells cs.toArray t) 1 fun u h'=>vAppend z bytes zero el v u h' (K u h'):=by
  obtain ⟨zs,x,D⟩:=obind D;subst e;exact ZhU s i ho hy hz w x fun v' h' s=>hk zs v' h' s D
theorem piA {E:El α} {bytes z:Nat} {zero cs:List Value} {t el:TypeId} {v:Value} {xs:List α} {y:α} {o:List α->Option ρ} {r:ρ} {ps:Value->List α->List Ob} {K:Value->Heap->Value->Heap->Prop} (D:(gApp bytes xs [y]).bind o=some r) (i:Nat)
    (hk:∀ {u h1} zs v' h',S ψ h0 h' (ps v' zs)->o zs=some r->K u h1 v' h') (s:S ψ h0 h (.it E cs y::os):=by exact C) (ho:os[i]?=some (.it (El.ow E) [v] xs):=by exact rfl) (hz:E.z=z:=by exact rfl) (w:zero.length=z:=by exact rfl)
    (e:(fun v' zs=>os.set i (.it (El.ow E) [v'] zs))=ps:=by first|(dsimp only [List.set];done)|exact rfl):vNewS h (.cells cs.toArray t) 1 fun u h'=>vAppend z bytes zero el v u h' (K u h'):=by
  obtain ⟨zs,x,D⟩:=obind D;subst e;exact Zbw s i ho hz w x fun v' h' s=>hk zs v' h' s D
theorem mkO (E:El α) {bytes:Nat} {zero:List Value} {el:TypeId} {n c:Int} {o:List α->Option ρ} {r:ρ} {K:Value->Heap->Prop} (D:(gMake bytes E.zx n c).bind o=some r)
    (hk:∀ xs v w,S ψ h0 w (.it (El.ow E) [v] xs::os)->o xs=some r->K v w) (s:S ψ h0 h os:=by exact C) (hz:zero=E.zc:=by exact rfl):vMake bytes zero el n c h K:=by
  obtain ⟨x,u,D⟩:=obind D;exact ZqN s hz u fun v w s=>hk x v w s D
theorem gzA {b:Int} {o:Unit->Option ρ} {r:ρ} {B:Prop} (D:(gNz b).bind o=some r) (k:o ()=some r->B):b≠0/\B:=by
  obtain ⟨_,s,D⟩:=obind D;exact ⟨ZIf s,k D⟩
theorem gfA {a b:ByteArray} {o:Unit->Option ρ} {r:ρ} {B:Prop} (D:(gFit a b).bind o=some r) (k:o ()=some r->B):((a.size+b.size:Nat):Int)<=IntKind.i64.max/\B:=by
  obtain ⟨_,s,D⟩:=obind D;exact ⟨ZFx s,k D⟩
abbrev annO:Ann:=⟨[],[],[],[]⟩
abbrev sc (h:Heap) (E:El α) (v:Value) (xs:List α):Prop:=SlC (hcell h) E v xs
theorem cm0 {P:Program} {f:FuncId} {w:Array Value} {R:Value->Heap->Prop} {c:Option α} {o:α->Option ρ} {r:ρ} {V:α->Value} (N:c.bind o=some r) (C:S ψ h0 h os)
    (H:∀ {φ x},CLe φ (hcell h)->c=some x->CallsH P f w h fun v h'=>v=V x/\S φ h h' []) (K:∀ x h',S ψ h0 h' os->o x=some r->R (V x) h'):CallsH P f w h R:=cl0 N C (fun s _ _ u=>H s.fle u) K
theorem cm1 {P:Program} {f:FuncId} {a2:Array Value} {R:Value->Heap->Prop} {c:Option α} {o:α->Option ρ} {r:ρ} {β:Type} {V:α->β->Value} {a:α->β->Ob} (N:c.bind o=some r) (C:S ψ h0 h os)
    (H:∀ {φ x},CLe φ (hcell h)->c=some x->CallsH P f a2 h fun v h'=>∃ w,v=V x w/\S φ h h' [a x w]) (K:∀ x w h',S ψ h0 h' (a x w::os)->o x=some r->R (V x w) h'):CallsH P f a2 h R:=cl1 N C (fun s _ _ u=>H s.fle u) K
theorem cm2 {P:Program} {f:FuncId} {a2:Array Value} {R:Value->Heap->Prop} {c:Option α} {o:α->Option ρ} {r:ρ} {β γ:Type} {V:α->β->γ->Value} {a b:α->β->γ->Ob} (N:c.bind o=some r) (C:S ψ h0 h os)
    (H:∀ {φ x},CLe φ (hcell h)->c=some x->CallsH P f a2 h fun v h'=>∃ w y,v=V x w y/\S φ h h' [a x w y,b x w y]) (K:∀ x w y h',S ψ h0 h' (a x w y::b x w y::os)->o x=some r->R (V x w y) h'):CallsH P f a2 h R:=cl2 N C (fun s _ _ u=>H s.fle u) K
section
variable {p a:Addr} {cs:List Value} {j b:Nat}
theorem adB:p=p.add 0:=rfl
theorem adC {n m:Nat}:(p.add n).add m=p.add (n+m):=by
  unfold Addr.add;by_cases h:n=0<;>by_cases k:m=0<;>simp [h,k,Nat.add_assoc]
theorem adE {l n m:Nat}:((p.add l).add n).add m=p.add (l+n+m):=by rw [adC,adC,Nat.add_assoc]
theorem adrA (e:a=p.add j:=by first|exact adE|exact adC|exact rfl|exact adB|fail):a=p.add j:=e
theorem celA (c:CellsC (hcell h) p cs:=by first
    | exact C.cells _ gatP
    | exact CellsC.mono C.le (by assumption)
    | exact CellsC.mono C.leU (by assumption)
    | exact CellsC.mono C.leF (by assumption)
    | fail):CellsC (hcell h) p cs:=c
theorem lIA {k:IntKind} {x:Int} {K:Int->Prop} (w:K x) (u:a=p.add j:=by exact adrA) (N:CellsC (hcell h) p cs:=by exact celA) (r:cs[j]?=some (.int k x):=by exact rfl):ldI k h a K:=ldI_K N j u r w
theorem lVA {x:Value} {K:Value->Prop} (w:K x) (u:a=p.add j:=by exact adrA) (N:CellsC (hcell h) p cs:=by exact celA) (r:cs[j]?=some x:=by exact rfl):ldV h a K:=ldV_K N j u r w
theorem lSA {x:ByteArray} {K:ByteArray->Prop} (w:K x) (u:a=p.add j:=by exact adrA) (N:CellsC (hcell h) p cs:=by exact celA) (r:cs[j]?=some (.string x):=by exact rfl):ldS h a K:=ldS_K N j u r w
theorem lBA {x:Bool} {K:Bool->Prop} (w:K x) (u:a=p.add j:=by exact adrA) (N:CellsC (hcell h) p cs:=by exact celA) (r:cs[j]?=some (.bool x):=by exact rfl):ldB h a K:=ldB_K N j u r w
theorem lPA {x:Addr} {K:Addr->Prop} (w:K x) (u:a=p.add j:=by exact adrA) (N:CellsC (hcell h) p cs:=by exact celA) (r:cs[j]?=some (.pointer (some x)):=by exact rfl):ldP h a K:=ldP_K N j u r w
theorem neA (E:El α) {t:TypeId} {K:Value->Heap->Prop} (u:∀ v r,S ψ h0 r (.it (El.ow E) [v] []::os)->K v r) (s:S ψ h0 h os:=by exact C):vNewS h (.cells ([]:List Value).toArray t) 0 K:=
  ZP (E:=E) (css:=[]) (xs:=[]) s (fun _=>rfl) rfl rfl u
structure Bx (F:Prop):Prop where
  p:F
theorem lsA {F G:Prop} (k:F) (f:Bx F->G:=by
    intro k
    repeat first|refine lVA ?_|refine lIA ?_|refine lSA ?_|refine lBA ?_|refine lPA ?_
    exact k.p):G:=f ⟨k⟩
theorem brZ {c:Bool} {a b:Option ρ} {r:ρ} {A B:Prop} (s:b=some r->B) (h:(bif c then a else b)=some r:=by exact N) (u:a=some r->A:=by intro N;exact tZ):brn c A B:=brQ h u s
theorem brY {c:Bool} {a b:Option ρ} {r:ρ} {A B:Prop} (u:a=some r->A) (h:(bif c then a else b)=some r:=by exact N) (s:b=some r->B:=by intro N;exact tZ):brn c A B:=brQ h u s
theorem enA {G:Prop} (h:G:=by
    first
    | (repeat apply Exists.intro
       first|exact ⟨rfl,C.sel selA⟩|exact ⟨C.sel selA,N⟩)
    | (apply Exists.intro
       refine ⟨ltS,?_⟩
       repeat apply Exists.intro
       exact ⟨C.sel selA,by assumption⟩)
    | fail):G:=h
theorem endX {G:Prop} (h:G:=by
    first
    | exact enA
    | (obtain rfl:=oI N
       clear N
       (repeat first|exact enA|(obtain rfl:=oI O;clear O))
       first|done|fail)):G:=h
theorem endL {G:Prop} (h:G:=by
    obtain rfl:=oI N;apply Exists.intro;refine ⟨ltS,?_⟩
    repeat apply Exists.intro
    first|exact ⟨C.sel selA,O⟩|exact ⟨C.sel selA,by assumption⟩):G:=h
theorem endM {G:Prop} (h:G:=by
    apply Exists.intro;refine ⟨ltS,?_⟩
    repeat apply Exists.intro
    first|exact ⟨C.sel selA,O⟩|exact ⟨C.sel selA,by assumption⟩):G:=h
theorem endI {G:Prop} (h:G:=by
    obtain ⟨_,r⟩:=ZN N
    repeat apply Exists.intro
    exact ⟨C.sel selA,r⟩):G:=h
theorem endC {G:Prop} (h:G:=by
    repeat apply Exists.intro
    exact ⟨C.sel selA,N⟩):G:=h
theorem endR {G:Prop} (h:G:=by
    repeat apply Exists.intro
    exact ⟨rfl,C.sel selA⟩):G:=h
theorem endS {G:Prop} (h:G:=by
    obtain rfl:=oI N
    repeat apply Exists.intro
    exact ⟨rfl,C.sel selA⟩):G:=h
end
end
end Go.Vc
