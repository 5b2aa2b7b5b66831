import Derived.Test.YtepnljbkgjbbmaaGreatDoorVcDn
namespace Go.Vc
set_option linter.unusedVariables false
set_option linter.unusedSimpArgs false
open Go
section
variable {ψ:CM} {h0 h:Heap} {os:List Ob} {α ρ:Type}
section
variable {a b c d e f g i j k l m n o p q:Ob} {z:List Ob}
theorem gat0:(a::z)[0]?=some a:=rfl
theorem gat1:(a::b::z)[1]?=some b:=rfl
theorem gat2:(a::b::c::z)[2]?=some c:=rfl
theorem gat3:(a::b::c::d::z)[3]?=some d:=rfl
theorem gat4:(a::b::c::d::e::z)[4]?=some e:=rfl
theorem gat5:(a::b::c::d::e::f::z)[5]?=some f:=rfl
theorem gat6:(a::b::c::d::e::f::g::z)[6]?=some g:=rfl
theorem gat7:(a::b::c::d::e::f::g::i::z)[7]?=some i:=rfl
theorem gat8:(a::b::c::d::e::f::g::i::j::z)[8]?=some j:=rfl
theorem gat9:(a::b::c::d::e::f::g::i::j::k::z)[9]?=some k:=rfl
theorem gat10:(a::b::c::d::e::f::g::i::j::k::l::z)[10]?=some l:=rfl
theorem gat11:(a::b::c::d::e::f::g::i::j::k::l::m::z)[11]?=some m:=rfl
theorem gat12:(a::b::c::d::e::f::g::i::j::k::l::m::n::z)[12]?=some n:=rfl
theorem gat13:(a::b::c::d::e::f::g::i::j::k::l::m::n::o::z)[13]?=some o:=rfl
theorem gat14:(a::b::c::d::e::f::g::i::j::k::l::m::n::o::p::z)[14]?=some p:=rfl
theorem gat15:(a::b::c::d::e::f::g::i::j::k::l::m::n::o::p::q::z)[15]?=some q:=rfl
end
theorem gatP {i:Nat} {o:Ob} (h:os[i]?=some o:=by first|exact gat0|exact gat1|exact gat2|exact gat3|exact gat4|exact gat5|exact gat6|exact gat7|exact gat8|exact gat9|exact gat10|exact gat11|exact gat12|exact gat13|exact gat14|exact gat15):os[i]?=some o:=h
theorem slA {G:Prop} (h:G:=by first
  | exact SlC.mono C.le (by assumption)
  | exact C.rdL _ gatP frzA
  | exact C.rdF _ gatP
  | exact CellsC.mono C.le (by assumption)
  | exact SlC.mono C.leU (by assumption)
  | exact CellsC.mono C.leU (by assumption)
  | exact SlC.nil):G:=h
theorem boxA {u:List Ob} {a:Addr} {b i j:Nat} {cs:List Value} {v:Value} {K:Heap->Prop} (hk:∀ r,S ψ h0 r u->K r) (w:a=⟨b,j,none⟩:=by exact rfl) (s:S ψ h0 h os:=by exact C) (y:os[i]?=some (.box b cs):=by exact gatP) (x:(cs[j]?).isSome=true:=by exact rfl) (h1:v.oneCell'=true:=by exact oneA) (e:os.set i (.box b (cs.set j v))=u:=by first|(dsimp only [List.set];done)|exact rfl):vStore1 h a v K:=
 ZK s i w y x h1 fun r t=>hk r (e▸t)
theorem oneA {v:Value} (h:v.oneCell'=true:=by first
  | exact rfl
  | exact SlC.one (by assumption)
  | exact SlC.one (C.rdL _ gatP frzA)
  | exact SlC.one (C.rdF _ gatP)):v.oneCell'=true:=h
inductive Se:List Ob->List Ob->Prop where
 | n {os:List Ob}:Se os []
 | c {o:Ob} {os ts:List Ob} {i:Nat}:os[i]?=some o->Se (os.eraseIdx i) ts->Se os (o::ts)
theorem Zqa {o:Ob}:∀ {os:List Ob} {i:Nat},os[i]?=some o->os.Perm (o::os.eraseIdx i)
 | _::_,0,h=>by cases h;exact .refl _
 | _::_,_+1,h=>((Zqa (by simpa using h)).cons _).trans (.swap ..)
theorem Se.perm:∀ {os u:List Ob},Se os u->∃ r,os.Perm (u++r)
 | os,_,.n=>⟨os,.refl _⟩
 | _,_,.c k s=>by
  obtain ⟨r,h⟩:=s.perm
  exact ⟨r,(Zqa k).trans (h.cons _)⟩
theorem Rel.perm {φ:CM} {os ps:List Ob} (hp:os.Perm ps):∀ {L:Rws},Rel φ os L->∃ M,L.Perm M/\Rel φ ps M:=by
 induction hp with
 | nil=>exact fun h=>⟨_,.refl _,h⟩
 | cons _ _ ih=>
  rintro _ ⟨x,y,rfl,h1,r⟩
  obtain ⟨M,s,u⟩:=ih r
  exact ⟨x++M,s.append_left _,x,M,rfl,h1,u⟩
 | swap _ _ _=>
  rintro _ ⟨x,_,rfl,h1,y,L3,rfl,r,s⟩
  refine ⟨y++(x++L3),?_,y,_,rfl,r,x,L3,rfl,h1,s⟩
  rw [<-List.append_assoc,<-List.append_assoc]
  exact List.perm_append_comm.append_right _
 | trans _ _ v w=>
  intro _ h
  obtain ⟨M,h1,r⟩:=v h
  obtain ⟨N,s,u⟩:=w r
  exact ⟨N,h1.trans s,u⟩
theorem Rel.left {w:CM} {r:List Ob}:∀ {x:List Ob} {L:Rws},Rel w (x++r) L->∃ M,M.Sublist L/\Rel w x M
 | [],_,_=>⟨[],List.nil_sublist _,rfl⟩
 | _::_,_,⟨L1,_,e,h1,s⟩=>by
  obtain ⟨M,u,v⟩:=Rel.left s
  exact ⟨L1++M,e▸(List.Sublist.refl L1).append u,L1,M,rfl,h1,v⟩
end
end Go.Vc
