import Derived.Test.YtcneolcmjjlmnaaGreatDoorVcPin
open List renaming perm_append_comm->JE
open Option renaming some->Jg
open Go renaming Value->Jl
namespace Go.Vc
set_option linter.unusedVariables false
set_option linter.unusedSimpArgs false
open Go
section
variable {ψ:CM} {h0 h:Heap} {os:List Ob} {α:Type}
def blk:Jl->Jm Nat
 | .slice (Jg a) _ _=>Jg a.block
 | _=>none
theorem S.boxNe {b:Nat} {cs:Jc} {E:El α} {v:Jl} {xs:List α} (st:S ψ h0 h os) (i j:Nat) (hi:os[i]?=Jg (.box b cs)) (l:os[j]?=Jg (.it (El.ow E) [v] xs)) (o:blk v=Jg b):False:=by
 obtain ⟨φ,L,s,r⟩:=st;obtain ⟨Ls,rfl,hs⟩:=r.split;obtain ⟨x,a,f⟩:=hs i _ hi;obtain ⟨Lj,g,k⟩:=hs j _ l;have u:x=[(b,.cs cs)]:=f;subst u;have w:i≠j:=λe=>by subst e;rw [hi] at l;cases l
 rcases El.ow_to k with ⟨rfl,_⟩|⟨b',c,pre,css,rest,Lr,rfl,_,_,rfl,_⟩
 .cases o
 .have:b'=b:=by simpa [blk] using o
  subst this;exact Zoo s.nod a g w b' (by simp [Rws.bs]) (by simp [Rws.bs])
theorem Zpd {a:Addr}:∀{vs:Jc} {i:Nat} {h:Heap} {K:Heap->Prop},vStoreN a vs i h (λh'=>ExtBut (λx=>a.block=x) h h'->K h')->vStoreN a vs i h K
 | [],_,h,K,hk=>hk (eY _ _)
 | v::vs,i,h,K,hk=>by
  obtain ⟨h1,f,k,l⟩:=hk;refine ⟨h1,f,k,Zpd ?_⟩;have o:ExtBut (λx=>a.block=x) h (hset h (a.add i) v):=by
   refine (ExtBut.hset h (a.add i) v).mono λx e=>?_;subst e;unfold Addr.add;split<;>rfl
  have mono:∀{ws:Jc} {j:Nat} {g:Heap} {P Q:Heap->Prop},(∀x,P x->Q x)->vStoreN a ws j g P->vStoreN a ws j g Q:=by
   intro ws;induction ws with
   | nil=>intro j g P Q a2 hp;exact a2 _ hp
   | cons w ws ih=>intro j g P Q a2 ⟨a1,r,s,u⟩;exact ⟨a1,r,s,ih a2 u⟩
  exact mono (λh' hh hy=>hh (o.trans hy)) l
theorem ZIp {z bytes:Nat} {zero:Jc} {el:TypeId} {v u:Jl} {K:Jl->Heap->Prop} (hk:vAppend z bytes zero el v u h (λv' h'=>ExtBut (λx=>blk v=Jg x) h h'->K v' h')):vAppend z bytes zero el v u h K:=by
 unfold vAppend at hk ⊢;split at hk
 .obtain ⟨old,news,a1,f,i,k,r,s,y,a8,a9,l,o⟩:=hk;rename_i ab n c am m mc;refine ⟨old,news,a1,f,i,k,r,s,y,a8,λa2 a ha=>?_,λa2 hb=>l a2 hb (eY _ _),λa7 a6 h1 h2=>o a7 a6 h1 h2 (eZ (ExtH.push _ _))⟩;obtain ⟨b1,b2⟩:=a9 a2 a ha;refine ⟨b1,Zpd ?_⟩;subst ha;have mono:∀{p:Addr} {ws:Jc} {j:Nat} {g:Heap} {P Q:Heap->Prop},(∀x,P x->Q x)->vStoreN p ws j g P->vStoreN p ws j g Q:=by
   intro p ws;induction ws with
   | nil=>intro j g P Q a3 hp;exact a3 _ hp
   | cons w ws ih=>intro j g P Q a3 ⟨a1,f,i,k⟩;exact ⟨a1,f,i,ih a3 k⟩
  refine mono (λh' hh hy=>hh (hy.mono λx e=>?_)) b2;show Jg a.block=Jg x;rw [<-e];unfold Addr.add;split<;>rfl
 .exact hk.elim
theorem ZbL (st:S ψ h0 h os) {cs:Jc} {t:TypeId} {n:Nat} {K:Jl->Heap->Prop} (g:∀b e,ExtH h e->S ψ h0 e (.box b cs::os)->K (.slice (Jg ⟨b,0,none⟩) n n) e):vNewS h (.cells cs.toArray t) n K:=by
 refine vNewS.mk ?_;obtain ⟨φ,L,s,r⟩:=st;exact g _ _ (ExtH.push h _) ⟨φ,_,s.new cs t,[(h.size,.cs cs)],L,rfl,rfl,r⟩
theorem Zas {E:El α} {bytes z:Nat} {zero cs:Jc} {el:TypeId} {v:Jl} {xs zs:List α} {y:α} {b:Nat} (st:S ψ h0 h (.it E cs y::os)) (i:Nat) (ho:os[i]?=Jg (.it (El.ow E) [v] xs)) (j:Nat) (ad:os[j]?=Jg (.box b cs)) (hz:E.z=z) (f:zero.length=z) (o:gApp bytes xs [y]=Jg zs)
  {K:Jl->Heap->Prop} (hk:∀v' h',ExtBut (λx=>blk v=Jg x) h h'->S ψ h0 h' (os.set i (.it (El.ow E) [v'] zs))->K v' h'):vAppend z bytes zero el v (.slice (Jg ⟨b,0,none⟩) 1 1) h K:=by
 obtain ⟨⟨g,k⟩,rfl⟩:=Ze5 o;have a8:CellsC (hcell h) ⟨b,0,none⟩ cs:=st.cells (j+1) (by simpa using ad);obtain ⟨φ,L,s,Ly,L',rfl,hy,r⟩:=st;obtain ⟨L1,Lo,L2,rfl,w,_,e4⟩:=r.at ho;have s2:S0 ψ h0 h φ (Lo++(L1++Ly++L2)):=s.perm (by
  have h1:(Ly++(L1++Lo++L2)).Perm ((L1++Lo++L2)++Ly):=JE;refine h1.trans ?_;have a:(L1++Lo).Perm (Lo++L1):=JE;have e:(L1++Lo++L2++Ly).Perm (Lo++L1++L2++Ly):=(a.append_right L2).append_right Ly;refine e.trans ?_;simp only [List.append_assoc];exact (JE (l₁:=L2) (l₂:=Ly)).append_left L1 |>.append_left Lo)
 have hl:=E.len hy;have ab:=El.ow_to w;refine ZIp ?_;refine ZmD (m:=1) (news:=cs) s2 ab hz f (.inr ⟨_,1,rfl,λj' u hu=>a8 j' u hu⟩) Z (E.one hy) g k λv' a3 h' s3 aa hx=>hk v' h' hx ?_;have l:=aa Ly [cs] [y] ⟨Ly,[],by simp,hy,rfl⟩ (by simp) rfl;refine ⟨φ,L1++(a3++Ly)++L2,s3.perm ?_,e4 φ (.it (El.ow E) [v'] (xs++[y])) (a3++Ly) (CLe.refl _) ⟨v',rfl,l⟩⟩;have a:(a3++L1).Perm (L1++a3):=JE;have e:=(a.append_right Ly).append_right L2;simpa using e
theorem Zl5 {E:El α} {bytes z:Nat} {zero cs:Jc} {el:TypeId} {v:Jl} {xs o:List α} {y:α} {b:Nat} (st:S ψ h0 h os) (i:Nat) (w:os[i]?=Jg (.it (El.ow E) [v] xs)) (j:Nat) (k:os[j]?=Jg (.box b cs)) (hy:∀φ,E.R φ [] cs y) (hz:E.z=z) (a:zero.length=z) (e:gApp bytes xs [y]=Jg o)
  {K:Jl->Heap->Prop} (u:∀l g,ExtBut (λx=>blk v=Jg x) h g->S ψ h0 g (os.set i (.it (El.ow E) [l] o))->K l g):vAppend z bytes zero el v (.slice (Jg ⟨b,0,none⟩) 1 1) h K:=
 Zas (st.put hy) i w j k hz a e u
variable {B:Nat->Prop}
theorem maskC {a:Addr} {v:Jl} (f:¬B a.block) (e:hcell h a=Jg v):hcell (hmask B h) a=Jg v:=by
 unfold hcell at e ⊢;rw [ZjX f];exact e
theorem ZBT {k:IntKind} {a:Addr} {K:Int->Prop} (e:¬B a.block) (g:ldI k h a K):ldI k (hmask B h) a K:=by obtain ⟨x,h1,f⟩:=g;exact ⟨x,maskC e h1,f⟩
theorem Zsq {a:Addr} {K:Jl->Prop} (e:¬B a.block) (g:ldV h a K):ldV (hmask B h) a K:=by obtain ⟨x,h1,f⟩:=g;exact ⟨x,maskC e h1,f⟩
end
end Go.Vc
