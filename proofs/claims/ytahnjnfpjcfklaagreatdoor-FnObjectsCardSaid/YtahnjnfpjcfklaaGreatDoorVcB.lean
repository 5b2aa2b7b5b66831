import Derived.Test.YtahnjnfpjcfklaaGreatDoorVcPin
namespace Go.Vc
set_option linter.unusedVariables false
set_option linter.unusedSimpArgs false
open Go
section
variable {ψ:CM} {h0 h:Heap} {os:List Ob} {α:Type}
def blk:Value->Option Nat
 | .slice (some a) _ _=>some a.block
 | _=>none
theorem S.boxNe {b:Nat} {cs:List Value} {E:El α} {v:Value} {xs:List α} (st:S ψ h0 h os) (i j:Nat) (hi:os[i]?=some (.box b cs)) (l:os[j]?=some (.it (El.ow E) [v] xs)) (w:blk v=some b):False:=by
 obtain ⟨φ,L,s,r⟩:=st;obtain ⟨Ls,rfl,hs⟩:=r.split;obtain ⟨x,a,f⟩:=hs i _ hi;obtain ⟨Lj,g,k⟩:=hs j _ l;have o:x=[(b,.cs cs)]:=f;subst o;have u:i≠j:=fun e=>by subst e;rw [hi] at l;cases l
 rcases El.ow_to k with ⟨rfl,_⟩|⟨b',c,pre,css,rest,Lr,rfl,_,_,rfl,_⟩
 ·cases w
 ·have:b'=b:=by simpa [blk] using w
  subst this;exact ZjE s.nod a g u b' (by simp [Rws.bs]) (by simp [Rws.bs])
theorem ZpH {a:Addr}:∀ {vs:List Value} {i:Nat} {h:Heap} {K:Heap->Prop},vStoreN a vs i h (fun h'=>ExtBut (fun x=>a.block=x) h h'->K h')->vStoreN a vs i h K
 | [],_,h,K,hk=>hk (eY _ _)
 | v::vs,i,h,K,hk=>by
  obtain ⟨h1,f,k,l⟩:=hk;refine ⟨h1,f,k,ZpH ?_⟩;have o:ExtBut (fun x=>a.block=x) h (hset h (a.add i) v):=by
   refine (ExtBut.hset h (a.add i) v).mono fun x e=>?_;subst e;unfold Addr.add;split<;>rfl
  have mono:∀ {ws:List Value} {j:Nat} {g:Heap} {P Q:Heap->Prop},(∀ x,P x->Q x)->vStoreN a ws j g P->vStoreN a ws j g Q:=by
   intro ws;induction ws with
   | nil=>intro j g P Q a2 hp;exact a2 _ hp
   | cons w ws ih=>intro j g P Q a2 ⟨a1,r,s,u⟩;exact ⟨a1,r,s,ih a2 u⟩
  exact mono (fun h' hh hy=>hh (o.trans hy)) l
theorem ZFg {z bytes:Nat} {zero:List Value} {el:TypeId} {v u:Value} {K:Value->Heap->Prop} (hk:vAppend z bytes zero el v u h (fun v' h'=>ExtBut (fun x=>blk v=some x) h h'->K v' h')):vAppend z bytes zero el v u h K:=by
 unfold vAppend at hk ⊢;split at hk
 ·obtain ⟨old,news,a1,f,i,k,r,s,y,a8,a9,l,o⟩:=hk;rename_i aj n c am m mc;refine ⟨old,news,a1,f,i,k,r,s,y,a8,fun a2 a ha=>?_,fun a2 hb=>l a2 hb (eY _ _),fun aa a7 h1 h2=>o aa a7 h1 h2 (eZ (ExtH.push _ _))⟩;obtain ⟨b1,b2⟩:=a9 a2 a ha;refine ⟨b1,ZpH ?_⟩;subst ha;have mono:∀ {p:Addr} {ws:List Value} {j:Nat} {g:Heap} {P Q:Heap->Prop},(∀ x,P x->Q x)->vStoreN p ws j g P->vStoreN p ws j g Q:=by
   intro p ws;induction ws with
   | nil=>intro j g P Q a3 hp;exact a3 _ hp
   | cons w ws ih=>intro j g P Q a3 ⟨a1,f,i,k⟩;exact ⟨a1,f,i,ih a3 k⟩
  refine mono (fun h' hh hy=>hh (hy.mono fun x e=>?_)) b2;show some a.block=some x;rw [<-e];unfold Addr.add;split<;>rfl
 ·exact hk.elim
theorem ZeN (st:S ψ h0 h os) {cs:List Value} {t:TypeId} {n:Nat} {K:Value->Heap->Prop} (e:∀ b a,ExtH h a->S ψ h0 a (.box b cs::os)->K (.slice (some ⟨b,0,none⟩) n n) a):vNewS h (.cells cs.toArray t) n K:=by
 refine vNewS.mk ?_;obtain ⟨φ,L,s,r⟩:=st;exact e _ _ (ExtH.push h _) ⟨φ,_,s.new cs t,[(h.size,.cs cs)],L,rfl,rfl,r⟩
theorem ZaB {E:El α} {bytes z:Nat} {zero cs:List Value} {el:TypeId} {v:Value} {xs zs:List α} {y:α} {b:Nat} (st:S ψ h0 h (.it E cs y::os)) (i:Nat) (ho:os[i]?=some (.it (El.ow E) [v] xs)) (j:Nat) (ad:os[j]?=some (.box b cs)) (hz:E.z=z) (f:zero.length=z) (o:gApp bytes xs [y]=some zs)
  {K:Value->Heap->Prop} (hk:∀ v' h',ExtBut (fun x=>blk v=some x) h h'->S ψ h0 h' (os.set i (.it (El.ow E) [v'] zs))->K v' h'):vAppend z bytes zero el v (.slice (some ⟨b,0,none⟩) 1 1) h K:=by
 obtain ⟨⟨g,k⟩,rfl⟩:=ZcS o;have a8:CellsC (hcell h) ⟨b,0,none⟩ cs:=st.cells (j+1) (by simpa using ad);obtain ⟨φ,L,s,Ly,L',rfl,hy,r⟩:=st;obtain ⟨L1,Lo,L2,rfl,w,_,e4⟩:=r.at ho;have s2:S0 ψ h0 h φ (Lo++(L1++Ly++L2)):=s.perm (by
  have h1:(Ly++(L1++Lo++L2)).Perm ((L1++Lo++L2)++Ly):=List.perm_append_comm;refine h1.trans ?_;have a:(L1++Lo).Perm (Lo++L1):=List.perm_append_comm;have e:(L1++Lo++L2++Ly).Perm (Lo++L1++L2++Ly):=(a.append_right L2).append_right Ly;refine e.trans ?_;simp only [List.append_assoc];exact (List.perm_append_comm (l₁:=L2) (l₂:=Ly)).append_left L1 |>.append_left Lo)
 have hl:=E.len hy;have ab:=El.ow_to w;refine ZFg ?_;refine ZhP (m:=1) (news:=cs) s2 ab hz f (.inr ⟨_,1,rfl,fun j' u hu=>a8 j' u hu⟩) ω (E.one hy) g k fun v' a3 h' s3 aa hx=>hk v' h' hx ?_;have l:=aa Ly [cs] [y] ⟨Ly,[],by simp,hy,rfl⟩ (by simp) rfl;refine ⟨φ,L1++(a3++Ly)++L2,s3.perm ?_,e4 φ (.it (El.ow E) [v'] (xs++[y])) (a3++Ly) (CLe.refl _) ⟨v',rfl,l⟩⟩;have a:(a3++L1).Perm (L1++a3):=List.perm_append_comm;have e:=(a.append_right Ly).append_right L2;simpa using e
theorem Zk3 {E:El α} {bytes z:Nat} {zero cs:List Value} {el:TypeId} {v:Value} {xs l:List α} {y:α} {b:Nat} (st:S ψ h0 h os) (i:Nat) (u:os[i]?=some (.it (El.ow E) [v] xs)) (j:Nat) (k:os[j]?=some (.box b cs)) (r:∀ φ,E.R φ [] cs y) (hz:E.z=z) (a:zero.length=z) (e:gApp bytes xs [y]=some l)
  {K:Value->Heap->Prop} (w:∀ o g,ExtBut (fun x=>blk v=some x) h g->S ψ h0 g (os.set i (.it (El.ow E) [o] l))->K o g):vAppend z bytes zero el v (.slice (some ⟨b,0,none⟩) 1 1) h K:=
 ZaB (st.put r) i u j k hz a e w
variable {B:Nat->Prop}
theorem maskC {a:Addr} {v:Value} (f:¬ B a.block) (e:hcell h a=some v):hcell (hmask B h) a=some v:=by
 unfold hcell at e ⊢;rw [ZiP f];exact e
theorem ZqA {k:IntKind} {a:Addr} {K:Int->Prop} (e:¬ B a.block) (g:ldI k h a K):ldI k (hmask B h) a K:=by obtain ⟨x,h1,f⟩:=g;exact ⟨x,maskC e h1,f⟩
theorem Zny {a:Addr} {K:Value->Prop} (e:¬ B a.block) (g:ldV h a K):ldV (hmask B h) a K:=by obtain ⟨x,h1,f⟩:=g;exact ⟨x,maskC e h1,f⟩
end
end Go.Vc
