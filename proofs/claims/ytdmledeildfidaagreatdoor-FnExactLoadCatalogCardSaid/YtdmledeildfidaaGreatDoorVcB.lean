import Derived.Test.YtdmledeildfidaaGreatDoorVcPin
namespace Go.Vc
set_option linter.unusedVariables false
set_option linter.unusedSimpArgs false
open Go
section
variable {ψ:CM} {h0 h:Heap} {os:List Ob} {α:Type}
def blk:Value->Option Nat
 | .slice (some a) _ _=>some a.block
 | _=>none
theorem S.boxNe {b:Nat} {cs:List Value} {E:El α} {v:Value} {xs:List α} (st:S ψ h0 h os) (i j:Nat) (hi:os[i]?=some (.box b cs)) (l:os[j]?=some (.it (El.ow E) [v] xs)) (o:blk v=some b):False:=by
 obtain ⟨φ,L,s,r⟩:=st;obtain ⟨Ls,rfl,hs⟩:=r.split;obtain ⟨x,a,f⟩:=hs i _ hi;obtain ⟨Lj,g,k⟩:=hs j _ l;have u:x=[(b,.cs cs)]:=f;subst u;have w:i≠j:=fun e=>by subst e;rw [hi] at l;cases l
 rcases El.ow_to k with ⟨rfl,_⟩|⟨b',c,pre,css,rest,Lr,rfl,_,_,rfl,_⟩
 ·cases o
 ·have:b'=b:=by simpa [blk] using o
  subst this;exact ZjJ s.nod a g w b' (by simp [Rws.bs]) (by simp [Rws.bs])
theorem Zom {a:Addr}:∀ {vs:List Value} {i:Nat} {h:Heap} {K:Heap->Prop},vStoreN a vs i h (fun h'=>ExtBut (fun x=>a.block=x) h h'->K h')->vStoreN a vs i h K
 | [],_,h,K,hk=>hk (eY _ _)
 | v::vs,i,h,K,hk=>by
  obtain ⟨h1,c,f,k⟩:=hk;refine ⟨h1,c,f,Zom ?_⟩;have l:ExtBut (fun x=>a.block=x) h (hset h (a.add i) v):=by
   refine (ExtBut.hset h (a.add i) v).mono fun x e=>?_;subst e;unfold Addr.add;split<;>rfl
  have mono:∀ {ws:List Value} {j:Nat} {g:Heap} {P Q:Heap->Prop},(∀ x,P x->Q x)->vStoreN a ws j g P->vStoreN a ws j g Q:=by
   intro ws;induction ws with
   | nil=>intro j g P Q a0 hp;exact a0 _ hp
   | cons w ws ih=>intro j g P Q a0 ⟨o,r,s,u⟩;exact ⟨o,r,s,ih a0 u⟩
  exact mono (fun h' hh hy=>hh (l.trans hy)) k
theorem ZwV {z bytes:Nat} {zero:List Value} {el:TypeId} {v u:Value} {K:Value->Heap->Prop} (hk:vAppend z bytes zero el v u h (fun v' h'=>ExtBut (fun x=>blk v=some x) h h'->K v' h')):vAppend z bytes zero el v u h K:=by
 unfold vAppend at hk ⊢;split at hk
 ·obtain ⟨old,news,f,i,k,l,s,y,a7,a8,a9,o,r⟩:=hk;rename_i af n c am m mc;refine ⟨old,news,f,i,k,l,s,y,a7,a8,fun a0 a ha=>?_,fun a0 hb=>o a0 hb (eY _ _),fun a4 a6 h1 h2=>r a4 a6 h1 h2 (eZ (ExtH.push _ _))⟩;obtain ⟨b1,b2⟩:=a9 a0 a ha;refine ⟨b1,Zom ?_⟩;subst ha;have mono:∀ {p:Addr} {ws:List Value} {j:Nat} {g:Heap} {P Q:Heap->Prop},(∀ x,P x->Q x)->vStoreN p ws j g P->vStoreN p ws j g Q:=by
   intro p ws;induction ws with
   | nil=>intro j g P Q a1 hp;exact a1 _ hp
   | cons w ws ih=>intro j g P Q a1 ⟨f,i,k,l⟩;exact ⟨f,i,k,ih a1 l⟩
  refine mono (fun h' hh hy=>hh (hy.mono fun x e=>?_)) b2;show some a.block=some x;rw [<-e];unfold Addr.add;split<;>rfl
 ·exact hk.elim
theorem ZbZ (st:S ψ h0 h os) {cs:List Value} {t:TypeId} {n:Nat} {K:Value->Heap->Prop} (g:∀ b a,ExtH h a->S ψ h0 a (.box b cs::os)->K (.slice (some ⟨b,0,none⟩) n n) a):vNewS h (.cells cs.toArray t) n K:=by
 refine vNewS.mk ?_;obtain ⟨e,L,s,r⟩:=st;exact g _ _ (ExtH.push h _) ⟨e,_,s.new cs t,[(h.size,.cs cs)],L,rfl,rfl,r⟩
theorem Zaq {E:El α} {bytes z:Nat} {zero cs:List Value} {el:TypeId} {v:Value} {xs zs:List α} {y:α} {b:Nat} (st:S ψ h0 h (.it E cs y::os)) (i:Nat) (ho:os[i]?=some (.it (El.ow E) [v] xs)) (j:Nat) (ac:os[j]?=some (.box b cs)) (hz:E.z=z) (e:zero.length=z) (l:gApp bytes xs [y]=some zs)
  {K:Value->Heap->Prop} (hk:∀ v' h',ExtBut (fun x=>blk v=some x) h h'->S ψ h0 h' (os.set i (.it (El.ow E) [v'] zs))->K v' h'):vAppend z bytes zero el v (.slice (some ⟨b,0,none⟩) 1 1) h K:=by
 obtain ⟨⟨f,g⟩,rfl⟩:=Zdw l;have a6:CellsC (hcell h) ⟨b,0,none⟩ cs:=st.cells (j+1) (by simpa using ac);obtain ⟨φ,L,s,Ly,L',rfl,hy,r⟩:=st;obtain ⟨L1,Lo,L2,rfl,o,_,w⟩:=r.at ho;have s2:S0 ψ h0 h φ (Lo++(L1++Ly++L2)):=s.perm (by
  have h1:(Ly++(L1++Lo++L2)).Perm ((L1++Lo++L2)++Ly):=List.perm_append_comm;refine h1.trans ?_;have a:(L1++Lo).Perm (Lo++L1):=List.perm_append_comm;have c:(L1++Lo++L2++Ly).Perm (Lo++L1++L2++Ly):=(a.append_right L2).append_right Ly;refine c.trans ?_;simp only [List.append_assoc];exact (List.perm_append_comm (l₁:=L2) (l₂:=Ly)).append_left L1 |>.append_left Lo)
 have hl:=E.len hy;have a9:=El.ow_to o;refine ZwV ?_;refine ZoI (m:=1) (news:=cs) s2 a9 hz e (.inr ⟨_,1,rfl,fun j' u hu=>a6 j' u hu⟩) ω (E.one hy) f g fun v' a1 h' s3 a8 hx=>hk v' h' hx ?_;have k:=a8 Ly [cs] [y] ⟨Ly,[],by simp,hy,rfl⟩ (by simp) rfl;refine ⟨φ,L1++(a1++Ly)++L2,s3.perm ?_,w φ (.it (El.ow E) [v'] (xs++[y])) (a1++Ly) (CLe.refl _) ⟨v',rfl,k⟩⟩;have a:(a1++L1).Perm (L1++a1):=List.perm_append_comm;have c:=(a.append_right Ly).append_right L2;simpa using c
theorem ZkI {E:El α} {bytes z:Nat} {zero cs:List Value} {el:TypeId} {v:Value} {xs l:List α} {y:α} {b:Nat} (st:S ψ h0 h os) (i:Nat) (w:os[i]?=some (.it (El.ow E) [v] xs)) (j:Nat) (k:os[j]?=some (.box b cs)) (r:∀ u,E.R u [] cs y) (hz:E.z=z) (a:zero.length=z) (c:gApp bytes xs [y]=some l)
  {K:Value->Heap->Prop} (o:∀ g e,ExtBut (fun x=>blk v=some x) h e->S ψ h0 e (os.set i (.it (El.ow E) [g] l))->K g e):vAppend z bytes zero el v (.slice (some ⟨b,0,none⟩) 1 1) h K:=
 Zaq (st.put r) i w j k hz a c o
variable {B:Nat->Prop}
theorem maskC {a:Addr} {v:Value} (e:¬ B a.block) (c:hcell h a=some v):hcell (hmask B h) a=some v:=by
 unfold hcell at c ⊢;rw [Zkv e];exact c
theorem Zun {k:IntKind} {a:Addr} {K:Int->Prop} (c:¬ B a.block) (g:ldI k h a K):ldI k (hmask B h) a K:=by obtain ⟨x,h1,e⟩:=g;exact ⟨x,maskC c h1,e⟩
theorem Zp7 {a:Addr} {K:Value->Prop} (c:¬ B a.block) (g:ldV h a K):ldV (hmask B h) a K:=by obtain ⟨x,h1,e⟩:=g;exact ⟨x,maskC c h1,e⟩
end
end Go.Vc
