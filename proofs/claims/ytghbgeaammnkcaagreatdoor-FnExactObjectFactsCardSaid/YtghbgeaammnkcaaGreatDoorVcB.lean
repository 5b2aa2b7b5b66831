import Derived.Test.YtghbgeaammnkcaaGreatDoorVcPin
namespace Go.Vc
set_option linter.unusedVariables false
set_option linter.unusedSimpArgs false
open Go
section
variable {ψ:CM} {h0 h:Heap} {os:List Ob} {α:Type}
def blk:Value→Option Nat
 | .slice (some a) _ _=>some a.block
 | _=>none
theorem S.boxNe {b:Nat} {cs:List Value} {E:El α} {v:Value} {xs:List α} (st:S ψ h0 h os) (i j:Nat) (hi:os[i]?=some (.box b cs)) (hj:os[j]?=some (.it (El.ow E) [v] xs)) (he:blk v=some b):False:=by
 obtain ⟨φ,L,s,r⟩:=st
 obtain ⟨Ls,rfl,hs⟩:=r.split
 obtain ⟨Li,a,f⟩:=hs i _ hi
 obtain ⟨Lj,g,k⟩:=hs j _ hj
 have e2':Li=[(b,.cs cs)]:=f
 subst e2'
 have hij:i≠j:=fun e=>by subst e;rw [hi] at hj;cases hj
 rcases El.ow_to k with ⟨rfl,_⟩|⟨b',c,pre,css,rest,Lr,rfl,_,_,rfl,_⟩
 ·cases he
 ·have:b'=b:=by simpa [blk] using he
  subst this
  exact Zqi s.nod a g hij b' (by simp [Rws.bs]) (by simp [Rws.bs])
theorem Zuz {a:Addr}:∀ {vs:List Value} {i:Nat} {h:Heap} {K:Heap→Prop},vStoreN a vs i h (fun h'=>ExtBut (fun x=>a.block=x) h h'→K h')→vStoreN a vs i h K
 | [],_,h,K,hk=>hk (eY _ _)
 | v::vs,i,h,K,hk=>by
  obtain ⟨b,c,f,k⟩:=hk
  refine ⟨b,c,f,Zuz ?_⟩
  have l:ExtBut (fun x=>a.block=x) h (hset h (a.add i) v):=by
   refine (ExtBut.hset h (a.add i) v).mono fun x e=>?_
   subst e
   unfold Addr.add;split<;>rfl
  have mono:∀ {ws:List Value} {j:Nat} {g:Heap} {P Q:Heap→Prop},(∀ x,P x→Q x)→vStoreN a ws j g P→vStoreN a ws j g Q:=by
   intro ws
   induction ws with
   | nil=>intro j g P Q hpq hp;exact hpq _ hp
   | cons w ws ih=>intro j g P Q hpq ⟨m,o,p,r⟩;exact ⟨m,o,p,ih hpq r⟩
  exact mono (fun h' hh hy=>hh (l.trans hy)) k
theorem ZFr {z bytes:Nat} {zero:List Value} {el:TypeId} {v u:Value} {K:Value→Heap→Prop} (hk:vAppend z bytes zero el v u h (fun v' h'=>ExtBut (fun x=>blk v=some x) h h'→K v' h')):vAppend z bytes zero el v u h K:=by
 unfold vAppend at hk ⊢
 split at hk
 ·obtain ⟨old,news,b,f,i,k,r,s,t,y,a9,l,o⟩:=hk
  rename_i base n c src m mc
  refine ⟨old,news,b,f,i,k,r,s,t,y,fun hle a ha=>?_,fun hle hb=>l hle hb (eY _ _),fun hlt cap h1 h2=>o hlt cap h1 h2 (eZ (ExtH.push _ _))⟩
  obtain ⟨b1,b2⟩:=a9 hle a ha
  refine ⟨b1,Zuz ?_⟩
  subst ha
  have mono:∀ {p:Addr} {ws:List Value} {j:Nat} {g:Heap} {P Q:Heap→Prop},(∀ x,P x→Q x)→vStoreN p ws j g P→vStoreN p ws j g Q:=by
   intro p ws
   induction ws with
   | nil=>intro j g P Q hpq hp;exact hpq _ hp
   | cons w ws ih=>intro j g P Q hpq ⟨b,f,i,k⟩;exact ⟨b,f,i,ih hpq k⟩
  refine mono (fun h' hh hy=>hh (hy.mono fun x e=>?_)) b2
  show some a.block=some x
  rw [←e]
  unfold Addr.add;split<;>rfl
 ·exact hk.elim
theorem Z3 (st:S ψ h0 h os) {cs:List Value} {t:TypeId} {n:Nat} {K:Value→Heap→Prop} (hk:∀ b h',ExtH h h'→S ψ h0 h' (.box b cs::os)→K (.slice (some ⟨b,0,none⟩) n n) h'):vNewS h (.cells cs.toArray t) n K:=by
 obtain ⟨φ,L,s,r⟩:=st
 exact hk _ _ (ExtH.push h _) ⟨φ,_,s.new cs t,[(h.size,.cs cs)],L,rfl,rfl,r⟩
theorem ZI {E:El α} {bytes z:Nat} {zero cs:List Value} {el:TypeId} {v:Value} {xs zs:List α} {y:α} {b:Nat} (st:S ψ h0 h (.it E cs y::os)) (i:Nat) (ho:os[i]?=some (.it (El.ow E) [v] xs)) (j:Nat) (hbx:os[j]?=some (.box b cs)) (hz:E.z=z) (e:zero.length=z) (l:gApp bytes xs [y]=some zs)
  {K:Value→Heap→Prop} (hk:∀ v' h',ExtBut (fun x=>blk v=some x) h h'→S ψ h0 h' (os.set i (.it (El.ow E) [v'] zs))→K v' h'):vAppend z bytes zero el v (.slice (some ⟨b,0,none⟩) 1 1) h K:=by
 obtain ⟨⟨f,g⟩,rfl⟩:=Zf2 l
 have hcell':CellsC (hcell h) ⟨b,0,none⟩ cs:=st.cells (j+1) (by simpa using hbx)
 obtain ⟨φ,L,s,Ly,L',rfl,hy,r⟩:=st
 obtain ⟨L1,Lo,L2,rfl,o,_,p⟩:=r.at ho
 have s2:S0 ψ h0 h φ (Lo++(L1++Ly++L2)):=s.perm (by
  have t:(Ly++(L1++Lo++L2)).Perm ((L1++Lo++L2)++Ly):=List.perm_append_comm
  refine t.trans ?_
  have a:(L1++Lo).Perm (Lo++L1):=List.perm_append_comm
  have c:(L1++Lo++L2++Ly).Perm (Lo++L1++L2++Ly):=(a.append_right L2).append_right Ly
  refine c.trans ?_
  simp only [List.append_assoc]
  exact (List.perm_append_comm (l₁:=L2) (l₂:=Ly)).append_left L1 |>.append_left Lo)
 have hl:=E.len hy
 have hown:=El.ow_to o
 refine ZFr ?_
 refine Zo5 (m:=1) (news:=cs) s2 hown hz e (.inr ⟨_,1,rfl,fun j' u hu=>hcell' j' u hu⟩) (by omega) (E.one hy) f g fun v' rows' h' w hown' hx=>hk v' h' hx ?_
 have k:=hown' Ly [cs] [y] ⟨Ly,[],by simp,hy,rfl⟩ (by simp) rfl
 refine ⟨φ,L1++(rows'++Ly)++L2,w.perm ?_,p φ (.it (El.ow E) [v'] (xs++[y])) (rows'++Ly) (CLe.refl _) ⟨v',rfl,k⟩⟩
 have a:(rows'++L1).Perm (L1++rows'):=List.perm_append_comm
 have c:=(a.append_right Ly).append_right L2
 simpa using c
theorem Zuc {E:El α} {bytes z:Nat} {zero cs:List Value} {el:TypeId} {v:Value} {xs zs:List α} {y:α} {b:Nat} (st:S ψ h0 h os) (i:Nat) (ho:os[i]?=some (.it (El.ow E) [v] xs)) (j:Nat) (hbx:os[j]?=some (.box b cs)) (hy:∀ φ,E.R φ [] cs y) (hz:E.z=z) (a:zero.length=z) (c:gApp bytes xs [y]=some zs)
  {K:Value→Heap→Prop} (hk:∀ v' h',ExtBut (fun x=>blk v=some x) h h'→S ψ h0 h' (os.set i (.it (El.ow E) [v'] zs))→K v' h'):vAppend z bytes zero el v (.slice (some ⟨b,0,none⟩) 1 1) h K:=
 ZI (st.put hy) i ho j hbx hz a c hk
variable {B:Nat→Prop}
theorem maskC {a:Addr} {v:Value} (c:¬ B a.block) (b:hcell h a=some v):hcell (hmask B h) a=some v:=by
 unfold hcell at b ⊢
 rw [Zkm c];exact b
theorem ZK {a:Addr} {K:Value→Prop} (b:¬ B a.block) (hk:ldV h a K):ldV (hmask B h) a K:=by obtain ⟨x,c,e⟩:=hk;exact ⟨x,maskC b c,e⟩
end
end Go.Vc
