import Derived.Test.YtmmbnjijjdakmaaGreatDoorVcPin
namespace Go.Vc
set_option linter.unusedVariables false
set_option linter.unusedSimpArgs false
open Go
section
variable {ψ:CM} {h0 h:Heap} {os:List Ob} {α:Type}
def blk:Value→Option Nat
 | .slice (some a) _ _=>some a.block
 | _=>none
theorem S.boxNe {b:Nat} {cs:List Value} {E:El α} {v:Value} {xs:List α} (st:S ψ h0 h os) (i j:Nat) (hi:os[i]?=some (.box b cs)) (hj:os[j]?=some (.it (El.ow E) [v] xs)) (he:blk v=some b):False:=by
 obtain ⟨φ,L,s,r⟩:=st
 obtain ⟨Ls,rfl,hs⟩:=r.split
 obtain ⟨Li,e1,e2⟩:=hs i _ hi
 obtain ⟨Lj,e3,e4⟩:=hs j _ hj
 have e2':Li=[(b,.cs cs)]:=e2
 subst e2'
 have hij:i≠j:=fun e=>by subst e;rw [hi] at hj;cases hj
 rcases El.ow_to e4 with ⟨rfl,_⟩|⟨b',c,pre,css,rest,Lr,rfl,_,_,rfl,_⟩
 ·cases he
 ·have:b'=b:=by simpa [blk] using he
  subst this
  exact Zkr s.nod e1 e3 hij b' (by simp [Rws.bs]) (by simp [Rws.bs])
theorem ZoP {a:Addr}:∀ {vs:List Value} {i:Nat} {h:Heap} {K:Heap→Prop},vStoreN a vs i h (fun h'=>ExtBut (fun x=>a.block=x) h h'→K h')→vStoreN a vs i h K
 | [],_,h,K,hk=>hk (ExtBut.refl _ _)
 | v::vs,i,h,K,hk=>by
  obtain ⟨h1,h2,h3,h4⟩:=hk
  refine ⟨h1,h2,h3,ZoP ?_⟩
  have hx:ExtBut (fun x=>a.block=x) h (hset h (a.add i) v):=by
   refine (ExtBut.hset h (a.add i) v).mono fun x e=>?_
   subst e
   unfold Addr.add;split<;>rfl
  have mono:∀ {ws:List Value} {j:Nat} {g:Heap} {P Q:Heap→Prop},(∀ x,P x→Q x)→vStoreN a ws j g P→vStoreN a ws j g Q:=by
   intro ws
   induction ws with
   | nil=>intro j g P Q hpq hp;exact hpq _ hp
   | cons w ws ih=>intro j g P Q hpq ⟨a1,a2,a3,a4⟩;exact ⟨a1,a2,a3,ih hpq a4⟩
  exact mono (fun h' hh hy=>hh (hx.trans hy)) h4
theorem ZyE {z bytes:Nat} {zero:List Value} {el:TypeId} {v u:Value} {K:Value→Heap→Prop} (hk:vAppend z bytes zero el v u h (fun v' h'=>ExtBut (fun x=>blk v=some x) h h'→K v' h')):vAppend z bytes zero el v u h K:=by
 unfold vAppend at hk ⊢
 split at hk
 ·obtain ⟨old,news,a1,a2,a3,a4,a5,a6,a7,a8,a9,a10,a11⟩:=hk
  rename_i base n c src m mc
  refine ⟨old,news,a1,a2,a3,a4,a5,a6,a7,a8,fun hle a ha=>?_,fun hle hb=>a10 hle hb (ExtBut.refl _ _),fun hlt cap h1 h2=>a11 hlt cap h1 h2 (ExtBut.of_ext (ExtH.push _ _))⟩
  obtain ⟨b1,b2⟩:=a9 hle a ha
  refine ⟨b1,ZoP ?_⟩
  subst ha
  have mono:∀ {p:Addr} {ws:List Value} {j:Nat} {g:Heap} {P Q:Heap→Prop},(∀ x,P x→Q x)→vStoreN p ws j g P→vStoreN p ws j g Q:=by
   intro p ws
   induction ws with
   | nil=>intro j g P Q hpq hp;exact hpq _ hp
   | cons w ws ih=>intro j g P Q hpq ⟨a1,a2,a3,a4⟩;exact ⟨a1,a2,a3,ih hpq a4⟩
  refine mono (fun h' hh hy=>hh (hy.mono fun x e=>?_)) b2
  show some a.block=some x
  rw [←e]
  unfold Addr.add;split<;>rfl
 ·exact hk.elim
theorem ZS (st:S ψ h0 h os) {cs:List Value} {t:TypeId} {n:Nat} {K:Value→Heap→Prop} (hk:∀ b h',ExtH h h'→S ψ h0 h' (.box b cs::os)→K (.slice (some ⟨b,0,none⟩) n n) h'):vNewS h (.cells cs.toArray t) n K:=by
 obtain ⟨φ,L,s,r⟩:=st
 exact hk _ _ (ExtH.push h _) ⟨φ,_,s.new cs t,[(h.size,.cs cs)],L,rfl,rfl,r⟩
theorem ZD {E:El α} {bytes z:Nat} {zero cs:List Value} {el:TypeId} {v:Value} {xs zs:List α} {y:α} {b:Nat} (st:S ψ h0 h (.it E cs y::os)) (i:Nat) (ho:os[i]?=some (.it (El.ow E) [v] xs)) (j:Nat) (hbx:os[j]?=some (.box b cs)) (hz:E.z=z) (hz0:zero.length=z) (hb:gApp bytes xs [y]=some zs)
  {K:Value→Heap→Prop} (hk:∀ v' h',ExtBut (fun x=>blk v=some x) h h'→S ψ h0 h' (os.set i (.it (El.ow E) [v'] zs))→K v' h'):vAppend z bytes zero el v (.slice (some ⟨b,0,none⟩) 1 1) h K:=by
 obtain ⟨⟨hb1,hb2⟩,rfl⟩:=Zd4 hb
 have hcell':CellsC (hcell h) ⟨b,0,none⟩ cs:=st.cells (j+1) (by simpa using hbx)
 obtain ⟨φ,L,s,Ly,L',rfl,hy,r⟩:=st
 obtain ⟨L1,Lo,L2,rfl,e2,_,e4⟩:=r.at ho
 have s2:S0 ψ h0 h φ (Lo++(L1++Ly++L2)):=s.perm (by
  have h1:(Ly++(L1++Lo++L2)).Perm ((L1++Lo++L2)++Ly):=List.perm_append_comm
  refine h1.trans ?_
  have h2:(L1++Lo).Perm (Lo++L1):=List.perm_append_comm
  have h3:(L1++Lo++L2++Ly).Perm (Lo++L1++L2++Ly):=(h2.append_right L2).append_right Ly
  refine h3.trans ?_
  simp only [List.append_assoc]
  exact (List.perm_append_comm (l₁:=L2) (l₂:=Ly)).append_left L1 |>.append_left Lo)
 have hl:=E.len hy
 have hown:=El.ow_to e2
 refine ZyE ?_
 refine ZnV (m:=1) (news:=cs) s2 hown hz hz0 (.inr ⟨_,1,rfl,fun j' u hu=>hcell' j' u hu⟩) (by omega) (E.one hy) hb1 hb2 fun v' rows' h' s3 hown' hx=>hk v' h' hx ?_
 have ho2:=hown' Ly [cs] [y] ⟨Ly,[],by simp,hy,rfl⟩ (by simp) rfl
 refine ⟨φ,L1++(rows'++Ly)++L2,s3.perm ?_,e4 φ (.it (El.ow E) [v'] (xs++[y])) (rows'++Ly) (CLe.refl _) ⟨v',rfl,ho2⟩⟩
 have h2:(rows'++L1).Perm (L1++rows'):=List.perm_append_comm
 have h3:=(h2.append_right Ly).append_right L2
 simpa using h3
theorem Zqv {E:El α} {bytes z:Nat} {zero cs:List Value} {el:TypeId} {v:Value} {xs zs:List α} {y:α} {b:Nat} (st:S ψ h0 h os) (i:Nat) (ho:os[i]?=some (.it (El.ow E) [v] xs)) (j:Nat) (hbx:os[j]?=some (.box b cs)) (hy:∀ φ,E.R φ [] cs y) (hz:E.z=z) (hz0:zero.length=z) (hb:gApp bytes xs [y]=some zs)
  {K:Value→Heap→Prop} (hk:∀ v' h',ExtBut (fun x=>blk v=some x) h h'→S ψ h0 h' (os.set i (.it (El.ow E) [v'] zs))→K v' h'):vAppend z bytes zero el v (.slice (some ⟨b,0,none⟩) 1 1) h K:=
 ZD (st.put hy) i ho j hbx hz hz0 hb hk
variable {B:Nat→Prop}
theorem maskC {a:Addr} {v:Value} (hb:¬ B a.block) (hc:hcell h a=some v):hcell (hmask B h) a=some v:=by
 unfold hcell at hc ⊢
 rw [Zjh hb];exact hc
theorem ZF {a:Addr} {K:Value→Prop} (hb:¬ B a.block) (hk:ldV h a K):ldV (hmask B h) a K:=by obtain ⟨x,h1,h2⟩:=hk;exact ⟨x,maskC hb h1,h2⟩
end
end Go.Vc
