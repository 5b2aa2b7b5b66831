import Derived.Test.YtdmledeildfidaaGreatDoorVcEl
import Derived.Test.YtdmledeildfidaaGreatDoorVcB
namespace Go.Vc
set_option linter.unusedVariables false
set_option linter.unusedSimpArgs false
open Go
section
variable {ψ:CM} {h0 h:Heap} {os:List Ob}
theorem ZsJ {bytes:Nat} {t el:TypeId} {v:Value} {aw:List (List Int)} {r zs:List Int} {i y:Int} {b0 n1 n2:Nat} {cs:List Value} {a1 a2:Addr} (st:S ψ h0 h os) (k j:Nat) (ho:os[k]?=some (.it (El.ow (El.ow (El.int .i64))) [v] aw)) (hj:os[j]?=some (.box b0 cs))
  (aj:a1=⟨b0,n1,none⟩) (ak:cs[n1]?=some (.int .i64 y)) (a7:a2=⟨b0,n2,none⟩) (al:cs[n2]?=some (.int .i64 i)) (hi:gIdx aw i=some r) (hb:gApp bytes r [y]=some zs) {K:(Nat->Prop)->Int->Value->Heap->Int->Addr->Value->Value->Heap->Int->Addr->Heap->Prop}
  (hK:∀ {B g l a o w a0 a3 f a4 a5} h',S ψ h0 h' (os.set k (.it (El.ow (El.ow (El.int .i64))) [v] (aw.set i.toNat zs)))->K B g l a o w a0 a3 f a4 a5 h'):
  ∃ B:Nat->Prop,ldI .i64 h a1 fun g=>vNewS h (.cells #[.int .i64 g] t) 1 fun l a=>ExtBut B h a/\ldI .i64 (hmask B h) a2 fun o=>vIdx v o 1 fun w=>ldV (hmask B h) w fun a0=>
   vAppend 1 bytes [.int .i64 0] el a0 l a fun a3 f=>ExtBut B h f/\ldI .i64 (hmask B h) a2 fun a4=>vIdx v a4 1 fun a5=>vStore1 f a5 a3 (K B g l a o w a0 a3 f a4 a5):=by
 obtain ⟨i0,i1⟩:=Zax hi;have ao:=st;have ap:hcell h a1=some (.int .i64 y):=by
  have:=st.cells j hj n1 _ ak;rw [ZP,Nat.zero_add] at this;rw [aj];exact this
 have aa:hcell h a2=some (.int .i64 i):=by
  have:=st.cells j hj n2 _ al;rw [ZP,Nat.zero_add] at this;rw [a7];exact this
 obtain ⟨φ,L,s,rr⟩:=st;obtain ⟨L1,Lo,L2,e1,e2,_,e4⟩:=rr.at ho;rcases El.ow_to e2 with ⟨_,rfl,_⟩|⟨b,c,pre,css,rest,Lr,rfl,hc,hrest,rfl,hall⟩
 ·simp at i1
 obtain ⟨ds,rfl⟩:=hall.singles rfl;rw [Zb7] at e1;have bj:=hall.length;rw [List.length_map] at bj;have li:=ZY i1;have bd:RowIs h b (pre++ds++rest):=s.row b (.cs (pre++ds++rest)) (by rw [e1];simp);obtain ⟨u,hu⟩:∃ u,ds[i.toNat]?=some u:=⟨_,List.getElem?_eq_getElem ω⟩
 have ba:hcell h ⟨b,pre.length+i.toNat,none⟩=some u:=by
  refine bd.cell ?_;rw [List.getElem?_append_left (by rw [List.length_append];omega),List.getElem?_append_right ω];simpa using hu
 have hd:Hd h (.slice (some ⟨b,pre.length,none⟩) aw.length c) i u:=⟨_,_,_,rfl,by rw [ZP,Nat.mul_one];exact ba⟩
 have a8:¬ blk u=some b0:=fun e=>by
  have bt:=foc_S ao k ho hd hi;refine bt.boxNe (j+1) 0 (b:=b0) (cs:=cs) ?_ rfl e;rw [List.getElem?_cons_succ,List.getElem?_set_ne ?_]
  ·exact hj
  ·intro e;subst e;rw [hj] at ho;cases ho
 obtain ⟨M1,Mo,M2,rfl,hR,hset⟩:=hall.atc (i:=i.toNat) (c:=[u]) (by rw [List.getElem?_map,hu];rfl) i1;have hp:L.Perm (Mo++([(b,Row.cs (pre++ds++rest))]++(M1++M2++(L1++L2)))):=by
  rw [e1];have p1:(L1++((b,Row.cs (pre++ds++rest))::(M1++Mo++M2))++L2).Perm (((b,Row.cs (pre++ds++rest))::(M1++Mo++M2))++(L1++L2)):=by
   rw [List.append_assoc];refine List.perm_append_comm_assoc ..
  refine p1.trans ?_;have p2:(M1++Mo++M2).Perm (Mo++(M1++M2)):=by
   rw [List.append_assoc];exact List.perm_append_comm_assoc ..
  have p3:(((b,Row.cs (pre++ds++rest))::(M1++Mo++M2))++(L1++L2)).Perm (((b,Row.cs (pre++ds++rest))::(Mo++(M1++M2)))++(L1++L2)):=(p2.cons _).append_right _;refine p3.trans ?_;have:((b,Row.cs (pre++ds++rest))::(Mo++(M1++M2)))++(L1++L2)=[(b,Row.cs (pre++ds++rest))]++(Mo++(M1++M2++(L1++L2))):=by simp
  rw [this];exact List.perm_append_comm_assoc ..
 have b9:S φ h0 h [.it (El.ow (El.int .i64)) [u] r,.box b (pre++ds++rest),.it El.raw [] (M1++M2++(L1++L2))]:=
  ⟨φ,_,s.self.perm hp,Mo,_,rfl,hR,[(b,Row.cs (pre++ds++rest))],_,rfl,rfl,_,[],by simp,⟨rfl,rfl⟩,rfl⟩
 have ah:¬ blk u=some b:=fun e=>b9.boxNe 1 0 rfl rfl e;refine ⟨fun x=>blk u=some x,y,ap,?_⟩;refine ZbZ b9 fun b2 h8 ab aq=>⟨eZ ab,?_⟩
 refine Zun (by rw [a7];exact a8) ⟨i,aa,⟨i0,by omega⟩,?_⟩;refine ⟨u,maskC (by rw [ZP];exact ah) (by rw [ZP,Nat.mul_one];exact ba),?_⟩;refine ZkI aq 1 rfl 0 rfl (fun _=>⟨rfl,rfl⟩) rfl rfl hb fun u' h9 ar ac=>⟨(eZ ab).trans ar,?_⟩
 refine Zun (by rw [a7];exact a8) ⟨i,aa,⟨i0,by omega⟩,?_⟩;rw [ZP,Nat.mul_one];dsimp only [List.set] at ac;have au:=ac.pick [1,2,3] (by decide);obtain ⟨am,L',s2,ae,X,rfl,q1,B,Y,rfl,q2,Z,W,rfl,q3,q4⟩:=au;have bv:B=[(b,Row.cs (pre++ds++rest))]:=q2;obtain ⟨_,bp⟩:=q3;have bu:W=[]:=q4;subst bv bp bu;have s3:S0 φ h0 h9 am ((b,Row.cs (pre++ds++rest))::(ae++(M1++M2++(L1++L2)))):=s2.perm (by
  simp only [List.append_nil];exact List.perm_append_comm_assoc ..)
 refine Zqu s3 (by simp;omega) ((El.ow (El.int .i64)).one q1 u' (by simp)) fun bw s4=>?_;rw [ZqX ω] at s4;have ax:CLe φ am:=s4.bas;refine hK bw ⟨am,L1++((b,Row.cs (pre++ds.set i.toNat u'++rest))::(M1++ae++M2))++L2,(s.re s4).perm ?_,e4 am (.it (El.ow (El.ow (El.int .i64))) _ _) _ ax ⟨_,rfl,.inr ⟨b,c,pre,(ds.map fun d=>[d]).set i.toNat [u'],rest,M1++ae++M2,by simp,by simpa using hc,by simpa using hrest,?_,hset am ae [u'] zs ax q1⟩⟩⟩
 ·have p1:(L1++((b,Row.cs (pre++ds.set i.toNat u'++rest))::(M1++ae++M2))++L2).Perm (((b,Row.cs (pre++ds.set i.toNat u'++rest))::(M1++ae++M2))++(L1++L2)):=by
   rw [List.append_assoc];refine List.perm_append_comm_assoc ..
  refine (p1.trans ?_).symm;have p2:(M1++ae++M2).Perm (ae++(M1++M2)):=by
   rw [List.append_assoc];exact List.perm_append_comm_assoc ..
  have p3:(((b,Row.cs (pre++ds.set i.toNat u'++rest))::(M1++ae++M2))++(L1++L2)).Perm (((b,Row.cs (pre++ds.set i.toNat u'++rest))::(ae++(M1++M2)))++(L1++L2)):=(p2.cons _).append_right _;refine p3.trans (List.Perm.of_eq ?_);simp
 ·rw [<-List.map_set,Zb7]
theorem S.boxNeB {b k:Nat} {cs g:List Value} (st:S ψ h0 h os) (i j:Nat) (u:i≠j) (hi:os[i]?=some (.box b cs)) (hj:os[j]?=some (.box k g)) (w:b=k):False:=by
 obtain ⟨φ,L,s,r⟩:=st;obtain ⟨Ls,rfl,hs⟩:=r.split;obtain ⟨Li,a,c⟩:=hs i _ hi;obtain ⟨x,e,f⟩:=hs j _ hj;have l:Li=[(b,.cs cs)]:=c;have o:x=[(k,.cs g)]:=f;subst l o w;exact ZjJ s.nod a e u b (by simp [Rws.bs]) (by simp [Rws.bs])
theorem ZrD (st:S ψ h0 h os) (i:Nat) {a:Addr} {b j:Nat} {cs:List Value} {v:Value} {K:Heap->Prop} (k:a=⟨b,j,none⟩) (o:os[i]?=some (.box b cs)) (l:(cs[j]?).isSome=true) (h1:v.oneCell'=true)
  (r:∀ g,ExtBut (fun x=>x=b) h g->S ψ h0 g (os.set i (.box b (cs.set j v)))->K g):vStore1 h a v K:=by
 subst k;have:=Zf7 (K:=fun g=>ExtBut (fun x=>b=x) h g->K g) st i rfl o l h1 fun g st c=>r g (c.mono fun x e=>e.symm) st;exact Zom (a:=⟨b,j,none⟩) (vs:=[v]) (i:=0) this
end
end Go.Vc
