import Derived.Test.YtccncimchmimdaaGreatDoorVcEl
import Derived.Test.YtccncimchmimdaaGreatDoorVcB
namespace Go.Vc
set_option linter.unusedVariables false
set_option linter.unusedSimpArgs false
open Go
section
variable {ψ:CM} {h0 h:Heap} {os:List Ob}
theorem ZrJ {bytes:Nat} {t el:TypeId} {v:Value} {av:List (List Int)} {r zs:List Int} {i y:Int} {a n1 n2:Nat} {cs:List Value} {a1 l:Addr} (st:S ψ h0 h os) (k j:Nat) (ho:os[k]?=some (.it (El.ow (El.ow (El.int .i64))) [v] av)) (hj:os[j]?=some (.box a cs))
  (aa:a1=⟨a,n1,none⟩) (ab:cs[n1]?=some (.int .i64 y)) (f:l=⟨a,n2,none⟩) (ac:cs[n2]?=some (.int .i64 i)) (hi:gIdx av i=some r) (hb:gApp bytes r [y]=some zs) {K:Heap->Prop}
  (hK:∀ h',S ψ h0 h' (os.set k (.it (El.ow (El.ow (El.int .i64))) [v] (av.set i.toNat zs)))->K h'):
  ∃ B:Nat->Prop,ldI .i64 h a1 fun ad=>vNewS h (.cells #[.int .i64 ad] t) 1 fun ae o=>ExtBut B h o/\ldI .i64 (hmask B h) l fun af=>vIdx v af 1 fun ag=>ldV (hmask B h) ag fun ah=>
   vAppend 1 bytes [.int .i64 0] el ah ae o fun ai p=>ExtBut B h p/\ldI .i64 (hmask B h) l fun aj=>vIdx v aj 1 fun ak=>vStore1 p ak ai K:=by
 obtain ⟨i0,i1⟩:=ZaP hi
 have am:=st
 have an:hcell h a1=some (.int .i64 y):=by
  have:=st.cells j hj n1 _ ab
  rw [Z7,Nat.zero_add] at this
  rw [aa];exact this
 have w:hcell h l=some (.int .i64 i):=by
  have:=st.cells j hj n2 _ ac
  rw [Z7,Nat.zero_add] at this
  rw [f];exact this
 obtain ⟨φ,L,s,rr⟩:=st
 obtain ⟨L1,Lo,L2,e1,e2,_,e4⟩:=rr.at ho
 rcases El.ow_to e2 with ⟨_,rfl,_⟩|⟨b,c,pre,css,rest,Lr,rfl,hc,hrest,rfl,hall⟩
 ·simp at i1
 obtain ⟨ds,rfl⟩:=hall.singles rfl
 rw [ZcB] at e1
 have b8:=hall.length
 rw [List.length_map] at b8
 have li:=Z1 i1
 have b3:RowIs h b (pre++ds++rest):=s.row b (.cs (pre++ds++rest)) (by rw [e1];simp)
 obtain ⟨u,hu⟩:∃ u,ds[i.toNat]?=some u:=⟨_,List.getElem?_eq_getElem ω⟩
 have b1:hcell h ⟨b,pre.length+i.toNat,none⟩=some u:=by
  refine b3.cell ?_
  rw [List.getElem?_append_left (by rw [List.length_append];omega),List.getElem?_append_right ω]
  simpa using hu
 have hd:Hd h (.slice (some ⟨b,pre.length,none⟩) av.length c) i u:=⟨_,_,_,rfl,by rw [Z7,Nat.mul_one];exact b1⟩
 have g:¬ blk u=some a:=fun e=>by
  have bj:=foc_S am k ho hd hi
  refine bj.boxNe (j+1) 0 (b:=a) (cs:=cs) ?_ rfl e
  rw [List.getElem?_cons_succ,List.getElem?_set_ne ?_]
  ·exact hj
  ·intro e;subst e;rw [hj] at ho;cases ho
 obtain ⟨M1,Mo,M2,rfl,hR,hset⟩:=hall.atc (i:=i.toNat) (c:=[u]) (by rw [List.getElem?_map,hu];rfl) i1
 have hp:L.Perm (Mo++([(b,Row.cs (pre++ds++rest))]++(M1++M2++(L1++L2)))):=by
  rw [e1]
  have p1:(L1++((b,Row.cs (pre++ds++rest))::(M1++Mo++M2))++L2).Perm (((b,Row.cs (pre++ds++rest))::(M1++Mo++M2))++(L1++L2)):=by
   rw [List.append_assoc]
   refine List.perm_append_comm_assoc ..
  refine p1.trans ?_
  have p2:(M1++Mo++M2).Perm (Mo++(M1++M2)):=by
   rw [List.append_assoc];exact List.perm_append_comm_assoc ..
  have p3:(((b,Row.cs (pre++ds++rest))::(M1++Mo++M2))++(L1++L2)).Perm (((b,Row.cs (pre++ds++rest))::(Mo++(M1++M2)))++(L1++L2)):=(p2.cons _).append_right _
  refine p3.trans ?_
  have:((b,Row.cs (pre++ds++rest))::(Mo++(M1++M2)))++(L1++L2)=[(b,Row.cs (pre++ds++rest))]++(Mo++(M1++M2++(L1++L2))):=by simp
  rw [this]
  exact List.perm_append_comm_assoc ..
 have b0:S φ h0 h [.it (El.ow (El.int .i64)) [u] r,.box b (pre++ds++rest),.it El.raw [] (M1++M2++(L1++L2))]:=
  ⟨φ,_,s.self.perm hp,Mo,_,rfl,hR,[(b,Row.cs (pre++ds++rest))],_,rfl,rfl,_,[],by simp,⟨rfl,rfl⟩,rfl⟩
 have a8:¬ blk u=some b:=fun e=>b0.boxNe 1 0 rfl rfl e
 refine ⟨fun x=>blk u=some x,y,an,?_⟩
 refine Z3 b0 fun b2 h8 a0 ao=>⟨eZ a0,?_⟩
 refine Ztk (by rw [f];exact g) ⟨i,w,⟨i0,by omega⟩,?_⟩
 refine ⟨u,maskC (by rw [Z7];exact a8) (by rw [Z7,Nat.mul_one];exact b1),?_⟩
 refine ZjX ao 1 rfl 0 rfl (fun _=>⟨rfl,rfl⟩) rfl rfl hb fun u' h9 ap a3=>⟨(eZ a0).trans ap,?_⟩
 refine Ztk (by rw [f];exact g) ⟨i,w,⟨i0,by omega⟩,?_⟩
 rw [Z7,Nat.mul_one]
 dsimp only [List.set] at a3
 have aq:=a3.pick [1,2,3] (by decide)
 obtain ⟨ar,L',s2,a6,X,rfl,q1,B,Y,rfl,q2,Z,W,rfl,q3,q4⟩:=aq
 have bb:B=[(b,Row.cs (pre++ds++rest))]:=q2
 obtain ⟨_,bk⟩:=q3
 have bf:W=[]:=q4
 subst bb bk bf
 have s3:S0 φ h0 h9 ar ((b,Row.cs (pre++ds++rest))::(a6++(M1++M2++(L1++L2)))):=s2.perm (by
  simp only [List.append_nil]
  exact List.perm_append_comm_assoc ..)
 refine ZpH s3 (by simp;omega) ((El.ow (El.int .i64)).one q1 u' (by simp)) fun be s4=>?_
 rw [ZmJ ω] at s4
 have aw:CLe φ ar:=s4.bas
 refine hK be ⟨ar,L1++((b,Row.cs (pre++ds.set i.toNat u'++rest))::(M1++a6++M2))++L2,(s.re s4).perm ?_,e4 ar (.it (El.ow (El.ow (El.int .i64))) _ _) _ aw ⟨_,rfl,.inr ⟨b,c,pre,(ds.map fun d=>[d]).set i.toNat [u'],rest,M1++a6++M2,by simp,by simpa using hc,by simpa using hrest,?_,hset ar a6 [u'] zs aw q1⟩⟩⟩
 ·have p1:(L1++((b,Row.cs (pre++ds.set i.toNat u'++rest))::(M1++a6++M2))++L2).Perm (((b,Row.cs (pre++ds.set i.toNat u'++rest))::(M1++a6++M2))++(L1++L2)):=by
   rw [List.append_assoc]
   refine List.perm_append_comm_assoc ..
  refine (p1.trans ?_).symm
  have p2:(M1++a6++M2).Perm (a6++(M1++M2)):=by
   rw [List.append_assoc];exact List.perm_append_comm_assoc ..
  have p3:(((b,Row.cs (pre++ds.set i.toNat u'++rest))::(M1++a6++M2))++(L1++L2)).Perm (((b,Row.cs (pre++ds.set i.toNat u'++rest))::(a6++(M1++M2)))++(L1++L2)):=(p2.cons _).append_right _
  refine p3.trans (List.Perm.of_eq ?_)
  simp
 ·rw [<-List.map_set,ZcB]
theorem S.boxNeB {b k:Nat} {cs g:List Value} (st:S ψ h0 h os) (i j:Nat) (o:i≠j) (hi:os[i]?=some (.box b cs)) (hj:os[j]?=some (.box k g)) (w:b=k):False:=by
 obtain ⟨φ,L,s,r⟩:=st
 obtain ⟨Ls,rfl,hs⟩:=r.split
 obtain ⟨y,a,c⟩:=hs i _ hi
 obtain ⟨x,e,f⟩:=hs j _ hj
 have l:y=[(b,.cs cs)]:=c
 have u:x=[(k,.cs g)]:=f
 subst l u w
 exact Zk4 s.nod a e o b (by simp [Rws.bs]) (by simp [Rws.bs])
theorem ZtI (st:S ψ h0 h os) (i:Nat) {a:Addr} {b j:Nat} {cs:List Value} {v:Value} {K:Heap->Prop} (k:a=⟨b,j,none⟩) (o:os[i]?=some (.box b cs)) (r:(cs[j]?).isSome=true) (c:v.oneCell'=true)
  (l:∀ g,ExtBut (fun x=>x=b) h g->S ψ h0 g (os.set i (.box b (cs.set j v)))->K g):vStore1 h a v K:=by
 subst k
 have:=Zb (K:=fun g=>ExtBut (fun x=>b=x) h g->K g) st i rfl o r c fun g st f=>l g (f.mono fun x e=>e.symm) st
 exact Zpv (a:=⟨b,j,none⟩) (vs:=[v]) (i:=0) this
end
end Go.Vc
