import Derived.Test.YtepnljbkgjbbmaaGreatDoorVcEl
import Derived.Test.YtepnljbkgjbbmaaGreatDoorVcB
namespace Go.Vc
set_option linter.unusedVariables false
set_option linter.unusedSimpArgs false
open Go
section
variable {ψ:CM} {h0 h:Heap} {os:List Ob}
theorem Zr8 {bytes:Nat} {t el:TypeId} {v:Value} {au:List (List Int)} {r zs:List Int} {i y:Int} {b0 n1 n2:Nat} {cs:List Value} {a1 a2:Addr} (st:S ψ h0 h os) (k j:Nat) (ho:os[k]?=some (.it (El.ow (El.ow (El.int .i64))) [v] au)) (hj:os[j]?=some (.box b0 cs))
  (ai:a1=⟨b0,n1,none⟩) (aj:cs[n1]?=some (.int .i64 y)) (a6:a2=⟨b0,n2,none⟩) (ak:cs[n2]?=some (.int .i64 i)) (hi:gIdx au i=some r) (hb:gApp bytes r [y]=some zs) {K:(Nat->Prop)->Int->Value->Heap->Int->Addr->Value->Value->Heap->Int->Addr->Heap->Prop}
  (hK:∀ {B g l a o p w a0 f a3 a4} h',S ψ h0 h' (os.set k (.it (El.ow (El.ow (El.int .i64))) [v] (au.set i.toNat zs)))->K B g l a o p w a0 f a3 a4 h'):
  ∃ B:Nat->Prop,ldI .i64 h a1 fun g=>vNewS h (.cells #[.int .i64 g] t) 1 fun l a=>ExtBut B h a/\ldI .i64 (hmask B h) a2 fun o=>vIdx v o 1 fun p=>ldV (hmask B h) p fun w=>
   vAppend 1 bytes [.int .i64 0] el w l a fun a0 f=>ExtBut B h f/\ldI .i64 (hmask B h) a2 fun a3=>vIdx v a3 1 fun a4=>vStore1 f a4 a0 (K B g l a o p w a0 f a3 a4):=by
 obtain ⟨i0,i1⟩:=ZaD hi
 have am:=st
 have an:hcell h a1=some (.int .i64 y):=by
  have:=st.cells j hj n1 _ aj
  rw [ZN,Nat.zero_add] at this
  rw [ai];exact this
 have a9:hcell h a2=some (.int .i64 i):=by
  have:=st.cells j hj n2 _ ak
  rw [ZN,Nat.zero_add] at this
  rw [a6];exact this
 obtain ⟨φ,L,s,rr⟩:=st
 obtain ⟨L1,Lo,L2,e1,e2,_,e4⟩:=rr.at ho
 rcases El.ow_to e2 with ⟨_,rfl,_⟩|⟨b,c,pre,css,rest,Lr,rfl,hc,hrest,rfl,hall⟩
 ·simp at i1
 obtain ⟨ds,rfl⟩:=hall.singles rfl
 rw [Zb1] at e1
 have be:=hall.length
 rw [List.length_map] at be
 have li:=ZT i1
 have bd:RowIs h b (pre++ds++rest):=s.row b (.cs (pre++ds++rest)) (by rw [e1];simp)
 obtain ⟨u,hu⟩:∃ u,ds[i.toNat]?=some u:=⟨_,List.getElem?_eq_getElem ω⟩
 have b6:hcell h ⟨b,pre.length+i.toNat,none⟩=some u:=by
  refine bd.cell ?_
  rw [List.getElem?_append_left (by rw [List.length_append];omega),List.getElem?_append_right ω]
  simpa using hu
 have hd:Hd h (.slice (some ⟨b,pre.length,none⟩) au.length c) i u:=⟨_,_,_,rfl,by rw [ZN,Nat.mul_one];exact b6⟩
 have a7:¬ blk u=some b0:=fun e=>by
  have bq:=foc_S am k ho hd hi
  refine bq.boxNe (j+1) 0 (b:=b0) (cs:=cs) ?_ rfl e
  rw [List.getElem?_cons_succ,List.getElem?_set_ne ?_]
  ·exact hj
  ·intro e;subst e;rw [hj] at ho;cases ho
 obtain ⟨M1,Mo,M2,rfl,hR,hset⟩:=hall.atc (i:=i.toNat) (c:=[u]) (by rw [List.getElem?_map,hu];rfl) i1
 have hp:L.Perm (Mo++([(b,Row.cs (pre++ds++rest))]++(M1++M2++(L1++L2)))):=by
  rw [e1]
  have p1:(L1++((b,Row.cs (pre++ds++rest))::(M1++Mo++M2))++L2).Perm (((b,Row.cs (pre++ds++rest))::(M1++Mo++M2))++(L1++L2)):=by
   rw [List.append_assoc]
   refine List.perm_append_comm_assoc ..
  refine p1.trans ?_
  have p2:(M1++Mo++M2).Perm (Mo++(M1++M2)):=by
   rw [List.append_assoc];exact List.perm_append_comm_assoc ..
  have p3:(((b,Row.cs (pre++ds++rest))::(M1++Mo++M2))++(L1++L2)).Perm (((b,Row.cs (pre++ds++rest))::(Mo++(M1++M2)))++(L1++L2)):=(p2.cons _).append_right _
  refine p3.trans ?_
  have:((b,Row.cs (pre++ds++rest))::(Mo++(M1++M2)))++(L1++L2)=[(b,Row.cs (pre++ds++rest))]++(Mo++(M1++M2++(L1++L2))):=by simp
  rw [this]
  exact List.perm_append_comm_assoc ..
 have b7:S φ h0 h [.it (El.ow (El.int .i64)) [u] r,.box b (pre++ds++rest),.it El.raw [] (M1++M2++(L1++L2))]:=
  ⟨φ,_,s.self.perm hp,Mo,_,rfl,hR,[(b,Row.cs (pre++ds++rest))],_,rfl,rfl,_,[],by simp,⟨rfl,rfl⟩,rfl⟩
 have ag:¬ blk u=some b:=fun e=>b7.boxNe 1 0 rfl rfl e
 refine ⟨fun x=>blk u=some x,y,an,?_⟩
 refine ZbN b7 fun b2 h8 aa ao=>⟨eZ aa,?_⟩
 refine Zrt (by rw [a6];exact a7) ⟨i,a9,⟨i0,by omega⟩,?_⟩
 refine ⟨u,maskC (by rw [ZN];exact ag) (by rw [ZN,Nat.mul_one];exact b6),?_⟩
 refine ZkQ ao 1 rfl 0 rfl (fun _=>⟨rfl,rfl⟩) rfl rfl hb fun u' h9 ap ab=>⟨(eZ aa).trans ap,?_⟩
 refine Zrt (by rw [a6];exact a7) ⟨i,a9,⟨i0,by omega⟩,?_⟩
 rw [ZN,Nat.mul_one]
 dsimp only [List.set] at ab
 have aq:=ab.pick [1,2,3] (by decide)
 obtain ⟨ar,L',s2,ad,X,rfl,q1,B,Y,rfl,q2,Z,W,rfl,q3,q4⟩:=aq
 have bp:B=[(b,Row.cs (pre++ds++rest))]:=q2
 obtain ⟨_,bh⟩:=q3
 have bm:W=[]:=q4
 subst bp bh bm
 have s3:S0 φ h0 h9 ar ((b,Row.cs (pre++ds++rest))::(ad++(M1++M2++(L1++L2)))):=s2.perm (by
  simp only [List.append_nil]
  exact List.perm_append_comm_assoc ..)
 refine ZnB s3 (by simp;omega) ((El.ow (El.int .i64)).one q1 u' (by simp)) fun bt s4=>?_
 rw [Zok ω] at s4
 have aw:CLe φ ar:=s4.bas
 refine hK bt ⟨ar,L1++((b,Row.cs (pre++ds.set i.toNat u'++rest))::(M1++ad++M2))++L2,(s.re s4).perm ?_,e4 ar (.it (El.ow (El.ow (El.int .i64))) _ _) _ aw ⟨_,rfl,.inr ⟨b,c,pre,(ds.map fun d=>[d]).set i.toNat [u'],rest,M1++ad++M2,by simp,by simpa using hc,by simpa using hrest,?_,hset ar ad [u'] zs aw q1⟩⟩⟩
 ·have p1:(L1++((b,Row.cs (pre++ds.set i.toNat u'++rest))::(M1++ad++M2))++L2).Perm (((b,Row.cs (pre++ds.set i.toNat u'++rest))::(M1++ad++M2))++(L1++L2)):=by
   rw [List.append_assoc]
   refine List.perm_append_comm_assoc ..
  refine (p1.trans ?_).symm
  have p2:(M1++ad++M2).Perm (ad++(M1++M2)):=by
   rw [List.append_assoc];exact List.perm_append_comm_assoc ..
  have p3:(((b,Row.cs (pre++ds.set i.toNat u'++rest))::(M1++ad++M2))++(L1++L2)).Perm (((b,Row.cs (pre++ds.set i.toNat u'++rest))::(ad++(M1++M2)))++(L1++L2)):=(p2.cons _).append_right _
  refine p3.trans (List.Perm.of_eq ?_)
  simp
 ·rw [<-List.map_set,Zb1]
theorem S.boxNeB {b k:Nat} {cs g:List Value} (st:S ψ h0 h os) (i j:Nat) (l:i≠j) (hi:os[i]?=some (.box b cs)) (y:os[j]?=some (.box k g)) (x:b=k):False:=by
 obtain ⟨φ,L,s,r⟩:=st
 obtain ⟨Ls,rfl,hs⟩:=r.split
 obtain ⟨Li,a,c⟩:=hs i _ hi
 obtain ⟨w,e,f⟩:=hs j _ y
 have o:Li=[(b,.cs cs)]:=c
 have u:w=[(k,.cs g)]:=f
 subst o u x
 exact ZlH s.nod a e l b (by simp [Rws.bs]) (by simp [Rws.bs])
theorem Zt6 (st:S ψ h0 h os) (i:Nat) {a:Addr} {b j:Nat} {cs:List Value} {v:Value} {K:Heap->Prop} (r:a=⟨b,j,none⟩) (k:os[i]?=some (.box b cs)) (l:(cs[j]?).isSome=true) (h1:v.oneCell'=true)
  (o:∀ g,ExtBut (fun x=>x=b) h g->S ψ h0 g (os.set i (.box b (cs.set j v)))->K g):vStore1 h a v K:=by
 subst r
 have:=ZaQ (K:=fun g=>ExtBut (fun x=>b=x) h g->K g) st i rfl k l h1 fun g st c=>o g (c.mono fun x e=>e.symm) st
 exact ZmS (a:=⟨b,j,none⟩) (vs:=[v]) (i:=0) this
end
end Go.Vc
