import Derived.Test.YtcneolcmjjlmnaaGreatDoorVcB
open Nat renaming zero_add->Xk,mul_one->JS
open List renaming append_assoc->Js,perm_append_comm_assoc->XX
open Option renaming some->Jg
namespace Go.Vc
set_option linter.unusedVariables false
set_option linter.unusedSimpArgs false
open Go
section
variable {ψ:CM} {h0 h:Heap} {os:List Ob}
theorem Zx3 {bytes:Nat} {t el:TypeId} {v:Value} {ax:Ja} {r zs:Jb} {i y:Int} {b0 n1 n2:Nat} {cs:Jc} {a1 a2:Addr} (st:S ψ h0 h os) (k j:Nat) (ho:os[k]?=Jg (.it (El.ow (El.ow (El.int .i64))) [v] ax)) (hj:os[j]?=Jg (.box b0 cs))
  (aj:a1=⟨b0,n1,none⟩) (ak:cs[n1]?=Jg (.int .i64 y)) (a8:a2=⟨b0,n2,none⟩) (al:cs[n2]?=Jg (.int .i64 i)) (hi:gIdx ax i=Jg r) (hb:gApp bytes r [y]=Jg zs) {K:(Nat->Prop)->Int->Value->Heap->Int->Addr->Value->Value->Heap->Int->Addr->Heap->Prop}
  (hK:∀{B g l a o w a3 a4 f a5 a6} h',S ψ h0 h' (os.set k (.it (El.ow (El.ow (El.int .i64))) [v] (ax.set i.toNat zs)))->K B g l a o w a3 a4 f a5 a6 h'):
  ∃B:Nat->Prop,ldI .i64 h a1 λg=>vNewS h (.cells #[.int .i64 g] t) 1 λl a=>ExtBut B h a/\ldI .i64 (hmask B h) a2 λo=>vIdx v o 1 λw=>ldV (hmask B h) w λa3=>
   vAppend 1 bytes [.int .i64 0] el a3 l a λa4 f=>ExtBut B h f/\ldI .i64 (hmask B h) a2 λa5=>vIdx v a5 1 λa6=>vStore1 f a6 a4 (K B g l a o w a3 a4 f a5 a6):=by
 obtain ⟨i0,i1⟩:=ZaK hi;have ao:=st;have ap:hcell h a1=Jg (.int .i64 y):=by
  have:=st.cells j hj n1 _ ak;rw [ZY,Xk] at this;rw [aj];exact this
 have ab:hcell h a2=Jg (.int .i64 i):=by
  have:=st.cells j hj n2 _ al;rw [ZY,Xk] at this;rw [a8];exact this
 obtain ⟨φ,L,s,rr⟩:=st;obtain ⟨L1,Lo,L2,e1,e2,_,e4⟩:=rr.at ho;rcases El.ow_to e2 with ⟨_,rfl,_⟩|⟨b,c,pre,css,rest,Lr,rfl,hc,hrest,rfl,hall⟩
 .simp at i1
 obtain ⟨ds,rfl⟩:=hall.singles rfl;rw [ZbS] at e1;have bi:=hall.length;rw [List.length_map] at bi;have li:=Zad i1;have bd:RowIs h b (pre++ds++rest):=s.row b (.cs (pre++ds++rest)) (by rw [e1];simp);obtain ⟨u,hu⟩:∃u,ds[i.toNat]?=Jg u:=⟨_,List.getElem?_eq_getElem Z⟩
 have ba:hcell h ⟨b,pre.length+i.toNat,none⟩=Jg u:=by
  refine bd.cell ?_;rw [List.getElem?_append_left (by rw [List.length_append];omega),List.getElem?_append_right Z];simpa using hu
 have hd:Hd h (.slice (Jg ⟨b,pre.length,none⟩) ax.length c) i u:=⟨_,_,_,rfl,by rw [ZY,JS];exact ba⟩
 have a9:¬blk u=Jg b0:=λe=>by
  have bt:=foc_S ao k ho hd hi;refine bt.boxNe (j+1) 0 (b:=b0) (cs:=cs) ?_ rfl e;rw [List.getElem?_cons_succ,List.getElem?_set_ne ?_]
  .exact hj
  .intro e;subst e;rw [hj] at ho;cases ho
 obtain ⟨M1,Mo,M2,rfl,hR,hset⟩:=hall.atc (i:=i.toNat) (c:=[u]) (by rw [List.getElem?_map,hu];rfl) i1;have hp:L.Perm (Mo++([(b,Row.cs (pre++ds++rest))]++(M1++M2++(L1++L2)))):=by
  rw [e1];have p1:(L1++((b,Row.cs (pre++ds++rest))::(M1++Mo++M2))++L2).Perm (((b,Row.cs (pre++ds++rest))::(M1++Mo++M2))++(L1++L2)):=by
   rw [Js];refine XX ..
  refine p1.trans ?_;have p2:(M1++Mo++M2).Perm (Mo++(M1++M2)):=by
   rw [Js];exact XX ..
  have p3:(((b,Row.cs (pre++ds++rest))::(M1++Mo++M2))++(L1++L2)).Perm (((b,Row.cs (pre++ds++rest))::(Mo++(M1++M2)))++(L1++L2)):=(p2.cons _).append_right _;refine p3.trans ?_;have:((b,Row.cs (pre++ds++rest))::(Mo++(M1++M2)))++(L1++L2)=[(b,Row.cs (pre++ds++rest))]++(Mo++(M1++M2++(L1++L2))):=by simp
  rw [this];exact XX ..
 have b9:S φ h0 h [.it (El.ow (El.int .i64)) [u] r,.box b (pre++ds++rest),.it El.raw [] (M1++M2++(L1++L2))]:=
  ⟨φ,_,s.self.perm hp,Mo,_,rfl,hR,[(b,Row.cs (pre++ds++rest))],_,rfl,rfl,_,[],by simp,⟨rfl,rfl⟩,rfl⟩
 have ah:¬blk u=Jg b:=λe=>b9.boxNe 1 0 rfl rfl e;refine ⟨λx=>blk u=Jg x,y,ap,?_⟩;refine ZbL b9 λb2 h8 ac aq=>⟨eZ ac,?_⟩
 refine ZBT (by rw [a8];exact a9) ⟨i,ab,⟨i0,by omega⟩,?_⟩;refine ⟨u,maskC (by rw [ZY];exact ah) (by rw [ZY,JS];exact ba),?_⟩;refine Zl5 aq 1 rfl 0 rfl (λ_=>⟨rfl,rfl⟩) rfl rfl hb λu' h9 ar ad=>⟨(eZ ac).trans ar,?_⟩
 refine ZBT (by rw [a8];exact a9) ⟨i,ab,⟨i0,by omega⟩,?_⟩;rw [ZY,JS];dsimp only [List.set] at ad;have au:=ad.pick [1,2,3] (by decide);obtain ⟨aw,L',s2,af,X,rfl,q1,B,Jf,rfl,q2,Je,W,rfl,q3,q4⟩:=au;have bj:B=[(b,Row.cs (pre++ds++rest))]:=q2;obtain ⟨_,br⟩:=q3;have bm:W=[]:=q4;subst bj br bm;have s3:S0 φ h0 h9 aw ((b,Row.cs (pre++ds++rest))::(af++(M1++M2++(L1++L2)))):=s2.perm (by
  simp only [List.append_nil];exact XX ..)
 refine ZsV s3 (by simp;omega) ((El.ow (El.int .i64)).one q1 u' (by simp)) λbp s4=>?_;rw [ZLu Z] at s4;have az:CLe φ aw:=s4.bas;refine hK bp ⟨aw,L1++((b,Row.cs (pre++ds.set i.toNat u'++rest))::(M1++af++M2))++L2,(s.re s4).perm ?_,e4 aw (.it (El.ow (El.ow (El.int .i64))) _ _) _ az ⟨_,rfl,.inr ⟨b,c,pre,(ds.map λd=>[d]).set i.toNat [u'],rest,M1++af++M2,by simp,by simpa using hc,by simpa using hrest,?_,hset aw af [u'] zs az q1⟩⟩⟩
 .have p1:(L1++((b,Row.cs (pre++ds.set i.toNat u'++rest))::(M1++af++M2))++L2).Perm (((b,Row.cs (pre++ds.set i.toNat u'++rest))::(M1++af++M2))++(L1++L2)):=by
   rw [Js];refine XX ..
  refine (p1.trans ?_).symm;have p2:(M1++af++M2).Perm (af++(M1++M2)):=by
   rw [Js];exact XX ..
  have p3:(((b,Row.cs (pre++ds.set i.toNat u'++rest))::(M1++af++M2))++(L1++L2)).Perm (((b,Row.cs (pre++ds.set i.toNat u'++rest))::(af++(M1++M2)))++(L1++L2)):=(p2.cons _).append_right _;refine p3.trans (List.Perm.of_eq ?_);simp
 .rw [<-List.map_set,ZbS]
theorem S.boxNeB {b l:Nat} {cs k:Jc} (st:S ψ h0 h os) (i j:Nat) (w:i≠j) (hi:os[i]?=Jg (.box b cs)) (hj:os[j]?=Jg (.box l k)) (he:b=l):False:=by
 obtain ⟨φ,L,s,r⟩:=st;obtain ⟨Ls,rfl,hs⟩:=r.split;obtain ⟨Li,a,e⟩:=hs i _ hi;obtain ⟨x,f,g⟩:=hs j _ hj;have o:Li=[(b,.cs cs)]:=e;have u:x=[(l,.cs k)]:=g;subst o u he;exact Zoo s.nod a f w b (by simp [Rws.bs]) (by simp [Rws.bs])
theorem ZwL (st:S ψ h0 h os) (i:Nat) {a:Addr} {b j:Nat} {cs:Jc} {v:Value} {K:Heap->Prop} (u:a=⟨b,j,none⟩) (l:os[i]?=Jg (.box b cs)) (o:(cs[j]?).isSome=true) (h1:v.oneCell'=true)
  (k:∀g,ExtBut (λx=>x=b) h g->S ψ h0 g (os.set i (.box b (cs.set j v)))->K g):vStore1 h a v K:=by
 subst u;have:=ZcH (K:=λg=>ExtBut (λx=>b=x) h g->K g) st i rfl l o h1 λg st f=>k g (f.mono λx e=>e.symm) st;exact Zpd (a:=⟨b,j,none⟩) (vs:=[v]) (i:=0) this
end
end Go.Vc
