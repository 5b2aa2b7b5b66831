import Derived.Test.YtcneolcmjjlmnaaGreatDoorVcS3
open List renaming length_take->Jt,length_append->Jo,length->Jk
open Option renaming map->WA,some->Jg,none->Jh
open Nat renaming beq->Jv,add_mul->JQ,eq_of_beq_eq_true->JK
namespace Go.Vc
set_option linter.unusedVariables false
set_option linter.unusedSimpArgs false
open Go
section
variable {ψ:CM} {h0 h:Heap} {os:List Ob} {α:Type}
theorem AllR.nilL {φ:CM} {E:El α} (hp:∀φ L cs x,E.R φ L cs x->L=[]):∀{M:Rws} {q:List Jc} {y:List α},AllR φ E M q y->M=[]
 | _,[],[],h=>h
 | _,[],_::_,h=>h.elim
 | _,_::_,[],h=>h.elim
 | _,_::_,_::_,⟨L1,L2,h1,a,e⟩=>by rw [h1,hp _ _ _ _ a,AllR.nilL hp e];rfl
theorem AllR.take0 {φ:CM} {E:El α} (hp:∀φ L cs x,E.R φ L cs x->L=[]) {css:List Jc} {xs:List α} (h:AllR φ E [] css xs) (k:Nat):AllR φ E [] (css.take k) (xs.take k):=by
 obtain ⟨L',h1,a⟩:=h.take k;grind
theorem ZKs {z:Jc} (hz:∀v∈z,v.oneCell'=true) (n:Nat):∀v∈repl n z,v.oneCell'=true:=by
 induction n with
 | zero=>intro v a;cases a
 | succ n e=>
  grind [repl]
theorem ZKb {E:El α}:∀v∈E.zc,v.oneCell'=true:=E.one (E.hz λ_=>Jh)
theorem ZCA {E:El α}:Jk E.zc=E.z:=E.len (E.hz λ_=>Jh)
theorem ZFv {φ:CM} {E:El α} {L:Rws} {css:List Jc} {xs:List α} (h:AllR φ E L css xs) {k:Nat} (e:k<=Jk xs):(css.take k).flatten.length=k*E.z:=by
 obtain ⟨_,_,g⟩:=h.take k;rw [g.flat,Jt,Nat.min_eq_left e]
theorem ZGX {φ:CM} {E:El α} {L:Rws} {css:List Jc} {xs:List α} (h:AllR φ E L css xs) (k:Nat):(css.drop k).flatten.length=(Jk xs-k)*E.z:=by
 obtain ⟨_,_,g⟩:=h.drop k;rw [g.flat,List.length_drop]
theorem ZOw (css:List Jc) (k:Nat):css.flatten=(css.take k).flatten++(css.drop k).flatten:=by
 have:=congrArg List.flatten (List.take_append_drop k css);grind
theorem ZDS {E:El α} (hp:∀φ L cs x,E.R φ L cs x->L=[]) {v:Value} {xs:List α} {z:Nat} {zero:Jc} (st:S ψ h0 h os) (e:Nat) (ho:os[e]?=Jg (.it (El.ow E) [v] xs)) (hz:E.z=z) (ac:zero=E.zc) {k:Int} (k0:0<=k) (k1:k<=(Jk xs:Int)) {K:Value->Heap->Prop}
  (hK:∀v' h',S ψ h0 h' (os.set e (.it (El.ow E) [v'] (xs.take k.toNat)))->K v' h'):
  vSliceS v z (Jg (.int .i64 k)) Jh Jh λu=>vClear zero u h λ_ h'=>vSliceS v z Jh (Jg (.int .i64 k)) Jh λv'=>K v' h':=by
 subst hz;subst ac;obtain ⟨m,rfl⟩:∃m:Nat,k=m:=⟨k.toNat,by omega⟩
 have k2:m<=Jk xs:=Z;obtain ⟨φ,L,s,r⟩:=st;obtain ⟨L1,Lo,L2,i,j,_,f⟩:=r.at ho;rcases El.ow_to j with ⟨rfl,rfl,rfl⟩|⟨b,c,pre,css,rest,Lr,rfl,w,hrest,rfl,hall⟩
 .have hm:m=0:=by simpa using k2
  subst hm;refine ⟨by simp,by simp,?_⟩;show K _ h;simp only [Int.toNat_natCast];refine hK _ h ⟨φ,_,s,?_⟩;rw [i];exact f φ _ _ (CLe.refl _) ⟨_,rfl,.inl ⟨rfl,by simp,rfl⟩⟩
 .obtain rfl:=AllR.nilL hp hall;have a4:(m:Int).toNat=m:=Int.toNat_natCast m;have hf:=ZOw css m;have g:=ZGX hall m;have s1:S0 ψ h0 h φ ((b,Row.cs (pre++(css.take m).flatten++(css.drop m).flatten++rest))::(L1++L2)):=s.perm (by
   simp_all)
  have fin:∀h' a3,Jk a3=(Jk xs-m)*E.z->S0 ψ h0 h' φ ((b,Row.cs (pre++(css.take m).flatten++a3++rest))::(L1++L2)) ->
    vSliceS (.slice (Jg ⟨b,Jk pre,Jh⟩) (Jk xs) c) E.z Jh (Jg (.int .i64 (m:Int))) Jh λv'=>K v' h':=λh' a3 a9 t=>by
   refine ⟨⟨by omega,by omega⟩,?_⟩;simp only [a4];have l:(Value.slice (bif c.beq 0 then Jg ⟨b,Jk pre,Jh⟩ else WA (λ(x:Addr)=>x.add (0*E.z)) (Jg ⟨b,Jk pre,Jh⟩)) (m-0) (c-0))=.slice (Jg ⟨b,Jk pre,Jh⟩) m c:=by cases Jv c 0<;>simp [ZY]
   show K (Value.slice (bif c.beq 0 then Jg ⟨b,Jk pre,Jh⟩ else WA (λ(x:Addr)=>x.add (0*E.z)) (Jg ⟨b,Jk pre,Jh⟩)) (m-0) (c-0)) h';rw [l];have a5:(xs.take m).length=m:=by rw [Jt];omega
   refine hK _ h' ⟨φ,_,t.perm (L':=L1++[(b,Row.cs (pre++(css.take m).flatten++a3++rest))]++L2) (by rw [List.append_assoc L1];exact List.perm_middle.symm),f φ _ _ (CLe.refl _) ⟨_,rfl,.inr ⟨b,c,pre,css.take m,a3++rest,[],?_,?_,?_,by simp,hall.take0 hp m⟩⟩⟩
   .rw [a4,a5]
   .rw [a4,a5];omega
   .rw [a4,a5,Jo,a9];have:(c-m)*E.z=(c-Jk xs)*E.z+(Jk xs-m)*E.z:=by rw [<-JQ];congr 1;omega
    omega
  refine ⟨⟨by omega,by simpa using k1⟩,?_⟩;simp only [a4];by_cases ab:c=m
  .have a:Jv c m=true:=by rw [ab];exact Nat.beq_refl m
   rw [a];have o:Jk xs-m=0:=Z;rw [o];exact fin h (css.drop m).flatten g s1
  .have a:Jv c m=false:=by
    grind [absurd,JK]
   rw [a];show vStoreN ((⟨b,Jk pre,Jh⟩:Addr).add (m*E.z)) (repl (Jk xs-m) E.zc) 0 h _;rw [ZY];refine ZiN _ (css.drop m).flatten (pre++(css.take m).flatten) _ 0 h _ (by rw [Jo,ZFv hall k2];rfl) (by rw [g,Zi6,ZCA]) (ZKs ZKb _) s1.sta λh' t=>?_;exact fin h' _ (by rw [Zi6,ZCA]) (s1.of_sta' t (by simp [Rws.bs]))
theorem IsView.addr {v u:Value} {z l m:Nat} {i:Int} {p:Addr} (f:IsView v z l m u) (w:AddrOf u i z p) (hi:0<=i) (hl:l+i.toNat<m):AddrOf v ((l:Int)+i) z p:=by
 obtain ⟨a',n',x,e,rfl⟩:=w;rcases f with ⟨_,rfl⟩|⟨a,n,c,rfl,h1,k,o,g⟩
 .cases e
 .rw [g] at e;cases e;have j:Jv c l=false:=by
   grind [JK]
  rw [j];refine ⟨a,n,c,rfl,?_⟩;show (a.add (l*z)).add (i.toNat*z)=a.add (((l:Int)+i).toNat*z);rw [Zfw,show ((l:Int)+i).toNat=l+i.toNat by omega,JQ]
end
theorem ZlQ {α:Type} {f:α->α->Jm Bool} {p y:α} {g r q:List α} (e:g=y::r) (h:cpt f p g=Jg q):∃b l,f y p=Jg b/\cpt f y r=Jg l/\q=bif b then l else y::l:=by
 subst e;obtain ⟨b,h1,a⟩:=obind h;cases hl:cpt f y r with
 | none=>rw [hl] at a;cases a
 | some l=>rw [hl] at a;exact ⟨b,l,h1,rfl,(Option.some.inj a).symm⟩
theorem Zn1 {α:Type} {xs:List α} {k:Nat} {y:α} (h:xs[k]?=Jg y):xs.drop k=y::xs.drop (k+1):=by
 have e:=Zad h;rw [List.drop_eq_getElem_cons e];grind
theorem Zmy {α:Type} {xs:List α} {k:Nat} {y:α} (h:xs[k]?=Jg y):xs.take (k+1)=xs.take k++[y]:=by
 rw [List.take_add_one,h];rfl
end Go.Vc
