import Derived.Test.YtepnljbkgjbbmaaGreatDoorVcS3
namespace Go.Vc
set_option linter.unusedVariables false
set_option linter.unusedSimpArgs false
open Go
section
variable {ψ:CM} {h0 h:Heap} {os:List Ob} {α:Type}
theorem AllR.nilL {e:CM} {E:El α} (hp:∀ e L cs x,E.R e L cs x->L=[]):∀ {M:Rws} {q:List (List Value)} {y:List α},AllR e E M q y->M=[]
 | _,[],[],h=>h
 | _,[],_::_,h=>h.elim
 | _,_::_,[],h=>h.elim
 | _,_::_,_::_,⟨L1,L2,h1,a,c⟩=>by rw [h1,hp _ _ _ _ a,AllR.nilL hp c];rfl
theorem AllR.take0 {e:CM} {E:El α} (hp:∀ e L cs x,E.R e L cs x->L=[]) {css:List (List Value)} {xs:List α} (h:AllR e E [] css xs) (k:Nat):AllR e E [] (css.take k) (xs.take k):=by
 obtain ⟨L',h1,a⟩:=h.take k
 rwa [AllR.nilL hp a] at a
theorem ZCX {z:List Value} (hz:∀ v∈z,v.oneCell'=true) (n:Nat):∀ v∈repl n z,v.oneCell'=true:=by
 induction n with
 | zero=>intro v a;cases a
 | succ n e=>
  intro v a
  rw [repl] at a
  rcases List.mem_append.1 a with h|h
  ·exact hz v h
  ·exact e v h
theorem ZCP {E:El α}:∀ v∈E.zc,v.oneCell'=true:=E.one (E.hz fun _=>none)
theorem ZfZ {E:El α}:E.zc.length=E.z:=E.len (E.hz fun _=>none)
theorem ZuN {e:CM} {E:El α} {L:Rws} {css:List (List Value)} {xs:List α} (h:AllR e E L css xs) {k:Nat} (a:k<=xs.length):(css.take k).flatten.length=k*E.z:=by
 obtain ⟨_,_,g⟩:=h.take k
 rw [g.flat,List.length_take,Nat.min_eq_left a]
theorem Zs7 {a:CM} {E:El α} {L:Rws} {css:List (List Value)} {xs:List α} (h:AllR a E L css xs) (k:Nat):(css.drop k).flatten.length=(xs.length-k)*E.z:=by
 obtain ⟨_,_,g⟩:=h.drop k
 rw [g.flat,List.length_drop]
theorem Zt0 (css:List (List Value)) (k:Nat):css.flatten=(css.take k).flatten++(css.drop k).flatten:=by
 have:=congrArg List.flatten (List.take_append_drop k css)
 rw [List.flatten_append] at this
 exact this.symm
theorem Zu0 {E:El α} (hp:∀ y L cs x,E.R y L cs x->L=[]) {v:Value} {xs:List α} {z:Nat} {zero:List Value} (st:S ψ h0 h os) (e:Nat) (ho:os[e]?=some (.it (El.ow E) [v] xs)) (hz:E.z=z) (a9:zero=E.zc) {k:Int} (k0:0<=k) (k1:k<=(xs.length:Int)) {K:Value->Heap->Prop}
  (hK:∀ v' w,S ψ h0 w (os.set e (.it (El.ow E) [v'] (xs.take k.toNat)))->K v' w):
  vSliceS v z (some (.int .i64 k)) none none fun u=>vClear zero u h fun _ w=>vSliceS v z none (some (.int .i64 k)) none fun v'=>K v' w:=by
 subst hz;subst a9
 obtain ⟨m,rfl⟩:∃ m:Nat,k=m:=⟨k.toNat,by omega⟩
 have k2:m<=xs.length:=ω
 obtain ⟨y,L,s,r⟩:=st
 obtain ⟨L1,Lo,L2,f,j,_,g⟩:=r.at ho
 rcases El.ow_to j with ⟨rfl,rfl,rfl⟩|⟨b,c,pre,css,rest,Lr,rfl,p,hrest,rfl,hall⟩
 ·have hm:m=0:=by simpa using k2
  subst hm
  refine ⟨by simp,by simp,?_⟩
  show K _ h
  simp only [Int.toNat_natCast]
  refine hK _ h ⟨y,_,s,?_⟩
  rw [f]
  exact g y _ _ (CLe.refl _) ⟨_,rfl,.inl ⟨rfl,by simp,rfl⟩⟩
 ·obtain rfl:=AllR.nilL hp hall
  have a0:(m:Int).toNat=m:=Int.toNat_natCast m
  have hf:=Zt0 css m
  have i:=Zs7 hall m
  have s1:S0 ψ h0 h y ((b,Row.cs (pre++(css.take m).flatten++(css.drop m).flatten++rest))::(L1++L2)):=s.perm (by
   rw [f,hf]
   have:(L1++[(b,Row.cs (pre++((css.take m).flatten++(css.drop m).flatten)++rest))]++L2).Perm ((b,Row.cs (pre++((css.take m).flatten++(css.drop m).flatten)++rest))::(L1++L2)):=by
    rw [List.append_assoc];exact List.perm_middle
   simp only [<-List.append_assoc] at this ⊢
   exact this)
  have fin:∀ w a1,a1.length=(xs.length-m)*E.z->S0 ψ h0 w y ((b,Row.cs (pre++(css.take m).flatten++a1++rest))::(L1++L2)) ->
    vSliceS (.slice (some ⟨b,pre.length,none⟩) xs.length c) E.z none (some (.int .i64 (m:Int))) none fun v'=>K v' w:=fun w a1 a7 t=>by
   refine ⟨⟨by omega,by omega⟩,?_⟩
   simp only [a0]
   have l:(Value.slice (bif c.beq 0 then some ⟨b,pre.length,none⟩ else Option.map (fun (x:Addr)=>x.add (0*E.z)) (some ⟨b,pre.length,none⟩)) (m-0) (c-0))=.slice (some ⟨b,pre.length,none⟩) m c:=by cases Nat.beq c 0<;>simp [ZN]
   show K (Value.slice (bif c.beq 0 then some ⟨b,pre.length,none⟩ else Option.map (fun (x:Addr)=>x.add (0*E.z)) (some ⟨b,pre.length,none⟩)) (m-0) (c-0)) w
   rw [l]
   have a2:(xs.take m).length=m:=by rw [List.length_take];omega
   refine hK _ w ⟨y,_,t.perm (L':=L1++[(b,Row.cs (pre++(css.take m).flatten++a1++rest))]++L2) (by rw [List.append_assoc L1];exact List.perm_middle.symm),g y _ _ (CLe.refl _) ⟨_,rfl,.inr ⟨b,c,pre,css.take m,a1++rest,[],?_,?_,?_,by simp,hall.take0 hp m⟩⟩⟩
   ·rw [a0,a2]
   ·rw [a0,a2];omega
   ·rw [a0,a2,List.length_append,a7]
    have:(c-m)*E.z=(c-xs.length)*E.z+(xs.length-m)*E.z:=by rw [<-Nat.add_mul];congr 1;omega
    omega
  refine ⟨⟨by omega,by simpa using k1⟩,?_⟩
  simp only [a0]
  by_cases a6:c=m
  ·have a:Nat.beq c m=true:=by rw [a6];exact Nat.beq_refl m
   rw [a]
   have o:xs.length-m=0:=ω
   rw [o]
   exact fin h (css.drop m).flatten i s1
  ·have a:Nat.beq c m=false:=by
    cases hh:Nat.beq c m with
    | false=>rfl
    | true=>exact absurd (Nat.eq_of_beq_eq_true hh) a6
   rw [a]
   show vStoreN ((⟨b,pre.length,none⟩:Addr).add (m*E.z)) (repl (xs.length-m) E.zc) 0 h _
   rw [ZN]
   refine ZbO _ (css.drop m).flatten (pre++(css.take m).flatten) _ 0 h _ (by rw [List.length_append,ZuN hall k2];rfl) (by rw [i,ZdF,ZfZ]) (ZCX ZCP _) s1.sta fun w t=>?_
   exact fin w _ (by rw [ZdF,ZfZ]) (s1.of_sta' t (by simp [Rws.bs]))
theorem AllR.ends {o:CM} {E:El α}:∀ {a d:Nat},a<=d->∀ {L:Rws} {css:List (List Value)} {xs:List α},AllR o E L css xs->∃ k l,(k++l).Sublist L/\AllR o E k (css.take a) (xs.take a)/\AllR o E l (css.drop d) (xs.drop d)
 | 0,d,_,L,css,xs,h=>by
  obtain ⟨L',h1,c⟩:=h.drop d
  exact ⟨[],L',h1,rfl,c⟩
 | a+1,0,e,_,_,_,_=>by omega
 | a+1,d+1,_,L,[],[],h=>⟨[],L,List.Sublist.refl _,rfl,h⟩
 | a+1,d+1,_,_,[],_::_,h=>h.elim
 | a+1,d+1,_,_,_::_,[],h=>h.elim
 | a+1,d+1,e,_,_::_,_::_,⟨L1,L2,h1,c,f⟩=>by
  obtain ⟨k,l,g,i,j⟩:=AllR.ends (show a<=d by omega) f
  exact ⟨L1++k,l,by rw [h1,List.append_assoc];exact g.append_left _,⟨L1,k,rfl,c,i⟩,j⟩
theorem IsView.addr {v r:Value} {z l m:Nat} {i:Int} {p:Addr} (f:IsView v z l m r) (u:AddrOf r i z p) (hi:0<=i) (x:l+i.toNat<m):AddrOf v ((l:Int)+i) z p:=by
 obtain ⟨a',y,w,e,rfl⟩:=u
 rcases f with ⟨_,rfl⟩|⟨a,n,c,rfl,h1,k,o,g⟩
 ·cases e
 ·rw [g] at e
  cases e
  have j:Nat.beq c l=false:=by
   cases hh:Nat.beq c l with
   | false=>rfl
   | true=>have:=Nat.eq_of_beq_eq_true hh;omega
  rw [j]
  refine ⟨a,n,c,rfl,?_⟩
  show (a.add (l*z)).add (i.toNat*z)=a.add (((l:Int)+i).toNat*z)
  rw [ZfS,show ((l:Int)+i).toNat=l+i.toNat by omega,Nat.add_mul]
end
theorem Zj2 {α:Type} {f:α->α->Option Bool} {p y:α} {e r q:List α} (c:e=y::r) (h:cpt f p e=some q):∃ b l,f y p=some b/\cpt f y r=some l/\q=bif b then l else y::l:=by
 subst c
 obtain ⟨b,h1,a⟩:=obind h
 cases hl:cpt f y r with
 | none=>rw [hl] at a;cases a
 | some l=>rw [hl] at a;exact ⟨b,l,h1,rfl,(Option.some.inj a).symm⟩
theorem ZlU {α:Type} {xs:List α} {k:Nat} {y:α} (h:xs[k]?=some y):xs.drop k=y::xs.drop (k+1):=by
 have a:=ZT h
 rw [List.drop_eq_getElem_cons a]
 rw [List.getElem?_eq_getElem a] at h
 rw [Option.some.inj h]
theorem ZjK {α:Type} {xs:List α} {k:Nat} {y:α} (h:xs[k]?=some y):xs.take (k+1)=xs.take k++[y]:=by
 rw [List.take_add_one,h];rfl
end Go.Vc
