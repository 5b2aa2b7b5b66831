import Derived.Test.YtahnjnfpjcfklaaGreatDoorVcS3
namespace Go.Vc
set_option linter.unusedVariables false
set_option linter.unusedSimpArgs false
open Go
section
variable {ψ:CM} {h0 h:Heap} {os:List Ob} {α:Type}
theorem AllR.nilL {φ:CM} {E:El α} (hp:∀ φ L cs x,E.R φ L cs x->L=[]):∀ {M:Rws} {q:List (List Value)} {y:List α},AllR φ E M q y->M=[]
 | _,[],[],h=>h
 | _,[],_::_,h=>h.elim
 | _,_::_,[],h=>h.elim
 | _,_::_,_::_,⟨L1,L2,h1,a,e⟩=>by rw [h1,hp _ _ _ _ a,AllR.nilL hp e];rfl
theorem AllR.take0 {φ:CM} {E:El α} (hp:∀ φ L cs x,E.R φ L cs x->L=[]) {css:List (List Value)} {xs:List α} (h:AllR φ E [] css xs) (k:Nat):AllR φ E [] (css.take k) (xs.take k):=by
 obtain ⟨L',h1,a⟩:=h.take k;rwa [AllR.nilL hp a] at a
theorem ZIb {z:List Value} (hz:∀ v∈z,v.oneCell'=true) (n:Nat):∀ v∈repl n z,v.oneCell'=true:=by
 induction n with
 | zero=>intro v a;cases a
 | succ n e=>
  intro v a;rw [repl] at a;rcases List.mem_append.1 a with h|h
  ·exact hz v h
  ·exact e v h
theorem Zv1 {E:El α}:∀ v∈E.zc,v.oneCell'=true:=E.one (E.hz fun _=>none)
theorem Zvf {E:El α}:E.zc.length=E.z:=E.len (E.hz fun _=>none)
theorem ZxM {φ:CM} {E:El α} {L:Rws} {css:List (List Value)} {xs:List α} (h:AllR φ E L css xs) {k:Nat} (a:k<=xs.length):(css.take k).flatten.length=k*E.z:=by
 obtain ⟨_,_,g⟩:=h.take k;rw [g.flat,List.length_take,Nat.min_eq_left a]
theorem Zyw {φ:CM} {E:El α} {L:Rws} {css:List (List Value)} {xs:List α} (h:AllR φ E L css xs) (k:Nat):(css.drop k).flatten.length=(xs.length-k)*E.z:=by
 obtain ⟨_,_,g⟩:=h.drop k;rw [g.flat,List.length_drop]
theorem ZFs (css:List (List Value)) (k:Nat):css.flatten=(css.take k).flatten++(css.drop k).flatten:=by
 have:=congrArg List.flatten (List.take_append_drop k css);rw [List.flatten_append] at this;exact this.symm
theorem Ztf {E:El α} (hp:∀ φ L cs x,E.R φ L cs x->L=[]) {v:Value} {xs:List α} {z:Nat} {zero:List Value} (st:S ψ h0 h os) (f:Nat) (ho:os[f]?=some (.it (El.ow E) [v] xs)) (hz:E.z=z) (ac:zero=E.zc) {k:Int} (k0:0<=k) (k1:k<=(xs.length:Int)) {K:Value->Heap->Prop}
  (hK:∀ v' h',S ψ h0 h' (os.set f (.it (El.ow E) [v'] (xs.take k.toNat)))->K v' h'):
  vSliceS v z (some (.int .i64 k)) none none fun u=>vClear zero u h fun _ h'=>vSliceS v z none (some (.int .i64 k)) none fun v'=>K v' h':=by
 subst hz;subst ac;obtain ⟨m,rfl⟩:∃ m:Nat,k=m:=⟨k.toNat,by omega⟩
 have g:m<=xs.length:=ω;obtain ⟨φ,L,s,r⟩:=st;obtain ⟨L1,Lo,L2,i,o,_,j⟩:=r.at ho;rcases El.ow_to o with ⟨rfl,rfl,rfl⟩|⟨b,c,pre,css,rest,Lr,rfl,hc,hrest,rfl,hall⟩
 ·have hm:m=0:=by simpa using g
  subst hm;refine ⟨by simp,by simp,?_⟩;show K _ h;simp only [Int.toNat_natCast];refine hK _ h ⟨φ,_,s,?_⟩;rw [i];exact j φ _ _ (CLe.refl _) ⟨_,rfl,.inl ⟨rfl,by simp,rfl⟩⟩
 ·obtain rfl:=AllR.nilL hp hall;have a3:(m:Int).toNat=m:=Int.toNat_natCast m;have hf:=ZFs css m;have l:=Zyw hall m;have a:S0 ψ h0 h φ ((b,Row.cs (pre++(css.take m).flatten++(css.drop m).flatten++rest))::(L1++L2)):=s.perm (by
   rw [i,hf];have:(L1++[(b,Row.cs (pre++((css.take m).flatten++(css.drop m).flatten)++rest))]++L2).Perm ((b,Row.cs (pre++((css.take m).flatten++(css.drop m).flatten)++rest))::(L1++L2)):=by
    rw [List.append_assoc];exact List.perm_middle
   simp only [<-List.append_assoc] at this ⊢;exact this)
  have fin:∀ h' a4,a4.length=(xs.length-m)*E.z->S0 ψ h0 h' φ ((b,Row.cs (pre++(css.take m).flatten++a4++rest))::(L1++L2)) ->
    vSliceS (.slice (some ⟨b,pre.length,none⟩) xs.length c) E.z none (some (.int .i64 (m:Int))) none fun v'=>K v' h':=fun h' a4 aa t=>by
   refine ⟨⟨by omega,by omega⟩,?_⟩;simp only [a3];have w:(Value.slice (bif c.beq 0 then some ⟨b,pre.length,none⟩ else Option.map (fun (x:Addr)=>x.add (0*E.z)) (some ⟨b,pre.length,none⟩)) (m-0) (c-0))=.slice (some ⟨b,pre.length,none⟩) m c:=by cases Nat.beq c 0<;>simp [Z5]
   show K (Value.slice (bif c.beq 0 then some ⟨b,pre.length,none⟩ else Option.map (fun (x:Addr)=>x.add (0*E.z)) (some ⟨b,pre.length,none⟩)) (m-0) (c-0)) h';rw [w];have a5:(xs.take m).length=m:=by rw [List.length_take];omega
   refine hK _ h' ⟨φ,_,t.perm (L':=L1++[(b,Row.cs (pre++(css.take m).flatten++a4++rest))]++L2) (by rw [List.append_assoc L1];exact List.perm_middle.symm),j φ _ _ (CLe.refl _) ⟨_,rfl,.inr ⟨b,c,pre,css.take m,a4++rest,[],?_,?_,?_,by simp,hall.take0 hp m⟩⟩⟩
   ·rw [a3,a5]
   ·rw [a3,a5];omega
   ·rw [a3,a5,List.length_append,aa];have:(c-m)*E.z=(c-xs.length)*E.z+(xs.length-m)*E.z:=by rw [<-Nat.add_mul];congr 1;omega
    omega
  refine ⟨⟨by omega,by simpa using k1⟩,?_⟩;simp only [a3];by_cases a9:c=m
  ·have e:Nat.beq c m=true:=by rw [a9];exact Nat.beq_refl m
   rw [e];have y:xs.length-m=0:=ω;rw [y];exact fin h (css.drop m).flatten l a
  ·have e:Nat.beq c m=false:=by
    cases hh:Nat.beq c m with
    | false=>rfl
    | true=>exact absurd (Nat.eq_of_beq_eq_true hh) a9
   rw [e];show vStoreN ((⟨b,pre.length,none⟩:Addr).add (m*E.z)) (repl (xs.length-m) E.zc) 0 h _;rw [Z5];refine ZgS _ (css.drop m).flatten (pre++(css.take m).flatten) _ 0 h _ (by rw [List.length_append,ZxM hall g];rfl) (by rw [l,Zhw,Zvf]) (ZIb Zv1 _) a.sta fun h' t=>?_;exact fin h' _ (by rw [Zhw,Zvf]) (a.of_sta' t (by simp [Rws.bs]))
theorem IsView.addr {v u:Value} {z l m:Nat} {i:Int} {p:Addr} (f:IsView v z l m u) (r:AddrOf u i z p) (hi:0<=i) (w:l+i.toNat<m):AddrOf v ((l:Int)+i) z p:=by
 obtain ⟨x,n',c',e,rfl⟩:=r;rcases f with ⟨_,rfl⟩|⟨a,n,c,rfl,h1,k,o,g⟩
 ·cases e
 ·rw [g] at e;cases e;have j:Nat.beq c l=false:=by
   cases hh:Nat.beq c l with
   | false=>rfl
   | true=>have:=Nat.eq_of_beq_eq_true hh;omega
  rw [j];refine ⟨a,n,c,rfl,?_⟩;show (a.add (l*z)).add (i.toNat*z)=a.add (((l:Int)+i).toNat*z);rw [Zel,show ((l:Int)+i).toNat=l+i.toNat by omega,Nat.add_mul]
end
theorem ZjP {α:Type} {f:α->α->Option Bool} {p y:α} {g r q:List α} (e:g=y::r) (h:cpt f p g=some q):∃ b l,f y p=some b/\cpt f y r=some l/\q=bif b then l else y::l:=by
 subst e;obtain ⟨b,h1,a⟩:=obind h;cases hl:cpt f y r with
 | none=>rw [hl] at a;cases a
 | some l=>rw [hl] at a;exact ⟨b,l,h1,rfl,(Option.some.inj a).symm⟩
theorem Ziz {α:Type} {xs:List α} {k:Nat} {y:α} (h:xs[k]?=some y):xs.drop k=y::xs.drop (k+1):=by
 have a:=Z0 h;rw [List.drop_eq_getElem_cons a];rw [List.getElem?_eq_getElem a] at h;rw [Option.some.inj h]
theorem Zkf {α:Type} {xs:List α} {k:Nat} {y:α} (h:xs[k]?=some y):xs.take (k+1)=xs.take k++[y]:=by
 rw [List.take_add_one,h];rfl
end Go.Vc
