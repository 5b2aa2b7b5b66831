import Derived.Test.YtcneolcmjjlmnaaGreatDoorVcS
open Nat renaming zero_add->Xk,add_sub_cancel_left->XT,le_refl->JB
open List renaming flatten_cons->JX,length_append->Jo,append_assoc->Js,getElem?_append_right->JR,flatten_append->Yb,perm_append_comm->JE,replicate->Jn,eq_nil_of_length_eq_zero->X9,mem_cons_self->JA,getElem?_append_left->J2,sublist_cons_self->Ws,length->Jk
open Option renaming some->Jg,none->Jh
open Go renaming Value->Jl
namespace Go.Vc
set_option linter.unusedVariables false
set_option linter.unusedSimpArgs false
open Go
section
variable {ψ:CM} {h0 h:Heap} {os:List Ob} {α:Type}
theorem S.ext (st:S ψ h0 h os):ExtH h0 h:=by obtain ⟨φ,L,s,_⟩:=st;exact s.ext
theorem S.le (st:S ψ h0 h os):CLe (hcell h0) (hcell h):=CLe.ext st.ext
theorem S.start (a:CLe ψ (hcell h)):S ψ h h []:=
 ⟨ψ,[],⟨eX h,by simp,by simp [Rws.bs],by simp [Rws.bs],a,by simp [Rws.bs],CLe.refl _,λ_ _ hp _=>hp⟩,rfl⟩
theorem S.read {E E':El α} {cs:Jc} {x:α} (st:S ψ h0 h os) (i:Nat) (j:os[i]?=Jg (.it E cs x)) (k:Frz E E'):E'.R (hcell h) [] cs x:=by
 obtain ⟨φ,L,s,r⟩:=st;obtain ⟨l,g,o,a,e,_,_⟩:=r.at j;refine k.2 _ g _ _ (E.mono s.fle e) ?_;have:=s.rows;rw [a] at this;exact this.left.right
theorem S.rdL {E E':El α} {v:Jl} {xs:List α} (st:S ψ h0 h os) (i:Nat) (e:os[i]?=Jg (.it (El.ow E) [v] xs)) (g:Frz E E'):SlC (hcell h) E' v xs:=
 El.sl_to (st.read i e (ZO g))
theorem S.rdF {E:El α} {v:Jl} {xs:List α} (st:S ψ h0 h os) (i:Nat) (e:os[i]?=Jg (.it (El.sl E) [v] xs)):SlC (hcell h) E v xs:=
 El.sl_to (st.read i e (Zah E))
theorem S.cells {b:Nat} {cs:Jc} (st:S ψ h0 h os) (i:Nat) (k:os[i]?=Jg (.box b cs)):CellsC (hcell h) ⟨b,0,Jh⟩ cs:=by
 obtain ⟨φ,L,s,r⟩:=st;obtain ⟨x,l,w,a,e,_,_⟩:=r.at k;have g:l=[(b,.cs cs)]:=e;intro j u o;rw [ZY,Xk];exact s.rows b cs (by rw [a,g];simp) j u o
theorem S.one {E:El α} {cs:Jc} {x:α} (st:S ψ h0 h os) (i:Nat) (g:os[i]?=Jg (.it E cs x)):∀v∈cs,v.oneCell'=true:=by
 obtain ⟨φ,L,s,r⟩:=st;obtain ⟨k,j,l,e,a,_,_⟩:=r.at g;exact E.one a
theorem ZF {φ:CM} {E:El α} {v:Jl} {xs:List α} (g:SlC φ E v xs) {K:Nat->Prop} (e:K (Jk xs)):vLen v K:=by
 rcases g with ⟨rfl,rfl⟩|⟨a,c,rfl,_⟩<;>exact e
def AddrOf (v:Jl) (i:Int) (z:Nat) (p:Addr):Prop:=∃a n c,v=.slice (Jg a) n c/\p=a.add (i.toNat*z)
theorem ZS {φ:CM} {E:El α} {v:Jl} {xs:List α} {i:Int} {x:α} {z:Nat} (j:SlC φ E v xs) (hi:gIdx xs i=Jg x) {K:Addr->Prop} (g:∀p,AddrOf v i z p->K p):vIdx v i z K:=by
 obtain ⟨h1,e⟩:=ZaK hi;have k:=Zad e;rcases j with ⟨rfl,rfl⟩|⟨a,c,rfl,_⟩
 .simp at k
 .exact ⟨⟨h1,by omega⟩,g _ ⟨a,_,c,rfl,rfl⟩⟩
theorem SlC.cells {φ:CM} {E:El α} {v:Jl} {xs:List α} {i:Int} {x:α} {p:Addr} {z:Nat} (j:SlC φ E v xs) (hp:AddrOf v i z p) (hi:gIdx xs i=Jg x) (hz:E.z=z):∃cs,CellsC φ p cs/\E.R φ [] cs x:=by
 obtain ⟨h1,f⟩:=ZaK hi;obtain ⟨a,n,c,rfl,rfl⟩:=hp;rcases j with ⟨e,_⟩|⟨a',c',e,_,g⟩
 .cases e
 .grind
theorem ldI_C {k:IntKind} {v:Jl} {xs:Jb} {i x:Int} {p:Addr} (g:SlC (hcell h) (El.int k) v xs) (hp:AddrOf v i 1 p) (hi:gIdx xs i=Jg x) {K:Int->Prop} (e:K x):ldI k h p K:=by
 obtain ⟨cs,h1,a⟩:=g.cells hp hi rfl;exact ⟨x,h1 0 _ (by rw [a.2];rfl),e⟩
theorem ldB_C {v:Jl} {xs:List Bool} {i:Int} {x:Bool} {p:Addr} (g:SlC (hcell h) El.bool v xs) (hp:AddrOf v i 1 p) (hi:gIdx xs i=Jg x) {K:Bool->Prop} (e:K x):ldB h p K:=by
 obtain ⟨cs,h1,a⟩:=g.cells hp hi rfl;exact ⟨x,h1 0 _ (by rw [a.2];rfl),e⟩
theorem ldS_C {v:Jl} {xs:List Jd} {i:Int} {x:Jd} {p:Addr} (g:SlC (hcell h) El.str v xs) (hp:AddrOf v i 1 p) (hi:gIdx xs i=Jg x) {K:Jd->Prop} (e:K x):ldS h p K:=by
 obtain ⟨cs,h1,a⟩:=g.cells hp hi rfl;exact ⟨x,h1 0 _ (by rw [a.2];rfl),e⟩
theorem ldV_C {e:CM} {E:El α} {v:Jl} {xs:List (List α)} {i:Int} {x:List α} {p:Addr} (k:SlC e (El.sl E) v xs) (g:CLe e (hcell h)) (hp:AddrOf v i 1 p) (hi:gIdx xs i=Jg x) {K:Jl->Prop} (j:∀u,SlC e E u x->K u):ldV h p K:=by
 obtain ⟨cs,h1,_,u,rfl,a⟩:=k.cells hp hi rfl;exact ⟨u,g _ _ (h1 0 _ rfl),j u a⟩
theorem ZFs {E:El α} {v:Jl} {xs:List (List α)} {i:Int} {x:List α} {p:Addr} (st:S ψ h0 h os) (k:Nat) (j:os[k]?=Jg (.it (El.sl (El.sl E)) [v] xs)) (hp:AddrOf v i 1 p) (hi:gIdx xs i=Jg x) {K:Jl->Prop}
  (g:∀u,S ψ h0 h (.it (El.sl E) [u] x::os)->K u):ldV h p K:=by
 obtain ⟨φ,L,s,r⟩:=st;obtain ⟨o,w,l,f,a,_,_⟩:=r.at j;obtain ⟨cs,h1,h0,u,rfl,e⟩:=(El.sl_to a).cells hp hi rfl;exact ⟨u,s.fle _ _ (h1 0 _ rfl),g u ⟨φ,L,s,[],L,rfl,El.sl_of e,r⟩⟩
theorem Zbk {E:El α} {v:Jl} {xs:List (List α)} {i:Int} {x:List α} {p:Addr} (st:S ψ h0 h os) (k:Nat) (ho:os[k]?=Jg (.it (El.ow (El.sl E)) [v] xs)) (hp:AddrOf v i 1 p) (hi:gIdx xs i=Jg x) {K:Jl->Prop}
  (hk:∀u,S ψ h0 h (.it (El.sl E) [u] x::os)->K u):ldV h p K:=by
 obtain ⟨g1,e⟩:=ZaK hi;obtain ⟨φ,L,s,r⟩:=st;obtain ⟨L1,Lo,L2,g,j,_,_⟩:=r.at ho;rcases El.ow_to j with ⟨_,rfl,_⟩|⟨b,c,pre,css,rest,Lr,l,f2,f3,o,f⟩
 .simp at e
 .obtain ⟨d,M1,Mo,M2,pr,po,k1,k2,k3,k4,_⟩:=f.at e;obtain ⟨aa,u,rfl,w⟩:=k4;obtain ⟨a,n,c',rfl,rfl⟩:=hp;cases l;refine ⟨u,?_,hk u ⟨φ,L,s,[],L,rfl,El.sl_of w,r⟩⟩;rw [ZY];refine s.rows b (pre++css.flatten++rest) (by rw [g,o];simp) _ _ ?_;have a3:∀(q:List Jc) (y:List (List α)) (M:Rws),AllR φ (El.sl E) M (q++[u]::po) y->Jk q.flatten=Jk q:=by
   intro q;induction q with
   | nil=>intros;simp
   | cons q0 q ih=>
    intro y M hy;cases y with
    | nil=>exact hy.elim
    | cons y0 y=>
     obtain ⟨_,_,_,z2,z3⟩:=hy;have:=(El.sl E).len z2;rw [JX,Jo,this,ih y _ z3,List.length_cons];show 1+_=_;omega
  have:=a3 pr xs Lr (by rw [<-k2];exact f);rw [k2,Js,JR Z,XT,Yb,Js,JR Z,JX];rw [this,k3,Nat.mul_one,Nat.sub_self];rfl
theorem ldI_K {k:IntKind} {p a:Addr} {cs:Jc} {x:Int} (hp:CellsC (hcell h) p cs) (j:Nat) (l:a=p.add j) (e:cs[j]?=Jg (.int k x)) {K:Int->Prop} (g:K x):ldI k h a K:=by
 subst l;exact ⟨x,hp j _ e,g⟩
theorem ldB_K {p a:Addr} {cs:Jc} {x:Bool} (hp:CellsC (hcell h) p cs) (j:Nat) (k:a=p.add j) (e:cs[j]?=Jg (.bool x)) {K:Bool->Prop} (g:K x):ldB h a K:=by
 subst k;exact ⟨x,hp j _ e,g⟩
theorem ldS_K {p a:Addr} {cs:Jc} {x:Jd} (hp:CellsC (hcell h) p cs) (j:Nat) (k:a=p.add j) (e:cs[j]?=Jg (.string x)) {K:Jd->Prop} (g:K x):ldS h a K:=by
 subst k;exact ⟨x,hp j _ e,g⟩
theorem ldP_K {p a:Addr} {cs:Jc} {x:Addr} (hp:CellsC (hcell h) p cs) (j:Nat) (k:a=p.add j) (e:cs[j]?=Jg (.pointer (Jg x))) {K:Addr->Prop} (g:K x):ldP h a K:=by
 subst k;exact ⟨x,hp j _ e,g⟩
theorem ldV_K {p a:Addr} {cs:Jc} {x:Jl} (hp:CellsC (hcell h) p cs) (j:Nat) (k:a=p.add j) (e:cs[j]?=Jg x) {K:Jl->Prop} (g:K x):ldV h a K:=by
 subst k;exact ⟨x,hp j _ e,g⟩
theorem S.put {o:Ob} (st:S ψ h0 h os) (e:∀φ,o.ok φ []):S ψ h0 h (o::os):=by
 obtain ⟨φ,L,s,r⟩:=st;exact ⟨φ,L,s,[],L,rfl,e φ,r⟩
theorem S.nil (E:El α) (st:S ψ h0 h os):S ψ h0 h (.it (El.ow E) [.slice Jh 0 0] []::os):=st.put λ_=>⟨_,rfl,.inl ⟨rfl,rfl,rfl⟩⟩
theorem S.erase (st:S ψ h0 h os) (i:Nat):S ψ h0 h (os.eraseIdx i):=by
 obtain ⟨φ,L,s,r⟩:=st;cases ho:os[i]? with
 | none=>
  rw [List.getElem?_eq_none_iff] at ho;rw [List.eraseIdx_of_length_le ho];exact ⟨φ,L,s,r⟩
 | some o=>
  obtain ⟨g,k,j,e,_,a,_⟩:=r.at ho;refine ⟨φ,g++j,s.sub ?_,a⟩;grind
theorem S.pull {o:Ob} (st:S ψ h0 h os) (i:Nat) (l:os[i]?=Jg o):S ψ h0 h (o::os.eraseIdx i):=by
 obtain ⟨φ,L,s,r⟩:=st;obtain ⟨j,g,k,f,a,e,_⟩:=r.at l;refine ⟨φ,g++(j++k),s.perm ?_,g,j++k,rfl,a,e⟩;grind [Js,List.Perm.append_right,JE]
theorem S.freeze {E E':El α} {cs:Jc} {x:α} (st:S ψ h0 h os) (i:Nat) (w:os[i]?=Jg (.it E cs x)) (hf:Frz E E'):S ψ h0 h (os.set i (.it E' cs x)):=by
 obtain ⟨φ,L,s,r⟩:=st;obtain ⟨u,Lo,o,e,f,_,g⟩:=r.at w;have s2:S0 ψ h0 h φ (Lo++(u++o)):=s.perm (by rw [e,<-Js];exact List.Perm.append_right _ JE);obtain ⟨l,a,j,k⟩:=s2.freeze;refine ⟨l,u++[]++o,by simpa using k,g l (.it E' cs x) [] a ?_⟩;exact hf.2 _ _ _ _ (E.mono a f) j
theorem new_S (st:S ψ h0 h os) {cs:Jc} {t:TypeId} {K:Addr->Heap->Prop} (g:∀b e,S ψ h0 e (.box b cs::os)->K ⟨b,0,Jh⟩ e):vNew h (.cells cs.toArray t) K:=by
 refine vNew.mk ?_;obtain ⟨φ,L,s,r⟩:=st;exact g _ _ ⟨φ,_,s.new cs t,[(h.size,.cs cs)],L,rfl,rfl,r⟩
theorem ZcH (st:S ψ h0 h os) (i:Nat) {a:Addr} {b j:Nat} {cs:Jc} {v:Jl} {K:Heap->Prop} (ha:a=⟨b,j,Jh⟩) (ho:os[i]?=Jg (.box b cs)) (hj:(cs[j]?).isSome=true) (h1:v.oneCell'=true)
  (w:∀l,S ψ h0 l (os.set i (.box b (cs.set j v)))->K l):vStore1 h a v K:=by
 obtain ⟨φ,L,s,r⟩:=st;obtain ⟨k,Lo,x,e,f,_,g⟩:=r.at ho;have u:Lo=[(b,.cs cs)]:=f;subst u;have o:L[Jk k]?=Jg (b,.cs cs):=by rw [e];simp
 refine ZEp s.sta (Jk k) ha o hj h1 λl t=>w l ⟨φ,_,s.of_sta' t (ZlF o),?_⟩;have:L.set (Jk k) (b,Row.cs (cs.set j v))=k++[(b,Row.cs (cs.set j v))]++x:=by rw [e];simp
 rw [this];exact g φ _ _ (CLe.refl _) rfl
theorem AllR.nils {φ:CM} {E:El α} {css:List Jc} {xs:List α} (g:Jk css=Jk xs) (h:∀(i:Nat) c x,css[i]?=Jg c->xs[i]?=Jg x->E.R φ [] c x):AllR φ E [] css xs:=by
 induction css generalizing xs with
 | nil=>
  cases xs with
  | nil=>rfl
  | cons x xs=>simp at g
 | cons c css k=>
  cases xs with
  | nil=>simp at g
  | cons x xs=>exact ⟨[],[],rfl,h 0 c x rfl rfl,k (by simpa using g) λi l j a e=>h (i+1) l j (by simpa using a) (by simpa using e)⟩
theorem ZW {E:El α} {css:List Jc} {xs:List α} (st:S ψ h0 h os) {cs:Jc} {t:TypeId} {n:Nat} (k:∀φ,AllR φ E [] css xs) (a:css.flatten=cs) (e:Jk xs=n) {K:Jl->Heap->Prop}
  (j:∀v g,S ψ h0 g (.it (El.ow E) [v] xs::os)->K v g):vNewS h (.cells cs.toArray t) n K:=by
 refine vNewS.mk ?_;obtain ⟨φ,L,s,r⟩:=st;subst e;subst a;refine j _ _ ⟨φ,_,s.new css.flatten t,[(h.size,.cs css.flatten)],L,rfl,⟨_,rfl,.inr ⟨h.size,Jk xs,[],css,[],[],rfl,JB _,by simp,by simp,k φ⟩⟩,r⟩
theorem ZNP (n:Nat) (z:Jc):repl n z=(Jn n z).flatten:=by
 induction n with
 | zero=>rfl
 | succ n e=>rw [repl,e,List.replicate_succ,JX]
theorem Zwz {E:El α} {bytes:Nat} {zero:Jc} {el:TypeId} {n c:Int} {xs:List α} (st:S ψ h0 h os) (hz:zero=E.zc) (u:gMake bytes E.zx n c=Jg xs) {K:Jl->Heap->Prop}
  (l:∀v k,S ψ h0 k (.it (El.ow E) [v] xs::os)->K v k):vMake bytes zero el n c h K:=by
 obtain ⟨g,rfl⟩:=ZI6 u;subst hz;refine ⟨g,?_⟩;obtain ⟨φ,L,s,r⟩:=st;refine l _ _ ⟨φ,_,s.new (repl c.toNat E.zc) el,[(h.size,.cs (repl c.toNat E.zc))],L,rfl,⟨_,rfl,.inr ⟨h.size,c.toNat,[],Jn n.toNat E.zc,repl (c.toNat-n.toNat) E.zc,[],?_,?_,?_,?_,?_⟩⟩,r⟩
 .simp [hnew]
 .simp;omega
 .rw [Zi6,List.length_replicate,E.len (E.hz φ)];exact JB _
 .rw [<-ZNP,List.nil_append];have:∀a b:Nat,repl (a+b) E.zc=repl a E.zc++repl b E.zc:=by
   intro a b;induction a with
   | zero=>simp [repl]
   | succ a o=>rw [Nat.add_right_comm,repl,o,repl,Js]
  rw [<-this,show n.toNat+(c.toNat-n.toNat)=c.toNat by omega]
 .refine AllR.nils (by simp) λi w x e f=>?_;rw [List.getElem?_replicate] at e f;split at e
  .rename_i j;rw [if_pos j] at f;cases e;cases f;exact E.hz φ
  .cases e
theorem ZmD {E:El α} {φ:CM} {bytes z:Nat} {zero:Jc} {el:TypeId} {rows M:Rws} {v a3:Jl} {xs:List α} {m:Nat} {news:Jc} {K:Jl->Heap->Prop}
  (s:S0 ψ h0 h φ (rows++M)) (ho:OwnL φ E rows v xs) (hz:E.z=z) (f:Jk zero=z) (i:(a3=.slice Jh 0 0/\m=0)\/∃a c,a3=.slice (Jg a) m c/\∀j u,news[j]?=Jg u->hcell h (a.add j)=Jg u)
  (ac:Jk news=m*z) (h1:∀v∈news,v.oneCell'=true) (g:(Jk xs+m)*bytes<=140737488355328) (hl:Jk xs+m<=4611686018427387904)
  (hk:∀v' a4 h',S0 ψ h0 h' φ (a4++M)->(∀Mn l ys,AllR φ E Mn l ys->l.flatten=news->Jk ys=m->OwnL φ E (a4++Mn) v' (xs++ys))->K v' h'):vAppend z bytes zero el v a3 h K:=by
 subst hz;have ai:∃sa mc,a3=.slice sa m mc/\(∀j u,news[j]?=Jg u->∃a,sa=Jg a/\hcell h (a.add j)=Jg u)/\(sa=Jh->m=0):=by
  grind
 obtain ⟨sa,mc,rfl,a6,aa⟩:=ai;rcases ho with ⟨rfl,rfl,rfl⟩|⟨b,c,pre,css,rest,Lr,rfl,k,hrest,rfl,hall⟩
 .refine ⟨[],news,by simp,ac,(λj u hu=>by simp at hu),a6,λ_=>rfl,aa,by simpa using g,by simpa using hl,(λ_ a ha=>by cases ha),λal _=>?_,λak w ae ah=>?_⟩
  .obtain rfl:m=0:=Z;refine hk _ [] h s λMn l ys e hf o=>?_;obtain rfl:ys=[]:=X9 o;have:l=[]:=X9 (by rw [e.length];rfl);subst this;have:Mn=[]:=e;subst this;exact .inl ⟨rfl,rfl,rfl⟩
  .refine hk _ [(h.size,.cs ([]++news++repl (w-(0+m)) zero))] _ (s.new _ el) λMn l ys e hf o=>.inr ⟨h.size,w,[],l,repl (w-(0+m)) zero,Mn,?_,?_,?_,?_,e⟩
   .simp [hnew,o]
   .simp [o];omega
   .rw [Zi6,f];simp [o]
   .rw [hf];simp
 .have ab:=hall.flat;refine ⟨css.flatten,news,by rw [ab],ac,λj u hu=>⟨_,rfl,?_⟩,a6,(λh=>by cases h),aa,g,hl,λal a ha=>?_,(λ_ h=>by cases h),λak w ae ah=>?_⟩
  .rw [ZY];refine s.rows b _ (List.mem_append_left _ (JA ..)) _ _ ?_;rw [Js,JR Z,XT,J2 (Zad hu)];exact hu
  .cases ha;refine ⟨h1,?_⟩;rw [ZY];have aq:m*E.z<=Jk rest:=by
    refine Nat.le_trans (Nat.mul_le_mul_right _ ?_) hrest;omega
   have sm:Sta h0 h ((b,.cs ((pre++css.flatten)++rest.take (m*E.z)++rest.drop (m*E.z)))::(Lr++M)) λx=>CLe φ (hcell x):=by
    have:=s.sta;simp_all
   refine ZiN news (rest.take (m*E.z)) (pre++css.flatten) _ 0 h _ (by rw [Jo,ab];rfl) (by rw [List.length_take];omega) h1 sm λh' t=>?_;refine hk _ ((b,.cs (pre++css.flatten++news++rest.drop (m*E.z)))::Lr) _ (s.of_sta' t rfl) λMn l ys e hf o=>.inr ⟨b,c,pre,css++l,rest.drop (m*E.z),Lr++Mn,?_,?_,?_,?_,e.app hall⟩
   .simp [o]
   .simp [o];omega
   .rw [List.length_drop,Jo,o];have:(c-(Jk xs+m))*E.z=(c-Jk xs)*E.z-m*E.z:=by rw [<-Nat.sub_sub,Nat.sub_mul]
    omega
   .rw [Yb,hf];simp
  .have s2:=s.new (css.flatten++news++repl (w-(Jk xs+m)) zero) el;refine hk _ ((h.size,.cs (css.flatten++news++repl (w-(Jk xs+m)) zero))::Lr) _ (s2.sub ?_) λMn l ys e hf o=>.inr ⟨h.size,w,[],css++l,repl (w-(Jk xs+m)) zero,Lr++Mn,?_,?_,?_,?_,e.app hall⟩
   .exact List.Sublist.cons_cons _ (Ws ..)
   .simp [hnew,o]
   .simp [o];omega
   .rw [Zi6,f,Jo,o];exact JB _
   .rw [Yb,hf];simp
def Src (ψ:CM) (h0 h:Heap) (os:List Ob) (E:El α) (u:Jl) (g:List α):Prop:=
 ∀φ L,S0 ψ h0 h φ L->Rel φ os L->∃e,AllR φ E [] e g/\((u=.slice Jh 0 0/\(Jk g)=0)\/∃a c,u=.slice (Jg a) (Jk g) c/\∀(j:Nat) w,e.flatten[j]?=Jg w->hcell h (a.add j)=Jg w)
theorem Zty {τ φ:CM} {E:El α} {u:Jl} {ys:List α} (hs:(u=.slice Jh 0 0/\ys=[])\/∃a c,u=.slice (Jg a) (Jk ys) c/\∀(i:Nat) x,ys[i]?=Jg x->∃cs,CellsC τ (a.add (i*E.z)) cs/\E.R φ [] cs x):
  ∃a2,AllR φ E [] a2 ys/\((u=.slice Jh 0 0/\(Jk ys)=0)\/∃a c,u=.slice (Jg a) (Jk ys) c/\∀(j:Nat) w,a2.flatten[j]?=Jg w->τ (a.add j)=Jg w):=by
 rcases hs with ⟨rfl,rfl⟩|⟨a,c,rfl,f⟩
 .exact ⟨[],rfl,.inl ⟨rfl,rfl⟩⟩
 .suffices hs:∀(l:List α) (k:Nat),(∀(i:Nat) x,l[i]?=Jg x->∃cs,CellsC τ (a.add ((k+i)*E.z)) cs/\E.R φ [] cs x) ->
    ∃a2,AllR φ E [] a2 l/\∀(j:Nat) w,a2.flatten[j]?=Jg w->τ (a.add (k*E.z+j))=Jg w by
   obtain ⟨a2,h1,g⟩:=hs ys 0 (by simpa using f);exact ⟨a2,h1,.inr ⟨a,c,rfl,by simpa using g⟩⟩
  intro l;induction l with
  | nil=>intro k _;exact ⟨[],rfl,λj w hw=>by simp at hw⟩
  | cons x l ih=>
   intro k hh;obtain ⟨cs,o,e⟩:=hh 0 x rfl;obtain ⟨a2,r,s⟩:=ih (k+1) λi y hy=>by
    have:=hh (i+1) y (by simpa using hy);grind
   refine ⟨cs::a2,⟨[],[],rfl,e,r⟩,λj w hw=>?_⟩;have hl:=E.len e;rw [JX] at hw;by_cases hj:j<Jk cs
   .rw [J2 hj] at hw;have:=o j w hw;rwa [Zfw,Nat.add_zero] at this
   .grind
def Plain (E:El α):Prop:=∀φ ψ L cs x,E.R φ L cs x->L=[]/\E.R ψ [] cs x
theorem Zcy (k:IntKind):Plain (El.int k):=λ_ _ _ _ _ h=>⟨h.1,rfl,h.2⟩
theorem ZHF:Plain El.bool:=λ_ _ _ _ _ h=>⟨h.1,rfl,h.2⟩
theorem ZJ2:Plain El.str:=λ_ _ _ _ _ h=>⟨h.1,rfl,h.2⟩
theorem ZdE {E:El α} {u:Jl} {k:List α} (hp:Plain E) (hs:SlC (hcell h) E u k):Src ψ h0 h os E u k:=by
 intro φ L _ _;refine Zty ?_;rcases hs with hs|⟨a,c,h1,_,e⟩
 .exact .inl hs
 .exact .inr ⟨a,c,h1,λi x f=>by obtain ⟨cs,g,j⟩:=e i x f;exact ⟨cs,g,(hp _ φ _ _ _ j).2⟩⟩
theorem Znu {E:El α} {u:Jl} {o:List α} (i:Nat) (w:os[i]?=Jg (.it (El.sl E) [u] o)):Src ψ h0 h os E u o:=by
 intro φ L s r;obtain ⟨L1,Lo,L2,l,e,_,_⟩:=r.at w;refine Zty ?_;rcases El.sl_to e with hs|⟨a,c,h1,_,f⟩
 .exact .inl hs
 .exact .inr ⟨a,c,h1,λi x g=>by obtain ⟨cs,j,k⟩:=f i x g;exact ⟨cs,j.mono s.fle,k⟩⟩
theorem ZNG {E:El α} {u:Jl} {ys:List α} (i:Nat) (ho:os[i]?=Jg (.it (El.ow E) [u] ys)) (hp:∀φ L cs x,E.R φ L cs x->L=[]):Src ψ h0 h os E u ys:=by
 intro φ L s r;obtain ⟨L1,Lo,L2,e,f,_,_⟩:=r.at ho;rcases El.ow_to f with ⟨h1,rfl,_⟩|⟨b,c,pre,css,rest,Lr,g,o,v,k,a⟩
 .exact ⟨[],rfl,.inl ⟨h1,rfl⟩⟩
 .have l:∀(M:Rws) (q:List Jc) (y:List α),AllR φ E M q y->M=[]:=by
   intro M q;induction q generalizing M with
   | nil=>
    intro y hy;cases y with
    | nil=>exact hy
    | cons _ _=>exact hy.elim
   | cons q0 q ih=>
    intro y hy;cases y with
    | nil=>exact hy.elim
    | cons y0 y=>
     obtain ⟨M1,M2,rfl,z2,z3⟩:=hy;grind
  have a3:=l _ _ _ a;subst a3;refine ⟨css,a,.inr ⟨_,c,g,λj w hw=>?_⟩⟩;rw [ZY];refine s.rows b (pre++css.flatten++rest) (by rw [e,k];simp) _ _ ?_;grind
theorem app_S {E:El α} {bytes z:Nat} {zero:Jc} {el:TypeId} {v u:Jl} {xs ys zs:List α} (st:S ψ h0 h os) (i:Nat) (ho:os[i]?=Jg (.it (El.ow E) [v] xs)) (hs:Src ψ h0 h os E u ys) (hz:E.z=z) (f:Jk zero=z) (k:gApp bytes xs ys=Jg zs)
  {K:Jl->Heap->Prop} (hk:∀v' h',S ψ h0 h' (os.set i (.it (El.ow E) [v'] zs))->K v' h'):vAppend z bytes zero el v u h K:=by
 obtain ⟨⟨g,j⟩,rfl⟩:=Ze5 k;obtain ⟨φ,L,s,r⟩:=st;obtain ⟨a6,e,a8⟩:=hs φ L s r;obtain ⟨L1,Lo,L2,l,o,_,w⟩:=r.at ho;have s2:S0 ψ h0 h φ (Lo++(L1++L2)):=s.perm (by rw [l,<-Js];exact List.Perm.append_right _ JE);refine ZmD (news:=a6.flatten) (m:=ys.length) s2 (El.ow_to o) hz f ?_ (by rw [e.flat,hz]) e.one g j λv' a2 h' x a7=>hk v' h' ?_
 .rcases a8 with h|⟨a,c,h1,y⟩
  .exact .inl h
  .exact .inr ⟨a,c,h1,y⟩
 .refine ⟨φ,L1++a2++L2,x.perm ?_,w φ (.it (El.ow E) [v'] (xs++ys)) a2 (CLe.refl _) ⟨v',rfl,?_⟩⟩
  .rw [<-Js];exact List.Perm.append_right _ JE
  .have:=a7 [] a6 ys e rfl rfl;simpa using this
theorem Zyq {E:El α} {φ:CM} {bytes z:Nat} {zero cs:Jc} {t el:TypeId} {rows w M:Rws} {v:Jl} {xs:List α} {y:α} {K:Jl->Heap->Jl->Heap->Prop}
  (s:S0 ψ h0 h φ (rows++M)) (ho:OwnL φ E rows v xs) (hy:E.R φ w cs y) (hz:E.z=z) (a:Jk zero=z) (g:gApp bytes xs [y]=Jg (xs++[y]))
  (hk:∀{u h1} o k l,S0 ψ h0 l φ (k++M)->OwnL φ E (k++w) o (xs++[y])->K u h1 o l):vNewS h (.cells cs.toArray t) 1 λu l=>vAppend z bytes zero el v u l (K u l):=by
 refine vNewS.mk ?_;obtain ⟨⟨e,f⟩,_⟩:=Ze5 g;have s1:=s.new cs t;have s2:S0 ψ h0 (h.push (.cells cs.toArray t)) φ (rows++M):=s1.sub (Ws ..);have hl:=E.len hy;show vAppend z bytes zero el v (.slice (Jg (hnew h)) 1 1) (h.push (.cells cs.toArray t)) (K _ _);refine ZmD (m:=1) (news:=cs) s2 ho hz a (.inr ⟨_,1,rfl,λj u hu=>?_⟩) Z (E.one hy) e f λo k l i x=>hk o k l i (x w [cs] [y] ⟨w,[],by simp,hy,rfl⟩ (by simp) rfl);rw [hnew,ZY,Xk];exact s1.rows _ _ (JA ..) _ _ hu
theorem ZcA {E:El α} {bytes z:Nat} {zero cs:Jc} {t el:TypeId} {v:Jl} {xs zs:List α} {y:α} (st:S ψ h0 h os) (i:Nat) (ho:os[i]?=Jg (.it (El.ow E) [v] xs)) (hy:∀φ,E.R φ [] cs y) (hz:E.z=z) (a:Jk zero=z) (e:gApp bytes xs [y]=Jg zs)
  {K:Jl->Heap->Jl->Heap->Prop} (hk:∀{u h1} w l,S ψ h0 l (os.set i (.it (El.ow E) [w] zs))->K u h1 w l):vNewS h (.cells cs.toArray t) 1 λu l=>vAppend z bytes zero el v u l (K u l):=by
 obtain ⟨_,rfl⟩:=Ze5 e;obtain ⟨φ,L,s,r⟩:=st;obtain ⟨L1,Lo,L2,f,g,_,j⟩:=r.at ho;have s2:S0 ψ h0 h φ (Lo++(L1++L2)):=s.perm (by rw [f,<-Js];exact List.Perm.append_right _ JE);refine Zyq s2 (El.ow_to g) (hy φ) hz a e λw o l k x=>hk w l ⟨φ,L1++o++L2,k.perm ?_,j φ (.it (El.ow E) [w] (xs++[y])) o (CLe.refl _) ⟨w,rfl,by simpa using x⟩⟩;rw [<-Js];exact List.Perm.append_right _ JE
theorem Zcn {E:El α} {bytes z:Nat} {zero cs:Jc} {t el:TypeId} {v:Jl} {xs zs:List α} {y:α} (st:S ψ h0 h (.it E cs y::os)) (i:Nat) (ho:os[i]?=Jg (.it (El.ow E) [v] xs)) (hz:E.z=z) (f:Jk zero=z) (g:gApp bytes xs [y]=Jg zs)
  {K:Jl->Heap->Jl->Heap->Prop} (hk:∀{u h1} v' h',S ψ h0 h' (os.set i (.it (El.ow E) [v'] zs))->K u h1 v' h'):vNewS h (.cells cs.toArray t) 1 λu h'=>vAppend z bytes zero el v u h' (K u h'):=by
 obtain ⟨_,rfl⟩:=Ze5 g;obtain ⟨φ,L,s,x,L',rfl,hy,r⟩:=st;obtain ⟨w,Lo,L2,rfl,j,_,k⟩:=r.at ho;have s2:S0 ψ h0 h φ (Lo++(w++x++L2)):=s.perm (by
  have h1:(x++(w++Lo++L2)).Perm ((w++Lo++L2)++x):=JE;refine h1.trans ?_;have a:(w++Lo).Perm (Lo++w):=JE;have e:(w++Lo++L2++x).Perm (Lo++w++L2++x):=(a.append_right L2).append_right x;refine e.trans ?_;simp only [Js];exact (JE (l₁:=L2) (l₂:=x)).append_left w |>.append_left Lo)
 refine Zyq s2 (El.ow_to j) hy hz f g λv' o h' l a6=>hk v' h' ⟨φ,w++(o++x)++L2,l.perm ?_,k φ (.it (El.ow E) [v'] (xs++[y])) (o++x) (CLe.refl _) ⟨v',rfl,a6⟩⟩;have a:(o++w).Perm (w++o):=JE;have e:=(a.append_right x).append_right L2;simpa using e
end
end Go.Vc
