import Derived.Test.YtccncimchmimdaaGreatDoorVcS
import Derived.Test.YtccncimchmimdaaGreatDoorPuBase
namespace Go.Vc
set_option linter.unusedVariables false
set_option linter.unusedSimpArgs false
open Go
section
variable {ψ:CM} {h0 h:Heap} {os:List Ob} {α:Type}
theorem S.ext (st:S ψ h0 h os):ExtH h0 h:=by obtain ⟨a,L,s,_⟩:=st;exact s.ext
theorem S.le (st:S ψ h0 h os):CLe (hcell h0) (hcell h):=CLe.ext st.ext
theorem sZ (a:CLe ψ (hcell h)):S ψ h h []:=
 ⟨ψ,[],⟨eX h,by simp,by simp [Rws.bs],by simp [Rws.bs],a,by simp [Rws.bs],CLe.refl _,fun _ _ hp _=>hp⟩,rfl⟩
theorem S.read {E c:El α} {cs:List Value} {x:α} (st:S ψ h0 h os) (i:Nat) (j:os[i]?=some (.it E cs x)) (g:Frz E c):c.R (hcell h) [] cs x:=by
 obtain ⟨k,L,s,r⟩:=st
 obtain ⟨l,e,o,a,b,_,_⟩:=r.at j
 refine g.2 _ e _ _ (E.mono s.fle b) ?_
 have:=s.rows
 rw [a] at this
 exact this.left.right
theorem S.rdL {E a:El α} {v:Value} {xs:List α} (st:S ψ h0 h os) (i:Nat) (e:os[i]?=some (.it (El.ow E) [v] xs)) (c:Frz E a):SlC (hcell h) a v xs:=
 El.sl_to (st.read i e (Zg c))
theorem S.rdF {E:El α} {v:Value} {xs:List α} (st:S ψ h0 h os) (i:Nat) (a:os[i]?=some (.it (El.sl E) [v] xs)):SlC (hcell h) E v xs:=
 El.sl_to (st.read i a (ZK E))
theorem S.cells {b:Nat} {cs:List Value} (st:S ψ h0 h os) (i:Nat) (g:os[i]?=some (.box b cs)):CellsC (hcell h) ⟨b,0,none⟩ cs:=by
 obtain ⟨o,L,s,r⟩:=st
 obtain ⟨w,l,x,a,c,_,_⟩:=r.at g
 have e:l=[(b,.cs cs)]:=c
 intro j u k
 rw [Z7,Nat.zero_add]
 exact s.rows b cs (by rw [a,e];simp) j u k
theorem S.one {E:El α} {cs:List Value} {x:α} (st:S ψ h0 h os) (i:Nat) (c:os[i]?=some (.it E cs x)):∀ v∈cs,v.oneCell'=true:=by
 obtain ⟨e,L,s,r⟩:=st
 obtain ⟨j,g,k,b,a,_,_⟩:=r.at c
 exact E.one a
theorem Zp {e:CM} {E:El α} {v:Value} {xs:List α} (g:SlC e E v xs) {K:Nat->Prop} (j:K xs.length):vLen v K:=by
 rcases g with ⟨rfl,rfl⟩|⟨a,c,rfl,_⟩<;>exact j
def AddrOf (v:Value) (i:Int) (z:Nat) (p:Addr):Prop:=∃ a n c,v=.slice (some a) n c/\p=a.add (i.toNat*z)
theorem Z6 {g:CM} {E:El α} {v:Value} {xs:List α} {i:Int} {x:α} {z:Nat} (j:SlC g E v xs) (hi:gIdx xs i=some x) {K:Addr->Prop} (l:∀ p,AddrOf v i z p->K p):vIdx v i z K:=by
 obtain ⟨b,e⟩:=ZaP hi
 have k:=Z1 e
 rcases j with ⟨rfl,rfl⟩|⟨a,c,rfl,_⟩
 ·simp at k
 ·exact ⟨⟨b,by omega⟩,l _ ⟨a,_,c,rfl,rfl⟩⟩
theorem SlC.cells {j:CM} {E:El α} {v:Value} {xs:List α} {i:Int} {x:α} {p:Addr} {z:Nat} (k:SlC j E v xs) (hp:AddrOf v i z p) (hi:gIdx xs i=some x) (hz:E.z=z):∃ cs,CellsC j p cs/\E.R j [] cs x:=by
 obtain ⟨g,b⟩:=ZaP hi
 obtain ⟨a,n,c,rfl,rfl⟩:=hp
 rcases k with ⟨e,_⟩|⟨a',c',e,_,f⟩
 ·cases e
 ·cases e
  subst hz
  exact f _ _ b
theorem ldI_C {k:IntKind} {v:Value} {xs:List Int} {i x:Int} {p:Addr} (c:SlC (hcell h) (El.int k) v xs) (hp:AddrOf v i 1 p) (hi:gIdx xs i=some x) {K:Int->Prop} (e:K x):ldI k h p K:=by
 obtain ⟨cs,a,b⟩:=c.cells hp hi rfl
 exact ⟨x,a 0 _ (by rw [b.2];rfl),e⟩
theorem ldB_C {v:Value} {xs:List Bool} {i:Int} {x:Bool} {p:Addr} (c:SlC (hcell h) El.bool v xs) (hp:AddrOf v i 1 p) (hi:gIdx xs i=some x) {K:Bool->Prop} (e:K x):ldB h p K:=by
 obtain ⟨cs,a,b⟩:=c.cells hp hi rfl
 exact ⟨x,a 0 _ (by rw [b.2];rfl),e⟩
theorem ldV_C {c:CM} {E:El α} {v:Value} {xs:List (List α)} {i:Int} {x:List α} {p:Addr} (j:SlC c (El.sl E) v xs) (e:CLe c (hcell h)) (hp:AddrOf v i 1 p) (hi:gIdx xs i=some x) {K:Value->Prop} (g:∀ u,SlC c E u x->K u):ldV h p K:=by
 obtain ⟨cs,a,_,u,rfl,b⟩:=j.cells hp hi rfl
 exact ⟨u,e _ _ (a 0 _ rfl),g u b⟩
theorem Zok {E:El α} {v:Value} {xs:List (List α)} {i:Int} {x:List α} {p:Addr} (st:S ψ h0 h os) (k:Nat) (j:os[k]?=some (.it (El.sl (El.sl E)) [v] xs)) (hp:AddrOf v i 1 p) (hi:gIdx xs i=some x) {K:Value->Prop}
  (l:∀ u,S ψ h0 h (.it (El.sl E) [u] x::os)->K u):ldV h p K:=by
 obtain ⟨g,L,s,r⟩:=st
 obtain ⟨o,y,w,e,a,_,_⟩:=r.at j
 obtain ⟨cs,b,h0,u,rfl,c⟩:=(El.sl_to a).cells hp hi rfl
 exact ⟨u,s.fle _ _ (b 0 _ rfl),l u ⟨g,L,s,[],L,rfl,El.sl_of c,r⟩⟩
theorem ZaQ {E:El α} {v:Value} {xs:List (List α)} {i:Int} {x:List α} {p:Addr} (st:S ψ h0 h os) (k:Nat) (ho:os[k]?=some (.it (El.ow (El.sl E)) [v] xs)) (hp:AddrOf v i 1 p) (hi:gIdx xs i=some x) {K:Value->Prop}
  (hk:∀ u,S ψ h0 h (.it (El.sl E) [u] x::os)->K u):ldV h p K:=by
 obtain ⟨g1,e⟩:=ZaP hi
 obtain ⟨φ,L,s,r⟩:=st
 obtain ⟨L1,Lo,L2,j,l,_,_⟩:=r.at ho
 rcases El.ow_to l with ⟨_,rfl,_⟩|⟨b,c,pre,css,rest,Lr,o,f2,f3,t,f⟩
 ·simp at e
 ·obtain ⟨d,M1,Mo,M2,pr,po,k1,g,k3,w,_⟩:=f.at e
  obtain ⟨aa,u,rfl,h2⟩:=w
  obtain ⟨a,n,c',rfl,rfl⟩:=hp
  cases o
  refine ⟨u,?_,hk u ⟨φ,L,s,[],L,rfl,El.sl_of h2,r⟩⟩
  rw [Z7]
  refine s.rows b (pre++css.flatten++rest) (by rw [j,t];simp) _ _ ?_
  have a2:∀ (q:List (List Value)) (y:List (List α)) (M:Rws),AllR φ (El.sl E) M (q++[u]::po) y->q.flatten.length=q.length:=by
   intro q
   induction q with
   | nil=>intros;simp
   | cons q0 q ih=>
    intro y M hy
    cases y with
    | nil=>exact hy.elim
    | cons y0 y=>
     obtain ⟨_,_,_,z2,z3⟩:=hy
     have:=(El.sl E).len z2
     rw [List.flatten_cons,List.length_append,this,ih y _ z3,List.length_cons];show 1+_=_;omega
  have:=a2 pr xs Lr (by rw [<-g];exact f)
  rw [g,List.append_assoc,List.getElem?_append_right ω,Nat.add_sub_cancel_left,List.flatten_append,List.append_assoc,List.getElem?_append_right ω,List.flatten_cons]
  rw [this,k3,Nat.mul_one,Nat.sub_self]
  rfl
theorem ldI_K {k:IntKind} {p a:Addr} {cs:List Value} {x:Int} (hp:CellsC (hcell h) p cs) (j:Nat) (c:a=p.add j) (b:cs[j]?=some (.int k x)) {K:Int->Prop} (e:K x):ldI k h a K:=by
 subst c;exact ⟨x,hp j _ b,e⟩
theorem ldB_K {p a:Addr} {cs:List Value} {x:Bool} (hp:CellsC (hcell h) p cs) (j:Nat) (c:a=p.add j) (b:cs[j]?=some (.bool x)) {K:Bool->Prop} (e:K x):ldB h a K:=by
 subst c;exact ⟨x,hp j _ b,e⟩
theorem ldV_K {p a:Addr} {cs:List Value} {x:Value} (hp:CellsC (hcell h) p cs) (j:Nat) (c:a=p.add j) (b:cs[j]?=some x) {K:Value->Prop} (e:K x):ldV h a K:=by
 subst c;exact ⟨x,hp j _ b,e⟩
theorem S.put {o:Ob} (st:S ψ h0 h os) (c:∀ a,o.ok a []):S ψ h0 h (o::os):=by
 obtain ⟨a,L,s,r⟩:=st
 exact ⟨a,L,s,[],L,rfl,c a,r⟩
theorem S.nil (E:El α) (st:S ψ h0 h os):S ψ h0 h (.it (El.ow E) [.slice none 0 0] []::os):=st.put fun _=>⟨_,rfl,.inl ⟨rfl,rfl,rfl⟩⟩
theorem S.erase (st:S ψ h0 h os) (i:Nat):S ψ h0 h (os.eraseIdx i):=by
 obtain ⟨c,L,s,r⟩:=st
 cases ho:os[i]? with
 | none=>
  rw [List.getElem?_eq_none_iff] at ho
  rw [List.eraseIdx_of_length_le ho];exact ⟨c,L,s,r⟩
 | some o=>
  obtain ⟨e,j,g,a,_,b,_⟩:=r.at ho
  refine ⟨c,e++g,s.sub ?_,b⟩
  rw [a]
  exact List.Sublist.append (List.sublist_append_left ..) (List.Sublist.refl _)
theorem S.pull {o:Ob} (st:S ψ h0 h os) (i:Nat) (l:os[i]?=some o):S ψ h0 h (o::os.eraseIdx i):=by
 obtain ⟨k,L,s,r⟩:=st
 obtain ⟨g,e,j,a,b,c,_⟩:=r.at l
 refine ⟨k,e++(g++j),s.perm ?_,e,g++j,rfl,b,c⟩
 rw [a,<-List.append_assoc]
 exact List.Perm.append_right _ List.perm_append_comm
theorem S.freeze {E l:El α} {cs:List Value} {x:α} (st:S ψ h0 h os) (i:Nat) (ho:os[i]?=some (.it E cs x)) (y:Frz E l):S ψ h0 h (os.set i (.it l cs x)):=by
 obtain ⟨w,L,s,r⟩:=st
 obtain ⟨o,Lo,u,b,c,_,e⟩:=r.at ho
 have f:S0 ψ h0 h w (Lo++(o++u)):=s.perm (by rw [b,<-List.append_assoc];exact List.Perm.append_right _ List.perm_append_comm)
 obtain ⟨k,a,g,j⟩:=f.freeze
 refine ⟨k,o++[]++u,by simpa using j,e k (.it l cs x) [] a ?_⟩
 exact y.2 _ _ _ _ (E.mono a c) g
theorem new_S (st:S ψ h0 h os) {cs:List Value} {t:TypeId} {K:Addr->Heap->Prop} (e:∀ b a,S ψ h0 a (.box b cs::os)->K ⟨b,0,none⟩ a):vNew h (.cells cs.toArray t) K:=by
 obtain ⟨c,L,s,r⟩:=st
 exact e _ _ ⟨c,_,s.new cs t,[(h.size,.cs cs)],L,rfl,rfl,r⟩
theorem Zb (st:S ψ h0 h os) (i:Nat) {a:Addr} {b j:Nat} {cs:List Value} {v:Value} {K:Heap->Prop} (ha:a=⟨b,j,none⟩) (x:os[i]?=some (.box b cs)) (hj:(cs[j]?).isSome=true) (e:v.oneCell'=true)
  (hk:∀ l,S ψ h0 l (os.set i (.box b (cs.set j v)))->K l):vStore1 h a v K:=by
 obtain ⟨o,L,s,r⟩:=st
 obtain ⟨k,Lo,y,c,f,_,g⟩:=r.at x
 have w:Lo=[(b,.cs cs)]:=f
 subst w
 have u:L[k.length]?=some (b,.cs cs):=by rw [c];simp
 refine Zs1 s.sta k.length ha u hj e fun l t=>hk l ⟨o,_,s.of_sta' t (ZkB u),?_⟩
 have:L.set k.length (b,Row.cs (cs.set j v))=k++[(b,Row.cs (cs.set j v))]++y:=by rw [c];simp
 rw [this]
 exact g o _ _ (CLe.refl _) rfl
theorem AllR.nils {g:CM} {E:El α} {css:List (List Value)} {xs:List α} (e:css.length=xs.length) (h:∀ (i:Nat) c x,css[i]?=some c->xs[i]?=some x->E.R g [] c x):AllR g E [] css xs:=by
 induction css generalizing xs with
 | nil=>
  cases xs with
  | nil=>rfl
  | cons x xs=>simp at e
 | cons c css j=>
  cases xs with
  | nil=>simp at e
  | cons x xs=>exact ⟨[],[],rfl,h 0 c x rfl rfl,j (by simpa using e) fun i l k a b=>h (i+1) l k (by simpa using a) (by simpa using b)⟩
theorem ZR {E:El α} {css:List (List Value)} {xs:List α} (st:S ψ h0 h os) {cs:List Value} {t:TypeId} {n:Nat} (j:∀ c,AllR c E [] css xs) (a:css.flatten=cs) (b:xs.length=n) {K:Value->Heap->Prop}
  (g:∀ v e,S ψ h0 e (.it (El.ow E) [v] xs::os)->K v e):vNewS h (.cells cs.toArray t) n K:=by
 obtain ⟨c,L,s,r⟩:=st
 subst b;subst a
 refine g _ _ ⟨c,_,s.new css.flatten t,[(h.size,.cs css.flatten)],L,rfl,⟨_,rfl,.inr ⟨h.size,xs.length,[],css,[],[],rfl,Nat.le_refl _,by simp,by simp,j c⟩⟩,r⟩
theorem ZvX (n:Nat) (z:List Value):repl n z=(List.replicate n z).flatten:=by
 induction n with
 | zero=>rfl
 | succ n a=>rw [repl,a,List.replicate_succ,List.flatten_cons]
theorem Zaj {E:El α} {bytes:Nat} {zero:List Value} {el:TypeId} {n c:Int} {xs:List α} (st:S ψ h0 h os) (hz:zero=E.zc) (w:gMake bytes E.zx n c=some xs) {K:Value->Heap->Prop}
  (u:∀ v l,S ψ h0 l (.it (El.ow E) [v] xs::os)->K v l):vMake bytes zero el n c h K:=by
 obtain ⟨g,rfl⟩:=ZzK w
 subst hz
 refine ⟨g,?_⟩
 obtain ⟨j,L,s,r⟩:=st
 refine u _ _ ⟨j,_,s.new (repl c.toNat E.zc) el,[(h.size,.cs (repl c.toNat E.zc))],L,rfl,⟨_,rfl,.inr ⟨h.size,c.toNat,[],List.replicate n.toNat E.zc,repl (c.toNat-n.toNat) E.zc,[],?_,?_,?_,?_,?_⟩⟩,r⟩
 ·simp [hnew]
 ·simp;omega
 ·rw [ZhF,List.length_replicate,E.len (E.hz j)];exact Nat.le_refl _
 ·rw [<-ZvX,List.nil_append]
  have:∀ a b:Nat,repl (a+b) E.zc=repl a E.zc++repl b E.zc:=by
   intro a b
   induction a with
   | zero=>simp [repl]
   | succ a o=>rw [Nat.add_right_comm,repl,o,repl,List.append_assoc]
  rw [<-this,show n.toNat+(c.toNat-n.toNat)=c.toNat by omega]
 ·refine AllR.nils (by simp) fun i y x e f=>?_
  rw [List.getElem?_replicate] at e f
  split at e
  ·rename_i k
   rw [if_pos k] at f
   cases e;cases f;exact E.hz j
  ·cases e
theorem Znt {E:El α} {φ:CM} {bytes z:Nat} {zero:List Value} {el:TypeId} {rows M:Rws} {v a3:Value} {xs:List α} {m:Nat} {news:List Value} {K:Value->Heap->Prop}
  (s:S0 ψ h0 h φ (rows++M)) (ho:OwnL φ E rows v xs) (hz:E.z=z) (f:zero.length=z) (k:(a3=.slice none 0 0/\m=0)\/∃ a c,a3=.slice (some a) m c/\∀ j u,news[j]?=some u->hcell h (a.add j)=some u)
  (ab:news.length=m*z) (g:∀ v∈news,v.oneCell'=true) (i:(xs.length+m)*bytes<=140737488355328) (hl:xs.length+m<=4611686018427387904)
  (hk:∀ v' a4 h',S0 ψ h0 h' φ (a4++M)->(∀ Mn r ys,AllR φ E Mn r ys->r.flatten=news->ys.length=m->OwnL φ E (a4++Mn) v' (xs++ys))->K v' h'):vAppend z bytes zero el v a3 h K:=by
 subst hz
 have am:∃ sa mc,a3=.slice sa m mc/\(∀ j u,news[j]?=some u->∃ a,sa=some a/\hcell h (a.add j)=some u)/\(sa=none->m=0):=by
  rcases k with ⟨rfl,rfl⟩|⟨a,c,rfl,l⟩
  ·exact ⟨none,0,rfl,(fun j u hu=>by have:=Z1 hu;omega),fun _=>rfl⟩
  ·exact ⟨some a,c,rfl,fun j u hu=>⟨a,rfl,l j u hu⟩,(fun h=>by cases h)⟩
 obtain ⟨sa,mc,rfl,a7,aa⟩:=am
 rcases ho with ⟨rfl,rfl,rfl⟩|⟨b,c,pre,css,rest,Lr,rfl,p,hrest,rfl,hall⟩
 ·refine ⟨[],news,by simp,ab,(fun j u hu=>by simp at hu),a7,fun _=>rfl,aa,by simpa using i,by simpa using hl,(fun _ a ha=>by cases ha),fun ak _=>?_,fun ag y ad ai=>?_⟩
  ·obtain rfl:m=0:=ω
   refine hk _ [] h s fun Mn r ys e hf w=>?_
   obtain rfl:ys=[]:=List.eq_nil_of_length_eq_zero w
   have:r=[]:=List.eq_nil_of_length_eq_zero (by rw [e.length];rfl)
   subst this
   have:Mn=[]:=e
   subst this
   exact .inl ⟨rfl,rfl,rfl⟩
  ·refine hk _ [(h.size,.cs ([]++news++repl (y-(0+m)) zero))] _ (s.new _ el) fun Mn r ys e hf w=>.inr ⟨h.size,y,[],r,repl (y-(0+m)) zero,Mn,?_,?_,?_,?_,e⟩
   ·simp [hnew,w]
   ·simp [w];omega
   ·rw [ZhF,f];simp [w]
   ·rw [hf];simp
 ·have ac:=hall.flat
  refine ⟨css.flatten,news,by rw [ac],ab,fun j u hu=>⟨_,rfl,?_⟩,a7,(fun h=>by cases h),aa,i,hl,fun ak a ha=>?_,(fun _ h=>by cases h),fun ag y ad ai=>?_⟩
  ·rw [Z7]
   refine s.rows b _ (List.mem_append_left _ (List.mem_cons_self ..)) _ _ ?_
   rw [List.append_assoc,List.getElem?_append_right ω,Nat.add_sub_cancel_left,List.getElem?_append_left (Z1 hu)]
   exact hu
  ·cases ha
   refine ⟨g,?_⟩
   rw [Z7]
   have ap:m*E.z<=rest.length:=by
    refine Nat.le_trans (Nat.mul_le_mul_right _ ?_) hrest
    omega
   have sm:Sta h0 h ((b,.cs ((pre++css.flatten)++rest.take (m*E.z)++rest.drop (m*E.z)))::(Lr++M)) fun x=>CLe φ (hcell x):=by
    have:=s.sta
    simpa using this
   refine Zhb news (rest.take (m*E.z)) (pre++css.flatten) _ 0 h _ (by rw [List.length_append,ac];rfl) (by rw [List.length_take];omega) g sm fun h' t=>?_
   refine hk _ ((b,.cs (pre++css.flatten++news++rest.drop (m*E.z)))::Lr) _ (s.of_sta' t rfl) fun Mn r ys e hf w=>.inr ⟨b,c,pre,css++r,rest.drop (m*E.z),Lr++Mn,?_,?_,?_,?_,e.app hall⟩
   ·simp [w]
   ·simp [w];omega
   ·rw [List.length_drop,List.length_append,w]
    have:(c-(xs.length+m))*E.z=(c-xs.length)*E.z-m*E.z:=by rw [<-Nat.sub_sub,Nat.sub_mul]
    omega
   ·rw [List.flatten_append,hf];simp
  ·have o:=s.new (css.flatten++news++repl (y-(xs.length+m)) zero) el
   refine hk _ ((h.size,.cs (css.flatten++news++repl (y-(xs.length+m)) zero))::Lr) _ (o.sub ?_) fun Mn r ys e hf w=>.inr ⟨h.size,y,[],css++r,repl (y-(xs.length+m)) zero,Lr++Mn,?_,?_,?_,?_,e.app hall⟩
   ·exact List.Sublist.cons_cons _ (List.sublist_cons_self ..)
   ·simp [hnew,w]
   ·simp [w];omega
   ·rw [ZhF,f,List.length_append,w];exact Nat.le_refl _
   ·rw [List.flatten_append,hf];simp
def Src (ψ:CM) (h0 h:Heap) (os:List Ob) (E:El α) (u:Value) (k:List α):Prop:=
 ∀ g L,S0 ψ h0 h g L->Rel g os L->∃ e,AllR g E [] e k/\((u=.slice none 0 0/\k.length=0)\/∃ a c,u=.slice (some a) k.length c/\∀ (j:Nat) w,e.flatten[j]?=some w->hcell h (a.add j)=some w)
theorem ZvA {τ φ:CM} {E:El α} {u:Value} {ys:List α} (hs:(u=.slice none 0 0/\ys=[])\/∃ a c,u=.slice (some a) ys.length c/\∀ (i:Nat) x,ys[i]?=some x->∃ cs,CellsC τ (a.add (i*E.z)) cs/\E.R φ [] cs x):
  ∃ a0,AllR φ E [] a0 ys/\((u=.slice none 0 0/\ys.length=0)\/∃ a c,u=.slice (some a) ys.length c/\∀ (j:Nat) w,a0.flatten[j]?=some w->τ (a.add j)=some w):=by
 rcases hs with ⟨rfl,rfl⟩|⟨a,c,rfl,e⟩
 ·exact ⟨[],rfl,.inl ⟨rfl,rfl⟩⟩
 ·suffices hs:∀ (l:List α) (k:Nat),(∀ (i:Nat) x,l[i]?=some x->∃ cs,CellsC τ (a.add ((k+i)*E.z)) cs/\E.R φ [] cs x) ->
    ∃ a0,AllR φ E [] a0 l/\∀ (j:Nat) w,a0.flatten[j]?=some w->τ (a.add (k*E.z+j))=some w by
   obtain ⟨a0,f,g⟩:=hs ys 0 (by simpa using e)
   exact ⟨a0,f,.inr ⟨a,c,rfl,by simpa using g⟩⟩
  intro l
  induction l with
  | nil=>intro k _;exact ⟨[],rfl,fun j w hw=>by simp at hw⟩
  | cons x l ih=>
   intro k hh
   obtain ⟨cs,o,b⟩:=hh 0 x rfl
   obtain ⟨a0,p,r⟩:=ih (k+1) fun i y hy=>by
    have:=hh (i+1) y (by simpa using hy)
    rwa [show k+(i+1)=k+1+i by omega] at this
   refine ⟨cs::a0,⟨[],[],rfl,b,p⟩,fun j w hw=>?_⟩
   have hl:=E.len b
   rw [List.flatten_cons] at hw
   by_cases hj:j<cs.length
   ·rw [List.getElem?_append_left hj] at hw
    have:=o j w hw
    rwa [ZfY,Nat.add_zero] at this
   ·rw [List.getElem?_append_right ω] at hw
    have:=r _ w hw
    rwa [Nat.add_mul,show k*E.z+1*E.z+(j-cs.length)=k*E.z+j by omega] at this
def Plain (E:El α):Prop:=∀ a ψ L cs x,E.R a L cs x->L=[]/\E.R ψ [] cs x
theorem Zbe (k:IntKind):Plain (El.int k):=fun _ _ _ _ _ h=>⟨h.1,rfl,h.2⟩
theorem Zcj {E:El α} {u:Value} {k:List α} (hp:Plain E) (hs:SlC (hcell h) E u k):Src ψ h0 h os E u k:=by
 intro l L _ _
 refine ZvA ?_
 rcases hs with hs|⟨a,c,b,_,e⟩
 ·exact .inl hs
 ·exact .inr ⟨a,c,b,fun i x f=>by obtain ⟨cs,g,j⟩:=e i x f;exact ⟨cs,g,(hp _ l _ _ _ j).2⟩⟩
theorem ZoC {E:El α} {u:Value} {o:List α} (i:Nat) (w:os[i]?=some (.it (El.sl E) [u] o)):Src ψ h0 h os E u o:=by
 intro y L s r
 obtain ⟨L1,Lo,L2,l,b,_,_⟩:=r.at w
 refine ZvA ?_
 rcases El.sl_to b with hs|⟨a,c,e,_,f⟩
 ·exact .inl hs
 ·exact .inr ⟨a,c,e,fun i x g=>by obtain ⟨cs,j,k⟩:=f i x g;exact ⟨cs,j.mono s.fle,k⟩⟩
theorem app_S {E:El α} {bytes z:Nat} {zero:List Value} {el:TypeId} {v u:Value} {xs ys zs:List α} (st:S ψ h0 h os) (i:Nat) (ho:os[i]?=some (.it (El.ow E) [v] xs)) (hs:Src ψ h0 h os E u ys) (hz:E.z=z) (e:zero.length=z) (j:gApp bytes xs ys=some zs)
  {K:Value->Heap->Prop} (hk:∀ v' h',S ψ h0 h' (os.set i (.it (El.ow E) [v'] zs))->K v' h'):vAppend z bytes zero el v u h K:=by
 obtain ⟨⟨f,g⟩,rfl⟩:=ZdO j
 obtain ⟨φ,L,s,r⟩:=st
 obtain ⟨a4,b,a5⟩:=hs φ L s r
 obtain ⟨L1,Lo,L2,k,l,_,o⟩:=r.at ho
 have p:S0 ψ h0 h φ (Lo++(L1++L2)):=s.perm (by rw [k,<-List.append_assoc];exact List.Perm.append_right _ List.perm_append_comm)
 refine Znt (news:=a4.flatten) (m:=ys.length) p (El.ow_to l) hz e ?_ (by rw [b.flat,hz]) b.one f g fun v' y h' t a6=>hk v' h' ?_
 ·rcases a5 with h|⟨a,c,w,x⟩
  ·exact .inl h
  ·exact .inr ⟨a,c,w,x⟩
 ·refine ⟨φ,L1++y++L2,t.perm ?_,o φ (.it (El.ow E) [v'] (xs++ys)) y (CLe.refl _) ⟨v',rfl,?_⟩⟩
  ·rw [<-List.append_assoc];exact List.Perm.append_right _ List.perm_append_comm
  ·have:=a6 [] a4 ys b rfl rfl
   simpa using this
theorem Zvw {E:El α} {l:CM} {bytes z:Nat} {zero cs:List Value} {t el:TypeId} {rows w M:Rws} {v:Value} {xs:List α} {y:α} {K:Value->Heap->Prop}
  (s:S0 ψ h0 h l (rows++M)) (ho:OwnL l E rows v xs) (x:E.R l w cs y) (hz:E.z=z) (a:zero.length=z) (f:gApp bytes xs [y]=some (xs++[y]))
  (hk:∀ r k o,S0 ψ h0 o l (k++M)->OwnL l E (k++w) r (xs++[y])->K r o):vNewS h (.cells cs.toArray t) 1 fun u o=>vAppend z bytes zero el v u o K:=by
 obtain ⟨⟨b,c⟩,_⟩:=ZdO f
 have e:=s.new cs t
 have g:S0 ψ h0 (h.push (.cells cs.toArray t)) l (rows++M):=e.sub (List.sublist_cons_self ..)
 have hl:=E.len x
 show vAppend z bytes zero el v (.slice (some (hnew h)) 1 1) (h.push (.cells cs.toArray t)) K
 refine Znt (m:=1) (news:=cs) g ho hz a (.inr ⟨_,1,rfl,fun j u hu=>?_⟩) ω (E.one x) b c fun r k o i a0=>hk r k o i (a0 w [cs] [y] ⟨w,[],by simp,x,rfl⟩ (by simp) rfl)
 rw [hnew,Z7,Nat.zero_add]
 exact e.rows _ _ (List.mem_cons_self ..) _ _ hu
theorem ZP {E:El α} {bytes z:Nat} {zero cs:List Value} {t el:TypeId} {v:Value} {xs zs:List α} {y:α} (st:S ψ h0 h os) (i:Nat) (ho:os[i]?=some (.it (El.ow E) [v] xs)) (hy:∀ o,E.R o [] cs y) (hz:E.z=z) (a:zero.length=z) (b:gApp bytes xs [y]=some zs)
  {K:Value->Heap->Prop} (hk:∀ l w,S ψ h0 w (os.set i (.it (El.ow E) [l] zs))->K l w):vNewS h (.cells cs.toArray t) 1 fun u w=>vAppend z bytes zero el v u w K:=by
 obtain ⟨_,rfl⟩:=ZdO b
 obtain ⟨o,L,s,r⟩:=st
 obtain ⟨L1,Lo,L2,c,e,_,f⟩:=r.at ho
 have g:S0 ψ h0 h o (Lo++(L1++L2)):=s.perm (by rw [c,<-List.append_assoc];exact List.Perm.append_right _ List.perm_append_comm)
 refine Zvw g (El.ow_to e) (hy o) hz a b fun l k w j x=>hk l w ⟨o,L1++k++L2,j.perm ?_,f o (.it (El.ow E) [l] (xs++[y])) k (CLe.refl _) ⟨l,rfl,by simpa using x⟩⟩
 rw [<-List.append_assoc];exact List.Perm.append_right _ List.perm_append_comm
theorem Zat {E:El α} {bytes z:Nat} {zero cs:List Value} {t el:TypeId} {v:Value} {xs zs:List α} {y:α} (st:S ψ h0 h (.it E cs y::os)) (i:Nat) (ho:os[i]?=some (.it (El.ow E) [v] xs)) (hz:E.z=z) (c:zero.length=z) (e:gApp bytes xs [y]=some zs)
  {K:Value->Heap->Prop} (hk:∀ v' h',S ψ h0 h' (os.set i (.it (El.ow E) [v'] zs))->K v' h'):vNewS h (.cells cs.toArray t) 1 fun u h'=>vAppend z bytes zero el v u h' K:=by
 obtain ⟨_,rfl⟩:=ZdO e
 obtain ⟨φ,L,s,x,L',rfl,hy,r⟩:=st
 obtain ⟨w,Lo,L2,rfl,f,_,g⟩:=r.at ho
 have j:S0 ψ h0 h φ (Lo++(w++x++L2)):=s.perm (by
  have k:(x++(w++Lo++L2)).Perm ((w++Lo++L2)++x):=List.perm_append_comm
  refine k.trans ?_
  have a:(w++Lo).Perm (Lo++w):=List.perm_append_comm
  have b:(w++Lo++L2++x).Perm (Lo++w++L2++x):=(a.append_right L2).append_right x
  refine b.trans ?_
  simp only [List.append_assoc]
  exact (List.perm_append_comm (l₁:=L2) (l₂:=x)).append_left w |>.append_left Lo)
 refine Zvw j (El.ow_to f) hy hz c e fun v' o h' l a5=>hk v' h' ⟨φ,w++(o++x)++L2,l.perm ?_,g φ (.it (El.ow E) [v'] (xs++[y])) (o++x) (CLe.refl _) ⟨v',rfl,a5⟩⟩
 have a:(o++w).Perm (w++o):=List.perm_append_comm
 have b:=(a.append_right x).append_right L2
 simpa using b
end
end Go.Vc
