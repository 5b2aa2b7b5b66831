import Derived.Test.YtghbgeaammnkcaaGreatDoorVcS
import Derived.Test.YtghbgeaammnkcaaGreatDoorPuBase
namespace Go.Vc
set_option linter.unusedVariables false
set_option linter.unusedSimpArgs false
open Go
section
variable {ψ:CM} {h0 h:Heap} {os:List Ob} {α:Type}
theorem S.ext (st:S ψ h0 h os):ExtH h0 h:=by obtain ⟨φ,L,s,_⟩:=st;exact s.ext
theorem S.le (st:S ψ h0 h os):CLe (hcell h0) (hcell h):=CLe.ext st.ext
theorem sZ (a:CLe ψ (hcell h)):S ψ h h []:=
 ⟨ψ,[],⟨eX h,by simp,by simp [Rws.bs],by simp [Rws.bs],a,by simp [Rws.bs],CLe.refl _,fun _ _ hp _=>hp⟩,rfl⟩
theorem S.read {E E':El α} {cs:List Value} {x:α} (st:S ψ h0 h os) (i:Nat) (ho:os[i]?=some (.it E cs x)) (hf:Frz E E'):E'.R (hcell h) [] cs x:=by
 obtain ⟨φ,L,s,r⟩:=st
 obtain ⟨L1,Lo,L2,a,b,_,_⟩:=r.at ho
 refine hf.2 _ Lo _ _ (E.mono s.fle b) ?_
 have:=s.rows
 rw [a] at this
 exact this.left.right
theorem S.rdL {E E':El α} {v:Value} {xs:List α} (st:S ψ h0 h os) (i:Nat) (ho:os[i]?=some (.it (El.ow E) [v] xs)) (hf:Frz E E'):SlC (hcell h) E' v xs:=
 El.sl_to (st.read i ho (Ze hf))
theorem S.rdF {E:El α} {v:Value} {xs:List α} (st:S ψ h0 h os) (i:Nat) (ho:os[i]?=some (.it (El.sl E) [v] xs)):SlC (hcell h) E v xs:=
 El.sl_to (st.read i ho (ZU E))
theorem S.cells {b:Nat} {cs:List Value} (st:S ψ h0 h os) (i:Nat) (ho:os[i]?=some (.box b cs)):CellsC (hcell h) ⟨b,0,none⟩ cs:=by
 obtain ⟨φ,L,s,r⟩:=st
 obtain ⟨L1,Lo,L2,a,c,_,_⟩:=r.at ho
 have e2':Lo=[(b,.cs cs)]:=c
 intro j u hu
 rw [Zar,Nat.zero_add]
 exact s.rows b cs (by rw [a,e2'];simp) j u hu
theorem S.one {E:El α} {cs:List Value} {x:α} (st:S ψ h0 h os) (i:Nat) (ho:os[i]?=some (.it E cs x)):∀ v∈cs,v.oneCell'=true:=by
 obtain ⟨φ,L,s,r⟩:=st
 obtain ⟨L1,Lo,L2,b,a,_,_⟩:=r.at ho
 exact E.one a
theorem Zu {φ:CM} {E:El α} {v:Value} {xs:List α} (ha:SlC φ E v xs) {K:Nat→Prop} (hk:K xs.length):vLen v K:=by
 rcases ha with ⟨rfl,rfl⟩|⟨a,c,rfl,_⟩<;>exact hk
def AddrOf (v:Value) (i:Int) (z:Nat) (p:Addr):Prop:=∃ a n c,v=.slice (some a) n c∧p=a.add (i.toNat*z)
theorem Zaq {φ:CM} {E:El α} {v:Value} {xs:List α} {i:Int} {x:α} {z:Nat} (ha:SlC φ E v xs) (hi:gIdx xs i=some x) {K:Addr→Prop} (hk:∀ p,AddrOf v i z p→K p):vIdx v i z K:=by
 obtain ⟨b,e⟩:=Zbf hi
 have hl:=ZY e
 rcases ha with ⟨rfl,rfl⟩|⟨a,c,rfl,_⟩
 ·simp at hl
 ·exact ⟨⟨b,by omega⟩,hk _ ⟨a,_,c,rfl,rfl⟩⟩
theorem SlC.cells {φ:CM} {E:El α} {v:Value} {xs:List α} {i:Int} {x:α} {p:Addr} {z:Nat} (ha:SlC φ E v xs) (hp:AddrOf v i z p) (hi:gIdx xs i=some x) (hz:E.z=z):∃ cs,CellsC φ p cs∧E.R φ [] cs x:=by
 obtain ⟨g,b⟩:=Zbf hi
 obtain ⟨a,n,c,rfl,rfl⟩:=hp
 rcases ha with ⟨e,_⟩|⟨a',c',e,_,f⟩
 ·cases e
 ·cases e
  subst hz
  exact f _ _ b
theorem ldI_C {k:IntKind} {v:Value} {xs:List Int} {i x:Int} {p:Addr} (ha:SlC (hcell h) (El.int k) v xs) (hp:AddrOf v i 1 p) (hi:gIdx xs i=some x) {K:Int→Prop} (hk:K x):ldI k h p K:=by
 obtain ⟨cs,a,b⟩:=ha.cells hp hi rfl
 exact ⟨x,a 0 _ (by rw [b.2];rfl),hk⟩
theorem ldS_C {v:Value} {xs:List ByteArray} {i:Int} {x:ByteArray} {p:Addr} (ha:SlC (hcell h) El.str v xs) (hp:AddrOf v i 1 p) (hi:gIdx xs i=some x) {K:ByteArray→Prop} (hk:K x):ldS h p K:=by
 obtain ⟨cs,a,b⟩:=ha.cells hp hi rfl
 exact ⟨x,a 0 _ (by rw [b.2];rfl),hk⟩
theorem ldV_C {β:CM} {E:El α} {v:Value} {xs:List (List α)} {i:Int} {x:List α} {p:Addr} (ha:SlC β (El.sl E) v xs) (hle:CLe β (hcell h)) (hp:AddrOf v i 1 p) (hi:gIdx xs i=some x) {K:Value→Prop} (hk:∀ u,SlC β E u x→K u):ldV h p K:=by
 obtain ⟨cs,a,_,u,rfl,b⟩:=ha.cells hp hi rfl
 exact ⟨u,hle _ _ (a 0 _ rfl),hk u b⟩
theorem Zwo {E:El α} {v:Value} {xs:List (List α)} {i:Int} {x:List α} {p:Addr} (st:S ψ h0 h os) (k:Nat) (ho:os[k]?=some (.it (El.sl (El.sl E)) [v] xs)) (hp:AddrOf v i 1 p) (hi:gIdx xs i=some x) {K:Value→Prop}
  (hk:∀ u,S ψ h0 h (.it (El.sl E) [u] x::os)→K u):ldV h p K:=by
 obtain ⟨φ,L,s,r⟩:=st
 obtain ⟨L1,Lo,L2,e,a,_,_⟩:=r.at ho
 obtain ⟨cs,b,h0,u,rfl,c⟩:=(El.sl_to a).cells hp hi rfl
 exact ⟨u,s.fle _ _ (b 0 _ rfl),hk u ⟨φ,L,s,[],L,rfl,El.sl_of c,r⟩⟩
theorem Zb6 {E:El α} {v:Value} {xs:List (List α)} {i:Int} {x:List α} {p:Addr} (st:S ψ h0 h os) (k:Nat) (ho:os[k]?=some (.it (El.ow (El.sl E)) [v] xs)) (hp:AddrOf v i 1 p) (hi:gIdx xs i=some x) {K:Value→Prop}
  (hk:∀ u,S ψ h0 h (.it (El.sl E) [u] x::os)→K u):ldV h p K:=by
 obtain ⟨g1,e⟩:=Zbf hi
 obtain ⟨φ,L,s,r⟩:=st
 obtain ⟨L1,Lo,L2,j,l,_,_⟩:=r.at ho
 rcases El.ow_to l with ⟨_,rfl,_⟩|⟨b,c,pre,css,rest,Lr,m,f2,f3,o,f⟩
 ·simp at e
 ·obtain ⟨d,M1,Mo,M2,pr,po,k1,g,k3,t,_⟩:=f.at e
  obtain ⟨hMo,u,rfl,w⟩:=t
  obtain ⟨a,n,c',rfl,rfl⟩:=hp
  cases m
  refine ⟨u,?_,hk u ⟨φ,L,s,[],L,rfl,El.sl_of w,r⟩⟩
  rw [Zar]
  refine s.rows b (pre++css.flatten++rest) (by rw [j,o];simp) _ _ ?_
  have hfl:∀ (q:List (List Value)) (y:List (List α)) (M:Rws),AllR φ (El.sl E) M (q++[u]::po) y→q.flatten.length=q.length:=by
   intro q
   induction q with
   | nil=>intros;simp
   | cons q0 q ih=>
    intro y M hy
    cases y with
    | nil=>exact hy.elim
    | cons y0 y=>
     obtain ⟨_,_,_,z2,z3⟩:=hy
     have:=(El.sl E).len z2
     rw [List.flatten_cons,List.length_append,this,ih y _ z3,List.length_cons];show 1+_=_;omega
  have:=hfl pr xs Lr (by rw [←g];exact f)
  rw [g,List.append_assoc,List.getElem?_append_right (by omega),Nat.add_sub_cancel_left,List.flatten_append,List.append_assoc,List.getElem?_append_right (by omega),List.flatten_cons]
  rw [this,k3,Nat.mul_one,Nat.sub_self]
  rfl
theorem ldI_K {k:IntKind} {p a:Addr} {cs:List Value} {x:Int} (hp:CellsC (hcell h) p cs) (j:Nat) (ha:a=p.add j) (b:cs[j]?=some (.int k x)) {K:Int→Prop} (hk:K x):ldI k h a K:=by
 subst ha;exact ⟨x,hp j _ b,hk⟩
theorem ldV_K {p a:Addr} {cs:List Value} {x:Value} (hp:CellsC (hcell h) p cs) (j:Nat) (ha:a=p.add j) (b:cs[j]?=some x) {K:Value→Prop} (hk:K x):ldV h a K:=by
 subst ha;exact ⟨x,hp j _ b,hk⟩
theorem S.put {o:Ob} (st:S ψ h0 h os) (hk:∀ φ,o.ok φ []):S ψ h0 h (o::os):=by
 obtain ⟨φ,L,s,r⟩:=st
 exact ⟨φ,L,s,[],L,rfl,hk φ,r⟩
theorem S.nil (E:El α) (st:S ψ h0 h os):S ψ h0 h (.it (El.ow E) [.slice none 0 0] []::os):=st.put fun _=>⟨_,rfl,.inl ⟨rfl,rfl,rfl⟩⟩
theorem S.erase (st:S ψ h0 h os) (i:Nat):S ψ h0 h (os.eraseIdx i):=by
 obtain ⟨φ,L,s,r⟩:=st
 cases ho:os[i]? with
 | none=>
  rw [List.getElem?_eq_none_iff] at ho
  rw [List.eraseIdx_of_length_le ho];exact ⟨φ,L,s,r⟩
 | some o=>
  obtain ⟨L1,Lo,L2,a,_,b,_⟩:=r.at ho
  refine ⟨φ,L1++L2,s.sub ?_,b⟩
  rw [a]
  exact List.Sublist.append (List.sublist_append_left ..) (List.Sublist.refl _)
theorem S.pull {o:Ob} (st:S ψ h0 h os) (i:Nat) (ho:os[i]?=some o):S ψ h0 h (o::os.eraseIdx i):=by
 obtain ⟨φ,L,s,r⟩:=st
 obtain ⟨L1,Lo,L2,a,b,c,_⟩:=r.at ho
 refine ⟨φ,Lo++(L1++L2),s.perm ?_,Lo,L1++L2,rfl,b,c⟩
 rw [a,←List.append_assoc]
 exact List.Perm.append_right _ List.perm_append_comm
theorem S.freeze {E E':El α} {cs:List Value} {x:α} (st:S ψ h0 h os) (i:Nat) (ho:os[i]?=some (.it E cs x)) (hf:Frz E E'):S ψ h0 h (os.set i (.it E' cs x)):=by
 obtain ⟨φ,L,s,r⟩:=st
 obtain ⟨L1,Lo,L2,b,c,_,e⟩:=r.at ho
 have s2:S0 ψ h0 h φ (Lo++(L1++L2)):=s.perm (by rw [b,←List.append_assoc];exact List.Perm.append_right _ List.perm_append_comm)
 obtain ⟨φ',a,f,g⟩:=s2.freeze
 refine ⟨φ',L1++[]++L2,by simpa using g,e φ' (.it E' cs x) [] a ?_⟩
 exact hf.2 _ _ _ _ (E.mono a c) f
theorem new_S (st:S ψ h0 h os) {cs:List Value} {t:TypeId} {K:Addr→Heap→Prop} (hk:∀ b h',S ψ h0 h' (.box b cs::os)→K ⟨b,0,none⟩ h'):vNew h (.cells cs.toArray t) K:=by
 obtain ⟨φ,L,s,r⟩:=st
 exact hk _ _ ⟨φ,_,s.new cs t,[(h.size,.cs cs)],L,rfl,rfl,r⟩
theorem Zb (st:S ψ h0 h os) (i:Nat) {a:Addr} {b j:Nat} {cs:List Value} {v:Value} {K:Heap→Prop} (ha:a=⟨b,j,none⟩) (ho:os[i]?=some (.box b cs)) (hj:(cs[j]?).isSome=true) (e:v.oneCell'=true)
  (hk:∀ h',S ψ h0 h' (os.set i (.box b (cs.set j v)))→K h'):vStore1 h a v K:=by
 obtain ⟨φ,L,s,r⟩:=st
 obtain ⟨L1,Lo,L2,c,f,_,g⟩:=r.at ho
 have e2':Lo=[(b,.cs cs)]:=f
 subst e2'
 have hl:L[L1.length]?=some (b,.cs cs):=by rw [c];simp
 refine Zsu s.sta L1.length ha hl hj e fun h' t=>hk h' ⟨φ,_,s.of_sta' t (ZkK hl),?_⟩
 have:L.set L1.length (b,Row.cs (cs.set j v))=L1++[(b,Row.cs (cs.set j v))]++L2:=by rw [c];simp
 rw [this]
 exact g φ _ _ (CLe.refl _) rfl
theorem AllR.nils {φ:CM} {E:El α} {css:List (List Value)} {xs:List α} (hl:css.length=xs.length) (h:∀ (i:Nat) c x,css[i]?=some c→xs[i]?=some x→E.R φ [] c x):AllR φ E [] css xs:=by
 induction css generalizing xs with
 | nil=>
  cases xs with
  | nil=>rfl
  | cons x xs=>simp at hl
 | cons c css ih=>
  cases xs with
  | nil=>simp at hl
  | cons x xs=>exact ⟨[],[],rfl,h 0 c x rfl rfl,ih (by simpa using hl) fun i c' x' a b=>h (i+1) c' x' (by simpa using a) (by simpa using b)⟩
theorem ZG {E:El α} {css:List (List Value)} {xs:List α} (st:S ψ h0 h os) {cs:List Value} {t:TypeId} {n:Nat} (hr:∀ φ,AllR φ E [] css xs) (a:css.flatten=cs) (b:xs.length=n) {K:Value→Heap→Prop}
  (hk:∀ v h',S ψ h0 h' (.it (El.ow E) [v] xs::os)→K v h'):vNewS h (.cells cs.toArray t) n K:=by
 obtain ⟨φ,L,s,r⟩:=st
 subst b;subst a
 refine hk _ _ ⟨φ,_,s.new css.flatten t,[(h.size,.cs css.flatten)],L,rfl,⟨_,rfl,.inr ⟨h.size,xs.length,[],css,[],[],rfl,Nat.le_refl _,by simp,by simp,hr φ⟩⟩,r⟩
theorem ZDZ (n:Nat) (z:List Value):repl n z=(List.replicate n z).flatten:=by
 induction n with
 | zero=>rfl
 | succ n ih=>rw [repl,ih,List.replicate_succ,List.flatten_cons]
theorem Zam {E:El α} {bytes:Nat} {zero:List Value} {el:TypeId} {n c:Int} {xs:List α} (st:S ψ h0 h os) (hz:zero=E.zc) (hm:gMake bytes E.zx n c=some xs) {K:Value→Heap→Prop}
  (hk:∀ v h',S ψ h0 h' (.it (El.ow E) [v] xs::os)→K v h'):vMake bytes zero el n c h K:=by
 obtain ⟨g,rfl⟩:=ZE9 hm
 subst hz
 refine ⟨g,?_⟩
 obtain ⟨φ,L,s,r⟩:=st
 refine hk _ _ ⟨φ,_,s.new (repl c.toNat E.zc) el,[(h.size,.cs (repl c.toNat E.zc))],L,rfl,⟨_,rfl,.inr ⟨h.size,c.toNat,[],List.replicate n.toNat E.zc,repl (c.toNat-n.toNat) E.zc,[],?_,?_,?_,?_,?_⟩⟩,r⟩
 ·simp [hnew]
 ·simp;omega
 ·rw [Zng,List.length_replicate,E.len (E.hz φ)];exact Nat.le_refl _
 ·rw [←ZDZ,List.nil_append]
  have:∀ a b:Nat,repl (a+b) E.zc=repl a E.zc++repl b E.zc:=by
   intro a b
   induction a with
   | zero=>simp [repl]
   | succ a ih=>rw [Nat.add_right_comm,repl,ih,repl,List.append_assoc]
  rw [←this,show n.toNat+(c.toNat-n.toNat)=c.toNat by omega]
 ·refine AllR.nils (by simp) fun i c' x' e f=>?_
  rw [List.getElem?_replicate] at e f
  split at e
  ·rename_i hlt
   rw [if_pos hlt] at f
   cases e;cases f;exact E.hz φ
  ·cases e
theorem Zo5 {E:El α} {φ:CM} {bytes z:Nat} {zero:List Value} {el:TypeId} {rows M:Rws} {v src:Value} {xs:List α} {m:Nat} {news:List Value} {K:Value→Heap→Prop}
  (s:S0 ψ h0 h φ (rows++M)) (ho:OwnL φ E rows v xs) (hz:E.z=z) (f:zero.length=z) (k:(src=.slice none 0 0∧m=0)∨∃ a c,src=.slice (some a) m c∧∀ j u,news[j]?=some u→hcell h (a.add j)=some u)
  (hnl:news.length=m*z) (g:∀ v∈news,v.oneCell'=true) (i:(xs.length+m)*bytes≤140737488355328) (hl:xs.length+m≤4611686018427387904)
  (hk:∀ v' rows' h',S0 ψ h0 h' φ (rows'++M)→(∀ Mn dss ys,AllR φ E Mn dss ys→dss.flatten=news→ys.length=m→OwnL φ E (rows'++Mn) v' (xs++ys))→K v' h'):vAppend z bytes zero el v src h K:=by
 subst hz
 have hxs:∃ sa mc,src=.slice sa m mc∧(∀ j u,news[j]?=some u→∃ a,sa=some a∧hcell h (a.add j)=some u)∧(sa=none→m=0):=by
  rcases k with ⟨rfl,rfl⟩|⟨a,c,rfl,l⟩
  ·exact ⟨none,0,rfl,(fun j u hu=>by have:=ZY hu;omega),fun _=>rfl⟩
  ·exact ⟨some a,c,rfl,fun j u hu=>⟨a,rfl,l j u hu⟩,(fun h=>by cases h)⟩
 obtain ⟨sa,mc,rfl,hsrc,hsn⟩:=hxs
 rcases ho with ⟨rfl,rfl,rfl⟩|⟨b,c,pre,css,rest,Lr,rfl,o,hrest,rfl,hall⟩
 ·refine ⟨[],news,by simp,hnl,(fun j u hu=>by simp at hu),hsrc,fun _=>rfl,hsn,by simpa using i,by simpa using hl,(fun _ a ha=>by cases ha),fun hle _=>?_,fun hlt cap hcap hcm=>?_⟩
  ·obtain rfl:m=0:=by omega
   refine hk _ [] h s fun Mn dss ys e hf hy=>?_
   obtain rfl:ys=[]:=List.eq_nil_of_length_eq_zero hy
   have:dss=[]:=List.eq_nil_of_length_eq_zero (by rw [e.length];rfl)
   subst this
   have:Mn=[]:=e
   subst this
   exact .inl ⟨rfl,rfl,rfl⟩
  ·refine hk _ [(h.size,.cs ([]++news++repl (cap-(0+m)) zero))] _ (s.new _ el) fun Mn dss ys e hf hy=>.inr ⟨h.size,cap,[],dss,repl (cap-(0+m)) zero,Mn,?_,?_,?_,?_,e⟩
   ·simp [hnew,hy]
   ·simp [hy];omega
   ·rw [Zng,f];simp [hy]
   ·rw [hf];simp
 ·have hfl:=hall.flat
  refine ⟨css.flatten,news,by rw [hfl],hnl,fun j u hu=>⟨_,rfl,?_⟩,hsrc,(fun h=>by cases h),hsn,i,hl,fun hle a ha=>?_,(fun _ h=>by cases h),fun hlt cap hcap hcm=>?_⟩
  ·rw [Zar]
   refine s.rows b _ (List.mem_append_left _ (List.mem_cons_self ..)) _ _ ?_
   rw [List.append_assoc,List.getElem?_append_right (by omega),Nat.add_sub_cancel_left,List.getElem?_append_left (ZY hu)]
   exact hu
  ·cases ha
   refine ⟨g,?_⟩
   rw [Zar]
   have hml:m*E.z≤rest.length:=by
    refine Nat.le_trans (Nat.mul_le_mul_right _ ?_) hrest
    omega
   have sm:Sta h0 h ((b,.cs ((pre++css.flatten)++rest.take (m*E.z)++rest.drop (m*E.z)))::(Lr++M)) fun x=>CLe φ (hcell x):=by
    have:=s.sta
    simpa using this
   refine Zk4 news (rest.take (m*E.z)) (pre++css.flatten) _ 0 h _ (by rw [List.length_append,hfl];rfl) (by rw [List.length_take];omega) g sm fun h' t=>?_
   refine hk _ ((b,.cs (pre++css.flatten++news++rest.drop (m*E.z)))::Lr) _ (s.of_sta' t rfl) fun Mn dss ys e hf hy=>.inr ⟨b,c,pre,css++dss,rest.drop (m*E.z),Lr++Mn,?_,?_,?_,?_,e.app hall⟩
   ·simp [hy]
   ·simp [hy];omega
   ·rw [List.length_drop,List.length_append,hy]
    have:(c-(xs.length+m))*E.z=(c-xs.length)*E.z-m*E.z:=by rw [←Nat.sub_sub,Nat.sub_mul]
    omega
   ·rw [List.flatten_append,hf];simp
  ·have s2:=s.new (css.flatten++news++repl (cap-(xs.length+m)) zero) el
   refine hk _ ((h.size,.cs (css.flatten++news++repl (cap-(xs.length+m)) zero))::Lr) _ (s2.sub ?_) fun Mn dss ys e hf hy=>.inr ⟨h.size,cap,[],css++dss,repl (cap-(xs.length+m)) zero,Lr++Mn,?_,?_,?_,?_,e.app hall⟩
   ·exact List.Sublist.cons_cons _ (List.sublist_cons_self ..)
   ·simp [hnew,hy]
   ·simp [hy];omega
   ·rw [Zng,f,List.length_append,hy];exact Nat.le_refl _
   ·rw [List.flatten_append,hf];simp
def Src (ψ:CM) (h0 h:Heap) (os:List Ob) (E:El α) (u:Value) (ys:List α):Prop:=
 ∀ φ L,S0 ψ h0 h φ L→Rel φ os L→∃ dss,AllR φ E [] dss ys∧((u=.slice none 0 0∧ys.length=0)∨∃ a c,u=.slice (some a) ys.length c∧∀ (j:Nat) w,dss.flatten[j]?=some w→hcell h (a.add j)=some w)
theorem ZuJ {τ φ:CM} {E:El α} {u:Value} {ys:List α} (hs:(u=.slice none 0 0∧ys=[])∨∃ a c,u=.slice (some a) ys.length c∧∀ (i:Nat) x,ys[i]?=some x→∃ cs,CellsC τ (a.add (i*E.z)) cs∧E.R φ [] cs x):
  ∃ dss,AllR φ E [] dss ys∧((u=.slice none 0 0∧ys.length=0)∨∃ a c,u=.slice (some a) ys.length c∧∀ (j:Nat) w,dss.flatten[j]?=some w→τ (a.add j)=some w):=by
 rcases hs with ⟨rfl,rfl⟩|⟨a,c,rfl,e⟩
 ·exact ⟨[],rfl,.inl ⟨rfl,rfl⟩⟩
 ·suffices hs:∀ (l:List α) (k:Nat),(∀ (i:Nat) x,l[i]?=some x→∃ cs,CellsC τ (a.add ((k+i)*E.z)) cs∧E.R φ [] cs x) →
    ∃ dss,AllR φ E [] dss l∧∀ (j:Nat) w,dss.flatten[j]?=some w→τ (a.add (k*E.z+j))=some w by
   obtain ⟨dss,f,g⟩:=hs ys 0 (by simpa using e)
   exact ⟨dss,f,.inr ⟨a,c,rfl,by simpa using g⟩⟩
  intro l
  induction l with
  | nil=>intro k _;exact ⟨[],rfl,fun j w hw=>by simp at hw⟩
  | cons x l ih=>
   intro k hh
   obtain ⟨cs,m,b⟩:=hh 0 x rfl
   obtain ⟨dss,o,p⟩:=ih (k+1) fun i y hy=>by
    have:=hh (i+1) y (by simpa using hy)
    rwa [show k+(i+1)=k+1+i by omega] at this
   refine ⟨cs::dss,⟨[],[],rfl,b,o⟩,fun j w hw=>?_⟩
   have hl:=E.len b
   rw [List.flatten_cons] at hw
   by_cases hj:j<cs.length
   ·rw [List.getElem?_append_left hj] at hw
    have:=m j w hw
    rwa [Zhp,Nat.add_zero] at this
   ·rw [List.getElem?_append_right (by omega)] at hw
    have:=p _ w hw
    rwa [Nat.add_mul,show k*E.z+1*E.z+(j-cs.length)=k*E.z+j by omega] at this
def Plain (E:El α):Prop:=∀ φ ψ L cs x,E.R φ L cs x→L=[]∧E.R ψ [] cs x
theorem Zld (k:IntKind):Plain (El.int k):=fun _ _ _ _ _ h=>⟨h.1,rfl,h.2⟩
theorem Zrd:Plain El.str:=fun _ _ _ _ _ h=>⟨h.1,rfl,h.2⟩
theorem ZgF {E:El α} {u:Value} {ys:List α} (hp:Plain E) (hs:SlC (hcell h) E u ys):Src ψ h0 h os E u ys:=by
 intro φ L _ _
 refine ZuJ ?_
 rcases hs with hs|⟨a,c,b,_,e⟩
 ·exact .inl hs
 ·exact .inr ⟨a,c,b,fun i x f=>by obtain ⟨cs,g,j⟩:=e i x f;exact ⟨cs,g,(hp _ φ _ _ _ j).2⟩⟩
theorem Ztd {E:El α} {u:Value} {ys:List α} (i:Nat) (ho:os[i]?=some (.it (El.sl E) [u] ys)):Src ψ h0 h os E u ys:=by
 intro φ L s r
 obtain ⟨L1,Lo,L2,l,b,_,_⟩:=r.at ho
 refine ZuJ ?_
 rcases El.sl_to b with hs|⟨a,c,e,_,f⟩
 ·exact .inl hs
 ·exact .inr ⟨a,c,e,fun i x g=>by obtain ⟨cs,j,k⟩:=f i x g;exact ⟨cs,j.mono s.fle,k⟩⟩
theorem app_S {E:El α} {bytes z:Nat} {zero:List Value} {el:TypeId} {v u:Value} {xs ys zs:List α} (st:S ψ h0 h os) (i:Nat) (ho:os[i]?=some (.it (El.ow E) [v] xs)) (hs:Src ψ h0 h os E u ys) (hz:E.z=z) (e:zero.length=z) (j:gApp bytes xs ys=some zs)
  {K:Value→Heap→Prop} (hk:∀ v' h',S ψ h0 h' (os.set i (.it (El.ow E) [v'] zs))→K v' h'):vAppend z bytes zero el v u h K:=by
 obtain ⟨⟨f,g⟩,rfl⟩:=Zf2 j
 obtain ⟨φ,L,s,r⟩:=st
 obtain ⟨dss,b,hsrc⟩:=hs φ L s r
 obtain ⟨L1,Lo,L2,k,l,_,o⟩:=r.at ho
 have s2:S0 ψ h0 h φ (Lo++(L1++L2)):=s.perm (by rw [k,←List.append_assoc];exact List.Perm.append_right _ List.perm_append_comm)
 refine Zo5 (news:=dss.flatten) (m:=ys.length) s2 (El.ow_to l) hz e ?_ (by rw [b.flat,hz]) b.one f g fun v' rows' h' p hown=>hk v' h' ?_
 ·rcases hsrc with h|⟨a,c,t,w⟩
  ·exact .inl h
  ·exact .inr ⟨a,c,t,w⟩
 ·refine ⟨φ,L1++rows'++L2,p.perm ?_,o φ (.it (El.ow E) [v'] (xs++ys)) rows' (CLe.refl _) ⟨v',rfl,?_⟩⟩
  ·rw [←List.append_assoc];exact List.Perm.append_right _ List.perm_append_comm
  ·have:=hown [] dss ys b rfl rfl
   simpa using this
theorem ZrI {E:El α} {φ:CM} {bytes z:Nat} {zero cs:List Value} {t el:TypeId} {rows Lo M:Rws} {v:Value} {xs:List α} {y:α} {K:Value→Heap→Prop}
  (s:S0 ψ h0 h φ (rows++M)) (ho:OwnL φ E rows v xs) (hy:E.R φ Lo cs y) (hz:E.z=z) (a:zero.length=z) (e:gApp bytes xs [y]=some (xs++[y]))
  (hk:∀ v' rows' h',S0 ψ h0 h' φ (rows'++M)→OwnL φ E (rows'++Lo) v' (xs++[y])→K v' h'):vNewS h (.cells cs.toArray t) 1 fun u h'=>vAppend z bytes zero el v u h' K:=by
 obtain ⟨⟨b,c⟩,_⟩:=Zf2 e
 have s1:=s.new cs t
 have s2:S0 ψ h0 (h.push (.cells cs.toArray t)) φ (rows++M):=s1.sub (List.sublist_cons_self ..)
 have hl:=E.len hy
 show vAppend z bytes zero el v (.slice (some (hnew h)) 1 1) (h.push (.cells cs.toArray t)) K
 refine Zo5 (m:=1) (news:=cs) s2 ho hz a (.inr ⟨_,1,rfl,fun j u hu=>?_⟩) (by omega) (E.one hy) b c fun v' rows' h' f hown=>hk v' rows' h' f (hown Lo [cs] [y] ⟨Lo,[],by simp,hy,rfl⟩ (by simp) rfl)
 rw [hnew,Zar,Nat.zero_add]
 exact s1.rows _ _ (List.mem_cons_self ..) _ _ hu
theorem Z5 {E:El α} {bytes z:Nat} {zero cs:List Value} {t el:TypeId} {v:Value} {xs zs:List α} {y:α} (st:S ψ h0 h os) (i:Nat) (ho:os[i]?=some (.it (El.ow E) [v] xs)) (hy:∀ φ,E.R φ [] cs y) (hz:E.z=z) (a:zero.length=z) (b:gApp bytes xs [y]=some zs)
  {K:Value→Heap→Prop} (hk:∀ v' h',S ψ h0 h' (os.set i (.it (El.ow E) [v'] zs))→K v' h'):vNewS h (.cells cs.toArray t) 1 fun u h'=>vAppend z bytes zero el v u h' K:=by
 obtain ⟨_,rfl⟩:=Zf2 b
 obtain ⟨φ,L,s,r⟩:=st
 obtain ⟨L1,Lo,L2,c,e,_,f⟩:=r.at ho
 have s2:S0 ψ h0 h φ (Lo++(L1++L2)):=s.perm (by rw [c,←List.append_assoc];exact List.Perm.append_right _ List.perm_append_comm)
 refine ZrI s2 (El.ow_to e) (hy φ) hz a b fun v' rows' h' g hown=>hk v' h' ⟨φ,L1++rows'++L2,g.perm ?_,f φ (.it (El.ow E) [v'] (xs++[y])) rows' (CLe.refl _) ⟨v',rfl,by simpa using hown⟩⟩
 rw [←List.append_assoc];exact List.Perm.append_right _ List.perm_append_comm
theorem ZaZ {E:El α} {bytes z:Nat} {zero cs:List Value} {t el:TypeId} {v:Value} {xs zs:List α} {y:α} (st:S ψ h0 h (.it E cs y::os)) (i:Nat) (ho:os[i]?=some (.it (El.ow E) [v] xs)) (hz:E.z=z) (c:zero.length=z) (e:gApp bytes xs [y]=some zs)
  {K:Value→Heap→Prop} (hk:∀ v' h',S ψ h0 h' (os.set i (.it (El.ow E) [v'] zs))→K v' h'):vNewS h (.cells cs.toArray t) 1 fun u h'=>vAppend z bytes zero el v u h' K:=by
 obtain ⟨_,rfl⟩:=Zf2 e
 obtain ⟨φ,L,s,Ly,L',rfl,hy,r⟩:=st
 obtain ⟨L1,Lo,L2,rfl,f,_,g⟩:=r.at ho
 have s2:S0 ψ h0 h φ (Lo++(L1++Ly++L2)):=s.perm (by
  have j:(Ly++(L1++Lo++L2)).Perm ((L1++Lo++L2)++Ly):=List.perm_append_comm
  refine j.trans ?_
  have a:(L1++Lo).Perm (Lo++L1):=List.perm_append_comm
  have b:(L1++Lo++L2++Ly).Perm (Lo++L1++L2++Ly):=(a.append_right L2).append_right Ly
  refine b.trans ?_
  simp only [List.append_assoc]
  exact (List.perm_append_comm (l₁:=L2) (l₂:=Ly)).append_left L1 |>.append_left Lo)
 refine ZrI s2 (El.ow_to f) hy hz c e fun v' rows' h' k hown=>hk v' h' ⟨φ,L1++(rows'++Ly)++L2,k.perm ?_,g φ (.it (El.ow E) [v'] (xs++[y])) (rows'++Ly) (CLe.refl _) ⟨v',rfl,hown⟩⟩
 have a:(rows'++L1).Perm (L1++rows'):=List.perm_append_comm
 have b:=(a.append_right Ly).append_right L2
 simpa using b
end
end Go.Vc
