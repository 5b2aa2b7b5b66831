import Derived.Test.YtmmbnjijjdakmaaGreatDoorVcS
import Derived.Test.YtmmbnjijjdakmaaGreatDoorPuBase
namespace Go.Vc
set_option linter.unusedVariables false
set_option linter.unusedSimpArgs false
open Go
section
variable {ψ:CM} {h0 h:Heap} {os:List Ob} {α:Type}
theorem S.ext (st:S ψ h0 h os):ExtH h0 h:=by obtain ⟨φ,L,s,_⟩:=st;exact s.ext
theorem S.le (st:S ψ h0 h os):CLe (hcell h0) (hcell h):=CLe.ext st.ext
theorem S.start (hψ:CLe ψ (hcell h)):S ψ h h []:=
 ⟨ψ,[],⟨ExtH.refl h,by simp,by simp [Rws.bs],by simp [Rws.bs],hψ,by simp [Rws.bs],CLe.refl _,fun _ _ hp _=>hp⟩,rfl⟩
theorem S.read {E E':El α} {cs:List Value} {x:α} (st:S ψ h0 h os) (i:Nat) (ho:os[i]?=some (.it E cs x)) (hf:Frz E E'):E'.R (hcell h) [] cs x:=by
 obtain ⟨φ,L,s,r⟩:=st
 obtain ⟨L1,Lo,L2,e1,e2,_,_⟩:=r.at ho
 refine hf.2 _ Lo _ _ (E.mono s.fle e2) ?_
 have:=s.rows
 rw [e1] at this
 exact this.left.right
theorem S.rdL {E E':El α} {v:Value} {xs:List α} (st:S ψ h0 h os) (i:Nat) (ho:os[i]?=some (.it (El.ow E) [v] xs)) (hf:Frz E E'):SlC (hcell h) E' v xs:=
 El.sl_to (st.read i ho (Ze hf))
theorem S.rdF {E:El α} {v:Value} {xs:List α} (st:S ψ h0 h os) (i:Nat) (ho:os[i]?=some (.it (El.sl E) [v] xs)):SlC (hcell h) E v xs:=
 El.sl_to (st.read i ho (ZM E))
theorem S.cells {b:Nat} {cs:List Value} (st:S ψ h0 h os) (i:Nat) (ho:os[i]?=some (.box b cs)):CellsC (hcell h) ⟨b,0,none⟩ cs:=by
 obtain ⟨φ,L,s,r⟩:=st
 obtain ⟨L1,Lo,L2,e1,e2,_,_⟩:=r.at ho
 have e2':Lo=[(b,.cs cs)]:=e2
 intro j u hu
 rw [Z7,Nat.zero_add]
 exact s.rows b cs (by rw [e1,e2'];simp) j u hu
theorem S.one {E:El α} {cs:List Value} {x:α} (st:S ψ h0 h os) (i:Nat) (ho:os[i]?=some (.it E cs x)):∀ v∈cs,v.oneCell'=true:=by
 obtain ⟨φ,L,s,r⟩:=st
 obtain ⟨L1,Lo,L2,e1,e2,_,_⟩:=r.at ho
 exact E.one e2
theorem Zl {φ:CM} {E:El α} {v:Value} {xs:List α} (ha:SlC φ E v xs) {K:Nat→Prop} (hk:K xs.length):vLen v K:=by
 rcases ha with ⟨rfl,rfl⟩|⟨a,c,rfl,_⟩<;>exact hk
def AddrOf (v:Value) (i:Int) (z:Nat) (p:Addr):Prop:=∃ a n c,v=.slice (some a) n c∧p=a.add (i.toNat*z)
theorem Zao {φ:CM} {E:El α} {v:Value} {xs:List α} {i:Int} {x:α} {z:Nat} (ha:SlC φ E v xs) (hi:gIdx xs i=some x) {K:Addr→Prop} (hk:∀ p,AddrOf v i z p→K p):vIdx v i z K:=by
 obtain ⟨h1,h2⟩:=ZaV hi
 have hl:=ZR h2
 rcases ha with ⟨rfl,rfl⟩|⟨a,c,rfl,_⟩
 ·simp at hl
 ·exact ⟨⟨h1,by omega⟩,hk _ ⟨a,_,c,rfl,rfl⟩⟩
theorem SlC.cells {φ:CM} {E:El α} {v:Value} {xs:List α} {i:Int} {x:α} {p:Addr} {z:Nat} (ha:SlC φ E v xs) (hp:AddrOf v i z p) (hi:gIdx xs i=some x) (hz:E.z=z):∃ cs,CellsC φ p cs∧E.R φ [] cs x:=by
 obtain ⟨h1,h2⟩:=ZaV hi
 obtain ⟨a,n,c,rfl,rfl⟩:=hp
 rcases ha with ⟨e,_⟩|⟨a',c',e,_,h3⟩
 ·cases e
 ·cases e
  subst hz
  exact h3 _ _ h2
theorem ldI_C {k:IntKind} {v:Value} {xs:List Int} {i x:Int} {p:Addr} (ha:SlC (hcell h) (El.int k) v xs) (hp:AddrOf v i 1 p) (hi:gIdx xs i=some x) {K:Int→Prop} (hk:K x):ldI k h p K:=by
 obtain ⟨cs,h1,h2⟩:=ha.cells hp hi rfl
 exact ⟨x,h1 0 _ (by rw [h2.2];rfl),hk⟩
theorem ldS_C {v:Value} {xs:List ByteArray} {i:Int} {x:ByteArray} {p:Addr} (ha:SlC (hcell h) El.str v xs) (hp:AddrOf v i 1 p) (hi:gIdx xs i=some x) {K:ByteArray→Prop} (hk:K x):ldS h p K:=by
 obtain ⟨cs,h1,h2⟩:=ha.cells hp hi rfl
 exact ⟨x,h1 0 _ (by rw [h2.2];rfl),hk⟩
theorem ldV_C {β:CM} {E:El α} {v:Value} {xs:List (List α)} {i:Int} {x:List α} {p:Addr} (ha:SlC β (El.sl E) v xs) (hle:CLe β (hcell h)) (hp:AddrOf v i 1 p) (hi:gIdx xs i=some x) {K:Value→Prop} (hk:∀ u,SlC β E u x→K u):ldV h p K:=by
 obtain ⟨cs,h1,_,u,rfl,h2⟩:=ha.cells hp hi rfl
 exact ⟨u,hle _ _ (h1 0 _ rfl),hk u h2⟩
theorem Ze9 {E:El α} {v:Value} {xs:List (List α)} {i:Int} {x:List α} {p:Addr} (st:S ψ h0 h os) (k:Nat) (ho:os[k]?=some (.it (El.ow (El.sl E)) [v] xs)) (hp:AddrOf v i 1 p) (hi:gIdx xs i=some x) {K:Value→Prop}
  (hk:∀ u,S ψ h0 h (.it (El.sl E) [u] x::os)→K u):ldV h p K:=by
 obtain ⟨g1,g2⟩:=ZaV hi
 obtain ⟨φ,L,s,r⟩:=st
 obtain ⟨L1,Lo,L2,e1,e2,_,_⟩:=r.at ho
 rcases El.ow_to e2 with ⟨_,rfl,_⟩|⟨b,c,pre,css,rest,Lr,f1,f2,f3,f4,f5⟩
 ·simp at g2
 ·obtain ⟨d,M1,Mo,M2,pr,po,k1,k2,k3,k4,_⟩:=f5.at g2
  obtain ⟨hMo,u,rfl,h2⟩:=k4
  obtain ⟨a,n,c',rfl,rfl⟩:=hp
  cases f1
  refine ⟨u,?_,hk u ⟨φ,L,s,[],L,rfl,El.sl_of h2,r⟩⟩
  rw [Z7]
  refine s.rows b (pre++css.flatten++rest) (by rw [e1,f4];simp) _ _ ?_
  have hfl:∀ (q:List (List Value)) (y:List (List α)) (M:Rws),AllR φ (El.sl E) M (q++[u]::po) y→q.flatten.length=q.length:=by
   intro q
   induction q with
   | nil=>intros;simp
   | cons q0 q ih=>
    intro y M hy
    cases y with
    | nil=>exact hy.elim
    | cons y0 y=>
     obtain ⟨_,_,_,z2,z3⟩:=hy
     have:=(El.sl E).len z2
     rw [List.flatten_cons,List.length_append,this,ih y _ z3,List.length_cons];show 1+_=_;omega
  have:=hfl pr xs Lr (by rw [←k2];exact f5)
  rw [k2,List.append_assoc,List.getElem?_append_right (by omega),Nat.add_sub_cancel_left,List.flatten_append,List.append_assoc,List.getElem?_append_right (by omega),List.flatten_cons]
  rw [this,k3,Nat.mul_one,Nat.sub_self]
  rfl
theorem ldI_K {k:IntKind} {p a:Addr} {cs:List Value} {x:Int} (hp:CellsC (hcell h) p cs) (j:Nat) (ha:a=p.add j) (hc:cs[j]?=some (.int k x)) {K:Int→Prop} (hk:K x):ldI k h a K:=by
 subst ha;exact ⟨x,hp j _ hc,hk⟩
theorem ldS_K {p a:Addr} {cs:List Value} {x:ByteArray} (hp:CellsC (hcell h) p cs) (j:Nat) (ha:a=p.add j) (hc:cs[j]?=some (.string x)) {K:ByteArray→Prop} (hk:K x):ldS h a K:=by
 subst ha;exact ⟨x,hp j _ hc,hk⟩
theorem ldV_K {p a:Addr} {cs:List Value} {x:Value} (hp:CellsC (hcell h) p cs) (j:Nat) (ha:a=p.add j) (hc:cs[j]?=some x) {K:Value→Prop} (hk:K x):ldV h a K:=by
 subst ha;exact ⟨x,hp j _ hc,hk⟩
theorem S.put {o:Ob} (st:S ψ h0 h os) (hk:∀ φ,o.ok φ []):S ψ h0 h (o::os):=by
 obtain ⟨φ,L,s,r⟩:=st
 exact ⟨φ,L,s,[],L,rfl,hk φ,r⟩
theorem S.nil (E:El α) (st:S ψ h0 h os):S ψ h0 h (.it (El.ow E) [.slice none 0 0] []::os):=st.put fun _=>⟨_,rfl,.inl ⟨rfl,rfl,rfl⟩⟩
theorem S.erase (st:S ψ h0 h os) (i:Nat):S ψ h0 h (os.eraseIdx i):=by
 obtain ⟨φ,L,s,r⟩:=st
 cases ho:os[i]? with
 | none=>
  rw [List.getElem?_eq_none_iff] at ho
  rw [List.eraseIdx_of_length_le ho];exact ⟨φ,L,s,r⟩
 | some o=>
  obtain ⟨L1,Lo,L2,e1,_,e3,_⟩:=r.at ho
  refine ⟨φ,L1++L2,s.sub ?_,e3⟩
  rw [e1]
  exact List.Sublist.append (List.sublist_append_left ..) (List.Sublist.refl _)
theorem S.pull {o:Ob} (st:S ψ h0 h os) (i:Nat) (ho:os[i]?=some o):S ψ h0 h (o::os.eraseIdx i):=by
 obtain ⟨φ,L,s,r⟩:=st
 obtain ⟨L1,Lo,L2,e1,e2,e3,_⟩:=r.at ho
 refine ⟨φ,Lo++(L1++L2),s.perm ?_,Lo,L1++L2,rfl,e2,e3⟩
 rw [e1,←List.append_assoc]
 exact List.Perm.append_right _ List.perm_append_comm
theorem S.freeze {E E':El α} {cs:List Value} {x:α} (st:S ψ h0 h os) (i:Nat) (ho:os[i]?=some (.it E cs x)) (hf:Frz E E'):S ψ h0 h (os.set i (.it E' cs x)):=by
 obtain ⟨φ,L,s,r⟩:=st
 obtain ⟨L1,Lo,L2,e1,e2,_,e4⟩:=r.at ho
 have s2:S0 ψ h0 h φ (Lo++(L1++L2)):=s.perm (by rw [e1,←List.append_assoc];exact List.Perm.append_right _ List.perm_append_comm)
 obtain ⟨φ',g1,g2,g3⟩:=s2.freeze
 refine ⟨φ',L1++[]++L2,by simpa using g3,e4 φ' (.it E' cs x) [] g1 ?_⟩
 exact hf.2 _ _ _ _ (E.mono g1 e2) g2
theorem new_S (st:S ψ h0 h os) {cs:List Value} {t:TypeId} {K:Addr→Heap→Prop} (hk:∀ b h',S ψ h0 h' (.box b cs::os)→K ⟨b,0,none⟩ h'):vNew h (.cells cs.toArray t) K:=by
 obtain ⟨φ,L,s,r⟩:=st
 exact hk _ _ ⟨φ,_,s.new cs t,[(h.size,.cs cs)],L,rfl,rfl,r⟩
theorem Zb (st:S ψ h0 h os) (i:Nat) {a:Addr} {b j:Nat} {cs:List Value} {v:Value} {K:Heap→Prop} (ha:a=⟨b,j,none⟩) (ho:os[i]?=some (.box b cs)) (hj:(cs[j]?).isSome=true) (h1:v.oneCell'=true)
  (hk:∀ h',S ψ h0 h' (os.set i (.box b (cs.set j v)))→K h'):vStore1 h a v K:=by
 obtain ⟨φ,L,s,r⟩:=st
 obtain ⟨L1,Lo,L2,e1,e2,_,e4⟩:=r.at ho
 have e2':Lo=[(b,.cs cs)]:=e2
 subst e2'
 have hl:L[L1.length]?=some (b,.cs cs):=by rw [e1];simp
 refine ZpB s.sta L1.length ha hl hj h1 fun h' t=>hk h' ⟨φ,_,s.of_sta' t (Zjr hl),?_⟩
 have:L.set L1.length (b,Row.cs (cs.set j v))=L1++[(b,Row.cs (cs.set j v))]++L2:=by rw [e1];simp
 rw [this]
 exact e4 φ _ _ (CLe.refl _) rfl
theorem AllR.nils {φ:CM} {E:El α} {css:List (List Value)} {xs:List α} (hl:css.length=xs.length) (h:∀ (i:Nat) c x,css[i]?=some c→xs[i]?=some x→E.R φ [] c x):AllR φ E [] css xs:=by
 induction css generalizing xs with
 | nil=>
  cases xs with
  | nil=>rfl
  | cons x xs=>simp at hl
 | cons c css ih=>
  cases xs with
  | nil=>simp at hl
  | cons x xs=>exact ⟨[],[],rfl,h 0 c x rfl rfl,ih (by simpa using hl) fun i c' x' hc hx=>h (i+1) c' x' (by simpa using hc) (by simpa using hx)⟩
theorem Z8 {E:El α} {css:List (List Value)} {xs:List α} (st:S ψ h0 h os) {cs:List Value} {t:TypeId} {n:Nat} (hr:∀ φ,AllR φ E [] css xs) (hc:css.flatten=cs) (hn:xs.length=n) {K:Value→Heap→Prop}
  (hk:∀ v h',S ψ h0 h' (.it (El.ow E) [v] xs::os)→K v h'):vNewS h (.cells cs.toArray t) n K:=by
 obtain ⟨φ,L,s,r⟩:=st
 subst hn;subst hc
 refine hk _ _ ⟨φ,_,s.new css.flatten t,[(h.size,.cs css.flatten)],L,rfl,⟨_,rfl,.inr ⟨h.size,xs.length,[],css,[],[],rfl,Nat.le_refl _,by simp,by simp,hr φ⟩⟩,r⟩
theorem Zun (n:Nat) (z:List Value):repl n z=(List.replicate n z).flatten:=by
 induction n with
 | zero=>rfl
 | succ n ih=>rw [repl,ih,List.replicate_succ,List.flatten_cons]
theorem Zbx {E:El α} {bytes:Nat} {zero:List Value} {el:TypeId} {n c:Int} {xs:List α} (st:S ψ h0 h os) (hz:zero=E.zc) (hm:gMake bytes E.zx n c=some xs) {K:Value→Heap→Prop}
  (hk:∀ v h',S ψ h0 h' (.it (El.ow E) [v] xs::os)→K v h'):vMake bytes zero el n c h K:=by
 obtain ⟨hb,rfl⟩:=Zto hm
 subst hz
 refine ⟨hb,?_⟩
 obtain ⟨φ,L,s,r⟩:=st
 refine hk _ _ ⟨φ,_,s.new (repl c.toNat E.zc) el,[(h.size,.cs (repl c.toNat E.zc))],L,rfl,⟨_,rfl,.inr ⟨h.size,c.toNat,[],List.replicate n.toNat E.zc,repl (c.toNat-n.toNat) E.zc,[],?_,?_,?_,?_,?_⟩⟩,r⟩
 ·simp [hnew]
 ·simp;omega
 ·rw [Zmv,List.length_replicate,E.len (E.hz φ)];exact Nat.le_refl _
 ·rw [←Zun,List.nil_append]
  have:∀ a b:Nat,repl (a+b) E.zc=repl a E.zc++repl b E.zc:=by
   intro a b
   induction a with
   | zero=>simp [repl]
   | succ a ih=>rw [Nat.add_right_comm,repl,ih,repl,List.append_assoc]
  rw [←this,show n.toNat+(c.toNat-n.toNat)=c.toNat by omega]
 ·refine AllR.nils (by simp) fun i c' x' hc hx=>?_
  rw [List.getElem?_replicate] at hc hx
  split at hc
  ·rename_i hlt
   rw [if_pos hlt] at hx
   cases hc;cases hx;exact E.hz φ
  ·cases hc
theorem ZnV {E:El α} {φ:CM} {bytes z:Nat} {zero:List Value} {el:TypeId} {rows M:Rws} {v src:Value} {xs:List α} {m:Nat} {news:List Value} {K:Value→Heap→Prop}
  (s:S0 ψ h0 h φ (rows++M)) (ho:OwnL φ E rows v xs) (hz:E.z=z) (hz0:zero.length=z) (hx:(src=.slice none 0 0∧m=0)∨∃ a c,src=.slice (some a) m c∧∀ j u,news[j]?=some u→hcell h (a.add j)=some u)
  (hnl:news.length=m*z) (h1:∀ v∈news,v.oneCell'=true) (hb:(xs.length+m)*bytes≤140737488355328) (hl:xs.length+m≤4611686018427387904)
  (hk:∀ v' rows' h',S0 ψ h0 h' φ (rows'++M)→(∀ Mn dss ys,AllR φ E Mn dss ys→dss.flatten=news→ys.length=m→OwnL φ E (rows'++Mn) v' (xs++ys))→K v' h'):vAppend z bytes zero el v src h K:=by
 subst hz
 have hxs:∃ sa mc,src=.slice sa m mc∧(∀ j u,news[j]?=some u→∃ a,sa=some a∧hcell h (a.add j)=some u)∧(sa=none→m=0):=by
  rcases hx with ⟨rfl,rfl⟩|⟨a,c,rfl,h2⟩
  ·exact ⟨none,0,rfl,(fun j u hu=>by have:=ZR hu;omega),fun _=>rfl⟩
  ·exact ⟨some a,c,rfl,fun j u hu=>⟨a,rfl,h2 j u hu⟩,(fun h=>by cases h)⟩
 obtain ⟨sa,mc,rfl,hsrc,hsn⟩:=hxs
 rcases ho with ⟨rfl,rfl,rfl⟩|⟨b,c,pre,css,rest,Lr,rfl,hc,hrest,rfl,hall⟩
 ·refine ⟨[],news,by simp,hnl,(fun j u hu=>by simp at hu),hsrc,fun _=>rfl,hsn,by simpa using hb,by simpa using hl,(fun _ a ha=>by cases ha),fun hle _=>?_,fun hlt cap hcap hcm=>?_⟩
  ·obtain rfl:m=0:=by omega
   refine hk _ [] h s fun Mn dss ys hd hf hy=>?_
   obtain rfl:ys=[]:=List.eq_nil_of_length_eq_zero hy
   have:dss=[]:=List.eq_nil_of_length_eq_zero (by rw [hd.length];rfl)
   subst this
   have:Mn=[]:=hd
   subst this
   exact .inl ⟨rfl,rfl,rfl⟩
  ·refine hk _ [(h.size,.cs ([]++news++repl (cap-(0+m)) zero))] _ (s.new _ el) fun Mn dss ys hd hf hy=>.inr ⟨h.size,cap,[],dss,repl (cap-(0+m)) zero,Mn,?_,?_,?_,?_,hd⟩
   ·simp [hnew,hy]
   ·simp [hy];omega
   ·rw [Zmv,hz0];simp [hy]
   ·rw [hf];simp
 ·have hfl:=hall.flat
  refine ⟨css.flatten,news,by rw [hfl],hnl,fun j u hu=>⟨_,rfl,?_⟩,hsrc,(fun h=>by cases h),hsn,hb,hl,fun hle a ha=>?_,(fun _ h=>by cases h),fun hlt cap hcap hcm=>?_⟩
  ·rw [Z7]
   refine s.rows b _ (List.mem_append_left _ (List.mem_cons_self ..)) _ _ ?_
   rw [List.append_assoc,List.getElem?_append_right (by omega),Nat.add_sub_cancel_left,List.getElem?_append_left (ZR hu)]
   exact hu
  ·cases ha
   refine ⟨h1,?_⟩
   rw [Z7]
   have hml:m*E.z≤rest.length:=by
    refine Nat.le_trans (Nat.mul_le_mul_right _ ?_) hrest
    omega
   have sm:Sta h0 h ((b,.cs ((pre++css.flatten)++rest.take (m*E.z)++rest.drop (m*E.z)))::(Lr++M)) fun x=>CLe φ (hcell x):=by
    have:=s.sta
    simpa using this
   refine ZjR news (rest.take (m*E.z)) (pre++css.flatten) _ 0 h _ (by rw [List.length_append,hfl];rfl) (by rw [List.length_take];omega) h1 sm fun h' t=>?_
   refine hk _ ((b,.cs (pre++css.flatten++news++rest.drop (m*E.z)))::Lr) _ (s.of_sta' t rfl) fun Mn dss ys hd hf hy=>.inr ⟨b,c,pre,css++dss,rest.drop (m*E.z),Lr++Mn,?_,?_,?_,?_,hd.app hall⟩
   ·simp [hy]
   ·simp [hy];omega
   ·rw [List.length_drop,List.length_append,hy]
    have:(c-(xs.length+m))*E.z=(c-xs.length)*E.z-m*E.z:=by rw [←Nat.sub_sub,Nat.sub_mul]
    omega
   ·rw [List.flatten_append,hf];simp
  ·have s2:=s.new (css.flatten++news++repl (cap-(xs.length+m)) zero) el
   refine hk _ ((h.size,.cs (css.flatten++news++repl (cap-(xs.length+m)) zero))::Lr) _ (s2.sub ?_) fun Mn dss ys hd hf hy=>.inr ⟨h.size,cap,[],css++dss,repl (cap-(xs.length+m)) zero,Lr++Mn,?_,?_,?_,?_,hd.app hall⟩
   ·exact List.Sublist.cons_cons _ (List.sublist_cons_self ..)
   ·simp [hnew,hy]
   ·simp [hy];omega
   ·rw [Zmv,hz0,List.length_append,hy];exact Nat.le_refl _
   ·rw [List.flatten_append,hf];simp
def Src (ψ:CM) (h0 h:Heap) (os:List Ob) (E:El α) (u:Value) (ys:List α):Prop:=
 ∀ φ L,S0 ψ h0 h φ L→Rel φ os L→∃ dss,AllR φ E [] dss ys∧((u=.slice none 0 0∧ys.length=0)∨∃ a c,u=.slice (some a) ys.length c∧∀ (j:Nat) w,dss.flatten[j]?=some w→hcell h (a.add j)=some w)
theorem Zq2 {τ φ:CM} {E:El α} {u:Value} {ys:List α} (hs:(u=.slice none 0 0∧ys=[])∨∃ a c,u=.slice (some a) ys.length c∧∀ (i:Nat) x,ys[i]?=some x→∃ cs,CellsC τ (a.add (i*E.z)) cs∧E.R φ [] cs x):
  ∃ dss,AllR φ E [] dss ys∧((u=.slice none 0 0∧ys.length=0)∨∃ a c,u=.slice (some a) ys.length c∧∀ (j:Nat) w,dss.flatten[j]?=some w→τ (a.add j)=some w):=by
 rcases hs with ⟨rfl,rfl⟩|⟨a,c,rfl,h3⟩
 ·exact ⟨[],rfl,.inl ⟨rfl,rfl⟩⟩
 ·suffices hs:∀ (l:List α) (k:Nat),(∀ (i:Nat) x,l[i]?=some x→∃ cs,CellsC τ (a.add ((k+i)*E.z)) cs∧E.R φ [] cs x) →
    ∃ dss,AllR φ E [] dss l∧∀ (j:Nat) w,dss.flatten[j]?=some w→τ (a.add (k*E.z+j))=some w by
   obtain ⟨dss,h1,h2⟩:=hs ys 0 (by simpa using h3)
   exact ⟨dss,h1,.inr ⟨a,c,rfl,by simpa using h2⟩⟩
  intro l
  induction l with
  | nil=>intro k _;exact ⟨[],rfl,fun j w hw=>by simp at hw⟩
  | cons x l ih=>
   intro k hh
   obtain ⟨cs,g1,g2⟩:=hh 0 x rfl
   obtain ⟨dss,g3,g4⟩:=ih (k+1) fun i y hy=>by
    have:=hh (i+1) y (by simpa using hy)
    rwa [show k+(i+1)=k+1+i by omega] at this
   refine ⟨cs::dss,⟨[],[],rfl,g2,g3⟩,fun j w hw=>?_⟩
   have hl:=E.len g2
   rw [List.flatten_cons] at hw
   by_cases hj:j<cs.length
   ·rw [List.getElem?_append_left hj] at hw
    have:=g1 j w hw
    rwa [Zf9,Nat.add_zero] at this
   ·rw [List.getElem?_append_right (by omega)] at hw
    have:=g4 _ w hw
    rwa [Nat.add_mul,show k*E.z+1*E.z+(j-cs.length)=k*E.z+j by omega] at this
def Plain (E:El α):Prop:=∀ φ ψ L cs x,E.R φ L cs x→L=[]∧E.R ψ [] cs x
theorem ZnL (k:IntKind):Plain (El.int k):=fun _ _ _ _ _ h=>⟨h.1,rfl,h.2⟩
theorem Zmh {E:El α} {u:Value} {ys:List α} (hp:Plain E) (hs:SlC (hcell h) E u ys):Src ψ h0 h os E u ys:=by
 intro φ L _ _
 refine Zq2 ?_
 rcases hs with hs|⟨a,c,h1,_,h3⟩
 ·exact .inl hs
 ·exact .inr ⟨a,c,h1,fun i x hx=>by obtain ⟨cs,g1,g2⟩:=h3 i x hx;exact ⟨cs,g1,(hp _ φ _ _ _ g2).2⟩⟩
theorem ZpU {E:El α} {u:Value} {ys:List α} (i:Nat) (ho:os[i]?=some (.it (El.sl E) [u] ys)):Src ψ h0 h os E u ys:=by
 intro φ L s r
 obtain ⟨L1,Lo,L2,e1,e2,_,_⟩:=r.at ho
 refine Zq2 ?_
 rcases El.sl_to e2 with hs|⟨a,c,h1,_,h3⟩
 ·exact .inl hs
 ·exact .inr ⟨a,c,h1,fun i x hx=>by obtain ⟨cs,g1,g2⟩:=h3 i x hx;exact ⟨cs,g1.mono s.fle,g2⟩⟩
theorem app_S {E:El α} {bytes z:Nat} {zero:List Value} {el:TypeId} {v u:Value} {xs ys zs:List α} (st:S ψ h0 h os) (i:Nat) (ho:os[i]?=some (.it (El.ow E) [v] xs)) (hs:Src ψ h0 h os E u ys) (hz:E.z=z) (hz0:zero.length=z) (hb:gApp bytes xs ys=some zs)
  {K:Value→Heap→Prop} (hk:∀ v' h',S ψ h0 h' (os.set i (.it (El.ow E) [v'] zs))→K v' h'):vAppend z bytes zero el v u h K:=by
 obtain ⟨⟨hb1,hb2⟩,rfl⟩:=Zd4 hb
 obtain ⟨φ,L,s,r⟩:=st
 obtain ⟨dss,hd,hsrc⟩:=hs φ L s r
 obtain ⟨L1,Lo,L2,e1,e2,_,e4⟩:=r.at ho
 have s2:S0 ψ h0 h φ (Lo++(L1++L2)):=s.perm (by rw [e1,←List.append_assoc];exact List.Perm.append_right _ List.perm_append_comm)
 refine ZnV (news:=dss.flatten) (m:=ys.length) s2 (El.ow_to e2) hz hz0 ?_ (by rw [hd.flat,hz]) hd.one hb1 hb2 fun v' rows' h' s3 hown=>hk v' h' ?_
 ·rcases hsrc with h|⟨a,c,h1,h2⟩
  ·exact .inl h
  ·exact .inr ⟨a,c,h1,h2⟩
 ·refine ⟨φ,L1++rows'++L2,s3.perm ?_,e4 φ (.it (El.ow E) [v'] (xs++ys)) rows' (CLe.refl _) ⟨v',rfl,?_⟩⟩
  ·rw [←List.append_assoc];exact List.Perm.append_right _ List.perm_append_comm
  ·have:=hown [] dss ys hd rfl rfl
   simpa using this
theorem ZrN {E:El α} {φ:CM} {bytes z:Nat} {zero cs:List Value} {t el:TypeId} {rows Lo M:Rws} {v:Value} {xs:List α} {y:α} {K:Value→Heap→Prop}
  (s:S0 ψ h0 h φ (rows++M)) (ho:OwnL φ E rows v xs) (hy:E.R φ Lo cs y) (hz:E.z=z) (hz0:zero.length=z) (hb:gApp bytes xs [y]=some (xs++[y]))
  (hk:∀ v' rows' h',S0 ψ h0 h' φ (rows'++M)→OwnL φ E (rows'++Lo) v' (xs++[y])→K v' h'):vNewS h (.cells cs.toArray t) 1 fun u h'=>vAppend z bytes zero el v u h' K:=by
 obtain ⟨⟨hb1,hb2⟩,_⟩:=Zd4 hb
 have s1:=s.new cs t
 have s2:S0 ψ h0 (h.push (.cells cs.toArray t)) φ (rows++M):=s1.sub (List.sublist_cons_self ..)
 have hl:=E.len hy
 show vAppend z bytes zero el v (.slice (some (hnew h)) 1 1) (h.push (.cells cs.toArray t)) K
 refine ZnV (m:=1) (news:=cs) s2 ho hz hz0 (.inr ⟨_,1,rfl,fun j u hu=>?_⟩) (by omega) (E.one hy) hb1 hb2 fun v' rows' h' s3 hown=>hk v' rows' h' s3 (hown Lo [cs] [y] ⟨Lo,[],by simp,hy,rfl⟩ (by simp) rfl)
 rw [hnew,Z7,Nat.zero_add]
 exact s1.rows _ _ (List.mem_cons_self ..) _ _ hu
theorem Z2 {E:El α} {bytes z:Nat} {zero cs:List Value} {t el:TypeId} {v:Value} {xs zs:List α} {y:α} (st:S ψ h0 h os) (i:Nat) (ho:os[i]?=some (.it (El.ow E) [v] xs)) (hy:∀ φ,E.R φ [] cs y) (hz:E.z=z) (hz0:zero.length=z) (hb:gApp bytes xs [y]=some zs)
  {K:Value→Heap→Prop} (hk:∀ v' h',S ψ h0 h' (os.set i (.it (El.ow E) [v'] zs))→K v' h'):vNewS h (.cells cs.toArray t) 1 fun u h'=>vAppend z bytes zero el v u h' K:=by
 obtain ⟨_,rfl⟩:=Zd4 hb
 obtain ⟨φ,L,s,r⟩:=st
 obtain ⟨L1,Lo,L2,e1,e2,_,e4⟩:=r.at ho
 have s2:S0 ψ h0 h φ (Lo++(L1++L2)):=s.perm (by rw [e1,←List.append_assoc];exact List.Perm.append_right _ List.perm_append_comm)
 refine ZrN s2 (El.ow_to e2) (hy φ) hz hz0 hb fun v' rows' h' s3 hown=>hk v' h' ⟨φ,L1++rows'++L2,s3.perm ?_,e4 φ (.it (El.ow E) [v'] (xs++[y])) rows' (CLe.refl _) ⟨v',rfl,by simpa using hown⟩⟩
 rw [←List.append_assoc];exact List.Perm.append_right _ List.perm_append_comm
theorem Zb8 {E:El α} {bytes z:Nat} {zero cs:List Value} {t el:TypeId} {v:Value} {xs zs:List α} {y:α} (st:S ψ h0 h (.it E cs y::os)) (i:Nat) (ho:os[i]?=some (.it (El.ow E) [v] xs)) (hz:E.z=z) (hz0:zero.length=z) (hb:gApp bytes xs [y]=some zs)
  {K:Value→Heap→Prop} (hk:∀ v' h',S ψ h0 h' (os.set i (.it (El.ow E) [v'] zs))→K v' h'):vNewS h (.cells cs.toArray t) 1 fun u h'=>vAppend z bytes zero el v u h' K:=by
 obtain ⟨_,rfl⟩:=Zd4 hb
 obtain ⟨φ,L,s,Ly,L',rfl,hy,r⟩:=st
 obtain ⟨L1,Lo,L2,rfl,e2,_,e4⟩:=r.at ho
 have s2:S0 ψ h0 h φ (Lo++(L1++Ly++L2)):=s.perm (by
  have h1:(Ly++(L1++Lo++L2)).Perm ((L1++Lo++L2)++Ly):=List.perm_append_comm
  refine h1.trans ?_
  have h2:(L1++Lo).Perm (Lo++L1):=List.perm_append_comm
  have h3:(L1++Lo++L2++Ly).Perm (Lo++L1++L2++Ly):=(h2.append_right L2).append_right Ly
  refine h3.trans ?_
  simp only [List.append_assoc]
  exact (List.perm_append_comm (l₁:=L2) (l₂:=Ly)).append_left L1 |>.append_left Lo)
 refine ZrN s2 (El.ow_to e2) hy hz hz0 hb fun v' rows' h' s3 hown=>hk v' h' ⟨φ,L1++(rows'++Ly)++L2,s3.perm ?_,e4 φ (.it (El.ow E) [v'] (xs++[y])) (rows'++Ly) (CLe.refl _) ⟨v',rfl,hown⟩⟩
 have h2:(rows'++L1).Perm (L1++rows'):=List.perm_append_comm
 have h3:=(h2.append_right Ly).append_right L2
 simpa using h3
end
end Go.Vc
