import Derived.Test.YtghbgeaammnkcaaGreatDoorVcSoundD
namespace Go.Vc
set_option linter.unusedVariables false
set_option linter.unusedSimpArgs false
open Go
def Agree (n:Nat) (e:Env) (a:Act):Prop:=a.tmps.size=n∧a.defers=[]∧∀ i,a.tmps.getD i undef=e i
theorem Agree.eval {n:Nat} {e:Env} {a:Act} (h:Agree n e a):a.eval=ev e:=by
 funext x
 cases x with
 | tmp t=>exact h.2.2 t
 | _=>rfl
def dOk (n:Nat) (o:Oper):Bool:=
 match o.dst with
 | some d=>Nat.blt d n
 | none=>true
theorem Agree.put {n:Nat} {e:Env} {a:Act} (h:Agree n e a) {o:Oper} (ho:dOk n o=true) (v:Value):Agree n (updO e o.dst v) (a.put o.dst v):=by
 obtain ⟨b,c,f⟩:=h
 unfold dOk at ho
 cases j:o.dst with
 | none=>exact ⟨b,c,f⟩
 | some d=>
  rw [j] at ho
  have hlt:d<n:=Nat.blt_eq.mp ho
  refine ⟨by simp [Act.put,b],by simp [Act.put,c],fun i=>?_⟩
  simp only [Act.put,updO,upd]
  by_cases hi:i=d
  ·subst hi
   have:Nat.beq i i=true:=Nat.beq_refl i
   rw [this]
   simp [Array.getD_eq_getD_getElem?,b,hlt]
  ·have:Nat.beq i d=false:=by
    cases k:Nat.beq i d with
    | false=>rfl
    | true=>exact absurd (Nat.eq_of_beq_eq_true k) hi
   rw [this]
   have g:=f i
   simp only [Array.getD_eq_getD_getElem?] at g ⊢
   rw [Array.getElem?_setIfInBounds_ne (fun e=>hi e.symm)]
   exact g
theorem ZDu {e:Env} {d:Nat} {v:Value} (h:e d=v):upd e d v=e:=by
 funext i
 unfold upd
 cases a:Nat.beq i d with
 | false=>rfl
 | true=>have:=Nat.eq_of_beq_eq_true a;subst this;exact h.symm
theorem Zr8 {n:Nat} {e:Env} {a:Act} {ops:Array Oper} {o:Oper} {A B:Env→Prop} (hag:Agree n e a) (h:vG ops.toList o e A B):
  (Region.wanted o (yielded ops a.tmps)=true∧A e)∨(Region.wanted o (yielded ops a.tmps)=false∧B e):=by
 unfold vG at h
 unfold Region.wanted
 cases hg:o.guard with
 | none=>rw [hg] at h;exact .inl ⟨rfl,h⟩
 | some p=>
  obtain ⟨j,want⟩:=p
  rw [hg] at h
  simp only at h ⊢
  split at h
  ·exact h.elim
  ·rename_i d c
   split at h
   ·rename_i b g
    have hy:yielded ops a.tmps j=some b:=by
     unfold yielded
     have k:(ops[j]?).bind (·.dst)=some d:=by
      unfold gslot at c
      have l:ops.toList[j]?=ops[j]?:=by simp
      rw [l] at c
      cases ho:ops[j]? with
      | none=>rw [ho] at c;cases c
      | some oj=>rw [ho] at c;exact c
     have f:=hag.2.2 d
     rw [g] at f
     have m:a.tmps[d]?=some (.bool b):=by
      simp only [Array.getD_eq_getD_getElem?] at f
      cases i:a.tmps[d]? with
      | none=>rw [i] at f;simp [undef] at f
      | some v=>rw [i] at f;simpa using f
     rw [k]
     simp only [Option.bind_some,m]
    rw [hy]
    have he:upd e d (.bool b)=e:=ZDu g
    cases b<;>cases want<;>simp only [cond_true,cond_false] at h<;>rw [he] at h
    ·exact .inl ⟨rfl,h⟩
    ·exact .inr ⟨rfl,h⟩
    ·exact .inr ⟨rfl,h⟩
    ·exact .inl ⟨rfl,h⟩
   ·rename_i vs g
    refine .inr ⟨?_,h⟩
    have hy:yielded ops a.tmps j=none:=by
     unfold yielded
     have k:(ops[j]?).bind (·.dst)=some d:=by
      unfold gslot at c
      have l:ops.toList[j]?=ops[j]?:=by simp
      rw [l] at c
      cases ho:ops[j]? with
      | none=>rw [ho] at c;cases c
      | some oj=>rw [ho] at c;exact c
     have f:=hag.2.2 d
     rw [g] at f
     rw [k]
     simp only [Option.bind_some]
     cases i:a.tmps[d]? with
     | none=>rfl
     | some v=>
      simp only [Array.getD_eq_getD_getElem?,i,Option.getD_some] at f
      subst f
      rfl
    rw [hy]
    rfl
   ·exact h.elim
section
variable {C:Ctx} {n:Nat}
theorem ZjR (hC:CtxOk C) {ops:Array Oper} {Q:Exit→Act→World→Prop}:∀ (l:List Oper) (N:Env→Heap→Prop) (e:Env) (a:Act) (w:World),
  vSeq C ops.toList l N e w.heap→Agree n e a→(∀ o∈l,dOk n o=true) →
  (∀ e' a' w',Agree n e' a'→RestQ C.q w w'→(∀ i,i∉wrOps l→e' i=e i)→N e' w'.heap→Q .normal a' w')→wpList C.P ops Q l a w
 | [],N,e,a,w,h,hag,_,hQ=>hQ e a w hag (RestQ.refl w) (fun _ _=>rfl) h
 | o::r,N,e,a,w,h,hag,m,hQ=>by
  have hdo:=m o (List.mem_cons_self ..)
  have hdr:=fun x p=>m x (List.mem_cons_of_mem _ p)
  have hfr:∀ (v:Value) (e':Env),(∀ i,i∉wrOps r→e' i=updO e o.dst v i)→∀ i,i∉wrOps (o::r)→e' i=e i:=by
   intro v e' he' i hi
   cases hod:o.dst with
   | none=>
    simp only [wrOps,hod] at hi
    have:=he' i hi
    rw [hod] at this
    exact this
   | some d=>
    simp only [wrOps,hod,List.mem_cons,not_or] at hi
    have:=he' i hi.2
    rw [hod] at this
    simp only [updO,upd] at this
    have j:Nat.beq i d=false:=by
     cases j:Nat.beq i d with
     | false=>rfl
     | true=>exact absurd (Nat.eq_of_beq_eq_true j) hi.1
    rw [j] at this
    exact this
  unfold wpList
  rcases Zr8 hag h with ⟨hw,h⟩|⟨hw,h⟩
  ·rw [if_pos hw]
   refine .inl ?_
   unfold vStep at h
   split at h
   ·obtain ⟨v,k,hr⟩:=ZsV hC h
    unfold Oper.wp
    rw [hag.eval,hr w]
    exact ZjR hC r N _ _ w k (hag.put hdo v) hdr fun e' a' w' b c f g=>hQ e' a' w' b c (hfr v e' f) g
   ·obtain ⟨v,k,hr⟩:=ZsP hC h
    unfold Oper.wp
    rw [hag.eval,hr w (HLe.refl _)]
    exact ZjR hC r N _ _ w k (hag.put hdo v) hdr fun e' a' w' b c f g=>hQ e' a' w' b c (hfr v e' f) g
   ·have hE:=Zud hC h a hag.eval w rfl
    refine ZrW (Oper.wp_mono ?_ hE)
    rintro s w1 ⟨v,rfl,hrest,hk⟩
    exact ZjR hC r N _ _ w1 hk (hag.put hdo v) hdr fun e' a' w' b c f g=>hQ e' a' w' b (hrest.trans c) (hfr v e' f) g
  ·rw [if_neg (by simp [hw])]
   exact ZjR hC r N _ _ w h (hag.put hdo undef) hdr fun e' a' w' b c f g=>hQ e' a' w' b c (hfr undef e' f) g
theorem ZAf {T:List (Nat×TE)} {alt:List Nat} {ops:List Oper} {i:Nat} {o:Oper} (h:ops[i]?=some o):
  (match k3 T o.op with|.pure=>kdOf (kinds T alt ops) i=.pure|.read=>kdOf (kinds T alt ops) i=.read∨kdOf (kinds T alt ops) i=.fix∨kdOf (kinds T alt ops) i=.late∨kdOf (kinds T alt ops) i=.early|.eff=>kdOf (kinds T alt ops) i=.late∨kdOf (kinds T alt ops) i=.early):=by
 have hk:kdOf (kinds T alt ops) i=kindAt (mkA ops) (k3s T alt ops) (concs (mkA ops) (k3s T alt ops)) (k3a T alt o.op i) i:=by
  unfold kdOf kinds
  simp only
  rw [List.getD_eq_getElem?_getD,List.getElem?_map,List.getElem?_zipIdx]
  have:(k3s T alt ops)[i]?=some (k3a T alt o.op i):=by unfold k3s;rw [List.getElem?_map,List.getElem?_zipIdx,h];simp
  rw [this]
  simp
 rw [hk]
 unfold kindAt k3a
 cases k3 T o.op with
 | pure=>rfl
 | read=>
  simp only
  cases hasN alt i with
  | true=>
   simp only [cond_true]
   generalize (waitsAll _ _ i&&_)=b
   cases b
   ·exact .inr (.inr (.inr rfl))
   ·exact .inr (.inr (.inl rfl))
  | false=>
   simp only [cond_false]
   generalize hasN _ i=b
   cases b
   ·exact .inr (.inl rfl)
   ·exact .inl rfl
 | eff=>
  simp only
  generalize (waitsAll _ _ i&&_)=b
  cases b
  ·exact .inr rfl
  ·exact .inl rfl
theorem Ztc {o:Oper} {d:Nat} (a:o.dst=some d):∀ {l:List Oper},o∈l→d∈wrOps l
 | p::l,h=>by
  cases h with
  | head=>simp [wrOps,a]
  | tail _ h=>
   have:=Ztc a h
   unfold wrOps
   split<;>simp [this]
theorem Zhl (hC:CtxOk C) {alt:List Nat} {ops:Array Oper} {B:Nat→Prop} {c:Heap} {w0:World} {Q:Act→World→Prop} (p:∀ o∈ops,dOk n o=true):
  ∀ (l:List Nat) (N:Env→Heap→Prop) (e:Env) (a:Act) (w:World),
  vLexI C ops.toList (kinds C.tab alt ops.toList) B c l N e w.heap→Agree n e a→RestQ C.q w0 w →
  (∀ e' a' w',Agree n e' a'→RestQ C.q w0 w'→(∀ i,i∉wrOps ops.toList→e' i=e i)→N e' w'.heap→Q a' w') →
  lexP C.P ops (kdOf (kinds C.tab alt ops.toList)) (fun w'=>ExtBut B c w'.heap∧RestQ C.q w0 w') l Q a w
 | [],N,e,a,w,h,hag,hrest,hQ=>hQ e a w hag hrest (fun _ _=>rfl) h
 | k::l,N,e,a,w,h,hag,hrest,hQ=>by
  unfold vLexI at h
  split at h
  ·rename_i ho
   have ho':ops[k]?=none:=by simpa using ho
   unfold lexP
   rw [ho']
   exact Zhl hC p l N e a w h hag hrest hQ
  ·rename_i o ho
   have ho':ops[k]?=some o:=by simpa using ho
   have hkind:=ZAf (T:=C.tab) (alt:=alt) ho
   have hom:o∈ops.toList:=List.mem_of_getElem? ho
   have hdo:=p o (by simpa using hom)
   have hfr:∀ (v:Value) (e':Env),(∀ i,i∉wrOps ops.toList→e' i=updO e o.dst v i)→∀ i,i∉wrOps ops.toList→e' i=e i:=by
    intro v e' he' i hi
    rw [he' i hi]
    cases hod:o.dst with
    | none=>rfl
    | some d=>
     have hne:i≠d:=fun x=>by subst x;exact hi (Ztc hod hom)
     simp only [updO,upd,ZbV hne,cond_false]
   have next:∀ (v:Value) (w1:World),RestQ C.q w0 w1→vLexI C ops.toList (kinds C.tab alt ops.toList) B c l N (updO e o.dst v) w1.heap →
     lexP C.P ops (kdOf (kinds C.tab alt ops.toList)) (fun w'=>ExtBut B c w'.heap∧RestQ C.q w0 w') l Q (a.put o.dst v) w1:=fun v w1 f m=>
    Zhl hC p l N _ _ w1 m (hag.put hdo v) f fun e' a' w' r s t u=>hQ e' a' w' r s (hfr v e' t) u
   rcases Zr8 hag h with ⟨hw,h⟩|⟨hw,h⟩
   ·unfold vStep at h
    split at h
    ·rename_i j
     rw [j] at hkind
     simp only at hkind
     obtain ⟨v,b,hr⟩:=ZsV hC h
     rw [ZeH ho' hw (by rw [hkind];rfl)]
     exact ⟨v,fun w' _=>by rw [hag.eval];exact hr w',next v w hrest b⟩
    ·rename_i j
     rw [j] at hkind
     simp only at hkind
     obtain ⟨v,b,hr⟩:=ZsP hC h
     have go:∀ {kk:Kind},kdOf (kinds C.tab alt ops.toList) k=kk→kk.eff=true→rdH kk (hmask B c) w.heap=w.heap→(kEarly kk=true→ExtBut B c w.heap∧vLexI C ops.toList (kinds C.tab alt ops.toList) B c l N (updO e o.dst v) w.heap)→(kEarly kk=false→vLexI C ops.toList (kinds C.tab alt ops.toList) B c l N (updO e o.dst v) w.heap) →
       lexP C.P ops (kdOf (kinds C.tab alt ops.toList)) (fun w'=>ExtBut B c w'.heap∧RestQ C.q w0 w') (k::l) Q a w:=by
      intro kk hk he hh m y
      rw [Zda ho' hw (by rw [hk];exact he)]
      rw [hk,hh] at hr
      unfold Oper.wp
      rw [hag.eval,hr w (HLe.refl _)]
      rw [hk]
      cases kk<;>first|cases he|skip
      ·exact ⟨⟨(m rfl).1,hrest⟩,next v w hrest (m rfl).2⟩
      ·exact ⟨trivial,next v w hrest (y rfl)⟩
     rcases hkind with hk|hk|hk|hk
     ·rw [ZeH ho' hw (by rw [hk];rfl)]
      rw [hk] at b
      refine ⟨v,fun w' hcl=>?_,next v w hrest b⟩
      rw [hag.eval]
      rw [hk] at hcl hr
      exact hr w' (HLe.mask hcl.1)
     ·rw [ZeH ho' hw (by rw [hk];rfl)]
      rw [hk] at b
      refine ⟨v,fun w' hcl=>?_,next v w hrest b⟩
      rw [hag.eval]
      rw [hk] at hcl hr
      have hcl:w'=w:=hcl
      subst hcl
      exact hr w' (HLe.refl _)
     ·rw [hk] at b
      exact go hk rfl rfl (fun e=>by cases e) (fun _=>b)
     ·rw [hk] at b
      exact go hk rfl rfl (fun _=>b) (fun e=>by cases e)
    ·rename_i j
     rw [j] at hkind
     simp only at hkind
     have hE:=Zud hC h a hag.eval w rfl
     rw [Zda ho' hw (by rcases hkind with hk|hk<;>rw [hk]<;>rfl)]
     refine Oper.wp_mono ?_ hE
     rintro a1 w1 ⟨v,rfl,f,g⟩
     rcases hkind with hk|hk
     ·rw [hk] at g ⊢
      exact ⟨trivial,next v w1 (hrest.trans f) g⟩
     ·rw [hk] at g ⊢
      exact ⟨⟨g.1,hrest.trans f⟩,next v w1 (hrest.trans f) g.2⟩
   ·rw [ZcP ho' hw]
    exact next undef w hrest h
theorem ZrU {f:Nat→Prop}:∀ {l:List Nat},allE l f→∀ j∈l,f j
 | [j],h,i,hi=>by simp at hi;subst hi;exact h
 | j::k::l,h,i,hi=>by
  cases hi with
  | head=>exact h.1
  | tail _ hi=>exact ZrU h.2 i hi
theorem ZFW (hC:CtxOk C) {alt:List Nat} {ops:Array Oper} {B:Nat→Prop} {c:Heap} {w0:World} {Q:Act→World→Prop} (b:∀ o∈ops,dOk n o=true) {A:List (List Nat)}:
  ∀ (m:Nat) (rem:List Nat) (N:Env→Heap→Prop) (e:Env) (a:Act) (w:World),
  vOrd C ops.toList A (kinds C.tab alt ops.toList) B c m rem N e w.heap→Agree n e a→RestQ C.q w0 w →
  (∀ e' a' w',Agree n e' a'→RestQ C.q w0 w'→(∀ i,i∉wrOps ops.toList→e' i=e i)→N e' w'.heap→Q a' w') →
  lexO C.P ops (kdOf (kinds C.tab alt ops.toList)) (fun w'=>ExtBut B c w'.heap∧RestQ C.q w0 w') A m rem Q a w:=by
 intro m
 induction m with
 | zero=>
  intro rem N e a w h hag hrest hQ
  unfold vOrd at h
  split at h
  ·rename_i hm;exact ⟨hm,Zhl hC b rem N e a w h hag hrest hQ⟩
  ·exact h.elim
 | succ m ih=>
  intro rem N e a w h hag hrest hQ
  unfold vOrd at h
  split at h
  ·rename_i hm
   refine ⟨fun _=>Zhl hC b rem N e a w h hag hrest hQ,fun j hj=>?_⟩
   rw [hm] at hj;cases hj
  ·rename_i hm
   refine ⟨fun f=>absurd f hm,fun j hj=>?_⟩
   refine Zhl hC b _ _ e a w (ZrU h j hj) hag hrest ?_
   intro e' a' w' g k l p
   exact ih _ N e' a' w' p g k fun r s w2 k1 t k3 u=>hQ r s w2 k1 t (fun i hi=>by rw [k3 i hi,l i hi]) u
theorem Zwl (hC:CtxOk C) {id:Nat} {alt:List Nat} {ops:Array Oper} {draw:Bool} {Q:Exit→Act→World→Prop} {N:Env→Heap→Prop} {e:Env} {a:Act} {w:World}
  (h:vRegion C alt ops draw N e w.heap) (hag:Agree n e a) (b:∀ o∈ops,dOk n o=true)
  (hQ:∀ e' a' w',Agree n e' a'→RestQ C.q w w'→(∀ i,i∉wrOps ops.toList→e' i=e i)→N e' w'.heap→Q .normal a' w'):(Code.region id ops draw).wp C.P Q a w:=by
 unfold vRegion at h
 cases draw
 ·simp only [cond_false] at h
  exact wp_region_list (ZjR hC _ N e a w h hag (fun o ho=>b o (by simpa using ho)) hQ)
 ·simp only [cond_true] at h
  have hok:=(Zaj h).1
  replace h:=(Zaj h).2
  have h:∃ B:Nat→Prop,vOrd C ops.toList (mkA ops.toList) (kinds C.tab alt ops.toList) B w.heap ops.toList.length (List.range ops.toList.length) N e w.heap:=by
   cases hr:hasRE (kinds C.tab alt ops.toList) with
   | true=>rw [hr] at h;exact h
   | false=>rw [hr] at h;exact ⟨_,h⟩
  obtain ⟨B,h⟩:=h
  refine ZwQ (Cl:=fun w'=>ExtBut B w.heap w'.heap∧RestQ C.q w w') hC.mixed hok ⟨eY _ _,rfl,rfl,rfl,fun _=>Nat.le_succ _⟩ ?_
  refine ZFW hC (w0:=w) b _ _ N e a { w with drawn:=w.drawn+1 } (by simpa using h) hag ⟨rfl,rfl,rfl,fun _=>Nat.le_succ _⟩ ?_
  intro e' a' w' c f g j
  exact hQ e' a' w' c f g j
def cOk (n:Nat):Code→Bool
 | .region _ ops _=>ops.toList.all (dOk n)
 | .seq a b=>cOk n a&&cOk n b
 | .cond _ x y=>cOk n x&&cOk n y
 | .block _ c=>cOk n c
 | .loop c=>cOk n c
 | _=>true
def QQ (q:Prop) (n:Nat) (w0:World) (b:Env) (W:List Nat) (N:Env→Heap→Prop) (X:Nat→Env→Heap→Prop) (R:Env→Heap→Prop):Exit→Act→World→Prop
 | .normal,a,w=>∃ e,Agree n e a∧RestQ q w0 w∧(∀ i,i∉W→e i=b i)∧N e w.heap
 | .exit id,a,w=>∃ e,Agree n e a∧RestQ q w0 w∧(∀ i,i∉W→e i=b i)∧X id e w.heap
 | .ret,a,w=>∃ e,Agree n e a∧RestQ q w0 w∧R e w.heap
 | _,_,_=>False
theorem ZeC:∀ (ks:List TK) (J:JT ks) (Φ:List Value→Heap→Prop) (vs:List Value) (h:Heap),allJ ks J Φ→apJ ks J vs h→vs.length=ks.length→Φ vs h
 | [],J,Φ,vs,h,ha,hp,hl=>by
  have:vs=[]:=List.eq_nil_of_length_eq_zero hl
  subst this;exact ha h hp
 | .i k::ks,J,Φ,[],h,_,hp,hl=>by simp at hl
 | .b::ks,J,Φ,[],h,_,hp,hl=>by simp at hl
 | .s::ks,J,Φ,[],h,_,hp,hl=>by simp at hl
 | .p::ks,J,Φ,[],h,_,hp,hl=>by simp at hl
 | .v::ks,J,Φ,[],h,_,hp,hl=>by simp at hl
 | .i k::ks,J,Φ,v::vs,h,ha,hp,hl=>by
  cases v<;>simp only [apJ] at hp<;>try exact hp.elim
  rename_i k' x
  obtain ⟨hk,hp⟩:=Zaj hp
  obtain rfl:=Znm.1 hk
  exact ZeC ks (J x) (fun vs h=>Φ (.int k' x::vs) h) vs h (ha x) hp (by simpa using hl)
 | .b::ks,J,Φ,v::vs,h,ha,hp,hl=>by
  cases v<;>simp only [apJ] at hp<;>try exact hp.elim
  rename_i x
  exact ZeC ks (J x) (fun vs h=>Φ (.bool x::vs) h) vs h (ha x) hp (by simpa using hl)
 | .s::ks,J,Φ,v::vs,h,ha,hp,hl=>by
  cases v<;>simp only [apJ] at hp<;>try exact hp.elim
  rename_i x
  exact ZeC ks (J x) (fun vs h=>Φ (.string x::vs) h) vs h (ha x) hp (by simpa using hl)
 | .p::ks,J,Φ,v::vs,h,ha,hp,hl=>by
  cases v<;>simp only [apJ] at hp<;>try exact hp.elim
  rename_i x
  cases x<;>simp only at hp<;>try exact hp.elim
  rename_i x
  exact ZeC ks (J x) (fun vs h=>Φ (.pointer (some x)::vs) h) vs h (ha x) hp (by simpa using hl)
 | .v::ks,J,Φ,v::vs,h,ha,hp,hl=>by
  simp only [apJ] at hp
  exact ZeC ks (J v) (fun vs h=>Φ (v::vs) h) vs h (ha v) hp (by simpa using hl)
theorem ZoP (e:Env):∀ L:List (Nat×TK),(evL e L).length=(tks L).length
 | []=>rfl
 | (_,_)::L=>by simp [evL,tks,ZoP e L]
theorem ZsE (e:Env):∀ (L:List (Nat×TK)) (i:Nat),lookupL L (evL e L) i=some (e i)∨lookupL L (evL e L) i=none
 | [],i=>.inr rfl
 | (d,k)::L,i=>by
  simp only [evL,lookupL]
  cases a:Nat.beq i d with
  | true=>have:=Nat.eq_of_beq_eq_true a;subst this;exact .inl rfl
  | false=>exact ZsE e L i
theorem ZuB {e e':Env} {W:List Nat} {L:List (Nat×TK)} (h:∀ i,i∉W→e' i=e i):mix e W e' L (evL e' L)=e':=by
 funext i
 unfold mix
 rcases ZsE e' L i with a|a
 ·rw [a]
 ·rw [a]
  simp only
  cases hw:hasN W i with
  | true=>rfl
  | false=>
   have:i∉W:=fun hm=>by rw [ZbA.2 hm] at hw;cases hw
   exact (h i this).symm
theorem ZDc (hC:CtxOk C) (A:Ann) (c:Code):∀ (N:Env→Heap→Prop) (X:Nat→Env→Heap→Prop) (R:Env→Heap→Prop) (e:Env) (a:Act) (w w0:World),
  cOk n c=true→vc C A c N X R e w.heap→Agree n e a→RestQ C.q w0 w→c.wp C.P (QQ C.q n w0 e (wr c) N X R) a w:=by
 induction c with
 | skip=>intro N X R e a w w0 _ h hag hr;exact wp_skip ⟨e,hag,hr,fun _ _=>rfl,h⟩
 | region id ops draw=>
  intro N X R e a w w0 u h hag hr
  simp only [cOk,List.all_eq_true] at u
  exact Zwl hC h hag (fun o ho=>u o (by simpa using ho)) fun e' a' w' k p v r=>⟨e',k,hr.trans p,v,r⟩
 | seq x y ihx ihy=>
  intro N X R e a w w0 u h hag hr
  simp only [cOk,Bool.and_eq_true] at u
  refine wp_seq ?_
  unfold vc at h
  -- exits of x
  have exits:∀ (N':Env→Heap→Prop),(∀ e' a' w',Agree n e' a'→RestQ C.q w0 w'→(∀ i,i∉wr x→e' i=e i)→N' e' w'.heap→y.wp C.P (QQ C.q n w0 e (wr (.seq x y)) N X R) a' w') →
    ∀ ex a' w',QQ C.q n w0 e (wr x) N' X R ex a' w'→Exit.then (y.wp C.P (QQ C.q n w0 e (wr (.seq x y)) N X R)) (QQ C.q n w0 e (wr (.seq x y)) N X R) ex a' w':=by
   intro N' hN' ex a' w' b
   cases ex with
   | normal=>obtain ⟨e',k,p,v,r⟩:=b;exact hN' e' a' w' k p v r
   | exit id=>obtain ⟨e',k,p,v,r⟩:=b;exact ⟨e',k,p,fun i hi=>v i (fun hm=>hi (List.mem_append_left _ hm)),r⟩
   | ret=>exact b
   | goto l=>exact b.elim
   | panic ch=>exact b.elim
   | outgrown=>exact b.elim
  have ycase:∀ e' a' w',Agree n e' a'→RestQ C.q w0 w'→(∀ i,i∉wr x→e' i=e i)→vc C A y N X R e' w'.heap→y.wp C.P (QQ C.q n w0 e (wr (.seq x y)) N X R) a' w':=by
   intro e' a' w' k p v r
   refine wp_mono (ihy N X R e' a' w' w0 u.2 r k p) ?_
   intro ex a2 w2 b
   have hfr:∀ j:Env,(∀ i,i∉wr y→j i=e' i)→∀ i,i∉wr (.seq x y)→j i=e i:=fun j g i hi=>by
    simp only [wr,List.mem_append,not_or] at hi
    rw [g i hi.2,v i hi.1]
   cases ex with
   | normal=>obtain ⟨j,g1,g2,g3,g4⟩:=b;exact ⟨j,g1,g2,hfr j g3,g4⟩
   | exit id=>obtain ⟨j,g1,g2,g3,g4⟩:=b;exact ⟨j,g1,g2,hfr j g3,g4⟩
   | ret=>exact b
   | goto l=>exact b.elim
   | panic ch=>exact b.elim
   | outgrown=>exact b.elim
  split at h
  ·rename_i L hL
   obtain ⟨J,k,p⟩:=h
   refine wp_mono (ihx _ X R e a w w0 u.1 k hag hr) (exits _ ?_)
   intro e' a' w' g1 g2 g3 g4
   refine ycase e' a' w' g1 g2 g3 ?_
   have:=ZeC _ _ _ _ _ (p e') g4 (ZoP e' L)
   rw [ZuB g3] at this
   exact this
  ·exact wp_mono (ihx _ X R e a w w0 u.1 h hag hr) (exits _ ycase)
 | cond c x y ihx ihy=>
  intro N X R e a w w0 u h hag hr
  simp only [cOk,Bool.and_eq_true] at u
  unfold vc at h
  split at h
  ·rename_i t ht
   have hc:a.eval c=.bool t:=by rw [hag.eval];exact ht
   have hmono:∀ (W W':List Nat),(∀ i,i∈W→i∈W')→∀ ex a' w',QQ C.q n w0 e W N X R ex a' w'→QQ C.q n w0 e W' N X R ex a' w':=by
    intro W W' hW ex a' w' b
    cases ex with
    | normal=>obtain ⟨e',k,p,v,r⟩:=b;exact ⟨e',k,p,fun i hi=>v i (fun hm=>hi (hW i hm)),r⟩
    | exit id=>obtain ⟨e',k,p,v,r⟩:=b;exact ⟨e',k,p,fun i hi=>v i (fun hm=>hi (hW i hm)),r⟩
    | ret=>exact b
    | goto l=>exact b.elim
    | panic ch=>exact b.elim
    | outgrown=>exact b.elim
   cases t
   ·exact wp_cond_false hc (wp_mono (ihy N X R e a w w0 u.2 h hag hr) (hmono _ _ fun i hi=>List.mem_append_right _ hi))
   ·exact wp_cond_true hc (wp_mono (ihx N X R e a w w0 u.1 h hag hr) (hmono _ _ fun i hi=>List.mem_append_left _ hi))
  ·exact h.elim
 | block id c ih=>
  intro N X R e a w w0 u h hag hr
  unfold vc at h
  refine wp_block (wp_mono (ih N _ R e a w w0 u h hag hr) ?_)
  intro ex a' w' b
  cases ex with
  | normal=>exact b
  | exit id'=>
   obtain ⟨e',k,p,v,r⟩:=b
   simp only [Exit.inBlock]
   by_cases hid:id'=id
   ·subst hid
    rw [if_pos rfl]
    have:Nat.beq id' id'=true:=Nat.beq_refl id'
    rw [this] at r
    exact ⟨e',k,p,v,r⟩
   ·rw [if_neg hid]
    have:Nat.beq id' id=false:=by
     cases hb:Nat.beq id' id with
     | false=>rfl
     | true=>exact absurd (Nat.eq_of_beq_eq_true hb) hid
    rw [this] at r
    exact ⟨e',k,p,v,r⟩
  | ret=>exact b
  | goto l=>exact b.elim
  | panic ch=>exact b.elim
  | outgrown=>exact b.elim
 | loop c ih=>
  intro N X R e a w w0 u h hag hr
  unfold vc at h
  split at h
  ·rename_i L hL
   obtain ⟨J,⟨n0,h0⟩,hstep⟩:=h
   refine wp_loop_ghost (fun m a' w'=>∃ e',Agree n e' a'∧RestQ C.q w0 w'∧(∀ i,i∉wr c→e' i=e i)∧apJ (tks L) (J m) (evL e' L) w'.heap) n0 ⟨e,hag,hr,fun _ _=>rfl,h0⟩ ?_
   rintro m a' w' ⟨e',g1,g2,g3,g4⟩
   have hb:=ZeC _ _ _ _ _ (hstep m e') g4 (ZoP e' L)
   rw [ZuB g3] at hb
   refine wp_mono (ih _ X R e' a' w' w0 u hb g1 g2) ?_
   intro ex a2 w2 b
   have hfr:∀ j:Env,(∀ i,i∉wr c→j i=e' i)→∀ i,i∉wr c→j i=e i:=fun j g i hi=>by rw [g i hi,g3 i hi]
   cases ex with
   | normal=>
    obtain ⟨j,k1,k2,k3,m',hm',k4⟩:=b
    exact ⟨m',hm',j,k1,k2,hfr j k3,k4⟩
   | exit id=>obtain ⟨j,k1,k2,k3,k4⟩:=b;exact ⟨j,k1,k2,hfr j k3,k4⟩
   | ret=>exact b
   | goto l=>exact b.elim
   | panic ch=>exact b.elim
   | outgrown=>exact b.elim
  ·exact h.elim
 | exit id=>intro N X R e a w w0 _ h hag hr;exact wp_exit ⟨e,hag,hr,fun _ _=>rfl,h⟩
 | ret=>intro N X R e a w w0 _ h hag hr;exact wp_ret ⟨e,hag,hr,h⟩
 | rangeFunc f ps x y _ _=>intro N X R e a w w0 _ h;exact h.elim
 | scope c _=>intro N X R e a w w0 _ h;exact h.elim
 | label l=>intro N X R e a w w0 _ h;exact h.elim
 | goto l=>intro N X R e a w w0 _ h;exact h.elim
 | refuse s=>intro N X R e a w w0 _ h;exact h.elim
def resF (tmps:Array Value):ResultVar→Sem Value
 | .tmp t=>pure (tmps.getD t undef)
 | .cell a t=>do loadVar t (←asAddr (tmps.getD a undef))
theorem ZoE (hC:CtxOk C) {e:Env} {a:Act} (hag:Agree n e a) (w:World):∀ (rs:List ResultVar) (K:List Value→Prop),vRes C e w.heap rs K →
  ∃ vs,K vs∧(rs.mapM (resF a.tmps)).run C.P w=.ok vs w
 | [],K,h=>⟨[],h,rfl⟩
 | .tmp t::rs,K,h=>by
  obtain ⟨vs,c,f⟩:=ZoE hC hag w rs _ h
  refine ⟨_,c,?_⟩
  rw [List.mapM_cons]
  simp only [resF,Sem.run_bind,Sem.run_pure,Result.andThen_ok,f,hag.2.2 t]
 | .cell b t::rs,K,h=>by
  obtain ⟨p,v,hp,hk,hr⟩:=Zsk hC h
  obtain ⟨vs,c,f⟩:=ZoE hC hag w rs _ hk
  refine ⟨_,c,?_⟩
  rw [List.mapM_cons]
  have g:(resF a.tmps (.cell b t)).run C.P w=.ok v w:=by
   simp only [resF,Sem.run_bind,hag.2.2 b,hp,asAddr,Sem.run_pure,Result.andThen_ok,hr w (HLe.refl _)]
  simp only [Sem.run_bind,g,Sem.run_pure,Result.andThen_ok,f]
theorem ZuQ (hC:CtxOk C) {e:Env} {a:Act} (hag:Agree n e a) (w:World) (fn:Func) (R:Value→Heap→Prop) (h:vRet C fn.results.toList R e w.heap):
  ∃ v,(results fn a.tmps).run C.P w=.ok v w∧R v w.heap:=by
 obtain ⟨vs,c,g⟩:=ZoE hC hag w _ _ h
 have hr:(results fn a.tmps).run C.P w=.ok (if h:vs.toArray.size=1 then vs.toArray[0] else .tuple vs.toArray) w:=by
  unfold results
  rw [Array.mapM_eq_mapM_toList]
  have i:(fn.results.toList.mapM (fun x=>match x with|.tmp t=>pure (a.tmps.getD t undef)|.cell b t=>do loadVar t (←asAddr (a.tmps.getD b undef))):Sem (List Value)).run C.P w=.ok vs w:=g
  simp only [Sem.run_bind,Sem.run_map,Sem.run_pure]
  have j:∀ f:ResultVar→Sem Value,(fn.results.toList.mapM f).run C.P w=.ok vs w→((((fn.results.toList.mapM f).run C.P w).andThen fun a w'=>Result.ok a.toArray w').andThen fun a w'=>Result.ok (if h:a.size=1 then a[0] else Value.tuple a) w') =
    .ok (if h:vs.toArray.size=1 then vs.toArray[0] else .tuple vs.toArray) w:=fun f hf=>by rw [hf];rfl
  exact j _ i
 refine ⟨_,hr,?_⟩
 split at c
 ·exact c
 ·rename_i l hl
  split
  ·rename_i hs
   match vs,hs,hl with
   | [v],_,hl=>exact absurd rfl (hl v)
  ·exact c
theorem Zj9 (hC:CtxOk C) (A:Ann) {f:FuncId} {fn:Func} (hf:C.P.funcs[f]?=some fn) (args:List Value) (h:Heap) (R:Value→Heap→Prop)
  (s:((match fn.body with|some c=>cOk fn.ntmps c|none=>false)&&Nat.ble args.length fn.ntmps)=true) (j:vcFn C A fn args h R):CallsQ C.q C.P f args.toArray h R:=by
 intro w hw
 subst hw
 unfold vcFn at j
 simp only [Bool.and_eq_true] at s
 obtain ⟨k,m⟩:=s
 have m:=Nat.le_of_ble_eq_true m
 split at j
 ·rename_i c t
  rw [t] at k
  refine calls_of_wp hf t ?_
  have hag:Agree fn.ntmps (env0 args) { tmps:=args.toArray++Array.replicate (fn.ntmps-args.toArray.size) undef,defers:=[] }:=by
   refine ⟨by simp;omega,rfl,fun i=>?_⟩
   simp only [Array.getD_eq_getD_getElem?,env0]
   rw [Array.getElem?_append]
   by_cases hi:i<args.length
   ·simp [hi]
   ·rw [if_neg (by simpa using hi)]
    rw [List.getElem?_eq_none (by omega)]
    by_cases hj:i-args.length<fn.ntmps-args.length
    ·simp [hj]
    ·rw [Array.getElem?_eq_none (by simp;omega)]
     rfl
  refine wp_mono (ZDc hC A c _ _ _ _ _ w w k j hag (RestQ.refl w)) ?_
  intro ex a' w' a
  cases ex with
  | normal=>
   obtain ⟨e,b,o,_,g⟩:=a
   obtain ⟨v,p,r⟩:=ZuQ hC b w' fn R g
   exact ⟨b.2.1,v,p,v,rfl,o,r⟩
  | ret=>
   obtain ⟨e,b,o,g⟩:=a
   obtain ⟨v,p,r⟩:=ZuQ hC b w' fn R g
   exact ⟨b.2.1,v,p,v,rfl,o,r⟩
  | exit id=>obtain ⟨_,_,_,_,g⟩:=a;exact g.elim
  | goto l=>exact a.elim
  | panic ch=>exact a.elim
  | outgrown=>exact a.elim
 ·exact j.elim
end
end Go.Vc
