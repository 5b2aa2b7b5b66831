import Derived.Test.YtccncimchmimdaaGreatDoorVcSoundD
namespace Go.Vc
set_option linter.unusedVariables false
set_option linter.unusedSimpArgs false
open Go
def Agree (n:Nat) (e:Env) (a:Act):Prop:=a.tmps.size=n/\a.defers=[]/\∀ i,a.tmps.getD i undef=e i
theorem Agree.eval {n:Nat} {e:Env} {a:Act} (h:Agree n e a):a.eval=ev e:=by
 funext x
 cases x with
 | tmp t=>exact h.2.2 t
 | _=>rfl
def dOk (n:Nat) (o:Oper):Bool:=
 match o.dst with
 | some d=>Nat.blt d n
 | none=>true
theorem Agree.put {n:Nat} {e:Env} {a:Act} (h:Agree n e a) {o:Oper} (l:dOk n o=true) (v:Value):Agree n (updO e o.dst v) (a.put o.dst v):=by
 obtain ⟨b,c,f⟩:=h
 unfold dOk at l
 cases j:o.dst with
 | none=>exact ⟨b,c,f⟩
 | some d=>
  rw [j] at l
  have r:d<n:=Nat.blt_eq.mp l
  refine ⟨by simp [Act.put,b],by simp [Act.put,c],fun i=>?_⟩
  simp only [Act.put,updO,upd]
  by_cases hi:i=d
  ·subst hi
   have:Nat.beq i i=true:=Nat.beq_refl i
   rw [this]
   simp [Array.getD_eq_getD_getElem?,b,r]
  ·have:Nat.beq i d=false:=by
    cases k:Nat.beq i d with
    | false=>rfl
    | true=>exact absurd (Nat.eq_of_beq_eq_true k) hi
   rw [this]
   have g:=f i
   simp only [Array.getD_eq_getD_getElem?] at g ⊢
   rw [Array.getElem?_setIfInBounds_ne (fun e=>hi e.symm)]
   exact g
theorem ZCS {e:Env} {d:Nat} {v:Value} (h:e d=v):upd e d v=e:=by
 funext i
 unfold upd
 cases a:Nat.beq i d with
 | false=>rfl
 | true=>have:=Nat.eq_of_beq_eq_true a;subst this;exact h.symm
theorem Zvq {n:Nat} {e:Env} {a:Act} {u:Array Oper} {o:Oper} {A B:Env->Prop} (w:Agree n e a) (h:vG u.toList o e A B):
  (Region.wanted o (yielded u a.tmps)=true/\A e)\/(Region.wanted o (yielded u a.tmps)=false/\B e):=by
 unfold vG at h
 unfold Region.wanted
 cases hg:o.guard with
 | none=>rw [hg] at h;exact .inl ⟨rfl,h⟩
 | some p=>
  obtain ⟨j,x⟩:=p
  rw [hg] at h
  simp only at h ⊢
  split at h
  ·exact h.elim
  ·rename_i d c
   split at h
   ·rename_i b g
    have y:yielded u a.tmps j=some b:=by
     unfold yielded
     have k:(u[j]?).bind (·.dst)=some d:=by
      unfold gslot at c
      have l:u.toList[j]?=u[j]?:=by simp
      rw [l] at c
      cases ho:u[j]? with
      | none=>rw [ho] at c;cases c
      | some oj=>rw [ho] at c;exact c
     have f:=w.2.2 d
     rw [g] at f
     have r:a.tmps[d]?=some (.bool b):=by
      simp only [Array.getD_eq_getD_getElem?] at f
      cases i:a.tmps[d]? with
      | none=>rw [i] at f;simp [undef] at f
      | some v=>rw [i] at f;simpa using f
     rw [k]
     simp only [Option.bind_some,r]
    rw [y]
    have he:upd e d (.bool b)=e:=ZCS g
    cases b<;>cases x<;>simp only [cond_true,cond_false] at h<;>rw [he] at h
    ·exact .inl ⟨rfl,h⟩
    ·exact .inr ⟨rfl,h⟩
    ·exact .inr ⟨rfl,h⟩
    ·exact .inl ⟨rfl,h⟩
   ·rename_i vs g
    refine .inr ⟨?_,h⟩
    have y:yielded u a.tmps j=none:=by
     unfold yielded
     have k:(u[j]?).bind (·.dst)=some d:=by
      unfold gslot at c
      have l:u.toList[j]?=u[j]?:=by simp
      rw [l] at c
      cases ho:u[j]? with
      | none=>rw [ho] at c;cases c
      | some oj=>rw [ho] at c;exact c
     have f:=w.2.2 d
     rw [g] at f
     rw [k]
     simp only [Option.bind_some]
     cases i:a.tmps[d]? with
     | none=>rfl
     | some v=>
      simp only [Array.getD_eq_getD_getElem?,i,Option.getD_some] at f
      subst f
      rfl
    rw [y]
    rfl
   ·exact h.elim
section
variable {C:Ctx} {n:Nat}
theorem Zhq (hC:CtxOk C) {a7:Array Oper} {Q:Exit->Act->World->Prop}:∀ (l:List Oper) (N:Env->Heap->Prop) (e:Env) (a:Act) (w:World),
  vSeq C a7.toList l N e w.heap->Agree n e a->(∀ o∈l,dOk n o=true) ->
  (∀ u a' y,Agree n u a'->RestQ C.q w y->(∀ i,i∉wrOps l->u i=e i)->N u y.heap->Q .normal a' y)->wpList C.P a7 Q l a w
 | [],N,e,a,w,h,hag,_,hQ=>hQ e a w hag (RestQ.refl w) (fun _ _=>rfl) h
 | o::r,N,e,a,w,h,hag,p,hQ=>by
  have a2:=p o (List.mem_cons_self ..)
  have a4:=fun x s=>p x (List.mem_cons_of_mem _ s)
  have a3:∀ (v:Value) (u:Env),(∀ i,i∉wrOps r->u i=updO e o.dst v i)->∀ i,i∉wrOps (o::r)->u i=e i:=by
   intro v u a6 i hi
   cases hod:o.dst with
   | none=>
    simp only [wrOps,hod] at hi
    have:=a6 i hi
    rw [hod] at this
    exact this
   | some d=>
    simp only [wrOps,hod,List.mem_cons,not_or] at hi
    have:=a6 i hi.2
    rw [hod] at this
    simp only [updO,upd] at this
    have j:Nat.beq i d=false:=by
     cases j:Nat.beq i d with
     | false=>rfl
     | true=>exact absurd (Nat.eq_of_beq_eq_true j) hi.1
    rw [j] at this
    exact this
  unfold wpList
  rcases Zvq hag h with ⟨hw,h⟩|⟨hw,h⟩
  ·rw [if_pos hw]
   refine .inl ?_
   unfold vStep at h
   split at h
   ·obtain ⟨v,k,hr⟩:=Zto hC h
    unfold Oper.wp
    rw [hag.eval,hr w]
    exact Zhq hC r N _ _ w k (hag.put a2 v) a4 fun u a' y b c f g=>hQ u a' y b c (a3 v u f) g
   ·obtain ⟨v,k,hr⟩:=Zsw hC h
    unfold Oper.wp
    rw [hag.eval,hr w (HLe.refl _)]
    exact Zhq hC r N _ _ w k (hag.put a2 v) a4 fun u a' y b c f g=>hQ u a' y b c (a3 v u f) g
   ·have hE:=Zt6 hC h a hag.eval w rfl
    refine Zsy (Oper.wp_mono ?_ hE)
    rintro t w1 ⟨v,rfl,a5,hk⟩
    exact Zhq hC r N _ _ w1 hk (hag.put a2 v) a4 fun u a' y b c f g=>hQ u a' y b (a5.trans c) (a3 v u f) g
  ·rw [if_neg (by simp [hw])]
   exact Zhq hC r N _ _ w h (hag.put a2 undef) a4 fun u a' y b c f g=>hQ u a' y b c (a3 undef u f) g
theorem ZEg {T:List (Nat×TE)} {alt:List Nat} {a:List Oper} {i:Nat} {o:Oper} (h:a[i]?=some o):
  (match k3 T o.op with|.pure=>kdOf (kinds T alt a) i=.pure|.read=>kdOf (kinds T alt a) i=.read\/kdOf (kinds T alt a) i=.fix\/kdOf (kinds T alt a) i=.late\/kdOf (kinds T alt a) i=.early|.eff=>kdOf (kinds T alt a) i=.late\/kdOf (kinds T alt a) i=.early):=by
 have c:kdOf (kinds T alt a) i=kindAt (mkA a) (k3s T alt a) (concs (mkA a) (k3s T alt a)) (k3a T alt o.op i) i:=by
  unfold kdOf kinds
  simp only
  rw [List.getD_eq_getElem?_getD,List.getElem?_map,List.getElem?_zipIdx]
  have:(k3s T alt a)[i]?=some (k3a T alt o.op i):=by unfold k3s;rw [List.getElem?_map,List.getElem?_zipIdx,h];simp
  rw [this]
  simp
 rw [c]
 unfold kindAt k3a
 cases k3 T o.op with
 | pure=>rfl
 | read=>
  simp only
  cases hasN alt i with
  | true=>
   simp only [cond_true]
   generalize (waitsAll _ _ i&&_)=b
   cases b
   ·exact .inr (.inr (.inr rfl))
   ·exact .inr (.inr (.inl rfl))
  | false=>
   simp only [cond_false]
   generalize hasN _ i=b
   cases b
   ·exact .inr (.inl rfl)
   ·exact .inl rfl
 | eff=>
  simp only
  generalize (waitsAll _ _ i&&_)=b
  cases b
  ·exact .inr rfl
  ·exact .inl rfl
theorem ZsY {o:Oper} {d:Nat} (a:o.dst=some d):∀ {l:List Oper},o∈l->d∈wrOps l
 | p::l,h=>by
  cases h with
  | head=>simp [wrOps,a]
  | tail _ h=>
   have:=ZsY a h
   unfold wrOps
   split<;>simp [this]
theorem ZhV (hC:CtxOk C) {alt:List Nat} {a0:Array Oper} {B:Nat->Prop} {c:Heap} {w0:World} {Q:Act->World->Prop} (r:∀ o∈a0,dOk n o=true):
  ∀ (l:List Nat) (N:Env->Heap->Prop) (e:Env) (a:Act) (w:World),
  vLexI C a0.toList (kinds C.tab alt a0.toList) B c l N e w.heap->Agree n e a->RestQ C.q w0 w ->
  (∀ e' a' w',Agree n e' a'->RestQ C.q w0 w'->(∀ i,i∉wrOps a0.toList->e' i=e i)->N e' w'.heap->Q a' w') ->
  lexP C.P a0 (kdOf (kinds C.tab alt a0.toList)) (fun w'=>ExtBut B c w'.heap/\RestQ C.q w0 w') l Q a w
 | [],N,e,a,w,h,hag,hrest,hQ=>hQ e a w hag hrest (fun _ _=>rfl) h
 | k::l,N,e,a,w,h,hag,hrest,hQ=>by
  unfold vLexI at h
  split at h
  ·rename_i ho
   have a5:a0[k]?=none:=by simpa using ho
   unfold lexP
   rw [a5]
   exact ZhV hC r l N e a w h hag hrest hQ
  ·rename_i o ho
   have a5:a0[k]?=some o:=by simpa using ho
   have a2:=ZEg (T:=C.tab) (alt:=alt) ho
   have ad:o∈a0.toList:=List.mem_of_getElem? ho
   have ag:=r o (by simpa using ad)
   have aj:∀ (v:Value) (e':Env),(∀ i,i∉wrOps a0.toList->e' i=updO e o.dst v i)->∀ i,i∉wrOps a0.toList->e' i=e i:=by
    intro v e' af i hi
    rw [af i hi]
    cases hod:o.dst with
    | none=>rfl
    | some d=>
     have ae:i≠d:=fun x=>by subst x;exact hi (ZsY hod ad)
     simp only [updO,upd,ZbD ae,cond_false]
   have next:∀ (v:Value) (w1:World),RestQ C.q w0 w1->vLexI C a0.toList (kinds C.tab alt a0.toList) B c l N (updO e o.dst v) w1.heap ->
     lexP C.P a0 (kdOf (kinds C.tab alt a0.toList)) (fun w'=>ExtBut B c w'.heap/\RestQ C.q w0 w') l Q (a.put o.dst v) w1:=fun v w1 f p=>
    ZhV hC r l N _ _ w1 p (hag.put ag v) f fun e' a' w' s t u y=>hQ e' a' w' s t (aj v e' u) y
   rcases Zvq hag h with ⟨hw,h⟩|⟨hw,h⟩
   ·unfold vStep at h
    split at h
    ·rename_i j
     rw [j] at a2
     simp only at a2
     obtain ⟨v,b,hr⟩:=Zto hC h
     rw [ZeM a5 hw (by rw [a2];rfl)]
     exact ⟨v,fun w' _=>by rw [hag.eval];exact hr w',next v w hrest b⟩
    ·rename_i j
     rw [j] at a2
     simp only at a2
     obtain ⟨v,b,hr⟩:=Zsw hC h
     have go:∀ {kk:Kind},kdOf (kinds C.tab alt a0.toList) k=kk->kk.eff=true->rdH kk (hmask B c) w.heap=w.heap->(kEarly kk=true->ExtBut B c w.heap/\vLexI C a0.toList (kinds C.tab alt a0.toList) B c l N (updO e o.dst v) w.heap)->(kEarly kk=false->vLexI C a0.toList (kinds C.tab alt a0.toList) B c l N (updO e o.dst v) w.heap) ->
       lexP C.P a0 (kdOf (kinds C.tab alt a0.toList)) (fun w'=>ExtBut B c w'.heap/\RestQ C.q w0 w') (k::l) Q a w:=by
      intro kk hk he hh p h2
      rw [Zc0 a5 hw (by rw [hk];exact he)]
      rw [hk,hh] at hr
      unfold Oper.wp
      rw [hag.eval,hr w (HLe.refl _)]
      rw [hk]
      cases kk<;>first|cases he|skip
      ·exact ⟨⟨(p rfl).1,hrest⟩,next v w hrest (p rfl).2⟩
      ·exact ⟨trivial,next v w hrest (h2 rfl)⟩
     rcases a2 with hk|hk|hk|hk
     ·rw [ZeM a5 hw (by rw [hk];rfl)]
      rw [hk] at b
      refine ⟨v,fun w' a6=>?_,next v w hrest b⟩
      rw [hag.eval]
      rw [hk] at a6 hr
      exact hr w' (HLe.mask a6.1)
     ·rw [ZeM a5 hw (by rw [hk];rfl)]
      rw [hk] at b
      refine ⟨v,fun w' a6=>?_,next v w hrest b⟩
      rw [hag.eval]
      rw [hk] at a6 hr
      have a6:w'=w:=a6
      subst a6
      exact hr w' (HLe.refl _)
     ·rw [hk] at b
      exact go hk rfl rfl (fun e=>by cases e) (fun _=>b)
     ·rw [hk] at b
      exact go hk rfl rfl (fun _=>b) (fun e=>by cases e)
    ·rename_i j
     rw [j] at a2
     simp only at a2
     have hE:=Zt6 hC h a hag.eval w rfl
     rw [Zc0 a5 hw (by rcases a2 with hk|hk<;>rw [hk]<;>rfl)]
     refine Oper.wp_mono ?_ hE
     rintro a1 w1 ⟨v,rfl,f,g⟩
     rcases a2 with hk|hk
     ·rw [hk] at g ⊢
      exact ⟨trivial,next v w1 (hrest.trans f) g⟩
     ·rw [hk] at g ⊢
      exact ⟨⟨g.1,hrest.trans f⟩,next v w1 (hrest.trans f) g.2⟩
   ·rw [Zc8 a5 hw]
    exact next undef w hrest h
theorem ZtO {f:Nat->Prop}:∀ {l:List Nat},allE l f->∀ j∈l,f j
 | [j],h,i,hi=>by simp at hi;subst hi;exact h
 | j::k::l,h,i,hi=>by
  cases hi with
  | head=>exact h.1
  | tail _ hi=>exact ZtO h.2 i hi
theorem Zxx (hC:CtxOk C) {alt:List Nat} {y:Array Oper} {B:Nat->Prop} {c:Heap} {w0:World} {Q:Act->World->Prop} (b:∀ o∈y,dOk n o=true) {A:List (List Nat)}:
  ∀ (m:Nat) (a0:List Nat) (N:Env->Heap->Prop) (e:Env) (a:Act) (w:World),
  vOrd C y.toList A (kinds C.tab alt y.toList) B c m a0 N e w.heap->Agree n e a->RestQ C.q w0 w ->
  (∀ e' a' w',Agree n e' a'->RestQ C.q w0 w'->(∀ i,i∉wrOps y.toList->e' i=e i)->N e' w'.heap->Q a' w') ->
  lexO C.P y (kdOf (kinds C.tab alt y.toList)) (fun w'=>ExtBut B c w'.heap/\RestQ C.q w0 w') A m a0 Q a w:=by
 intro m
 induction m with
 | zero=>
  intro a0 N e a w h a2 x hQ
  unfold vOrd at h
  split at h
  ·rename_i hm;exact ⟨hm,ZhV hC b a0 N e a w h a2 x hQ⟩
  ·exact h.elim
 | succ m ih=>
  intro a0 N e a w h a2 x hQ
  unfold vOrd at h
  split at h
  ·rename_i hm
   refine ⟨fun _=>ZhV hC b a0 N e a w h a2 x hQ,fun j hj=>?_⟩
   rw [hm] at hj;cases hj
  ·rename_i hm
   refine ⟨fun f=>absurd f hm,fun j hj=>?_⟩
   refine ZhV hC b _ _ e a w (ZtO h j hj) a2 x ?_
   intro e' a' w' g k l p
   exact ih _ N e' a' w' p g k fun r s w2 k1 t k3 u=>hQ r s w2 k1 t (fun i hi=>by rw [k3 i hi,l i hi]) u
theorem ZBn (hC:CtxOk C) {id:Nat} {alt:List Nat} {k:Array Oper} {r:Bool} {Q:Exit->Act->World->Prop} {N:Env->Heap->Prop} {e:Env} {a:Act} {w:World}
  (h:vRegion C alt k r N e w.heap) (y:Agree n e a) (b:∀ o∈k,dOk n o=true)
  (hQ:∀ u x l,Agree n u x->RestQ C.q w l->(∀ i,i∉wrOps k.toList->u i=e i)->N u l.heap->Q .normal x l):(Code.region id k r).wp C.P Q a w:=by
 unfold vRegion at h
 cases r
 ·simp only [cond_false] at h
  exact wp_region_list (Zhq hC _ N e a w h y (fun o ho=>b o (by simpa using ho)) hQ)
 ·simp only [cond_true] at h
  have a2:=(Zai h).1
  replace h:=(Zai h).2
  have h:∃ B:Nat->Prop,vOrd C k.toList (mkA k.toList) (kinds C.tab alt k.toList) B w.heap k.toList.length (List.range k.toList.length) N e w.heap:=by
   cases hr:hasRE (kinds C.tab alt k.toList) with
   | true=>rw [hr] at h;exact h
   | false=>rw [hr] at h;exact ⟨_,h⟩
  obtain ⟨B,h⟩:=h
  refine ZAj (Cl:=fun l=>ExtBut B w.heap l.heap/\RestQ C.q w l) hC.mixed a2 ⟨eY _ _,rfl,rfl,rfl,fun _=>Nat.le_succ _⟩ ?_
  refine Zxx hC (w0:=w) b _ _ N e a { w with drawn:=w.drawn+1 } (by simpa using h) y ⟨rfl,rfl,rfl,fun _=>Nat.le_succ _⟩ ?_
  intro u x l c f g j
  exact hQ u x l c f g j
def cOk (n:Nat):Code->Bool
 | .region _ ops _=>ops.toList.all (dOk n)
 | .seq a b=>cOk n a&&cOk n b
 | .cond _ x y=>cOk n x&&cOk n y
 | .block _ c=>cOk n c
 | .loop c=>cOk n c
 | _=>true
def QQ (q:Prop) (n:Nat) (w0:World) (b:Env) (W:List Nat) (N:Env->Heap->Prop) (X:Nat->Env->Heap->Prop) (R:Env->Heap->Prop):Exit->Act->World->Prop
 | .normal,a,w=>∃ e,Agree n e a/\RestQ q w0 w/\(∀ i,i∉W->e i=b i)/\N e w.heap
 | .exit id,a,w=>∃ e,Agree n e a/\RestQ q w0 w/\(∀ i,i∉W->e i=b i)/\X id e w.heap
 | .ret,a,w=>∃ e,Agree n e a/\RestQ q w0 w/\R e w.heap
 | _,_,_=>False
theorem Zeu:∀ (a:List TK) (J:JT a) (c:List Value->Heap->Prop) (vs:List Value) (h:Heap),allJ a J c->apJ a J vs h->vs.length=a.length->c vs h
 | [],J,c,vs,h,ha,hp,hl=>by
  have:vs=[]:=List.eq_nil_of_length_eq_zero hl
  subst this;exact ha h hp
 | .i k::a,J,c,[],h,_,hp,hl=>by simp at hl
 | .b::a,J,c,[],h,_,hp,hl=>by simp at hl
 | .s::a,J,c,[],h,_,hp,hl=>by simp at hl
 | .p::a,J,c,[],h,_,hp,hl=>by simp at hl
 | .v::a,J,c,[],h,_,hp,hl=>by simp at hl
 | .i k::a,J,c,v::vs,h,ha,hp,hl=>by
  cases v<;>simp only [apJ] at hp<;>try exact hp.elim
  rename_i k' x
  obtain ⟨e,hp⟩:=Zai hp
  obtain rfl:=Zp1.1 e
  exact Zeu a (J x) (fun vs h=>c (.int k' x::vs) h) vs h (ha x) hp (by simpa using hl)
 | .b::a,J,c,v::vs,h,ha,hp,hl=>by
  cases v<;>simp only [apJ] at hp<;>try exact hp.elim
  rename_i x
  exact Zeu a (J x) (fun vs h=>c (.bool x::vs) h) vs h (ha x) hp (by simpa using hl)
 | .s::a,J,c,v::vs,h,ha,hp,hl=>by
  cases v<;>simp only [apJ] at hp<;>try exact hp.elim
  rename_i x
  exact Zeu a (J x) (fun vs h=>c (.string x::vs) h) vs h (ha x) hp (by simpa using hl)
 | .p::a,J,c,v::vs,h,ha,hp,hl=>by
  cases v<;>simp only [apJ] at hp<;>try exact hp.elim
  rename_i x
  cases x<;>simp only at hp<;>try exact hp.elim
  rename_i x
  exact Zeu a (J x) (fun vs h=>c (.pointer (some x)::vs) h) vs h (ha x) hp (by simpa using hl)
 | .v::a,J,c,v::vs,h,ha,hp,hl=>by
  simp only [apJ] at hp
  exact Zeu a (J v) (fun vs h=>c (v::vs) h) vs h (ha v) hp (by simpa using hl)
theorem Zp9 (e:Env):∀ L:List (Nat×TK),(evL e L).length=(tks L).length
 | []=>rfl
 | (_,_)::L=>by simp [evL,tks,Zp9 e L]
theorem Zus (e:Env):∀ (L:List (Nat×TK)) (i:Nat),lookupL L (evL e L) i=some (e i)\/lookupL L (evL e L) i=none
 | [],i=>.inr rfl
 | (d,k)::L,i=>by
  simp only [evL,lookupL]
  cases a:Nat.beq i d with
  | true=>have:=Nat.eq_of_beq_eq_true a;subst this;exact .inl rfl
  | false=>exact Zus e L i
theorem Zuj {e c:Env} {W:List Nat} {L:List (Nat×TK)} (h:∀ i,i∉W->c i=e i):mix e W c L (evL c L)=c:=by
 funext i
 unfold mix
 rcases Zus c L i with a|a
 ·rw [a]
 ·rw [a]
  simp only
  cases hw:hasN W i with
  | true=>rfl
  | false=>
   have:i∉W:=fun g=>by rw [Zby.2 g] at hw;cases hw
   exact (h i this).symm
theorem ZDf (hC:CtxOk C) (A:Ann) (c:Code):∀ (N:Env->Heap->Prop) (X:Nat->Env->Heap->Prop) (R:Env->Heap->Prop) (e:Env) (a:Act) (w w0:World),
  cOk n c=true->vc C A c N X R e w.heap->Agree n e a->RestQ C.q w0 w->c.wp C.P (QQ C.q n w0 e (wr c) N X R) a w:=by
 induction c with
 | skip=>intro N X R e a w w0 _ h a1 hr;exact wp_skip ⟨e,a1,hr,fun _ _=>rfl,h⟩
 | region id ops draw=>
  intro N X R e a w w0 u h a1 hr
  simp only [cOk,List.all_eq_true] at u
  exact ZBn hC h a1 (fun o ho=>u o (by simpa using ho)) fun e' a' w' k p v r=>⟨e',k,hr.trans p,v,r⟩
 | seq x y ihx ihy=>
  intro N X R e a w w0 u h a1 hr
  simp only [cOk,Bool.and_eq_true] at u
  refine wp_seq ?_
  unfold vc at h
  -- a7 of x
  have a7:∀ (N':Env->Heap->Prop),(∀ e' a' w',Agree n e' a'->RestQ C.q w0 w'->(∀ i,i∉wr x->e' i=e i)->N' e' w'.heap->y.wp C.P (QQ C.q n w0 e (wr (.seq x y)) N X R) a' w') ->
    ∀ ex a' w',QQ C.q n w0 e (wr x) N' X R ex a' w'->Exit.then (y.wp C.P (QQ C.q n w0 e (wr (.seq x y)) N X R)) (QQ C.q n w0 e (wr (.seq x y)) N X R) ex a' w':=by
   intro N' ao ex a' w' b
   cases ex with
   | normal=>obtain ⟨e',k,p,v,r⟩:=b;exact ao e' a' w' k p v r
   | exit id=>obtain ⟨e',k,p,v,r⟩:=b;exact ⟨e',k,p,fun i hi=>v i (fun hm=>hi (List.mem_append_left _ hm)),r⟩
   | ret=>exact b
   | goto l=>exact b.elim
   | panic ch=>exact b.elim
   | outgrown=>exact b.elim
  have ad:∀ e' a' w',Agree n e' a'->RestQ C.q w0 w'->(∀ i,i∉wr x->e' i=e i)->vc C A y N X R e' w'.heap->y.wp C.P (QQ C.q n w0 e (wr (.seq x y)) N X R) a' w':=by
   intro e' a' w' k p v r
   refine wp_mono (ihy N X R e' a' w' w0 u.2 r k p) ?_
   intro ex a2 w2 b
   have a8:∀ j:Env,(∀ i,i∉wr y->j i=e' i)->∀ i,i∉wr (.seq x y)->j i=e i:=fun j g i hi=>by
    simp only [wr,List.mem_append,not_or] at hi
    rw [g i hi.2,v i hi.1]
   cases ex with
   | normal=>obtain ⟨j,g1,g2,g3,g4⟩:=b;exact ⟨j,g1,g2,a8 j g3,g4⟩
   | exit id=>obtain ⟨j,g1,g2,g3,g4⟩:=b;exact ⟨j,g1,g2,a8 j g3,g4⟩
   | ret=>exact b
   | goto l=>exact b.elim
   | panic ch=>exact b.elim
   | outgrown=>exact b.elim
  split at h
  ·rename_i L hL
   obtain ⟨J,k,p⟩:=h
   refine wp_mono (ihx _ X R e a w w0 u.1 k a1 hr) (a7 _ ?_)
   intro e' a' w' g1 g2 g3 g4
   refine ad e' a' w' g1 g2 g3 ?_
   have:=Zeu _ _ _ _ _ (p e') g4 (Zp9 e' L)
   rw [Zuj g3] at this
   exact this
  ·exact wp_mono (ihx _ X R e a w w0 u.1 h a1 hr) (a7 _ ad)
 | cond c x y ihx ihy=>
  intro N X R e a w w0 u h a1 hr
  simp only [cOk,Bool.and_eq_true] at u
  unfold vc at h
  split at h
  ·rename_i t ht
   have hc:a.eval c=.bool t:=by rw [a1.eval];exact ht
   have ac:∀ (W W':List Nat),(∀ i,i∈W->i∈W')->∀ ex a' w',QQ C.q n w0 e W N X R ex a' w'->QQ C.q n w0 e W' N X R ex a' w':=by
    intro W W' hW ex a' w' b
    cases ex with
    | normal=>obtain ⟨e',k,p,v,r⟩:=b;exact ⟨e',k,p,fun i hi=>v i (fun hm=>hi (hW i hm)),r⟩
    | exit id=>obtain ⟨e',k,p,v,r⟩:=b;exact ⟨e',k,p,fun i hi=>v i (fun hm=>hi (hW i hm)),r⟩
    | ret=>exact b
    | goto l=>exact b.elim
    | panic ch=>exact b.elim
    | outgrown=>exact b.elim
   cases t
   ·exact wp_cond_false hc (wp_mono (ihy N X R e a w w0 u.2 h a1 hr) (ac _ _ fun i hi=>List.mem_append_right _ hi))
   ·exact wp_cond_true hc (wp_mono (ihx N X R e a w w0 u.1 h a1 hr) (ac _ _ fun i hi=>List.mem_append_left _ hi))
  ·exact h.elim
 | block id c ih=>
  intro N X R e a w w0 u h a1 hr
  unfold vc at h
  refine wp_block (wp_mono (ih N _ R e a w w0 u h a1 hr) ?_)
  intro ex a' w' b
  cases ex with
  | normal=>exact b
  | exit id'=>
   obtain ⟨e',k,p,v,r⟩:=b
   simp only [Exit.inBlock]
   by_cases ae:id'=id
   ·subst ae
    rw [if_pos rfl]
    have:Nat.beq id' id'=true:=Nat.beq_refl id'
    rw [this] at r
    exact ⟨e',k,p,v,r⟩
   ·rw [if_neg ae]
    have:Nat.beq id' id=false:=by
     cases hb:Nat.beq id' id with
     | false=>rfl
     | true=>exact absurd (Nat.eq_of_beq_eq_true hb) ae
    rw [this] at r
    exact ⟨e',k,p,v,r⟩
  | ret=>exact b
  | goto l=>exact b.elim
  | panic ch=>exact b.elim
  | outgrown=>exact b.elim
 | loop c ih=>
  intro N X R e a w w0 u h a1 hr
  unfold vc at h
  split at h
  ·rename_i L hL
   obtain ⟨J,⟨n0,h0⟩,ag⟩:=h
   refine wp_loop_ghost (fun m a' w'=>∃ e',Agree n e' a'/\RestQ C.q w0 w'/\(∀ i,i∉wr c->e' i=e i)/\apJ (tks L) (J m) (evL e' L) w'.heap) n0 ⟨e,a1,hr,fun _ _=>rfl,h0⟩ ?_
   rintro m a' w' ⟨e',g1,g2,g3,g4⟩
   have hb:=Zeu _ _ _ _ _ (ag m e') g4 (Zp9 e' L)
   rw [Zuj g3] at hb
   refine wp_mono (ih _ X R e' a' w' w0 u hb g1 g2) ?_
   intro ex a2 w2 b
   have a8:∀ j:Env,(∀ i,i∉wr c->j i=e' i)->∀ i,i∉wr c->j i=e i:=fun j g i hi=>by rw [g i hi,g3 i hi]
   cases ex with
   | normal=>
    obtain ⟨j,k1,k2,k3,m',am,k4⟩:=b
    exact ⟨m',am,j,k1,k2,a8 j k3,k4⟩
   | exit id=>obtain ⟨j,k1,k2,k3,k4⟩:=b;exact ⟨j,k1,k2,a8 j k3,k4⟩
   | ret=>exact b
   | goto l=>exact b.elim
   | panic ch=>exact b.elim
   | outgrown=>exact b.elim
  ·exact h.elim
 | exit id=>intro N X R e a w w0 _ h a1 hr;exact wp_exit ⟨e,a1,hr,fun _ _=>rfl,h⟩
 | ret=>intro N X R e a w w0 _ h a1 hr;exact wp_ret ⟨e,a1,hr,h⟩
 | rangeFunc f ps x y _ _=>intro N X R e a w w0 _ h;exact h.elim
 | scope c _=>intro N X R e a w w0 _ h;exact h.elim
 | label l=>intro N X R e a w w0 _ h;exact h.elim
 | goto l=>intro N X R e a w w0 _ h;exact h.elim
 | refuse s=>intro N X R e a w w0 _ h;exact h.elim
def resF (c:Array Value):ResultVar->Sem Value
 | .tmp t=>pure (c.getD t undef)
 | .cell a t=>do loadVar t (<-asAddr (c.getD a undef))
theorem Zoz (k:CtxOk C) {e:Env} {a:Act} (j:Agree n e a) (w:World):∀ (rs:List ResultVar) (K:List Value->Prop),vRes C e w.heap rs K ->
  ∃ vs,K vs/\(rs.mapM (resF a.tmps)).run C.P w=.ok vs w
 | [],K,h=>⟨[],h,rfl⟩
 | .tmp t::rs,K,h=>by
  obtain ⟨vs,c,f⟩:=Zoz k j w rs _ h
  refine ⟨_,c,?_⟩
  rw [List.mapM_cons]
  simp only [resF,Sem.run_bind,Sem.run_pure,Result.andThen_ok,f,j.2.2 t]
 | .cell b t::rs,K,h=>by
  obtain ⟨p,v,hp,l,o⟩:=ZuP k h
  obtain ⟨vs,c,f⟩:=Zoz k j w rs _ l
  refine ⟨_,c,?_⟩
  rw [List.mapM_cons]
  have g:(resF a.tmps (.cell b t)).run C.P w=.ok v w:=by
   simp only [resF,Sem.run_bind,j.2.2 b,hp,asAddr,Sem.run_pure,Result.andThen_ok,o w (HLe.refl _)]
  simp only [Sem.run_bind,g,Sem.run_pure,Result.andThen_ok,f]
theorem ZqV (y:CtxOk C) {e:Env} {a:Act} (r:Agree n e a) (w:World) (fn:Func) (R:Value->Heap->Prop) (h:vRet C fn.results.toList R e w.heap):
  ∃ v,(results fn a.tmps).run C.P w=.ok v w/\R v w.heap:=by
 obtain ⟨vs,c,g⟩:=Zoz y r w _ _ h
 have hr:(results fn a.tmps).run C.P w=.ok (if h:vs.toArray.size=1 then vs.toArray[0] else .tuple vs.toArray) w:=by
  unfold results
  rw [Array.mapM_eq_mapM_toList]
  have i:(fn.results.toList.mapM (fun x=>match x with|.tmp t=>pure (a.tmps.getD t undef)|.cell b t=>do loadVar t (<-asAddr (a.tmps.getD b undef))):Sem (List Value)).run C.P w=.ok vs w:=g
  simp only [Sem.run_bind,Sem.run_map,Sem.run_pure]
  have j:∀ f:ResultVar->Sem Value,(fn.results.toList.mapM f).run C.P w=.ok vs w->((((fn.results.toList.mapM f).run C.P w).andThen fun a o=>Result.ok a.toArray o).andThen fun a o=>Result.ok (if h:a.size=1 then a[0] else Value.tuple a) o) =
    .ok (if h:vs.toArray.size=1 then vs.toArray[0] else .tuple vs.toArray) w:=fun f u=>by rw [u];rfl
  exact j _ i
 refine ⟨_,hr,?_⟩
 split at c
 ·exact c
 ·rename_i l k
  split
  ·rename_i hs
   match vs,hs,k with
   | [v],_,k=>exact absurd rfl (k v)
  ·exact c
theorem Zf3 (y:CtxOk C) (A:Ann) {f:FuncId} {fn:Func} (hf:C.P.funcs[f]?=some fn) (x:List Value) (h:Heap) (R:Value->Heap->Prop)
  (t:((match fn.body with|some c=>cOk fn.ntmps c|none=>false)&&Nat.ble x.length fn.ntmps)=true) (j:vcFn C A fn x h R):CallsQ C.q C.P f x.toArray h R:=by
 intro w hw
 subst hw
 unfold vcFn at j
 simp only [Bool.and_eq_true] at t
 obtain ⟨k,o⟩:=t
 have o:=Nat.le_of_ble_eq_true o
 split at j
 ·rename_i c u
  rw [u] at k
  refine calls_of_wp hf u ?_
  have a0:Agree fn.ntmps (env0 x) { tmps:=x.toArray++Array.replicate (fn.ntmps-x.toArray.size) undef,defers:=[] }:=by
   refine ⟨by simp;omega,rfl,fun i=>?_⟩
   simp only [Array.getD_eq_getD_getElem?,env0]
   rw [Array.getElem?_append]
   by_cases hi:i<x.length
   ·simp [hi]
   ·rw [if_neg (by simpa using hi)]
    rw [List.getElem?_eq_none ω]
    by_cases hj:i-x.length<fn.ntmps-x.length
    ·simp [hj]
    ·rw [Array.getElem?_eq_none (by simp;omega)]
     rfl
  refine wp_mono (ZDf y A c _ _ _ _ _ w w k j a0 (RestQ.refl w)) ?_
  intro ex a' w' a
  cases ex with
  | normal=>
   obtain ⟨e,b,p,_,g⟩:=a
   obtain ⟨v,r,s⟩:=ZqV y b w' fn R g
   exact ⟨b.2.1,v,r,v,rfl,p,s⟩
  | ret=>
   obtain ⟨e,b,p,g⟩:=a
   obtain ⟨v,r,s⟩:=ZqV y b w' fn R g
   exact ⟨b.2.1,v,r,v,rfl,p,s⟩
  | exit id=>obtain ⟨_,_,_,_,g⟩:=a;exact g.elim
  | goto l=>exact a.elim
  | panic ch=>exact a.elim
  | outgrown=>exact a.elim
 ·exact j.elim
end
end Go.Vc
