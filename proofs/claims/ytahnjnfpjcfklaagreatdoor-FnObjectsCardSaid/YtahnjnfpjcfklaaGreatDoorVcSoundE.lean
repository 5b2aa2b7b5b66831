import Derived.Test.YtahnjnfpjcfklaaGreatDoorVcSoundD
namespace Go.Vc
set_option linter.unusedVariables false
set_option linter.unusedSimpArgs false
open Go
def Agree (n:Nat) (e:Env) (a:Act):Prop:=a.tmps.size=n/\a.defers=[]/\∀ i,a.tmps.getD i undef=(e i).v
theorem Agree.eval {n:Nat} {e:Env} {a:Act} (h:Agree n e a):a.eval=ev e:=by
 funext x;cases x with
 | tmp t=>exact h.2.2 t
 | _=>rfl
def dOk (n:Nat) (o:Oper):Bool:=
 match o.dst with
 | some d=>Nat.blt d n
 | none=>true
theorem Agree.put {n:Nat} {e:Env} {a:Act} (h:Agree n e a) {o:Oper} (r:dOk n o=true) (v:Value):Agree n (updO e o.dst v) (a.put o.dst v):=by
 obtain ⟨h1,f,g⟩:=h;unfold dOk at r;cases k:o.dst with
 | none=>exact ⟨h1,f,g⟩
 | some d=>
  rw [k] at r;have u:d<n:=Nat.blt_eq.mp r;refine ⟨by simp [Act.put,h1],by simp [Act.put,f],fun i=>?_⟩;simp only [Act.put,updO,upd];by_cases hi:i=d
  ·subst hi;have:Nat.beq i i=true:=Nat.beq_refl i;rw [this];simp [Array.getD_eq_getD_getElem?,h1,u]
  ·have:Nat.beq i d=false:=by
    cases l:Nat.beq i d with
    | false=>rfl
    | true=>exact absurd (Nat.eq_of_beq_eq_true l) hi
   rw [this];have j:=g i;simp only [Array.getD_eq_getD_getElem?] at j ⊢;rw [Array.getElem?_setIfInBounds_ne (fun e=>hi e.symm)];exact j
theorem ZDP {e:Env} {d:Nat} {v:Value} (h:(e d).v=v):upd e d v=e:=by
 replace h:e d=.mk v:=by cases a:e d with|mk u=>rw [a] at h;exact congrArg _ h
 funext i;unfold upd;cases f:Nat.beq i d with
 | false=>rfl
 | true=>have:=Nat.eq_of_beq_eq_true f;subst this;exact h.symm
theorem ZuP {n:Nat} {e:Env} {a:Act} {ops:Array Oper} {o:Oper} {A B:Env->Prop} (u:Agree n e a) (h:vG ops.toList o e A B):
  (Region.wanted o (yielded ops a.tmps)=true/\A e)\/(Region.wanted o (yielded ops a.tmps)=false/\B e):=by
 unfold vG at h;unfold Region.wanted;cases hg:o.guard with
 | none=>rw [hg] at h;exact .inl ⟨rfl,h⟩
 | some p=>
  obtain ⟨j,w⟩:=p;rw [hg] at h;simp only at h ⊢;split at h
  ·exact h.elim
  ·rename_i d f;split at h
   ·rename_i b i;have x:yielded ops a.tmps j=some b:=by
     unfold yielded;have h1:(ops[j]?).bind (·.dst)=some d:=by
      unfold gslot at f;have l:ops.toList[j]?=ops[j]?:=by simp
      rw [l] at f;cases ho:ops[j]? with
      | none=>rw [ho] at f;cases f
      | some oj=>rw [ho] at f;exact f
     have g:=u.2.2 d;rw [i] at g;have r:a.tmps[d]?=some (.bool b):=by
      simp only [Array.getD_eq_getD_getElem?] at g;cases k:a.tmps[d]? with
      | none=>rw [k] at g;simp [undef] at g
      | some v=>rw [k] at g;simpa using g
     rw [h1];simp only [Option.bind_some,r]
    rw [x];have he:upd e d (.bool b)=e:=ZDP i;cases b<;>cases w<;>simp only [brn,cond_true,cond_false] at h<;>rw [he] at h
    ·exact .inl ⟨rfl,h⟩
    ·exact .inr ⟨rfl,h⟩
    ·exact .inr ⟨rfl,h⟩
    ·exact .inl ⟨rfl,h⟩
   ·rename_i vs i;refine .inr ⟨?_,h⟩;have x:yielded ops a.tmps j=none:=by
     unfold yielded;have h1:(ops[j]?).bind (·.dst)=some d:=by
      unfold gslot at f;have l:ops.toList[j]?=ops[j]?:=by simp
      rw [l] at f;cases ho:ops[j]? with
      | none=>rw [ho] at f;cases f
      | some oj=>rw [ho] at f;exact f
     have g:=u.2.2 d;rw [i] at g;rw [h1];simp only [Option.bind_some];cases k:a.tmps[d]? with
     | none=>rfl
     | some v=>
      simp only [Array.getD_eq_getD_getElem?,k,Option.getD_some] at g;subst g;rfl
    rw [x];rfl
   ·exact h.elim
section
variable {C:Ctx} {n:Nat}
theorem ZgO (hC:CtxOk C) {ops:Array Oper} {Q:Exit->Act->World->Prop}:∀ (l:List Oper) (N:Env->Heap->Prop) (e:Env) (a:Act) (w:World),
  vSeq C ops.toList l N e w.heap->Agree n e a->(∀ o∈l,dOk n o=true) ->
  (∀ e' a' w',Agree n e' a'->RestQ C.q w w'->(∀ i,i∉wrOps l->e' i=e i)->N e' w'.heap->Q .normal a' w')->wpList C.P ops Q l a w
 | [],N,e,a,w,h,hag,_,hQ=>hQ e a w hag (RestQ.refl w) (fun _ _=>rfl) h
 | o::r,N,e,a,w,h,hag,u,hQ=>by
  replace h:vG ops.toList o e (fun e=>vStep C o e (fun _=>False) w.heap w.heap .fix fun v h'=>vSeq C ops.toList r N (updO e o.dst v) h') (fun e=>vSeq C ops.toList r N (updO e o.dst undef) w.heap):=h;have a7:=u o (List.mem_cons_self ..);have a5:=fun x y=>u x (List.mem_cons_of_mem _ y);have a6:∀ (v:Value) (e':Env),(∀ i,i∉wrOps r->e' i=updO e o.dst v i)->∀ i,i∉wrOps (o::r)->e' i=e i:=by
   intro v e' a9 i hi;cases hod:o.dst with
   | none=>
    simp only [wrOps,hod] at hi;have:=a9 i hi;rw [hod] at this;exact this
   | some d=>
    simp only [wrOps,hod,List.mem_cons,not_or] at hi;have:=a9 i hi.2;rw [hod] at this;simp only [updO,upd] at this;have k:Nat.beq i d=false:=by
     cases k:Nat.beq i d with
     | false=>rfl
     | true=>exact absurd (Nat.eq_of_beq_eq_true k) hi.1
    rw [k] at this;exact this
  unfold wpList;rcases ZuP hag h with ⟨hw,h⟩|⟨hw,h⟩
  ·rw [if_pos hw];refine .inl ?_;unfold vStep at h;split at h
   ·obtain ⟨v,s,hr⟩:=ZuA hC h;unfold Oper.wp;rw [hag.eval,hr w];exact ZgO hC r N _ _ w s (hag.put a7 v) a5 fun e' a' w' h1 f g j=>hQ e' a' w' h1 f (a6 v e' g) j
   ·obtain ⟨v,s,hr⟩:=Zp5 hC h;unfold Oper.wp;rw [hag.eval,hr w (HLe.refl _)];exact ZgO hC r N _ _ w s (hag.put a7 v) a5 fun e' a' w' h1 f g j=>hQ e' a' w' h1 f (a6 v e' g) j
   ·have hE:=Zse hC h a hag.eval w rfl;refine ZrC (Oper.wp_mono ?_ hE);rintro a1 w1 ⟨v,rfl,a8,hk⟩;exact ZgO hC r N _ _ w1 hk (hag.put a7 v) a5 fun e' a' w' h1 f g j=>hQ e' a' w' h1 (a8.trans f) (a6 v e' g) j
  ·rw [if_neg (by simp [hw])];exact ZgO hC r N _ _ w h (hag.put a7 undef) a5 fun e' a' w' h1 f g j=>hQ e' a' w' h1 f (a6 undef e' g) j
theorem ZyT {T:List (Nat×TE)} {alt:List Nat} {ops:List Oper} {i:Nat} {o:Oper} (h:ops[i]?=some o):
  (match k3 T o.op with|.pure=>kdOf (kinds T alt ops) i=.pure|.read=>kdOf (kinds T alt ops) i=.read\/kdOf (kinds T alt ops) i=.fix\/kdOf (kinds T alt ops) i=.late\/kdOf (kinds T alt ops) i=.early|.eff=>kdOf (kinds T alt ops) i=.late\/kdOf (kinds T alt ops) i=.early):=by
 have a:kdOf (kinds T alt ops) i=kindAt (mkA ops) (k3s T alt ops) (concs (mkA ops) (k3s T alt ops)) (k3a T alt o.op i) i:=by
  unfold kdOf kinds;simp only;rw [List.getD_eq_getElem?_getD,List.getElem?_map,List.getElem?_zipIdx];have:(k3s T alt ops)[i]?=some (k3a T alt o.op i):=by unfold k3s;rw [List.getElem?_map,List.getElem?_zipIdx,h];simp
  rw [this];simp
 rw [a];unfold kindAt k3a;cases k3 T o.op with
 | pure=>rfl
 | read=>
  simp only;cases hasN alt i with
  | true=>
   simp only [cond_true];generalize (waitsAll _ _ i&&_)=b;cases b
   ·exact .inr (.inr (.inr rfl))
   ·exact .inr (.inr (.inl rfl))
  | false=>
   simp only [cond_false];generalize hasN _ i=b;cases b
   ·exact .inr (.inl rfl)
   ·exact .inl rfl
 | eff=>
  simp only;generalize (waitsAll _ _ i&&_)=b;cases b
  ·exact .inr rfl
  ·exact .inl rfl
theorem Zqx {o:Oper} {d:Nat} (a:o.dst=some d):∀ {l:List Oper},o∈l->d∈wrOps l
 | p::l,h=>by
  cases h with
  | head=>simp [wrOps,a]
  | tail _ h=>
   have:=Zqx a h;unfold wrOps;split<;>simp [this]
theorem Zgl (hC:CtxOk C) {alt:List Nat} {ops:Array Oper} {B:Nat->Prop} {h0:Heap} {w0:World} {Q:Act->World->Prop} (s:∀ o∈ops,dOk n o=true):
  ∀ (l:List Nat) (N:Env->Heap->Prop) (e:Env) (a:Act) (w:World),
  vLexI C ops.toList (kinds C.tab alt ops.toList) B h0 l N e w.heap->Agree n e a->RestQ C.q w0 w ->
  (∀ e' a' w',Agree n e' a'->RestQ C.q w0 w'->(∀ i,i∉wrOps ops.toList->e' i=e i)->N e' w'.heap->Q a' w') ->
  lexP C.P ops (kdOf (kinds C.tab alt ops.toList)) (fun w'=>ExtBut B h0 w'.heap/\RestQ C.q w0 w') l Q a w
 | [],N,e,a,w,h,hag,hrest,hQ=>hQ e a w hag hrest (fun _ _=>rfl) h
 | k::l,N,e,a,w,h,hag,hrest,hQ=>by
  rw [ZGe] at h;split at h
  ·rename_i ho;have a4:ops[k]?=none:=by simpa using ho
   unfold lexP;rw [a4];exact Zgl hC s l N e a w h hag hrest hQ
  ·rename_i o ho;have a4:ops[k]?=some o:=by simpa using ho
   have a2:=ZyT (T:=C.tab) (alt:=alt) ho;have ac:o∈ops.toList:=List.mem_of_getElem? ho;have ag:=s o (by simpa using ac);have af:∀ (v:Value) (e':Env),(∀ i,i∉wrOps ops.toList->e' i=updO e o.dst v i)->∀ i,i∉wrOps ops.toList->e' i=e i:=by
    intro v e' ad i hi;rw [ad i hi];cases hod:o.dst with
    | none=>rfl
    | some d=>
     have ae:i≠d:=fun x=>by subst x;exact hi (Zqx hod ac)
     simp only [updO,upd,ZbC ae,cond_false]
   have next:∀ (v:Value) (w1:World),RestQ C.q w0 w1->vLexI C ops.toList (kinds C.tab alt ops.toList) B h0 l N (updO e o.dst v) w1.heap ->
     lexP C.P ops (kdOf (kinds C.tab alt ops.toList)) (fun w'=>ExtBut B h0 w'.heap/\RestQ C.q w0 w') l Q (a.put o.dst v) w1:=fun v w1 g h1=>
    Zgl hC s l N _ _ w1 h1 (hag.put ag v) g fun e' a' w' u y g3 g4=>hQ e' a' w' u y (af v e' g3) g4
   rcases ZuP hag h with ⟨hw,h⟩|⟨hw,h⟩
   ·unfold vStep at h;split at h
    ·rename_i r;rw [r] at a2;simp only at a2;obtain ⟨v,f,hr⟩:=ZuA hC h;rw [Zdb a4 hw (by rw [a2];rfl)];exact ⟨v,fun w' _=>by rw [hag.eval];exact hr w',next v w hrest f⟩
    ·rename_i r;rw [r] at a2;simp only at a2;obtain ⟨v,f,hr⟩:=Zp5 hC h;have go:∀ {kk:Kind},kdOf (kinds C.tab alt ops.toList) k=kk->kk.eff=true->rdH kk (hmask B h0) w.heap=w.heap->(kEarly kk=true->ExtBut B h0 w.heap/\vLexI C ops.toList (kinds C.tab alt ops.toList) B h0 l N (updO e o.dst v) w.heap)->(kEarly kk=false->vLexI C ops.toList (kinds C.tab alt ops.toList) B h0 l N (updO e o.dst v) w.heap) ->
       lexP C.P ops (kdOf (kinds C.tab alt ops.toList)) (fun w'=>ExtBut B h0 w'.heap/\RestQ C.q w0 w') (k::l) Q a w:=by
      intro kk hk he hh h1 h2;rw [ZcM a4 hw (by rw [hk];exact he)];rw [hk,hh] at hr;unfold Oper.wp;rw [hag.eval,hr w (HLe.refl _)];rw [hk];cases kk<;>first|cases he|skip
      ·exact ⟨⟨(h1 rfl).1,hrest⟩,next v w hrest (h1 rfl).2⟩
      ·exact ⟨trivial,next v w hrest (h2 rfl)⟩
     rcases a2 with hk|hk|hk|hk
     ·rw [Zdb a4 hw (by rw [hk];rfl)];rw [hk] at f;refine ⟨v,fun w' a5=>?_,next v w hrest f⟩;rw [hag.eval];rw [hk] at a5 hr;exact hr w' (HLe.mask a5.1)
     ·rw [Zdb a4 hw (by rw [hk];rfl)];rw [hk] at f;refine ⟨v,fun w' a5=>?_,next v w hrest f⟩;rw [hag.eval];rw [hk] at a5 hr;have a5:w'=w:=a5;subst a5;exact hr w' (HLe.refl _)
     ·rw [hk] at f;exact go hk rfl rfl (fun e=>by cases e) (fun _=>f)
     ·rw [hk] at f;exact go hk rfl rfl (fun _=>f) (fun e=>by cases e)
    ·rename_i r;rw [r] at a2;simp only at a2;have hE:=Zse hC h a hag.eval w rfl;rw [ZcM a4 hw (by rcases a2 with hk|hk<;>rw [hk]<;>rfl)];refine Oper.wp_mono ?_ hE;rintro a1 w1 ⟨v,rfl,g,j⟩;rcases a2 with hk|hk
     ·rw [hk] at j ⊢;exact ⟨trivial,next v w1 (hrest.trans g) j⟩
     ·rw [hk] at j ⊢;exact ⟨⟨j.1,hrest.trans g⟩,next v w1 (hrest.trans g) j.2⟩
   ·rw [Zct a4 hw];exact next undef w hrest h
theorem ZtT {f:Nat->Prop}:∀ {l:List Nat},allE l f->∀ j∈l,f j
 | [j],h,i,hi=>by simp at hi;subst hi;exact h
 | j::k::l,h,i,hi=>by
  cases hi with
  | head=>exact h.1
  | tail _ hi=>exact ZtT h.2 i hi
theorem ZH9 (hC:CtxOk C) {alt:List Nat} {ops:Array Oper} {B:Nat->Prop} {h0:Heap} {w0:World} {Q:Act->World->Prop} (f:∀ o∈ops,dOk n o=true) {A:List (List Nat)}:
  ∀ (m:Nat) (a3:List Nat) (N:Env->Heap->Prop) (e:Env) (a:Act) (w:World),
  vOrd C ops.toList A (kinds C.tab alt ops.toList) B h0 m a3 N e w.heap->Agree n e a->RestQ C.q w0 w ->
  (∀ e' a' w',Agree n e' a'->RestQ C.q w0 w'->(∀ i,i∉wrOps ops.toList->e' i=e i)->N e' w'.heap->Q a' w') ->
  lexO C.P ops (kdOf (kinds C.tab alt ops.toList)) (fun w'=>ExtBut B h0 w'.heap/\RestQ C.q w0 w') A m a3 Q a w:=by
 intro m;induction m with
 | zero=>
  intro a3 N e a w h a4 a2 hQ;replace h:vOr0 _ _ _ _ _ _ _ _ _ _:=h;unfold vOr0 at h;split at h
  ·rename_i hm;exact ⟨hm,Zgl hC f a3 N e a w h a4 a2 hQ⟩
  ·exact h.elim
 | succ m ih=>
  intro a3 N e a w h a4 a2 hQ;replace h:vOr1 _ _ _ _ _ _ _ _ _ _ _:=h;unfold vOr1 at h;split at h
  ·rename_i hm;refine ⟨fun _=>Zgl hC f a3 N e a w h a4 a2 hQ,fun j hj=>?_⟩;rw [hm] at hj;cases hj
  ·rename_i hm;refine ⟨fun g=>absurd g hm,fun j hj=>?_⟩;refine Zgl hC f _ _ e a w (ZtT h j hj) a4 a2 ?_;intro e' a' w' k l r s;exact ih _ N e' a' w' s k l fun u v w2 k1 x k3 y=>hQ u v w2 k1 x (fun i hi=>by rw [k3 i hi,r i hi]) y
theorem Zh0:∀ {l l':List Nat},lEq l l'=true->l=l'
 | [],[],_=>rfl
 | x::r,y::s,h=>by
  simp only [lEq,Bool.and_eq_true] at h;rw [Nat.eq_of_beq_eq_true h.1,Zh0 h.2]
 | [],_::_,h=>by cases h
 | _::_,[],h=>by cases h
theorem Zrq:∀ {l l':List Kind},kdNats l=kdNats l'->l=l'
 | [],[],_=>rfl
 | x::r,y::s,h=>by
  simp only [kdNats,List.cons.injEq] at h;have h1:x=y:=by have:=h.1;cases x<;>cases y<;>simp [kdNat] at this ⊢
  rw [h1,Zrq h.2]
 | [],_::_,h=>by cases h
 | _::_,[],h=>by cases h
theorem ZdO:∀ {t t':OT},otEq t t'=true->t=t'
 | .fin l,.fin l',h=>by rw [Zh0 (show lEq l l'=true from h)]
 | .sg l t,.sg l' t',h=>by
  simp only [otEq,Bool.and_eq_true] at h;rw [Zh0 h.1,ZdO h.2]
 | .both a b,.both a' b',h=>by
  simp only [otEq,Bool.and_eq_true] at h;rw [ZdO h.1,ZdO h.2]
 | .fin _,.sg _ _,h=>by cases h
 | .fin _,.both _ _,h=>by cases h
 | .fin _,.bad,h=>by cases h
 | .sg _ _,.fin _,h=>by cases h
 | .sg _ _,.both _ _,h=>by cases h
 | .sg _ _,.bad,h=>by cases h
 | .both _ _,.fin _,h=>by cases h
 | .both _ _,.sg _ _,h=>by cases h
 | .both _ _,.bad,h=>by cases h
 | .bad,.fin _,h=>by cases h
 | .bad,.sg _ _,h=>by cases h
 | .bad,.both _ _,h=>by cases h
 | .bad,.bad,h=>by cases h
section
variable {ops:List Oper} {ks:List Kind} {B:Nat->Prop} {h0:Heap}
theorem Zlg {N:Env->Heap->Prop} {l':List Nat}:∀ l:List Nat,vLexI C ops ks B h0 (l++l') N=vLexI C ops ks B h0 l (vLexI C ops ks B h0 l' N)
 | []=>rfl
 | i::l=>by
  show vLx1 C ops ks B h0 i (vLexI C ops ks B h0 (l++l') N)=vLx1 C ops ks B h0 i (vLexI C ops ks B h0 l _);rw [Zlg l]
theorem Zzk {N:Env->Heap->Prop} (l:List Nat) (t:OT):vOT C ops ks B h0 N (OT.pre l t)=vLexI C ops ks B h0 l (vOT C ops ks B h0 N t):=by
 cases t with
 | fin l'=>exact Zlg l
 | sg l' t=>exact Zlg l
 | both a b=>rfl
 | bad=>rfl
theorem Zq4 {N:Env->Heap->Prop} {e:Env} {h:Heap} (f:Nat->OT):∀ (a:List Nat) (j:Nat),vOT C ops ks B h0 N (allOT f j a) e h=allE (j::a) fun j=>vOT C ops ks B h0 N (f j) e h
 | [],j=>rfl
 | k::a,j=>by
  show (vOT C ops ks B h0 N (f j) e h/\vOT C ops ks B h0 N (allOT f k a) e h)=_;rw [Zq4 f a k];rfl
theorem Zlk {A:List (List Nat)} {N:Env->Heap->Prop}:∀ (n:Nat) (a:List Nat) (e:Env) (h:Heap),vOT C ops ks B h0 N (mkOT A ks n a) e h=vOrd C ops A ks B h0 n a N e h:=by
 intro n;induction n with
 | zero=>
  intro a e h;show _=vOr0 C ops A ks B h0 a N e h;unfold mkOT vOr0;cases minEff A (kdOf ks) a<;>rfl
 | succ n g=>
  intro a e h;show _=vOr1 C ops A ks B h0 (vOrd C ops A ks B h0 n) a N e h;unfold mkOT vOr1;cases minEff A (kdOf ks) a with
  | nil=>rfl
  | cons j k=>
   simp only;rw [Zq4];congr 1;funext j;rw [Zzk,show vOT C ops ks B h0 N (mkOT A ks n (rst A j a))=fun e h=>vOrd C ops A ks B h0 n (rst A j a) N e h from funext fun e=>funext fun h=>g _ e h]
theorem Zor {ks:List Kind} (h:hasRE ks=false) (i:Nat):kRead (kdOf ks i)=false/\kEarly (kdOf ks i)=false:=by
 unfold kdOf;rw [List.getD_eq_getElem?_getD];cases hk:ks[i]? with
 | none=>exact ⟨rfl,rfl⟩
 | some k=>
  have a:=List.mem_of_getElem? hk;have h1:=(List.any_eq_false.1 h) k a;simp only [Option.getD_some];simpa using h1
theorem Zvh {o:Oper} {e:Env} {B':Nat->Prop} {h1 h:Heap} {k k':Kind} {K:Value->Heap->Prop} (a:kRead k=false/\kEarly k=false) (g:kRead k'=false/\kEarly k'=false):
  vStep C o e B h0 h k K=vStep C o e B' h1 h k' K:=by
 have j:∀ {k:Kind} {x:Heap},kRead k=false->rdH k x h=h:=fun {k x} a=>by cases k<;>first|rfl|cases a
 unfold vStep;rw [a.2,g.2,j a.1,j g.1];rfl
theorem ZAB {a:List Kind} {B':Nat->Prop} {h1:Heap} (j:hasRE ks=false) (g:hasRE a=false) {i:Nat} {K:Env->Heap->Prop}:vLx1 C ops ks B h0 i K=vLx1 C ops a B' h1 i K:=by
 funext e h;unfold vLx1;split
 ·rfl
 ·congr 1;funext e;exact Zvh (Zor j i) (Zor g i)
theorem Zpj {a:List Kind} {B':Nat->Prop} {h1:Heap} (g:hasRE ks=false) (e:hasRE a=false) {N:Env->Heap->Prop}:∀ l:List Nat,vLexI C ops ks B h0 l N=vLexI C ops a B' h1 l N
 | []=>rfl
 | i::l=>by
  show vLx1 C ops ks B h0 i (vLexI C ops ks B h0 l N)=vLx1 C ops a B' h1 i (vLexI C ops a B' h1 l N);rw [Zpj g e l,ZAB g e]
theorem Zjs {g:List Kind} {B':Nat->Prop} {h1:Heap} (k:hasRE ks=false) (j:hasRE g=false) {N:Env->Heap->Prop}:∀ t:OT,vOT C ops ks B h0 N t=vOT C ops g B' h1 N t
 | .fin l=>Zpj k j l
 | .sg l t=>by
  show vLexI C ops ks B h0 l (vOT C ops ks B h0 N t)=vLexI C ops g B' h1 l (vOT C ops g B' h1 N t);rw [Zjs k j t,Zpj k j]
 | .both a b=>by
  show (fun e h=>vOT C ops ks B h0 N a e h/\vOT C ops ks B h0 N b e h)=fun e h=>vOT C ops g B' h1 N a e h/\vOT C ops g B' h1 N b e h;rw [Zjs k j a,Zjs k j b]
 | .bad=>rfl
theorem Zsp (a:hasRE ks=false) {N:Env->Heap->Prop}:∀ (l:List Oper) (m:Nat),(∀ j,l[j]?=ops[m+j]?)->vLexI C ops ks B h0 (List.range' m l.length) N=vSeq C ops l N
 | [],_,_=>rfl
 | o::l,m,hl=>by
  show vLx1 C ops ks B h0 m (vLexI C ops ks B h0 (List.range' (m+1) l.length) N)=vSq1 C ops o (vSeq C ops l N);rw [Zsp a l (m+1) fun j=>by have:=hl (j+1);simp only [List.getElem?_cons_succ] at this;rw [this];congr 1;omega];funext e h;unfold vLx1 vSq1;have h0:=hl 0;simp only [List.getElem?_cons_zero,Nat.add_zero] at h0;rw [<-h0];simp only;congr 1;funext e;exact Zvh (Zor a m) ⟨rfl,rfl⟩
end
theorem ZEv (hC:CtxOk C) {id:Nat} {alt:List Nat} {rg:Option RG} {ops:Array Oper} {u:Bool} {Q:Exit->Act->World->Prop} {N:Env->Heap->Prop} {e:Env} {a:Act} {w:World}
  (h:vRegion C rg ops u N e w.heap) (r:u=true->rgOk C alt rg ops=true) (a4:Agree n e a) (f:∀ o∈ops,dOk n o=true)
  (hQ:∀ x a' w',Agree n x a'->RestQ C.q w w'->(∀ i,i∉wrOps ops.toList->x i=e i)->N x w'.heap->Q .normal a' w'):(Code.region id ops u).wp C.P Q a w:=by
 cases u
 ·exact wp_region_list (ZgO hC _ N e a w h a4 (fun o ho=>f o (by simpa using ho)) hQ)
 ·have r:=r rfl;unfold rgOk at r;simp only [Bool.and_eq_true] at r;obtain ⟨a6,r⟩:=r;have h:∃ B:Nat->Prop,vOrd C ops.toList (mkA ops.toList) (kinds C.tab alt ops.toList) B w.heap ops.toList.length (List.range ops.toList.length) N e w.heap:=by
   cases rg with
   | none=>
    simp only [Bool.and_eq_true,Bool.not_eq_true'] at r;refine ⟨fun _=>False,?_⟩;rw [<-Zlk,ZdO r.2];show vLexI C ops.toList (kinds C.tab alt ops.toList) (fun _=>False) w.heap (List.range ops.toList.length) N e w.heap;rw [List.range_eq_range',Zsp r.1 ops.toList 0 fun j=>by rw [Nat.zero_add]];exact h
   | some rg=>
    obtain ⟨a8,t,b⟩:=rg;simp only [Bool.and_eq_true] at r;cases b with
    | true=>
     obtain ⟨B,h⟩:=(show ∃ B:Nat->Prop,vOT C ops.toList a8 B w.heap N t e w.heap from h)
     refine ⟨B,?_⟩;rw [<-Zlk,ZdO r.1,Zrq (Zh0 r.2)];exact h
    | false=>
     simp only [Bool.and_eq_true,Bool.not_eq_true'] at r;refine ⟨fun _=>False,?_⟩;rw [<-Zlk,ZdO r.1,Zjs r.2.1 r.2.2 (B':=fun _=>False) (h1:=w.heap)];exact h
  obtain ⟨B,h⟩:=h;refine ZCc (Cl:=fun w'=>ExtBut B w.heap w'.heap/\RestQ C.q w w') hC.mixed a6 ⟨eY _ _,rfl,rfl,rfl,fun _=>Nat.le_succ _⟩ ?_;refine ZH9 hC (w0:=w) f _ _ N e a { w with drawn:=w.drawn+1 } (by simpa using h) a4 ⟨rfl,rfl,rfl,fun _=>Nat.le_succ _⟩ ?_;intro x a' w' h1 g k l;exact hQ x a' w' h1 g k l
def aOk (C:Ctx) (A:Ann):Code->Bool
 | .region id ops draw=>match draw with
  | true=>rgOk C (altGet A.alts id) (rgGet A.regs id) ops
  | false=>true
 | .seq a b=>aOk C A a&&aOk C A b
 | .cond _ x y=>aOk C A x&&aOk C A y
 | .block _ c=>aOk C A c
 | .loop c=>aOk C A c
 | _=>true
def cOk (n:Nat):Code->Bool
 | .region _ ops _=>ops.toList.all (dOk n)
 | .seq a b=>cOk n a&&cOk n b
 | .cond _ x y=>cOk n x&&cOk n y
 | .block _ c=>cOk n c
 | .loop c=>cOk n c
 | _=>true
def QQ (q:Prop) (n:Nat) (w0:World) (f:Env) (W:List Nat) (N:Env->Heap->Prop) (X:Nat->Env->Heap->Prop) (R:Env->Heap->Prop):Exit->Act->World->Prop
 | .normal,a,w=>∃ e,Agree n e a/\RestQ q w0 w/\(∀ i,i∉W->e i=f i)/\N e w.heap
 | .exit id,a,w=>∃ e,Agree n e a/\RestQ q w0 w/\(∀ i,i∉W->e i=f i)/\X id e w.heap
 | .ret,a,w=>∃ e,Agree n e a/\RestQ q w0 w/\R e w.heap
 | _,_,_=>False
theorem ZdF:∀ (ks:List TK) (J:JT ks) (a:List Value->Heap->Prop) (vs:List Value) (h:Heap),allJ ks J a->apJ ks J vs h->vs.length=ks.length->a vs h
 | [],J,a,vs,h,ha,hp,hl=>by
  have:vs=[]:=List.eq_nil_of_length_eq_zero hl;subst this;exact ha h hp
 | .i k::ks,J,a,[],h,_,hp,hl=>by simp at hl
 | .b::ks,J,a,[],h,_,hp,hl=>by simp at hl
 | .s::ks,J,a,[],h,_,hp,hl=>by simp at hl
 | .p::ks,J,a,[],h,_,hp,hl=>by simp at hl
 | .v::ks,J,a,[],h,_,hp,hl=>by simp at hl
 | .i k::ks,J,a,v::vs,h,ha,hp,hl=>by
  cases v<;>simp only [apJ] at hp<;>try exact hp.elim
  rename_i k' x;obtain ⟨e,hp⟩:=Zas hp;obtain rfl:=Zm9.1 e;exact ZdF ks (J x) (fun vs h=>a (.int k' x::vs) h) vs h (ha x) hp (by simpa using hl)
 | .b::ks,J,a,v::vs,h,ha,hp,hl=>by
  cases v<;>simp only [apJ] at hp<;>try exact hp.elim
  rename_i x;exact ZdF ks (J x) (fun vs h=>a (.bool x::vs) h) vs h (ha x) hp (by simpa using hl)
 | .s::ks,J,a,v::vs,h,ha,hp,hl=>by
  cases v<;>simp only [apJ] at hp<;>try exact hp.elim
  rename_i x;exact ZdF ks (J x) (fun vs h=>a (.string x::vs) h) vs h (ha x) hp (by simpa using hl)
 | .p::ks,J,a,v::vs,h,ha,hp,hl=>by
  cases v<;>simp only [apJ] at hp<;>try exact hp.elim
  rename_i x;cases x<;>simp only at hp<;>try exact hp.elim
  rename_i x;exact ZdF ks (J x) (fun vs h=>a (.pointer (some x)::vs) h) vs h (ha x) hp (by simpa using hl)
 | .v::ks,J,a,v::vs,h,ha,hp,hl=>by
  simp only [apJ] at hp;exact ZdF ks (J v) (fun vs h=>a (v::vs) h) vs h (ha v) hp (by simpa using hl)
theorem ZmF (e:Env):∀ L:List (Nat×TK),(evL e L).length=(tks L).length
 | []=>rfl
 | (_,_)::L=>by simp [evL,tks,ZmF e L]
theorem ZrW (e:Env):∀ (L:List (Nat×TK)) (i:Nat),lookupL L (evL e L) i=some (e i).v\/lookupL L (evL e L) i=none
 | [],i=>.inr rfl
 | (d,k)::L,i=>by
  simp only [evL,lookupL];cases a:Nat.beq i d with
  | true=>have:=Nat.eq_of_beq_eq_true a;subst this;exact .inl rfl
  | false=>exact ZrW e L i
theorem Zrp {e a:Env} {W:List Nat} {L:List (Nat×TK)} (h:∀ i,i∉W->a i=e i):mix e W a L (evL a L)=a:=by
 funext i;unfold mix;rcases ZrW a L i with h1|h1
 ·rw [h1];exact Wv.mk_v _
 ·rw [h1];simp only;cases hw:hasN W i with
  | true=>rfl
  | false=>
   have:i∉W:=fun g=>by rw [Zbm.2 g] at hw;cases hw
   exact (h i this).symm
theorem ZGq (hC:CtxOk C) (A:Ann) (c:Code):∀ (N:Env->Heap->Prop) (X:Nat->Env->Heap->Prop) (R:Env->Heap->Prop) (e:Env) (a:Act) (w w0:World),
  aOk C A c=true->cOk n c=true->vc C A c N X R e w.heap->Agree n e a->RestQ C.q w0 w->c.wp C.P (QQ C.q n w0 e (wr c) N X R) a w:=by
 induction c with
 | skip=>intro N X R e a w w0 _ _ h a4 hr;exact wp_skip ⟨e,a4,hr,fun _ _=>rfl,h⟩
 | region id ops draw=>
  intro N X R e a w w0 ha v h a4 hr;simp only [cOk,List.all_eq_true] at v;exact ZEv hC h (alt:=altGet A.alts id) (fun e=>by subst e;exact ha) a4 (fun o ho=>v o (by simpa using ho)) fun e' a' w' h1 r h3 u=>⟨e',h1,hr.trans r,h3,u⟩
 | seq x y ihx ihy=>
  intro N X R e a w w0 ha v h a4 hr;simp only [cOk,Bool.and_eq_true] at v;simp only [aOk,Bool.and_eq_true] at ha;refine wp_seq ?_;rw [ZFV] at h
  -- aa of x
  have aa:∀ (N':Env->Heap->Prop),(∀ e' a' w',Agree n e' a'->RestQ C.q w0 w'->(∀ i,i∉wr x->e' i=e i)->N' e' w'.heap->y.wp C.P (QQ C.q n w0 e (wr (.seq x y)) N X R) a' w') ->
    ∀ ex a' w',QQ C.q n w0 e (wr x) N' X R ex a' w'->Exit.then (y.wp C.P (QQ C.q n w0 e (wr (.seq x y)) N X R)) (QQ C.q n w0 e (wr (.seq x y)) N X R) ex a' w':=by
   intro N' au ex a' w' j;cases ex with
   | normal=>obtain ⟨e',h1,r,h3,u⟩:=j;exact au e' a' w' h1 r h3 u
   | exit id=>obtain ⟨e',h1,r,h3,u⟩:=j;exact ⟨e',h1,r,fun i hi=>h3 i (fun hm=>hi (List.mem_append_left _ hm)),u⟩
   | ret=>exact j
   | goto l=>exact j.elim
   | panic ch=>exact j.elim
   | outgrown=>exact j.elim
  have af:∀ e' a' w',Agree n e' a'->RestQ C.q w0 w'->(∀ i,i∉wr x->e' i=e i)->vc C A y N X R e' w'.heap->y.wp C.P (QQ C.q n w0 e (wr (.seq x y)) N X R) a' w':=by
   intro e' a' w' h1 r h3 u;refine wp_mono (ihy N X R e' a' w' w0 ha.2 v.2 u h1 r) ?_;intro ex a2 w2 j;have ac:∀ k:Env,(∀ i,i∉wr y->k i=e' i)->∀ i,i∉wr (.seq x y)->k i=e i:=fun k g i hi=>by
    simp only [wr,List.mem_append,not_or] at hi;rw [g i hi.2,h3 i hi.1]
   cases ex with
   | normal=>obtain ⟨k,g1,g2,g3,g4⟩:=j;exact ⟨k,g1,g2,ac k g3,g4⟩
   | exit id=>obtain ⟨k,g1,g2,g3,g4⟩:=j;exact ⟨k,g1,g2,ac k g3,g4⟩
   | ret=>exact j
   | goto l=>exact j.elim
   | panic ch=>exact j.elim
   | outgrown=>exact j.elim
  split at h
  ·rename_i L hL;obtain ⟨J,h1,r⟩:=h;refine wp_mono (ihx _ X R e a w w0 ha.1 v.1 h1 a4 hr) (aa _ ?_);intro e' a' w' g1 g2 g3 g4;refine af e' a' w' g1 g2 g3 ?_;rw [ZiY] at g4;have:=ZdF _ _ _ _ _ (r e') g4 (ZmF e' L);rw [Zrp g3] at this;exact this
  ·exact wp_mono (ihx _ X R e a w w0 ha.1 v.1 h a4 hr) (aa _ af)
 | cond c x y ihx ihy=>
  intro N X R e a w w0 ha v h a4 hr;simp only [cOk,Bool.and_eq_true] at v;simp only [aOk,Bool.and_eq_true] at ha;rw [ZBu] at h;split at h
  ·rename_i t ht;have hc:a.eval c=.bool t:=by rw [a4.eval];exact ht
   have ag:∀ (W W':List Nat),(∀ i,i∈W->i∈W')->∀ ex a' w',QQ C.q n w0 e W N X R ex a' w'->QQ C.q n w0 e W' N X R ex a' w':=by
    intro W W' hW ex a' w' j;cases ex with
    | normal=>obtain ⟨e',h1,r,h3,u⟩:=j;exact ⟨e',h1,r,fun i hi=>h3 i (fun hm=>hi (hW i hm)),u⟩
    | exit id=>obtain ⟨e',h1,r,h3,u⟩:=j;exact ⟨e',h1,r,fun i hi=>h3 i (fun hm=>hi (hW i hm)),u⟩
    | ret=>exact j
    | goto l=>exact j.elim
    | panic ch=>exact j.elim
    | outgrown=>exact j.elim
   cases t
   ·exact wp_cond_false hc (wp_mono (ihy N X R e a w w0 ha.2 v.2 h a4 hr) (ag _ _ fun i hi=>List.mem_append_right _ hi))
   ·exact wp_cond_true hc (wp_mono (ihx N X R e a w w0 ha.1 v.1 h a4 hr) (ag _ _ fun i hi=>List.mem_append_left _ hi))
  ·exact h.elim
 | block id c ih=>
  intro N X R e a w w0 ha v h a4 hr;rw [Zx8] at h;refine wp_block (wp_mono (ih N _ R e a w w0 ha v h a4 hr) ?_);intro ex a' w' j;cases ex with
  | normal=>exact j
  | exit id'=>
   obtain ⟨e',h1,r,h3,u⟩:=j;simp only [Exit.inBlock];by_cases ai:id'=id
   ·subst ai;rw [if_pos rfl];have:Nat.beq id' id'=true:=Nat.beq_refl id';rw [this] at u;exact ⟨e',h1,r,h3,u⟩
   ·rw [if_neg ai];have:Nat.beq id' id=false:=by
     cases hb:Nat.beq id' id with
     | false=>rfl
     | true=>exact absurd (Nat.eq_of_beq_eq_true hb) ai
    rw [this] at u;exact ⟨e',h1,r,h3,u⟩
  | ret=>exact j
  | goto l=>exact j.elim
  | panic ch=>exact j.elim
  | outgrown=>exact j.elim
 | loop c ih=>
  intro N X R e a w w0 ha v h a4 hr;rw [ZHR] at h;split at h
  ·rename_i L hL;obtain ⟨J,⟨n0,h0⟩,aj⟩:=h;refine wp_loop_ghost (fun m a' w'=>∃ e',Agree n e' a'/\RestQ C.q w0 w'/\(∀ i,i∉wr c->e' i=e i)/\apJ (tks L) (J m) (evL e' L) w'.heap) n0 ⟨e,a4,hr,fun _ _=>rfl,(ZiY _ _ _).mp h0⟩ ?_;rintro m a' w' ⟨e',g1,g2,g3,g4⟩;have hb:=ZdF _ _ _ _ _ (aj m e') g4 (ZmF e' L);rw [Zrp g3] at hb;refine wp_mono (ih _ X R e' a' w' w0 ha v hb g1 g2) ?_;intro ex a2 w2 j;have ac:∀ k:Env,(∀ i,i∉wr c->k i=e' i)->∀ i,i∉wr c->k i=e i:=fun k g i hi=>by rw [g i hi,g3 i hi]
   cases ex with
   | normal=>
    obtain ⟨k,k1,k2,k3,m',aq,k4⟩:=j;exact ⟨m',aq,k,k1,k2,ac k k3,(ZiY _ _ _).mp k4⟩
   | exit id=>obtain ⟨k,k1,k2,k3,k4⟩:=j;exact ⟨k,k1,k2,ac k k3,k4⟩
   | ret=>exact j
   | goto l=>exact j.elim
   | panic ch=>exact j.elim
   | outgrown=>exact j.elim
  ·exact h.elim
 | exit id=>intro N X R e a w w0 _ _ h a4 hr;exact wp_exit ⟨e,a4,hr,fun _ _=>rfl,h⟩
 | ret=>intro N X R e a w w0 _ _ h a4 hr;exact wp_ret ⟨e,a4,hr,h⟩
 | rangeFunc f ps x y _ _=>intro N X R e a w w0 _ _ h;exact h.elim
 | scope c _=>intro N X R e a w w0 _ _ h;exact h.elim
 | label l=>intro N X R e a w w0 _ _ h;exact h.elim
 | goto l=>intro N X R e a w w0 _ _ h;exact h.elim
 | refuse s=>intro N X R e a w w0 _ _ h;exact h.elim
def resF (e:Array Value):ResultVar->Sem Value
 | .tmp t=>pure (e.getD t undef)
 | .cell a t=>do loadVar t (<-asAddr (e.getD a undef))
theorem Zpd (k:CtxOk C) {e:Env} {a:Act} (j:Agree n e a) (w:World):∀ (rs:List ResultVar) (K:List Value->Prop),vRes C e w.heap rs K ->
  ∃ vs,K vs/\(rs.mapM (resF a.tmps)).run C.P w=.ok vs w
 | [],K,h=>⟨[],h,rfl⟩
 | .tmp t::rs,K,h=>by
  replace h:vRes C e w.heap rs fun vs=>K ((e t).v::vs):=(ZbZ _ _).mp h;obtain ⟨vs,h1,f⟩:=Zpd k j w rs _ h;refine ⟨_,h1,?_⟩;rw [List.mapM_cons];simp only [resF,Sem.run_bind,Sem.run_pure,Result.andThen_ok,f,j.2.2 t]
 | .cell b t::rs,K,h=>by
  obtain ⟨p,v,hp,o,l⟩:=Zqe k h;obtain ⟨vs,h1,f⟩:=Zpd k j w rs _ o;refine ⟨_,h1,?_⟩;rw [List.mapM_cons];have g:(resF a.tmps (.cell b t)).run C.P w=.ok v w:=by
   simp only [resF,Sem.run_bind,j.2.2 b,hp,asAddr,Sem.run_pure,Result.andThen_ok,l w (HLe.refl _)]
  simp only [Sem.run_bind,g,Sem.run_pure,Result.andThen_ok,f]
theorem Zp8 (hC:CtxOk C) {e:Env} {a:Act} (o:Agree n e a) (w:World) (fn:Func) (R:Value->Heap->Prop) (h:vRet C fn.results.toList R e w.heap):
  ∃ v,(results fn a.tmps).run C.P w=.ok v w/\R v w.heap:=by
 obtain ⟨vs,h1,g⟩:=Zpd hC o w _ _ h;have r:(results fn a.tmps).run C.P w=.ok (if h:vs.toArray.size=1 then vs.toArray[0] else .tuple vs.toArray) w:=by
  unfold results;rw [Array.mapM_eq_mapM_toList];have i:(fn.results.toList.mapM (fun x=>match x with|.tmp t=>pure (a.tmps.getD t undef)|.cell b t=>do loadVar t (<-asAddr (a.tmps.getD b undef))):Sem (List Value)).run C.P w=.ok vs w:=g;simp only [Sem.run_bind,Sem.run_map,Sem.run_pure];have j:∀ f:ResultVar->Sem Value,(fn.results.toList.mapM f).run C.P w=.ok vs w->((((fn.results.toList.mapM f).run C.P w).andThen fun a w'=>Result.ok a.toArray w').andThen fun a w'=>Result.ok (if h:a.size=1 then a[0] else Value.tuple a) w') =
    .ok (if h:vs.toArray.size=1 then vs.toArray[0] else .tuple vs.toArray) w:=fun f u=>by rw [u];rfl
  exact j _ i
 refine ⟨_,r,?_⟩;split at h1
 ·exact h1
 ·rename_i l k;split
  ·rename_i hs
   match vs,hs,k with
   | [v],_,k=>exact absurd rfl (k v)
  ·exact h1
theorem Zhx (hC:CtxOk C) (A:Ann) {f:FuncId} {fn:Func} (hf:C.P.funcs[f]?=some fn) (a2:List Value) (h:Heap) (R:Value->Heap->Prop)
  (x:((match fn.body with|some c=>aOk C A c&&cOk fn.ntmps c|none=>false)&&Nat.ble a2.length fn.ntmps)=true) (k:vcFn C A fn a2 h R):CallsQ C.q C.P f a2.toArray h R:=by
 intro w hw;subst hw;unfold vcFn at k;simp only [Bool.and_eq_true] at x;obtain ⟨a,o⟩:=x;have o:=Nat.le_of_ble_eq_true o;split at k
 ·rename_i c y;rw [y] at a;simp only [Bool.and_eq_true] at a;refine calls_of_wp hf y ?_;have a4:Agree fn.ntmps (env0 a2) { tmps:=a2.toArray++Array.replicate (fn.ntmps-a2.toArray.size) undef,defers:=[] }:=by
   refine ⟨by simp;omega,rfl,fun i=>?_⟩;simp only [Array.getD_eq_getD_getElem?,env0];rw [Array.getElem?_append];by_cases hi:i<a2.length
   ·simp [hi]
   ·rw [if_neg (by simpa using hi)];rw [List.getElem?_eq_none ω];by_cases hj:i-a2.length<fn.ntmps-a2.length
    ·simp [hj]
    ·rw [Array.getElem?_eq_none (by simp;omega)];rfl
  refine wp_mono (ZGq hC A c _ _ _ _ _ w w a.1 a.2 k a4 (RestQ.refl w)) ?_;intro ex a' w' g;cases ex with
  | normal=>
   obtain ⟨e,h1,r,_,j⟩:=g;obtain ⟨v,s,u⟩:=Zp8 hC h1 w' fn R j;exact ⟨h1.2.1,v,s,v,rfl,r,u⟩
  | ret=>
   obtain ⟨e,h1,r,j⟩:=g;obtain ⟨v,s,u⟩:=Zp8 hC h1 w' fn R j;exact ⟨h1.2.1,v,s,v,rfl,r,u⟩
  | exit id=>obtain ⟨_,_,_,_,j⟩:=g;exact j.elim
  | goto l=>exact g.elim
  | panic ch=>exact g.elim
  | outgrown=>exact g.elim
 ·exact k.elim
end
end Go.Vc
