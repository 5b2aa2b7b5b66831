import Derived.Test.YtcneolcmjjlmnaaGreatDoorVcSoundD
open Nat renaming beq->Jv,eq_of_beq_eq_true->JK,le_succ->XP
open Array renaming getD_eq_getD_getElem?->X2
open List renaming getD_eq_getElem?_getD->Wo,mem_of_getElem?->JH,range'->X8,range->Xi,mem_append_left->J1,mapM_cons->Wq,length->Jk
open Bool renaming and_eq_true->Jz,not_eq_true'->JV,true->Ji,false->Jj
open Option renaming some->Jg
open Go renaming Value->Jl
namespace Go.Vc
set_option linter.unusedVariables false
set_option linter.unusedSimpArgs false
open Go
def Agree (n:Nat) (e:Env) (a:Act):Prop:=a.tmps.size=n/\a.defers=[]/\∀i,a.tmps.getD i undef=(e i).v
theorem Agree.eval {n:Nat} {e:Env} {a:Act} (h:Agree n e a):a.eval=ev e:=by
 funext x;cases x with
 | tmp t=>exact h.2.2 t
 | _=>rfl
def dOk (n:Nat) (o:Oper):Bool:=
 match o.dst with
 | some d=>Nat.blt d n
 | none=>Ji
theorem Agree.put {n:Nat} {e:Env} {a:Act} (h:Agree n e a) {o:Oper} (l:dOk n o=Ji) (v:Jl):Agree n (updO e o.dst v) (a.put o.dst v):=by
 obtain ⟨h1,f,g⟩:=h;unfold dOk at l;cases j:o.dst with
 | none=>exact ⟨h1,f,g⟩
 | some d=>
  rw [j] at l;have u:d<n:=Nat.blt_eq.mp l;refine ⟨by simp [Act.put,h1],by simp [Act.put,f],λi=>?_⟩;simp only [Act.put,updO,upd];by_cases hi:i=d
  .simp_all
  .have:Jv i d=false:=by
    grind [absurd,JK]
   rw [this];have k:=g i;simp only [X2] at k ⊢;grind
theorem ZO0 {e:Env} {d:Nat} {v:Jl} (h:(e d).v=v):upd e d v=e:=by
 replace h:e d=.mk v:=by cases a:e d with|mk u=>rw [a] at h;exact congrArg _ h
 grind [upd,JK]
theorem ZwP {n:Nat} {e:Env} {a:Act} {ops:Array Oper} {o:Oper} {A B:Env->Prop} (u:Agree n e a) (h:vG ops.toList o e A B):
  (Region.wanted o (yielded ops a.tmps)=Ji/\A e)\/(Region.wanted o (yielded ops a.tmps)=Jj/\B e):=by
 unfold vG at h;unfold Region.wanted;cases hg:o.guard with
 | none=>rw [hg] at h;exact .inl ⟨rfl,h⟩
 | some p=>
  obtain ⟨j,x⟩:=p;rw [hg] at h;simp only at h ⊢;split at h
  .exact h.elim
  .rename_i d i;split at h
   .rename_i b f;have w:yielded ops a.tmps j=Jg b:=by
     unfold yielded;have h1:(ops[j]?).bind (·.dst)=Jg d:=by
      grind [gslot]
     have g:=u.2.2 d;rw [f] at g;have k:a.tmps[d]?=Jg (.bool b):=by
      simp only [X2] at g;grind [undef]
     grind
    rw [w];have he:upd e d (.bool b)=e:=ZO0 f;grind
   .rename_i vs f;refine .inr ⟨?_,h⟩;have w:yielded ops a.tmps j=none:=by
     unfold yielded;have h1:(ops[j]?).bind (·.dst)=Jg d:=by
      grind [gslot]
     have g:=u.2.2 d;rw [f] at g;rw [h1];simp only [Option.bind_some];cases l:a.tmps[d]? with
     | none=>rfl
     | some v=>
      simp_all
    grind
   .exact h.elim
section
variable {C:Ctx} {n:Nat}
theorem Zht (hC:CtxOk C) {ops:Array Oper} {Q:Exit->Act->World->Prop}:∀(l:List Oper) (N:Env->Heap->Prop) (e:Env) (a:Act) (w:World),
  vSeq C ops.toList l N e w.heap->Agree n e a->(∀o∈l,dOk n o=Ji) ->
  (∀e' a' w',Agree n e' a'->RestQ C.q w w'->(∀i,i∉wrOps l->e' i=e i)->N e' w'.heap->Q .normal a' w')->wpList C.P ops Q l a w
 | [],N,e,a,w,h,hag,_,hQ=>hQ e a w hag (RestQ.refl w) (λ_ _=>rfl) h
 | o::r,N,e,a,w,h,hag,s,hQ=>by
  replace h:vG ops.toList o e (λe=>vStep C o e (λ_=>False) w.heap w.heap .fix λv h'=>vSeq C ops.toList r N (updO e o.dst v) h') (λe=>vSeq C ops.toList r N (updO e o.dst undef) w.heap):=h;have a5:=s o (List.mem_cons_self ..);have hdr:=λx u=>s x (List.mem_cons_of_mem _ u);have a6:∀(v:Jl) (e':Env),(∀i,i∉wrOps r->e' i=updO e o.dst v i)->∀i,i∉wrOps (o::r)->e' i=e i:=by
   intro v e' a8 i hi;cases hod:o.dst with
   | none=>
    simp only [wrOps,hod] at hi;have:=a8 i hi;rw [hod] at this;exact this
   | some d=>
    simp only [wrOps,hod,List.mem_cons,not_or] at hi;have:=a8 i hi.2;rw [hod] at this;simp only [updO,upd] at this;grind [absurd,JK]
  unfold wpList;rcases ZwP hag h with ⟨hw,h⟩|⟨hw,h⟩
  .rw [if_pos hw];refine .inl ?_;unfold vStep at h;split at h
   .obtain ⟨v,k,hr⟩:=Zzc hC h;unfold Oper.wp;rw [hag.eval,hr w];exact Zht hC r N _ _ w k (hag.put a5 v) hdr λe' a' w' h1 f g j=>hQ e' a' w' h1 f (a6 v e' g) j
   .obtain ⟨v,k,hr⟩:=Zx2 hC h;unfold Oper.wp;rw [hag.eval,hr w (HLe.refl _)];exact Zht hC r N _ _ w k (hag.put a5 v) hdr λe' a' w' h1 f g j=>hQ e' a' w' h1 f (a6 v e' g) j
   .have hE:=ZxW hC h a hag.eval w rfl;refine ZBG (Oper.wp_mono ?_ hE);rintro a1 w1 ⟨v,rfl,a7,hk⟩;exact Zht hC r N _ _ w1 hk (hag.put a5 v) hdr λe' a' w' h1 f g j=>hQ e' a' w' h1 (a7.trans f) (a6 v e' g) j
  .rw [if_neg (by simp [hw])];exact Zht hC r N _ _ w h (hag.put a5 undef) hdr λe' a' w' h1 f g j=>hQ e' a' w' h1 f (a6 undef e' g) j
theorem ZNi {T:List (Nat×TE)} {alt:List Nat} {ops:List Oper} {i:Nat} {o:Oper} (h:ops[i]?=Jg o):
  (match k3 T o.op with|.pure=>kdOf (kinds T alt ops) i=.pure|.read=>kdOf (kinds T alt ops) i=.read\/kdOf (kinds T alt ops) i=.fix\/kdOf (kinds T alt ops) i=.late\/kdOf (kinds T alt ops) i=.early|.eff=>kdOf (kinds T alt ops) i=.late\/kdOf (kinds T alt ops) i=.early):=by
 have e:kdOf (kinds T alt ops) i=kindAt (mkA ops) (k3s T alt ops) (concs (mkA ops) (k3s T alt ops)) (k3a T alt o.op i) i:=by
  grind [kdOf,kinds,k3s,k3a]
 rw [e];unfold kindAt k3a;cases k3 T o.op with
 | pure=>rfl
 | read=>
  grind
 | eff=>
  grind
theorem Zu7 {o:Oper} {d:Nat} (a:o.dst=Jg d):∀{l:List Oper},o∈l->d∈wrOps l
 | p::l,h=>by
  cases h with
  | head=>simp [wrOps,a]
  | tail _ h=>
   have:=Zu7 a h;grind [wrOps]
theorem ZiU (hC:CtxOk C) {alt:List Nat} {ops:Array Oper} {B:Nat->Prop} {h0:Heap} {w0:World} {Q:Act->World->Prop} (s:∀o∈ops,dOk n o=Ji):
  ∀(l:List Nat) (N:Env->Heap->Prop) (e:Env) (a:Act) (w:World),
  vLexI C ops.toList (kinds C.tab alt ops.toList) B h0 l N e w.heap->Agree n e a->RestQ C.q w0 w ->
  (∀e' a' w',Agree n e' a'->RestQ C.q w0 w'->(∀i,i∉wrOps ops.toList->e' i=e i)->N e' w'.heap->Q a' w') ->
  lexP C.P ops (kdOf (kinds C.tab alt ops.toList)) (λw'=>ExtBut B h0 w'.heap/\RestQ C.q w0 w') l Q a w
 | [],N,e,a,w,h,hag,hrest,hQ=>hQ e a w hag hrest (λ_ _=>rfl) h
 | k::l,N,e,a,w,h,hag,hrest,hQ=>by
  rw [ZKL] at h;split at h
  .rename_i ho;have a4:ops[k]?=none:=by simpa using ho
   unfold lexP;rw [a4];exact ZiU hC s l N e a w h hag hrest hQ
  .rename_i o ho;have a4:ops[k]?=Jg o:=by simpa using ho
   have a2:=ZNi (T:=C.tab) (alt:=alt) ho;have ac:o∈ops.toList:=JH ho;have af:=s o (by simpa using ac);have ah:∀(v:Jl) (e':Env),(∀i,i∉wrOps ops.toList->e' i=updO e o.dst v i)->∀i,i∉wrOps ops.toList->e' i=e i:=by
    intro v e' ad i hi;rw [ad i hi];cases hod:o.dst with
    | none=>rfl
    | some d=>
     have ag:i≠d:=λx=>by subst x;exact hi (Zu7 hod ac)
     simp only [updO,upd,ZbZ ag,cond_false]
   have next:∀(v:Jl) (w1:World),RestQ C.q w0 w1->vLexI C ops.toList (kinds C.tab alt ops.toList) B h0 l N (updO e o.dst v) w1.heap ->
     lexP C.P ops (kdOf (kinds C.tab alt ops.toList)) (λw'=>ExtBut B h0 w'.heap/\RestQ C.q w0 w') l Q (a.put o.dst v) w1:=λv w1 g h1=>
    ZiU hC s l N _ _ w1 h1 (hag.put af v) g λe' a' w' u y g3 g4=>hQ e' a' w' u y (ah v e' g3) g4
   rcases ZwP hag h with ⟨hw,h⟩|⟨hw,h⟩
   .unfold vStep at h;split at h
    .rename_i r;rw [r] at a2;simp only at a2;obtain ⟨v,f,hr⟩:=Zzc hC h;rw [ZeJ a4 hw (by rw [a2];rfl)];exact ⟨v,λw' _=>by rw [hag.eval];exact hr w',next v w hrest f⟩
    .rename_i r;rw [r] at a2;simp only at a2;obtain ⟨v,f,hr⟩:=Zx2 hC h;have go:∀{kk:Kind},kdOf (kinds C.tab alt ops.toList) k=kk->kk.eff=Ji->rdH kk (hmask B h0) w.heap=w.heap->(kEarly kk=Ji->ExtBut B h0 w.heap/\vLexI C ops.toList (kinds C.tab alt ops.toList) B h0 l N (updO e o.dst v) w.heap)->(kEarly kk=Jj->vLexI C ops.toList (kinds C.tab alt ops.toList) B h0 l N (updO e o.dst v) w.heap) ->
       lexP C.P ops (kdOf (kinds C.tab alt ops.toList)) (λw'=>ExtBut B h0 w'.heap/\RestQ C.q w0 w') (k::l) Q a w:=by
      intro kk hk he hh h1 h2;rw [Zdz a4 hw (by rw [hk];exact he)];rw [hk,hh] at hr;unfold Oper.wp;rw [hag.eval,hr w (HLe.refl _)];rw [hk];cases kk<;>first|cases he|skip
      .exact ⟨⟨(h1 rfl).1,hrest⟩,next v w hrest (h1 rfl).2⟩
      .exact ⟨trivial,next v w hrest (h2 rfl)⟩
     rcases a2 with hk|hk|hk|hk
     .rw [ZeJ a4 hw (by rw [hk];rfl)];rw [hk] at f;refine ⟨v,λw' a5=>?_,next v w hrest f⟩;rw [hag.eval];rw [hk] at a5 hr;exact hr w' (HLe.mask a5.1)
     .rw [ZeJ a4 hw (by rw [hk];rfl)];rw [hk] at f;refine ⟨v,λw' a5=>?_,next v w hrest f⟩;rw [hag.eval];rw [hk] at a5 hr;have a5:w'=w:=a5;subst a5;exact hr w' (HLe.refl _)
     .rw [hk] at f;exact go hk rfl rfl (λe=>by cases e) (λ_=>f)
     .rw [hk] at f;exact go hk rfl rfl (λ_=>f) (λe=>by cases e)
    .rename_i r;rw [r] at a2;simp only at a2;have hE:=ZxW hC h a hag.eval w rfl;rw [Zdz a4 hw (by rcases a2 with hk|hk<;>rw [hk]<;>rfl)];refine Oper.wp_mono ?_ hE;rintro a1 w1 ⟨v,rfl,g,j⟩;rcases a2 with hk|hk
     .rw [hk] at j ⊢;exact ⟨trivial,next v w1 (hrest.trans g) j⟩
     .rw [hk] at j ⊢;exact ⟨⟨j.1,hrest.trans g⟩,next v w1 (hrest.trans g) j.2⟩
   .grind [Zes,undef]
theorem Zw6 {f:Nat->Prop}:∀{l:List Nat},allE l f->∀j∈l,f j
 | [j],h,i,hi=>by simp at hi;subst hi;exact h
 | j::k::l,h,i,hi=>by
  cases hi with
  | head=>exact h.1
  | tail _ hi=>exact Zw6 h.2 i hi
theorem ZLa (hC:CtxOk C) {alt:List Nat} {ops:Array Oper} {B:Nat->Prop} {h0:Heap} {w0:World} {Q:Act->World->Prop} (f:∀o∈ops,dOk n o=Ji) {A:List (List Nat)}:
  ∀(m:Nat) (a2:List Nat) (N:Env->Heap->Prop) (e:Env) (a:Act) (w:World),
  vOrd C ops.toList A (kinds C.tab alt ops.toList) B h0 m a2 N e w.heap->Agree n e a->RestQ C.q w0 w ->
  (∀e' a' w',Agree n e' a'->RestQ C.q w0 w'->(∀i,i∉wrOps ops.toList->e' i=e i)->N e' w'.heap->Q a' w') ->
  lexO C.P ops (kdOf (kinds C.tab alt ops.toList)) (λw'=>ExtBut B h0 w'.heap/\RestQ C.q w0 w') A m a2 Q a w:=by
 intro m;induction m with
 | zero=>
  intro a2 N e a w h a3 x hQ;replace h:vOr0 _ _ _ _ _ _ _ _ _ _:=h;unfold vOr0 at h;split at h
  .rename_i hm;exact ⟨hm,ZiU hC f a2 N e a w h a3 x hQ⟩
  .exact h.elim
 | succ m ih=>
  intro a2 N e a w h a3 x hQ;replace h:vOr1 _ _ _ _ _ _ _ _ _ _ _:=h;unfold vOr1 at h;split at h
  .rename_i hm;refine ⟨λ_=>ZiU hC f a2 N e a w h a3 x hQ,λj hj=>?_⟩;grind
  .rename_i hm;refine ⟨λg=>absurd g hm,λj hj=>?_⟩;refine ZiU hC f _ _ e a w (Zw6 h j hj) a3 x ?_;intro e' a' w' k l r s;exact ih _ N e' a' w' s k l λu v w2 k1 k2 k3 k4=>hQ u v w2 k1 k2 (λi hi=>by rw [k3 i hi,r i hi]) k4
theorem Zos:∀{l l':List Nat},lEq l l'=Ji->l=l'
 | [],[],_=>rfl
 | x::r,y::s,h=>by
  simp only [lEq,Jz] at h;rw [JK h.1,Zos h.2]
 | [],_::_,h=>by cases h
 | _::_,[],h=>by cases h
theorem Zwp:∀{l l':List Kind},kdNats l=kdNats l'->l=l'
 | [],[],_=>rfl
 | x::r,y::s,h=>by
  simp only [kdNats,List.cons.injEq] at h;have h1:x=y:=by have:=h.1;cases x<;>cases y<;>simp [kdNat] at this ⊢
  rw [h1,Zwp h.2]
 | [],_::_,h=>by cases h
 | _::_,[],h=>by cases h
theorem ZeS:∀{t t':OT},otEq t t'=Ji->t=t'
 | .fin l,.fin l',h=>by rw [Zos (show lEq l l'=Ji from h)]
 | .sg l t,.sg l' t',h=>by
  simp only [otEq,Jz] at h;rw [Zos h.1,ZeS h.2]
 | .both a b,.both a' b',h=>by
  simp only [otEq,Jz] at h;rw [ZeS h.1,ZeS h.2]
 | .fin _,.sg _ _,h=>by cases h
 | .fin _,.both _ _,h=>by cases h
 | .fin _,.bad,h=>by cases h
 | .sg _ _,.fin _,h=>by cases h
 | .sg _ _,.both _ _,h=>by cases h
 | .sg _ _,.bad,h=>by cases h
 | .both _ _,.fin _,h=>by cases h
 | .both _ _,.sg _ _,h=>by cases h
 | .both _ _,.bad,h=>by cases h
 | .bad,.fin _,h=>by cases h
 | .bad,.sg _ _,h=>by cases h
 | .bad,.both _ _,h=>by cases h
 | .bad,.bad,h=>by cases h
section
variable {ops:List Oper} {ks:List Kind} {B:Nat->Prop} {h0:Heap}
theorem Zrl {N:Env->Heap->Prop} {l':List Nat}:∀l:List Nat,vLexI C ops ks B h0 (l++l') N=vLexI C ops ks B h0 l (vLexI C ops ks B h0 l' N)
 | []=>rfl
 | i::l=>by
  show vLx1 C ops ks B h0 i (vLexI C ops ks B h0 (l++l') N)=vLx1 C ops ks B h0 i (vLexI C ops ks B h0 l _);rw [Zrl l]
theorem ZOJ {N:Env->Heap->Prop} (l:List Nat) (t:OT):vOT C ops ks B h0 N (OT.pre l t)=vLexI C ops ks B h0 l (vOT C ops ks B h0 N t):=by
 cases t with
 | fin l'=>exact Zrl l
 | sg l' t=>exact Zrl l
 | both a b=>rfl
 | bad=>rfl
theorem Zzq {N:Env->Heap->Prop} {e:Env} {h:Heap} (f:Nat->OT):∀(g:List Nat) (j:Nat),vOT C ops ks B h0 N (allOT f j g) e h=allE (j::g) λj=>vOT C ops ks B h0 N (f j) e h
 | [],j=>rfl
 | k::g,j=>by
  show (vOT C ops ks B h0 N (f j) e h/\vOT C ops ks B h0 N (allOT f k g) e h)=_;rw [Zzq f g k];rfl
theorem ZsO {A:List (List Nat)} {N:Env->Heap->Prop}:∀(n:Nat) (g:List Nat) (e:Env) (h:Heap),vOT C ops ks B h0 N (mkOT A ks n g) e h=vOrd C ops A ks B h0 n g N e h:=by
 intro n;induction n with
 | zero=>
  intro g e h;show _=vOr0 C ops A ks B h0 g N e h;unfold mkOT vOr0;cases minEff A (kdOf ks) g<;>rfl
 | succ n k=>
  intro g e h;show _=vOr1 C ops A ks B h0 (vOrd C ops A ks B h0 n) g N e h;unfold mkOT vOr1;cases minEff A (kdOf ks) g with
  | nil=>rfl
  | cons j l=>
   simp only;rw [Zzq];congr 1;funext j;rw [ZOJ,show vOT C ops ks B h0 N (mkOT A ks n (rst A j g))=λe h=>vOrd C ops A ks B h0 n (rst A j g) N e h from funext λe=>funext λh=>k _ e h]
theorem ZwG {ks:List Kind} (h:hasRE ks=Jj) (i:Nat):kRead (kdOf ks i)=Jj/\kEarly (kdOf ks i)=false:=by
 unfold kdOf;rw [Wo];cases hk:ks[i]? with
 | none=>exact ⟨rfl,rfl⟩
 | some k=>
  have e:=JH hk;have h1:=(List.any_eq_false.1 h) k e;grind
theorem Zyx {o:Oper} {e:Env} {B':Nat->Prop} {h1 h:Heap} {k k':Kind} {K:Jl->Heap->Prop} (g:kRead k=Jj/\kEarly k=Jj) (j:kRead k'=Jj/\kEarly k'=Jj):
  vStep C o e B h0 h k K=vStep C o e B' h1 h k' K:=by
 have l:∀{k:Kind} {x:Heap},kRead k=Jj->rdH k x h=h:=λ{k x} g=>by cases k<;>first|rfl|cases g
 unfold vStep;rw [g.2,j.2,l g.1,l j.1];rfl
theorem ZGr {g:List Kind} {B':Nat->Prop} {h1:Heap} (k:hasRE ks=Jj) (j:hasRE g=Jj) {i:Nat} {K:Env->Heap->Prop}:vLx1 C ops ks B h0 i K=vLx1 C ops g B' h1 i K:=by
 funext e h;unfold vLx1;split
 .rfl
 .grind [Zyx,ZwG]
theorem ZtJ {e:List Kind} {B':Nat->Prop} {h1:Heap} (h:hasRE ks=Jj) (g:hasRE e=Jj) {N:Env->Heap->Prop}:∀l:List Nat,vLexI C ops ks B h0 l N=vLexI C ops e B' h1 l N
 | []=>rfl
 | i::l=>by
  show vLx1 C ops ks B h0 i (vLexI C ops ks B h0 l N)=vLx1 C ops e B' h1 i (vLexI C ops e B' h1 l N);rw [ZtJ h g l,ZGr h g]
theorem ZlR {g:List Kind} {B':Nat->Prop} {h1:Heap} (k:hasRE ks=Jj) (j:hasRE g=Jj) {N:Env->Heap->Prop}:∀t:OT,vOT C ops ks B h0 N t=vOT C ops g B' h1 N t
 | .fin l=>ZtJ k j l
 | .sg l t=>by
  show vLexI C ops ks B h0 l (vOT C ops ks B h0 N t)=vLexI C ops g B' h1 l (vOT C ops g B' h1 N t);rw [ZlR k j t,ZtJ k j]
 | .both a b=>by
  show (λe h=>vOT C ops ks B h0 N a e h/\vOT C ops ks B h0 N b e h)=λe h=>vOT C ops g B' h1 N a e h/\vOT C ops g B' h1 N b e h;rw [ZlR k j a,ZlR k j b]
 | .bad=>rfl
theorem Zx9 (g:hasRE ks=Jj) {N:Env->Heap->Prop}:∀(l:List Oper) (m:Nat),(∀j,l[j]?=ops[m+j]?)->vLexI C ops ks B h0 (X8 m (Jk l)) N=vSeq C ops l N
 | [],_,_=>rfl
 | o::l,m,hl=>by
  show vLx1 C ops ks B h0 m (vLexI C ops ks B h0 (X8 (m+1) (Jk l)) N)=vSq1 C ops o (vSeq C ops l N);rw [Zx9 g l (m+1) λj=>by have:=hl (j+1);simp only [List.getElem?_cons_succ] at this;rw [this];congr 1;omega];funext e h;unfold vLx1 vSq1;have h0:=hl 0;simp only [List.getElem?_cons_zero,Nat.add_zero] at h0;rw [<-h0];simp only;congr 1;funext e;exact Zyx (ZwG g m) ⟨rfl,rfl⟩
end
theorem ZG9 (hC:CtxOk C) {id:Nat} {alt:List Nat} {rg:Jm RG} {ops:Array Oper} {x:Bool} {Q:Exit->Act->World->Prop} {N:Env->Heap->Prop} {e:Env} {a:Act} {w:World}
  (h:vRegion C rg ops x N e w.heap) (u:x=Ji->rgOk C alt rg ops=Ji) (a5:Agree n e a) (f:∀o∈ops,dOk n o=Ji)
  (hQ:∀e' a' w',Agree n e' a'->RestQ C.q w w'->(∀i,i∉wrOps ops.toList->e' i=e i)->N e' w'.heap->Q .normal a' w'):(Code.region id ops x).wp C.P Q a w:=by
 cases x
 .exact wp_region_list (Zht hC _ N e a w h a5 (λo ho=>f o (by simpa using ho)) hQ)
 .have u:=u rfl;unfold rgOk at u;simp only [Jz] at u;obtain ⟨a7,u⟩:=u;have h:∃B:Nat->Prop,vOrd C ops.toList (mkA ops.toList) (kinds C.tab alt ops.toList) B w.heap (Jk ops.toList) (Xi (Jk ops.toList)) N e w.heap:=by
   cases rg with
   | none=>
    simp only [Jz,JV] at u;refine ⟨λ_=>False,?_⟩;rw [<-ZsO,ZeS u.2];show vLexI C ops.toList (kinds C.tab alt ops.toList) (λ_=>False) w.heap (Xi (Jk ops.toList)) N e w.heap;rw [List.range_eq_range',Zx9 u.1 ops.toList 0 λj=>by rw [Nat.zero_add]];exact h
   | some rg=>
    obtain ⟨a8,t,b⟩:=rg;simp only [Jz] at u;cases b with
    | true=>
     obtain ⟨B,h⟩:=(show ∃B:Nat->Prop,vOT C ops.toList a8 B w.heap N t e w.heap from h)
     grind [ZsO,ZeS,Zwp,Zos]
    | false=>
     simp only [Jz,JV] at u;refine ⟨λ_=>False,?_⟩;rw [<-ZsO,ZeS u.1,ZlR u.2.1 u.2.2 (B':=λ_=>False) (h1:=w.heap)];exact h
  obtain ⟨B,h⟩:=h;refine ZIH (Cl:=λw'=>ExtBut B w.heap w'.heap/\RestQ C.q w w') hC.mixed a7 ⟨eY _ _,rfl,rfl,rfl,λ_=>XP _⟩ ?_;refine ZLa hC (w0:=w) f _ _ N e a { w with drawn:=w.drawn+1 } (by simpa using h) a5 ⟨rfl,rfl,rfl,λ_=>XP _⟩ ?_;intro e' a' w' h1 g k l;exact hQ e' a' w' h1 g k l
def aOk (C:Ctx) (A:Ann):Code->Bool
 | .region id ops draw=>match draw with
  | true=>rgOk C (altGet A.alts id) (rgGet A.regs id) ops
  | false=>Ji
 | .seq a b=>aOk C A a&&aOk C A b
 | .cond _ x y=>aOk C A x&&aOk C A y
 | .block _ c=>aOk C A c
 | .loop c=>aOk C A c
 | _=>Ji
def cOk (n:Nat):Code->Bool
 | .region _ ops _=>ops.toList.all (dOk n)
 | .seq a b=>cOk n a&&cOk n b
 | .cond _ x y=>cOk n x&&cOk n y
 | .block _ c=>cOk n c
 | .loop c=>cOk n c
 | _=>Ji
def QQ (q:Prop) (n:Nat) (w0:World) (f:Env) (W:List Nat) (N:Env->Heap->Prop) (X:Nat->Env->Heap->Prop) (R:Env->Heap->Prop):Exit->Act->World->Prop
 | .normal,a,w=>∃e,Agree n e a/\RestQ q w0 w/\(∀i,i∉W->e i=f i)/\N e w.heap
 | .exit id,a,w=>∃e,Agree n e a/\RestQ q w0 w/\(∀i,i∉W->e i=f i)/\X id e w.heap
 | .ret,a,w=>∃e,Agree n e a/\RestQ q w0 w/\R e w.heap
 | _,_,_=>False
theorem Zev:∀(ks:List TK) (J:JT ks) (e:Jc->Heap->Prop) (vs:Jc) (h:Heap),allJ ks J e->apJ ks J vs h->Jk vs=Jk ks->e vs h
 | [],J,e,vs,h,ha,hp,hl=>by
  have:vs=[]:=List.eq_nil_of_length_eq_zero hl;subst this;exact ha h hp
 | .i k::ks,J,e,[],h,_,hp,hl=>by simp at hl
 | .b::ks,J,e,[],h,_,hp,hl=>by simp at hl
 | .s::ks,J,e,[],h,_,hp,hl=>by simp at hl
 | .p::ks,J,e,[],h,_,hp,hl=>by simp at hl
 | .v::ks,J,e,[],h,_,hp,hl=>by simp at hl
 | .i k::ks,J,e,v::vs,h,ha,hp,hl=>by
  cases v<;>simp only [apJ] at hp<;>try exact hp.elim
  rename_i k' x;obtain ⟨g,hp⟩:=Zav hp;obtain rfl:=ZqP.1 g;exact Zev ks (J x) (λvs h=>e (.int k' x::vs) h) vs h (ha x) hp (by simpa using hl)
 | .b::ks,J,e,v::vs,h,ha,hp,hl=>by
  cases v<;>simp only [apJ] at hp<;>try exact hp.elim
  rename_i x;exact Zev ks (J x) (λvs h=>e (.bool x::vs) h) vs h (ha x) hp (by simpa using hl)
 | .s::ks,J,e,v::vs,h,ha,hp,hl=>by
  cases v<;>simp only [apJ] at hp<;>try exact hp.elim
  rename_i x;exact Zev ks (J x) (λvs h=>e (.string x::vs) h) vs h (ha x) hp (by simpa using hl)
 | .p::ks,J,e,v::vs,h,ha,hp,hl=>by
  cases v<;>simp only [apJ] at hp<;>try exact hp.elim
  rename_i x;cases x<;>simp only at hp<;>try exact hp.elim
  rename_i x;exact Zev ks (J x) (λvs h=>e (.pointer (Jg x)::vs) h) vs h (ha x) hp (by simpa using hl)
 | .v::ks,J,e,v::vs,h,ha,hp,hl=>by
  simp only [apJ] at hp;exact Zev ks (J v) (λvs h=>e (v::vs) h) vs h (ha v) hp (by simpa using hl)
theorem ZrI (e:Env):∀L:List (Nat×TK),(evL e L).length=(tks L).length
 | []=>rfl
 | (_,_)::L=>by simp [evL,tks,ZrI e L]
theorem Zup (e:Env):∀(L:List (Nat×TK)) (i:Nat),lookupL L (evL e L) i=Jg (e i).v\/lookupL L (evL e L) i=none
 | [],i=>.inr rfl
 | (d,k)::L,i=>by
  simp only [evL,lookupL];cases a:Jv i d with
  | true=>have:=JK a;subst this;exact .inl rfl
  | false=>exact Zup e L i
theorem Zww {e g:Env} {W:List Nat} {L:List (Nat×TK)} (h:∀i,i∉W->g i=e i):mix e W g L (evL g L)=g:=by
 funext i;unfold mix;rcases Zup g L i with h1|h1
 .rw [h1];rfl
 .grind [hasN,ZbO]
theorem ZJK (hC:CtxOk C) (A:Ann) (c:Code):∀(N:Env->Heap->Prop) (X:Nat->Env->Heap->Prop) (R:Env->Heap->Prop) (e:Env) (a:Act) (w w0:World),
  aOk C A c=Ji->cOk n c=Ji->vc C A c N X R e w.heap->Agree n e a->RestQ C.q w0 w->c.wp C.P (QQ C.q n w0 e (wr c) N X R) a w:=by
 induction c with
 | skip=>intro N X R e a w w0 _ _ h a4 hr;exact wp_skip ⟨e,a4,hr,λ_ _=>rfl,h⟩
 | region id ops draw=>
  intro N X R e a w w0 ha v h a4 hr;simp only [cOk,List.all_eq_true] at v;exact ZG9 hC h (alt:=altGet A.alts id) (λe=>by subst e;exact ha) a4 (λo ho=>v o (by simpa using ho)) λe' a' w' h1 r h3 u=>⟨e',h1,hr.trans r,h3,u⟩
 | seq x y ihx ihy=>
  intro N X R e a w w0 ha v h a4 hr;simp only [cOk,Jz] at v;simp only [aOk,Jz] at ha;refine wp_seq ?_;rw [ZKz] at h
  -- ae of x
  have ae:∀(N':Env->Heap->Prop),(∀e' a' w',Agree n e' a'->RestQ C.q w0 w'->(∀i,i∉wr x->e' i=e i)->N' e' w'.heap->y.wp C.P (QQ C.q n w0 e (wr (.seq x y)) N X R) a' w') ->
    ∀ex a' w',QQ C.q n w0 e (wr x) N' X R ex a' w'->Exit.then (y.wp C.P (QQ C.q n w0 e (wr (.seq x y)) N X R)) (QQ C.q n w0 e (wr (.seq x y)) N X R) ex a' w':=by
   intro N' ar ex a' w' j;cases ex with
   | normal=>obtain ⟨e',h1,r,h3,u⟩:=j;exact ar e' a' w' h1 r h3 u
   | exit id=>obtain ⟨e',h1,r,h3,u⟩:=j;exact ⟨e',h1,r,λi hi=>h3 i (λhm=>hi (J1 _ hm)),u⟩
   | ret=>exact j
   | goto l=>exact j.elim
   | panic ch=>exact j.elim
   | outgrown=>exact j.elim
  have ai:∀e' a' w',Agree n e' a'->RestQ C.q w0 w'->(∀i,i∉wr x->e' i=e i)->vc C A y N X R e' w'.heap->y.wp C.P (QQ C.q n w0 e (wr (.seq x y)) N X R) a' w':=by
   intro e' a' w' h1 r h3 u;refine wp_mono (ihy N X R e' a' w' w0 ha.2 v.2 u h1 r) ?_;intro ex a2 w2 j;have aa:∀k:Env,(∀i,i∉wr y->k i=e' i)->∀i,i∉wr (.seq x y)->k i=e i:=λk g i hi=>by
    simp_all [wr,List.mem_append,not_or]
   cases ex with
   | normal=>obtain ⟨k,g1,g2,g3,g4⟩:=j;exact ⟨k,g1,g2,aa k g3,g4⟩
   | exit id=>obtain ⟨k,g1,g2,g3,g4⟩:=j;exact ⟨k,g1,g2,aa k g3,g4⟩
   | ret=>exact j
   | goto l=>exact j.elim
   | panic ch=>exact j.elim
   | outgrown=>exact j.elim
  split at h
  .rename_i L hL;obtain ⟨J,h1,r⟩:=h;refine wp_mono (ihx _ X R e a w w0 ha.1 v.1 h1 a4 hr) (ae _ ?_);intro e' a' w' g1 g2 g3 g4;refine ai e' a' w' g1 g2 g3 ?_;rw [Zkj] at g4;have:=Zev _ _ _ _ _ (r e') g4 (ZrI e' L);grind [Zww]
  .grind [wp_mono]
 | cond c x y ihx ihy=>
  intro N X R e a w w0 ha v h a4 hr;simp only [cOk,Jz] at v;simp only [aOk,Jz] at ha;rw [ZOS] at h;split at h
  .rename_i t ht;have hc:a.eval c=.bool t:=by rw [a4.eval];exact ht
   have af:∀(W W':List Nat),(∀i,i∈W->i∈W')->∀ex a' w',QQ C.q n w0 e W N X R ex a' w'->QQ C.q n w0 e W' N X R ex a' w':=by
    intro W W' hW ex a' w' j;cases ex with
    | normal=>obtain ⟨e',h1,r,h3,u⟩:=j;exact ⟨e',h1,r,λi hi=>h3 i (λhm=>hi (hW i hm)),u⟩
    | exit id=>obtain ⟨e',h1,r,h3,u⟩:=j;exact ⟨e',h1,r,λi hi=>h3 i (λhm=>hi (hW i hm)),u⟩
    | ret=>exact j
    | goto l=>exact j.elim
    | panic ch=>exact j.elim
    | outgrown=>exact j.elim
   cases t
   .exact wp_cond_false hc (wp_mono (ihy N X R e a w w0 ha.2 v.2 h a4 hr) (af _ _ λi hi=>List.mem_append_right _ hi))
   .exact wp_cond_true hc (wp_mono (ihx N X R e a w w0 ha.1 v.1 h a4 hr) (af _ _ λi hi=>J1 _ hi))
  .exact h.elim
 | block id c ih=>
  intro N X R e a w w0 ha v h a4 hr;rw [ZNr] at h;refine wp_block (wp_mono (ih N _ R e a w w0 ha v h a4 hr) ?_);intro ex a' w' j;cases ex with
  | normal=>exact j
  | exit id'=>
   obtain ⟨e',h1,r,h3,u⟩:=j;simp only [Exit.inBlock];by_cases aj:id'=id
   .subst aj;rw [if_pos rfl];have:Jv id' id'=true:=Nat.beq_refl id';rw [this] at u;exact ⟨e',h1,r,h3,u⟩
   .rw [if_neg aj];have:Jv id' id=false:=by
     grind [absurd,JK]
    rw [this] at u;exact ⟨e',h1,r,h3,u⟩
  | ret=>exact j
  | goto l=>exact j.elim
  | panic ch=>exact j.elim
  | outgrown=>exact j.elim
 | loop c ih=>
  intro N X R e a w w0 ha v h a4 hr;rw [ZHp] at h;split at h
  .rename_i L hL;obtain ⟨J,⟨n0,h0⟩,ah⟩:=h;refine wp_loop_ghost (λm a' w'=>∃e',Agree n e' a'/\RestQ C.q w0 w'/\(∀i,i∉wr c->e' i=e i)/\apJ (tks L) (J m) (evL e' L) w'.heap) n0 ⟨e,a4,hr,λ_ _=>rfl,(Zkj _ _ _).mp h0⟩ ?_;rintro m a' w' ⟨e',g1,g2,g3,g4⟩;have hb:=Zev _ _ _ _ _ (ah m e') g4 (ZrI e' L);rw [Zww g3] at hb;refine wp_mono (ih _ X R e' a' w' w0 ha v hb g1 g2) ?_;intro ex a2 w2 j;have aa:∀k:Env,(∀i,i∉wr c->k i=e' i)->∀i,i∉wr c->k i=e i:=λk g i hi=>by rw [g i hi,g3 i hi]
   cases ex with
   | normal=>
    obtain ⟨k,k1,k2,k3,m',am,k4⟩:=j;exact ⟨m',am,k,k1,k2,aa k k3,(Zkj _ _ _).mp k4⟩
   | exit id=>obtain ⟨k,k1,k2,k3,k4⟩:=j;exact ⟨k,k1,k2,aa k k3,k4⟩
   | ret=>exact j
   | goto l=>exact j.elim
   | panic ch=>exact j.elim
   | outgrown=>exact j.elim
  .exact h.elim
 | exit id=>intro N X R e a w w0 _ _ h a4 hr;exact wp_exit ⟨e,a4,hr,λ_ _=>rfl,h⟩
 | ret=>intro N X R e a w w0 _ _ h a4 hr;exact wp_ret ⟨e,a4,hr,h⟩
 | rangeFunc f ps x y _ _=>intro N X R e a w w0 _ _ h;exact h.elim
 | scope c _=>intro N X R e a w w0 _ _ h;exact h.elim
 | label l=>intro N X R e a w w0 _ _ h;exact h.elim
 | goto l=>intro N X R e a w w0 _ _ h;exact h.elim
 | refuse s=>intro N X R e a w w0 _ _ h;exact h.elim
def resF (e:Array Jl):ResultVar->Sem Jl
 | .tmp t=>pure (e.getD t undef)
 | .cell a t=>do loadVar t (<-asAddr (e.getD a undef))
theorem Zqw (k:CtxOk C) {e:Env} {a:Act} (j:Agree n e a) (w:World):∀(rs:List ResultVar) (K:Jc->Prop),vRes C e w.heap rs K ->
  ∃vs,K vs/\(rs.mapM (resF a.tmps)).run C.P w=.ok vs w
 | [],K,h=>⟨[],h,rfl⟩
 | .tmp t::rs,K,h=>by
  replace h:vRes C e w.heap rs λvs=>K ((e t).v::vs):=(Zch _ _).mp h;obtain ⟨vs,h1,f⟩:=Zqw k j w rs _ h;refine ⟨_,h1,?_⟩;rw [Wq];simp only [resF,Sem.run_bind,Sem.run_pure,Result.andThen_ok,f,j.2.2 t]
 | .cell b t::rs,K,h=>by
  obtain ⟨p,v,hp,l,o⟩:=ZuB k h;obtain ⟨vs,h1,f⟩:=Zqw k j w rs _ l;refine ⟨_,h1,?_⟩;rw [Wq];have g:(resF a.tmps (.cell b t)).run C.P w=.ok v w:=by
   simp only [resF,Sem.run_bind,j.2.2 b,hp,asAddr,Sem.run_pure,Result.andThen_ok,o w (HLe.refl _)]
  simp_all
theorem ZtY (hC:CtxOk C) {e:Env} {a:Act} (o:Agree n e a) (w:World) (fn:Func) (R:Jl->Heap->Prop) (h:vRet C fn.results.toList R e w.heap):
  ∃v,(results fn a.tmps).run C.P w=.ok v w/\R v w.heap:=by
 obtain ⟨vs,h1,g⟩:=Zqw hC o w _ _ h;have u:(results fn a.tmps).run C.P w=.ok (if h:vs.toArray.size=1 then vs.toArray[0] else .tuple vs.toArray) w:=by
  unfold results;rw [Array.mapM_eq_mapM_toList];have i:(fn.results.toList.mapM (λx=>match x with|.tmp t=>pure (a.tmps.getD t undef)|.cell b t=>do loadVar t (<-asAddr (a.tmps.getD b undef))):Sem Jc).run C.P w=.ok vs w:=g;simp only [Sem.run_bind,Sem.run_map,Sem.run_pure];have j:∀f:ResultVar->Sem Jl,(fn.results.toList.mapM f).run C.P w=.ok vs w->((((fn.results.toList.mapM f).run C.P w).andThen λa w'=>Result.ok a.toArray w').andThen λa w'=>Result.ok (if h:a.size=1 then a[0] else Value.tuple a) w') =
    .ok (if h:vs.toArray.size=1 then vs.toArray[0] else .tuple vs.toArray) w:=λf hf=>by rw [hf];rfl
  exact j _ i
 refine ⟨_,u,?_⟩;split at h1
 .exact h1
 .rename_i l k;split
  .rename_i hs
   match vs,hs,k with
   | [v],_,k=>exact absurd rfl (k v)
  .exact h1
theorem Zg3 (hC:CtxOk C) (A:Ann) {f:FuncId} {fn:Func} (hf:C.P.funcs[f]?=Jg fn) (a2:Jc) (h:Heap) (R:Jl->Heap->Prop)
  (x:((match fn.body with|some c=>aOk C A c&&cOk fn.ntmps c|none=>Jj)&&Nat.ble (Jk a2) fn.ntmps)=Ji) (k:vcFn C A fn a2 h R):CallsQ C.q C.P f a2.toArray h R:=by
 intro w hw;subst hw;unfold vcFn at k;simp only [Jz] at x;obtain ⟨a,o⟩:=x;have o:=Nat.le_of_ble_eq_true o;split at k
 .rename_i c y;rw [y] at a;simp only [Jz] at a;refine calls_of_wp hf y ?_;have a4:Agree fn.ntmps (env0 a2) { tmps:=a2.toArray++Array.replicate (fn.ntmps-a2.toArray.size) undef,defers:=[] }:=by
   refine ⟨by simp;omega,rfl,λi=>?_⟩;simp only [X2,env0];rw [Array.getElem?_append];by_cases hi:i<Jk a2
   .simp [hi]
   .rw [if_neg (by simpa using hi)];rw [List.getElem?_eq_none Z];by_cases hj:i-Jk a2<fn.ntmps-Jk a2
    .simp [hj]
    .simp_all
  refine wp_mono (ZJK hC A c _ _ _ _ _ w w a.1 a.2 k a4 (RestQ.refl w)) ?_;intro ex a' w' g;cases ex with
  | normal=>
   obtain ⟨e,h1,r,_,j⟩:=g;obtain ⟨v,s,u⟩:=ZtY hC h1 w' fn R j;exact ⟨h1.2.1,v,s,v,rfl,r,u⟩
  | ret=>
   obtain ⟨e,h1,r,j⟩:=g;obtain ⟨v,s,u⟩:=ZtY hC h1 w' fn R j;exact ⟨h1.2.1,v,s,v,rfl,r,u⟩
  | exit id=>obtain ⟨_,_,_,_,j⟩:=g;exact j.elim
  | goto l=>exact g.elim
  | panic ch=>exact g.elim
  | outgrown=>exact g.elim
 .exact k.elim
end
end Go.Vc
