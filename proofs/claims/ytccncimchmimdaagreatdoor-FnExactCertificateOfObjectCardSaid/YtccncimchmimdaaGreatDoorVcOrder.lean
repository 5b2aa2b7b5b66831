import Derived.Test.YtccncimchmimdaaGreatDoorPuBase
import Derived.Still
namespace Go.Vc
set_option linter.unusedVariables false
set_option linter.unusedSimpArgs false
open Go
inductive Kind where
 | pure|read|fix|early|late
def Kind.eff:Kind->Bool
 | .early|.late=>true
 | _=>false
def kRead:Kind->Bool|.read=>true|_=>false
def kFix:Kind->Bool|.fix=>true|_=>false
def kLate:Kind->Bool|.late=>true|_=>false
def kEarly:Kind->Bool|.early=>true|_=>false
def Bot:Exit->Act->World->Prop:=fun _ _ _=>False
section
variable (P:Program) (ops:Array Oper) (kd:Nat->Kind) (Cl:World->Prop)
def cls (k:Kind) (w a:World):Prop:=
 match k with
 | .pure=>True
 | .read=>Cl a
 | .fix=>a=w
 | _=>False
def St (k:Kind) (o:Oper) (a:Act) (w:World) (v:Value):Prop:=
 ∀ c,cls Cl k w c->(execOp a.eval o).run P c=.ok (.value v) c
def lexP:List Nat->(Act->World->Prop)->Act->World->Prop
 | [],Q,a,w=>Q a w
 | i::r,Q,a,w=>match ops[i]? with
  | none=>lexP r Q a w
  | some o=>
   if Region.wanted o (yielded ops a.tmps) then
    match kd i with
    | .early=>o.wp P a w (fun e c=>Cl c/\lexP r Q e c) Bot
    | .late=>o.wp P a w (fun e c=>lexP r Q e c) Bot
    | k=>∃ v,St P Cl k o a w v/\lexP r Q (a.put o.dst v) w
   else lexP r Q (a.put o.dst undef) w
def effN (k:Kind) (N:Act->World->Prop):Act->World->Prop:=fun a w=>(match k with|.early=>Cl w|_=>True)/\N a w
end
section
variable {P:Program} {ops:Array Oper} {kd:Nat->Kind} {Cl:World->Prop}
theorem Zc0 {i:Nat} {r:List Nat} {Q:Act->World->Prop} {a:Act} {w:World} {o:Oper} (g:ops[i]?=some o)
  (c:Region.wanted o (yielded ops a.tmps)=true) (e:(kd i).eff=true):
  lexP P ops kd Cl (i::r) Q a w↔o.wp P a w (effN Cl (kd i) (lexP P ops kd Cl r Q)) Bot:=by
 unfold lexP
 simp only [g,c,if_true]
 cases h:kd i<;>simp [h,Kind.eff] at e
 ·constructor
  ·exact Oper.wp_mono fun a w h=>⟨h.1,h.2⟩
  ·exact Oper.wp_mono fun a w h=>⟨h.1,h.2⟩
 ·constructor
  ·exact Oper.wp_mono fun a w h=>⟨trivial,h⟩
  ·exact Oper.wp_mono fun a w h=>h.2
theorem ZeM {i:Nat} {r:List Nat} {Q:Act->World->Prop} {a:Act} {w:World} {o:Oper} (g:ops[i]?=some o)
  (c:Region.wanted o (yielded ops a.tmps)=true) (e:(kd i).eff=false):
  lexP P ops kd Cl (i::r) Q a w↔∃ v,St P Cl (kd i) o a w v/\lexP P ops kd Cl r Q (a.put o.dst v) w:=by
 conv=>lhs;unfold lexP
 simp only [g,c,if_true]
 cases h:kd i<;>simp [h,Kind.eff] at e<;>exact Iff.rfl
theorem Zc8 {i:Nat} {r:List Nat} {Q:Act->World->Prop} {a:Act} {w:World} {o:Oper} (e:ops[i]?=some o)
  (c:Region.wanted o (yielded ops a.tmps)=false):
  lexP P ops kd Cl (i::r) Q a w↔lexP P ops kd Cl r Q (a.put o.dst undef) w:=by
 conv=>lhs;unfold lexP
 simp only [e,c]
 exact Iff.rfl
theorem Zyd {o:Oper} {a:Act} {w:World} {N:Act->World->Prop} (h:o.wp P a w N Bot):∃ k j,N k j:=by
 unfold Oper.wp at h
 generalize (execOp a.eval o).run P w=r at h
 cases r with
 | ok n j=>
  cases n<;>simp only [Oper.upon] at h
  case value v=>exact ⟨_,_,h⟩
  case skip=>exact ⟨_,_,h⟩
  case defer d=>exact ⟨_,_,h⟩
  case enter f args=>
   obtain ⟨e,w2,u,g,_⟩:=h []
   cases e with
   | returned v=>exact ⟨_,_,g⟩
   | panicked c=>exact g.elim
   | outgrown=>obtain ⟨_,_,l⟩:=g;exact l.elim
  case row row args=>
   obtain ⟨v,w2,g,_⟩:=h default []
   exact ⟨_,_,g⟩
 | halt x j=>cases x<;>simp only [Oper.upon,Bot] at h
def Out (o:Oper) (a c:Act):Prop:=∃ v e,c={ a with defers:=e }.put o.dst v
theorem ZrD {o:Oper} {a:Act} {w:World} {N:Act->World->Prop} (h:o.wp P a w N Bot):
  o.wp P a w (fun k j=>Out o a k/\N k j) Bot:=by
 unfold Oper.wp at *
 generalize (execOp a.eval o).run P w=r at *
 have same:∀ v,Out o a (a.put o.dst v):=fun v=>⟨v,a.defers,rfl⟩
 cases r with
 | ok n j=>
  cases n<;>simp only [Oper.upon] at h ⊢
  case value v=>exact ⟨same v,h⟩
  case skip=>exact ⟨same _,h⟩
  case defer d=>exact ⟨⟨_,_,rfl⟩,h⟩
  case enter f args=>
   exact Calls.mono h fun e w2 g=>by
    cases e with
    | returned v=>exact ⟨same v,g⟩
    | panicked c=>exact g
    | outgrown=>obtain ⟨_,_,l⟩:=g;exact l.elim
  case row row args=>exact Rows.mono h fun v w2 g=>⟨same v,g⟩
 | halt x j=>cases x<;>simp only [Oper.upon,Bot] at h
theorem Zzx {o oj:Oper} {a:Act} {w:World} {u:Value} {N N':Act->World->Prop} (a3:o.apart ops oj=true)
  (hs:∀ cs b,o.op≠.select cs b) (h:o.wp P a w N Bot) (hN:∀ i w1,Out o a i->N i w1->N' (i.put oj.dst u) w1):
  o.wp P (a.put oj.dst u) w N' Bot:=by
 obtain ⟨l,j,k⟩:=Oper.apart_spec a3
 have h:=ZrD h
 unfold Oper.wp at *
 rw [execOp_put o hs a oj.dst u k]
 generalize (execOp a.eval o).run P w=r at *
 have g:∀ v,(a.put oj.dst u).put o.dst v=(a.put o.dst v).put oj.dst u:=fun v=>(Act.put_comm a v u j).symm
 cases r with
 | ok n w'=>
  cases n<;>simp only [Oper.upon] at h ⊢
  case value v=>rw [g];exact hN _ _ h.1 h.2
  case skip=>rw [g];exact hN _ _ h.1 h.2
  case defer d=>
   have:=hN _ _ h.1 h.2
   rw [Act.put_defers,<-Act.put_comm _ undef u j]
   exact this
  case enter f args=>
   exact Calls.mono h fun e w2 y=>by
    cases e with
    | returned v=>show N' _ _;rw [g];exact hN _ _ y.1 y.2
    | panicked c=>exact y
    | outgrown=>obtain ⟨_,_,hf⟩:=y;exact hf.elim
  case row row args=>exact Rows.mono h fun v w2 y=>by show N' _ _;rw [g];exact hN _ _ y.1 y.2
 | halt x w'=>cases x<;>simp only [Oper.upon,Bot] at h
theorem Zsy {P:Program} {o:Oper} {a:Act} {w:World} {N:Act->World->Prop} {Q:Exit->Act->World->Prop} (h:o.wp P a w N Bot):o.wp P a w N Q:=by
 unfold Oper.wp at h ⊢
 generalize (execOp a.eval o).run P w=r at h ⊢
 cases r with
 | ok n w'=>
  cases n<;>simp only [Oper.upon] at h ⊢
  case value v=>exact h
  case skip=>exact h
  case defer d=>exact h
  case enter f args=>
   exact Calls.mono h fun e w2 g=>by
    cases e with
    | returned v=>exact g
    | panicked c=>exact g.elim
    | outgrown=>obtain ⟨_,_,j⟩:=g;exact j.elim
  case row row args=>exact h
 | halt x w'=>cases x<;>simp only [Oper.upon,Bot] at h
def Y (P:Program) (ops:Array Oper) (Cl:World->Prop) (k:Kind) (o:Oper) (a:Act) (w:World) (v:Value):Prop:=
 (Region.wanted o (yielded ops a.tmps)=true/\St P Cl k o a w v)\/(Region.wanted o (yielded ops a.tmps)=false/\v=undef)
theorem Zy9 {k:Kind} {o e:Oper} {a:Act} {w:World} {v u:Value} (hs:∀ cs b,o.op≠.select cs b) (c:∀ d,e.dst=some d->d∉o.looksAt ops):
  St P Cl k o (a.put e.dst u) w v↔St P Cl k o a w v:=by
 unfold St;rw [execOp_put o hs a e.dst u c]
theorem ZEj {a:Act} {c:List Deferred}:({ a with defers:=c }:Act).eval=a.eval:=by
 funext x;cases x<;>rfl
theorem ZEA {k:Kind} {o e:Oper} {a g:Act} {w:World} {v:Value} (hs:∀ cs b,o.op≠.select cs b) (c:∀ d,e.dst=some d->d∉o.looksAt ops)
  (h:Out e a g):St P Cl k o g w v↔St P Cl k o a w v:=by
 obtain ⟨u,j,rfl⟩:=h
 rw [Zy9 hs c]
 unfold St;rw [ZEj]
theorem Zz5 {o c:Oper} {a e:Act} (b:∀ d,c.dst=some d->d∉o.looksAt ops) (g:Out c a e):
  Region.wanted o (yielded ops e.tmps)=Region.wanted o (yielded ops a.tmps):=by
 obtain ⟨u,h,rfl⟩:=g
 rw [wanted_put o _ c.dst u b]
theorem Y_out {k:Kind} {o e:Oper} {a g:Act} {w:World} {v:Value} (hs:∀ cs b,o.op≠.select cs b) (c:∀ d,e.dst=some d->d∉o.looksAt ops)
  (h:Out e a g):Y P ops Cl k o g w v↔Y P ops Cl k o a w v:=by
 unfold Y;rw [ZEA hs c h,Zz5 c h]
theorem Zw7 {k:Kind} {o:Oper} {a:Act} {w w1:World} {v:Value} (l:kFix k=false) (h:Y P ops Cl k o a w v):Y P ops Cl k o a w1 v:=by
 have b:∀ g,cls Cl k w1 g->cls Cl k w g:=by
  intro g h;cases k<;>first|exact h|cases l
 rcases h with ⟨c,e⟩|h
 ·exact .inl ⟨c,fun g j=>e g (b g j)⟩
 ·exact .inr h
theorem Zq9 {k:Kind} {o:Oper} {a:Act} {v l:Value} {w w0 w1:World} (f:cls Cl k w0 w) (g:cls Cl k w1 w)
  (h:Y P ops Cl k o a w0 v) (r:Y P ops Cl k o a w1 l):v=l:=by
 rcases h with ⟨c,i⟩|⟨c,rfl⟩<;>rcases r with ⟨b,j⟩|⟨b,rfl⟩
 ·have e:=(i w f).symm.trans (j w g)
  simpa using e
 ·rw [c] at b;cases b
 ·rw [c] at b;cases b
 ·rfl
theorem Zqx {i:Nat} {r:List Nat} {Q:Act->World->Prop} {a:Act} {w:World} {o:Oper} (e:ops[i]?=some o) (g:(kd i).eff=false):
  lexP P ops kd Cl (i::r) Q a w↔∃ v,Y P ops Cl (kd i) o a w v/\lexP P ops kd Cl r Q (a.put o.dst v) w:=by
 cases hw:Region.wanted o (yielded ops a.tmps)
 ·rw [Zc8 e hw]
  constructor
  ·exact fun h=>⟨undef,.inr ⟨hw,rfl⟩,h⟩
  ·rintro ⟨v,⟨b,_⟩|⟨_,rfl⟩,h⟩
   ·rw [hw] at b;cases b
   ·exact h
 ·rw [ZeM e hw g]
  constructor
  ·rintro ⟨v,b,c⟩;exact ⟨v,.inl ⟨hw,b⟩,c⟩
  ·rintro ⟨v,⟨_,b⟩|⟨b,_⟩,h⟩
   ·exact ⟨v,b,h⟩
   ·rw [hw] at b;cases b
theorem Zvc (l r:List Nat) {Q:Act->World->Prop}:∀ (a:Act) (w:World),lexP P ops kd Cl (l++r) Q a w↔lexP P ops kd Cl l (lexP P ops kd Cl r Q) a w:=by
 induction l with
 | nil=>intro a w;exact Iff.rfl
 | cons i l g=>
  intro a w
  have e:∀ (k:Kind) ,(fun u x=>effN Cl k (lexP P ops kd Cl (l++r) Q) u x)=effN Cl k (lexP P ops kd Cl l (lexP P ops kd Cl r Q)):=by
   intro k;funext u x;unfold effN;rw [g]
  rw [List.cons_append]
  cases ho:ops[i]? with
  | none=>
   conv=>lhs;unfold lexP
   conv=>rhs;unfold lexP
   simp only [ho];exact g a w
  | some o=>
   cases hw:Region.wanted o (yielded ops a.tmps)
   ·rw [Zc8 ho hw,Zc8 ho hw];exact g _ _
   ·by_cases j:(kd i).eff=true
    ·rw [Zc0 ho hw j,Zc0 ho hw j]
     have:=e (kd i)
     constructor
     ·exact Oper.wp_mono fun u x h=>⟨h.1,(g _ _).1 h.2⟩
     ·exact Oper.wp_mono fun u x h=>⟨h.1,(g _ _).2 h.2⟩
    ·have j:(kd i).eff=false:=by simpa using j
     rw [ZeM ho hw j,ZeM ho hw j]
     constructor
     ·rintro ⟨v,b,c⟩;exact ⟨v,b,(g _ _).1 c⟩
     ·rintro ⟨v,b,c⟩;exact ⟨v,b,(g _ _).2 c⟩
theorem Zq0 {Q k:Act->World->Prop} (b:∀ a w,Q a w->k a w):∀ (l:List Nat) (a:Act) (w:World),lexP P ops kd Cl l Q a w->lexP P ops kd Cl l k a w:=by
 intro l
 induction l with
 | nil=>intro a w h;exact b _ _ h
 | cons i l g=>
  intro a w h
  cases ho:ops[i]? with
  | none=>
   unfold lexP at h ⊢
   simp only [ho] at h ⊢;exact g a w h
  | some o=>
   cases hw:Region.wanted o (yielded ops a.tmps)
   ·rw [Zc8 ho hw] at h ⊢;exact g _ _ h
   ·by_cases j:(kd i).eff=true
    ·rw [Zc0 ho hw j] at h ⊢
     exact Oper.wp_mono (fun r u h=>⟨h.1,g _ _ h.2⟩) h
    ·have j:(kd i).eff=false:=by simpa using j
     rw [ZeM ho hw j] at h ⊢
     obtain ⟨v,c,e⟩:=h
     exact ⟨v,c,g _ _ e⟩
theorem Zrr {j:Nat} {oj:Oper} (hj:ops[j]?=some oj) (hs:Region.noSelect ops=true) (hk:(kd j).eff=false) {K:Act->World->Prop}:
  ∀ (a2:List Nat) (a:Act) (w:World),
   (∀ i∈a2,∃ oi,ops[i]?=some oi/\oi.apart ops oj=true/\(kLate (kd i)=true->kRead (kd j)=false)/\((kd i).eff=true->kFix (kd j)=false)) ->
   (kRead (kd j)=true->Cl w) ->
   lexP P ops kd Cl a2 (fun a w=>(kRead (kd j)=true->Cl w)->∃ v,Y P ops Cl (kd j) oj a w v/\K (a.put oj.dst v) w) a w ->
   ∃ v,Y P ops Cl (kd j) oj a w v/\lexP P ops kd Cl a2 K (a.put oj.dst v) w:=by
 have sj:∀ cs b,oj.op≠.select cs b:=fun cs b=>Region.noSelect_spec hs j oj cs b hj
 intro a2
 induction a2 with
 | nil=>intro a w _ e h;exact h e
 | cons i a2 ih=>
  intro a w hp e h
  obtain ⟨oi,hi,ae,a3,af⟩:=hp i (List.mem_cons_self ..)
  have a4:=fun x s=>hp x (List.mem_cons_of_mem _ s)
  obtain ⟨g,o,l⟩:=Oper.apart_spec ae
  have si:∀ cs b,oi.op≠.select cs b:=fun cs b=>Region.noSelect_spec hs i oi cs b hi
  by_cases y:(kd i).eff=false
  ·obtain ⟨u,hu,hr⟩:=(Zqx hi y).1 h
   obtain ⟨v,c,hr⟩:=ih _ w a4 e hr
   have ho:Out oi a (a.put oi.dst u):=⟨u,a.defers,rfl⟩
   rw [Y_out sj g ho] at c
   refine ⟨v,c,(Zqx hi y).2 ⟨u,?_,?_⟩⟩
   ·exact (Y_out si l ⟨v,a.defers,rfl⟩).2 hu
   ·rw [<-Act.put_comm a u v o];exact hr
  ·have y:(kd i).eff=true:=by simpa using y
   cases hw:Region.wanted oi (yielded ops a.tmps)
   ·have h:=(Zc8 hi hw).1 h
    obtain ⟨v,c,hr⟩:=ih _ w a4 e h
    have ho:Out oi a (a.put oi.dst undef):=⟨undef,a.defers,rfl⟩
    rw [Y_out sj g ho] at c
    refine ⟨v,c,(Zc8 hi ?_).2 ?_⟩
    ·rw [wanted_put oi a oj.dst v l];exact hw
    ·rw [<-Act.put_comm a undef v o];exact hr
   ·have h:=(Zc0 hi hw y).1 h
    have a6:=af y
    have ab:∀ (N:Act->World->Prop) k w1,effN Cl (kd i) N k w1->(kRead (kd j)=true->Cl w1):=by
     intro N k w1 hh ah
     cases hki:kd i with
     | early=>have:=hh.1;rw [hki] at this;exact this
     | late=>rw [hki,ah] at a3;exact absurd (a3 rfl) (by simp)
     | pure=>rw [hki] at y;cases y
     | read=>rw [hki] at y;cases y
     | fix=>rw [hki] at y;cases y
    have ac:∀ w0,cls Cl (kd j) w0 w:=by
     intro w0
     cases hkj:kd j with
     | pure=>trivial
     | read=>exact e (by rw [hkj];rfl)
     | fix=>rw [hkj] at a6;cases a6
     | early=>rw [hkj] at hk;cases hk
     | late=>rw [hkj] at hk;cases hk
    obtain ⟨k,w1,ho,p⟩:=Zyd (ZrD h)
    obtain ⟨v,c,_⟩:=ih k w1 a4 (ab _ _ _ p) p.2
    rw [Y_out sj g ho] at c
    have c:=Zw7 (w1:=w) a6 c
    refine ⟨v,c,(Zc0 hi ?_ y).2 ?_⟩
    ·rw [wanted_put oi a oj.dst v l];exact hw
    ·refine Zzx ae si h ?_
     intro t w2 r f
     obtain ⟨v',ad,ag⟩:=ih t w2 a4 (ab _ _ _ f) f.2
     rw [Y_out sj g r] at ad
     obtain rfl:=Zq9 (ac w) (ac w2) c ad
     exact ⟨f.1,ag⟩
end
def deps (o:Oper):List Nat:=(o.after.toList.filter fun e=>Region.binds .any e).map (·.on)
def mkA (ops:List Oper):List (List Nat):=
 ops.foldl (fun a o=>a++[((deps o).flatMap fun k=>k::a.getD k []).eraseDups]) []
def okA (ops:List Oper) (A:List (List Nat)):Bool:=
 ops.zipIdx.all fun (o,j)=>(deps o).all (fun k=>Nat.blt k j)&&(A.getD j []).all fun i=>(deps o).any fun k=>Nat.beq k i||(A.getD k []).any (fun x=>Nat.beq x i)
def hasN (l:List Nat) (i:Nat):Bool:=l.any fun x=>Nat.beq x i
def closedA (ops:List Oper) (A:List (List Nat)):Bool:=
 ops.zipIdx.all fun (o,j)=>(deps o).all fun k=>hasN (A.getD j []) k&&(A.getD k []).all fun i=>hasN (A.getD j []) i
def pairsOk (ops:Array Oper) (l:List Oper) (A:List (List Nat)) (kd:Nat->Kind):Bool:=
 l.zipIdx.all fun (c,j)=>l.zipIdx.all fun (a,i)=>
  (Nat.beq i j||hasN (A.getD j []) i||hasN (A.getD i []) j||(a.apart ops c&&!((kd i).eff&&kFix (kd j))&&!(kFix (kd i)&&(kd j).eff))) &&
  (!(kLate (kd j)&&(kRead (kd i)||kEarly (kd i)))||hasN (A.getD j []) i)
def effs (kd:Nat->Kind) (l:List Nat):List Nat:=l.filter fun i=>(kd i).eff
def minEff (A:List (List Nat)) (kd:Nat->Kind) (a:List Nat):List Nat:=(effs kd a).filter fun j=>!((effs kd a).any fun i=>hasN (A.getD j []) i)
def seg (A:List (List Nat)) (j:Nat) (a:List Nat):List Nat:=a.filter fun i=>Nat.beq i j||hasN (A.getD j []) i
def rst (A:List (List Nat)) (j:Nat) (a:List Nat):List Nat:=a.filter fun i=>!(Nat.beq i j||hasN (A.getD j []) i)
def lexOk (ops:Array Oper) (kd:Nat->Kind):Bool:=
 Region.noSelect ops&&okA ops.toList (mkA ops.toList)&&closedA ops.toList (mkA ops.toList)&&pairsOk ops ops.toList (mkA ops.toList) kd
def lexO (P:Program) (ops:Array Oper) (kd:Nat->Kind) (Cl:World->Prop) (A:List (List Nat)):Nat->List Nat->(Act->World->Prop)->Act->World->Prop
 | 0,rem,Q,a,w=>minEff A kd rem=[]/\lexP P ops kd Cl rem Q a w
 | n+1,rem,Q,a,w=>
  (minEff A kd rem=[]->lexP P ops kd Cl rem Q a w) /\
  ∀ j∈minEff A kd rem,lexP P ops kd Cl (seg A j rem) (fun a w=>lexO P ops kd Cl A n (rst A j rem) Q a w) a w
theorem Zby {l:List Nat} {i:Nat}:hasN l i=true↔i∈l:=by
 unfold hasN;rw [List.any_eq_true]
 constructor
 ·rintro ⟨x,a,h⟩;have:=Nat.eq_of_beq_eq_true h;subst this;exact a
 ·exact fun h=>⟨i,h,Nat.beq_refl i⟩
theorem ZbD {a b:Nat} (h:a≠b):Nat.beq a b=false:=by
 cases c:Nat.beq a b with
 | false=>rfl
 | true=>exact absurd (Nat.eq_of_beq_eq_true c) h
section
variable {P:Program} {ops:Array Oper} {kd:Nat->Kind} {Cl:World->Prop}
def Closed (ops:Array Oper) (a:Array Bool):Prop:=
 ∀ (j:Nat) (o:Oper),ops[j]?=some o->a.getD j false=true->∀ k∈deps o,a.getD k false=true
theorem ZxQ {e:Array Bool} (b:Closed ops e) (l:okA ops.toList (mkA ops.toList)=true):
  ∀ (n j:Nat) (o:Oper),j<n->ops[j]?=some o->(∀ k∈deps o,e.getD k false=true)->∀ i∈(mkA ops.toList).getD j [],e.getD i false=true:=by
 intro n
 induction n with
 | zero=>intro j o h;omega
 | succ n y=>
  intro j o a1 r a i hi
  unfold okA at l
  rw [List.all_eq_true] at l
  have hm:(o,j)∈ops.toList.zipIdx:=by
   rw [List.mem_zipIdx_iff_getElem?];simpa using r
  have h:=l _ hm
  simp only [Bool.and_eq_true,List.all_eq_true,List.any_eq_true,Bool.or_eq_true] at h
  obtain ⟨w,h⟩:=h
  obtain ⟨k,u,h⟩:=h i hi
  have a3:k<j:=by have:=w k u;exact Nat.blt_eq.mp this
  rcases h with h|⟨x,c,h⟩
  ·have:=Nat.eq_of_beq_eq_true h;subst this;exact a _ u
  ·have:=Nat.eq_of_beq_eq_true h;subst this
   have a2:j<ops.size:=by
    rcases Nat.lt_or_ge j ops.size with h'|h'
    ·exact h'
    ·rw [Array.getElem?_eq_none h'] at r;cases r
   have g:k<ops.size:=ω
   exact y k ops[k] ω (by simp [g]) (b k ops[k] (by simp [g]) (a k u)) x c
theorem Zpe {l:Array Bool} {i j:Nat} {d:Bool} (hi:i<l.size):(l.setIfInBounds i true).getD j d=if j=i then true else l.getD j d:=by
 simp only [Array.getD_eq_getD_getElem?]
 by_cases h:j=i
 ·subst h;simp [hi]
 ·rw [if_neg h,Array.getElem?_setIfInBounds_ne (fun e=>h e.symm)]
def unl (a:Array Bool) (n:Nat):List Nat:=(List.range n).filter fun i=>a.getD i true==false
theorem ZfJ {a:Array Bool} {n i:Nat}:i∈unl a n↔i<n/\a.getD i true=false:=by
 simp [unl]
structure Looked (ops:Array Oper) (kd:Nat->Kind) (A:List (List Nat)):Prop where
 lt:∀ i j oj,ops[j]?=some oj->i∈A.getD j []->i<j
 trans:∀ i j k oj,ops[j]?=some oj->i∈A.getD j []->k∈A.getD i []->k∈A.getD j []
 pair:∀ i j oi oj,ops[i]?=some oi->ops[j]?=some oj->i≠j->i∉A.getD j []->j∉A.getD i [] ->
   oi.apart ops oj=true/\((kd i).eff=true->kFix (kd j)=false)
 late:∀ i j oi oj,ops[i]?=some oi->ops[j]?=some oj->kLate (kd j)=true->(kRead (kd i)=true\/kEarly (kd i)=true)->i∈A.getD j []
theorem looked (hA:okA ops.toList (mkA ops.toList)=true) (hT:closedA ops.toList (mkA ops.toList)=true) (hP:pairsOk ops ops.toList (mkA ops.toList) kd=true):Looked ops kd (mkA ops.toList):=by
 have a4:∀ {j:Nat} {o:Oper},ops[j]?=some o->j<ops.size:=fun {j o} h=>by
  rcases Nat.lt_or_ge j ops.size with h'|h'
  ·exact h'
  ·rw [Array.getElem?_eq_none h'] at h;cases h
 have a3:∀ (j:Nat) (u:Oper),ops[j]?=some u->(∀ k∈deps u,k<j)/\∀ i∈(mkA ops.toList).getD j [],∃ k∈deps u,k=i\/i∈(mkA ops.toList).getD k []:=by
  intro j u w
  unfold okA at hA
  rw [List.all_eq_true] at hA
  have hm:(u,j)∈ops.toList.zipIdx:=by rw [List.mem_zipIdx_iff_getElem?];simpa using w
  have h:=hA _ hm
  simp only [Bool.and_eq_true,List.all_eq_true,List.any_eq_true,Bool.or_eq_true] at h
  refine ⟨fun k y=>Nat.blt_eq.mp (h.1 k y),fun i hi=>?_⟩
  obtain ⟨k,y,a⟩:=h.2 i hi
  refine ⟨k,y,?_⟩
  rcases a with a|⟨x,p,a⟩
  ·exact .inl (Nat.eq_of_beq_eq_true a)
  ·have:=Nat.eq_of_beq_eq_true a;subst this;exact .inr p
 have ab:∀ (n j:Nat) (u:Oper),j<n->ops[j]?=some u->∀ i∈(mkA ops.toList).getD j [],i<j:=by
  intro n
  induction n with
  | zero=>intro j u h;omega
  | succ n ih=>
   intro j u ac w i hi
   obtain ⟨c,a⟩:=a3 j u w
   obtain ⟨k,y,b⟩:=a i hi
   have af:=c k y
   rcases b with rfl|b
   ·exact af
   ·have a5:k<ops.size:=by have:=a4 w;omega
    have:=ih k (ops[k]'a5) ω (by simp [a5]) i b
    omega
 have ae:∀ (j:Nat) (u:Oper),ops[j]?=some u->∀ k∈deps u,k∈(mkA ops.toList).getD j []/\∀ i∈(mkA ops.toList).getD k [],i∈(mkA ops.toList).getD j []:=by
  intro j u w k y
  unfold closedA at hT
  rw [List.all_eq_true] at hT
  have hm:(u,j)∈ops.toList.zipIdx:=by rw [List.mem_zipIdx_iff_getElem?];simpa using w
  have h:=hT _ hm
  simp only [Bool.and_eq_true,List.all_eq_true] at h
  obtain ⟨c,a⟩:=h k y
  exact ⟨Zby.1 c,fun i hi=>Zby.1 (a i hi)⟩
 refine ⟨fun i j u w hi=>ab (j+1) j u ω w i hi,?_,?_,?_⟩
 ·have:∀ (n i j k:Nat) (u:Oper),j<n->ops[j]?=some u->i∈(mkA ops.toList).getD j []->k∈(mkA ops.toList).getD i []->k∈(mkA ops.toList).getD j []:=by
   intro n
   induction n with
   | zero=>intro i j k u h;omega
   | succ n ih=>
    intro i j k u ac w hi y
    obtain ⟨c,a⟩:=a3 j u w
    obtain ⟨d,g,b⟩:=a i hi
    have ai:=c d g
    obtain ⟨s,l⟩:=ae j u w d g
    rcases b with rfl|b
    ·exact l k y
    ·have a6:d<ops.size:=by have:=a4 w;omega
     exact l k (ih i d k (ops[d]'a6) ω (by simp [a6]) b y)
  exact fun i j k u w hi y=>this (j+1) i j k u ω w hi y
 ·intro i j oi u hi w ad c a
  unfold pairsOk at hP
  rw [List.all_eq_true] at hP
  have hm:(u,j)∈ops.toList.zipIdx:=by rw [List.mem_zipIdx_iff_getElem?];simpa using w
  have a2:(oi,i)∈ops.toList.zipIdx:=by rw [List.mem_zipIdx_iff_getElem?];simpa using hi
  have b:=hP _ hm
  rw [List.all_eq_true] at b
  have e:=b _ a2
  have n1:hasN ((mkA ops.toList).getD j []) i=false:=by
   cases hh:hasN ((mkA ops.toList).getD j []) i with
   | false=>rfl
   | true=>exact absurd (Zby.1 hh) c
  have n2:hasN ((mkA ops.toList).getD i []) j=false:=by
   cases hh:hasN ((mkA ops.toList).getD i []) j with
   | false=>rfl
   | true=>exact absurd (Zby.1 hh) a
  simp only [ZbD ad,n1,n2,Bool.false_or,Bool.and_eq_true,Bool.not_eq_true',Bool.and_eq_false_iff] at e
  obtain ⟨⟨⟨r,f⟩,t⟩,_⟩:=e
  exact ⟨r,fun he=>by rcases f with f|f<;>simp_all⟩
 ·intro i j oi u hi w hl y
  unfold pairsOk at hP
  rw [List.all_eq_true] at hP
  have hm:(u,j)∈ops.toList.zipIdx:=by rw [List.mem_zipIdx_iff_getElem?];simpa using w
  have a2:(oi,i)∈ops.toList.zipIdx:=by rw [List.mem_zipIdx_iff_getElem?];simpa using hi
  have b:=hP _ hm
  rw [List.all_eq_true] at b
  have e:=(Bool.and_eq_true _ _▸b _ a2).2
  have ag:(kRead (kd i)||kEarly (kd i))=true:=by simpa using y
  rw [hl,ag] at e
  exact Zby.1 (by simpa using e)
theorem Zzy {A:List (List Nat)} (hL:Looked ops kd A) (ap:Region.noSelect ops=true) {j:Nat} {oj:Oper} (ab:ops[j]?=some oj) (a3:(kd j).eff=false) {Q:Act->World->Prop}:
  ∀ (n:Nat) (a0:List Nat) (a:Act) (w:World),(∀ i∈a0,∃ o,ops[i]?=some o)->a0.Pairwise (·<·)->j∈a0->(∀ i∈a0,i∉A.getD j [])->(kRead (kd j)=true->Cl w) ->
   lexO P ops kd Cl A n a0 Q a w->∃ v,Y P ops Cl (kd j) oj a w v/\lexO P ops kd Cl A n (a0.filter fun i=>!Nat.beq i j) Q (a.put oj.dst v) w:=by
 -- out of a list in the order of the text
 have ae:∀ (l:List Nat) (K:Act->World->Prop) (a:Act) (w:World),(∀ i∈l,∃ o,ops[i]?=some o)->l.Pairwise (·<·)->j∈l->(∀ i∈l,i∉A.getD j [])->(kRead (kd j)=true->Cl w) ->
   lexP P ops kd Cl l K a w->∃ v,Y P ops Cl (kd j) oj a w v/\lexP P ops kd Cl (l.filter fun i=>!Nat.beq i j) K (a.put oj.dst v) w:=by
  intro l K a w a4 aa ay a1 a7 h
  obtain ⟨a9,a2,rfl⟩:=List.append_of_mem ay
  obtain ⟨p1,p2,u⟩:=List.pairwise_append.1 aa
  have hf:(a9++j::a2).filter (fun i=>!Nat.beq i j)=a9++a2:=by
   rw [List.filter_append,List.filter_cons]
   rw [List.filter_eq_self.2 fun i hi=>by rw [ZbD (by have:=u i hi j (List.mem_cons_self ..);omega)];rfl]
   rw [List.filter_eq_self.2 fun i hi=>by rw [ZbD (by have:=(List.pairwise_cons.1 p2).1 i hi;omega)];rfl]
   simp
  rw [hf]
  rw [Zvc] at h
  have b0:∀ a':Act,lexP P ops kd Cl a9 (lexP P ops kd Cl a2 K) a' w->lexP P ops kd Cl (a9++a2) K a' w:=fun a' h'=>(Zvc a9 a2 a' w).2 h'
  suffices hsuff:∃ v,Y P ops Cl (kd j) oj a w v/\lexP P ops kd Cl a9 (lexP P ops kd Cl a2 K) (a.put oj.dst v) w by
   obtain ⟨v,k,p⟩:=hsuff;exact ⟨v,k,b0 _ p⟩
  refine Zrr ab ap a3 (K:=lexP P ops kd Cl a2 K) a9 a w (fun i hi=>?_) a7 ?_
  ·obtain ⟨oi,a8⟩:=a4 i (List.mem_append_left _ hi)
   have a5:i<j:=u i hi j (List.mem_cons_self ..)
   have ag:j∉A.getD i []:=fun hm=>by have:=hL.lt j i oi a8 hm;omega
   obtain ⟨s,t⟩:=hL.pair i j oi oj a8 ab ω (a1 i (List.mem_append_left _ hi)) ag
   refine ⟨oi,a8,s,fun hl=>?_,t⟩
   cases hrd:kRead (kd j) with
   | false=>rfl
   | true=>exact absurd (hL.late j i oj oi ab a8 hl (.inl hrd)) ag
  ·refine Zq0 (fun a' w' h'=>?_) a9 a w h
   exact fun _=>(Zqx ab a3).1 h'
 have af:∀ a0:List Nat,minEff A kd (a0.filter fun i=>!Nat.beq i j)=minEff A kd a0:=by
  intro a0
  have he:effs kd (a0.filter fun i=>!Nat.beq i j)=effs kd a0:=by
   unfold effs
   rw [List.filter_filter]
   apply List.filter_congr
   intro i _
   by_cases a5:i=j
   ·subst a5;simp [a3]
   ·simp [ZbD a5]
  unfold minEff
  rw [he]
 intro n
 induction n with
 | zero=>
  intro a0 a w a4 aa hj a1 a7 h
  obtain ⟨v,f,hr⟩:=ae a0 Q a w a4 aa hj a1 a7 h.2
  exact ⟨v,f,by rw [af];exact h.1,hr⟩
 | succ n ih=>
  intro a0 a w a4 aa hj a1 a7 h
  -- one value for all
  have ah:∀ e∈minEff A kd a0,∃ v,Y P ops Cl (kd j) oj a w v /\
    lexP P ops kd Cl (seg A e (a0.filter fun i=>!Nat.beq i j)) (fun a w=>lexO P ops kd Cl A n (rst A e (a0.filter fun i=>!Nat.beq i j)) Q a w) (a.put oj.dst v) w:=by
   intro e he
   have y:=h.2 e he
   have b5:e∈a0:=(List.mem_filter.1 (List.mem_filter.1 he).1).1
   have ar:(kd e).eff=true:=(List.mem_filter.1 (List.mem_filter.1 he).1).2
   obtain ⟨oe,b2⟩:=a4 e b5
   have ba:e≠j:=fun x=>by subst x;rw [a3] at ar;cases ar
   have c1:seg A e (a0.filter fun i=>!Nat.beq i j)=(seg A e a0).filter fun i=>!Nat.beq i j:=by
    unfold seg;rw [List.filter_filter,List.filter_filter];apply List.filter_congr;intro i _;exact Bool.and_comm _ _
   have c2:rst A e (a0.filter fun i=>!Nat.beq i j)=(rst A e a0).filter fun i=>!Nat.beq i j:=by
    unfold rst;rw [List.filter_filter,List.filter_filter];apply List.filter_congr;intro i _;exact Bool.and_comm _ _
   rw [c1,c2]
   have c:∀ i∈seg A e a0,i∈a0:=fun i hi=>(List.mem_filter.1 hi).1
   have g:∀ i∈rst A e a0,i∈a0:=fun i hi=>(List.mem_filter.1 hi).1
   by_cases ad:j∈seg A e a0
   ·have hr:(rst A e a0).filter (fun i=>!Nat.beq i j)=rst A e a0:=by
     rw [List.filter_eq_self]
     intro i hi
     have a5:i≠j:=fun x=>by
      subst x
      have k:=(List.mem_filter.1 hi).2
      have p:=(List.mem_filter.1 ad).2
      rw [p] at k;cases k
     rw [ZbD a5];rfl
    rw [hr]
    exact ae _ _ a w (fun i hi=>a4 i (c i hi)) (aa.sublist List.filter_sublist) ad (fun i hi=>a1 i (c i hi)) a7 y
   ·have aw:j∈rst A e a0:=by
     refine List.mem_filter.2 ⟨hj,?_⟩
     cases hh:(Nat.beq j e||hasN (A.getD e []) j) with
     | false=>rfl
     | true=>exact absurd (List.mem_filter.2 ⟨hj,hh⟩) ad
    have hs:(seg A e a0).filter (fun i=>!Nat.beq i j)=seg A e a0:=by
     rw [List.filter_eq_self]
     intro i hi
     have a5:i≠j:=fun x=>by subst x;exact ad hi
     rw [ZbD a5];rfl
    rw [hs]
    have aq:j∉A.getD e []:=fun hm=>ad (List.mem_filter.2 ⟨hj,by rw [Zby.2 hm];simp⟩)
    refine Zrr ab ap a3 (K:=fun a w=>lexO P ops kd Cl A n ((rst A e a0).filter fun i=>!Nat.beq i j) Q a w) (seg A e a0) a w (fun i hi=>?_) a7 ?_
    ·obtain ⟨oi,a8⟩:=a4 i (c i hi)
     have a5:i≠j:=fun x=>by subst x;exact ad hi
     have ag:j∉A.getD i []:=fun hm=>by
      have b:=(List.mem_filter.1 hi).2
      rw [Bool.or_eq_true] at b
      rcases b with b|b
      ·have:=Nat.eq_of_beq_eq_true b;subst this;exact aq hm
      ·exact aq (hL.trans i e j oe b2 (Zby.1 b) hm)
     obtain ⟨s,t⟩:=hL.pair i j oi oj a8 ab a5 (a1 i (c i hi)) ag
     refine ⟨oi,a8,s,fun hl=>?_,t⟩
     cases hrd:kRead (kd j) with
     | false=>rfl
     | true=>exact absurd (hL.late j i oj oi ab a8 hl (.inl hrd)) ag
    ·refine Zq0 (fun a' w' h' b1=>?_) _ a w y
     exact ih (rst A e a0) a' w' (fun i hi=>a4 i (g i hi)) (aa.sublist List.filter_sublist) aw (fun i hi=>a1 i (g i hi)) b1 h'
  have au:cls Cl (kd j) w w:=by
   cases hkj:kd j with
   | pure=>trivial
   | read=>exact a7 (by rw [hkj];rfl)
   | fix=>rfl
   | early=>rw [hkj] at a3;cases a3
   | late=>rw [hkj] at a3;cases a3
  cases hms:minEff A kd a0 with
  | nil=>
   obtain ⟨v,f,hr⟩:=ae a0 Q a w a4 aa hj a1 a7 (h.1 hms)
   refine ⟨v,f,fun _=>hr,fun e he=>?_⟩
   rw [af,hms] at he;cases he
  | cons e0 r=>
   obtain ⟨v,f,_⟩:=ah e0 (by rw [hms];exact List.mem_cons_self ..)
   refine ⟨v,f,fun hn=>?_,fun e he=>?_⟩
   ·rw [af,hms] at hn;cases hn
   ·rw [af] at he
    obtain ⟨v',b3,az⟩:=ah e he
    obtain rfl:=Zq9 au au f b3
    exact az
theorem ZFl {A:List (List Nat)} {Q:Exit->Act->World->Prop} (bg:Region.noSelect ops=true) (hA:okA ops.toList A=true) (bi:A=mkA ops.toList) (hL:Looked ops kd A):
  ∀ (fuel:Nat) (a0:Array Bool) (a:Act) (w:World) (m:Nat),a0.size=ops.size->Closed ops a0->(unl a0 ops.size).length<=fuel ->
   ((∃ i,i<ops.size/\a0.getD i true=false/\(kRead (kd i)=true\/kEarly (kd i)=true))->Cl w) ->
   lexO P ops kd Cl A m (unl a0 ops.size) (fun a w=>Q .normal a w) a w->wpAny P .any ops Q fuel a0 a w:=by
 have ai:∀ i,i<ops.size->∃ o,ops[i]?=some o:=fun i hi=>⟨ops[i],by simp [hi]⟩
 -- the first that is not a0 is ready
 have ax:∀ (a0:Array Bool),a0.size=ops.size->Region.ready .any ops a0=[]->unl a0 ops.size=[]:=by
  intro a0 ak hr
  have ag:∀ n i,i<n->i<ops.size->a0.getD i true=true:=by
   intro n
   induction n with
   | zero=>intro i h;omega
   | succ n ih=>
    intro i bu a3
    cases hl:a0.getD i true with
    | true=>rfl
    | false=>
     have:i∈Region.ready .any ops a0:=by
      rw [mem_ready]
      refine ⟨hl,ops[i],by simp [a3],fun e he b=>?_⟩
      unfold okA at hA
      rw [List.all_eq_true] at hA
      have hm:(ops[i],i)∈ops.toList.zipIdx:=by
       rw [List.mem_zipIdx_iff_getElem?];simp [a3]
      have h:=hA _ hm
      simp only [Bool.and_eq_true,List.all_eq_true] at h
      have hk:e.on<i:=Nat.blt_eq.mp (h.1 e.on (List.mem_map.2 ⟨e,List.mem_filter.2 ⟨by simpa using he,b⟩,rfl⟩))
      have g:=ih e.on ω ω
      have bk:e.on<a0.size:=ω
      simp only [Array.getD_eq_getD_getElem?,Array.getElem?_eq_getElem bk,Option.getD_some] at g ⊢
      exact g
     rw [hr] at this;cases this
  cases hu:unl a0 ops.size with
  | nil=>rfl
  | cons i r=>
   have hi:i∈unl a0 ops.size:=by rw [hu];exact List.mem_cons_self ..
   rw [ZfJ] at hi
   have:=ag (i+1) i ω hi.1
   rw [hi.2] at this;cases this
 have b0:∀ (m:Nat) (a:Act) (w:World),lexO P ops kd Cl A m [] (fun a w=>Q .normal a w) a w->Q .normal a w:=by
  intro m a w h
  cases m with
  | zero=>exact h.2
  | succ m=>exact h.1 rfl
 intro fuel
 induction fuel with
 | zero=>
  intro a0 a w m ak p bb _ h
  have hu:unl a0 ops.size=[]:=List.length_eq_zero_iff.1 ω
  rw [hu] at h
  refine ⟨?_,b0 m a w h⟩
  cases hr:Region.ready .any ops a0 with
  | nil=>rfl
  | cons i r=>
   have hi:i∈Region.ready .any ops a0:=by rw [hr];exact List.mem_cons_self ..
   obtain ⟨f,o,g,_⟩:=mem_ready.1 hi
   have a3:i<ops.size:=by
    rcases Nat.lt_or_ge i ops.size with h'|h'
    ·exact h'
    ·rw [Array.getElem?_eq_none h'] at g
     cases g
   have:i∈unl a0 ops.size:=ZfJ.2 ⟨a3,f⟩
   rw [hu] at this;cases this
 | succ fuel ih=>
  intro a0 a w m ak p bb au h
  refine ⟨fun hr=>by rw [ax a0 ak hr] at h;exact b0 m a w h,fun j hj=>?_⟩
  obtain ⟨az,oj,a5,ag⟩:=mem_ready.1 hj
  have b7:j<ops.size:=by
   rcases Nat.lt_or_ge j ops.size with h'|h'
   ·exact h'
   ·rw [Array.getElem?_eq_none h'] at a5;cases a5
  have aj:∀ k∈deps oj,a0.getD k false=true:=by
   intro k hk
   obtain ⟨e,he,rfl⟩:=List.mem_map.1 hk
   obtain ⟨s,t⟩:=List.mem_filter.1 he
   exact ag e (by simpa using s) t
  have ba:∀ i,i∈A.getD j []->a0.getD i false=true:=by
   subst bi;exact ZxQ p hA (j+1) j oj ω a5 aj
  have aq:∀ i,i<ops.size->a0.getD i true=false->i∉A.getD j []:=by
   intro i a3 a4 hi
   have:=ba i hi
   have a3:i<a0.size:=ω
   simp only [Array.getD_eq_getD_getElem?,Array.getElem?_eq_getElem a3,Option.getD_some] at this a4
   rw [a4] at this;cases this
  have ae:(a0.setIfInBounds j true).size=ops.size:=by simpa using ak
  have aw:Closed ops (a0.setIfInBounds j true):=by
   intro x o c hl k hk
   rw [Zpe ω] at hl ⊢
   by_cases a2:k=j
   ·simp [a2]
   ·rw [if_neg a2]
    by_cases b4:x=j
    ·subst b4;rw [a5] at c;cases c;exact aj k hk
    ·rw [if_neg b4] at hl;exact p x o c hl k hk
  have a7:unl (a0.setIfInBounds j true) ops.size=(unl a0 ops.size).filter fun i=>!Nat.beq i j:=by
   unfold unl
   rw [List.filter_filter]
   refine List.filter_congr fun i _=>?_
   rw [Zpe ω]
   by_cases ad:i=j
   ·subst ad;simp
   ·simp [ad,ZbD ad]
  have al:j∈unl a0 ops.size:=ZfJ.2 ⟨b7,az⟩
  have a8:(unl (a0.setIfInBounds j true) ops.size).length<=fuel:=by
   rw [a7]
   have:((unl a0 ops.size).filter fun i=>!Nat.beq i j).length<(unl a0 ops.size).length:=by
    rw [List.length_filter_lt_length_iff_exists]
    exact ⟨j,al,by simp⟩
   omega
  have af:∀ w',(¬ kLate (kd j)=true->((∃ i,i<ops.size/\a0.getD i true=false/\(kRead (kd i)=true\/kEarly (kd i)=true))->Cl w')) ->
    (∃ i,i<ops.size/\(a0.setIfInBounds j true).getD i true=false/\(kRead (kd i)=true\/kEarly (kd i)=true))->Cl w':=by
   rintro w' be ⟨i,a3,a4,hk⟩
   rw [Zpe ω] at a4
   have ad:i≠j:=fun e=>by rw [if_pos e] at a4;cases a4
   rw [if_neg ad] at a4
   by_cases hl:kLate (kd j)=true
   ·obtain ⟨oi,bn⟩:=ai i a3
    exact absurd (hL.late i j oi oj bn a5 hl hk) (aq i a3 a4)
   ·exact be hl ⟨i,a3,a4,hk⟩
  have ap:∀ i∈unl a0 ops.size,∃ o,ops[i]?=some o:=fun i hi=>ai i (ZfJ.1 hi).1
  have b5:(unl a0 ops.size).Pairwise (·<·):=List.Pairwise.sublist List.filter_sublist List.pairwise_lt_range
  have aa:∀ i∈unl a0 ops.size,i∉A.getD j []:=fun i hi=>aq i (ZfJ.1 hi).1 (ZfJ.1 hi).2
  unfold wpOp
  rw [a5]
  simp only
  by_cases a1:(kd j).eff=true
  ·-- an effect: it is among those that may come next
   have a9:j∈minEff A kd (unl a0 ops.size):=by
    refine List.mem_filter.2 ⟨List.mem_filter.2 ⟨al,a1⟩,?_⟩
    cases hh:(effs kd (unl a0 ops.size)).any fun i=>hasN (A.getD j []) i with
    | false=>rfl
    | true=>
     obtain ⟨i,hi,bf⟩:=List.any_eq_true.1 hh
     exact absurd (Zby.1 bf) (aa i (List.mem_filter.1 hi).1)
   have bd:seg A j (unl a0 ops.size)=[j]:=by
    have f:seg A j (unl a0 ops.size)=(unl a0 ops.size).filter fun i=>Nat.beq i j:=by
     unfold seg
     refine List.filter_congr fun i hi=>?_
     have:hasN (A.getD j []) i=false:=by
      cases hh:hasN (A.getD j []) i with
      | false=>rfl
      | true=>exact absurd (Zby.1 hh) (aa i hi)
     rw [this,Bool.or_false]
    rw [f]
    have b9:∀ l:List Nat,l.Pairwise (·<·)->j∈l->l.filter (fun i=>Nat.beq i j)=[j]:=by
     intro l
     induction l with
     | nil=>intro _ h;cases h
     | cons x l bj=>
      intro hp hm
      obtain ⟨y,q2⟩:=List.pairwise_cons.1 hp
      by_cases c:x=j
      ·subst c
       rw [List.filter_cons,if_pos (by simp)]
       rw [List.filter_eq_nil_iff.2 fun i hi=>by rw [ZbD (by have:=y i hi;omega)];simp]
      ·rw [List.filter_cons,ZbD c]
       cases hm with
       | head=>exact absurd rfl c
       | tail _ hm=>simpa using bj q2 hm
    exact b9 _ b5 al
   have b8:rst A j (unl a0 ops.size)=unl (a0.setIfInBounds j true) ops.size:=by
    rw [a7]
    unfold rst
    refine List.filter_congr fun i hi=>?_
    have:hasN (A.getD j []) i=false:=by
     cases hh:hasN (A.getD j []) i with
     | false=>rfl
     | true=>exact absurd (Zby.1 hh) (aa i hi)
    rw [this,Bool.or_false]
   cases m with
   | zero=>rw [h.1] at a9;cases a9
   | succ m=>
    have b:=h.2 j a9
    rw [bd,b8] at b
    split
    ·rename_i hw
     refine .inl (Zsy ?_)
     have b:=(Zc0 a5 hw a1).1 b
     refine Oper.wp_mono ?_ b
     intro a' w' u
     refine ih _ a' w' m ae aw a8 (af w' fun hl am=>?_) u.2
     have f:=u.1
     cases a2:kd j with
     | early=>rw [a2] at f;exact f
     | late=>rw [a2] at hl;exact absurd rfl hl
     | pure=>rw [a2] at a1;cases a1
     | read=>rw [a2] at a1;cases a1
     | fix=>rw [a2] at a1;cases a1
    ·rename_i hw
     have b:=(Zc8 a5 (by simpa using hw)).1 b
     exact ih _ _ w m ae aw a8 (af w fun _ am=>au am) b
  ·have a1:(kd j).eff=false:=by simpa using a1
   have ay:(kRead (kd j)=true->Cl w):=fun bo=>au ⟨j,b7,az,.inl bo⟩
   have bm:cls Cl (kd j) w w:=by
    cases a2:kd j with
    | pure=>trivial
    | read=>exact ay (by rw [a2];rfl)
    | fix=>rfl
    | early=>rw [a2] at a1;cases a1
    | late=>rw [a2] at a1;cases a1
   obtain ⟨v,hv,hr⟩:=Zzy hL bg a5 a1 m _ a w ap b5 al aa ay h
   rw [<-a7] at hr
   have b6:=ih _ (a.put oj.dst v) w m ae aw a8 (af w fun _ am=>au am) hr
   rcases hv with ⟨hw,hst⟩|⟨hw,rfl⟩
   ·rw [if_pos hw]
    refine .inl ?_
    unfold Oper.wp
    rw [hst w bm]
    exact b6
   ·rw [if_neg (by simp [hw])]
    exact b6
theorem ZAj {id:Nat} {Q:Exit->Act->World->Prop} {a:Act} {w:World} (hm:P.follows .mixedOrders=true) (c:lexOk ops kd=true)
  (e:Cl { w with drawn:=w.drawn+1 })
  (h:lexO P ops kd Cl (mkA ops.toList) ops.size (List.range ops.size) (fun a w=>Q .normal a w) a { w with drawn:=w.drawn+1 }):(Code.region id ops true).wp P Q a w:=by
 refine wp_region_any hm ?_
 simp only [lexOk,Bool.and_eq_true] at c
 obtain ⟨⟨⟨g,k⟩,y⟩,x⟩:=c
 have l:unl (Array.replicate ops.size false) ops.size=List.range ops.size:=by
  unfold unl
  rw [List.filter_eq_self]
  intro i hi
  rw [List.mem_range] at hi
  simp [Array.getD_eq_getD_getElem?,hi]
 refine ZFl g k rfl (looked k y x) ops.size _ a _ ops.size (by simp) ?_ ?_ (fun _=>e) (by rw [l];exact h)
 ·intro j o r u
  have:j<ops.size:=by
   rcases Nat.lt_or_ge j ops.size with h'|h'
   ·exact h'
   ·rw [Array.getElem?_eq_none h'] at r;cases r
  simp [Array.getD_eq_getD_getElem?,this] at u
 ·rw [l];simp
end
end Go.Vc
