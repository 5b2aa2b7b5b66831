import Derived.Test.YtahnjnfpjcfklaaGreatDoorPuBase
import Derived.Still
namespace Go.Vc
set_option linter.unusedVariables false
set_option linter.unusedSimpArgs false
open Go
inductive Kind where
 | pure|read|fix|early|late
def Kind.eff:Kind->Bool
 | .early|.late=>true
 | _=>false
def kRead:Kind->Bool|.read=>true|_=>false
def kFix:Kind->Bool|.fix=>true|_=>false
def kLate:Kind->Bool|.late=>true|_=>false
def kEarly:Kind->Bool|.early=>true|_=>false
def Bot:Exit->Act->World->Prop:=fun _ _ _=>False
section
variable (P:Program) (ops:Array Oper) (kd:Nat->Kind) (Cl:World->Prop)
def cls (k:Kind) (w w':World):Prop:=
 match k with
 | .pure=>True
 | .read=>Cl w'
 | .fix=>w'=w
 | _=>False
def St (k:Kind) (o:Oper) (a:Act) (w:World) (v:Value):Prop:=
 ∀ w',cls Cl k w w'->(execOp a.eval o).run P w'=.ok (.value v) w'
def lexP:List Nat->(Act->World->Prop)->Act->World->Prop
 | [],Q,a,w=>Q a w
 | i::r,Q,a,w=>match ops[i]? with
  | none=>lexP r Q a w
  | some o=>
   if Region.wanted o (yielded ops a.tmps) then
    match kd i with
    | .early=>o.wp P a w (fun e w'=>Cl w'/\lexP r Q e w') Bot
    | .late=>o.wp P a w (fun e w'=>lexP r Q e w') Bot
    | k=>∃ v,St P Cl k o a w v/\lexP r Q (a.put o.dst v) w
   else lexP r Q (a.put o.dst undef) w
def effN (k:Kind) (N:Act->World->Prop):Act->World->Prop:=fun a w=>(match k with|.early=>Cl w|_=>True)/\N a w
end
section
variable {P:Program} {ops:Array Oper} {kd:Nat->Kind} {Cl:World->Prop}
theorem ZcM {i:Nat} {r:List Nat} {Q:Act->World->Prop} {a:Act} {w:World} {o:Oper} (j:ops[i]?=some o)
  (e:Region.wanted o (yielded ops a.tmps)=true) (g:(kd i).eff=true):
  lexP P ops kd Cl (i::r) Q a w↔o.wp P a w (effN Cl (kd i) (lexP P ops kd Cl r Q)) Bot:=by
 unfold lexP;simp only [j,e,if_true];cases h:kd i<;>simp [h,Kind.eff] at g
 ·constructor
  ·exact Oper.wp_mono fun a w h=>⟨h.1,h.2⟩
  ·exact Oper.wp_mono fun a w h=>⟨h.1,h.2⟩
 ·constructor
  ·exact Oper.wp_mono fun a w h=>⟨trivial,h⟩
  ·exact Oper.wp_mono fun a w h=>h.2
theorem Zdb {i:Nat} {r:List Nat} {Q:Act->World->Prop} {a:Act} {w:World} {o:Oper} (j:ops[i]?=some o)
  (e:Region.wanted o (yielded ops a.tmps)=true) (g:(kd i).eff=false):
  lexP P ops kd Cl (i::r) Q a w↔∃ v,St P Cl (kd i) o a w v/\lexP P ops kd Cl r Q (a.put o.dst v) w:=by
 conv=>lhs;unfold lexP
 simp only [j,e,if_true];cases h:kd i<;>simp [h,Kind.eff] at g<;>exact Iff.rfl
theorem Zct {i:Nat} {r:List Nat} {Q:Act->World->Prop} {a:Act} {w:World} {o:Oper} (g:ops[i]?=some o)
  (e:Region.wanted o (yielded ops a.tmps)=false):
  lexP P ops kd Cl (i::r) Q a w↔lexP P ops kd Cl r Q (a.put o.dst undef) w:=by
 conv=>lhs;unfold lexP
 simp only [g,e];exact Iff.rfl
theorem Zwd {o:Oper} {a:Act} {w:World} {N:Act->World->Prop} (h:o.wp P a w N Bot):∃ j w',N j w':=by
 unfold Oper.wp at h;generalize (execOp a.eval o).run P w=r at h;cases r with
 | ok n w'=>
  cases n<;>simp only [Oper.upon] at h
  case value v=>exact ⟨_,_,h⟩
  case skip=>exact ⟨_,_,h⟩
  case defer d=>exact ⟨_,_,h⟩
  case enter f args=>
   obtain ⟨e,w2,l,g,_⟩:=h [];cases e with
   | returned v=>exact ⟨_,_,g⟩
   | panicked c=>exact g.elim
   | outgrown=>obtain ⟨_,_,k⟩:=g;exact k.elim
  case row row args=>
   obtain ⟨v,w2,g,_⟩:=h default [];exact ⟨_,_,g⟩
 | halt x w'=>cases x<;>simp only [Oper.upon,Bot] at h
def Out (o:Oper) (a g:Act):Prop:=∃ v e,g={ a with defers:=e }.put o.dst v
theorem Zs7 {o:Oper} {a:Act} {w:World} {N:Act->World->Prop} (h:o.wp P a w N Bot):
  o.wp P a w (fun j w'=>Out o a j/\N j w') Bot:=by
 unfold Oper.wp at *;generalize (execOp a.eval o).run P w=r at *;have same:∀ v,Out o a (a.put o.dst v):=fun v=>⟨v,a.defers,rfl⟩
 cases r with
 | ok n w'=>
  cases n<;>simp only [Oper.upon] at h ⊢
  case value v=>exact ⟨same v,h⟩
  case skip=>exact ⟨same _,h⟩
  case defer d=>exact ⟨⟨_,_,rfl⟩,h⟩
  case enter f args=>
   exact Calls.mono h fun e w2 g=>by
    cases e with
    | returned v=>exact ⟨same v,g⟩
    | panicked c=>exact g
    | outgrown=>obtain ⟨_,_,k⟩:=g;exact k.elim
  case row row args=>exact Rows.mono h fun v w2 g=>⟨same v,g⟩
 | halt x w'=>cases x<;>simp only [Oper.upon,Bot] at h
theorem ZGj {k o:Oper} {a:Act} {w:World} {u:Value} {N N':Act->World->Prop} (a4:k.apart ops o=true)
  (hs:∀ cs b,k.op≠.select cs b) (h:k.wp P a w N Bot) (hN:∀ a1 w1,Out k a a1->N a1 w1->N' (a1.put o.dst u) w1):
  k.wp P (a.put o.dst u) w N' Bot:=by
 obtain ⟨h1,i,j⟩:=Oper.apart_spec a4;have h:=Zs7 h;unfold Oper.wp at *;rw [execOp_put k hs a o.dst u j];generalize (execOp a.eval k).run P w=r at *;have g:∀ v,(a.put o.dst u).put k.dst v=(a.put k.dst v).put o.dst u:=fun v=>(Act.put_comm a v u i).symm;cases r with
 | ok n w'=>
  cases n<;>simp only [Oper.upon] at h ⊢
  case value v=>rw [g];exact hN _ _ h.1 h.2
  case skip=>rw [g];exact hN _ _ h.1 h.2
  case defer d=>
   have:=hN _ _ h.1 h.2;rw [Act.put_defers,<-Act.put_comm _ undef u i];exact this
  case enter f args=>
   exact Calls.mono h fun e w2 l=>by
    cases e with
    | returned v=>show N' _ _;rw [g];exact hN _ _ l.1 l.2
    | panicked c=>exact l
    | outgrown=>obtain ⟨_,_,hf⟩:=l;exact hf.elim
  case row row args=>exact Rows.mono h fun v w2 l=>by show N' _ _;rw [g];exact hN _ _ l.1 l.2
 | halt x w'=>cases x<;>simp only [Oper.upon,Bot] at h
theorem ZrC {P:Program} {o:Oper} {a:Act} {w:World} {N:Act->World->Prop} {Q:Exit->Act->World->Prop} (h:o.wp P a w N Bot):o.wp P a w N Q:=by
 unfold Oper.wp at h ⊢;generalize (execOp a.eval o).run P w=r at h ⊢;cases r with
 | ok n w'=>
  cases n<;>simp only [Oper.upon] at h ⊢
  case value v=>exact h
  case skip=>exact h
  case defer d=>exact h
  case enter f args=>
   exact Calls.mono h fun e w2 g=>by
    cases e with
    | returned v=>exact g
    | panicked c=>exact g.elim
    | outgrown=>obtain ⟨_,_,j⟩:=g;exact j.elim
  case row row args=>exact h
 | halt x w'=>cases x<;>simp only [Oper.upon,Bot] at h
def Y (P:Program) (ops:Array Oper) (Cl:World->Prop) (k:Kind) (o:Oper) (a:Act) (w:World) (v:Value):Prop:=
 (Region.wanted o (yielded ops a.tmps)=true/\St P Cl k o a w v)\/(Region.wanted o (yielded ops a.tmps)=false/\v=undef)
theorem ZGH {k:Kind} {o g:Oper} {a:Act} {w:World} {v u:Value} (hs:∀ cs b,o.op≠.select cs b) (e:∀ d,g.dst=some d->d∉o.looksAt ops):
  St P Cl k o (a.put g.dst u) w v↔St P Cl k o a w v:=by
 unfold St;rw [execOp_put o hs a g.dst u e]
theorem ZEh {a:Act} {e:List Deferred}:({ a with defers:=e }:Act).eval=a.eval:=by
 funext x;cases x<;>rfl
theorem ZGA {k:Kind} {o h:Oper} {a g:Act} {w:World} {v:Value} (hs:∀ cs b,o.op≠.select cs b) (e:∀ d,h.dst=some d->d∉o.looksAt ops)
  (j:Out h a g):St P Cl k o g w v↔St P Cl k o a w v:=by
 obtain ⟨u,l,rfl⟩:=j;rw [ZGH hs e];unfold St;rw [ZEh]
theorem ZF1 {o g:Oper} {a h:Act} (e:∀ d,g.dst=some d->d∉o.looksAt ops) (j:Out g a h):
  Region.wanted o (yielded ops h.tmps)=Region.wanted o (yielded ops a.tmps):=by
 obtain ⟨u,k,rfl⟩:=j;rw [wanted_put o _ g.dst u e]
theorem Y_out {k:Kind} {o h:Oper} {a g:Act} {w:World} {v:Value} (hs:∀ cs b,o.op≠.select cs b) (e:∀ d,h.dst=some d->d∉o.looksAt ops)
  (j:Out h a g):Y P ops Cl k o g w v↔Y P ops Cl k o a w v:=by
 unfold Y;rw [ZGA hs e j,ZF1 e j]
theorem ZEc {k:Kind} {o:Oper} {a:Act} {w w1:World} {v:Value} (j:kFix k=false) (h:Y P ops Cl k o a w v):Y P ops Cl k o a w1 v:=by
 have e:∀ w',cls Cl k w1 w'->cls Cl k w w':=by
  intro w' h;cases k<;>first|exact h|cases j
 rcases h with ⟨h1,f⟩|h
 ·exact .inl ⟨h1,fun w' g=>f w' (e w' g)⟩
 ·exact .inr h
theorem Zso {k:Kind} {o:Oper} {a:Act} {v r:Value} {w w0 w1:World} (i:cls Cl k w0 w) (h1:cls Cl k w1 w)
  (h:Y P ops Cl k o a w0 v) (u:Y P ops Cl k o a w1 r):v=r:=by
 rcases h with ⟨g,j⟩|⟨g,rfl⟩<;>rcases u with ⟨f,l⟩|⟨f,rfl⟩
 ·have e:=(j w i).symm.trans (l w h1);simpa using e
 ·rw [g] at f;cases f
 ·rw [g] at f;cases f
 ·rfl
theorem Zn3 {i:Nat} {r:List Nat} {Q:Act->World->Prop} {a:Act} {w:World} {o:Oper} (g:ops[i]?=some o) (j:(kd i).eff=false):
  lexP P ops kd Cl (i::r) Q a w↔∃ v,Y P ops Cl (kd i) o a w v/\lexP P ops kd Cl r Q (a.put o.dst v) w:=by
 cases hw:Region.wanted o (yielded ops a.tmps)
 ·rw [Zct g hw];constructor
  ·exact fun h=>⟨undef,.inr ⟨hw,rfl⟩,h⟩
  ·rintro ⟨v,⟨h1,_⟩|⟨_,rfl⟩,h⟩
   ·rw [hw] at h1;cases h1
   ·exact h
 ·rw [Zdb g hw j];constructor
  ·rintro ⟨v,h1,e⟩;exact ⟨v,.inl ⟨hw,h1⟩,e⟩
  ·rintro ⟨v,⟨_,h1⟩|⟨h1,_⟩,h⟩
   ·exact ⟨v,h1,h⟩
   ·rw [hw] at h1;cases h1
theorem Zqz (l r:List Nat) {Q:Act->World->Prop}:∀ (a:Act) (w:World),lexP P ops kd Cl (l++r) Q a w↔lexP P ops kd Cl l (lexP P ops kd Cl r Q) a w:=by
 induction l with
 | nil=>intro a w;exact Iff.rfl
 | cons i l g=>
  intro a w;have e:∀ (k:Kind) ,(fun u w'=>effN Cl k (lexP P ops kd Cl (l++r) Q) u w')=effN Cl k (lexP P ops kd Cl l (lexP P ops kd Cl r Q)):=by
   intro k;funext u w';unfold effN;rw [g]
  rw [List.cons_append];cases ho:ops[i]? with
  | none=>
   conv=>lhs;unfold lexP
   conv=>rhs;unfold lexP
   simp only [ho];exact g a w
  | some o=>
   cases hw:Region.wanted o (yielded ops a.tmps)
   ·rw [Zct ho hw,Zct ho hw];exact g _ _
   ·by_cases j:(kd i).eff=true
    ·rw [ZcM ho hw j,ZcM ho hw j];have:=e (kd i);constructor
     ·exact Oper.wp_mono fun u w' h=>⟨h.1,(g _ _).1 h.2⟩
     ·exact Oper.wp_mono fun u w' h=>⟨h.1,(g _ _).2 h.2⟩
    ·have j:(kd i).eff=false:=by simpa using j
     rw [Zdb ho hw j,Zdb ho hw j];constructor
     ·rintro ⟨v,h1,f⟩;exact ⟨v,h1,(g _ _).1 f⟩
     ·rintro ⟨v,h1,f⟩;exact ⟨v,h1,(g _ _).2 f⟩
theorem Zqt {Q k:Act->World->Prop} (e:∀ a w,Q a w->k a w):∀ (l:List Nat) (a:Act) (w:World),lexP P ops kd Cl l Q a w->lexP P ops kd Cl l k a w:=by
 intro l;induction l with
 | nil=>intro a w h;exact e _ _ h
 | cons i l j=>
  intro a w h;cases ho:ops[i]? with
  | none=>
   unfold lexP at h ⊢;simp only [ho] at h ⊢;exact j a w h
  | some o=>
   cases hw:Region.wanted o (yielded ops a.tmps)
   ·rw [Zct ho hw] at h ⊢;exact j _ _ h
   ·by_cases g:(kd i).eff=true
    ·rw [ZcM ho hw g] at h ⊢;exact Oper.wp_mono (fun r w' h=>⟨h.1,j _ _ h.2⟩) h
    ·have g:(kd i).eff=false:=by simpa using g
     rw [Zdb ho hw g] at h ⊢;obtain ⟨v,h1,f⟩:=h;exact ⟨v,h1,j _ _ f⟩
theorem ZuY {j:Nat} {oj:Oper} (hj:ops[j]?=some oj) (hs:Region.noSelect ops=true) (hk:(kd j).eff=false) {K:Act->World->Prop}:
  ∀ (pre:List Nat) (a:Act) (w:World),
   (∀ i∈pre,∃ oi,ops[i]?=some oi/\oi.apart ops oj=true/\(kLate (kd i)=true->kRead (kd j)=false)/\((kd i).eff=true->kFix (kd j)=false)) ->
   (kRead (kd j)=true->Cl w) ->
   lexP P ops kd Cl pre (fun a w=>(kRead (kd j)=true->Cl w)->∃ v,Y P ops Cl (kd j) oj a w v/\K (a.put oj.dst v) w) a w ->
   ∃ v,Y P ops Cl (kd j) oj a w v/\lexP P ops kd Cl pre K (a.put oj.dst v) w:=by
 have sj:∀ cs b,oj.op≠.select cs b:=fun cs b=>Region.noSelect_spec hs j oj cs b hj;intro pre;induction pre with
 | nil=>intro a w _ f h;exact h f
 | cons i pre ih=>
  intro a w hp f h;obtain ⟨oi,hi,ad,a5,ah⟩:=hp i (List.mem_cons_self ..);have a6:=fun x s=>hp x (List.mem_cons_of_mem _ s);obtain ⟨h1,l,k⟩:=Oper.apart_spec ad;have si:∀ cs b,oi.op≠.select cs b:=fun cs b=>Region.noSelect_spec hs i oi cs b hi;by_cases a2:(kd i).eff=false
  ·obtain ⟨u,hu,hr⟩:=(Zn3 hi a2).1 h;obtain ⟨v,e,hr⟩:=ih _ w a6 f hr;have ho:Out oi a (a.put oi.dst u):=⟨u,a.defers,rfl⟩
   rw [Y_out sj h1 ho] at e;refine ⟨v,e,(Zn3 hi a2).2 ⟨u,?_,?_⟩⟩
   ·exact (Y_out si k ⟨v,a.defers,rfl⟩).2 hu
   ·rw [<-Act.put_comm a u v l];exact hr
  ·have a2:(kd i).eff=true:=by simpa using a2
   cases hw:Region.wanted oi (yielded ops a.tmps)
   ·have h:=(Zct hi hw).1 h;obtain ⟨v,e,hr⟩:=ih _ w a6 f h;have ho:Out oi a (a.put oi.dst undef):=⟨undef,a.defers,rfl⟩
    rw [Y_out sj h1 ho] at e;refine ⟨v,e,(Zct hi ?_).2 ?_⟩
    ·rw [wanted_put oi a oj.dst v k];exact hw
    ·rw [<-Act.put_comm a undef v l];exact hr
   ·have h:=(ZcM hi hw a2).1 h;have a7:=ah a2;have af:∀ (N:Act->World->Prop) a1 w1,effN Cl (kd i) N a1 w1->(kRead (kd j)=true->Cl w1):=by
     intro N a1 w1 hh ak;cases hki:kd i with
     | early=>have:=hh.1;rw [hki] at this;exact this
     | late=>rw [hki,ak] at a5;exact absurd (a5 rfl) (by simp)
     | pure=>rw [hki] at a2;cases a2
     | read=>rw [hki] at a2;cases a2
     | fix=>rw [hki] at a2;cases a2
    have ag:∀ w0,cls Cl (kd j) w0 w:=by
     intro w0;cases hkj:kd j with
     | pure=>trivial
     | read=>exact f (by rw [hkj];rfl)
     | fix=>rw [hkj] at a7;cases a7
     | early=>rw [hkj] at hk;cases hk
     | late=>rw [hkj] at hk;cases hk
    obtain ⟨a1,w1,ho,o⟩:=Zwd (Zs7 h);obtain ⟨v,e,_⟩:=ih a1 w1 a6 (af _ _ _ o) o.2;rw [Y_out sj h1 ho] at e;have e:=ZEc (w1:=w) a7 e;refine ⟨v,e,(ZcM hi ?_ a2).2 ?_⟩
    ·rw [wanted_put oi a oj.dst v k];exact hw
    ·refine ZGj ad si h ?_;intro y w2 r g;obtain ⟨v',ae,aj⟩:=ih y w2 a6 (af _ _ _ g) g.2;rw [Y_out sj h1 r] at ae;obtain rfl:=Zso (ag w) (ag w2) e ae;exact ⟨g.1,aj⟩
end
def deps (o:Oper):List Nat:=(o.after.toList.filter fun e=>Region.binds .any e).map (·.on)
def mkA (ops:List Oper):List (List Nat):=
 ops.foldl (fun a o=>a++[((deps o).flatMap fun k=>k::a.getD k []).eraseDups]) []
def okA (ops:List Oper) (A:List (List Nat)):Bool:=
 ops.zipIdx.all fun (o,j)=>(deps o).all (fun k=>Nat.blt k j)&&(A.getD j []).all fun i=>(deps o).any fun k=>Nat.beq k i||(A.getD k []).any (fun x=>Nat.beq x i)
def hasN (l:List Nat) (i:Nat):Bool:=l.any fun x=>Nat.beq x i
def closedA (ops:List Oper) (A:List (List Nat)):Bool:=
 ops.zipIdx.all fun (o,j)=>(deps o).all fun k=>hasN (A.getD j []) k&&(A.getD k []).all fun i=>hasN (A.getD j []) i
def pairsOk (ops:Array Oper) (l:List Oper) (A:List (List Nat)) (kd:Nat->Kind):Bool:=
 l.zipIdx.all fun (e,j)=>l.zipIdx.all fun (a,i)=>
  (Nat.beq i j||hasN (A.getD j []) i||hasN (A.getD i []) j||(a.apart ops e&&!((kd i).eff&&kFix (kd j))&&!(kFix (kd i)&&(kd j).eff))) &&
  (!(kLate (kd j)&&(kRead (kd i)||kEarly (kd i)))||hasN (A.getD j []) i)
def effs (kd:Nat->Kind) (l:List Nat):List Nat:=l.filter fun i=>(kd i).eff
def minEff (A:List (List Nat)) (kd:Nat->Kind) (a:List Nat):List Nat:=(effs kd a).filter fun j=>!((effs kd a).any fun i=>hasN (A.getD j []) i)
def seg (A:List (List Nat)) (j:Nat) (a:List Nat):List Nat:=a.filter fun i=>Nat.beq i j||hasN (A.getD j []) i
def rst (A:List (List Nat)) (j:Nat) (a:List Nat):List Nat:=a.filter fun i=>!(Nat.beq i j||hasN (A.getD j []) i)
def lexOk (ops:Array Oper) (kd:Nat->Kind):Bool:=
 Region.noSelect ops&&okA ops.toList (mkA ops.toList)&&closedA ops.toList (mkA ops.toList)&&pairsOk ops ops.toList (mkA ops.toList) kd
def lexO (P:Program) (ops:Array Oper) (kd:Nat->Kind) (Cl:World->Prop) (A:List (List Nat)):Nat->List Nat->(Act->World->Prop)->Act->World->Prop
 | 0,rem,Q,a,w=>minEff A kd rem=[]/\lexP P ops kd Cl rem Q a w
 | n+1,rem,Q,a,w=>
  (minEff A kd rem=[]->lexP P ops kd Cl rem Q a w) /\
  ∀ j∈minEff A kd rem,lexP P ops kd Cl (seg A j rem) (fun a w=>lexO P ops kd Cl A n (rst A j rem) Q a w) a w
theorem Zbm {l:List Nat} {i:Nat}:hasN l i=true↔i∈l:=by
 unfold hasN;rw [List.any_eq_true];constructor
 ·rintro ⟨x,a,h⟩;have:=Nat.eq_of_beq_eq_true h;subst this;exact a
 ·exact fun h=>⟨i,h,Nat.beq_refl i⟩
theorem ZbC {a b:Nat} (h:a≠b):Nat.beq a b=false:=by
 cases e:Nat.beq a b with
 | false=>rfl
 | true=>exact absurd (Nat.eq_of_beq_eq_true e) h
section
variable {P:Program} {ops:Array Oper} {kd:Nat->Kind} {Cl:World->Prop}
def Closed (ops:Array Oper) (a:Array Bool):Prop:=
 ∀ (j:Nat) (o:Oper),ops[j]?=some o->a.getD j false=true->∀ k∈deps o,a.getD k false=true
theorem ZGn {g:Array Bool} (e:Closed ops g) (r:okA ops.toList (mkA ops.toList)=true):
  ∀ (n j:Nat) (o:Oper),j<n->ops[j]?=some o->(∀ k∈deps o,g.getD k false=true)->∀ i∈(mkA ops.toList).getD j [],g.getD i false=true:=by
 intro n;induction n with
 | zero=>intro j o h;omega
 | succ n ih=>
  intro j o a7 u a i hi;unfold okA at r;rw [List.all_eq_true] at r;have hm:(o,j)∈ops.toList.zipIdx:=by
   rw [List.mem_zipIdx_iff_getElem?];simpa using u
  have h:=r _ hm;simp only [Bool.and_eq_true,List.all_eq_true,List.any_eq_true,Bool.or_eq_true] at h;obtain ⟨a2,h⟩:=h;obtain ⟨k,w,h⟩:=h i hi;have a6:k<j:=by have:=a2 k w;exact Nat.blt_eq.mp this
  rcases h with h|⟨x,f,h⟩
  ·have:=Nat.eq_of_beq_eq_true h;subst this;exact a _ w
  ·have:=Nat.eq_of_beq_eq_true h;subst this;have a5:j<ops.size:=by
    rcases Nat.lt_or_ge j ops.size with h'|h'
    ·exact h'
    ·rw [Array.getElem?_eq_none h'] at u;cases u
   have l:k<ops.size:=ω;exact ih k ops[k] ω (by simp [l]) (e k ops[k] (by simp [l]) (a k w)) x f
theorem Zmd {l:Array Bool} {i j:Nat} {d:Bool} (hi:i<l.size):(l.setIfInBounds i true).getD j d=if j=i then true else l.getD j d:=by
 simp only [Array.getD_eq_getD_getElem?];by_cases h:j=i
 ·subst h;simp [hi]
 ·rw [if_neg h,Array.getElem?_setIfInBounds_ne (fun e=>h e.symm)]
def unl (a:Array Bool) (n:Nat):List Nat:=(List.range n).filter fun i=>a.getD i true==false
theorem Zef {a:Array Bool} {n i:Nat}:i∈unl a n↔i<n/\a.getD i true=false:=by
 simp [unl]
structure Looked (ops:Array Oper) (kd:Nat->Kind) (A:List (List Nat)):Prop where
 lt:∀ i j oj,ops[j]?=some oj->i∈A.getD j []->i<j
 trans:∀ i j k oj,ops[j]?=some oj->i∈A.getD j []->k∈A.getD i []->k∈A.getD j []
 pair:∀ i j oi oj,ops[i]?=some oi->ops[j]?=some oj->i≠j->i∉A.getD j []->j∉A.getD i [] ->
   oi.apart ops oj=true/\((kd i).eff=true->kFix (kd j)=false)
 late:∀ i j oi oj,ops[i]?=some oi->ops[j]?=some oj->kLate (kd j)=true->(kRead (kd i)=true\/kEarly (kd i)=true)->i∈A.getD j []
theorem looked (hA:okA ops.toList (mkA ops.toList)=true) (hT:closedA ops.toList (mkA ops.toList)=true) (hP:pairsOk ops ops.toList (mkA ops.toList) kd=true):Looked ops kd (mkA ops.toList):=by
 have a9:∀ {j:Nat} {o:Oper},ops[j]?=some o->j<ops.size:=fun {j o} h=>by
  rcases Nat.lt_or_ge j ops.size with h'|h'
  ·exact h'
  ·rw [Array.getElem?_eq_none h'] at h;cases h
 have aa:∀ (j:Nat) (oj:Oper),ops[j]?=some oj->(∀ k∈deps oj,k<j)/\∀ i∈(mkA ops.toList).getD j [],∃ k∈deps oj,k=i\/i∈(mkA ops.toList).getD k []:=by
  intro j oj hj;unfold okA at hA;rw [List.all_eq_true] at hA;have hm:(oj,j)∈ops.toList.zipIdx:=by rw [List.mem_zipIdx_iff_getElem?];simpa using hj
  have h:=hA _ hm;simp only [Bool.and_eq_true,List.all_eq_true,List.any_eq_true,Bool.or_eq_true] at h;refine ⟨fun k hk=>Nat.blt_eq.mp (h.1 k hk),fun i hi=>?_⟩;obtain ⟨k,hk,a⟩:=h.2 i hi;refine ⟨k,hk,?_⟩;rcases a with a|⟨x,s,a⟩
  ·exact .inl (Nat.eq_of_beq_eq_true a)
  ·have:=Nat.eq_of_beq_eq_true a;subst this;exact .inr s
 have al:∀ (n j:Nat) (oj:Oper),j<n->ops[j]?=some oj->∀ i∈(mkA ops.toList).getD j [],i<j:=by
  intro n;induction n with
  | zero=>intro j oj h;omega
  | succ n ih=>
   intro j oj ak hj i hi;obtain ⟨h1,a⟩:=aa j oj hj;obtain ⟨k,hk,e⟩:=a i hi;have aj:=h1 k hk;rcases e with rfl|e
   ·exact aj
   ·have a8:k<ops.size:=by have:=a9 hj;omega
    have:=ih k (ops[k]'a8) ω (by simp [a8]) i e;omega
 have ai:∀ (j:Nat) (oj:Oper),ops[j]?=some oj->∀ k∈deps oj,k∈(mkA ops.toList).getD j []/\∀ i∈(mkA ops.toList).getD k [],i∈(mkA ops.toList).getD j []:=by
  intro j oj hj k hk;unfold closedA at hT;rw [List.all_eq_true] at hT;have hm:(oj,j)∈ops.toList.zipIdx:=by rw [List.mem_zipIdx_iff_getElem?];simpa using hj
  have h:=hT _ hm;simp only [Bool.and_eq_true,List.all_eq_true] at h;obtain ⟨h1,a⟩:=h k hk;exact ⟨Zbm.1 h1,fun i hi=>Zbm.1 (a i hi)⟩
 refine ⟨fun i j oj hj hi=>al (j+1) j oj ω hj i hi,?_,?_,?_⟩
 ·have:∀ (n i j k:Nat) (oj:Oper),j<n->ops[j]?=some oj->i∈(mkA ops.toList).getD j []->k∈(mkA ops.toList).getD i []->k∈(mkA ops.toList).getD j []:=by
   intro n;induction n with
   | zero=>intro i j k oj h;omega
   | succ n ih=>
    intro i j k oj ak hj hi hk;obtain ⟨h1,a⟩:=aa j oj hj;obtain ⟨d,l,e⟩:=a i hi;have ao:=h1 d l;obtain ⟨v,r⟩:=ai j oj hj d l;rcases e with rfl|e
    ·exact r k hk
    ·have ab:d<ops.size:=by have:=a9 hj;omega
     exact r k (ih i d k (ops[d]'ab) ω (by simp [ab]) e hk)
  exact fun i j k oj hj hi hk=>this (j+1) i j k oj ω hj hi hk
 ·intro i j oi oj hi hj ah h1 a;unfold pairsOk at hP;rw [List.all_eq_true] at hP;have hm:(oj,j)∈ops.toList.zipIdx:=by rw [List.mem_zipIdx_iff_getElem?];simpa using hj
  have a7:(oi,i)∈ops.toList.zipIdx:=by rw [List.mem_zipIdx_iff_getElem?];simpa using hi
  have e:=hP _ hm;rw [List.all_eq_true] at e;have f:=e _ a7;have n1:hasN ((mkA ops.toList).getD j []) i=false:=by
   cases hh:hasN ((mkA ops.toList).getD j []) i with
   | false=>rfl
   | true=>exact absurd (Zbm.1 hh) h1
  have n2:hasN ((mkA ops.toList).getD i []) j=false:=by
   cases hh:hasN ((mkA ops.toList).getD i []) j with
   | false=>rfl
   | true=>exact absurd (Zbm.1 hh) a
  simp only [ZbC ah,n1,n2,Bool.false_or,Bool.and_eq_true,Bool.not_eq_true',Bool.and_eq_false_iff] at f;obtain ⟨⟨⟨u,g⟩,w⟩,_⟩:=f;exact ⟨u,fun he=>by rcases g with g|g<;>simp_all⟩
 ·intro i j oi oj hi hj hl hk;unfold pairsOk at hP;rw [List.all_eq_true] at hP;have hm:(oj,j)∈ops.toList.zipIdx:=by rw [List.mem_zipIdx_iff_getElem?];simpa using hj
  have a7:(oi,i)∈ops.toList.zipIdx:=by rw [List.mem_zipIdx_iff_getElem?];simpa using hi
  have e:=hP _ hm;rw [List.all_eq_true] at e;have f:=(Bool.and_eq_true _ _▸e _ a7).2;have ag:(kRead (kd i)||kEarly (kd i))=true:=by simpa using hk
  rw [hl,ag] at f;exact Zbm.1 (by simpa using f)
theorem ZxH {A:List (List Nat)} (hL:Looked ops kd A) (av:Region.noSelect ops=true) {j:Nat} {oj:Oper} (ab:ops[j]?=some oj) (a7:(kd j).eff=false) {Q:Act->World->Prop}:
  ∀ (n:Nat) (a2:List Nat) (a:Act) (w:World),(∀ i∈a2,∃ o,ops[i]?=some o)->a2.Pairwise (·<·)->j∈a2->(∀ i∈a2,i∉A.getD j [])->(kRead (kd j)=true->Cl w) ->
   lexO P ops kd Cl A n a2 Q a w->∃ v,Y P ops Cl (kd j) oj a w v/\lexO P ops kd Cl A n (a2.filter fun i=>!Nat.beq i j) Q (a.put oj.dst v) w:=by
 -- out of a list in the order of the text
 have af:∀ (l:List Nat) (K:Act->World->Prop) (a:Act) (w:World),(∀ i∈l,∃ o,ops[i]?=some o)->l.Pairwise (·<·)->j∈l->(∀ i∈l,i∉A.getD j [])->(kRead (kd j)=true->Cl w) ->
   lexP P ops kd Cl l K a w->∃ v,Y P ops Cl (kd j) oj a w v/\lexP P ops kd Cl (l.filter fun i=>!Nat.beq i j) K (a.put oj.dst v) w:=by
  intro l K a w a5 ad b6 a3 aa h;obtain ⟨pre,a4,rfl⟩:=List.append_of_mem b6;obtain ⟨p1,p2,p3⟩:=List.pairwise_append.1 ad;have hf:(pre++j::a4).filter (fun i=>!Nat.beq i j)=pre++a4:=by
   rw [List.filter_append,List.filter_cons];rw [List.filter_eq_self.2 fun i hi=>by rw [ZbC (by have:=p3 i hi j (List.mem_cons_self ..);omega)];rfl];rw [List.filter_eq_self.2 fun i hi=>by rw [ZbC (by have:=(List.pairwise_cons.1 p2).1 i hi;omega)];rfl];simp
  rw [hf];rw [Zqz] at h;have fin:∀ a':Act,lexP P ops kd Cl pre (lexP P ops kd Cl a4 K) a' w->lexP P ops kd Cl (pre++a4) K a' w:=fun a' h'=>(Zqz pre a4 a' w).2 h'
  suffices hsuff:∃ v,Y P ops Cl (kd j) oj a w v/\lexP P ops kd Cl pre (lexP P ops kd Cl a4 K) (a.put oj.dst v) w by
   obtain ⟨v,h1,u⟩:=hsuff;exact ⟨v,h1,fin _ u⟩
  refine ZuY ab av a7 (K:=lexP P ops kd Cl a4 K) pre a w (fun i hi=>?_) aa ?_
  ·obtain ⟨oi,a9⟩:=a5 i (List.mem_append_left _ hi);have a6:i<j:=p3 i hi j (List.mem_cons_self ..);have ah:j∉A.getD i []:=fun hm=>by have:=hL.lt j i oi a9 hm;omega
   obtain ⟨y,g2⟩:=hL.pair i j oi oj a9 ab ω (a3 i (List.mem_append_left _ hi)) ah;refine ⟨oi,a9,y,fun hl=>?_,g2⟩;cases hrd:kRead (kd j) with
   | false=>rfl
   | true=>exact absurd (hL.late j i oj oi ab a9 hl (.inl hrd)) ah
  ·refine Zqt (fun a' w' h'=>?_) pre a w h;exact fun _=>(Zn3 ab a7).1 h'
 have ag:∀ a2:List Nat,minEff A kd (a2.filter fun i=>!Nat.beq i j)=minEff A kd a2:=by
  intro a2;have he:effs kd (a2.filter fun i=>!Nat.beq i j)=effs kd a2:=by
   unfold effs;rw [List.filter_filter];apply List.filter_congr;intro i _;by_cases a6:i=j
   ·subst a6;simp [a7]
   ·simp [ZbC a6]
  unfold minEff;rw [he]
 intro n;induction n with
 | zero=>
  intro a2 a w a5 ad hj a3 aa h;obtain ⟨v,k,hr⟩:=af a2 Q a w a5 ad hj a3 aa h.2;exact ⟨v,k,by rw [ag];exact h.1,hr⟩
 | succ n ih=>
  intro a2 a w a5 ad hj a3 aa h
  -- one value for all
  have ai:∀ e∈minEff A kd a2,∃ v,Y P ops Cl (kd j) oj a w v /\
    lexP P ops kd Cl (seg A e (a2.filter fun i=>!Nat.beq i j)) (fun a w=>lexO P ops kd Cl A n (rst A e (a2.filter fun i=>!Nat.beq i j)) Q a w) (a.put oj.dst v) w:=by
   intro e he;have hb:=h.2 e he;have b7:e∈a2:=(List.mem_filter.1 (List.mem_filter.1 he).1).1;have au:(kd e).eff=true:=(List.mem_filter.1 (List.mem_filter.1 he).1).2;obtain ⟨oe,b1⟩:=a5 e b7;have bd:e≠j:=fun x=>by subst x;rw [a7] at au;cases au
   have c1:seg A e (a2.filter fun i=>!Nat.beq i j)=(seg A e a2).filter fun i=>!Nat.beq i j:=by
    unfold seg;rw [List.filter_filter,List.filter_filter];apply List.filter_congr;intro i _;exact Bool.and_comm _ _
   have c2:rst A e (a2.filter fun i=>!Nat.beq i j)=(rst A e a2).filter fun i=>!Nat.beq i j:=by
    unfold rst;rw [List.filter_filter,List.filter_filter];apply List.filter_congr;intro i _;exact Bool.and_comm _ _
   rw [c1,c2];have g:∀ i∈seg A e a2,i∈a2:=fun i hi=>(List.mem_filter.1 hi).1;have s:∀ i∈rst A e a2,i∈a2:=fun i hi=>(List.mem_filter.1 hi).1;by_cases ae:j∈seg A e a2
   ·have hr:(rst A e a2).filter (fun i=>!Nat.beq i j)=rst A e a2:=by
     rw [List.filter_eq_self];intro i hi;have a6:i≠j:=fun x=>by
      subst x;have h1:=(List.mem_filter.1 hi).2;have u:=(List.mem_filter.1 ae).2;rw [u] at h1;cases h1
     rw [ZbC a6];rfl
    rw [hr];exact af _ _ a w (fun i hi=>a5 i (g i hi)) (ad.sublist List.filter_sublist) ae (fun i hi=>a3 i (g i hi)) aa hb
   ·have b2:j∈rst A e a2:=by
     refine List.mem_filter.2 ⟨hj,?_⟩;cases hh:(Nat.beq j e||hasN (A.getD e []) j) with
     | false=>rfl
     | true=>exact absurd (List.mem_filter.2 ⟨hj,hh⟩) ae
    have hs:(seg A e a2).filter (fun i=>!Nat.beq i j)=seg A e a2:=by
     rw [List.filter_eq_self];intro i hi;have a6:i≠j:=fun x=>by subst x;exact ae hi
     rw [ZbC a6];rfl
    rw [hs];have ar:j∉A.getD e []:=fun hm=>ae (List.mem_filter.2 ⟨hj,by rw [Zbm.2 hm];simp⟩);refine ZuY ab av a7 (K:=fun a w=>lexO P ops kd Cl A n ((rst A e a2).filter fun i=>!Nat.beq i j) Q a w) (seg A e a2) a w (fun i hi=>?_) aa ?_
    ·obtain ⟨oi,a9⟩:=a5 i (g i hi);have a6:i≠j:=fun x=>by subst x;exact ae hi
     have ah:j∉A.getD i []:=fun hm=>by
      have f:=(List.mem_filter.1 hi).2;rw [Bool.or_eq_true] at f;rcases f with f|f
      ·have:=Nat.eq_of_beq_eq_true f;subst this;exact ar hm
      ·exact ar (hL.trans i e j oe b1 (Zbm.1 f) hm)
     obtain ⟨y,g2⟩:=hL.pair i j oi oj a9 ab a6 (a3 i (g i hi)) ah;refine ⟨oi,a9,y,fun hl=>?_,g2⟩;cases hrd:kRead (kd j) with
     | false=>rfl
     | true=>exact absurd (hL.late j i oj oi ab a9 hl (.inl hrd)) ah
    ·refine Zqt (fun a' w' h' az=>?_) _ a w hb;exact ih (rst A e a2) a' w' (fun i hi=>a5 i (s i hi)) (ad.sublist List.filter_sublist) b2 (fun i hi=>a3 i (s i hi)) az h'
  have aw:cls Cl (kd j) w w:=by
   cases hkj:kd j with
   | pure=>trivial
   | read=>exact aa (by rw [hkj];rfl)
   | fix=>rfl
   | early=>rw [hkj] at a7;cases a7
   | late=>rw [hkj] at a7;cases a7
  cases hms:minEff A kd a2 with
  | nil=>
   obtain ⟨v,k,hr⟩:=af a2 Q a w a5 ad hj a3 aa (h.1 hms);refine ⟨v,k,fun _=>hr,fun e he=>?_⟩;rw [ag,hms] at he;cases he
  | cons e0 r=>
   obtain ⟨v,k,_⟩:=ai e0 (by rw [hms];exact List.mem_cons_self ..);refine ⟨v,k,fun hn=>?_,fun e he=>?_⟩
   ·rw [ag,hms] at hn;cases hn
   ·rw [ag] at he;obtain ⟨v',b4,b5⟩:=ai e he;obtain rfl:=Zso aw aw k b4;exact b5
theorem ZCH {A:List (List Nat)} {Q:Exit->Act->World->Prop} (bj:Region.noSelect ops=true) (hA:okA ops.toList A=true) (bh:A=mkA ops.toList) (hL:Looked ops kd A):
  ∀ (fuel:Nat) (a3:Array Bool) (a:Act) (w:World) (m:Nat),a3.size=ops.size->Closed ops a3->(unl a3 ops.size).length<=fuel ->
   ((∃ i,i<ops.size/\a3.getD i true=false/\(kRead (kd i)=true\/kEarly (kd i)=true))->Cl w) ->
   lexO P ops kd Cl A m (unl a3 ops.size) (fun a w=>Q .normal a w) a w->wpAny P .any ops Q fuel a3 a w:=by
 have al:∀ i,i<ops.size->∃ o,ops[i]?=some o:=fun i hi=>⟨ops[i],by simp [hi]⟩
 -- the first that is not a3 is ready
 have b1:∀ (a3:Array Bool),a3.size=ops.size->Region.ready .any ops a3=[]->unl a3 ops.size=[]:=by
  intro a3 ap hr;have ai:∀ n i,i<n->i<ops.size->a3.getD i true=true:=by
   intro n;induction n with
   | zero=>intro i h;omega
   | succ n ih=>
    intro i bz a6;cases hl:a3.getD i true with
    | true=>rfl
    | false=>
     have:i∈Region.ready .any ops a3:=by
      rw [mem_ready];refine ⟨hl,ops[i],by simp [a6],fun e he f=>?_⟩;unfold okA at hA;rw [List.all_eq_true] at hA;have hm:(ops[i],i)∈ops.toList.zipIdx:=by
       rw [List.mem_zipIdx_iff_getElem?];simp [a6]
      have h:=hA _ hm;simp only [Bool.and_eq_true,List.all_eq_true] at h;have hk:e.on<i:=Nat.blt_eq.mp (h.1 e.on (List.mem_map.2 ⟨e,List.mem_filter.2 ⟨by simpa using he,f⟩,rfl⟩));have s:=ih e.on ω ω;have bq:e.on<a3.size:=ω;simp only [Array.getD_eq_getD_getElem?,Array.getElem?_eq_getElem bq,Option.getD_some] at s ⊢;exact s
     rw [hr] at this;cases this
  cases hu:unl a3 ops.size with
  | nil=>rfl
  | cons i r=>
   have hi:i∈unl a3 ops.size:=by rw [hu];exact List.mem_cons_self ..
   rw [Zef] at hi;have:=ai (i+1) i ω hi.1;rw [hi.2] at this;cases this
 have b0:∀ (m:Nat) (a:Act) (w:World),lexO P ops kd Cl A m [] (fun a w=>Q .normal a w) a w->Q .normal a w:=by
  intro m a w h;cases m with
  | zero=>exact h.2
  | succ m=>exact h.1 rfl
 intro fuel;induction fuel with
 | zero=>
  intro a3 a w m ap u bb _ h;have hu:unl a3 ops.size=[]:=List.length_eq_zero_iff.1 ω;rw [hu] at h;refine ⟨?_,b0 m a w h⟩;cases hr:Region.ready .any ops a3 with
  | nil=>rfl
  | cons i r=>
   have hi:i∈Region.ready .any ops a3:=by rw [hr];exact List.mem_cons_self ..
   obtain ⟨h1,o,s,_⟩:=mem_ready.1 hi;have a6:i<ops.size:=by
    rcases Nat.lt_or_ge i ops.size with h'|h'
    ·exact h'
    ·rw [Array.getElem?_eq_none h'] at s;cases s
   have:i∈unl a3 ops.size:=Zef.2 ⟨a6,h1⟩;rw [hu] at this;cases this
 | succ fuel ih=>
  intro a3 a w m ap u bb b2 h;refine ⟨fun hr=>by rw [b1 a3 ap hr] at h;exact b0 m a w h,fun j hj=>?_⟩;obtain ⟨ax,oj,a7,ai⟩:=mem_ready.1 hj;have b7:j<ops.size:=by
   rcases Nat.lt_or_ge j ops.size with h'|h'
   ·exact h'
   ·rw [Array.getElem?_eq_none h'] at a7;cases a7
  have ao:∀ k∈deps oj,a3.getD k false=true:=by
   intro k hk;obtain ⟨e,he,rfl⟩:=List.mem_map.1 hk;obtain ⟨y,a2⟩:=List.mem_filter.1 he;exact ai e (by simpa using y) a2
  have be:∀ i,i∈A.getD j []->a3.getD i false=true:=by
   subst bh;exact ZGn u hA (j+1) j oj ω a7 ao
  have ay:∀ i,i<ops.size->a3.getD i true=false->i∉A.getD j []:=by
   intro i a6 a8 hi;have:=be i hi;have a6:i<a3.size:=ω;simp only [Array.getD_eq_getD_getElem?,Array.getElem?_eq_getElem a6,Option.getD_some] at this a8;rw [a8] at this;cases this
  have aj:(a3.setIfInBounds j true).size=ops.size:=by simpa using ap
  have au:Closed ops (a3.setIfInBounds j true):=by
   intro x o g hl k hk;rw [Zmd ω] at hl ⊢;by_cases a5:k=j
   ·simp [a5]
   ·rw [if_neg a5];by_cases b6:x=j
    ·subst b6;rw [a7] at g;cases g;exact ao k hk
    ·rw [if_neg b6] at hl;exact u x o g hl k hk
  have aa:unl (a3.setIfInBounds j true) ops.size=(unl a3 ops.size).filter fun i=>!Nat.beq i j:=by
   unfold unl;rw [List.filter_filter];refine List.filter_congr fun i _=>?_;rw [Zmd ω];by_cases af:i=j
   ·subst af;simp
   ·simp [af,ZbC af]
  have am:j∈unl a3 ops.size:=Zef.2 ⟨b7,ax⟩;have ad:(unl (a3.setIfInBounds j true) ops.size).length<=fuel:=by
   rw [aa];have:((unl a3 ops.size).filter fun i=>!Nat.beq i j).length<(unl a3 ops.size).length:=by
    rw [List.length_filter_lt_length_iff_exists];exact ⟨j,am,by simp⟩
   omega
  have ak:∀ w',(¬ kLate (kd j)=true->((∃ i,i<ops.size/\a3.getD i true=false/\(kRead (kd i)=true\/kEarly (kd i)=true))->Cl w')) ->
    (∃ i,i<ops.size/\(a3.setIfInBounds j true).getD i true=false/\(kRead (kd i)=true\/kEarly (kd i)=true))->Cl w':=by
   rintro w' bp ⟨i,a6,a8,hk⟩;rw [Zmd ω] at a8;have af:i≠j:=fun e=>by rw [if_pos e] at a8;cases a8
   rw [if_neg af] at a8;by_cases hl:kLate (kd j)=true
   ·obtain ⟨oi,bf⟩:=al i a6;exact absurd (hL.late i j oi oj bf a7 hl hk) (ay i a6 a8)
   ·exact bp hl ⟨i,a6,a8,hk⟩
  have ar:∀ i∈unl a3 ops.size,∃ o,ops[i]?=some o:=fun i hi=>al i (Zef.1 hi).1;have b8:(unl a3 ops.size).Pairwise (·<·):=List.Pairwise.sublist List.filter_sublist List.pairwise_lt_range;have ac:∀ i∈unl a3 ops.size,i∉A.getD j []:=fun i hi=>ay i (Zef.1 hi).1 (Zef.1 hi).2;unfold wpOp;rw [a7];simp only;by_cases a4:(kd j).eff=true
  ·-- an effect: it is among those that may come next
   have ab:j∈minEff A kd (unl a3 ops.size):=by
    refine List.mem_filter.2 ⟨List.mem_filter.2 ⟨am,a4⟩,?_⟩;cases hh:(effs kd (unl a3 ops.size)).any fun i=>hasN (A.getD j []) i with
    | false=>rfl
    | true=>
     obtain ⟨i,hi,bi⟩:=List.any_eq_true.1 hh;exact absurd (Zbm.1 bi) (ac i (List.mem_filter.1 hi).1)
   have b9:seg A j (unl a3 ops.size)=[j]:=by
    have h1:seg A j (unl a3 ops.size)=(unl a3 ops.size).filter fun i=>Nat.beq i j:=by
     unfold seg;refine List.filter_congr fun i hi=>?_;have:hasN (A.getD j []) i=false:=by
      cases hh:hasN (A.getD j []) i with
      | false=>rfl
      | true=>exact absurd (Zbm.1 hh) (ac i hi)
     rw [this,Bool.or_false]
    rw [h1];have ba:∀ l:List Nat,l.Pairwise (·<·)->j∈l->l.filter (fun i=>Nat.beq i j)=[j]:=by
     intro l;induction l with
     | nil=>intro _ h;cases h
     | cons x l bk=>
      intro hp hm;obtain ⟨q1,q2⟩:=List.pairwise_cons.1 hp;by_cases g:x=j
      ·subst g;rw [List.filter_cons,if_pos (by simp)];rw [List.filter_eq_nil_iff.2 fun i hi=>by rw [ZbC (by have:=q1 i hi;omega)];simp]
      ·rw [List.filter_cons,ZbC g];cases hm with
       | head=>exact absurd rfl g
       | tail _ hm=>simpa using bk q2 hm
    exact ba _ b8 am
   have bd:rst A j (unl a3 ops.size)=unl (a3.setIfInBounds j true) ops.size:=by
    rw [aa];unfold rst;refine List.filter_congr fun i hi=>?_;have:hasN (A.getD j []) i=false:=by
     cases hh:hasN (A.getD j []) i with
     | false=>rfl
     | true=>exact absurd (Zbm.1 hh) (ac i hi)
    rw [this,Bool.or_false]
   cases m with
   | zero=>rw [h.1] at ab;cases ab
   | succ m=>
    have f:=h.2 j ab;rw [b9,bd] at f;split
    ·rename_i hw;refine .inl (ZrC ?_);have f:=(ZcM a7 hw a4).1 f;refine Oper.wp_mono ?_ f;intro a' w' hn;refine ih _ a' w' m aj au ad (ak w' fun hl aq=>?_) hn.2;have h1:=hn.1;cases a5:kd j with
     | early=>rw [a5] at h1;exact h1
     | late=>rw [a5] at hl;exact absurd rfl hl
     | pure=>rw [a5] at a4;cases a4
     | read=>rw [a5] at a4;cases a4
     | fix=>rw [a5] at a4;cases a4
    ·rename_i hw;have f:=(Zct a7 (by simpa using hw)).1 f;exact ih _ _ w m aj au ad (ak w fun _ aq=>b2 aq) f
  ·have a4:(kd j).eff=false:=by simpa using a4
   have az:(kRead (kd j)=true->Cl w):=fun bg=>b2 ⟨j,b7,ax,.inl bg⟩;have bo:cls Cl (kd j) w w:=by
    cases a5:kd j with
    | pure=>trivial
    | read=>exact az (by rw [a5];rfl)
    | fix=>rfl
    | early=>rw [a5] at a4;cases a4
    | late=>rw [a5] at a4;cases a4
   obtain ⟨v,hv,hr⟩:=ZxH hL bj a7 a4 m _ a w ar b8 am ac az h;rw [<-aa] at hr;have fin:=ih _ (a.put oj.dst v) w m aj au ad (ak w fun _ aq=>b2 aq) hr;rcases hv with ⟨hw,hst⟩|⟨hw,rfl⟩
   ·rw [if_pos hw];refine .inl ?_;unfold Oper.wp;rw [hst w bo];exact fin
   ·rw [if_neg (by simp [hw])];exact fin
theorem ZCc {id:Nat} {Q:Exit->Act->World->Prop} {a:Act} {w:World} (hm:P.follows .mixedOrders=true) (e:lexOk ops kd=true)
  (r:Cl { w with drawn:=w.drawn+1 })
  (h:lexO P ops kd Cl (mkA ops.toList) ops.size (List.range ops.size) (fun a w=>Q .normal a w) a { w with drawn:=w.drawn+1 }):(Code.region id ops true).wp P Q a w:=by
 refine wp_region_any hm ?_;simp only [lexOk,Bool.and_eq_true] at e;obtain ⟨⟨⟨k,l⟩,hT⟩,hP⟩:=e;have u:unl (Array.replicate ops.size false) ops.size=List.range ops.size:=by
  unfold unl;rw [List.filter_eq_self];intro i hi;rw [List.mem_range] at hi;simp [Array.getD_eq_getD_getElem?,hi]
 refine ZCH k l rfl (looked l hT hP) ops.size _ a _ ops.size (by simp) ?_ ?_ (fun _=>r) (by rw [u];exact h)
 ·intro j o g x;have:j<ops.size:=by
   rcases Nat.lt_or_ge j ops.size with h'|h'
   ·exact h'
   ·rw [Array.getElem?_eq_none h'] at g;cases g
  simp [Array.getD_eq_getD_getElem?,this] at x
 ·rw [u];simp
end
end Go.Vc
