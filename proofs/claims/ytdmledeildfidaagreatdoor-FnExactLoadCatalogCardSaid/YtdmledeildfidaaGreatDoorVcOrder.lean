import Derived.Test.YtdmledeildfidaaGreatDoorPuBase
import Derived.Still
namespace Go.Vc
set_option linter.unusedVariables false
set_option linter.unusedSimpArgs false
open Go
inductive Kind where
 | pure|read|fix|early|late
def Kind.eff:Kind->Bool
 | .early|.late=>true
 | _=>false
def kRead:Kind->Bool|.read=>true|_=>false
def kFix:Kind->Bool|.fix=>true|_=>false
def kLate:Kind->Bool|.late=>true|_=>false
def kEarly:Kind->Bool|.early=>true|_=>false
def Bot:Exit->Act->World->Prop:=fun _ _ _=>False
section
variable (P:Program) (ops:Array Oper) (kd:Nat->Kind) (Cl:World->Prop)
def cls (k:Kind) (w w':World):Prop:=
 match k with
 | .pure=>True
 | .read=>Cl w'
 | .fix=>w'=w
 | _=>False
def St (k:Kind) (o:Oper) (a:Act) (w:World) (v:Value):Prop:=
 ∀ w',cls Cl k w w'->(execOp a.eval o).run P w'=.ok (.value v) w'
def lexP:List Nat->(Act->World->Prop)->Act->World->Prop
 | [],Q,a,w=>Q a w
 | i::r,Q,a,w=>match ops[i]? with
  | none=>lexP r Q a w
  | some o=>
   if Region.wanted o (yielded ops a.tmps) then
    match kd i with
    | .early=>o.wp P a w (fun e w'=>Cl w'/\lexP r Q e w') Bot
    | .late=>o.wp P a w (fun e w'=>lexP r Q e w') Bot
    | k=>∃ v,St P Cl k o a w v/\lexP r Q (a.put o.dst v) w
   else lexP r Q (a.put o.dst undef) w
def effN (k:Kind) (N:Act->World->Prop):Act->World->Prop:=fun a w=>(match k with|.early=>Cl w|_=>True)/\N a w
end
section
variable {P:Program} {ops:Array Oper} {kd:Nat->Kind} {Cl:World->Prop}
theorem ZcZ {i:Nat} {r:List Nat} {Q:Act->World->Prop} {a:Act} {w:World} {o:Oper} (e:ops[i]?=some o)
  (j:Region.wanted o (yielded ops a.tmps)=true) (g:(kd i).eff=true):
  lexP P ops kd Cl (i::r) Q a w↔o.wp P a w (effN Cl (kd i) (lexP P ops kd Cl r Q)) Bot:=by
 unfold lexP;simp only [e,j,if_true];cases h:kd i<;>simp [h,Kind.eff] at g
 ·constructor
  ·exact Oper.wp_mono fun a w h=>⟨h.1,h.2⟩
  ·exact Oper.wp_mono fun a w h=>⟨h.1,h.2⟩
 ·constructor
  ·exact Oper.wp_mono fun a w h=>⟨trivial,h⟩
  ·exact Oper.wp_mono fun a w h=>h.2
theorem ZdN {i:Nat} {r:List Nat} {Q:Act->World->Prop} {a:Act} {w:World} {o:Oper} (e:ops[i]?=some o)
  (g:Region.wanted o (yielded ops a.tmps)=true) (j:(kd i).eff=false):
  lexP P ops kd Cl (i::r) Q a w↔∃ v,St P Cl (kd i) o a w v/\lexP P ops kd Cl r Q (a.put o.dst v) w:=by
 conv=>lhs;unfold lexP
 simp only [e,g,if_true];cases h:kd i<;>simp [h,Kind.eff] at j<;>exact Iff.rfl
theorem ZcO {i:Nat} {r:List Nat} {Q:Act->World->Prop} {a:Act} {w:World} {o:Oper} (e:ops[i]?=some o)
  (g:Region.wanted o (yielded ops a.tmps)=false):
  lexP P ops kd Cl (i::r) Q a w↔lexP P ops kd Cl r Q (a.put o.dst undef) w:=by
 conv=>lhs;unfold lexP
 simp only [e,g];exact Iff.rfl
theorem Zxq {o:Oper} {a:Act} {w:World} {N:Act->World->Prop} (h:o.wp P a w N Bot):∃ j w',N j w':=by
 unfold Oper.wp at h;generalize (execOp a.eval o).run P w=r at h;cases r with
 | ok n w'=>
  cases n<;>simp only [Oper.upon] at h
  case value v=>exact ⟨_,_,h⟩
  case skip=>exact ⟨_,_,h⟩
  case defer d=>exact ⟨_,_,h⟩
  case enter f args=>
   obtain ⟨e,w2,l,g,_⟩:=h [];cases e with
   | returned v=>exact ⟨_,_,g⟩
   | panicked c=>exact g.elim
   | outgrown=>obtain ⟨_,_,k⟩:=g;exact k.elim
  case row row args=>
   obtain ⟨v,w2,g,_⟩:=h default [];exact ⟨_,_,g⟩
 | halt x w'=>cases x<;>simp only [Oper.upon,Bot] at h
def Out (o:Oper) (a e:Act):Prop:=∃ v g,e={ a with defers:=g }.put o.dst v
theorem ZuJ {o:Oper} {a:Act} {w:World} {N:Act->World->Prop} (h:o.wp P a w N Bot):
  o.wp P a w (fun j w'=>Out o a j/\N j w') Bot:=by
 unfold Oper.wp at *;generalize (execOp a.eval o).run P w=r at *;have same:∀ v,Out o a (a.put o.dst v):=fun v=>⟨v,a.defers,rfl⟩
 cases r with
 | ok n w'=>
  cases n<;>simp only [Oper.upon] at h ⊢
  case value v=>exact ⟨same v,h⟩
  case skip=>exact ⟨same _,h⟩
  case defer d=>exact ⟨⟨_,_,rfl⟩,h⟩
  case enter f args=>
   exact Calls.mono h fun e w2 g=>by
    cases e with
    | returned v=>exact ⟨same v,g⟩
    | panicked c=>exact g
    | outgrown=>obtain ⟨_,_,k⟩:=g;exact k.elim
  case row row args=>exact Rows.mono h fun v w2 g=>⟨same v,g⟩
 | halt x w'=>cases x<;>simp only [Oper.upon,Bot] at h
theorem ZGD {l oj:Oper} {a:Act} {w:World} {u:Value} {N N':Act->World->Prop} (a3:l.apart ops oj=true)
  (hs:∀ cs b,l.op≠.select cs b) (h:l.wp P a w N Bot) (hN:∀ i w1,Out l a i->N i w1->N' (i.put oj.dst u) w1):
  l.wp P (a.put oj.dst u) w N' Bot:=by
 obtain ⟨h1,j,k⟩:=Oper.apart_spec a3;have h:=ZuJ h;unfold Oper.wp at *;rw [execOp_put l hs a oj.dst u k];generalize (execOp a.eval l).run P w=r at *;have g:∀ v,(a.put oj.dst u).put l.dst v=(a.put l.dst v).put oj.dst u:=fun v=>(Act.put_comm a v u j).symm;cases r with
 | ok n w'=>
  cases n<;>simp only [Oper.upon] at h ⊢
  case value v=>rw [g];exact hN _ _ h.1 h.2
  case skip=>rw [g];exact hN _ _ h.1 h.2
  case defer d=>
   have:=hN _ _ h.1 h.2;rw [Act.put_defers,<-Act.put_comm _ undef u j];exact this
  case enter f args=>
   exact Calls.mono h fun e w2 o=>by
    cases e with
    | returned v=>show N' _ _;rw [g];exact hN _ _ o.1 o.2
    | panicked c=>exact o
    | outgrown=>obtain ⟨_,_,hf⟩:=o;exact hf.elim
  case row row args=>exact Rows.mono h fun v w2 o=>by show N' _ _;rw [g];exact hN _ _ o.1 o.2
 | halt x w'=>cases x<;>simp only [Oper.upon,Bot] at h
theorem Zsw {P:Program} {o:Oper} {a:Act} {w:World} {N:Act->World->Prop} {Q:Exit->Act->World->Prop} (h:o.wp P a w N Bot):o.wp P a w N Q:=by
 unfold Oper.wp at h ⊢;generalize (execOp a.eval o).run P w=r at h ⊢;cases r with
 | ok n w'=>
  cases n<;>simp only [Oper.upon] at h ⊢
  case value v=>exact h
  case skip=>exact h
  case defer d=>exact h
  case enter f args=>
   exact Calls.mono h fun e w2 g=>by
    cases e with
    | returned v=>exact g
    | panicked c=>exact g.elim
    | outgrown=>obtain ⟨_,_,j⟩:=g;exact j.elim
  case row row args=>exact h
 | halt x w'=>cases x<;>simp only [Oper.upon,Bot] at h
def Y (P:Program) (ops:Array Oper) (Cl:World->Prop) (k:Kind) (o:Oper) (a:Act) (w:World) (v:Value):Prop:=
 (Region.wanted o (yielded ops a.tmps)=true/\St P Cl k o a w v)\/(Region.wanted o (yielded ops a.tmps)=false/\v=undef)
theorem ZI3 {k:Kind} {o e:Oper} {a:Act} {w:World} {v u:Value} (hs:∀ cs b,o.op≠.select cs b) (c:∀ d,e.dst=some d->d∉o.looksAt ops):
  St P Cl k o (a.put e.dst u) w v↔St P Cl k o a w v:=by
 unfold St;rw [execOp_put o hs a e.dst u c]
theorem ZAF {a:Act} {e:List Deferred}:({ a with defers:=e }:Act).eval=a.eval:=by
 funext x;cases x<;>rfl
theorem ZHw {k:Kind} {o e:Oper} {a g:Act} {w:World} {v:Value} (hs:∀ cs b,o.op≠.select cs b) (c:∀ d,e.dst=some d->d∉o.looksAt ops)
  (h:Out e a g):St P Cl k o g w v↔St P Cl k o a w v:=by
 obtain ⟨u,j,rfl⟩:=h;rw [ZI3 hs c];unfold St;rw [ZAF]
theorem ZBc {o e:Oper} {a g:Act} (c:∀ d,e.dst=some d->d∉o.looksAt ops) (h:Out e a g):
  Region.wanted o (yielded ops g.tmps)=Region.wanted o (yielded ops a.tmps):=by
 obtain ⟨u,j,rfl⟩:=h;rw [wanted_put o _ e.dst u c]
theorem Y_out {k:Kind} {o e:Oper} {a g:Act} {w:World} {v:Value} (hs:∀ cs b,o.op≠.select cs b) (c:∀ d,e.dst=some d->d∉o.looksAt ops)
  (h:Out e a g):Y P ops Cl k o g w v↔Y P ops Cl k o a w v:=by
 unfold Y;rw [ZHw hs c h,ZBc c h]
theorem ZI8 {k:Kind} {o:Oper} {a:Act} {w w1:World} {v:Value} (j:kFix k=false) (h:Y P ops Cl k o a w v):Y P ops Cl k o a w1 v:=by
 have c:∀ w',cls Cl k w1 w'->cls Cl k w w':=by
  intro w' h;cases k<;>first|exact h|cases j
 rcases h with ⟨h1,e⟩|h
 ·exact .inl ⟨h1,fun w' g=>e w' (c w' g)⟩
 ·exact .inr h
theorem Zq9 {k:Kind} {o:Oper} {a:Act} {v l:Value} {w w0 w1:World} (g:cls Cl k w0 w) (h1:cls Cl k w1 w)
  (h:Y P ops Cl k o a w0 v) (r:Y P ops Cl k o a w1 l):v=l:=by
 rcases h with ⟨f,i⟩|⟨f,rfl⟩<;>rcases r with ⟨c,j⟩|⟨c,rfl⟩
 ·have e:=(i w g).symm.trans (j w h1);simpa using e
 ·rw [f] at c;cases c
 ·rw [f] at c;cases c
 ·rfl
theorem Zqs {i:Nat} {r:List Nat} {Q:Act->World->Prop} {a:Act} {w:World} {o:Oper} (e:ops[i]?=some o) (g:(kd i).eff=false):
  lexP P ops kd Cl (i::r) Q a w↔∃ v,Y P ops Cl (kd i) o a w v/\lexP P ops kd Cl r Q (a.put o.dst v) w:=by
 cases hw:Region.wanted o (yielded ops a.tmps)
 ·rw [ZcO e hw];constructor
  ·exact fun h=>⟨undef,.inr ⟨hw,rfl⟩,h⟩
  ·rintro ⟨v,⟨h1,_⟩|⟨_,rfl⟩,h⟩
   ·rw [hw] at h1;cases h1
   ·exact h
 ·rw [ZdN e hw g];constructor
  ·rintro ⟨v,h1,c⟩;exact ⟨v,.inl ⟨hw,h1⟩,c⟩
  ·rintro ⟨v,⟨_,h1⟩|⟨h1,_⟩,h⟩
   ·exact ⟨v,h1,h⟩
   ·rw [hw] at h1;cases h1
theorem ZuT (l r:List Nat) {Q:Act->World->Prop}:∀ (a:Act) (w:World),lexP P ops kd Cl (l++r) Q a w↔lexP P ops kd Cl l (lexP P ops kd Cl r Q) a w:=by
 induction l with
 | nil=>intro a w;exact Iff.rfl
 | cons i l g=>
  intro a w;have e:∀ (k:Kind) ,(fun u w'=>effN Cl k (lexP P ops kd Cl (l++r) Q) u w')=effN Cl k (lexP P ops kd Cl l (lexP P ops kd Cl r Q)):=by
   intro k;funext u w';unfold effN;rw [g]
  rw [List.cons_append];cases ho:ops[i]? with
  | none=>
   conv=>lhs;unfold lexP
   conv=>rhs;unfold lexP
   simp only [ho];exact g a w
  | some o=>
   cases hw:Region.wanted o (yielded ops a.tmps)
   ·rw [ZcO ho hw,ZcO ho hw];exact g _ _
   ·by_cases j:(kd i).eff=true
    ·rw [ZcZ ho hw j,ZcZ ho hw j];have:=e (kd i);constructor
     ·exact Oper.wp_mono fun u w' h=>⟨h.1,(g _ _).1 h.2⟩
     ·exact Oper.wp_mono fun u w' h=>⟨h.1,(g _ _).2 h.2⟩
    ·have j:(kd i).eff=false:=by simpa using j
     rw [ZdN ho hw j,ZdN ho hw j];constructor
     ·rintro ⟨v,h1,c⟩;exact ⟨v,h1,(g _ _).1 c⟩
     ·rintro ⟨v,h1,c⟩;exact ⟨v,h1,(g _ _).2 c⟩
theorem ZuB {Q k:Act->World->Prop} (c:∀ a w,Q a w->k a w):∀ (l:List Nat) (a:Act) (w:World),lexP P ops kd Cl l Q a w->lexP P ops kd Cl l k a w:=by
 intro l;induction l with
 | nil=>intro a w h;exact c _ _ h
 | cons i l g=>
  intro a w h;cases ho:ops[i]? with
  | none=>
   unfold lexP at h ⊢;simp only [ho] at h ⊢;exact g a w h
  | some o=>
   cases hw:Region.wanted o (yielded ops a.tmps)
   ·rw [ZcO ho hw] at h ⊢;exact g _ _ h
   ·by_cases j:(kd i).eff=true
    ·rw [ZcZ ho hw j] at h ⊢;exact Oper.wp_mono (fun r w' h=>⟨h.1,g _ _ h.2⟩) h
    ·have j:(kd i).eff=false:=by simpa using j
     rw [ZdN ho hw j] at h ⊢;obtain ⟨v,h1,e⟩:=h;exact ⟨v,h1,g _ _ e⟩
theorem ZvQ {j:Nat} {oj:Oper} (hj:ops[j]?=some oj) (hs:Region.noSelect ops=true) (hk:(kd j).eff=false) {K:Act->World->Prop}:
  ∀ (pre:List Nat) (a:Act) (w:World),
   (∀ i∈pre,∃ oi,ops[i]?=some oi/\oi.apart ops oj=true/\(kLate (kd i)=true->kRead (kd j)=false)/\((kd i).eff=true->kFix (kd j)=false)) ->
   (kRead (kd j)=true->Cl w) ->
   lexP P ops kd Cl pre (fun a w=>(kRead (kd j)=true->Cl w)->∃ v,Y P ops Cl (kd j) oj a w v/\K (a.put oj.dst v) w) a w ->
   ∃ v,Y P ops Cl (kd j) oj a w v/\lexP P ops kd Cl pre K (a.put oj.dst v) w:=by
 have sj:∀ cs b,oj.op≠.select cs b:=fun cs b=>Region.noSelect_spec hs j oj cs b hj;intro pre;induction pre with
 | nil=>intro a w _ e h;exact h e
 | cons i pre ih=>
  intro a w hp e h;obtain ⟨oi,hi,ad,a3,af⟩:=hp i (List.mem_cons_self ..);have a4:=fun x s=>hp x (List.mem_cons_of_mem _ s);obtain ⟨h1,l,k⟩:=Oper.apart_spec ad;have si:∀ cs b,oi.op≠.select cs b:=fun cs b=>Region.noSelect_spec hs i oi cs b hi;by_cases a0:(kd i).eff=false
  ·obtain ⟨u,hu,hr⟩:=(Zqs hi a0).1 h;obtain ⟨v,c,hr⟩:=ih _ w a4 e hr;have ho:Out oi a (a.put oi.dst u):=⟨u,a.defers,rfl⟩
   rw [Y_out sj h1 ho] at c;refine ⟨v,c,(Zqs hi a0).2 ⟨u,?_,?_⟩⟩
   ·exact (Y_out si k ⟨v,a.defers,rfl⟩).2 hu
   ·rw [<-Act.put_comm a u v l];exact hr
  ·have a0:(kd i).eff=true:=by simpa using a0
   cases hw:Region.wanted oi (yielded ops a.tmps)
   ·have h:=(ZcO hi hw).1 h;obtain ⟨v,c,hr⟩:=ih _ w a4 e h;have ho:Out oi a (a.put oi.dst undef):=⟨undef,a.defers,rfl⟩
    rw [Y_out sj h1 ho] at c;refine ⟨v,c,(ZcO hi ?_).2 ?_⟩
    ·rw [wanted_put oi a oj.dst v k];exact hw
    ·rw [<-Act.put_comm a undef v l];exact hr
   ·have h:=(ZcZ hi hw a0).1 h;have a5:=af a0;have ae:∀ (N:Act->World->Prop) g w1,effN Cl (kd i) N g w1->(kRead (kd j)=true->Cl w1):=by
     intro N g w1 hh ah;cases hki:kd i with
     | early=>have:=hh.1;rw [hki] at this;exact this
     | late=>rw [hki,ah] at a3;exact absurd (a3 rfl) (by simp)
     | pure=>rw [hki] at a0;cases a0
     | read=>rw [hki] at a0;cases a0
     | fix=>rw [hki] at a0;cases a0
    have ab:∀ w0,cls Cl (kd j) w0 w:=by
     intro w0;cases hkj:kd j with
     | pure=>trivial
     | read=>exact e (by rw [hkj];rfl)
     | fix=>rw [hkj] at a5;cases a5
     | early=>rw [hkj] at hk;cases hk
     | late=>rw [hkj] at hk;cases hk
    obtain ⟨g,w1,ho,o⟩:=Zxq (ZuJ h);obtain ⟨v,c,_⟩:=ih g w1 a4 (ae _ _ _ o) o.2;rw [Y_out sj h1 ho] at c;have c:=ZI8 (w1:=w) a5 c;refine ⟨v,c,(ZcZ hi ?_ a0).2 ?_⟩
    ·rw [wanted_put oi a oj.dst v k];exact hw
    ·refine ZGD ad si h ?_;intro y w2 r f;obtain ⟨v',ac,ag⟩:=ih y w2 a4 (ae _ _ _ f) f.2;rw [Y_out sj h1 r] at ac;obtain rfl:=Zq9 (ab w) (ab w2) c ac;exact ⟨f.1,ag⟩
end
def deps (o:Oper):List Nat:=(o.after.toList.filter fun e=>Region.binds .any e).map (·.on)
def mkA (ops:List Oper):List (List Nat):=
 ops.foldl (fun a o=>a++[((deps o).flatMap fun k=>k::a.getD k []).eraseDups]) []
def okA (ops:List Oper) (A:List (List Nat)):Bool:=
 ops.zipIdx.all fun (o,j)=>(deps o).all (fun k=>Nat.blt k j)&&(A.getD j []).all fun i=>(deps o).any fun k=>Nat.beq k i||(A.getD k []).any (fun x=>Nat.beq x i)
def hasN (l:List Nat) (i:Nat):Bool:=l.any fun x=>Nat.beq x i
def closedA (ops:List Oper) (A:List (List Nat)):Bool:=
 ops.zipIdx.all fun (o,j)=>(deps o).all fun k=>hasN (A.getD j []) k&&(A.getD k []).all fun i=>hasN (A.getD j []) i
def pairsOk (ops:Array Oper) (l:List Oper) (A:List (List Nat)) (kd:Nat->Kind):Bool:=
 l.zipIdx.all fun (e,j)=>l.zipIdx.all fun (a,i)=>
  (Nat.beq i j||hasN (A.getD j []) i||hasN (A.getD i []) j||(a.apart ops e&&!((kd i).eff&&kFix (kd j))&&!(kFix (kd i)&&(kd j).eff))) &&
  (!(kLate (kd j)&&(kRead (kd i)||kEarly (kd i)))||hasN (A.getD j []) i)
def effs (kd:Nat->Kind) (l:List Nat):List Nat:=l.filter fun i=>(kd i).eff
def minEff (A:List (List Nat)) (kd:Nat->Kind) (a:List Nat):List Nat:=(effs kd a).filter fun j=>!((effs kd a).any fun i=>hasN (A.getD j []) i)
def seg (A:List (List Nat)) (j:Nat) (a:List Nat):List Nat:=a.filter fun i=>Nat.beq i j||hasN (A.getD j []) i
def rst (A:List (List Nat)) (j:Nat) (a:List Nat):List Nat:=a.filter fun i=>!(Nat.beq i j||hasN (A.getD j []) i)
def lexOk (ops:Array Oper) (kd:Nat->Kind):Bool:=
 Region.noSelect ops&&okA ops.toList (mkA ops.toList)&&closedA ops.toList (mkA ops.toList)&&pairsOk ops ops.toList (mkA ops.toList) kd
def lexO (P:Program) (ops:Array Oper) (kd:Nat->Kind) (Cl:World->Prop) (A:List (List Nat)):Nat->List Nat->(Act->World->Prop)->Act->World->Prop
 | 0,rem,Q,a,w=>minEff A kd rem=[]/\lexP P ops kd Cl rem Q a w
 | n+1,rem,Q,a,w=>
  (minEff A kd rem=[]->lexP P ops kd Cl rem Q a w) /\
  ∀ j∈minEff A kd rem,lexP P ops kd Cl (seg A j rem) (fun a w=>lexO P ops kd Cl A n (rst A j rem) Q a w) a w
theorem Za3 {l:List Nat} {i:Nat}:hasN l i=true↔i∈l:=by
 unfold hasN;rw [List.any_eq_true];constructor
 ·rintro ⟨x,a,h⟩;have:=Nat.eq_of_beq_eq_true h;subst this;exact a
 ·exact fun h=>⟨i,h,Nat.beq_refl i⟩
theorem ZbL {a b:Nat} (h:a≠b):Nat.beq a b=false:=by
 cases c:Nat.beq a b with
 | false=>rfl
 | true=>exact absurd (Nat.eq_of_beq_eq_true c) h
section
variable {P:Program} {ops:Array Oper} {kd:Nat->Kind} {Cl:World->Prop}
def Closed (ops:Array Oper) (a:Array Bool):Prop:=
 ∀ (j:Nat) (o:Oper),ops[j]?=some o->a.getD j false=true->∀ k∈deps o,a.getD k false=true
theorem ZFG {g:Array Bool} (c:Closed ops g) (u:okA ops.toList (mkA ops.toList)=true):
  ∀ (n j:Nat) (o:Oper),j<n->ops[j]?=some o->(∀ k∈deps o,g.getD k false=true)->∀ i∈(mkA ops.toList).getD j [],g.getD i false=true:=by
 intro n;induction n with
 | zero=>intro j o h;omega
 | succ n ih=>
  intro j o a3 w a i hi;unfold okA at u;rw [List.all_eq_true] at u;have hm:(o,j)∈ops.toList.zipIdx:=by
   rw [List.mem_zipIdx_iff_getElem?];simpa using w
  have h:=u _ hm;simp only [Bool.and_eq_true,List.all_eq_true,List.any_eq_true,Bool.or_eq_true] at h;obtain ⟨a0,h⟩:=h;obtain ⟨k,r,h⟩:=h i hi;have a4:k<j:=by have:=a0 k r;exact Nat.blt_eq.mp this
  rcases h with h|⟨x,e,h⟩
  ·have:=Nat.eq_of_beq_eq_true h;subst this;exact a _ r
  ·have:=Nat.eq_of_beq_eq_true h;subst this;have a5:j<ops.size:=by
    rcases Nat.lt_or_ge j ops.size with h'|h'
    ·exact h'
    ·rw [Array.getElem?_eq_none h'] at w;cases w
   have l:k<ops.size:=ω;exact ih k ops[k] ω (by simp [l]) (c k ops[k] (by simp [l]) (a k r)) x e
theorem ZqK {l:Array Bool} {i j:Nat} {d:Bool} (hi:i<l.size):(l.setIfInBounds i true).getD j d=if j=i then true else l.getD j d:=by
 simp only [Array.getD_eq_getD_getElem?];by_cases h:j=i
 ·subst h;simp [hi]
 ·rw [if_neg h,Array.getElem?_setIfInBounds_ne (fun e=>h e.symm)]
def unl (a:Array Bool) (n:Nat):List Nat:=(List.range n).filter fun i=>a.getD i true==false
theorem Zfe {a:Array Bool} {n i:Nat}:i∈unl a n↔i<n/\a.getD i true=false:=by
 simp [unl]
structure Looked (ops:Array Oper) (kd:Nat->Kind) (A:List (List Nat)):Prop where
 lt:∀ i j oj,ops[j]?=some oj->i∈A.getD j []->i<j
 trans:∀ i j k oj,ops[j]?=some oj->i∈A.getD j []->k∈A.getD i []->k∈A.getD j []
 pair:∀ i j oi oj,ops[i]?=some oi->ops[j]?=some oj->i≠j->i∉A.getD j []->j∉A.getD i [] ->
   oi.apart ops oj=true/\((kd i).eff=true->kFix (kd j)=false)
 late:∀ i j oi oj,ops[i]?=some oi->ops[j]?=some oj->kLate (kd j)=true->(kRead (kd i)=true\/kEarly (kd i)=true)->i∈A.getD j []
theorem looked (hA:okA ops.toList (mkA ops.toList)=true) (hT:closedA ops.toList (mkA ops.toList)=true) (hP:pairsOk ops ops.toList (mkA ops.toList) kd=true):Looked ops kd (mkA ops.toList):=by
 have a6:∀ {j:Nat} {o:Oper},ops[j]?=some o->j<ops.size:=fun {j o} h=>by
  rcases Nat.lt_or_ge j ops.size with h'|h'
  ·exact h'
  ·rw [Array.getElem?_eq_none h'] at h;cases h
 have a7:∀ (j:Nat) (w:Oper),ops[j]?=some w->(∀ k∈deps w,k<j)/\∀ i∈(mkA ops.toList).getD j [],∃ k∈deps w,k=i\/i∈(mkA ops.toList).getD k []:=by
  intro j w hj;unfold okA at hA;rw [List.all_eq_true] at hA;have hm:(w,j)∈ops.toList.zipIdx:=by rw [List.mem_zipIdx_iff_getElem?];simpa using hj
  have h:=hA _ hm;simp only [Bool.and_eq_true,List.all_eq_true,List.any_eq_true,Bool.or_eq_true] at h;refine ⟨fun k hk=>Nat.blt_eq.mp (h.1 k hk),fun i hi=>?_⟩;obtain ⟨k,hk,a⟩:=h.2 i hi;refine ⟨k,hk,?_⟩;rcases a with a|⟨x,r,a⟩
  ·exact .inl (Nat.eq_of_beq_eq_true a)
  ·have:=Nat.eq_of_beq_eq_true a;subst this;exact .inr r
 have ah:∀ (n j:Nat) (w:Oper),j<n->ops[j]?=some w->∀ i∈(mkA ops.toList).getD j [],i<j:=by
  intro n;induction n with
  | zero=>intro j w h;omega
  | succ n ih=>
   intro j w ae hj i hi;obtain ⟨h1,a⟩:=a7 j w hj;obtain ⟨k,hk,c⟩:=a i hi;have ag:=h1 k hk;rcases c with rfl|c
   ·exact ag
   ·have a8:k<ops.size:=by have:=a6 hj;omega
    have:=ih k (ops[k]'a8) ω (by simp [a8]) i c;omega
 have ai:∀ (j:Nat) (w:Oper),ops[j]?=some w->∀ k∈deps w,k∈(mkA ops.toList).getD j []/\∀ i∈(mkA ops.toList).getD k [],i∈(mkA ops.toList).getD j []:=by
  intro j w hj k hk;unfold closedA at hT;rw [List.all_eq_true] at hT;have hm:(w,j)∈ops.toList.zipIdx:=by rw [List.mem_zipIdx_iff_getElem?];simpa using hj
  have h:=hT _ hm;simp only [Bool.and_eq_true,List.all_eq_true] at h;obtain ⟨h1,a⟩:=h k hk;exact ⟨Za3.1 h1,fun i hi=>Za3.1 (a i hi)⟩
 refine ⟨fun i j w hj hi=>ah (j+1) j w ω hj i hi,?_,?_,?_⟩
 ·have:∀ (n i j k:Nat) (w:Oper),j<n->ops[j]?=some w->i∈(mkA ops.toList).getD j []->k∈(mkA ops.toList).getD i []->k∈(mkA ops.toList).getD j []:=by
   intro n;induction n with
   | zero=>intro i j k w h;omega
   | succ n ih=>
    intro i j k w ae hj hi hk;obtain ⟨h1,a⟩:=a7 j w hj;obtain ⟨d,g,c⟩:=a i hi;have ak:=h1 d g;obtain ⟨u,l⟩:=ai j w hj d g;rcases c with rfl|c
    ·exact l k hk
    ·have a5:d<ops.size:=by have:=a6 hj;omega
     exact l k (ih i d k (ops[d]'a5) ω (by simp [a5]) c hk)
  exact fun i j k w hj hi hk=>this (j+1) i j k w ω hj hi hk
 ·intro i j oi w hi hj af h1 a;unfold pairsOk at hP;rw [List.all_eq_true] at hP;have hm:(w,j)∈ops.toList.zipIdx:=by rw [List.mem_zipIdx_iff_getElem?];simpa using hj
  have a4:(oi,i)∈ops.toList.zipIdx:=by rw [List.mem_zipIdx_iff_getElem?];simpa using hi
  have c:=hP _ hm;rw [List.all_eq_true] at c;have e:=c _ a4;have n1:hasN ((mkA ops.toList).getD j []) i=false:=by
   cases hh:hasN ((mkA ops.toList).getD j []) i with
   | false=>rfl
   | true=>exact absurd (Za3.1 hh) h1
  have n2:hasN ((mkA ops.toList).getD i []) j=false:=by
   cases hh:hasN ((mkA ops.toList).getD i []) j with
   | false=>rfl
   | true=>exact absurd (Za3.1 hh) a
  simp only [ZbL af,n1,n2,Bool.false_or,Bool.and_eq_true,Bool.not_eq_true',Bool.and_eq_false_iff] at e;obtain ⟨⟨⟨s,f⟩,v⟩,_⟩:=e;exact ⟨s,fun he=>by rcases f with f|f<;>simp_all⟩
 ·intro i j oi w hi hj hl hk;unfold pairsOk at hP;rw [List.all_eq_true] at hP;have hm:(w,j)∈ops.toList.zipIdx:=by rw [List.mem_zipIdx_iff_getElem?];simpa using hj
  have a4:(oi,i)∈ops.toList.zipIdx:=by rw [List.mem_zipIdx_iff_getElem?];simpa using hi
  have c:=hP _ hm;rw [List.all_eq_true] at c;have e:=(Bool.and_eq_true _ _▸c _ a4).2;have ad:(kRead (kd i)||kEarly (kd i))=true:=by simpa using hk
  rw [hl,ad] at e;exact Za3.1 (by simpa using e)
theorem ZHA {A:List (List Nat)} (hL:Looked ops kd A) (aq:Region.noSelect ops=true) {j:Nat} {oj:Oper} (aa:ops[j]?=some oj) (a4:(kd j).eff=false) {Q:Act->World->Prop}:
  ∀ (n:Nat) (a0:List Nat) (a:Act) (w:World),(∀ i∈a0,∃ o,ops[i]?=some o)->a0.Pairwise (·<·)->j∈a0->(∀ i∈a0,i∉A.getD j [])->(kRead (kd j)=true->Cl w) ->
   lexO P ops kd Cl A n a0 Q a w->∃ v,Y P ops Cl (kd j) oj a w v/\lexO P ops kd Cl A n (a0.filter fun i=>!Nat.beq i j) Q (a.put oj.dst v) w:=by
 -- out of a list in the order of the text
 have ae:∀ (l:List Nat) (K:Act->World->Prop) (a:Act) (w:World),(∀ i∈l,∃ o,ops[i]?=some o)->l.Pairwise (·<·)->j∈l->(∀ i∈l,i∉A.getD j [])->(kRead (kd j)=true->Cl w) ->
   lexP P ops kd Cl l K a w->∃ v,Y P ops Cl (kd j) oj a w v/\lexP P ops kd Cl (l.filter fun i=>!Nat.beq i j) K (a.put oj.dst v) w:=by
  intro l K a w a3 ab az a1 a7 h;obtain ⟨pre,a2,rfl⟩:=List.append_of_mem az;obtain ⟨p1,p2,p3⟩:=List.pairwise_append.1 ab;have hf:(pre++j::a2).filter (fun i=>!Nat.beq i j)=pre++a2:=by
   rw [List.filter_append,List.filter_cons];rw [List.filter_eq_self.2 fun i hi=>by rw [ZbL (by have:=p3 i hi j (List.mem_cons_self ..);omega)];rfl];rw [List.filter_eq_self.2 fun i hi=>by rw [ZbL (by have:=(List.pairwise_cons.1 p2).1 i hi;omega)];rfl];simp
  rw [hf];rw [ZuT] at h;have fin:∀ a':Act,lexP P ops kd Cl pre (lexP P ops kd Cl a2 K) a' w->lexP P ops kd Cl (pre++a2) K a' w:=fun a' h'=>(ZuT pre a2 a' w).2 h'
  suffices hsuff:∃ v,Y P ops Cl (kd j) oj a w v/\lexP P ops kd Cl pre (lexP P ops kd Cl a2 K) (a.put oj.dst v) w by
   obtain ⟨v,h1,s⟩:=hsuff;exact ⟨v,h1,fin _ s⟩
  refine ZvQ aa aq a4 (K:=lexP P ops kd Cl a2 K) pre a w (fun i hi=>?_) a7 ?_
  ·obtain ⟨oi,a8⟩:=a3 i (List.mem_append_left _ hi);have a5:i<j:=p3 i hi j (List.mem_cons_self ..);have ah:j∉A.getD i []:=fun hm=>by have:=hL.lt j i oi a8 hm;omega
   obtain ⟨u,y⟩:=hL.pair i j oi oj a8 aa ω (a1 i (List.mem_append_left _ hi)) ah;refine ⟨oi,a8,u,fun hl=>?_,y⟩;cases hrd:kRead (kd j) with
   | false=>rfl
   | true=>exact absurd (hL.late j i oj oi aa a8 hl (.inl hrd)) ah
  ·refine ZuB (fun a' w' h'=>?_) pre a w h;exact fun _=>(Zqs aa a4).1 h'
 have ad:∀ a0:List Nat,minEff A kd (a0.filter fun i=>!Nat.beq i j)=minEff A kd a0:=by
  intro a0;have he:effs kd (a0.filter fun i=>!Nat.beq i j)=effs kd a0:=by
   unfold effs;rw [List.filter_filter];apply List.filter_congr;intro i _;by_cases a5:i=j
   ·subst a5;simp [a4]
   ·simp [ZbL a5]
  unfold minEff;rw [he]
 intro n;induction n with
 | zero=>
  intro a0 a w a3 ab hj a1 a7 h;obtain ⟨v,g,hr⟩:=ae a0 Q a w a3 ab hj a1 a7 h.2;exact ⟨v,g,by rw [ad];exact h.1,hr⟩
 | succ n ih=>
  intro a0 a w a3 ab hj a1 a7 h
  -- one value for all
  have ag:∀ e∈minEff A kd a0,∃ v,Y P ops Cl (kd j) oj a w v /\
    lexP P ops kd Cl (seg A e (a0.filter fun i=>!Nat.beq i j)) (fun a w=>lexO P ops kd Cl A n (rst A e (a0.filter fun i=>!Nat.beq i j)) Q a w) (a.put oj.dst v) w:=by
   intro e he;have hb:=h.2 e he;have ax:e∈a0:=(List.mem_filter.1 (List.mem_filter.1 he).1).1;have ar:(kd e).eff=true:=(List.mem_filter.1 (List.mem_filter.1 he).1).2;obtain ⟨oe,b4⟩:=a3 e ax;have ba:e≠j:=fun x=>by subst x;rw [a4] at ar;cases ar
   have c1:seg A e (a0.filter fun i=>!Nat.beq i j)=(seg A e a0).filter fun i=>!Nat.beq i j:=by
    unfold seg;rw [List.filter_filter,List.filter_filter];apply List.filter_congr;intro i _;exact Bool.and_comm _ _
   have c2:rst A e (a0.filter fun i=>!Nat.beq i j)=(rst A e a0).filter fun i=>!Nat.beq i j:=by
    unfold rst;rw [List.filter_filter,List.filter_filter];apply List.filter_congr;intro i _;exact Bool.and_comm _ _
   rw [c1,c2];have f:∀ i∈seg A e a0,i∈a0:=fun i hi=>(List.mem_filter.1 hi).1;have k:∀ i∈rst A e a0,i∈a0:=fun i hi=>(List.mem_filter.1 hi).1;by_cases ac:j∈seg A e a0
   ·have hr:(rst A e a0).filter (fun i=>!Nat.beq i j)=rst A e a0:=by
     rw [List.filter_eq_self];intro i hi;have a5:i≠j:=fun x=>by
      subst x;have h1:=(List.mem_filter.1 hi).2;have s:=(List.mem_filter.1 ac).2;rw [s] at h1;cases h1
     rw [ZbL a5];rfl
    rw [hr];exact ae _ _ a w (fun i hi=>a3 i (f i hi)) (ab.sublist List.filter_sublist) ac (fun i hi=>a1 i (f i hi)) a7 hb
   ·have b5:j∈rst A e a0:=by
     refine List.mem_filter.2 ⟨hj,?_⟩;cases hh:(Nat.beq j e||hasN (A.getD e []) j) with
     | false=>rfl
     | true=>exact absurd (List.mem_filter.2 ⟨hj,hh⟩) ac
    have hs:(seg A e a0).filter (fun i=>!Nat.beq i j)=seg A e a0:=by
     rw [List.filter_eq_self];intro i hi;have a5:i≠j:=fun x=>by subst x;exact ac hi
     rw [ZbL a5];rfl
    rw [hs];have au:j∉A.getD e []:=fun hm=>ac (List.mem_filter.2 ⟨hj,by rw [Za3.2 hm];simp⟩);refine ZvQ aa aq a4 (K:=fun a w=>lexO P ops kd Cl A n ((rst A e a0).filter fun i=>!Nat.beq i j) Q a w) (seg A e a0) a w (fun i hi=>?_) a7 ?_
    ·obtain ⟨oi,a8⟩:=a3 i (f i hi);have a5:i≠j:=fun x=>by subst x;exact ac hi
     have ah:j∉A.getD i []:=fun hm=>by
      have c:=(List.mem_filter.1 hi).2;rw [Bool.or_eq_true] at c;rcases c with c|c
      ·have:=Nat.eq_of_beq_eq_true c;subst this;exact au hm
      ·exact au (hL.trans i e j oe b4 (Za3.1 c) hm)
     obtain ⟨u,y⟩:=hL.pair i j oi oj a8 aa a5 (a1 i (f i hi)) ah;refine ⟨oi,a8,u,fun hl=>?_,y⟩;cases hrd:kRead (kd j) with
     | false=>rfl
     | true=>exact absurd (hL.late j i oj oi aa a8 hl (.inl hrd)) ah
    ·refine ZuB (fun a' w' h' b3=>?_) _ a w hb;exact ih (rst A e a0) a' w' (fun i hi=>a3 i (k i hi)) (ab.sublist List.filter_sublist) b5 (fun i hi=>a1 i (k i hi)) b3 h'
  have ap:cls Cl (kd j) w w:=by
   cases hkj:kd j with
   | pure=>trivial
   | read=>exact a7 (by rw [hkj];rfl)
   | fix=>rfl
   | early=>rw [hkj] at a4;cases a4
   | late=>rw [hkj] at a4;cases a4
  cases hms:minEff A kd a0 with
  | nil=>
   obtain ⟨v,g,hr⟩:=ae a0 Q a w a3 ab hj a1 a7 (h.1 hms);refine ⟨v,g,fun _=>hr,fun e he=>?_⟩;rw [ad,hms] at he;cases he
  | cons e0 r=>
   obtain ⟨v,g,_⟩:=ag e0 (by rw [hms];exact List.mem_cons_self ..);refine ⟨v,g,fun hn=>?_,fun e he=>?_⟩
   ·rw [ad,hms] at hn;cases hn
   ·rw [ad] at he;obtain ⟨v',aw,ay⟩:=ag e he;obtain rfl:=Zq9 ap ap g aw;exact ay
theorem ZHV {A:List (List Nat)} {Q:Exit->Act->World->Prop} (bm:Region.noSelect ops=true) (hA:okA ops.toList A=true) (bn:A=mkA ops.toList) (hL:Looked ops kd A):
  ∀ (fuel:Nat) (a0:Array Bool) (a:Act) (w:World) (m:Nat),a0.size=ops.size->Closed ops a0->(unl a0 ops.size).length<=fuel ->
   ((∃ i,i<ops.size/\a0.getD i true=false/\(kRead (kd i)=true\/kEarly (kd i)=true))->Cl w) ->
   lexO P ops kd Cl A m (unl a0 ops.size) (fun a w=>Q .normal a w) a w->wpAny P .any ops Q fuel a0 a w:=by
 have aj:∀ i,i<ops.size->∃ o,ops[i]?=some o:=fun i hi=>⟨ops[i],by simp [hi]⟩
 -- the first that is not a0 is ready
 have ar:∀ (a0:Array Bool),a0.size=ops.size->Region.ready .any ops a0=[]->unl a0 ops.size=[]:=by
  intro a0 ai hr;have ah:∀ n i,i<n->i<ops.size->a0.getD i true=true:=by
   intro n;induction n with
   | zero=>intro i h;omega
   | succ n ih=>
    intro i bu a3;cases hl:a0.getD i true with
    | true=>rfl
    | false=>
     have:i∈Region.ready .any ops a0:=by
      rw [mem_ready];refine ⟨hl,ops[i],by simp [a3],fun e he c=>?_⟩;unfold okA at hA;rw [List.all_eq_true] at hA;have hm:(ops[i],i)∈ops.toList.zipIdx:=by
       rw [List.mem_zipIdx_iff_getElem?];simp [a3]
      have h:=hA _ hm;simp only [Bool.and_eq_true,List.all_eq_true] at h;have hk:e.on<i:=Nat.blt_eq.mp (h.1 e.on (List.mem_map.2 ⟨e,List.mem_filter.2 ⟨by simpa using he,c⟩,rfl⟩));have g:=ih e.on ω ω;have be:e.on<a0.size:=ω;simp only [Array.getD_eq_getD_getElem?,Array.getElem?_eq_getElem be,Option.getD_some] at g ⊢;exact g
     rw [hr] at this;cases this
  cases hu:unl a0 ops.size with
  | nil=>rfl
  | cons i r=>
   have hi:i∈unl a0 ops.size:=by rw [hu];exact List.mem_cons_self ..
   rw [Zfe] at hi;have:=ah (i+1) i ω hi.1;rw [hi.2] at this;cases this
 have az:∀ (m:Nat) (a:Act) (w:World),lexO P ops kd Cl A m [] (fun a w=>Q .normal a w) a w->Q .normal a w:=by
  intro m a w h;cases m with
  | zero=>exact h.2
  | succ m=>exact h.1 rfl
 intro fuel;induction fuel with
 | zero=>
  intro a0 a w m ai s bb _ h;have hu:unl a0 ops.size=[]:=List.length_eq_zero_iff.1 ω;rw [hu] at h;refine ⟨?_,az m a w h⟩;cases hr:Region.ready .any ops a0 with
  | nil=>rfl
  | cons i r=>
   have hi:i∈Region.ready .any ops a0:=by rw [hr];exact List.mem_cons_self ..
   obtain ⟨h1,o,g,_⟩:=mem_ready.1 hi;have a3:i<ops.size:=by
    rcases Nat.lt_or_ge i ops.size with h'|h'
    ·exact h'
    ·rw [Array.getElem?_eq_none h'] at g;cases g
   have:i∈unl a0 ops.size:=Zfe.2 ⟨a3,h1⟩;rw [hu] at this;cases this
 | succ fuel ih=>
  intro a0 a w m ai s bb au h;refine ⟨fun hr=>by rw [ar a0 ai hr] at h;exact az m a w h,fun j hj=>?_⟩;obtain ⟨ap,oj,a4,ah⟩:=mem_ready.1 hj;have b5:j<ops.size:=by
   rcases Nat.lt_or_ge j ops.size with h'|h'
   ·exact h'
   ·rw [Array.getElem?_eq_none h'] at a4;cases a4
  have am:∀ k∈deps oj,a0.getD k false=true:=by
   intro k hk;obtain ⟨e,he,rfl⟩:=List.mem_map.1 hk;obtain ⟨u,y⟩:=List.mem_filter.1 he;exact ah e (by simpa using u) y
  have ba:∀ i,i∈A.getD j []->a0.getD i false=true:=by
   subst bn;exact ZFG s hA (j+1) j oj ω a4 am
  have ax:∀ i,i<ops.size->a0.getD i true=false->i∉A.getD j []:=by
   intro i a3 a5 hi;have:=ba i hi;have a3:i<a0.size:=ω;simp only [Array.getD_eq_getD_getElem?,Array.getElem?_eq_getElem a3,Option.getD_some] at this a5;rw [a5] at this;cases this
  have ag:(a0.setIfInBounds j true).size=ops.size:=by simpa using ai
  have aw:Closed ops (a0.setIfInBounds j true):=by
   intro x o f hl k hk;rw [ZqK ω] at hl ⊢;by_cases a2:k=j
   ·simp [a2]
   ·rw [if_neg a2];by_cases b3:x=j
    ·subst b3;rw [a4] at f;cases f;exact am k hk
    ·rw [if_neg b3] at hl;exact s x o f hl k hk
  have a8:unl (a0.setIfInBounds j true) ops.size=(unl a0 ops.size).filter fun i=>!Nat.beq i j:=by
   unfold unl;rw [List.filter_filter];refine List.filter_congr fun i _=>?_;rw [ZqK ω];by_cases ad:i=j
   ·subst ad;simp
   ·simp [ad,ZbL ad]
  have al:j∈unl a0 ops.size:=Zfe.2 ⟨b5,ap⟩;have a9:(unl (a0.setIfInBounds j true) ops.size).length<=fuel:=by
   rw [a8];have:((unl a0 ops.size).filter fun i=>!Nat.beq i j).length<(unl a0 ops.size).length:=by
    rw [List.length_filter_lt_length_iff_exists];exact ⟨j,al,by simp⟩
   omega
  have af:∀ w',(¬ kLate (kd j)=true->((∃ i,i<ops.size/\a0.getD i true=false/\(kRead (kd i)=true\/kEarly (kd i)=true))->Cl w')) ->
    (∃ i,i<ops.size/\(a0.setIfInBounds j true).getD i true=false/\(kRead (kd i)=true\/kEarly (kd i)=true))->Cl w':=by
   rintro w' bd ⟨i,a3,a5,hk⟩;rw [ZqK ω] at a5;have ad:i≠j:=fun e=>by rw [if_pos e] at a5;cases a5
   rw [if_neg ad] at a5;by_cases hl:kLate (kd j)=true
   ·obtain ⟨oi,bh⟩:=aj i a3;exact absurd (hL.late i j oi oj bh a4 hl hk) (ax i a3 a5)
   ·exact bd hl ⟨i,a3,a5,hk⟩
  have ao:∀ i∈unl a0 ops.size,∃ o,ops[i]?=some o:=fun i hi=>aj i (Zfe.1 hi).1;have b4:(unl a0 ops.size).Pairwise (·<·):=List.Pairwise.sublist List.filter_sublist List.pairwise_lt_range;have aa:∀ i∈unl a0 ops.size,i∉A.getD j []:=fun i hi=>ax i (Zfe.1 hi).1 (Zfe.1 hi).2;unfold wpOp;rw [a4];simp only;by_cases a1:(kd j).eff=true
  ·-- an effect: it is among those that may come next
   have a7:j∈minEff A kd (unl a0 ops.size):=by
    refine List.mem_filter.2 ⟨List.mem_filter.2 ⟨al,a1⟩,?_⟩;cases hh:(effs kd (unl a0 ops.size)).any fun i=>hasN (A.getD j []) i with
    | false=>rfl
    | true=>
     obtain ⟨i,hi,bk⟩:=List.any_eq_true.1 hh;exact absurd (Za3.1 bk) (aa i (List.mem_filter.1 hi).1)
   have b8:seg A j (unl a0 ops.size)=[j]:=by
    have h1:seg A j (unl a0 ops.size)=(unl a0 ops.size).filter fun i=>Nat.beq i j:=by
     unfold seg;refine List.filter_congr fun i hi=>?_;have:hasN (A.getD j []) i=false:=by
      cases hh:hasN (A.getD j []) i with
      | false=>rfl
      | true=>exact absurd (Za3.1 hh) (aa i hi)
     rw [this,Bool.or_false]
    rw [h1];have b7:∀ l:List Nat,l.Pairwise (·<·)->j∈l->l.filter (fun i=>Nat.beq i j)=[j]:=by
     intro l;induction l with
     | nil=>intro _ h;cases h
     | cons x l bf=>
      intro hp hm;obtain ⟨q1,q2⟩:=List.pairwise_cons.1 hp;by_cases f:x=j
      ·subst f;rw [List.filter_cons,if_pos (by simp)];rw [List.filter_eq_nil_iff.2 fun i hi=>by rw [ZbL (by have:=q1 i hi;omega)];simp]
      ·rw [List.filter_cons,ZbL f];cases hm with
       | head=>exact absurd rfl f
       | tail _ hm=>simpa using bf q2 hm
    exact b7 _ b4 al
   have b9:rst A j (unl a0 ops.size)=unl (a0.setIfInBounds j true) ops.size:=by
    rw [a8];unfold rst;refine List.filter_congr fun i hi=>?_;have:hasN (A.getD j []) i=false:=by
     cases hh:hasN (A.getD j []) i with
     | false=>rfl
     | true=>exact absurd (Za3.1 hh) (aa i hi)
    rw [this,Bool.or_false]
   cases m with
   | zero=>rw [h.1] at a7;cases a7
   | succ m=>
    have c:=h.2 j a7;rw [b8,b9] at c;split
    ·rename_i hw;refine .inl (Zsw ?_);have c:=(ZcZ a4 hw a1).1 c;refine Oper.wp_mono ?_ c;intro a' w' hn;refine ih _ a' w' m ag aw a9 (af w' fun hl ak=>?_) hn.2;have h1:=hn.1;cases a2:kd j with
     | early=>rw [a2] at h1;exact h1
     | late=>rw [a2] at hl;exact absurd rfl hl
     | pure=>rw [a2] at a1;cases a1
     | read=>rw [a2] at a1;cases a1
     | fix=>rw [a2] at a1;cases a1
    ·rename_i hw;have c:=(ZcO a4 (by simpa using hw)).1 c;exact ih _ _ w m ag aw a9 (af w fun _ ak=>au ak) c
  ·have a1:(kd j).eff=false:=by simpa using a1
   have ay:(kRead (kd j)=true->Cl w):=fun bg=>au ⟨j,b5,ap,.inl bg⟩;have bi:cls Cl (kd j) w w:=by
    cases a2:kd j with
    | pure=>trivial
    | read=>exact ay (by rw [a2];rfl)
    | fix=>rfl
    | early=>rw [a2] at a1;cases a1
    | late=>rw [a2] at a1;cases a1
   obtain ⟨v,hv,hr⟩:=ZHA hL bm a4 a1 m _ a w ao b4 al aa ay h;rw [<-a8] at hr;have fin:=ih _ (a.put oj.dst v) w m ag aw a9 (af w fun _ ak=>au ak) hr;rcases hv with ⟨hw,hst⟩|⟨hw,rfl⟩
   ·rw [if_pos hw];refine .inl ?_;unfold Oper.wp;rw [hst w bi];exact fin
   ·rw [if_neg (by simp [hw])];exact fin
theorem ZCw {id:Nat} {Q:Exit->Act->World->Prop} {a:Act} {w:World} (hm:P.follows .mixedOrders=true) (e:lexOk ops kd=true)
  (l:Cl { w with drawn:=w.drawn+1 })
  (h:lexO P ops kd Cl (mkA ops.toList) ops.size (List.range ops.size) (fun a w=>Q .normal a w) a { w with drawn:=w.drawn+1 }):(Code.region id ops true).wp P Q a w:=by
 refine wp_region_any hm ?_;simp only [lexOk,Bool.and_eq_true] at e;obtain ⟨⟨⟨r,u⟩,x⟩,hP⟩:=e;have k:unl (Array.replicate ops.size false) ops.size=List.range ops.size:=by
  unfold unl;rw [List.filter_eq_self];intro i hi;rw [List.mem_range] at hi;simp [Array.getD_eq_getD_getElem?,hi]
 refine ZHV r u rfl (looked u x hP) ops.size _ a _ ops.size (by simp) ?_ ?_ (fun _=>l) (by rw [k];exact h)
 ·intro j o g hl;have:j<ops.size:=by
   rcases Nat.lt_or_ge j ops.size with h'|h'
   ·exact h'
   ·rw [Array.getElem?_eq_none h'] at g;cases g
  simp [Array.getD_eq_getD_getElem?,this] at hl
 ·rw [k];simp
end
end Go.Vc
