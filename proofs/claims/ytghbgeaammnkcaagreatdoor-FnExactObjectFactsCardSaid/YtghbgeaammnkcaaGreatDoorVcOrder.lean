import Derived.Still
namespace Go.Vc
set_option linter.unusedVariables false
set_option linter.unusedSimpArgs false
open Go
inductive Kind where
 | pure|read|fix|early|late
def Kind.eff:Kind→Bool
 | .early|.late=>true
 | _=>false
def kRead:Kind→Bool|.read=>true|_=>false
def kFix:Kind→Bool|.fix=>true|_=>false
def kLate:Kind→Bool|.late=>true|_=>false
def kEarly:Kind→Bool|.early=>true|_=>false
def Bot:Exit→Act→World→Prop:=fun _ _ _=>False
section
variable (P:Program) (ops:Array Oper) (kd:Nat→Kind) (Cl:World→Prop)
def cls (k:Kind) (w w':World):Prop:=
 match k with
 | .pure=>True
 | .read=>Cl w'
 | .fix=>w'=w
 | _=>False
def St (k:Kind) (o:Oper) (a:Act) (w:World) (v:Value):Prop:=
 ∀ w',cls Cl k w w'→(execOp a.eval o).run P w'=.ok (.value v) w'
def lexP:List Nat→(Act→World→Prop)→Act→World→Prop
 | [],Q,a,w=>Q a w
 | i::r,Q,a,w=>match ops[i]? with
  | none=>lexP r Q a w
  | some o=>
   if Region.wanted o (yielded ops a.tmps) then
    match kd i with
    | .early=>o.wp P a w (fun a' w'=>Cl w'∧lexP r Q a' w') Bot
    | .late=>o.wp P a w (fun a' w'=>lexP r Q a' w') Bot
    | k=>∃ v,St P Cl k o a w v∧lexP r Q (a.put o.dst v) w
   else lexP r Q (a.put o.dst undef) w
def effN (k:Kind) (N:Act→World→Prop):Act→World→Prop:=fun a w=>(match k with|.early=>Cl w|_=>True)∧N a w
end
section
variable {P:Program} {ops:Array Oper} {kd:Nat→Kind} {Cl:World→Prop}
theorem Zda {i:Nat} {r:List Nat} {Q:Act→World→Prop} {a:Act} {w:World} {o:Oper} (ho:ops[i]?=some o)
  (hw:Region.wanted o (yielded ops a.tmps)=true) (hk:(kd i).eff=true):
  lexP P ops kd Cl (i::r) Q a w↔o.wp P a w (effN Cl (kd i) (lexP P ops kd Cl r Q)) Bot:=by
 unfold lexP
 simp only [ho,hw,if_true]
 cases h:kd i<;>simp [h,Kind.eff] at hk
 ·constructor
  ·exact Oper.wp_mono fun a w h=>⟨h.1,h.2⟩
  ·exact Oper.wp_mono fun a w h=>⟨h.1,h.2⟩
 ·constructor
  ·exact Oper.wp_mono fun a w h=>⟨trivial,h⟩
  ·exact Oper.wp_mono fun a w h=>h.2
theorem ZeH {i:Nat} {r:List Nat} {Q:Act→World→Prop} {a:Act} {w:World} {o:Oper} (ho:ops[i]?=some o)
  (hw:Region.wanted o (yielded ops a.tmps)=true) (hk:(kd i).eff=false):
  lexP P ops kd Cl (i::r) Q a w↔∃ v,St P Cl (kd i) o a w v∧lexP P ops kd Cl r Q (a.put o.dst v) w:=by
 conv=>lhs;unfold lexP
 simp only [ho,hw,if_true]
 cases h:kd i<;>simp [h,Kind.eff] at hk<;>exact Iff.rfl
theorem ZcP {i:Nat} {r:List Nat} {Q:Act→World→Prop} {a:Act} {w:World} {o:Oper} (ho:ops[i]?=some o)
  (hw:Region.wanted o (yielded ops a.tmps)=false):
  lexP P ops kd Cl (i::r) Q a w↔lexP P ops kd Cl r Q (a.put o.dst undef) w:=by
 conv=>lhs;unfold lexP
 simp only [ho,hw]
 exact Iff.rfl
theorem ZC1 {o:Oper} {a:Act} {w:World} {N:Act→World→Prop} (h:o.wp P a w N Bot):∃ a' w',N a' w':=by
 unfold Oper.wp at h
 generalize (execOp a.eval o).run P w=r at h
 cases r with
 | ok n w'=>
  cases n<;>simp only [Oper.upon] at h
  case value v=>exact ⟨_,_,h⟩
  case skip=>exact ⟨_,_,h⟩
  case defer d=>exact ⟨_,_,h⟩
  case enter f args=>
   obtain ⟨e,w2,fr,hR,_⟩:=h []
   cases e with
   | returned v=>exact ⟨_,_,hR⟩
   | panicked c=>exact hR.elim
   | outgrown=>obtain ⟨_,_,hf⟩:=hR;exact hf.elim
  case row row args=>
   obtain ⟨v,w2,hR,_⟩:=h default []
   exact ⟨_,_,hR⟩
 | halt x w'=>cases x<;>simp only [Oper.upon,Bot] at h
def Out (o:Oper) (a a':Act):Prop:=∃ v ds,a'={ a with defers:=ds }.put o.dst v
theorem Zs9 {o:Oper} {a:Act} {w:World} {N:Act→World→Prop} (h:o.wp P a w N Bot):
  o.wp P a w (fun a' w'=>Out o a a'∧N a' w') Bot:=by
 unfold Oper.wp at *
 generalize (execOp a.eval o).run P w=r at *
 have same:∀ v,Out o a (a.put o.dst v):=fun v=>⟨v,a.defers,rfl⟩
 cases r with
 | ok n w'=>
  cases n<;>simp only [Oper.upon] at h ⊢
  case value v=>exact ⟨same v,h⟩
  case skip=>exact ⟨same _,h⟩
  case defer d=>exact ⟨⟨_,_,rfl⟩,h⟩
  case enter f args=>
   exact Calls.mono h fun e w2 he=>by
    cases e with
    | returned v=>exact ⟨same v,he⟩
    | panicked c=>exact he
    | outgrown=>obtain ⟨_,_,hf⟩:=he;exact hf.elim
  case row row args=>exact Rows.mono h fun v w2 he=>⟨same v,he⟩
 | halt x w'=>cases x<;>simp only [Oper.upon,Bot] at h
theorem Zzl {oi oj:Oper} {a:Act} {w:World} {u:Value} {N N':Act→World→Prop} (hap:oi.apart ops oj=true)
  (hs:∀ cs b,oi.op≠.select cs b) (h:oi.wp P a w N Bot) (hN:∀ i w1,Out oi a i→N i w1→N' (i.put oj.dst u) w1):
  oi.wp P (a.put oj.dst u) w N' Bot:=by
 obtain ⟨l,j,k⟩:=Oper.apart_spec hap
 have h:=Zs9 h
 unfold Oper.wp at *
 rw [execOp_put oi hs a oj.dst u k]
 generalize (execOp a.eval oi).run P w=r at *
 have g:∀ v,(a.put oj.dst u).put oi.dst v=(a.put oi.dst v).put oj.dst u:=fun v=>(Act.put_comm a v u j).symm
 cases r with
 | ok n w'=>
  cases n<;>simp only [Oper.upon] at h ⊢
  case value v=>rw [g];exact hN _ _ h.1 h.2
  case skip=>rw [g];exact hN _ _ h.1 h.2
  case defer d=>
   have:=hN _ _ h.1 h.2
   rw [Act.put_defers,←Act.put_comm _ undef u j]
   exact this
  case enter f args=>
   exact Calls.mono h fun e w2 he=>by
    cases e with
    | returned v=>show N' _ _;rw [g];exact hN _ _ he.1 he.2
    | panicked c=>exact he
    | outgrown=>obtain ⟨_,_,hf⟩:=he;exact hf.elim
  case row row args=>exact Rows.mono h fun v w2 he=>by show N' _ _;rw [g];exact hN _ _ he.1 he.2
 | halt x w'=>cases x<;>simp only [Oper.upon,Bot] at h
theorem ZrW {P:Program} {o:Oper} {a:Act} {w:World} {N:Act→World→Prop} {Q:Exit→Act→World→Prop} (h:o.wp P a w N Bot):o.wp P a w N Q:=by
 unfold Oper.wp at h ⊢
 generalize (execOp a.eval o).run P w=r at h ⊢
 cases r with
 | ok n w'=>
  cases n<;>simp only [Oper.upon] at h ⊢
  case value v=>exact h
  case skip=>exact h
  case defer d=>exact h
  case enter f args=>
   exact Calls.mono h fun e w2 he=>by
    cases e with
    | returned v=>exact he
    | panicked c=>exact he.elim
    | outgrown=>obtain ⟨_,_,hf⟩:=he;exact hf.elim
  case row row args=>exact h
 | halt x w'=>cases x<;>simp only [Oper.upon,Bot] at h
def Y (P:Program) (ops:Array Oper) (Cl:World→Prop) (k:Kind) (o:Oper) (a:Act) (w:World) (v:Value):Prop:=
 (Region.wanted o (yielded ops a.tmps)=true∧St P Cl k o a w v)∨(Region.wanted o (yielded ops a.tmps)=false∧v=undef)
theorem Zza {k:Kind} {o o':Oper} {a:Act} {w:World} {v u:Value} (hs:∀ cs b,o.op≠.select cs b) (c:∀ d,o'.dst=some d→d∉o.looksAt ops):
  St P Cl k o (a.put o'.dst u) w v↔St P Cl k o a w v:=by
 unfold St;rw [execOp_put o hs a o'.dst u c]
theorem Zwt {a:Act} {ds:List Deferred}:({ a with defers:=ds }:Act).eval=a.eval:=by
 funext x;cases x<;>rfl
theorem ZzX {k:Kind} {o o':Oper} {a a':Act} {w:World} {v:Value} (hs:∀ cs b,o.op≠.select cs b) (c:∀ d,o'.dst=some d→d∉o.looksAt ops)
  (ho:Out o' a a'):St P Cl k o a' w v↔St P Cl k o a w v:=by
 obtain ⟨u,ds,rfl⟩:=ho
 rw [Zza hs c]
 unfold St;rw [Zwt]
theorem ZBd {o o':Oper} {a a':Act} (b:∀ d,o'.dst=some d→d∉o.looksAt ops) (ho:Out o' a a'):
  Region.wanted o (yielded ops a'.tmps)=Region.wanted o (yielded ops a.tmps):=by
 obtain ⟨u,ds,rfl⟩:=ho
 rw [wanted_put o _ o'.dst u b]
theorem Y_out {k:Kind} {o o':Oper} {a a':Act} {w:World} {v:Value} (hs:∀ cs b,o.op≠.select cs b) (c:∀ d,o'.dst=some d→d∉o.looksAt ops)
  (ho:Out o' a a'):Y P ops Cl k o a' w v↔Y P ops Cl k o a w v:=by
 unfold Y;rw [ZzX hs c ho,ZBd c ho]
theorem ZBn {k:Kind} {o:Oper} {a:Act} {w w1:World} {v:Value} (hf:kFix k=false) (h:Y P ops Cl k o a w v):Y P ops Cl k o a w1 v:=by
 have b:∀ w',cls Cl k w1 w'→cls Cl k w w':=by
  intro w' h;cases k<;>first|exact h|cases hf
 rcases h with ⟨c,e⟩|h
 ·exact .inl ⟨c,fun w' hw'=>e w' (b w' hw')⟩
 ·exact .inr h
theorem ZsF {k:Kind} {o:Oper} {a:Act} {v v':Value} {w w0 w1:World} (f:cls Cl k w0 w) (g:cls Cl k w1 w)
  (h:Y P ops Cl k o a w0 v) (h':Y P ops Cl k o a w1 v'):v=v':=by
 rcases h with ⟨c,i⟩|⟨c,rfl⟩<;>rcases h' with ⟨b,j⟩|⟨b,rfl⟩
 ·have e:=(i w f).symm.trans (j w g)
  simpa using e
 ·rw [c] at b;cases b
 ·rw [c] at b;cases b
 ·rfl
theorem ZnR {i:Nat} {r:List Nat} {Q:Act→World→Prop} {a:Act} {w:World} {o:Oper} (ho:ops[i]?=some o) (hk:(kd i).eff=false):
  lexP P ops kd Cl (i::r) Q a w↔∃ v,Y P ops Cl (kd i) o a w v∧lexP P ops kd Cl r Q (a.put o.dst v) w:=by
 cases hw:Region.wanted o (yielded ops a.tmps)
 ·rw [ZcP ho hw]
  constructor
  ·exact fun h=>⟨undef,.inr ⟨hw,rfl⟩,h⟩
  ·rintro ⟨v,⟨b,_⟩|⟨_,rfl⟩,h⟩
   ·rw [hw] at b;cases b
   ·exact h
 ·rw [ZeH ho hw hk]
  constructor
  ·rintro ⟨v,b,c⟩;exact ⟨v,.inl ⟨hw,b⟩,c⟩
  ·rintro ⟨v,⟨_,b⟩|⟨b,_⟩,h⟩
   ·exact ⟨v,b,h⟩
   ·rw [hw] at b;cases b
theorem Ztz (l r:List Nat) {Q:Act→World→Prop}:∀ (a:Act) (w:World),lexP P ops kd Cl (l++r) Q a w↔lexP P ops kd Cl l (lexP P ops kd Cl r Q) a w:=by
 induction l with
 | nil=>intro a w;exact Iff.rfl
 | cons i l ih=>
  intro a w
  have e:∀ (k:Kind) ,(fun a' w'=>effN Cl k (lexP P ops kd Cl (l++r) Q) a' w')=effN Cl k (lexP P ops kd Cl l (lexP P ops kd Cl r Q)):=by
   intro k;funext a' w';unfold effN;rw [ih]
  rw [List.cons_append]
  cases ho:ops[i]? with
  | none=>
   conv=>lhs;unfold lexP
   conv=>rhs;unfold lexP
   simp only [ho];exact ih a w
  | some o=>
   cases hw:Region.wanted o (yielded ops a.tmps)
   ·rw [ZcP ho hw,ZcP ho hw];exact ih _ _
   ·by_cases hk:(kd i).eff=true
    ·rw [Zda ho hw hk,Zda ho hw hk]
     have:=e (kd i)
     constructor
     ·exact Oper.wp_mono fun a' w' h=>⟨h.1,(ih _ _).1 h.2⟩
     ·exact Oper.wp_mono fun a' w' h=>⟨h.1,(ih _ _).2 h.2⟩
    ·have hk:(kd i).eff=false:=by simpa using hk
     rw [ZeH ho hw hk,ZeH ho hw hk]
     constructor
     ·rintro ⟨v,b,c⟩;exact ⟨v,b,(ih _ _).1 c⟩
     ·rintro ⟨v,b,c⟩;exact ⟨v,b,(ih _ _).2 c⟩
theorem ZrE {Q Q':Act→World→Prop} (b:∀ a w,Q a w→Q' a w):∀ (l:List Nat) (a:Act) (w:World),lexP P ops kd Cl l Q a w→lexP P ops kd Cl l Q' a w:=by
 intro l
 induction l with
 | nil=>intro a w h;exact b _ _ h
 | cons i l ih=>
  intro a w h
  cases ho:ops[i]? with
  | none=>
   unfold lexP at h ⊢
   simp only [ho] at h ⊢;exact ih a w h
  | some o=>
   cases hw:Region.wanted o (yielded ops a.tmps)
   ·rw [ZcP ho hw] at h ⊢;exact ih _ _ h
   ·by_cases hk:(kd i).eff=true
    ·rw [Zda ho hw hk] at h ⊢
     exact Oper.wp_mono (fun a' w' h=>⟨h.1,ih _ _ h.2⟩) h
    ·have hk:(kd i).eff=false:=by simpa using hk
     rw [ZeH ho hw hk] at h ⊢
     obtain ⟨v,c,e⟩:=h
     exact ⟨v,c,ih _ _ e⟩
theorem Zq9 {j:Nat} {oj:Oper} (hj:ops[j]?=some oj) (hs:Region.noSelect ops=true) (hk:(kd j).eff=false) {K:Act→World→Prop}:
  ∀ (pre:List Nat) (a:Act) (w:World),
   (∀ i∈pre,∃ oi,ops[i]?=some oi∧oi.apart ops oj=true∧(kLate (kd i)=true→kRead (kd j)=false)∧((kd i).eff=true→kFix (kd j)=false)) →
   (kRead (kd j)=true→Cl w) →
   lexP P ops kd Cl pre (fun a w=>(kRead (kd j)=true→Cl w)→∃ v,Y P ops Cl (kd j) oj a w v∧K (a.put oj.dst v) w) a w →
   ∃ v,Y P ops Cl (kd j) oj a w v∧lexP P ops kd Cl pre K (a.put oj.dst v) w:=by
 have sj:∀ cs b,oj.op≠.select cs b:=fun cs b=>Region.noSelect_spec hs j oj cs b hj
 intro pre
 induction pre with
 | nil=>intro a w _ e h;exact h e
 | cons i pre ih=>
  intro a w hp e h
  obtain ⟨oi,hi,hap,hlate,hfix⟩:=hp i (List.mem_cons_self ..)
  have hp':=fun x r=>hp x (List.mem_cons_of_mem _ r)
  obtain ⟨g,m,l⟩:=Oper.apart_spec hap
  have si:∀ cs b,oi.op≠.select cs b:=fun cs b=>Region.noSelect_spec hs i oi cs b hi
  by_cases hke:(kd i).eff=false
  ·obtain ⟨u,hu,hr⟩:=(ZnR hi hke).1 h
   obtain ⟨v,c,hr⟩:=ih _ w hp' e hr
   have ho:Out oi a (a.put oi.dst u):=⟨u,a.defers,rfl⟩
   rw [Y_out sj g ho] at c
   refine ⟨v,c,(ZnR hi hke).2 ⟨u,?_,?_⟩⟩
   ·exact (Y_out si l ⟨v,a.defers,rfl⟩).2 hu
   ·rw [←Act.put_comm a u v m];exact hr
  ·have hke:(kd i).eff=true:=by simpa using hke
   cases hw:Region.wanted oi (yielded ops a.tmps)
   ·have h:=(ZcP hi hw).1 h
    obtain ⟨v,c,hr⟩:=ih _ w hp' e h
    have ho:Out oi a (a.put oi.dst undef):=⟨undef,a.defers,rfl⟩
    rw [Y_out sj g ho] at c
    refine ⟨v,c,(ZcP hi ?_).2 ?_⟩
    ·rw [wanted_put oi a oj.dst v l];exact hw
    ·rw [←Act.put_comm a undef v m];exact hr
   ·have h:=(Zda hi hw hke).1 h
    have hfx:=hfix hke
    have hcl:∀ (N:Act→World→Prop) k w1,effN Cl (kd i) N k w1→(kRead (kd j)=true→Cl w1):=by
     intro N k w1 hh hrd
     cases hki:kd i with
     | early=>have:=hh.1;rw [hki] at this;exact this
     | late=>rw [hki,hrd] at hlate;exact absurd (hlate rfl) (by simp)
     | pure=>rw [hki] at hke;cases hke
     | read=>rw [hki] at hke;cases hke
     | fix=>rw [hki] at hke;cases hke
    have hcw:∀ w0,cls Cl (kd j) w0 w:=by
     intro w0
     cases hkj:kd j with
     | pure=>trivial
     | read=>exact e (by rw [hkj];rfl)
     | fix=>rw [hkj] at hfx;cases hfx
     | early=>rw [hkj] at hk;cases hk
     | late=>rw [hkj] at hk;cases hk
    obtain ⟨k,w1,ho,o⟩:=ZC1 (Zs9 h)
    obtain ⟨v,c,_⟩:=ih k w1 hp' (hcl _ _ _ o) o.2
    rw [Y_out sj g ho] at c
    have c:=ZBn (w1:=w) hfx c
    refine ⟨v,c,(Zda hi ?_ hke).2 ?_⟩
    ·rw [wanted_put oi a oj.dst v l];exact hw
    ·refine Zzl hap si h ?_
     intro s w2 p f
     obtain ⟨v',hv',hr'⟩:=ih s w2 hp' (hcl _ _ _ f) f.2
     rw [Y_out sj g p] at hv'
     obtain rfl:=ZsF (hcw w) (hcw w2) c hv'
     exact ⟨f.1,hr'⟩
end
def deps (o:Oper):List Nat:=(o.after.toList.filter fun e=>Region.binds .any e).map (·.on)
def mkA (ops:List Oper):List (List Nat):=
 ops.foldl (fun acc o=>acc++[((deps o).flatMap fun k=>k::acc.getD k []).eraseDups]) []
def okA (ops:List Oper) (A:List (List Nat)):Bool:=
 ops.zipIdx.all fun (o,j)=>(deps o).all (fun k=>Nat.blt k j)&&(A.getD j []).all fun i=>(deps o).any fun k=>Nat.beq k i||(A.getD k []).any (fun x=>Nat.beq x i)
def hasN (l:List Nat) (i:Nat):Bool:=l.any fun x=>Nat.beq x i
def closedA (ops:List Oper) (A:List (List Nat)):Bool:=
 ops.zipIdx.all fun (o,j)=>(deps o).all fun k=>hasN (A.getD j []) k&&(A.getD k []).all fun i=>hasN (A.getD j []) i
def pairsOk (ops:Array Oper) (l:List Oper) (A:List (List Nat)) (kd:Nat→Kind):Bool:=
 l.zipIdx.all fun (oj,j)=>l.zipIdx.all fun (oi,i)=>
  (Nat.beq i j||hasN (A.getD j []) i||hasN (A.getD i []) j||(oi.apart ops oj&&!((kd i).eff&&kFix (kd j))&&!(kFix (kd i)&&(kd j).eff))) &&
  (!(kLate (kd j)&&(kRead (kd i)||kEarly (kd i)))||hasN (A.getD j []) i)
def effs (kd:Nat→Kind) (l:List Nat):List Nat:=l.filter fun i=>(kd i).eff
def minEff (A:List (List Nat)) (kd:Nat→Kind) (rem:List Nat):List Nat:=(effs kd rem).filter fun j=>!((effs kd rem).any fun i=>hasN (A.getD j []) i)
def seg (A:List (List Nat)) (j:Nat) (rem:List Nat):List Nat:=rem.filter fun i=>Nat.beq i j||hasN (A.getD j []) i
def rst (A:List (List Nat)) (j:Nat) (rem:List Nat):List Nat:=rem.filter fun i=>!(Nat.beq i j||hasN (A.getD j []) i)
def lexOk (ops:Array Oper) (kd:Nat→Kind):Bool:=
 Region.noSelect ops&&okA ops.toList (mkA ops.toList)&&closedA ops.toList (mkA ops.toList)&&pairsOk ops ops.toList (mkA ops.toList) kd
def lexO (P:Program) (ops:Array Oper) (kd:Nat→Kind) (Cl:World→Prop) (A:List (List Nat)):Nat→List Nat→(Act→World→Prop)→Act→World→Prop
 | 0,rem,Q,a,w=>minEff A kd rem=[]∧lexP P ops kd Cl rem Q a w
 | n+1,rem,Q,a,w=>
  (minEff A kd rem=[]→lexP P ops kd Cl rem Q a w) ∧
  ∀ j∈minEff A kd rem,lexP P ops kd Cl (seg A j rem) (fun a w=>lexO P ops kd Cl A n (rst A j rem) Q a w) a w
theorem ZbA {l:List Nat} {i:Nat}:hasN l i=true↔i∈l:=by
 unfold hasN;rw [List.any_eq_true]
 constructor
 ·rintro ⟨x,a,h⟩;have:=Nat.eq_of_beq_eq_true h;subst this;exact a
 ·exact fun h=>⟨i,h,Nat.beq_refl i⟩
theorem ZbV {a b:Nat} (h:a≠b):Nat.beq a b=false:=by
 cases c:Nat.beq a b with
 | false=>rfl
 | true=>exact absurd (Nat.eq_of_beq_eq_true c) h
section
variable {P:Program} {ops:Array Oper} {kd:Nat→Kind} {Cl:World→Prop}
def Closed (ops:Array Oper) (listed:Array Bool):Prop:=
 ∀ (j:Nat) (o:Oper),ops[j]?=some o→listed.getD j false=true→∀ k∈deps o,listed.getD k false=true
theorem Zxf {listed:Array Bool} (b:Closed ops listed) (hA:okA ops.toList (mkA ops.toList)=true):
  ∀ (n j:Nat) (o:Oper),j<n→ops[j]?=some o→(∀ k∈deps o,listed.getD k false=true)→∀ i∈(mkA ops.toList).getD j [],listed.getD i false=true:=by
 intro n
 induction n with
 | zero=>intro j o h;omega
 | succ n ih=>
  intro j o hjn ho a i hi
  unfold okA at hA
  rw [List.all_eq_true] at hA
  have hm:(o,j)∈ops.toList.zipIdx:=by
   rw [List.mem_zipIdx_iff_getElem?];simpa using ho
  have h:=hA _ hm
  simp only [Bool.and_eq_true,List.all_eq_true,List.any_eq_true,Bool.or_eq_true] at h
  obtain ⟨hlt,h⟩:=h
  obtain ⟨k,hk,h⟩:=h i hi
  have hkj:k<j:=by have:=hlt k hk;exact Nat.blt_eq.mp this
  rcases h with h|⟨x,c,h⟩
  ·have:=Nat.eq_of_beq_eq_true h;subst this;exact a _ hk
  ·have:=Nat.eq_of_beq_eq_true h;subst this
   have hjs:j<ops.size:=by
    rcases Nat.lt_or_ge j ops.size with h'|h'
    ·exact h'
    ·rw [Array.getElem?_eq_none h'] at ho;cases ho
   have hks:k<ops.size:=by omega
   exact ih k ops[k] (by omega) (by simp [hks]) (b k ops[k] (by simp [hks]) (a k hk)) x c
theorem ZmT {l:Array Bool} {i j:Nat} {d:Bool} (hi:i<l.size):(l.setIfInBounds i true).getD j d=if j=i then true else l.getD j d:=by
 simp only [Array.getD_eq_getD_getElem?]
 by_cases h:j=i
 ·subst h;simp [hi]
 ·rw [if_neg h,Array.getElem?_setIfInBounds_ne (fun e=>h e.symm)]
def unl (listed:Array Bool) (n:Nat):List Nat:=(List.range n).filter fun i=>listed.getD i true==false
theorem Zgn {listed:Array Bool} {n i:Nat}:i∈unl listed n↔i<n∧listed.getD i true=false:=by
 simp [unl]
structure Looked (ops:Array Oper) (kd:Nat→Kind) (A:List (List Nat)):Prop where
 lt:∀ i j oj,ops[j]?=some oj→i∈A.getD j []→i<j
 trans:∀ i j k oj,ops[j]?=some oj→i∈A.getD j []→k∈A.getD i []→k∈A.getD j []
 pair:∀ i j oi oj,ops[i]?=some oi→ops[j]?=some oj→i≠j→i∉A.getD j []→j∉A.getD i [] →
   oi.apart ops oj=true∧((kd i).eff=true→kFix (kd j)=false)
 late:∀ i j oi oj,ops[i]?=some oi→ops[j]?=some oj→kLate (kd j)=true→(kRead (kd i)=true∨kEarly (kd i)=true)→i∈A.getD j []
theorem looked (hA:okA ops.toList (mkA ops.toList)=true) (hT:closedA ops.toList (mkA ops.toList)=true) (hP:pairsOk ops ops.toList (mkA ops.toList) kd=true):Looked ops kd (mkA ops.toList):=by
 have hsz:∀ {j:Nat} {o:Oper},ops[j]?=some o→j<ops.size:=fun {j o} h=>by
  rcases Nat.lt_or_ge j ops.size with h'|h'
  ·exact h'
  ·rw [Array.getElem?_eq_none h'] at h;cases h
 have hA':∀ (j:Nat) (oj:Oper),ops[j]?=some oj→(∀ k∈deps oj,k<j)∧∀ i∈(mkA ops.toList).getD j [],∃ k∈deps oj,k=i∨i∈(mkA ops.toList).getD k []:=by
  intro j oj hj
  unfold okA at hA
  rw [List.all_eq_true] at hA
  have hm:(oj,j)∈ops.toList.zipIdx:=by rw [List.mem_zipIdx_iff_getElem?];simpa using hj
  have h:=hA _ hm
  simp only [Bool.and_eq_true,List.all_eq_true,List.any_eq_true,Bool.or_eq_true] at h
  refine ⟨fun k hk=>Nat.blt_eq.mp (h.1 k hk),fun i hi=>?_⟩
  obtain ⟨k,hk,a⟩:=h.2 i hi
  refine ⟨k,hk,?_⟩
  rcases a with a|⟨x,m,a⟩
  ·exact .inl (Nat.eq_of_beq_eq_true a)
  ·have:=Nat.eq_of_beq_eq_true a;subst this;exact .inr m
 have hlt:∀ (n j:Nat) (oj:Oper),j<n→ops[j]?=some oj→∀ i∈(mkA ops.toList).getD j [],i<j:=by
  intro n
  induction n with
  | zero=>intro j oj h;omega
  | succ n ih=>
   intro j oj hjn hj i hi
   obtain ⟨c,a⟩:=hA' j oj hj
   obtain ⟨k,hk,b⟩:=a i hi
   have hkj:=c k hk
   rcases b with rfl|b
   ·exact hkj
   ·have hks:k<ops.size:=by have:=hsz hj;omega
    have:=ih k (ops[k]'hks) (by omega) (by simp [hks]) i b
    omega
 have hT':∀ (j:Nat) (oj:Oper),ops[j]?=some oj→∀ k∈deps oj,k∈(mkA ops.toList).getD j []∧∀ i∈(mkA ops.toList).getD k [],i∈(mkA ops.toList).getD j []:=by
  intro j oj hj k hk
  unfold closedA at hT
  rw [List.all_eq_true] at hT
  have hm:(oj,j)∈ops.toList.zipIdx:=by rw [List.mem_zipIdx_iff_getElem?];simpa using hj
  have h:=hT _ hm
  simp only [Bool.and_eq_true,List.all_eq_true] at h
  obtain ⟨c,a⟩:=h k hk
  exact ⟨ZbA.1 c,fun i hi=>ZbA.1 (a i hi)⟩
 refine ⟨fun i j oj hj hi=>hlt (j+1) j oj (by omega) hj i hi,?_,?_,?_⟩
 ·have:∀ (n i j k:Nat) (oj:Oper),j<n→ops[j]?=some oj→i∈(mkA ops.toList).getD j []→k∈(mkA ops.toList).getD i []→k∈(mkA ops.toList).getD j []:=by
   intro n
   induction n with
   | zero=>intro i j k oj h;omega
   | succ n ih=>
    intro i j k oj hjn hj hi hk
    obtain ⟨c,a⟩:=hA' j oj hj
    obtain ⟨d,g,b⟩:=a i hi
    have hdj:=c d g
    obtain ⟨r,l⟩:=hT' j oj hj d g
    rcases b with rfl|b
    ·exact l k hk
    ·have hds:d<ops.size:=by have:=hsz hj;omega
     exact l k (ih i d k (ops[d]'hds) (by omega) (by simp [hds]) b hk)
  exact fun i j k oj hj hi hk=>this (j+1) i j k oj (by omega) hj hi hk
 ·intro i j oi oj hi hj hne c a
  unfold pairsOk at hP
  rw [List.all_eq_true] at hP
  have hm:(oj,j)∈ops.toList.zipIdx:=by rw [List.mem_zipIdx_iff_getElem?];simpa using hj
  have hm':(oi,i)∈ops.toList.zipIdx:=by rw [List.mem_zipIdx_iff_getElem?];simpa using hi
  have b:=hP _ hm
  rw [List.all_eq_true] at b
  have e:=b _ hm'
  have n1:hasN ((mkA ops.toList).getD j []) i=false:=by
   cases hh:hasN ((mkA ops.toList).getD j []) i with
   | false=>rfl
   | true=>exact absurd (ZbA.1 hh) c
  have n2:hasN ((mkA ops.toList).getD i []) j=false:=by
   cases hh:hasN ((mkA ops.toList).getD i []) j with
   | false=>rfl
   | true=>exact absurd (ZbA.1 hh) a
  simp only [ZbV hne,n1,n2,Bool.false_or,Bool.and_eq_true,Bool.not_eq_true',Bool.and_eq_false_iff] at e
  obtain ⟨⟨⟨p,f⟩,s⟩,_⟩:=e
  exact ⟨p,fun he=>by rcases f with f|f<;>simp_all⟩
 ·intro i j oi oj hi hj hl hk
  unfold pairsOk at hP
  rw [List.all_eq_true] at hP
  have hm:(oj,j)∈ops.toList.zipIdx:=by rw [List.mem_zipIdx_iff_getElem?];simpa using hj
  have hm':(oi,i)∈ops.toList.zipIdx:=by rw [List.mem_zipIdx_iff_getElem?];simpa using hi
  have b:=hP _ hm
  rw [List.all_eq_true] at b
  have e:=(Bool.and_eq_true _ _▸b _ hm').2
  have hk':(kRead (kd i)||kEarly (kd i))=true:=by simpa using hk
  rw [hl,hk'] at e
  exact ZbA.1 (by simpa using e)
theorem Zw4 {A:List (List Nat)} (hL:Looked ops kd A) (hns:Region.noSelect ops=true) {j:Nat} {oj:Oper} (hoj:ops[j]?=some oj) (hke:(kd j).eff=false) {Q:Act→World→Prop}:
  ∀ (n:Nat) (rem:List Nat) (a:Act) (w:World),(∀ i∈rem,∃ o,ops[i]?=some o)→rem.Pairwise (·<·)→j∈rem→(∀ i∈rem,i∉A.getD j [])→(kRead (kd j)=true→Cl w) →
   lexO P ops kd Cl A n rem Q a w→∃ v,Y P ops Cl (kd j) oj a w v∧lexO P ops kd Cl A n (rem.filter fun i=>!Nat.beq i j) Q (a.put oj.dst v) w:=by
 -- out of a list in the order of the text
 have lists:∀ (l:List Nat) (K:Act→World→Prop) (a:Act) (w:World),(∀ i∈l,∃ o,ops[i]?=some o)→l.Pairwise (·<·)→j∈l→(∀ i∈l,i∉A.getD j [])→(kRead (kd j)=true→Cl w) →
   lexP P ops kd Cl l K a w→∃ v,Y P ops Cl (kd j) oj a w v∧lexP P ops kd Cl (l.filter fun i=>!Nat.beq i j) K (a.put oj.dst v) w:=by
  intro l K a w hso hpw hjl hnot hcl h
  obtain ⟨pre,post,rfl⟩:=List.append_of_mem hjl
  obtain ⟨p1,p2,t⟩:=List.pairwise_append.1 hpw
  have hf:(pre++j::post).filter (fun i=>!Nat.beq i j)=pre++post:=by
   rw [List.filter_append,List.filter_cons]
   rw [List.filter_eq_self.2 fun i hi=>by rw [ZbV (by have:=t i hi j (List.mem_cons_self ..);omega)];rfl]
   rw [List.filter_eq_self.2 fun i hi=>by rw [ZbV (by have:=(List.pairwise_cons.1 p2).1 i hi;omega)];rfl]
   simp
  rw [hf]
  rw [Ztz] at h
  have fin:∀ a':Act,lexP P ops kd Cl pre (lexP P ops kd Cl post K) a' w→lexP P ops kd Cl (pre++post) K a' w:=fun a' h'=>(Ztz pre post a' w).2 h'
  suffices hsuff:∃ v,Y P ops Cl (kd j) oj a w v∧lexP P ops kd Cl pre (lexP P ops kd Cl post K) (a.put oj.dst v) w by
   obtain ⟨v,k,m⟩:=hsuff;exact ⟨v,k,fin _ m⟩
  refine Zq9 hoj hns hke (K:=lexP P ops kd Cl post K) pre a w (fun i hi=>?_) hcl ?_
  ·obtain ⟨oi,hoi⟩:=hso i (List.mem_append_left _ hi)
   have hij:i<j:=t i hi j (List.mem_cons_self ..)
   have hji:j∉A.getD i []:=fun hm=>by have:=hL.lt j i oi hoi hm;omega
   obtain ⟨p,s⟩:=hL.pair i j oi oj hoi hoj (by omega) (hnot i (List.mem_append_left _ hi)) hji
   refine ⟨oi,hoi,p,fun hl=>?_,s⟩
   cases hrd:kRead (kd j) with
   | false=>rfl
   | true=>exact absurd (hL.late j i oj oi hoj hoi hl (.inl hrd)) hji
  ·refine ZrE (fun a' w' h'=>?_) pre a w h
   exact fun _=>(ZnR hoj hke).1 h'
 have hmin:∀ rem:List Nat,minEff A kd (rem.filter fun i=>!Nat.beq i j)=minEff A kd rem:=by
  intro rem
  have he:effs kd (rem.filter fun i=>!Nat.beq i j)=effs kd rem:=by
   unfold effs
   rw [List.filter_filter]
   apply List.filter_congr
   intro i _
   by_cases hij:i=j
   ·subst hij;simp [hke]
   ·simp [ZbV hij]
  unfold minEff
  rw [he]
 intro n
 induction n with
 | zero=>
  intro rem a w hso hpw hj hnot hcl h
  obtain ⟨v,f,hr⟩:=lists rem Q a w hso hpw hj hnot hcl h.2
  exact ⟨v,f,by rw [hmin];exact h.1,hr⟩
 | succ n ih=>
  intro rem a w hso hpw hj hnot hcl h
  -- one value for all
  have branch:∀ e∈minEff A kd rem,∃ v,Y P ops Cl (kd j) oj a w v ∧
    lexP P ops kd Cl (seg A e (rem.filter fun i=>!Nat.beq i j)) (fun a w=>lexO P ops kd Cl A n (rst A e (rem.filter fun i=>!Nat.beq i j)) Q a w) (a.put oj.dst v) w:=by
   intro e he
   have u:=h.2 e he
   have hem:e∈rem:=(List.mem_filter.1 (List.mem_filter.1 he).1).1
   have hee:(kd e).eff=true:=(List.mem_filter.1 (List.mem_filter.1 he).1).2
   obtain ⟨oe,hoe⟩:=hso e hem
   have hej:e≠j:=fun x=>by subst x;rw [hke] at hee;cases hee
   have c1:seg A e (rem.filter fun i=>!Nat.beq i j)=(seg A e rem).filter fun i=>!Nat.beq i j:=by
    unfold seg;rw [List.filter_filter,List.filter_filter];apply List.filter_congr;intro i _;exact Bool.and_comm _ _
   have c2:rst A e (rem.filter fun i=>!Nat.beq i j)=(rst A e rem).filter fun i=>!Nat.beq i j:=by
    unfold rst;rw [List.filter_filter,List.filter_filter];apply List.filter_congr;intro i _;exact Bool.and_comm _ _
   rw [c1,c2]
   have c:∀ i∈seg A e rem,i∈rem:=fun i hi=>(List.mem_filter.1 hi).1
   have g:∀ i∈rst A e rem,i∈rem:=fun i hi=>(List.mem_filter.1 hi).1
   by_cases hjs:j∈seg A e rem
   ·have hr:(rst A e rem).filter (fun i=>!Nat.beq i j)=rst A e rem:=by
     rw [List.filter_eq_self]
     intro i hi
     have hij:i≠j:=fun x=>by
      subst x
      have k:=(List.mem_filter.1 hi).2
      have m:=(List.mem_filter.1 hjs).2
      rw [m] at k;cases k
     rw [ZbV hij];rfl
    rw [hr]
    exact lists _ _ a w (fun i hi=>hso i (c i hi)) (hpw.sublist List.filter_sublist) hjs (fun i hi=>hnot i (c i hi)) hcl u
   ·have hjr:j∈rst A e rem:=by
     refine List.mem_filter.2 ⟨hj,?_⟩
     cases hh:(Nat.beq j e||hasN (A.getD e []) j) with
     | false=>rfl
     | true=>exact absurd (List.mem_filter.2 ⟨hj,hh⟩) hjs
    have hs:(seg A e rem).filter (fun i=>!Nat.beq i j)=seg A e rem:=by
     rw [List.filter_eq_self]
     intro i hi
     have hij:i≠j:=fun x=>by subst x;exact hjs hi
     rw [ZbV hij];rfl
    rw [hs]
    have hjA:j∉A.getD e []:=fun hm=>hjs (List.mem_filter.2 ⟨hj,by rw [ZbA.2 hm];simp⟩)
    refine Zq9 hoj hns hke (K:=fun a w=>lexO P ops kd Cl A n ((rst A e rem).filter fun i=>!Nat.beq i j) Q a w) (seg A e rem) a w (fun i hi=>?_) hcl ?_
    ·obtain ⟨oi,hoi⟩:=hso i (c i hi)
     have hij:i≠j:=fun x=>by subst x;exact hjs hi
     have hji:j∉A.getD i []:=fun hm=>by
      have b:=(List.mem_filter.1 hi).2
      rw [Bool.or_eq_true] at b
      rcases b with b|b
      ·have:=Nat.eq_of_beq_eq_true b;subst this;exact hjA hm
      ·exact hjA (hL.trans i e j oe hoe (ZbA.1 b) hm)
     obtain ⟨p,s⟩:=hL.pair i j oi oj hoi hoj hij (hnot i (c i hi)) hji
     refine ⟨oi,hoi,p,fun hl=>?_,s⟩
     cases hrd:kRead (kd j) with
     | false=>rfl
     | true=>exact absurd (hL.late j i oj oi hoj hoi hl (.inl hrd)) hji
    ·refine ZrE (fun a' w' h' hc'=>?_) _ a w u
     exact ih (rst A e rem) a' w' (fun i hi=>hso i (g i hi)) (hpw.sublist List.filter_sublist) hjr (fun i hi=>hnot i (g i hi)) hc' h'
  have hcw:cls Cl (kd j) w w:=by
   cases hkj:kd j with
   | pure=>trivial
   | read=>exact hcl (by rw [hkj];rfl)
   | fix=>rfl
   | early=>rw [hkj] at hke;cases hke
   | late=>rw [hkj] at hke;cases hke
  cases hms:minEff A kd rem with
  | nil=>
   obtain ⟨v,f,hr⟩:=lists rem Q a w hso hpw hj hnot hcl (h.1 hms)
   refine ⟨v,f,fun _=>hr,fun e he=>?_⟩
   rw [hmin,hms] at he;cases he
  | cons e0 r=>
   obtain ⟨v,f,_⟩:=branch e0 (by rw [hms];exact List.mem_cons_self ..)
   refine ⟨v,f,fun y=>?_,fun e he=>?_⟩
   ·rw [hmin,hms] at y;cases y
   ·rw [hmin] at he
    obtain ⟨v',hv',hr'⟩:=branch e he
    obtain rfl:=ZsF hcw hcw f hv'
    exact hr'
theorem Zyv {A:List (List Nat)} {Q:Exit→Act→World→Prop} (hns:Region.noSelect ops=true) (hA:okA ops.toList A=true) (hAA:A=mkA ops.toList) (hL:Looked ops kd A):
  ∀ (fuel:Nat) (listed:Array Bool) (a:Act) (w:World) (m:Nat),listed.size=ops.size→Closed ops listed→(unl listed ops.size).length≤fuel →
   ((∃ i,i<ops.size∧listed.getD i true=false∧(kRead (kd i)=true∨kEarly (kd i)=true))→Cl w) →
   lexO P ops kd Cl A m (unl listed ops.size) (fun a w=>Q .normal a w) a w→wpAny P .any ops Q fuel listed a w:=by
 have hsome:∀ i,i<ops.size→∃ o,ops[i]?=some o:=fun i hi=>⟨ops[i],by simp [hi]⟩
 -- the first that is not listed is ready
 have hfirst:∀ (listed:Array Bool),listed.size=ops.size→Region.ready .any ops listed=[]→unl listed ops.size=[]:=by
  intro listed hsz hr
  have hall:∀ n i,i<n→i<ops.size→listed.getD i true=true:=by
   intro n
   induction n with
   | zero=>intro i h;omega
   | succ n ih=>
    intro i hin his
    cases hl:listed.getD i true with
    | true=>rfl
    | false=>
     have:i∈Region.ready .any ops listed:=by
      rw [mem_ready]
      refine ⟨hl,ops[i],by simp [his],fun e he b=>?_⟩
      unfold okA at hA
      rw [List.all_eq_true] at hA
      have hm:(ops[i],i)∈ops.toList.zipIdx:=by
       rw [List.mem_zipIdx_iff_getElem?];simp [his]
      have h:=hA _ hm
      simp only [Bool.and_eq_true,List.all_eq_true] at h
      have hk:e.on<i:=Nat.blt_eq.mp (h.1 e.on (List.mem_map.2 ⟨e,List.mem_filter.2 ⟨by simpa using he,b⟩,rfl⟩))
      have g:=ih e.on (by omega) (by omega)
      have hes:e.on<listed.size:=by omega
      simp only [Array.getD_eq_getD_getElem?,Array.getElem?_eq_getElem hes,Option.getD_some] at g ⊢
      exact g
     rw [hr] at this;cases this
  cases hu:unl listed ops.size with
  | nil=>rfl
  | cons i r=>
   have hi:i∈unl listed ops.size:=by rw [hu];exact List.mem_cons_self ..
   rw [Zgn] at hi
   have:=hall (i+1) i (by omega) hi.1
   rw [hi.2] at this;cases this
 have hend:∀ (m:Nat) (a:Act) (w:World),lexO P ops kd Cl A m [] (fun a w=>Q .normal a w) a w→Q .normal a w:=by
  intro m a w h
  cases m with
  | zero=>exact h.2
  | succ m=>exact h.1 rfl
 intro fuel
 induction fuel with
 | zero=>
  intro listed a w m hsz p hlen _ h
  have hu:unl listed ops.size=[]:=List.length_eq_zero_iff.1 (by omega)
  rw [hu] at h
  refine ⟨?_,hend m a w h⟩
  cases hr:Region.ready .any ops listed with
  | nil=>rfl
  | cons i r=>
   have hi:i∈Region.ready .any ops listed:=by rw [hr];exact List.mem_cons_self ..
   obtain ⟨f,o,g,_⟩:=mem_ready.1 hi
   have his:i<ops.size:=by
    rcases Nat.lt_or_ge i ops.size with h'|h'
    ·exact h'
    ·rw [Array.getElem?_eq_none h'] at g
     cases g
   have:i∈unl listed ops.size:=Zgn.2 ⟨his,f⟩
   rw [hu] at this;cases this
 | succ fuel ih=>
  intro listed a w m hsz p hlen hcl h
  refine ⟨fun hr=>by rw [hfirst listed hsz hr] at h;exact hend m a w h,fun j hj=>?_⟩
  obtain ⟨hjun,oj,hoj,hall⟩:=mem_ready.1 hj
  have hjs:j<ops.size:=by
   rcases Nat.lt_or_ge j ops.size with h'|h'
   ·exact h'
   ·rw [Array.getElem?_eq_none h'] at hoj;cases hoj
  have hdeps:∀ k∈deps oj,listed.getD k false=true:=by
   intro k hk
   obtain ⟨e,he,rfl⟩:=List.mem_map.1 hk
   obtain ⟨s,t⟩:=List.mem_filter.1 he
   exact hall e (by simpa using s) t
  have hanc:∀ i,i∈A.getD j []→listed.getD i false=true:=by
   subst hAA;exact Zxf p hA (j+1) j oj (by omega) hoj hdeps
  have hunl:∀ i,i<ops.size→listed.getD i true=false→i∉A.getD j []:=by
   intro i his hiu hi
   have:=hanc i hi
   have his:i<listed.size:=by omega
   simp only [Array.getD_eq_getD_getElem?,Array.getElem?_eq_getElem his,Option.getD_some] at this hiu
   rw [hiu] at this;cases this
  have hsz':(listed.setIfInBounds j true).size=ops.size:=by simpa using hsz
  have hc':Closed ops (listed.setIfInBounds j true):=by
   intro x o c hl k hk
   rw [ZmT (by omega)] at hl ⊢
   by_cases hkj:k=j
   ·simp [hkj]
   ·rw [if_neg hkj]
    by_cases hxj:x=j
    ·subst hxj;rw [hoj] at c;cases c;exact hdeps k hk
    ·rw [if_neg hxj] at hl;exact p x o c hl k hk
  have hrest:unl (listed.setIfInBounds j true) ops.size=(unl listed ops.size).filter fun i=>!Nat.beq i j:=by
   unfold unl
   rw [List.filter_filter]
   refine List.filter_congr fun i _=>?_
   rw [ZmT (by omega)]
   by_cases hij:i=j
   ·subst hij;simp
   ·simp [hij,ZbV hij]
  have hjm:j∈unl listed ops.size:=Zgn.2 ⟨hjs,hjun⟩
  have hlen':(unl (listed.setIfInBounds j true) ops.size).length≤fuel:=by
   rw [hrest]
   have:((unl listed ops.size).filter fun i=>!Nat.beq i j).length<(unl listed ops.size).length:=by
    rw [List.length_filter_lt_length_iff_exists]
    exact ⟨j,hjm,by simp⟩
   omega
  have hcl':∀ w',(¬ kLate (kd j)=true→((∃ i,i<ops.size∧listed.getD i true=false∧(kRead (kd i)=true∨kEarly (kd i)=true))→Cl w')) →
    (∃ i,i<ops.size∧(listed.setIfInBounds j true).getD i true=false∧(kRead (kd i)=true∨kEarly (kd i)=true))→Cl w':=by
   rintro w' hw' ⟨i,his,hiu,hk⟩
   rw [ZmT (by omega)] at hiu
   have hij:i≠j:=fun e=>by rw [if_pos e] at hiu;cases hiu
   rw [if_neg hij] at hiu
   by_cases hl:kLate (kd j)=true
   ·obtain ⟨oi,hoi⟩:=hsome i his
    exact absurd (hL.late i j oi oj hoi hoj hl hk) (hunl i his hiu)
   ·exact hw' hl ⟨i,his,hiu,hk⟩
  have hall_so:∀ i∈unl listed ops.size,∃ o,ops[i]?=some o:=fun i hi=>hsome i (Zgn.1 hi).1
  have hpw:(unl listed ops.size).Pairwise (·<·):=List.Pairwise.sublist List.filter_sublist List.pairwise_lt_range
  have hnot:∀ i∈unl listed ops.size,i∉A.getD j []:=fun i hi=>hunl i (Zgn.1 hi).1 (Zgn.1 hi).2
  unfold wpOp
  rw [hoj]
  simp only
  by_cases hke:(kd j).eff=true
  ·-- an effect: it is among those that may come next
   have hjmin:j∈minEff A kd (unl listed ops.size):=by
    refine List.mem_filter.2 ⟨List.mem_filter.2 ⟨hjm,hke⟩,?_⟩
    cases hh:(effs kd (unl listed ops.size)).any fun i=>hasN (A.getD j []) i with
    | false=>rfl
    | true=>
     obtain ⟨i,hi,hia⟩:=List.any_eq_true.1 hh
     exact absurd (ZbA.1 hia) (hnot i (List.mem_filter.1 hi).1)
   have hseg:seg A j (unl listed ops.size)=[j]:=by
    have f:seg A j (unl listed ops.size)=(unl listed ops.size).filter fun i=>Nat.beq i j:=by
     unfold seg
     refine List.filter_congr fun i hi=>?_
     have:hasN (A.getD j []) i=false:=by
      cases hh:hasN (A.getD j []) i with
      | false=>rfl
      | true=>exact absurd (ZbA.1 hh) (hnot i hi)
     rw [this,Bool.or_false]
    rw [f]
    have hone:∀ l:List Nat,l.Pairwise (·<·)→j∈l→l.filter (fun i=>Nat.beq i j)=[j]:=by
     intro l
     induction l with
     | nil=>intro _ h;cases h
     | cons x l ihl=>
      intro hp hm
      obtain ⟨y,q2⟩:=List.pairwise_cons.1 hp
      by_cases c:x=j
      ·subst c
       rw [List.filter_cons,if_pos (by simp)]
       rw [List.filter_eq_nil_iff.2 fun i hi=>by rw [ZbV (by have:=y i hi;omega)];simp]
      ·rw [List.filter_cons,ZbV c]
       cases hm with
       | head=>exact absurd rfl c
       | tail _ hm=>simpa using ihl q2 hm
    exact hone _ hpw hjm
   have hrst:rst A j (unl listed ops.size)=unl (listed.setIfInBounds j true) ops.size:=by
    rw [hrest]
    unfold rst
    refine List.filter_congr fun i hi=>?_
    have:hasN (A.getD j []) i=false:=by
     cases hh:hasN (A.getD j []) i with
     | false=>rfl
     | true=>exact absurd (ZbA.1 hh) (hnot i hi)
    rw [this,Bool.or_false]
   cases m with
   | zero=>rw [h.1] at hjmin;cases hjmin
   | succ m=>
    have b:=h.2 j hjmin
    rw [hseg,hrst] at b
    split
    ·rename_i hw
     refine .inl (ZrW ?_)
     have b:=(Zda hoj hw hke).1 b
     refine Oper.wp_mono ?_ b
     intro a' w' u
     refine ih _ a' w' m hsz' hc' hlen' (hcl' w' fun hl hex=>?_) u.2
     have f:=u.1
     cases hkj:kd j with
     | early=>rw [hkj] at f;exact f
     | late=>rw [hkj] at hl;exact absurd rfl hl
     | pure=>rw [hkj] at hke;cases hke
     | read=>rw [hkj] at hke;cases hke
     | fix=>rw [hkj] at hke;cases hke
    ·rename_i hw
     have b:=(ZcP hoj (by simpa using hw)).1 b
     exact ih _ _ w m hsz' hc' hlen' (hcl' w fun _ hex=>hcl hex) b
  ·have hke:(kd j).eff=false:=by simpa using hke
   have hclj:(kRead (kd j)=true→Cl w):=fun hrd=>hcl ⟨j,hjs,hjun,.inl hrd⟩
   have hcw:cls Cl (kd j) w w:=by
    cases hkj:kd j with
    | pure=>trivial
    | read=>exact hclj (by rw [hkj];rfl)
    | fix=>rfl
    | early=>rw [hkj] at hke;cases hke
    | late=>rw [hkj] at hke;cases hke
   obtain ⟨v,hv,hr⟩:=Zw4 hL hns hoj hke m _ a w hall_so hpw hjm hnot hclj h
   rw [←hrest] at hr
   have fin:=ih _ (a.put oj.dst v) w m hsz' hc' hlen' (hcl' w fun _ hex=>hcl hex) hr
   rcases hv with ⟨hw,hst⟩|⟨hw,rfl⟩
   ·rw [if_pos hw]
    refine .inl ?_
    unfold Oper.wp
    rw [hst w hcw]
    exact fin
   ·rw [if_neg (by simp [hw])]
    exact fin
theorem ZwQ {id:Nat} {Q:Exit→Act→World→Prop} {a:Act} {w:World} (hm:P.follows .mixedOrders=true) (hok:lexOk ops kd=true)
  (hcl:Cl { w with drawn:=w.drawn+1 })
  (h:lexO P ops kd Cl (mkA ops.toList) ops.size (List.range ops.size) (fun a w=>Q .normal a w) a { w with drawn:=w.drawn+1 }):(Code.region id ops true).wp P Q a w:=by
 refine wp_region_any hm ?_
 simp only [lexOk,Bool.and_eq_true] at hok
 obtain ⟨⟨⟨hns,hA⟩,hT⟩,hP⟩:=hok
 have hu:unl (Array.replicate ops.size false) ops.size=List.range ops.size:=by
  unfold unl
  rw [List.filter_eq_self]
  intro i hi
  rw [List.mem_range] at hi
  simp [Array.getD_eq_getD_getElem?,hi]
 refine Zyv hns hA rfl (looked hA hT hP) ops.size _ a _ ops.size (by simp) ?_ ?_ (fun _=>hcl) (by rw [hu];exact h)
 ·intro j o hj hl
  have:j<ops.size:=by
   rcases Nat.lt_or_ge j ops.size with h'|h'
   ·exact h'
   ·rw [Array.getElem?_eq_none h'] at hj;cases hj
  simp [Array.getD_eq_getD_getElem?,this] at hl
 ·rw [hu];simp
end
end Go.Vc
