import Derived.Test.YtcneolcmjjlmnaaGreatDoorPuBase
import Derived.Still
open List renaming mem_cons_self->JA,all_eq_true->JZ,range->Xi,mem_zipIdx_iff_getElem?->XM,filter_cons->YE,mem_append_left->J1,filter_filter->XN,filter_congr->X3,filter_eq_self->Wd,filter_sublist->YF
open Nat renaming beq->Jv,eq_of_beq_eq_true->JK
open Bool renaming and_eq_true->Jz,or_eq_true->X1,or_false->We,true->Ji,false->Jj
open Array renaming getD_eq_getD_getElem?->X2
open Option renaming some->Jg
open Go renaming Value->Jl
namespace Go.Vc
set_option linter.unusedVariables false
set_option linter.unusedSimpArgs false
open Go
inductive Kind where
 | pure|read|fix|early|late
def Kind.eff:Kind->Bool
 | .early|.late=>Ji
 | _=>Jj
def kRead:Kind->Bool|.read=>Ji|_=>Jj
def kFix:Kind->Bool|.fix=>Ji|_=>Jj
def kLate:Kind->Bool|.late=>Ji|_=>Jj
def kEarly:Kind->Bool|.early=>Ji|_=>Jj
def Bot:Exit->Act->World->Prop:=λ_ _ _=>False
section
variable (P:Program) (ops:Array Oper) (kd:Nat->Kind) (Cl:World->Prop)
def cls (k:Kind) (w w':World):Prop:=
 match k with
 | .pure=>True
 | .read=>Cl w'
 | .fix=>w'=w
 | _=>False
def St (k:Kind) (o:Oper) (a:Act) (w:World) (v:Jl):Prop:=
 ∀w',cls Cl k w w'->(execOp a.eval o).run P w'=.ok (.value v) w'
def lexP:List Nat->(Act->World->Prop)->Act->World->Prop
 | [],Q,a,w=>Q a w
 | i::r,Q,a,w=>match ops[i]? with
  | none=>lexP r Q a w
  | some o=>
   if Region.wanted o (yielded ops a.tmps) then
    match kd i with
    | .early=>o.wp P a w (λe w'=>Cl w'/\lexP r Q e w') Bot
    | .late=>o.wp P a w (λe w'=>lexP r Q e w') Bot
    | k=>∃v,St P Cl k o a w v/\lexP r Q (a.put o.dst v) w
   else lexP r Q (a.put o.dst undef) w
def effN (k:Kind) (N:Act->World->Prop):Act->World->Prop:=λa w=>(match k with|.early=>Cl w|_=>True)/\N a w
end
section
variable {P:Program} {ops:Array Oper} {kd:Nat->Kind} {Cl:World->Prop}
theorem Zdz {i:Nat} {r:List Nat} {Q:Act->World->Prop} {a:Act} {w:World} {o:Oper} (g:ops[i]?=Jg o)
  (j:Region.wanted o (yielded ops a.tmps)=Ji) (e:(kd i).eff=Ji):
  lexP P ops kd Cl (i::r) Q a w↔o.wp P a w (effN Cl (kd i) (lexP P ops kd Cl r Q)) Bot:=by
 unfold lexP;simp only [g,j,if_true];cases h:kd i<;>simp [h,Kind.eff] at e
 .constructor
  .exact Oper.wp_mono λa w h=>⟨h.1,h.2⟩
  .exact Oper.wp_mono λa w h=>⟨h.1,h.2⟩
 .constructor
  .exact Oper.wp_mono λa w h=>⟨trivial,h⟩
  .exact Oper.wp_mono λa w h=>h.2
theorem ZeJ {i:Nat} {r:List Nat} {Q:Act->World->Prop} {a:Act} {w:World} {o:Oper} (g:ops[i]?=Jg o)
  (j:Region.wanted o (yielded ops a.tmps)=Ji) (e:(kd i).eff=Jj):
  lexP P ops kd Cl (i::r) Q a w↔∃v,St P Cl (kd i) o a w v/\lexP P ops kd Cl r Q (a.put o.dst v) w:=by
 conv=>lhs;unfold lexP
 simp only [g,j,if_true];cases h:kd i<;>simp [h,Kind.eff] at e<;>exact Iff.rfl
theorem Zes {i:Nat} {r:List Nat} {Q:Act->World->Prop} {a:Act} {w:World} {o:Oper} (e:ops[i]?=Jg o)
  (g:Region.wanted o (yielded ops a.tmps)=Jj):
  lexP P ops kd Cl (i::r) Q a w↔lexP P ops kd Cl r Q (a.put o.dst undef) w:=by
 conv=>lhs;unfold lexP
 simp only [e,g];exact Iff.rfl
theorem ZGH {o:Oper} {a:Act} {w:World} {N:Act->World->Prop} (h:o.wp P a w N Bot):∃k w',N k w':=by
 unfold Oper.wp at h;generalize (execOp a.eval o).run P w=r at h;cases r with
 | ok n w'=>
  cases n<;>simp only [Oper.upon] at h
  case value v=>exact ⟨_,_,h⟩
  case skip=>exact ⟨_,_,h⟩
  case defer d=>exact ⟨_,_,h⟩
  case enter f args=>
   obtain ⟨e,w2,l,g,_⟩:=h [];cases e with
   | returned v=>exact ⟨_,_,g⟩
   | panicked c=>exact g.elim
   | outgrown=>obtain ⟨_,_,j⟩:=g;exact j.elim
  case row row args=>
   obtain ⟨v,w2,g,_⟩:=h default [];exact ⟨_,_,g⟩
 | halt x w'=>cases x<;>simp only [Oper.upon,Bot] at h
def Out (o:Oper) (a g:Act):Prop:=∃v e,g={ a with defers:=e }.put o.dst v
theorem ZCi {o:Oper} {a:Act} {w:World} {N:Act->World->Prop} (h:o.wp P a w N Bot):
  o.wp P a w (λg w'=>Out o a g/\N g w') Bot:=by
 unfold Oper.wp at *;generalize (execOp a.eval o).run P w=r at *;have same:∀v,Out o a (a.put o.dst v):=λv=>⟨v,a.defers,rfl⟩
 cases r with
 | ok n w'=>
  cases n<;>simp only [Oper.upon] at h ⊢
  case value v=>exact ⟨same v,h⟩
  case skip=>exact ⟨same _,h⟩
  case defer d=>exact ⟨⟨_,_,rfl⟩,h⟩
  case enter f args=>
   exact Calls.mono h λe w2 j=>by
    grind
  grind
 | halt x w'=>cases x<;>simp only [Oper.upon,Bot] at h
theorem ZHD {k l:Oper} {a:Act} {w:World} {u:Jl} {N N':Act->World->Prop} (a4:k.apart ops l=Ji)
  (hs:∀cs b,k.op≠.select cs b) (h:k.wp P a w N Bot) (hN:∀a1 w1,Out k a a1->N a1 w1->N' (a1.put l.dst u) w1):
  k.wp P (a.put l.dst u) w N' Bot:=by
 obtain ⟨h1,i,j⟩:=Oper.apart_spec a4;have h:=ZCi h;unfold Oper.wp at *;rw [execOp_put k hs a l.dst u j];generalize (execOp a.eval k).run P w=r at *;have g:∀v,(a.put l.dst u).put k.dst v=(a.put k.dst v).put l.dst u:=λv=>(Act.put_comm a v u i).symm;cases r with
 | ok n w'=>
  cases n<;>simp only [Oper.upon] at h ⊢
  case value v=>rw [g];exact hN _ _ h.1 h.2
  case skip=>rw [g];exact hN _ _ h.1 h.2
  case defer d=>
   have:=hN _ _ h.1 h.2;rw [Act.put_defers,<-Act.put_comm _ undef u i];exact this
  case enter f args=>
   exact Calls.mono h λe w2 o=>by
    cases e with
    | returned v=>show N' _ _;rw [g];exact hN _ _ o.1 o.2
    | panicked c=>exact o
    | outgrown=>obtain ⟨_,_,hf⟩:=o;exact hf.elim
  grind [Rows.mono]
 | halt x w'=>cases x<;>simp only [Oper.upon,Bot] at h
theorem ZBG {P:Program} {o:Oper} {a:Act} {w:World} {N:Act->World->Prop} {Q:Exit->Act->World->Prop} (h:o.wp P a w N Bot):o.wp P a w N Q:=by
 unfold Oper.wp at h ⊢;generalize (execOp a.eval o).run P w=r at h ⊢;cases r with
 | ok n w'=>
  cases n<;>simp only [Oper.upon] at h ⊢
  case value v=>exact h
  case skip=>exact h
  case defer d=>exact h
  case enter f args=>
   exact Calls.mono h λe w2 g=>by
    cases e with
    | returned v=>exact g
    | panicked c=>exact g.elim
    | outgrown=>obtain ⟨_,_,j⟩:=g;exact j.elim
  omega
 | halt x w'=>cases x<;>simp only [Oper.upon,Bot] at h
def Jf (P:Program) (ops:Array Oper) (Cl:World->Prop) (k:Kind) (o:Oper) (a:Act) (w:World) (v:Jl):Prop:=
 (Region.wanted o (yielded ops a.tmps)=Ji/\St P Cl k o a w v)\/(Region.wanted o (yielded ops a.tmps)=Jj/\v=undef)
theorem ZFu {k:Kind} {o g:Oper} {a:Act} {w:World} {v u:Jl} (hs:∀cs b,o.op≠.select cs b) (e:∀d,g.dst=Jg d->d∉o.looksAt ops):
  St P Cl k o (a.put g.dst u) w v↔St P Cl k o a w v:=by
 unfold St;rw [execOp_put o hs a g.dst u e]
theorem ZOk {a:Act} {e:List Deferred}:({ a with defers:=e }:Act).eval=a.eval:=by
 rfl
theorem ZJM {k:Kind} {o h:Oper} {a g:Act} {w:World} {v:Jl} (hs:∀cs b,o.op≠.select cs b) (e:∀d,h.dst=Jg d->d∉o.looksAt ops)
  (j:Out h a g):St P Cl k o g w v↔St P Cl k o a w v:=by
 obtain ⟨u,l,rfl⟩:=j;rw [ZFu hs e];unfold St;rw [ZOk]
theorem ZJQ {o g:Oper} {a h:Act} (e:∀d,g.dst=Jg d->d∉o.looksAt ops) (j:Out g a h):
  Region.wanted o (yielded ops h.tmps)=Region.wanted o (yielded ops a.tmps):=by
 obtain ⟨u,k,rfl⟩:=j;rw [wanted_put o _ g.dst u e]
theorem Y_out {k:Kind} {o j:Oper} {a h:Act} {w:World} {v:Jl} (hs:∀cs b,o.op≠.select cs b) (e:∀d,j.dst=Jg d->d∉o.looksAt ops)
  (g:Out j a h):Jf P ops Cl k o h w v↔Jf P ops Cl k o a w v:=by
 unfold Jf;rw [ZJM hs e g,ZJQ e g]
theorem ZFw {k:Kind} {o:Oper} {a:Act} {w w1:World} {v:Jl} (j:kFix k=Jj) (h:Jf P ops Cl k o a w v):Jf P ops Cl k o a w1 v:=by
 have e:∀w',cls Cl k w1 w'->cls Cl k w w':=by
  intro w' h;cases k<;>first|exact h|cases j
 rcases h with ⟨h1,f⟩|h
 .exact .inl ⟨h1,λw' g=>f w' (e w' g)⟩
 .exact .inr h
theorem ZBZ {k:Kind} {o:Oper} {a:Act} {v u:Jl} {w w0 w1:World} (i:cls Cl k w0 w) (h1:cls Cl k w1 w)
  (h:Jf P ops Cl k o a w0 v) (x:Jf P ops Cl k o a w1 u):v=u:=by
 rcases h with ⟨g,j⟩|⟨g,rfl⟩<;>rcases x with ⟨f,l⟩|⟨f,rfl⟩
 .have e:=(j w i).symm.trans (l w h1);simpa using e
 .rw [g] at f;cases f
 .rw [g] at f;cases f
 .rfl
theorem ZoA {i:Nat} {r:List Nat} {Q:Act->World->Prop} {a:Act} {w:World} {o:Oper} (g:ops[i]?=Jg o) (j:(kd i).eff=Jj):
  lexP P ops kd Cl (i::r) Q a w↔∃v,Jf P ops Cl (kd i) o a w v/\lexP P ops kd Cl r Q (a.put o.dst v) w:=by
 cases hw:Region.wanted o (yielded ops a.tmps)
 .rw [Zes g hw];constructor
  .exact λh=>⟨undef,.inr ⟨hw,rfl⟩,h⟩
  .rintro ⟨v,⟨h1,_⟩|⟨_,rfl⟩,h⟩
   .rw [hw] at h1;cases h1
   .exact h
 .rw [ZeJ g hw j];constructor
  .rintro ⟨v,h1,e⟩;exact ⟨v,.inl ⟨hw,h1⟩,e⟩
  .rintro ⟨v,⟨_,h1⟩|⟨h1,_⟩,h⟩
   .exact ⟨v,h1,h⟩
   .rw [hw] at h1;cases h1
theorem ZxD (l r:List Nat) {Q:Act->World->Prop}:∀(a:Act) (w:World),lexP P ops kd Cl (l++r) Q a w↔lexP P ops kd Cl l (lexP P ops kd Cl r Q) a w:=by
 induction l with
 | nil=>intro a w;exact Iff.rfl
 | cons i l j=>
  intro a w;have e:∀(k:Kind) ,(λg w'=>effN Cl k (lexP P ops kd Cl (l++r) Q) g w')=effN Cl k (lexP P ops kd Cl l (lexP P ops kd Cl r Q)):=by
   grind [effN]
  rw [List.cons_append];cases ho:ops[i]? with
  | none=>
   grind [lexP]
  | some o=>
   cases hw:Region.wanted o (yielded ops a.tmps)
   .simp_all [Zes]
   .by_cases h:(kd i).eff=Ji
    .simp_all [Zdz]
    .grind [ZeJ]
theorem ZuX {Q g:Act->World->Prop} (e:∀a w,Q a w->g a w):∀(l:List Nat) (a:Act) (w:World),lexP P ops kd Cl l Q a w->lexP P ops kd Cl l g a w:=by
 intro l;induction l with
 | nil=>intro a w h;exact e _ _ h
 | cons i l k=>
  intro a w h;cases ho:ops[i]? with
  | none=>
   grind [lexP]
  | some o=>
   cases hw:Region.wanted o (yielded ops a.tmps)
   .simp_all [Zes]
   .by_cases j:(kd i).eff=Ji
    .rw [Zdz ho hw j] at h ⊢;exact Oper.wp_mono (λu w' h=>⟨h.1,k _ _ h.2⟩) h
    .grind [ZeJ]
theorem ZzP {j:Nat} {oj:Oper} (hj:ops[j]?=Jg oj) (hs:Region.noSelect ops=Ji) (hk:(kd j).eff=Jj) {K:Act->World->Prop}:
  ∀(pre:List Nat) (a:Act) (w:World),
   (∀i∈pre,∃oi,ops[i]?=Jg oi/\oi.apart ops oj=Ji/\(kLate (kd i)=Ji->kRead (kd j)=Jj)/\((kd i).eff=Ji->kFix (kd j)=Jj)) ->
   (kRead (kd j)=Ji->Cl w) ->
   lexP P ops kd Cl pre (λa w=>(kRead (kd j)=Ji->Cl w)->∃v,Jf P ops Cl (kd j) oj a w v/\K (a.put oj.dst v) w) a w ->
   ∃v,Jf P ops Cl (kd j) oj a w v/\lexP P ops kd Cl pre K (a.put oj.dst v) w:=by
 have sj:∀cs b,oj.op≠.select cs b:=λcs b=>Region.noSelect_spec hs j oj cs b hj;intro pre;induction pre with
 | nil=>intro a w _ f h;exact h f
 | cons i pre ih=>
  intro a w hp f h;obtain ⟨oi,hi,ad,a5,ah⟩:=hp i (JA ..);have a6:=λx o=>hp x (List.mem_cons_of_mem _ o);obtain ⟨h1,y,r⟩:=Oper.apart_spec ad;have si:∀cs b,oi.op≠.select cs b:=λcs b=>Region.noSelect_spec hs i oi cs b hi;by_cases a2:(kd i).eff=Jj
  .obtain ⟨u,hu,hr⟩:=(ZoA hi a2).1 h;obtain ⟨v,e,hr⟩:=ih _ w a6 f hr;have ho:Out oi a (a.put oi.dst u):=⟨u,a.defers,rfl⟩
   rw [Y_out sj h1 ho] at e;refine ⟨v,e,(ZoA hi a2).2 ⟨u,?_,?_⟩⟩
   .exact (Y_out si r ⟨v,a.defers,rfl⟩).2 hu
   .grind [Act.put_comm]
  .have a2:(kd i).eff=true:=by simpa using a2
   cases hw:Region.wanted oi (yielded ops a.tmps)
   .have h:=(Zes hi hw).1 h;obtain ⟨v,e,hr⟩:=ih _ w a6 f h;have ho:Out oi a (a.put oi.dst undef):=⟨undef,a.defers,rfl⟩
    rw [Y_out sj h1 ho] at e;refine ⟨v,e,(Zes hi ?_).2 ?_⟩
    .grind [wanted_put]
    .grind [Act.put_comm,undef]
   .have h:=(Zdz hi hw a2).1 h;have a8:=ah a2;have ae:∀(N:Act->World->Prop) a1 w1,effN Cl (kd i) N a1 w1->(kRead (kd j)=Ji->Cl w1):=by
     intro N a1 w1 hh aj;cases hki:kd i with
     | early=>have:=hh.1;rw [hki] at this;exact this
     | late=>rw [hki,aj] at a5;exact absurd (a5 rfl) (by simp)
     | pure=>rw [hki] at a2;cases a2
     | read=>rw [hki] at a2;cases a2
     | fix=>rw [hki] at a2;cases a2
    have af:∀w0,cls Cl (kd j) w0 w:=by
     intro w0;cases hkj:kd j with
     | pure=>trivial
     | read=>exact f (by rw [hkj];rfl)
     | fix=>rw [hkj] at a8;cases a8
     | early=>rw [hkj] at hk;cases hk
     | late=>rw [hkj] at hk;cases hk
    obtain ⟨a1,w1,ho,k⟩:=ZGH (ZCi h);obtain ⟨v,e,_⟩:=ih a1 w1 a6 (ae _ _ _ k) k.2;rw [Y_out sj h1 ho] at e;have e:=ZFw (w1:=w) a8 e;refine ⟨v,e,(Zdz hi ?_ a2).2 ?_⟩
    .grind [wanted_put]
    .refine ZHD ad si h ?_;intro s w2 l g;obtain ⟨v',ac,ai⟩:=ih s w2 a6 (ae _ _ _ g) g.2;rw [Y_out sj h1 l] at ac;obtain rfl:=ZBZ (af w) (af w2) e ac;exact ⟨g.1,ai⟩
end
def deps (o:Oper):List Nat:=(o.after.toList.filter λe=>Region.binds .any e).map (·.on)
def mkA (ops:List Oper):List (List Nat):=
 ops.foldl (λe o=>e++[((deps o).flatMap λk=>k::e.getD k []).eraseDups]) []
def okA (ops:List Oper) (A:List (List Nat)):Bool:=
 ops.zipIdx.all λ(o,j)=>(deps o).all (λk=>Nat.blt k j)&&(A.getD j []).all λi=>(deps o).any λk=>Jv k i||(A.getD k []).any (λx=>Jv x i)
def hasN (l:List Nat) (i:Nat):Bool:=l.any λx=>Jv x i
def closedA (ops:List Oper) (A:List (List Nat)):Bool:=
 ops.zipIdx.all λ(o,j)=>(deps o).all λk=>hasN (A.getD j []) k&&(A.getD k []).all λi=>hasN (A.getD j []) i
def pairsOk (ops:Array Oper) (l:List Oper) (A:List (List Nat)) (kd:Nat->Kind):Bool:=
 l.zipIdx.all λ(g,j)=>l.zipIdx.all λ(e,i)=>
  (Jv i j||hasN (A.getD j []) i||hasN (A.getD i []) j||(e.apart ops g&&!((kd i).eff&&kFix (kd j))&&!(kFix (kd i)&&(kd j).eff))) &&
  (!(kLate (kd j)&&(kRead (kd i)||kEarly (kd i)))||hasN (A.getD j []) i)
def effs (kd:Nat->Kind) (l:List Nat):List Nat:=l.filter λi=>(kd i).eff
def minEff (A:List (List Nat)) (kd:Nat->Kind) (e:List Nat):List Nat:=(effs kd e).filter λj=>!((effs kd e).any λi=>hasN (A.getD j []) i)
def seg (A:List (List Nat)) (j:Nat) (e:List Nat):List Nat:=e.filter λi=>Jv i j||hasN (A.getD j []) i
def rst (A:List (List Nat)) (j:Nat) (e:List Nat):List Nat:=e.filter λi=>!(Jv i j||hasN (A.getD j []) i)
def lexOk (ops:Array Oper) (kd:Nat->Kind):Bool:=
 Region.noSelect ops&&okA ops.toList (mkA ops.toList)&&closedA ops.toList (mkA ops.toList)&&pairsOk ops ops.toList (mkA ops.toList) kd
def lexO (P:Program) (ops:Array Oper) (kd:Nat->Kind) (Cl:World->Prop) (A:List (List Nat)):Nat->List Nat->(Act->World->Prop)->Act->World->Prop
 | 0,rem,Q,a,w=>minEff A kd rem=[]/\lexP P ops kd Cl rem Q a w
 | n+1,rem,Q,a,w=>
  (minEff A kd rem=[]->lexP P ops kd Cl rem Q a w) /\
  ∀j∈minEff A kd rem,lexP P ops kd Cl (seg A j rem) (λa w=>lexO P ops kd Cl A n (rst A j rem) Q a w) a w
theorem ZbO {l:List Nat} {i:Nat}:hasN l i=Ji↔i∈l:=by
 unfold hasN;simp
theorem ZbZ {a b:Nat} (h:a≠b):Jv a b=false:=by
 grind [absurd,JK]
section
variable {P:Program} {ops:Array Oper} {kd:Nat->Kind} {Cl:World->Prop}
def Closed (ops:Array Oper) (e:Array Bool):Prop:=
 ∀(j:Nat) (o:Oper),ops[j]?=Jg o->e.getD j Jj=Ji->∀k∈deps o,e.getD k Jj=Ji
theorem ZJW {g:Array Bool} (a:Closed ops g) (u:okA ops.toList (mkA ops.toList)=Ji):
  ∀(n j:Nat) (o:Oper),j<n->ops[j]?=Jg o->(∀k∈deps o,g.getD k Jj=Ji)->∀i∈(mkA ops.toList).getD j [],g.getD i Jj=true:=by
 intro n;induction n with
 | zero=>intro j o h;omega
 | succ n ih=>
  intro j o a7 ho e i hi;unfold okA at u;rw [JZ] at u;have hm:(o,j)∈ops.toList.zipIdx:=by
   grind
  have h:=u _ hm;simp only [Jz,JZ,List.any_eq_true,X1] at h;obtain ⟨a2,h⟩:=h;obtain ⟨k,w,h⟩:=h i hi;have a6:k<j:=by have:=a2 k w;exact Nat.blt_eq.mp this
  rcases h with h|⟨x,f,h⟩
  .simp_all
  .have:=JK h;subst this;have a5:j<ops.size:=by
    grind
   have l:k<ops.size:=Z;exact ih k ops[k] Z (by simp [l]) (a k ops[k] (by simp [l]) (e k w)) x f
theorem Zsp {l:Array Bool} {i j:Nat} {d:Bool} (hi:i<l.size):(l.setIfInBounds i Ji).getD j d=if j=i then Ji else l.getD j d:=by
 simp only [X2];grind
def unl (e:Array Bool) (n:Nat):List Nat:=(Xi n).filter λi=>e.getD i Ji==Jj
theorem ZeF {e:Array Bool} {n i:Nat}:i∈unl e n↔i<n/\e.getD i Ji=false:=by
 simp [unl]
structure Looked (ops:Array Oper) (kd:Nat->Kind) (A:List (List Nat)):Prop where
 lt:∀i j oj,ops[j]?=Jg oj->i∈A.getD j []->i<j
 trans:∀i j k oj,ops[j]?=Jg oj->i∈A.getD j []->k∈A.getD i []->k∈A.getD j []
 pair:∀i j oi oj,ops[i]?=Jg oi->ops[j]?=Jg oj->i≠j->i∉A.getD j []->j∉A.getD i [] ->
   oi.apart ops oj=Ji/\((kd i).eff=Ji->kFix (kd j)=Jj)
 late:∀i j oi oj,ops[i]?=Jg oi->ops[j]?=Jg oj->kLate (kd j)=Ji->(kRead (kd i)=Ji\/kEarly (kd i)=Ji)->i∈A.getD j []
theorem looked (hA:okA ops.toList (mkA ops.toList)=Ji) (hT:closedA ops.toList (mkA ops.toList)=Ji) (hP:pairsOk ops ops.toList (mkA ops.toList) kd=Ji):Looked ops kd (mkA ops.toList):=by
 have af:∀{j:Nat} {o:Oper},ops[j]?=Jg o->j<ops.size:=λ{j o} h=>by
  grind
 have ad:∀(j:Nat) (u:Oper),ops[j]?=Jg u->(∀k∈deps u,k<j)/\∀i∈(mkA ops.toList).getD j [],∃k∈deps u,k=i\/i∈(mkA ops.toList).getD k []:=by
  intro j u w;unfold okA at hA;rw [JZ] at hA;have x:(u,j)∈ops.toList.zipIdx:=by rw [XM];simpa using w
  have h:=hA _ x;simp_all
 have a8:∀(n j:Nat) (u:Oper),j<n->ops[j]?=Jg u->∀i∈(mkA ops.toList).getD j [],i<j:=by
  intro n;induction n with
  | zero=>intro j u h;omega
  | succ n ih=>
   grind
 have ae:∀(j:Nat) (u:Oper),ops[j]?=Jg u->∀k∈deps u,k∈(mkA ops.toList).getD j []/\∀i∈(mkA ops.toList).getD k [],i∈(mkA ops.toList).getD j []:=by
  intro j u w k hk;unfold closedA at hT;rw [JZ] at hT;have x:(u,j)∈ops.toList.zipIdx:=by rw [XM];simpa using w
  have h:=hT _ x;simp only [Jz,JZ] at h;grind [ZbO]
 refine ⟨λi j u w hi=>a8 (j+1) j u Z w i hi,?_,?_,?_⟩
 .have:∀(n i j k:Nat) (u:Oper),j<n->ops[j]?=Jg u->i∈(mkA ops.toList).getD j []->k∈(mkA ops.toList).getD i []->k∈(mkA ops.toList).getD j []:=by
   intro n;induction n with
   | zero=>intro i j k u h;omega
   | succ n ih=>
    grind
  exact λi j k u w hi hk=>this (j+1) i j k u Z w hi hk
 .intro i j oi u hi w aa h1 g;unfold pairsOk at hP;rw [JZ] at hP;have x:(u,j)∈ops.toList.zipIdx:=by rw [XM];simpa using w
  have a3:(oi,i)∈ops.toList.zipIdx:=by rw [XM];simpa using hi
  have a:=hP _ x;rw [JZ] at a;have e:=a _ a3;have n1:hasN ((mkA ops.toList).getD j []) i=false:=by
   cases hh:hasN ((mkA ops.toList).getD j []) i with
   | false=>rfl
   | true=>exact absurd (ZbO.1 hh) h1
  have n2:hasN ((mkA ops.toList).getD i []) j=false:=by
   cases hh:hasN ((mkA ops.toList).getD i []) j with
   | false=>rfl
   | true=>exact absurd (ZbO.1 hh) g
  simp only [ZbZ aa,n1,n2,Bool.false_or,Jz,Bool.not_eq_true',Bool.and_eq_false_iff] at e;obtain ⟨⟨⟨l,f⟩,r⟩,_⟩:=e;exact ⟨l,λhe=>by rcases f with f|f<;>simp_all⟩
 .intro i j oi u hi w hl hk;unfold pairsOk at hP;rw [JZ] at hP;have x:(u,j)∈ops.toList.zipIdx:=by rw [XM];simpa using w
  have a3:(oi,i)∈ops.toList.zipIdx:=by rw [XM];simpa using hi
  have a:=hP _ x;rw [JZ] at a;have e:=(Jz _ _▸a _ a3).2;have a9:(kRead (kd i)||kEarly (kd i))=true:=by simpa using hk
  rw [hl,a9] at e;exact ZbO.1 (by simpa using e)
theorem ZMd {A:List (List Nat)} (hL:Looked ops kd A) (aw:Region.noSelect ops=Ji) {j:Nat} {oj:Oper} (ac:ops[j]?=Jg oj) (a8:(kd j).eff=Jj) {Q:Act->World->Prop}:
  ∀(n:Nat) (a2:List Nat) (a:Act) (w:World),(∀i∈a2,∃o,ops[i]?=Jg o)->a2.Pairwise (·<·)->j∈a2->(∀i∈a2,i∉A.getD j [])->(kRead (kd j)=Ji->Cl w) ->
   lexO P ops kd Cl A n a2 Q a w->∃v,Jf P ops Cl (kd j) oj a w v/\lexO P ops kd Cl A n (a2.filter λi=>!Nat.beq i j) Q (a.put oj.dst v) w:=by
 -- out of a list in the order of the text
 have af:∀(l:List Nat) (K:Act->World->Prop) (a:Act) (w:World),(∀i∈l,∃o,ops[i]?=Jg o)->l.Pairwise (·<·)->j∈l->(∀i∈l,i∉A.getD j [])->(kRead (kd j)=Ji->Cl w) ->
   lexP P ops kd Cl l K a w->∃v,Jf P ops Cl (kd j) oj a w v/\lexP P ops kd Cl (l.filter λi=>!Nat.beq i j) K (a.put oj.dst v) w:=by
  intro l K a w a5 ab b1 a3 a9 h;obtain ⟨pre,a4,rfl⟩:=List.append_of_mem b1;obtain ⟨p1,p2,p3⟩:=List.pairwise_append.1 ab;have hf:(pre++j::a4).filter (λi=>!Nat.beq i j)=pre++a4:=by
   rw [List.filter_append,YE];rw [List.filter_eq_self.2 λi hi=>by rw [ZbZ (by have:=p3 i hi j (JA ..);omega)];rfl];rw [List.filter_eq_self.2 λi hi=>by rw [ZbZ (by have:=(List.pairwise_cons.1 p2).1 i hi;omega)];rfl];simp
  rw [hf];rw [ZxD] at h;have fin:∀a':Act,lexP P ops kd Cl pre (lexP P ops kd Cl a4 K) a' w->lexP P ops kd Cl (pre++a4) K a' w:=λa' h'=>(ZxD pre a4 a' w).2 h'
  suffices hsuff:∃v,Jf P ops Cl (kd j) oj a w v/\lexP P ops kd Cl pre (lexP P ops kd Cl a4 K) (a.put oj.dst v) w by
   grind
  refine ZzP ac aw a8 (K:=lexP P ops kd Cl a4 K) pre a w (λi hi=>?_) a9 ?_
  .obtain ⟨oi,aa⟩:=a5 i (J1 _ hi);have a7:i<j:=p3 i hi j (JA ..);have ai:j∉A.getD i []:=λhm=>by have:=hL.lt j i oi aa hm;omega
   obtain ⟨u,y⟩:=hL.pair i j oi oj aa ac Z (a3 i (J1 _ hi)) ai;refine ⟨oi,aa,u,λhl=>?_,y⟩;cases hrd:kRead (kd j) with
   | false=>rfl
   | true=>exact absurd (hL.late j i oj oi ac aa hl (.inl hrd)) ai
  .refine ZuX (λa' w' h'=>?_) pre a w h;exact λ_=>(ZoA ac a8).1 h'
 have ag:∀a2:List Nat,minEff A kd (a2.filter λi=>!Nat.beq i j)=minEff A kd a2:=by
  intro a2;have he:effs kd (a2.filter λi=>!Nat.beq i j)=effs kd a2:=by
   unfold effs;rw [XN];apply X3;intro i _;by_cases a7:i=j
   .grind
   .simp [ZbZ a7]
  grind [minEff]
 intro n;induction n with
 | zero=>
  intro a2 a w a5 ab hj a3 a9 h;obtain ⟨v,k,hr⟩:=af a2 Q a w a5 ab hj a3 a9 h.2;exact ⟨v,k,by rw [ag];exact h.1,hr⟩
 | succ n ih=>
  intro a2 a w a5 ab hj a3 a9 h
  -- one value for all
  have aj:∀e∈minEff A kd a2,∃v,Jf P ops Cl (kd j) oj a w v /\
    lexP P ops kd Cl (seg A e (a2.filter λi=>!Nat.beq i j)) (λa w=>lexO P ops kd Cl A n (rst A e (a2.filter λi=>!Nat.beq i j)) Q a w) (a.put oj.dst v) w:=by
   intro e he;have hb:=h.2 e he;have b4:e∈a2:=(List.mem_filter.1 (List.mem_filter.1 he).1).1;have ar:(kd e).eff=true:=(List.mem_filter.1 (List.mem_filter.1 he).1).2;obtain ⟨oe,b2⟩:=a5 e b4;have bd:e≠j:=λx=>by subst x;rw [a8] at ar;cases ar
   have c1:seg A e (a2.filter λi=>!Nat.beq i j)=(seg A e a2).filter λi=>!Nat.beq i j:=by
    unfold seg;rw [XN,XN];grind
   have c2:rst A e (a2.filter λi=>!Nat.beq i j)=(rst A e a2).filter λi=>!Nat.beq i j:=by
    unfold rst;rw [XN,XN];grind
   rw [c1,c2];have g:∀i∈seg A e a2,i∈a2:=λi hi=>(List.mem_filter.1 hi).1;have s:∀i∈rst A e a2,i∈a2:=λi hi=>(List.mem_filter.1 hi).1;by_cases ae:j∈seg A e a2
   .have hr:(rst A e a2).filter (λi=>!Nat.beq i j)=rst A e a2:=by
     rw [Wd];intro i hi;have a7:i≠j:=λx=>by
      subst x;have h1:=(List.mem_filter.1 hi).2;have h2:=(List.mem_filter.1 ae).2;rw [h2] at h1;cases h1
     rw [ZbZ a7];rfl
    rw [hr];exact af _ _ a w (λi hi=>a5 i (g i hi)) (ab.sublist YF) ae (λi hi=>a3 i (g i hi)) a9 hb
   .have b3:j∈rst A e a2:=by
     refine List.mem_filter.2 ⟨hj,?_⟩;cases hh:(Jv j e||hasN (A.getD e []) j) with
     | false=>rfl
     | true=>exact absurd (List.mem_filter.2 ⟨hj,hh⟩) ae
    have hs:(seg A e a2).filter (λi=>!Nat.beq i j)=seg A e a2:=by
     rw [Wd];intro i hi;have a7:i≠j:=λx=>by subst x;exact ae hi
     rw [ZbZ a7];rfl
    rw [hs];have av:j∉A.getD e []:=λhm=>ae (List.mem_filter.2 ⟨hj,by rw [ZbO.2 hm];simp⟩);refine ZzP ac aw a8 (K:=λa w=>lexO P ops kd Cl A n ((rst A e a2).filter λi=>!Nat.beq i j) Q a w) (seg A e a2) a w (λi hi=>?_) a9 ?_
    .obtain ⟨oi,aa⟩:=a5 i (g i hi);have a7:i≠j:=λx=>by subst x;exact ae hi
     have ai:j∉A.getD i []:=λhm=>by
      have f:=(List.mem_filter.1 hi).2;rw [X1] at f;rcases f with f|f
      .have:=JK f;subst this;exact av hm
      .exact av (hL.trans i e j oe b2 (ZbO.1 f) hm)
     obtain ⟨u,y⟩:=hL.pair i j oi oj aa ac a7 (a3 i (g i hi)) ai;refine ⟨oi,aa,u,λhl=>?_,y⟩;cases hrd:kRead (kd j) with
     | false=>rfl
     | true=>exact absurd (hL.late j i oj oi ac aa hl (.inl hrd)) ai
    .refine ZuX (λa' w' h' b5=>?_) _ a w hb;exact ih (rst A e a2) a' w' (λi hi=>a5 i (s i hi)) (ab.sublist YF) b3 (λi hi=>a3 i (s i hi)) b5 h'
  have au:cls Cl (kd j) w w:=by
   cases hkj:kd j with
   | pure=>trivial
   | read=>exact a9 (by rw [hkj];rfl)
   | fix=>rfl
   | early=>rw [hkj] at a8;cases a8
   | late=>rw [hkj] at a8;cases a8
  cases hms:minEff A kd a2 with
  | nil=>
   obtain ⟨v,k,hr⟩:=af a2 Q a w a5 ab hj a3 a9 (h.1 hms);refine ⟨v,k,λ_=>hr,λe he=>?_⟩;rw [ag,hms] at he;cases he
  | cons e0 r=>
   obtain ⟨v,k,_⟩:=aj e0 (by rw [hms];exact JA ..);refine ⟨v,k,λhn=>?_,λe he=>?_⟩
   .rw [ag,hms] at hn;cases hn
   .rw [ag] at he;obtain ⟨v',b6,b7⟩:=aj e he;obtain rfl:=ZBZ au au k b6;exact b7
theorem ZNs {A:List (List Nat)} {Q:Exit->Act->World->Prop} (bj:Region.noSelect ops=Ji) (hA:okA ops.toList A=Ji) (br:A=mkA ops.toList) (hL:Looked ops kd A):
  ∀(fuel:Nat) (a2:Array Bool) (a:Act) (w:World) (m:Nat),a2.size=ops.size->Closed ops a2->(unl a2 ops.size).length<=fuel ->
   ((∃i,i<ops.size/\a2.getD i Ji=Jj/\(kRead (kd i)=Ji\/kEarly (kd i)=Ji))->Cl w) ->
   lexO P ops kd Cl A m (unl a2 ops.size) (λa w=>Q .normal a w) a w->wpAny P .any ops Q fuel a2 a w:=by
 have am:∀i,i<ops.size->∃o,ops[i]?=Jg o:=λi hi=>⟨ops[i],by simp [hi]⟩
 -- the first that is not a2 is ready
 have aq:∀(a2:Array Bool),a2.size=ops.size->Region.ready .any ops a2=[]->unl a2 ops.size=[]:=by
  intro a2 al hr;have b8:∀n i,i<n->i<ops.size->a2.getD i Ji=true:=by
   intro n;induction n with
   | zero=>intro i h;omega
   | succ n ih=>
    intro i bt a6;cases hl:a2.getD i Ji with
    | true=>rfl
    | false=>
     have:i∈Region.ready .any ops a2:=by
      rw [mem_ready];refine ⟨hl,ops[i],by simp [a6],λe he f=>?_⟩;unfold okA at hA;rw [JZ] at hA;have hm:(ops[i],i)∈ops.toList.zipIdx:=by
       grind
      have h:=hA _ hm;simp only [Jz,JZ] at h;have hk:e.on<i:=Nat.blt_eq.mp (h.1 e.on (List.mem_map.2 ⟨e,List.mem_filter.2 ⟨by simpa using he,f⟩,rfl⟩));grind
     grind
  cases hu:unl a2 ops.size with
  | nil=>rfl
  | cons i r=>
   grind [unl,JA,ZeF]
 have ap:∀(m:Nat) (a:Act) (w:World),lexO P ops kd Cl A m [] (λa w=>Q .normal a w) a w->Q .normal a w:=by
  intro m a w h;cases m with
  | zero=>exact h.2
  | succ m=>exact h.1 rfl
 intro fuel;induction fuel with
 | zero=>
  intro a2 a w m al s b5 _ h;have hu:unl a2 ops.size=[]:=List.length_eq_zero_iff.1 Z;rw [hu] at h;refine ⟨?_,ap m a w h⟩;cases hr:Region.ready .any ops a2 with
  | nil=>rfl
  | cons i r=>
   have hi:i∈Region.ready .any ops a2:=by rw [hr];exact JA ..
   obtain ⟨h1,o,h2,_⟩:=mem_ready.1 hi;have a6:i<ops.size:=by
    grind
   simp_all [unl,ZeF]
 | succ fuel ih=>
  intro a2 a w m al s b5 ax h;refine ⟨λhr=>by rw [aq a2 al hr] at h;exact ap m a w h,λj hj=>?_⟩;obtain ⟨aw,oj,a7,b8⟩:=mem_ready.1 hj;have b1:j<ops.size:=by
   grind
  have az:∀k∈deps oj,a2.getD k Jj=true:=by
   intro k hk;obtain ⟨e,he,rfl⟩:=List.mem_map.1 hk;grind
  have bn:∀i,i∈A.getD j []->a2.getD i Jj=true:=by
   grind [ZJW]
  have ay:∀i,i<ops.size->a2.getD i Ji=Jj->i∉A.getD j []:=by
   grind
  have ag:(a2.setIfInBounds j Ji).size=ops.size:=by simpa using al
  have ar:Closed ops (a2.setIfInBounds j Ji):=by
   intro x o g hl k hk;rw [Zsp Z] at hl ⊢;by_cases a4:k=j
   .simp [a4]
   .rw [if_neg a4];by_cases b3:x=j
    .subst b3;rw [a7] at g;cases g;exact az k hk
    .rw [if_neg b3] at hl;exact s x o g hl k hk
  have ac:unl (a2.setIfInBounds j Ji) ops.size=(unl a2 ops.size).filter λi=>!Nat.beq i j:=by
   unfold unl;rw [XN];refine X3 λi _=>?_;rw [Zsp Z];by_cases ae:i=j
   .subst ae;simp
   .simp [ae,ZbZ ae]
  have ak:j∈unl a2 ops.size:=ZeF.2 ⟨b1,aw⟩;have aa:(unl (a2.setIfInBounds j Ji) ops.size).length<=fuel:=by
   rw [ac];have:((unl a2 ops.size).filter λi=>!Nat.beq i j).length<(unl a2 ops.size).length:=by
    rw [List.length_filter_lt_length_iff_exists];exact ⟨j,ak,by simp⟩
   omega
  have af:∀w',(¬kLate (kd j)=Ji->((∃i,i<ops.size/\a2.getD i Ji=Jj/\(kRead (kd i)=Ji\/kEarly (kd i)=Ji))->Cl w')) ->
    (∃i,i<ops.size/\(a2.setIfInBounds j Ji).getD i Ji=Jj/\(kRead (kd i)=Ji\/kEarly (kd i)=Ji))->Cl w':=by
   rintro w' bc ⟨i,a6,a8,hk⟩;rw [Zsp Z] at a8;have ae:i≠j:=λe=>by rw [if_pos e] at a8;cases a8
   rw [if_neg ae] at a8;by_cases hl:kLate (kd j)=Ji
   .obtain ⟨oi,bh⟩:=am i a6;exact absurd (hL.late i j oi oj bh a7 hl hk) (ay i a6 a8)
   .exact bc hl ⟨i,a6,a8,hk⟩
  have ao:∀i∈unl a2 ops.size,∃o,ops[i]?=Jg o:=λi hi=>am i (ZeF.1 hi).1;have b2:(unl a2 ops.size).Pairwise (·<·):=List.Pairwise.sublist YF List.pairwise_lt_range;have ab:∀i∈unl a2 ops.size,i∉A.getD j []:=λi hi=>ay i (ZeF.1 hi).1 (ZeF.1 hi).2;unfold wpOp;rw [a7];simp only;by_cases a3:(kd j).eff=Ji
  ·-- an effect: it is among those that may come next
   have a9:j∈minEff A kd (unl a2 ops.size):=by
    refine List.mem_filter.2 ⟨List.mem_filter.2 ⟨ak,a3⟩,?_⟩;cases hh:(effs kd (unl a2 ops.size)).any λi=>hasN (A.getD j []) i with
    | false=>rfl
    | true=>
     obtain ⟨i,hi,bi⟩:=List.any_eq_true.1 hh;exact absurd (ZbO.1 bi) (ab i (List.mem_filter.1 hi).1)
   have b4:seg A j (unl a2 ops.size)=[j]:=by
    have h1:seg A j (unl a2 ops.size)=(unl a2 ops.size).filter λi=>Jv i j:=by
     unfold seg;refine X3 λi hi=>?_;have:hasN (A.getD j []) i=false:=by
      cases hh:hasN (A.getD j []) i with
      | false=>rfl
      | true=>exact absurd (ZbO.1 hh) (ab i hi)
     rw [this,We]
    rw [h1];have b7:∀l:List Nat,l.Pairwise (·<·)->j∈l->l.filter (λi=>Jv i j)=[j]:=by
     intro l;induction l with
     | nil=>intro _ h;cases h
     | cons x l bd=>
      intro hp hm;obtain ⟨y,q2⟩:=List.pairwise_cons.1 hp;by_cases g:x=j
      .subst g;rw [YE,if_pos (by simp)];rw [List.filter_eq_nil_iff.2 λi hi=>by rw [ZbZ (by have:=y i hi;omega)];simp]
      .rw [YE,ZbZ g];cases hm with
       | head=>exact absurd rfl g
       | tail _ hm=>simpa using bd q2 hm
    exact b7 _ b2 ak
   have ba:rst A j (unl a2 ops.size)=unl (a2.setIfInBounds j Ji) ops.size:=by
    rw [ac];unfold rst;refine X3 λi hi=>?_;have:hasN (A.getD j []) i=false:=by
     cases hh:hasN (A.getD j []) i with
     | false=>rfl
     | true=>exact absurd (ZbO.1 hh) (ab i hi)
    rw [this,We]
   cases m with
   | zero=>rw [h.1] at a9;cases a9
   | succ m=>
    have f:=h.2 j a9;rw [b4,ba] at f;split
    .rename_i hw;refine .inl (ZBG ?_);have f:=(Zdz a7 hw a3).1 f;refine Oper.wp_mono ?_ f;intro a' w' u;refine ih _ a' w' m ag ar aa (af w' λhl aj=>?_) u.2;have h1:=u.1;cases a4:kd j with
     | early=>rw [a4] at h1;exact h1
     | late=>rw [a4] at hl;exact absurd rfl hl
     | pure=>rw [a4] at a3;cases a3
     | read=>rw [a4] at a3;cases a3
     | fix=>rw [a4] at a3;cases a3
    .rename_i hw;have f:=(Zes a7 (by simpa using hw)).1 f;exact ih _ _ w m ag ar aa (af w λ_ aj=>ax aj) f
  .have a3:(kd j).eff=false:=by simpa using a3
   have av:(kRead (kd j)=Ji->Cl w):=λbk=>ax ⟨j,b1,aw,.inl bk⟩;have be:cls Cl (kd j) w w:=by
    cases a4:kd j with
    | pure=>trivial
    | read=>exact av (by rw [a4];rfl)
    | fix=>rfl
    | early=>rw [a4] at a3;cases a3
    | late=>rw [a4] at a3;cases a3
   obtain ⟨v,hv,hr⟩:=ZMd hL bj a7 a3 m _ a w ao b2 ak ab av h;rw [<-ac] at hr;have fin:=ih _ (a.put oj.dst v) w m ag ar aa (af w λ_ aj=>ax aj) hr;rcases hv with ⟨hw,hst⟩|⟨hw,rfl⟩
   .rw [if_pos hw];refine .inl ?_;unfold Oper.wp;rw [hst w be];exact fin
   .rw [if_neg (by simp [hw])];exact fin
theorem ZIH {id:Nat} {Q:Exit->Act->World->Prop} {a:Act} {w:World} (x:P.follows .mixedOrders=Ji) (e:lexOk ops kd=Ji)
  (l:Cl { w with drawn:=w.drawn+1 })
  (h:lexO P ops kd Cl (mkA ops.toList) ops.size (Xi ops.size) (λa w=>Q .normal a w) a { w with drawn:=w.drawn+1 }):(Code.region id ops Ji).wp P Q a w:=by
 refine wp_region_any x ?_;simp only [lexOk,Jz] at e;obtain ⟨⟨⟨k,u⟩,hT⟩,hP⟩:=e;have g:unl (Array.replicate ops.size Jj) ops.size=Xi ops.size:=by
  unfold unl;simp_all
 refine ZNs k u rfl (looked u hT hP) ops.size _ a _ ops.size (by simp) ?_ ?_ (λ_=>l) (by rw [g];exact h)
 .intro j o hj hl;have:j<ops.size:=by
   grind
  simp [X2,this] at hl
 .rw [g];simp
end
end Go.Vc
