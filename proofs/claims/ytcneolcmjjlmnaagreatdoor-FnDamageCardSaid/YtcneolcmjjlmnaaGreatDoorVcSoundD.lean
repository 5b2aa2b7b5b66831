import Derived.Test.YtcneolcmjjlmnaaGreatDoorVcSb
import Derived.Lib.AppendZerosOnto
import Derived.Lib.Overlaps
open Nat renaming le_refl->JB,le_succ->XP,eq_of_beq_eq_true->JK
open Bool renaming false_eq_true->Xj,and_eq_true->Jz,not_eq_true'->JV
open Array renaming range->YM,ext'->JN
open Option renaming some->Jg
open Go renaming Value->Jl
namespace Go.Vc
set_option linter.unusedVariables false
set_option linter.unusedSimpArgs false
open Go
section
variable {C:Ctx} {e:Env}
theorem Zfx {P:Program} {t:TypeId} {k:TE} (h:TeOk P t k):∃i z,P.info? t=Jg i/\i.size=k.size/\i.bytes=k.bytes/\i.zero=Jg z/\z.cells=k.zero.toArray:=by
 obtain ⟨i,z,h1,a,f,g,j⟩:=h.info;grind
theorem ZEJ {t el:TypeId} {te:TE} (ht:C.P.underlying t=Jg (.slice el)) (he:TeOk C.P el te) (hz:te.size≠0) (a7:te.zero.length=te.size) {n c:Int} {k k':IntKind} {w:World}
  {K:Jl->Heap->Prop} (h:vMake te.bytes te.zero el n c w.heap K):
  ∃v w',(Instr.makeSlice t (.int k n) (.int k' c)).run C.P w=.ok v w'/\Rest w w'/\K v w'.heap:=by
 obtain ⟨⟨h1,s,l,u⟩,hk⟩:=h;obtain ⟨i,z,hi,aa,a6,a,a4⟩:=Zfx he;refine ⟨_,{ w with heap:=w.heap.push (.cells (repl c.toNat te.zero).toArray el) },?_,⟨rfl,rfl,rfl,JB _⟩,hk⟩;have w1:IntKind.i64.wrap n=n:=Zap Z Z;have w2:IntKind.i64.wrap c=c:=Zap Z Z;have x:((i.bytes:Nat):Int)*c<=140737488355328:=by rw [a6,Int.mul_comm];exact l
 have o:(decide (c<0)||decide ((i.bytes:Int)*c>2^48))=false:=by
  grind
 simp only [Instr.makeSlice,Sem.run_bind,ZZ w ht,Result.andThen_ok,asInt,asIntOf,Sem.run_pure,Zb5 w hi,w1,w2,o];have r:(false||decide (n<0)||decide (n>c))=false:=by
  grind
 simp only [r,Xj,if_false,Sem.run_bind,Result.andThen_ok,run_askRoom,ZaW w he];by_cases f:c.toNat*te.size=0
 .have g:c.toNat=0:=by
   grind [Nat.mul_eq_zero]
  simp only [f,if_true];have j:(YM 0).map (λ_:Nat=>(default:Jl))=#[]:=by apply JN;simp
  simp [newRow,g,repl,hnew,j]
 .simp only [f,if_false,Sem.run_bind,Zd5 w hi a,Result.andThen_ok,Sem.run_pure];have a3:z.cells.size=te.size:=by rw [a4];simpa using a7
  have:=Zmf z.cells c.toNat Z;rw [a3] at this;simp only [a3];rw [this,a4];simp [newRow,hnew]
theorem Zig {P:Program} {w:World} {z n c:Nat} {g:Jm Addr} {news:Jc} (h:news.length=n*z)
  (f:∀j u,news[j]?=Jg u->∃a,g=Jg a/\hcell w.heap (a.add j)=Jg u):
  (Builtin.firstCells z n (.slice g n c)).run P w=.ok news.toArray w:=by
 cases g with
 | none=>
  have:news=[]:=by
   cases news with
   | nil=>rfl
   | cons b r=>obtain ⟨p,hp,_⟩:=f 0 b rfl;cases hp
  subst this;rfl
 | some a=>
  grind [Builtin.firstCells,ZnK]
theorem ZGd {P:Program} {w:World} {z n k c:Nat} {g:Jm Addr} {news:Jc} (h:news.length=n*z)
  (f:∀j u,news[j]?=Jg u->∃a,g=Jg a/\hcell w.heap (a.add j)=Jg u):
  (Builtin.firstCells z n (.slice g k c)).run P w=.ok news.toArray w:=by
 cases g with
 | none=>
  have:news=[]:=by
   cases news with
   | nil=>rfl
   | cons b r=>obtain ⟨p,hp,_⟩:=f 0 b rfl;cases hp
  subst this;rfl
 | some a=>
  grind [Builtin.firstCells,ZnK]
theorem ZKA {t t' el am:TypeId} {te:TE} {ty:TypeId} (ht:C.P.underlying t=Jg (.slice el)) (a9:C.P.underlying t'=Jg (.slice am)) (he:TeOk C.P el te)
  (hz:te.size≠0) (ap:te.zero.length=te.size) {s x:Jl} {w:World} {K:Jl->Heap->Prop} (h:vAppend te.size te.bytes te.zero el s x w.heap K):
  ∃v w',(Builtin.append_ #[t,t'] ty #[s,x]).run C.P w=.ok v w'/\Rest w w'/\K v w'.heap:=by
 unfold vAppend at h;split at h
 .rename_i a7 n c ah m mc;obtain ⟨old,news,h1,f,g,j,h5,h6,h7,h8,h9,k,l⟩:=h;obtain ⟨i,z,hi,b1,al,o,aq⟩:=Zfx he;have a6:(Builtin.firstCells te.size m (.slice ah m mc)).run C.P w=.ok news.toArray w:=Zig f j;have b0:(Builtin.firstCells te.size n (.slice a7 n c)).run C.P w=.ok old.toArray w:=Zig h1 g;by_cases a5:n+m<=c
  .cases a7 with
   | none=>
    refine ⟨_,w,?_,Rest.refl w,k a5 rfl⟩;simp [Builtin.append_,ZZ w ht,ZZ w a9,ZaW w he,Builtin.lenOf,a5,a6]
   | some a=>
    obtain ⟨_,aj⟩:=h9 a5 a rfl;obtain ⟨w',hr,af,hk⟩:=Ziv (P:=C.P) _ _ w _ aj;refine ⟨_,w',?_,af,hk⟩;simp [Builtin.append_,ZZ w ht,ZZ w a9,ZaW w he,Builtin.lenOf,a5,a6,hr]
  .have ag:c<n+m:=Z;have ax:=growslice_fits (old:=c) ag h7;obtain ⟨a4,hcapd⟩:∃a4,a4=(Question.appendCap (n+m) c el).cut (w.tape w.drawn (.appendCap (n+m) c el)):=⟨_,rfl⟩
   have r:n+m<=a4:=by rw [hcapd];simp only [Question.cut];omega
   have u:a4<=9223372036854775807:=by
    rw [hcapd];simp only [Question.cut];have:=Nat.mod_lt (w.tape w.drawn (.appendCap (n+m) c el)) (show 0<2^63-(n+m) by omega);omega
   refine ⟨_,{ w with heap:=w.heap.push (.cells (old++news++repl (a4-(n+m)) te.zero).toArray el),drawn:=w.drawn+1 },?_,⟨rfl,rfl,rfl,XP _⟩,l ag a4 r u⟩;have aa:¬(((n+m:Nat):Int)>IntKind.i64.max):=by
    (simp_all;omega)
   have b2:z.cells.size=te.size:=by rw [aq];simpa using ap
   have ab:Builtin.zeroCells z.cells (a4-(n+m))=(repl (a4-(n+m)) te.zero).toArray:=by
    grind [Builtin.zeroCells,Zmf]
   let w1:World:={ w with drawn:=w.drawn+1 }
   have a8:(Builtin.firstCells te.size m (.slice ah m mc)).run C.P w1=.ok news.toArray w1:=Zig (w:=w1) f j;have ae:(Builtin.firstCells te.size n (.slice a7 n c)).run C.P w1=.ok old.toArray w1:=Zig (w:=w1) h1 g;have ak:(choose (.appendCap (n+m) c el)).run C.P w=.ok a4 w1:=by
    grind [choose,Sem.run,Question.forced]
   have ac:¬(Builtin.nextslicecap (n+m) c*i.bytes>281474976710656):=by rw [al];omega
   have ar:¬(((n+m:Nat):Int)>IntKind.i64.max/\(false=true\/i.bytes=0)):=λh=>aa h.1;simp only [Builtin.append_,Sem.run_bind,ZZ w ht,ZZ w a9,Result.andThen_ok,ZaW w he,Builtin.lenOf,Sem.run_pure,a5,if_false,
    List.getElem?_toArray,List.getElem?_cons_zero,List.getElem?_cons_succ,Xj,Zb5 w hi,Nat.reducePow]
   rw [if_neg (λh=>aa h.1)];simp only [Sem.run_bind,Zb5 w hi,Result.andThen_ok];rw [if_neg ac];have y:(typeInfo el).run C.P w1=.ok i w1:=Zb5 w1 hi;have a2:(zeroValue el).run C.P w1=.ok z w1:=Zd5 w1 hi o;simp only [Sem.run_bind,ak,y,Result.andThen_ok,run_askRoom,ae,Bool.not_false,if_true,a8,a2,ab];simp [newRow,hnew,w1];rfl
 .exact h.elim
theorem Znk {g:TE} (h:teGood g=true):g.size≠0/\g.zero.length=g.size:=by
 simp only [teGood,Jz,JV] at h;grind [JK]
theorem ZPs {t el:TypeId} {g:TE} {ty:TypeId} (ht:C.P.underlying t=Jg (.slice el)) (he:TeOk C.P el g)
  (hz:g.size≠0) (k:g.zero.length=g.size) {x:Jl} {w:World} {K:Jl->Heap->Prop} (h:vClear g.zero x w.heap K):
  ∃v w',(Builtin.clear_ #[t] ty #[x]).run C.P w=.ok v w'/\Rest w w'/\K v w'.heap:=by
 obtain ⟨i,z,hi,a4,a6,f,l⟩:=Zfx he;have a5:z.cells.size=g.size:=by rw [l];simpa using k
 unfold vClear at h;split at h
 .rename_i a n c;obtain ⟨w',hr,j,u⟩:=Ziv (P:=C.P) _ _ w _ h;refine ⟨_,w',?_,j,u⟩;cases n with
  | zero=>
   simp_all [repl,storeCells,Builtin.clear_,ZZ]
  | succ n=>
   have o:Builtin.zeroCells z.cells (n+1)=(repl (n+1) g.zero).toArray:=by
    grind [Builtin.zeroCells,Zmf]
   simp_all [Builtin.clear_,ZZ,Zd5]
 .rename_i n c;refine ⟨_,w,?_,Rest.refl w,h⟩;simp [Builtin.clear_,ZZ w ht]
 .exact h.elim
theorem ZFB {t t' el:TypeId} {o:TE} {ty:TypeId} (ht:C.P.underlying t=Jg (.slice el)) (u:TeOk C.P el o) {d x:Jl} {w:World} {K:Jl->Heap->Prop} (h:vCopy o.size d x w.heap K):
  ∃v w',(Builtin.copy_ #[t,t'] ty #[d,x]).run C.P w=.ok v w'/\Rest w w'/\K v w'.heap:=by
 unfold vCopy at h;split at h
 .rename_i l n c a2 m mc;obtain ⟨cs,h1,f,g,i⟩:=h;have j:(Builtin.firstCells o.size (Nat.min m n) (.slice a2 m mc)).run C.P w=.ok cs.toArray w:=ZGd h1 f;cases l with
  | none=>
   refine ⟨_,w,?_,Rest.refl w,g rfl⟩;simp [Builtin.copy_,ZZ w ht,ZaW w u,Builtin.lenOf,j,goInt]
  | some a=>
   obtain ⟨w',hr,k,hk⟩:=Ziv (P:=C.P) _ _ w _ (i a rfl);refine ⟨_,w',?_,k,hk⟩;simp [Builtin.copy_,ZZ w ht,ZaW w u,Builtin.lenOf,j,hr,goInt]
 .exact h.elim
theorem ZDR {k:TK} {K:Jl->Prop} (h:exV1 k K):∃v,K v:=by
 unfold exV1 at h;grind
theorem ZCw:∀(ks:List TK) (K:Jc->Prop),exVL ks K->∃vs,K vs
 | [],_,h=>⟨[],h⟩
 | _::ks,_,h=>by
  obtain ⟨v,a⟩:=ZDR h;obtain ⟨vs,g⟩:=ZCw ks _ a;grind
theorem Zqi:∀(cs:List (Bool×List TK)) (K:Jc->Prop),exVC cs K->∃vs,K vs
 | [],_,h=>⟨[],h⟩
 | (true,ks)::cs,_,h=>by
  obtain ⟨vs,a⟩:=ZCw ks _ h;obtain ⟨l,g⟩:=Zqi cs _ a;grind
 | (false,ks)::cs,_,h=>by
  simp only [exVC,cond_false] at h;split at h
  .obtain ⟨v,a⟩:=ZDR h;obtain ⟨l,g⟩:=Zqi cs _ a;grind
  .exact h.elim
theorem ZAm {rs:RS} {K:Jl->Prop} (h:exRS rs K):∃v,K v:=by
 unfold exRS at h;obtain ⟨vs,a⟩:=Zqi _ _ h;grind
theorem ZHZ {t t' el:TypeId} {te:TE} {ty:TypeId} {ik kx:IntKind} (ht:C.P.underlying t=Jg (.slice el)) (a7:C.P.underlying t'=Jg (.int ik)) (he:TeOk C.P el te)
  (hz:te.size≠0) (aa:te.zero.length=te.size) {s:Jl} {x:Int} {w:World} {K:Jl->Heap->Prop} (h:vAppZ te.size te.bytes te.zero el s x w.heap K):
  ∃v w',(Builtin.append_ #[t,t'] ty #[s,.int kx x]).run C.P w=.ok v w'/\Rest w w'/\K v w'.heap:=by
 unfold vAppZ at h;split at h
 .rename_i a4 n c;obtain ⟨u,old,h1,o,f,r,a,g⟩:=h;obtain ⟨i,z,hi,a8,a5,j,ab⟩:=Zfx he;obtain ⟨k,rfl⟩:∃k:Nat,x=(k:Int):=⟨x.toNat,by omega⟩
  rw [Int.toNat_natCast] at f r a g;have ah:z.cells.size=te.size:=by rw [ab];simpa using aa
  have a3:∀m,Builtin.zeroCells z.cells m=(repl m te.zero).toArray:=λm=>by
   grind [Builtin.zeroCells,Zmf]
  have a6:(Builtin.firstCells i.size n (.slice a4 n c)).run C.P w.drew=.ok old.toArray w.drew:=by
   rw [a8];exact Zig (w:=w.drew) h1 o
  have ai:k*i.bytes<=(n+k)*te.bytes:=by rw [a5];exact Nat.mul_le_mul_right _ Z
  have hr:=Lib.run_append_grow_zeros (P:=C.P) w t t' ty el i z kx ik ht a7 hi j a4 n c old a6 k Z Z a Z Z (by rw [a5];exact growslice_fits a f);refine ⟨_,_,hr,⟨rfl,rfl,rfl,XP _⟩,?_⟩;have hg:=grownCap_ge w (n+k) c el;have l:=grownCap_le_maxLen w (n+k) c el (by unfold maxLen;omega);unfold maxLen at l;have hk:=g (grownCap w (n+k) c el) hg Z;rw [a3,a3];have e:old.toArray++(repl k te.zero).toArray++(repl (grownCap w (n+k) c el-(n+k)) te.zero).toArray=(old++repl k te.zero++repl (grownCap w (n+k) c el-(n+k)) te.zero).toArray:=by simp
  rw [e];exact hk
 .exact h.elim
theorem ZPm (hC:CtxOk C) {g:Nat} (hg:inL C.ov g=true) {a2:Jc} {w:World} {K:Prop} (h:vOv a2 w.heap K):
  (callFunc g a2.toArray).run C.P w=.ok (.value (.bool false)) w/\K:=by
 obtain ⟨fn,tS,tR,el,te,i,j,k,l,o,r,s⟩:=hC.ovs g hg;unfold vOv at h;split at h
 .rename_i a la ca b lb cb;obtain ⟨h1,u,⟨cs,t,f,v,x⟩,⟨a3,t',f',y,h6⟩,hk⟩:=h;refine ⟨?_,hk⟩;rw [run_callFunc_extern i k j l o];have:=Lib.run_overlaps_apart (P:=C.P) w tS tR el r te.size (λw=>ZaW w s) a b la ca lb cb h1 t t' cs.size a3.size (by simp [World.shape?,v]) (by simp [World.shape?,y]) h6 u x;rw [this];rfl
 .exact h.elim
theorem ZxW (hC:CtxOk C) {o:Oper} {h:Heap} {K:Jl->Heap->Prop} (hh:vEff C o.op o.type e h K) (a:Act) (ha:a.eval=ev e) (w:World) (hw:w.heap=h):
  o.wp C.P a w (λa' w'=>∃v,a'=a.put o.dst v/\RestQ C.q w w'/\K v w'.heap) Bot:=by
 subst hw;obtain ⟨ao,op,af,pos,aj,ah⟩:=o;simp only at hh ⊢;unfold Oper.wp;rw [ha];unfold vEff at hh;split at hh
 .rename_i t x v;rw [ZDD] at hh;obtain ⟨w',h1,y,j⟩:=ZGq hC hh;simp only [execOp,Sem.run_bind,h1,Result.andThen_ok,Sem.run_pure,Oper.upon];exact ⟨undef,rfl,y.q,j⟩
 .rename_i t;split at hh
  .rename_i te ht;obtain ⟨i,z,hi,_,_,a7,be⟩:=Zfx (hC.tab _ _ ht);simp only [execOp,Instr.alloc,Sem.run_bind,Zd5 w hi a7,Result.andThen_ok,newVar,newRow,run_newObj,Sem.run_pure,Oper.upon];refine ⟨_,rfl,⟨rfl,rfl,rfl,λ_=>JB _⟩,?_⟩;rw [be];exact hh _ _ rfl rfl
  .exact hh.elim
 .rename_i t x;rw [ZDD] at hh;unfold vBox at hh;split at hh
  .rename_i te ht;obtain ⟨h1,_⟩:=ZoD hh;simp only [execOp,Instr.box,Sem.run_bind,Result.andThen_ok,newVar,newRow,run_newObj,Sem.run_pure,Oper.upon];exact ⟨_,rfl,⟨rfl,rfl,rfl,λ_=>JB _⟩,by simpa [hnew] using h1 _ _ rfl rfl⟩
  .exact hh.elim
 .rename_i t len ap;split at hh
  .rename_i el ks z0 b0 ht;split at hh
   .rename_i te he;obtain ⟨hb,hh⟩:=Zav hh;rw [Zrw] at hh;simp only [Jz,JV] at hb;obtain ⟨⟨aa,ab⟩,ac⟩:=hb;have aa:=JK aa;have ab:=Nat.le_of_ble_eq_true ab;have c9:te.size≠0:=λh0=>by rw [h0] at ac;simp at ac
    have hT:=hC.tab _ _ he;obtain ⟨i,z,hi,c5,_,a7,be⟩:=Zfx hT;have bp:(evp e ap.toList).length=len:=by rw [Zpo];simpa using aa
    have ay:(ap.map λ(x:Nat×Operand)=>(x.1,ev e x.2)).toList=evp e ap.toList:=by rw [Zpo];simp
    have hu:=ZaM (hC.tab _ _ ht).1;have bg:¬(len*te.size>2^24):=Z;obtain ⟨ag,a5⟩:∃ag:Array Jl,ag=(YM (len*te.size)).map (λi=>(if len*te.size=0 then #[] else z.cells)[i%(if len*te.size=0 then #[] else z.cells).size]!):=⟨_,rfl⟩
    have bj:ag.size=len*te.size:=by rw [a5];simp
    obtain ⟨l,h1,y,j⟩:=ZuR _ 0 ag.toList _ hh (by rw [bp];simp [bj]);have bk:(setAt ag.toList (0*te.size) l).toArray=l.toArray:=by
     unfold setAt;grind
    rw [bk] at j;simp only [execOp,Instr.buildSlice,Sem.run_bind,ZZ w hu,Result.andThen_ok,ZaW w hT,bg,if_false];have bd:Instr.fill (λi=>Jg (i*te.size,te.size)) ag (evp e ap.toList)=Jg l.toArray:=by simpa using j
    by_cases h0:len*te.size=0
    .rw [if_pos h0] at a5;rw [if_pos h0];simp only [Sem.run_bind,Sem.run_pure,Result.andThen_ok];rw [ay,<-a5,bd];simp only [Sem.run_bind,newRow,run_newObj,Sem.run_pure,Result.andThen_ok,Oper.upon];exact ⟨_,rfl,⟨rfl,rfl,rfl,λ_=>JB _⟩,(Zfq _ _).mp h1 _ _ rfl rfl⟩
    .rw [if_neg h0] at a5;rw [if_neg h0];simp only [Sem.run_bind,Zd5 w hi a7,Sem.run_pure,Result.andThen_ok];rw [ay,<-a5,bd];simp only [Sem.run_bind,newRow,run_newObj,Sem.run_pure,Result.andThen_ok,Oper.upon];exact ⟨_,rfl,⟨rfl,rfl,rfl,λ_=>JB _⟩,(Zfq _ _).mp h1 _ _ rfl rfl⟩
   .exact hh.elim
  .exact hh.elim
 .rename_i t l c;split at hh
  .rename_i el ks z0 b0 k n k' m ht hl hc;split at hh
   .rename_i te he;obtain ⟨hg,hh⟩:=Zav hh;obtain ⟨a2,a3⟩:=Znk hg;obtain ⟨v,w',h1,y,j⟩:=ZEJ (C:=C) (k:=k) (k':=k') (ZaM (hC.tab _ _ ht).1) (hC.tab _ _ he) a2 a3 hh;simp only [execOp,hl,hc,Sem.run_bind,h1,Result.andThen_ok,Sem.run_pure,Oper.upon];exact ⟨v,rfl,y.q,j⟩
   .exact hh.elim
  .exact hh.elim
 .rename_i a8 a6;split at hh
  .rename_i s x t t' ad ar;have az:a8=#[s,x]:=by apply JN;simpa using ad
   have au:a6=#[t,t']:=by apply JN;simpa using ar
   subst az au;split at hh
   .rename_i el ks z0 b0 c7 bf bt bw ht b8;split at hh
    .rename_i te he;obtain ⟨hg,hh⟩:=Zav hh;obtain ⟨a2,a3⟩:=Znk hg;obtain ⟨v,w',h1,y,j⟩:=ZKA (C:=C) (ty:=af) (ZaM (hC.tab _ _ ht).1) (ZaM (hC.tab _ _ b8).1) (hC.tab _ _ he) a2 a3 hh;have:(execOp (ev e) ⟨ao,.call ⟨.builtin .append,#[s,x],#[t,t']⟩,af,pos,aj,ah⟩).run C.P w=.ok (.value v) w':=by
      simp [execOp,resolve,invoke,builtin,h1]
     rw [this];exact ⟨v,rfl,y.q,j⟩
    .exact hh.elim
   .rename_i el ks z0 b0 ik bf bt bw ht b8;split at hh
    .rename_i te kx n he hx;obtain ⟨hg,hh⟩:=Zav hh;obtain ⟨a2,a3⟩:=Znk hg;obtain ⟨v,w',h1,y,j⟩:=ZHZ (C:=C) (ty:=af) (kx:=kx) (ZaM (hC.tab _ _ ht).1) (ZfI (hC.tab _ _ b8).1) (hC.tab _ _ he) a2 a3 hh;have:(execOp (ev e) ⟨ao,.call ⟨.builtin .append,#[s,x],#[t,t']⟩,af,pos,aj,ah⟩).run C.P w=.ok (.value v) w':=by
      simp [execOp,resolve,invoke,builtin,hx,h1]
     rw [this];exact ⟨v,rfl,y.q,j⟩
    .exact hh.elim
   .exact hh.elim
  .exact hh.elim
 .rename_i a8 a6;split at hh
  .rename_i x t ad ar;have az:a8=#[x]:=by apply JN;simpa using ad
   have au:a6=#[t]:=by apply JN;simpa using ar
   subst az au;split at hh
   .rename_i el ks z0 b0 ht;split at hh
    .rename_i te he;obtain ⟨hg,hh⟩:=Zav hh;obtain ⟨a2,a3⟩:=Znk hg;obtain ⟨v,w',h1,y,j⟩:=ZPs (C:=C) (ty:=af) (ZaM (hC.tab _ _ ht).1) (hC.tab _ _ he) a2 a3 hh;have:(execOp (ev e) ⟨ao,.call ⟨.builtin .clear,#[x],#[t]⟩,af,pos,aj,ah⟩).run C.P w=.ok (.value v) w':=by
      simp [execOp,resolve,invoke,builtin,h1]
     rw [this];exact ⟨v,rfl,y.q,j⟩
    .exact hh.elim
   .exact hh.elim
  .exact hh.elim
 .rename_i a8 a6;split at hh
  .rename_i d x t t' ad ar;have az:a8=#[d,x]:=by apply JN;simpa using ad
   have au:a6=#[t,t']:=by apply JN;simpa using ar
   subst az au;split at hh
   .rename_i el ks z0 b0 ht;split at hh
    .rename_i te he;obtain ⟨v,w',h1,y,j⟩:=ZFB (C:=C) (t':=t') (ty:=af) (ZaM (hC.tab _ _ ht).1) (hC.tab _ _ he) hh;have:(execOp (ev e) ⟨ao,.call ⟨.builtin .copy,#[d,x],#[t,t']⟩,af,pos,aj,ah⟩).run C.P w=.ok (.value v) w':=by
      simp [execOp,resolve,invoke,builtin,h1]
     rw [this];exact ⟨v,rfl,y.q,j⟩
    .exact hh.elim
   .exact hh.elim
  .exact hh.elim
 .rename_i f a8 a6;split at hh
  .rename_i g hg;cases hin:inL C.ov g with
   | true=>
    rw [hin] at hh;simp only [cond_true] at hh;obtain ⟨w1,w2⟩:=ZPm (C:=C) hC hin hh;have hf:f=.func g:=by cases f<;>simp [opF] at hg;rw [hg]
    have ad:(#[]:Array Jl)++a8.map (ev e)++#[]=(evs e a8.toList).toArray:=by
     apply JN;rw [ZiX];simp
    have hr:(execOp (ev e) ⟨ao,.call ⟨.value f,a8,a6⟩,af,pos,aj,ah⟩).run C.P w=.ok (.value (.bool false)) w:=by
     subst hf;have ca:ev e (.func g)=.func (.func g) #[] #[]:=rfl;grind [execOp,resolve,Sem.run_bind,Deferred.ofValue,Sem.run_pure,Result.andThen_ok,invoke]
    rw [hr];exact ⟨_,rfl,RestQ.refl w,w2⟩
   | false=>
    rw [hin] at hh;simp only [cond_false,Zhb] at hh;unfold vCall vFn at hh;split at hh
    .rename_i g first a9 hf
     obtain ⟨hg,hh⟩:=Zzd hh;obtain ⟨fn,bc,ax,aw⟩:=hC.fns g hg;have hr:(execOp (ev e) ⟨ao,.call ⟨.value f,a8,a6⟩,af,pos,aj,ah⟩).run C.P w =
       .ok (.enter g (first.toList++evs e a8.toList++a9.toList).toArray) w:=by
      have hb:fn.body.isNone=false:=by cases hb:fn.body<;>simp [hb] at ax ⊢
      have ad:first++a8.map (ev e)++a9=(first.toList++evs e a8.toList++a9.toList).toArray:=by
       simp [JN,ZiX]
      simp only [execOp,resolve,Sem.run_bind,hf,Deferred.ofValue,Sem.run_pure,Result.andThen_ok,invoke,callFunc,run_program,bc,aw,hb,Xj,if_false,ad]
     rw [hr];simp only [Oper.upon];refine (hh w rfl).mono ?_;rintro e1 w' ⟨v,rfl,b5,hk⟩;obtain ⟨u,rfl,hk⟩:=ZAm hk;grind
    .exact hh.elim
  .rw [Zhb] at hh;unfold vCall vFn at hh;split at hh
   .rename_i g first a9 hf
    obtain ⟨hg,hh⟩:=Zzd hh;obtain ⟨fn,bc,ax,aw⟩:=hC.fns g hg;have hr:(execOp (ev e) ⟨ao,.call ⟨.value f,a8,a6⟩,af,pos,aj,ah⟩).run C.P w =
      .ok (.enter g (first.toList++evs e a8.toList++a9.toList).toArray) w:=by
     have hb:fn.body.isNone=false:=by cases hb:fn.body<;>simp [hb] at ax ⊢
     have ad:first++a8.map (ev e)++a9=(first.toList++evs e a8.toList++a9.toList).toArray:=by
      simp [JN,ZiX]
     simp only [execOp,resolve,Sem.run_bind,hf,Deferred.ofValue,Sem.run_pure,Result.andThen_ok,invoke,callFunc,run_program,bc,aw,hb,Xj,if_false,ad]
    rw [hr];simp only [Oper.upon];refine (hh w rfl).mono ?_;rintro e1 w' ⟨v,rfl,b5,hk⟩;obtain ⟨u,rfl,hk⟩:=ZAm hk;exact ⟨v,rfl,b5,hk⟩
   .exact hh.elim
 .rename_i t r;split at hh
  .rename_i kt et ks z b ht;have hu:=Zs3 (hC.tab _ _ ht).1;have hr:∀q:Jm Jl,(q=none\/∃k n,q=Jg (.int k n))->(Instr.makeMap t q).run C.P w=.ok (.map (Jg w.heap.size)) { w with heap:=w.heap.push (.map #[] 0) }:=by
    rintro q (rfl|⟨k,n,rfl⟩)
    .rfl
    .simp [Instr.makeMap,ZZ w hu,asInt,asIntOf]
   rw [Zgt] at hh;split at hh
   .rename_i hq;simp only [execOp,Sem.run_bind,hr (r.map (ev e)) (.inl hq),Result.andThen_ok,Sem.run_pure,Oper.upon];exact ⟨_,rfl,⟨rfl,rfl,rfl,λ_=>JB _⟩,hh _ _ rfl rfl⟩
   .rename_i k n hq;simp only [execOp,Sem.run_bind,hr (r.map (ev e)) (.inr ⟨k,n,hq⟩),Result.andThen_ok,Sem.run_pure,Oper.upon];exact ⟨_,rfl,⟨rfl,rfl,rfl,λ_=>JB _⟩,hh _ _ rfl rfl⟩
   .exact hh.elim
  .exact hh.elim
 .rename_i t m k x;obtain ⟨w',h1,y,j⟩:=ZxV hC hh;simp only [execOp,Sem.run_bind,h1,Result.andThen_ok,Sem.run_pure,Oper.upon];exact ⟨undef,rfl,y.q,j⟩
 .rename_i t m k x;obtain ⟨w',h1,y,j⟩:=ZxV hC hh;simp only [execOp,Sem.run_bind,h1,Result.andThen_ok,Sem.run_pure,Oper.upon];exact ⟨undef,rfl,y.q,j⟩
 .rename_i c8 ao x;split at hh
  .rename_i ks z b el bf z' b' s hs hd hx;split at hh
   .rename_i ai z2 b2 br;obtain ⟨v,w',h1,y,j⟩:=ZM1 (C:=C) (ZcF (hC.tab _ _ hs).1) (ZaM (hC.tab _ _ hd).1) (ZfI (hC.tab _ _ br).1) hh;simp only [execOp,Sem.run_bind,hx,h1,Result.andThen_ok,Sem.run_pure,Oper.upon];exact ⟨v,rfl,y.q,j⟩
   .exact hh.elim
  .exact hh.elim
 .exact hh.elim
end
end Go.Vc
