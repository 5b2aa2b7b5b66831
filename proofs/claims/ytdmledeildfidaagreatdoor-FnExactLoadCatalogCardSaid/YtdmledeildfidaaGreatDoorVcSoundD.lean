import Derived.Test.YtdmledeildfidaaGreatDoorVcSb
import Derived.Lib.AppendZerosOnto
import Derived.Lib.Overlaps
namespace Go.Vc
set_option linter.unusedVariables false
set_option linter.unusedSimpArgs false
open Go
section
variable {C:Ctx} {e:Env}
theorem ZeP {P:Program} {t:TypeId} {j:TE} (h:TeOk P t j):∃ i z,P.info? t=some i/\i.size=j.size/\i.bytes=j.bytes/\i.zero=some z/\z.cells=j.zero.toArray:=by
 obtain ⟨i,z,h1,a,c,f,g⟩:=h.info;exact ⟨i,z,h1,a,c,f,by apply Array.ext';simpa using g⟩
theorem ZIf {t el:TypeId} {te:TE} (ht:C.P.underlying t=some (.slice el)) (he:TeOk C.P el te) (hz:te.size≠0) (a4:te.zero.length=te.size) {n c:Int} {k k':IntKind} {w:World}
  {K:Value->Heap->Prop} (h:vMake te.bytes te.zero el n c w.heap K):
  ∃ v w',(Instr.makeSlice t (.int k n) (.int k' c)).run C.P w=.ok v w'/\Rest w w'/\K v w'.heap:=by
 obtain ⟨⟨h1,s,l,u⟩,hk⟩:=h;obtain ⟨i,z,hi,a8,a5,f,a1⟩:=ZeP he;refine ⟨_,{ w with heap:=w.heap.push (.cells (repl c.toNat te.zero).toArray el) },?_,⟨rfl,rfl,rfl,Nat.le_refl _⟩,hk⟩;have w1:IntKind.i64.wrap n=n:=Zaf ω ω;have w2:IntKind.i64.wrap c=c:=Zaf ω ω;have x:((i.bytes:Nat):Int)*c<=140737488355328:=by rw [a5,Int.mul_comm];exact l
 have o:(decide (c<0)||decide ((i.bytes:Int)*c>2^48))=false:=by
  simp only [Bool.or_eq_false_iff,decide_eq_false_iff_not];constructor<;>omega
 simp only [Instr.makeSlice,Sem.run_bind,ZO w ht,Result.andThen_ok,asInt,asIntOf,Sem.run_pure,Zb0 w hi,w1,w2,o];have r:(false||decide (n<0)||decide (n>c))=false:=by
  simp only [Bool.false_or,Bool.or_eq_false_iff,decide_eq_false_iff_not];constructor<;>omega
 simp only [r,Bool.false_eq_true,if_false,Sem.run_bind,Result.andThen_ok,run_askRoom,ZaU w he];by_cases a:c.toNat*te.size=0
 ·have g:c.toNat=0:=by
   rcases Nat.mul_eq_zero.1 a with h|h
   ·exact h
   ·exact absurd h hz
  simp only [a,if_true];have j:(Array.range 0).map (fun _:Nat=>(default:Value))=#[]:=by apply Array.ext';simp
  simp [newRow,g,repl,hnew,j]
 ·simp only [a,if_false,Sem.run_bind,Zdq w hi f,Result.andThen_ok,Sem.run_pure];have a2:z.cells.size=te.size:=by rw [a1];simpa using a4
  have:=Zkn z.cells c.toNat ω;rw [a2] at this;simp only [a2];rw [this,a1];simp [newRow,hnew]
theorem Zgj {P:Program} {w:World} {z n c:Nat} {g:Option Addr} {news:List Value} (l:news.length=n*z)
  (f:∀ j u,news[j]?=some u->∃ a,g=some a/\hcell w.heap (a.add j)=some u):
  (Builtin.firstCells z n (.slice g n c)).run P w=.ok news.toArray w:=by
 cases g with
 | none=>
  have:news=[]:=by
   cases news with
   | nil=>rfl
   | cons b r=>obtain ⟨p,hp,_⟩:=f 0 b rfl;cases hp
  subst this;rfl
 | some a=>
  simp only [Builtin.firstCells];rw [<-l];exact Zks w news fun j u k=>by
   obtain ⟨p,hp,h⟩:=f j u k;cases hp;exact h
theorem ZFQ {P:Program} {w:World} {z n k c:Nat} {g:Option Addr} {news:List Value} (o:news.length=n*z)
  (f:∀ j u,news[j]?=some u->∃ a,g=some a/\hcell w.heap (a.add j)=some u):
  (Builtin.firstCells z n (.slice g k c)).run P w=.ok news.toArray w:=by
 cases g with
 | none=>
  have:news=[]:=by
   cases news with
   | nil=>rfl
   | cons b r=>obtain ⟨p,hp,_⟩:=f 0 b rfl;cases hp
  subst this;rfl
 | some a=>
  simp only [Builtin.firstCells];rw [<-o];exact Zks w news fun j u l=>by
   obtain ⟨p,hp,h⟩:=f j u l;cases hp;exact h
theorem ZEg {t t' el al:TypeId} {te:TE} {ty:TypeId} (ht:C.P.underlying t=some (.slice el)) (a8:C.P.underlying t'=some (.slice al)) (he:TeOk C.P el te)
  (hz:te.size≠0) (aj:te.zero.length=te.size) {s x:Value} {w:World} {K:Value->Heap->Prop} (h:vAppend te.size te.bytes te.zero el s x w.heap K):
  ∃ v w',(Builtin.append_ #[t,t'] ty #[s,x]).run C.P w=.ok v w'/\Rest w w'/\K v w'.heap:=by
 unfold vAppend at h;split at h
 ·rename_i a5 n c ag m mc;obtain ⟨old,news,h1,f,g,j,h5,h6,h7,h8,h9,k,l⟩:=h;obtain ⟨i,z,hi,az,ao,o,ae⟩:=ZeP he;have a4:(Builtin.firstCells te.size m (.slice ag m mc)).run C.P w=.ok news.toArray w:=Zgj f j;have aq:(Builtin.firstCells te.size n (.slice a5 n c)).run C.P w=.ok old.toArray w:=Zgj h1 g;by_cases a1:n+m<=c
  ·cases a5 with
   | none=>
    refine ⟨_,w,?_,Rest.refl w,k a1 rfl⟩;simp [Builtin.append_,ZO w ht,ZO w a8,ZaU w he,Builtin.lenOf,a1,a4]
   | some a=>
    obtain ⟨_,ak⟩:=h9 a1 a rfl;obtain ⟨w',hr,aa,hk⟩:=ZhF (P:=C.P) _ _ w _ ak;refine ⟨_,w',?_,aa,hk⟩;simp [Builtin.append_,ZO w ht,ZO w a8,ZaU w he,Builtin.lenOf,a1,a4,hr]
  ·have af:c<n+m:=ω;have av:=growslice_fits (old:=c) af h7;obtain ⟨a3,hcapd⟩:∃ a3,a3=(Question.appendCap (n+m) c el).cut (w.tape w.drawn (.appendCap (n+m) c el)):=⟨_,rfl⟩
   have r:n+m<=a3:=by rw [hcapd];simp only [Question.cut];omega
   have u:a3<=9223372036854775807:=by
    rw [hcapd];simp only [Question.cut];have:=Nat.mod_lt (w.tape w.drawn (.appendCap (n+m) c el)) (show 0<2^63-(n+m) by omega);omega
   refine ⟨_,{ w with heap:=w.heap.push (.cells (old++news++repl (a3-(n+m)) te.zero).toArray el),drawn:=w.drawn+1 },?_,⟨rfl,rfl,rfl,Nat.le_succ _⟩,l af a3 r u⟩;have a7:¬ (((n+m:Nat):Int)>IntKind.i64.max):=by
    have:IntKind.i64.max=9223372036854775807:=rfl;rw [this];omega
   have b0:z.cells.size=te.size:=by rw [ae];simpa using aj
   have ab:Builtin.zeroCells z.cells (a3-(n+m))=(repl (a3-(n+m)) te.zero).toArray:=by
    unfold Builtin.zeroCells;rw [Zkn z.cells _ ω,ae]
   let w1:World:={ w with drawn:=w.drawn+1 }
   have a6:(Builtin.firstCells te.size m (.slice ag m mc)).run C.P w1=.ok news.toArray w1:=Zgj (w:=w1) f j;have ac:(Builtin.firstCells te.size n (.slice a5 n c)).run C.P w1=.ok old.toArray w1:=Zgj (w:=w1) h1 g;have am:(choose (.appendCap (n+m) c el)).run C.P w=.ok a3 w1:=by
    simp [choose,Sem.run,Question.forced,hcapd,w1]
   have ad:¬ (Builtin.nextslicecap (n+m) c*i.bytes>281474976710656):=by rw [ao];omega
   have ap:¬ (((n+m:Nat):Int)>IntKind.i64.max/\(false=true\/i.bytes=0)):=fun h=>a7 h.1;simp only [Builtin.append_,Sem.run_bind,ZO w ht,ZO w a8,Result.andThen_ok,ZaU w he,Builtin.lenOf,Sem.run_pure,a1,if_false,
    List.getElem?_toArray,List.getElem?_cons_zero,List.getElem?_cons_succ,Bool.false_eq_true,Zb0 w hi,Nat.reducePow]
   rw [if_neg (fun h=>a7 h.1)];simp only [Sem.run_bind,Zb0 w hi,Result.andThen_ok];rw [if_neg ad];have y:(typeInfo el).run C.P w1=.ok i w1:=Zb0 w1 hi;have a0:(zeroValue el).run C.P w1=.ok z w1:=Zdq w1 hi o;simp only [Sem.run_bind,am,y,Result.andThen_ok,run_askRoom,ac,Bool.not_false,if_true,a6,a0,ab];simp [newRow,hnew,w1];rfl
 ·exact h.elim
theorem ZjY {g:TE} (h:teGood g=true):g.size≠0/\g.zero.length=g.size:=by
 simp only [teGood,Bool.and_eq_true,Bool.not_eq_true'] at h;exact ⟨fun a=>by rw [a] at h;simp at h,Nat.eq_of_beq_eq_true h.2⟩
theorem Zyo {t el:TypeId} {g:TE} {ty:TypeId} (o:C.P.underlying t=some (.slice el)) (he:TeOk C.P el g)
  (hz:g.size≠0) (r:g.zero.length=g.size) {x:Value} {w:World} {K:Value->Heap->Prop} (h:vClear g.zero x w.heap K):
  ∃ v w',(Builtin.clear_ #[t] ty #[x]).run C.P w=.ok v w'/\Rest w w'/\K v w'.heap:=by
 obtain ⟨i,z,hi,a2,a4,f,l⟩:=ZeP he;have a3:z.cells.size=g.size:=by rw [l];simpa using r
 unfold vClear at h;split at h
 ·rename_i a n c;obtain ⟨w',u,j,hk⟩:=ZhF (P:=C.P) _ _ w _ h;refine ⟨_,w',?_,j,hk⟩;cases n with
  | zero=>
   have:w'=w:=by simpa [repl,storeCells] using u.symm
   subst this;simp [Builtin.clear_,ZO w' o]
  | succ n=>
   have k:Builtin.zeroCells z.cells (n+1)=(repl (n+1) g.zero).toArray:=by
    unfold Builtin.zeroCells;rw [Zkn z.cells _ ω,l]
   simp [Builtin.clear_,ZO w o,Zdq w hi f,k,u]
 ·rename_i n c;refine ⟨_,w,?_,Rest.refl w,h⟩;simp [Builtin.clear_,ZO w o]
 ·exact h.elim
theorem ZCR {t t' el:TypeId} {l:TE} {ty:TypeId} (u:C.P.underlying t=some (.slice el)) (r:TeOk C.P el l) {d x:Value} {w:World} {K:Value->Heap->Prop} (h:vCopy l.size d x w.heap K):
  ∃ v w',(Builtin.copy_ #[t,t'] ty #[d,x]).run C.P w=.ok v w'/\Rest w w'/\K v w'.heap:=by
 unfold vCopy at h;split at h
 ·rename_i o n c a0 m mc;obtain ⟨cs,h1,f,g,i⟩:=h;have j:(Builtin.firstCells l.size (Nat.min m n) (.slice a0 m mc)).run C.P w=.ok cs.toArray w:=ZFQ h1 f;cases o with
  | none=>
   refine ⟨_,w,?_,Rest.refl w,g rfl⟩;simp [Builtin.copy_,ZO w u,ZaU w r,Builtin.lenOf,j,goInt]
  | some a=>
   obtain ⟨w',hr,k,hk⟩:=ZhF (P:=C.P) _ _ w _ (i a rfl);refine ⟨_,w',?_,k,hk⟩;simp [Builtin.copy_,ZO w u,ZaU w r,Builtin.lenOf,j,hr,goInt]
 ·exact h.elim
theorem Zwg {k:TK} {K:Value->Prop} (h:exV1 k K):∃ v,K v:=by
 unfold exV1 at h;split at h<;>(obtain ⟨x,a⟩:=h;exact ⟨_,a⟩)
theorem Zsi:∀ (ks:List TK) (K:List Value->Prop),exVL ks K->∃ vs,K vs
 | [],_,h=>⟨[],h⟩
 | _::ks,_,h=>by
  obtain ⟨v,a⟩:=Zwg h;obtain ⟨vs,g⟩:=Zsi ks _ a;exact ⟨_,g⟩
theorem Zoq:∀ (cs:List (Bool×List TK)) (K:List Value->Prop),exVC cs K->∃ vs,K vs
 | [],_,h=>⟨[],h⟩
 | (true,ks)::cs,_,h=>by
  obtain ⟨vs,a⟩:=Zsi ks _ h;obtain ⟨l,g⟩:=Zoq cs _ a;exact ⟨_,g⟩
 | (false,ks)::cs,_,h=>by
  simp only [exVC,cond_false] at h;split at h
  ·obtain ⟨v,a⟩:=Zwg h;obtain ⟨l,g⟩:=Zoq cs _ a;exact ⟨_,g⟩
  ·exact h.elim
theorem Zuc {rs:RS} {K:Value->Prop} (h:exRS rs K):∃ v,K v:=by
 unfold exRS at h;obtain ⟨vs,a⟩:=Zoq _ _ h;cases c:rs.tup
 ·rw [c] at a;simp only [cond_false] at a;split at a
  ·exact ⟨_,a⟩
  ·exact a.elim
 ·rw [c] at a;exact ⟨_,a⟩
theorem Zzn {t t' el:TypeId} {te:TE} {ty:TypeId} {ik kx:IntKind} (ht:C.P.underlying t=some (.slice el)) (a8:C.P.underlying t'=some (.int ik)) (he:TeOk C.P el te)
  (hz:te.size≠0) (a6:te.zero.length=te.size) {s:Value} {x:Int} {w:World} {K:Value->Heap->Prop} (h:vAppZ te.size te.bytes te.zero el s x w.heap K):
  ∃ v w',(Builtin.append_ #[t,t'] ty #[s,.int kx x]).run C.P w=.ok v w'/\Rest w w'/\K v w'.heap:=by
 unfold vAppZ at h;split at h
 ·rename_i a2 n c;obtain ⟨u,old,h1,o,f,r,a,g⟩:=h;obtain ⟨i,z,hi,a7,a4,j,a3⟩:=ZeP he;obtain ⟨k,rfl⟩:∃ k:Nat,x=(k:Int):=⟨x.toNat,by omega⟩
  rw [Int.toNat_natCast] at f r a g;have ag:z.cells.size=te.size:=by rw [a3];simpa using a6
  have a1:∀ m,Builtin.zeroCells z.cells m=(repl m te.zero).toArray:=fun m=>by
   unfold Builtin.zeroCells;rw [Zkn z.cells _ ω,a3]
  have a5:(Builtin.firstCells i.size n (.slice a2 n c)).run C.P w.drew=.ok old.toArray w.drew:=by
   rw [a7];exact Zgj (w:=w.drew) h1 o
  have af:k*i.bytes<=(n+k)*te.bytes:=by rw [a4];exact Nat.mul_le_mul_right _ ω
  have hr:=Lib.run_append_grow_zeros (P:=C.P) w t t' ty el i z kx ik ht a8 hi j a2 n c old a5 k ω ω a ω ω (by rw [a4];exact growslice_fits a f);refine ⟨_,_,hr,⟨rfl,rfl,rfl,Nat.le_succ _⟩,?_⟩;have hg:=grownCap_ge w (n+k) c el;have l:=grownCap_le_maxLen w (n+k) c el (by unfold maxLen;omega);unfold maxLen at l;have hk:=g (grownCap w (n+k) c el) hg ω;rw [a1,a1];have e:old.toArray++(repl k te.zero).toArray++(repl (grownCap w (n+k) c el-(n+k)) te.zero).toArray=(old++repl k te.zero++repl (grownCap w (n+k) c el-(n+k)) te.zero).toArray:=by simp
  rw [e];exact hk
 ·exact h.elim
theorem ZI2 (hC:CtxOk C) {g:Nat} (hg:inL C.ov g=true) {a0:List Value} {w:World} {K:Prop} (h:vOv a0 w.heap K):
  (callFunc g a0.toArray).run C.P w=.ok (.value (.bool false)) w/\K:=by
 obtain ⟨fn,tS,tR,el,te,c,i,j,k,l,o,r⟩:=hC.ovs g hg;unfold vOv at h;split at h
 ·rename_i a la ca b lb cb;obtain ⟨h1,s,⟨cs,t,f,u,v⟩,⟨a1,t',f',x,y⟩,hk⟩:=h;refine ⟨?_,hk⟩;rw [run_callFunc_extern c j i k l];have:=Lib.run_overlaps_apart (P:=C.P) w tS tR el o te.size (fun w=>ZaU w r) a b la ca lb cb h1 t t' cs.size a1.size (by simp [World.shape?,u]) (by simp [World.shape?,x]) y s v;rw [this];rfl
 ·exact h.elim
theorem ZtV (hC:CtxOk C) {o:Oper} {h:Heap} {K:Value->Heap->Prop} (hh:vEff C o.op o.type e h K) (a:Act) (ha:a.eval=ev e) (w:World) (hw:w.heap=h):
  o.wp C.P a w (fun a' w'=>∃ v,a'=a.put o.dst v/\RestQ C.q w w'/\K v w'.heap) Bot:=by
 subst hw;obtain ⟨al,op,ad,pos,af,ah⟩:=o;simp only at hh ⊢;unfold Oper.wp;rw [ha];unfold vEff at hh;split at hh
 ·rename_i t x v;rw [ZsD] at hh;obtain ⟨w',h1,j,y⟩:=ZB5 hC hh;simp only [execOp,Sem.run_bind,h1,Result.andThen_ok,Sem.run_pure,Oper.upon];exact ⟨undef,rfl,j.q,y⟩
 ·rename_i t;split at hh
  ·rename_i te ht;obtain ⟨i,z,hi,_,_,a5,bf⟩:=ZeP (hC.tab _ _ ht);simp only [execOp,Instr.alloc,Sem.run_bind,Zdq w hi a5,Result.andThen_ok,newVar,newRow,run_newObj,Sem.run_pure,Oper.upon];refine ⟨_,rfl,⟨rfl,rfl,rfl,fun _=>Nat.le_refl _⟩,?_⟩;rw [bf];exact hh _ _ rfl rfl
  ·exact hh.elim
 ·rename_i t x;rw [ZsD] at hh;unfold vBox at hh;split at hh
  ·rename_i te ht;obtain ⟨h1,_⟩:=ZpG hh;simp only [execOp,Instr.box,Sem.run_bind,Result.andThen_ok,newVar,newRow,run_newObj,Sem.run_pure,Oper.upon];exact ⟨_,rfl,⟨rfl,rfl,rfl,fun _=>Nat.le_refl _⟩,by simpa [hnew] using h1 _ _ rfl rfl⟩
  ·exact hh.elim
 ·rename_i t len am;split at hh
  ·rename_i el ks z0 b0 ht;split at hh
   ·rename_i te he;obtain ⟨hb,hh⟩:=Zar hh;rw [Zm7] at hh;simp only [Bool.and_eq_true,Bool.not_eq_true'] at hb;obtain ⟨⟨a8,a9⟩,aa⟩:=hb;have a8:=Nat.eq_of_beq_eq_true a8;have a9:=Nat.le_of_ble_eq_true a9;have c7:te.size≠0:=fun h0=>by rw [h0] at aa;simp at aa
    have hT:=hC.tab _ _ he;obtain ⟨i,z,hi,c0,_,a5,bf⟩:=ZeP hT;have bb:(evp e am.toList).length=len:=by rw [Zqy];simpa using a8
    have az:(am.map fun (x:Nat×Operand)=>(x.1,ev e x.2)).toList=evp e am.toList:=by rw [Zqy];simp
    have hu:=ZaD (hC.tab _ _ ht).1;have bn:¬ (len*te.size>2^24):=ω;obtain ⟨ae,a3⟩:∃ ae:Array Value,ae=(Array.range (len*te.size)).map (fun i=>(if len*te.size=0 then #[] else z.cells)[i%(if len*te.size=0 then #[] else z.cells).size]!):=⟨_,rfl⟩
    have b8:ae.size=len*te.size:=by rw [a3];simp
    obtain ⟨l,h1,j,y⟩:=Zsu _ 0 ae.toList _ hh (by rw [bb];simp [b8]);have bj:(setAt ae.toList (0*te.size) l).toArray=l.toArray:=by
     unfold setAt;rw [bb] at j;congr 1;simp only [Nat.zero_mul,List.take_zero,List.nil_append,Nat.zero_add];rw [List.drop_of_length_le (by simp [b8,j])];simp
    rw [bj] at y;simp only [execOp,Instr.buildSlice,Sem.run_bind,ZO w hu,Result.andThen_ok,ZaU w hT,bn,if_false];have bd:Instr.fill (fun i=>some (i*te.size,te.size)) ae (evp e am.toList)=some l.toArray:=by simpa using y
    by_cases h0:len*te.size=0
    ·rw [if_pos h0] at a3;rw [if_pos h0];simp only [Sem.run_bind,Sem.run_pure,Result.andThen_ok];rw [az,<-a3,bd];simp only [Sem.run_bind,newRow,run_newObj,Sem.run_pure,Result.andThen_ok,Oper.upon];exact ⟨_,rfl,⟨rfl,rfl,rfl,fun _=>Nat.le_refl _⟩,(ZfM _ _).mp h1 _ _ rfl rfl⟩
    ·rw [if_neg h0] at a3;rw [if_neg h0];simp only [Sem.run_bind,Zdq w hi a5,Sem.run_pure,Result.andThen_ok];rw [az,<-a3,bd];simp only [Sem.run_bind,newRow,run_newObj,Sem.run_pure,Result.andThen_ok,Oper.upon];exact ⟨_,rfl,⟨rfl,rfl,rfl,fun _=>Nat.le_refl _⟩,(ZfM _ _).mp h1 _ _ rfl rfl⟩
   ·exact hh.elim
  ·exact hh.elim
 ·rename_i t l c;split at hh
  ·rename_i el ks z0 b0 k n k' m ht hl hc;split at hh
   ·rename_i te he;obtain ⟨hg,hh⟩:=Zar hh;obtain ⟨a0,a1⟩:=ZjY hg;obtain ⟨v,w',h1,j,y⟩:=ZIf (C:=C) (k:=k) (k':=k') (ZaD (hC.tab _ _ ht).1) (hC.tab _ _ he) a0 a1 hh;simp only [execOp,hl,hc,Sem.run_bind,h1,Result.andThen_ok,Sem.run_pure,Oper.upon];exact ⟨v,rfl,j.q,y⟩
   ·exact hh.elim
  ·exact hh.elim
 ·rename_i a6 a4;split at hh
  ·rename_i s x t t' ab aq;have ax:a6=#[s,x]:=by apply Array.ext';simpa using ab
   have ap:a4=#[t,t']:=by apply Array.ext';simpa using aq
   subst ax ap;split at hh
   ·rename_i el ks z0 b0 c8 be br bt ht b9;split at hh
    ·rename_i te he;obtain ⟨hg,hh⟩:=Zar hh;obtain ⟨a0,a1⟩:=ZjY hg;obtain ⟨v,w',h1,j,y⟩:=ZEg (C:=C) (ty:=ad) (ZaD (hC.tab _ _ ht).1) (ZaD (hC.tab _ _ b9).1) (hC.tab _ _ he) a0 a1 hh;have:(execOp (ev e) ⟨al,.call ⟨.builtin .append,#[s,x],#[t,t']⟩,ad,pos,af,ah⟩).run C.P w=.ok (.value v) w':=by
      simp [execOp,resolve,invoke,builtin,h1]
     rw [this];exact ⟨v,rfl,j.q,y⟩
    ·exact hh.elim
   ·rename_i el ks z0 b0 ik be br bt ht b9;split at hh
    ·rename_i te kx n he hx;obtain ⟨hg,hh⟩:=Zar hh;obtain ⟨a0,a1⟩:=ZjY hg;obtain ⟨v,w',h1,j,y⟩:=Zzn (C:=C) (ty:=ad) (kx:=kx) (ZaD (hC.tab _ _ ht).1) (Zd7 (hC.tab _ _ b9).1) (hC.tab _ _ he) a0 a1 hh;have:(execOp (ev e) ⟨al,.call ⟨.builtin .append,#[s,x],#[t,t']⟩,ad,pos,af,ah⟩).run C.P w=.ok (.value v) w':=by
      simp [execOp,resolve,invoke,builtin,hx,h1]
     rw [this];exact ⟨v,rfl,j.q,y⟩
    ·exact hh.elim
   ·exact hh.elim
  ·exact hh.elim
 ·rename_i a6 a4;split at hh
  ·rename_i x t ab aq;have ax:a6=#[x]:=by apply Array.ext';simpa using ab
   have ap:a4=#[t]:=by apply Array.ext';simpa using aq
   subst ax ap;split at hh
   ·rename_i el ks z0 b0 ht;split at hh
    ·rename_i te he;obtain ⟨hg,hh⟩:=Zar hh;obtain ⟨a0,a1⟩:=ZjY hg;obtain ⟨v,w',h1,j,y⟩:=Zyo (C:=C) (ty:=ad) (ZaD (hC.tab _ _ ht).1) (hC.tab _ _ he) a0 a1 hh;have:(execOp (ev e) ⟨al,.call ⟨.builtin .clear,#[x],#[t]⟩,ad,pos,af,ah⟩).run C.P w=.ok (.value v) w':=by
      simp [execOp,resolve,invoke,builtin,h1]
     rw [this];exact ⟨v,rfl,j.q,y⟩
    ·exact hh.elim
   ·exact hh.elim
  ·exact hh.elim
 ·rename_i a6 a4;split at hh
  ·rename_i d x t t' ab aq;have ax:a6=#[d,x]:=by apply Array.ext';simpa using ab
   have ap:a4=#[t,t']:=by apply Array.ext';simpa using aq
   subst ax ap;split at hh
   ·rename_i el ks z0 b0 ht;split at hh
    ·rename_i te he;obtain ⟨v,w',h1,j,y⟩:=ZCR (C:=C) (t':=t') (ty:=ad) (ZaD (hC.tab _ _ ht).1) (hC.tab _ _ he) hh;have:(execOp (ev e) ⟨al,.call ⟨.builtin .copy,#[d,x],#[t,t']⟩,ad,pos,af,ah⟩).run C.P w=.ok (.value v) w':=by
      simp [execOp,resolve,invoke,builtin,h1]
     rw [this];exact ⟨v,rfl,j.q,y⟩
    ·exact hh.elim
   ·exact hh.elim
  ·exact hh.elim
 ·rename_i f a6 a4;split at hh
  ·rename_i g hg;cases hin:inL C.ov g with
   | true=>
    rw [hin] at hh;simp only [cond_true] at hh;obtain ⟨w1,w2⟩:=ZI2 (C:=C) hC hin hh;have hf:f=.func g:=by cases f<;>simp [opF] at hg;rw [hg]
    have ab:(#[]:Array Value)++a6.map (ev e)++#[]=(evs e a6.toList).toArray:=by
     apply Array.ext';rw [Zhe];simp
    have hr:(execOp (ev e) ⟨al,.call ⟨.value f,a6,a4⟩,ad,pos,af,ah⟩).run C.P w=.ok (.value (.bool false)) w:=by
     subst hf;have bp:ev e (.func g)=.func (.func g) #[] #[]:=rfl;simp only [execOp,resolve,Sem.run_bind,bp,Deferred.ofValue,Sem.run_pure,Result.andThen_ok,invoke,ab,w1]
    rw [hr];exact ⟨_,rfl,RestQ.refl w,w2⟩
   | false=>
    rw [hin] at hh;simp only [cond_false,Zh1] at hh;unfold vCall vFn at hh;split at hh
    ·rename_i g first a7 hf
     obtain ⟨hg,hh⟩:=Zvo hh;obtain ⟨fn,b6,au,aw⟩:=hC.fns g hg;have hr:(execOp (ev e) ⟨al,.call ⟨.value f,a6,a4⟩,ad,pos,af,ah⟩).run C.P w =
       .ok (.enter g (first.toList++evs e a6.toList++a7.toList).toArray) w:=by
      have hb:fn.body.isNone=false:=by cases hb:fn.body<;>simp [hb] at au ⊢
      have ab:first++a6.map (ev e)++a7=(first.toList++evs e a6.toList++a7.toList).toArray:=by
       apply Array.ext';rw [Zhe];simp
      simp only [execOp,resolve,Sem.run_bind,hf,Deferred.ofValue,Sem.run_pure,Result.andThen_ok,invoke,callFunc,run_program,b6,aw,hb,Bool.false_eq_true,if_false,ab]
     rw [hr];simp only [Oper.upon];refine (hh w rfl).mono ?_;rintro e1 w' ⟨v,rfl,av,hk⟩;obtain ⟨u,rfl,hk⟩:=Zuc hk;exact ⟨v,rfl,av,hk⟩
    ·exact hh.elim
  ·rw [Zh1] at hh;unfold vCall vFn at hh;split at hh
   ·rename_i g first a7 hf
    obtain ⟨hg,hh⟩:=Zvo hh;obtain ⟨fn,b6,au,aw⟩:=hC.fns g hg;have hr:(execOp (ev e) ⟨al,.call ⟨.value f,a6,a4⟩,ad,pos,af,ah⟩).run C.P w =
      .ok (.enter g (first.toList++evs e a6.toList++a7.toList).toArray) w:=by
     have hb:fn.body.isNone=false:=by cases hb:fn.body<;>simp [hb] at au ⊢
     have ab:first++a6.map (ev e)++a7=(first.toList++evs e a6.toList++a7.toList).toArray:=by
      apply Array.ext';rw [Zhe];simp
     simp only [execOp,resolve,Sem.run_bind,hf,Deferred.ofValue,Sem.run_pure,Result.andThen_ok,invoke,callFunc,run_program,b6,aw,hb,Bool.false_eq_true,if_false,ab]
    rw [hr];simp only [Oper.upon];refine (hh w rfl).mono ?_;rintro e1 w' ⟨v,rfl,av,hk⟩;obtain ⟨u,rfl,hk⟩:=Zuc hk;exact ⟨v,rfl,av,hk⟩
   ·exact hh.elim
 ·rename_i t r;split at hh
  ·rename_i kt et ks z b ht;have hu:=Zos (hC.tab _ _ ht).1;have hr:∀ q:Option Value,(q=none\/∃ k n,q=some (.int k n))->(Instr.makeMap t q).run C.P w=.ok (.map (some w.heap.size)) { w with heap:=w.heap.push (.map #[] 0) }:=by
    rintro q (rfl|⟨k,n,rfl⟩)
    ·simp [Instr.makeMap]
    ·simp [Instr.makeMap,ZO w hu,asInt,asIntOf]
   rw [Zdf] at hh;split at hh
   ·rename_i hq;simp only [execOp,Sem.run_bind,hr (r.map (ev e)) (.inl hq),Result.andThen_ok,Sem.run_pure,Oper.upon];exact ⟨_,rfl,⟨rfl,rfl,rfl,fun _=>Nat.le_refl _⟩,hh _ _ rfl rfl⟩
   ·rename_i k n hq;simp only [execOp,Sem.run_bind,hr (r.map (ev e)) (.inr ⟨k,n,hq⟩),Result.andThen_ok,Sem.run_pure,Oper.upon];exact ⟨_,rfl,⟨rfl,rfl,rfl,fun _=>Nat.le_refl _⟩,hh _ _ rfl rfl⟩
   ·exact hh.elim
  ·exact hh.elim
 ·rename_i t m k x;obtain ⟨w',h1,j,y⟩:=Zvy hC hh;simp only [execOp,Sem.run_bind,h1,Result.andThen_ok,Sem.run_pure,Oper.upon];exact ⟨undef,rfl,j.q,y⟩
 ·rename_i t m k x;obtain ⟨w',h1,j,y⟩:=Zvy hC hh;simp only [execOp,Sem.run_bind,h1,Result.andThen_ok,Sem.run_pure,Oper.upon];exact ⟨undef,rfl,j.q,y⟩
 ·rename_i c9 al x;split at hh
  ·rename_i ks z b el be z' b' s hs hd hx;split at hh
   ·rename_i ag z2 b2 bu;obtain ⟨v,w',h1,j,y⟩:=ZxU (C:=C) (ZcH (hC.tab _ _ hs).1) (ZaD (hC.tab _ _ hd).1) (Zd7 (hC.tab _ _ bu).1) hh;simp only [execOp,Sem.run_bind,hx,h1,Result.andThen_ok,Sem.run_pure,Oper.upon];exact ⟨v,rfl,j.q,y⟩
   ·exact hh.elim
  ·exact hh.elim
 ·exact hh.elim
end
end Go.Vc
