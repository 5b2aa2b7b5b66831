import Derived.Test.YtahnjnfpjcfklaaGreatDoorVcSb
import Derived.Lib.AppendZerosOnto
import Derived.Lib.Overlaps
namespace Go.Vc
set_option linter.unusedVariables false
set_option linter.unusedSimpArgs false
open Go
section
variable {C:Ctx} {e:Env}
theorem Zd1 {P:Program} {t:TypeId} {k:TE} (h:TeOk P t k):∃ i z,P.info? t=some i/\i.size=k.size/\i.bytes=k.bytes/\i.zero=some z/\z.cells=k.zero.toArray:=by
 obtain ⟨i,z,h1,a,f,g,j⟩:=h.info;exact ⟨i,z,h1,a,f,g,by apply Array.ext';simpa using j⟩
theorem ZDS {t el:TypeId} {te:TE} (ht:C.P.underlying t=some (.slice el)) (he:TeOk C.P el te) (hz:te.size≠0) (a5:te.zero.length=te.size) {n c:Int} {k k':IntKind} {w:World}
  {K:Value->Heap->Prop} (h:vMake te.bytes te.zero el n c w.heap K):
  ∃ v w',(Instr.makeSlice t (.int k n) (.int k' c)).run C.P w=.ok v w'/\Rest w w'/\K v w'.heap:=by
 obtain ⟨⟨h1,s,l,u⟩,hk⟩:=h;obtain ⟨i,z,hi,aa,a7,f,a4⟩:=Zd1 he;refine ⟨_,{ w with heap:=w.heap.push (.cells (repl c.toNat te.zero).toArray el) },?_,⟨rfl,rfl,rfl,Nat.le_refl _⟩,hk⟩;have w1:IntKind.i64.wrap n=n:=Zbd ω ω;have w2:IntKind.i64.wrap c=c:=Zbd ω ω;have x:((i.bytes:Nat):Int)*c<=140737488355328:=by rw [a7,Int.mul_comm];exact l
 have o:(decide (c<0)||decide ((i.bytes:Int)*c>2^48))=false:=by
  simp only [Bool.or_eq_false_iff,decide_eq_false_iff_not];constructor<;>omega
 simp only [Instr.makeSlice,Sem.run_bind,ZW w ht,Result.andThen_ok,asInt,asIntOf,Sem.run_pure,Zcf w hi,w1,w2,o];have r:(false||decide (n<0)||decide (n>c))=false:=by
  simp only [Bool.false_or,Bool.or_eq_false_iff,decide_eq_false_iff_not];constructor<;>omega
 simp only [r,Bool.false_eq_true,if_false,Sem.run_bind,Result.andThen_ok,run_askRoom,ZaO w he];by_cases a:c.toNat*te.size=0
 ·have g:c.toNat=0:=by
   rcases Nat.mul_eq_zero.1 a with h|h
   ·exact h
   ·exact absurd h hz
  simp only [a,if_true];have j:(Array.range 0).map (fun _:Nat=>(default:Value))=#[]:=by apply Array.ext';simp
  simp [newRow,g,repl,hnew,j]
 ·simp only [a,if_false,Sem.run_bind,Zdm w hi f,Result.andThen_ok,Sem.run_pure];have a3:z.cells.size=te.size:=by rw [a4];simpa using a5
  have:=Ziw z.cells c.toNat ω;rw [a3] at this;simp only [a3];rw [this,a4];simp [newRow,hnew]
theorem Zhu {P:Program} {w:World} {z n c:Nat} {g:Option Addr} {news:List Value} (k:news.length=n*z)
  (f:∀ j u,news[j]?=some u->∃ a,g=some a/\hcell w.heap (a.add j)=some u):
  (Builtin.firstCells z n (.slice g n c)).run P w=.ok news.toArray w:=by
 cases g with
 | none=>
  have:news=[]:=by
   cases news with
   | nil=>rfl
   | cons b r=>obtain ⟨p,hp,_⟩:=f 0 b rfl;cases hp
  subst this;rfl
 | some a=>
  simp only [Builtin.firstCells];rw [<-k];exact ZiC w news fun j u l=>by
   obtain ⟨p,hp,h⟩:=f j u l;cases hp;exact h
theorem ZA0 {P:Program} {w:World} {z n k c:Nat} {g:Option Addr} {news:List Value} (l:news.length=n*z)
  (f:∀ j u,news[j]?=some u->∃ a,g=some a/\hcell w.heap (a.add j)=some u):
  (Builtin.firstCells z n (.slice g k c)).run P w=.ok news.toArray w:=by
 cases g with
 | none=>
  have:news=[]:=by
   cases news with
   | nil=>rfl
   | cons b r=>obtain ⟨p,hp,_⟩:=f 0 b rfl;cases hp
  subst this;rfl
 | some a=>
  simp only [Builtin.firstCells];rw [<-l];exact ZiC w news fun j u o=>by
   obtain ⟨p,hp,h⟩:=f j u o;cases hp;exact h
theorem ZFL {t t' el ap:TypeId} {te:TE} {ty:TypeId} (ht:C.P.underlying t=some (.slice el)) (aa:C.P.underlying t'=some (.slice ap)) (he:TeOk C.P el te)
  (hz:te.size≠0) (ao:te.zero.length=te.size) {s x:Value} {w:World} {K:Value->Heap->Prop} (h:vAppend te.size te.bytes te.zero el s x w.heap K):
  ∃ v w',(Builtin.append_ #[t,t'] ty #[s,x]).run C.P w=.ok v w'/\Rest w w'/\K v w'.heap:=by
 unfold vAppend at h;split at h
 ·rename_i a7 n c ag m mc;obtain ⟨old,news,h1,f,g,j,h5,h6,h7,h8,h9,k,l⟩:=h;obtain ⟨i,z,hi,b1,aq,o,ai⟩:=Zd1 he;have a6:(Builtin.firstCells te.size m (.slice ag m mc)).run C.P w=.ok news.toArray w:=Zhu f j;have ay:(Builtin.firstCells te.size n (.slice a7 n c)).run C.P w=.ok old.toArray w:=Zhu h1 g;by_cases a3:n+m<=c
  ·cases a7 with
   | none=>
    refine ⟨_,w,?_,Rest.refl w,k a3 rfl⟩;simp [Builtin.append_,ZW w ht,ZW w aa,ZaO w he,Builtin.lenOf,a3,a6]
   | some a=>
    obtain ⟨_,ak⟩:=h9 a3 a rfl;obtain ⟨w',hr,ad,hk⟩:=ZgP (P:=C.P) _ _ w _ ak;refine ⟨_,w',?_,ad,hk⟩;simp [Builtin.append_,ZW w ht,ZW w aa,ZaO w he,Builtin.lenOf,a3,a6,hr]
  ·have ah:c<n+m:=ω;have aw:=growslice_fits (old:=c) ah h7;obtain ⟨a4,hcapd⟩:∃ a4,a4=(Question.appendCap (n+m) c el).cut (w.tape w.drawn (.appendCap (n+m) c el)):=⟨_,rfl⟩
   have r:n+m<=a4:=by rw [hcapd];simp only [Question.cut];omega
   have u:a4<=9223372036854775807:=by
    rw [hcapd];simp only [Question.cut];have:=Nat.mod_lt (w.tape w.drawn (.appendCap (n+m) c el)) (show 0<2^63-(n+m) by omega);omega
   refine ⟨_,{ w with heap:=w.heap.push (.cells (old++news++repl (a4-(n+m)) te.zero).toArray el),drawn:=w.drawn+1 },?_,⟨rfl,rfl,rfl,Nat.le_succ _⟩,l ah a4 r u⟩;have a9:¬ (((n+m:Nat):Int)>IntKind.i64.max):=by
    have:IntKind.i64.max=9223372036854775807:=rfl;rw [this];omega
   have b2:z.cells.size=te.size:=by rw [ai];simpa using ao
   have ae:Builtin.zeroCells z.cells (a4-(n+m))=(repl (a4-(n+m)) te.zero).toArray:=by
    unfold Builtin.zeroCells;rw [Ziw z.cells _ ω,ai]
   let w1:World:={ w with drawn:=w.drawn+1 }
   have a8:(Builtin.firstCells te.size m (.slice ag m mc)).run C.P w1=.ok news.toArray w1:=Zhu (w:=w1) f j;have ac:(Builtin.firstCells te.size n (.slice a7 n c)).run C.P w1=.ok old.toArray w1:=Zhu (w:=w1) h1 g;have al:(choose (.appendCap (n+m) c el)).run C.P w=.ok a4 w1:=by
    simp [choose,Sem.run,Question.forced,hcapd,w1]
   have ab:¬ (Builtin.nextslicecap (n+m) c*i.bytes>281474976710656):=by rw [aq];omega
   have ar:¬ (((n+m:Nat):Int)>IntKind.i64.max/\(false=true\/i.bytes=0)):=fun h=>a9 h.1;simp only [Builtin.append_,Sem.run_bind,ZW w ht,ZW w aa,Result.andThen_ok,ZaO w he,Builtin.lenOf,Sem.run_pure,a3,if_false,
    List.getElem?_toArray,List.getElem?_cons_zero,List.getElem?_cons_succ,Bool.false_eq_true,Zcf w hi,Nat.reducePow]
   rw [if_neg (fun h=>a9 h.1)];simp only [Sem.run_bind,Zcf w hi,Result.andThen_ok];rw [if_neg ab];have y:(typeInfo el).run C.P w1=.ok i w1:=Zcf w1 hi;have a2:(zeroValue el).run C.P w1=.ok z w1:=Zdm w1 hi o;simp only [Sem.run_bind,al,y,Result.andThen_ok,run_askRoom,ac,Bool.not_false,if_true,a8,a2,ae];simp [newRow,hnew,w1];rfl
 ·exact h.elim
theorem ZiX {g:TE} (h:teGood g=true):g.size≠0/\g.zero.length=g.size:=by
 simp only [teGood,Bool.and_eq_true,Bool.not_eq_true'] at h;exact ⟨fun a=>by rw [a] at h;simp at h,Nat.eq_of_beq_eq_true h.2⟩
theorem ZIk {t el:TypeId} {g:TE} {ty:TypeId} (o:C.P.underlying t=some (.slice el)) (he:TeOk C.P el g)
  (hz:g.size≠0) (u:g.zero.length=g.size) {x:Value} {w:World} {K:Value->Heap->Prop} (h:vClear g.zero x w.heap K):
  ∃ v w',(Builtin.clear_ #[t] ty #[x]).run C.P w=.ok v w'/\Rest w w'/\K v w'.heap:=by
 obtain ⟨i,z,hi,a4,a6,f,l⟩:=Zd1 he;have a5:z.cells.size=g.size:=by rw [l];simpa using u
 unfold vClear at h;split at h
 ·rename_i a n c;obtain ⟨w',r,j,hk⟩:=ZgP (P:=C.P) _ _ w _ h;refine ⟨_,w',?_,j,hk⟩;cases n with
  | zero=>
   have:w'=w:=by simpa [repl,storeCells] using r.symm
   subst this;simp [Builtin.clear_,ZW w' o]
  | succ n=>
   have k:Builtin.zeroCells z.cells (n+1)=(repl (n+1) g.zero).toArray:=by
    unfold Builtin.zeroCells;rw [Ziw z.cells _ ω,l]
   simp [Builtin.clear_,ZW w o,Zdm w hi f,k,r]
 ·rename_i n c;refine ⟨_,w,?_,Rest.refl w,h⟩;simp [Builtin.clear_,ZW w o]
 ·exact h.elim
theorem ZFu {t t' el:TypeId} {o:TE} {ty:TypeId} (r:C.P.underlying t=some (.slice el)) (he:TeOk C.P el o) {d x:Value} {w:World} {K:Value->Heap->Prop} (h:vCopy o.size d x w.heap K):
  ∃ v w',(Builtin.copy_ #[t,t'] ty #[d,x]).run C.P w=.ok v w'/\Rest w w'/\K v w'.heap:=by
 unfold vCopy at h;split at h
 ·rename_i l n c u m mc;obtain ⟨cs,h1,f,g,i⟩:=h;have j:(Builtin.firstCells o.size (Nat.min m n) (.slice u m mc)).run C.P w=.ok cs.toArray w:=ZA0 h1 f;cases l with
  | none=>
   refine ⟨_,w,?_,Rest.refl w,g rfl⟩;simp [Builtin.copy_,ZW w r,ZaO w he,Builtin.lenOf,j,goInt]
  | some a=>
   obtain ⟨w',hr,k,hk⟩:=ZgP (P:=C.P) _ _ w _ (i a rfl);refine ⟨_,w',?_,k,hk⟩;simp [Builtin.copy_,ZW w r,ZaO w he,Builtin.lenOf,j,hr,goInt]
 ·exact h.elim
theorem Zu8 {k:TK} {K:Value->Prop} (h:exV1 k K):∃ v,K v:=by
 unfold exV1 at h;split at h<;>(obtain ⟨x,a⟩:=h;exact ⟨_,a⟩)
theorem Zvi:∀ (ks:List TK) (K:List Value->Prop),exVL ks K->∃ vs,K vs
 | [],_,h=>⟨[],h⟩
 | _::ks,_,h=>by
  obtain ⟨v,a⟩:=Zu8 h;obtain ⟨vs,g⟩:=Zvi ks _ a;exact ⟨_,g⟩
theorem ZpQ:∀ (cs:List (Bool×List TK)) (K:List Value->Prop),exVC cs K->∃ vs,K vs
 | [],_,h=>⟨[],h⟩
 | (true,ks)::cs,_,h=>by
  obtain ⟨vs,a⟩:=Zvi ks _ h;obtain ⟨l,g⟩:=ZpQ cs _ a;exact ⟨_,g⟩
 | (false,ks)::cs,_,h=>by
  simp only [exVC,cond_false] at h;split at h
  ·obtain ⟨v,a⟩:=Zu8 h;obtain ⟨l,g⟩:=ZpQ cs _ a;exact ⟨_,g⟩
  ·exact h.elim
theorem Zvm {rs:RS} {K:Value->Prop} (h:exRS rs K):∃ v,K v:=by
 unfold exRS at h;obtain ⟨vs,a⟩:=ZpQ _ _ h;cases f:rs.tup
 ·rw [f] at a;simp only [cond_false] at a;split at a
  ·exact ⟨_,a⟩
  ·exact a.elim
 ·rw [f] at a;exact ⟨_,a⟩
theorem ZGS {t t' el:TypeId} {te:TE} {ty:TypeId} {ik kx:IntKind} (ht:C.P.underlying t=some (.slice el)) (ab:C.P.underlying t'=some (.int ik)) (he:TeOk C.P el te)
  (hz:te.size≠0) (a9:te.zero.length=te.size) {s:Value} {x:Int} {w:World} {K:Value->Heap->Prop} (h:vAppZ te.size te.bytes te.zero el s x w.heap K):
  ∃ v w',(Builtin.append_ #[t,t'] ty #[s,.int kx x]).run C.P w=.ok v w'/\Rest w w'/\K v w'.heap:=by
 unfold vAppZ at h;split at h
 ·rename_i a4 n c;obtain ⟨u,old,h1,o,f,r,a,g⟩:=h;obtain ⟨i,z,hi,a8,a5,j,a6⟩:=Zd1 he;obtain ⟨k,rfl⟩:∃ k:Nat,x=(k:Int):=⟨x.toNat,by omega⟩
  rw [Int.toNat_natCast] at f r a g;have ai:z.cells.size=te.size:=by rw [a6];simpa using a9
  have a3:∀ m,Builtin.zeroCells z.cells m=(repl m te.zero).toArray:=fun m=>by
   unfold Builtin.zeroCells;rw [Ziw z.cells _ ω,a6]
  have a7:(Builtin.firstCells i.size n (.slice a4 n c)).run C.P w.drew=.ok old.toArray w.drew:=by
   rw [a8];exact Zhu (w:=w.drew) h1 o
  have ah:k*i.bytes<=(n+k)*te.bytes:=by rw [a5];exact Nat.mul_le_mul_right _ ω
  have hr:=Lib.run_append_grow_zeros (P:=C.P) w t t' ty el i z kx ik ht ab hi j a4 n c old a7 k ω ω a ω ω (by rw [a5];exact growslice_fits a f);refine ⟨_,_,hr,⟨rfl,rfl,rfl,Nat.le_succ _⟩,?_⟩;have hg:=grownCap_ge w (n+k) c el;have l:=grownCap_le_maxLen w (n+k) c el (by unfold maxLen;omega);unfold maxLen at l;have hk:=g (grownCap w (n+k) c el) hg ω;rw [a3,a3];have e:old.toArray++(repl k te.zero).toArray++(repl (grownCap w (n+k) c el-(n+k)) te.zero).toArray=(old++repl k te.zero++repl (grownCap w (n+k) c el-(n+k)) te.zero).toArray:=by simp
  rw [e];exact hk
 ·exact h.elim
theorem ZBE (hC:CtxOk C) {g:Nat} (hg:inL C.ov g=true) {a2:List Value} {w:World} {K:Prop} (h:vOv a2 w.heap K):
  (callFunc g a2.toArray).run C.P w=.ok (.value (.bool false)) w/\K:=by
 obtain ⟨fn,tS,tR,el,te,i,j,k,l,o,r,s⟩:=hC.ovs g hg;unfold vOv at h;split at h
 ·rename_i a la ca b lb cb;obtain ⟨h1,u,⟨cs,t,f,v,x⟩,⟨a3,t',f',y,h6⟩,hk⟩:=h;refine ⟨?_,hk⟩;rw [run_callFunc_extern i k j l o];have:=Lib.run_overlaps_apart (P:=C.P) w tS tR el r te.size (fun w=>ZaO w s) a b la ca lb cb h1 t t' cs.size a3.size (by simp [World.shape?,v]) (by simp [World.shape?,y]) h6 u x;rw [this];rfl
 ·exact h.elim
theorem Zse (hC:CtxOk C) {o:Oper} {h:Heap} {K:Value->Heap->Prop} (hh:vEff C o.op o.type e h K) (a:Act) (ha:a.eval=ev e) (w:World) (hw:w.heap=h):
  o.wp C.P a w (fun a' w'=>∃ v,a'=a.put o.dst v/\RestQ C.q w w'/\K v w'.heap) Bot:=by
 subst hw;obtain ⟨ao,op,af,pos,ah,aj⟩:=o;simp only at hh ⊢;unfold Oper.wp;rw [ha];unfold vEff at hh;split at hh
 ·rename_i t x v;rw [ZuR] at hh;obtain ⟨w',h1,j,y⟩:=ZFB hC hh;simp only [execOp,Sem.run_bind,h1,Result.andThen_ok,Sem.run_pure,Oper.upon];exact ⟨undef,rfl,j.q,y⟩
 ·rename_i t;split at hh
  ·rename_i te ht;obtain ⟨i,z,hi,_,_,a7,bh⟩:=Zd1 (hC.tab _ _ ht);simp only [execOp,Instr.alloc,Sem.run_bind,Zdm w hi a7,Result.andThen_ok,newVar,newRow,run_newObj,Sem.run_pure,Oper.upon];refine ⟨_,rfl,⟨rfl,rfl,rfl,fun _=>Nat.le_refl _⟩,?_⟩;rw [bh];exact hh _ _ rfl rfl
  ·exact hh.elim
 ·rename_i t x;rw [ZuR] at hh;unfold vBox at hh;split at hh
  ·rename_i te ht;obtain ⟨h1,_⟩:=ZoZ hh;simp only [execOp,Instr.box,Sem.run_bind,Result.andThen_ok,newVar,newRow,run_newObj,Sem.run_pure,Oper.upon];exact ⟨_,rfl,⟨rfl,rfl,rfl,fun _=>Nat.le_refl _⟩,by simpa [hnew] using h1 _ _ rfl rfl⟩
  ·exact hh.elim
 ·rename_i t len ap;split at hh
  ·rename_i el ks z0 b0 ht;split at hh
   ·rename_i te he;obtain ⟨hb,hh⟩:=Zas hh;rw [ZmI] at hh;simp only [Bool.and_eq_true,Bool.not_eq_true'] at hb;obtain ⟨⟨aa,ab⟩,ac⟩:=hb;have aa:=Nat.eq_of_beq_eq_true aa;have ab:=Nat.le_of_ble_eq_true ab;have ca:te.size≠0:=fun h0=>by rw [h0] at ac;simp at ac
    have hT:=hC.tab _ _ he;obtain ⟨i,z,hi,c7,_,a7,bh⟩:=Zd1 hT;have bc:(evp e ap.toList).length=len:=by rw [ZnE];simpa using aa
    have b3:(ap.map fun (x:Nat×Operand)=>(x.1,ev e x.2)).toList=evp e ap.toList:=by rw [ZnE];simp
    have hu:=ZaH (hC.tab _ _ ht).1;have bo:¬ (len*te.size>2^24):=ω;obtain ⟨ag,a5⟩:∃ ag:Array Value,ag=(Array.range (len*te.size)).map (fun i=>(if len*te.size=0 then #[] else z.cells)[i%(if len*te.size=0 then #[] else z.cells).size]!):=⟨_,rfl⟩
    have b9:ag.size=len*te.size:=by rw [a5];simp
    obtain ⟨l,h1,j,y⟩:=Zud _ 0 ag.toList _ hh (by rw [bc];simp [b9]);have bk:(setAt ag.toList (0*te.size) l).toArray=l.toArray:=by
     unfold setAt;rw [bc] at j;congr 1;simp only [Nat.zero_mul,List.take_zero,List.nil_append,Nat.zero_add];rw [List.drop_of_length_le (by simp [b9,j])];simp
    rw [bk] at y;simp only [execOp,Instr.buildSlice,Sem.run_bind,ZW w hu,Result.andThen_ok,ZaO w hT,bo,if_false];have bf:Instr.fill (fun i=>some (i*te.size,te.size)) ag (evp e ap.toList)=some l.toArray:=by simpa using y
    by_cases h0:len*te.size=0
    ·rw [if_pos h0] at a5;rw [if_pos h0];simp only [Sem.run_bind,Sem.run_pure,Result.andThen_ok];rw [b3,<-a5,bf];simp only [Sem.run_bind,newRow,run_newObj,Sem.run_pure,Result.andThen_ok,Oper.upon];exact ⟨_,rfl,⟨rfl,rfl,rfl,fun _=>Nat.le_refl _⟩,(ZdQ _ _).mp h1 _ _ rfl rfl⟩
    ·rw [if_neg h0] at a5;rw [if_neg h0];simp only [Sem.run_bind,Zdm w hi a7,Sem.run_pure,Result.andThen_ok];rw [b3,<-a5,bf];simp only [Sem.run_bind,newRow,run_newObj,Sem.run_pure,Result.andThen_ok,Oper.upon];exact ⟨_,rfl,⟨rfl,rfl,rfl,fun _=>Nat.le_refl _⟩,(ZdQ _ _).mp h1 _ _ rfl rfl⟩
   ·exact hh.elim
  ·exact hh.elim
 ·rename_i t l c;split at hh
  ·rename_i el ks z0 b0 k n k' m ht hl hc;split at hh
   ·rename_i te he;obtain ⟨hg,hh⟩:=Zas hh;obtain ⟨a2,a3⟩:=ZiX hg;obtain ⟨v,w',h1,j,y⟩:=ZDS (C:=C) (k:=k) (k':=k') (ZaH (hC.tab _ _ ht).1) (hC.tab _ _ he) a2 a3 hh;simp only [execOp,hl,hc,Sem.run_bind,h1,Result.andThen_ok,Sem.run_pure,Oper.upon];exact ⟨v,rfl,j.q,y⟩
   ·exact hh.elim
  ·exact hh.elim
 ·rename_i a8 a6;split at hh
  ·rename_i s x t t' ad ar;have b1:a8=#[s,x]:=by apply Array.ext';simpa using ad
   have aq:a6=#[t,t']:=by apply Array.ext';simpa using ar
   subst b1 aq;split at hh
   ·rename_i el ks z0 b0 c9 bg br bq ht bd;split at hh
    ·rename_i te he;obtain ⟨hg,hh⟩:=Zas hh;obtain ⟨a2,a3⟩:=ZiX hg;obtain ⟨v,w',h1,j,y⟩:=ZFL (C:=C) (ty:=af) (ZaH (hC.tab _ _ ht).1) (ZaH (hC.tab _ _ bd).1) (hC.tab _ _ he) a2 a3 hh;have:(execOp (ev e) ⟨ao,.call ⟨.builtin .append,#[s,x],#[t,t']⟩,af,pos,ah,aj⟩).run C.P w=.ok (.value v) w':=by
      simp [execOp,resolve,invoke,builtin,h1]
     rw [this];exact ⟨v,rfl,j.q,y⟩
    ·exact hh.elim
   ·rename_i el ks z0 b0 ik bg br bq ht bd;split at hh
    ·rename_i te kx n he hx;obtain ⟨hg,hh⟩:=Zas hh;obtain ⟨a2,a3⟩:=ZiX hg;obtain ⟨v,w',h1,j,y⟩:=ZGS (C:=C) (ty:=af) (kx:=kx) (ZaH (hC.tab _ _ ht).1) (ZeX (hC.tab _ _ bd).1) (hC.tab _ _ he) a2 a3 hh;have:(execOp (ev e) ⟨ao,.call ⟨.builtin .append,#[s,x],#[t,t']⟩,af,pos,ah,aj⟩).run C.P w=.ok (.value v) w':=by
      simp [execOp,resolve,invoke,builtin,hx,h1]
     rw [this];exact ⟨v,rfl,j.q,y⟩
    ·exact hh.elim
   ·exact hh.elim
  ·exact hh.elim
 ·rename_i a8 a6;split at hh
  ·rename_i x t ad ar;have b1:a8=#[x]:=by apply Array.ext';simpa using ad
   have aq:a6=#[t]:=by apply Array.ext';simpa using ar
   subst b1 aq;split at hh
   ·rename_i el ks z0 b0 ht;split at hh
    ·rename_i te he;obtain ⟨hg,hh⟩:=Zas hh;obtain ⟨a2,a3⟩:=ZiX hg;obtain ⟨v,w',h1,j,y⟩:=ZIk (C:=C) (ty:=af) (ZaH (hC.tab _ _ ht).1) (hC.tab _ _ he) a2 a3 hh;have:(execOp (ev e) ⟨ao,.call ⟨.builtin .clear,#[x],#[t]⟩,af,pos,ah,aj⟩).run C.P w=.ok (.value v) w':=by
      simp [execOp,resolve,invoke,builtin,h1]
     rw [this];exact ⟨v,rfl,j.q,y⟩
    ·exact hh.elim
   ·exact hh.elim
  ·exact hh.elim
 ·rename_i a8 a6;split at hh
  ·rename_i d x t t' ad ar;have b1:a8=#[d,x]:=by apply Array.ext';simpa using ad
   have aq:a6=#[t,t']:=by apply Array.ext';simpa using ar
   subst b1 aq;split at hh
   ·rename_i el ks z0 b0 ht;split at hh
    ·rename_i te he;obtain ⟨v,w',h1,j,y⟩:=ZFu (C:=C) (t':=t') (ty:=af) (ZaH (hC.tab _ _ ht).1) (hC.tab _ _ he) hh;have:(execOp (ev e) ⟨ao,.call ⟨.builtin .copy,#[d,x],#[t,t']⟩,af,pos,ah,aj⟩).run C.P w=.ok (.value v) w':=by
      simp [execOp,resolve,invoke,builtin,h1]
     rw [this];exact ⟨v,rfl,j.q,y⟩
    ·exact hh.elim
   ·exact hh.elim
  ·exact hh.elim
 ·rename_i f a8 a6;split at hh
  ·rename_i g hg;cases hin:inL C.ov g with
   | true=>
    rw [hin] at hh;simp only [cond_true] at hh;obtain ⟨w1,w2⟩:=ZBE (C:=C) hC hin hh;have hf:f=.func g:=by cases f<;>simp [opF] at hg;rw [hg]
    have ad:(#[]:Array Value)++a8.map (ev e)++#[]=(evs e a8.toList).toArray:=by
     apply Array.ext';rw [Zgx];simp
    have hr:(execOp (ev e) ⟨ao,.call ⟨.value f,a8,a6⟩,af,pos,ah,aj⟩).run C.P w=.ok (.value (.bool false)) w:=by
     subst hf;have bv:ev e (.func g)=.func (.func g) #[] #[]:=rfl;simp only [execOp,resolve,Sem.run_bind,bv,Deferred.ofValue,Sem.run_pure,Result.andThen_ok,invoke,ad,w1]
    rw [hr];exact ⟨_,rfl,RestQ.refl w,w2⟩
   | false=>
    rw [hin] at hh;simp only [cond_false,Zge] at hh;unfold vCall vFn at hh;split at hh
    ·rename_i g first a9 hf
     obtain ⟨hg,hh⟩:=Zst hh;obtain ⟨fn,bb,ax,ay⟩:=hC.fns g hg;have hr:(execOp (ev e) ⟨ao,.call ⟨.value f,a8,a6⟩,af,pos,ah,aj⟩).run C.P w =
       .ok (.enter g (first.toList++evs e a8.toList++a9.toList).toArray) w:=by
      have hb:fn.body.isNone=false:=by cases hb:fn.body<;>simp [hb] at ax ⊢
      have ad:first++a8.map (ev e)++a9=(first.toList++evs e a8.toList++a9.toList).toArray:=by
       apply Array.ext';rw [Zgx];simp
      simp only [execOp,resolve,Sem.run_bind,hf,Deferred.ofValue,Sem.run_pure,Result.andThen_ok,invoke,callFunc,run_program,bb,ay,hb,Bool.false_eq_true,if_false,ad]
     rw [hr];simp only [Oper.upon];refine (hh w rfl).mono ?_;rintro e1 w' ⟨v,rfl,aw,hk⟩;obtain ⟨u,rfl,hk⟩:=Zvm hk;exact ⟨v,rfl,aw,hk⟩
    ·exact hh.elim
  ·rw [Zge] at hh;unfold vCall vFn at hh;split at hh
   ·rename_i g first a9 hf
    obtain ⟨hg,hh⟩:=Zst hh;obtain ⟨fn,bb,ax,ay⟩:=hC.fns g hg;have hr:(execOp (ev e) ⟨ao,.call ⟨.value f,a8,a6⟩,af,pos,ah,aj⟩).run C.P w =
      .ok (.enter g (first.toList++evs e a8.toList++a9.toList).toArray) w:=by
     have hb:fn.body.isNone=false:=by cases hb:fn.body<;>simp [hb] at ax ⊢
     have ad:first++a8.map (ev e)++a9=(first.toList++evs e a8.toList++a9.toList).toArray:=by
      apply Array.ext';rw [Zgx];simp
     simp only [execOp,resolve,Sem.run_bind,hf,Deferred.ofValue,Sem.run_pure,Result.andThen_ok,invoke,callFunc,run_program,bb,ay,hb,Bool.false_eq_true,if_false,ad]
    rw [hr];simp only [Oper.upon];refine (hh w rfl).mono ?_;rintro e1 w' ⟨v,rfl,aw,hk⟩;obtain ⟨u,rfl,hk⟩:=Zvm hk;exact ⟨v,rfl,aw,hk⟩
   ·exact hh.elim
 ·rename_i t r;split at hh
  ·rename_i kt et ks z b ht;have hu:=Zm4 (hC.tab _ _ ht).1;have hr:∀ q:Option Value,(q=none\/∃ k n,q=some (.int k n))->(Instr.makeMap t q).run C.P w=.ok (.map (some w.heap.size)) { w with heap:=w.heap.push (.map #[] 0) }:=by
    rintro q (rfl|⟨k,n,rfl⟩)
    ·simp [Instr.makeMap]
    ·simp [Instr.makeMap,ZW w hu,asInt,asIntOf]
   rw [ZcE] at hh;split at hh
   ·rename_i hq;simp only [execOp,Sem.run_bind,hr (r.map (ev e)) (.inl hq),Result.andThen_ok,Sem.run_pure,Oper.upon];exact ⟨_,rfl,⟨rfl,rfl,rfl,fun _=>Nat.le_refl _⟩,hh _ _ rfl rfl⟩
   ·rename_i k n hq;simp only [execOp,Sem.run_bind,hr (r.map (ev e)) (.inr ⟨k,n,hq⟩),Result.andThen_ok,Sem.run_pure,Oper.upon];exact ⟨_,rfl,⟨rfl,rfl,rfl,fun _=>Nat.le_refl _⟩,hh _ _ rfl rfl⟩
   ·exact hh.elim
  ·exact hh.elim
 ·rename_i t m k x;obtain ⟨w',h1,j,y⟩:=ZrH hC hh;simp only [execOp,Sem.run_bind,h1,Result.andThen_ok,Sem.run_pure,Oper.upon];exact ⟨undef,rfl,j.q,y⟩
 ·rename_i t m k x;obtain ⟨w',h1,j,y⟩:=ZrH hC hh;simp only [execOp,Sem.run_bind,h1,Result.andThen_ok,Sem.run_pure,Oper.upon];exact ⟨undef,rfl,j.q,y⟩
 ·rename_i cb ao x;split at hh
  ·rename_i ks z b el bg z' b' s hs hd hx;split at hh
   ·rename_i ai z2 b2 bu;obtain ⟨v,w',h1,j,y⟩:=ZwM (C:=C) (ZcV (hC.tab _ _ hs).1) (ZaH (hC.tab _ _ hd).1) (ZeX (hC.tab _ _ bu).1) hh;simp only [execOp,Sem.run_bind,hx,h1,Result.andThen_ok,Sem.run_pure,Oper.upon];exact ⟨v,rfl,j.q,y⟩
   ·exact hh.elim
  ·exact hh.elim
 ·exact hh.elim
end
end Go.Vc
