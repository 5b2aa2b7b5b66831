import Derived.Test.YtghbgeaammnkcaaGreatDoorVcSoundC
import Derived.Lib.AppendZerosOnto
import Derived.Lib.Overlaps
namespace Go.Vc
set_option linter.unusedVariables false
set_option linter.unusedSimpArgs false
open Go
section
variable {C:Ctx} {e:Env}
theorem Zfd {P:Program} {t:TypeId} {te:TE} (h:TeOk P t te):∃ i z,P.info? t=some i∧i.size=te.size∧i.bytes=te.bytes∧i.zero=some z∧z.cells=te.zero.toArray:=by
 obtain ⟨i,z,a,b,c,f,g⟩:=h.info
 exact ⟨i,z,a,b,c,f,by apply Array.ext';simpa using g⟩
theorem ZEZ {t el:TypeId} {te:TE} (ht:C.P.underlying t=some (.slice el)) (he:TeOk C.P el te) (hz:te.size≠0) (hzl:te.zero.length=te.size) {n c:Int} {k k':IntKind} {w:World}
  {K:Value→Heap→Prop} (h:vMake te.bytes te.zero el n c w.heap K):
  ∃ v w',(Instr.makeSlice t (.int k n) (.int k' c)).run C.P w=.ok v w'∧Rest w w'∧K v w'.heap:=by
 obtain ⟨⟨o,p,j,r⟩,hk⟩:=h
 obtain ⟨i,z,hi,hsz,hby,b,hzc⟩:=Zfd he
 refine ⟨_,{ w with heap:=w.heap.push (.cells (repl c.toNat te.zero).toArray el) },?_,⟨rfl,rfl,rfl,Nat.le_refl _⟩,hk⟩
 have w1:IntKind.i64.wrap n=n:=Za4 (by omega) (by omega)
 have w2:IntKind.i64.wrap c=c:=Za4 (by omega) (by omega)
 have s:((i.bytes:Nat):Int)*c≤140737488355328:=by rw [hby,Int.mul_comm];exact j
 have l:(decide (c<0)||decide ((i.bytes:Int)*c>2^48))=false:=by
  simp only [Bool.or_eq_false_iff,decide_eq_false_iff_not];constructor<;>omega
 simp only [Instr.makeSlice,Sem.run_bind,ZO w ht,Result.andThen_ok,asInt,asIntOf,Sem.run_pure,Zci w hi,w1,w2,l]
 have m:(false||decide (n<0)||decide (n>c))=false:=by
  simp only [Bool.false_or,Bool.or_eq_false_iff,decide_eq_false_iff_not];constructor<;>omega
 simp only [m,Bool.false_eq_true,if_false,Sem.run_bind,Result.andThen_ok,run_askRoom,ZaY w he]
 by_cases a:c.toNat*te.size=0
 ·have f:c.toNat=0:=by
   rcases Nat.mul_eq_zero.1 a with h|h
   ·exact h
   ·exact absurd h hz
  simp only [a,if_true]
  have g:(Array.range 0).map (fun _:Nat=>(default:Value))=#[]:=by apply Array.ext';simp
  simp [newRow,f,repl,hnew,g]
 ·simp only [a,if_false,Sem.run_bind,ZdM w hi b,Result.andThen_ok,Sem.run_pure]
  have hzs:z.cells.size=te.size:=by rw [hzc];simpa using hzl
  have:=ZlK z.cells c.toNat (by omega)
  rw [hzs] at this
  simp only [hzs]
  rw [this,hzc]
  simp [newRow,hnew]
theorem ZhF {P:Program} {w:World} {z n c:Nat} {src:Option Addr} {news:List Value} (hl:news.length=n*z)
  (f:∀ j u,news[j]?=some u→∃ a,src=some a∧hcell w.heap (a.add j)=some u):
  (Builtin.firstCells z n (.slice src n c)).run P w=.ok news.toArray w:=by
 cases src with
 | none=>
  have:news=[]:=by
   cases news with
   | nil=>rfl
   | cons b r=>obtain ⟨p,hp,_⟩:=f 0 b rfl;cases hp
  subst this
  rfl
 | some a=>
  simp only [Builtin.firstCells]
  rw [←hl]
  exact ZkF w news fun j u hu=>by
   obtain ⟨p,hp,h⟩:=f j u hu
   cases hp;exact h
theorem ZCG {P:Program} {w:World} {z n k c:Nat} {src:Option Addr} {news:List Value} (hl:news.length=n*z)
  (f:∀ j u,news[j]?=some u→∃ a,src=some a∧hcell w.heap (a.add j)=some u):
  (Builtin.firstCells z n (.slice src k c)).run P w=.ok news.toArray w:=by
 cases src with
 | none=>
  have:news=[]:=by
   cases news with
   | nil=>rfl
   | cons b r=>obtain ⟨p,hp,_⟩:=f 0 b rfl;cases hp
  subst this
  rfl
 | some a=>
  simp only [Builtin.firstCells]
  rw [←hl]
  exact ZkF w news fun j u hu=>by
   obtain ⟨p,hp,h⟩:=f j u hu
   cases hp;exact h
theorem ZEh {t t' el el':TypeId} {te:TE} {ty:TypeId} (ht:C.P.underlying t=some (.slice el)) (ht':C.P.underlying t'=some (.slice el')) (he:TeOk C.P el te)
  (hz:te.size≠0) (hzl:te.zero.length=te.size) {s x:Value} {w:World} {K:Value→Heap→Prop} (h:vAppend te.size te.bytes te.zero el s x w.heap K):
  ∃ v w',(Builtin.append_ #[t,t'] ty #[s,x]).run C.P w=.ok v w'∧Rest w w'∧K v w'.heap:=by
 unfold vAppend at h
 split at h
 ·rename_i base n c src m mc
  obtain ⟨old,news,b,f,g,j,h5,h6,h7,h8,h9,k,l⟩:=h
  obtain ⟨i,z,hi,hsz,hby,o,hzc⟩:=Zfd he
  have hfirst:(Builtin.firstCells te.size m (.slice src m mc)).run C.P w=.ok news.toArray w:=ZhF f j
  have hold:(Builtin.firstCells te.size n (.slice base n c)).run C.P w=.ok old.toArray w:=ZhF b g
  by_cases hroom:n+m≤c
  ·cases base with
   | none=>
    refine ⟨_,w,?_,Rest.refl w,k hroom rfl⟩
    simp [Builtin.append_,ZO w ht,ZO w ht',ZaY w he,Builtin.lenOf,hroom,hfirst]
   | some a=>
    obtain ⟨_,hst⟩:=h9 hroom a rfl
    obtain ⟨w',hr,hrest,hk⟩:=ZhZ (P:=C.P) _ _ w _ hst
    refine ⟨_,w',?_,hrest,hk⟩
    simp [Builtin.append_,ZO w ht,ZO w ht',ZaY w he,Builtin.lenOf,hroom,hfirst,hr]
  ·have hlt:c<n+m:=by omega
   have hfit:=growslice_fits (old:=c) hlt h7
   obtain ⟨cap,hcapd⟩:∃ cap,cap=(Question.appendCap (n+m) c el).cut (w.tape w.drawn (.appendCap (n+m) c el)):=⟨_,rfl⟩
   have p:n+m≤cap:=by rw [hcapd];simp only [Question.cut];omega
   have r:cap≤9223372036854775807:=by
    rw [hcapd];simp only [Question.cut]
    have:=Nat.mod_lt (w.tape w.drawn (.appendCap (n+m) c el)) (show 0<2^63-(n+m) by omega)
    omega
   refine ⟨_,{ w with heap:=w.heap.push (.cells (old++news++repl (cap-(n+m)) te.zero).toArray el),drawn:=w.drawn+1 },?_,⟨rfl,rfl,rfl,Nat.le_succ _⟩,l hlt cap p r⟩
   have hmax:¬ (((n+m:Nat):Int)>IntKind.i64.max):=by
    have:IntKind.i64.max=9223372036854775807:=rfl
    rw [this];omega
   have hzs:z.cells.size=te.size:=by rw [hzc];simpa using hzl
   have hzero:Builtin.zeroCells z.cells (cap-(n+m))=(repl (cap-(n+m)) te.zero).toArray:=by
    unfold Builtin.zeroCells
    rw [ZlK z.cells _ (by omega),hzc]
   let w1:World:={ w with drawn:=w.drawn+1 }
   have hfirst':(Builtin.firstCells te.size m (.slice src m mc)).run C.P w1=.ok news.toArray w1:=ZhF (w:=w1) f j
   have hold':(Builtin.firstCells te.size n (.slice base n c)).run C.P w1=.ok old.toArray w1:=ZhF (w:=w1) b g
   have hch:(choose (.appendCap (n+m) c el)).run C.P w=.ok cap w1:=by
    simp [choose,Sem.run,Question.forced,hcapd,w1]
   have hfit':¬ (Builtin.nextslicecap (n+m) c*i.bytes>281474976710656):=by rw [hby];omega
   have hmax':¬ (((n+m:Nat):Int)>IntKind.i64.max∧(false=true∨i.bytes=0)):=fun h=>hmax h.1
   simp only [Builtin.append_,Sem.run_bind,ZO w ht,ZO w ht',Result.andThen_ok,ZaY w he,Builtin.lenOf,Sem.run_pure,hroom,if_false,
    List.getElem?_toArray,List.getElem?_cons_zero,List.getElem?_cons_succ,Bool.false_eq_true,Zci w hi,Nat.reducePow]
   rw [if_neg (fun h=>hmax h.1)]
   simp only [Sem.run_bind,Zci w hi,Result.andThen_ok]
   rw [if_neg hfit']
   have u:(typeInfo el).run C.P w1=.ok i w1:=Zci w1 hi
   have y:(zeroValue el).run C.P w1=.ok z w1:=ZdM w1 hi o
   simp only [Sem.run_bind,hch,u,Result.andThen_ok,run_askRoom,hold',Bool.not_false,if_true,hfirst',y,hzero]
   simp [newRow,hnew,w1]
   rfl
 ·exact h.elim
theorem Zks {te:TE} (h:teGood te=true):te.size≠0∧te.zero.length=te.size:=by
 simp only [teGood,Bool.and_eq_true,Bool.not_eq_true'] at h
 exact ⟨fun a=>by rw [a] at h;simp at h,Nat.eq_of_beq_eq_true h.2⟩
theorem ZDU {t el:TypeId} {te:TE} {ty:TypeId} (ht:C.P.underlying t=some (.slice el)) (he:TeOk C.P el te)
  (hz:te.size≠0) (hzl:te.zero.length=te.size) {x:Value} {w:World} {K:Value→Heap→Prop} (h:vClear te.zero x w.heap K):
  ∃ v w',(Builtin.clear_ #[t] ty #[x]).run C.P w=.ok v w'∧Rest w w'∧K v w'.heap:=by
 obtain ⟨i,z,hi,hsz,hby,b,hzc⟩:=Zfd he
 have hzs:z.cells.size=te.size:=by rw [hzc];simpa using hzl
 unfold vClear at h
 split at h
 ·rename_i a n c
  obtain ⟨w',hr,hrest,hk⟩:=ZhZ (P:=C.P) _ _ w _ h
  refine ⟨_,w',?_,hrest,hk⟩
  cases n with
  | zero=>
   have:w'=w:=by simpa [repl,storeCells] using hr.symm
   subst this
   simp [Builtin.clear_,ZO w' ht]
  | succ n=>
   have hzero:Builtin.zeroCells z.cells (n+1)=(repl (n+1) te.zero).toArray:=by
    unfold Builtin.zeroCells
    rw [ZlK z.cells _ (by omega),hzc]
   simp [Builtin.clear_,ZO w ht,ZdM w hi b,hzero,hr]
 ·rename_i n c
  refine ⟨_,w,?_,Rest.refl w,h⟩
  simp [Builtin.clear_,ZO w ht]
 ·exact h.elim
theorem Zx4 {t t' el:TypeId} {te:TE} {ty:TypeId} (ht:C.P.underlying t=some (.slice el)) (he:TeOk C.P el te) {d x:Value} {w:World} {K:Value→Heap→Prop} (h:vCopy te.size d x w.heap K):
  ∃ v w',(Builtin.copy_ #[t,t'] ty #[d,x]).run C.P w=.ok v w'∧Rest w w'∧K v w'.heap:=by
 unfold vCopy at h
 split at h
 ·rename_i base n c src m mc
  obtain ⟨cs,b,f,g,i⟩:=h
  have hfirst:(Builtin.firstCells te.size (Nat.min m n) (.slice src m mc)).run C.P w=.ok cs.toArray w:=ZCG b f
  cases base with
  | none=>
   refine ⟨_,w,?_,Rest.refl w,g rfl⟩
   simp [Builtin.copy_,ZO w ht,ZaY w he,Builtin.lenOf,hfirst,goInt]
  | some a=>
   obtain ⟨w',hr,hrest,hk⟩:=ZhZ (P:=C.P) _ _ w _ (i a rfl)
   refine ⟨_,w',?_,hrest,hk⟩
   simp [Builtin.copy_,ZO w ht,ZaY w he,Builtin.lenOf,hfirst,hr,goInt]
 ·exact h.elim
theorem ZtD {k:TK} {K:Value→Prop} (h:exV1 k K):∃ v,K v:=by
 unfold exV1 at h
 split at h<;>(obtain ⟨x,a⟩:=h;exact ⟨_,a⟩)
theorem Zsr:∀ (ks:List TK) (K:List Value→Prop),exVL ks K→∃ vs,K vs
 | [],_,h=>⟨[],h⟩
 | _::ks,_,h=>by
  obtain ⟨v,a⟩:=ZtD h
  obtain ⟨vs,hvs⟩:=Zsr ks _ a
  exact ⟨_,hvs⟩
theorem Zo9:∀ (cs:List (Bool×List TK)) (K:List Value→Prop),exVC cs K→∃ vs,K vs
 | [],_,h=>⟨[],h⟩
 | (true,ks)::cs,_,h=>by
  obtain ⟨vs,a⟩:=Zsr ks _ h
  obtain ⟨l,hl⟩:=Zo9 cs _ a
  exact ⟨_,hl⟩
 | (false,ks)::cs,_,h=>by
  simp only [exVC,cond_false] at h
  split at h
  ·obtain ⟨v,a⟩:=ZtD h
   obtain ⟨l,hl⟩:=Zo9 cs _ a
   exact ⟨_,hl⟩
  ·exact h.elim
theorem Zr6 {rs:RS} {K:Value→Prop} (h:exRS rs K):∃ v,K v:=by
 unfold exRS at h
 obtain ⟨vs,a⟩:=Zo9 _ _ h
 cases b:rs.tup
 ·rw [b] at a
  simp only [cond_false] at a
  split at a
  ·exact ⟨_,a⟩
  ·exact a.elim
 ·rw [b] at a
  exact ⟨_,a⟩
theorem ZAC {t t' el:TypeId} {te:TE} {ty:TypeId} {ik kx:IntKind} (ht:C.P.underlying t=some (.slice el)) (ht':C.P.underlying t'=some (.int ik)) (he:TeOk C.P el te)
  (hz:te.size≠0) (hzl:te.zero.length=te.size) {s:Value} {x:Int} {w:World} {K:Value→Heap→Prop} (h:vAppZ te.size te.bytes te.zero el s x w.heap K):
  ∃ v w',(Builtin.append_ #[t,t'] ty #[s,.int kx x]).run C.P w=.ok v w'∧Rest w w'∧K v w'.heap:=by
 unfold vAppZ at h
 split at h
 ·rename_i base n c
  obtain ⟨r,old,l,o,b,p,a,f⟩:=h
  obtain ⟨i,z,hi,hsz,hby,g,hzc⟩:=Zfd he
  obtain ⟨k,rfl⟩:∃ k:Nat,x=(k:Int):=⟨x.toNat,by omega⟩
  rw [Int.toNat_natCast] at b p a f
  have hzs:z.cells.size=te.size:=by rw [hzc];simpa using hzl
  have hzero:∀ m,Builtin.zeroCells z.cells m=(repl m te.zero).toArray:=fun m=>by
   unfold Builtin.zeroCells
   rw [ZlK z.cells _ (by omega),hzc]
  have hold:(Builtin.firstCells i.size n (.slice base n c)).run C.P w.drew=.ok old.toArray w.drew:=by
   rw [hsz];exact ZhF (w:=w.drew) l o
  have hkb:k*i.bytes≤(n+k)*te.bytes:=by rw [hby];exact Nat.mul_le_mul_right _ (by omega)
  have hr:=Lib.run_append_grow_zeros (P:=C.P) w t t' ty el i z kx ik ht ht' hi g base n c old hold k (by omega) (by omega) a (by omega) (by omega) (by rw [hby];exact growslice_fits a b)
  refine ⟨_,_,hr,⟨rfl,rfl,rfl,Nat.le_succ _⟩,?_⟩
  have hg:=grownCap_ge w (n+k) c el
  have j:=grownCap_le_maxLen w (n+k) c el (by unfold maxLen;omega)
  unfold maxLen at j
  have hk:=f (grownCap w (n+k) c el) hg (by omega)
  rw [hzero,hzero]
  have e:old.toArray++(repl k te.zero).toArray++(repl (grownCap w (n+k) c el-(n+k)) te.zero).toArray=(old++repl k te.zero++repl (grownCap w (n+k) c el-(n+k)) te.zero).toArray:=by simp
  rw [e]
  exact hk
 ·exact h.elim
theorem ZxS (hC:CtxOk C) {g:Nat} (hg:inL C.ov g=true) {args:List Value} {w:World} {K:Prop} (h:vOv args w.heap K):
  (callFunc g args.toArray).run C.P w=.ok (.value (.bool false)) w∧K:=by
 obtain ⟨fn,tS,tR,el,te,c,i,j,k,l,m,o⟩:=hC.ovs g hg
 unfold vOv at h
 split at h
 ·rename_i a la ca b lb cb
  obtain ⟨p,r,⟨cs,t,f,s,u⟩,⟨cs',t',f',v,x⟩,hk⟩:=h
  refine ⟨?_,hk⟩
  rw [run_callFunc_extern c j i k l]
  have:=Lib.run_overlaps_apart (P:=C.P) w tS tR el m te.size (fun w=>ZaY w o) a b la ca lb cb p t t' cs.size cs'.size (by simp [World.shape?,s]) (by simp [World.shape?,v]) x r u
  rw [this];rfl
 ·exact h.elim
theorem Zud (hC:CtxOk C) {o:Oper} {h:Heap} {K:Value→Heap→Prop} (hh:vEff C o.op o.type e h K) (a:Act) (ha:a.eval=ev e) (w:World) (hw:w.heap=h):
  o.wp C.P a w (fun a' w'=>∃ v,a'=a.put o.dst v∧RestQ C.q w w'∧K v w'.heap) Bot:=by
 subst hw
 obtain ⟨dst,op,type,pos,after,guard⟩:=o
 simp only at hh ⊢
 unfold Oper.wp
 rw [ha]
 unfold vEff at hh
 split at hh
 ·rename_i t x v
  obtain ⟨w',j,p,y⟩:=Zxo hC hh
  simp only [execOp,Sem.run_bind,j,Result.andThen_ok,Sem.run_pure,Oper.upon]
  exact ⟨undef,rfl,p.q,y⟩
 ·rename_i t
  split at hh
  ·rename_i te ht
   obtain ⟨i,z,hi,_,_,a5,hzc⟩:=Zfd (hC.tab _ _ ht)
   simp only [execOp,Instr.alloc,Sem.run_bind,ZdM w hi a5,Result.andThen_ok,newVar,newRow,run_newObj,Sem.run_pure,Oper.upon]
   refine ⟨_,rfl,⟨rfl,rfl,rfl,fun _=>Nat.le_refl _⟩,?_⟩
   rw [hzc]
   exact hh
  ·exact hh.elim
 ·rename_i t x
  unfold vBox at hh
  split at hh
  ·rename_i te ht
   obtain ⟨j,_⟩:=ZoB hh
   simp only [execOp,Instr.box,Sem.run_bind,Result.andThen_ok,newVar,newRow,run_newObj,Sem.run_pure,Oper.upon]
   exact ⟨_,rfl,⟨rfl,rfl,rfl,fun _=>Nat.le_refl _⟩,by simpa [hnew] using j⟩
  ·exact hh.elim
 ·rename_i t len parts
  split at hh
  ·rename_i el ks z0 b0 ht
   split at hh
   ·rename_i te he
    obtain ⟨hb,hh⟩:=Zaj hh
    simp only [Bool.and_eq_true,Bool.not_eq_true'] at hb
    obtain ⟨⟨a8,a9⟩,aa⟩:=hb
    have a8:=Nat.eq_of_beq_eq_true a8
    have a9:=Nat.le_of_ble_eq_true a9
    have hsz:te.size≠0:=fun h0=>by rw [h0] at aa;simp at aa
    have hT:=hC.tab _ _ he
    obtain ⟨i,z,hi,hisz,_,a5,hzc⟩:=Zfd hT
    have hlen:(evp e parts.toList).length=len:=by rw [Zpi];simpa using a8
    have hparts:(parts.map fun (x:Nat×Operand)=>(x.1,ev e x.2)).toList=evp e parts.toList:=by rw [Zpi];simp
    have hu:=ZaP (hC.tab _ _ ht).1
    have hlim:¬ (len*te.size>2^24):=by omega
    obtain ⟨cells0,a3⟩:∃ cells0:Array Value,cells0=(Array.range (len*te.size)).map (fun i=>(if len*te.size=0 then #[] else z.cells)[i%(if len*te.size=0 then #[] else z.cells).size]!):=⟨_,rfl⟩
    have hc0s:cells0.size=len*te.size:=by rw [a3];simp
    obtain ⟨l,j,p,y⟩:=Zui _ 0 cells0.toList _ hh (by rw [hlen];simp [hc0s])
    have hfin:(setAt cells0.toList (0*te.size) l).toArray=l.toArray:=by
     unfold setAt
     rw [hlen] at p
     congr 1
     simp only [Nat.zero_mul,List.take_zero,List.nil_append,Nat.zero_add]
     rw [List.drop_of_length_le (by simp [hc0s,p])]
     simp
    rw [hfin] at y
    simp only [execOp,Instr.buildSlice,Sem.run_bind,ZO w hu,Result.andThen_ok,ZaY w hT,hlim,if_false]
    have h3':Instr.fill (fun i=>some (i*te.size,te.size)) cells0 (evp e parts.toList)=some l.toArray:=by simpa using y
    by_cases h0:len*te.size=0
    ·rw [if_pos h0] at a3
     rw [if_pos h0]
     simp only [Sem.run_bind,Sem.run_pure,Result.andThen_ok]
     rw [hparts,←a3,h3']
     simp only [Sem.run_bind,newRow,run_newObj,Sem.run_pure,Result.andThen_ok,Oper.upon]
     exact ⟨_,rfl,⟨rfl,rfl,rfl,fun _=>Nat.le_refl _⟩,j⟩
    ·rw [if_neg h0] at a3
     rw [if_neg h0]
     simp only [Sem.run_bind,ZdM w hi a5,Sem.run_pure,Result.andThen_ok]
     rw [hparts,←a3,h3']
     simp only [Sem.run_bind,newRow,run_newObj,Sem.run_pure,Result.andThen_ok,Oper.upon]
     exact ⟨_,rfl,⟨rfl,rfl,rfl,fun _=>Nat.le_refl _⟩,j⟩
   ·exact hh.elim
  ·exact hh.elim
 ·rename_i t l c
  split at hh
  ·rename_i el ks z0 b0 k n k' m ht hl hc
   split at hh
   ·rename_i te he
    obtain ⟨hg,hh⟩:=Zaj hh
    obtain ⟨a0,a1⟩:=Zks hg
    obtain ⟨v,w',j,p,y⟩:=ZEZ (C:=C) (k:=k) (k':=k') (ZaP (hC.tab _ _ ht).1) (hC.tab _ _ he) a0 a1 hh
    simp only [execOp,hl,hc,Sem.run_bind,j,Result.andThen_ok,Sem.run_pure,Oper.upon]
    exact ⟨v,rfl,p.q,y⟩
   ·exact hh.elim
  ·exact hh.elim
 ·rename_i args argTypes
  split at hh
  ·rename_i s x t t' hargs htys
   have ha':args=#[s,x]:=by apply Array.ext';simpa using hargs
   have hat':argTypes=#[t,t']:=by apply Array.ext';simpa using htys
   subst ha' hat'
   split at hh
   ·rename_i el ks z0 b0 el' ks' z0' b0' ht ht'
    split at hh
    ·rename_i te he
     obtain ⟨hg,hh⟩:=Zaj hh
     obtain ⟨a0,a1⟩:=Zks hg
     obtain ⟨v,w',j,p,y⟩:=ZEh (C:=C) (ty:=type) (ZaP (hC.tab _ _ ht).1) (ZaP (hC.tab _ _ ht').1) (hC.tab _ _ he) a0 a1 hh
     have:(execOp (ev e) ⟨dst,.call ⟨.builtin .append,#[s,x],#[t,t']⟩,type,pos,after,guard⟩).run C.P w=.ok (.value v) w':=by
      simp [execOp,resolve,invoke,builtin,j]
     rw [this]
     exact ⟨v,rfl,p.q,y⟩
    ·exact hh.elim
   ·rename_i el ks z0 b0 ik ks' z0' b0' ht ht'
    split at hh
    ·rename_i te kx n he hx
     obtain ⟨hg,hh⟩:=Zaj hh
     obtain ⟨a0,a1⟩:=Zks hg
     obtain ⟨v,w',j,p,y⟩:=ZAC (C:=C) (ty:=type) (kx:=kx) (ZaP (hC.tab _ _ ht).1) (Zfk (hC.tab _ _ ht').1) (hC.tab _ _ he) a0 a1 hh
     have:(execOp (ev e) ⟨dst,.call ⟨.builtin .append,#[s,x],#[t,t']⟩,type,pos,after,guard⟩).run C.P w=.ok (.value v) w':=by
      simp [execOp,resolve,invoke,builtin,hx,j]
     rw [this]
     exact ⟨v,rfl,p.q,y⟩
    ·exact hh.elim
   ·exact hh.elim
  ·exact hh.elim
 ·rename_i args argTypes
  split at hh
  ·rename_i x t hargs htys
   have ha':args=#[x]:=by apply Array.ext';simpa using hargs
   have hat':argTypes=#[t]:=by apply Array.ext';simpa using htys
   subst ha' hat'
   split at hh
   ·rename_i el ks z0 b0 ht
    split at hh
    ·rename_i te he
     obtain ⟨hg,hh⟩:=Zaj hh
     obtain ⟨a0,a1⟩:=Zks hg
     obtain ⟨v,w',j,p,y⟩:=ZDU (C:=C) (ty:=type) (ZaP (hC.tab _ _ ht).1) (hC.tab _ _ he) a0 a1 hh
     have:(execOp (ev e) ⟨dst,.call ⟨.builtin .clear,#[x],#[t]⟩,type,pos,after,guard⟩).run C.P w=.ok (.value v) w':=by
      simp [execOp,resolve,invoke,builtin,j]
     rw [this]
     exact ⟨v,rfl,p.q,y⟩
    ·exact hh.elim
   ·exact hh.elim
  ·exact hh.elim
 ·rename_i args argTypes
  split at hh
  ·rename_i d x t t' hargs htys
   have ha':args=#[d,x]:=by apply Array.ext';simpa using hargs
   have hat':argTypes=#[t,t']:=by apply Array.ext';simpa using htys
   subst ha' hat'
   split at hh
   ·rename_i el ks z0 b0 ht
    split at hh
    ·rename_i te he
     obtain ⟨v,w',j,p,y⟩:=Zx4 (C:=C) (t':=t') (ty:=type) (ZaP (hC.tab _ _ ht).1) (hC.tab _ _ he) hh
     have:(execOp (ev e) ⟨dst,.call ⟨.builtin .copy,#[d,x],#[t,t']⟩,type,pos,after,guard⟩).run C.P w=.ok (.value v) w':=by
      simp [execOp,resolve,invoke,builtin,j]
     rw [this]
     exact ⟨v,rfl,p.q,y⟩
    ·exact hh.elim
   ·exact hh.elim
  ·exact hh.elim
 ·rename_i f args argTypes
  split at hh
  ·rename_i g hg
   cases hin:inL C.ov g with
   | true=>
    rw [hin] at hh
    simp only [cond_true] at hh
    obtain ⟨w1,w2⟩:=ZxS (C:=C) hC hin hh
    have hf:f=.func g:=by cases f<;>simp [opF] at hg;rw [hg]
    have hargs:(#[]:Array Value)++args.map (ev e)++#[]=(evs e args.toList).toArray:=by
     apply Array.ext';rw [ZjJ];simp
    have hr:(execOp (ev e) ⟨dst,.call ⟨.value f,args,argTypes⟩,type,pos,after,guard⟩).run C.P w=.ok (.value (.bool false)) w:=by
     subst hf
     have hev:ev e (.func g)=.func (.func g) #[] #[]:=rfl
     simp only [execOp,resolve,Sem.run_bind,hev,Deferred.ofValue,Sem.run_pure,Result.andThen_ok,invoke,hargs,w1]
    rw [hr]
    exact ⟨_,rfl,RestQ.refl w,w2⟩
   | false=>
    rw [hin] at hh
    simp only [cond_false] at hh
    unfold vCall at hh
    split at hh
    ·rename_i g first captured hf
     obtain ⟨hg,hh⟩:=Zaj hh
     obtain ⟨fn,hfn,hbody,hname⟩:=hC.fns g hg
     have hr:(execOp (ev e) ⟨dst,.call ⟨.value f,args,argTypes⟩,type,pos,after,guard⟩).run C.P w =
       .ok (.enter g (first.toList++evs e args.toList++captured.toList).toArray) w:=by
      have hb:fn.body.isNone=false:=by cases hb:fn.body<;>simp [hb] at hbody ⊢
      have hargs:first++args.map (ev e)++captured=(first.toList++evs e args.toList++captured.toList).toArray:=by
       apply Array.ext';rw [ZjJ];simp
      simp only [execOp,resolve,Sem.run_bind,hf,Deferred.ofValue,Sem.run_pure,Result.andThen_ok,invoke,callFunc,run_program,hfn,hname,hb,Bool.false_eq_true,if_false,hargs]
     rw [hr]
     simp only [Oper.upon]
     refine (hh w rfl).mono ?_
     rintro e1 w' ⟨v,rfl,hrest,hk⟩
     obtain ⟨u,rfl,hk⟩:=Zr6 hk
     exact ⟨v,rfl,hrest,hk⟩
    ·exact hh.elim
  ·unfold vCall at hh
   split at hh
   ·rename_i g first captured hf
    obtain ⟨hg,hh⟩:=Zaj hh
    obtain ⟨fn,hfn,hbody,hname⟩:=hC.fns g hg
    have hr:(execOp (ev e) ⟨dst,.call ⟨.value f,args,argTypes⟩,type,pos,after,guard⟩).run C.P w =
      .ok (.enter g (first.toList++evs e args.toList++captured.toList).toArray) w:=by
     have hb:fn.body.isNone=false:=by cases hb:fn.body<;>simp [hb] at hbody ⊢
     have hargs:first++args.map (ev e)++captured=(first.toList++evs e args.toList++captured.toList).toArray:=by
      apply Array.ext';rw [ZjJ];simp
     simp only [execOp,resolve,Sem.run_bind,hf,Deferred.ofValue,Sem.run_pure,Result.andThen_ok,invoke,callFunc,run_program,hfn,hname,hb,Bool.false_eq_true,if_false,hargs]
    rw [hr]
    simp only [Oper.upon]
    refine (hh w rfl).mono ?_
    rintro e1 w' ⟨v,rfl,hrest,hk⟩
    obtain ⟨u,rfl,hk⟩:=Zr6 hk
    exact ⟨v,rfl,hrest,hk⟩
   ·exact hh.elim
 ·rename_i t r
  split at hh
  ·rename_i kt et ks z b ht
   have hu:=Zme (hC.tab _ _ ht).1
   have hr:∀ q:Option Value,(q=none∨∃ k n,q=some (.int k n))→(Instr.makeMap t q).run C.P w=.ok (.map (some w.heap.size)) { w with heap:=w.heap.push (.map #[] 0) }:=by
    rintro q (rfl|⟨k,n,rfl⟩)
    ·simp [Instr.makeMap]
    ·simp [Instr.makeMap,ZO w hu,asInt,asIntOf]
   rw [Zdp] at hh
   split at hh
   ·rename_i hq
    simp only [execOp,Sem.run_bind,hr (r.map (ev e)) (.inl hq),Result.andThen_ok,Sem.run_pure,Oper.upon]
    exact ⟨_,rfl,⟨rfl,rfl,rfl,fun _=>Nat.le_refl _⟩,hh⟩
   ·rename_i k n hq
    simp only [execOp,Sem.run_bind,hr (r.map (ev e)) (.inr ⟨k,n,hq⟩),Result.andThen_ok,Sem.run_pure,Oper.upon]
    exact ⟨_,rfl,⟨rfl,rfl,rfl,fun _=>Nat.le_refl _⟩,hh⟩
   ·exact hh.elim
  ·exact hh.elim
 ·rename_i t m k x
  obtain ⟨w',j,p,y⟩:=Zrm hC hh
  simp only [execOp,Sem.run_bind,j,Result.andThen_ok,Sem.run_pure,Oper.upon]
  exact ⟨undef,rfl,p.q,y⟩
 ·rename_i t m k x
  obtain ⟨w',j,p,y⟩:=Zrm hC hh
  simp only [execOp,Sem.run_bind,j,Result.andThen_ok,Sem.run_pure,Oper.upon]
  exact ⟨undef,rfl,p.q,y⟩
 ·rename_i src dst x
  split at hh
  ·rename_i ks z b el ks' z' b' s hs hd hx
   split at hh
   ·rename_i ag z2 b2 hel
    obtain ⟨v,w',j,p,y⟩:=ZAS (C:=C) (Zdb (hC.tab _ _ hs).1) (ZaP (hC.tab _ _ hd).1) (Zfk (hC.tab _ _ hel).1) hh
    simp only [execOp,Sem.run_bind,hx,j,Result.andThen_ok,Sem.run_pure,Oper.upon]
    exact ⟨v,rfl,p.q,y⟩
   ·exact hh.elim
  ·exact hh.elim
 ·exact hh.elim
end
end Go.Vc
