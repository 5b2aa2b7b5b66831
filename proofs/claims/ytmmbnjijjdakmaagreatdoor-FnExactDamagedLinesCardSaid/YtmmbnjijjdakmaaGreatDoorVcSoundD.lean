import Derived.Test.YtmmbnjijjdakmaaGreatDoorVcSoundC
import Derived.Lib.AppendZerosOnto
import Derived.Lib.Overlaps
namespace Go.Vc
set_option linter.unusedVariables false
set_option linter.unusedSimpArgs false
open Go
section
variable {C:Ctx} {e:Env}
theorem Ze6 {P:Program} {t:TypeId} {te:TE} (h:TeOk P t te):∃ i z,P.info? t=some i∧i.size=te.size∧i.bytes=te.bytes∧i.zero=some z∧z.cells=te.zero.toArray:=by
 obtain ⟨i,z,h1,h2,h3,h4,h5⟩:=h.info
 exact ⟨i,z,h1,h2,h3,h4,by apply Array.ext';simpa using h5⟩
theorem ZsX {t el:TypeId} {te:TE} (ht:C.P.underlying t=some (.slice el)) (he:TeOk C.P el te) (hz:te.size≠0) (hzl:te.zero.length=te.size) {n c:Int} {k k':IntKind} {w:World}
  {K:Value→Heap→Prop} (h:vMake te.bytes te.zero el n c w.heap K):
  ∃ v w',(Instr.makeSlice t (.int k n) (.int k' c)).run C.P w=.ok v w'∧Rest w w'∧K v w'.heap:=by
 obtain ⟨⟨h1,h2,h3,h4⟩,hk⟩:=h
 obtain ⟨i,z,hi,hsz,hby,hz0,hzc⟩:=Ze6 he
 refine ⟨_,{ w with heap:=w.heap.push (.cells (repl c.toNat te.zero).toArray el) },?_,⟨rfl,rfl,rfl,Nat.le_refl _⟩,hk⟩
 have w1:IntKind.i64.wrap n=n:=Zak (by omega) (by omega)
 have w2:IntKind.i64.wrap c=c:=Zak (by omega) (by omega)
 have hb:((i.bytes:Nat):Int)*c≤140737488355328:=by rw [hby,Int.mul_comm];exact h3
 have t1:(decide (c<0)||decide ((i.bytes:Int)*c>2^48))=false:=by
  simp only [Bool.or_eq_false_iff,decide_eq_false_iff_not];constructor<;>omega
 simp only [Instr.makeSlice,Sem.run_bind,ZH w ht,Result.andThen_ok,asInt,asIntOf,Sem.run_pure,ZbU w hi,w1,w2,t1]
 have t2:(false||decide (n<0)||decide (n>c))=false:=by
  simp only [Bool.false_or,Bool.or_eq_false_iff,decide_eq_false_iff_not];constructor<;>omega
 simp only [t2,Bool.false_eq_true,if_false,Sem.run_bind,Result.andThen_ok,run_askRoom,ZaE w he]
 by_cases hc:c.toNat*te.size=0
 ·have hc0:c.toNat=0:=by
   rcases Nat.mul_eq_zero.1 hc with h|h
   ·exact h
   ·exact absurd h hz
  simp only [hc,if_true]
  have hr0:(Array.range 0).map (fun _:Nat=>(default:Value))=#[]:=by apply Array.ext';simp
  simp [newRow,hc0,repl,hnew,hr0]
 ·simp only [hc,if_false,Sem.run_bind,ZdI w hi hz0,Result.andThen_ok,Sem.run_pure]
  have hzs:z.cells.size=te.size:=by rw [hzc];simpa using hzl
  have:=Zix z.cells c.toNat (by omega)
  rw [hzs] at this
  simp only [hzs]
  rw [this,hzc]
  simp [newRow,hnew]
theorem Zgh {P:Program} {w:World} {z n c:Nat} {src:Option Addr} {news:List Value} (hl:news.length=n*z)
  (hn:∀ j u,news[j]?=some u→∃ a,src=some a∧hcell w.heap (a.add j)=some u):
  (Builtin.firstCells z n (.slice src n c)).run P w=.ok news.toArray w:=by
 cases src with
 | none=>
  have:news=[]:=by
   cases news with
   | nil=>rfl
   | cons b r=>obtain ⟨p,hp,_⟩:=hn 0 b rfl;cases hp
  subst this
  rfl
 | some a=>
  simp only [Builtin.firstCells]
  rw [←hl]
  exact Zj8 w news fun j u hu=>by
   obtain ⟨p,hp,h⟩:=hn j u hu
   cases hp;exact h
theorem Zs3 {P:Program} {w:World} {z n k c:Nat} {src:Option Addr} {news:List Value} (hl:news.length=n*z)
  (hn:∀ j u,news[j]?=some u→∃ a,src=some a∧hcell w.heap (a.add j)=some u):
  (Builtin.firstCells z n (.slice src k c)).run P w=.ok news.toArray w:=by
 cases src with
 | none=>
  have:news=[]:=by
   cases news with
   | nil=>rfl
   | cons b r=>obtain ⟨p,hp,_⟩:=hn 0 b rfl;cases hp
  subst this
  rfl
 | some a=>
  simp only [Builtin.firstCells]
  rw [←hl]
  exact Zj8 w news fun j u hu=>by
   obtain ⟨p,hp,h⟩:=hn j u hu
   cases hp;exact h
theorem ZBl {t t' el el':TypeId} {te:TE} {ty:TypeId} (ht:C.P.underlying t=some (.slice el)) (ht':C.P.underlying t'=some (.slice el')) (he:TeOk C.P el te)
  (hz:te.size≠0) (hzl:te.zero.length=te.size) {s x:Value} {w:World} {K:Value→Heap→Prop} (h:vAppend te.size te.bytes te.zero el s x w.heap K):
  ∃ v w',(Builtin.append_ #[t,t'] ty #[s,x]).run C.P w=.ok v w'∧Rest w w'∧K v w'.heap:=by
 unfold vAppend at h
 split at h
 ·rename_i base n c src m mc
  obtain ⟨old,news,h1,h2,h3,h4,h5,h6,h7,h8,h9,h10,h11⟩:=h
  obtain ⟨i,z,hi,hsz,hby,hz0,hzc⟩:=Ze6 he
  have hfirst:(Builtin.firstCells te.size m (.slice src m mc)).run C.P w=.ok news.toArray w:=Zgh h2 h4
  have hold:(Builtin.firstCells te.size n (.slice base n c)).run C.P w=.ok old.toArray w:=Zgh h1 h3
  by_cases hroom:n+m≤c
  ·cases base with
   | none=>
    refine ⟨_,w,?_,Rest.refl w,h10 hroom rfl⟩
    simp [Builtin.append_,ZH w ht,ZH w ht',ZaE w he,Builtin.lenOf,hroom,hfirst]
   | some a=>
    obtain ⟨_,hst⟩:=h9 hroom a rfl
    obtain ⟨w',hr,hrest,hk⟩:=Zgb (P:=C.P) _ _ w _ hst
    refine ⟨_,w',?_,hrest,hk⟩
    simp [Builtin.append_,ZH w ht,ZH w ht',ZaE w he,Builtin.lenOf,hroom,hfirst,hr]
  ·have hlt:c<n+m:=by omega
   have hfit:=growslice_fits (old:=c) hlt h7
   obtain ⟨cap,hcapd⟩:∃ cap,cap=(Question.appendCap (n+m) c el).cut (w.tape w.drawn (.appendCap (n+m) c el)):=⟨_,rfl⟩
   have hc1:n+m≤cap:=by rw [hcapd];simp only [Question.cut];omega
   have hc2:cap≤9223372036854775807:=by
    rw [hcapd];simp only [Question.cut]
    have:=Nat.mod_lt (w.tape w.drawn (.appendCap (n+m) c el)) (show 0<2^63-(n+m) by omega)
    omega
   refine ⟨_,{ w with heap:=w.heap.push (.cells (old++news++repl (cap-(n+m)) te.zero).toArray el),drawn:=w.drawn+1 },?_,⟨rfl,rfl,rfl,Nat.le_succ _⟩,h11 hlt cap hc1 hc2⟩
   have hmax:¬ (((n+m:Nat):Int)>IntKind.i64.max):=by
    have:IntKind.i64.max=9223372036854775807:=rfl
    rw [this];omega
   have hzs:z.cells.size=te.size:=by rw [hzc];simpa using hzl
   have hzero:Builtin.zeroCells z.cells (cap-(n+m))=(repl (cap-(n+m)) te.zero).toArray:=by
    unfold Builtin.zeroCells
    rw [Zix z.cells _ (by omega),hzc]
   let w1:World:={ w with drawn:=w.drawn+1 }
   have hfirst':(Builtin.firstCells te.size m (.slice src m mc)).run C.P w1=.ok news.toArray w1:=Zgh (w:=w1) h2 h4
   have hold':(Builtin.firstCells te.size n (.slice base n c)).run C.P w1=.ok old.toArray w1:=Zgh (w:=w1) h1 h3
   have hch:(choose (.appendCap (n+m) c el)).run C.P w=.ok cap w1:=by
    simp [choose,Sem.run,Question.forced,hcapd,w1]
   have hfit':¬ (Builtin.nextslicecap (n+m) c*i.bytes>281474976710656):=by rw [hby];omega
   have hmax':¬ (((n+m:Nat):Int)>IntKind.i64.max∧(false=true∨i.bytes=0)):=fun h=>hmax h.1
   simp only [Builtin.append_,Sem.run_bind,ZH w ht,ZH w ht',Result.andThen_ok,ZaE w he,Builtin.lenOf,Sem.run_pure,hroom,if_false,
    List.getElem?_toArray,List.getElem?_cons_zero,List.getElem?_cons_succ,Bool.false_eq_true,ZbU w hi,Nat.reducePow]
   rw [if_neg (fun h=>hmax h.1)]
   simp only [Sem.run_bind,ZbU w hi,Result.andThen_ok]
   rw [if_neg hfit']
   have hi1:(typeInfo el).run C.P w1=.ok i w1:=ZbU w1 hi
   have hz1:(zeroValue el).run C.P w1=.ok z w1:=ZdI w1 hi hz0
   simp only [Sem.run_bind,hch,hi1,Result.andThen_ok,run_askRoom,hold',Bool.not_false,if_true,hfirst',hz1,hzero]
   simp [newRow,hnew,w1]
   rfl
 ·exact h.elim
theorem Zin {te:TE} (h:teGood te=true):te.size≠0∧te.zero.length=te.size:=by
 simp only [teGood,Bool.and_eq_true,Bool.not_eq_true'] at h
 exact ⟨fun h0=>by rw [h0] at h;simp at h,Nat.eq_of_beq_eq_true h.2⟩
theorem ZxY {t el:TypeId} {te:TE} {ty:TypeId} (ht:C.P.underlying t=some (.slice el)) (he:TeOk C.P el te)
  (hz:te.size≠0) (hzl:te.zero.length=te.size) {x:Value} {w:World} {K:Value→Heap→Prop} (h:vClear te.zero x w.heap K):
  ∃ v w',(Builtin.clear_ #[t] ty #[x]).run C.P w=.ok v w'∧Rest w w'∧K v w'.heap:=by
 obtain ⟨i,z,hi,hsz,hby,hz0,hzc⟩:=Ze6 he
 have hzs:z.cells.size=te.size:=by rw [hzc];simpa using hzl
 unfold vClear at h
 split at h
 ·rename_i a n c
  obtain ⟨w',hr,hrest,hk⟩:=Zgb (P:=C.P) _ _ w _ h
  refine ⟨_,w',?_,hrest,hk⟩
  cases n with
  | zero=>
   have:w'=w:=by simpa [repl,storeCells] using hr.symm
   subst this
   simp [Builtin.clear_,ZH w' ht]
  | succ n=>
   have hzero:Builtin.zeroCells z.cells (n+1)=(repl (n+1) te.zero).toArray:=by
    unfold Builtin.zeroCells
    rw [Zix z.cells _ (by omega),hzc]
   simp [Builtin.clear_,ZH w ht,ZdI w hi hz0,hzero,hr]
 ·rename_i n c
  refine ⟨_,w,?_,Rest.refl w,h⟩
  simp [Builtin.clear_,ZH w ht]
 ·exact h.elim
theorem ZtZ {t t' el:TypeId} {te:TE} {ty:TypeId} (ht:C.P.underlying t=some (.slice el)) (he:TeOk C.P el te) {d x:Value} {w:World} {K:Value→Heap→Prop} (h:vCopy te.size d x w.heap K):
  ∃ v w',(Builtin.copy_ #[t,t'] ty #[d,x]).run C.P w=.ok v w'∧Rest w w'∧K v w'.heap:=by
 unfold vCopy at h
 split at h
 ·rename_i base n c src m mc
  obtain ⟨cs,h1,h2,h3,h4⟩:=h
  have hfirst:(Builtin.firstCells te.size (Nat.min m n) (.slice src m mc)).run C.P w=.ok cs.toArray w:=Zs3 h1 h2
  cases base with
  | none=>
   refine ⟨_,w,?_,Rest.refl w,h3 rfl⟩
   simp [Builtin.copy_,ZH w ht,ZaE w he,Builtin.lenOf,hfirst,goInt]
  | some a=>
   obtain ⟨w',hr,hrest,hk⟩:=Zgb (P:=C.P) _ _ w _ (h4 a rfl)
   refine ⟨_,w',?_,hrest,hk⟩
   simp [Builtin.copy_,ZH w ht,ZaE w he,Builtin.lenOf,hfirst,hr,goInt]
 ·exact h.elim
theorem Zp9 {k:TK} {K:Value→Prop} (h:exV1 k K):∃ v,K v:=by
 unfold exV1 at h
 split at h<;>(obtain ⟨x,hx⟩:=h;exact ⟨_,hx⟩)
theorem Zo7:∀ (ks:List TK) (K:List Value→Prop),exVL ks K→∃ vs,K vs
 | [],_,h=>⟨[],h⟩
 | _::ks,_,h=>by
  obtain ⟨v,hv⟩:=Zp9 h
  obtain ⟨vs,hvs⟩:=Zo7 ks _ hv
  exact ⟨_,hvs⟩
theorem Zly:∀ (cs:List (Bool×List TK)) (K:List Value→Prop),exVC cs K→∃ vs,K vs
 | [],_,h=>⟨[],h⟩
 | (true,ks)::cs,_,h=>by
  obtain ⟨vs,hv⟩:=Zo7 ks _ h
  obtain ⟨l,hl⟩:=Zly cs _ hv
  exact ⟨_,hl⟩
 | (false,ks)::cs,_,h=>by
  simp only [exVC,cond_false] at h
  split at h
  ·obtain ⟨v,hv⟩:=Zp9 h
   obtain ⟨l,hl⟩:=Zly cs _ hv
   exact ⟨_,hl⟩
  ·exact h.elim
theorem Zpz {rs:RS} {K:Value→Prop} (h:exRS rs K):∃ v,K v:=by
 unfold exRS at h
 obtain ⟨vs,hv⟩:=Zly _ _ h
 cases hb:rs.tup
 ·rw [hb] at hv
  simp only [cond_false] at hv
  split at hv
  ·exact ⟨_,hv⟩
  ·exact hv.elim
 ·rw [hb] at hv
  exact ⟨_,hv⟩
theorem Zs9 {t t' el:TypeId} {te:TE} {ty:TypeId} {ik kx:IntKind} (ht:C.P.underlying t=some (.slice el)) (ht':C.P.underlying t'=some (.int ik)) (he:TeOk C.P el te)
  (hz:te.size≠0) (hzl:te.zero.length=te.size) {s:Value} {x:Int} {w:World} {K:Value→Heap→Prop} (h:vAppZ te.size te.bytes te.zero el s x w.heap K):
  ∃ v w',(Builtin.append_ #[t,t'] ty #[s,.int kx x]).run C.P w=.ok v w'∧Rest w w'∧K v w'.heap:=by
 unfold vAppZ at h
 split at h
 ·rename_i base n c
  obtain ⟨h0,old,h1,h2,h3,h4,h5,h6⟩:=h
  obtain ⟨i,z,hi,hsz,hby,hz0,hzc⟩:=Ze6 he
  obtain ⟨k,rfl⟩:∃ k:Nat,x=(k:Int):=⟨x.toNat,by omega⟩
  rw [Int.toNat_natCast] at h3 h4 h5 h6
  have hzs:z.cells.size=te.size:=by rw [hzc];simpa using hzl
  have hzero:∀ m,Builtin.zeroCells z.cells m=(repl m te.zero).toArray:=fun m=>by
   unfold Builtin.zeroCells
   rw [Zix z.cells _ (by omega),hzc]
  have hold:(Builtin.firstCells i.size n (.slice base n c)).run C.P w.drew=.ok old.toArray w.drew:=by
   rw [hsz];exact Zgh (w:=w.drew) h1 h2
  have hkb:k*i.bytes≤(n+k)*te.bytes:=by rw [hby];exact Nat.mul_le_mul_right _ (by omega)
  have hr:=Lib.run_append_grow_zeros (P:=C.P) w t t' ty el i z kx ik ht ht' hi hz0 base n c old hold k (by omega) (by omega) h5 (by omega) (by omega) (by rw [hby];exact growslice_fits h5 h3)
  refine ⟨_,_,hr,⟨rfl,rfl,rfl,Nat.le_succ _⟩,?_⟩
  have hg:=grownCap_ge w (n+k) c el
  have hg2:=grownCap_le_maxLen w (n+k) c el (by unfold maxLen;omega)
  unfold maxLen at hg2
  have hk:=h6 (grownCap w (n+k) c el) hg (by omega)
  rw [hzero,hzero]
  have e:old.toArray++(repl k te.zero).toArray++(repl (grownCap w (n+k) c el-(n+k)) te.zero).toArray=(old++repl k te.zero++repl (grownCap w (n+k) c el-(n+k)) te.zero).toArray:=by simp
  rw [e]
  exact hk
 ·exact h.elim
theorem Zwd (hC:CtxOk C) {g:Nat} (hg:inL C.ov g=true) {args:List Value} {w:World} {K:Prop} (h:vOv args w.heap K):
  (callFunc g args.toArray).run C.P w=.ok (.value (.bool false)) w∧K:=by
 obtain ⟨fn,tS,tR,el,te,f1,f2,f3,f4,f5,f6,f7⟩:=hC.ovs g hg
 unfold vOv at h
 split at h
 ·rename_i a la ca b lb cb
  obtain ⟨h1,h2,⟨cs,t,f,h3,h4⟩,⟨cs',t',f',h5,h6⟩,hk⟩:=h
  refine ⟨?_,hk⟩
  rw [run_callFunc_extern f1 f3 f2 f4 f5]
  have:=Lib.run_overlaps_apart (P:=C.P) w tS tR el f6 te.size (fun w=>ZaE w f7) a b la ca lb cb h1 t t' cs.size cs'.size (by simp [World.shape?,h3]) (by simp [World.shape?,h5]) h6 h2 h4
  rw [this];rfl
 ·exact h.elim
theorem Zqf (hC:CtxOk C) {o:Oper} {h:Heap} {K:Value→Heap→Prop} (hh:vEff C o.op o.type e h K) (a:Act) (ha:a.eval=ev e) (w:World) (hw:w.heap=h):
  o.wp C.P a w (fun a' w'=>∃ v,a'=a.put o.dst v∧RestQ C.q w w'∧K v w'.heap) Bot:=by
 subst hw
 obtain ⟨dst,op,type,pos,after,guard⟩:=o
 simp only at hh ⊢
 unfold Oper.wp
 rw [ha]
 unfold vEff at hh
 split at hh
 ·rename_i t x v
  obtain ⟨w',h1,h2,h3⟩:=ZtI hC hh
  simp only [execOp,Sem.run_bind,h1,Result.andThen_ok,Sem.run_pure,Oper.upon]
  exact ⟨undef,rfl,h2.q,h3⟩
 ·rename_i t
  split at hh
  ·rename_i te ht
   obtain ⟨i,z,hi,_,_,hz0,hzc⟩:=Ze6 (hC.tab _ _ ht)
   simp only [execOp,Instr.alloc,Sem.run_bind,ZdI w hi hz0,Result.andThen_ok,newVar,newRow,run_newObj,Sem.run_pure,Oper.upon]
   refine ⟨_,rfl,⟨rfl,rfl,rfl,fun _=>Nat.le_refl _⟩,?_⟩
   rw [hzc]
   exact hh
  ·exact hh.elim
 ·rename_i t x
  unfold vBox at hh
  split at hh
  ·rename_i te ht
   obtain ⟨h1,_⟩:=ZlG hh
   simp only [execOp,Instr.box,Sem.run_bind,Result.andThen_ok,newVar,newRow,run_newObj,Sem.run_pure,Oper.upon]
   exact ⟨_,rfl,⟨rfl,rfl,rfl,fun _=>Nat.le_refl _⟩,by simpa [hnew] using h1⟩
  ·exact hh.elim
 ·rename_i t len parts
  split at hh
  ·rename_i el ks z0 b0 ht
   split at hh
   ·rename_i te he
    obtain ⟨hb,hh⟩:=Z6 hh
    simp only [Bool.and_eq_true,Bool.not_eq_true'] at hb
    obtain ⟨⟨hb1,hb2⟩,hb3⟩:=hb
    have hb1:=Nat.eq_of_beq_eq_true hb1
    have hb2:=Nat.le_of_ble_eq_true hb2
    have hsz:te.size≠0:=fun h0=>by rw [h0] at hb3;simp at hb3
    have hT:=hC.tab _ _ he
    obtain ⟨i,z,hi,hisz,_,hz0,hzc⟩:=Ze6 hT
    have hlen:(evp e parts.toList).length=len:=by rw [ZnW];simpa using hb1
    have hparts:(parts.map fun (x:Nat×Operand)=>(x.1,ev e x.2)).toList=evp e parts.toList:=by rw [ZnW];simp
    have hu:=Zav (hC.tab _ _ ht).1
    have hlim:¬ (len*te.size>2^24):=by omega
    obtain ⟨cells0,hc0⟩:∃ cells0:Array Value,cells0=(Array.range (len*te.size)).map (fun i=>(if len*te.size=0 then #[] else z.cells)[i%(if len*te.size=0 then #[] else z.cells).size]!):=⟨_,rfl⟩
    have hc0s:cells0.size=len*te.size:=by rw [hc0];simp
    obtain ⟨l,h1,h2,h3⟩:=ZrT _ 0 cells0.toList _ hh (by rw [hlen];simp [hc0s])
    have hfin:(setAt cells0.toList (0*te.size) l).toArray=l.toArray:=by
     unfold setAt
     rw [hlen] at h2
     congr 1
     simp only [Nat.zero_mul,List.take_zero,List.nil_append,Nat.zero_add]
     rw [List.drop_of_length_le (by simp [hc0s,h2])]
     simp
    rw [hfin] at h3
    simp only [execOp,Instr.buildSlice,Sem.run_bind,ZH w hu,Result.andThen_ok,ZaE w hT,hlim,if_false]
    have h3':Instr.fill (fun i=>some (i*te.size,te.size)) cells0 (evp e parts.toList)=some l.toArray:=by simpa using h3
    by_cases h0:len*te.size=0
    ·rw [if_pos h0] at hc0
     rw [if_pos h0]
     simp only [Sem.run_bind,Sem.run_pure,Result.andThen_ok]
     rw [hparts,←hc0,h3']
     simp only [Sem.run_bind,newRow,run_newObj,Sem.run_pure,Result.andThen_ok,Oper.upon]
     exact ⟨_,rfl,⟨rfl,rfl,rfl,fun _=>Nat.le_refl _⟩,h1⟩
    ·rw [if_neg h0] at hc0
     rw [if_neg h0]
     simp only [Sem.run_bind,ZdI w hi hz0,Sem.run_pure,Result.andThen_ok]
     rw [hparts,←hc0,h3']
     simp only [Sem.run_bind,newRow,run_newObj,Sem.run_pure,Result.andThen_ok,Oper.upon]
     exact ⟨_,rfl,⟨rfl,rfl,rfl,fun _=>Nat.le_refl _⟩,h1⟩
   ·exact hh.elim
  ·exact hh.elim
 ·rename_i t l c
  split at hh
  ·rename_i el ks z0 b0 k n k' m ht hl hc
   split at hh
   ·rename_i te he
    obtain ⟨hg,hh⟩:=Z6 hh
    obtain ⟨hg1,hg2⟩:=Zin hg
    obtain ⟨v,w',h1,h2,h3⟩:=ZsX (C:=C) (k:=k) (k':=k') (Zav (hC.tab _ _ ht).1) (hC.tab _ _ he) hg1 hg2 hh
    simp only [execOp,hl,hc,Sem.run_bind,h1,Result.andThen_ok,Sem.run_pure,Oper.upon]
    exact ⟨v,rfl,h2.q,h3⟩
   ·exact hh.elim
  ·exact hh.elim
 ·rename_i args argTypes
  split at hh
  ·rename_i s x t t' hargs htys
   have ha':args=#[s,x]:=by apply Array.ext';simpa using hargs
   have hat':argTypes=#[t,t']:=by apply Array.ext';simpa using htys
   subst ha' hat'
   split at hh
   ·rename_i el ks z0 b0 el' ks' z0' b0' ht ht'
    split at hh
    ·rename_i te he
     obtain ⟨hg,hh⟩:=Z6 hh
     obtain ⟨hg1,hg2⟩:=Zin hg
     obtain ⟨v,w',h1,h2,h3⟩:=ZBl (C:=C) (ty:=type) (Zav (hC.tab _ _ ht).1) (Zav (hC.tab _ _ ht').1) (hC.tab _ _ he) hg1 hg2 hh
     have:(execOp (ev e) ⟨dst,.call ⟨.builtin .append,#[s,x],#[t,t']⟩,type,pos,after,guard⟩).run C.P w=.ok (.value v) w':=by
      simp [execOp,resolve,invoke,builtin,h1]
     rw [this]
     exact ⟨v,rfl,h2.q,h3⟩
    ·exact hh.elim
   ·rename_i el ks z0 b0 ik ks' z0' b0' ht ht'
    split at hh
    ·rename_i te kx n he hx
     obtain ⟨hg,hh⟩:=Z6 hh
     obtain ⟨hg1,hg2⟩:=Zin hg
     obtain ⟨v,w',h1,h2,h3⟩:=Zs9 (C:=C) (ty:=type) (kx:=kx) (Zav (hC.tab _ _ ht).1) (ZeD (hC.tab _ _ ht').1) (hC.tab _ _ he) hg1 hg2 hh
     have:(execOp (ev e) ⟨dst,.call ⟨.builtin .append,#[s,x],#[t,t']⟩,type,pos,after,guard⟩).run C.P w=.ok (.value v) w':=by
      simp [execOp,resolve,invoke,builtin,hx,h1]
     rw [this]
     exact ⟨v,rfl,h2.q,h3⟩
    ·exact hh.elim
   ·exact hh.elim
  ·exact hh.elim
 ·rename_i args argTypes
  split at hh
  ·rename_i x t hargs htys
   have ha':args=#[x]:=by apply Array.ext';simpa using hargs
   have hat':argTypes=#[t]:=by apply Array.ext';simpa using htys
   subst ha' hat'
   split at hh
   ·rename_i el ks z0 b0 ht
    split at hh
    ·rename_i te he
     obtain ⟨hg,hh⟩:=Z6 hh
     obtain ⟨hg1,hg2⟩:=Zin hg
     obtain ⟨v,w',h1,h2,h3⟩:=ZxY (C:=C) (ty:=type) (Zav (hC.tab _ _ ht).1) (hC.tab _ _ he) hg1 hg2 hh
     have:(execOp (ev e) ⟨dst,.call ⟨.builtin .clear,#[x],#[t]⟩,type,pos,after,guard⟩).run C.P w=.ok (.value v) w':=by
      simp [execOp,resolve,invoke,builtin,h1]
     rw [this]
     exact ⟨v,rfl,h2.q,h3⟩
    ·exact hh.elim
   ·exact hh.elim
  ·exact hh.elim
 ·rename_i args argTypes
  split at hh
  ·rename_i d x t t' hargs htys
   have ha':args=#[d,x]:=by apply Array.ext';simpa using hargs
   have hat':argTypes=#[t,t']:=by apply Array.ext';simpa using htys
   subst ha' hat'
   split at hh
   ·rename_i el ks z0 b0 ht
    split at hh
    ·rename_i te he
     obtain ⟨v,w',h1,h2,h3⟩:=ZtZ (C:=C) (t':=t') (ty:=type) (Zav (hC.tab _ _ ht).1) (hC.tab _ _ he) hh
     have:(execOp (ev e) ⟨dst,.call ⟨.builtin .copy,#[d,x],#[t,t']⟩,type,pos,after,guard⟩).run C.P w=.ok (.value v) w':=by
      simp [execOp,resolve,invoke,builtin,h1]
     rw [this]
     exact ⟨v,rfl,h2.q,h3⟩
    ·exact hh.elim
   ·exact hh.elim
  ·exact hh.elim
 ·rename_i f args argTypes
  split at hh
  ·rename_i g hg
   cases hin:inL C.ov g with
   | true=>
    rw [hin] at hh
    simp only [cond_true] at hh
    obtain ⟨w1,w2⟩:=Zwd (C:=C) hC hin hh
    have hf:f=.func g:=by cases f<;>simp [opF] at hg;rw [hg]
    have hargs:(#[]:Array Value)++args.map (ev e)++#[]=(evs e args.toList).toArray:=by
     apply Array.ext';rw [ZhL];simp
    have hr:(execOp (ev e) ⟨dst,.call ⟨.value f,args,argTypes⟩,type,pos,after,guard⟩).run C.P w=.ok (.value (.bool false)) w:=by
     subst hf
     have hev:ev e (.func g)=.func (.func g) #[] #[]:=rfl
     simp only [execOp,resolve,Sem.run_bind,hev,Deferred.ofValue,Sem.run_pure,Result.andThen_ok,invoke,hargs,w1]
    rw [hr]
    exact ⟨_,rfl,RestQ.refl w,w2⟩
   | false=>
    rw [hin] at hh
    simp only [cond_false] at hh
    unfold vCall at hh
    split at hh
    ·rename_i g first captured hf
     obtain ⟨hg,hh⟩:=Z6 hh
     obtain ⟨fn,hfn,hbody,hname⟩:=hC.fns g hg
     have hr:(execOp (ev e) ⟨dst,.call ⟨.value f,args,argTypes⟩,type,pos,after,guard⟩).run C.P w =
       .ok (.enter g (first.toList++evs e args.toList++captured.toList).toArray) w:=by
      have hb:fn.body.isNone=false:=by cases hb:fn.body<;>simp [hb] at hbody ⊢
      have hargs:first++args.map (ev e)++captured=(first.toList++evs e args.toList++captured.toList).toArray:=by
       apply Array.ext';rw [ZhL];simp
      simp only [execOp,resolve,Sem.run_bind,hf,Deferred.ofValue,Sem.run_pure,Result.andThen_ok,invoke,callFunc,run_program,hfn,hname,hb,Bool.false_eq_true,if_false,hargs]
     rw [hr]
     simp only [Oper.upon]
     refine (hh w rfl).mono ?_
     rintro e1 w' ⟨v,rfl,hrest,hk⟩
     obtain ⟨u,rfl,hk⟩:=Zpz hk
     exact ⟨v,rfl,hrest,hk⟩
    ·exact hh.elim
  ·unfold vCall at hh
   split at hh
   ·rename_i g first captured hf
    obtain ⟨hg,hh⟩:=Z6 hh
    obtain ⟨fn,hfn,hbody,hname⟩:=hC.fns g hg
    have hr:(execOp (ev e) ⟨dst,.call ⟨.value f,args,argTypes⟩,type,pos,after,guard⟩).run C.P w =
      .ok (.enter g (first.toList++evs e args.toList++captured.toList).toArray) w:=by
     have hb:fn.body.isNone=false:=by cases hb:fn.body<;>simp [hb] at hbody ⊢
     have hargs:first++args.map (ev e)++captured=(first.toList++evs e args.toList++captured.toList).toArray:=by
      apply Array.ext';rw [ZhL];simp
     simp only [execOp,resolve,Sem.run_bind,hf,Deferred.ofValue,Sem.run_pure,Result.andThen_ok,invoke,callFunc,run_program,hfn,hname,hb,Bool.false_eq_true,if_false,hargs]
    rw [hr]
    simp only [Oper.upon]
    refine (hh w rfl).mono ?_
    rintro e1 w' ⟨v,rfl,hrest,hk⟩
    obtain ⟨u,rfl,hk⟩:=Zpz hk
    exact ⟨v,rfl,hrest,hk⟩
   ·exact hh.elim
 ·rename_i t r
  split at hh
  ·rename_i kt et ks z b ht
   have hu:=Zni (hC.tab _ _ ht).1
   have hr:∀ q:Option Value,(q=none∨∃ k n,q=some (.int k n))→(Instr.makeMap t q).run C.P w=.ok (.map (some w.heap.size)) { w with heap:=w.heap.push (.map #[] 0) }:=by
    rintro q (rfl|⟨k,n,rfl⟩)
    ·simp [Instr.makeMap]
    ·simp [Instr.makeMap,ZH w hu,asInt,asIntOf]
   rw [ZcD] at hh
   split at hh
   ·rename_i hq
    simp only [execOp,Sem.run_bind,hr (r.map (ev e)) (.inl hq),Result.andThen_ok,Sem.run_pure,Oper.upon]
    exact ⟨_,rfl,⟨rfl,rfl,rfl,fun _=>Nat.le_refl _⟩,hh⟩
   ·rename_i k n hq
    simp only [execOp,Sem.run_bind,hr (r.map (ev e)) (.inr ⟨k,n,hq⟩),Result.andThen_ok,Sem.run_pure,Oper.upon]
    exact ⟨_,rfl,⟨rfl,rfl,rfl,fun _=>Nat.le_refl _⟩,hh⟩
   ·exact hh.elim
  ·exact hh.elim
 ·rename_i t m k x
  obtain ⟨w',h1,h2,h3⟩:=ZoV hC hh
  simp only [execOp,Sem.run_bind,h1,Result.andThen_ok,Sem.run_pure,Oper.upon]
  exact ⟨undef,rfl,h2.q,h3⟩
 ·rename_i t m k x
  obtain ⟨w',h1,h2,h3⟩:=ZoV hC hh
  simp only [execOp,Sem.run_bind,h1,Result.andThen_ok,Sem.run_pure,Oper.upon]
  exact ⟨undef,rfl,h2.q,h3⟩
 ·rename_i src dst x
  split at hh
  ·rename_i ks z b el ks' z' b' s hs hd hx
   split at hh
   ·rename_i ks2 z2 b2 hel
    obtain ⟨v,w',h1,h2,h3⟩:=Zyn (C:=C) (ZcP (hC.tab _ _ hs).1) (Zav (hC.tab _ _ hd).1) (ZeD (hC.tab _ _ hel).1) hh
    simp only [execOp,Sem.run_bind,hx,h1,Result.andThen_ok,Sem.run_pure,Oper.upon]
    exact ⟨v,rfl,h2.q,h3⟩
   ·exact hh.elim
  ·exact hh.elim
 ·exact hh.elim
end
end Go.Vc
