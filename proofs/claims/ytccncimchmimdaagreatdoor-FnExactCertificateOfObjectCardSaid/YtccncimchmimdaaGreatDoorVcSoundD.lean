import Derived.Test.YtccncimchmimdaaGreatDoorVcSoundC
import Derived.Lib.AppendZerosOnto
import Derived.Lib.Overlaps
namespace Go.Vc
set_option linter.unusedVariables false
set_option linter.unusedSimpArgs false
open Go
section
variable {C:Ctx} {e:Env}
theorem Zgh {P:Program} {t:TypeId} {j:TE} (h:TeOk P t j):∃ i z,P.info? t=some i/\i.size=j.size/\i.bytes=j.bytes/\i.zero=some z/\z.cells=j.zero.toArray:=by
 obtain ⟨i,z,a,b,c,f,g⟩:=h.info
 exact ⟨i,z,a,b,c,f,by apply Array.ext';simpa using g⟩
theorem ZvO {t el:TypeId} {x:TE} (ht:C.P.underlying t=some (.slice el)) (he:TeOk C.P el x) (hz:x.size≠0) (a3:x.zero.length=x.size) {n c:Int} {k k':IntKind} {w:World}
  {K:Value->Heap->Prop} (h:vMake x.bytes x.zero el n c w.heap K):
  ∃ v w',(Instr.makeSlice t (.int k n) (.int k' c)).run C.P w=.ok v w'/\Rest w w'/\K v w'.heap:=by
 obtain ⟨⟨p,r,j,s⟩,hk⟩:=h
 obtain ⟨i,z,hi,a8,a5,b,a0⟩:=Zgh he
 refine ⟨_,{ w with heap:=w.heap.push (.cells (repl c.toNat x.zero).toArray el) },?_,⟨rfl,rfl,rfl,Nat.le_refl _⟩,hk⟩
 have w1:IntKind.i64.wrap n=n:=ZaI ω ω
 have w2:IntKind.i64.wrap c=c:=ZaI ω ω
 have u:((i.bytes:Nat):Int)*c<=140737488355328:=by rw [a5,Int.mul_comm];exact j
 have l:(decide (c<0)||decide ((i.bytes:Int)*c>2^48))=false:=by
  simp only [Bool.or_eq_false_iff,decide_eq_false_iff_not];constructor<;>omega
 simp only [Instr.makeSlice,Sem.run_bind,ZS w ht,Result.andThen_ok,asInt,asIntOf,Sem.run_pure,Zcy w hi,w1,w2,l]
 have o:(false||decide (n<0)||decide (n>c))=false:=by
  simp only [Bool.false_or,Bool.or_eq_false_iff,decide_eq_false_iff_not];constructor<;>omega
 simp only [o,Bool.false_eq_true,if_false,Sem.run_bind,Result.andThen_ok,run_askRoom,ZaY w he]
 by_cases a:c.toNat*x.size=0
 ·have f:c.toNat=0:=by
   rcases Nat.mul_eq_zero.1 a with h|h
   ·exact h
   ·exact absurd h hz
  simp only [a,if_true]
  have g:(Array.range 0).map (fun _:Nat=>(default:Value))=#[]:=by apply Array.ext';simp
  simp [newRow,f,repl,hnew,g]
 ·simp only [a,if_false,Sem.run_bind,Zem w hi b,Result.andThen_ok,Sem.run_pure]
  have y:z.cells.size=x.size:=by rw [a0];simpa using a3
  have:=ZjR z.cells c.toNat ω
  rw [y] at this
  simp only [y]
  rw [this,a0]
  simp [newRow,hnew]
theorem ZhT {P:Program} {w:World} {z n c:Nat} {g:Option Addr} {news:List Value} (k:news.length=n*z)
  (f:∀ j u,news[j]?=some u->∃ a,g=some a/\hcell w.heap (a.add j)=some u):
  (Builtin.firstCells z n (.slice g n c)).run P w=.ok news.toArray w:=by
 cases g with
 | none=>
  have:news=[]:=by
   cases news with
   | nil=>rfl
   | cons b r=>obtain ⟨p,hp,_⟩:=f 0 b rfl;cases hp
  subst this
  rfl
 | some a=>
  simp only [Builtin.firstCells]
  rw [<-k]
  exact Zmq w news fun j u l=>by
   obtain ⟨p,hp,h⟩:=f j u l
   cases hp;exact h
theorem ZAw {P:Program} {w:World} {z n k c:Nat} {g:Option Addr} {news:List Value} (l:news.length=n*z)
  (f:∀ j u,news[j]?=some u->∃ a,g=some a/\hcell w.heap (a.add j)=some u):
  (Builtin.firstCells z n (.slice g k c)).run P w=.ok news.toArray w:=by
 cases g with
 | none=>
  have:news=[]:=by
   cases news with
   | nil=>rfl
   | cons b r=>obtain ⟨p,hp,_⟩:=f 0 b rfl;cases hp
  subst this
  rfl
 | some a=>
  simp only [Builtin.firstCells]
  rw [<-l]
  exact Zmq w news fun j u o=>by
   obtain ⟨p,hp,h⟩:=f j u o
   cases hp;exact h
theorem ZvV {t t' el aj:TypeId} {te:TE} {ty:TypeId} (ht:C.P.underlying t=some (.slice el)) (a7:C.P.underlying t'=some (.slice aj)) (he:TeOk C.P el te)
  (hz:te.size≠0) (ak:te.zero.length=te.size) {s x:Value} {w:World} {K:Value->Heap->Prop} (h:vAppend te.size te.bytes te.zero el s x w.heap K):
  ∃ v w',(Builtin.append_ #[t,t'] ty #[s,x]).run C.P w=.ok v w'/\Rest w w'/\K v w'.heap:=by
 unfold vAppend at h
 split at h
 ·rename_i a4 n c ag m mc
  obtain ⟨old,news,b,f,g,j,h5,h6,h7,h8,h9,k,l⟩:=h
  obtain ⟨i,z,hi,ay,an,o,af⟩:=Zgh he
  have a3:(Builtin.firstCells te.size m (.slice ag m mc)).run C.P w=.ok news.toArray w:=ZhT f j
  have ap:(Builtin.firstCells te.size n (.slice a4 n c)).run C.P w=.ok old.toArray w:=ZhT b g
  by_cases a0:n+m<=c
  ·cases a4 with
   | none=>
    refine ⟨_,w,?_,Rest.refl w,k a0 rfl⟩
    simp [Builtin.append_,ZS w ht,ZS w a7,ZaY w he,Builtin.lenOf,a0,a3]
   | some a=>
    obtain ⟨_,ai⟩:=h9 a0 a rfl
    obtain ⟨w',hr,aa,hk⟩:=Zh9 (P:=C.P) _ _ w _ ai
    refine ⟨_,w',?_,aa,hk⟩
    simp [Builtin.append_,ZS w ht,ZS w a7,ZaY w he,Builtin.lenOf,a0,a3,hr]
  ·have ae:c<n+m:=ω
   have au:=growslice_fits (old:=c) ae h7
   obtain ⟨a2,hcapd⟩:∃ a2,a2=(Question.appendCap (n+m) c el).cut (w.tape w.drawn (.appendCap (n+m) c el)):=⟨_,rfl⟩
   have p:n+m<=a2:=by rw [hcapd];simp only [Question.cut];omega
   have r:a2<=9223372036854775807:=by
    rw [hcapd];simp only [Question.cut]
    have:=Nat.mod_lt (w.tape w.drawn (.appendCap (n+m) c el)) (show 0<2^63-(n+m) by omega)
    omega
   refine ⟨_,{ w with heap:=w.heap.push (.cells (old++news++repl (a2-(n+m)) te.zero).toArray el),drawn:=w.drawn+1 },?_,⟨rfl,rfl,rfl,Nat.le_succ _⟩,l ae a2 p r⟩
   have a6:¬ (((n+m:Nat):Int)>IntKind.i64.max):=by
    have:IntKind.i64.max=9223372036854775807:=rfl
    rw [this];omega
   have ax:z.cells.size=te.size:=by rw [af];simpa using ak
   have ab:Builtin.zeroCells z.cells (a2-(n+m))=(repl (a2-(n+m)) te.zero).toArray:=by
    unfold Builtin.zeroCells
    rw [ZjR z.cells _ ω,af]
   let w1:World:={ w with drawn:=w.drawn+1 }
   have a5:(Builtin.firstCells te.size m (.slice ag m mc)).run C.P w1=.ok news.toArray w1:=ZhT (w:=w1) f j
   have a9:(Builtin.firstCells te.size n (.slice a4 n c)).run C.P w1=.ok old.toArray w1:=ZhT (w:=w1) b g
   have al:(choose (.appendCap (n+m) c el)).run C.P w=.ok a2 w1:=by
    simp [choose,Sem.run,Question.forced,hcapd,w1]
   have ad:¬ (Builtin.nextslicecap (n+m) c*i.bytes>281474976710656):=by rw [an];omega
   have ao:¬ (((n+m:Nat):Int)>IntKind.i64.max/\(false=true\/i.bytes=0)):=fun h=>a6 h.1
   simp only [Builtin.append_,Sem.run_bind,ZS w ht,ZS w a7,Result.andThen_ok,ZaY w he,Builtin.lenOf,Sem.run_pure,a0,if_false,
    List.getElem?_toArray,List.getElem?_cons_zero,List.getElem?_cons_succ,Bool.false_eq_true,Zcy w hi,Nat.reducePow]
   rw [if_neg (fun h=>a6 h.1)]
   simp only [Sem.run_bind,Zcy w hi,Result.andThen_ok]
   rw [if_neg ad]
   have u:(typeInfo el).run C.P w1=.ok i w1:=Zcy w1 hi
   have y:(zeroValue el).run C.P w1=.ok z w1:=Zem w1 hi o
   simp only [Sem.run_bind,al,u,Result.andThen_ok,run_askRoom,a9,Bool.not_false,if_true,a5,y,ab]
   simp [newRow,hnew,w1]
   rfl
 ·exact h.elim
theorem Zk0 {c:TE} (h:teGood c=true):c.size≠0/\c.zero.length=c.size:=by
 simp only [teGood,Bool.and_eq_true,Bool.not_eq_true'] at h
 exact ⟨fun a=>by rw [a] at h;simp at h,Nat.eq_of_beq_eq_true h.2⟩
theorem ZBH {t el:TypeId} {g:TE} {ty:TypeId} (r:C.P.underlying t=some (.slice el)) (he:TeOk C.P el g)
  (hz:g.size≠0) (u:g.zero.length=g.size) {x:Value} {w:World} {K:Value->Heap->Prop} (h:vClear g.zero x w.heap K):
  ∃ v j,(Builtin.clear_ #[t] ty #[x]).run C.P w=.ok v j/\Rest w j/\K v j.heap:=by
 obtain ⟨i,z,hi,a3,a4,b,o⟩:=Zgh he
 have a2:z.cells.size=g.size:=by rw [o];simpa using u
 unfold vClear at h
 split at h
 ·rename_i a n c
  obtain ⟨j,y,k,hk⟩:=Zh9 (P:=C.P) _ _ w _ h
  refine ⟨_,j,?_,k,hk⟩
  cases n with
  | zero=>
   have:j=w:=by simpa [repl,storeCells] using y.symm
   subst this
   simp [Builtin.clear_,ZS j r]
  | succ n=>
   have l:Builtin.zeroCells z.cells (n+1)=(repl (n+1) g.zero).toArray:=by
    unfold Builtin.zeroCells
    rw [ZjR z.cells _ ω,o]
   simp [Builtin.clear_,ZS w r,Zem w hi b,l,y]
 ·rename_i n c
  refine ⟨_,w,?_,Rest.refl w,h⟩
  simp [Builtin.clear_,ZS w r]
 ·exact h.elim
theorem ZxN {t t' el:TypeId} {o:TE} {ty:TypeId} (ht:C.P.underlying t=some (.slice el)) (y:TeOk C.P el o) {d x:Value} {w:World} {K:Value->Heap->Prop} (h:vCopy o.size d x w.heap K):
  ∃ v k,(Builtin.copy_ #[t,t'] ty #[d,x]).run C.P w=.ok v k/\Rest w k/\K v k.heap:=by
 unfold vCopy at h
 split at h
 ·rename_i r n c u m mc
  obtain ⟨cs,b,f,g,i⟩:=h
  have j:(Builtin.firstCells o.size (Nat.min m n) (.slice u m mc)).run C.P w=.ok cs.toArray w:=ZAw b f
  cases r with
  | none=>
   refine ⟨_,w,?_,Rest.refl w,g rfl⟩
   simp [Builtin.copy_,ZS w ht,ZaY w y,Builtin.lenOf,j,goInt]
  | some a=>
   obtain ⟨k,hr,l,hk⟩:=Zh9 (P:=C.P) _ _ w _ (i a rfl)
   refine ⟨_,k,?_,l,hk⟩
   simp [Builtin.copy_,ZS w ht,ZaY w y,Builtin.lenOf,j,hr,goInt]
 ·exact h.elim
theorem Zrn {k:TK} {K:Value->Prop} (h:exV1 k K):∃ v,K v:=by
 unfold exV1 at h
 split at h<;>(obtain ⟨x,a⟩:=h;exact ⟨_,a⟩)
theorem Ztv:∀ (c:List TK) (K:List Value->Prop),exVL c K->∃ vs,K vs
 | [],_,h=>⟨[],h⟩
 | _::c,_,h=>by
  obtain ⟨v,a⟩:=Zrn h
  obtain ⟨vs,g⟩:=Ztv c _ a
  exact ⟨_,g⟩
theorem ZoH:∀ (cs:List (Bool×List TK)) (K:List Value->Prop),exVC cs K->∃ vs,K vs
 | [],_,h=>⟨[],h⟩
 | (true,ks)::cs,_,h=>by
  obtain ⟨vs,a⟩:=Ztv ks _ h
  obtain ⟨l,c⟩:=ZoH cs _ a
  exact ⟨_,c⟩
 | (false,ks)::cs,_,h=>by
  simp only [exVC,cond_false] at h
  split at h
  ·obtain ⟨v,a⟩:=Zrn h
   obtain ⟨l,c⟩:=ZoH cs _ a
   exact ⟨_,c⟩
  ·exact h.elim
theorem Zud {rs:RS} {K:Value->Prop} (h:exRS rs K):∃ v,K v:=by
 unfold exRS at h
 obtain ⟨vs,a⟩:=ZoH _ _ h
 cases b:rs.tup
 ·rw [b] at a
  simp only [cond_false] at a
  split at a
  ·exact ⟨_,a⟩
  ·exact a.elim
 ·rw [b] at a
  exact ⟨_,a⟩
theorem Zya {t t' el:TypeId} {u:TE} {ty:TypeId} {ik kx:IntKind} (ht:C.P.underlying t=some (.slice el)) (a6:C.P.underlying t'=some (.int ik)) (he:TeOk C.P el u)
  (hz:u.size≠0) (a7:u.zero.length=u.size) {s:Value} {x:Int} {w:World} {K:Value->Heap->Prop} (h:vAppZ u.size u.bytes u.zero el s x w.heap K):
  ∃ v w',(Builtin.append_ #[t,t'] ty #[s,.int kx x]).run C.P w=.ok v w'/\Rest w w'/\K v w'.heap:=by
 unfold vAppZ at h
 split at h
 ·rename_i a0 n c
  obtain ⟨r,old,l,o,b,p,a,f⟩:=h
  obtain ⟨i,z,hi,a5,a2,g,a1⟩:=Zgh he
  obtain ⟨k,rfl⟩:∃ k:Nat,x=(k:Int):=⟨x.toNat,by omega⟩
  rw [Int.toNat_natCast] at b p a f
  have af:z.cells.size=u.size:=by rw [a1];simpa using a7
  have y:∀ m,Builtin.zeroCells z.cells m=(repl m u.zero).toArray:=fun m=>by
   unfold Builtin.zeroCells
   rw [ZjR z.cells _ ω,a1]
  have a3:(Builtin.firstCells i.size n (.slice a0 n c)).run C.P w.drew=.ok old.toArray w.drew:=by
   rw [a5];exact ZhT (w:=w.drew) l o
  have ae:k*i.bytes<=(n+k)*u.bytes:=by rw [a2];exact Nat.mul_le_mul_right _ ω
  have hr:=Lib.run_append_grow_zeros (P:=C.P) w t t' ty el i z kx ik ht a6 hi g a0 n c old a3 k ω ω a ω ω (by rw [a2];exact growslice_fits a b)
  refine ⟨_,_,hr,⟨rfl,rfl,rfl,Nat.le_succ _⟩,?_⟩
  have hg:=grownCap_ge w (n+k) c el
  have j:=grownCap_le_maxLen w (n+k) c el (by unfold maxLen;omega)
  unfold maxLen at j
  have hk:=f (grownCap w (n+k) c el) hg ω
  rw [y,y]
  have e:old.toArray++(repl k u.zero).toArray++(repl (grownCap w (n+k) c el-(n+k)) u.zero).toArray=(old++repl k u.zero++repl (grownCap w (n+k) c el-(n+k)) u.zero).toArray:=by simp
  rw [e]
  exact hk
 ·exact h.elim
theorem Zzd (hC:CtxOk C) {g:Nat} (hg:inL C.ov g=true) {a0:List Value} {w:World} {K:Prop} (h:vOv a0 w.heap K):
  (callFunc g a0.toArray).run C.P w=.ok (.value (.bool false)) w/\K:=by
 obtain ⟨fn,tS,tR,el,te,c,i,j,k,l,o,p⟩:=hC.ovs g hg
 unfold vOv at h
 split at h
 ·rename_i a la ca b lb cb
  obtain ⟨r,s,⟨cs,t,f,u,v⟩,⟨a1,t',f',x,y⟩,hk⟩:=h
  refine ⟨?_,hk⟩
  rw [run_callFunc_extern c j i k l]
  have:=Lib.run_overlaps_apart (P:=C.P) w tS tR el o te.size (fun w=>ZaY w p) a b la ca lb cb r t t' cs.size a1.size (by simp [World.shape?,u]) (by simp [World.shape?,x]) y s v
  rw [this];rfl
 ·exact h.elim
theorem Zt6 (hC:CtxOk C) {o:Oper} {h:Heap} {K:Value->Heap->Prop} (hh:vEff C o.op o.type e h K) (a:Act) (ha:a.eval=ev e) (w:World) (hw:w.heap=h):
  o.wp C.P a w (fun a' w'=>∃ v,a'=a.put o.dst v/\RestQ C.q w w'/\K v w'.heap) Bot:=by
 subst hw
 obtain ⟨am,op,ad,pos,af,ah⟩:=o
 simp only at hh ⊢
 unfold Oper.wp
 rw [ha]
 unfold vEff at hh
 split at hh
 ·rename_i t x v
  obtain ⟨w',j,p,y⟩:=Zy3 hC hh
  simp only [execOp,Sem.run_bind,j,Result.andThen_ok,Sem.run_pure,Oper.upon]
  exact ⟨undef,rfl,p.q,y⟩
 ·rename_i t
  split at hh
  ·rename_i te ht
   obtain ⟨i,z,hi,_,_,a5,bf⟩:=Zgh (hC.tab _ _ ht)
   simp only [execOp,Instr.alloc,Sem.run_bind,Zem w hi a5,Result.andThen_ok,newVar,newRow,run_newObj,Sem.run_pure,Oper.upon]
   refine ⟨_,rfl,⟨rfl,rfl,rfl,fun _=>Nat.le_refl _⟩,?_⟩
   rw [bf]
   exact hh
  ·exact hh.elim
 ·rename_i t x
  unfold vBox at hh
  split at hh
  ·rename_i te ht
   obtain ⟨j,_⟩:=Zqp hh
   simp only [execOp,Instr.box,Sem.run_bind,Result.andThen_ok,newVar,newRow,run_newObj,Sem.run_pure,Oper.upon]
   exact ⟨_,rfl,⟨rfl,rfl,rfl,fun _=>Nat.le_refl _⟩,by simpa [hnew] using j⟩
  ·exact hh.elim
 ·rename_i t len an
  split at hh
  ·rename_i el ks z0 b0 ht
   split at hh
   ·rename_i te he
    obtain ⟨hb,hh⟩:=Zai hh
    simp only [Bool.and_eq_true,Bool.not_eq_true'] at hb
    obtain ⟨⟨a8,a9⟩,aa⟩:=hb
    have a8:=Nat.eq_of_beq_eq_true a8
    have a9:=Nat.le_of_ble_eq_true a9
    have ca:te.size≠0:=fun h0=>by rw [h0] at aa;simp at aa
    have hT:=hC.tab _ _ he
    obtain ⟨i,z,hi,c3,_,a5,bf⟩:=Zgh hT
    have bb:(evp e an.toList).length=len:=by rw [ZnD];simpa using a8
    have ax:(an.map fun (x:Nat×Operand)=>(x.1,ev e x.2)).toList=evp e an.toList:=by rw [ZnD];simp
    have hu:=ZaM (hC.tab _ _ ht).1
    have bh:¬ (len*te.size>2^24):=ω
    obtain ⟨ae,a3⟩:∃ ae:Array Value,ae=(Array.range (len*te.size)).map (fun i=>(if len*te.size=0 then #[] else z.cells)[i%(if len*te.size=0 then #[] else z.cells).size]!):=⟨_,rfl⟩
    have b7:ae.size=len*te.size:=by rw [a3];simp
    obtain ⟨l,j,p,y⟩:=ZsZ _ 0 ae.toList _ hh (by rw [bb];simp [b7])
    have bi:(setAt ae.toList (0*te.size) l).toArray=l.toArray:=by
     unfold setAt
     rw [bb] at p
     congr 1
     simp only [Nat.zero_mul,List.take_zero,List.nil_append,Nat.zero_add]
     rw [List.drop_of_length_le (by simp [b7,p])]
     simp
    rw [bi] at y
    simp only [execOp,Instr.buildSlice,Sem.run_bind,ZS w hu,Result.andThen_ok,ZaY w hT,bh,if_false]
    have be:Instr.fill (fun i=>some (i*te.size,te.size)) ae (evp e an.toList)=some l.toArray:=by simpa using y
    by_cases h0:len*te.size=0
    ·rw [if_pos h0] at a3
     rw [if_pos h0]
     simp only [Sem.run_bind,Sem.run_pure,Result.andThen_ok]
     rw [ax,<-a3,be]
     simp only [Sem.run_bind,newRow,run_newObj,Sem.run_pure,Result.andThen_ok,Oper.upon]
     exact ⟨_,rfl,⟨rfl,rfl,rfl,fun _=>Nat.le_refl _⟩,j⟩
    ·rw [if_neg h0] at a3
     rw [if_neg h0]
     simp only [Sem.run_bind,Zem w hi a5,Sem.run_pure,Result.andThen_ok]
     rw [ax,<-a3,be]
     simp only [Sem.run_bind,newRow,run_newObj,Sem.run_pure,Result.andThen_ok,Oper.upon]
     exact ⟨_,rfl,⟨rfl,rfl,rfl,fun _=>Nat.le_refl _⟩,j⟩
   ·exact hh.elim
  ·exact hh.elim
 ·rename_i t l c
  split at hh
  ·rename_i el ks z0 b0 k n k' m ht hl hc
   split at hh
   ·rename_i te he
    obtain ⟨hg,hh⟩:=Zai hh
    obtain ⟨a0,a1⟩:=Zk0 hg
    obtain ⟨v,w',j,p,y⟩:=ZvO (C:=C) (k:=k) (k':=k') (ZaM (hC.tab _ _ ht).1) (hC.tab _ _ he) a0 a1 hh
    simp only [execOp,hl,hc,Sem.run_bind,j,Result.andThen_ok,Sem.run_pure,Oper.upon]
    exact ⟨v,rfl,p.q,y⟩
   ·exact hh.elim
  ·exact hh.elim
 ·rename_i a6 a4
  split at hh
  ·rename_i s x t t' ab ao
   have ay:a6=#[s,x]:=by apply Array.ext';simpa using ab
   have ap:a4=#[t,t']:=by apply Array.ext';simpa using ao
   subst ay ap
   split at hh
   ·rename_i el ks z0 b0 c9 bg bp br ht bc
    split at hh
    ·rename_i te he
     obtain ⟨hg,hh⟩:=Zai hh
     obtain ⟨a0,a1⟩:=Zk0 hg
     obtain ⟨v,w',j,p,y⟩:=ZvV (C:=C) (ty:=ad) (ZaM (hC.tab _ _ ht).1) (ZaM (hC.tab _ _ bc).1) (hC.tab _ _ he) a0 a1 hh
     have:(execOp (ev e) ⟨am,.call ⟨.builtin .append,#[s,x],#[t,t']⟩,ad,pos,af,ah⟩).run C.P w=.ok (.value v) w':=by
      simp [execOp,resolve,invoke,builtin,j]
     rw [this]
     exact ⟨v,rfl,p.q,y⟩
    ·exact hh.elim
   ·rename_i el ks z0 b0 ik bg bp br ht bc
    split at hh
    ·rename_i te kx n he hx
     obtain ⟨hg,hh⟩:=Zai hh
     obtain ⟨a0,a1⟩:=Zk0 hg
     obtain ⟨v,w',j,p,y⟩:=Zya (C:=C) (ty:=ad) (kx:=kx) (ZaM (hC.tab _ _ ht).1) (Zgo (hC.tab _ _ bc).1) (hC.tab _ _ he) a0 a1 hh
     have:(execOp (ev e) ⟨am,.call ⟨.builtin .append,#[s,x],#[t,t']⟩,ad,pos,af,ah⟩).run C.P w=.ok (.value v) w':=by
      simp [execOp,resolve,invoke,builtin,hx,j]
     rw [this]
     exact ⟨v,rfl,p.q,y⟩
    ·exact hh.elim
   ·exact hh.elim
  ·exact hh.elim
 ·rename_i a6 a4
  split at hh
  ·rename_i x t ab ao
   have ay:a6=#[x]:=by apply Array.ext';simpa using ab
   have ap:a4=#[t]:=by apply Array.ext';simpa using ao
   subst ay ap
   split at hh
   ·rename_i el ks z0 b0 ht
    split at hh
    ·rename_i te he
     obtain ⟨hg,hh⟩:=Zai hh
     obtain ⟨a0,a1⟩:=Zk0 hg
     obtain ⟨v,w',j,p,y⟩:=ZBH (C:=C) (ty:=ad) (ZaM (hC.tab _ _ ht).1) (hC.tab _ _ he) a0 a1 hh
     have:(execOp (ev e) ⟨am,.call ⟨.builtin .clear,#[x],#[t]⟩,ad,pos,af,ah⟩).run C.P w=.ok (.value v) w':=by
      simp [execOp,resolve,invoke,builtin,j]
     rw [this]
     exact ⟨v,rfl,p.q,y⟩
    ·exact hh.elim
   ·exact hh.elim
  ·exact hh.elim
 ·rename_i a6 a4
  split at hh
  ·rename_i d x t t' ab ao
   have ay:a6=#[d,x]:=by apply Array.ext';simpa using ab
   have ap:a4=#[t,t']:=by apply Array.ext';simpa using ao
   subst ay ap
   split at hh
   ·rename_i el ks z0 b0 ht
    split at hh
    ·rename_i te he
     obtain ⟨v,w',j,p,y⟩:=ZxN (C:=C) (t':=t') (ty:=ad) (ZaM (hC.tab _ _ ht).1) (hC.tab _ _ he) hh
     have:(execOp (ev e) ⟨am,.call ⟨.builtin .copy,#[d,x],#[t,t']⟩,ad,pos,af,ah⟩).run C.P w=.ok (.value v) w':=by
      simp [execOp,resolve,invoke,builtin,j]
     rw [this]
     exact ⟨v,rfl,p.q,y⟩
    ·exact hh.elim
   ·exact hh.elim
  ·exact hh.elim
 ·rename_i f a6 a4
  split at hh
  ·rename_i g hg
   cases hin:inL C.ov g with
   | true=>
    rw [hin] at hh
    simp only [cond_true] at hh
    obtain ⟨w1,w2⟩:=Zzd (C:=C) hC hin hh
    have hf:f=.func g:=by cases f<;>simp [opF] at hg;rw [hg]
    have ab:(#[]:Array Value)++a6.map (ev e)++#[]=(evs e a6.toList).toArray:=by
     apply Array.ext';rw [ZiP];simp
    have hr:(execOp (ev e) ⟨am,.call ⟨.value f,a6,a4⟩,ad,pos,af,ah⟩).run C.P w=.ok (.value (.bool false)) w:=by
     subst hf
     have bt:ev e (.func g)=.func (.func g) #[] #[]:=rfl
     simp only [execOp,resolve,Sem.run_bind,bt,Deferred.ofValue,Sem.run_pure,Result.andThen_ok,invoke,ab,w1]
    rw [hr]
    exact ⟨_,rfl,RestQ.refl w,w2⟩
   | false=>
    rw [hin] at hh
    simp only [cond_false] at hh
    unfold vCall at hh
    split at hh
    ·rename_i g first a7 hf
     obtain ⟨hg,hh⟩:=Zai hh
     obtain ⟨fn,bd,au,aw⟩:=hC.fns g hg
     have hr:(execOp (ev e) ⟨am,.call ⟨.value f,a6,a4⟩,ad,pos,af,ah⟩).run C.P w =
       .ok (.enter g (first.toList++evs e a6.toList++a7.toList).toArray) w:=by
      have hb:fn.body.isNone=false:=by cases hb:fn.body<;>simp [hb] at au ⊢
      have ab:first++a6.map (ev e)++a7=(first.toList++evs e a6.toList++a7.toList).toArray:=by
       apply Array.ext';rw [ZiP];simp
      simp only [execOp,resolve,Sem.run_bind,hf,Deferred.ofValue,Sem.run_pure,Result.andThen_ok,invoke,callFunc,run_program,bd,aw,hb,Bool.false_eq_true,if_false,ab]
     rw [hr]
     simp only [Oper.upon]
     refine (hh w rfl).mono ?_
     rintro e1 w' ⟨v,rfl,av,hk⟩
     obtain ⟨u,rfl,hk⟩:=Zud hk
     exact ⟨v,rfl,av,hk⟩
    ·exact hh.elim
  ·unfold vCall at hh
   split at hh
   ·rename_i g first a7 hf
    obtain ⟨hg,hh⟩:=Zai hh
    obtain ⟨fn,bd,au,aw⟩:=hC.fns g hg
    have hr:(execOp (ev e) ⟨am,.call ⟨.value f,a6,a4⟩,ad,pos,af,ah⟩).run C.P w =
      .ok (.enter g (first.toList++evs e a6.toList++a7.toList).toArray) w:=by
     have hb:fn.body.isNone=false:=by cases hb:fn.body<;>simp [hb] at au ⊢
     have ab:first++a6.map (ev e)++a7=(first.toList++evs e a6.toList++a7.toList).toArray:=by
      apply Array.ext';rw [ZiP];simp
     simp only [execOp,resolve,Sem.run_bind,hf,Deferred.ofValue,Sem.run_pure,Result.andThen_ok,invoke,callFunc,run_program,bd,aw,hb,Bool.false_eq_true,if_false,ab]
    rw [hr]
    simp only [Oper.upon]
    refine (hh w rfl).mono ?_
    rintro e1 w' ⟨v,rfl,av,hk⟩
    obtain ⟨u,rfl,hk⟩:=Zud hk
    exact ⟨v,rfl,av,hk⟩
   ·exact hh.elim
 ·rename_i t r
  split at hh
  ·rename_i kt et ks z b ht
   have hu:=Znr (hC.tab _ _ ht).1
   have hr:∀ q:Option Value,(q=none\/∃ k n,q=some (.int k n))->(Instr.makeMap t q).run C.P w=.ok (.map (some w.heap.size)) { w with heap:=w.heap.push (.map #[] 0) }:=by
    rintro q (rfl|⟨k,n,rfl⟩)
    ·simp [Instr.makeMap]
    ·simp [Instr.makeMap,ZS w hu,asInt,asIntOf]
   rw [Zdq] at hh
   split at hh
   ·rename_i hq
    simp only [execOp,Sem.run_bind,hr (r.map (ev e)) (.inl hq),Result.andThen_ok,Sem.run_pure,Oper.upon]
    exact ⟨_,rfl,⟨rfl,rfl,rfl,fun _=>Nat.le_refl _⟩,hh⟩
   ·rename_i k n hq
    simp only [execOp,Sem.run_bind,hr (r.map (ev e)) (.inr ⟨k,n,hq⟩),Result.andThen_ok,Sem.run_pure,Oper.upon]
    exact ⟨_,rfl,⟨rfl,rfl,rfl,fun _=>Nat.le_refl _⟩,hh⟩
   ·exact hh.elim
  ·exact hh.elim
 ·rename_i t m k x
  obtain ⟨w',j,p,y⟩:=Zsb hC hh
  simp only [execOp,Sem.run_bind,j,Result.andThen_ok,Sem.run_pure,Oper.upon]
  exact ⟨undef,rfl,p.q,y⟩
 ·rename_i t m k x
  obtain ⟨w',j,p,y⟩:=Zsb hC hh
  simp only [execOp,Sem.run_bind,j,Result.andThen_ok,Sem.run_pure,Oper.upon]
  exact ⟨undef,rfl,p.q,y⟩
 ·rename_i c8 am x
  split at hh
  ·rename_i ks z b el bg z' b' s hs hd hx
   split at hh
   ·rename_i ag z2 b2 bv
    obtain ⟨v,w',j,p,y⟩:=ZFk (C:=C) (ZcN (hC.tab _ _ hs).1) (ZaM (hC.tab _ _ hd).1) (Zgo (hC.tab _ _ bv).1) hh
    simp only [execOp,Sem.run_bind,hx,j,Result.andThen_ok,Sem.run_pure,Oper.upon]
    exact ⟨v,rfl,p.q,y⟩
   ·exact hh.elim
  ·exact hh.elim
 ·exact hh.elim
end
end Go.Vc
