import Derived.Test.YtepnljbkgjbbmaaGreatDoorVcSoundC
import Derived.Lib.AppendZerosOnto
import Derived.Lib.Overlaps
namespace Go.Vc
set_option linter.unusedVariables false
set_option linter.unusedSimpArgs false
open Go
section
variable {C:Ctx} {e:Env}
theorem ZeO {P:Program} {t:TypeId} {j:TE} (h:TeOk P t j):∃ i z,P.info? t=some i/\i.size=j.size/\i.bytes=j.bytes/\i.zero=some z/\z.cells=j.zero.toArray:=by
 obtain ⟨i,z,h1,a,c,f,g⟩:=h.info
 exact ⟨i,z,h1,a,c,f,by apply Array.ext';simpa using g⟩
theorem ZFu {t el:TypeId} {x:TE} (ht:C.P.underlying t=some (.slice el)) (he:TeOk C.P el x) (hz:x.size≠0) (a2:x.zero.length=x.size) {n c:Int} {k k':IntKind} {w:World}
  {K:Value->Heap->Prop} (h:vMake x.bytes x.zero el n c w.heap K):
  ∃ v w',(Instr.makeSlice t (.int k n) (.int k' c)).run C.P w=.ok v w'/\Rest w w'/\K v w'.heap:=by
 obtain ⟨⟨h1,r,l,s⟩,hk⟩:=h
 obtain ⟨i,z,hi,a7,a4,f,a0⟩:=ZeO he
 refine ⟨_,{ w with heap:=w.heap.push (.cells (repl c.toNat x.zero).toArray el) },?_,⟨rfl,rfl,rfl,Nat.le_refl _⟩,hk⟩
 have w1:IntKind.i64.wrap n=n:=Zaj ω ω
 have w2:IntKind.i64.wrap c=c:=Zaj ω ω
 have u:((i.bytes:Nat):Int)*c<=140737488355328:=by rw [a4,Int.mul_comm];exact l
 have o:(decide (c<0)||decide ((i.bytes:Int)*c>2^48))=false:=by
  simp only [Bool.or_eq_false_iff,decide_eq_false_iff_not];constructor<;>omega
 simp only [Instr.makeSlice,Sem.run_bind,ZQ w ht,Result.andThen_ok,asInt,asIntOf,Sem.run_pure,ZbZ w hi,w1,w2,o]
 have p:(false||decide (n<0)||decide (n>c))=false:=by
  simp only [Bool.false_or,Bool.or_eq_false_iff,decide_eq_false_iff_not];constructor<;>omega
 simp only [p,Bool.false_eq_true,if_false,Sem.run_bind,Result.andThen_ok,run_askRoom,ZaS w he]
 by_cases a:c.toNat*x.size=0
 ·have g:c.toNat=0:=by
   rcases Nat.mul_eq_zero.1 a with h|h
   ·exact h
   ·exact absurd h hz
  simp only [a,if_true]
  have j:(Array.range 0).map (fun _:Nat=>(default:Value))=#[]:=by apply Array.ext';simp
  simp [newRow,g,repl,hnew,j]
 ·simp only [a,if_false,Sem.run_bind,Zc9 w hi f,Result.andThen_ok,Sem.run_pure]
  have y:z.cells.size=x.size:=by rw [a0];simpa using a2
  have:=Zki z.cells c.toNat ω
  rw [y] at this
  simp only [y]
  rw [this,a0]
  simp [newRow,hnew]
theorem Zgz {P:Program} {w:World} {z n c:Nat} {g:Option Addr} {news:List Value} (k:news.length=n*z)
  (f:∀ j u,news[j]?=some u->∃ a,g=some a/\hcell w.heap (a.add j)=some u):
  (Builtin.firstCells z n (.slice g n c)).run P w=.ok news.toArray w:=by
 cases g with
 | none=>
  have:news=[]:=by
   cases news with
   | nil=>rfl
   | cons b r=>obtain ⟨p,hp,_⟩:=f 0 b rfl;cases hp
  subst this
  rfl
 | some a=>
  simp only [Builtin.firstCells]
  rw [<-k]
  exact Zks w news fun j u l=>by
   obtain ⟨p,hp,h⟩:=f j u l
   cases hp;exact h
theorem ZzJ {P:Program} {w:World} {z n k c:Nat} {g:Option Addr} {news:List Value} (l:news.length=n*z)
  (f:∀ j u,news[j]?=some u->∃ a,g=some a/\hcell w.heap (a.add j)=some u):
  (Builtin.firstCells z n (.slice g k c)).run P w=.ok news.toArray w:=by
 cases g with
 | none=>
  have:news=[]:=by
   cases news with
   | nil=>rfl
   | cons b r=>obtain ⟨p,hp,_⟩:=f 0 b rfl;cases hp
  subst this
  rfl
 | some a=>
  simp only [Builtin.firstCells]
  rw [<-l]
  exact Zks w news fun j u o=>by
   obtain ⟨p,hp,h⟩:=f j u o
   cases hp;exact h
theorem ZGA {t t' el aj:TypeId} {te:TE} {ty:TypeId} (ht:C.P.underlying t=some (.slice el)) (a8:C.P.underlying t'=some (.slice aj)) (he:TeOk C.P el te)
  (hz:te.size≠0) (ai:te.zero.length=te.size) {s x:Value} {w:World} {K:Value->Heap->Prop} (h:vAppend te.size te.bytes te.zero el s x w.heap K):
  ∃ v w',(Builtin.append_ #[t,t'] ty #[s,x]).run C.P w=.ok v w'/\Rest w w'/\K v w'.heap:=by
 unfold vAppend at h
 split at h
 ·rename_i a4 n c ag m mc
  obtain ⟨old,news,h1,f,g,j,h5,h6,h7,h8,h9,k,l⟩:=h
  obtain ⟨i,z,hi,ay,an,o,af⟩:=ZeO he
  have a3:(Builtin.firstCells te.size m (.slice ag m mc)).run C.P w=.ok news.toArray w:=Zgz f j
  have aw:(Builtin.firstCells te.size n (.slice a4 n c)).run C.P w=.ok old.toArray w:=Zgz h1 g
  by_cases a1:n+m<=c
  ·cases a4 with
   | none=>
    refine ⟨_,w,?_,Rest.refl w,k a1 rfl⟩
    simp [Builtin.append_,ZQ w ht,ZQ w a8,ZaS w he,Builtin.lenOf,a1,a3]
   | some a=>
    obtain ⟨_,ak⟩:=h9 a1 a rfl
    obtain ⟨w',hr,aa,hk⟩:=ZhD (P:=C.P) _ _ w _ ak
    refine ⟨_,w',?_,aa,hk⟩
    simp [Builtin.append_,ZQ w ht,ZQ w a8,ZaS w he,Builtin.lenOf,a1,a3,hr]
  ·have ae:c<n+m:=ω
   have ar:=growslice_fits (old:=c) ae h7
   obtain ⟨a2,hcapd⟩:∃ a2,a2=(Question.appendCap (n+m) c el).cut (w.tape w.drawn (.appendCap (n+m) c el)):=⟨_,rfl⟩
   have p:n+m<=a2:=by rw [hcapd];simp only [Question.cut];omega
   have r:a2<=9223372036854775807:=by
    rw [hcapd];simp only [Question.cut]
    have:=Nat.mod_lt (w.tape w.drawn (.appendCap (n+m) c el)) (show 0<2^63-(n+m) by omega)
    omega
   refine ⟨_,{ w with heap:=w.heap.push (.cells (old++news++repl (a2-(n+m)) te.zero).toArray el),drawn:=w.drawn+1 },?_,⟨rfl,rfl,rfl,Nat.le_succ _⟩,l ae a2 p r⟩
   have a7:¬ (((n+m:Nat):Int)>IntKind.i64.max):=by
    have:IntKind.i64.max=9223372036854775807:=rfl
    rw [this];omega
   have ax:z.cells.size=te.size:=by rw [af];simpa using ai
   have ad:Builtin.zeroCells z.cells (a2-(n+m))=(repl (a2-(n+m)) te.zero).toArray:=by
    unfold Builtin.zeroCells
    rw [Zki z.cells _ ω,af]
   let w1:World:={ w with drawn:=w.drawn+1 }
   have a5:(Builtin.firstCells te.size m (.slice ag m mc)).run C.P w1=.ok news.toArray w1:=Zgz (w:=w1) f j
   have a9:(Builtin.firstCells te.size n (.slice a4 n c)).run C.P w1=.ok old.toArray w1:=Zgz (w:=w1) h1 g
   have al:(choose (.appendCap (n+m) c el)).run C.P w=.ok a2 w1:=by
    simp [choose,Sem.run,Question.forced,hcapd,w1]
   have ac:¬ (Builtin.nextslicecap (n+m) c*i.bytes>281474976710656):=by rw [an];omega
   have ao:¬ (((n+m:Nat):Int)>IntKind.i64.max/\(false=true\/i.bytes=0)):=fun h=>a7 h.1
   simp only [Builtin.append_,Sem.run_bind,ZQ w ht,ZQ w a8,Result.andThen_ok,ZaS w he,Builtin.lenOf,Sem.run_pure,a1,if_false,
    List.getElem?_toArray,List.getElem?_cons_zero,List.getElem?_cons_succ,Bool.false_eq_true,ZbZ w hi,Nat.reducePow]
   rw [if_neg (fun h=>a7 h.1)]
   simp only [Sem.run_bind,ZbZ w hi,Result.andThen_ok]
   rw [if_neg ac]
   have u:(typeInfo el).run C.P w1=.ok i w1:=ZbZ w1 hi
   have y:(zeroValue el).run C.P w1=.ok z w1:=Zc9 w1 hi o
   simp only [Sem.run_bind,al,u,Result.andThen_ok,run_askRoom,a9,Bool.not_false,if_true,a5,y,ad]
   simp [newRow,hnew,w1]
   rfl
 ·exact h.elim
theorem Zlh {g:TE} (h:teGood g=true):g.size≠0/\g.zero.length=g.size:=by
 simp only [teGood,Bool.and_eq_true,Bool.not_eq_true'] at h
 exact ⟨fun a=>by rw [a] at h;simp at h,Nat.eq_of_beq_eq_true h.2⟩
theorem ZAi {t el:TypeId} {g:TE} {ty:TypeId} (r:C.P.underlying t=some (.slice el)) (he:TeOk C.P el g)
  (hz:g.size≠0) (y:g.zero.length=g.size) {x:Value} {w:World} {K:Value->Heap->Prop} (h:vClear g.zero x w.heap K):
  ∃ v j,(Builtin.clear_ #[t] ty #[x]).run C.P w=.ok v j/\Rest w j/\K v j.heap:=by
 obtain ⟨i,z,hi,a3,a4,f,o⟩:=ZeO he
 have a2:z.cells.size=g.size:=by rw [o];simpa using y
 unfold vClear at h
 split at h
 ·rename_i a n c
  obtain ⟨j,u,k,hk⟩:=ZhD (P:=C.P) _ _ w _ h
  refine ⟨_,j,?_,k,hk⟩
  cases n with
  | zero=>
   have:j=w:=by simpa [repl,storeCells] using u.symm
   subst this
   simp [Builtin.clear_,ZQ j r]
  | succ n=>
   have l:Builtin.zeroCells z.cells (n+1)=(repl (n+1) g.zero).toArray:=by
    unfold Builtin.zeroCells
    rw [Zki z.cells _ ω,o]
   simp [Builtin.clear_,ZQ w r,Zc9 w hi f,l,u]
 ·rename_i n c
  refine ⟨_,w,?_,Rest.refl w,h⟩
  simp [Builtin.clear_,ZQ w r]
 ·exact h.elim
theorem ZHA {t t' el:TypeId} {o:TE} {ty:TypeId} (ht:C.P.underlying t=some (.slice el)) (u:TeOk C.P el o) {d x:Value} {w:World} {K:Value->Heap->Prop} (h:vCopy o.size d x w.heap K):
  ∃ v k,(Builtin.copy_ #[t,t'] ty #[d,x]).run C.P w=.ok v k/\Rest w k/\K v k.heap:=by
 unfold vCopy at h
 split at h
 ·rename_i r n c y m mc
  obtain ⟨cs,h1,f,g,i⟩:=h
  have j:(Builtin.firstCells o.size (Nat.min m n) (.slice y m mc)).run C.P w=.ok cs.toArray w:=ZzJ h1 f
  cases r with
  | none=>
   refine ⟨_,w,?_,Rest.refl w,g rfl⟩
   simp [Builtin.copy_,ZQ w ht,ZaS w u,Builtin.lenOf,j,goInt]
  | some a=>
   obtain ⟨k,hr,l,hk⟩:=ZhD (P:=C.P) _ _ w _ (i a rfl)
   refine ⟨_,k,?_,l,hk⟩
   simp [Builtin.copy_,ZQ w ht,ZaS w u,Builtin.lenOf,j,hr,goInt]
 ·exact h.elim
theorem Zti {k:TK} {K:Value->Prop} (h:exV1 k K):∃ v,K v:=by
 unfold exV1 at h
 split at h<;>(obtain ⟨x,a⟩:=h;exact ⟨_,a⟩)
theorem ZsS:∀ (ks:List TK) (K:List Value->Prop),exVL ks K->∃ vs,K vs
 | [],_,h=>⟨[],h⟩
 | _::ks,_,h=>by
  obtain ⟨v,a⟩:=Zti h
  obtain ⟨vs,g⟩:=ZsS ks _ a
  exact ⟨_,g⟩
theorem ZnU:∀ (cs:List (Bool×List TK)) (K:List Value->Prop),exVC cs K->∃ vs,K vs
 | [],_,h=>⟨[],h⟩
 | (true,ks)::cs,_,h=>by
  obtain ⟨vs,a⟩:=ZsS ks _ h
  obtain ⟨l,g⟩:=ZnU cs _ a
  exact ⟨_,g⟩
 | (false,ks)::cs,_,h=>by
  simp only [exVC,cond_false] at h
  split at h
  ·obtain ⟨v,a⟩:=Zti h
   obtain ⟨l,g⟩:=ZnU cs _ a
   exact ⟨_,g⟩
  ·exact h.elim
theorem Zum {rs:RS} {K:Value->Prop} (h:exRS rs K):∃ v,K v:=by
 unfold exRS at h
 obtain ⟨vs,a⟩:=ZnU _ _ h
 cases c:rs.tup
 ·rw [c] at a
  simp only [cond_false] at a
  split at a
  ·exact ⟨_,a⟩
  ·exact a.elim
 ·rw [c] at a
  exact ⟨_,a⟩
theorem Zyn {t t' el:TypeId} {u:TE} {ty:TypeId} {ik kx:IntKind} (ht:C.P.underlying t=some (.slice el)) (a8:C.P.underlying t'=some (.int ik)) (he:TeOk C.P el u)
  (hz:u.size≠0) (a5:u.zero.length=u.size) {s:Value} {x:Int} {w:World} {K:Value->Heap->Prop} (h:vAppZ u.size u.bytes u.zero el s x w.heap K):
  ∃ v w',(Builtin.append_ #[t,t'] ty #[s,.int kx x]).run C.P w=.ok v w'/\Rest w w'/\K v w'.heap:=by
 unfold vAppZ at h
 split at h
 ·rename_i a0 n c
  obtain ⟨r,old,h1,o,f,p,a,g⟩:=h
  obtain ⟨i,z,hi,a7,a2,j,a1⟩:=ZeO he
  obtain ⟨k,rfl⟩:∃ k:Nat,x=(k:Int):=⟨x.toNat,by omega⟩
  rw [Int.toNat_natCast] at f p a g
  have af:z.cells.size=u.size:=by rw [a1];simpa using a5
  have y:∀ m,Builtin.zeroCells z.cells m=(repl m u.zero).toArray:=fun m=>by
   unfold Builtin.zeroCells
   rw [Zki z.cells _ ω,a1]
  have a4:(Builtin.firstCells i.size n (.slice a0 n c)).run C.P w.drew=.ok old.toArray w.drew:=by
   rw [a7];exact Zgz (w:=w.drew) h1 o
  have ae:k*i.bytes<=(n+k)*u.bytes:=by rw [a2];exact Nat.mul_le_mul_right _ ω
  have hr:=Lib.run_append_grow_zeros (P:=C.P) w t t' ty el i z kx ik ht a8 hi j a0 n c old a4 k ω ω a ω ω (by rw [a2];exact growslice_fits a f)
  refine ⟨_,_,hr,⟨rfl,rfl,rfl,Nat.le_succ _⟩,?_⟩
  have hg:=grownCap_ge w (n+k) c el
  have l:=grownCap_le_maxLen w (n+k) c el (by unfold maxLen;omega)
  unfold maxLen at l
  have hk:=g (grownCap w (n+k) c el) hg ω
  rw [y,y]
  have e:old.toArray++(repl k u.zero).toArray++(repl (grownCap w (n+k) c el-(n+k)) u.zero).toArray=(old++repl k u.zero++repl (grownCap w (n+k) c el-(n+k)) u.zero).toArray:=by simp
  rw [e]
  exact hk
 ·exact h.elim
theorem ZBd (hC:CtxOk C) {g:Nat} (hg:inL C.ov g=true) {y:List Value} {w:World} {K:Prop} (h:vOv y w.heap K):
  (callFunc g y.toArray).run C.P w=.ok (.value (.bool false)) w/\K:=by
 obtain ⟨fn,tS,tR,el,te,c,i,j,k,l,o,p⟩:=hC.ovs g hg
 unfold vOv at h
 split at h
 ·rename_i a la ca b lb cb
  obtain ⟨h1,r,⟨cs,t,f,s,u⟩,⟨a0,t',f',v,x⟩,hk⟩:=h
  refine ⟨?_,hk⟩
  rw [run_callFunc_extern c j i k l]
  have:=Lib.run_overlaps_apart (P:=C.P) w tS tR el o te.size (fun w=>ZaS w p) a b la ca lb cb h1 t t' cs.size a0.size (by simp [World.shape?,s]) (by simp [World.shape?,v]) x r u
  rw [this];rfl
 ·exact h.elim
theorem ZsK (hC:CtxOk C) {o:Oper} {h:Heap} {K:Value->Heap->Prop} (hh:vEff C o.op o.type e h K) (a:Act) (ha:a.eval=ev e) (w:World) (hw:w.heap=h):
  o.wp C.P a w (fun a' w'=>∃ v,a'=a.put o.dst v/\RestQ C.q w w'/\K v w'.heap) Bot:=by
 subst hw
 obtain ⟨al,op,ac,pos,ae,ag⟩:=o
 simp only at hh ⊢
 unfold Oper.wp
 rw [ha]
 unfold vEff at hh
 split at hh
 ·rename_i t x v
  rw [ZrL] at hh
  obtain ⟨w',h1,j,p⟩:=ZIc hC hh
  simp only [execOp,Sem.run_bind,h1,Result.andThen_ok,Sem.run_pure,Oper.upon]
  exact ⟨undef,rfl,j.q,p⟩
 ·rename_i t
  split at hh
  ·rename_i te ht
   obtain ⟨i,z,hi,_,_,a4,bc⟩:=ZeO (hC.tab _ _ ht)
   simp only [execOp,Instr.alloc,Sem.run_bind,Zc9 w hi a4,Result.andThen_ok,newVar,newRow,run_newObj,Sem.run_pure,Oper.upon]
   refine ⟨_,rfl,⟨rfl,rfl,rfl,fun _=>Nat.le_refl _⟩,?_⟩
   rw [bc]
   exact hh _ _ rfl rfl
  ·exact hh.elim
 ·rename_i t x
  rw [ZrL] at hh
  unfold vBox at hh
  split at hh
  ·rename_i te ht
   obtain ⟨h1,_⟩:=ZpJ hh
   simp only [execOp,Instr.box,Sem.run_bind,Result.andThen_ok,newVar,newRow,run_newObj,Sem.run_pure,Oper.upon]
   exact ⟨_,rfl,⟨rfl,rfl,rfl,fun _=>Nat.le_refl _⟩,by simpa [hnew] using h1 _ _ rfl rfl⟩
  ·exact hh.elim
 ·rename_i t len am
  split at hh
  ·rename_i el ks z0 b0 ht
   split at hh
   ·rename_i te he
    obtain ⟨hb,hh⟩:=Zas hh
    rw [Zno] at hh
    simp only [Bool.and_eq_true,Bool.not_eq_true'] at hb
    obtain ⟨⟨a7,a8⟩,a9⟩:=hb
    have a7:=Nat.eq_of_beq_eq_true a7
    have a8:=Nat.le_of_ble_eq_true a8
    have c6:te.size≠0:=fun h0=>by rw [h0] at a9;simp at a9
    have hT:=hC.tab _ _ he
    obtain ⟨i,z,hi,bw,_,a4,bc⟩:=ZeO hT
    have b7:(evp e am.toList).length=len:=by rw [Zmv];simpa using a7
    have ay:(am.map fun (x:Nat×Operand)=>(x.1,ev e x.2)).toList=evp e am.toList:=by rw [Zmv];simp
    have hu:=ZaJ (hC.tab _ _ ht).1
    have bf:¬ (len*te.size>2^24):=ω
    obtain ⟨ad,a2⟩:∃ ad:Array Value,ad=(Array.range (len*te.size)).map (fun i=>(if len*te.size=0 then #[] else z.cells)[i%(if len*te.size=0 then #[] else z.cells).size]!):=⟨_,rfl⟩
    have b6:ad.size=len*te.size:=by rw [a2];simp
    obtain ⟨l,h1,j,p⟩:=ZrJ _ 0 ad.toList _ hh (by rw [b7];simp [b6])
    have be:(setAt ad.toList (0*te.size) l).toArray=l.toArray:=by
     unfold setAt
     rw [b7] at j
     congr 1
     simp only [Nat.zero_mul,List.take_zero,List.nil_append,Nat.zero_add]
     rw [List.drop_of_length_le (by simp [b6,j])]
     simp
    rw [be] at p
    simp only [execOp,Instr.buildSlice,Sem.run_bind,ZQ w hu,Result.andThen_ok,ZaS w hT,bf,if_false]
    have bb:Instr.fill (fun i=>some (i*te.size,te.size)) ad (evp e am.toList)=some l.toArray:=by simpa using p
    by_cases h0:len*te.size=0
    ·rw [if_pos h0] at a2
     rw [if_pos h0]
     simp only [Sem.run_bind,Sem.run_pure,Result.andThen_ok]
     rw [ay,<-a2,bb]
     simp only [Sem.run_bind,newRow,run_newObj,Sem.run_pure,Result.andThen_ok,Oper.upon]
     exact ⟨_,rfl,⟨rfl,rfl,rfl,fun _=>Nat.le_refl _⟩,(Zfo _ _).mp h1 _ _ rfl rfl⟩
    ·rw [if_neg h0] at a2
     rw [if_neg h0]
     simp only [Sem.run_bind,Zc9 w hi a4,Sem.run_pure,Result.andThen_ok]
     rw [ay,<-a2,bb]
     simp only [Sem.run_bind,newRow,run_newObj,Sem.run_pure,Result.andThen_ok,Oper.upon]
     exact ⟨_,rfl,⟨rfl,rfl,rfl,fun _=>Nat.le_refl _⟩,(Zfo _ _).mp h1 _ _ rfl rfl⟩
   ·exact hh.elim
  ·exact hh.elim
 ·rename_i t l c
  split at hh
  ·rename_i el ks z0 b0 k n k' m ht hl hc
   split at hh
   ·rename_i te he
    obtain ⟨hg,hh⟩:=Zas hh
    obtain ⟨y,a0⟩:=Zlh hg
    obtain ⟨v,w',h1,j,p⟩:=ZFu (C:=C) (k:=k) (k':=k') (ZaJ (hC.tab _ _ ht).1) (hC.tab _ _ he) y a0 hh
    simp only [execOp,hl,hc,Sem.run_bind,h1,Result.andThen_ok,Sem.run_pure,Oper.upon]
    exact ⟨v,rfl,j.q,p⟩
   ·exact hh.elim
  ·exact hh.elim
 ·rename_i a5 a3
  split at hh
  ·rename_i s x t t' aa ao
   have aw:a5=#[s,x]:=by apply Array.ext';simpa using aa
   have ap:a3=#[t,t']:=by apply Array.ext';simpa using ao
   subst aw ap
   split at hh
   ·rename_i el ks z0 b0 c7 bd bt bn ht b8
    split at hh
    ·rename_i te he
     obtain ⟨hg,hh⟩:=Zas hh
     obtain ⟨y,a0⟩:=Zlh hg
     obtain ⟨v,w',h1,j,p⟩:=ZGA (C:=C) (ty:=ac) (ZaJ (hC.tab _ _ ht).1) (ZaJ (hC.tab _ _ b8).1) (hC.tab _ _ he) y a0 hh
     have:(execOp (ev e) ⟨al,.call ⟨.builtin .append,#[s,x],#[t,t']⟩,ac,pos,ae,ag⟩).run C.P w=.ok (.value v) w':=by
      simp [execOp,resolve,invoke,builtin,h1]
     rw [this]
     exact ⟨v,rfl,j.q,p⟩
    ·exact hh.elim
   ·rename_i el ks z0 b0 ik bd bt bn ht b8
    split at hh
    ·rename_i te kx n he hx
     obtain ⟨hg,hh⟩:=Zas hh
     obtain ⟨y,a0⟩:=Zlh hg
     obtain ⟨v,w',h1,j,p⟩:=Zyn (C:=C) (ty:=ac) (kx:=kx) (ZaJ (hC.tab _ _ ht).1) (Zfq (hC.tab _ _ b8).1) (hC.tab _ _ he) y a0 hh
     have:(execOp (ev e) ⟨al,.call ⟨.builtin .append,#[s,x],#[t,t']⟩,ac,pos,ae,ag⟩).run C.P w=.ok (.value v) w':=by
      simp [execOp,resolve,invoke,builtin,hx,h1]
     rw [this]
     exact ⟨v,rfl,j.q,p⟩
    ·exact hh.elim
   ·exact hh.elim
  ·exact hh.elim
 ·rename_i a5 a3
  split at hh
  ·rename_i x t aa ao
   have aw:a5=#[x]:=by apply Array.ext';simpa using aa
   have ap:a3=#[t]:=by apply Array.ext';simpa using ao
   subst aw ap
   split at hh
   ·rename_i el ks z0 b0 ht
    split at hh
    ·rename_i te he
     obtain ⟨hg,hh⟩:=Zas hh
     obtain ⟨y,a0⟩:=Zlh hg
     obtain ⟨v,w',h1,j,p⟩:=ZAi (C:=C) (ty:=ac) (ZaJ (hC.tab _ _ ht).1) (hC.tab _ _ he) y a0 hh
     have:(execOp (ev e) ⟨al,.call ⟨.builtin .clear,#[x],#[t]⟩,ac,pos,ae,ag⟩).run C.P w=.ok (.value v) w':=by
      simp [execOp,resolve,invoke,builtin,h1]
     rw [this]
     exact ⟨v,rfl,j.q,p⟩
    ·exact hh.elim
   ·exact hh.elim
  ·exact hh.elim
 ·rename_i a5 a3
  split at hh
  ·rename_i d x t t' aa ao
   have aw:a5=#[d,x]:=by apply Array.ext';simpa using aa
   have ap:a3=#[t,t']:=by apply Array.ext';simpa using ao
   subst aw ap
   split at hh
   ·rename_i el ks z0 b0 ht
    split at hh
    ·rename_i te he
     obtain ⟨v,w',h1,j,p⟩:=ZHA (C:=C) (t':=t') (ty:=ac) (ZaJ (hC.tab _ _ ht).1) (hC.tab _ _ he) hh
     have:(execOp (ev e) ⟨al,.call ⟨.builtin .copy,#[d,x],#[t,t']⟩,ac,pos,ae,ag⟩).run C.P w=.ok (.value v) w':=by
      simp [execOp,resolve,invoke,builtin,h1]
     rw [this]
     exact ⟨v,rfl,j.q,p⟩
    ·exact hh.elim
   ·exact hh.elim
  ·exact hh.elim
 ·rename_i f a5 a3
  split at hh
  ·rename_i g hg
   cases hin:inL C.ov g with
   | true=>
    rw [hin] at hh
    simp only [cond_true] at hh
    obtain ⟨w1,w2⟩:=ZBd (C:=C) hC hin hh
    have hf:f=.func g:=by cases f<;>simp [opF] at hg;rw [hg]
    have aa:(#[]:Array Value)++a5.map (ev e)++#[]=(evs e a5.toList).toArray:=by
     apply Array.ext';rw [Zhd];simp
    have hr:(execOp (ev e) ⟨al,.call ⟨.value f,a5,a3⟩,ac,pos,ae,ag⟩).run C.P w=.ok (.value (.bool false)) w:=by
     subst hf
     have bq:ev e (.func g)=.func (.func g) #[] #[]:=rfl
     simp only [execOp,resolve,Sem.run_bind,bq,Deferred.ofValue,Sem.run_pure,Result.andThen_ok,invoke,aa,w1]
    rw [hr]
    exact ⟨_,rfl,RestQ.refl w,w2⟩
   | false=>
    rw [hin] at hh
    simp only [cond_false,Zib] at hh
    unfold vCall vFn at hh
    split at hh
    ·rename_i g first a6 hf
     obtain ⟨hg,hh⟩:=Zq1 hh
     obtain ⟨fn,ba,ar,av⟩:=hC.fns g hg
     have hr:(execOp (ev e) ⟨al,.call ⟨.value f,a5,a3⟩,ac,pos,ae,ag⟩).run C.P w =
       .ok (.enter g (first.toList++evs e a5.toList++a6.toList).toArray) w:=by
      have hb:fn.body.isNone=false:=by cases hb:fn.body<;>simp [hb] at ar ⊢
      have aa:first++a5.map (ev e)++a6=(first.toList++evs e a5.toList++a6.toList).toArray:=by
       apply Array.ext';rw [Zhd];simp
      simp only [execOp,resolve,Sem.run_bind,hf,Deferred.ofValue,Sem.run_pure,Result.andThen_ok,invoke,callFunc,run_program,ba,av,hb,Bool.false_eq_true,if_false,aa]
     rw [hr]
     simp only [Oper.upon]
     refine (hh w rfl).mono ?_
     rintro e1 w' ⟨v,rfl,au,hk⟩
     obtain ⟨u,rfl,hk⟩:=Zum hk
     exact ⟨v,rfl,au,hk⟩
    ·exact hh.elim
  ·rw [Zib] at hh
   unfold vCall vFn at hh
   split at hh
   ·rename_i g first a6 hf
    obtain ⟨hg,hh⟩:=Zq1 hh
    obtain ⟨fn,ba,ar,av⟩:=hC.fns g hg
    have hr:(execOp (ev e) ⟨al,.call ⟨.value f,a5,a3⟩,ac,pos,ae,ag⟩).run C.P w =
      .ok (.enter g (first.toList++evs e a5.toList++a6.toList).toArray) w:=by
     have hb:fn.body.isNone=false:=by cases hb:fn.body<;>simp [hb] at ar ⊢
     have aa:first++a5.map (ev e)++a6=(first.toList++evs e a5.toList++a6.toList).toArray:=by
      apply Array.ext';rw [Zhd];simp
     simp only [execOp,resolve,Sem.run_bind,hf,Deferred.ofValue,Sem.run_pure,Result.andThen_ok,invoke,callFunc,run_program,ba,av,hb,Bool.false_eq_true,if_false,aa]
    rw [hr]
    simp only [Oper.upon]
    refine (hh w rfl).mono ?_
    rintro e1 w' ⟨v,rfl,au,hk⟩
    obtain ⟨u,rfl,hk⟩:=Zum hk
    exact ⟨v,rfl,au,hk⟩
   ·exact hh.elim
 ·rename_i t r
  split at hh
  ·rename_i kt et ks z b ht
   have hu:=ZoE (hC.tab _ _ ht).1
   have hr:∀ q:Option Value,(q=none\/∃ k n,q=some (.int k n))->(Instr.makeMap t q).run C.P w=.ok (.map (some w.heap.size)) { w with heap:=w.heap.push (.map #[] 0) }:=by
    rintro q (rfl|⟨k,n,rfl⟩)
    ·simp [Instr.makeMap]
    ·simp [Instr.makeMap,ZQ w hu,asInt,asIntOf]
   rw [ZcE] at hh
   split at hh
   ·rename_i hq
    simp only [execOp,Sem.run_bind,hr (r.map (ev e)) (.inl hq),Result.andThen_ok,Sem.run_pure,Oper.upon]
    exact ⟨_,rfl,⟨rfl,rfl,rfl,fun _=>Nat.le_refl _⟩,hh _ _ rfl rfl⟩
   ·rename_i k n hq
    simp only [execOp,Sem.run_bind,hr (r.map (ev e)) (.inr ⟨k,n,hq⟩),Result.andThen_ok,Sem.run_pure,Oper.upon]
    exact ⟨_,rfl,⟨rfl,rfl,rfl,fun _=>Nat.le_refl _⟩,hh _ _ rfl rfl⟩
   ·exact hh.elim
  ·exact hh.elim
 ·rename_i t m k x
  obtain ⟨w',h1,j,p⟩:=ZsF hC hh
  simp only [execOp,Sem.run_bind,h1,Result.andThen_ok,Sem.run_pure,Oper.upon]
  exact ⟨undef,rfl,j.q,p⟩
 ·rename_i t m k x
  obtain ⟨w',h1,j,p⟩:=ZsF hC hh
  simp only [execOp,Sem.run_bind,h1,Result.andThen_ok,Sem.run_pure,Oper.upon]
  exact ⟨undef,rfl,j.q,p⟩
 ·rename_i c5 al x
  split at hh
  ·rename_i ks z b el bd z' b' s hs hd hx
   split at hh
   ·rename_i af z2 b2 bo
    obtain ⟨v,w',h1,j,p⟩:=ZAA (C:=C) (ZcC (hC.tab _ _ hs).1) (ZaJ (hC.tab _ _ hd).1) (Zfq (hC.tab _ _ bo).1) hh
    simp only [execOp,Sem.run_bind,hx,h1,Result.andThen_ok,Sem.run_pure,Oper.upon]
    exact ⟨v,rfl,j.q,p⟩
   ·exact hh.elim
  ·exact hh.elim
 ·exact hh.elim
end
end Go.Vc
