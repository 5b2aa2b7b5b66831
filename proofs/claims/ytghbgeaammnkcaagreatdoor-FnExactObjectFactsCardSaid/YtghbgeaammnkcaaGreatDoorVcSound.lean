import Derived.Test.YtghbgeaammnkcaaGreatDoorVcCore
namespace Go.Vc
set_option linter.unusedVariables false
set_option linter.unusedSimpArgs false
open Go
structure CtxOk (C:Ctx):Prop where
 tab:∀ t te,tabGet C.tab t=some te→TeOk C.P t te
 fns:∀ f,C.okf f=true→∃ fn,C.P.funcs[f]?=some fn∧fn.body.isSome=true∧(fn.name== "runtime.NumGoroutine")=false
 mixed:C.P.follows .mixedOrders=true
 ovs:∀ f,inL C.ov f=true→∃ fn tS tR el te,C.P.funcs[f]?=some fn∧fn.body.isNone=true∧(fn.name== "runtime.NumGoroutine")=false∧Extern.findNext fn=none∧Extern.find fn=some (Extern.SlicesOverlaps.overlaps #[tS,tS] #[tR])∧C.P.underlying tS=some (.slice el)∧TeOk C.P el te
section types
variable {P:Program} {t:TypeId}
theorem TeOk.info {te:TE} (h:TeOk P t te):∃ i z,P.info? t=some i∧i.size=te.size∧i.bytes=te.bytes∧i.zero=some z∧z.cells.toList=te.zero:=by
 obtain ⟨_,h,_⟩:=h
 cases hi:P.info? t with
 | none=>rw [hi] at h;simp at h
 | some i=>
  rw [hi] at h
  simp only [Option.map_some,Option.some.injEq,Prod.mk.injEq] at h
  obtain ⟨b,c,a⟩:=h
  cases hz:i.zero with
  | none=>rw [hz] at a;simp at a
  | some z=>rw [hz] at a;simp at a;exact ⟨i,z,rfl,b,c,hz,a⟩
theorem Zwi (h:tdOf P t=.bool):P.underlying t=some .bool:=by
 unfold tdOf at h;split at h<;>first|assumption|simp at h
theorem Zfk {k:IntKind} (h:tdOf P t=.int k):P.underlying t=some (.int k):=by
 unfold tdOf at h;split at h<;>first|(simp at h;subst h;assumption)|simp at h
theorem Zdb (h:tdOf P t=.str):P.underlying t=some .string:=by
 unfold tdOf at h;split at h<;>first|assumption|simp at h
theorem ZsH (h:tdOf P t=.iface):∃ ms,P.underlying t=some (.interface ms):=by
 unfold tdOf at h;split at h<;>first|exact ⟨_,by assumption⟩|simp at h
theorem ZaP {e:Nat} (h:tdOf P t=.slice e):P.underlying t=some (.slice e):=by
 unfold tdOf at h;split at h<;>first|(simp at h;subst h;assumption)|simp at h
theorem Znn {fs:List (Nat×Nat×Bool)} (h:tdOf P t=.struct fs):∃ fields,P.underlying t=some (.struct fields) ∧
  fs=fields.toList.map fun f=>(f.offset,fsz P f.type,((P.underlying f.type).map isAggD).getD true):=by
 unfold tdOf at h;split at h<;>first|(simp at h;subst h;exact ⟨_,by assumption,by simp⟩)|simp at h
theorem ZoH {n:Nat} (h:fsz P t=n) (a:Nat.beq n 0=false):∃ d i,P.underlying t=some d∧P.info? t=some i∧i.size=n:=by
 unfold fsz at h
 split at h
 ·exact ⟨_,_,by assumption,by assumption,h⟩
 ·subst h;cases a
theorem ZCF {d:TypeDesc} (a:P.underlying t=some d):isAggD d=(tdOf P t).agg:=by
 unfold tdOf;rw [a];cases d<;>rfl
end types
section runs
variable {P:Program} (w:World)
theorem ZO {t:TypeId} {d:TypeDesc} (h:P.underlying t=some d):(underlying t).run P w=.ok d w:=by
 simp [underlying,h]
theorem Zci {t:TypeId} {i:TypeInfo} (h:P.info? t=some i):(typeInfo t).run P w=.ok i w:=by
 simp [typeInfo,h]
theorem ZaY {t:TypeId} {te:TE} (h:TeOk P t te):(sizeOf t).run P w=.ok te.size w:=by
 obtain ⟨i,z,hi,hs,_⟩:=h.info
 simp [sizeOf,Zci w hi,hs]
theorem ZdM {t:TypeId} {i:TypeInfo} {z:Value} (h:P.info? t=some i) (hz:i.zero=some z):(zeroValue t).run P w=.ok z w:=by
 simp [zeroValue,Zci w h,hz]
theorem ZlJ {t:TypeId} {d:TypeDesc} (h:P.underlying t=some d):(isAgg t).run P w=.ok (isAggD d) w:=by
 simp only [isAgg,Sem.run_bind,ZO w h,Result.andThen_ok]
 cases d<;>rfl
theorem Zsf {a:Addr} {v:Value} (h:hcell w.heap a=some v):(load a).run P w=.ok v w:=by
 have:w.cell? a=some v:=h
 simp [this]
theorem ZqU {a:Addr}:∀ (vs:List Value) (i:Nat) (acc:Array Value),(∀ j v,vs[j]?=some v→hcell w.heap (a.add (i+j))=some v) →
  (loadCellsFrom a i vs.length acc).run P w=.ok (acc++vs.toArray) w
 | [],i,acc,_=>by simp [loadCellsFrom]
 | v::vs,i,acc,h=>by
  have b:=h 0 v (by simp)
  simp only [Nat.add_zero] at b
  simp only [List.length_cons,loadCellsFrom,Sem.run_bind,Zsf w b,Result.andThen_ok]
  rw [ZqU vs (i+1) (acc.push v) fun j u hu=>by
   have:=h (j+1) u (by simpa using hu)
   rwa [show i+(j+1)=i+1+j by omega] at this]
  simp
theorem ZkF {a:Addr} (vs:List Value) (h:∀ j v,vs[j]?=some v→hcell w.heap (a.add j)=some v):
  (loadCells a vs.length).run P w=.ok vs.toArray w:=by
 unfold loadCells
 rw [ZqU w vs 0 #[] fun j v b=>by simpa using h j v b]
 simp
end runs
theorem eX (h:Heap):ExtH h h:=⟨Nat.le_refl _,fun _ _=>rfl⟩
theorem ExtH.trans {a b c:Heap} (h:ExtH a b) (k:ExtH b c):ExtH a c:=
 ⟨Nat.le_trans h.1 k.1,fun x f=>(k.2 x (Nat.lt_of_lt_of_le f h.1)).trans (h.2 x f)⟩
theorem ExtH.push (h:Heap) (o:Obj):ExtH h (h.push o):=
 ⟨by simp,fun b a=>by rw [Array.getElem?_push,if_neg (by omega)]⟩
theorem ZdQ {h:Heap} {a:Addr} {v:Value} (b:hcell h a=some v):a.block<h.size:=by
 unfold hcell at b
 rcases Nat.lt_or_ge a.block h.size with h'|h'
 ·exact h'
 ·rw [Array.getElem?_eq_none h'] at b;simp at b
theorem ZhV {h h':Heap} {a:Addr} {v:Value} (c:ExtH h h') (b:hcell h a=some v):hcell h' a=some v:=by
 have:=c.2 a.block (ZdQ b)
 unfold hcell at *;rw [this];exact b
theorem eY (B:Nat→Prop) (h:Heap):ExtBut B h h:=⟨Nat.le_refl _,fun _ _ _=>rfl⟩
theorem ExtBut.trans {B:Nat→Prop} {a b c:Heap} (h:ExtBut B a b) (k:ExtBut B b c):ExtBut B a c:=
 ⟨Nat.le_trans h.1 k.1,fun x f g=>(k.2 x (Nat.lt_of_lt_of_le f h.1) g).trans (h.2 x f g)⟩
theorem eZ {B:Nat→Prop} {a b:Heap} (h:ExtH a b):ExtBut B a b:=⟨h.1,fun x c _=>h.2 x c⟩
def HLe (h h':Heap):Prop:=(∀ a v,hcell h a=some v→hcell h' a=some v)∧∀ r m,hmap h r=some m→hmap h' r=some m
theorem HLe.refl (h:Heap):HLe h h:=⟨fun _ _ h=>h,fun _ _ h=>h⟩
theorem Zkm {B:Nat→Prop} {h:Heap} {b:Nat} (a:¬ B b):(hmask B h)[b]?=h[b]?:=by
 unfold hmask
 rw [Array.getElem?_mapIdx]
 cases h[b]? with
 | none=>rfl
 | some o=>simp [a]
theorem ZC0 {B:Nat→Prop} {h:Heap} {a:Addr} {v:Value} (b:hcell (hmask B h) a=some v):¬ B a.block∧hcell h a=some v:=by
 by_cases c:B a.block
 ·exfalso
  unfold hcell hmask at b
  rw [Array.getElem?_mapIdx] at b
  cases ho:h[a.block]? with
  | none=>rw [ho] at b;simp at b
  | some o=>rw [ho] at b;simp [c] at b
 ·refine ⟨c,?_⟩
  unfold hcell at b ⊢
  rw [Zkm c] at b
  exact b
theorem ZC6 {B:Nat→Prop} {h:Heap} {r:Nat} {m:List (Value×Value)} (a:hmap (hmask B h) r=some m):¬ B r∧hmap h r=some m:=by
 by_cases b:B r
 ·exfalso
  unfold hmap hmask at a
  rw [Array.getElem?_mapIdx] at a
  cases ho:h[r]? with
  | none=>rw [ho] at a;simp at a
  | some o=>rw [ho] at a;simp [b] at a
 ·refine ⟨b,?_⟩
  unfold hmap at a ⊢
  rw [Zkm b] at a
  exact a
theorem HLe.mask {B:Nat→Prop} {h h':Heap} (g:ExtBut B h h'):HLe (hmask B h) h':=by
 refine ⟨fun a v c=>?_,fun r m c=>?_⟩
 ·obtain ⟨f,b⟩:=ZC0 c
  have:=g.2 a.block (ZdQ b) f
  unfold hcell at b ⊢
  rw [this];exact b
 ·obtain ⟨f,b⟩:=ZC6 c
  have hlt:r<h.size:=by
   unfold hmap at b
   rcases Nat.lt_or_ge r h.size with h'|h'
   ·exact h'
   ·rw [Array.getElem?_eq_none h'] at b;simp at b
  have:=g.2 r hlt f
  unfold hmap at b ⊢
  rw [this];exact b
theorem Rest.refl (w:World):Rest w w:=⟨rfl,rfl,rfl,Nat.le_refl _⟩
theorem Rest.trans {a b c:World} (h:Rest a b) (k:Rest b c):Rest a c:=⟨k.1.trans h.1,k.2.1.trans h.2.1,k.2.2.1.trans h.2.2.1,Nat.le_trans h.2.2.2 k.2.2.2⟩
theorem RestQ.refl {q:Prop} (w:World):RestQ q w w:=⟨rfl,rfl,rfl,fun _=>Nat.le_refl _⟩
theorem RestQ.trans {q:Prop} {a b c:World} (h:RestQ q a b) (k:RestQ q b c):RestQ q a c:=⟨k.1.trans h.1,k.2.1.trans h.2.1,k.2.2.1.trans h.2.2.1,fun x=>Nat.le_trans (h.2.2.2 x) (k.2.2.2 x)⟩
theorem Znm {a b:IntKind}:ikEq a b=true↔a=b:=by
 cases a<;>cases b<;>simp [ikEq,ikNat]
theorem ZjJ (e:Env) (l:List Operand):evs e l=l.map (ev e):=by
 induction l with
 | nil=>rfl
 | cons x r ih=>simp [evs,ih]
theorem Zpi (e:Env) (l:List (Nat×Operand)):evp e l=l.map fun (i,x)=>(i,ev e x):=by
 induction l with
 | nil=>rfl
 | cons x r ih=>obtain ⟨i,x⟩:=x;simp [evp,ih]
theorem Zdp (e:Env) (o:Option Operand):evo e o=o.map (ev e):=by cases o<;>rfl
theorem Zaj {b:Bool} {A:Prop} (h:bif b then A else False):b=true∧A:=by
 cases b
 ·exact h.elim
 ·exact ⟨rfl,h⟩
section pure
variable {C:Ctx} {e:Env} {K:Value→Prop}
theorem ZEH {op:BinOp} {k:IntKind} {a b:Int} (h:binI op k a b K) (t:TypeId):
  ∃ v,K v∧∀ w,(binOp op t (.int k a) (.int k b)).run C.P w=.ok v w:=by
 unfold binI at h
 cases op<;>simp only at h<;>first
  | exact h.elim
  | (refine ⟨_,h,fun w=>?_⟩;simp [binOp,Op.intArith,Op.intCmp];done)
  | (refine ⟨_,h,fun w=>?_⟩;simp [binOp,Op.intBits];done)
  | (refine ⟨_,h.2,fun w=>?_⟩;simp [binOp,Op.intDiv,h.1])
theorem Zy2 {op:BinOp} {a b:ByteArray} (h:binS op a b K) (t:TypeId):
  ∃ v,K v∧∀ w,(binOp op t (.string a) (.string b)).run C.P w=.ok v w:=by
 unfold binS at h
 cases op<;>simp only at h<;>first
  | exact h.elim
  | (refine ⟨_,h,fun w=>?_⟩;simp [binOp,Op.stringOp];done)
  | (refine ⟨_,h.2,fun w=>?_⟩;have:=h.1;simp only [binOp,Op.stringOp];rw [if_neg (by omega)];simp)
theorem Zcq {op:BinOp} {t:TypeId} {x y:Operand} {a b:Value} (c:∀ cs,a≠.agg cs) (f:a≠.nilIface) (w:World):(eqGuard op t x y a b).run C.P w=.ok () w:=by
 cases a<;>cases op<;>first|exact absurd rfl (c _)|exact absurd rfl f|rfl
theorem ZCv (d:Nat) {t el:TypeId} (ht:C.P.underlying t=some (.slice el)) (a:Option Addr) (l m n c:Nat) (w:World):
  (Op.equalIn (d+1) t (.slice a l m) (.slice none n c)).run C.P w=.ok a.isNone w:=by
 cases a<;>simp [Op.equalIn,ZO w ht]
theorem ZvO (d:Nat) {t:TypeId} (ht:C.P.underlying t=some .bool) (a b:Bool) (w:World):
  (Op.equalIn (d+1) t (.bool a) (.bool b)).run C.P w=.ok (a==b) w:=by
 simp [Op.equalIn,ZO w ht]
theorem Zry {neg:Bool} {x:Value} (h:vNilS neg x fun b=>K (.bool b)) {t el:TypeId} (ht:C.P.underlying t=some (.slice el)) {n c:Nat}:
  (∀ cs,x≠.agg cs)∧x≠.nilIface∧∃ v,K v∧∀ w,(binOp (if neg then .neq else .eql) t x (.slice none n c)).run C.P w=.ok v w:=by
 unfold vNilS at h
 split at h
 ·rename_i a l m
  refine ⟨by simp,by simp,_,h,fun w=>?_⟩
  have f:=ZCv (C:=C) 9999 ht a l m n c w
  cases neg
  ·show (do pure (Value.bool (←Op.equalIn (9999+1) t (.slice a l m) (.slice none n c))):Sem Value).run C.P w=_
   simp [f]
  ·show (do pure (Value.bool (!(←Op.equalIn (9999+1) t (.slice a l m) (.slice none n c)))):Sem Value).run C.P w=_
   simp [f]
 ·exact h.elim
theorem ZBP (d:Nat) {t:TypeId} {ms:Array (String×TypeId)} (ht:C.P.underlying t=some (.interface ms)) (w:World):
  (Op.equalIn (d+1) t .nilIface .nilIface).run C.P w=.ok true w:=by
 simp [Op.equalIn,ZO w ht]
theorem Zx8 (d:Nat) {t:TypeId} {ms:Array (String×TypeId)} (ht:C.P.underlying t=some (.interface ms)) (a:TypeId) (x:Value) (w:World):
  (Op.equalIn (d+1) t (.iface a x) .nilIface).run C.P w=.ok false w:=by
 simp [Op.equalIn,ZO w ht]
theorem ZtE {neg:Bool} {x:Operand} {xv:Value} (h:vNilI neg xv fun b=>K (.bool b)) {t:TypeId} {ms:Array (String×TypeId)} (ht:C.P.underlying t=some (.interface ms)):
  ∃ v,K v∧∀ w,(do eqGuard (if neg then .neq else .eql) t x (.const .nilIface) xv .nilIface;binOp (if neg then .neq else .eql) t xv .nilIface:Sem Value).run C.P w=.ok v w:=by
 unfold vNilI at h
 split at h
 ·refine ⟨_,h,fun w=>?_⟩
  have f:=ZBP (C:=C) 9999 ht w
  have g:∀ op:BinOp,(eqGuard op t x (.const .nilIface) .nilIface .nilIface).run C.P w=.ok () w:=fun op=>by
   cases op<;>first|rfl|(unfold eqGuard;simp)
  cases neg
  ·have c:(binOp .eql t .nilIface .nilIface).run C.P w=.ok (.bool true) w:=by
    show (do pure (Value.bool (←Op.equalIn (9999+1) t .nilIface .nilIface)):Sem Value).run C.P w=_
    simp [f]
   simp [g,c]
  ·have c:(binOp .neq t .nilIface .nilIface).run C.P w=.ok (.bool false) w:=by
    show (do pure (Value.bool (!(←Op.equalIn (9999+1) t .nilIface .nilIface))):Sem Value).run C.P w=_
    simp [f]
   simp [g,c]
 ·rename_i a y
  refine ⟨_,h,fun w=>?_⟩
  have f:=Zx8 (C:=C) 9999 ht a y w
  have g:∀ op:BinOp,(eqGuard op t x (.const .nilIface) (.iface a y) .nilIface).run C.P w=.ok () w:=fun op=>
   Zcq (by simp) (by simp) w
  cases neg
  ·have c:(binOp .eql t (.iface a y) .nilIface).run C.P w=.ok (.bool false) w:=by
    show (do pure (Value.bool (←Op.equalIn (9999+1) t (.iface a y) .nilIface)):Sem Value).run C.P w=_
    simp [f]
   simp [g,c]
  ·have c:(binOp .neq t (.iface a y) .nilIface).run C.P w=.ok (.bool true) w:=by
    show (do pure (Value.bool (!(←Op.equalIn (9999+1) t (.iface a y) .nilIface))):Sem Value).run C.P w=_
    simp [f]
   simp [g,c]
 ·exact h.elim
theorem ZAO (hC:CtxOk C) {op:BinOp} {t:TypeId} {x y:Operand} (h:vBin C.tab op t x y e K):
  ∃ v,K v∧∀ w,(do eqGuard op t x y (ev e x) (ev e y);binOp op t (ev e x) (ev e y):Sem Value).run C.P w=.ok v w:=by
 unfold vBin at h
 cases hi:isNilI y
 case true=>
  rw [hi] at h
  simp only [cond_true] at h
  have hy:y=.const .nilIface:=by
   unfold isNilI at hi
   split at hi
   ·rfl
   ·cases hi
  subst hy
  split at h
  ·rename_i ks z bb ht
   obtain ⟨ms,hu⟩:=ZsH (hC.tab _ _ ht).1
   exact ZtE (C:=C) (neg:=false) (x:=x) h hu
  ·rename_i ks z bb ht
   obtain ⟨ms,hu⟩:=ZsH (hC.tab _ _ ht).1
   exact ZtE (C:=C) (neg:=true) (x:=x) h hu
  ·exact h.elim
 rw [hi] at h
 simp only [cond_false] at h
 cases j:isNilC y
 ·rw [j] at h
  simp only [cond_false] at h
  split at h
  ·rename_i k a k' b f hy
   split at h
   ·refine ⟨_,h.2,fun w=>?_⟩
    have:=h.1
    have g:(binOp .shl t (.int k a) (.int k' b)).run C.P w=.ok (.int k (k.wrap (a*2^min b.toNat k.bits))) w:=by
     simp only [binOp,Op.shift];rw [if_neg (by omega)];rfl
    simp [f,hy,Zcq,g]
   ·refine ⟨_,h.2,fun w=>?_⟩
    have:=h.1
    have g:(binOp .shr t (.int k a) (.int k' b)).run C.P w=.ok (.int k (a.fdiv (2^min b.toNat k.bits))) w:=by
     simp only [binOp,Op.shift];rw [if_neg (by omega)];rfl
    simp [f,hy,Zcq,g]
   ·obtain ⟨hk,h'⟩:=Zaj h
    obtain rfl:=Znm.1 hk
    obtain ⟨v,i,hr⟩:=ZEH (C:=C) h' t
    refine ⟨v,i,fun w=>?_⟩
    simp [f,hy,Zcq,hr]
  ·rename_i a b f hy
   obtain ⟨v,i,hr⟩:=Zy2 (C:=C) h t
   refine ⟨v,i,fun w=>?_⟩
   simp [f,hy,Zcq,hr]
  ·rename_i a b f hy
   split at h
   ·rename_i ks z bb ht
    have hu:=Zwi (hC.tab _ _ ht).1
    have o:=fun w=>ZvO (C:=C) 9999 hu a b w
    unfold binB at h
    rw [f,hy]
    split at h
    ·refine ⟨_,h,fun w=>?_⟩
     have g:(binOp .eql t (.bool a) (.bool b)).run C.P w=.ok (.bool (a==b)) w:=by
      show (do pure (Value.bool (←Op.equalIn (9999+1) t (.bool a) (.bool b))):Sem Value).run C.P w=_
      simp [o]
     simp [Zcq,g]
    ·refine ⟨_,h,fun w=>?_⟩
     have g:(binOp .neq t (.bool a) (.bool b)).run C.P w=.ok (.bool (!(a==b))) w:=by
      show (do pure (Value.bool (!(←Op.equalIn (9999+1) t (.bool a) (.bool b)))):Sem Value).run C.P w=_
      simp [o]
     simp [Zcq,g]
    ·exact h.elim
   ·exact h.elim
  ·exact h.elim
 ·rw [j] at h
  simp only [cond_true] at h
  have hy:∃ n c,y=.const (.slice none n c):=by
   unfold isNilC at j
   split at j
   ·exact ⟨_,_,rfl⟩
   ·cases j
  obtain ⟨n,c,rfl⟩:=hy
  split at h
  ·rename_i el ks z bb ht
   have hu:=ZaP (hC.tab _ _ ht).1
   obtain ⟨l,m,v,i,hr⟩:=Zry (C:=C) h hu (n:=n) (c:=c)
   refine ⟨v,i,fun w=>?_⟩
   have:=hr w
   simp at this
   rw [show ev e (.const (.slice none n c))=.slice none n c from rfl]
   simp [Zcq l m,this]
  ·rename_i el ks z bb ht
   have hu:=ZaP (hC.tab _ _ ht).1
   obtain ⟨l,m,v,i,hr⟩:=Zry (C:=C) h hu (n:=n) (c:=c)
   refine ⟨v,i,fun w=>?_⟩
   have:=hr w
   simp at this
   rw [show ev e (.const (.slice none n c))=.slice none n c from rfl]
   simp [Zcq l m,this]
  ·exact h.elim
theorem Zjd {P:Program} {x:Option Value} {d y:Nat} {K:Nat→Prop} (h:vBound x d y K) {c:BoundsCode}:
  ∃ n,K n∧(x=none→n=d)∧∀ v,x=some v→∀ w,(Instr.sliceBound v y c).run P w=.ok n w:=by
 unfold vBound at h
 split at h
 ·exact ⟨d,h,(fun _=>rfl),(fun v a=>by cases a)⟩
 ·rename_i k i
  refine ⟨_,h.2,(fun hh=>by cases hh),fun v a w=>?_⟩
  cases a
  simp [Instr.sliceBound,asIntOf,h.1.1,h.1.2]
 ·exact h.elim
theorem ZxO (base:List Value) (off:Nat) (x:Value) (l:List Value) (h:off<base.length):setAt (base.set off x) (off+1) l=setAt base off (x::l):=by
 unfold setAt
 have a:(base.set off x).take (off+1)=base.take off++[x]:=by
  rw [List.take_set,List.take_succ_eq_append_getElem h,List.set_append_right _ _ (by simp;omega)]
  simp [Nat.min_eq_left (Nat.le_of_lt h)]
 have b:(base.set off x).drop (off+1+l.length)=base.drop (off+(x::l).length):=by
  rw [List.drop_set_of_lt (by omega),List.length_cons]
  congr 1
  omega
 rw [a,b]
 simp
theorem Zrx:∀ (l:List Value) (k:Nat) (cs:Array Value) (o:Nat),o+k+l.length≤cs.size →
  ((l.zipIdx k).foldl (fun cs (p:Value×Nat)=>cs.setIfInBounds (o+p.2) p.1) cs)=(setAt cs.toList (o+k) l).toArray
 | [],k,cs,o,_=>by simp [setAt]
 | x::l,k,cs,o,h=>by
  simp only [List.length_cons] at h
  simp only [List.zipIdx_cons,List.foldl_cons]
  rw [Zrx l (k+1) _ o (by simp;omega)]
  rw [←ZxO _ _ x l (by simp;omega)]
  simp [Nat.add_assoc]
theorem Zrq {place:Nat→Option (Nat×Nat)} {i off size:Nat} {v:Value} {cells:Array Value} {rest:List (Nat×Value)} (hp:place i=some (off,size))
  (hs:v.cells.size=size) (a:off+size≤cells.size):
  Instr.fill place cells ((i,v)::rest)=Instr.fill place (setAt cells.toList off v.cells.toList).toArray rest:=by
 have hset:=Zrx v.cells.toList 0 cells off (by simp [hs];omega)
 rw [Instr.fill,hp]
 simp only
 rw [if_neg (by simp [hs];omega)]
 congr 1
 rw [←Array.foldl_toList]
 simp only [Nat.add_zero] at hset
 rw [←hset]
 simp
theorem ZoB {agg:Bool} {v:Value} {K:List Value→Prop} (h:cellsAs agg v K):K v.cells.toList∧(agg=false→v.oneCell'=true):=by
 unfold cellsAs at h
 cases agg
 ·simp only [cond_false] at h
  obtain ⟨a,b⟩:=Zaj h
  refine ⟨?_,fun _=>a⟩
  cases v<;>simp [Value.oneCell'] at a<;>exact b
 ·simp only [cond_true] at h
  split at h
  ·exact ⟨h,fun h=>by cases h⟩
  ·exact h.elim
theorem Zsj {fs:List (Nat×Nat×Bool)}:∀ (parts:List (Nat×Value)) (acc:List Value) (K:List Value→Prop),buildAt fs acc parts K →
  ∃ cs,K cs∧Instr.fill (fun i=>(fs[i]?).map fun p=>(p.1,p.2.1)) acc.toArray parts=some cs.toArray
 | [],acc,K,h=>⟨acc,h,rfl⟩
 | (i,v)::r,acc,K,h=>by
  unfold buildAt at h
  split at h
  ·rename_i off size agg hf
   obtain ⟨a,c⟩:=ZoB h
   obtain ⟨b,a⟩:=Zaj a
   simp only [Bool.and_eq_true] at b
   have hl:=Nat.eq_of_beq_eq_true b.1
   have hle:=Nat.le_of_ble_eq_true b.2
   obtain ⟨cs,hk,hr⟩:=Zsj r _ K a
   refine ⟨cs,hk,?_⟩
   rw [Zrq (off:=off) (size:=size) (by simp [hf]) (by simpa using hl) (by simpa using hle)]
   simpa using hr
  ·exact h.elim
theorem ZEr {s:TypeId} {fs:List (Nat×Nat×Bool)} {f:Nat} {x:Value} (hs:tdOf C.P s=.struct fs) (h:vField fs f x K):
  ∃ v,K v∧∀ w,(Instr.field s x f).run C.P w=.ok v w:=by
 obtain ⟨fields,hu,rfl⟩:=Znn hs
 unfold vField at h
 split at h
 ·rename_i off size agg cs hf
  simp only [List.getElem?_map,Array.getElem?_toList,Option.map_eq_some_iff,Prod.mk.injEq] at hf
  obtain ⟨fd,hfd,rfl,hsz,hag⟩:=hf
  have hrun:∀ w,(Instr.field s (.agg cs) f).run C.P w=(part fd.type cs fd.offset).run C.P w:=fun w=>by
   simp [Instr.field,ZO w hu,hfd,asAgg]
  cases agg
  ·simp only [cond_false] at h
   have a:∃ d,C.P.underlying fd.type=some d∧isAggD d=false:=by
    cases a:C.P.underlying fd.type with
    | none=>rw [a] at hag;simp at hag
    | some d=>rw [a] at hag;exact ⟨d,rfl,by simpa using hag⟩
   obtain ⟨d,a,hda⟩:=a
   split at h
   ·rename_i v b
    refine ⟨v,h,fun w=>?_⟩
    rw [hrun]
    have:cs[fd.offset]?=some v:=by simpa using b
    simp [part,ZlJ w a,hda,this]
   ·exact h.elim
  ·simp only [cond_true] at h
   have hz:(Nat.beq size 0)=false∧K (.agg ((cs.toList.drop fd.offset).take size).toArray):=by
    revert h
    cases Nat.beq size 0
    ·exact fun h=>⟨rfl,h⟩
    ·exact fun h=>h.elim
   obtain ⟨hz,h⟩:=hz
   obtain ⟨d,i,a,hi,hisz⟩:=ZoH hsz hz
   have hda:isAggD d=true:=by rw [a] at hag;simpa using hag
   refine ⟨_,h,fun w=>?_⟩
   rw [hrun]
   simp only [part,Sem.run_bind,ZlJ w a,hda,Result.andThen_ok,if_true,sizeOf,Zci w hi,Sem.run_pure,hisz]
   congr 2
   apply Array.ext'
   simp [List.extract_eq_take_drop]
 ·exact h.elim
end pure
end Go.Vc
