import Derived.Test.YtmmbnjijjdakmaaGreatDoorVcCore
namespace Go.Vc
set_option linter.unusedVariables false
set_option linter.unusedSimpArgs false
open Go
structure CtxOk (C:Ctx):Prop where
 tab:∀ t te,tabGet C.tab t=some te→TeOk C.P t te
 fns:∀ f,C.okf f=true→∃ fn,C.P.funcs[f]?=some fn∧fn.body.isSome=true∧(fn.name== "runtime.NumGoroutine")=false
 mixed:C.P.follows .mixedOrders=true
 ovs:∀ f,inL C.ov f=true→∃ fn tS tR el te,C.P.funcs[f]?=some fn∧fn.body.isNone=true∧(fn.name== "runtime.NumGoroutine")=false∧Extern.findNext fn=none∧Extern.find fn=some (Extern.SlicesOverlaps.overlaps #[tS,tS] #[tR])∧C.P.underlying tS=some (.slice el)∧TeOk C.P el te
section types
variable {P:Program} {t:TypeId}
theorem TeOk.info {te:TE} (h:TeOk P t te):∃ i z,P.info? t=some i∧i.size=te.size∧i.bytes=te.bytes∧i.zero=some z∧z.cells.toList=te.zero:=by
 obtain ⟨_,h,_⟩:=h
 cases hi:P.info? t with
 | none=>rw [hi] at h;simp at h
 | some i=>
  rw [hi] at h
  simp only [Option.map_some,Option.some.injEq,Prod.mk.injEq] at h
  obtain ⟨h1,h2,h3⟩:=h
  cases hz:i.zero with
  | none=>rw [hz] at h3;simp at h3
  | some z=>rw [hz] at h3;simp at h3;exact ⟨i,z,rfl,h1,h2,hz,h3⟩
theorem Zsy (h:tdOf P t=.bool):P.underlying t=some .bool:=by
 unfold tdOf at h;split at h<;>first|assumption|simp at h
theorem ZeD {k:IntKind} (h:tdOf P t=.int k):P.underlying t=some (.int k):=by
 unfold tdOf at h;split at h<;>first|(simp at h;subst h;assumption)|simp at h
theorem ZcP (h:tdOf P t=.str):P.underlying t=some .string:=by
 unfold tdOf at h;split at h<;>first|assumption|simp at h
theorem Zpv (h:tdOf P t=.iface):∃ ms,P.underlying t=some (.interface ms):=by
 unfold tdOf at h;split at h<;>first|exact ⟨_,by assumption⟩|simp at h
theorem Zav {e:Nat} (h:tdOf P t=.slice e):P.underlying t=some (.slice e):=by
 unfold tdOf at h;split at h<;>first|(simp at h;subst h;assumption)|simp at h
theorem Zlq {fs:List (Nat×Nat×Bool)} (h:tdOf P t=.struct fs):∃ fields,P.underlying t=some (.struct fields) ∧
  fs=fields.toList.map fun f=>(f.offset,fsz P f.type,((P.underlying f.type).map isAggD).getD true):=by
 unfold tdOf at h;split at h<;>first|(simp at h;subst h;exact ⟨_,by assumption,by simp⟩)|simp at h
theorem ZkF {n:Nat} (h:fsz P t=n) (h0:Nat.beq n 0=false):∃ d i,P.underlying t=some d∧P.info? t=some i∧i.size=n:=by
 unfold fsz at h
 split at h
 ·exact ⟨_,_,by assumption,by assumption,h⟩
 ·subst h;cases h0
theorem Zsf {d:TypeDesc} (hd:P.underlying t=some d):isAggD d=(tdOf P t).agg:=by
 unfold tdOf;rw [hd];cases d<;>rfl
end types
section runs
variable {P:Program} (w:World)
theorem ZH {t:TypeId} {d:TypeDesc} (h:P.underlying t=some d):(underlying t).run P w=.ok d w:=by
 simp [underlying,h]
theorem ZbU {t:TypeId} {i:TypeInfo} (h:P.info? t=some i):(typeInfo t).run P w=.ok i w:=by
 simp [typeInfo,h]
theorem ZaE {t:TypeId} {te:TE} (h:TeOk P t te):(sizeOf t).run P w=.ok te.size w:=by
 obtain ⟨i,z,hi,hs,_⟩:=h.info
 simp [sizeOf,ZbU w hi,hs]
theorem ZdI {t:TypeId} {i:TypeInfo} {z:Value} (h:P.info? t=some i) (hz:i.zero=some z):(zeroValue t).run P w=.ok z w:=by
 simp [zeroValue,ZbU w h,hz]
theorem Zjl {t:TypeId} {d:TypeDesc} (h:P.underlying t=some d):(isAgg t).run P w=.ok (isAggD d) w:=by
 simp only [isAgg,Sem.run_bind,ZH w h,Result.andThen_ok]
 cases d<;>rfl
theorem Zrh {a:Addr} {v:Value} (h:hcell w.heap a=some v):(load a).run P w=.ok v w:=by
 have:w.cell? a=some v:=h
 simp [this]
theorem ZpL {a:Addr}:∀ (vs:List Value) (i:Nat) (acc:Array Value),(∀ j v,vs[j]?=some v→hcell w.heap (a.add (i+j))=some v) →
  (loadCellsFrom a i vs.length acc).run P w=.ok (acc++vs.toArray) w
 | [],i,acc,_=>by simp [loadCellsFrom]
 | v::vs,i,acc,h=>by
  have h0:=h 0 v (by simp)
  simp only [Nat.add_zero] at h0
  simp only [List.length_cons,loadCellsFrom,Sem.run_bind,Zrh w h0,Result.andThen_ok]
  rw [ZpL vs (i+1) (acc.push v) fun j u hu=>by
   have:=h (j+1) u (by simpa using hu)
   rwa [show i+(j+1)=i+1+j by omega] at this]
  simp
theorem Zj8 {a:Addr} (vs:List Value) (h:∀ j v,vs[j]?=some v→hcell w.heap (a.add j)=some v):
  (loadCells a vs.length).run P w=.ok vs.toArray w:=by
 unfold loadCells
 rw [ZpL w vs 0 #[] fun j v hv=>by simpa using h j v hv]
 simp
end runs
theorem ExtH.refl (h:Heap):ExtH h h:=⟨Nat.le_refl _,fun _ _=>rfl⟩
theorem ExtH.trans {a b c:Heap} (h:ExtH a b) (k:ExtH b c):ExtH a c:=
 ⟨Nat.le_trans h.1 k.1,fun x hx=>(k.2 x (Nat.lt_of_lt_of_le hx h.1)).trans (h.2 x hx)⟩
theorem ExtH.push (h:Heap) (o:Obj):ExtH h (h.push o):=
 ⟨by simp,fun b hb=>by rw [Array.getElem?_push,if_neg (by omega)]⟩
theorem Zcl {h:Heap} {a:Addr} {v:Value} (hc:hcell h a=some v):a.block<h.size:=by
 unfold hcell at hc
 rcases Nat.lt_or_ge a.block h.size with h'|h'
 ·exact h'
 ·rw [Array.getElem?_eq_none h'] at hc;simp at hc
theorem Zgy {h h':Heap} {a:Addr} {v:Value} (hx:ExtH h h') (hc:hcell h a=some v):hcell h' a=some v:=by
 have:=hx.2 a.block (Zcl hc)
 unfold hcell at *;rw [this];exact hc
theorem ExtBut.refl (B:Nat→Prop) (h:Heap):ExtBut B h h:=⟨Nat.le_refl _,fun _ _ _=>rfl⟩
theorem ExtBut.trans {B:Nat→Prop} {a b c:Heap} (h:ExtBut B a b) (k:ExtBut B b c):ExtBut B a c:=
 ⟨Nat.le_trans h.1 k.1,fun x hx hb=>(k.2 x (Nat.lt_of_lt_of_le hx h.1) hb).trans (h.2 x hx hb)⟩
theorem ExtBut.of_ext {B:Nat→Prop} {a b:Heap} (h:ExtH a b):ExtBut B a b:=⟨h.1,fun x hx _=>h.2 x hx⟩
def HLe (h h':Heap):Prop:=(∀ a v,hcell h a=some v→hcell h' a=some v)∧∀ r m,hmap h r=some m→hmap h' r=some m
theorem HLe.refl (h:Heap):HLe h h:=⟨fun _ _ h=>h,fun _ _ h=>h⟩
theorem Zjh {B:Nat→Prop} {h:Heap} {b:Nat} (hb:¬ B b):(hmask B h)[b]?=h[b]?:=by
 unfold hmask
 rw [Array.getElem?_mapIdx]
 cases h[b]? with
 | none=>rfl
 | some o=>simp [hb]
theorem Zx2 {B:Nat→Prop} {h:Heap} {a:Addr} {v:Value} (hc:hcell (hmask B h) a=some v):¬ B a.block∧hcell h a=some v:=by
 by_cases hb:B a.block
 ·exfalso
  unfold hcell hmask at hc
  rw [Array.getElem?_mapIdx] at hc
  cases ho:h[a.block]? with
  | none=>rw [ho] at hc;simp at hc
  | some o=>rw [ho] at hc;simp [hb] at hc
 ·refine ⟨hb,?_⟩
  unfold hcell at hc ⊢
  rw [Zjh hb] at hc
  exact hc
theorem ZA3 {B:Nat→Prop} {h:Heap} {r:Nat} {m:List (Value×Value)} (hc:hmap (hmask B h) r=some m):¬ B r∧hmap h r=some m:=by
 by_cases hb:B r
 ·exfalso
  unfold hmap hmask at hc
  rw [Array.getElem?_mapIdx] at hc
  cases ho:h[r]? with
  | none=>rw [ho] at hc;simp at hc
  | some o=>rw [ho] at hc;simp [hb] at hc
 ·refine ⟨hb,?_⟩
  unfold hmap at hc ⊢
  rw [Zjh hb] at hc
  exact hc
theorem HLe.mask {B:Nat→Prop} {h h':Heap} (hx:ExtBut B h h'):HLe (hmask B h) h':=by
 refine ⟨fun a v hc=>?_,fun r m hc=>?_⟩
 ·obtain ⟨h1,h2⟩:=Zx2 hc
  have:=hx.2 a.block (Zcl h2) h1
  unfold hcell at h2 ⊢
  rw [this];exact h2
 ·obtain ⟨h1,h2⟩:=ZA3 hc
  have hlt:r<h.size:=by
   unfold hmap at h2
   rcases Nat.lt_or_ge r h.size with h'|h'
   ·exact h'
   ·rw [Array.getElem?_eq_none h'] at h2;simp at h2
  have:=hx.2 r hlt h1
  unfold hmap at h2 ⊢
  rw [this];exact h2
theorem Rest.refl (w:World):Rest w w:=⟨rfl,rfl,rfl,Nat.le_refl _⟩
theorem Rest.trans {a b c:World} (h:Rest a b) (k:Rest b c):Rest a c:=⟨k.1.trans h.1,k.2.1.trans h.2.1,k.2.2.1.trans h.2.2.1,Nat.le_trans h.2.2.2 k.2.2.2⟩
theorem RestQ.refl {q:Prop} (w:World):RestQ q w w:=⟨rfl,rfl,rfl,fun _=>Nat.le_refl _⟩
theorem RestQ.trans {q:Prop} {a b c:World} (h:RestQ q a b) (k:RestQ q b c):RestQ q a c:=⟨k.1.trans h.1,k.2.1.trans h.2.1,k.2.2.1.trans h.2.2.1,fun x=>Nat.le_trans (h.2.2.2 x) (k.2.2.2 x)⟩
theorem Zm9 {a b:IntKind}:ikEq a b=true↔a=b:=by
 cases a<;>cases b<;>simp [ikEq,ikNat]
theorem ZhL (e:Env) (l:List Operand):evs e l=l.map (ev e):=by
 induction l with
 | nil=>rfl
 | cons x r ih=>simp [evs,ih]
theorem ZnW (e:Env) (l:List (Nat×Operand)):evp e l=l.map fun (i,x)=>(i,ev e x):=by
 induction l with
 | nil=>rfl
 | cons x r ih=>obtain ⟨i,x⟩:=x;simp [evp,ih]
theorem ZcD (e:Env) (o:Option Operand):evo e o=o.map (ev e):=by cases o<;>rfl
theorem Z6 {b:Bool} {A:Prop} (h:bif b then A else False):b=true∧A:=by
 cases b
 ·exact h.elim
 ·exact ⟨rfl,h⟩
section pure
variable {C:Ctx} {e:Env} {K:Value→Prop}
theorem ZuI {op:BinOp} {k:IntKind} {a b:Int} (h:binI op k a b K) (t:TypeId):
  ∃ v,K v∧∀ w,(binOp op t (.int k a) (.int k b)).run C.P w=.ok v w:=by
 unfold binI at h
 cases op<;>simp only at h<;>first
  | exact h.elim
  | (refine ⟨_,h,fun w=>?_⟩;simp [binOp,Op.intArith,Op.intCmp];done)
  | (refine ⟨_,h,fun w=>?_⟩;simp [binOp,Op.intBits];done)
  | (refine ⟨_,h.2,fun w=>?_⟩;simp [binOp,Op.intDiv,h.1])
theorem Zs0 {op:BinOp} {a b:ByteArray} (h:binS op a b K) (t:TypeId):
  ∃ v,K v∧∀ w,(binOp op t (.string a) (.string b)).run C.P w=.ok v w:=by
 unfold binS at h
 cases op<;>simp only at h<;>first
  | exact h.elim
  | (refine ⟨_,h,fun w=>?_⟩;simp [binOp,Op.stringOp];done)
  | (refine ⟨_,h.2,fun w=>?_⟩;have:=h.1;simp only [binOp,Op.stringOp];rw [if_neg (by omega)];simp)
theorem ZbV {op:BinOp} {t:TypeId} {x y:Operand} {a b:Value} (h1:∀ cs,a≠.agg cs) (h2:a≠.nilIface) (w:World):(eqGuard op t x y a b).run C.P w=.ok () w:=by
 cases a<;>cases op<;>first|exact absurd rfl (h1 _)|exact absurd rfl h2|rfl
theorem Zx4 (d:Nat) {t el:TypeId} (ht:C.P.underlying t=some (.slice el)) (a:Option Addr) (l m n c:Nat) (w:World):
  (Op.equalIn (d+1) t (.slice a l m) (.slice none n c)).run C.P w=.ok a.isNone w:=by
 cases a<;>simp [Op.equalIn,ZH w ht]
theorem ZxA (d:Nat) {t:TypeId} (ht:C.P.underlying t=some .bool) (a b:Bool) (w:World):
  (Op.equalIn (d+1) t (.bool a) (.bool b)).run C.P w=.ok (a==b) w:=by
 simp [Op.equalIn,ZH w ht]
theorem Zpr {neg:Bool} {x:Value} (h:vNilS neg x fun b=>K (.bool b)) {t el:TypeId} (ht:C.P.underlying t=some (.slice el)) {n c:Nat}:
  (∀ cs,x≠.agg cs)∧x≠.nilIface∧∃ v,K v∧∀ w,(binOp (if neg then .neq else .eql) t x (.slice none n c)).run C.P w=.ok v w:=by
 unfold vNilS at h
 split at h
 ·rename_i a l m
  refine ⟨by simp,by simp,_,h,fun w=>?_⟩
  have h1:=Zx4 (C:=C) 9999 ht a l m n c w
  cases neg
  ·show (do pure (Value.bool (←Op.equalIn (9999+1) t (.slice a l m) (.slice none n c))):Sem Value).run C.P w=_
   simp [h1]
  ·show (do pure (Value.bool (!(←Op.equalIn (9999+1) t (.slice a l m) (.slice none n c)))):Sem Value).run C.P w=_
   simp [h1]
 ·exact h.elim
theorem Zsk (d:Nat) {t:TypeId} {ms:Array (String×TypeId)} (ht:C.P.underlying t=some (.interface ms)) (w:World):
  (Op.equalIn (d+1) t .nilIface .nilIface).run C.P w=.ok true w:=by
 simp [Op.equalIn,ZH w ht]
theorem ZuM (d:Nat) {t:TypeId} {ms:Array (String×TypeId)} (ht:C.P.underlying t=some (.interface ms)) (a:TypeId) (x:Value) (w:World):
  (Op.equalIn (d+1) t (.iface a x) .nilIface).run C.P w=.ok false w:=by
 simp [Op.equalIn,ZH w ht]
theorem ZrL {neg:Bool} {x:Operand} {xv:Value} (h:vNilI neg xv fun b=>K (.bool b)) {t:TypeId} {ms:Array (String×TypeId)} (ht:C.P.underlying t=some (.interface ms)):
  ∃ v,K v∧∀ w,(do eqGuard (if neg then .neq else .eql) t x (.const .nilIface) xv .nilIface;binOp (if neg then .neq else .eql) t xv .nilIface:Sem Value).run C.P w=.ok v w:=by
 unfold vNilI at h
 split at h
 ·refine ⟨_,h,fun w=>?_⟩
  have h1:=Zsk (C:=C) 9999 ht w
  have g:∀ op:BinOp,(eqGuard op t x (.const .nilIface) .nilIface .nilIface).run C.P w=.ok () w:=fun op=>by
   cases op<;>first|rfl|(unfold eqGuard;simp)
  cases neg
  ·have h2:(binOp .eql t .nilIface .nilIface).run C.P w=.ok (.bool true) w:=by
    show (do pure (Value.bool (←Op.equalIn (9999+1) t .nilIface .nilIface)):Sem Value).run C.P w=_
    simp [h1]
   simp [g,h2]
  ·have h2:(binOp .neq t .nilIface .nilIface).run C.P w=.ok (.bool false) w:=by
    show (do pure (Value.bool (!(←Op.equalIn (9999+1) t .nilIface .nilIface))):Sem Value).run C.P w=_
    simp [h1]
   simp [g,h2]
 ·rename_i a y
  refine ⟨_,h,fun w=>?_⟩
  have h1:=ZuM (C:=C) 9999 ht a y w
  have g:∀ op:BinOp,(eqGuard op t x (.const .nilIface) (.iface a y) .nilIface).run C.P w=.ok () w:=fun op=>
   ZbV (by simp) (by simp) w
  cases neg
  ·have h2:(binOp .eql t (.iface a y) .nilIface).run C.P w=.ok (.bool false) w:=by
    show (do pure (Value.bool (←Op.equalIn (9999+1) t (.iface a y) .nilIface)):Sem Value).run C.P w=_
    simp [h1]
   simp [g,h2]
  ·have h2:(binOp .neq t (.iface a y) .nilIface).run C.P w=.ok (.bool true) w:=by
    show (do pure (Value.bool (!(←Op.equalIn (9999+1) t (.iface a y) .nilIface))):Sem Value).run C.P w=_
    simp [h1]
   simp [g,h2]
 ·exact h.elim
theorem Zvk (hC:CtxOk C) {op:BinOp} {t:TypeId} {x y:Operand} (h:vBin C.tab op t x y e K):
  ∃ v,K v∧∀ w,(do eqGuard op t x y (ev e x) (ev e y);binOp op t (ev e x) (ev e y):Sem Value).run C.P w=.ok v w:=by
 unfold vBin at h
 cases hi:isNilI y
 case true=>
  rw [hi] at h
  simp only [cond_true] at h
  have hy:y=.const .nilIface:=by
   unfold isNilI at hi
   split at hi
   ·rfl
   ·cases hi
  subst hy
  split at h
  ·rename_i ks z bb ht
   obtain ⟨ms,hu⟩:=Zpv (hC.tab _ _ ht).1
   exact ZrL (C:=C) (neg:=false) (x:=x) h hu
  ·rename_i ks z bb ht
   obtain ⟨ms,hu⟩:=Zpv (hC.tab _ _ ht).1
   exact ZrL (C:=C) (neg:=true) (x:=x) h hu
  ·exact h.elim
 rw [hi] at h
 simp only [cond_false] at h
 cases hn:isNilC y
 ·rw [hn] at h
  simp only [cond_false] at h
  split at h
  ·rename_i k a k' b hx hy
   split at h
   ·refine ⟨_,h.2,fun w=>?_⟩
    have:=h.1
    have h2:(binOp .shl t (.int k a) (.int k' b)).run C.P w=.ok (.int k (k.wrap (a*2^min b.toNat k.bits))) w:=by
     simp only [binOp,Op.shift];rw [if_neg (by omega)];rfl
    simp [hx,hy,ZbV,h2]
   ·refine ⟨_,h.2,fun w=>?_⟩
    have:=h.1
    have h2:(binOp .shr t (.int k a) (.int k' b)).run C.P w=.ok (.int k (a.fdiv (2^min b.toNat k.bits))) w:=by
     simp only [binOp,Op.shift];rw [if_neg (by omega)];rfl
    simp [hx,hy,ZbV,h2]
   ·obtain ⟨hk,h'⟩:=Z6 h
    obtain rfl:=Zm9.1 hk
    obtain ⟨v,hv,hr⟩:=ZuI (C:=C) h' t
    refine ⟨v,hv,fun w=>?_⟩
    simp [hx,hy,ZbV,hr]
  ·rename_i a b hx hy
   obtain ⟨v,hv,hr⟩:=Zs0 (C:=C) h t
   refine ⟨v,hv,fun w=>?_⟩
   simp [hx,hy,ZbV,hr]
  ·rename_i a b hx hy
   split at h
   ·rename_i ks z bb ht
    have hu:=Zsy (hC.tab _ _ ht).1
    have h1:=fun w=>ZxA (C:=C) 9999 hu a b w
    unfold binB at h
    rw [hx,hy]
    split at h
    ·refine ⟨_,h,fun w=>?_⟩
     have h2:(binOp .eql t (.bool a) (.bool b)).run C.P w=.ok (.bool (a==b)) w:=by
      show (do pure (Value.bool (←Op.equalIn (9999+1) t (.bool a) (.bool b))):Sem Value).run C.P w=_
      simp [h1]
     simp [ZbV,h2]
    ·refine ⟨_,h,fun w=>?_⟩
     have h2:(binOp .neq t (.bool a) (.bool b)).run C.P w=.ok (.bool (!(a==b))) w:=by
      show (do pure (Value.bool (!(←Op.equalIn (9999+1) t (.bool a) (.bool b)))):Sem Value).run C.P w=_
      simp [h1]
     simp [ZbV,h2]
    ·exact h.elim
   ·exact h.elim
  ·exact h.elim
 ·rw [hn] at h
  simp only [cond_true] at h
  have hy:∃ n c,y=.const (.slice none n c):=by
   unfold isNilC at hn
   split at hn
   ·exact ⟨_,_,rfl⟩
   ·cases hn
  obtain ⟨n,c,rfl⟩:=hy
  split at h
  ·rename_i el ks z bb ht
   have hu:=Zav (hC.tab _ _ ht).1
   obtain ⟨g1,g2,v,hv,hr⟩:=Zpr (C:=C) h hu (n:=n) (c:=c)
   refine ⟨v,hv,fun w=>?_⟩
   have:=hr w
   simp at this
   rw [show ev e (.const (.slice none n c))=.slice none n c from rfl]
   simp [ZbV g1 g2,this]
  ·rename_i el ks z bb ht
   have hu:=Zav (hC.tab _ _ ht).1
   obtain ⟨g1,g2,v,hv,hr⟩:=Zpr (C:=C) h hu (n:=n) (c:=c)
   refine ⟨v,hv,fun w=>?_⟩
   have:=hr w
   simp at this
   rw [show ev e (.const (.slice none n c))=.slice none n c from rfl]
   simp [ZbV g1 g2,this]
  ·exact h.elim
theorem Zh8 {P:Program} {x:Option Value} {d y:Nat} {K:Nat→Prop} (h:vBound x d y K) {c:BoundsCode}:
  ∃ n,K n∧(x=none→n=d)∧∀ v,x=some v→∀ w,(Instr.sliceBound v y c).run P w=.ok n w:=by
 unfold vBound at h
 split at h
 ·exact ⟨d,h,(fun _=>rfl),(fun v hv=>by cases hv)⟩
 ·rename_i k i
  refine ⟨_,h.2,(fun hh=>by cases hh),fun v hv w=>?_⟩
  cases hv
  simp [Instr.sliceBound,asIntOf,h.1.1,h.1.2]
 ·exact h.elim
theorem Zu3 (base:List Value) (off:Nat) (x:Value) (l:List Value) (h:off<base.length):setAt (base.set off x) (off+1) l=setAt base off (x::l):=by
 unfold setAt
 have h1:(base.set off x).take (off+1)=base.take off++[x]:=by
  rw [List.take_set,List.take_succ_eq_append_getElem h,List.set_append_right _ _ (by simp;omega)]
  simp [Nat.min_eq_left (Nat.le_of_lt h)]
 have h2:(base.set off x).drop (off+1+l.length)=base.drop (off+(x::l).length):=by
  rw [List.drop_set_of_lt (by omega),List.length_cons]
  congr 1
  omega
 rw [h1,h2]
 simp
theorem Zrd:∀ (l:List Value) (k:Nat) (cs:Array Value) (o:Nat),o+k+l.length≤cs.size →
  ((l.zipIdx k).foldl (fun cs (p:Value×Nat)=>cs.setIfInBounds (o+p.2) p.1) cs)=(setAt cs.toList (o+k) l).toArray
 | [],k,cs,o,_=>by simp [setAt]
 | x::l,k,cs,o,h=>by
  simp only [List.length_cons] at h
  simp only [List.zipIdx_cons,List.foldl_cons]
  rw [Zrd l (k+1) _ o (by simp;omega)]
  rw [←Zu3 _ _ x l (by simp;omega)]
  simp [Nat.add_assoc]
theorem ZqE {place:Nat→Option (Nat×Nat)} {i off size:Nat} {v:Value} {cells:Array Value} {rest:List (Nat×Value)} (hp:place i=some (off,size))
  (hs:v.cells.size=size) (hb:off+size≤cells.size):
  Instr.fill place cells ((i,v)::rest)=Instr.fill place (setAt cells.toList off v.cells.toList).toArray rest:=by
 have hset:=Zrd v.cells.toList 0 cells off (by simp [hs];omega)
 rw [Instr.fill,hp]
 simp only
 rw [if_neg (by simp [hs];omega)]
 congr 1
 rw [←Array.foldl_toList]
 simp only [Nat.add_zero] at hset
 rw [←hset]
 simp
theorem ZlG {agg:Bool} {v:Value} {K:List Value→Prop} (h:cellsAs agg v K):K v.cells.toList∧(agg=false→v.oneCell'=true):=by
 unfold cellsAs at h
 cases agg
 ·simp only [cond_false] at h
  obtain ⟨h1,h2⟩:=Z6 h
  refine ⟨?_,fun _=>h1⟩
  cases v<;>simp [Value.oneCell'] at h1<;>exact h2
 ·simp only [cond_true] at h
  split at h
  ·exact ⟨h,fun h=>by cases h⟩
  ·exact h.elim
theorem ZoR {fs:List (Nat×Nat×Bool)}:∀ (parts:List (Nat×Value)) (acc:List Value) (K:List Value→Prop),buildAt fs acc parts K →
  ∃ cs,K cs∧Instr.fill (fun i=>(fs[i]?).map fun p=>(p.1,p.2.1)) acc.toArray parts=some cs.toArray
 | [],acc,K,h=>⟨acc,h,rfl⟩
 | (i,v)::r,acc,K,h=>by
  unfold buildAt at h
  split at h
  ·rename_i off size agg hf
   obtain ⟨h1,h2⟩:=ZlG h
   obtain ⟨hb,h1⟩:=Z6 h1
   simp only [Bool.and_eq_true] at hb
   have hl:=Nat.eq_of_beq_eq_true hb.1
   have hle:=Nat.le_of_ble_eq_true hb.2
   obtain ⟨cs,hk,hr⟩:=ZoR r _ K h1
   refine ⟨cs,hk,?_⟩
   rw [ZqE (off:=off) (size:=size) (by simp [hf]) (by simpa using hl) (by simpa using hle)]
   simpa using hr
  ·exact h.elim
theorem Zz6 {s:TypeId} {fs:List (Nat×Nat×Bool)} {f:Nat} {x:Value} (hs:tdOf C.P s=.struct fs) (h:vField fs f x K):
  ∃ v,K v∧∀ w,(Instr.field s x f).run C.P w=.ok v w:=by
 obtain ⟨fields,hu,rfl⟩:=Zlq hs
 unfold vField at h
 split at h
 ·rename_i off size agg cs hf
  simp only [List.getElem?_map,Array.getElem?_toList,Option.map_eq_some_iff,Prod.mk.injEq] at hf
  obtain ⟨fd,hfd,rfl,hsz,hag⟩:=hf
  have hrun:∀ w,(Instr.field s (.agg cs) f).run C.P w=(part fd.type cs fd.offset).run C.P w:=fun w=>by
   simp [Instr.field,ZH w hu,hfd,asAgg]
  cases agg
  ·simp only [cond_false] at h
   have hd:∃ d,C.P.underlying fd.type=some d∧isAggD d=false:=by
    cases hd:C.P.underlying fd.type with
    | none=>rw [hd] at hag;simp at hag
    | some d=>rw [hd] at hag;exact ⟨d,rfl,by simpa using hag⟩
   obtain ⟨d,hd,hda⟩:=hd
   split at h
   ·rename_i v hv
    refine ⟨v,h,fun w=>?_⟩
    rw [hrun]
    have:cs[fd.offset]?=some v:=by simpa using hv
    simp [part,Zjl w hd,hda,this]
   ·exact h.elim
  ·simp only [cond_true] at h
   have hz:(Nat.beq size 0)=false∧K (.agg ((cs.toList.drop fd.offset).take size).toArray):=by
    revert h
    cases Nat.beq size 0
    ·exact fun h=>⟨rfl,h⟩
    ·exact fun h=>h.elim
   obtain ⟨hz,h⟩:=hz
   obtain ⟨d,i,hd,hi,hisz⟩:=ZkF hsz hz
   have hda:isAggD d=true:=by rw [hd] at hag;simpa using hag
   refine ⟨_,h,fun w=>?_⟩
   rw [hrun]
   simp only [part,Sem.run_bind,Zjl w hd,hda,Result.andThen_ok,if_true,sizeOf,ZbU w hi,Sem.run_pure,hisz]
   congr 2
   apply Array.ext'
   simp [List.extract_eq_take_drop]
 ·exact h.elim
end pure
end Go.Vc
