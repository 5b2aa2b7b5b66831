import Derived.Test.YtahnjnfpjcfklaaGreatDoorVcCore
namespace Go.Vc
set_option linter.unusedVariables false
set_option linter.unusedSimpArgs false
open Go
def i64B (P:Program) (t:TypeId):Bool:=
 match P.underlying t with
 | some (.int .i64)=>true
 | _=>false
def structB (P:Program) (t:TypeId):Bool:=
 match P.underlying t with
 | some (.struct _)=>true
 | _=>false
def two64 (P:Program):List Field->Bool
 | [f1,f2]=>!(f1.name== "_")&&(!(f2.name== "_")&&(Nat.beq f1.offset 0&&(Nat.beq f2.offset 1&&(i64B P f1.type&&i64B P f2.type))))
 | _=>false
def eq2B (P:Program) (t:TypeId):Bool:=structB P t&&(!P.stoodInHeld t&&(!P.eqGuardType P.depth t&&two64 P (P.fieldsOf t).toList))
theorem ZrE {P:Program} {t:TypeId} (h:i64B P t=true):P.underlying t=some (.int .i64):=by
 unfold i64B at h;split at h
 ·assumption
 ·cases h
theorem ZrA {P:Program} {t:TypeId} (h:eq2B P t=true):P.underlying t=some (.struct (P.fieldsOf t))/\P.stoodInHeld t=false/\P.eqGuardType P.depth t=false/\∃ f1 f2:Field,(P.fieldsOf t).toList=[f1,f2]/\f1.name≠ "_" /\f2.name≠ "_" /\f1.offset=0/\f2.offset=1/\P.underlying f1.type=some (.int .i64)/\P.underlying f2.type=some (.int .i64):=by
 unfold eq2B at h;simp only [Bool.and_eq_true,Bool.not_eq_true'] at h;obtain ⟨h1,h2,h3,h4⟩:=h;refine ⟨?_,h2,h3,?_⟩
 ·unfold structB at h1;unfold Program.fieldsOf;split at h1
  ·rename_i fs hu;rw [hu]
  ·cases h1
 ·unfold two64 at h4;split at h4
  ·rename_i f1 f2 hf;simp only [Bool.and_eq_true,Bool.not_eq_true',beq_eq_false_iff_ne] at h4;obtain ⟨n1,n2,o1,o2,u1,u2⟩:=h4;exact ⟨f1,f2,hf,n1,n2,Nat.eq_of_beq_eq_true o1,Nat.eq_of_beq_eq_true o2,ZrE u1,ZrE u2⟩
  ·cases h4
structure CtxOk (C:Ctx):Prop where
 tab:∀ t te,tabGet C.tab t=some te->TeOk C.P t te
 fns:∀ f,C.okf f=true->∃ fn,C.P.funcs[f]?=some fn/\fn.body.isSome=true/\(fn.name== "runtime.NumGoroutine")=false
 mixed:C.P.follows .mixedOrders=true
 ovs:∀ f,inL C.ov f=true->∃ fn tS tR el te,C.P.funcs[f]?=some fn/\fn.body.isNone=true/\(fn.name== "runtime.NumGoroutine")=false/\Extern.findNext fn=none/\Extern.find fn=some (Extern.SlicesOverlaps.overlaps #[tS,tS] #[tR])/\C.P.underlying tS=some (.slice el)/\TeOk C.P el te
 eqs:∀ t,inL C.eq2 t=true->eq2B C.P t=true
section types
variable {P:Program} {t:TypeId}
theorem TeOk.info {g:TE} (h:TeOk P t g):∃ i z,P.info? t=some i/\i.size=g.size/\i.bytes=g.bytes/\i.zero=some z/\z.cells.toList=g.zero:=by
 obtain ⟨_,h,_⟩:=h;cases hi:P.info? t with
 | none=>rw [hi] at h;simp at h
 | some i=>
  rw [hi] at h;simp only [Option.map_some,Option.some.injEq,Prod.mk.injEq] at h;obtain ⟨h1,f,a⟩:=h;cases hz:i.zero with
  | none=>rw [hz] at a;simp at a
  | some z=>rw [hz] at a;simp at a;exact ⟨i,z,rfl,h1,f,hz,a⟩
theorem ZAH (h:tdOf P t=.bool):P.underlying t=some .bool:=by
 unfold tdOf at h;split at h<;>first|assumption|simp at h
theorem ZeX {k:IntKind} (h:tdOf P t=.int k):P.underlying t=some (.int k):=by
 unfold tdOf at h;split at h<;>first|(simp at h;subst h;assumption)|simp at h
theorem ZcV (h:tdOf P t=.str):P.underlying t=some .string:=by
 unfold tdOf at h;split at h<;>first|assumption|simp at h
theorem ZsK (h:tdOf P t=.iface):∃ a,P.underlying t=some (.interface a):=by
 unfold tdOf at h;split at h<;>first|exact ⟨_,by assumption⟩|simp at h
theorem ZaH {e:Nat} (h:tdOf P t=.slice e):P.underlying t=some (.slice e):=by
 unfold tdOf at h;split at h<;>first|(simp at h;subst h;assumption)|simp at h
theorem ZpW {g:List (Nat×Nat×Bool)} (h:tdOf P t=.struct g):∃ a,P.underlying t=some (.struct a) /\
  g=a.toList.map fun f=>(f.offset,fsz P f.type,((P.underlying f.type).map isAggD).getD true):=by
 unfold tdOf at h;split at h<;>first|(simp at h;subst h;exact ⟨_,by assumption,by simp⟩)|simp at h
theorem Zml {n:Nat} (h:fsz P t=n) (a:Nat.beq n 0=false):∃ d i,P.underlying t=some d/\P.info? t=some i/\i.size=n:=by
 unfold fsz at h;split at h
 ·exact ⟨_,_,by assumption,by assumption,h⟩
 ·subst h;cases a
theorem Zyi {d:TypeDesc} (a:P.underlying t=some d):isAggD d=(tdOf P t).agg:=by
 unfold tdOf;rw [a];cases d<;>rfl
end types
section runs
variable {P:Program} (w:World)
theorem ZW {t:TypeId} {d:TypeDesc} (h:P.underlying t=some d):(underlying t).run P w=.ok d w:=by
 simp [underlying,h]
theorem Zcf {t:TypeId} {i:TypeInfo} (h:P.info? t=some i):(typeInfo t).run P w=.ok i w:=by
 simp [typeInfo,h]
theorem ZaO {t:TypeId} {a:TE} (h:TeOk P t a):(sizeOf t).run P w=.ok a.size w:=by
 obtain ⟨i,z,hi,hs,_⟩:=h.info;simp [sizeOf,Zcf w hi,hs]
theorem Zdm {t:TypeId} {i:TypeInfo} {z:Value} (h:P.info? t=some i) (hz:i.zero=some z):(zeroValue t).run P w=.ok z w:=by
 simp [zeroValue,Zcf w h,hz]
theorem Zgz {t:TypeId} {d:TypeDesc} (h:P.underlying t=some d):(isAgg t).run P w=.ok (isAggD d) w:=by
 simp only [isAgg,Sem.run_bind,ZW w h,Result.andThen_ok];cases d<;>rfl
theorem ZqK {a:Addr} {v:Value} (h:hcell w.heap a=some v):(load a).run P w=.ok v w:=by
 have:w.cell? a=some v:=h;simp [this]
theorem Zrl {a:Addr}:∀ (vs:List Value) (i:Nat) (g:Array Value),(∀ j v,vs[j]?=some v->hcell w.heap (a.add (i+j))=some v) ->
  (loadCellsFrom a i vs.length g).run P w=.ok (g++vs.toArray) w
 | [],i,g,_=>by simp [loadCellsFrom]
 | v::vs,i,g,h=>by
  have f:=h 0 v (by simp);simp only [Nat.add_zero] at f;simp only [List.length_cons,loadCellsFrom,Sem.run_bind,ZqK w f,Result.andThen_ok];rw [Zrl vs (i+1) (g.push v) fun j u k=>by
   have:=h (j+1) u (by simpa using k);rwa [show i+(j+1)=i+1+j by omega] at this]
  simp
theorem ZiC {a:Addr} (vs:List Value) (h:∀ j v,vs[j]?=some v->hcell w.heap (a.add j)=some v):
  (loadCells a vs.length).run P w=.ok vs.toArray w:=by
 unfold loadCells;rw [Zrl w vs 0 #[] fun j v f=>by simpa using h j v f];simp
end runs
theorem eX (h:Heap):ExtH h h:=⟨Nat.le_refl _,fun _ _=>rfl⟩
theorem ExtH.trans {a b c:Heap} (h:ExtH a b) (k:ExtH b c):ExtH a c:=
 ⟨Nat.le_trans h.1 k.1,fun x f=>(k.2 x (Nat.lt_of_lt_of_le f h.1)).trans (h.2 x f)⟩
theorem ExtH.push (h:Heap) (o:Obj):ExtH h (h.push o):=
 ⟨by simp,fun b a=>by rw [Array.getElem?_push,if_neg ω]⟩
theorem Zc4 {h:Heap} {a:Addr} {v:Value} (f:hcell h a=some v):a.block<h.size:=by
 unfold hcell at f;rcases Nat.lt_or_ge a.block h.size with h'|h'
 ·exact h'
 ·rw [Array.getElem?_eq_none h'] at f;simp at f
theorem Zfr {h j:Heap} {a:Addr} {v:Value} (g:ExtH h j) (f:hcell h a=some v):hcell j a=some v:=by
 have:=g.2 a.block (Zc4 f);unfold hcell at *;rw [this];exact f
theorem eY (B:Nat->Prop) (h:Heap):ExtBut B h h:=⟨Nat.le_refl _,fun _ _ _=>rfl⟩
theorem ExtBut.trans {B:Nat->Prop} {a b c:Heap} (h:ExtBut B a b) (k:ExtBut B b c):ExtBut B a c:=
 ⟨Nat.le_trans h.1 k.1,fun x f g=>(k.2 x (Nat.lt_of_lt_of_le f h.1) g).trans (h.2 x f g)⟩
theorem eZ {B:Nat->Prop} {a b:Heap} (h:ExtH a b):ExtBut B a b:=⟨h.1,fun x f _=>h.2 x f⟩
def HLe (h g:Heap):Prop:=(∀ a v,hcell h a=some v->hcell g a=some v)/\∀ r m,hmap h r=some m->hmap g r=some m
theorem HLe.refl (h:Heap):HLe h h:=⟨fun _ _ h=>h,fun _ _ h=>h⟩
theorem ZiP {B:Nat->Prop} {h:Heap} {b:Nat} (a:¬ B b):(hmask B h)[b]?=h[b]?:=by
 unfold hmask;rw [Array.getElem?_mapIdx];cases h[b]? with
 | none=>rfl
 | some o=>simp [a]
theorem ZB9 {B:Nat->Prop} {h:Heap} {a:Addr} {v:Value} (f:hcell (hmask B h) a=some v):¬ B a.block/\hcell h a=some v:=by
 by_cases g:B a.block
 ·exfalso;unfold hcell hmask at f;rw [Array.getElem?_mapIdx] at f;cases ho:h[a.block]? with
  | none=>rw [ho] at f;simp at f
  | some o=>rw [ho] at f;simp [g] at f
 ·refine ⟨g,?_⟩;unfold hcell at f ⊢;rw [ZiP g] at f;exact f
theorem ZCj {B:Nat->Prop} {h:Heap} {r:Nat} {m:List (Value×Value)} (a:hmap (hmask B h) r=some m):¬ B r/\hmap h r=some m:=by
 by_cases f:B r
 ·exfalso;unfold hmap hmask at a;rw [Array.getElem?_mapIdx] at a;cases ho:h[r]? with
  | none=>rw [ho] at a;simp at a
  | some o=>rw [ho] at a;simp [f] at a
 ·refine ⟨f,?_⟩;unfold hmap at a ⊢;rw [ZiP f] at a;exact a
theorem HLe.mask {B:Nat->Prop} {h j:Heap} (i:ExtBut B h j):HLe (hmask B h) j:=by
 refine ⟨fun a v g=>?_,fun r m g=>?_⟩
 ·obtain ⟨h1,f⟩:=ZB9 g;have:=i.2 a.block (Zc4 f) h1;unfold hcell at f ⊢;rw [this];exact f
 ·obtain ⟨h1,f⟩:=ZCj g;have k:r<h.size:=by
   unfold hmap at f;rcases Nat.lt_or_ge r h.size with j|j
   ·exact j
   ·rw [Array.getElem?_eq_none j] at f;simp at f
  have:=i.2 r k h1;unfold hmap at f ⊢;rw [this];exact f
theorem Rest.refl (w:World):Rest w w:=⟨rfl,rfl,rfl,Nat.le_refl _⟩
theorem Rest.trans {a b c:World} (h:Rest a b) (k:Rest b c):Rest a c:=⟨k.1.trans h.1,k.2.1.trans h.2.1,k.2.2.1.trans h.2.2.1,Nat.le_trans h.2.2.2 k.2.2.2⟩
theorem RestQ.refl {q:Prop} (w:World):RestQ q w w:=⟨rfl,rfl,rfl,fun _=>Nat.le_refl _⟩
theorem RestQ.trans {q:Prop} {a b c:World} (h:RestQ q a b) (k:RestQ q b c):RestQ q a c:=⟨k.1.trans h.1,k.2.1.trans h.2.1,k.2.2.1.trans h.2.2.1,fun x=>Nat.le_trans (h.2.2.2 x) (k.2.2.2 x)⟩
theorem Zm9 {a b:IntKind}:ikEq a b=true↔a=b:=by
 cases a<;>cases b<;>simp [ikEq,ikNat]
theorem Zgx (e:Env) (l:List Operand):evs e l=l.map (ev e):=by
 induction l with
 | nil=>rfl
 | cons x r a=>simp [evs,a]
theorem ZnE (e:Env) (l:List (Nat×Operand)):evp e l=l.map fun (i,x)=>(i,ev e x):=by
 induction l with
 | nil=>rfl
 | cons x r a=>obtain ⟨i,x⟩:=x;simp [evp,a]
theorem ZcE (e:Env) (o:Option Operand):evo e o=o.map (ev e):=by cases o<;>rfl
theorem Zas {b:Bool} {A:Prop} (h:bif b then A else False):b=true/\A:=by
 cases b
 ·exact h.elim
 ·exact ⟨rfl,h⟩
section pure
variable {C:Ctx} {e:Env} {K:Value->Prop}
theorem ZDR {g:BinOp} {k:IntKind} {a b:Int} (h:binI g k a b K) (t:TypeId):
  ∃ v,K v/\∀ w,(binOp g t (.int k a) (.int k b)).run C.P w=.ok v w:=by
 unfold binI at h;cases g<;>simp only at h<;>first
  | exact h.elim
  | (refine ⟨_,h,fun w=>?_⟩;simp [binOp,Op.intArith,Op.intCmp];done)
  | (refine ⟨_,h,fun w=>?_⟩;simp [binOp,Op.intBits];done)
  | (refine ⟨_,h.2,fun w=>?_⟩;simp [binOp,Op.intDiv,h.1])
theorem ZvV {g:BinOp} {a b:ByteArray} (h:binS g a b K) (t:TypeId):
  ∃ v,K v/\∀ w,(binOp g t (.string a) (.string b)).run C.P w=.ok v w:=by
 unfold binS at h;cases g<;>simp only at h<;>first
  | exact h.elim
  | (refine ⟨_,h,fun w=>?_⟩;simp [binOp,Op.stringOp];done)
  | (refine ⟨_,h.2,fun w=>?_⟩;have:=h.1;simp only [binOp,Op.stringOp];rw [if_neg ω];simp)
theorem Zca {g:BinOp} {t:TypeId} {x y:Operand} {a b:Value} (h1:∀ cs,a≠.agg cs) (f:a≠.nilIface) (w:World):(eqGuard g t x y a b).run C.P w=.ok () w:=by
 cases a<;>cases g<;>first|exact absurd rfl (h1 _)|exact absurd rfl f|rfl
theorem ZGW (d:Nat) {t el:TypeId} (g:C.P.underlying t=some (.slice el)) (a:Option Addr) (l m n c:Nat) (w:World):
  (Op.equalIn (d+1) t (.slice a l m) (.slice none n c)).run C.P w=.ok a.isNone w:=by
 cases a<;>simp [Op.equalIn,ZW w g]
theorem ZH4 (d:Nat) {t:TypeId} (g:C.P.underlying t=some .bool) (a b:Bool) (w:World):
  (Op.equalIn (d+1) t (.bool a) (.bool b)).run C.P w=.ok (a==b) w:=by
 simp [Op.equalIn,ZW w g]
theorem Zss {neg:Bool} {x:Value} (h:vNilS neg x fun b=>K (.bool b)) {t el:TypeId} (g:C.P.underlying t=some (.slice el)) {n c:Nat}:
  (∀ cs,x≠.agg cs)/\x≠.nilIface/\∃ v,K v/\∀ w,(binOp (if neg then .neq else .eql) t x (.slice none n c)).run C.P w=.ok v w:=by
 unfold vNilS at h;split at h
 ·rename_i a l m;refine ⟨by simp,by simp,_,h,fun w=>?_⟩;have h1:=ZGW (C:=C) 9999 g a l m n c w;cases neg
  ·show (do pure (Value.bool (<-Op.equalIn (9999+1) t (.slice a l m) (.slice none n c))):Sem Value).run C.P w=_;simp [h1]
  ·show (do pure (Value.bool (!(<-Op.equalIn (9999+1) t (.slice a l m) (.slice none n c)))):Sem Value).run C.P w=_;simp [h1]
 ·exact h.elim
theorem Zxe (d:Nat) {t:TypeId} {a:Array (String×TypeId)} (g:C.P.underlying t=some (.interface a)) (w:World):
  (Op.equalIn (d+1) t .nilIface .nilIface).run C.P w=.ok true w:=by
 simp [Op.equalIn,ZW w g]
theorem ZH1 (d:Nat) {t:TypeId} {g:Array (String×TypeId)} (h:C.P.underlying t=some (.interface g)) (a:TypeId) (x:Value) (w:World):
  (Op.equalIn (d+1) t (.iface a x) .nilIface).run C.P w=.ok false w:=by
 simp [Op.equalIn,ZW w h]
theorem Zs3 {neg:Bool} {x:Operand} {k:Value} (h:vNilI neg k fun b=>K (.bool b)) {t:TypeId} {o:Array (String×TypeId)} (l:C.P.underlying t=some (.interface o)):
  ∃ v,K v/\∀ w,(do eqGuard (if neg then .neq else .eql) t x (.const .nilIface) k .nilIface;binOp (if neg then .neq else .eql) t k .nilIface:Sem Value).run C.P w=.ok v w:=by
 unfold vNilI at h;split at h
 ·refine ⟨_,h,fun w=>?_⟩;have h1:=Zxe (C:=C) 9999 l w;have g:∀ j:BinOp,(eqGuard j t x (.const .nilIface) .nilIface .nilIface).run C.P w=.ok () w:=fun j=>by
   cases j<;>first|rfl|(unfold eqGuard;simp)
  cases neg
  ·have f:(binOp .eql t .nilIface .nilIface).run C.P w=.ok (.bool true) w:=by
    show (do pure (Value.bool (<-Op.equalIn (9999+1) t .nilIface .nilIface)):Sem Value).run C.P w=_;simp [h1]
   simp [g,f]
  ·have f:(binOp .neq t .nilIface .nilIface).run C.P w=.ok (.bool false) w:=by
    show (do pure (Value.bool (!(<-Op.equalIn (9999+1) t .nilIface .nilIface))):Sem Value).run C.P w=_;simp [h1]
   simp [g,f]
 ·rename_i a y;refine ⟨_,h,fun w=>?_⟩;have h1:=ZH1 (C:=C) 9999 l a y w;have g:∀ j:BinOp,(eqGuard j t x (.const .nilIface) (.iface a y) .nilIface).run C.P w=.ok () w:=fun j=>
   Zca (by simp) (by simp) w
  cases neg
  ·have f:(binOp .eql t (.iface a y) .nilIface).run C.P w=.ok (.bool false) w:=by
    show (do pure (Value.bool (<-Op.equalIn (9999+1) t (.iface a y) .nilIface)):Sem Value).run C.P w=_;simp [h1]
   simp [g,f]
  ·have f:(binOp .neq t (.iface a y) .nilIface).run C.P w=.ok (.bool true) w:=by
    show (do pure (Value.bool (!(<-Op.equalIn (9999+1) t (.iface a y) .nilIface))):Sem Value).run C.P w=_;simp [h1]
   simp [g,f]
 ·exact h.elim
theorem Zky {t:TypeId} (h:C.P.underlying t=some (.int .i64)) (xs:Array Value) (o:Nat) (v:Value) (a:xs[o]?=some v) (w:World):(part t xs o).run C.P w=.ok v w:=by
 simp [part,Zgz w h,isAggD,a]
theorem Zty (u:CtxOk C) {t:TypeId} (o:inL C.eq2 t=true) (a b c d:Int) (w:World):(Op.equalIn 10000 t (.agg #[.int .i64 a,.int .i64 b]) (.agg #[.int .i64 c,.int .i64 d])).run C.P w=.ok (a==c&&b==d) w:=by
 obtain ⟨h1,h,_,i,j,r,n1,n2,k,l,f,g⟩:=ZrA (u.eqs t o);rw [run_equalIn_struct w 9999 t _ _ h1 h,r];simp only [Op.eqFields,n1,n2,k,l,ne_eq,not_false_eq_true,if_true,Sem.run_bind];rw [Zky f _ 0 (.int .i64 a) rfl,Result.andThen_ok,Zky f _ 0 (.int .i64 c) rfl,Result.andThen_ok,run_equalIn_int w 9998 i.type .i64 .i64 a c f,Result.andThen_ok];cases hac:(a==c) with
 | false=>simp [Sem.run_ite]
 | true=>
  simp only [Bool.not_true,Bool.false_eq_true,if_false,Sem.run_bind];rw [Zky g _ 1 (.int .i64 b) rfl,Result.andThen_ok,Zky g _ 1 (.int .i64 d) rfl,Result.andThen_ok,run_equalIn_int w 9998 j.type .i64 .i64 b d g,Result.andThen_ok];cases hbd:(b==d)<;>simp [Sem.run_ite]
theorem ZCu (k:CtxOk C) {l:BinOp} {t:TypeId} {xs g:Array Value} (j:inL C.eq2 t=true) (h:eq2K l xs.toList g.toList K):
  ∃ v,K v/\∀ (x y:Operand) (w:World),(do eqGuard l t x y (.agg xs) (.agg g);binOp l t (.agg xs) (.agg g):Sem Value).run C.P w=.ok v w:=by
 unfold eq2K at h;split at h
 ·rename_i a b c d f u;have ex:xs=#[.int .i64 a,.int .i64 b]:=by rw [<-Array.toArray_toList (xs:=xs),f]
  have r:g=#[.int .i64 c,.int .i64 d]:=by rw [<-Array.toArray_toList (xs:=g),u]
  subst ex;subst r;have o:=(ZrA (k.eqs t j)).2.2.1;split at h
  ·refine ⟨_,h,fun x y w=>?_⟩;rw [Sem.run_bind,run_eqGuard_agg w .eql t x y _ _ o,Result.andThen_ok,run_eql_struct,Zty k j,Result.andThen_ok]
  ·refine ⟨_,h,fun x y w=>?_⟩;rw [Sem.run_bind,run_eqGuard_agg w .neq t x y _ _ o,Result.andThen_ok,run_neq_struct,Zty k j,Result.andThen_ok]
  ·exact h.elim
 ·exact h.elim
theorem ZEs (hC:CtxOk C) {op:BinOp} {t:TypeId} {x y:Operand} (h:vBin C.tab C.eq2 op t x y e K):
  ∃ v,K v/\∀ w,(do eqGuard op t x y (ev e x) (ev e y);binOp op t (ev e x) (ev e y):Sem Value).run C.P w=.ok v w:=by
 unfold vBin at h;cases hi:isNilI y
 case true=>
  rw [hi] at h;simp only [cond_true] at h;have r:y=.const .nilIface:=by
   unfold isNilI at hi;split at hi
   ·rfl
   ·cases hi
  subst r;split at h
  ·rename_i ks z bb u;obtain ⟨ms,hu⟩:=ZsK (hC.tab _ _ u).1;exact Zs3 (C:=C) (neg:=false) (x:=x) h hu
  ·rename_i ks z bb u;obtain ⟨ms,hu⟩:=ZsK (hC.tab _ _ u).1;exact Zs3 (C:=C) (neg:=true) (x:=x) h hu
  ·exact h.elim
 rw [hi] at h;simp only [cond_false] at h;cases j:isNilC y
 ·rw [j] at h;simp only [cond_false] at h;split at h
  ·rename_i k a k' b f r;split at h
   ·refine ⟨_,h.2,fun w=>?_⟩;have:=h.1;have i:(binOp .shl t (.int k a) (.int k' b)).run C.P w=.ok (.int k (k.wrap (a*2^min b.toNat k.bits))) w:=by
     simp only [binOp,Op.shift];rw [if_neg ω];rfl
    simp [f,r,Zca,i]
   ·refine ⟨_,h.2,fun w=>?_⟩;have:=h.1;have i:(binOp .shr t (.int k a) (.int k' b)).run C.P w=.ok (.int k (a.fdiv (2^min b.toNat k.bits))) w:=by
     simp only [binOp,Op.shift];rw [if_neg ω];rfl
    simp [f,r,Zca,i]
   ·obtain ⟨hk,h'⟩:=Zas h;obtain rfl:=Zm9.1 hk;obtain ⟨v,g,hr⟩:=ZDR (C:=C) h' t;refine ⟨v,g,fun w=>?_⟩;simp [f,r,Zca,hr]
  ·rename_i a b f r;obtain ⟨v,g,hr⟩:=ZvV (C:=C) h t;refine ⟨v,g,fun w=>?_⟩;simp [f,r,Zca,hr]
  ·rename_i a b f r;split at h
   ·rename_i ks z bb u;have hu:=ZAH (hC.tab _ _ u).1;have h1:=fun w=>ZH4 (C:=C) 9999 hu a b w;unfold binB at h;rw [f,r];split at h
    ·refine ⟨_,h,fun w=>?_⟩;have i:(binOp .eql t (.bool a) (.bool b)).run C.P w=.ok (.bool (a==b)) w:=by
      show (do pure (Value.bool (<-Op.equalIn (9999+1) t (.bool a) (.bool b))):Sem Value).run C.P w=_;simp [h1]
     simp [Zca,i]
    ·refine ⟨_,h,fun w=>?_⟩;have i:(binOp .neq t (.bool a) (.bool b)).run C.P w=.ok (.bool (!(a==b))) w:=by
      show (do pure (Value.bool (!(<-Op.equalIn (9999+1) t (.bool a) (.bool b)))):Sem Value).run C.P w=_;simp [h1]
     simp [Zca,i]
    ·exact h.elim
   ·exact h.elim
  ·rename_i xs ys f r;obtain ⟨u,h'⟩:=Zas h;obtain ⟨v,g,hr⟩:=ZCu hC u h';refine ⟨v,g,fun w=>?_⟩;rw [f,r];exact hr x y w
  ·exact h.elim
 ·rw [j] at h;simp only [cond_true] at h;have r:∃ n c,y=.const (.slice none n c):=by
   unfold isNilC at j;split at j
   ·exact ⟨_,_,rfl⟩
   ·cases j
  obtain ⟨n,c,rfl⟩:=r;split at h
  ·rename_i el ks z bb u;have hu:=ZaH (hC.tab _ _ u).1;obtain ⟨l,o,v,g,hr⟩:=Zss (C:=C) h hu (n:=n) (c:=c);refine ⟨v,g,fun w=>?_⟩;have:=hr w;simp at this;rw [show ev e (.const (.slice none n c))=.slice none n c from rfl];simp [Zca l o,this]
  ·rename_i el ks z bb u;have hu:=ZaH (hC.tab _ _ u).1;obtain ⟨l,o,v,g,hr⟩:=Zss (C:=C) h hu (n:=n) (c:=c);refine ⟨v,g,fun w=>?_⟩;have:=hr w;simp at this;rw [show ev e (.const (.slice none n c))=.slice none n c from rfl];simp [Zca l o,this]
  ·exact h.elim
theorem ZgB {P:Program} {x:Option Value} {d y:Nat} {K:Nat->Prop} (h:vBound x d y K) {c:BoundsCode}:
  ∃ n,K n/\(x=none->n=d)/\∀ v,x=some v->∀ w,(Instr.sliceBound v y c).run P w=.ok n w:=by
 unfold vBound at h;split at h
 ·exact ⟨d,h,(fun _=>rfl),(fun v a=>by cases a)⟩
 ·rename_i k i;refine ⟨_,h.2,(fun g=>by cases g),fun v a w=>?_⟩;cases a;simp [Instr.sliceBound,asIntOf,h.1.1,h.1.2]
 ·exact h.elim
theorem ZzB (g:List Value) (off:Nat) (x:Value) (l:List Value) (h:off<g.length):setAt (g.set off x) (off+1) l=setAt g off (x::l):=by
 unfold setAt;have h1:(g.set off x).take (off+1)=g.take off++[x]:=by
  rw [List.take_set,List.take_succ_eq_append_getElem h,List.set_append_right _ _ (by simp;omega)];simp [Nat.min_eq_left (Nat.le_of_lt h)]
 have a:(g.set off x).drop (off+1+l.length)=g.drop (off+(x::l).length):=by
  rw [List.drop_set_of_lt ω,List.length_cons];congr 1;omega
 rw [h1,a];simp
theorem ZuD:∀ (l:List Value) (k:Nat) (cs:Array Value) (o:Nat),o+k+l.length<=cs.size ->
  ((l.zipIdx k).foldl (fun cs (p:Value×Nat)=>cs.setIfInBounds (o+p.2) p.1) cs)=(setAt cs.toList (o+k) l).toArray
 | [],k,cs,o,_=>by simp [setAt]
 | x::l,k,cs,o,h=>by
  simp only [List.length_cons] at h;simp only [List.zipIdx_cons,List.foldl_cons];rw [ZuD l (k+1) _ o (by simp;omega)];rw [<-ZzB _ _ x l (by simp;omega)];simp [Nat.add_assoc]
theorem Zt0 {g:Nat->Option (Nat×Nat)} {i off size:Nat} {v:Value} {cells:Array Value} {h:List (Nat×Value)} (hp:g i=some (off,size))
  (hs:v.cells.size=size) (a:off+size<=cells.size):
  Instr.fill g cells ((i,v)::h)=Instr.fill g (setAt cells.toList off v.cells.toList).toArray h:=by
 have hset:=ZuD v.cells.toList 0 cells off (by simp [hs];omega);rw [Instr.fill,hp];simp only;rw [if_neg (by simp [hs];omega)];congr 1;rw [<-Array.foldl_toList];simp only [Nat.add_zero] at hset;rw [<-hset];simp
theorem ZoZ {agg:Bool} {v:Value} {K:List Value->Prop} (h:cellsAs agg v K):K v.cells.toList/\(agg=false->v.oneCell'=true):=by
 unfold cellsAs at h;cases agg
 ·simp only [cond_false] at h;obtain ⟨h1,a⟩:v.oneCell'=true/\K [v]:=by
   unfold vOne at h;split at h
   ·rename_i h1;exact ⟨h1,h⟩
   ·exact h.elim
  refine ⟨?_,fun _=>h1⟩;cases v<;>simp [Value.oneCell'] at h1<;>exact a
 ·simp only [cond_true] at h;split at h
  ·rw [ZdQ] at h;exact ⟨h,fun h=>by cases h⟩
  ·exact h.elim
theorem ZqP {l:List (Nat×Nat×Bool)}:∀ (j:List (Nat×Value)) (g:List Value) (K:List Value->Prop),buildAt l g j K ->
  ∃ cs,K cs/\Instr.fill (fun i=>(l[i]?).map fun p=>(p.1,p.2.1)) g.toArray j=some cs.toArray
 | [],g,K,h=>⟨g,(ZdQ _ _).mp h,rfl⟩
 | (i,v)::r,g,K,h=>by
  unfold buildAt at h;split at h
  ·rename_i off size agg hf;obtain ⟨h1,f⟩:=ZoZ h;obtain ⟨a,h1⟩:=Zas h1;simp only [Bool.and_eq_true] at a;have o:=Nat.eq_of_beq_eq_true a.1;have k:=Nat.le_of_ble_eq_true a.2;obtain ⟨cs,x,u⟩:=ZqP r _ K h1;refine ⟨cs,x,?_⟩;rw [Zt0 (off:=off) (size:=size) (by simp [hf]) (by simpa using o) (by simpa using k)];simpa using u
  ·exact h.elim
theorem ZBU {s:TypeId} {u:List (Nat×Nat×Bool)} {f:Nat} {x:Value} (hs:tdOf C.P s=.struct u) (h:vField u f x K):
  ∃ v,K v/\∀ w,(Instr.field s x f).run C.P w=.ok v w:=by
 obtain ⟨a3,hu,rfl⟩:=ZpW hs;unfold vField at h;split at h
 ·rename_i off size agg cs hf;simp only [List.getElem?_map,Array.getElem?_toList,Option.map_eq_some_iff,Prod.mk.injEq] at hf;obtain ⟨fd,a4,rfl,r,j⟩:=hf;have k:∀ w,(Instr.field s (.agg cs) f).run C.P w=(part fd.type cs fd.offset).run C.P w:=fun w=>by
   simp [Instr.field,ZW w hu,a4,asAgg]
  cases agg
  ·simp only [cond_false] at h;have a:∃ d,C.P.underlying fd.type=some d/\isAggD d=false:=by
    cases a:C.P.underlying fd.type with
    | none=>rw [a] at j;simp at j
    | some d=>rw [a] at j;exact ⟨d,rfl,by simpa using j⟩
   obtain ⟨d,a,l⟩:=a;split at h
   ·rename_i v g;refine ⟨v,h,fun w=>?_⟩;rw [k];have:cs[fd.offset]?=some v:=by simpa using g
    simp [part,Zgz w a,l,this]
   ·exact h.elim
  ·simp only [cond_true] at h;have hz:(Nat.beq size 0)=false/\K (.agg ((cs.toList.drop fd.offset).take size).toArray):=by
    revert h
    cases Nat.beq size 0
    ·exact fun h=>⟨rfl,(ZdQ _ _).mp h⟩
    ·exact fun h=>h.elim
   obtain ⟨hz,h⟩:=hz;obtain ⟨d,i,a,hi,o⟩:=Zml r hz;have l:isAggD d=true:=by rw [a] at j;simpa using j
   refine ⟨_,h,fun w=>?_⟩;rw [k];simp only [part,Sem.run_bind,Zgz w a,l,Result.andThen_ok,if_true,sizeOf,Zcf w hi,Sem.run_pure,o];congr 2;apply Array.ext';simp [List.extract_eq_take_drop]
 ·exact h.elim
end pure
end Go.Vc
