import Derived.Test.YtcneolcmjjlmnaaGreatDoorVcCore
open Nat renaming beq->Jv,eq_of_beq_eq_true->JK,add_zero->XA,le_refl->JB,le_trans->JW,lt_of_lt_of_le->Xt
open Bool renaming and_eq_true->Jz,not_eq_true'->JV,true->Ji,false->Jj
open List renaming length_cons->Jy
open Array renaming getElem?_mapIdx->YG,toArray_toList->Wh
open Option renaming some->Jg,none->Jh
open Go renaming Value->Jl
namespace Go.Vc
set_option linter.unusedVariables false
set_option linter.unusedSimpArgs false
open Go
def i64B (P:Program) (t:TypeId):Bool:=
 match P.underlying t with
 | some (.int .i64)=>Ji
 | _=>Jj
def structB (P:Program) (t:TypeId):Bool:=
 match P.underlying t with
 | some (.struct _)=>Ji
 | _=>Jj
def two64 (P:Program):List Field->Bool
 | [f1,f2]=>!(f1.name== "_")&&(!(f2.name== "_")&&(Jv f1.offset 0&&(Jv f2.offset 1&&(i64B P f1.type&&i64B P f2.type))))
 | _=>Jj
def eq2B (P:Program) (t:TypeId):Bool:=structB P t&&(!P.stoodInHeld t&&(!P.eqGuardType P.depth t&&two64 P (P.fieldsOf t).toList))
theorem ZIo {P:Program} {t:TypeId} (h:i64B P t=Ji):P.underlying t=Jg (.int .i64):=by
 grind [i64B]
theorem ZCC {P:Program} {t:TypeId} (h:eq2B P t=Ji):P.underlying t=Jg (.struct (P.fieldsOf t))/\P.stoodInHeld t=Jj/\P.eqGuardType P.depth t=Jj/\∃f1 f2:Field,(P.fieldsOf t).toList=[f1,f2]/\f1.name≠ "_" /\f2.name≠ "_" /\f1.offset=0/\f2.offset=1/\P.underlying f1.type=Jg (.int .i64)/\P.underlying f2.type=Jg (.int .i64):=by
 unfold eq2B at h;simp only [Jz,JV] at h;obtain ⟨h1,h2,h3,h4⟩:=h;refine ⟨?_,h2,h3,?_⟩
 .grind [structB,Program.fieldsOf]
 .unfold two64 at h4;split at h4
  .rename_i f1 f2 hf;simp only [Jz,JV,beq_eq_false_iff_ne] at h4;grind [JK,ZIo]
  .cases h4
structure CtxOk (C:Ctx):Prop where
 tab:∀t te,tabGet C.tab t=Jg te->TeOk C.P t te
 fns:∀f,C.okf f=Ji->∃fn,C.P.funcs[f]?=Jg fn/\fn.body.isSome=Ji/\(fn.name== "runtime.NumGoroutine")=Jj
 mixed:C.P.follows .mixedOrders=Ji
 ovs:∀f,inL C.ov f=Ji->∃fn tS tR el te,C.P.funcs[f]?=Jg fn/\fn.body.isNone=Ji/\(fn.name== "runtime.NumGoroutine")=Jj/\Extern.findNext fn=Jh/\Extern.find fn=Jg (Extern.SlicesOverlaps.overlaps #[tS,tS] #[tR])/\C.P.underlying tS=Jg (.slice el)/\TeOk C.P el te
 eqs:∀t,inL C.eq2 t=Ji->eq2B C.P t=Ji
section types
variable {P:Program} {t:TypeId}
theorem TeOk.info {g:TE} (h:TeOk P t g):∃i z,P.info? t=Jg i/\i.size=g.size/\i.bytes=g.bytes/\i.zero=Jg z/\z.cells.toList=g.zero:=by
 obtain ⟨_,h,_⟩:=h;cases hi:P.info? t with
 | none=>rw [hi] at h;simp at h
 | some i=>
  rw [hi] at h;simp only [Option.map_some,Option.some.injEq,Prod.mk.injEq] at h;obtain ⟨h1,f,a⟩:=h;cases hz:i.zero with
  | none=>rw [hz] at a;simp at a
  | some z=>rw [hz] at a;simp at a;exact ⟨i,z,rfl,h1,f,hz,a⟩
theorem ZJ7 (h:tdOf P t=.bool):P.underlying t=Jg .bool:=by
 grind [tdOf]
theorem ZfI {k:IntKind} (h:tdOf P t=.int k):P.underlying t=Jg (.int k):=by
 grind [tdOf]
theorem ZcF (h:tdOf P t=.str):P.underlying t=Jg .string:=by
 grind [tdOf]
theorem ZvW (h:tdOf P t=.iface):∃g,P.underlying t=Jg (.interface g):=by
 grind [tdOf]
theorem ZaM {e:Nat} (h:tdOf P t=.slice e):P.underlying t=Jg (.slice e):=by
 grind [tdOf]
theorem Zrz {j:List (Nat×Nat×Bool)} (h:tdOf P t=.struct j):∃g,P.underlying t=Jg (.struct g) /\
  j=g.toList.map λf=>(f.offset,fsz P f.type,((P.underlying f.type).map isAggD).getD Ji):=by
 unfold tdOf at h;split at h<;>first|(simp at h;subst h;exact ⟨_,by assumption,by simp⟩)|simp at h
theorem Zrs {n:Nat} (h:fsz P t=n) (a:Jv n 0=Jj):∃d i,P.underlying t=Jg d/\P.info? t=Jg i/\i.size=n:=by
 unfold fsz at h;split at h
 .grind
 .subst h;cases a
theorem ZNO {d:TypeDesc} (a:P.underlying t=Jg d):isAggD d=(tdOf P t).agg:=by
 unfold tdOf;rw [a];cases d<;>rfl
end types
section runs
variable {P:Program} (w:World)
theorem ZZ {t:TypeId} {d:TypeDesc} (h:P.underlying t=Jg d):(underlying t).run P w=.ok d w:=by
 simp [underlying,h]
theorem Zb5 {t:TypeId} {i:TypeInfo} (h:P.info? t=Jg i):(typeInfo t).run P w=.ok i w:=by
 simp [typeInfo,h]
theorem ZaW {t:TypeId} {g:TE} (h:TeOk P t g):(sizeOf t).run P w=.ok g.size w:=by
 obtain ⟨i,z,hi,hs,_⟩:=h.info;simp [sizeOf,Zb5 w hi,hs]
theorem Zd5 {t:TypeId} {i:TypeInfo} {z:Jl} (h:P.info? t=Jg i) (hz:i.zero=Jg z):(zeroValue t).run P w=.ok z w:=by
 simp [zeroValue,Zb5 w h,hz]
theorem ZgY {t:TypeId} {d:TypeDesc} (h:P.underlying t=Jg d):(isAgg t).run P w=.ok (isAggD d) w:=by
 simp only [isAgg,Sem.run_bind,ZZ w h,Result.andThen_ok];cases d<;>rfl
theorem ZBj {a:Addr} {v:Jl} (h:hcell w.heap a=Jg v):(load a).run P w=.ok v w:=by
 have:w.cell? a=Jg v:=h;simp [this]
theorem ZEm {a:Addr}:∀(vs:Jc) (i:Nat) (g:Array Jl),(∀j v,vs[j]?=Jg v->hcell w.heap (a.add (i+j))=Jg v) ->
  (loadCellsFrom a i vs.length g).run P w=.ok (g++vs.toArray) w
 | [],i,g,_=>by simp [loadCellsFrom]
 | v::vs,i,g,h=>by
  have f:=h 0 v (by simp);simp only [XA] at f;simp only [Jy,loadCellsFrom,Sem.run_bind,ZBj w f,Result.andThen_ok];rw [ZEm vs (i+1) (g.push v) λj u k=>by
   have:=h (j+1) u (by simpa using k);grind]
  simp
theorem ZnK {a:Addr} (vs:Jc) (h:∀j v,vs[j]?=Jg v->hcell w.heap (a.add j)=Jg v):
  (loadCells a vs.length).run P w=.ok vs.toArray w:=by
 unfold loadCells;rw [ZEm w vs 0 #[] λj v f=>by simpa using h j v f];simp
end runs
theorem eX (h:Heap):ExtH h h:=⟨JB _,λ_ _=>rfl⟩
theorem ExtH.trans {a b c:Heap} (h:ExtH a b) (k:ExtH b c):ExtH a c:=
 ⟨JW h.1 k.1,λx f=>(k.2 x (Xt f h.1)).trans (h.2 x f)⟩
theorem ExtH.push (h:Heap) (o:Obj):ExtH h (h.push o):=
 ⟨by simp,λb a=>by rw [Array.getElem?_push,if_neg Z]⟩
theorem Zda {h:Heap} {a:Addr} {v:Jl} (f:hcell h a=Jg v):a.block<h.size:=by
 unfold hcell at f;grind
theorem Zgp {h j:Heap} {a:Addr} {v:Jl} (f:ExtH h j) (g:hcell h a=Jg v):hcell j a=Jg v:=by
 have:=f.2 a.block (Zda g);grind [hcell]
theorem eY (B:Nat->Prop) (h:Heap):ExtBut B h h:=⟨JB _,λ_ _ _=>rfl⟩
theorem ExtBut.trans {B:Nat->Prop} {a b c:Heap} (h:ExtBut B a b) (k:ExtBut B b c):ExtBut B a c:=
 ⟨JW h.1 k.1,λx f g=>(k.2 x (Xt f h.1) g).trans (h.2 x f g)⟩
theorem eZ {B:Nat->Prop} {a b:Heap} (h:ExtH a b):ExtBut B a b:=⟨h.1,λx f _=>h.2 x f⟩
def HLe (h g:Heap):Prop:=(∀a v,hcell h a=Jg v->hcell g a=Jg v)/\∀r m,hmap h r=Jg m->hmap g r=Jg m
theorem HLe.refl (h:Heap):HLe h h:=⟨λ_ _ h=>h,λ_ _ h=>h⟩
theorem ZjX {B:Nat->Prop} {h:Heap} {b:Nat} (a:¬B b):(hmask B h)[b]?=h[b]?:=by
 unfold hmask;grind
theorem ZPv {B:Nat->Prop} {h:Heap} {a:Addr} {v:Jl} (f:hcell (hmask B h) a=Jg v):¬B a.block/\hcell h a=Jg v:=by
 by_cases g:B a.block
 .grind [hcell,hmask]
 .grind [hcell,ZjX]
theorem ZKC {B:Nat->Prop} {h:Heap} {r:Nat} {m:List (Jl×Jl)} (a:hmap (hmask B h) r=Jg m):¬B r/\hmap h r=Jg m:=by
 by_cases f:B r
 .grind [hmap,hmask]
 .grind [hmap,ZjX]
theorem HLe.mask {B:Nat->Prop} {h k:Heap} (g:ExtBut B h k):HLe (hmask B h) k:=by
 refine ⟨λa v f=>?_,λr m f=>?_⟩
 .obtain ⟨h1,i⟩:=ZPv f;have:=g.2 a.block (Zda i) h1;grind [hcell]
 .obtain ⟨h1,i⟩:=ZKC f;have j:r<h.size:=by
   grind [hmap,Nat.lt_or_ge]
  have:=g.2 r j h1;grind [hmap]
theorem Rest.refl (w:World):Rest w w:=⟨rfl,rfl,rfl,JB _⟩
theorem Rest.trans {a b c:World} (h:Rest a b) (k:Rest b c):Rest a c:=⟨k.1.trans h.1,k.2.1.trans h.2.1,k.2.2.1.trans h.2.2.1,JW h.2.2.2 k.2.2.2⟩
theorem RestQ.refl {q:Prop} (w:World):RestQ q w w:=⟨rfl,rfl,rfl,λ_=>JB _⟩
theorem RestQ.trans {q:Prop} {a b c:World} (h:RestQ q a b) (k:RestQ q b c):RestQ q a c:=⟨k.1.trans h.1,k.2.1.trans h.2.1,k.2.2.1.trans h.2.2.1,λx=>JW (h.2.2.2 x) (k.2.2.2 x)⟩
theorem ZqP {a b:IntKind}:ikEq a b=Ji↔a=b:=by
 cases a<;>cases b<;>simp [ikEq,ikNat]
theorem ZiX (e:Env) (l:List Operand):evs e l=l.map (ev e):=by
 induction l with
 | nil=>rfl
 | cons x r g=>simp [evs,g]
theorem Zpo (e:Env) (l:List (Nat×Operand)):evp e l=l.map λ(i,x)=>(i,ev e x):=by
 induction l with
 | nil=>rfl
 | cons x r g=>obtain ⟨i,x⟩:=x;simp [evp,g]
theorem Zgt (e:Env) (o:Jm Operand):evo e o=o.map (ev e):=by cases o<;>rfl
theorem Zav {b:Bool} {A:Prop} (h:bif b then A else False):b=Ji/\A:=by
 grind
section pure
variable {C:Ctx} {e:Env} {K:Jl->Prop}
theorem ZHq {g:BinOp} {k:IntKind} {a b:Int} (h:binI g k a b K) (t:TypeId):
  ∃v,K v/\∀w,(binOp g t (.int k a) (.int k b)).run C.P w=.ok v w:=by
 unfold binI at h;cases g<;>simp only at h<;>first
  | exact h.elim
  | (refine ⟨_,h,λw=>?_⟩;simp [binOp,Op.intArith,Op.intCmp];done)
  | (refine ⟨_,h,λw=>?_⟩;simp [binOp,Op.intBits];done)
  | (refine ⟨_,h.2,λw=>?_⟩;simp [binOp,Op.intDiv,h.1])
theorem ZNJ {g:BinOp} {a b:Jd} (h:binS g a b K) (t:TypeId):
  ∃v,K v/\∀w,(binOp g t (.string a) (.string b)).run C.P w=.ok v w:=by
 unfold binS at h;cases g<;>simp only at h<;>first
  | exact h.elim
  | (refine ⟨_,h,λw=>?_⟩;simp [binOp,Op.stringOp];done)
  | (refine ⟨_,h.2,λw=>?_⟩;have:=h.1;simp only [binOp,Op.stringOp];rw [if_neg Z];simp)
theorem Zcc {g:BinOp} {t:TypeId} {x y:Operand} {a b:Jl} (h1:∀cs,a≠.agg cs) (f:a≠.nilIface) (w:World):(eqGuard g t x y a b).run C.P w=.ok () w:=by
 cases a<;>cases g<;>first|exact absurd rfl (h1 _)|exact absurd rfl f|rfl
theorem ZIQ (d:Nat) {t el:TypeId} (g:C.P.underlying t=Jg (.slice el)) (a:Jm Addr) (l m n c:Nat) (w:World):
  (Op.equalIn (d+1) t (.slice a l m) (.slice Jh n c)).run C.P w=.ok a.isNone w:=by
 cases a<;>simp [Op.equalIn,ZZ w g]
theorem ZJh (d:Nat) {t:TypeId} (g:C.P.underlying t=Jg .bool) (a b:Bool) (w:World):
  (Op.equalIn (d+1) t (.bool a) (.bool b)).run C.P w=.ok (a==b) w:=by
 simp [Op.equalIn,ZZ w g]
theorem Zxz {neg:Bool} {x:Jl} (h:vNilS neg x λb=>K (.bool b)) {t el:TypeId} (g:C.P.underlying t=Jg (.slice el)) {n c:Nat}:
  (∀cs,x≠.agg cs)/\x≠.nilIface/\∃v,K v/\∀w,(binOp (if neg then .neq else .eql) t x (.slice Jh n c)).run C.P w=.ok v w:=by
 unfold vNilS at h;split at h
 .rename_i a l m;refine ⟨by simp,by simp,_,h,λw=>?_⟩;have h1:=ZIQ (C:=C) 9999 g a l m n c w;cases neg
  .show (do pure (Value.bool (<-Op.equalIn (9999+1) t (.slice a l m) (.slice Jh n c))):Sem Jl).run C.P w=_;simp [h1]
  .show (do pure (Value.bool (!(<-Op.equalIn (9999+1) t (.slice a l m) (.slice Jh n c)))):Sem Jl).run C.P w=_;simp [h1]
 .exact h.elim
theorem ZFV (d:Nat) {t:TypeId} {g:Array (String×TypeId)} (h:C.P.underlying t=Jg (.interface g)) (w:World):
  (Op.equalIn (d+1) t .nilIface .nilIface).run C.P w=.ok Ji w:=by
 simp [Op.equalIn,ZZ w h]
theorem ZL4 (d:Nat) {t:TypeId} {g:Array (String×TypeId)} (h:C.P.underlying t=Jg (.interface g)) (a:TypeId) (x:Jl) (w:World):
  (Op.equalIn (d+1) t (.iface a x) .nilIface).run C.P w=.ok Jj w:=by
 simp [Op.equalIn,ZZ w h]
theorem ZwO {neg:Bool} {x:Operand} {k:Jl} (h:vNilI neg k λb=>K (.bool b)) {t:TypeId} {o:Array (String×TypeId)} (l:C.P.underlying t=Jg (.interface o)):
  ∃v,K v/\∀w,(do eqGuard (if neg then .neq else .eql) t x (.const .nilIface) k .nilIface;binOp (if neg then .neq else .eql) t k .nilIface:Sem Jl).run C.P w=.ok v w:=by
 unfold vNilI at h;split at h
 .refine ⟨_,h,λw=>?_⟩;have h1:=ZFV (C:=C) 9999 l w;have g:∀j:BinOp,(eqGuard j t x (.const .nilIface) .nilIface .nilIface).run C.P w=.ok () w:=λj=>by
   simp [eqGuard]
  cases neg
  .have f:(binOp .eql t .nilIface .nilIface).run C.P w=.ok (.bool Ji) w:=by
    show (do pure (Value.bool (<-Op.equalIn (9999+1) t .nilIface .nilIface)):Sem Jl).run C.P w=_;simp [h1]
   simp [g,f]
  .have f:(binOp .neq t .nilIface .nilIface).run C.P w=.ok (.bool Jj) w:=by
    show (do pure (Value.bool (!(<-Op.equalIn (9999+1) t .nilIface .nilIface))):Sem Jl).run C.P w=_;simp [h1]
   simp [g,f]
 .rename_i a y;refine ⟨_,h,λw=>?_⟩;have h1:=ZL4 (C:=C) 9999 l a y w;have g:∀j:BinOp,(eqGuard j t x (.const .nilIface) (.iface a y) .nilIface).run C.P w=.ok () w:=λj=>
   Zcc (by simp) (by simp) w
  cases neg
  .have f:(binOp .eql t (.iface a y) .nilIface).run C.P w=.ok (.bool Jj) w:=by
    show (do pure (Value.bool (<-Op.equalIn (9999+1) t (.iface a y) .nilIface)):Sem Jl).run C.P w=_;simp [h1]
   simp [g,f]
  .have f:(binOp .neq t (.iface a y) .nilIface).run C.P w=.ok (.bool Ji) w:=by
    show (do pure (Value.bool (!(<-Op.equalIn (9999+1) t (.iface a y) .nilIface))):Sem Jl).run C.P w=_;simp [h1]
   simp [g,f]
 .exact h.elim
theorem ZlO {t:TypeId} (h:C.P.underlying t=Jg (.int .i64)) (xs:Array Jl) (o:Nat) (v:Jl) (a:xs[o]?=Jg v) (w:World):(part t xs o).run C.P w=.ok v w:=by
 simp [part,ZgY w h,isAggD,a]
theorem ZBY (u:CtxOk C) {t:TypeId} (x:inL C.eq2 t=Ji) (a b c d:Int) (w:World):(Op.equalIn 10000 t (.agg #[.int .i64 a,.int .i64 b]) (.agg #[.int .i64 c,.int .i64 d])).run C.P w=.ok (a==c&&b==d) w:=by
 obtain ⟨h1,h,_,i,j,o,n1,n2,k,l,f,g⟩:=ZCC (u.eqs t x);rw [run_equalIn_struct w 9999 t _ _ h1 h,o];simp only [Op.eqFields,n1,n2,k,l,ne_eq,not_false_eq_true,if_true,Sem.run_bind];rw [ZlO f _ 0 (.int .i64 a) rfl,Result.andThen_ok,ZlO f _ 0 (.int .i64 c) rfl,Result.andThen_ok,run_equalIn_int w 9998 i.type .i64 .i64 a c f,Result.andThen_ok];cases hac:(a==c) with
 | false=>simp [Sem.run_ite]
 | true=>
  simp only [Bool.not_true,Bool.false_eq_true,if_false,Sem.run_bind];rw [ZlO g _ 1 (.int .i64 b) rfl,Result.andThen_ok,ZlO g _ 1 (.int .i64 d) rfl,Result.andThen_ok,run_equalIn_int w 9998 j.type .i64 .i64 b d g,Result.andThen_ok];cases hbd:(b==d)<;>simp [Sem.run_ite]
theorem ZOm (j:CtxOk C) {l:BinOp} {t:TypeId} {xs g:Array Jl} (k:inL C.eq2 t=Ji) (h:eq2K l xs.toList g.toList K):
  ∃v,K v/\∀(x y:Operand) (w:World),(do eqGuard l t x y (.agg xs) (.agg g);binOp l t (.agg xs) (.agg g):Sem Jl).run C.P w=.ok v w:=by
 unfold eq2K at h;split at h
 .rename_i a b c d f hy;have ex:xs=#[.int .i64 a,.int .i64 b]:=by rw [<-Wh (xs:=xs),f]
  have u:g=#[.int .i64 c,.int .i64 d]:=by rw [<-Wh (xs:=g),hy]
  subst ex;subst u;have o:=(ZCC (j.eqs t k)).2.2.1;split at h
  .refine ⟨_,h,λx y w=>?_⟩;rw [Sem.run_bind,run_eqGuard_agg w .eql t x y _ _ o,Result.andThen_ok,run_eql_struct,ZBY j k,Result.andThen_ok]
  .refine ⟨_,h,λx y w=>?_⟩;rw [Sem.run_bind,run_eqGuard_agg w .neq t x y _ _ o,Result.andThen_ok,run_neq_struct,ZBY j k,Result.andThen_ok]
  .exact h.elim
 .exact h.elim
theorem ZLD (hC:CtxOk C) {op:BinOp} {t:TypeId} {x y:Operand} (h:vBin C.tab C.eq2 op t x y e K):
  ∃v,K v/\∀w,(do eqGuard op t x y (ev e x) (ev e y);binOp op t (ev e x) (ev e y):Sem Jl).run C.P w=.ok v w:=by
 unfold vBin at h;cases hi:isNilI y
 case true=>
  rw [hi] at h;simp only [cond_true] at h;have u:y=.const .nilIface:=by
   grind [isNilI]
  subst u;split at h
  .rename_i ks z bb ht;obtain ⟨ms,hu⟩:=ZvW (hC.tab _ _ ht).1;exact ZwO (C:=C) (neg:=Jj) (x:=x) h hu
  .rename_i ks z bb ht;obtain ⟨ms,hu⟩:=ZvW (hC.tab _ _ ht).1;exact ZwO (C:=C) (neg:=Ji) (x:=x) h hu
  .exact h.elim
 rw [hi] at h;simp only [cond_false] at h;cases j:isNilC y
 .rw [j] at h;simp only [cond_false] at h;split at h
  .rename_i k a k' b f u;split at h
   .refine ⟨_,h.2,λw=>?_⟩;have:=h.1;have i:(binOp .shl t (.int k a) (.int k' b)).run C.P w=.ok (.int k (k.wrap (a*2^min b.toNat k.bits))) w:=by
     simp_all [binOp,Op.shift,if_neg]
    simp [f,u,Zcc,i]
   .refine ⟨_,h.2,λw=>?_⟩;have:=h.1;have i:(binOp .shr t (.int k a) (.int k' b)).run C.P w=.ok (.int k (a.fdiv (2^min b.toNat k.bits))) w:=by
     simp_all [binOp,Op.shift,if_neg]
    simp [f,u,Zcc,i]
   .obtain ⟨hk,h'⟩:=Zav h;obtain rfl:=ZqP.1 hk;obtain ⟨v,g,hr⟩:=ZHq (C:=C) h' t;refine ⟨v,g,λw=>?_⟩;simp [f,u,Zcc,hr]
  .rename_i a b f u;obtain ⟨v,g,hr⟩:=ZNJ (C:=C) h t;refine ⟨v,g,λw=>?_⟩;simp [f,u,Zcc,hr]
  .rename_i a b f u;split at h
   .rename_i ks z bb ht;have hu:=ZJ7 (hC.tab _ _ ht).1;have h1:=λw=>ZJh (C:=C) 9999 hu a b w;unfold binB at h;rw [f,u];split at h
    .refine ⟨_,h,λw=>?_⟩;have i:(binOp .eql t (.bool a) (.bool b)).run C.P w=.ok (.bool (a==b)) w:=by
      show (do pure (Value.bool (<-Op.equalIn (9999+1) t (.bool a) (.bool b))):Sem Jl).run C.P w=_;simp [h1]
     simp [Zcc,i]
    .refine ⟨_,h,λw=>?_⟩;have i:(binOp .neq t (.bool a) (.bool b)).run C.P w=.ok (.bool (!(a==b))) w:=by
      show (do pure (Value.bool (!(<-Op.equalIn (9999+1) t (.bool a) (.bool b)))):Sem Jl).run C.P w=_;simp [h1]
     simp [Zcc,i]
    .exact h.elim
   .exact h.elim
  .rename_i xs ys f u;obtain ⟨ht,h'⟩:=Zav h;obtain ⟨v,g,hr⟩:=ZOm hC ht h';refine ⟨v,g,λw=>?_⟩;rw [f,u];exact hr x y w
  .exact h.elim
 .rw [j] at h;simp only [cond_true] at h;have u:∃n c,y=.const (.slice Jh n c):=by
   unfold isNilC at j;grind
  obtain ⟨n,c,rfl⟩:=u;split at h
  .rename_i el ks z bb ht;have hu:=ZaM (hC.tab _ _ ht).1;obtain ⟨l,o,v,g,hr⟩:=Zxz (C:=C) h hu (n:=n) (c:=c);refine ⟨v,g,λw=>?_⟩;have:=hr w;simp at this;rw [show ev e (.const (.slice Jh n c))=.slice Jh n c from rfl];simp [Zcc l o,this]
  .rename_i el ks z bb ht;have hu:=ZaM (hC.tab _ _ ht).1;obtain ⟨l,o,v,g,hr⟩:=Zxz (C:=C) h hu (n:=n) (c:=c);refine ⟨v,g,λw=>?_⟩;have:=hr w;simp at this;rw [show ev e (.const (.slice Jh n c))=.slice Jh n c from rfl];simp [Zcc l o,this]
  .exact h.elim
theorem ZhN {P:Program} {x:Jm Jl} {d y:Nat} {K:Nat->Prop} (h:vBound x d y K) {c:BoundsCode}:
  ∃n,K n/\(x=Jh->n=d)/\∀v,x=Jg v->∀w,(Instr.sliceBound v y c).run P w=.ok n w:=by
 unfold vBound at h;split at h
 .exact ⟨d,h,(λ_=>rfl),(λv a=>by cases a)⟩
 .rename_i k i;refine ⟨_,h.2,(λg=>by cases g),λv a w=>?_⟩;cases a;simp [Instr.sliceBound,asIntOf,h.1.1,h.1.2]
 .exact h.elim
theorem ZMD (g:Jc) (off:Nat) (x:Jl) (l:Jc) (h:off<g.length):setAt (g.set off x) (off+1) l=setAt g off (x::l):=by
 unfold setAt;have h1:(g.set off x).take (off+1)=g.take off++[x]:=by
  rw [List.take_set,List.take_succ_eq_append_getElem h,List.set_append_right _ _ (by simp;omega)];simp [Nat.min_eq_left (Nat.le_of_lt h)]
 grind [List.drop_set_of_lt,Jy]
theorem ZxR:∀(l:Jc) (k:Nat) (cs:Array Jl) (o:Nat),o+k+l.length<=cs.size ->
  ((l.zipIdx k).foldl (λcs (p:Jl×Nat)=>cs.setIfInBounds (o+p.2) p.1) cs)=(setAt cs.toList (o+k) l).toArray
 | [],k,cs,o,_=>by simp [setAt]
 | x::l,k,cs,o,h=>by
  simp only [Jy] at h;simp only [List.zipIdx_cons,List.foldl_cons];rw [ZxR l (k+1) _ o (by simp;omega)];grind [ZMD,Nat.add_assoc]
theorem Zzp {g:Nat->Jm (Nat×Nat)} {i off size:Nat} {v:Jl} {cells:Array Jl} {h:List (Nat×Jl)} (hp:g i=Jg (off,size))
  (hs:v.cells.size=size) (a:off+size<=cells.size):
  Instr.fill g cells ((i,v)::h)=Instr.fill g (setAt cells.toList off v.cells.toList).toArray h:=by
 have hset:=ZxR v.cells.toList 0 cells off (by simp [hs];omega);rw [Instr.fill,hp];simp only;rw [if_neg (by simp [hs];omega)];congr 1;rw [<-Array.foldl_toList];simp only [XA] at hset;rw [<-hset];simp
theorem ZoD {agg:Bool} {v:Jl} {K:Jc->Prop} (h:cellsAs agg v K):K v.cells.toList/\(agg=Jj->v.oneCell'=Ji):=by
 unfold cellsAs at h;cases agg
 .simp only [cond_false] at h;obtain ⟨h1,a⟩:v.oneCell'=Ji/\K [v]:=by
   grind [vOne]
  refine ⟨?_,λ_=>h1⟩;cases v<;>simp [Value.oneCell'] at h1<;>exact a
 .simp only [cond_true] at h;split at h
  .rw [Zfq] at h;exact ⟨h,λh=>by cases h⟩
  .exact h.elim
theorem ZvC {l:List (Nat×Nat×Bool)}:∀(j:List (Nat×Jl)) (g:Jc) (K:Jc->Prop),buildAt l g j K ->
  ∃cs,K cs/\Instr.fill (λi=>(l[i]?).map λp=>(p.1,p.2.1)) g.toArray j=Jg cs.toArray
 | [],g,K,h=>⟨g,(Zfq _ _).mp h,rfl⟩
 | (i,v)::r,g,K,h=>by
  unfold buildAt at h;split at h
  .rename_i off size agg u;obtain ⟨h1,f⟩:=ZoD h;obtain ⟨a,h1⟩:=Zav h1;simp only [Jz] at a;have x:=JK a.1;have k:=Nat.le_of_ble_eq_true a.2;obtain ⟨cs,o,hr⟩:=ZvC r _ K h1;refine ⟨cs,o,?_⟩;rw [Zzp (off:=off) (size:=size) (by simp [u]) (by simpa using x) (by simpa using k)];omega
  .exact h.elim
theorem ZEy {s:TypeId} {fs:List (Nat×Nat×Bool)} {f:Nat} {x:Jl} (hs:tdOf C.P s=.struct fs) (h:vField fs f x K):
  ∃v,K v/\∀w,(Instr.field s x f).run C.P w=.ok v w:=by
 obtain ⟨a5,hu,rfl⟩:=Zrz hs;unfold vField at h;split at h
 .rename_i off size agg cs hf;simp only [List.getElem?_map,Array.getElem?_toList,Option.map_eq_some_iff,Prod.mk.injEq] at hf;obtain ⟨fd,a2,rfl,u,j⟩:=hf;have l:∀w,(Instr.field s (.agg cs) f).run C.P w=(part fd.type cs fd.offset).run C.P w:=λw=>by
   simp [Instr.field,ZZ w hu,a2,asAgg]
  cases agg
  .simp only [cond_false] at h;have a:∃d,C.P.underlying fd.type=Jg d/\isAggD d=false:=by
    cases a:C.P.underlying fd.type with
    | none=>rw [a] at j;simp at j
    | some d=>rw [a] at j;exact ⟨d,rfl,by simpa using j⟩
   obtain ⟨d,a,k⟩:=a;split at h
   .rename_i v g;refine ⟨v,h,λw=>?_⟩;rw [l];have:cs[fd.offset]?=Jg v:=by simpa using g
    simp [part,ZgY w a,k,this]
   .exact h.elim
  .simp only [cond_true] at h;have hz:(Jv size 0)=Jj/\K (.agg ((cs.toList.drop fd.offset).take size).toArray):=by
    revert h
    cases Jv size 0
    .exact λh=>⟨rfl,(Zfq _ _).mp h⟩
    .simp
   obtain ⟨hz,h⟩:=hz;obtain ⟨d,i,a,hi,o⟩:=Zrs u hz;have k:isAggD d=true:=by rw [a] at j;simpa using j
   refine ⟨_,h,λw=>?_⟩;rw [l];simp only [part,Sem.run_bind,ZgY w a,k,Result.andThen_ok,if_true,sizeOf,Zb5 w hi,Sem.run_pure,o];congr 2;apply Array.ext';simp [List.extract_eq_take_drop]
 .exact h.elim
end pure
end Go.Vc
