import Derived.WalkKit
import Derived.Deep.LoopGhost
import Derived.Test.YtahnjnfpjcfklaaGreatDoorVcOrder
namespace Go.Vc
set_option linter.unusedVariables false
set_option linter.unusedSimpArgs false
open Go
abbrev Heap:=Array Obj
inductive Wv where
  | mk (v:Value)
def Wv.v:Wv->Value
  | .mk v=>v
@[simp] theorem Wv.v_mk (v:Value):(Wv.mk v).v=v:=rfl
theorem Wv.mk_v (w:Wv):Wv.mk w.v=w:=by cases w;rfl
abbrev Env:=Nat->Wv
def frc (w:Wv) (K:Value->Prop):Prop:=
  match w with
  | .mk v=>K v
theorem ZbZ (w:Wv) (K:Value->Prop):frc w K=K w.v:=by cases w;rfl
def hcell (h:Heap) (a:Addr):Option Value:=
  match h[a.block]? with
  | some (.cells c _ _)=>if a.spot.isSome then none else c[a.off]?
  | _=>none
def hfroz (h:Heap) (a:Addr):Bool:=
  match h[a.block]? with
  | some (.cells _ _ (lo,hi))=>lo<=a.off&&a.off<hi
  | _=>false
def hset (h:Heap) (a:Addr) (v:Value):Heap:=
  h.modify a.block fun
      | .cells c elem frozen=>.cells (if a.spot.isSome then c else c.setIfInBounds a.off v) elem frozen
      | o=>o
def ExtH (h a:Heap):Prop:=h.size<=a.size/\∀ b,b<h.size->a[b]?=h[b]?
def ExtBut (B:Nat->Prop) (h a:Heap):Prop:=h.size<=a.size/\∀ b,b<h.size->¬ B b->a[b]?=h[b]?
open Classical in
noncomputable def hmask (B:Nat->Prop) (h:Heap):Heap:=h.mapIdx fun i o=>if B i then .cells #[] 0 else o
def Rest (w w':World):Prop:=w'.tape=w.tape/\w'.os=w.os/\w'.output=w.output/\w.drawn<=w'.drawn
def RestQ (q:Prop) (w w':World):Prop:=w'.tape=w.tape/\w'.os=w.os/\w'.output=w.output/\(q->w.drawn<=w'.drawn)
theorem Rest.q {q:Prop} {w w':World} (h:Rest w w'):RestQ q w w':=⟨h.1,h.2.1,h.2.2.1,fun _=>h.2.2.2⟩
def CallsQ (q:Prop) (P:Program) (f:FuncId) (a:Array Value) (h:Heap) (R:Value->Heap->Prop):Prop:=
  ∀ w:World,w.heap=h->Calls P f a w fun e w'=>∃ v,e=.returned v/\RestQ q w w'/\R v w'.heap
abbrev CallsH (P:Program) (f:FuncId) (args:Array Value) (h:Heap) (R:Value->Heap->Prop):Prop:=CallsQ False P f args h R
inductive TK where
  | i (k:IntKind)|b|s|p|v
inductive TD where
  | bool|int (k:IntKind)|str|slice (e:Nat)|struct (fs:List (Nat×Nat×Bool))|arr (n e:Nat)|ptr|oth|map (k e:Nat)|iface
def TD.agg:TD->Bool
  | .struct _|.arr _ _=>true
  | _=>false
structure TE where
  d:TD
  kinds:List TK
  zero:List Value
  bytes:Nat
def TE.size (a:TE):Nat:=a.kinds.length
def isAggD:TypeDesc->Bool
  | .struct _|.array _ _=>true
  | _=>false
def fsz (P:Program) (t:TypeId):Nat:=
  match P.underlying t,P.info? t with
  | some _,some i=>i.size
  | _,_=>0
def tdOf (P:Program) (t:TypeId):TD:=
  match P.underlying t with
  | some .bool=>.bool
  | some (.int k)=>.int k
  | some .string=>.str
  | some (.slice e)=>.slice e
  | some (.pointer _)=>.ptr
  | some (.map k e)=>.map k e
  | some (.interface _)=>.iface
  | some (.array n e)=>.arr n e
  | some (.struct fs)=>.struct (fs.toList.map fun f=>(f.offset,fsz P f.type,((P.underlying f.type).map isAggD).getD true))
  | _=>.oth
def zFlat:Option Value->Bool
  | some (.agg _)=>false
  | _=>true
def TeOk (P:Program) (t:TypeId) (a:TE):Prop:=
  tdOf P t=a.d/\(P.info? t).map (fun i=>(i.size,i.bytes,i.zero.map (·.cells.toList)))=some (a.kinds.length,a.bytes,some a.zero)/\(P.underlying t).isSome=true/\(a.d.agg||zFlat ((P.info? t).bind (·.zero)))=true
def tabGet:List (Nat×TE)->Nat->Option TE
  | [],_=>none
  | (k,x)::r,t=>bif Nat.beq k t then some x else tabGet r t
structure RS where
  tup:Bool
  comps:List (Bool×List TK)
def rsGet:List (Nat×RS)->Nat->RS
  | [],_=>⟨false,[(false,[.v])]⟩
  | (k,x)::r,t=>bif Nat.beq k t then x else rsGet r t
def annGet:List (Nat×List (Nat×TK))->Nat->Option (List (Nat×TK))
  | [],_=>none
  | (k,x)::r,t=>bif Nat.beq k t then some x else annGet r t
structure Ctx where
  P:Program
  tab:List (Nat×TE)
  rs:List (Nat×RS)
  lo:Nat
  nf:Nat
  ex:List Nat
  ov:List Nat
  eq2:List Nat
  q:Prop
def inL:List Nat->Nat->Bool
  | [],_=>false
  | x::r,g=>bif Nat.beq x g then true else inL r g
def Ctx.okf (C:Ctx) (g:Nat):Bool:=Nat.ble C.lo g&&Nat.blt g C.nf&&!(inL C.ex g)
inductive OT where
  | fin (l:List Nat)
  | sg (l:List Nat) (t:OT)
  | both (a b:OT)
  | bad
structure RG where
  ks:List Kind
  t:OT
  b:Bool
structure Ann where
  loops:List (Nat×List (Nat×TK))
  cuts:List (Nat×List (Nat×TK))
  alts : List (Nat × List Nat)   -- reads that stand in the order of the effects
  regs : List (Nat × RG)         -- regions whose operations don't come in their order
def ikNat:IntKind->Nat
  | .i8=>0|.i16=>1|.i32=>2|.i64=>3|.u8=>4|.u16=>5|.u32=>6|.u64=>7
def ikEq (a b:IntKind):Bool:=Nat.beq (ikNat a) (ikNat b)
def evw (e:Env):Operand->Wv
  | .tmp t=>e t
  | .const v=>.mk v
  | .global g=>.mk (.pointer (some ⟨g,0,none⟩))
  | .func f=>.mk (.func (.func f) #[] #[])
def ev (e:Env) (x:Operand):Value:=(evw e x).v
theorem ZuR (e:Env) (x:Operand) (K:Value->Prop):frc (evw e x) K=K (ev e x):=ZbZ _ _
def evsK (e:Env):List Operand->(List Value->Prop)->Prop
  | [],K=>K []
  | x::r,K=>frc (evw e x) fun v=>evsK e r fun vs=>K (v::vs)
def evpK (e:Env):List (Nat×Operand)->(List (Nat×Value)->Prop)->Prop
  | [],K=>K []
  | (i,x)::r,K=>frc (evw e x) fun v=>evpK e r fun vs=>K ((i,v)::vs)
def evs (e:Env):List Operand->List Value
  | []=>[]
  | x::r=>ev e x::evs e r
def evo (e:Env):Option Operand->Option Value
  | some x=>some (ev e x)
  | none=>none
def upd (e:Env) (d:Nat) (v:Value):Env:=fun i=>bif Nat.beq i d then .mk v else e i
def updO (e:Env) (d:Option Nat) (v:Value):Env:=
  match d with
  | some d=>upd e d v
  | none=>e
abbrev brn (c:Bool) (A B:Prop):Prop:=
  match c with
  | true=>A
  | false=>B
def binI (g:BinOp) (k:IntKind) (a b:Int) (K:Value->Prop):Prop:=
  match g with
  | .add=>K (.int k (k.wrap (a+b)))
  | .sub=>K (.int k (k.wrap (a-b)))
  | .mul=>K (.int k (k.wrap (a*b)))
  | .quo=>b≠0/\K (.int k (k.wrap (a.tdiv b)))
  | .rem=>b≠0/\K (.int k (a.tmod b))
  | .eql=>K (.bool (a==b))
  | .neq=>K (.bool (a !=b))
  | .lss=>K (.bool (decide (a<b)))
  | .leq=>K (.bool (decide (a<=b)))
  | .gtr=>K (.bool (decide (a>b)))
  | .geq=>K (.bool (decide (a>=b)))
  | .and=>K (.int k (k.wrap (BitVec.ofInt k.bits a&&&BitVec.ofInt k.bits b).toNat))
  | .or=>K (.int k (k.wrap (BitVec.ofInt k.bits a ||| BitVec.ofInt k.bits b).toNat))
  | .xor=>K (.int k (k.wrap (BitVec.ofInt k.bits a^^^BitVec.ofInt k.bits b).toNat))
  | _=>False
def binS (g:BinOp) (a b:ByteArray) (K:Value->Prop):Prop:=
  match g with
  | .add=>((a.size+b.size:Nat):Int)<=IntKind.i64.max/\K (.string (a++b))
  | .eql=>K (.bool (a.toList==b.toList))
  | .neq=>K (.bool (!(a.toList==b.toList)))
  | .lss=>K (.bool (Op.bytesLess a.toList b.toList))
  | .leq=>K (.bool (Op.bytesLess a.toList b.toList||a.toList==b.toList))
  | .gtr=>K (.bool (!(Op.bytesLess a.toList b.toList||a.toList==b.toList)))
  | .geq=>K (.bool (!Op.bytesLess a.toList b.toList))
  | _=>False
def binB (g:BinOp) (a b:Bool) (K:Value->Prop):Prop:=
  match g with
  | .eql=>K (.bool (a==b))
  | .neq=>K (.bool (!(a==b)))
  | _=>False
def vNilS (neg:Bool) (x:Value) (K:Bool->Prop):Prop:=
  match x with
  | .slice a _ _=>K (neg !=a.isNone)
  | _=>False
def isNilC:Operand->Bool
  | .const (.slice none _ _)=>true
  | _=>false
def vNilI (neg:Bool) (x:Value) (K:Bool->Prop):Prop:=
  match x with
  | .nilIface=>K (!neg)
  | .iface _ _=>K neg
  | _=>False
def isNilI:Operand->Bool
  | .const .nilIface=>true
  | _=>false
def eq2K (j:BinOp) (xs g:List Value) (K:Value->Prop):Prop:=
  match xs,g with
  | [.int .i64 a,.int .i64 b],[.int .i64 c,.int .i64 d]=>match j with
    | .eql=>K (.bool (a==c&&b==d))
    | .neq=>K (.bool (!(a==c&&b==d)))
    | _=>False
  | _,_=>False
def vBin (T:List (Nat×TE)) (Q:List Nat) (g:BinOp) (t:TypeId) (j l:Operand) (e:Env) (K:Value->Prop):Prop:=
  bif isNilI l then
    match tabGet T t,g with
    | some ⟨.iface,_,_,_⟩,.eql=>vNilI false (ev e j) fun b=>K (.bool b)
    | some ⟨.iface,_,_,_⟩,.neq=>vNilI true (ev e j) fun b=>K (.bool b)
    | _,_=>False
  else
  bif isNilC l then
    match tabGet T t,g with
    | some ⟨.slice _,_,_,_⟩,.eql=>vNilS false (ev e j) fun b=>K (.bool b)
    | some ⟨.slice _,_,_,_⟩,.neq=>vNilS true (ev e j) fun b=>K (.bool b)
    | _,_=>False
  else
  match ev e j,ev e l with
  | .int k a,.int k' b=>match g with
    | .shl=>0<=b/\K (.int k (k.wrap (a*2^min b.toNat k.bits)))
    | .shr=>0<=b/\K (.int k (a.fdiv (2^min b.toNat k.bits)))
    | _=>bif ikEq k k' then binI g k a b K else False
  | .string a,.string b=>binS g a b K
  | .bool a,.bool b=>
    match tabGet T t with
    | some ⟨.bool,_,_,_⟩=>binB g a b K
    | _=>False
  | .agg xs,.agg ys=>bif inL Q t then eq2K g xs.toList ys.toList K else False
  | _,_=>False
def vLen (x:Value) (K:Nat->Prop):Prop:=
  match x with
  | .slice _ n _=>K n
  | _=>False
def vCap (x:Value) (K:Nat->Prop):Prop:=
  match x with
  | .slice _ _ c=>K c
  | _=>False
def vIdx (x:Value) (i:Int) (z:Nat) (K:Addr->Prop):Prop:=
  match x with
  | .slice (some a) n _=>(0<=i/\i<n)/\K (a.add (i.toNat*z))
  | _=>False
def vStrIdx (s:ByteArray) (i:Int) (K:UInt8->Prop):Prop:=
  ∃ b:UInt8,0<=i/\s[i.toNat]?=some b/\K b
def vBound (x:Option Value) (a y:Nat) (K:Nat->Prop):Prop:=
  match x with
  | none=>K a
  | some (.int _ i)=>(0<=i/\i<=y)/\K i.toNat
  | _=>False
def vSliceS (x:Value) (z:Nat) (lo hi mx:Option Value) (K:Value->Prop):Prop:=
  match x with
  | .slice a n c=>vBound mx c c fun m=>vBound hi n m fun g=>vBound lo 0 g fun l=>
      K (.slice (bif Nat.beq m l then a else a.map (·.add (l*z))) (g-l) (m-l))
  | _=>False
def vSliceStr (s:ByteArray) (lo hi:Option Value) (K:ByteArray->Prop):Prop:=
  vBound hi s.size s.size fun a=>vBound lo 0 a fun l=>K (s.extract l a)
def evp (e:Env):List (Nat×Operand)->List (Nat×Value)
  | []=>[]
  | (i,x)::r=>(i,ev e x)::evp e r
def vOne (v:Value) (A:Prop):Prop:=
  match v.oneCell' with
  | true=>A
  | false=>False
def frL:List Value->(List Value->Prop)->Prop
  | [],K=>K []
  | x::r,K=>frL r fun l=>K (x::l)
theorem ZdQ:∀ (l:List Value) (K:List Value->Prop),frL l K=K l
  | [],_=>rfl
  | x::r,K=>by unfold frL;rw [ZdQ r]
def cellsAs (agg:Bool) (v:Value) (K:List Value->Prop):Prop:=
  bif agg then match v with|.agg cs=>frL cs.toList K|_=>False
  else vOne v (K [v])
def setAt (a:List Value) (off:Nat) (cs:List Value):List Value:=a.take off++cs++a.drop (off+cs.length)
def buildAt (g:List (Nat×Nat×Bool)) (a:List Value):List (Nat×Value)->(List Value->Prop)->Prop
  | [],K=>frL a K
  | (i,v)::r,K=>match g[i]? with
    | some (off,size,agg)=>cellsAs agg v fun cs=>bif Nat.beq cs.length size&&Nat.ble (off+size) a.length then buildAt g (setAt a off cs) r K else False
    | none=>False
def allPos:List (Nat×Nat×Bool)->Bool
  | []=>true
  | (_,z,_)::r=>!Nat.beq z 0&&allPos r
def vField (a:List (Nat×Nat×Bool)) (f:Nat) (x:Value) (K:Value->Prop):Prop:=
  match a[f]?,x with
  | some (off,size,agg),.agg cs=>bif agg then (bif Nat.beq size 0 then False else frL ((cs.toList.drop off).take size) fun l=>K (.agg l.toArray)) else match cs.toList[off]? with|some v=>K v|none=>False
  | _,_=>False
def vNilQ (x:Value) (j:FuncId->Array Value->Array Value->Prop) (g:Addr->Prop):Prop:=
  match x with
  | .pointer (some a)=>g a
  | .func (.func f) a b=>j f a b
  | _=>False
def vPure (C:Ctx) (o:Op) (e:Env) (K:Value->Prop):Prop:=
  match o with
  | .move x=>frc (evw e x) K
  | .assign x=>frc (evw e x) K
  | .pick c a b=>match ev e c with
    | .bool t=>brn t (frc (evw e a) K) (frc (evw e b) K)
    | _=>False
  | .binOp op t x y _=>vBin C.tab C.eq2 op t x y e K
  | .unOp op _ x=>match op,ev e x with
    | .not,.bool b=>K (.bool (!b))
    | .neg,.int k n=>K (.int k (k.wrap (0-n)))
    | _,_=>False
  | .convert src dst x=>match tabGet C.tab src,tabGet C.tab dst,ev e x with
    | some ⟨.int _,_,_,_⟩,some ⟨.int k,_,_,_⟩,.int _ n=>K (.int k (k.wrap n))
    | some ⟨.str,_,_,_⟩,some ⟨.str,_,_,_⟩,.string s=>K (.string s)
    | _,_,_=>False
  | .nilCheck x=>vNilQ (ev e x) (fun f a b=>K (.func (.func f) a b)) (fun a=>K (.pointer (some a)))
  | .fieldAddr s x f=>match tabGet C.tab s,ev e x with
    | some ⟨.struct fs,_,_,_⟩,.pointer (some a)=>match fs[f]? with
      | some (off,size,_)=>bif Nat.beq size 0 then False else K (.pointer (some (a.add off)))
      | none=>False
    | _,_=>False
  | .field s x f=>match tabGet C.tab s with
    | some ⟨.struct fs,_,_,_⟩=>vField fs f (ev e x) K
    | _=>False
  | .indexAddr t x ix=>match tabGet C.tab t,ev e ix with
    | some ⟨.slice el,_,_,_⟩,.int _ i=>match tabGet C.tab el with
      | some te=>vIdx (ev e x) i te.size fun a=>K (.pointer (some a))
      | none=>False
    | _,_=>False
  | .index t x ix=>match tabGet C.tab t,ev e x,ev e ix with
    | some ⟨.str,_,_,_⟩,.string s,.int _ i=>vStrIdx s i fun b=>K (.int .u8 b.toNat)
    | _,_,_=>False
  | .slice t x lo hi mx=>match tabGet C.tab t with
    | some ⟨.slice el,_,_,_⟩=>match tabGet C.tab el with
      | some te=>bif mx.isSome&&hi.isNone then False else vSliceS (ev e x) te.size (evo e lo) (evo e hi) (evo e mx) K
      | none=>False
    | some ⟨.str,_,_,_⟩=>match ev e x with
      | .string s=>bif mx.isSome then False else vSliceStr s (evo e lo) (evo e hi) fun x=>K (.string x)
      | _=>False
    | _=>False
  | .extract x ix=>match ev e x with
    | .tuple vs=>match vs.toList[ix]? with
      | some v=>K v
      | none=>False
    | _=>False
  | .makeFunc fn first captured=>evsK e first.toList fun xs=>evsK e captured.toList fun g=>K (.func fn xs.toArray g.toArray)
  | .build t parts=>match tabGet C.tab t with
    | some ⟨.struct fs,_,zero,_⟩=>bif allPos fs then evpK e parts.toList fun j=>buildAt fs zero j fun cs=>K (.agg cs.toArray) else False
    | _=>False
  | .call ⟨.builtin .len,args,argTypes⟩=>match args.toList,argTypes.toList with
    | [x],[t]=>match tabGet C.tab t with
      | some ⟨.slice _,_,_,_⟩=>vLen (ev e x) fun n=>K (.int .i64 n)
      | some ⟨.str,_,_,_⟩=>match ev e x with
        | .string s=>K (.int .i64 s.size)
        | _=>False
      | _=>False
    | _,_=>False
  | .call ⟨.builtin .cap,args,argTypes⟩=>match args.toList,argTypes.toList with
    | [x],[t]=>match tabGet C.tab t with
      | some ⟨.slice _,_,_,_⟩=>vCap (ev e x) fun n=>K (.int .i64 n)
      | _=>False
    | _,_=>False
  | .call ⟨.builtin .max,args,_⟩=>match args.toList with
    | [x,y]=>match ev e x,ev e y with
      | .int k a,.int _ b=>K (.int k (if b>a then b else a))
      | _,_=>False
    | _=>False
  | .call ⟨.builtin .min,args,_⟩=>match args.toList with
    | [x,y]=>match ev e x,ev e y with
      | .int k a,.int _ b=>K (.int k (if b<a then b else a))
      | _,_=>False
    | _=>False
  | _=>False
def vLoad1 (k:TK) (h:Heap) (a:Addr) (K:Value->Prop):Prop:=
  match k with
  | .i k=>∃ x:Int,hcell h a=some (.int k x)/\K (.int k x)
  | .b=>∃ x:Bool,hcell h a=some (.bool x)/\K (.bool x)
  | .s=>∃ x:ByteArray,hcell h a=some (.string x)/\K (.string x)
  | .p=>∃ x:Addr,hcell h a=some (.pointer (some x))/\K (.pointer (some x))
  | .v=>∃ x:Value,hcell h a=some x/\K x
def vLoadN (h:Heap) (a:Addr):List TK->Nat->(List Value->Prop)->Prop
  | [],_,K=>K []
  | k::ks,i,K=>vLoad1 k h (a.add i) fun v=>vLoadN h a ks (i+1) fun vs=>K (v::vs)
def vLoad (T:List (Nat×TE)) (t:TypeId) (x:Value) (h:Heap) (K:Value->Prop):Prop:=
  match tabGet T t,x with
  | some te,.pointer (some a)=>
    bif te.d.agg then vLoadN h a te.kinds 0 fun vs=>K (.agg vs.toArray)
    else match te.kinds with
      | [k]=>vLoad1 k h a K
      | _=>False
  | _,_=>False
def vB2S (x:Value) (h:Heap) (K:ByteArray->Prop):Prop:=
  match x with
  | .slice a n _=>∃ bs:List UInt8,bs.length=n/\(∀ j b,bs[j]?=some b->∃ p,a=some p/\hcell h (p.add j)=some (.int .u8 b.toNat))/\K ⟨bs.toArray⟩
  | _=>False
def ents (es:Array MapEntry):List (Value×Value):=es.toList.map fun e=>(e.key,e.val)
def hmap (h:Heap) (r:Nat):Option (List (Value×Value)):=
  match h[r]? with
  | some (.map es _)=>some (ents es)
  | _=>none
def kEq:TD->Value->Value->Option Bool
  | .int _,.int k a,.int k' b=>if k=k' then some (a==b) else none
  | .str,.string a,.string b=>some (a==b)
  | _,_,_=>none
def mGet (d:TD) (k:Value):List (Value×Value)->Option (Option Value)
  | []=>some none
  | (k',v)::r=>match kEq d k k' with
    | some true=>some (some v)
    | some false=>mGet d k r
    | none=>none
def mSet (d:TD) (k v:Value):List (Value×Value)->List (Value×Value)
  | []=>[(k,v)]
  | (k',v')::r=>match kEq d k k' with
    | some true=>(k,v)::r
    | _=>(k',v')::mSet d k v r
def isKd:TD->Bool
  | .int _|.str=>true
  | _=>false
def kOk:TD->Value->Bool
  | .int k,.int k' _=>ikEq k k'
  | .str,.string _=>true
  | _,_=>false
def exV1 (k:TK) (K:Value->Prop):Prop:=
  match k with
  | .i k=>∃ x:Int,K (.int k x)
  | .b=>∃ x:Bool,K (.bool x)
  | .s=>∃ x:ByteArray,K (.string x)
  | .p=>∃ x:Addr,K (.pointer (some x))
  | .v=>∃ x:Value,K x
def vMapGet (a:TK) (d:TD) (x k z:Value) (h:Heap) (K:Value->Prop):Prop:=
  match x with
  | .map (some r)=>∃ m o,hmap h r=some m/\mGet d k m=some o/\exV1 a fun u=>u=o.getD z/\K u
  | _=>False
def MapPut (h:Heap) (r:Nat) (m:List (Value×Value)) (a:Heap):Prop:=a.size=h.size/\(∀ b,b≠r->a[b]?=h[b]?)/\hmap a r=some m
def vMapSet (d:TD) (x k v:Value) (h:Heap) (K:Heap->Prop):Prop:=
  match x with
  | .map (some r)=>∃ m o,hmap h r=some m/\mGet d k m=some o/\∀ a,MapPut h r (mSet d k v m) a->K a
  | _=>False
def vMapNew (h:Heap) (K:Value->Heap->Prop):Prop:=∀ v a,v=.map (some h.size)->a=h.push (.map #[] 0)->K v a
theorem vMapNew.mk {h:Heap} {K:Value->Heap->Prop} (g:K (.map (some h.size)) (h.push (.map #[] 0))):vMapNew h K:=fun _ _ e a=>by subst e;subst a;exact g
def vS2B (s:ByteArray) (h:Heap) (K:Value->Heap->Prop):Prop:=
  ∀ g a,s.size<=g->ExtH h a->a.size=h.size+1->(∀ (j:Nat) b,s.data.toList[j]?=some b->hcell a ⟨h.size,j,none⟩=some (.int .u8 b.toNat))->K (.slice (some ⟨h.size,0,none⟩) s.size g) a
def vRead (C:Ctx) (o:Op) (e:Env) (h:Heap) (K:Value->Prop):Prop:=
  match o with
  | .load t a=>vLoad C.tab t (ev e a) h K
  | .lookup t x ix ok=>match tabGet C.tab t with
    | some ⟨.map kt et,_,_,_⟩=>match tabGet C.tab kt,tabGet C.tab et with
      | some kte,some ete=>bif isKd kte.d&&kOk kte.d (ev e ix)&&!ok then
          match ete.kinds,ete.zero,ete.d.agg with
          | [tk],[z],false=>vMapGet tk kte.d (ev e x) (ev e ix) z h K
          | _,_,_=>False
        else False
      | _,_=>False
    | _=>False
  | .convert src dst x=>match tabGet C.tab src,tabGet C.tab dst with
    | some ⟨.slice el,_,_,_⟩,some ⟨.str,_,_,_⟩=>match tabGet C.tab el with
      | some ⟨.int .u8,_,_,_⟩=>vB2S (ev e x) h fun s=>K (.string s)
      | _=>False
    | _,_=>False
  | _=>False
def hnew (h:Heap):Addr:=⟨h.size,0,none⟩
def vNew (h:Heap) (o:Obj) (K:Addr->Heap->Prop):Prop:=∀ a g,a=hnew h->g=h.push o->K a g
def vNewS (h:Heap) (o:Obj) (n:Nat) (K:Value->Heap->Prop):Prop:=∀ v a,v=.slice (some (hnew h)) n n->a=h.push o->K v a
theorem vNew.mk {h:Heap} {o:Obj} {K:Addr->Heap->Prop} (g:K ⟨h.size,0,none⟩ (h.push o)):vNew h o K:=fun _ _ e a=>by subst e;subst a;exact g
theorem vNewS.mk {h:Heap} {o:Obj} {n:Nat} {K:Value->Heap->Prop} (g:K (.slice (some ⟨h.size,0,none⟩) n n) (h.push o)):vNewS h o n K:=fun _ _ e a=>by subst e;subst a;exact g
def vStore1 (h:Heap) (a:Addr) (v:Value) (K:Heap->Prop):Prop:=
  v.oneCell'=true/\(∃ u,hcell h a=some u)/\hfroz h a=false/\K (hset h a v)
def vStoreN (a:Addr):List Value->Nat->Heap->(Heap->Prop)->Prop
  | [],_,h,K=>K h
  | v::r,i,h,K=>vStore1 h (a.add i) v fun g=>vStoreN a r (i+1) g K
def vStore (T:List (Nat×TE)) (t:TypeId) (x v:Value) (h:Heap) (K:Heap->Prop):Prop:=
  match tabGet T t,x with
  | some te,.pointer (some a)=>
    bif te.d.agg then
      match v with
      | .agg cs=>bif Nat.beq cs.toList.length te.size then vStoreN a cs.toList 0 h K else False
      | _=>False
    else bif Nat.beq te.size 1 then vStore1 h a v K else False
  | _,_=>False
def vBox (T:List (Nat×TE)) (t:TypeId) (v:Value) (h:Heap) (K:Addr->Heap->Prop):Prop:=
  match tabGet T t with
  | some te=>cellsAs te.d.agg v fun cs=>vNew h (.cells cs.toArray t) K
  | none=>False
def partsAll (agg:Bool) (z:Nat):List (Nat×Value)->Nat->(List Value->Prop)->Prop
  | [],_,K=>K []
  | (i,v)::r,n,K=>bif Nat.beq i n then cellsAs agg v fun cs=>bif Nat.beq cs.length z then partsAll agg z r (n+1) fun l=>K (cs++l) else False else False
def repl (n:Nat) (zero:List Value):List Value:=
  match n with
  | 0=>[]
  | n+1=>zero++repl n zero
def teGood (a:TE):Bool:=!Nat.beq a.size 0&&Nat.beq a.zero.length a.size
def vMake (bytes:Nat) (zero:List Value) (el:TypeId) (n c:Int) (h:Heap) (K:Value->Heap->Prop):Prop:=
  (0<=n/\n<=c/\c*bytes<=140737488355328/\c<=4611686018427387904)/\K (.slice (some (hnew h)) n.toNat c.toNat) (h.push (.cells (repl c.toNat zero).toArray el))
def vAppend (z bytes:Nat) (zero:List Value) (el:TypeId) (s x:Value) (h:Heap) (K:Value->Heap->Prop):Prop:=
  match s,x with
  | .slice base n c,.slice src m _=>
    ∃ old news:List Value,old.length=n*z/\news.length=m*z /\
      (∀ j u,old[j]?=some u->∃ a,base=some a/\hcell h (a.add j)=some u) /\
      (∀ j u,news[j]?=some u->∃ a,src=some a/\hcell h (a.add j)=some u) /\
      (base=none->c=0)/\(src=none->m=0) /\
      (n+m)*bytes<=140737488355328/\n+m<=4611686018427387904 /\
      (n+m<=c->∀ a,base=some a->(∀ v∈news,v.oneCell'=true)/\vStoreN (a.add (n*z)) news 0 h fun k=>K (.slice base (n+m) c) k) /\
      (n+m<=c->base=none->K (.slice none (n+m) c) h) /\
      (c<n+m->∀ g,n+m<=g->g<=9223372036854775807->K (.slice (some (hnew h)) (n+m) g) (h.push (.cells (old++news++repl (g-(n+m)) zero).toArray el)))
  | _,_=>False
def vClear (zero:List Value) (x:Value) (h:Heap) (K:Value->Heap->Prop):Prop:=
  match x with
  | .slice (some a) n _=>vStoreN a (repl n zero) 0 h (K (.tuple #[]))
  | .slice none _ _=>K (.tuple #[]) h
  | _=>False
def vCopy (z:Nat) (d s:Value) (h:Heap) (K:Value->Heap->Prop):Prop:=
  match d,s with
  | .slice base n _,.slice src m _=>
    ∃ cs:List Value,cs.length=Nat.min m n*z/\(∀ j u,cs[j]?=some u->∃ a,src=some a/\hcell h (a.add j)=some u) /\
      (base=none->K (.int .i64 (Nat.min m n)) h)/\∀ a,base=some a->vStoreN a cs 0 h (K (.int .i64 (Nat.min m n)))
  | _,_=>False
def vAppZ (z bytes:Nat) (zero:List Value) (el:TypeId) (s:Value) (x:Int) (h:Heap) (K:Value->Heap->Prop):Prop:=
  match s with
  | .slice base n c=>
    0<x/\∃ old:List Value,old.length=n*z/\(∀ j u,old[j]?=some u->∃ a,base=some a/\hcell h (a.add j)=some u) /\
      (n+x.toNat)*bytes<=140737488355328/\n+x.toNat<=4611686018427387904/\c<n+x.toNat /\
      ∀ g,n+x.toNat<=g->g<=9223372036854775807->K (.slice (some (hnew h)) (n+x.toNat) g) (h.push (.cells (old++repl x.toNat zero++repl (g-(n+x.toNat)) zero).toArray el))
  | _=>False
def vOv (g:List Value) (h:Heap) (K:Prop):Prop:=
  match g with
  | [.slice (some a) _ _,.slice (some b) _ _]=>
    ¬ a.block=b.block/\hfroz h a=false/\(∃ (cs:Array Value) (t:TypeId) (f:Nat×Nat),h[a.block]?=some (.cells cs t f)/\hfroz h ⟨a.block,cs.size,none⟩=false) /\
      (∃ (cs:Array Value) (t:TypeId) (f:Nat×Nat),h[b.block]?=some (.cells cs t f)/\cs.size≠0)/\K
  | _=>False
def exVL:List TK->(List Value->Prop)->Prop
  | [],K=>K []
  | k::r,K=>exV1 k fun v=>exVL r fun vs=>K (v::vs)
def exVC:List (Bool×List TK)->(List Value->Prop)->Prop
  | [],K=>K []
  | (agg,ks)::r,K=>
    bif agg then exVL ks fun vs=>exVC r fun l=>K (.agg vs.toArray::l)
    else match ks with
      | [k]=>exV1 k fun v=>exVC r fun l=>K (v::l)
      | _=>False
def exRS (rs:RS) (K:Value->Prop):Prop:=
  exVC rs.comps fun vs=>bif rs.tup then K (.tuple vs.toArray) else match vs with|[v]=>K v|_=>False
def opF:Operand->Option Nat
  | .func g=>some g
  | _=>none
def vFn (v:Value) (K:Nat->List Value->List Value->Prop):Prop:=
  match v with
  | .func (.func g) first captured=>K g first.toList captured.toList
  | _=>False
def vOkf (C:Ctx) (g:Nat) (A:Prop):Prop:=
  match C.okf g with
  | true=>A
  | false=>False
abbrev vOkfU (C:Ctx) (g:Nat) (A:Unit->Prop):Prop:=vOkf C g (A ())
theorem Zst {C:Ctx} {g:Nat} {A:Prop} (h:vOkf C g A):C.okf g=true/\A:=by
  unfold vOkf at h;split at h
  · rename_i h1;exact ⟨h1,h⟩
  · exact h.elim
def vCall (C:Ctx) (ty:TypeId) (f:Value) (j:List Value) (h:Heap) (K:Value->Heap->Prop):Prop:=
  vFn f fun g first a=>vOkf C g
    (CallsQ C.q C.P g (first++j++a).toArray h fun v k=>exRS (rsGet C.rs ty) fun u=>v=u/\K u k)
def vMapPut (C:Ctx) (t:TypeId) (m k x:Value) (h:Heap) (K:Value->Heap->Prop):Prop:=
  match tabGet C.tab t with
  | some ⟨.map kt _,_,_,_⟩=>match tabGet C.tab kt with
    | some kte=>bif isKd kte.d&&kOk kte.d k then vMapSet kte.d m k x h fun a=>K undef a else False
    | none=>False
  | _=>False
def vEff (C:Ctx) (o:Op) (ty:TypeId) (e:Env) (h:Heap) (K:Value->Heap->Prop):Prop:=
  match o with
  | .store t a x=>frc (evw e x) fun v=>vStore C.tab t (ev e a) v h fun j=>K undef j
  | .alloc t=>match tabGet C.tab t with
    | some te=>vNew h (.cells te.zero.toArray t) fun a j=>K (.pointer (some a)) j
    | none=>False
  | .box t x=>frc (evw e x) fun v=>vBox C.tab t v h fun a j=>K (.pointer (some a)) j
  | .buildSlice t len parts=>match tabGet C.tab t with
    | some ⟨.slice el,_,_,_⟩=>match tabGet C.tab el with
      | some te=>bif Nat.beq parts.toList.length len&&Nat.ble (len*te.size) 16777216&&!Nat.beq te.size 0 then
          evpK e parts.toList fun u=>partsAll te.d.agg te.size u 0 fun cs=>frL cs fun cs=>vNewS h (.cells cs.toArray el) len K else False
      | none=>False
    | _=>False
  | .makeSlice t l c=>match tabGet C.tab t,ev e l,ev e c with
    | some ⟨.slice el,_,_,_⟩,.int _ n,.int _ m=>match tabGet C.tab el with
      | some te=>bif teGood te then vMake te.bytes te.zero el n m h K else False
      | none=>False
    | _,_,_=>False
  | .call ⟨.builtin .append,args,argTypes⟩=>match args.toList,argTypes.toList with
    | [s,x],[t,t']=>match tabGet C.tab t,tabGet C.tab t' with
      | some ⟨.slice el,_,_,_⟩,some ⟨.slice _,_,_,_⟩=>match tabGet C.tab el with
        | some te=>bif teGood te then vAppend te.size te.bytes te.zero el (ev e s) (ev e x) h K else False
        | none=>False
      | some ⟨.slice el,_,_,_⟩,some ⟨.int _,_,_,_⟩=>match tabGet C.tab el,ev e x with
        | some te,.int _ n=>bif teGood te then vAppZ te.size te.bytes te.zero el (ev e s) n h K else False
        | _,_=>False
      | _,_=>False
    | _,_=>False
  | .call ⟨.builtin .clear,args,argTypes⟩=>match args.toList,argTypes.toList with
    | [x],[t]=>match tabGet C.tab t with
      | some ⟨.slice el,_,_,_⟩=>match tabGet C.tab el with
        | some te=>bif teGood te then vClear te.zero (ev e x) h K else False
        | none=>False
      | _=>False
    | _,_=>False
  | .call ⟨.builtin .copy,args,argTypes⟩=>match args.toList,argTypes.toList with
    | [d,x],[t,_]=>match tabGet C.tab t with
      | some ⟨.slice el,_,_,_⟩=>match tabGet C.tab el with
        | some te=>vCopy te.size (ev e d) (ev e x) h K
        | none=>False
      | _=>False
    | _,_=>False
  | .call ⟨.value f,args,_⟩=>match opF f with
    | some g=>bif inL C.ov g then vOv (evs e args.toList) h (K (.bool false) h) else evsK e args.toList fun vs=>vCall C ty (ev e f) vs h K
    | none=>evsK e args.toList fun vs=>vCall C ty (ev e f) vs h K
  | .makeMap t r=>match tabGet C.tab t with
    | some ⟨.map _ _,_,_,_⟩=>match evo e r with
      | none=>vMapNew h K
      | some (.int _ _)=>vMapNew h K
      | _=>False
    | _=>False
  | .mapUpdate t m k x=>vMapPut C t (ev e m) (ev e k) (ev e x) h K
  | .insert t m k x=>vMapPut C t (ev e m) (ev e k) (ev e x) h K
  | .convert src dst x=>match tabGet C.tab src,tabGet C.tab dst,ev e x with
    | some ⟨.str,_,_,_⟩,some ⟨.slice el,_,_,_⟩,.string s=>match tabGet C.tab el with
      | some ⟨.int .u8,_,_,_⟩=>vS2B s h K
      | _=>False
    | _,_,_=>False
  | _=>False
inductive K3 where
  | pure|read|eff
def isSl (T:List (Nat×TE)) (t:Nat):Bool:=
  match tabGet T t with
  | some ⟨.slice _,_,_,_⟩=>true
  | _=>false
def k3 (T:List (Nat×TE)):Op->K3
  | .load ..=>.read
  | .convert src dst _=>bif isSl T src then .read else bif isSl T dst then .eff else .pure
  | .lookup ..=>.read
  | .makeMap ..|.mapUpdate ..|.insert ..=>.eff
  | .store ..|.alloc ..|.box ..|.buildSlice ..|.makeSlice ..=>.eff
  | .call ⟨.builtin .len,_,_⟩=>.pure
  | .call ⟨.builtin .cap,_,_⟩=>.pure
  | .call ⟨.builtin .max,_,_⟩=>.pure
  | .call ⟨.builtin .min,_,_⟩=>.pure
  | .call _=>.eff
  | _=>.pure
def rdH (k:Kind) (a h:Heap):Heap:=
  match k with
  | .read=>a
  | _=>h
def vStep (C:Ctx) (o:Oper) (e:Env) (B:Nat->Prop) (a h:Heap) (k:Kind) (K:Value->Heap->Prop):Prop:=
  match k3 C.tab o.op with
  | .pure=>vPure C o.op e fun v=>K v h
  | .read=>vRead C o.op e (rdH k (hmask B a) h) fun v=>bif kEarly k then ExtBut B a h/\K v h else K v h
  | .eff=>vEff C o.op o.type e h fun v g=>bif kEarly k then ExtBut B a g/\K v g else K v g
def gslot (a:List Oper) (j:Nat):Option Nat:=
  match a[j]? with
  | some o=>o.dst
  | none=>none
def vG (a:List Oper) (o:Oper) (e:Env) (A B:Env->Prop):Prop:=
  match o.guard with
  | none=>A e
  | some (j,want)=>match gslot a j with
    | none=>False
    | some d=>match (e d).v with
      | .bool b=>brn b (bif want then A (upd e d (.bool true)) else B (upd e d (.bool true))) (bif want then B (upd e d (.bool false)) else A (upd e d (.bool false)))
      | .tuple _=>B e
      | _=>False
def vSq1 (C:Ctx) (a:List Oper) (o:Oper) (K:Env->Heap->Prop) (e:Env) (h:Heap):Prop:=
  vG a o e (fun e=>vStep C o e (fun _=>False) h h .fix fun v g=>K (updO e o.dst v) g) (fun e=>K (updO e o.dst undef) h)
noncomputable def vSeq (C:Ctx) (a:List Oper) (l:List Oper) (N:Env->Heap->Prop):Env->Heap->Prop:=
  List.rec (motive:=fun _=>Env->Heap->Prop) N (fun o _ g=>vSq1 C a o g) l
def k3a (T:List (Nat×TE)) (alt:List Nat) (o:Op) (i:Nat):K3:=
  match k3 T o with
  | .read=>bif hasN alt i then .eff else .read
  | k=>k
def k3s (T:List (Nat×TE)) (alt:List Nat) (a:List Oper):List K3:=a.zipIdx.map fun (o,i)=>k3a T alt o.op i
def isE:K3->Bool|.eff=>true|_=>false
def isR:K3->Bool|.read=>true|_=>false
def concR (A:List (List Nat)) (ks:List K3) (i:Nat):Bool:=
  ks.zipIdx.any fun (k,j)=>isE k&&!hasN (A.getD i []) j&&!hasN (A.getD j []) i
def concs (A:List (List Nat)) (ks:List K3):List Nat:=(ks.zipIdx.filter fun (k,i)=>isR k&&concR A ks i).map (·.2)
def waitsAll (A:List (List Nat)) (cs:List Nat) (j:Nat):Bool:=cs.all fun i=>hasN (A.getD j []) i
def kindAt (A:List (List Nat)) (ks:List K3) (cs:List Nat) (k:K3) (i:Nat):Kind:=
  match k with
  | .pure=>.pure
  | .read=>bif hasN cs i then .read else .fix
  | .eff=>bif waitsAll A cs i&&(ks.zipIdx.all fun (q,j)=>!isE q||waitsAll A cs j||hasN (A.getD i []) j) then .late else .early
def kinds (T:List (Nat×TE)) (alt:List Nat) (a:List Oper):List Kind:=
  let A:=mkA a
  let ks:=k3s T alt a
  let cs:=concs A ks
  ks.zipIdx.map fun (k,i)=>kindAt A ks cs k i
def kdOf (ks:List Kind) (i:Nat):Kind:=ks.getD i .pure
def vLx1 (C:Ctx) (g:List Oper) (ks:List Kind) (B:Nat->Prop) (a:Heap) (i:Nat) (K:Env->Heap->Prop) (e:Env) (h:Heap):Prop:=
  match g[i]? with
  | none=>K e h
  | some o=>vG g o e (fun e=>vStep C o e B a h (kdOf ks i) fun v j=>K (updO e o.dst v) j) (fun e=>K (updO e o.dst undef) h)
noncomputable def vLexI (C:Ctx) (g:List Oper) (ks:List Kind) (B:Nat->Prop) (a:Heap) (l:List Nat) (N:Env->Heap->Prop):Env->Heap->Prop:=
  List.rec (motive:=fun _=>Env->Heap->Prop) N (fun i _ j=>vLx1 C g ks B a i j) l
theorem ZGe {C:Ctx} {g:List Oper} {ks:List Kind} {B:Nat->Prop} {a:Heap} {i:Nat} {r:List Nat} {N:Env->Heap->Prop} {e:Env} {h:Heap}:vLexI C g ks B a (i::r) N e h=(match g[i]? with
  | none=>vLexI C g ks B a r N e h
  | some o=>vG g o e (fun e=>vStep C o e B a h (kdOf ks i) fun v j=>vLexI C g ks B a r N (updO e o.dst v) j) (fun e=>vLexI C g ks B a r N (updO e o.dst undef) h)):=rfl
def allE:List Nat->(Nat->Prop)->Prop
  | [],_=>True
  | [j],f=>f j
  | j::js,f=>f j/\allE js f
def vOr0 (C:Ctx) (j:List Oper) (A:List (List Nat)) (ks:List Kind) (B:Nat->Prop) (a:Heap) (g:List Nat) (N:Env->Heap->Prop) (e:Env) (h:Heap):Prop:=
  match minEff A (kdOf ks) g with
  | []=>vLexI C j ks B a g N e h
  | _=>False
def vOr1 (C:Ctx) (k:List Oper) (A:List (List Nat)) (ks:List Kind) (B:Nat->Prop) (a:Heap) (l:List Nat->(Env->Heap->Prop)->Env->Heap->Prop) (g:List Nat) (N:Env->Heap->Prop) (e:Env) (h:Heap):Prop:=
  match minEff A (kdOf ks) g with
  | []=>vLexI C k ks B a g N e h
  | js=>allE js fun j=>vLexI C k ks B a (seg A j g) (fun e h=>l (rst A j g) N e h) e h
noncomputable def vOrd (C:Ctx) (g:List Oper) (A:List (List Nat)) (ks:List Kind) (B:Nat->Prop) (a:Heap) (n:Nat):List Nat->(Env->Heap->Prop)->Env->Heap->Prop:=
  Nat.rec (motive:=fun _=>List Nat->(Env->Heap->Prop)->Env->Heap->Prop) (vOr0 C g A ks B a) (fun _ j=>vOr1 C g A ks B a j) n
def hasRE (ks:List Kind):Bool:=ks.any fun k=>kRead k||kEarly k
def OT.pre (l:List Nat):OT->OT
  | .fin l'=>.fin (l++l')
  | .sg l' t=>.sg (l++l') t
  | .both a b=>.sg l (.both a b)
  | .bad=>.sg l .bad
def allOT (f:Nat->OT) (j:Nat):List Nat->OT
  | []=>f j
  | k::js=>.both (f j) (allOT f k js)
def mkOT (A:List (List Nat)) (ks:List Kind):Nat->List Nat->OT
  | 0,rem=>match minEff A (kdOf ks) rem with
    | []=>.fin rem
    | _::_=>.bad
  | n+1,rem=>match minEff A (kdOf ks) rem with
    | []=>.fin rem
    | j::js=>allOT (fun j=>OT.pre (seg A j rem) (mkOT A ks n (rst A j rem))) j js
def lEq:List Nat->List Nat->Bool
  | [],[]=>true
  | x::r,y::s=>Nat.beq x y&&lEq r s
  | _,_=>false
def kdNat:Kind->Nat
  | .pure=>0|.fix=>1|.read=>2|.early=>3|.late=>4
def kdNats:List Kind->List Nat
  | []=>[]
  | k::r=>kdNat k::kdNats r
def kdL:List Nat->List Kind
  | []=>[]
  | n::r=>(match n with|0=>.pure|1=>.fix|2=>.read|3=>.early|_=>.late)::kdL r
def otEq:OT->OT->Bool
  | .fin l,.fin l'=>lEq l l'
  | .sg l t,.sg l' t'=>lEq l l'&&otEq t t'
  | .both a b,.both a' b'=>otEq a a'&&otEq b b'
  | _,_=>false
noncomputable def vOT (C:Ctx) (g:List Oper) (ks:List Kind) (B:Nat->Prop) (a:Heap) (N:Env->Heap->Prop) (t:OT):Env->Heap->Prop:=
  OT.rec (motive:=fun _=>Env->Heap->Prop) (fun l=>vLexI C g ks B a l N) (fun l _ it=>vLexI C g ks B a l it) (fun _ _ j k e h=>j e h/\k e h) (fun _ _=>False) t
def rgGet:List (Nat×RG)->Nat->Option RG
  | [],_=>none
  | (k,x)::r,t=>bif Nat.beq k t then some x else rgGet r t
noncomputable def vRegion (C:Ctx) (j:Option RG) (a:Array Oper) (g:Bool) (N:Env->Heap->Prop) (e:Env) (h:Heap):Prop:=
  match g with
  | false=>vSeq C a.toList a.toList N e h
  | true=>match j with
    | none=>vSeq C a.toList a.toList N e h
    | some ⟨ks,t,b⟩=>match b with
      | true=>∃ B:Nat->Prop,vOT C a.toList ks B h N t e h
      | false=>vOT C a.toList ks (fun _=>False) h N t e h
def rgOk (C:Ctx) (alt:List Nat) (g:Option RG) (a:Array Oper):Bool:=
  lexOk a (kdOf (kinds C.tab alt a.toList)) &&
  (let ks:=kinds C.tab alt a.toList
   let t:=mkOT (mkA a.toList) ks a.toList.length (List.range a.toList.length)
   match g with
   | none=>!hasRE ks&&otEq t (.fin (List.range a.toList.length))
   | some ⟨ks',t',b⟩=>otEq t t'&&(match b with|true=>lEq (kdNats ks) (kdNats ks')|false=>!hasRE ks&&!hasRE ks'))
def wrOps:List Oper->List Nat
  | []=>[]
  | o::r=>match o.dst with
    | some d=>d::wrOps r
    | none=>wrOps r
def wr:Code->List Nat
  | .region _ ops _=>wrOps ops.toList
  | .seq a b=>wr a++wr b
  | .cond _ x y=>wr x++wr y
  | .block _ c=>wr c
  | .loop c=>wr c
  | _=>[]
def rid:Code->Option Nat
  | .region i _ _=>some i
  | .seq a b=>match rid a with
    | some i=>some i
    | none=>rid b
  | .block _ c=>rid c
  | .loop c=>rid c
  | .cond _ x y=>match rid x with
    | some i=>some i
    | none=>rid y
  | _=>none
def ldep:Code->Nat
  | .seq a b=>match rid a with
    | some _=>ldep a
    | none=>ldep b
  | .block _ c=>ldep c
  | .loop c=>ldep c+1
  | .cond _ x y=>match rid x with
    | some _=>ldep x
    | none=>ldep y
  | _=>0
def lkey (c:Code):Option Nat:=
  match rid c with
  | some k=>some (k+4096*ldep c)
  | none=>none
def JT:List TK->Type
  | []=>Heap->Prop
  | .i _::r=>Int->JT r
  | .b::r=>Bool->JT r
  | .s::r=>ByteArray->JT r
  | .p::r=>Addr->JT r
  | .v::r=>Value->JT r
def apJ:(ks:List TK)->JT ks->List Value->Heap->Prop
  | [],j,_,h=>j h
  | .i k::r,j,v::vs,h=>match v with
    | .int k' x=>bif ikEq k' k then apJ r (j x) vs h else False
    | _=>False
  | .b::r,j,v::vs,h=>match v with
    | .bool x=>apJ r (j x) vs h
    | _=>False
  | .s::r,j,v::vs,h=>match v with
    | .string x=>apJ r (j x) vs h
    | _=>False
  | .p::r,j,v::vs,h=>match v with
    | .pointer (some x)=>apJ r (j x) vs h
    | _=>False
  | .v::r,j,v::vs,h=>apJ r (j v) vs h
  | _::_,_,[],_=>False
def allJ:(ks:List TK)->JT ks->(List Value->Heap->Prop)->Prop
  | [],j,Φ=>∀ h,j h->Φ [] h
  | .i k::r,j,Φ=>∀ x:Int,allJ r (j x) fun vs h=>Φ (.int k x::vs) h
  | .b::r,j,Φ=>∀ x:Bool,allJ r (j x) fun vs h=>Φ (.bool x::vs) h
  | .s::r,j,Φ=>∀ x:ByteArray,allJ r (j x) fun vs h=>Φ (.string x::vs) h
  | .p::r,j,Φ=>∀ x:Addr,allJ r (j x) fun vs h=>Φ (.pointer (some x)::vs) h
  | .v::r,j,Φ=>∀ x:Value,allJ r (j x) fun vs h=>Φ (x::vs) h
def lookupL:List (Nat×TK)->List Value->Nat->Option Value
  | (d,_)::L,v::vs,i=>bif Nat.beq i d then some v else lookupL L vs i
  | _,_,_=>none
def mix (e:Env) (W:List Nat) (a:Env) (L:List (Nat×TK)) (vs:List Value):Env:=fun i=>
  match lookupL L vs i with
  | some v=>.mk v
  | none=>bif hasN W i then a i else e i
def tks:List (Nat×TK)->List TK
  | []=>[]
  | (_,k)::r=>k::tks r
def evL (e:Env):List (Nat×TK)->List Value
  | []=>[]
  | (d,_)::r=>(e d).v::evL e r
def evLK (e:Env):List (Nat×TK)->(List Value->Prop)->Prop
  | [],K=>K []
  | (d,_)::r,K=>frc (e d) fun v=>evLK e r fun vs=>K (v::vs)
theorem ZiY (e:Env):∀ (L:List (Nat×TK)) (K:List Value->Prop),evLK e L K=K (evL e L)
  | [],_=>rfl
  | (d,_)::r,K=>by unfold evLK;rw [ZbZ,ZiY e r];rfl
theorem Zge (e:Env):∀ (L:List Operand) (K:List Value->Prop),evsK e L K=K (evs e L)
  | [],_=>rfl
  | x::r,K=>by unfold evsK;rw [ZbZ,Zge e r];rfl
theorem ZmI (e:Env):∀ (L:List (Nat×Operand)) (K:List (Nat×Value)->Prop),evpK e L K=K (evp e L)
  | [],_=>rfl
  | (i,x)::r,K=>by unfold evpK;rw [ZbZ,ZmI e r];rfl
def altGet:List (Nat×List Nat)->Nat->List Nat
  | [],_=>[]
  | (k,x)::r,t=>bif Nat.beq k t then x else altGet r t
abbrev VT:Type:=(Env->Heap->Prop)->(Nat->Env->Heap->Prop)->(Env->Heap->Prop)->Env->Heap->Prop
def vcSq (A:Ann) (a b:Code) (o r:VT):VT:=fun N X R e h=>
  match (match rid b with|some k=>annGet A.cuts k|none=>none) with
  | some L=>∃ J:JT (tks L),o (fun j g=>evLK j L fun vs=>apJ (tks L) J vs g) X R e h /\
      ∀ l:Env,allJ (tks L) J fun vs g=>r N X R (mix e (wr a) l L vs) g
  | none=>o (fun j g=>r N X R j g) X R e h
def vcCd (c:Operand) (ix a:VT):VT:=fun N X R e h=>
  match ev e c with
  | .bool t=>brn t (ix N X R e h) (a N X R e h)
  | _=>False
def vcBk (id:Nat) (j:VT):VT:=fun N X R e h=>j N (fun i a g=>bif Nat.beq i id then N a g else X i a g) R e h
def vcLp (A:Ann) (c:Code) (l:VT):VT:=fun _ X R e h=>
  match (match lkey c with|some k=>annGet A.loops k|none=>none) with
  | some L=>∃ J:Nat->JT (tks L),(∃ n,evLK e L fun vs=>apJ (tks L) (J n) vs h) /\
      ∀ n,∀ a:Env,allJ (tks L) (J n) fun vs o=>l (fun g j=>∃ m,m<n/\evLK g L fun vs=>apJ (tks L) (J m) vs j) X R (mix e (wr c) a L vs) o
  | none=>False
noncomputable def vc (C:Ctx) (A:Ann) (c:Code):VT:=
  Code.rec (motive:=fun _=>VT) (fun N _ _ e h=>N e h) (fun id k j N _ _ e h=>vRegion C (rgGet A.regs id) k j N e h)
    (fun a b l r=>vcSq A a b l r) (fun c _ _ ix o=>vcCd c ix o) (fun id _ g=>vcBk id g) (fun c g=>vcLp A c g)
    (fun _ _ _ _ _ _ _ _ _ _ _=>False) (fun id _ X _ e h=>X id e h) (fun _ _ _ _ _ _ _=>False) (fun _ _ _ _ _ _=>False) (fun _ _ _ _ _ _=>False)
    (fun _ _ R e h=>R e h) (fun _ _ _ _ _ _=>False) c
section
variable {C:Ctx} {A:Ann} {N:Env->Heap->Prop} {X:Nat->Env->Heap->Prop} {R:Env->Heap->Prop} {e:Env} {h:Heap}
theorem ZFV {a b:Code}:vc C A (.seq a b) N X R e h=(match (match rid b with|some k=>annGet A.cuts k|none=>none) with
    | some L=>∃ J:JT (tks L),vc C A a (fun j g=>evLK j L fun vs=>apJ (tks L) J vs g) X R e h /\
        ∀ l:Env,allJ (tks L) J fun vs g=>vc C A b N X R (mix e (wr a) l L vs) g
    | none=>vc C A a (fun j g=>vc C A b N X R j g) X R e h):=rfl
theorem ZBu {c:Operand} {x y:Code}:vc C A (.cond c x y) N X R e h=(match ev e c with
    | .bool t=>brn t (vc C A x N X R e h) (vc C A y N X R e h)
    | _=>False):=rfl
theorem Zx8 {id:Nat} {c:Code}:vc C A (.block id c) N X R e h=vc C A c N (fun i a g=>bif Nat.beq i id then N a g else X i a g) R e h:=rfl
theorem ZHR {c:Code}:vc C A (.loop c) N X R e h=(match (match lkey c with|some k=>annGet A.loops k|none=>none) with
    | some L=>∃ J:Nat->JT (tks L),(∃ n,evLK e L fun vs=>apJ (tks L) (J n) vs h) /\
        ∀ n,∀ a:Env,allJ (tks L) (J n) fun vs l=>vc C A c (fun g j=>∃ m,m<n/\evLK g L fun vs=>apJ (tks L) (J m) vs j) X R (mix e (wr c) a L vs) l
    | none=>False):=rfl
end
def vRes (C:Ctx) (e:Env) (h:Heap):List ResultVar->(List Value->Prop)->Prop
  | [],K=>K []
  | .tmp t::r,K=>frc (e t) fun v=>vRes C e h r fun vs=>K (v::vs)
  | .cell a t::r,K=>vLoad C.tab t (e a).v h fun v=>vRes C e h r fun vs=>K (v::vs)
def vRet (C:Ctx) (rs:List ResultVar) (R:Value->Heap->Prop) (e:Env) (h:Heap):Prop:=
  vRes C e h rs fun vs=>match vs with
    | [v]=>R v h
    | l=>R (.tuple l.toArray) h
def env0 (a:List Value):Env:=fun i=>match a[i]? with
  | some v=>.mk v
  | none=>.mk undef
noncomputable def vcFn (C:Ctx) (A:Ann) (fn:Func) (a:List Value) (h:Heap) (R:Value->Heap->Prop):Prop:=
  match fn.body with
  | some c=>vc C A c (vRet C fn.results.toList R) (fun _ _ _=>False) (vRet C fn.results.toList R) (env0 a) h
  | none=>False
def ldI (k:IntKind) (h:Heap) (a:Addr) (K:Int->Prop):Prop:=∃ x:Int,hcell h a=some (.int k x)/\K x
def ldB (h:Heap) (a:Addr) (K:Bool->Prop):Prop:=∃ x:Bool,hcell h a=some (.bool x)/\K x
def ldS (h:Heap) (a:Addr) (K:ByteArray->Prop):Prop:=∃ x:ByteArray,hcell h a=some (.string x)/\K x
def ldP (h:Heap) (a:Addr) (K:Addr->Prop):Prop:=∃ x:Addr,hcell h a=some (.pointer (some x))/\K x
def ldV (h:Heap) (a:Addr) (K:Value->Prop):Prop:=∃ x:Value,hcell h a=some x/\K x
def mapGetB (d:TD) (x k:Value) (h:Heap) (K:Bool->Prop):Prop:=
  match x with
  | .map (some r)=>∃ m o,hmap h r=some m/\mGet d k m=some o/\∃ b:Bool,.bool b=o.getD (.bool false)/\K b
  | _=>False
end Go.Vc
