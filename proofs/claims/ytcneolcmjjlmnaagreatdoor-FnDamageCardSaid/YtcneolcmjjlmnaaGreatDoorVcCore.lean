import Derived.Deep.LoopGhost
import Derived.Test.YtcneolcmjjlmnaaGreatDoorVcOrder
open Nat renaming beq->Jv,ble->JJ,min->Yn
open List renaming range->Xi,length->Jk
open Option renaming some->Jg,none->Jh
open Bool renaming true->Ji,false->Jj
open Go renaming Value->Jl
namespace Go.Vc
set_option linter.unusedVariables false
set_option linter.unusedSimpArgs false
open Go
abbrev Heap:=Array Obj
inductive Wv where
  | mk (v:Jl)
def Wv.v:Wv->Jl
  | .mk v=>v
@[simp] theorem Wv.v_mk (v:Jl):(Wv.mk v).v=v:=rfl
abbrev Env:=Nat->Wv
def frc (w:Wv) (K:Jl->Prop):Prop:=
  match w with
  | .mk v=>K v
theorem Zch (w:Wv) (K:Jl->Prop):frc w K=K w.v:=by cases w;rfl
def hcell (h:Heap) (a:Addr):Jm Value:=
  match h[a.block]? with
  | some (.cells c _ _)=>if a.spot.isSome then Jh else c[a.off]?
  | _=>Jh
def hfroz (h:Heap) (a:Addr):Bool:=
  match h[a.block]? with
  | some (.cells _ _ (lo,hi))=>lo<=a.off&&a.off<hi
  | _=>Jj
def hset (h:Heap) (a:Addr) (v:Jl):Heap:=
  h.modify a.block λ
      | .cells c elem frozen=>.cells (if a.spot.isSome then c else c.setIfInBounds a.off v) elem frozen
      | o=>o
def ExtH (h g:Heap):Prop:=h.size<=g.size/\∀b,b<h.size->g[b]?=h[b]?
def ExtBut (B:Nat->Prop) (h g:Heap):Prop:=h.size<=g.size/\∀b,b<h.size->¬B b->g[b]?=h[b]?
open Classical in
noncomputable def hmask (B:Nat->Prop) (h:Heap):Heap:=h.mapIdx λi o=>if B i then .cells #[] 0 else o
def Rest (w w':World):Prop:=w'.tape=w.tape/\w'.os=w.os/\w'.output=w.output/\w.drawn<=w'.drawn
def RestQ (q:Prop) (w w':World):Prop:=w'.tape=w.tape/\w'.os=w.os/\w'.output=w.output/\(q->w.drawn<=w'.drawn)
theorem Rest.q {q:Prop} {w w':World} (h:Rest w w'):RestQ q w w':=⟨h.1,h.2.1,h.2.2.1,λ_=>h.2.2.2⟩
def CallsQ (q:Prop) (P:Program) (f:FuncId) (g:Array Jl) (h:Heap) (R:Jl->Heap->Prop):Prop:=
  ∀w:World,w.heap=h->Calls P f g w λe w'=>∃v,e=.returned v/\RestQ q w w'/\R v w'.heap
abbrev CallsH (P:Program) (f:FuncId) (args:Array Jl) (h:Heap) (R:Jl->Heap->Prop):Prop:=CallsQ False P f args h R
inductive TK where
  | i (k:IntKind)|b|s|p|v
inductive TD where
  | bool|int (k:IntKind)|str|slice (e:Nat)|struct (fs:List (Nat×Nat×Bool))|arr (n e:Nat)|ptr|oth|map (k e:Nat)|iface
def TD.agg:TD->Bool
  | .struct _|.arr _ _=>Ji
  | _=>Jj
structure TE where
  d:TD
  kinds:List TK
  zero:Jc
  bytes:Nat
def TE.size (g:TE):Nat:=g.kinds.length
def isAggD:TypeDesc->Bool
  | .struct _|.array _ _=>Ji
  | _=>Jj
def fsz (P:Program) (t:TypeId):Nat:=
  match P.underlying t,P.info? t with
  | some _,Jg i=>i.size
  | _,_=>0
def tdOf (P:Program) (t:TypeId):TD:=
  match P.underlying t with
  | some .bool=>.bool
  | some (.int k)=>.int k
  | some .string=>.str
  | some (.slice e)=>.slice e
  | some (.pointer _)=>.ptr
  | some (.map k e)=>.map k e
  | some (.interface _)=>.iface
  | some (.array n e)=>.arr n e
  | some (.struct fs)=>.struct (fs.toList.map λf=>(f.offset,fsz P f.type,((P.underlying f.type).map isAggD).getD Ji))
  | _=>.oth
def zFlat:Jm Jl->Bool
  | some (.agg _)=>Jj
  | _=>Ji
def TeOk (P:Program) (t:TypeId) (g:TE):Prop:=
  tdOf P t=g.d/\(P.info? t).map (λi=>(i.size,i.bytes,i.zero.map (·.cells.toList)))=Jg (Jk g.kinds,g.bytes,Jg g.zero)/\(P.underlying t).isSome=Ji/\(g.d.agg||zFlat ((P.info? t).bind (·.zero)))=Ji
def tabGet:List (Nat×TE)->Nat->Jm TE
  | [],_=>Jh
  | (k,x)::r,t=>bif Jv k t then Jg x else tabGet r t
structure RS where
  tup:Bool
  comps:List (Bool×List TK)
def rsGet:List (Nat×RS)->Nat->RS
  | [],_=>⟨Jj,[(Jj,[.v])]⟩
  | (k,x)::r,t=>bif Jv k t then x else rsGet r t
def annGet:List (Nat×List (Nat×TK))->Nat->Jm (List (Nat×TK))
  | [],_=>Jh
  | (k,x)::r,t=>bif Jv k t then Jg x else annGet r t
structure Ctx where
  P:Program
  tab:List (Nat×TE)
  rs:List (Nat×RS)
  lo:Nat
  nf:Nat
  ex:List Nat
  ov:List Nat
  eq2:List Nat
  q:Prop
def inL:List Nat->Nat->Bool
  | [],_=>Jj
  | x::r,g=>bif Jv x g then Ji else inL r g
def Ctx.okf (C:Ctx) (g:Nat):Bool:=JJ C.lo g&&Nat.blt g C.nf&&!(inL C.ex g)
inductive OT where
  | fin (l:List Nat)
  | sg (l:List Nat) (t:OT)
  | both (a b:OT)
  | bad
structure RG where
  ks:List Kind
  t:OT
  b:Bool
structure Ann where
  loops:List (Nat×List (Nat×TK))
  cuts:List (Nat×List (Nat×TK))
  alts : List (Nat × List Nat)   -- reads that stand in the order of the effects
  regs : List (Nat × RG)         -- regions whose operations don't come in their order
def ikNat:IntKind->Nat
  | .i8=>0|.i16=>1|.i32=>2|.i64=>3|.u8=>4|.u16=>5|.u32=>6|.u64=>7
def ikEq (a b:IntKind):Bool:=Jv (ikNat a) (ikNat b)
def evw (e:Env):Operand->Wv
  | .tmp t=>e t
  | .const v=>.mk v
  | .global g=>.mk (.pointer (Jg ⟨g,0,Jh⟩))
  | .func f=>.mk (.func (.func f) #[] #[])
def ev (e:Env) (x:Operand):Value:=(evw e x).v
theorem ZDD (e:Env) (x:Operand) (K:Jl->Prop):frc (evw e x) K=K (ev e x):=Zch _ _
def evsK (e:Env):List Operand->(Jc->Prop)->Prop
  | [],K=>K []
  | x::r,K=>frc (evw e x) λv=>evsK e r λvs=>K (v::vs)
def evpK (e:Env):List (Nat×Operand)->(List (Nat×Jl)->Prop)->Prop
  | [],K=>K []
  | (i,x)::r,K=>frc (evw e x) λv=>evpK e r λvs=>K ((i,v)::vs)
def evs (e:Env):List Operand->Jc
  | []=>[]
  | x::r=>ev e x::evs e r
def evo (e:Env):Jm Operand->Jm Jl
  | some x=>Jg (ev e x)
  | none=>Jh
def upd (e:Env) (d:Nat) (v:Jl):Env:=λi=>bif Jv i d then .mk v else e i
def updO (e:Env) (d:Jm Nat) (v:Jl):Env:=
  match d with
  | some d=>upd e d v
  | none=>e
abbrev brn (c:Bool) (A B:Prop):Prop:=
  match c with
  | true=>A
  | false=>B
def binI (g:BinOp) (k:IntKind) (a b:Int) (K:Jl->Prop):Prop:=
  match g with
  | .add=>K (.int k (k.wrap (a+b)))
  | .sub=>K (.int k (k.wrap (a-b)))
  | .mul=>K (.int k (k.wrap (a*b)))
  | .quo=>b≠0/\K (.int k (k.wrap (a.tdiv b)))
  | .rem=>b≠0/\K (.int k (a.tmod b))
  | .eql=>K (.bool (a==b))
  | .neq=>K (.bool (a !=b))
  | .lss=>K (.bool (decide (a<b)))
  | .leq=>K (.bool (decide (a<=b)))
  | .gtr=>K (.bool (decide (a>b)))
  | .geq=>K (.bool (decide (a>=b)))
  | .and=>K (.int k (k.wrap (BitVec.ofInt k.bits a&&&BitVec.ofInt k.bits b).toNat))
  | .or=>K (.int k (k.wrap (BitVec.ofInt k.bits a ||| BitVec.ofInt k.bits b).toNat))
  | .xor=>K (.int k (k.wrap (BitVec.ofInt k.bits a^^^BitVec.ofInt k.bits b).toNat))
  | _=>False
def binS (g:BinOp) (a b:Jd) (K:Jl->Prop):Prop:=
  match g with
  | .add=>((a.size+b.size:Nat):Int)<=IntKind.i64.max/\K (.string (a++b))
  | .eql=>K (.bool (a.toList==b.toList))
  | .neq=>K (.bool (!(a.toList==b.toList)))
  | .lss=>K (.bool (Op.bytesLess a.toList b.toList))
  | .leq=>K (.bool (Op.bytesLess a.toList b.toList||a.toList==b.toList))
  | .gtr=>K (.bool (!(Op.bytesLess a.toList b.toList||a.toList==b.toList)))
  | .geq=>K (.bool (!Op.bytesLess a.toList b.toList))
  | _=>False
def binB (g:BinOp) (a b:Bool) (K:Jl->Prop):Prop:=
  match g with
  | .eql=>K (.bool (a==b))
  | .neq=>K (.bool (!(a==b)))
  | _=>False
def vNilS (neg:Bool) (x:Jl) (K:Bool->Prop):Prop:=
  match x with
  | .slice a _ _=>K (neg !=a.isNone)
  | _=>False
def isNilC:Operand->Bool
  | .const (.slice Jh _ _)=>Ji
  | _=>Jj
def vNilI (neg:Bool) (x:Jl) (K:Bool->Prop):Prop:=
  match x with
  | .nilIface=>K (!neg)
  | .iface _ _=>K neg
  | _=>False
def isNilI:Operand->Bool
  | .const .nilIface=>Ji
  | _=>Jj
def eq2K (j:BinOp) (xs g:Jc) (K:Jl->Prop):Prop:=
  match xs,g with
  | [.int .i64 a,.int .i64 b],[.int .i64 c,.int .i64 d]=>match j with
    | .eql=>K (.bool (a==c&&b==d))
    | .neq=>K (.bool (!(a==c&&b==d)))
    | _=>False
  | _,_=>False
def vBin (T:List (Nat×TE)) (Q:List Nat) (g:BinOp) (t:TypeId) (j l:Operand) (e:Env) (K:Jl->Prop):Prop:=
  bif isNilI l then
    match tabGet T t,g with
    | some ⟨.iface,_,_,_⟩,.eql=>vNilI Jj (ev e j) λb=>K (.bool b)
    | some ⟨.iface,_,_,_⟩,.neq=>vNilI Ji (ev e j) λb=>K (.bool b)
    | _,_=>False
  else
  bif isNilC l then
    match tabGet T t,g with
    | some ⟨.slice _,_,_,_⟩,.eql=>vNilS Jj (ev e j) λb=>K (.bool b)
    | some ⟨.slice _,_,_,_⟩,.neq=>vNilS Ji (ev e j) λb=>K (.bool b)
    | _,_=>False
  else
  match ev e j,ev e l with
  | .int k a,.int k' b=>match g with
    | .shl=>0<=b/\K (.int k (k.wrap (a*2^min b.toNat k.bits)))
    | .shr=>0<=b/\K (.int k (a.fdiv (2^min b.toNat k.bits)))
    | _=>bif ikEq k k' then binI g k a b K else False
  | .string a,.string b=>binS g a b K
  | .bool a,.bool b=>
    match tabGet T t with
    | some ⟨.bool,_,_,_⟩=>binB g a b K
    | _=>False
  | .agg xs,.agg ys=>bif inL Q t then eq2K g xs.toList ys.toList K else False
  | _,_=>False
def vLen (x:Jl) (K:Nat->Prop):Prop:=
  match x with
  | .slice _ n _=>K n
  | _=>False
def vCap (x:Jl) (K:Nat->Prop):Prop:=
  match x with
  | .slice _ _ c=>K c
  | _=>False
def vIdx (x:Jl) (i:Int) (z:Nat) (K:Addr->Prop):Prop:=
  match x with
  | .slice (Jg a) n _=>(0<=i/\i<n)/\K (a.add (i.toNat*z))
  | _=>False
def vStrIdx (s:Jd) (i:Int) (K:UInt8->Prop):Prop:=
  ∃b:UInt8,0<=i/\s[i.toNat]?=Jg b/\K b
def vBound (x:Jm Jl) (g y:Nat) (K:Nat->Prop):Prop:=
  match x with
  | none=>K g
  | some (.int _ i)=>(0<=i/\i<=y)/\K i.toNat
  | _=>False
def vSliceS (x:Jl) (z:Nat) (lo hi mx:Jm Jl) (K:Jl->Prop):Prop:=
  match x with
  | .slice a n c=>vBound mx c c λm=>vBound hi n m λg=>vBound lo 0 g λl=>
      K (.slice (bif Jv m l then a else a.map (·.add (l*z))) (g-l) (m-l))
  | _=>False
def vSliceStr (s:Jd) (lo hi:Jm Jl) (K:Jd->Prop):Prop:=
  vBound hi s.size s.size λg=>vBound lo 0 g λl=>K (s.extract l g)
def evp (e:Env):List (Nat×Operand)->List (Nat×Jl)
  | []=>[]
  | (i,x)::r=>(i,ev e x)::evp e r
def vOne (v:Jl) (A:Prop):Prop:=
  match v.oneCell' with
  | true=>A
  | false=>False
def frL:Jc->(Jc->Prop)->Prop
  | [],K=>K []
  | x::r,K=>frL r λl=>K (x::l)
theorem Zfq:∀(l:Jc) (K:Jc->Prop),frL l K=K l
  | [],_=>rfl
  | x::r,K=>by unfold frL;rw [Zfq r]
def cellsAs (agg:Bool) (v:Jl) (K:Jc->Prop):Prop:=
  bif agg then match v with|.agg cs=>frL cs.toList K|_=>False
  else vOne v (K [v])
def setAt (g:Jc) (off:Nat) (cs:Jc):Jc:=g.take off++cs++g.drop (off+Jk cs)
def buildAt (j:List (Nat×Nat×Bool)) (g:Jc):List (Nat×Jl)->(Jc->Prop)->Prop
  | [],K=>frL g K
  | (i,v)::r,K=>match j[i]? with
    | some (off,size,agg)=>cellsAs agg v λcs=>bif Jv (Jk cs) size&&JJ (off+size) (Jk g) then buildAt j (setAt g off cs) r K else False
    | none=>False
def allPos:List (Nat×Nat×Bool)->Bool
  | []=>Ji
  | (_,z,_)::r=>!Nat.beq z 0&&allPos r
def vField (g:List (Nat×Nat×Bool)) (f:Nat) (x:Jl) (K:Jl->Prop):Prop:=
  match g[f]?,x with
  | some (off,size,agg),.agg cs=>bif agg then (bif Jv size 0 then False else frL ((cs.toList.drop off).take size) λl=>K (.agg l.toArray)) else match cs.toList[off]? with|some v=>K v|none=>False
  | _,_=>False
def vNilQ (x:Jl) (j:FuncId->Array Jl->Array Jl->Prop) (g:Addr->Prop):Prop:=
  match x with
  | .pointer (Jg a)=>g a
  | .func (.func f) a b=>j f a b
  | _=>False
def vPure (C:Ctx) (o:Op) (e:Env) (K:Jl->Prop):Prop:=
  match o with
  | .move x=>frc (evw e x) K
  | .assign x=>frc (evw e x) K
  | .pick c a b=>match ev e c with
    | .bool t=>brn t (frc (evw e a) K) (frc (evw e b) K)
    | _=>False
  | .binOp op t x y _=>vBin C.tab C.eq2 op t x y e K
  | .unOp op _ x=>match op,ev e x with
    | .not,.bool b=>K (.bool (!b))
    | .neg,.int k n=>K (.int k (k.wrap (0-n)))
    | _,_=>False
  | .convert src dst x=>match tabGet C.tab src,tabGet C.tab dst,ev e x with
    | some ⟨.int _,_,_,_⟩,Jg ⟨.int k,_,_,_⟩,.int _ n=>K (.int k (k.wrap n))
    | some ⟨.str,_,_,_⟩,Jg ⟨.str,_,_,_⟩,.string s=>K (.string s)
    | _,_,_=>False
  | .nilCheck x=>vNilQ (ev e x) (λf a b=>K (.func (.func f) a b)) (λa=>K (.pointer (Jg a)))
  | .fieldAddr s x f=>match tabGet C.tab s,ev e x with
    | some ⟨.struct fs,_,_,_⟩,.pointer (Jg a)=>match fs[f]? with
      | some (off,size,_)=>bif Jv size 0 then False else K (.pointer (Jg (a.add off)))
      | none=>False
    | _,_=>False
  | .field s x f=>match tabGet C.tab s with
    | some ⟨.struct fs,_,_,_⟩=>vField fs f (ev e x) K
    | _=>False
  | .indexAddr t x ix=>match tabGet C.tab t,ev e ix with
    | some ⟨.slice el,_,_,_⟩,.int _ i=>match tabGet C.tab el with
      | some te=>vIdx (ev e x) i te.size λa=>K (.pointer (Jg a))
      | none=>False
    | _,_=>False
  | .index t x ix=>match tabGet C.tab t,ev e x,ev e ix with
    | some ⟨.str,_,_,_⟩,.string s,.int _ i=>vStrIdx s i λb=>K (.int .u8 b.toNat)
    | _,_,_=>False
  | .slice t x lo hi mx=>match tabGet C.tab t with
    | some ⟨.slice el,_,_,_⟩=>match tabGet C.tab el with
      | some te=>bif mx.isSome&&hi.isNone then False else vSliceS (ev e x) te.size (evo e lo) (evo e hi) (evo e mx) K
      | none=>False
    | some ⟨.str,_,_,_⟩=>match ev e x with
      | .string s=>bif mx.isSome then False else vSliceStr s (evo e lo) (evo e hi) λx=>K (.string x)
      | _=>False
    | _=>False
  | .extract x ix=>match ev e x with
    | .tuple vs=>match vs.toList[ix]? with
      | some v=>K v
      | none=>False
    | _=>False
  | .makeFunc fn first captured=>evsK e first.toList λxs=>evsK e captured.toList λg=>K (.func fn xs.toArray g.toArray)
  | .build t parts=>match tabGet C.tab t with
    | some ⟨.struct fs,_,zero,_⟩=>bif allPos fs then evpK e parts.toList λj=>buildAt fs zero j λcs=>K (.agg cs.toArray) else False
    | _=>False
  | .call ⟨.builtin .len,args,argTypes⟩=>match args.toList,argTypes.toList with
    | [x],[t]=>match tabGet C.tab t with
      | some ⟨.slice _,_,_,_⟩=>vLen (ev e x) λn=>K (.int .i64 n)
      | some ⟨.str,_,_,_⟩=>match ev e x with
        | .string s=>K (.int .i64 s.size)
        | _=>False
      | _=>False
    | _,_=>False
  | .call ⟨.builtin .cap,args,argTypes⟩=>match args.toList,argTypes.toList with
    | [x],[t]=>match tabGet C.tab t with
      | some ⟨.slice _,_,_,_⟩=>vCap (ev e x) λn=>K (.int .i64 n)
      | _=>False
    | _,_=>False
  | .call ⟨.builtin .max,args,_⟩=>match args.toList with
    | [x,y]=>match ev e x,ev e y with
      | .int k a,.int _ b=>K (.int k (if b>a then b else a))
      | _,_=>False
    | _=>False
  | .call ⟨.builtin .min,args,_⟩=>match args.toList with
    | [x,y]=>match ev e x,ev e y with
      | .int k a,.int _ b=>K (.int k (if b<a then b else a))
      | _,_=>False
    | _=>False
  | _=>False
def vLoad1 (k:TK) (h:Heap) (a:Addr) (K:Jl->Prop):Prop:=
  match k with
  | .i k=>∃x:Int,hcell h a=Jg (.int k x)/\K (.int k x)
  | .b=>∃x:Bool,hcell h a=Jg (.bool x)/\K (.bool x)
  | .s=>∃x:Jd,hcell h a=Jg (.string x)/\K (.string x)
  | .p=>∃x:Addr,hcell h a=Jg (.pointer (Jg x))/\K (.pointer (Jg x))
  | .v=>∃x:Jl,hcell h a=Jg x/\K x
def vLoadN (h:Heap) (a:Addr):List TK->Nat->(Jc->Prop)->Prop
  | [],_,K=>K []
  | k::ks,i,K=>vLoad1 k h (a.add i) λv=>vLoadN h a ks (i+1) λvs=>K (v::vs)
def vLoad (T:List (Nat×TE)) (t:TypeId) (x:Jl) (h:Heap) (K:Jl->Prop):Prop:=
  match tabGet T t,x with
  | some te,.pointer (Jg a)=>
    bif te.d.agg then vLoadN h a te.kinds 0 λvs=>K (.agg vs.toArray)
    else match te.kinds with
      | [k]=>vLoad1 k h a K
      | _=>False
  | _,_=>False
def vB2S (x:Jl) (h:Heap) (K:Jd->Prop):Prop:=
  match x with
  | .slice a n _=>∃bs:List UInt8,Jk bs=n/\(∀j b,bs[j]?=Jg b->∃p,a=Jg p/\hcell h (p.add j)=Jg (.int .u8 b.toNat))/\K ⟨bs.toArray⟩
  | _=>False
def ents (es:Array MapEntry):List (Jl×Jl):=es.toList.map λe=>(e.key,e.val)
def hmap (h:Heap) (r:Nat):Jm (List (Jl×Jl)):=
  match h[r]? with
  | some (.map es _)=>Jg (ents es)
  | _=>Jh
def kEq:TD->Jl->Jl->Jm Bool
  | .int _,.int k a,.int k' b=>if k=k' then Jg (a==b) else Jh
  | .str,.string a,.string b=>Jg (a==b)
  | _,_,_=>Jh
def mGet (d:TD) (k:Jl):List (Jl×Jl)->Jm (Jm Jl)
  | []=>Jg Jh
  | (k',v)::r=>match kEq d k k' with
    | some Ji=>Jg (Jg v)
    | some Jj=>mGet d k r
    | none=>Jh
def mSet (d:TD) (k v:Jl):List (Jl×Jl)->List (Jl×Jl)
  | []=>[(k,v)]
  | (k',v')::r=>match kEq d k k' with
    | some Ji=>(k,v)::r
    | _=>(k',v')::mSet d k v r
def isKd:TD->Bool
  | .int _|.str=>Ji
  | _=>Jj
def kOk:TD->Jl->Bool
  | .int k,.int k' _=>ikEq k k'
  | .str,.string _=>Ji
  | _,_=>Jj
def exV1 (k:TK) (K:Jl->Prop):Prop:=
  match k with
  | .i k=>∃x:Int,K (.int k x)
  | .b=>∃x:Bool,K (.bool x)
  | .s=>∃x:Jd,K (.string x)
  | .p=>∃x:Addr,K (.pointer (Jg x))
  | .v=>∃x:Jl,K x
def vMapGet (g:TK) (d:TD) (x k z:Jl) (h:Heap) (K:Jl->Prop):Prop:=
  match x with
  | .map (Jg r)=>∃m o,hmap h r=Jg m/\mGet d k m=Jg o/\exV1 g λu=>u=o.getD z/\K u
  | _=>False
def MapPut (h:Heap) (r:Nat) (m:List (Jl×Jl)) (g:Heap):Prop:=g.size=h.size/\(∀b,b≠r->g[b]?=h[b]?)/\hmap g r=Jg m
def vMapSet (d:TD) (x k v:Jl) (h:Heap) (K:Heap->Prop):Prop:=
  match x with
  | .map (Jg r)=>∃m o,hmap h r=Jg m/\mGet d k m=Jg o/\∀g,MapPut h r (mSet d k v m) g->K g
  | _=>False
def vMapNew (h:Heap) (K:Jl->Heap->Prop):Prop:=∀v g,v=.map (Jg h.size)->g=h.push (.map #[] 0)->K v g
theorem vMapNew.mk {h:Heap} {K:Jl->Heap->Prop} (g:K (.map (Jg h.size)) (h.push (.map #[] 0))):vMapNew h K:=λ_ _ e j=>by subst e;subst j;exact g
def vS2B (s:Jd) (h:Heap) (K:Jl->Heap->Prop):Prop:=
  ∀(g:Nat) (j:Heap),s.size<=g->ExtH h j->j.size=h.size+1->(∃(t:TypeId) (n:Nat×Nat) (r:Nat),j[h.size]?=Jg (.cells ((s.data.toList.map λb:UInt8=>Value.int .u8 b.toNat)++List.replicate r (Value.int .u8 0)).toArray t n)/\g=s.size+r/\g<=n.1)->K (.slice (Jg ⟨h.size,0,Jh⟩) s.size g) j
def vRead (C:Ctx) (o:Op) (e:Env) (h:Heap) (K:Jl->Prop):Prop:=
  match o with
  | .load t a=>vLoad C.tab t (ev e a) h K
  | .lookup t x ix ok=>match tabGet C.tab t with
    | some ⟨.map kt et,_,_,_⟩=>match tabGet C.tab kt,tabGet C.tab et with
      | some kte,Jg ete=>bif isKd kte.d&&kOk kte.d (ev e ix)&&!ok then
          match ete.kinds,ete.zero,ete.d.agg with
          | [tk],[z],Jj=>vMapGet tk kte.d (ev e x) (ev e ix) z h K
          | _,_,_=>False
        else False
      | _,_=>False
    | _=>False
  | .convert src dst x=>match tabGet C.tab src,tabGet C.tab dst with
    | some ⟨.slice el,_,_,_⟩,Jg ⟨.str,_,_,_⟩=>match tabGet C.tab el with
      | some ⟨.int .u8,_,_,_⟩=>vB2S (ev e x) h λs=>K (.string s)
      | _=>False
    | _,_=>False
  | _=>False
def hnew (h:Heap):Addr:=⟨h.size,0,Jh⟩
def vNew (h:Heap) (o:Obj) (K:Addr->Heap->Prop):Prop:=∀a g,a=hnew h->g=h.push o->K a g
def vNewS (h:Heap) (o:Obj) (n:Nat) (K:Jl->Heap->Prop):Prop:=∀v g,v=.slice (Jg (hnew h)) n n->g=h.push o->K v g
theorem vNew.mk {h:Heap} {o:Obj} {K:Addr->Heap->Prop} (g:K ⟨h.size,0,Jh⟩ (h.push o)):vNew h o K:=λ_ _ e j=>by subst e;subst j;exact g
theorem vNewS.mk {h:Heap} {o:Obj} {n:Nat} {K:Jl->Heap->Prop} (g:K (.slice (Jg ⟨h.size,0,Jh⟩) n n) (h.push o)):vNewS h o n K:=λ_ _ e j=>by subst e;subst j;exact g
def vStore1 (h:Heap) (a:Addr) (v:Jl) (K:Heap->Prop):Prop:=
  v.oneCell'=Ji/\(∃u,hcell h a=Jg u)/\hfroz h a=Jj/\K (hset h a v)
def vStoreN (a:Addr):Jc->Nat->Heap->(Heap->Prop)->Prop
  | [],_,h,K=>K h
  | v::r,i,h,K=>vStore1 h (a.add i) v λg=>vStoreN a r (i+1) g K
def vStore (T:List (Nat×TE)) (t:TypeId) (x v:Jl) (h:Heap) (K:Heap->Prop):Prop:=
  match tabGet T t,x with
  | some te,.pointer (Jg a)=>
    bif te.d.agg then
      match v with
      | .agg cs=>bif Jv (Jk cs.toList) te.size then vStoreN a cs.toList 0 h K else False
      | _=>False
    else bif Jv te.size 1 then vStore1 h a v K else False
  | _,_=>False
def vBox (T:List (Nat×TE)) (t:TypeId) (v:Jl) (h:Heap) (K:Addr->Heap->Prop):Prop:=
  match tabGet T t with
  | some te=>cellsAs te.d.agg v λcs=>vNew h (.cells cs.toArray t) K
  | none=>False
def partsAll (agg:Bool) (z:Nat):List (Nat×Jl)->Nat->(Jc->Prop)->Prop
  | [],_,K=>K []
  | (i,v)::r,n,K=>bif Jv i n then cellsAs agg v λcs=>bif Jv (Jk cs) z then partsAll agg z r (n+1) λl=>K (cs++l) else False else False
def repl (n:Nat) (zero:Jc):Jc:=
  match n with
  | 0=>[]
  | n+1=>zero++repl n zero
def teGood (g:TE):Bool:=!Nat.beq g.size 0&&Jv (Jk g.zero) g.size
def vMake (bytes:Nat) (zero:Jc) (el:TypeId) (n c:Int) (h:Heap) (K:Jl->Heap->Prop):Prop:=
  (0<=n/\n<=c/\c*bytes<=140737488355328/\c<=4611686018427387904)/\K (.slice (Jg (hnew h)) n.toNat c.toNat) (h.push (.cells (repl c.toNat zero).toArray el))
def vAppend (z bytes:Nat) (zero:Jc) (el:TypeId) (s x:Jl) (h:Heap) (K:Jl->Heap->Prop):Prop:=
  match s,x with
  | .slice base n c,.slice src m _=>
    ∃old news:Jc,Jk old=n*z/\(Jk news)=m*z /\
      (∀j u,old[j]?=Jg u->∃a,base=Jg a/\hcell h (a.add j)=Jg u) /\
      (∀j u,news[j]?=Jg u->∃a,src=Jg a/\hcell h (a.add j)=Jg u) /\
      (base=Jh->c=0)/\(src=Jh->m=0) /\
      (n+m)*bytes<=140737488355328/\n+m<=4611686018427387904 /\
      (n+m<=c->∀a,base=Jg a->(∀v∈news,v.oneCell'=Ji)/\vStoreN (a.add (n*z)) news 0 h λk=>K (.slice base (n+m) c) k) /\
      (n+m<=c->base=Jh->K (.slice Jh (n+m) c) h) /\
      (c<n+m->∀g,n+m<=g->g<=9223372036854775807->K (.slice (Jg (hnew h)) (n+m) g) (h.push (.cells (old++news++repl (g-(n+m)) zero).toArray el)))
  | _,_=>False
def vClear (zero:Jc) (x:Jl) (h:Heap) (K:Jl->Heap->Prop):Prop:=
  match x with
  | .slice (Jg a) n _=>vStoreN a (repl n zero) 0 h (K (.tuple #[]))
  | .slice Jh _ _=>K (.tuple #[]) h
  | _=>False
def vCopy (z:Nat) (d s:Jl) (h:Heap) (K:Jl->Heap->Prop):Prop:=
  match d,s with
  | .slice base n _,.slice src m _=>
    ∃cs:Jc,Jk cs=Yn m n*z/\(∀j u,cs[j]?=Jg u->∃a,src=Jg a/\hcell h (a.add j)=Jg u) /\
      (base=Jh->K (.int .i64 (Yn m n)) h)/\∀a,base=Jg a->vStoreN a cs 0 h (K (.int .i64 (Yn m n)))
  | _,_=>False
def vAppZ (z bytes:Nat) (zero:Jc) (el:TypeId) (s:Jl) (x:Int) (h:Heap) (K:Jl->Heap->Prop):Prop:=
  match s with
  | .slice base n c=>
    0<x/\∃old:Jc,Jk old=n*z/\(∀j u,old[j]?=Jg u->∃a,base=Jg a/\hcell h (a.add j)=Jg u) /\
      (n+x.toNat)*bytes<=140737488355328/\n+x.toNat<=4611686018427387904/\c<n+x.toNat /\
      ∀g,n+x.toNat<=g->g<=9223372036854775807->K (.slice (Jg (hnew h)) (n+x.toNat) g) (h.push (.cells (old++repl x.toNat zero++repl (g-(n+x.toNat)) zero).toArray el))
  | _=>False
def vOv (g:Jc) (h:Heap) (K:Prop):Prop:=
  match g with
  | [.slice (Jg a) _ _,.slice (Jg b) _ _]=>
    ¬a.block=b.block/\hfroz h a=Jj/\(∃(cs:Array Jl) (t:TypeId) (f:Nat×Nat),h[a.block]?=Jg (.cells cs t f)/\hfroz h ⟨a.block,cs.size,Jh⟩=Jj) /\
      (∃(cs:Array Jl) (t:TypeId) (f:Nat×Nat),h[b.block]?=Jg (.cells cs t f)/\cs.size≠0)/\K
  | _=>False
def exVL:List TK->(Jc->Prop)->Prop
  | [],K=>K []
  | k::r,K=>exV1 k λv=>exVL r λvs=>K (v::vs)
def exVC:List (Bool×List TK)->(Jc->Prop)->Prop
  | [],K=>K []
  | (agg,ks)::r,K=>
    bif agg then exVL ks λvs=>exVC r λl=>K (.agg vs.toArray::l)
    else match ks with
      | [k]=>exV1 k λv=>exVC r λl=>K (v::l)
      | _=>False
def exRS (rs:RS) (K:Jl->Prop):Prop:=
  exVC rs.comps λvs=>bif rs.tup then K (.tuple vs.toArray) else match vs with|[v]=>K v|_=>False
def opF:Operand->Jm Nat
  | .func g=>Jg g
  | _=>Jh
def vFn (v:Jl) (K:Nat->Jc->Jc->Prop):Prop:=
  match v with
  | .func (.func g) first captured=>K g first.toList captured.toList
  | _=>False
def vOkf (C:Ctx) (g:Nat) (A:Prop):Prop:=
  match C.okf g with
  | true=>A
  | false=>False
abbrev vOkfU (C:Ctx) (g:Nat) (A:Unit->Prop):Prop:=vOkf C g (A ())
theorem Zzd {C:Ctx} {g:Nat} {A:Prop} (h:vOkf C g A):C.okf g=Ji/\A:=by
  unfold vOkf at h;split at h
  . rename_i h1;exact ⟨h1,h⟩
  . exact h.elim
def vCall (C:Ctx) (ty:TypeId) (f:Jl) (k:Jc) (h:Heap) (K:Jl->Heap->Prop):Prop:=
  vFn f λg first j=>vOkf C g
    (CallsQ C.q C.P g (first++k++j).toArray h λv l=>exRS (rsGet C.rs ty) λu=>v=u/\K u l)
def vMapPut (C:Ctx) (t:TypeId) (m k x:Jl) (h:Heap) (K:Jl->Heap->Prop):Prop:=
  match tabGet C.tab t with
  | some ⟨.map kt _,_,_,_⟩=>match tabGet C.tab kt with
    | some kte=>bif isKd kte.d&&kOk kte.d k then vMapSet kte.d m k x h λg=>K undef g else False
    | none=>False
  | _=>False
def vEff (C:Ctx) (o:Op) (ty:TypeId) (e:Env) (h:Heap) (K:Jl->Heap->Prop):Prop:=
  match o with
  | .store t a x=>frc (evw e x) λv=>vStore C.tab t (ev e a) v h λj=>K undef j
  | .alloc t=>match tabGet C.tab t with
    | some te=>vNew h (.cells te.zero.toArray t) λa j=>K (.pointer (Jg a)) j
    | none=>False
  | .box t x=>frc (evw e x) λv=>vBox C.tab t v h λa j=>K (.pointer (Jg a)) j
  | .buildSlice t len parts=>match tabGet C.tab t with
    | some ⟨.slice el,_,_,_⟩=>match tabGet C.tab el with
      | some te=>bif Jv (Jk parts.toList) len&&JJ (len*te.size) 16777216&&!Nat.beq te.size 0 then
          evpK e parts.toList λu=>partsAll te.d.agg te.size u 0 λcs=>frL cs λcs=>vNewS h (.cells cs.toArray el) len K else False
      | none=>False
    | _=>False
  | .makeSlice t l c=>match tabGet C.tab t,ev e l,ev e c with
    | some ⟨.slice el,_,_,_⟩,.int _ n,.int _ m=>match tabGet C.tab el with
      | some te=>bif teGood te then vMake te.bytes te.zero el n m h K else False
      | none=>False
    | _,_,_=>False
  | .call ⟨.builtin .append,args,argTypes⟩=>match args.toList,argTypes.toList with
    | [s,x],[t,t']=>match tabGet C.tab t,tabGet C.tab t' with
      | some ⟨.slice el,_,_,_⟩,Jg ⟨.slice _,_,_,_⟩=>match tabGet C.tab el with
        | some te=>bif teGood te then vAppend te.size te.bytes te.zero el (ev e s) (ev e x) h K else False
        | none=>False
      | some ⟨.slice el,_,_,_⟩,Jg ⟨.int _,_,_,_⟩=>match tabGet C.tab el,ev e x with
        | some te,.int _ n=>bif teGood te then vAppZ te.size te.bytes te.zero el (ev e s) n h K else False
        | _,_=>False
      | _,_=>False
    | _,_=>False
  | .call ⟨.builtin .clear,args,argTypes⟩=>match args.toList,argTypes.toList with
    | [x],[t]=>match tabGet C.tab t with
      | some ⟨.slice el,_,_,_⟩=>match tabGet C.tab el with
        | some te=>bif teGood te then vClear te.zero (ev e x) h K else False
        | none=>False
      | _=>False
    | _,_=>False
  | .call ⟨.builtin .copy,args,argTypes⟩=>match args.toList,argTypes.toList with
    | [d,x],[t,_]=>match tabGet C.tab t with
      | some ⟨.slice el,_,_,_⟩=>match tabGet C.tab el with
        | some te=>vCopy te.size (ev e d) (ev e x) h K
        | none=>False
      | _=>False
    | _,_=>False
  | .call ⟨.value f,args,_⟩=>match opF f with
    | some g=>bif inL C.ov g then vOv (evs e args.toList) h (K (.bool Jj) h) else evsK e args.toList λvs=>vCall C ty (ev e f) vs h K
    | none=>evsK e args.toList λvs=>vCall C ty (ev e f) vs h K
  | .makeMap t r=>match tabGet C.tab t with
    | some ⟨.map _ _,_,_,_⟩=>match evo e r with
      | none=>vMapNew h K
      | some (.int _ _)=>vMapNew h K
      | _=>False
    | _=>False
  | .mapUpdate t m k x=>vMapPut C t (ev e m) (ev e k) (ev e x) h K
  | .insert t m k x=>vMapPut C t (ev e m) (ev e k) (ev e x) h K
  | .convert src dst x=>match tabGet C.tab src,tabGet C.tab dst,ev e x with
    | some ⟨.str,_,_,_⟩,Jg ⟨.slice el,_,_,_⟩,.string s=>match tabGet C.tab el with
      | some ⟨.int .u8,_,_,_⟩=>vS2B s h K
      | _=>False
    | _,_,_=>False
  | _=>False
inductive K3 where
  | pure|read|eff
def isSl (T:List (Nat×TE)) (t:Nat):Bool:=
  match tabGet T t with
  | some ⟨.slice _,_,_,_⟩=>Ji
  | _=>Jj
def k3 (T:List (Nat×TE)):Op->K3
  | .load ..=>.read
  | .convert src dst _=>bif isSl T src then .read else bif isSl T dst then .eff else .pure
  | .lookup ..=>.read
  | .makeMap ..|.mapUpdate ..|.insert ..=>.eff
  | .store ..|.alloc ..|.box ..|.buildSlice ..|.makeSlice ..=>.eff
  | .call ⟨.builtin .len,_,_⟩=>.pure
  | .call ⟨.builtin .cap,_,_⟩=>.pure
  | .call ⟨.builtin .max,_,_⟩=>.pure
  | .call ⟨.builtin .min,_,_⟩=>.pure
  | .call _=>.eff
  | _=>.pure
def rdH (k:Kind) (a h:Heap):Heap:=
  match k with
  | .read=>a
  | _=>h
def vStep (C:Ctx) (o:Oper) (e:Env) (B:Nat->Prop) (a h:Heap) (k:Kind) (K:Jl->Heap->Prop):Prop:=
  match k3 C.tab o.op with
  | .pure=>vPure C o.op e λv=>K v h
  | .read=>vRead C o.op e (rdH k (hmask B a) h) λv=>bif kEarly k then ExtBut B a h/\K v h else K v h
  | .eff=>vEff C o.op o.type e h λv g=>bif kEarly k then ExtBut B a g/\K v g else K v g
def gslot (g:List Oper) (j:Nat):Jm Nat:=
  match g[j]? with
  | some o=>o.dst
  | none=>Jh
def vG (g:List Oper) (o:Oper) (e:Env) (A B:Env->Prop):Prop:=
  match o.guard with
  | none=>A e
  | some (j,want)=>match gslot g j with
    | none=>False
    | some d=>match (e d).v with
      | .bool b=>brn b (bif want then A (upd e d (.bool Ji)) else B (upd e d (.bool Ji))) (bif want then B (upd e d (.bool Jj)) else A (upd e d (.bool Jj)))
      | .tuple _=>B e
      | _=>False
def vSq1 (C:Ctx) (g:List Oper) (o:Oper) (K:Env->Heap->Prop) (e:Env) (h:Heap):Prop:=
  vG g o e (λe=>vStep C o e (λ_=>False) h h .fix λv j=>K (updO e o.dst v) j) (λe=>K (updO e o.dst undef) h)
noncomputable def vSeq (C:Ctx) (g:List Oper) (l:List Oper) (N:Env->Heap->Prop):Env->Heap->Prop:=
  List.rec (motive:=λ_=>Env->Heap->Prop) N (λo _ j=>vSq1 C g o j) l
def k3a (T:List (Nat×TE)) (alt:List Nat) (o:Op) (i:Nat):K3:=
  match k3 T o with
  | .read=>bif hasN alt i then .eff else .read
  | k=>k
def k3s (T:List (Nat×TE)) (alt:List Nat) (g:List Oper):List K3:=g.zipIdx.map λ(o,i)=>k3a T alt o.op i
def isE:K3->Bool|.eff=>Ji|_=>Jj
def isR:K3->Bool|.read=>Ji|_=>Jj
def concR (A:List (List Nat)) (ks:List K3) (i:Nat):Bool:=
  ks.zipIdx.any λ(k,j)=>isE k&&!hasN (A.getD i []) j&&!hasN (A.getD j []) i
def concs (A:List (List Nat)) (ks:List K3):List Nat:=(ks.zipIdx.filter λ(k,i)=>isR k&&concR A ks i).map (·.2)
def waitsAll (A:List (List Nat)) (cs:List Nat) (j:Nat):Bool:=cs.all λi=>hasN (A.getD j []) i
def kindAt (A:List (List Nat)) (ks:List K3) (cs:List Nat) (k:K3) (i:Nat):Kind:=
  match k with
  | .pure=>.pure
  | .read=>bif hasN cs i then .read else .fix
  | .eff=>bif waitsAll A cs i&&(ks.zipIdx.all λ(q,j)=>!isE q||waitsAll A cs j||hasN (A.getD i []) j) then .late else .early
def kinds (T:List (Nat×TE)) (alt:List Nat) (g:List Oper):List Kind:=
  let A:=mkA g
  let ks:=k3s T alt g
  let cs:=concs A ks
  ks.zipIdx.map λ(k,i)=>kindAt A ks cs k i
def kdOf (ks:List Kind) (i:Nat):Kind:=ks.getD i .pure
def vLx1 (C:Ctx) (g:List Oper) (ks:List Kind) (B:Nat->Prop) (a:Heap) (i:Nat) (K:Env->Heap->Prop) (e:Env) (h:Heap):Prop:=
  match g[i]? with
  | none=>K e h
  | some o=>vG g o e (λe=>vStep C o e B a h (kdOf ks i) λv j=>K (updO e o.dst v) j) (λe=>K (updO e o.dst undef) h)
noncomputable def vLexI (C:Ctx) (g:List Oper) (ks:List Kind) (B:Nat->Prop) (a:Heap) (l:List Nat) (N:Env->Heap->Prop):Env->Heap->Prop:=
  List.rec (motive:=λ_=>Env->Heap->Prop) N (λi _ j=>vLx1 C g ks B a i j) l
theorem ZKL {C:Ctx} {g:List Oper} {ks:List Kind} {B:Nat->Prop} {a:Heap} {i:Nat} {r:List Nat} {N:Env->Heap->Prop} {e:Env} {h:Heap}:vLexI C g ks B a (i::r) N e h=(match g[i]? with
  | none=>vLexI C g ks B a r N e h
  | some o=>vG g o e (λe=>vStep C o e B a h (kdOf ks i) λv j=>vLexI C g ks B a r N (updO e o.dst v) j) (λe=>vLexI C g ks B a r N (updO e o.dst undef) h)):=rfl
def allE:List Nat->(Nat->Prop)->Prop
  | [],_=>True
  | [j],f=>f j
  | j::js,f=>f j/\allE js f
def vOr0 (C:Ctx) (j:List Oper) (A:List (List Nat)) (ks:List Kind) (B:Nat->Prop) (a:Heap) (g:List Nat) (N:Env->Heap->Prop) (e:Env) (h:Heap):Prop:=
  match minEff A (kdOf ks) g with
  | []=>vLexI C j ks B a g N e h
  | _=>False
def vOr1 (C:Ctx) (k:List Oper) (A:List (List Nat)) (ks:List Kind) (B:Nat->Prop) (a:Heap) (l:List Nat->(Env->Heap->Prop)->Env->Heap->Prop) (g:List Nat) (N:Env->Heap->Prop) (e:Env) (h:Heap):Prop:=
  match minEff A (kdOf ks) g with
  | []=>vLexI C k ks B a g N e h
  | js=>allE js λj=>vLexI C k ks B a (seg A j g) (λe h=>l (rst A j g) N e h) e h
noncomputable def vOrd (C:Ctx) (g:List Oper) (A:List (List Nat)) (ks:List Kind) (B:Nat->Prop) (a:Heap) (n:Nat):List Nat->(Env->Heap->Prop)->Env->Heap->Prop:=
  Nat.rec (motive:=λ_=>List Nat->(Env->Heap->Prop)->Env->Heap->Prop) (vOr0 C g A ks B a) (λ_ j=>vOr1 C g A ks B a j) n
def hasRE (ks:List Kind):Bool:=ks.any λk=>kRead k||kEarly k
def OT.pre (l:List Nat):OT->OT
  | .fin l'=>.fin (l++l')
  | .sg l' t=>.sg (l++l') t
  | .both a b=>.sg l (.both a b)
  | .bad=>.sg l .bad
def allOT (f:Nat->OT) (j:Nat):List Nat->OT
  | []=>f j
  | k::js=>.both (f j) (allOT f k js)
def mkOT (A:List (List Nat)) (ks:List Kind):Nat->List Nat->OT
  | 0,rem=>match minEff A (kdOf ks) rem with
    | []=>.fin rem
    | _::_=>.bad
  | n+1,rem=>match minEff A (kdOf ks) rem with
    | []=>.fin rem
    | j::js=>allOT (λj=>OT.pre (seg A j rem) (mkOT A ks n (rst A j rem))) j js
def lEq:List Nat->List Nat->Bool
  | [],[]=>Ji
  | x::r,y::s=>Jv x y&&lEq r s
  | _,_=>Jj
def kdNat:Kind->Nat
  | .pure=>0|.fix=>1|.read=>2|.early=>3|.late=>4
def kdNats:List Kind->List Nat
  | []=>[]
  | k::r=>kdNat k::kdNats r
def kdL:List Nat->List Kind
  | []=>[]
  | n::r=>(match n with|0=>.pure|1=>.fix|2=>.read|3=>.early|_=>.late)::kdL r
def otEq:OT->OT->Bool
  | .fin l,.fin l'=>lEq l l'
  | .sg l t,.sg l' t'=>lEq l l'&&otEq t t'
  | .both a b,.both a' b'=>otEq a a'&&otEq b b'
  | _,_=>Jj
noncomputable def vOT (C:Ctx) (g:List Oper) (ks:List Kind) (B:Nat->Prop) (a:Heap) (N:Env->Heap->Prop) (t:OT):Env->Heap->Prop:=
  OT.rec (motive:=λ_=>Env->Heap->Prop) (λl=>vLexI C g ks B a l N) (λl _ it=>vLexI C g ks B a l it) (λ_ _ k j e h=>k e h/\j e h) (λ_ _=>False) t
def rgGet:List (Nat×RG)->Nat->Jm RG
  | [],_=>Jh
  | (k,x)::r,t=>bif Jv k t then Jg x else rgGet r t
noncomputable def vRegion (C:Ctx) (k:Jm RG) (g:Array Oper) (j:Bool) (N:Env->Heap->Prop) (e:Env) (h:Heap):Prop:=
  match j with
  | false=>vSeq C g.toList g.toList N e h
  | true=>match k with
    | none=>vSeq C g.toList g.toList N e h
    | some ⟨ks,t,b⟩=>match b with
      | true=>∃B:Nat->Prop,vOT C g.toList ks B h N t e h
      | false=>vOT C g.toList ks (λ_=>False) h N t e h
def rgOk (C:Ctx) (alt:List Nat) (j:Jm RG) (g:Array Oper):Bool:=
  lexOk g (kdOf (kinds C.tab alt g.toList)) &&
  (let ks:=kinds C.tab alt g.toList
   let t:=mkOT (mkA g.toList) ks (Jk g.toList) (Xi (Jk g.toList))
   match j with
   | none=>!hasRE ks&&otEq t (.fin (Xi (Jk g.toList)))
   | some ⟨ks',t',b⟩=>otEq t t'&&(match b with|true=>lEq (kdNats ks) (kdNats ks')|false=>!hasRE ks&&!hasRE ks'))
def wrOps:List Oper->List Nat
  | []=>[]
  | o::r=>match o.dst with
    | some d=>d::wrOps r
    | none=>wrOps r
def wr:Code->List Nat
  | .region _ ops _=>wrOps ops.toList
  | .seq a b=>wr a++wr b
  | .cond _ x y=>wr x++wr y
  | .block _ c=>wr c
  | .loop c=>wr c
  | _=>[]
def rid:Code->Jm Nat
  | .region i _ _=>Jg i
  | .seq a b=>match rid a with
    | some i=>Jg i
    | none=>rid b
  | .block _ c=>rid c
  | .loop c=>rid c
  | .cond _ x y=>match rid x with
    | some i=>Jg i
    | none=>rid y
  | _=>Jh
def ldep:Code->Nat
  | .seq a b=>match rid a with
    | some _=>ldep a
    | none=>ldep b
  | .block _ c=>ldep c
  | .loop c=>ldep c+1
  | .cond _ x y=>match rid x with
    | some _=>ldep x
    | none=>ldep y
  | _=>0
def lkey (c:Code):Jm Nat:=
  match rid c with
  | some k=>Jg (k+4096*ldep c)
  | none=>Jh
def JT:List TK->Type
  | []=>Heap->Prop
  | .i _::r=>Int->JT r
  | .b::r=>Bool->JT r
  | .s::r=>Jd->JT r
  | .p::r=>Addr->JT r
  | .v::r=>Jl->JT r
def apJ:(ks:List TK)->JT ks->Jc->Heap->Prop
  | [],j,_,h=>j h
  | .i k::r,j,v::vs,h=>match v with
    | .int k' x=>bif ikEq k' k then apJ r (j x) vs h else False
    | _=>False
  | .b::r,j,v::vs,h=>match v with
    | .bool x=>apJ r (j x) vs h
    | _=>False
  | .s::r,j,v::vs,h=>match v with
    | .string x=>apJ r (j x) vs h
    | _=>False
  | .p::r,j,v::vs,h=>match v with
    | .pointer (Jg x)=>apJ r (j x) vs h
    | _=>False
  | .v::r,j,v::vs,h=>apJ r (j v) vs h
  | _::_,_,[],_=>False
def allJ:(ks:List TK)->JT ks->(Jc->Heap->Prop)->Prop
  | [],j,Φ=>∀h,j h->Φ [] h
  | .i k::r,j,Φ=>∀x:Int,allJ r (j x) λvs h=>Φ (.int k x::vs) h
  | .b::r,j,Φ=>∀x:Bool,allJ r (j x) λvs h=>Φ (.bool x::vs) h
  | .s::r,j,Φ=>∀x:Jd,allJ r (j x) λvs h=>Φ (.string x::vs) h
  | .p::r,j,Φ=>∀x:Addr,allJ r (j x) λvs h=>Φ (.pointer (Jg x)::vs) h
  | .v::r,j,Φ=>∀x:Jl,allJ r (j x) λvs h=>Φ (x::vs) h
def lookupL:List (Nat×TK)->Jc->Nat->Jm Jl
  | (d,_)::L,v::vs,i=>bif Jv i d then Jg v else lookupL L vs i
  | _,_,_=>Jh
def mix (e:Env) (W:List Nat) (g:Env) (L:List (Nat×TK)) (vs:Jc):Env:=λi=>
  match lookupL L vs i with
  | some v=>.mk v
  | none=>bif hasN W i then g i else e i
def tks:List (Nat×TK)->List TK
  | []=>[]
  | (_,k)::r=>k::tks r
def evL (e:Env):List (Nat×TK)->Jc
  | []=>[]
  | (d,_)::r=>(e d).v::evL e r
def evLK (e:Env):List (Nat×TK)->(Jc->Prop)->Prop
  | [],K=>K []
  | (d,_)::r,K=>frc (e d) λv=>evLK e r λvs=>K (v::vs)
theorem Zkj (e:Env):∀(L:List (Nat×TK)) (K:Jc->Prop),evLK e L K=K (evL e L)
  | [],_=>rfl
  | (d,_)::r,K=>by unfold evLK;rw [Zch,Zkj e r];rfl
theorem Zhb (e:Env):∀(L:List Operand) (K:Jc->Prop),evsK e L K=K (evs e L)
  | [],_=>rfl
  | x::r,K=>by unfold evsK;rw [Zch,Zhb e r];rfl
theorem Zrw (e:Env):∀(L:List (Nat×Operand)) (K:List (Nat×Jl)->Prop),evpK e L K=K (evp e L)
  | [],_=>rfl
  | (i,x)::r,K=>by unfold evpK;rw [Zch,Zrw e r];rfl
def altGet:List (Nat×List Nat)->Nat->List Nat
  | [],_=>[]
  | (k,x)::r,t=>bif Jv k t then x else altGet r t
abbrev VT:Type:=(Env->Heap->Prop)->(Nat->Env->Heap->Prop)->(Env->Heap->Prop)->Env->Heap->Prop
def vcSq (A:Ann) (a b:Code) (u o:VT):VT:=λN X R e h=>
  match (match rid b with|some k=>annGet A.cuts k|none=>Jh) with
  | some L=>∃J:JT (tks L),u (λj g=>evLK j L λvs=>apJ (tks L) J vs g) X R e h /\
      ∀l:Env,allJ (tks L) J λvs g=>o N X R (mix e (wr a) l L vs) g
  | none=>u (λj g=>o N X R j g) X R e h
def vcCd (c:Operand) (ix g:VT):VT:=λN X R e h=>
  match ev e c with
  | .bool t=>brn t (ix N X R e h) (g N X R e h)
  | _=>False
def vcBk (id:Nat) (k:VT):VT:=λN X R e h=>k N (λi g j=>bif Jv i id then N g j else X i g j) R e h
def vcLp (A:Ann) (c:Code) (o:VT):VT:=λ_ X R e h=>
  match (match lkey c with|some k=>annGet A.loops k|none=>Jh) with
  | some L=>∃J:Nat->JT (tks L),(∃n,evLK e L λvs=>apJ (tks L) (J n) vs h) /\
      ∀n,∀g:Env,allJ (tks L) (J n) λvs u=>o (λj l=>∃m,m<n/\evLK j L λvs=>apJ (tks L) (J m) vs l) X R (mix e (wr c) g L vs) u
  | none=>False
noncomputable def vc (C:Ctx) (A:Ann) (c:Code):VT:=
  Code.rec (motive:=λ_=>VT) (λN _ _ e h=>N e h) (λid k j N _ _ e h=>vRegion C (rgGet A.regs id) k j N e h)
    (λa b u l=>vcSq A a b u l) (λc _ _ ix o=>vcCd c ix o) (λid _ g=>vcBk id g) (λc g=>vcLp A c g)
    (λ_ _ _ _ _ _ _ _ _ _ _=>False) (λid _ X _ e h=>X id e h) (λ_ _ _ _ _ _ _=>False) (λ_ _ _ _ _ _=>False) (λ_ _ _ _ _ _=>False)
    (λ_ _ R e h=>R e h) (λ_ _ _ _ _ _=>False) c
section
variable {C:Ctx} {A:Ann} {N:Env->Heap->Prop} {X:Nat->Env->Heap->Prop} {R:Env->Heap->Prop} {e:Env} {h:Heap}
theorem ZKz {a b:Code}:vc C A (.seq a b) N X R e h=(match (match rid b with|some k=>annGet A.cuts k|none=>Jh) with
    | some L=>∃J:JT (tks L),vc C A a (λj g=>evLK j L λvs=>apJ (tks L) J vs g) X R e h /\
        ∀l:Env,allJ (tks L) J λvs g=>vc C A b N X R (mix e (wr a) l L vs) g
    | none=>vc C A a (λj g=>vc C A b N X R j g) X R e h):=rfl
theorem ZOS {c:Operand} {x y:Code}:vc C A (.cond c x y) N X R e h=(match ev e c with
    | .bool t=>brn t (vc C A x N X R e h) (vc C A y N X R e h)
    | _=>False):=rfl
theorem ZNr {id:Nat} {c:Code}:vc C A (.block id c) N X R e h=vc C A c N (λi g j=>bif Jv i id then N g j else X i g j) R e h:=rfl
theorem ZHp {c:Code}:vc C A (.loop c) N X R e h=(match (match lkey c with|some k=>annGet A.loops k|none=>Jh) with
    | some L=>∃J:Nat->JT (tks L),(∃n,evLK e L λvs=>apJ (tks L) (J n) vs h) /\
        ∀n,∀g:Env,allJ (tks L) (J n) λvs o=>vc C A c (λl j=>∃m,m<n/\evLK l L λvs=>apJ (tks L) (J m) vs j) X R (mix e (wr c) g L vs) o
    | none=>False):=rfl
end
def vRes (C:Ctx) (e:Env) (h:Heap):List ResultVar->(Jc->Prop)->Prop
  | [],K=>K []
  | .tmp t::r,K=>frc (e t) λv=>vRes C e h r λvs=>K (v::vs)
  | .cell a t::r,K=>vLoad C.tab t (e a).v h λv=>vRes C e h r λvs=>K (v::vs)
def vRet (C:Ctx) (rs:List ResultVar) (R:Jl->Heap->Prop) (e:Env) (h:Heap):Prop:=
  vRes C e h rs λvs=>match vs with
    | [v]=>R v h
    | l=>R (.tuple l.toArray) h
def env0 (g:Jc):Env:=λi=>match g[i]? with
  | some v=>.mk v
  | none=>.mk undef
noncomputable def vcFn (C:Ctx) (A:Ann) (fn:Func) (g:Jc) (h:Heap) (R:Jl->Heap->Prop):Prop:=
  match fn.body with
  | some c=>vc C A c (vRet C fn.results.toList R) (λ_ _ _=>False) (vRet C fn.results.toList R) (env0 g) h
  | none=>False
def ldI (k:IntKind) (h:Heap) (a:Addr) (K:Int->Prop):Prop:=∃x:Int,hcell h a=Jg (.int k x)/\K x
def ldB (h:Heap) (a:Addr) (K:Bool->Prop):Prop:=∃x:Bool,hcell h a=Jg (.bool x)/\K x
def ldS (h:Heap) (a:Addr) (K:Jd->Prop):Prop:=∃x:Jd,hcell h a=Jg (.string x)/\K x
def ldP (h:Heap) (a:Addr) (K:Addr->Prop):Prop:=∃x:Addr,hcell h a=Jg (.pointer (Jg x))/\K x
def ldV (h:Heap) (a:Addr) (K:Jl->Prop):Prop:=∃x:Jl,hcell h a=Jg x/\K x
def mapGetB (d:TD) (x k:Jl) (h:Heap) (K:Bool->Prop):Prop:=
  match x with
  | .map (Jg r)=>∃m o,hmap h r=Jg m/\mGet d k m=Jg o/\∃b:Bool,.bool b=o.getD (.bool Jj)/\K b
  | _=>False
end Go.Vc
