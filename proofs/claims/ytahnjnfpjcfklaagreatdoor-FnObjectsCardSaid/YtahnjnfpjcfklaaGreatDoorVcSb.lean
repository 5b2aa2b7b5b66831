import Derived.Test.YtahnjnfpjcfklaaGreatDoorVcSound
import Derived.MapKept
import Derived.Lib.ConvBytes
namespace Go.Vc
set_option linter.unusedVariables false
set_option linter.unusedSimpArgs false
open Go
section
variable {C:Ctx} {e:Env}
theorem ZAI {s:TypeId} {a:Addr} {f:Nat} {o:List (Nat×Nat×Bool)} {off size:Nat} {g:Bool} (hs:tdOf C.P s=.struct o) (r:o[f]?=some (off,size,g)) (hz:Nat.beq size 0=false) (w:World):
  (Instr.fieldAt s (.pointer (some a)) f).run C.P w=.ok (.pointer (some (a.add off))) w:=by
 obtain ⟨u,hu,rfl⟩:=ZpW hs;simp only [List.getElem?_map,Array.getElem?_toList,Option.map_eq_some_iff,Prod.mk.injEq] at r;obtain ⟨fd,x,rfl,l,_⟩:=r;obtain ⟨d,i,j,hi,k⟩:=Zml l hz;have h:i.size≠0:=fun h=>by rw [h] at k;subst k;cases hz
 simp [Instr.fieldAt,ZW w hu,x,Instr.sureAddr,fieldPlace,sizeOf,Zcf w hi,h]
theorem ZGg {t el:TypeId} {g:TE} {x:Value} {k:IntKind} {i:Int} {K:Addr->Prop} (j:C.P.underlying t=some (.slice el)) (l:TeOk C.P el g) (h:vIdx x i g.size K):
  ∃ a,K a/\∀ w,(Instr.indexAt t x (.int k i)).run C.P w=.ok (.pointer (some a)) w:=by
 unfold vIdx at h;split at h
 ·rename_i a n c;refine ⟨_,h.2,fun w=>?_⟩;simp [Instr.indexAt,asIntOf,ZW w j,h.1.1,h.1.2,ZaO w l]
 ·exact h.elim
theorem Zrj {P:Program} {isS:Bool} {n c:Nat} {lo hi mx:Option Value} {K:Nat->Nat->Nat->Prop}
  (o:¬ (mx.isSome=true/\hi.isNone=true)) (h:vBound mx c c fun m=>vBound hi n m fun k=>vBound lo 0 k fun l=>K l k m):
  ∃ l k m,K l k m/\∀ w,(Instr.sliceBounds isS n c lo hi mx).run P w=.ok (l,k,m) w:=by
 obtain ⟨m,r,j,i⟩:=ZgB (P:=P) h (c:=if isS then .slice3Acap else .slice3Alen);cases mx with
 | none=>
  obtain rfl:=j rfl;obtain ⟨k,f,h1,a⟩:=ZgB (P:=P) r (c:=if isS then .sliceAcap else .sliceAlen);obtain ⟨l,g,l1,l2⟩:=ZgB (P:=P) f (c:=.sliceB);refine ⟨l,k,m,g,fun w=>?_⟩;cases hi with
  | none=>
   obtain rfl:=h1 rfl;cases lo with
   | none=>obtain rfl:=l1 rfl;simp [Instr.sliceBounds]
   | some v=>simp [Instr.sliceBounds,l2 v rfl]
  | some u=>
   cases lo with
   | none=>obtain rfl:=l1 rfl;simp [Instr.sliceBounds,a u rfl]
   | some v=>simp [Instr.sliceBounds,l2 v rfl,a u rfl]
 | some x=>
  obtain ⟨k,f,h1,a⟩:=ZgB (P:=P) r (c:=.slice3B);obtain ⟨l,g,l1,l2⟩:=ZgB (P:=P) f (c:=.slice3C);refine ⟨l,k,m,g,fun w=>?_⟩;cases hi with
  | none=>simp at o
  | some u=>
   cases lo with
   | none=>obtain rfl:=l1 rfl;simp [Instr.sliceBounds,i x rfl,a u rfl]
   | some v=>simp [Instr.sliceBounds,i x rfl,l2 v rfl,a u rfl]
theorem Zxd {t el:TypeId} {j:TE} {x:Value} {lo hi mx:Option Value} {K:Value->Prop} (r:C.P.underlying t=some (.slice el)) (he:TeOk C.P el j)
  (k:¬ (mx.isSome=true/\hi.isNone=true)) (h:vSliceS x j.size lo hi mx K):
  ∃ v,K v/\∀ w,(Instr.sliceAt t x lo hi mx).run C.P w=.ok v w:=by
 unfold vSliceS at h;split at h
 ·rename_i a n c;obtain ⟨l,o,m,hk,u⟩:=Zrj (P:=C.P) (isS:=true) (K:=fun l o m=>K (.slice (bif Nat.beq m l then a else a.map (·.add (l*j.size))) (o-l) (m-l))) k h;refine ⟨_,hk,fun w=>?_⟩;simp only [Instr.sliceAt,Sem.run_bind,ZW w r,Result.andThen_ok,Instr.slice,u,ZaO w he,Sem.run_pure];congr 2;by_cases g:m=l
  ·simp [g]
  ·have:Nat.beq m l=false:=by
    cases f:Nat.beq m l with
    | false=>rfl
    | true=>exact absurd (Nat.eq_of_beq_eq_true f) g
   simp [g,this]
 ·exact h.elim
theorem ZHU {t:TypeId} {s:ByteArray} {lo hi:Option Value} {K:Value->Prop} (k:C.P.underlying t=some .string) (h:vSliceStr s lo hi fun x=>K (.string x)):
  ∃ v,K v/\∀ w,(Instr.sliceAt t (.string s) lo hi none).run C.P w=.ok v w:=by
 unfold vSliceStr at h;obtain ⟨l,a,m,j,g⟩:=Zrj (P:=C.P) (isS:=false) (n:=s.size) (c:=s.size) (lo:=lo) (hi:=hi) (mx:=none) (K:=fun l a m=>K (.string (s.extract l a))) (by simp) h;refine ⟨_,j,fun w=>?_⟩;simp [Instr.sliceAt,ZW w k,Instr.slice,g]
theorem ZuA (hC:CtxOk C) {o:Oper} {K:Value->Prop} (h:vPure C o.op e K):∃ v,K v/\∀ w,(execOp (ev e) o).run C.P w=.ok (.value v) w:=by
 obtain ⟨av,op,ba,pos,b2,b3⟩:=o;simp only at h;unfold vPure at h;split at h
 ·rw [ZbZ] at h;exact ⟨_,h,fun w=>rfl⟩
 ·rw [ZbZ] at h;exact ⟨_,h,fun w=>rfl⟩
 ·rename_i c a b;split at h
  ·rename_i t ht;cases t
   ·replace h:K (ev e b):=(ZbZ _ _).mp h;exact ⟨_,h,fun w=>by simp [execOp,ht,asBool]⟩
   ·replace h:K (ev e a):=(ZbZ _ _).mp h;exact ⟨_,h,fun w=>by simp [execOp,ht,asBool]⟩
  ·exact h.elim
 ·rename_i op t x y ty;obtain ⟨v,r,hr⟩:=ZEs hC h;refine ⟨v,r,fun w=>?_⟩;have:=hr w;simp only [execOp,Sem.run_bind,this,Result.andThen_ok,Sem.run_pure]
 ·rename_i op ty x;split at h
  ·rename_i b j;exact ⟨_,h,fun w=>by simp [execOp,j,Op.unary]⟩
  ·rename_i k n j;exact ⟨_,h,fun w=>by simp [execOp,j,Op.unary,Op.intArith]⟩
  ·exact h.elim
 ·rename_i be av x;split at h
  ·rename_i k0 u z0 b0 k ks z bb k' n hs ht j;have hu:=ZeX (hC.tab _ _ ht).1;have r:=ZeX (hC.tab _ _ hs).1;exact ⟨_,h,fun w=>by simp [execOp,j,convert,ZW w hu,ZW w r,Conv.intToInt]⟩
  ·rename_i u z0 b0 ks z bb s hs ht j;have hu:=ZcV (hC.tab _ _ ht).1;have r:=ZcV (hC.tab _ _ hs).1;exact ⟨_,h,fun w=>by simp [execOp,j,convert,ZW w hu,ZW w r]⟩
  ·exact h.elim
 ·rename_i x;unfold vNilQ at h;split at h
  ·rename_i a j;exact ⟨_,h,fun w=>by simp [execOp,j]⟩
  ·rename_i f a b j;exact ⟨_,h,fun w=>by simp [execOp,j]⟩
  ·exact h.elim
 ·rename_i s x f;split at h
  ·rename_i fs ks z bb a ht j;split at h
   ·rename_i off size g hf;have hz:Nat.beq size 0=false/\K (.pointer (some (a.add off))):=by
     revert h
     cases Nat.beq size 0
     ·exact fun h=>⟨rfl,h⟩
     ·exact fun h=>h.elim
    exact ⟨_,hz.2,fun w=>by simp [execOp,j,ZAI (C:=C) (hC.tab _ _ ht).1 hf hz.1 w]⟩
   ·exact h.elim
  ·exact h.elim
 ·rename_i s x f;split at h
  ·rename_i fs ks z bb ht;obtain ⟨v,r,hr⟩:=ZBU (C:=C) (hC.tab _ _ ht).1 h;exact ⟨v,r,fun w=>by simp [execOp,hr w]⟩
  ·exact h.elim
 ·rename_i t x ix;split at h
  ·rename_i el ks z bb k i ht hi;split at h
   ·rename_i te he;obtain ⟨a,ha,hr⟩:=ZGg (C:=C) (k:=k) (ZaH (hC.tab _ _ ht).1) (hC.tab _ _ he) h;exact ⟨_,ha,fun w=>by simp [execOp,hi,hr w]⟩
   ·exact h.elim
  ·exact h.elim
 ·rename_i t x ix;split at h
  ·rename_i ks z bb s k i ht j hi;obtain ⟨b,h0,hb,hk⟩:=h;have hu:=ZcV (hC.tab _ _ ht).1;exact ⟨_,hk,fun w=>by simp [execOp,j,hi,Instr.index,asIntOf,ZW w hu,h0,hb]⟩
  ·exact h.elim
 ·rename_i t x lo hi mx;split at h
  ·rename_i el ks z bb ht;split at h
   ·rename_i te he;cases hmx:(mx.isSome&&hi.isNone)
    ·rw [hmx] at h;simp only [cond_false] at h;obtain ⟨v,r,hr⟩:=Zxd (C:=C) (ZaH (hC.tab _ _ ht).1) (hC.tab _ _ he) (by
      rw [ZcE,ZcE];rintro ⟨h1,h2⟩;rw [Option.isSome_map] at h1;rw [Option.isNone_map] at h2;simp [h1,h2] at hmx) h
     rw [ZcE,ZcE,ZcE] at hr;exact ⟨v,r,fun w=>by simp [execOp,hr w]⟩
    ·rw [hmx] at h;exact h.elim
   ·exact h.elim
  ·rename_i ks z bb ht;split at h
   ·rename_i s hs;cases hmx:mx.isSome
    ·rw [hmx] at h;simp only [cond_false] at h;obtain ⟨v,r,hr⟩:=ZHU (C:=C) (ZcV (hC.tab _ _ ht).1) h;rw [ZcE,ZcE] at hr;have hm:mx=none:=by cases mx<;>simp at hmx ⊢
     exact ⟨v,r,fun w=>by simp [execOp,hs,hm,hr w]⟩
    ·rw [hmx] at h;exact h.elim
   ·exact h.elim
  ·exact h.elim
 ·rename_i x ix;split at h
  ·rename_i vs j;split at h
   ·rename_i v r;have:vs[ix]?=some v:=by simpa using r
    exact ⟨v,h,fun w=>by simp [execOp,j,Instr.extract,this]⟩
   ·exact h.elim
  ·exact h.elim
 ·rename_i fn first a9
  rw [Zge,Zge,Zgx,Zgx] at h;refine ⟨_,h,fun w=>?_⟩;simp only [execOp,Instr.makeFunc,Sem.run_bind,Sem.run_pure,Result.andThen_ok];rw [show first.map (ev e)=(first.toList.map (ev e)).toArray by apply Array.ext';simp,show a9.map (ev e)=(a9.toList.map (ev e)).toArray by apply Array.ext';simp]
 ·rename_i t ae;split at h
  ·rename_i fs ks zero bb ht;obtain ⟨ao,h⟩:=Zas h;rw [ZmI] at h;obtain ⟨cs,hk,hr⟩:=ZqP _ _ _ h;have hT:=hC.tab _ _ ht;obtain ⟨ai,hu,ak⟩:=ZpW hT.1;obtain ⟨i,z,hi,bd,_,hz,az⟩:=hT.info;refine ⟨_,hk,fun w=>?_⟩;have au:z.cells=zero.toArray:=by apply Array.ext';simpa using az
   have hm:∀ (l:List Field),allPos (l.map fun f=>(f.offset,fsz C.P f.type,((C.P.underlying f.type).map isAggD).getD true))=true ->
     (l.mapM (fun f=>do pure (f.offset,<-sizeOf f.type)):Sem (List (Nat×Nat))).run C.P w=.ok (l.map fun f=>(f.offset,fsz C.P f.type)) w:=by
    intro l hl;induction l with
    | nil=>rfl
    | cons f l ih=>
     simp only [List.map_cons,allPos,Bool.and_eq_true,Bool.not_eq_true'] at hl;obtain ⟨d,i,hd,hi,hs⟩:=Zml rfl hl.1;have:=ih hl.2;have aj:(sizeOf f.type).run C.P w=.ok (fsz C.P f.type) w:=by simp [sizeOf,Zcf w hi,hs]
     simp only [List.mapM_cons,Sem.run_bind,this,aj,Result.andThen_ok,Sem.run_pure,List.map_cons]
   have af:∀ (fs:List Field),(fun (i:Nat)=>((fs.map fun f=>(f.offset,fsz C.P f.type)).toArray)[i]?) =
     fun (i:Nat)=>((fs.map fun (f:Field)=>(f.offset,fsz C.P f.type,((C.P.underlying f.type).map isAggD).getD true))[i]?).map fun (p:Nat×Nat×Bool)=>(p.1,p.2.1):=by
    intro fs;funext i;cases h:fs[i]?<;>simp [h]
   have aw:=hm ai.toList (by rw [<-ak];exact ao);simp only [execOp,Instr.build,Sem.run_bind,Zdm w hi hz,ZW w hu,Result.andThen_ok];rw [Array.mapM_eq_mapM_toList];simp only [Sem.run_map,aw,Result.andThen_ok];rw [au,af,<-ak];have ah:(ae.map fun (x:Nat×Operand)=>(x.1,ev e x.2)).toList=evp e ae.toList:=by rw [ZnE];simp
   rw [ah,hr];rfl
  ·exact h.elim
 ·rename_i a5 a3;split at h
  ·rename_i x t ha ag;have aa:a5=#[x]:=by apply Array.ext';simpa using ha
   have ac:a3=#[t]:=by apply Array.ext';simpa using ag
   subst aa ac;split at h
   ·rename_i el ks z bb ht;have hu:=ZaH (hC.tab _ _ ht).1;unfold vLen at h;split at h
    ·rename_i a n c j;exact ⟨_,h,fun w=>by simp [execOp,resolve,invoke,builtin,Builtin.len_,j,ZW w hu,goInt]⟩
    ·exact h.elim
   ·rename_i ks z bb ht;have hu:=ZcV (hC.tab _ _ ht).1;split at h
    ·rename_i s j;exact ⟨_,h,fun w=>by simp [execOp,resolve,invoke,builtin,Builtin.len_,j,ZW w hu,goInt]⟩
    ·exact h.elim
   ·exact h.elim
  ·exact h.elim
 ·rename_i a5 a3;split at h
  ·rename_i x t ha ag;have aa:a5=#[x]:=by apply Array.ext';simpa using ha
   have ac:a3=#[t]:=by apply Array.ext';simpa using ag
   subst aa ac;split at h
   ·rename_i el ks z bb ht;have hu:=ZaH (hC.tab _ _ ht).1;unfold vCap at h;split at h
    ·rename_i a n c j;exact ⟨_,h,fun w=>by simp [execOp,resolve,invoke,builtin,Builtin.cap_,j,ZW w hu,goInt]⟩
    ·exact h.elim
   ·exact h.elim
  ·exact h.elim
 ·rename_i a5 a3;split at h
  ·rename_i x y ha;have aa:a5=#[x,y]:=by apply Array.ext';simpa using ha
   subst aa;split at h
   ·rename_i k a k' b j hy;exact ⟨_,h,fun w=>by simp [execOp,resolve,invoke,builtin,Builtin.max_,Builtin.max2,j,hy]⟩
   ·exact h.elim
  ·exact h.elim
 ·rename_i a5 a3;split at h
  ·rename_i x y ha;have aa:a5=#[x,y]:=by apply Array.ext';simpa using ha
   subst aa;split at h
   ·rename_i k a k' b j hy;exact ⟨_,h,fun w=>by simp [execOp,resolve,invoke,builtin,Builtin.min_,Builtin.min2,j,hy]⟩
   ·exact h.elim
  ·exact h.elim
 ·exact h.elim
end
theorem Zm4 {P:Program} {t:TypeId} {k e:Nat} (h:tdOf P t=.map k e):P.underlying t=some (.map k e):=by
 unfold tdOf at h;split at h<;>first|(simp at h;obtain ⟨rfl,rfl⟩:=h;assumption)|simp at h
def KD (d:TD) (D:TypeDesc):Prop:=(∃ k,d=.int k/\D=.int k)\/(d=.str/\D=.string)
theorem kd_of {P:Program} {t:TypeId} {d:TD} (h:tdOf P t=d) (a:isKd d=true):∃ D,P.underlying t=some D/\KD d D:=by
 cases d with
 | int k=>exact ⟨_,ZeX h,.inl ⟨k,rfl,rfl⟩⟩
 | str=>exact ⟨_,ZcV h,.inr ⟨rfl,rfl⟩⟩
 | _=>cases a
theorem Zub {d:TD} {D:TypeDesc} (h:KD d D) (x y:Value):kEq d x y=Instr.sameNow D x y:=by
 rcases h with ⟨k,rfl,rfl⟩|⟨rfl,rfl⟩<;>cases x<;>cases y<;>rfl
theorem Ztw {d:TD} {D:TypeDesc} (h:KD d D) {x:Value} (a:kOk d x=true):MapKept.IsKey D x:=by
 rcases h with ⟨k,rfl,rfl⟩|⟨rfl,rfl⟩
 ·cases x<;>simp [kOk] at a;have:=Zm9.1 a;subst this;simp [MapKept.IsKey]
 ·cases x<;>simp [kOk] at a;simp [MapKept.IsKey]
def pe (e:MapEntry):Value×Value:=(e.key,e.val)
theorem Zok {d:TD} {D:TypeDesc} (h:KD d D) (k:Value):∀ (l:List MapEntry) (i:Nat),mGet d k (l.map pe)=some none ->
  Instr.findNow D k l i=some none/\∀ v,mSet d k v (l.map pe)=l.map pe++[(k,v)]
 | [],_,_=>⟨rfl,fun _=>rfl⟩
 | e::l,i,hm=>by
  simp only [List.map_cons,pe,mGet] at hm;cases a:kEq d k e.key with
  | none=>rw [a] at hm;cases hm
  | some b=>
   cases b with
   | true=>rw [a] at hm;cases hm
   | false=>
    rw [a] at hm;obtain ⟨h1,f⟩:=Zok h k l (i+1) hm;refine ⟨?_,fun v=>?_⟩
    ·rw [Zub h] at a;simp only [Instr.findNow,a];exact h1
    ·simp only [List.map_cons,pe,mSet,a,List.cons_append];exact congrArg _ (f v)
theorem Zmt {d:TD} {D:TypeDesc} (h:KD d D) (k u:Value):∀ (l:List MapEntry) (i:Nat),mGet d k (l.map pe)=some (some u) ->
  ∃ j e,Instr.findNow D k l i=some (some (i+j,u))/\l[j]?=some e/\Instr.sameNow D k e.key=some true/\∀ v,mSet d k v (l.map pe)=(l.map pe).set j (k,v)
 | [],_,hm=>by cases hm
 | e::l,i,hm=>by
  simp only [List.map_cons,pe,mGet] at hm;cases a:kEq d k e.key with
  | none=>rw [a] at hm;cases hm
  | some b=>
   have r:=a;rw [Zub h] at r;cases b with
   | true=>
    rw [a] at hm;simp only [Option.some.injEq] at hm;subst hm;exact ⟨0,e,by simp only [Instr.findNow,r];rfl,rfl,r,fun v=>by simp only [List.map_cons,pe,mSet,a];rfl⟩
   | false=>
    rw [a] at hm;obtain ⟨j,w,h1,f,g,o⟩:=Zmt h k u l (i+1) hm;refine ⟨j+1,w,?_,by simpa using f,g,fun v=>?_⟩
    ·simp only [Instr.findNow,r,h1];rw [show i+1+j=i+(j+1) by omega]
    ·simp only [List.map_cons,pe,mSet,a,List.set_cons_succ];exact congrArg _ (o v)
theorem ZoE {h:Heap} {r:Nat} {m:List (Value×Value)} (g:hmap h r=some m):∃ es a,h[r]?=some (.map es a)/\m=es.toList.map pe:=by
 unfold hmap at g;split at g
 ·rename_i es a j;cases g;exact ⟨es,a,j,rfl⟩
 ·cases g
theorem ZvE {h:Heap} {r:Nat} {es:Array MapEntry} {a:Nat} (g:h[r]?=some (.map es a)):hmap h r=some (es.toList.map pe):=by
 unfold hmap;rw [g];rfl
theorem Zr9 {α:Type} {xs:List α} {k:Nat} {x:α} (h:xs[k]?=some x):k<xs.length:=by
 rcases Nat.lt_or_ge k xs.length with h'|h'
 ·exact h'
 ·rw [List.getElem?_eq_none h'] at h;cases h
section
variable {C:Ctx} {e:Env}
theorem ZGY {k:TK} {K:Value->Prop} (h:exV1 k K):∃ v,K v:=by
 unfold exV1 at h;split at h<;>(obtain ⟨x,a⟩:=h;exact ⟨_,a⟩)
theorem ZFN {t kt et:TypeId} {D:TypeDesc} {d:TD} {a2:TE} {tk:TK} (ht:C.P.underlying t=some (.map kt et)) (hk:C.P.underlying kt=some D) (a3:KD d D) (he:TeOk C.P et a2) {x k z:Value} (hz:a2.zero=[z]) (ab:a2.d.agg=false) (ac:kOk d k=true)
  {h:Heap} {K:Value->Prop} (hh:vMapGet tk d x k z h K):∃ v,K v/\∀ w:World,HLe h w.heap->(Instr.lookup t x k false).run C.P w=.ok v w:=by
 unfold vMapGet at hh;split at hh
 ·rename_i r;obtain ⟨m,o,h1,g,h3⟩:=hh;obtain ⟨u,rfl,h4⟩:=ZGY h3;refine ⟨_,h4,fun w hw=>?_⟩;obtain ⟨es,ak,g2,rfl⟩:=ZoE (hw.2 r _ h1);have l:=MapKept.run_getObj_map (P:=C.P) g2;have s:=MapKept.run_checkKey (P:=C.P) (w:=w) hk (Ztw a3 ac) es.isEmpty 9999;obtain ⟨i,z',hi,_,_,a,a4⟩:=he.info;have y:z'=z:=by
   rw [hz] at a4;have hf:=he.2.2.2;rw [ab,Bool.false_or,hi,Option.bind_some,a] at hf;cases z'<;>first|(simp [Value.cells] at a4;exact a4)|cases hf
  subst y;cases o with
  | none=>
   obtain ⟨f,_⟩:=Zok a3 k es.toList 0 g;simp only [Instr.lookup,Sem.run_bind,ZW w ht,Result.andThen_ok,l,Sem.run_pure,s,MapKept.run_findKey hk f,Zdm w hi a];rfl
  | some v=>
   obtain ⟨j,e',f,_⟩:=Zmt a3 k v es.toList 0 g;simp only [Instr.lookup,Sem.run_bind,ZW w ht,Result.andThen_ok,l,Sem.run_pure,s,MapKept.run_findKey hk f];rfl
 ·exact hh.elim
theorem ZF3 {d:TD} {D:TypeDesc} (h:KD d D) {k k':Value} (hs:Instr.sameNow D k k'=some true):Instr.sameBits 10000 k' k=true:=by
 rcases h with ⟨q,rfl,rfl⟩|⟨rfl,rfl⟩
 ·cases k<;>cases k'<;>simp [Instr.sameNow] at hs;obtain ⟨rfl,rfl⟩:=hs;simp [Instr.sameBits]
 ·cases k<;>cases k'<;>simp [Instr.sameNow] at hs;have:=(MapKept.bytes_beq _ _).1 hs;subst this;simpa [Instr.sameBits] using hs
theorem ZrH (hC:CtxOk C) {t:TypeId} {m k x:Value} {w:World} {K:Value->Heap->Prop} (hh:vMapPut C t m k x w.heap K):
  ∃ w',(Instr.mapUpdate t m k x).run C.P w=.ok () w'/\Rest w w'/\K undef w'.heap:=by
 unfold vMapPut at hh;split at hh
 ·rename_i kt et ks z b ht;split at hh
  ·rename_i af ab;have f:=(Zas hh).1;replace hh:=(Zas hh).2;simp only [Bool.and_eq_true] at f;obtain ⟨l,s⟩:=f;have hu:=Zm4 (hC.tab _ _ ht).1;obtain ⟨D,hD,a3⟩:=kd_of (hC.tab _ _ ab).1 l;unfold vMapSet at hh;split at hh
   ·rename_i r;obtain ⟨mm,o,h1,v,y⟩:=hh;obtain ⟨es,a4,a,rfl⟩:=ZoE h1;have g3:=MapKept.run_getObj_map (P:=C.P) a;have g4:=MapKept.run_checkKey (P:=C.P) (w:=w) hD (Ztw a3 s) false 9999;have ag:r<w.heap.size:=(Array.getElem?_eq_some_iff.1 a).1;cases o with
    | none=>
     obtain ⟨g,h⟩:=Zok a3 k es.toList 0 v;refine ⟨{ w with heap:=w.heap.setIfInBounds r (.map (es.push { key:=k,val:=x,born:=a4 }) (a4+1)) },?_,⟨rfl,rfl,rfl,Nat.le_refl _⟩,y _ ⟨by simp,fun b f=>(MapKept.heap_set a).2 b f,?_⟩⟩
     ·simp only [Instr.mapUpdate,Sem.run_bind,ZW w hu,Result.andThen_ok,g3,g4,MapKept.run_findKey hD g,MapKept.run_setObj_map _ a]
     ·rw [ZvE (MapKept.heap_set a).1,h];simp [pe]
    | some u=>
     obtain ⟨j,e',g,h,f3,f4⟩:=Zmt a3 k u es.toList 0 v;simp only [Nat.zero_add] at g;have f5:es[j]?=some e':=by simpa using h
     refine ⟨{ w with heap:=w.heap.setIfInBounds r (.map (es.modify j fun e=>{ e with key:=k,val:=x }) a4) },?_,⟨rfl,rfl,rfl,Nat.le_refl _⟩,y _ ⟨by simp,fun b f=>(MapKept.heap_set a).2 b f,?_⟩⟩
     ·have a7:(Instr.keyThatStays e'.key k).run C.P w=.ok k w:=by
       unfold Instr.keyThatStays;rw [if_pos (ZF3 a3 f3)];rfl
      simp only [Instr.mapUpdate,Sem.run_bind,ZW w hu,Result.andThen_ok,g3,g4,MapKept.run_findKey hD g,f5,Option.map_some,Option.getD_some,a7,MapKept.run_setObj_map _ a]
     ·rw [ZvE (MapKept.heap_set a).1,f4];congr 1;apply List.ext_getElem?;intro i;rw [List.getElem?_map,List.getElem?_set,Array.getElem?_toList,Array.getElem?_modify];by_cases a5:j=i
      ·subst a5;have:=Zr9 h;rw [Array.length_toList] at this;simp [f5,pe,this]
      ·simp [a5]
   ·exact hh.elim
  ·exact hh.elim
 ·exact hh.elim
theorem ZwM {g h el:TypeId} (hs:C.P.underlying g=some .string) (a:C.P.underlying h=some (.slice el)) (o:C.P.underlying el=some (.int .u8)) {s:ByteArray} {w:World}
  {K:Value->Heap->Prop} (r:vS2B s w.heap K):∃ v w',(convert g h (.string s)).run C.P w=.ok v w'/\Rest w w'/\K v w'.heap:=by
 refine ⟨_,_,Lib.run_convert_string_bytes w g h el s hs a o,⟨rfl,rfl,rfl,Nat.le_succ _⟩,r _ _ ?_ ⟨?_,fun b f=>Lib.bytesWorld_at_old w el s b f⟩ (Lib.bytesWorld_size w el s) fun j b l=>?_⟩
 ·simp only [grownCap,Question.cut];omega
 ·rw [Lib.bytesWorld_size];omega
 ·have k:j<s.size:=Zr9 l;have:=Lib.bytesWorld_cell w el s j k;have e:(s.data.toList.getD j 0)=b:=by rw [List.getD_eq_getElem?_getD,l];rfl
  rw [e] at this;exact this
end
section
variable {C:Ctx} {e:Env}
theorem TeOk.und {P:Program} {t:TypeId} {g:TE} (h:TeOk P t g):∃ d,P.underlying t=some d/\isAggD d=g.d.agg:=by
 obtain ⟨h1,_,a,_⟩:=h;cases f:P.underlying t with
 | none=>rw [f] at a;cases a
 | some d=>exact ⟨d,rfl,by rw [Zyi f,h1]⟩
theorem ZtH {k:TK} {h:Heap} {a:Addr} {K:Value->Prop} (g:vLoad1 k h a K):∃ v,K v/\hcell h a=some v:=by
 unfold vLoad1 at g;split at g<;>(obtain ⟨x,h1,f⟩:=g;exact ⟨_,f,h1⟩)
theorem Zrs {h:Heap} {a:Addr}:∀ (ks:List TK) (i:Nat) (K:List Value->Prop),vLoadN h a ks i K ->
  ∃ vs,K vs/\vs.length=ks.length/\∀ j v,vs[j]?=some v->hcell h (a.add (i+j))=some v
 | [],_,_,hh=>⟨[],hh,rfl,fun j v f=>by simp at f⟩
 | k::ks,i,K,hh=>by
  obtain ⟨v,h1,g⟩:=ZtH hh;obtain ⟨vs,l,o,r⟩:=Zrs ks (i+1) _ h1;refine ⟨v::vs,l,by simp [o],fun j u w=>?_⟩;cases j with
  | zero=>simp at w;subst w;simpa using g
  | succ j=>rw [show i+(j+1)=i+1+j by omega];exact r j u (by simpa using w)
theorem Zqe (hC:CtxOk C) {t:TypeId} {x:Value} {h:Heap} {K:Value->Prop} (o:vLoad C.tab t x h K):
  ∃ a v,x=.pointer (some a)/\K v/\∀ w:World,HLe h w.heap->(loadVar t a).run C.P w=.ok v w:=by
 unfold vLoad at o;split at o
 ·rename_i te a ht;have hT:=hC.tab _ _ ht;obtain ⟨d,g,r⟩:=hT.und;cases i:te.d.agg
  ·rw [i] at o r;simp only [cond_false] at o;split at o
   ·obtain ⟨v,h1,f⟩:=ZtH o;refine ⟨a,v,rfl,h1,fun w u=>?_⟩;simp only [loadVar,Sem.run_bind,Zgz w g,r,Result.andThen_ok];simpa using ZqK w (u.1 _ _ f)
   ·exact o.elim
  ·rw [i] at o r;simp only [cond_true] at o;obtain ⟨vs,h1,f,k⟩:=Zrs _ _ _ o;refine ⟨a,_,rfl,h1,fun w u=>?_⟩;simp only [loadVar,Sem.run_bind,Zgz w g,r,Result.andThen_ok,if_true,ZaO w hT,TE.size,<-f];rw [ZiC w vs fun j v l=>by have:=u.1 _ _ (k j v l);simpa using this];rfl
 ·exact o.elim
theorem ZxO {a3 a2 el:TypeId} (hs:C.P.underlying a3=some (.slice el)) (he:C.P.underlying el=some (.int .u8)) (f:C.P.underlying a2=some .string)
  {x:Value} {h:Heap} {K:Value->Prop} (hh:vB2S x h fun s=>K (.string s)):∃ v,K v/\∀ w:World,HLe h w.heap->(convert a3 a2 x).run C.P w=.ok v w:=by
 unfold vB2S at hh;split at hh
 ·rename_i a n c;obtain ⟨bs,h1,i,o⟩:=hh;refine ⟨_,o,fun w hw=>?_⟩;have a5:∀ l:List UInt8,strOfNums (l.map fun b=>(b.toNat:Int))=⟨l.toArray⟩:=by
   intro l;have:∀ b:UInt8,((fun n:Int=>UInt8.ofNat n.toNat) ∘ fun b:UInt8=>(b.toNat:Int)) b=b:=fun b=>by simp
   simp only [strOfNums,List.map_map];rw [List.map_congr_left (g:=id) (fun b _=>this b),List.map_id]
  cases a with
  | none=>
   have:bs=[]:=by
    cases bs with
    | nil=>rfl
    | cons b r=>obtain ⟨p,hp,_⟩:=i 0 b rfl;cases hp
   subst this;rw [run_convert_bytes_nil w a3 el hs he n c a2 f];rfl
  | some p=>
   have hl:(loadCells p n).run C.P w=.ok ((bs.map fun b=>(b.toNat:Int)).map (Value.int .u8)).toArray w:=by
    have:=ZiC (P:=C.P) w (a:=p) (bs.map fun b=>Value.int .u8 b.toNat) fun j v k=>by
     rw [List.getElem?_map,Option.map_eq_some_iff] at k;obtain ⟨b,u,rfl⟩:=k;obtain ⟨q,y,hc⟩:=i j b u;cases y;exact hw.1 _ _ hc
    rw [List.length_map,h1] at this;rw [this,List.map_map];rfl
   rw [run_convert_bytes_string w a3 a2 el _ n c hs he f,run_bytesToString w _ n c _ hl,foldl_push_bytes];rw [<-a5 bs];simp only [ByteArray.empty,ByteArray.emptyWithCapacity,strOfNums];congr 2;have hz:∀ l:Array UInt8,(⟨(ByteArray.empty).data++l⟩:ByteArray)=⟨l⟩:=fun l=>by
    congr 1;apply Array.ext';rw [Array.toList_append];rfl
   exact hz _
 ·exact hh.elim
theorem Zp5 (hC:CtxOk C) {o:Oper} {h:Heap} {K:Value->Prop} (u:vRead C o.op e h K):
  ∃ v,K v/\∀ w:World,HLe h w.heap->(execOp (ev e) o).run C.P w=.ok (.value v) w:=by
 obtain ⟨a5,op,ae,pos,ac,ab⟩:=o;simp only at u;unfold vRead at u;split at u
 ·rename_i t a;obtain ⟨p,v,hp,hk,hr⟩:=Zqe hC u;exact ⟨v,hk,fun w hw=>by simp [execOp,Instr.loadAt,hp,Instr.sureAddr,hr w hw]⟩
 ·rename_i t x ix ok;split at u
  ·rename_i kt et ks z b ht;split at u
   ·rename_i aj ak a7 aa;have g:=(Zas u).1;replace u:=(Zas u).2;simp only [Bool.and_eq_true,Bool.not_eq_true'] at g;obtain ⟨⟨i,j⟩,k⟩:=g;subst k;split at u
    ·rename_i tk z' ai hz a8;obtain ⟨D,hD,a9⟩:=kd_of (hC.tab _ _ a7).1 i;obtain ⟨v,f,hr⟩:=ZFN (Zm4 (hC.tab _ _ ht).1) hD a9 (hC.tab _ _ aa) hz a8 j u;exact ⟨v,f,fun w hw=>by simp [execOp,hr w hw]⟩
    ·exact u.elim
   ·exact u.elim
  ·exact u.elim
 ·rename_i al a5 x;split at u
  ·rename_i el ks z b am z' b' hs l;split at u
   ·rename_i r z2 s a6;obtain ⟨v,f,hr⟩:=ZxO (ZaH (hC.tab _ _ hs).1) (ZeX (hC.tab _ _ a6).1) (ZcV (hC.tab _ _ l).1) u;exact ⟨v,f,fun w hw=>by simp [execOp,hr w hw]⟩
   ·exact u.elim
  ·exact u.elim
 ·exact u.elim
theorem Zqr {P:Program} (w:World) {a:Addr} {v:Value} {K:Heap->Prop} (h:vStore1 w.heap a v K):
  (store a v).run P w=.ok () (w.setCell a v)/\Rest w (w.setCell a v)/\K (w.setCell a v).heap:=by
 obtain ⟨h1,⟨u,f⟩,g,i⟩:=h;refine ⟨?_,⟨rfl,rfl,rfl,Nat.le_refl _⟩,i⟩;rw [run_store P w a v .plain h1];have j:w.cell? a=some u:=f;have k:w.frozen? a=false:=g;simp [j,k]
theorem ZgP {P:Program} {a:Addr}:∀ (vs:List Value) (i:Nat) (w:World) (K:Heap->Prop),vStoreN a vs i w.heap K ->
  ∃ w',(storeCells a vs i).run P w=.ok () w'/\Rest w w'/\K w'.heap
 | [],_,w,_,h=>⟨w,rfl,Rest.refl w,h⟩
 | v::vs,i,w,K,h=>by
  obtain ⟨h1,f,g⟩:=Zqr (P:=P) w h;obtain ⟨w',j,k,l⟩:=ZgP (P:=P) vs (i+1) _ K g;refine ⟨w',?_,f.trans k,l⟩;simp only [storeCells,Sem.run_bind,h1,Result.andThen_ok,j]
theorem ZFB (hC:CtxOk C) {t:TypeId} {x v:Value} {w:World} {K:Heap->Prop} (h:vStore C.tab t x v w.heap K):
  ∃ w',(Instr.storeAt t x v).run C.P w=.ok () w'/\Rest w w'/\K w'.heap:=by
 unfold vStore at h;split at h
 ·rename_i u a ht;have o:=hC.tab _ _ ht;cases j:u.d.agg
  ·rw [j] at h;simp only [cond_false] at h;obtain ⟨h1,h⟩:=Zas h;have h1:=Nat.eq_of_beq_eq_true h1;have l:=h.1;obtain ⟨f,g,i⟩:=Zqr (P:=C.P) w h;refine ⟨_,?_,g,i⟩;have k:v.cells=#[v]:=by cases v<;>simp [Value.oneCell'] at l<;>rfl
   simp [Instr.storeAt,Instr.sureAddr,storeVar,ZaO w o,h1,k,storeCells,Addr.add,f]
  ·rw [j] at h;simp only [cond_true] at h;split at h
   ·rename_i cs;obtain ⟨h1,h⟩:=Zas h;have h1:=Nat.eq_of_beq_eq_true h1;obtain ⟨w',f,g,i⟩:=ZgP (P:=C.P) _ _ w _ h;refine ⟨w',?_,g,i⟩;have r:cs.size=u.size:=by simpa using h1
    simp [Instr.storeAt,Instr.sureAddr,storeVar,ZaO w o,Value.cells,r,f]
   ·exact h.elim
 ·exact h.elim
theorem Zud {agg:Bool} {z:Nat}:∀ (w:List (Nat×Value)) (n:Nat) (cells:List Value) (K:List Value->Prop),partsAll agg z w n K ->
  (n+w.length)*z<=cells.length->∃ l,K l/\l.length=w.length*z/\Instr.fill (fun i=>some (i*z,z)) cells.toArray w=some (setAt cells (n*z) l).toArray
 | [],n,cells,K,h,_=>⟨[],h,by simp,by simp [Instr.fill,setAt]⟩
 | (i,v)::r,n,cells,K,h,hl=>by
  unfold partsAll at h;obtain ⟨hi,h⟩:=Zas h;have hi:=Nat.eq_of_beq_eq_true hi;subst hi;obtain ⟨h1,u⟩:=ZoZ h;obtain ⟨hz,h1⟩:=Zas h1;have hz:=Nat.eq_of_beq_eq_true hz;have x:(i+(r.length+1))*z=i*z+(z+r.length*z):=by rw [Nat.add_mul,Nat.add_mul,Nat.one_mul];omega
  simp only [List.length_cons] at hl;rw [x] at hl;have a2:(setAt cells (i*z) v.cells.toList).length=cells.length:=by
   simp [setAt] at hz ⊢;omega
  obtain ⟨l,f,g,j⟩:=Zud r (i+1) (setAt cells (i*z) v.cells.toList) _ h1 (by
   rw [a2,Nat.add_mul,Nat.add_mul,Nat.one_mul];omega)
  refine ⟨v.cells.toList++l,f,by simp only [List.length_append,hz,g,List.length_cons,Nat.add_mul,Nat.one_mul];omega,?_⟩;rw [Zt0 (off:=i*z) (size:=z) rfl (by simpa using hz) (by simp;omega),List.toList_toArray,j];congr 2;unfold setAt;have k:(i+1)*z=i*z+v.cells.toList.length:=by rw [Nat.add_mul,Nat.one_mul,hz]
  rw [k,List.length_append];have a:(List.take (i*z) cells).length=i*z:=by simp;omega
  have o:(List.take (i*z) cells++v.cells.toList++List.drop (i*z+v.cells.toList.length) cells).take (i*z+v.cells.toList.length)=List.take (i*z) cells++v.cells.toList:=by
   rw [List.take_append_of_le_length (by simp [a]),List.take_of_length_le (by simp [a])]
  have s:(List.take (i*z) cells++v.cells.toList++List.drop (i*z+v.cells.toList.length) cells).drop (i*z+v.cells.toList.length+l.length)=List.drop (i*z+(v.cells.toList.length+l.length)) cells:=by
   rw [List.drop_append,List.drop_of_length_le (by simp [a]),List.nil_append,List.drop_drop];congr 1;simp only [List.length_append,a];omega
  rw [o,s];simp only [List.append_assoc]
theorem ZGz (n:Nat) (zero:List Value):(repl n zero).length=n*zero.length:=by
 induction n with
 | zero=>simp [repl]
 | succ n a=>simp [repl,a,Nat.add_mul];omega
theorem repl_getElem? (zero:List Value) (hz:0<zero.length):∀ (n i:Nat),i<n*zero.length->(repl n zero)[i]?=zero[i%zero.length]?
 | 0,i,h=>by simp at h
 | n+1,i,h=>by
  rw [repl,List.getElem?_append];split
  ·rename_i hi;rw [Nat.mod_eq_of_lt hi]
  ·rename_i hi;rw [repl_getElem? zero hz n _ (by rw [Nat.add_mul,Nat.one_mul] at h;omega)];congr 1;rw [Nat.mod_eq_sub_mod (a:=i) ω]
theorem Ziw (zero:Array Value) (n:Nat) (hz:0<zero.size):(Array.range (n*zero.size)).map (fun i=>zero[i%zero.size]!)=(repl n zero.toList).toArray:=by
 apply Array.ext';apply List.ext_getElem?;intro i;simp only [Array.toList_map,Array.toList_range,List.getElem?_map];by_cases h:i<n*zero.size
 ·rw [List.getElem?_range h,repl_getElem? zero.toList (by simpa using hz) n i (by simpa using h)];have a:i%zero.size<zero.size:=Nat.mod_lt _ hz;simp [a]
 ·rw [List.getElem?_eq_none (by simp;omega),List.getElem?_eq_none (by rw [ZGz];simp;omega)];rfl
theorem Zbd {n:Int} (a:-9223372036854775808<=n) (h1:n<=9223372036854775807):IntKind.i64.wrap n=n:=IntWalk.i64_in n ⟨a,h1⟩
end
end Go.Vc
