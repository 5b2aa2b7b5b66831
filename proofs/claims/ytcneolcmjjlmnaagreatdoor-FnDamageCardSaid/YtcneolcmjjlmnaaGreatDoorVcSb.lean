import Derived.Test.YtcneolcmjjlmnaaGreatDoorVcSound
import Derived.MapKept
import Derived.Lib.ConvBytes
open Nat renaming beq->Jv,eq_of_beq_eq_true->JK,le_refl->JB,add_mul->JQ,one_mul->X5
open List renaming getElem?_map->JP,map_cons->JG,ext_getElem?->Xa,length_cons->Jy,length_append->Jo,take->XS,drop->Yq,length->Jk
open Array renaming getElem?_toList->Yp,ext'->JN
open Option renaming map_eq_some_iff->X4,some->Jg
open Bool renaming and_eq_true->Jz,not_eq_true'->JV,true->Ji,false->Jj
open Go renaming Value->Jl
namespace Go.Vc
set_option linter.unusedVariables false
set_option linter.unusedSimpArgs false
open Go
section
variable {C:Ctx} {e:Env}
theorem ZFW {s:TypeId} {a:Addr} {f:Nat} {x:List (Nat×Nat×Bool)} {off size:Nat} {g:Bool} (hs:tdOf C.P s=.struct x) (u:x[f]?=Jg (off,size,g)) (hz:Jv size 0=Jj) (w:World):
  (Instr.fieldAt s (.pointer (Jg a)) f).run C.P w=.ok (.pointer (Jg (a.add off))) w:=by
 obtain ⟨a2,hu,rfl⟩:=Zrz hs;simp only [JP,Yp,X4,Prod.mk.injEq] at u;obtain ⟨fd,o,rfl,l,_⟩:=u;obtain ⟨d,i,j,hi,k⟩:=Zrs l hz;have h:i.size≠0:=λh=>by rw [h] at k;subst k;cases hz
 simp [Instr.fieldAt,ZZ w hu,o,Instr.sureAddr,fieldPlace,sizeOf,Zb5 w hi,h]
theorem ZOi {t el:TypeId} {g:TE} {x:Jl} {k:IntKind} {i:Int} {K:Addr->Prop} (l:C.P.underlying t=Jg (.slice el)) (j:TeOk C.P el g) (h:vIdx x i g.size K):
  ∃a,K a/\∀w,(Instr.indexAt t x (.int k i)).run C.P w=.ok (.pointer (Jg a)) w:=by
 unfold vIdx at h;split at h
 .rename_i a n c;refine ⟨_,h.2,λw=>?_⟩;simp [Instr.indexAt,asIntOf,ZZ w l,h.1.1,h.1.2,ZaW w j]
 .exact h.elim
theorem ZB3 {P:Program} {isS:Bool} {n c:Nat} {lo hi mx:Jm Jl} {K:Nat->Nat->Nat->Prop}
  (a2:¬(mx.isSome=Ji/\hi.isNone=Ji)) (h:vBound mx c c λm=>vBound hi n m λk=>vBound lo 0 k λl=>K l k m):
  ∃l k m,K l k m/\∀w,(Instr.sliceBounds isS n c lo hi mx).run P w=.ok (l,k,m) w:=by
 obtain ⟨m,o,j,i⟩:=ZhN (P:=P) h (c:=if isS then .slice3Acap else .slice3Alen);cases mx with
 | none=>
  obtain rfl:=j rfl;obtain ⟨k,f,h1,a⟩:=ZhN (P:=P) o (c:=if isS then .sliceAcap else .sliceAlen);obtain ⟨l,g,l1,l2⟩:=ZhN (P:=P) f (c:=.sliceB);refine ⟨l,k,m,g,λw=>?_⟩;cases hi with
  | none=>
   obtain rfl:=h1 rfl;cases lo with
   | none=>obtain rfl:=l1 rfl;simp [Instr.sliceBounds]
   | some v=>simp [Instr.sliceBounds,l2 v rfl]
  | some u=>
   cases lo with
   | none=>obtain rfl:=l1 rfl;simp [Instr.sliceBounds,a u rfl]
   | some v=>simp [Instr.sliceBounds,l2 v rfl,a u rfl]
 | some x=>
  obtain ⟨k,f,h1,a⟩:=ZhN (P:=P) o (c:=.slice3B);obtain ⟨l,g,l1,l2⟩:=ZhN (P:=P) f (c:=.slice3C);refine ⟨l,k,m,g,λw=>?_⟩;cases hi with
  | none=>simp at a2
  | some u=>
   cases lo with
   | none=>obtain rfl:=l1 rfl;simp [Instr.sliceBounds,i x rfl,a u rfl]
   | some v=>simp [Instr.sliceBounds,i x rfl,l2 v rfl,a u rfl]
theorem ZOq {t el:TypeId} {j:TE} {x:Jl} {lo hi mx:Jm Jl} {K:Jl->Prop} (ht:C.P.underlying t=Jg (.slice el)) (he:TeOk C.P el j)
  (o:¬(mx.isSome=Ji/\hi.isNone=Ji)) (h:vSliceS x j.size lo hi mx K):
  ∃v,K v/\∀w,(Instr.sliceAt t x lo hi mx).run C.P w=.ok v w:=by
 unfold vSliceS at h;split at h
 .rename_i a n c;obtain ⟨l,k,m,u,hr⟩:=ZB3 (P:=C.P) (isS:=Ji) (K:=λl k m=>K (.slice (bif Jv m l then a else a.map (·.add (l*j.size))) (k-l) (m-l))) o h;refine ⟨_,u,λw=>?_⟩;simp only [Instr.sliceAt,Sem.run_bind,ZZ w ht,Result.andThen_ok,Instr.slice,hr,ZaW w he,Sem.run_pure];congr 2;by_cases g:m=l
  .simp [g]
  .have:Jv m l=false:=by
    grind [absurd,JK]
   simp [g,this]
 .exact h.elim
theorem ZOW {t:TypeId} {s:Jd} {lo hi:Jm Jl} {K:Jl->Prop} (o:C.P.underlying t=Jg .string) (h:vSliceStr s lo hi λx=>K (.string x)):
  ∃v,K v/\∀w,(Instr.sliceAt t (.string s) lo hi none).run C.P w=.ok v w:=by
 unfold vSliceStr at h;obtain ⟨l,g,m,j,k⟩:=ZB3 (P:=C.P) (isS:=Jj) (n:=s.size) (c:=s.size) (lo:=lo) (hi:=hi) (mx:=none) (K:=λl g m=>K (.string (s.extract l g))) (by simp) h;refine ⟨_,j,λw=>?_⟩;simp [Instr.sliceAt,ZZ w o,Instr.slice,k]
theorem Zzc (hC:CtxOk C) {o:Oper} {K:Jl->Prop} (h:vPure C o.op e K):∃v,K v/\∀w,(execOp (ev e) o).run C.P w=.ok (.value v) w:=by
 obtain ⟨aq,op,b5,pos,az,ay⟩:=o;simp only at h;unfold vPure at h;split at h
 .rw [Zch] at h;exact ⟨_,h,λw=>rfl⟩
 .rw [Zch] at h;exact ⟨_,h,λw=>rfl⟩
 .rename_i c a b;split at h
  .rename_i t ht;cases t
   .simp_all [ev,Zch,execOp,asBool]
   .simp_all [ev,Zch,execOp,asBool]
  .exact h.elim
 .rename_i op t x y ty;obtain ⟨v,r,hr⟩:=ZLD hC h;refine ⟨v,r,λw=>?_⟩;grind [execOp,Sem.run_bind,Result.andThen_ok,Sem.run_pure]
 .rename_i op ty x;split at h
  .simp_all [execOp,Op.unary]
  .simp_all [execOp,Op.unary,Op.intArith]
  .exact h.elim
 .rename_i b8 aq x;split at h
  .rename_i k0 u z0 b0 k ks z bb k' n hs ht j;have hu:=ZfI (hC.tab _ _ ht).1;have r:=ZfI (hC.tab _ _ hs).1;simp_all [execOp,convert,ZZ,Conv.intToInt]
  .rename_i u z0 b0 ks z bb s hs ht j;have hu:=ZcF (hC.tab _ _ ht).1;have r:=ZcF (hC.tab _ _ hs).1;simp_all [execOp,convert,ZZ]
  .exact h.elim
 .rename_i x;unfold vNilQ at h;split at h
  .simp_all [execOp]
  .simp_all [execOp]
  .exact h.elim
 .rename_i s x f;split at h
  .rename_i fs ks z bb a ht j;split at h
   .rename_i off size g hf;have hz:Jv size 0=Jj/\K (.pointer (Jg (a.add off))):=by
     grind
    exact ⟨_,hz.2,λw=>by simp [execOp,j,ZFW (C:=C) (hC.tab _ _ ht).1 hf hz.1 w]⟩
   .exact h.elim
  .exact h.elim
 .rename_i s x f;split at h
  .rename_i fs ks z bb ht;obtain ⟨v,r,hr⟩:=ZEy (C:=C) (hC.tab _ _ ht).1 h;simp_all [execOp]
  .exact h.elim
 .rename_i t x ix;split at h
  .rename_i el ks z bb k i ht hi;split at h
   .rename_i te he;obtain ⟨a,ha,hr⟩:=ZOi (C:=C) (k:=k) (ZaM (hC.tab _ _ ht).1) (hC.tab _ _ he) h;simp_all [execOp]
   .exact h.elim
  .exact h.elim
 .rename_i t x ix;split at h
  .rename_i ks z bb s k i ht j hi;obtain ⟨b,h0,hb,hk⟩:=h;have hu:=ZcF (hC.tab _ _ ht).1;simp_all [execOp,Instr.index,asIntOf,ZZ]
  .exact h.elim
 .rename_i t x lo hi mx;split at h
  .rename_i el ks z bb ht;split at h
   .rename_i te he;cases hmx:(mx.isSome&&hi.isNone)
    .rw [hmx] at h;simp only [cond_false] at h;obtain ⟨v,r,hr⟩:=ZOq (C:=C) (ZaM (hC.tab _ _ ht).1) (hC.tab _ _ he) (by
      rw [Zgt,Zgt];grind) h
     simp_all [Zgt,execOp]
    .grind
   .exact h.elim
  .rename_i ks z bb ht;split at h
   .rename_i s hs;cases hmx:mx.isSome
    .rw [hmx] at h;simp only [cond_false] at h;obtain ⟨v,r,hr⟩:=ZOW (C:=C) (ZcF (hC.tab _ _ ht).1) h;simp_all [Zgt,execOp]
    .grind
   .exact h.elim
  .exact h.elim
 .rename_i x ix;split at h
  .rename_i vs j;split at h
   .simp_all [execOp,Instr.extract]
   .exact h.elim
  .exact h.elim
 .rename_i fn first a7
  rw [Zhb,Zhb,ZiX,ZiX] at h;refine ⟨_,h,λw=>?_⟩;simp only [execOp,Instr.makeFunc,Sem.run_bind,Sem.run_pure,Result.andThen_ok];rw [show first.map (ev e)=(first.toList.map (ev e)).toArray by apply JN;simp,show a7.map (ev e)=(a7.toList.map (ev e)).toArray by apply JN;simp]
 .rename_i t aw;split at h
  .rename_i fs ks zero bb ht;obtain ⟨ak,h⟩:=Zav h;rw [Zrw] at h;obtain ⟨cs,hk,hr⟩:=ZvC _ _ _ h;have hT:=hC.tab _ _ ht;obtain ⟨af,hu,ah⟩:=Zrz hT.1;obtain ⟨i,z,hi,b9,_,hz,au⟩:=hT.info;refine ⟨_,hk,λw=>?_⟩;have aj:z.cells=zero.toArray:=by apply JN;simpa using au
   have hm:∀(l:List Field),allPos (l.map λf=>(f.offset,fsz C.P f.type,((C.P.underlying f.type).map isAggD).getD Ji))=Ji ->
     (l.mapM (λf=>do pure (f.offset,<-sizeOf f.type)):Sem (List (Nat×Nat))).run C.P w=.ok (l.map λf=>(f.offset,fsz C.P f.type)) w:=by
    intro l hl;induction l with
    | nil=>rfl
    | cons f l ih=>
     simp only [JG,allPos,Jz,JV] at hl;obtain ⟨d,i,hd,hi,hs⟩:=Zrs rfl hl.1;have:=ih hl.2;have ax:(sizeOf f.type).run C.P w=.ok (fsz C.P f.type) w:=by simp [sizeOf,Zb5 w hi,hs]
     simp_all
   have ad:∀(fs:List Field),(λ(i:Nat)=>((fs.map λf=>(f.offset,fsz C.P f.type)).toArray)[i]?) =
     λ(i:Nat)=>((fs.map λ(f:Field)=>(f.offset,fsz C.P f.type,((C.P.underlying f.type).map isAggD).getD Ji))[i]?).map λ(p:Nat×Nat×Bool)=>(p.1,p.2.1):=by
    intro fs;funext i;cases h:fs[i]?<;>simp [h]
   have ar:=hm af.toList (by rw [<-ah];exact ak);simp only [execOp,Instr.build,Sem.run_bind,Zd5 w hi hz,ZZ w hu,Result.andThen_ok];rw [Array.mapM_eq_mapM_toList];simp only [Sem.run_map,ar,Result.andThen_ok];rw [aj,ad,<-ah];simp_all [ev,evp,Zpo]
  .exact h.elim
 .rename_i a5 a3;split at h
  .rename_i x t ha ae;have a6:a5=#[x]:=by apply JN;simpa using ha
   have ac:a3=#[t]:=by apply JN;simpa using ae
   subst a6 ac;split at h
   .rename_i el ks z bb ht;have hu:=ZaM (hC.tab _ _ ht).1;unfold vLen at h;split at h
    .rename_i a n c j;exact ⟨_,h,λw=>by simp [execOp,resolve,invoke,builtin,Builtin.len_,j,ZZ w hu,goInt]⟩
    .exact h.elim
   .rename_i ks z bb ht;have hu:=ZcF (hC.tab _ _ ht).1;split at h
    .rename_i s j;exact ⟨_,h,λw=>by simp [execOp,resolve,invoke,builtin,Builtin.len_,j,ZZ w hu,goInt]⟩
    .exact h.elim
   .exact h.elim
  .exact h.elim
 .rename_i a5 a3;split at h
  .rename_i x t ha ae;have a6:a5=#[x]:=by apply JN;simpa using ha
   have ac:a3=#[t]:=by apply JN;simpa using ae
   subst a6 ac;split at h
   .rename_i el ks z bb ht;have hu:=ZaM (hC.tab _ _ ht).1;unfold vCap at h;split at h
    .rename_i a n c j;exact ⟨_,h,λw=>by simp [execOp,resolve,invoke,builtin,Builtin.cap_,j,ZZ w hu,goInt]⟩
    .exact h.elim
   .exact h.elim
  .exact h.elim
 .rename_i a5 a3;split at h
  .rename_i x y ha;have a6:a5=#[x,y]:=by apply JN;simpa using ha
   subst a6;split at h
   .rename_i k a k' b j hy;exact ⟨_,h,λw=>by simp [execOp,resolve,invoke,builtin,Builtin.max_,Builtin.max2,j,hy]⟩
   .exact h.elim
  .exact h.elim
 .rename_i a5 a3;split at h
  .rename_i x y ha;have a6:a5=#[x,y]:=by apply JN;simpa using ha
   subst a6;split at h
   .rename_i k a k' b j hy;exact ⟨_,h,λw=>by simp [execOp,resolve,invoke,builtin,Builtin.min_,Builtin.min2,j,hy]⟩
   .exact h.elim
  .exact h.elim
 .exact h.elim
end
theorem Zs3 {P:Program} {t:TypeId} {k e:Nat} (h:tdOf P t=.map k e):P.underlying t=Jg (.map k e):=by
 unfold tdOf at h;grind
def KD (d:TD) (D:TypeDesc):Prop:=(∃k,d=.int k/\D=.int k)\/(d=.str/\D=.string)
theorem kd_of {P:Program} {t:TypeId} {d:TD} (h:tdOf P t=d) (g:isKd d=Ji):∃D,P.underlying t=Jg D/\KD d D:=by
 cases d with
 | int k=>exact ⟨_,ZfI h,.inl ⟨k,rfl,rfl⟩⟩
 | str=>exact ⟨_,ZcF h,.inr ⟨rfl,rfl⟩⟩
 | _=>cases g
theorem ZxF {d:TD} {D:TypeDesc} (h:KD d D) (x y:Jl):kEq d x y=Instr.sameNow D x y:=by
 rcases h with ⟨k,rfl,rfl⟩|⟨rfl,rfl⟩<;>cases x<;>cases y<;>rfl
theorem Zuv {d:TD} {D:TypeDesc} (h:KD d D) {x:Jl} (a:kOk d x=Ji):MapKept.IsKey D x:=by
 rcases h with ⟨k,rfl,rfl⟩|⟨rfl,rfl⟩
 .cases x<;>simp [kOk] at a;grind [ZqP,MapKept.IsKey]
 .cases x<;>simp [kOk] at a;assumption
def pe (e:MapEntry):Jl×Value:=(e.key,e.val)
theorem Zsn {d:TD} {D:TypeDesc} (h:KD d D) (k:Jl):∀(l:List MapEntry) (i:Nat),mGet d k (l.map pe)=Jg none ->
  Instr.findNow D k l i=Jg none/\∀v,mSet d k v (l.map pe)=l.map pe++[(k,v)]
 | [],_,_=>⟨rfl,λ_=>rfl⟩
 | e::l,i,hm=>by
  simp only [JG,pe,mGet] at hm;cases a:kEq d k e.key with
  | none=>rw [a] at hm;cases hm
  | some b=>
   cases b with
   | true=>rw [a] at hm;cases hm
   | false=>
    rw [a] at hm;obtain ⟨h1,f⟩:=Zsn h k l (i+1) hm;refine ⟨?_,λv=>?_⟩
    .grind [ZxF,Instr.findNow]
    .simp_all [JG,pe,mSet,List.cons_append,congrArg]
theorem ZoX {d:TD} {D:TypeDesc} (h:KD d D) (k u:Jl):∀(l:List MapEntry) (i:Nat),mGet d k (l.map pe)=Jg (Jg u) ->
  ∃j e,Instr.findNow D k l i=Jg (Jg (i+j,u))/\l[j]?=Jg e/\Instr.sameNow D k e.key=Jg Ji/\∀v,mSet d k v (l.map pe)=(l.map pe).set j (k,v)
 | [],_,hm=>by cases hm
 | e::l,i,hm=>by
  simp only [JG,pe,mGet] at hm;cases a:kEq d k e.key with
  | none=>rw [a] at hm;cases hm
  | some b=>
   have w:=a;rw [ZxF h] at w;cases b with
   | true=>
    rw [a] at hm;simp only [Option.some.injEq] at hm;subst hm;exact ⟨0,e,by simp only [Instr.findNow,w];rfl,rfl,w,λv=>by simp only [JG,pe,mSet,a];rfl⟩
   | false=>
    rw [a] at hm;obtain ⟨j,x,h1,f,g,o⟩:=ZoX h k u l (i+1) hm;refine ⟨j+1,x,?_,by simpa using f,g,λv=>?_⟩
    .grind [Instr.findNow]
    .simp_all [JG,pe,mSet,List.set_cons_succ,congrArg]
theorem ZoO {h:Heap} {r:Nat} {m:List (Jl×Jl)} (j:hmap h r=Jg m):∃es g,h[r]?=Jg (.map es g)/\m=es.toList.map pe:=by
 unfold hmap at j;split at j
 .rename_i es g k;cases j;exact ⟨es,g,k,rfl⟩
 .cases j
theorem ZDN {h:Heap} {r:Nat} {es:Array MapEntry} {g:Nat} (j:h[r]?=Jg (.map es g)):hmap h r=Jg (es.toList.map pe):=by
 unfold hmap;rw [j];rfl
theorem ZK3 {α:Type} {xs:List α} {k:Nat} {x:α} (h:xs[k]?=Jg x):k<Jk xs:=by
 grind
section
variable {C:Ctx} {e:Env}
theorem ZK5 {k:TK} {K:Jl->Prop} (h:exV1 k K):∃v,K v:=by
 unfold exV1 at h;grind
theorem ZGS {t kt et:TypeId} {D:TypeDesc} {d:TD} {a2:TE} {tk:TK} (ht:C.P.underlying t=Jg (.map kt et)) (hk:C.P.underlying kt=Jg D) (a3:KD d D) (he:TeOk C.P et a2) {x k z:Jl} (hz:a2.zero=[z]) (a6:a2.d.agg=Jj) (a7:kOk d k=Ji)
  {h:Heap} {K:Jl->Prop} (hh:vMapGet tk d x k z h K):∃v,K v/\∀w:World,HLe h w.heap->(Instr.lookup t x k Jj).run C.P w=.ok v w:=by
 unfold vMapGet at hh;split at hh
 .rename_i r;obtain ⟨m,o,h1,a,l⟩:=hh;obtain ⟨u,rfl,s⟩:=ZK5 l;refine ⟨_,s,λw hw=>?_⟩;obtain ⟨es,ah,y,rfl⟩:=ZoO (hw.2 r _ h1);have g3:=MapKept.run_getObj_map (P:=C.P) y;have g4:=MapKept.run_checkKey (P:=C.P) (w:=w) hk (Zuv a3 a7) es.isEmpty 9999;obtain ⟨i,z',hi,_,_,f,a4⟩:=he.info;have g:z'=z:=by
   rw [hz] at a4;have hf:=he.2.2.2;rw [a6,Bool.false_or,hi,Option.bind_some,f] at hf;cases z'<;>first|(simp [Value.cells] at a4;exact a4)|cases hf
  subst g;cases o with
  | none=>
   obtain ⟨f1,_⟩:=Zsn a3 k es.toList 0 a;simp_all [Instr.lookup,Sem.run_bind,ZZ,Result.andThen_ok,Sem.run_pure,MapKept.run_findKey,Zd5]
  | some v=>
   obtain ⟨j,e',f1,_⟩:=ZoX a3 k v es.toList 0 a;simp_all [Instr.lookup,Sem.run_bind,ZZ,Result.andThen_ok,Sem.run_pure,MapKept.run_findKey]
 .exact hh.elim
theorem ZEY {d:TD} {D:TypeDesc} (h:KD d D) {k k':Jl} (hs:Instr.sameNow D k k'=Jg Ji):Instr.sameBits 10000 k' k=true:=by
 rcases h with ⟨q,rfl,rfl⟩|⟨rfl,rfl⟩
 .cases k<;>cases k'<;>simp [Instr.sameNow] at hs;obtain ⟨rfl,rfl⟩:=hs;simp [Instr.sameBits]
 .cases k<;>cases k'<;>simp [Instr.sameNow] at hs;grind [MapKept.bytes_beq,Instr.sameBits]
theorem ZxV (hC:CtxOk C) {t:TypeId} {m k x:Jl} {w:World} {K:Jl->Heap->Prop} (hh:vMapPut C t m k x w.heap K):
  ∃w',(Instr.mapUpdate t m k x).run C.P w=.ok () w'/\Rest w w'/\K undef w'.heap:=by
 unfold vMapPut at hh;split at hh
 .rename_i kt et ks z b ht;split at hh
  .rename_i af a7;have f:=(Zav hh).1;replace hh:=(Zav hh).2;simp only [Jz] at f;obtain ⟨l,s⟩:=f;have hu:=Zs3 (hC.tab _ _ ht).1;obtain ⟨D,hD,a3⟩:=kd_of (hC.tab _ _ a7).1 l;unfold vMapSet at hh;split at hh
   .rename_i r;obtain ⟨mm,o,h1,v,y⟩:=hh;obtain ⟨es,a4,a,rfl⟩:=ZoO h1;have g3:=MapKept.run_getObj_map (P:=C.P) a;have g4:=MapKept.run_checkKey (P:=C.P) (w:=w) hD (Zuv a3 s) Jj 9999;have ag:r<w.heap.size:=(Array.getElem?_eq_some_iff.1 a).1;cases o with
    | none=>
     obtain ⟨g,h⟩:=Zsn a3 k es.toList 0 v;refine ⟨{ w with heap:=w.heap.setIfInBounds r (.map (es.push { key:=k,val:=x,born:=a4 }) (a4+1)) },?_,⟨rfl,rfl,rfl,JB _⟩,y _ ⟨by simp,λb f=>(MapKept.heap_set a).2 b f,?_⟩⟩
     .simp only [Instr.mapUpdate,Sem.run_bind,ZZ w hu,Result.andThen_ok,g3,g4,MapKept.run_findKey hD g,MapKept.run_setObj_map _ a]
     .rw [ZDN (MapKept.heap_set a).1,h];simp [pe]
    | some u=>
     obtain ⟨j,e',g,h,f3,f4⟩:=ZoX a3 k u es.toList 0 v;simp only [Nat.zero_add] at g;have f5:es[j]?=Jg e':=by simpa using h
     refine ⟨{ w with heap:=w.heap.setIfInBounds r (.map (es.modify j λe=>{ e with key:=k,val:=x }) a4) },?_,⟨rfl,rfl,rfl,JB _⟩,y _ ⟨by simp,λb f=>(MapKept.heap_set a).2 b f,?_⟩⟩
     .have ab:(Instr.keyThatStays e'.key k).run C.P w=.ok k w:=by
       unfold Instr.keyThatStays;rw [if_pos (ZEY a3 f3)];rfl
      simp only [Instr.mapUpdate,Sem.run_bind,ZZ w hu,Result.andThen_ok,g3,g4,MapKept.run_findKey hD g,f5,Option.map_some,Option.getD_some,ab,MapKept.run_setObj_map _ a]
     .rw [ZDN (MapKept.heap_set a).1,f4];congr 1;apply Xa;intro i;rw [JP,List.getElem?_set,Yp,Array.getElem?_modify];by_cases ad:j=i
      .grind [ZK3,Array.length_toList,pe]
      .simp [ad]
   .exact hh.elim
  .exact hh.elim
 .exact hh.elim
theorem ZM1 {g h el:TypeId} (hs:C.P.underlying g=Jg .string) (a:C.P.underlying h=Jg (.slice el)) (k:C.P.underlying el=Jg (.int .u8)) {s:Jd} {w:World}
  {K:Jl->Heap->Prop} (j:vS2B s w.heap K):∃v w',(convert g h (.string s)).run C.P w=.ok v w'/\Rest w w'/\K v w'.heap:=by
 refine ⟨_,_,Lib.run_convert_string_bytes w g h el s hs a k,⟨rfl,rfl,rfl,Nat.le_succ _⟩,j _ _ ?_ ⟨?_,λb f=>Lib.bytesWorld_at_old w el s b f⟩ (Lib.bytesWorld_size w el s) ⟨el,((Lib.bytesCells w el s).size,(Lib.bytesCells w el s).size+1),grownCap w s.size 0 el-s.size,?_,?_,?_⟩⟩
 .simp only [grownCap,Question.cut];omega
 .rw [Lib.bytesWorld_size];omega
 .rw [Lib.bytesWorld_at_new];unfold Lib.bytesCells;congr 2;apply JN;simp
 .have:s.size<=grownCap w s.size 0 el:=by simp only [grownCap,Question.cut];omega
  omega
 .have:s.data.size=s.size:=rfl;have:s.size<=grownCap w s.size 0 el:=by simp only [grownCap,Question.cut];omega
  show _<=(Lib.bytesCells w el s).size;unfold Lib.bytesCells;simp;omega
end
section
variable {C:Ctx} {e:Env}
theorem TeOk.und {P:Program} {t:TypeId} {g:TE} (h:TeOk P t g):∃d,P.underlying t=Jg d/\isAggD d=g.d.agg:=by
 obtain ⟨h1,_,a,_⟩:=h;cases f:P.underlying t with
 | none=>rw [f] at a;cases a
 | some d=>exact ⟨d,rfl,by rw [ZNO f,h1]⟩
theorem ZCo {k:TK} {h:Heap} {a:Addr} {K:Jl->Prop} (g:vLoad1 k h a K):∃v,K v/\hcell h a=Jg v:=by
 unfold vLoad1 at g;grind
theorem ZDZ {h:Heap} {a:Addr}:∀(ks:List TK) (i:Nat) (K:Jc->Prop),vLoadN h a ks i K ->
  ∃vs,K vs/\(Jk vs)=Jk ks/\∀j v,vs[j]?=Jg v->hcell h (a.add (i+j))=Jg v
 | [],_,_,hh=>⟨[],hh,rfl,λj v f=>by simp at f⟩
 | k::ks,i,K,hh=>by
  obtain ⟨v,h1,g⟩:=ZCo hh;obtain ⟨vs,l,o,r⟩:=ZDZ ks (i+1) _ h1;grind
theorem ZuB (hC:CtxOk C) {t:TypeId} {x:Jl} {h:Heap} {K:Jl->Prop} (o:vLoad C.tab t x h K):
  ∃a v,x=.pointer (Jg a)/\K v/\∀w:World,HLe h w.heap->(loadVar t a).run C.P w=.ok v w:=by
 unfold vLoad at o;split at o
 .rename_i te a ht;have hT:=hC.tab _ _ ht;obtain ⟨d,g,u⟩:=hT.und;cases i:te.d.agg
  .rw [i] at o u;simp only [cond_false] at o;split at o
   .obtain ⟨v,h1,f⟩:=ZCo o;refine ⟨a,v,rfl,h1,λw hw=>?_⟩;simp only [loadVar,Sem.run_bind,ZgY w g,u,Result.andThen_ok];simpa using ZBj w (hw.1 _ _ f)
   .exact o.elim
  .rw [i] at o u;simp only [cond_true] at o;obtain ⟨vs,h1,f,k⟩:=ZDZ _ _ _ o;refine ⟨a,_,rfl,h1,λw hw=>?_⟩;simp only [loadVar,Sem.run_bind,ZgY w g,u,Result.andThen_ok,if_true,ZaW w hT,TE.size,<-f];rw [ZnK w vs λj v l=>by have:=hw.1 _ _ (k j v l);simpa using this];rfl
 .exact o.elim
theorem ZHH {a3 a2 el:TypeId} (hs:C.P.underlying a3=Jg (.slice el)) (he:C.P.underlying el=Jg (.int .u8)) (f:C.P.underlying a2=Jg .string)
  {x:Jl} {h:Heap} {K:Jl->Prop} (hh:vB2S x h λs=>K (.string s)):∃v,K v/\∀w:World,HLe h w.heap->(convert a3 a2 x).run C.P w=.ok v w:=by
 unfold vB2S at hh;split at hh
 .rename_i a n c;obtain ⟨bs,h1,g,k⟩:=hh;refine ⟨_,k,λw hw=>?_⟩;have a5:∀l:List UInt8,strOfNums (l.map λb=>(b.toNat:Int))=⟨l.toArray⟩:=by
   intro l;have:∀b:UInt8,((λn:Int=>UInt8.ofNat n.toNat) ∘ λb:UInt8=>(b.toNat:Int)) b=b:=λb=>by simp
   simp [strOfNums,List.map_map,List.map_congr_left,id,List.map_id]
  cases a with
  | none=>
   have:bs=[]:=by
    cases bs with
    | nil=>rfl
    | cons b r=>obtain ⟨p,hp,_⟩:=g 0 b rfl;cases hp
   subst this;rw [run_convert_bytes_nil w a3 el hs he n c a2 f];rfl
  | some p=>
   have hl:(loadCells p n).run C.P w=.ok ((bs.map λb=>(b.toNat:Int)).map (Value.int .u8)).toArray w:=by
    have:=ZnK (P:=C.P) w (a:=p) (bs.map λb=>Value.int .u8 b.toNat) λj v i=>by
     rw [JP,X4] at i;obtain ⟨b,o,rfl⟩:=i;obtain ⟨q,u,y⟩:=g j b o;cases u;exact hw.1 _ _ y
    simp_all
   rw [run_convert_bytes_string w a3 a2 el _ n c hs he f,run_bytesToString w _ n c _ hl,foldl_push_bytes];rw [<-a5 bs];simp only [ByteArray.empty,ByteArray.emptyWithCapacity,strOfNums];congr 2;have hz:∀l:Array UInt8,(⟨(ByteArray.empty).data++l⟩:Jd)=⟨l⟩:=λl=>by
    simp
   exact hz _
 .exact hh.elim
theorem Zx2 (hC:CtxOk C) {o:Oper} {h:Heap} {K:Jl->Prop} (u:vRead C o.op e h K):
  ∃v,K v/\∀w:World,HLe h w.heap->(execOp (ev e) o).run C.P w=.ok (.value v) w:=by
 obtain ⟨a8,op,ae,pos,ab,ac⟩:=o;simp only at u;unfold vRead at u;split at u
 .rename_i t a;obtain ⟨p,v,hp,hk,hr⟩:=ZuB hC u;exact ⟨v,hk,λw hw=>by simp [execOp,Instr.loadAt,hp,Instr.sureAddr,hr w hw]⟩
 .rename_i t x ix ok;split at u
  .rename_i kt et ks z b ht;split at u
   .rename_i aj ak a9 a5;have g:=(Zav u).1;replace u:=(Zav u).2;simp only [Jz,JV] at g;obtain ⟨⟨i,j⟩,k⟩:=g;subst k;split at u
    .rename_i tk z' am hz a6;obtain ⟨D,hD,aa⟩:=kd_of (hC.tab _ _ a9).1 i;obtain ⟨v,f,hr⟩:=ZGS (Zs3 (hC.tab _ _ ht).1) hD aa (hC.tab _ _ a5) hz a6 j u;exact ⟨v,f,λw hw=>by simp [execOp,hr w hw]⟩
    .exact u.elim
   .exact u.elim
  .exact u.elim
 .rename_i al a8 x;split at u
  .rename_i el ks z b ai z' b' hs l;split at u
   .rename_i r z2 s a7;obtain ⟨v,f,hr⟩:=ZHH (ZaM (hC.tab _ _ hs).1) (ZfI (hC.tab _ _ a7).1) (ZcF (hC.tab _ _ l).1) u;exact ⟨v,f,λw hw=>by simp [execOp,hr w hw]⟩
   .exact u.elim
  .exact u.elim
 .exact u.elim
theorem ZD4 {P:Program} (w:World) {a:Addr} {v:Jl} {K:Heap->Prop} (h:vStore1 w.heap a v K):
  (store a v).run P w=.ok () (w.setCell a v)/\Rest w (w.setCell a v)/\K (w.setCell a v).heap:=by
 obtain ⟨h1,⟨u,f⟩,g,i⟩:=h;refine ⟨?_,⟨rfl,rfl,rfl,JB _⟩,i⟩;rw [run_store P w a v .plain h1];have j:w.cell? a=Jg u:=f;have k:w.frozen? a=false:=g;simp [j,k]
theorem Ziv {P:Program} {a:Addr}:∀(vs:Jc) (i:Nat) (w:World) (K:Heap->Prop),vStoreN a vs i w.heap K ->
  ∃w',(storeCells a vs i).run P w=.ok () w'/\Rest w w'/\K w'.heap
 | [],_,w,_,h=>⟨w,rfl,Rest.refl w,h⟩
 | v::vs,i,w,K,h=>by
  obtain ⟨h1,f,g⟩:=ZD4 (P:=P) w h;obtain ⟨w',l,j,k⟩:=Ziv (P:=P) vs (i+1) _ K g;refine ⟨w',?_,f.trans j,k⟩;grind [storeCells,Sem.run_bind,Result.andThen_ok]
theorem ZGq (hC:CtxOk C) {t:TypeId} {x v:Jl} {w:World} {K:Heap->Prop} (h:vStore C.tab t x v w.heap K):
  ∃w',(Instr.storeAt t x v).run C.P w=.ok () w'/\Rest w w'/\K w'.heap:=by
 unfold vStore at h;split at h
 .rename_i o a ht;have hT:=hC.tab _ _ ht;cases j:o.d.agg
  .rw [j] at h;simp only [cond_false] at h;obtain ⟨h1,h⟩:=Zav h;have h1:=JK h1;have l:=h.1;obtain ⟨f,g,i⟩:=ZD4 (P:=C.P) w h;refine ⟨_,?_,g,i⟩;have k:v.cells=#[v]:=by cases v<;>simp [Value.oneCell'] at l<;>rfl
   simp [Instr.storeAt,Instr.sureAddr,storeVar,ZaW w hT,h1,k,storeCells,Addr.add,f]
  .rw [j] at h;simp only [cond_true] at h;split at h
   .rename_i cs;obtain ⟨h1,h⟩:=Zav h;have h1:=JK h1;obtain ⟨w',f,g,i⟩:=Ziv (P:=C.P) _ _ w _ h;refine ⟨w',?_,g,i⟩;have u:cs.size=o.size:=by simpa using h1
    simp [Instr.storeAt,Instr.sureAddr,storeVar,ZaW w hT,Value.cells,u,f]
   .exact h.elim
 .exact h.elim
theorem ZuR {agg:Bool} {z:Nat}:∀(w:List (Nat×Jl)) (n:Nat) (cells:Jc) (K:Jc->Prop),partsAll agg z w n K ->
  (n+Jk w)*z<=Jk cells->∃l,K l/\(Jk l)=Jk w*z/\Instr.fill (λi=>Jg (i*z,z)) cells.toArray w=Jg (setAt cells (n*z) l).toArray
 | [],n,cells,K,h,_=>⟨[],h,by simp,by simp [Instr.fill,setAt]⟩
 | (i,v)::r,n,cells,K,h,hl=>by
  unfold partsAll at h;obtain ⟨hi,h⟩:=Zav h;have hi:=JK hi;subst hi;obtain ⟨h1,o⟩:=ZoD h;obtain ⟨hz,h1⟩:=Zav h1;have hz:=JK hz;have x:(i+(Jk r+1))*z=i*z+(z+Jk r*z):=by rw [JQ,JQ,X5];omega
  simp only [Jy] at hl;rw [x] at hl;have a2:(setAt cells (i*z) v.cells.toList).length=Jk cells:=by
   grind [setAt]
  obtain ⟨l,a,f,g⟩:=ZuR r (i+1) (setAt cells (i*z) v.cells.toList) _ h1 (by
   grind)
  refine ⟨v.cells.toList++l,a,by simp only [Jo,hz,f,Jy,JQ,X5];omega,?_⟩;rw [Zzp (off:=i*z) (size:=z) rfl (by simpa using hz) (by simp;omega),List.toList_toArray,g];congr 2;unfold setAt;have j:(i+1)*z=i*z+Jk v.cells.toList:=by rw [JQ,X5,hz]
  rw [j,Jo];have k:(XS (i*z) cells).length=i*z:=by simp;omega
  have s:(XS (i*z) cells++v.cells.toList++Yq (i*z+Jk v.cells.toList) cells).take (i*z+Jk v.cells.toList)=XS (i*z) cells++v.cells.toList:=by
   grind
  have u:(XS (i*z) cells++v.cells.toList++Yq (i*z+Jk v.cells.toList) cells).drop (i*z+Jk v.cells.toList+Jk l)=Yq (i*z+(Jk v.cells.toList+Jk l)) cells:=by
   rw [List.drop_append,List.drop_of_length_le (by simp [k]),List.nil_append,List.drop_drop]
   (simp_all;omega)
  grind
theorem ZFA (n:Nat) (zero:Jc):(repl n zero).length=n*Jk zero:=by
 induction n with
 | zero=>simp [repl]
 | succ n g=>simp [repl,g,JQ];omega
theorem repl_getElem? (zero:Jc) (hz:0<Jk zero):∀(n i:Nat),i<n*Jk zero->(repl n zero)[i]?=zero[i%(Jk zero)]?
 | 0,i,h=>by simp at h
 | n+1,i,h=>by
  rw [repl,List.getElem?_append];split
  .grind [Nat.mod_eq_of_lt]
  .rename_i hi;rw [repl_getElem? zero hz n _ (by rw [JQ,X5] at h;omega)];grind [Nat.mod_eq_sub_mod]
theorem Zmf (zero:Array Jl) (n:Nat) (hz:0<zero.size):(Array.range (n*zero.size)).map (λi=>zero[i%zero.size]!)=(repl n zero.toList).toArray:=by
 apply JN;apply Xa;intro i;simp only [Array.toList_map,Array.toList_range,JP];by_cases h:i<n*zero.size
 .grind [List.getElem?_range,repl_getElem?,Nat.mod_lt]
 .grind [List.getElem?_eq_none,ZFA]
theorem Zap {n:Int} (a:-9223372036854775808<=n) (h1:n<=9223372036854775807):IntKind.i64.wrap n=n:=IntWalk.i64_in n ⟨a,h1⟩
end
end Go.Vc
