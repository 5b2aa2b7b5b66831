import Derived.Test.YtepnljbkgjbbmaaGreatDoorVcSound
namespace Go.Vc
set_option linter.unusedVariables false
set_option linter.unusedSimpArgs false
open Go
section
variable {C:Ctx} {e:Env}
theorem ZHm {s:TypeId} {a:Addr} {f:Nat} {k:List (Nat×Nat×Bool)} {off size:Nat} {g:Bool} (hs:tdOf C.P s=.struct k) (u:k[f]?=some (off,size,g)) (hz:Nat.beq size 0=false) (w:World):
  (Instr.fieldAt s (.pointer (some a)) f).run C.P w=.ok (.pointer (some (a.add off))) w:=by
 obtain ⟨o,x,rfl⟩:=Zmp hs
 simp only [List.getElem?_map,Array.getElem?_toList,Option.map_eq_some_iff,Prod.mk.injEq] at u
 obtain ⟨fd,l,rfl,r,_⟩:=u
 obtain ⟨d,i,h,hi,j⟩:=Zn6 r hz
 have c:i.size≠0:=fun c=>by rw [c] at j;subst j;cases hz
 simp [Instr.fieldAt,ZQ w x,l,Instr.sureAddr,fieldPlace,sizeOf,ZbZ w hi,c]
theorem ZGk {t el:TypeId} {g:TE} {x:Value} {k:IntKind} {i:Int} {K:Addr->Prop} (j:C.P.underlying t=some (.slice el)) (l:TeOk C.P el g) (h:vIdx x i g.size K):
  ∃ a,K a/\∀ w,(Instr.indexAt t x (.int k i)).run C.P w=.ok (.pointer (some a)) w:=by
 unfold vIdx at h
 split at h
 ·rename_i a n c
  refine ⟨_,h.2,fun w=>?_⟩
  simp [Instr.indexAt,asIntOf,ZQ w j,h.1.1,h.1.2,ZaS w l]
 ·exact h.elim
theorem ZtB {P:Program} {isS:Bool} {n c:Nat} {lo hi mx:Option Value} {K:Nat->Nat->Nat->Prop}
  (r:¬ (mx.isSome=true/\hi.isNone=true)) (h:vBound mx c c fun m=>vBound hi n m fun k=>vBound lo 0 k fun l=>K l k m):
  ∃ l k m,K l k m/\∀ w,(Instr.sliceBounds isS n c lo hi mx).run P w=.ok (l,k,m) w:=by
 obtain ⟨m,o,j,i⟩:=Zf4 (P:=P) h (c:=if isS then .slice3Acap else .slice3Alen)
 cases mx with
 | none=>
  obtain rfl:=j rfl
  obtain ⟨k,f,h1,a⟩:=Zf4 (P:=P) o (c:=if isS then .sliceAcap else .sliceAlen)
  obtain ⟨l,g,l1,l2⟩:=Zf4 (P:=P) f (c:=.sliceB)
  refine ⟨l,k,m,g,fun w=>?_⟩
  cases hi with
  | none=>
   obtain rfl:=h1 rfl
   cases lo with
   | none=>obtain rfl:=l1 rfl;simp [Instr.sliceBounds]
   | some v=>simp [Instr.sliceBounds,l2 v rfl]
  | some u=>
   cases lo with
   | none=>obtain rfl:=l1 rfl;simp [Instr.sliceBounds,a u rfl]
   | some v=>simp [Instr.sliceBounds,l2 v rfl,a u rfl]
 | some x=>
  obtain ⟨k,f,h1,a⟩:=Zf4 (P:=P) o (c:=.slice3B)
  obtain ⟨l,g,l1,l2⟩:=Zf4 (P:=P) f (c:=.slice3C)
  refine ⟨l,k,m,g,fun w=>?_⟩
  cases hi with
  | none=>simp at r
  | some u=>
   cases lo with
   | none=>obtain rfl:=l1 rfl;simp [Instr.sliceBounds,i x rfl,a u rfl]
   | some v=>simp [Instr.sliceBounds,i x rfl,l2 v rfl,a u rfl]
theorem Zz0 {t el:TypeId} {j:TE} {x:Value} {lo hi mx:Option Value} {K:Value->Prop} (ht:C.P.underlying t=some (.slice el)) (u:TeOk C.P el j)
  (k:¬ (mx.isSome=true/\hi.isNone=true)) (h:vSliceS x j.size lo hi mx K):
  ∃ v,K v/\∀ w,(Instr.sliceAt t x lo hi mx).run C.P w=.ok v w:=by
 unfold vSliceS at h
 split at h
 ·rename_i a n c
  obtain ⟨l,o,m,y,r⟩:=ZtB (P:=C.P) (isS:=true) (K:=fun l o m=>K (.slice (bif Nat.beq m l then a else a.map (·.add (l*j.size))) (o-l) (m-l))) k h
  refine ⟨_,y,fun w=>?_⟩
  simp only [Instr.sliceAt,Sem.run_bind,ZQ w ht,Result.andThen_ok,Instr.slice,r,ZaS w u,Sem.run_pure]
  congr 2
  by_cases g:m=l
  ·simp [g]
  ·have:Nat.beq m l=false:=by
    cases f:Nat.beq m l with
    | false=>rfl
    | true=>exact absurd (Nat.eq_of_beq_eq_true f) g
   simp [g,this]
 ·exact h.elim
theorem ZE2 {t:TypeId} {s:ByteArray} {lo hi:Option Value} {K:Value->Prop} (g:C.P.underlying t=some .string) (h:vSliceStr s lo hi fun x=>K (.string x)):
  ∃ v,K v/\∀ w,(Instr.sliceAt t (.string s) lo hi none).run C.P w=.ok v w:=by
 unfold vSliceStr at h
 obtain ⟨l,a,m,j,k⟩:=ZtB (P:=C.P) (isS:=false) (n:=s.size) (c:=s.size) (lo:=lo) (hi:=hi) (mx:=none) (K:=fun l a m=>K (.string (s.extract l a))) (by simp) h
 refine ⟨_,j,fun w=>?_⟩
 simp [Instr.sliceAt,ZQ w g,Instr.slice,k]
theorem ZvL (hC:CtxOk C) {o:Oper} {K:Value->Prop} (h:vPure C o.op e K):∃ v,K v/\∀ w,(execOp (ev e) o).run C.P w=.ok (.value v) w:=by
 obtain ⟨aq,op,b4,pos,ay,az⟩:=o
 simp only at h
 unfold vPure at h
 split at h
 ·rw [Zb6] at h;exact ⟨_,h,fun w=>rfl⟩
 ·rw [Zb6] at h;exact ⟨_,h,fun w=>rfl⟩
 ·rename_i c a b
  split at h
  ·rename_i t ht
   cases t
   ·replace h:K (ev e b):=(Zb6 _ _).mp h
    exact ⟨_,h,fun w=>by simp [execOp,ht,asBool]⟩
   ·replace h:K (ev e a):=(Zb6 _ _).mp h
    exact ⟨_,h,fun w=>by simp [execOp,ht,asBool]⟩
  ·exact h.elim
 ·rename_i op t x y ty
  obtain ⟨v,r,hr⟩:=ZH5 hC h
  refine ⟨v,r,fun w=>?_⟩
  have:=hr w
  simp only [execOp,Sem.run_bind,this,Result.andThen_ok,Sem.run_pure]
 ·rename_i op ty x
  split at h
  ·rename_i b j;exact ⟨_,h,fun w=>by simp [execOp,j,Op.unary]⟩
  ·rename_i k n j;exact ⟨_,h,fun w=>by simp [execOp,j,Op.unary,Op.intArith]⟩
  ·exact h.elim
 ·rename_i b9 aq x
  split at h
  ·rename_i k0 u z0 b0 k ks z bb k' n hs ht j
   have hu:=Zfq (hC.tab _ _ ht).1
   have r:=Zfq (hC.tab _ _ hs).1
   exact ⟨_,h,fun w=>by simp [execOp,j,convert,ZQ w hu,ZQ w r,Conv.intToInt]⟩
  ·rename_i u z0 b0 ks z bb s hs ht j
   have hu:=ZcC (hC.tab _ _ ht).1
   have r:=ZcC (hC.tab _ _ hs).1
   exact ⟨_,h,fun w=>by simp [execOp,j,convert,ZQ w hu,ZQ w r]⟩
  ·exact h.elim
 ·rename_i x
  unfold vNilQ at h
  split at h
  ·rename_i a j;exact ⟨_,h,fun w=>by simp [execOp,j]⟩
  ·rename_i f a b j;exact ⟨_,h,fun w=>by simp [execOp,j]⟩
  ·exact h.elim
 ·rename_i s x f
  split at h
  ·rename_i fs ks z bb a ht j
   split at h
   ·rename_i off size g hf
    have hz:Nat.beq size 0=false/\K (.pointer (some (a.add off))):=by
     revert h
     cases Nat.beq size 0
     ·exact fun h=>⟨rfl,h⟩
     ·exact fun h=>h.elim
    exact ⟨_,hz.2,fun w=>by simp [execOp,j,ZHm (C:=C) (hC.tab _ _ ht).1 hf hz.1 w]⟩
   ·exact h.elim
  ·exact h.elim
 ·rename_i s x f
  split at h
  ·rename_i fs ks z bb ht
   obtain ⟨v,r,hr⟩:=ZGP (C:=C) (hC.tab _ _ ht).1 h
   exact ⟨v,r,fun w=>by simp [execOp,hr w]⟩
  ·exact h.elim
 ·rename_i t x ix
  split at h
  ·rename_i el ks z bb k i ht hi
   split at h
   ·rename_i te he
    obtain ⟨a,ha,hr⟩:=ZGk (C:=C) (k:=k) (ZaJ (hC.tab _ _ ht).1) (hC.tab _ _ he) h
    exact ⟨_,ha,fun w=>by simp [execOp,hi,hr w]⟩
   ·exact h.elim
  ·exact h.elim
 ·rename_i t x ix
  split at h
  ·rename_i ks z bb s k i ht j hi
   obtain ⟨b,h0,hb,hk⟩:=h
   have hu:=ZcC (hC.tab _ _ ht).1
   exact ⟨_,hk,fun w=>by simp [execOp,j,hi,Instr.index,asIntOf,ZQ w hu,h0,hb]⟩
  ·exact h.elim
 ·rename_i t x lo hi mx
  split at h
  ·rename_i el ks z bb ht
   split at h
   ·rename_i te he
    cases hmx:(mx.isSome&&hi.isNone)
    ·rw [hmx] at h
     simp only [cond_false] at h
     obtain ⟨v,r,hr⟩:=Zz0 (C:=C) (ZaJ (hC.tab _ _ ht).1) (hC.tab _ _ he) (by
      rw [ZcE,ZcE];rintro ⟨h1,h2⟩
      rw [Option.isSome_map] at h1;rw [Option.isNone_map] at h2
      simp [h1,h2] at hmx) h
     rw [ZcE,ZcE,ZcE] at hr
     exact ⟨v,r,fun w=>by simp [execOp,hr w]⟩
    ·rw [hmx] at h;exact h.elim
   ·exact h.elim
  ·rename_i ks z bb ht
   split at h
   ·rename_i s hs
    cases hmx:mx.isSome
    ·rw [hmx] at h
     simp only [cond_false] at h
     obtain ⟨v,r,hr⟩:=ZE2 (C:=C) (ZcC (hC.tab _ _ ht).1) h
     rw [ZcE,ZcE] at hr
     have hm:mx=none:=by cases mx<;>simp at hmx ⊢
     exact ⟨v,r,fun w=>by simp [execOp,hs,hm,hr w]⟩
    ·rw [hmx] at h;exact h.elim
   ·exact h.elim
  ·exact h.elim
 ·rename_i x ix
  split at h
  ·rename_i vs j
   split at h
   ·rename_i v r
    have:vs[ix]?=some v:=by simpa using r
    exact ⟨v,h,fun w=>by simp [execOp,j,Instr.extract,this]⟩
   ·exact h.elim
  ·exact h.elim
 ·rename_i fn first a6
  rw [Zib,Zib,Zhd,Zhd] at h
  refine ⟨_,h,fun w=>?_⟩
  simp only [execOp,Instr.makeFunc,Sem.run_bind,Sem.run_pure,Result.andThen_ok]
  rw [show first.map (ev e)=(first.toList.map (ev e)).toArray by apply Array.ext';simp,show a6.map (ev e)=(a6.toList.map (ev e)).toArray by apply Array.ext';simp]
 ·rename_i t ac
  split at h
  ·rename_i fs ks zero bb ht
   obtain ⟨ao,h⟩:=Zas h
   rw [Zno] at h
   obtain ⟨cs,hk,hr⟩:=ZqP _ _ _ h
   have hT:=hC.tab _ _ ht
   obtain ⟨ag,hu,ai⟩:=Zmp hT.1
   obtain ⟨i,z,hi,ba,_,hz,ax⟩:=hT.info
   refine ⟨_,hk,fun w=>?_⟩
   have al:z.cells=zero.toArray:=by apply Array.ext';simpa using ax
   have hm:∀ (l:List Field),allPos (l.map fun f=>(f.offset,fsz C.P f.type,((C.P.underlying f.type).map isAggD).getD true))=true ->
     (l.mapM (fun f=>do pure (f.offset,<-sizeOf f.type)):Sem (List (Nat×Nat))).run C.P w=.ok (l.map fun f=>(f.offset,fsz C.P f.type)) w:=by
    intro l hl
    induction l with
    | nil=>rfl
    | cons f l ih=>
     simp only [List.map_cons,allPos,Bool.and_eq_true,Bool.not_eq_true'] at hl
     obtain ⟨d,i,hd,hi,hs⟩:=Zn6 rfl hl.1
     have:=ih hl.2
     have ah:(sizeOf f.type).run C.P w=.ok (fsz C.P f.type) w:=by simp [sizeOf,ZbZ w hi,hs]
     simp only [List.mapM_cons,Sem.run_bind,this,ah,Result.andThen_ok,Sem.run_pure,List.map_cons]
   have ae:∀ (fs:List Field),(fun (i:Nat)=>((fs.map fun f=>(f.offset,fsz C.P f.type)).toArray)[i]?) =
     fun (i:Nat)=>((fs.map fun (f:Field)=>(f.offset,fsz C.P f.type,((C.P.underlying f.type).map isAggD).getD true))[i]?).map fun (p:Nat×Nat×Bool)=>(p.1,p.2.1):=by
    intro fs;funext i
    cases h:fs[i]?<;>simp [h]
   have au:=hm ag.toList (by rw [<-ai];exact ao)
   simp only [execOp,Instr.build,Sem.run_bind,Zc9 w hi hz,ZQ w hu,Result.andThen_ok]
   rw [Array.mapM_eq_mapM_toList]
   simp only [Sem.run_map,au,Result.andThen_ok]
   rw [al,ae,<-ai]
   have af:(ac.map fun (x:Nat×Operand)=>(x.1,ev e x.2)).toList=evp e ac.toList:=by rw [Zmv];simp
   rw [af,hr]
   rfl
  ·exact h.elim
 ·rename_i a3 a1
  split at h
  ·rename_i x t ha ad
   have a8:a3=#[x]:=by apply Array.ext';simpa using ha
   have ab:a1=#[t]:=by apply Array.ext';simpa using ad
   subst a8 ab
   split at h
   ·rename_i el ks z bb ht
    have hu:=ZaJ (hC.tab _ _ ht).1
    unfold vLen at h
    split at h
    ·rename_i a n c j
     exact ⟨_,h,fun w=>by simp [execOp,resolve,invoke,builtin,Builtin.len_,j,ZQ w hu,goInt]⟩
    ·exact h.elim
   ·rename_i ks z bb ht
    have hu:=ZcC (hC.tab _ _ ht).1
    split at h
    ·rename_i s j
     exact ⟨_,h,fun w=>by simp [execOp,resolve,invoke,builtin,Builtin.len_,j,ZQ w hu,goInt]⟩
    ·exact h.elim
   ·exact h.elim
  ·exact h.elim
 ·rename_i a3 a1
  split at h
  ·rename_i x t ha ad
   have a8:a3=#[x]:=by apply Array.ext';simpa using ha
   have ab:a1=#[t]:=by apply Array.ext';simpa using ad
   subst a8 ab
   split at h
   ·rename_i el ks z bb ht
    have hu:=ZaJ (hC.tab _ _ ht).1
    unfold vCap at h
    split at h
    ·rename_i a n c j
     exact ⟨_,h,fun w=>by simp [execOp,resolve,invoke,builtin,Builtin.cap_,j,ZQ w hu,goInt]⟩
    ·exact h.elim
   ·exact h.elim
  ·exact h.elim
 ·rename_i a3 a1
  split at h
  ·rename_i x y ha
   have a8:a3=#[x,y]:=by apply Array.ext';simpa using ha
   subst a8
   split at h
   ·rename_i k a k' b j hy
    exact ⟨_,h,fun w=>by simp [execOp,resolve,invoke,builtin,Builtin.max_,Builtin.max2,j,hy]⟩
   ·exact h.elim
  ·exact h.elim
 ·rename_i a3 a1
  split at h
  ·rename_i x y ha
   have a8:a3=#[x,y]:=by apply Array.ext';simpa using ha
   subst a8
   split at h
   ·rename_i k a k' b j hy
    exact ⟨_,h,fun w=>by simp [execOp,resolve,invoke,builtin,Builtin.min_,Builtin.min2,j,hy]⟩
   ·exact h.elim
  ·exact h.elim
 ·exact h.elim
end
end Go.Vc
