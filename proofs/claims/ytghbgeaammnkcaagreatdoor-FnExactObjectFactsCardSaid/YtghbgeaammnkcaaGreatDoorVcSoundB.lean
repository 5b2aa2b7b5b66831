import Derived.Test.YtghbgeaammnkcaaGreatDoorVcSound
namespace Go.Vc
set_option linter.unusedVariables false
set_option linter.unusedSimpArgs false
open Go
section
variable {C:Ctx} {e:Env}
theorem ZDg {s:TypeId} {a:Addr} {f:Nat} {fs:List (Nat×Nat×Bool)} {off size:Nat} {g:Bool} (hs:tdOf C.P s=.struct fs) (hf:fs[f]?=some (off,size,g)) (hz:Nat.beq size 0=false) (w:World):
  (Instr.fieldAt s (.pointer (some a)) f).run C.P w=.ok (.pointer (some (a.add off))) w:=by
 obtain ⟨fields,hu,rfl⟩:=Znn hs
 simp only [List.getElem?_map,Array.getElem?_toList,Option.map_eq_some_iff,Prod.mk.injEq] at hf
 obtain ⟨fd,hfd,rfl,hsz,_⟩:=hf
 obtain ⟨d,i,c,hi,hisz⟩:=ZoH hsz hz
 have b:i.size≠0:=fun b=>by rw [b] at hisz;subst hisz;cases hz
 simp [Instr.fieldAt,ZO w hu,hfd,Instr.sureAddr,fieldPlace,sizeOf,Zci w hi,b]
theorem ZAX {t el:TypeId} {te:TE} {x:Value} {k:IntKind} {i:Int} {K:Addr→Prop} (ht:C.P.underlying t=some (.slice el)) (he:TeOk C.P el te) (h:vIdx x i te.size K):
  ∃ a,K a∧∀ w,(Instr.indexAt t x (.int k i)).run C.P w=.ok (.pointer (some a)) w:=by
 unfold vIdx at h
 split at h
 ·rename_i a n c
  refine ⟨_,h.2,fun w=>?_⟩
  simp [Instr.indexAt,asIntOf,ZO w ht,h.1.1,h.1.2,ZaY w he]
 ·exact h.elim
theorem Zrs {P:Program} {isS:Bool} {n c:Nat} {lo hi mx:Option Value} {K:Nat→Nat→Nat→Prop}
  (hmx:¬ (mx.isSome=true∧hi.isNone=true)) (h:vBound mx c c fun m=>vBound hi n m fun hh=>vBound lo 0 hh fun l=>K l hh m):
  ∃ l hh m,K l hh m∧∀ w,(Instr.sliceBounds isS n c lo hi mx).run P w=.ok (l,hh,m) w:=by
 obtain ⟨m,ha,j,g⟩:=Zjd (P:=P) h (c:=if isS then .slice3Acap else .slice3Alen)
 cases mx with
 | none=>
  obtain rfl:=j rfl
  obtain ⟨hh,b,i,a⟩:=Zjd (P:=P) ha (c:=if isS then .sliceAcap else .sliceAlen)
  obtain ⟨l,f,l1,l2⟩:=Zjd (P:=P) b (c:=.sliceB)
  refine ⟨l,hh,m,f,fun w=>?_⟩
  cases hi with
  | none=>
   obtain rfl:=i rfl
   cases lo with
   | none=>obtain rfl:=l1 rfl;simp [Instr.sliceBounds]
   | some v=>simp [Instr.sliceBounds,l2 v rfl]
  | some u=>
   cases lo with
   | none=>obtain rfl:=l1 rfl;simp [Instr.sliceBounds,a u rfl]
   | some v=>simp [Instr.sliceBounds,l2 v rfl,a u rfl]
 | some x=>
  obtain ⟨hh,b,i,a⟩:=Zjd (P:=P) ha (c:=.slice3B)
  obtain ⟨l,f,l1,l2⟩:=Zjd (P:=P) b (c:=.slice3C)
  refine ⟨l,hh,m,f,fun w=>?_⟩
  cases hi with
  | none=>simp at hmx
  | some u=>
   cases lo with
   | none=>obtain rfl:=l1 rfl;simp [Instr.sliceBounds,g x rfl,a u rfl]
   | some v=>simp [Instr.sliceBounds,g x rfl,l2 v rfl,a u rfl]
theorem ZAk {t el:TypeId} {te:TE} {x:Value} {lo hi mx:Option Value} {K:Value→Prop} (ht:C.P.underlying t=some (.slice el)) (he:TeOk C.P el te)
  (hmx:¬ (mx.isSome=true∧hi.isNone=true)) (h:vSliceS x te.size lo hi mx K):
  ∃ v,K v∧∀ w,(Instr.sliceAt t x lo hi mx).run C.P w=.ok v w:=by
 unfold vSliceS at h
 split at h
 ·rename_i a n c
  obtain ⟨l,hh,m,hk,hr⟩:=Zrs (P:=C.P) (isS:=true) (K:=fun l hh m=>K (.slice (bif Nat.beq m l then a else a.map (·.add (l*te.size))) (hh-l) (m-l))) hmx h
  refine ⟨_,hk,fun w=>?_⟩
  simp only [Instr.sliceAt,Sem.run_bind,ZO w ht,Result.andThen_ok,Instr.slice,hr,ZaY w he,Sem.run_pure]
  congr 2
  by_cases hml:m=l
  ·simp [hml]
  ·have:Nat.beq m l=false:=by
    cases b:Nat.beq m l with
    | false=>rfl
    | true=>exact absurd (Nat.eq_of_beq_eq_true b) hml
   simp [hml,this]
 ·exact h.elim
theorem Zv0 {t:TypeId} {s:ByteArray} {lo hi:Option Value} {K:Value→Prop} (ht:C.P.underlying t=some .string) (h:vSliceStr s lo hi fun x=>K (.string x)):
  ∃ v,K v∧∀ w,(Instr.sliceAt t (.string s) lo hi none).run C.P w=.ok v w:=by
 unfold vSliceStr at h
 obtain ⟨l,hh,m,hk,hr⟩:=Zrs (P:=C.P) (isS:=false) (n:=s.size) (c:=s.size) (lo:=lo) (hi:=hi) (mx:=none) (K:=fun l hh m=>K (.string (s.extract l hh))) (by simp) h
 refine ⟨_,hk,fun w=>?_⟩
 simp [Instr.sliceAt,ZO w ht,Instr.slice,hr]
theorem ZsV (hC:CtxOk C) {o:Oper} {K:Value→Prop} (h:vPure C o.op e K):∃ v,K v∧∀ w,(execOp (ev e) o).run C.P w=.ok (.value v) w:=by
 obtain ⟨dst,op,type,pos,after,guard⟩:=o
 simp only at h
 unfold vPure at h
 split at h
 ·exact ⟨_,h,fun w=>rfl⟩
 ·exact ⟨_,h,fun w=>rfl⟩
 ·rename_i c a b
  split at h
  ·rename_i t ht
   cases t
   ·exact ⟨_,h,fun w=>by simp [execOp,ht,asBool]⟩
   ·exact ⟨_,h,fun w=>by simp [execOp,ht,asBool]⟩
  ·exact h.elim
 ·rename_i op t x y ty
  obtain ⟨v,m,hr⟩:=ZAO hC h
  refine ⟨v,m,fun w=>?_⟩
  have:=hr w
  simp only [execOp,Sem.run_bind,this,Result.andThen_ok,Sem.run_pure]
 ·rename_i op ty x
  split at h
  ·rename_i b j;exact ⟨_,h,fun w=>by simp [execOp,j,Op.unary]⟩
  ·rename_i k n j;exact ⟨_,h,fun w=>by simp [execOp,j,Op.unary,Op.intArith]⟩
  ·exact h.elim
 ·rename_i src dst x
  split at h
  ·rename_i k0 r z0 b0 k ks z bb k' n hs ht j
   have hu:=Zfk (hC.tab _ _ ht).1
   have m:=Zfk (hC.tab _ _ hs).1
   exact ⟨_,h,fun w=>by simp [execOp,j,convert,ZO w hu,ZO w m,Conv.intToInt]⟩
  ·rename_i r z0 b0 ks z bb s hs ht j
   have hu:=Zdb (hC.tab _ _ ht).1
   have m:=Zdb (hC.tab _ _ hs).1
   exact ⟨_,h,fun w=>by simp [execOp,j,convert,ZO w hu,ZO w m]⟩
  ·exact h.elim
 ·rename_i x
  unfold vNilQ at h
  split at h
  ·rename_i a j;exact ⟨_,h,fun w=>by simp [execOp,j]⟩
  ·rename_i f a b j;exact ⟨_,h,fun w=>by simp [execOp,j]⟩
  ·exact h.elim
 ·rename_i s x f
  split at h
  ·rename_i fs ks z bb a ht j
   split at h
   ·rename_i off size g hf
    have hz:Nat.beq size 0=false∧K (.pointer (some (a.add off))):=by
     revert h
     cases Nat.beq size 0
     ·exact fun h=>⟨rfl,h⟩
     ·exact fun h=>h.elim
    exact ⟨_,hz.2,fun w=>by simp [execOp,j,ZDg (C:=C) (hC.tab _ _ ht).1 hf hz.1 w]⟩
   ·exact h.elim
  ·exact h.elim
 ·rename_i s x f
  split at h
  ·rename_i fs ks z bb ht
   obtain ⟨v,m,hr⟩:=ZEr (C:=C) (hC.tab _ _ ht).1 h
   exact ⟨v,m,fun w=>by simp [execOp,hr w]⟩
  ·exact h.elim
 ·rename_i t x ix
  split at h
  ·rename_i el ks z bb k i ht hi
   split at h
   ·rename_i te he
    obtain ⟨a,ha,hr⟩:=ZAX (C:=C) (k:=k) (ZaP (hC.tab _ _ ht).1) (hC.tab _ _ he) h
    exact ⟨_,ha,fun w=>by simp [execOp,hi,hr w]⟩
   ·exact h.elim
  ·exact h.elim
 ·rename_i t x ix
  split at h
  ·rename_i ks z bb s k i ht j hi
   obtain ⟨b,h0,hb,hk⟩:=h
   have hu:=Zdb (hC.tab _ _ ht).1
   exact ⟨_,hk,fun w=>by simp [execOp,j,hi,Instr.index,asIntOf,ZO w hu,h0,hb]⟩
  ·exact h.elim
 ·rename_i t x lo hi mx
  split at h
  ·rename_i el ks z bb ht
   split at h
   ·rename_i te he
    cases hmx:(mx.isSome&&hi.isNone)
    ·rw [hmx] at h
     simp only [cond_false] at h
     obtain ⟨v,m,hr⟩:=ZAk (C:=C) (ZaP (hC.tab _ _ ht).1) (hC.tab _ _ he) (by
      rw [Zdp,Zdp];rintro ⟨u,h2⟩
      rw [Option.isSome_map] at u;rw [Option.isNone_map] at h2
      simp [u,h2] at hmx) h
     rw [Zdp,Zdp,Zdp] at hr
     exact ⟨v,m,fun w=>by simp [execOp,hr w]⟩
    ·rw [hmx] at h;exact h.elim
   ·exact h.elim
  ·rename_i ks z bb ht
   split at h
   ·rename_i s hs
    cases hmx:mx.isSome
    ·rw [hmx] at h
     simp only [cond_false] at h
     obtain ⟨v,m,hr⟩:=Zv0 (C:=C) (Zdb (hC.tab _ _ ht).1) h
     rw [Zdp,Zdp] at hr
     have hm:mx=none:=by cases mx<;>simp at hmx ⊢
     exact ⟨v,m,fun w=>by simp [execOp,hs,hm,hr w]⟩
    ·rw [hmx] at h;exact h.elim
   ·exact h.elim
  ·exact h.elim
 ·rename_i x ix
  split at h
  ·rename_i vs j
   split at h
   ·rename_i v m
    have:vs[ix]?=some v:=by simpa using m
    exact ⟨v,h,fun w=>by simp [execOp,j,Instr.extract,this]⟩
   ·exact h.elim
  ·exact h.elim
 ·rename_i fn first captured
  rw [ZjJ,ZjJ] at h
  refine ⟨_,h,fun w=>?_⟩
  simp only [execOp,Instr.makeFunc,Sem.run_bind,Sem.run_pure,Result.andThen_ok]
  rw [show first.map (ev e)=(first.toList.map (ev e)).toArray by apply Array.ext';simp,show captured.map (ev e)=(captured.toList.map (ev e)).toArray by apply Array.ext';simp]
 ·rename_i t parts
  split at h
  ·rename_i fs ks zero bb ht
   obtain ⟨hpos,h⟩:=Zaj h
   obtain ⟨cs,hk,hr⟩:=Zsj _ _ _ h
   have hT:=hC.tab _ _ ht
   obtain ⟨fields,hu,hfs⟩:=Znn hT.1
   obtain ⟨i,z,hi,hsz,_,hz,hzc⟩:=hT.info
   refine ⟨_,hk,fun w=>?_⟩
   have hzc':z.cells=zero.toArray:=by apply Array.ext';simpa using hzc
   have hm:∀ (l:List Field),allPos (l.map fun f=>(f.offset,fsz C.P f.type,((C.P.underlying f.type).map isAggD).getD true))=true →
     (l.mapM (fun f=>do pure (f.offset,←sizeOf f.type)):Sem (List (Nat×Nat))).run C.P w=.ok (l.map fun f=>(f.offset,fsz C.P f.type)) w:=by
    intro l hl
    induction l with
    | nil=>rfl
    | cons f l ih=>
     simp only [List.map_cons,allPos,Bool.and_eq_true,Bool.not_eq_true'] at hl
     obtain ⟨d,i,hd,hi,hs⟩:=ZoH rfl hl.1
     have:=ih hl.2
     have hsize:(sizeOf f.type).run C.P w=.ok (fsz C.P f.type) w:=by simp [sizeOf,Zci w hi,hs]
     simp only [List.mapM_cons,Sem.run_bind,this,hsize,Result.andThen_ok,Sem.run_pure,List.map_cons]
   have hplace:∀ (fs:List Field),(fun (i:Nat)=>((fs.map fun f=>(f.offset,fsz C.P f.type)).toArray)[i]?) =
     fun (i:Nat)=>((fs.map fun (f:Field)=>(f.offset,fsz C.P f.type,((C.P.underlying f.type).map isAggD).getD true))[i]?).map fun (p:Nat×Nat×Bool)=>(p.1,p.2.1):=by
    intro fs;funext i
    cases h:fs[i]?<;>simp [h]
   have hm':=hm fields.toList (by rw [←hfs];exact hpos)
   simp only [execOp,Instr.build,Sem.run_bind,ZdM w hi hz,ZO w hu,Result.andThen_ok]
   rw [Array.mapM_eq_mapM_toList]
   simp only [Sem.run_map,hm',Result.andThen_ok]
   rw [hzc',hplace,←hfs]
   have hparts:(parts.map fun (x:Nat×Operand)=>(x.1,ev e x.2)).toList=evp e parts.toList:=by rw [Zpi];simp
   rw [hparts,hr]
   rfl
  ·exact h.elim
 ·rename_i args argTypes
  split at h
  ·rename_i x t ha hat
   have ha':args=#[x]:=by apply Array.ext';simpa using ha
   have hat':argTypes=#[t]:=by apply Array.ext';simpa using hat
   subst ha' hat'
   split at h
   ·rename_i el ks z bb ht
    have hu:=ZaP (hC.tab _ _ ht).1
    unfold vLen at h
    split at h
    ·rename_i a n c j
     exact ⟨_,h,fun w=>by simp [execOp,resolve,invoke,builtin,Builtin.len_,j,ZO w hu,goInt]⟩
    ·exact h.elim
   ·rename_i ks z bb ht
    have hu:=Zdb (hC.tab _ _ ht).1
    split at h
    ·rename_i s j
     exact ⟨_,h,fun w=>by simp [execOp,resolve,invoke,builtin,Builtin.len_,j,ZO w hu,goInt]⟩
    ·exact h.elim
   ·exact h.elim
  ·exact h.elim
 ·rename_i args argTypes
  split at h
  ·rename_i x t ha hat
   have ha':args=#[x]:=by apply Array.ext';simpa using ha
   have hat':argTypes=#[t]:=by apply Array.ext';simpa using hat
   subst ha' hat'
   split at h
   ·rename_i el ks z bb ht
    have hu:=ZaP (hC.tab _ _ ht).1
    unfold vCap at h
    split at h
    ·rename_i a n c j
     exact ⟨_,h,fun w=>by simp [execOp,resolve,invoke,builtin,Builtin.cap_,j,ZO w hu,goInt]⟩
    ·exact h.elim
   ·exact h.elim
  ·exact h.elim
 ·rename_i args argTypes
  split at h
  ·rename_i x y ha
   have ha':args=#[x,y]:=by apply Array.ext';simpa using ha
   subst ha'
   split at h
   ·rename_i k a k' b j hy
    exact ⟨_,h,fun w=>by simp [execOp,resolve,invoke,builtin,Builtin.max_,Builtin.max2,j,hy]⟩
   ·exact h.elim
  ·exact h.elim
 ·rename_i args argTypes
  split at h
  ·rename_i x y ha
   have ha':args=#[x,y]:=by apply Array.ext';simpa using ha
   subst ha'
   split at h
   ·rename_i k a k' b j hy
    exact ⟨_,h,fun w=>by simp [execOp,resolve,invoke,builtin,Builtin.min_,Builtin.min2,j,hy]⟩
   ·exact h.elim
  ·exact h.elim
 ·exact h.elim
end
end Go.Vc
