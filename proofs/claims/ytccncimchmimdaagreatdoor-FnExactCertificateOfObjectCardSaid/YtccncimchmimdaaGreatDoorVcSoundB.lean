import Derived.Test.YtccncimchmimdaaGreatDoorVcSound
namespace Go.Vc
set_option linter.unusedVariables false
set_option linter.unusedSimpArgs false
open Go
section
variable {C:Ctx} {e:Env}
theorem ZDF {s:TypeId} {a:Addr} {f:Nat} {o:List (Nat×Nat×Bool)} {off size:Nat} {g:Bool} (hs:tdOf C.P s=.struct o) (j:o[f]?=some (off,size,g)) (hz:Nat.beq size 0=false) (w:World):
  (Instr.fieldAt s (.pointer (some a)) f).run C.P w=.ok (.pointer (some (a.add off))) w:=by
 obtain ⟨r,u,rfl⟩:=ZoK hs
 simp only [List.getElem?_map,Array.getElem?_toList,Option.map_eq_some_iff,Prod.mk.injEq] at j
 obtain ⟨fd,l,rfl,k,_⟩:=j
 obtain ⟨d,i,c,hi,h⟩:=Zm7 k hz
 have b:i.size≠0:=fun b=>by rw [b] at h;subst h;cases hz
 simp [Instr.fieldAt,ZS w u,l,Instr.sureAddr,fieldPlace,sizeOf,Zcy w hi,b]
theorem ZxD {t el:TypeId} {g:TE} {x:Value} {k:IntKind} {i:Int} {K:Addr->Prop} (j:C.P.underlying t=some (.slice el)) (l:TeOk C.P el g) (h:vIdx x i g.size K):
  ∃ a,K a/\∀ w,(Instr.indexAt t x (.int k i)).run C.P w=.ok (.pointer (some a)) w:=by
 unfold vIdx at h
 split at h
 ·rename_i a n c
  refine ⟨_,h.2,fun w=>?_⟩
  simp [Instr.indexAt,asIntOf,ZS w j,h.1.1,h.1.2,ZaY w l]
 ·exact h.elim
theorem Zrq {P:Program} {isS:Bool} {n c:Nat} {lo hi mx:Option Value} {K:Nat->Nat->Nat->Prop}
  (o:¬ (mx.isSome=true/\hi.isNone=true)) (h:vBound mx c c fun m=>vBound hi n m fun k=>vBound lo 0 k fun l=>K l k m):
  ∃ l k m,K l k m/\∀ w,(Instr.sliceBounds isS n c lo hi mx).run P w=.ok (l,k,m) w:=by
 obtain ⟨m,r,j,g⟩:=Zh1 (P:=P) h (c:=if isS then .slice3Acap else .slice3Alen)
 cases mx with
 | none=>
  obtain rfl:=j rfl
  obtain ⟨k,b,i,a⟩:=Zh1 (P:=P) r (c:=if isS then .sliceAcap else .sliceAlen)
  obtain ⟨l,f,l1,l2⟩:=Zh1 (P:=P) b (c:=.sliceB)
  refine ⟨l,k,m,f,fun w=>?_⟩
  cases hi with
  | none=>
   obtain rfl:=i rfl
   cases lo with
   | none=>obtain rfl:=l1 rfl;simp [Instr.sliceBounds]
   | some v=>simp [Instr.sliceBounds,l2 v rfl]
  | some u=>
   cases lo with
   | none=>obtain rfl:=l1 rfl;simp [Instr.sliceBounds,a u rfl]
   | some v=>simp [Instr.sliceBounds,l2 v rfl,a u rfl]
 | some x=>
  obtain ⟨k,b,i,a⟩:=Zh1 (P:=P) r (c:=.slice3B)
  obtain ⟨l,f,l1,l2⟩:=Zh1 (P:=P) b (c:=.slice3C)
  refine ⟨l,k,m,f,fun w=>?_⟩
  cases hi with
  | none=>simp at o
  | some u=>
   cases lo with
   | none=>obtain rfl:=l1 rfl;simp [Instr.sliceBounds,g x rfl,a u rfl]
   | some v=>simp [Instr.sliceBounds,g x rfl,l2 v rfl,a u rfl]
theorem ZFO {t el:TypeId} {j:TE} {x:Value} {lo hi mx:Option Value} {K:Value->Prop} (y:C.P.underlying t=some (.slice el)) (u:TeOk C.P el j)
  (k:¬ (mx.isSome=true/\hi.isNone=true)) (h:vSliceS x j.size lo hi mx K):
  ∃ v,K v/\∀ w,(Instr.sliceAt t x lo hi mx).run C.P w=.ok v w:=by
 unfold vSliceS at h
 split at h
 ·rename_i a n c
  obtain ⟨l,o,m,r,hr⟩:=Zrq (P:=C.P) (isS:=true) (K:=fun l o m=>K (.slice (bif Nat.beq m l then a else a.map (·.add (l*j.size))) (o-l) (m-l))) k h
  refine ⟨_,r,fun w=>?_⟩
  simp only [Instr.sliceAt,Sem.run_bind,ZS w y,Result.andThen_ok,Instr.slice,hr,ZaY w u,Sem.run_pure]
  congr 2
  by_cases g:m=l
  ·simp [g]
  ·have:Nat.beq m l=false:=by
    cases b:Nat.beq m l with
    | false=>rfl
    | true=>exact absurd (Nat.eq_of_beq_eq_true b) g
   simp [g,this]
 ·exact h.elim
theorem ZxG {t:TypeId} {s:ByteArray} {lo hi:Option Value} {K:Value->Prop} (g:C.P.underlying t=some .string) (h:vSliceStr s lo hi fun x=>K (.string x)):
  ∃ v,K v/\∀ w,(Instr.sliceAt t (.string s) lo hi none).run C.P w=.ok v w:=by
 unfold vSliceStr at h
 obtain ⟨l,a,m,j,k⟩:=Zrq (P:=C.P) (isS:=false) (n:=s.size) (c:=s.size) (lo:=lo) (hi:=hi) (mx:=none) (K:=fun l a m=>K (.string (s.extract l a))) (by simp) h
 refine ⟨_,j,fun w=>?_⟩
 simp [Instr.sliceAt,ZS w g,Instr.slice,k]
theorem Zto (hC:CtxOk C) {o:Oper} {K:Value->Prop} (h:vPure C o.op e K):∃ v,K v/\∀ w,(execOp (ev e) o).run C.P w=.ok (.value v) w:=by
 obtain ⟨ay,op,b7,pos,b1,b2⟩:=o
 simp only at h
 unfold vPure at h
 split at h
 ·exact ⟨_,h,fun w=>rfl⟩
 ·exact ⟨_,h,fun w=>rfl⟩
 ·rename_i c a b
  split at h
  ·rename_i t ht
   cases t
   ·exact ⟨_,h,fun w=>by simp [execOp,ht,asBool]⟩
   ·exact ⟨_,h,fun w=>by simp [execOp,ht,asBool]⟩
  ·exact h.elim
 ·rename_i op t x y ty
  obtain ⟨v,r,hr⟩:=ZA9 hC h
  refine ⟨v,r,fun w=>?_⟩
  have:=hr w
  simp only [execOp,Sem.run_bind,this,Result.andThen_ok,Sem.run_pure]
 ·rename_i op ty x
  split at h
  ·rename_i b j;exact ⟨_,h,fun w=>by simp [execOp,j,Op.unary]⟩
  ·rename_i k n j;exact ⟨_,h,fun w=>by simp [execOp,j,Op.unary,Op.intArith]⟩
  ·exact h.elim
 ·rename_i bc ay x
  split at h
  ·rename_i k0 u z0 b0 k ks z bb k' n hs ht j
   have hu:=Zgo (hC.tab _ _ ht).1
   have r:=Zgo (hC.tab _ _ hs).1
   exact ⟨_,h,fun w=>by simp [execOp,j,convert,ZS w hu,ZS w r,Conv.intToInt]⟩
  ·rename_i u z0 b0 ks z bb s hs ht j
   have hu:=ZcN (hC.tab _ _ ht).1
   have r:=ZcN (hC.tab _ _ hs).1
   exact ⟨_,h,fun w=>by simp [execOp,j,convert,ZS w hu,ZS w r]⟩
  ·exact h.elim
 ·rename_i x
  unfold vNilQ at h
  split at h
  ·rename_i a j;exact ⟨_,h,fun w=>by simp [execOp,j]⟩
  ·rename_i f a b j;exact ⟨_,h,fun w=>by simp [execOp,j]⟩
  ·exact h.elim
 ·rename_i s x f
  split at h
  ·rename_i fs ks z bb a ht j
   split at h
   ·rename_i off size g hf
    have hz:Nat.beq size 0=false/\K (.pointer (some (a.add off))):=by
     revert h
     cases Nat.beq size 0
     ·exact fun h=>⟨rfl,h⟩
     ·exact fun h=>h.elim
    exact ⟨_,hz.2,fun w=>by simp [execOp,j,ZDF (C:=C) (hC.tab _ _ ht).1 hf hz.1 w]⟩
   ·exact h.elim
  ·exact h.elim
 ·rename_i s x f
  split at h
  ·rename_i fs ks z bb ht
   obtain ⟨v,r,hr⟩:=ZFq (C:=C) (hC.tab _ _ ht).1 h
   exact ⟨v,r,fun w=>by simp [execOp,hr w]⟩
  ·exact h.elim
 ·rename_i t x ix
  split at h
  ·rename_i el ks z bb k i ht hi
   split at h
   ·rename_i te he
    obtain ⟨a,ha,hr⟩:=ZxD (C:=C) (k:=k) (ZaM (hC.tab _ _ ht).1) (hC.tab _ _ he) h
    exact ⟨_,ha,fun w=>by simp [execOp,hi,hr w]⟩
   ·exact h.elim
  ·exact h.elim
 ·rename_i t x ix
  split at h
  ·rename_i ks z bb s k i ht j hi
   obtain ⟨b,h0,hb,hk⟩:=h
   have hu:=ZcN (hC.tab _ _ ht).1
   exact ⟨_,hk,fun w=>by simp [execOp,j,hi,Instr.index,asIntOf,ZS w hu,h0,hb]⟩
  ·exact h.elim
 ·rename_i t x lo hi mx
  split at h
  ·rename_i el ks z bb ht
   split at h
   ·rename_i te he
    cases hmx:(mx.isSome&&hi.isNone)
    ·rw [hmx] at h
     simp only [cond_false] at h
     obtain ⟨v,r,hr⟩:=ZFO (C:=C) (ZaM (hC.tab _ _ ht).1) (hC.tab _ _ he) (by
      rw [Zdq,Zdq];rintro ⟨h1,h2⟩
      rw [Option.isSome_map] at h1;rw [Option.isNone_map] at h2
      simp [h1,h2] at hmx) h
     rw [Zdq,Zdq,Zdq] at hr
     exact ⟨v,r,fun w=>by simp [execOp,hr w]⟩
    ·rw [hmx] at h;exact h.elim
   ·exact h.elim
  ·rename_i ks z bb ht
   split at h
   ·rename_i s hs
    cases hmx:mx.isSome
    ·rw [hmx] at h
     simp only [cond_false] at h
     obtain ⟨v,r,hr⟩:=ZxG (C:=C) (ZcN (hC.tab _ _ ht).1) h
     rw [Zdq,Zdq] at hr
     have hm:mx=none:=by cases mx<;>simp at hmx ⊢
     exact ⟨v,r,fun w=>by simp [execOp,hs,hm,hr w]⟩
    ·rw [hmx] at h;exact h.elim
   ·exact h.elim
  ·exact h.elim
 ·rename_i x ix
  split at h
  ·rename_i vs j
   split at h
   ·rename_i v r
    have:vs[ix]?=some v:=by simpa using r
    exact ⟨v,h,fun w=>by simp [execOp,j,Instr.extract,this]⟩
   ·exact h.elim
  ·exact h.elim
 ·rename_i fn first a9
  rw [ZiP,ZiP] at h
  refine ⟨_,h,fun w=>?_⟩
  simp only [execOp,Instr.makeFunc,Sem.run_bind,Sem.run_pure,Result.andThen_ok]
  rw [show first.map (ev e)=(first.toList.map (ev e)).toArray by apply Array.ext';simp,show a9.map (ev e)=(a9.toList.map (ev e)).toArray by apply Array.ext';simp]
 ·rename_i t ad
  split at h
  ·rename_i fs ks zero bb ht
   obtain ⟨aq,h⟩:=Zai h
   obtain ⟨cs,hk,hr⟩:=Zu8 _ _ _ h
   have hT:=hC.tab _ _ ht
   obtain ⟨ah,hu,aj⟩:=ZoK hT.1
   obtain ⟨i,z,hi,bd,_,hz,ax⟩:=hT.info
   refine ⟨_,hk,fun w=>?_⟩
   have ap:z.cells=zero.toArray:=by apply Array.ext';simpa using ax
   have hm:∀ (l:List Field),allPos (l.map fun f=>(f.offset,fsz C.P f.type,((C.P.underlying f.type).map isAggD).getD true))=true ->
     (l.mapM (fun f=>do pure (f.offset,<-sizeOf f.type)):Sem (List (Nat×Nat))).run C.P w=.ok (l.map fun f=>(f.offset,fsz C.P f.type)) w:=by
    intro l hl
    induction l with
    | nil=>rfl
    | cons f l ih=>
     simp only [List.map_cons,allPos,Bool.and_eq_true,Bool.not_eq_true'] at hl
     obtain ⟨d,i,hd,hi,hs⟩:=Zm7 rfl hl.1
     have:=ih hl.2
     have ai:(sizeOf f.type).run C.P w=.ok (fsz C.P f.type) w:=by simp [sizeOf,Zcy w hi,hs]
     simp only [List.mapM_cons,Sem.run_bind,this,ai,Result.andThen_ok,Sem.run_pure,List.map_cons]
   have ag:∀ (fs:List Field),(fun (i:Nat)=>((fs.map fun f=>(f.offset,fsz C.P f.type)).toArray)[i]?) =
     fun (i:Nat)=>((fs.map fun (f:Field)=>(f.offset,fsz C.P f.type,((C.P.underlying f.type).map isAggD).getD true))[i]?).map fun (p:Nat×Nat×Bool)=>(p.1,p.2.1):=by
    intro fs;funext i
    cases h:fs[i]?<;>simp [h]
   have ar:=hm ah.toList (by rw [<-aj];exact aq)
   simp only [execOp,Instr.build,Sem.run_bind,Zem w hi hz,ZS w hu,Result.andThen_ok]
   rw [Array.mapM_eq_mapM_toList]
   simp only [Sem.run_map,ar,Result.andThen_ok]
   rw [ap,ag,<-aj]
   have af:(ad.map fun (x:Nat×Operand)=>(x.1,ev e x.2)).toList=evp e ad.toList:=by rw [ZnD];simp
   rw [af,hr]
   rfl
  ·exact h.elim
 ·rename_i a3 a1
  split at h
  ·rename_i x t ha ae
   have a7:a3=#[x]:=by apply Array.ext';simpa using ha
   have ab:a1=#[t]:=by apply Array.ext';simpa using ae
   subst a7 ab
   split at h
   ·rename_i el ks z bb ht
    have hu:=ZaM (hC.tab _ _ ht).1
    unfold vLen at h
    split at h
    ·rename_i a n c j
     exact ⟨_,h,fun w=>by simp [execOp,resolve,invoke,builtin,Builtin.len_,j,ZS w hu,goInt]⟩
    ·exact h.elim
   ·rename_i ks z bb ht
    have hu:=ZcN (hC.tab _ _ ht).1
    split at h
    ·rename_i s j
     exact ⟨_,h,fun w=>by simp [execOp,resolve,invoke,builtin,Builtin.len_,j,ZS w hu,goInt]⟩
    ·exact h.elim
   ·exact h.elim
  ·exact h.elim
 ·rename_i a3 a1
  split at h
  ·rename_i x t ha ae
   have a7:a3=#[x]:=by apply Array.ext';simpa using ha
   have ab:a1=#[t]:=by apply Array.ext';simpa using ae
   subst a7 ab
   split at h
   ·rename_i el ks z bb ht
    have hu:=ZaM (hC.tab _ _ ht).1
    unfold vCap at h
    split at h
    ·rename_i a n c j
     exact ⟨_,h,fun w=>by simp [execOp,resolve,invoke,builtin,Builtin.cap_,j,ZS w hu,goInt]⟩
    ·exact h.elim
   ·exact h.elim
  ·exact h.elim
 ·rename_i a3 a1
  split at h
  ·rename_i x y ha
   have a7:a3=#[x,y]:=by apply Array.ext';simpa using ha
   subst a7
   split at h
   ·rename_i k a k' b j hy
    exact ⟨_,h,fun w=>by simp [execOp,resolve,invoke,builtin,Builtin.max_,Builtin.max2,j,hy]⟩
   ·exact h.elim
  ·exact h.elim
 ·rename_i a3 a1
  split at h
  ·rename_i x y ha
   have a7:a3=#[x,y]:=by apply Array.ext';simpa using ha
   subst a7
   split at h
   ·rename_i k a k' b j hy
    exact ⟨_,h,fun w=>by simp [execOp,resolve,invoke,builtin,Builtin.min_,Builtin.min2,j,hy]⟩
   ·exact h.elim
  ·exact h.elim
 ·exact h.elim
end
end Go.Vc
