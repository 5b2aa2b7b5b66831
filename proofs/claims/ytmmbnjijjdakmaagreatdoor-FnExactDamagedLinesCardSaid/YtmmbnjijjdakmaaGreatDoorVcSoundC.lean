import Derived.Test.YtmmbnjijjdakmaaGreatDoorVcSoundM
namespace Go.Vc
set_option linter.unusedVariables false
set_option linter.unusedSimpArgs false
open Go
section
variable {C:Ctx} {e:Env}
theorem TeOk.und {P:Program} {t:TypeId} {te:TE} (h:TeOk P t te):∃ d,P.underlying t=some d∧isAggD d=te.d.agg:=by
 obtain ⟨h1,_,h3,_⟩:=h
 cases hd:P.underlying t with
 | none=>rw [hd] at h3;cases h3
 | some d=>exact ⟨d,rfl,by rw [Zsf hd,h1]⟩
theorem Zrq {k:TK} {h:Heap} {a:Addr} {K:Value→Prop} (hh:vLoad1 k h a K):∃ v,K v∧hcell h a=some v:=by
 unfold vLoad1 at hh
 split at hh<;>(obtain ⟨x,h1,h2⟩:=hh;exact ⟨_,h2,h1⟩)
theorem Zq5 {h:Heap} {a:Addr}:∀ (ks:List TK) (i:Nat) (K:List Value→Prop),vLoadN h a ks i K →
  ∃ vs,K vs∧vs.length=ks.length∧∀ j v,vs[j]?=some v→hcell h (a.add (i+j))=some v
 | [],_,_,hh=>⟨[],hh,rfl,fun j v hv=>by simp at hv⟩
 | k::ks,i,K,hh=>by
  obtain ⟨v,h1,h2⟩:=Zrq hh
  obtain ⟨vs,h3,h4,h5⟩:=Zq5 ks (i+1) _ h1
  refine ⟨v::vs,h3,by simp [h4],fun j u hu=>?_⟩
  cases j with
  | zero=>simp at hu;subst hu;simpa using h2
  | succ j=>rw [show i+(j+1)=i+1+j by omega];exact h5 j u (by simpa using hu)
theorem ZrG (hC:CtxOk C) {t:TypeId} {x:Value} {h:Heap} {K:Value→Prop} (hh:vLoad C.tab t x h K):
  ∃ a v,x=.pointer (some a)∧K v∧∀ w:World,HLe h w.heap→(loadVar t a).run C.P w=.ok v w:=by
 unfold vLoad at hh
 split at hh
 ·rename_i te a ht
  have hT:=hC.tab _ _ ht
  obtain ⟨d,hd,hag⟩:=hT.und
  cases hb:te.d.agg
  ·rw [hb] at hh hag
   simp only [cond_false] at hh
   split at hh
   ·obtain ⟨v,h1,h2⟩:=Zrq hh
    refine ⟨a,v,rfl,h1,fun w hw=>?_⟩
    simp only [loadVar,Sem.run_bind,Zjl w hd,hag,Result.andThen_ok]
    simpa using Zrh w (hw.1 _ _ h2)
   ·exact hh.elim
  ·rw [hb] at hh hag
   simp only [cond_true] at hh
   obtain ⟨vs,h1,h2,h3⟩:=Zq5 _ _ _ hh
   refine ⟨a,_,rfl,h1,fun w hw=>?_⟩
   simp only [loadVar,Sem.run_bind,Zjl w hd,hag,Result.andThen_ok,if_true,ZaE w hT,TE.size,←h2]
   rw [Zj8 w vs fun j v hv=>by have:=hw.1 _ _ (h3 j v hv);simpa using this]
   rfl
 ·exact hh.elim
theorem ZA1 {src dst el:TypeId} (hs:C.P.underlying src=some (.slice el)) (he:C.P.underlying el=some (.int .u8)) (hd:C.P.underlying dst=some .string)
  {x:Value} {h:Heap} {K:Value→Prop} (hh:vB2S x h fun s=>K (.string s)):∃ v,K v∧∀ w:World,HLe h w.heap→(convert src dst x).run C.P w=.ok v w:=by
 unfold vB2S at hh
 split at hh
 ·rename_i a n c
  obtain ⟨bs,h1,h2,h3⟩:=hh
  refine ⟨_,h3,fun w hw=>?_⟩
  have hstr:∀ l:List UInt8,strOfNums (l.map fun b=>(b.toNat:Int))=⟨l.toArray⟩:=by
   intro l
   have:∀ b:UInt8,((fun n:Int=>UInt8.ofNat n.toNat) ∘ fun b:UInt8=>(b.toNat:Int)) b=b:=fun b=>by simp
   simp only [strOfNums,List.map_map]
   rw [List.map_congr_left (g:=id) (fun b _=>this b),List.map_id]
  cases a with
  | none=>
   have:bs=[]:=by
    cases bs with
    | nil=>rfl
    | cons b r=>obtain ⟨p,hp,_⟩:=h2 0 b rfl;cases hp
   subst this
   rw [run_convert_bytes_nil w src el hs he n c dst hd]
   rfl
  | some p=>
   have hl:(loadCells p n).run C.P w=.ok ((bs.map fun b=>(b.toNat:Int)).map (Value.int .u8)).toArray w:=by
    have:=Zj8 (P:=C.P) w (a:=p) (bs.map fun b=>Value.int .u8 b.toNat) fun j v hv=>by
     rw [List.getElem?_map,Option.map_eq_some_iff] at hv
     obtain ⟨b,hb,rfl⟩:=hv
     obtain ⟨q,hq,hc⟩:=h2 j b hb
     cases hq
     exact hw.1 _ _ hc
    rw [List.length_map,h1] at this
    rw [this,List.map_map]
    rfl
   rw [run_convert_bytes_string w src dst el _ n c hs he hd,run_bytesToString w _ n c _ hl,foldl_push_bytes]
   rw [←hstr bs]
   simp only [ByteArray.empty,ByteArray.emptyWithCapacity,strOfNums]
   congr 2
   have hz:∀ l:Array UInt8,(⟨(ByteArray.empty).data++l⟩:ByteArray)=⟨l⟩:=fun l=>by
    congr 1
    apply Array.ext'
    rw [Array.toList_append]
    rfl
   exact hz _
 ·exact hh.elim
theorem Zq6 (hC:CtxOk C) {o:Oper} {h:Heap} {K:Value→Prop} (hh:vRead C o.op e h K):
  ∃ v,K v∧∀ w:World,HLe h w.heap→(execOp (ev e) o).run C.P w=.ok (.value v) w:=by
 obtain ⟨dst,op,type,pos,after,guard⟩:=o
 simp only at hh
 unfold vRead at hh
 split at hh
 ·rename_i t a
  obtain ⟨p,v,hp,hk,hr⟩:=ZrG hC hh
  exact ⟨v,hk,fun w hw=>by simp [execOp,Instr.loadAt,hp,Instr.sureAddr,hr w hw]⟩
 ·rename_i t x ix ok
  split at hh
  ·rename_i kt et ks z b ht
   split at hh
   ·rename_i kte ete hkt het
    have hb:=(Z6 hh).1
    replace hh:=(Z6 hh).2
    simp only [Bool.and_eq_true,Bool.not_eq_true'] at hb
    obtain ⟨⟨hb1,hb2⟩,hb3⟩:=hb
    subst hb3
    split at hh
    ·rename_i tk z' hks hz hag
     obtain ⟨D,hD,hkd⟩:=kd_of (hC.tab _ _ hkt).1 hb1
     obtain ⟨v,hv,hr⟩:=ZtY (Zni (hC.tab _ _ ht).1) hD hkd (hC.tab _ _ het) hz hag hb2 hh
     exact ⟨v,hv,fun w hw=>by simp [execOp,hr w hw]⟩
    ·exact hh.elim
   ·exact hh.elim
  ·exact hh.elim
 ·rename_i src dst x
  split at hh
  ·rename_i el ks z b ks' z' b' hs hd
   split at hh
   ·rename_i ks2 z2 b2 hel
    obtain ⟨v,hv,hr⟩:=ZA1 (Zav (hC.tab _ _ hs).1) (ZeD (hC.tab _ _ hel).1) (ZcP (hC.tab _ _ hd).1) hh
    exact ⟨v,hv,fun w hw=>by simp [execOp,hr w hw]⟩
   ·exact hh.elim
  ·exact hh.elim
 ·exact hh.elim
theorem Zom {P:Program} (w:World) {a:Addr} {v:Value} {K:Heap→Prop} (h:vStore1 w.heap a v K):
  (store a v).run P w=.ok () (w.setCell a v)∧Rest w (w.setCell a v)∧K (w.setCell a v).heap:=by
 obtain ⟨h1,⟨u,h2⟩,h3,h4⟩:=h
 refine ⟨?_,⟨rfl,rfl,rfl,Nat.le_refl _⟩,h4⟩
 rw [run_store P w a v .plain h1]
 have hc:w.cell? a=some u:=h2
 have hf:w.frozen? a=false:=h3
 simp [hc,hf]
theorem Zgb {P:Program} {a:Addr}:∀ (vs:List Value) (i:Nat) (w:World) (K:Heap→Prop),vStoreN a vs i w.heap K →
  ∃ w',(storeCells a vs i).run P w=.ok () w'∧Rest w w'∧K w'.heap
 | [],_,w,_,h=>⟨w,rfl,Rest.refl w,h⟩
 | v::vs,i,w,K,h=>by
  obtain ⟨h1,h2,h3⟩:=Zom (P:=P) w h
  obtain ⟨w',h4,h5,h6⟩:=Zgb (P:=P) vs (i+1) _ K h3
  refine ⟨w',?_,h2.trans h5,h6⟩
  simp only [storeCells,Sem.run_bind,h1,Result.andThen_ok,h4]
theorem ZtI (hC:CtxOk C) {t:TypeId} {x v:Value} {w:World} {K:Heap→Prop} (h:vStore C.tab t x v w.heap K):
  ∃ w',(Instr.storeAt t x v).run C.P w=.ok () w'∧Rest w w'∧K w'.heap:=by
 unfold vStore at h
 split at h
 ·rename_i te a ht
  have hT:=hC.tab _ _ ht
  cases hb:te.d.agg
  ·rw [hb] at h
   simp only [cond_false] at h
   obtain ⟨h1,h⟩:=Z6 h
   have h1:=Nat.eq_of_beq_eq_true h1
   have hone:=h.1
   obtain ⟨h2,h3,h4⟩:=Zom (P:=C.P) w h
   refine ⟨_,?_,h3,h4⟩
   have hcells:v.cells=#[v]:=by cases v<;>simp [Value.oneCell'] at hone<;>rfl
   simp [Instr.storeAt,Instr.sureAddr,storeVar,ZaE w hT,h1,hcells,storeCells,Addr.add,h2]
  ·rw [hb] at h
   simp only [cond_true] at h
   split at h
   ·rename_i cs
    obtain ⟨h1,h⟩:=Z6 h
    have h1:=Nat.eq_of_beq_eq_true h1
    obtain ⟨w',h2,h3,h4⟩:=Zgb (P:=C.P) _ _ w _ h
    refine ⟨w',?_,h3,h4⟩
    have h1':cs.size=te.size:=by simpa using h1
    simp [Instr.storeAt,Instr.sureAddr,storeVar,ZaE w hT,Value.cells,h1',h2]
   ·exact h.elim
 ·exact h.elim
theorem ZrT {agg:Bool} {z:Nat}:∀ (parts:List (Nat×Value)) (n:Nat) (cells:List Value) (K:List Value→Prop),partsAll agg z parts n K →
  (n+parts.length)*z≤cells.length→∃ l,K l∧l.length=parts.length*z∧Instr.fill (fun i=>some (i*z,z)) cells.toArray parts=some (setAt cells (n*z) l).toArray
 | [],n,cells,K,h,_=>⟨[],h,by simp,by simp [Instr.fill,setAt]⟩
 | (i,v)::r,n,cells,K,h,hl=>by
  unfold partsAll at h
  obtain ⟨hi,h⟩:=Z6 h
  have hi:=Nat.eq_of_beq_eq_true hi
  subst hi
  obtain ⟨h1,h2⟩:=ZlG h
  obtain ⟨hz,h1⟩:=Z6 h1
  have hz:=Nat.eq_of_beq_eq_true hz
  have hmul:(i+(r.length+1))*z=i*z+(z+r.length*z):=by rw [Nat.add_mul,Nat.add_mul,Nat.one_mul];omega
  simp only [List.length_cons] at hl
  rw [hmul] at hl
  have hlen:(setAt cells (i*z) v.cells.toList).length=cells.length:=by
   simp [setAt] at hz ⊢;omega
  obtain ⟨l,h3,h4,h5⟩:=ZrT r (i+1) (setAt cells (i*z) v.cells.toList) _ h1 (by
   rw [hlen,Nat.add_mul,Nat.add_mul,Nat.one_mul];omega)
  refine ⟨v.cells.toList++l,h3,by simp only [List.length_append,hz,h4,List.length_cons,Nat.add_mul,Nat.one_mul];omega,?_⟩
  rw [ZqE (off:=i*z) (size:=z) rfl (by simpa using hz) (by simp;omega),List.toList_toArray,h5]
  congr 2
  unfold setAt
  have e1:(i+1)*z=i*z+v.cells.toList.length:=by rw [Nat.add_mul,Nat.one_mul,hz]
  rw [e1,List.length_append]
  have e2:(List.take (i*z) cells).length=i*z:=by simp;omega
  have e3:(List.take (i*z) cells++v.cells.toList++List.drop (i*z+v.cells.toList.length) cells).take (i*z+v.cells.toList.length)=List.take (i*z) cells++v.cells.toList:=by
   rw [List.take_append_of_le_length (by simp [e2]),List.take_of_length_le (by simp [e2])]
  have e4:(List.take (i*z) cells++v.cells.toList++List.drop (i*z+v.cells.toList.length) cells).drop (i*z+v.cells.toList.length+l.length)=List.drop (i*z+(v.cells.toList.length+l.length)) cells:=by
   rw [List.drop_append,List.drop_of_length_le (by simp [e2]),List.nil_append,List.drop_drop]
   congr 1
   simp only [List.length_append,e2]
   omega
  rw [e3,e4]
  simp only [List.append_assoc]
theorem ZAC (n:Nat) (zero:List Value):(repl n zero).length=n*zero.length:=by
 induction n with
 | zero=>simp [repl]
 | succ n ih=>simp [repl,ih,Nat.add_mul];omega
theorem repl_getElem? (zero:List Value) (hz:0<zero.length):∀ (n i:Nat),i<n*zero.length→(repl n zero)[i]?=zero[i%zero.length]?
 | 0,i,h=>by simp at h
 | n+1,i,h=>by
  rw [repl,List.getElem?_append]
  split
  ·rename_i hi;rw [Nat.mod_eq_of_lt hi]
  ·rename_i hi
   rw [repl_getElem? zero hz n _ (by rw [Nat.add_mul,Nat.one_mul] at h;omega)]
   congr 1
   rw [Nat.mod_eq_sub_mod (a:=i) (by omega)]
theorem Zix (zero:Array Value) (n:Nat) (hz:0<zero.size):(Array.range (n*zero.size)).map (fun i=>zero[i%zero.size]!)=(repl n zero.toList).toArray:=by
 apply Array.ext'
 apply List.ext_getElem?
 intro i
 simp only [Array.toList_map,Array.toList_range,List.getElem?_map]
 by_cases h:i<n*zero.size
 ·rw [List.getElem?_range h,repl_getElem? zero.toList (by simpa using hz) n i (by simpa using h)]
  have hm:i%zero.size<zero.size:=Nat.mod_lt _ hz
  simp [hm]
 ·rw [List.getElem?_eq_none (by simp;omega),List.getElem?_eq_none (by rw [ZAC];simp;omega)]
  rfl
theorem Zak {n:Int} (h0:-9223372036854775808≤n) (h1:n≤9223372036854775807):IntKind.i64.wrap n=n:=IntWalk.i64_in n ⟨h0,h1⟩
end
end Go.Vc
