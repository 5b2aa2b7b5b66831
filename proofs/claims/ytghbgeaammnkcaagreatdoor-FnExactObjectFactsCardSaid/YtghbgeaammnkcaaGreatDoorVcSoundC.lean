import Derived.Test.YtghbgeaammnkcaaGreatDoorVcSoundM
namespace Go.Vc
set_option linter.unusedVariables false
set_option linter.unusedSimpArgs false
open Go
section
variable {C:Ctx} {e:Env}
theorem TeOk.und {P:Program} {t:TypeId} {te:TE} (h:TeOk P t te):∃ d,P.underlying t=some d∧isAggD d=te.d.agg:=by
 obtain ⟨c,_,a,_⟩:=h
 cases b:P.underlying t with
 | none=>rw [b] at a;cases a
 | some d=>exact ⟨d,rfl,by rw [ZCF b,c]⟩
theorem ZuF {k:TK} {h:Heap} {a:Addr} {K:Value→Prop} (hh:vLoad1 k h a K):∃ v,K v∧hcell h a=some v:=by
 unfold vLoad1 at hh
 split at hh<;>(obtain ⟨x,b,c⟩:=hh;exact ⟨_,c,b⟩)
theorem Zrk {h:Heap} {a:Addr}:∀ (ks:List TK) (i:Nat) (K:List Value→Prop),vLoadN h a ks i K →
  ∃ vs,K vs∧vs.length=ks.length∧∀ j v,vs[j]?=some v→hcell h (a.add (i+j))=some v
 | [],_,_,hh=>⟨[],hh,rfl,fun j v b=>by simp at b⟩
 | k::ks,i,K,hh=>by
  obtain ⟨v,c,f⟩:=ZuF hh
  obtain ⟨vs,g,l,m⟩:=Zrk ks (i+1) _ c
  refine ⟨v::vs,g,by simp [l],fun j u hu=>?_⟩
  cases j with
  | zero=>simp at hu;subst hu;simpa using f
  | succ j=>rw [show i+(j+1)=i+1+j by omega];exact m j u (by simpa using hu)
theorem Zsk (hC:CtxOk C) {t:TypeId} {x:Value} {h:Heap} {K:Value→Prop} (hh:vLoad C.tab t x h K):
  ∃ a v,x=.pointer (some a)∧K v∧∀ w:World,HLe h w.heap→(loadVar t a).run C.P w=.ok v w:=by
 unfold vLoad at hh
 split at hh
 ·rename_i te a ht
  have hT:=hC.tab _ _ ht
  obtain ⟨d,f,hag⟩:=hT.und
  cases g:te.d.agg
  ·rw [g] at hh hag
   simp only [cond_false] at hh
   split at hh
   ·obtain ⟨v,b,c⟩:=ZuF hh
    refine ⟨a,v,rfl,b,fun w hw=>?_⟩
    simp only [loadVar,Sem.run_bind,ZlJ w f,hag,Result.andThen_ok]
    simpa using Zsf w (hw.1 _ _ c)
   ·exact hh.elim
  ·rw [g] at hh hag
   simp only [cond_true] at hh
   obtain ⟨vs,b,c,i⟩:=Zrk _ _ _ hh
   refine ⟨a,_,rfl,b,fun w hw=>?_⟩
   simp only [loadVar,Sem.run_bind,ZlJ w f,hag,Result.andThen_ok,if_true,ZaY w hT,TE.size,←c]
   rw [ZkF w vs fun j v k=>by have:=hw.1 _ _ (i j v k);simpa using this]
   rfl
 ·exact hh.elim
theorem ZB3 {src dst el:TypeId} (hs:C.P.underlying src=some (.slice el)) (he:C.P.underlying el=some (.int .u8)) (f:C.P.underlying dst=some .string)
  {x:Value} {h:Heap} {K:Value→Prop} (hh:vB2S x h fun s=>K (.string s)):∃ v,K v∧∀ w:World,HLe h w.heap→(convert src dst x).run C.P w=.ok v w:=by
 unfold vB2S at hh
 split at hh
 ·rename_i a n c
  obtain ⟨bs,m,i,o⟩:=hh
  refine ⟨_,o,fun w hw=>?_⟩
  have hstr:∀ l:List UInt8,strOfNums (l.map fun b=>(b.toNat:Int))=⟨l.toArray⟩:=by
   intro l
   have:∀ b:UInt8,((fun n:Int=>UInt8.ofNat n.toNat) ∘ fun b:UInt8=>(b.toNat:Int)) b=b:=fun b=>by simp
   simp only [strOfNums,List.map_map]
   rw [List.map_congr_left (g:=id) (fun b _=>this b),List.map_id]
  cases a with
  | none=>
   have:bs=[]:=by
    cases bs with
    | nil=>rfl
    | cons b r=>obtain ⟨p,hp,_⟩:=i 0 b rfl;cases hp
   subst this
   rw [run_convert_bytes_nil w src el hs he n c dst f]
   rfl
  | some p=>
   have hl:(loadCells p n).run C.P w=.ok ((bs.map fun b=>(b.toNat:Int)).map (Value.int .u8)).toArray w:=by
    have:=ZkF (P:=C.P) w (a:=p) (bs.map fun b=>Value.int .u8 b.toNat) fun j v k=>by
     rw [List.getElem?_map,Option.map_eq_some_iff] at k
     obtain ⟨b,t,rfl⟩:=k
     obtain ⟨q,u,y⟩:=i j b t
     cases u
     exact hw.1 _ _ y
    rw [List.length_map,m] at this
    rw [this,List.map_map]
    rfl
   rw [run_convert_bytes_string w src dst el _ n c hs he f,run_bytesToString w _ n c _ hl,foldl_push_bytes]
   rw [←hstr bs]
   simp only [ByteArray.empty,ByteArray.emptyWithCapacity,strOfNums]
   congr 2
   have hz:∀ l:Array UInt8,(⟨(ByteArray.empty).data++l⟩:ByteArray)=⟨l⟩:=fun l=>by
    congr 1
    apply Array.ext'
    rw [Array.toList_append]
    rfl
   exact hz _
 ·exact hh.elim
theorem ZsP (hC:CtxOk C) {o:Oper} {h:Heap} {K:Value→Prop} (hh:vRead C o.op e h K):
  ∃ v,K v∧∀ w:World,HLe h w.heap→(execOp (ev e) o).run C.P w=.ok (.value v) w:=by
 obtain ⟨dst,op,type,pos,after,guard⟩:=o
 simp only at hh
 unfold vRead at hh
 split at hh
 ·rename_i t a
  obtain ⟨p,v,hp,hk,hr⟩:=Zsk hC hh
  exact ⟨v,hk,fun w hw=>by simp [execOp,Instr.loadAt,hp,Instr.sureAddr,hr w hw]⟩
 ·rename_i t x ix ok
  split at hh
  ·rename_i kt et ks z b ht
   split at hh
   ·rename_i kte ete hkt het
    have f:=(Zaj hh).1
    replace hh:=(Zaj hh).2
    simp only [Bool.and_eq_true,Bool.not_eq_true'] at f
    obtain ⟨⟨g,i⟩,j⟩:=f
    subst j
    split at hh
    ·rename_i tk z' hks hz hag
     obtain ⟨D,hD,hkd⟩:=kd_of (hC.tab _ _ hkt).1 g
     obtain ⟨v,c,hr⟩:=ZyY (Zme (hC.tab _ _ ht).1) hD hkd (hC.tab _ _ het) hz hag i hh
     exact ⟨v,c,fun w hw=>by simp [execOp,hr w hw]⟩
    ·exact hh.elim
   ·exact hh.elim
  ·exact hh.elim
 ·rename_i src dst x
  split at hh
  ·rename_i el ks z b ks' z' b' hs k
   split at hh
   ·rename_i l z2 m hel
    obtain ⟨v,c,hr⟩:=ZB3 (ZaP (hC.tab _ _ hs).1) (Zfk (hC.tab _ _ hel).1) (Zdb (hC.tab _ _ k).1) hh
    exact ⟨v,c,fun w hw=>by simp [execOp,hr w hw]⟩
   ·exact hh.elim
  ·exact hh.elim
 ·exact hh.elim
theorem ZsX {P:Program} (w:World) {a:Addr} {v:Value} {K:Heap→Prop} (h:vStore1 w.heap a v K):
  (store a v).run P w=.ok () (w.setCell a v)∧Rest w (w.setCell a v)∧K (w.setCell a v).heap:=by
 obtain ⟨b,⟨u,c⟩,f,g⟩:=h
 refine ⟨?_,⟨rfl,rfl,rfl,Nat.le_refl _⟩,g⟩
 rw [run_store P w a v .plain b]
 have i:w.cell? a=some u:=c
 have hf:w.frozen? a=false:=f
 simp [i,hf]
theorem ZhZ {P:Program} {a:Addr}:∀ (vs:List Value) (i:Nat) (w:World) (K:Heap→Prop),vStoreN a vs i w.heap K →
  ∃ w',(storeCells a vs i).run P w=.ok () w'∧Rest w w'∧K w'.heap
 | [],_,w,_,h=>⟨w,rfl,Rest.refl w,h⟩
 | v::vs,i,w,K,h=>by
  obtain ⟨b,c,f⟩:=ZsX (P:=P) w h
  obtain ⟨w',g,j,k⟩:=ZhZ (P:=P) vs (i+1) _ K f
  refine ⟨w',?_,c.trans j,k⟩
  simp only [storeCells,Sem.run_bind,b,Result.andThen_ok,g]
theorem Zxo (hC:CtxOk C) {t:TypeId} {x v:Value} {w:World} {K:Heap→Prop} (h:vStore C.tab t x v w.heap K):
  ∃ w',(Instr.storeAt t x v).run C.P w=.ok () w'∧Rest w w'∧K w'.heap:=by
 unfold vStore at h
 split at h
 ·rename_i te a ht
  have hT:=hC.tab _ _ ht
  cases i:te.d.agg
  ·rw [i] at h
   simp only [cond_false] at h
   obtain ⟨b,h⟩:=Zaj h
   have b:=Nat.eq_of_beq_eq_true b
   have hone:=h.1
   obtain ⟨c,f,g⟩:=ZsX (P:=C.P) w h
   refine ⟨_,?_,f,g⟩
   have hcells:v.cells=#[v]:=by cases v<;>simp [Value.oneCell'] at hone<;>rfl
   simp [Instr.storeAt,Instr.sureAddr,storeVar,ZaY w hT,b,hcells,storeCells,Addr.add,c]
  ·rw [i] at h
   simp only [cond_true] at h
   split at h
   ·rename_i cs
    obtain ⟨b,h⟩:=Zaj h
    have b:=Nat.eq_of_beq_eq_true b
    obtain ⟨w',c,f,g⟩:=ZhZ (P:=C.P) _ _ w _ h
    refine ⟨w',?_,f,g⟩
    have h1':cs.size=te.size:=by simpa using b
    simp [Instr.storeAt,Instr.sureAddr,storeVar,ZaY w hT,Value.cells,h1',c]
   ·exact h.elim
 ·exact h.elim
theorem Zui {agg:Bool} {z:Nat}:∀ (parts:List (Nat×Value)) (n:Nat) (cells:List Value) (K:List Value→Prop),partsAll agg z parts n K →
  (n+parts.length)*z≤cells.length→∃ l,K l∧l.length=parts.length*z∧Instr.fill (fun i=>some (i*z,z)) cells.toArray parts=some (setAt cells (n*z) l).toArray
 | [],n,cells,K,h,_=>⟨[],h,by simp,by simp [Instr.fill,setAt]⟩
 | (i,v)::r,n,cells,K,h,hl=>by
  unfold partsAll at h
  obtain ⟨hi,h⟩:=Zaj h
  have hi:=Nat.eq_of_beq_eq_true hi
  subst hi
  obtain ⟨b,o⟩:=ZoB h
  obtain ⟨hz,b⟩:=Zaj b
  have hz:=Nat.eq_of_beq_eq_true hz
  have hmul:(i+(r.length+1))*z=i*z+(z+r.length*z):=by rw [Nat.add_mul,Nat.add_mul,Nat.one_mul];omega
  simp only [List.length_cons] at hl
  rw [hmul] at hl
  have hlen:(setAt cells (i*z) v.cells.toList).length=cells.length:=by
   simp [setAt] at hz ⊢;omega
  obtain ⟨l,c,f,g⟩:=Zui r (i+1) (setAt cells (i*z) v.cells.toList) _ b (by
   rw [hlen,Nat.add_mul,Nat.add_mul,Nat.one_mul];omega)
  refine ⟨v.cells.toList++l,c,by simp only [List.length_append,hz,f,List.length_cons,Nat.add_mul,Nat.one_mul];omega,?_⟩
  rw [Zrq (off:=i*z) (size:=z) rfl (by simpa using hz) (by simp;omega),List.toList_toArray,g]
  congr 2
  unfold setAt
  have j:(i+1)*z=i*z+v.cells.toList.length:=by rw [Nat.add_mul,Nat.one_mul,hz]
  rw [j,List.length_append]
  have a:(List.take (i*z) cells).length=i*z:=by simp;omega
  have k:(List.take (i*z) cells++v.cells.toList++List.drop (i*z+v.cells.toList.length) cells).take (i*z+v.cells.toList.length)=List.take (i*z) cells++v.cells.toList:=by
   rw [List.take_append_of_le_length (by simp [a]),List.take_of_length_le (by simp [a])]
  have m:(List.take (i*z) cells++v.cells.toList++List.drop (i*z+v.cells.toList.length) cells).drop (i*z+v.cells.toList.length+l.length)=List.drop (i*z+(v.cells.toList.length+l.length)) cells:=by
   rw [List.drop_append,List.drop_of_length_le (by simp [a]),List.nil_append,List.drop_drop]
   congr 1
   simp only [List.length_append,a]
   omega
  rw [k,m]
  simp only [List.append_assoc]
theorem ZBt (n:Nat) (zero:List Value):(repl n zero).length=n*zero.length:=by
 induction n with
 | zero=>simp [repl]
 | succ n ih=>simp [repl,ih,Nat.add_mul];omega
theorem repl_getElem? (zero:List Value) (hz:0<zero.length):∀ (n i:Nat),i<n*zero.length→(repl n zero)[i]?=zero[i%zero.length]?
 | 0,i,h=>by simp at h
 | n+1,i,h=>by
  rw [repl,List.getElem?_append]
  split
  ·rename_i hi;rw [Nat.mod_eq_of_lt hi]
  ·rename_i hi
   rw [repl_getElem? zero hz n _ (by rw [Nat.add_mul,Nat.one_mul] at h;omega)]
   congr 1
   rw [Nat.mod_eq_sub_mod (a:=i) (by omega)]
theorem ZlK (zero:Array Value) (n:Nat) (hz:0<zero.size):(Array.range (n*zero.size)).map (fun i=>zero[i%zero.size]!)=(repl n zero.toList).toArray:=by
 apply Array.ext'
 apply List.ext_getElem?
 intro i
 simp only [Array.toList_map,Array.toList_range,List.getElem?_map]
 by_cases h:i<n*zero.size
 ·rw [List.getElem?_range h,repl_getElem? zero.toList (by simpa using hz) n i (by simpa using h)]
  have hm:i%zero.size<zero.size:=Nat.mod_lt _ hz
  simp [hm]
 ·rw [List.getElem?_eq_none (by simp;omega),List.getElem?_eq_none (by rw [ZBt];simp;omega)]
  rfl
theorem Za4 {n:Int} (a:-9223372036854775808≤n) (b:n≤9223372036854775807):IntKind.i64.wrap n=n:=IntWalk.i64_in n ⟨a,b⟩
end
end Go.Vc
