import Derived.Test.YtepnljbkgjbbmaaGreatDoorVcSoundM
namespace Go.Vc
set_option linter.unusedVariables false
set_option linter.unusedSimpArgs false
open Go
section
variable {C:Ctx} {e:Env}
theorem TeOk.und {P:Program} {t:TypeId} {g:TE} (h:TeOk P t g):∃ d,P.underlying t=some d/\isAggD d=g.d.agg:=by
 obtain ⟨h1,_,a,_⟩:=h
 cases c:P.underlying t with
 | none=>rw [c] at a;cases a
 | some d=>exact ⟨d,rfl,by rw [ZzC c,h1]⟩
theorem ZtE {k:TK} {h:Heap} {a:Addr} {K:Value->Prop} (g:vLoad1 k h a K):∃ v,K v/\hcell h a=some v:=by
 unfold vLoad1 at g
 split at g<;>(obtain ⟨x,h1,c⟩:=g;exact ⟨_,c,h1⟩)
theorem Zre {h:Heap} {a:Addr}:∀ (ks:List TK) (i:Nat) (K:List Value->Prop),vLoadN h a ks i K ->
  ∃ vs,K vs/\vs.length=ks.length/\∀ j v,vs[j]?=some v->hcell h (a.add (i+j))=some v
 | [],_,_,hh=>⟨[],hh,rfl,fun j v c=>by simp at c⟩
 | k::ks,i,K,hh=>by
  obtain ⟨v,h1,f⟩:=ZtE hh
  obtain ⟨vs,g,l,o⟩:=Zre ks (i+1) _ h1
  refine ⟨v::vs,g,by simp [l],fun j u r=>?_⟩
  cases j with
  | zero=>simp at r;subst r;simpa using f
  | succ j=>rw [show i+(j+1)=i+1+j by omega];exact o j u (by simpa using r)
theorem Zvt (hC:CtxOk C) {t:TypeId} {x:Value} {h:Heap} {K:Value->Prop} (l:vLoad C.tab t x h K):
  ∃ a v,x=.pointer (some a)/\K v/\∀ w:World,HLe h w.heap->(loadVar t a).run C.P w=.ok v w:=by
 unfold vLoad at l
 split at l
 ·rename_i y a ht
  have u:=hC.tab _ _ ht
  obtain ⟨d,f,o⟩:=u.und
  cases g:y.d.agg
  ·rw [g] at l o
   simp only [cond_false] at l
   split at l
   ·obtain ⟨v,h1,c⟩:=ZtE l
    refine ⟨a,v,rfl,h1,fun w r=>?_⟩
    simp only [loadVar,Sem.run_bind,ZiA w f,o,Result.andThen_ok]
    simpa using Zq3 w (r.1 _ _ c)
   ·exact l.elim
  ·rw [g] at l o
   simp only [cond_true] at l
   obtain ⟨vs,h1,c,i⟩:=Zre _ _ _ l
   refine ⟨a,_,rfl,h1,fun w r=>?_⟩
   simp only [loadVar,Sem.run_bind,ZiA w f,o,Result.andThen_ok,if_true,ZaS w u,TE.size,<-c]
   rw [Zks w vs fun j v k=>by have:=r.1 _ _ (i j v k);simpa using this]
   rfl
 ·exact l.elim
theorem Zwx {a1 a0 el:TypeId} (hs:C.P.underlying a1=some (.slice el)) (he:C.P.underlying el=some (.int .u8)) (f:C.P.underlying a0=some .string)
  {x:Value} {h:Heap} {K:Value->Prop} (hh:vB2S x h fun s=>K (.string s)):∃ v,K v/\∀ w:World,HLe h w.heap->(convert a1 a0 x).run C.P w=.ok v w:=by
 unfold vB2S at hh
 split at hh
 ·rename_i a n c
  obtain ⟨bs,h1,i,o⟩:=hh
  refine ⟨_,o,fun w hw=>?_⟩
  have a3:∀ l:List UInt8,strOfNums (l.map fun b=>(b.toNat:Int))=⟨l.toArray⟩:=by
   intro l
   have:∀ b:UInt8,((fun n:Int=>UInt8.ofNat n.toNat) ∘ fun b:UInt8=>(b.toNat:Int)) b=b:=fun b=>by simp
   simp only [strOfNums,List.map_map]
   rw [List.map_congr_left (g:=id) (fun b _=>this b),List.map_id]
  cases a with
  | none=>
   have:bs=[]:=by
    cases bs with
    | nil=>rfl
    | cons b r=>obtain ⟨p,hp,_⟩:=i 0 b rfl;cases hp
   subst this
   rw [run_convert_bytes_nil w a1 el hs he n c a0 f]
   rfl
  | some p=>
   have hl:(loadCells p n).run C.P w=.ok ((bs.map fun b=>(b.toNat:Int)).map (Value.int .u8)).toArray w:=by
    have:=Zks (P:=C.P) w (a:=p) (bs.map fun b=>Value.int .u8 b.toNat) fun j v k=>by
     rw [List.getElem?_map,Option.map_eq_some_iff] at k
     obtain ⟨b,u,rfl⟩:=k
     obtain ⟨q,y,hc⟩:=i j b u
     cases y
     exact hw.1 _ _ hc
    rw [List.length_map,h1] at this
    rw [this,List.map_map]
    rfl
   rw [run_convert_bytes_string w a1 a0 el _ n c hs he f,run_bytesToString w _ n c _ hl,foldl_push_bytes]
   rw [<-a3 bs]
   simp only [ByteArray.empty,ByteArray.emptyWithCapacity,strOfNums]
   congr 2
   have hz:∀ l:Array UInt8,(⟨(ByteArray.empty).data++l⟩:ByteArray)=⟨l⟩:=fun l=>by
    congr 1
    apply Array.ext'
    rw [Array.toList_append]
    rfl
   exact hz _
 ·exact hh.elim
theorem ZuJ (y:CtxOk C) {o:Oper} {h:Heap} {K:Value->Prop} (u:vRead C o.op e h K):
  ∃ v,K v/\∀ w:World,HLe h w.heap->(execOp (ev e) o).run C.P w=.ok (.value v) w:=by
 obtain ⟨a5,op,aa,pos,a8,a9⟩:=o
 simp only at u
 unfold vRead at u
 split at u
 ·rename_i t a
  obtain ⟨p,v,hp,hk,hr⟩:=Zvt y u
  exact ⟨v,hk,fun w hw=>by simp [execOp,Instr.loadAt,hp,Instr.sureAddr,hr w hw]⟩
 ·rename_i t x ix ok
  split at u
  ·rename_i kt et ks z b ht
   split at u
   ·rename_i ag af a6 a3
    have f:=(Zas u).1
    replace u:=(Zas u).2
    simp only [Bool.and_eq_true,Bool.not_eq_true'] at f
    obtain ⟨⟨g,i⟩,j⟩:=f
    subst j
    split at u
    ·rename_i tk z' ah hz a4
     obtain ⟨D,hD,a7⟩:=kd_of (y.tab _ _ a6).1 g
     obtain ⟨v,c,hr⟩:=ZGK (ZoE (y.tab _ _ ht).1) hD a7 (y.tab _ _ a3) hz a4 i u
     exact ⟨v,c,fun w hw=>by simp [execOp,hr w hw]⟩
    ·exact u.elim
   ·exact u.elim
  ·exact u.elim
 ·rename_i ai a5 x
  split at u
  ·rename_i el ks z b aj z' b' hs k
   split at u
   ·rename_i l z2 r a2
    obtain ⟨v,c,hr⟩:=Zwx (ZaJ (y.tab _ _ hs).1) (Zfq (y.tab _ _ a2).1) (ZcC (y.tab _ _ k).1) u
    exact ⟨v,c,fun w hw=>by simp [execOp,hr w hw]⟩
   ·exact u.elim
  ·exact u.elim
 ·exact u.elim
theorem Zug {P:Program} (w:World) {a:Addr} {v:Value} {K:Heap->Prop} (h:vStore1 w.heap a v K):
  (store a v).run P w=.ok () (w.setCell a v)/\Rest w (w.setCell a v)/\K (w.setCell a v).heap:=by
 obtain ⟨h1,⟨u,c⟩,f,g⟩:=h
 refine ⟨?_,⟨rfl,rfl,rfl,Nat.le_refl _⟩,g⟩
 rw [run_store P w a v .plain h1]
 have i:w.cell? a=some u:=c
 have j:w.frozen? a=false:=f
 simp [i,j]
theorem ZhD {P:Program} {a:Addr}:∀ (vs:List Value) (i:Nat) (w:World) (K:Heap->Prop),vStoreN a vs i w.heap K ->
  ∃ l,(storeCells a vs i).run P w=.ok () l/\Rest w l/\K l.heap
 | [],_,w,_,h=>⟨w,rfl,Rest.refl w,h⟩
 | v::vs,i,w,K,h=>by
  obtain ⟨h1,c,f⟩:=Zug (P:=P) w h
  obtain ⟨l,g,j,k⟩:=ZhD (P:=P) vs (i+1) _ K f
  refine ⟨l,?_,c.trans j,k⟩
  simp only [storeCells,Sem.run_bind,h1,Result.andThen_ok,g]
theorem ZIc (y:CtxOk C) {t:TypeId} {x v:Value} {w:World} {K:Heap->Prop} (h:vStore C.tab t x v w.heap K):
  ∃ j,(Instr.storeAt t x v).run C.P w=.ok () j/\Rest w j/\K j.heap:=by
 unfold vStore at h
 split at h
 ·rename_i o a ht
  have u:=y.tab _ _ ht
  cases i:o.d.agg
  ·rw [i] at h
   simp only [cond_false] at h
   obtain ⟨h1,h⟩:=Zas h
   have h1:=Nat.eq_of_beq_eq_true h1
   have l:=h.1
   obtain ⟨c,f,g⟩:=Zug (P:=C.P) w h
   refine ⟨_,?_,f,g⟩
   have k:v.cells=#[v]:=by cases v<;>simp [Value.oneCell'] at l<;>rfl
   simp [Instr.storeAt,Instr.sureAddr,storeVar,ZaS w u,h1,k,storeCells,Addr.add,c]
  ·rw [i] at h
   simp only [cond_true] at h
   split at h
   ·rename_i cs
    obtain ⟨h1,h⟩:=Zas h
    have h1:=Nat.eq_of_beq_eq_true h1
    obtain ⟨j,c,f,g⟩:=ZhD (P:=C.P) _ _ w _ h
    refine ⟨j,?_,f,g⟩
    have r:cs.size=o.size:=by simpa using h1
    simp [Instr.storeAt,Instr.sureAddr,storeVar,ZaS w u,Value.cells,r,c]
   ·exact h.elim
 ·exact h.elim
theorem ZrJ {agg:Bool} {z:Nat}:∀ (u:List (Nat×Value)) (n:Nat) (cells:List Value) (K:List Value->Prop),partsAll agg z u n K ->
  (n+u.length)*z<=cells.length->∃ l,K l/\l.length=u.length*z/\Instr.fill (fun i=>some (i*z,z)) cells.toArray u=some (setAt cells (n*z) l).toArray
 | [],n,cells,K,h,_=>⟨[],h,by simp,by simp [Instr.fill,setAt]⟩
 | (i,v)::r,n,cells,K,h,hl=>by
  unfold partsAll at h
  obtain ⟨hi,h⟩:=Zas h
  have hi:=Nat.eq_of_beq_eq_true hi
  subst hi
  obtain ⟨h1,p⟩:=ZpJ h
  obtain ⟨hz,h1⟩:=Zas h1
  have hz:=Nat.eq_of_beq_eq_true hz
  have w:(i+(r.length+1))*z=i*z+(z+r.length*z):=by rw [Nat.add_mul,Nat.add_mul,Nat.one_mul];omega
  simp only [List.length_cons] at hl
  rw [w] at hl
  have x:(setAt cells (i*z) v.cells.toList).length=cells.length:=by
   simp [setAt] at hz ⊢;omega
  obtain ⟨l,c,f,g⟩:=ZrJ r (i+1) (setAt cells (i*z) v.cells.toList) _ h1 (by
   rw [x,Nat.add_mul,Nat.add_mul,Nat.one_mul];omega)
  refine ⟨v.cells.toList++l,c,by simp only [List.length_append,hz,f,List.length_cons,Nat.add_mul,Nat.one_mul];omega,?_⟩
  rw [ZuI (off:=i*z) (size:=z) rfl (by simpa using hz) (by simp;omega),List.toList_toArray,g]
  congr 2
  unfold setAt
  have j:(i+1)*z=i*z+v.cells.toList.length:=by rw [Nat.add_mul,Nat.one_mul,hz]
  rw [j,List.length_append]
  have a:(List.take (i*z) cells).length=i*z:=by simp;omega
  have k:(List.take (i*z) cells++v.cells.toList++List.drop (i*z+v.cells.toList.length) cells).take (i*z+v.cells.toList.length)=List.take (i*z) cells++v.cells.toList:=by
   rw [List.take_append_of_le_length (by simp [a]),List.take_of_length_le (by simp [a])]
  have o:(List.take (i*z) cells++v.cells.toList++List.drop (i*z+v.cells.toList.length) cells).drop (i*z+v.cells.toList.length+l.length)=List.drop (i*z+(v.cells.toList.length+l.length)) cells:=by
   rw [List.drop_append,List.drop_of_length_le (by simp [a]),List.nil_append,List.drop_drop]
   congr 1
   simp only [List.length_append,a]
   omega
  rw [k,o]
  simp only [List.append_assoc]
theorem ZHW (n:Nat) (zero:List Value):(repl n zero).length=n*zero.length:=by
 induction n with
 | zero=>simp [repl]
 | succ n a=>simp [repl,a,Nat.add_mul];omega
theorem repl_getElem? (zero:List Value) (hz:0<zero.length):∀ (n i:Nat),i<n*zero.length->(repl n zero)[i]?=zero[i%zero.length]?
 | 0,i,h=>by simp at h
 | n+1,i,h=>by
  rw [repl,List.getElem?_append]
  split
  ·rename_i hi;rw [Nat.mod_eq_of_lt hi]
  ·rename_i hi
   rw [repl_getElem? zero hz n _ (by rw [Nat.add_mul,Nat.one_mul] at h;omega)]
   congr 1
   rw [Nat.mod_eq_sub_mod (a:=i) ω]
theorem Zki (zero:Array Value) (n:Nat) (hz:0<zero.size):(Array.range (n*zero.size)).map (fun i=>zero[i%zero.size]!)=(repl n zero.toList).toArray:=by
 apply Array.ext'
 apply List.ext_getElem?
 intro i
 simp only [Array.toList_map,Array.toList_range,List.getElem?_map]
 by_cases h:i<n*zero.size
 ·rw [List.getElem?_range h,repl_getElem? zero.toList (by simpa using hz) n i (by simpa using h)]
  have a:i%zero.size<zero.size:=Nat.mod_lt _ hz
  simp [a]
 ·rw [List.getElem?_eq_none (by simp;omega),List.getElem?_eq_none (by rw [ZHW];simp;omega)]
  rfl
theorem Zaj {n:Int} (a:-9223372036854775808<=n) (h1:n<=9223372036854775807):IntKind.i64.wrap n=n:=IntWalk.i64_in n ⟨a,h1⟩
end
end Go.Vc
