import Derived.Test.YtmmbnjijjdakmaaGreatDoorVcTxt
import Derived.Shelf.Strings.Split
import Derived.Shelf.Strings.Cut
import Derived.Shelf.Strconv.ParseIntPublic10
import Derived.Shelf.Vars
import Derived.LaidLaws
import Derived.Handed
namespace Go.Vc
set_option linter.unusedVariables false
set_option linter.unusedSimpArgs false
open Go Go.Proofs Go.Lib Go.Shelf Go.RowKit
theorem Zo9 {φ:CM}:∀ (xs:List ByteArray),AllR φ El.str [] (xs.map fun x=>[.string x]) xs
 | []=>rfl
 | _::xs=>⟨[],[],rfl,⟨rfl,rfl⟩,Zo9 xs⟩
theorem Zsq (xs:List ByteArray):(xs.map fun x=>[Value.string x]).flatten=xs.map Value.string:=by
 induction xs with
 | nil=>rfl
 | cons _ _ ih=>simp only [List.map_cons,List.flatten_cons,ih];rfl
theorem Zym {P:Program} {ρ:Ren} (L:Lays.n146 P ρ) (hi9:(P.info? (ρ.t 9)).map (fun i=>(i.zero,i.size,i.bytes))=some (some (.string ByteArray.empty),1,16)) {ψ:CM} {h:Heap} (hψ:CLe ψ (hcell h)) {s sep:ByteArray}
  (hs:s.size<4294967281) (h1:1≤sep.size) (hm:IntH (ρ.g 1) h):
  CallsH P (ρ.f 146) #[.string s,.string sep] h (fun v h'=>∃ w0:Value,v=w0∧S ψ h h' [.it (El.ow El.str) [w0] (splitB sep 0 (countB s sep) s)]):=by
 intro w e
 subst e
 obtain ⟨m,hm⟩:=hm
 refine (Any.strings_Split L hi9 s sep m w hs hm h1).mono ?_
 rintro _ w' ⟨rfl,rfl⟩
 have hl:=splitB_all sep h1 0 _ s rfl
 generalize splitB sep 0 (countB s sep) s=xs at hl ⊢
 refine ⟨_,rfl,⟨rfl,rfl,rfl,fun h=>h.elim⟩,_,rfl,?_⟩
 obtain ⟨φ,M,st,r⟩:=(S.start hψ:S ψ w.heap w.heap [])
 have st2:=st.new (xs.map Value.string) (ρ.t 9)
 refine ⟨φ,_,st2,[(w.heap.size,.cs (xs.map Value.string))],M,rfl,?_,r⟩
 refine ⟨_,rfl,.inr ⟨w.heap.size,countB s sep+1,[],xs.map fun x=>[.string x],[],[],?_,by omega,by rw [hl];simp,?_,Zo9 xs⟩⟩
 ·rw [hl];rfl
 ·rw [Zsq];simp
theorem cut_H {P:Program} {ρ:Ren} (L:Lays.n145 P ρ) {ψ:CM} {h:Heap} (hψ:CLe ψ (hcell h)) {s sep:ByteArray}
  (hs:s.size<4294967281) (hm:IntH (ρ.g 1) h):
  CallsH P (ρ.f 145) #[.string s,.string sep] h (fun v h'=>v=.tuple #[.string (cut3 s sep).1,.string (cut3 s sep).2.1,.bool (cut3 s sep).2.2]∧S ψ h h' []):=by
 intro w e
 subst e
 obtain ⟨m,hm⟩:=hm
 refine (Any.strings_Cut L s sep m w hs hm).mono ?_
 rintro _ w' ⟨rfl,n,rfl⟩
 exact ⟨_,rfl,⟨rfl,rfl,rfl,fun h=>h.elim⟩,rfl,S.start hψ⟩
theorem ZxI {P:Program} {ρ:Ren} (L:LaysC.n174 P ρ) {ψ:CM} {h:Heap} (hψ:CLe ψ (hcell h)) {s:ByteArray} (hs:s.size≤1000) (h15:ErrH (ρ.g 15) h) (h16:ErrH (ρ.g 16) h):
  CallsH P (ρ.f 174) #[.string s,.int .i64 10,.int .i64 64] h (fun v h'=>(∃ (n:Int) (e:Value),v=.tuple #[.int .i64 n,e]∧((e=.nilIface∧parseIntB 64 s.data.toList=.ok n)∨((∃ t x,e=.iface t x)∧∀ m,parseIntB 64 s.data.toList≠.ok m)))∧S ψ h h' []):=by
 intro w e
 subst e
 obtain ⟨e15,c15,k15⟩:=h15
 obtain ⟨e16,c16,k16⟩:=h16
 cases hp:parseIntB 64 s.data.toList with
 | ok n=>
  refine (Any.strconv_ParseInt_10_at64_ok L s (by omega) n hp w).mono ?_
  rintro _ w' ⟨rfl,hw⟩
  refine ⟨_,rfl,⟨?_,?_,?_,fun h=>h.elim⟩,⟨n,.nilIface,rfl,.inl ⟨rfl,rfl⟩⟩,S.startX hψ ?_⟩
  ·rcases hw with rfl|⟨t,rfl⟩<;>rfl
  ·rcases hw with rfl|⟨t,rfl⟩<;>rfl
  ·rcases hw with rfl|⟨t,rfl⟩<;>rfl
  ·rcases hw with rfl|⟨t,rfl⟩
   ·exact ExtH.refl _
   ·refine ⟨?_,fun b hb=>bytesWorld_at_old w _ t b hb⟩
    simp [bytesWorld,World.freeze,World.alloc,World.drew,-World.alloc_eq,-World.drew_eq]
 | range=>
  refine (Any.strconv_ParseInt_10_at64_range L s (by omega) hp e16 w c16 k16).mono ?_
  rintro _ w' ⟨N,rfl,_,_,hb⟩
  exact ⟨_,rfl,⟨hb.tape,hb.os,hb.output,fun h=>h.elim⟩,⟨_,_,rfl,.inr ⟨⟨_,_,rfl⟩,fun m h=>by cases h⟩⟩,S.startX hψ ⟨hb.size,hb.block⟩⟩
 | _=>
  refine (Any.strconv_ParseInt_10_at64_syntax L s (by omega) hp e15 w c15 k15).mono ?_
  rintro _ w' ⟨N,rfl,_,_,hb⟩
  exact ⟨_,rfl,⟨hb.tape,hb.os,hb.output,fun h=>h.elim⟩,⟨_,_,rfl,.inr ⟨⟨_,_,rfl⟩,fun m h=>by cases h⟩⟩,S.startX hψ ⟨hb.size,hb.block⟩⟩
theorem IntH.of {P:Program} {W:World} {g:Nat} {t:TypeId} {zero:Array Value} (h:W.ShapedOpen P) (hg:g<P.globals.size) (h0:((begin P (fun _ _=>0) default).world.heap[g]?).bind Obj.row?=some (zero,t)) (hz:zero.size=1)
  (hb:P.buildable t=true) (hc:P.cellTypes P.depth t=some [t]) (hu:P.underlying t=some (.int .i64)):IntH g W.heap:=cell_of_shapedOpen_int h hg h0 hz hb hc hu
theorem ErrH.of {P:Program} {W:World} {n nm:String} {d:DataW Unit} {r:List (String×DataW Unit)} {g:Nat} {ti:TypeId} {ms:Array (String×TypeId)} (h:laidMet P ((n,.iface nm d)::r) W)
  (hg:P.globalNamed n=some g) (ht:(P.globals[g]?).map (·.type)=some ti) (hi:P.underlying ti=some (.interface ms)):ErrH g W.heap:=by
 obtain ⟨ps,⟨g0,t0,cs0,f0,p0,q0,hg0,ht0,hv0,hd0,_,e0⟩,_,hrows⟩:=h
 obtain rfl:=Option.some.inj (hg.symm.trans hg0)
 obtain rfl:=Option.some.inj (ht.symm.trans ht0)
 obtain ⟨l0⟩:=cs0
 obtain ⟨f1,u,v,rfl,hn,h1⟩:=iface_of_trod hi hd0
 have hc:W.cell? ⟨g,0,none⟩=some (.iface u v):=by simpa using World.var?_cell hg hv0 0
 exact ⟨_,hc,.inr ⟨u,v,rfl⟩⟩
theorem ZzK {H:Type} {enc:TypeId×Value→H} {a:Assume} {C:Checked} {os:Os} {f:FuncId} {fn:Func} {s:ChangeSpec} {conds:List PathCond} {apart fresh handsOn again:Bool} {X:World→Array Value→Prop}
  (hX:∀ (w w':World) (args:Array Value),w.heap=w'.heap→X w args→X w' args)
  (own:ownKnob C.prog.godebug=none) (started:os.Started) (noInit:C.prog.inits.idxOf? f=none) (hfn:C.prog.funcs[f]?=some fn)
  (witness:∃ (w:World) (tape:Tape) (i:Input),w.os=os∧(w.forCall tape i).Shaped C.prog∧i.vars=[]∧Input.okWide C.prog (w.forCall tape i) .any w.heap.size f i ∧
   ((s.pre enc C.prog fn conds apart (w.forCall tape i).memory i.args∧X (w.forCall tape i).memory i.args)∧sizedMet enc C.prog fn (OpenSpec.ofChange s) apart (w.forCall tape i).memory i.args)∧a.holds C.prog (lone (Frame.enter C.prog f i.args .normal) [] (w.forCall tape i)))
  (contract:∀ (W:World) (base:Nat) (args:Array Value) (ds gs:List (DataW H)) (before:List MemPlace),
   (∀ (j:Nat) t v,fn.params[j]?=some t→args[j]?=some v→Value.okWide C.prog W .any base t v) →
   DataW.Whole enc C.prog fn.params.toList s.vars apart W args.toList ds gs before →
   conds.all (PathCond.test C.prog ⟨fn.params.toList,ds,s.plain.varTypes C.prog,gs⟩)=true →
   (DataW.weightsEach C.prog (fn.params.toList++s.plain.varTypes C.prog) (ds++gs)).all (·≤reachBytes)=true→X W args→W.ShapedOpen C.prog →
   a.holds C.prog (lone (Frame.enter C.prog f args .normal) [] W) →
   Calls C.prog f args W fun e W'=>∃ v,e=.returned v∧s.post enc C.prog fn apart fresh handsOn again W args v W'):
  ReturnsInHanded a C os f .any (fun w args=>(s.pre enc C.prog fn conds apart w args∧X w args)∧sizedMet enc C.prog fn (OpenSpec.ofChange s) apart w args) (s.post enc C.prog fn apart fresh handsOn again):=by
 refine returnsInHanded_of_calls own started noInit witness ?_
 intro w tape i _ hsh _ hok hpre hholds
 obtain ⟨_,_,_,fn',hfn',_,_,_,_,hval⟩:=hok
 obtain rfl:fn'=fn:=Option.some.inj (hfn'.symm.trans hfn)
 obtain ⟨⟨⟨ds,gs,before,hw,hc⟩,hx⟩,hz⟩:=hpre
 have hw':=DataW.Whole.of_heap (w':=w.forCall tape i) (by rfl) hw
 refine (contract (w.forCall tape i) w.heap.size i.args ds gs before hval hw' hc (hz.weights hw) (hX _ _ _ (by rfl) hx) hsh hholds).mono fun e W' ⟨v,he,hp⟩=>?_
 subst he
 exact ChangeSpec.post_blind hp
theorem ZrX {K:Bool→Prop} (h:K false):vNilI true .nilIface K:=h
theorem Zwl {t:TypeId} {x:Value} {K:Bool→Prop} (h:K true):vNilI true (.iface t x) K:=h
end Go.Vc
