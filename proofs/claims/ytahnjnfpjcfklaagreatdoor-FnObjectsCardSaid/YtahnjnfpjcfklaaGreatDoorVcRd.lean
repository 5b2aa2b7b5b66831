import Derived.Test.YtahnjnfpjcfklaaGreatDoorVcTxt
import Derived.Shelf.Strings.Split
import Derived.Shelf.Strings.Cut
import Derived.Shelf.Strconv.ParseIntPublic10
import Derived.Shelf.Vars
import Derived.LaidLaws
import Derived.Handed
namespace Go.Vc
set_option linter.unusedVariables false
set_option linter.unusedSimpArgs false
open Go Go.Proofs Go.Lib Go.Shelf Go.RowKit
theorem Zsi {φ:CM}:∀ (xs:List ByteArray),AllR φ El.str [] (xs.map fun x=>[.string x]) xs
 | []=>rfl
 | _::xs=>⟨[],[],rfl,⟨rfl,rfl⟩,Zsi xs⟩
theorem ZzN (xs:List ByteArray):(xs.map fun x=>[Value.string x]).flatten=xs.map Value.string:=by
 induction xs with
 | nil=>rfl
 | cons _ _ a=>simp only [List.map_cons,List.flatten_cons,a];rfl
theorem Zxw {P:Program} {ρ:Ren} (L:Lays.n146 P ρ) (a:(P.info? (ρ.t 9)).map (fun i=>(i.zero,i.size,i.bytes))=some (some (.string ByteArray.empty),1,16)) {l:CM} {h:Heap} (f:CLe l (hcell h)) {s j:ByteArray}
  (hs:s.size<4294967281) (h1:1<=j.size) (o:IntH (ρ.g 1) h):
  CallsH P (ρ.f 146) #[.string s,.string j] h (fun v u=>∃ w0:Value,v=w0/\S l h u [.it (El.ow El.str) [w0] (splitB j 0 (countB s j) s)]):=by
 intro w e;subst e;obtain ⟨m,o⟩:=o;refine (Any.strings_Split L a s j m w hs o h1).mono ?_;rintro _ w' ⟨rfl,rfl⟩;have k:=splitB_all j h1 0 _ s rfl;generalize splitB j 0 (countB s j) s=xs at k ⊢;refine ⟨_,rfl,⟨rfl,rfl,rfl,fun h=>h.elim⟩,_,rfl,?_⟩;obtain ⟨φ,M,st,r⟩:=(S.start f:S l w.heap w.heap [])
 have g:=st.new (xs.map Value.string) (ρ.t 9);refine ⟨φ,_,g,[(w.heap.size,.cs (xs.map Value.string))],M,rfl,?_,r⟩;refine ⟨_,rfl,.inr ⟨w.heap.size,countB s j+1,[],xs.map fun x=>[.string x],[],[],?_,by omega,by rw [k];simp,?_,Zsi xs⟩⟩
 ·rw [k];rfl
 ·rw [ZzN];simp
theorem ZEZ {P:Program} {ρ:Ren} (L:LaysC.n174 P ρ) {ψ:CM} {h:Heap} (f:CLe ψ (hcell h)) {s:ByteArray} (hs:s.size<=1000) (g:ErrH (ρ.g 15) h) (i:ErrH (ρ.g 16) h):
  CallsH P (ρ.f 174) #[.string s,.int .i64 10,.int .i64 64] h (fun v h'=>(∃ (n:Int) (e:Value),v=.tuple #[.int .i64 n,e]/\((e=.nilIface/\parseIntB 64 s.data.toList=.ok n)\/((∃ t x,e=.iface t x)/\∀ m,parseIntB 64 s.data.toList≠.ok m)))/\S ψ h h' []):=by
 intro w e;subst e;obtain ⟨j,k,l⟩:=g;obtain ⟨o,r,u⟩:=i;cases hp:parseIntB 64 s.data.toList with
 | ok n=>
  refine (Any.strconv_ParseInt_10_at64_ok L s ω n hp w).mono ?_;rintro _ w' ⟨rfl,hw⟩;refine ⟨_,rfl,⟨?_,?_,?_,fun h=>h.elim⟩,⟨n,.nilIface,rfl,.inl ⟨rfl,rfl⟩⟩,S.startX f ?_⟩
  ·rcases hw with rfl|⟨t,rfl⟩<;>rfl
  ·rcases hw with rfl|⟨t,rfl⟩<;>rfl
  ·rcases hw with rfl|⟨t,rfl⟩<;>rfl
  ·rcases hw with rfl|⟨t,rfl⟩
   ·exact eX _
   ·refine ⟨?_,fun b a=>bytesWorld_at_old w _ t b a⟩;simp [bytesWorld,World.freeze,World.alloc,World.drew,-World.alloc_eq,-World.drew_eq]
 | range=>
  refine (Any.strconv_ParseInt_10_at64_range L s ω hp o w r u).mono ?_;rintro _ w' ⟨N,rfl,_,_,a⟩;exact ⟨_,rfl,⟨a.tape,a.os,a.output,fun h=>h.elim⟩,⟨_,_,rfl,.inr ⟨⟨_,_,rfl⟩,fun m h=>by cases h⟩⟩,S.startX f ⟨a.size,a.block⟩⟩
 | _=>
  refine (Any.strconv_ParseInt_10_at64_syntax L s ω hp j w k l).mono ?_;rintro _ w' ⟨N,rfl,_,_,a⟩;exact ⟨_,rfl,⟨a.tape,a.os,a.output,fun h=>h.elim⟩,⟨_,_,rfl,.inr ⟨⟨_,_,rfl⟩,fun m h=>by cases h⟩⟩,S.startX f ⟨a.size,a.block⟩⟩
theorem IntH.of {P:Program} {W:World} {g:Nat} {t:TypeId} {zero:Array Value} (h:W.ShapedOpen P) (j:g<P.globals.size) (a:((begin P (fun _ _=>0) default).world.heap[g]?).bind Obj.row?=some (zero,t)) (hz:zero.size=1)
  (e:P.buildable t=true) (f:P.cellTypes P.depth t=some [t]) (k:P.underlying t=some (.int .i64)):IntH g W.heap:=cell_of_shapedOpen_int h j a hz e f k
theorem ErrH.of {P:Program} {W:World} {n nm:String} {d:DataW Unit} {r:List (String×DataW Unit)} {g:Nat} {ti:TypeId} {ms:Array (String×TypeId)} (h:laidMet P ((n,.iface nm d)::r) W)
  (hg:P.globalNamed n=some g) (ht:(P.globals[g]?).map (·.type)=some ti) (hi:P.underlying ti=some (.interface ms)):ErrH g W.heap:=by
 obtain ⟨ps,⟨l,o,a,s,w,x,e,f,i,j,_,y⟩,_,a3⟩:=h;obtain rfl:=Option.some.inj (hg.symm.trans e);obtain rfl:=Option.some.inj (ht.symm.trans f);obtain ⟨l0⟩:=a;obtain ⟨f1,u,v,rfl,hn,h1⟩:=iface_of_trod hi j;have k:W.cell? ⟨g,0,none⟩=some (.iface u v):=by simpa using World.var?_cell hg i 0
 exact ⟨_,k,.inr ⟨u,v,rfl⟩⟩
theorem Zwx {H:Type} {enc:TypeId×Value->H} {a:Assume} {C:Checked} {os:Os} {f:FuncId} {fn:Func} {s:ChangeSpec} {x:List PathCond} {l a4 u a3:Bool} {X:World->Array Value->Prop}
  (hX:∀ (w w':World) (k:Array Value),w.heap=w'.heap->X w k->X w' k)
  (own:ownKnob C.prog.godebug=none) (a5:os.Started) (a9:C.prog.inits.idxOf? f=none) (ag:C.prog.funcs[f]?=some fn)
  (a6:∃ (w:World) (o:Tape) (i:Input),w.os=os/\(w.forCall o i).Shaped C.prog/\i.vars=[]/\Input.okWide C.prog (w.forCall o i) .any w.heap.size f i /\
   ((s.pre enc C.prog fn x l (w.forCall o i).memory i.args/\X (w.forCall o i).memory i.args)/\sizedMet enc C.prog fn (OpenSpec.ofChange s) l (w.forCall o i).memory i.args)/\a.holds C.prog (lone (Frame.enter C.prog f i.args .normal) [] (w.forCall o i)))
  (a2:∀ (W:World) (ad:Nat) (k:Array Value) (ds gs:List (DataW H)) (r:List MemPlace),
   (∀ (j:Nat) t v,fn.params[j]?=some t->k[j]?=some v->Value.okWide C.prog W .any ad t v) ->
   DataW.Whole enc C.prog fn.params.toList s.vars l W k.toList ds gs r ->
   x.all (PathCond.test C.prog ⟨fn.params.toList,ds,s.plain.varTypes C.prog,gs⟩)=true ->
   (DataW.weightsEach C.prog (fn.params.toList++s.plain.varTypes C.prog) (ds++gs)).all (·<=reachBytes)=true->X W k->W.ShapedOpen C.prog ->
   a.holds C.prog (lone (Frame.enter C.prog f k .normal) [] W) ->
   Calls C.prog f k W fun e W'=>∃ v,e=.returned v/\s.post enc C.prog fn l a4 u a3 W k v W'):
  ReturnsInHanded a C os f .any (fun w k=>(s.pre enc C.prog fn x l w k/\X w k)/\sizedMet enc C.prog fn (OpenSpec.ofChange s) l w k) (s.post enc C.prog fn l a4 u a3):=by
 refine returnsInHanded_of_calls own a5 a9 a6 ?_;intro w o i _ ah _ af ab a8;obtain ⟨_,_,_,al,ac,_,_,_,_,ae⟩:=af;obtain rfl:al=fn:=Option.some.inj (ac.symm.trans ag);obtain ⟨⟨⟨ds,gs,r,hw,g⟩,h⟩,hz⟩:=ab;have ak:=DataW.Whole.of_heap (w':=w.forCall o i) (by rfl) hw;refine (a2 (w.forCall o i) w.heap.size i.args ds gs r ae ak g (hz.weights hw) (hX _ _ _ (by rfl) h) ah a8).mono fun e W' ⟨v,he,hp⟩=>?_;subst he;exact ChangeSpec.post_blind hp
end Go.Vc
