import Derived.Test.YtdmledeildfidaaGreatDoorVcTxt
import Derived.Shelf.Strings.Split
import Derived.Shelf.Strings.Cut
import Derived.Shelf.Strconv.ParseIntPublic10
import Derived.Shelf.Vars
import Derived.LaidLaws
import Derived.Handed
namespace Go.Vc
set_option linter.unusedVariables false
set_option linter.unusedSimpArgs false
open Go Go.Proofs Go.Lib Go.Shelf Go.RowKit
theorem Zq3 {a:CM}:∀ (xs:List ByteArray),AllR a El.str [] (xs.map fun x=>[.string x]) xs
 | []=>rfl
 | _::xs=>⟨[],[],rfl,⟨rfl,rfl⟩,Zq3 xs⟩
theorem Zxt (xs:List ByteArray):(xs.map fun x=>[Value.string x]).flatten=xs.map Value.string:=by
 induction xs with
 | nil=>rfl
 | cons _ _ a=>simp only [List.map_cons,List.flatten_cons,a];rfl
theorem ZFw {P:Program} {ρ:Ren} (L:Lays.n146 P ρ) (a:(P.info? (ρ.t 9)).map (fun i=>(i.zero,i.size,i.bytes))=some (some (.string ByteArray.empty),1,16)) {j:CM} {h:Heap} (c:CLe j (hcell h)) {s g:ByteArray}
  (hs:s.size<4294967281) (h1:1<=g.size) (k:IntH (ρ.g 1) h):
  CallsH P (ρ.f 146) #[.string s,.string g] h (fun v u=>∃ w0:Value,v=w0/\S j h u [.it (El.ow El.str) [w0] (splitB g 0 (countB s g) s)]):=by
 intro w e;subst e;obtain ⟨m,k⟩:=k;refine (Any.strings_Split L a s g m w hs k h1).mono ?_;rintro _ w' ⟨rfl,rfl⟩;have l:=splitB_all g h1 0 _ s rfl;generalize splitB g 0 (countB s g) s=xs at l ⊢;refine ⟨_,rfl,⟨rfl,rfl,rfl,fun h=>h.elim⟩,_,rfl,?_⟩;obtain ⟨o,M,st,r⟩:=(sZ c:S j w.heap w.heap [])
 have f:=st.new (xs.map Value.string) (ρ.t 9);refine ⟨o,_,f,[(w.heap.size,.cs (xs.map Value.string))],M,rfl,?_,r⟩;refine ⟨_,rfl,.inr ⟨w.heap.size,countB s g+1,[],xs.map fun x=>[.string x],[],[],?_,by omega,by rw [l];simp,?_,Zq3 xs⟩⟩
 ·rw [l];rfl
 ·rw [Zxt];simp
theorem cut_H {P:Program} {ρ:Ren} (L:Lays.n145 P ρ) {k:CM} {h:Heap} (a:CLe k (hcell h)) {s g:ByteArray}
  (hs:s.size<4294967281) (j:IntH (ρ.g 1) h):
  CallsH P (ρ.f 145) #[.string s,.string g] h (fun v l=>v=.tuple #[.string (cut3 s g).1,.string (cut3 s g).2.1,.bool (cut3 s g).2.2]/\S k h l []):=by
 intro w e;subst e;obtain ⟨m,j⟩:=j;refine (Any.strings_Cut L s g m w hs j).mono ?_;rintro _ w' ⟨rfl,n,rfl⟩;exact ⟨_,rfl,⟨rfl,rfl,rfl,fun h=>h.elim⟩,rfl,sZ a⟩
theorem ZJI {P:Program} {ρ:Ren} (L:LaysC.n174 P ρ) {ψ:CM} {h:Heap} (c:CLe ψ (hcell h)) {s:ByteArray} (hs:s.size<=1000) (f:ErrH (ρ.g 15) h) (g:ErrH (ρ.g 16) h):
  CallsH P (ρ.f 174) #[.string s,.int .i64 10,.int .i64 64] h (fun v h'=>(∃ (n:Int) (e:Value),v=.tuple #[.int .i64 n,e]/\((e=.nilIface/\parseIntB 64 s.data.toList=.ok n)\/((∃ t x,e=.iface t x)/\∀ m,parseIntB 64 s.data.toList≠.ok m)))/\S ψ h h' []):=by
 intro w e;subst e;obtain ⟨i,j,k⟩:=f;obtain ⟨l,o,r⟩:=g;cases hp:parseIntB 64 s.data.toList with
 | ok n=>
  refine (Any.strconv_ParseInt_10_at64_ok L s ω n hp w).mono ?_;rintro _ w' ⟨rfl,u⟩;refine ⟨_,rfl,⟨?_,?_,?_,fun h=>h.elim⟩,⟨n,.nilIface,rfl,.inl ⟨rfl,rfl⟩⟩,S.startX c ?_⟩
  ·rcases u with rfl|⟨t,rfl⟩<;>rfl
  ·rcases u with rfl|⟨t,rfl⟩<;>rfl
  ·rcases u with rfl|⟨t,rfl⟩<;>rfl
  ·rcases u with rfl|⟨t,rfl⟩
   ·exact eX _
   ·refine ⟨?_,fun b a=>bytesWorld_at_old w _ t b a⟩;simp [bytesWorld,World.freeze,World.alloc,World.drew,-World.alloc_eq,-World.drew_eq]
 | range=>
  refine (Any.strconv_ParseInt_10_at64_range L s ω hp l w o r).mono ?_;rintro _ w' ⟨N,rfl,_,_,a⟩;exact ⟨_,rfl,⟨a.tape,a.os,a.output,fun h=>h.elim⟩,⟨_,_,rfl,.inr ⟨⟨_,_,rfl⟩,fun m h=>by cases h⟩⟩,S.startX c ⟨a.size,a.block⟩⟩
 | _=>
  refine (Any.strconv_ParseInt_10_at64_syntax L s ω hp i w j k).mono ?_;rintro _ w' ⟨N,rfl,_,_,a⟩;exact ⟨_,rfl,⟨a.tape,a.os,a.output,fun h=>h.elim⟩,⟨_,_,rfl,.inr ⟨⟨_,_,rfl⟩,fun m h=>by cases h⟩⟩,S.startX c ⟨a.size,a.block⟩⟩
theorem IntH.of {P:Program} {W:World} {g:Nat} {t:TypeId} {zero:Array Value} (h:W.ShapedOpen P) (j:g<P.globals.size) (a:((begin P (fun _ _=>0) default).world.heap[g]?).bind Obj.row?=some (zero,t)) (hz:zero.size=1)
  (c:P.buildable t=true) (e:P.cellTypes P.depth t=some [t]) (k:P.underlying t=some (.int .i64)):IntH g W.heap:=cell_of_shapedOpen_int h j a hz c e k
theorem ErrH.of {P:Program} {W:World} {n nm:String} {d:DataW Unit} {r:List (String×DataW Unit)} {g:Nat} {ti:TypeId} {ms:Array (String×TypeId)} (h:laidMet P ((n,.iface nm d)::r) W)
  (hg:P.globalNamed n=some g) (ht:(P.globals[g]?).map (·.type)=some ti) (hi:P.underlying ti=some (.interface ms)):ErrH g W.heap:=by
 obtain ⟨ps,⟨k,l,a,o,s,w,c,e,f,i,_,x⟩,_,a1⟩:=h;obtain rfl:=Option.some.inj (hg.symm.trans c);obtain rfl:=Option.some.inj (ht.symm.trans e);obtain ⟨l0⟩:=a;obtain ⟨y,u,v,rfl,hn,h1⟩:=iface_of_trod hi i;have j:W.cell? ⟨g,0,none⟩=some (.iface u v):=by simpa using World.var?_cell hg f 0
 exact ⟨_,j,.inr ⟨u,v,rfl⟩⟩
theorem ZI4 {H:Type} {enc:TypeId×Value->H} {a:Assume} {C:Checked} {os:Os} {f:FuncId} {fn:Func} {s:ChangeSpec} {u:List PathCond} {k a1 r a0:Bool} {X:World->Array Value->Prop}
  (hX:∀ (w w':World) (h:Array Value),w.heap=w'.heap->X w h->X w' h)
  (own:ownKnob C.prog.godebug=none) (a2:os.Started) (a4:C.prog.inits.idxOf? f=none) (af:C.prog.funcs[f]?=some fn)
  (a3:∃ (w:World) (l:Tape) (i:Input),w.os=os/\(w.forCall l i).Shaped C.prog/\i.vars=[]/\Input.okWide C.prog (w.forCall l i) .any w.heap.size f i /\
   ((s.pre enc C.prog fn u k (w.forCall l i).memory i.args/\X (w.forCall l i).memory i.args)/\sizedMet enc C.prog fn (OpenSpec.ofChange s) k (w.forCall l i).memory i.args)/\a.holds C.prog (lone (Frame.enter C.prog f i.args .normal) [] (w.forCall l i)))
  (x:∀ (W:World) (ab:Nat) (h:Array Value) (ds gs:List (DataW H)) (o:List MemPlace),
   (∀ (j:Nat) t v,fn.params[j]?=some t->h[j]?=some v->Value.okWide C.prog W .any ab t v) ->
   DataW.Whole enc C.prog fn.params.toList s.vars k W h.toList ds gs o ->
   u.all (PathCond.test C.prog ⟨fn.params.toList,ds,s.plain.varTypes C.prog,gs⟩)=true ->
   (DataW.weightsEach C.prog (fn.params.toList++s.plain.varTypes C.prog) (ds++gs)).all (·<=reachBytes)=true->X W h->W.ShapedOpen C.prog ->
   a.holds C.prog (lone (Frame.enter C.prog f h .normal) [] W) ->
   Calls C.prog f h W fun e W'=>∃ v,e=.returned v/\s.post enc C.prog fn k a1 r a0 W h v W'):
  ReturnsInHanded a C os f .any (fun w h=>(s.pre enc C.prog fn u k w h/\X w h)/\sizedMet enc C.prog fn (OpenSpec.ofChange s) k w h) (s.post enc C.prog fn k a1 r a0):=by
 refine returnsInHanded_of_calls own a2 a4 a3 ?_;intro w l i _ ai _ ad a9 a6;obtain ⟨_,_,_,ag,a8,_,_,_,_,aa⟩:=ad;obtain rfl:ag=fn:=Option.some.inj (a8.symm.trans af);obtain ⟨⟨⟨ds,gs,o,hw,c⟩,g⟩,hz⟩:=a9;have ae:=DataW.Whole.of_heap (w':=w.forCall l i) (by rfl) hw;refine (x (w.forCall l i) w.heap.size i.args ds gs o aa ae c (hz.weights hw) (hX _ _ _ (by rfl) g) ai a6).mono fun e W' ⟨v,he,hp⟩=>?_;subst he;exact ChangeSpec.post_blind hp
end Go.Vc
