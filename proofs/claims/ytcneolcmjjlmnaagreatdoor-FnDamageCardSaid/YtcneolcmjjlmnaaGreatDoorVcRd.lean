import Derived.Test.YtcneolcmjjlmnaaGreatDoorVcTxt
import Derived.Shelf.Strings.Split
import Derived.Shelf.Strings.Cut
import Derived.Shelf.Strconv.ParseIntPublic10
import Derived.Shelf.Vars
import Derived.LaidLaws
import Derived.Handed
open Option renaming some->Jg
open Go renaming Value->Jl
namespace Go.Vc
set_option linter.unusedVariables false
set_option linter.unusedSimpArgs false
open Go Go.Proofs Go.Lib Go.Shelf Go.RowKit
theorem ZAo {φ:CM}:∀(xs:List Jd),AllR φ El.str [] (xs.map λx=>[.string x]) xs
 | []=>rfl
 | _::xs=>⟨[],[],rfl,⟨rfl,rfl⟩,ZAo xs⟩
theorem ZJF (xs:List Jd):(xs.map λx=>[Value.string x]).flatten=xs.map Value.string:=by
 induction xs with
 | nil=>rfl
 | cons _ _ e=>simp only [List.map_cons,List.flatten_cons,e];rfl
theorem ZNz {P:Program} {ρ:Ren} (L:Lays.n146 P ρ) (a:(P.info? (ρ.t 9)).map (λi=>(i.zero,i.size,i.bytes))=Jg (Jg (.string ByteArray.empty),1,16)) {k:CM} {h:Heap} (f:CLe k (hcell h)) {s j:Jd}
  (hs:s.size<4294967281) (h1:1<=j.size) (l:IntH (ρ.g 1) h):
  CallsH P (ρ.f 146) #[.string s,.string j] h (λv u=>∃w0:Jl,v=w0/\S k h u [.it (El.ow El.str) [w0] (splitB j 0 (countB s j) s)]):=by
 intro w e;subst e;obtain ⟨m,l⟩:=l;refine (Any.strings_Split L a s j m w hs l h1).mono ?_;rintro _ w' ⟨rfl,rfl⟩;have o:=splitB_all j h1 0 _ s rfl;generalize splitB j 0 (countB s j) s=xs at o ⊢;refine ⟨_,rfl,⟨rfl,rfl,rfl,λh=>h.elim⟩,_,rfl,?_⟩;obtain ⟨φ,M,st,r⟩:=(S.start f:S k w.heap w.heap [])
 have g:=st.new (xs.map Value.string) (ρ.t 9);refine ⟨φ,_,g,[(w.heap.size,.cs (xs.map Value.string))],M,rfl,?_,r⟩;refine ⟨_,rfl,.inr ⟨w.heap.size,countB s j+1,[],xs.map λx=>[.string x],[],[],?_,by omega,by rw [o];simp,?_,ZAo xs⟩⟩
 .rw [o];rfl
 .rw [ZJF];simp
theorem cut_H {P:Program} {ρ:Ren} (L:Lays.n145 P ρ) {k:CM} {h:Heap} (a:CLe k (hcell h)) {s g:Jd}
  (hs:s.size<4294967281) (j:IntH (ρ.g 1) h):
  CallsH P (ρ.f 145) #[.string s,.string g] h (λv l=>v=.tuple #[.string (cut3 s g).1,.string (cut3 s g).2.1,.bool (cut3 s g).2.2]/\S k h l []):=by
 intro w e;subst e;obtain ⟨m,j⟩:=j;refine (Any.strings_Cut L s g m w hs j).mono ?_;rintro _ w' ⟨rfl,n,rfl⟩;exact ⟨_,rfl,⟨rfl,rfl,rfl,λh=>h.elim⟩,rfl,S.start a⟩
theorem ZKR {P:Program} {ρ:Ren} (L:LaysC.n174 P ρ) {ψ:CM} {h:Heap} (f:CLe ψ (hcell h)) {s:Jd} (hs:s.size<=1000) (g:ErrH (ρ.g 15) h) (i:ErrH (ρ.g 16) h):
  CallsH P (ρ.f 174) #[.string s,.int .i64 10,.int .i64 64] h (λv h'=>(∃(n:Int) (e:Jl),v=.tuple #[.int .i64 n,e]/\((e=.nilIface/\parseIntB 64 s.data.toList=.ok n)\/((∃t x,e=.iface t x)/\∀m,parseIntB 64 s.data.toList≠.ok m)))/\S ψ h h' []):=by
 intro w e;subst e;obtain ⟨j,k,k15⟩:=g;obtain ⟨l,o,k16⟩:=i;cases hp:parseIntB 64 s.data.toList with
 | ok n=>
  refine (Any.strconv_ParseInt_10_at64_ok L s Z n hp w).mono ?_;rintro _ w' ⟨rfl,u⟩;refine ⟨_,rfl,⟨?_,?_,?_,λh=>h.elim⟩,⟨n,.nilIface,rfl,.inl ⟨rfl,rfl⟩⟩,S.startX f ?_⟩
  .rcases u with rfl|⟨t,rfl⟩<;>rfl
  .rcases u with rfl|⟨t,rfl⟩<;>rfl
  .rcases u with rfl|⟨t,rfl⟩<;>rfl
  .rcases u with rfl|⟨t,rfl⟩
   .exact eX _
   .refine ⟨?_,λb a=>bytesWorld_at_old w _ t b a⟩;simp [bytesWorld,World.freeze,World.alloc,World.drew,-World.alloc_eq,-World.drew_eq]
 | range=>
  refine (Any.strconv_ParseInt_10_at64_range L s Z hp l w o k16).mono ?_;rintro _ w' ⟨N,rfl,_,_,a⟩;exact ⟨_,rfl,⟨a.tape,a.os,a.output,λh=>h.elim⟩,⟨_,_,rfl,.inr ⟨⟨_,_,rfl⟩,λm h=>by cases h⟩⟩,S.startX f ⟨a.size,a.block⟩⟩
 | _=>
  refine (Any.strconv_ParseInt_10_at64_syntax L s Z hp j w k k15).mono ?_;rintro _ w' ⟨N,rfl,_,_,a⟩;exact ⟨_,rfl,⟨a.tape,a.os,a.output,λh=>h.elim⟩,⟨_,_,rfl,.inr ⟨⟨_,_,rfl⟩,λm h=>by cases h⟩⟩,S.startX f ⟨a.size,a.block⟩⟩
theorem IntH.of {P:Program} {W:World} {g:Nat} {t:TypeId} {zero:Array Jl} (h:W.ShapedOpen P) (k:g<P.globals.size) (a:((begin P (λ_ _=>0) default).world.heap[g]?).bind Obj.row?=Jg (zero,t)) (hz:zero.size=1)
  (e:P.buildable t=true) (f:P.cellTypes P.depth t=Jg [t]) (j:P.underlying t=Jg (.int .i64)):IntH g W.heap:=cell_of_shapedOpen_int h k a hz e f j
theorem ErrH.of {P:Program} {W:World} {n nm:String} {d:DataW Unit} {r:List (String×DataW Unit)} {g:Nat} {ti:TypeId} {ms:Array (String×TypeId)} (h:laidMet P ((n,.iface nm d)::r) W)
  (hg:P.globalNamed n=Jg g) (ht:(P.globals[g]?).map (·.type)=Jg ti) (hi:P.underlying ti=Jg (.interface ms)):ErrH g W.heap:=by
 obtain ⟨ps,⟨l,o,a,s,w,x,e,f,i,j,_,y⟩,_,a3⟩:=h;obtain rfl:=Option.some.inj (hg.symm.trans e);obtain rfl:=Option.some.inj (ht.symm.trans f);obtain ⟨l0⟩:=a;obtain ⟨f1,u,v,rfl,hn,h1⟩:=iface_of_trod hi j;have k:W.cell? ⟨g,0,none⟩=Jg (.iface u v):=by simpa using World.var?_cell hg i 0
 exact ⟨_,k,.inr ⟨u,v,rfl⟩⟩
theorem ZGE {H:Type} {enc:TypeId×Jl->H} {a:Assume} {C:Checked} {os:Os} {f:FuncId} {fn:Func} {s:ChangeSpec} {a2:List PathCond} {o a5 x a4:Bool} {X:World->Array Jl->Prop}
  (hX:∀(w w':World) (k:Array Jl),w.heap=w'.heap->X w k->X w' k)
  (own:ownKnob C.prog.godebug=none) (a6:os.Started) (a8:C.prog.inits.idxOf? f=none) (aj:C.prog.funcs[f]?=Jg fn)
  (a7:∃(w:World) (l:Tape) (i:Input),w.os=os/\(w.forCall l i).Shaped C.prog/\i.vars=[]/\Input.okWide C.prog (w.forCall l i) .any w.heap.size f i /\
   ((s.pre enc C.prog fn a2 o (w.forCall l i).memory i.args/\X (w.forCall l i).memory i.args)/\sizedMet enc C.prog fn (OpenSpec.ofChange s) o (w.forCall l i).memory i.args)/\a.holds C.prog (lone (Frame.enter C.prog f i.args .normal) [] (w.forCall l i)))
  (a3:∀(W:World) (ad:Nat) (k:Array Jl) (ds gs:List (DataW H)) (u:List MemPlace),
   (∀(j:Nat) t v,fn.params[j]?=Jg t->k[j]?=Jg v->Value.okWide C.prog W .any ad t v) ->
   DataW.Whole enc C.prog fn.params.toList s.vars o W k.toList ds gs u ->
   a2.all (PathCond.test C.prog ⟨fn.params.toList,ds,s.plain.varTypes C.prog,gs⟩)=true ->
   (DataW.weightsEach C.prog (fn.params.toList++s.plain.varTypes C.prog) (ds++gs)).all (·<=reachBytes)=true->X W k->W.ShapedOpen C.prog ->
   a.holds C.prog (lone (Frame.enter C.prog f k .normal) [] W) ->
   Calls C.prog f k W λe W'=>∃v,e=.returned v/\s.post enc C.prog fn o a5 x a4 W k v W'):
  ReturnsInHanded a C os f .any (λw k=>(s.pre enc C.prog fn a2 o w k/\X w k)/\sizedMet enc C.prog fn (OpenSpec.ofChange s) o w k) (s.post enc C.prog fn o a5 x a4):=by
 refine returnsInHanded_of_calls own a6 a8 a7 ?_;intro w l i _ am _ ah ae aa;obtain ⟨_,_,_,ag,ac,_,_,_,_,af⟩:=ah;obtain rfl:ag=fn:=Option.some.inj (ac.symm.trans aj);obtain ⟨⟨⟨ds,gs,u,hw,g⟩,h⟩,hz⟩:=ae;have ak:=DataW.Whole.of_heap (w':=w.forCall l i) (by rfl) hw;refine (a3 (w.forCall l i) w.heap.size i.args ds gs u af ak g (hz.weights hw) (hX _ _ _ (by rfl) h) am aa).mono λe W' ⟨v,he,hp⟩=>?_;subst he;exact ChangeSpec.post_blind hp
end Go.Vc
