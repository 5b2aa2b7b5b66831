import Derived.Test.YtghbgeaammnkcaaGreatDoorVcSort
import Derived.Test.YtghbgeaammnkcaaGreatDoorPuTxt
import Derived.Shelf.Strconv.Itoa4
import Derived.Shelf.Strings.OnBuilder
import Derived.Lib.LaidTab
namespace Go.Vc
set_option linter.unusedVariables false
set_option linter.unusedSimpArgs false
open Go Go.Proofs Go.Lib Go.Shelf Go.RowKit
def TabH (g:Nat) (h:Heap):Prop:=∃ t f,h[g]?=some (.cells (pow10Tab.map fun z=>Value.int .u64 z).toArray t f)
theorem TabH.ext {g:Nat} {h h':Heap} (ht:TabH g h) (a:ExtH h h'):TabH g h':=by
 obtain ⟨t,f,e⟩:=ht
 have hg:g<h.size:=by
  rcases Nat.lt_or_ge g h.size with k|k
  ·exact k
  ·rw [Array.getElem?_eq_none k] at e;cases e
 exact ⟨t,f,(a.2 g hg).trans e⟩
theorem TabH.tab {P:Program} {nm:String} {g:Nat} {w:World} (hg:P.globalNamed nm=some g) (ht:TabH g w.heap):TabIs P w nm .u64 pow10Tab:=by
 obtain ⟨t,f,e⟩:=ht
 unfold TabIs World.var?
 rw [hg,Option.bind_some,e]
theorem TabH.of {P:Program} {nm:String} {g:Nat} {w:World} (hg:P.globalNamed nm=some g) (ht:TabIs P w nm .u64 pow10Tab):TabH g w.heap:=by
 unfold TabIs World.var? at ht
 rw [hg,Option.bind_some] at ht
 cases e:w.heap[g]? with
 | none=>rw [e] at ht;cases ht
 | some o=>
  rw [e] at ht
  cases o with
  | cells cs t f=>
   have ht:some cs=_:=ht
   rw [Option.some.inj ht] at e
   exact ⟨t,f,e⟩
  | _=>cases ht
def IntH (g:Nat) (h:Heap):Prop:=∃ m,hcell h ⟨g,0,none⟩=some (.int .i64 m)
def ErrH (g:Nat) (h:Heap):Prop:=∃ ev,hcell h ⟨g,0,none⟩=some ev∧(ev=.nilIface∨∃ te pe,ev=.iface te pe)
def LayH (t:Nat) (is es:List Nat) (h:Heap):Prop:=TabH t h∧(∀ g∈is,IntH g h)∧∀ g∈es,ErrH g h
theorem LayH.ext {t:Nat} {is es:List Nat} {h h':Heap} (hl:LayH t is es h) (a:ExtH h h'):LayH t is es h':=
 ⟨hl.1.ext a,fun g hg=>by obtain ⟨m,e⟩:=hl.2.1 g hg;exact ⟨m,ZhV a e⟩,fun g hg=>by obtain ⟨ev,e,k⟩:=hl.2.2 g hg;exact ⟨ev,ZhV a e,k⟩⟩
theorem S.startX {ψ:CM} {h h':Heap} (e:CLe ψ (hcell h)) (a:ExtH h h'):S ψ h h' []:=by
 obtain ⟨φ,L,s,r⟩:=(sZ e:S ψ h h [])
 exact ⟨φ,L,⟨a,fun b c hm=>(s.row b c hm).ext a,s.low,s.nod,s.fle.trans (CLe.ext a),s.dis,s.bas,s.old⟩,r⟩
theorem fmt_H {P:Program} {f:FuncId} {ψ:CM} {h:Heap} (a:CLe ψ (hcell h)) {n:Int}
  (c:∀ w:World,w.heap=h→Calls P f #[.int .i64 n,.int .i64 10] w fun e w'=>e=.returned (.string ⟨(itoa n).toArray⟩)∧∃ k os,w'=Sort.grow (w.drewN k) os):
  CallsH P f #[.int .i64 n,.int .i64 10] h (fun v h'=>v=.string (itoaB n)∧S ψ h h' []):=by
 intro w hw
 refine (c w hw).mono ?_
 rintro _ w' ⟨rfl,k,os,rfl⟩
 refine ⟨_,rfl,⟨rfl,rfl,rfl,fun _=>Nat.le_add_right _ _⟩,rfl,S.startX a ?_⟩
 subst hw
 refine ⟨?_,fun b g=>?_⟩
 ·show w.heap.size≤(w.heap++os).size
  simp
 ·show (w.heap++os)[b]?=_
  rw [Array.getElem?_append_left g]
theorem ZBH {P:Program} {ρ:Ren} (L:Lays.n156 P ρ) (X:Builder.Extra P ρ) {ψ:CM} {h:Heap} (g:CLe ψ (hcell h)) {i:Value} {xs:List ByteArray} {s:ByteArray} (l:SlC (hcell h) El.str i xs)
  (hN:xs.length≤140737488355328) (hlen:(join (xs.map (·.data.toList)) s.data.toList).length≤140737488355328):
  CallsH P (ρ.f 156) #[i,.string s] h (fun v h'=>v=.string (joinB xs s)∧S ψ h h' []):=by
 intro w hw
 subst hw
 have fin:∀ e w',e=Ending.returned (.string ⟨(join (xs.map (·.data.toList)) s.data.toList).toArray⟩)∧Below w.heap.size w w'→∃ v,e=.returned v∧RestQ False w w'∧v=.string (joinB xs s)∧S ψ w.heap w'.heap []:=by
  rintro _ w' ⟨rfl,b⟩
  exact ⟨_,rfl,⟨b.tape,b.os,b.output,False.elim⟩,rfl,S.startX g ⟨b.size,b.block⟩⟩
 rcases l with ⟨rfl,rfl⟩|⟨a,c,rfl,m,hcells⟩
 ·exact (Any.strings_Join_none L X none 0 s w).mono fun e w' ⟨he,hw⟩=>fin e w' ⟨he,hw▸Below.refl _ _⟩
 ·cases xs with
  | nil=>exact (Any.strings_Join_none L X (some a) c s w).mono fun e w' ⟨he,hw⟩=>fin e w' ⟨he,hw▸Below.refl _ _⟩
  | cons x r=>
   have hat:∀ (j:Nat) y,(x::r)[j]?=some y→hcell w.heap (a.add (j*1))=some (.string y):=by
    intro j y hy
    obtain ⟨cs,p,t⟩:=hcells j y hy
    obtain ⟨_,rfl⟩:=t
    exact p 0 _ rfl
   obtain ⟨bk,o,spot⟩:=a
   have f:=hat 0 x rfl
   have hs:spot=none:=by
    cases spot with
    | none=>rfl
    | some z=>
     unfold hcell at f
     simp only [Addr.add,Option.isSome_some,if_true] at f
     split at f<;>cases f
   subst hs
   refine (Any.strings_Join L X bk o c (x::r) s w (fun j y hy=>?_) (ZdQ f) hN m hlen).mono fin
   have k:=hat j y hy
   rw [Nat.mul_one] at k
   have u:w.cell? ((⟨bk,o,none⟩:Addr).add j)=some (.string y):=k
   have e:(⟨bk,o,none⟩:Addr).add j=⟨bk,o+j,none⟩:=by unfold Addr.add;split<;>simp_all
   rwa [e] at u
end Go.Vc
