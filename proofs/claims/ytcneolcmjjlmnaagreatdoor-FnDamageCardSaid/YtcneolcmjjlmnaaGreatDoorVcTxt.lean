import Derived.Test.YtcneolcmjjlmnaaGreatDoorVcSort
import Derived.Test.YtcneolcmjjlmnaaGreatDoorPuTxt
import Derived.Shelf.Strconv.Itoa4
import Derived.Shelf.Strings.OnBuilder
import Derived.Lib.LaidTab
open Option renaming bind_some->Jr,some->Jg
namespace Go.Vc
set_option linter.unusedVariables false
set_option linter.unusedSimpArgs false
open Go Go.Proofs Go.Lib Go.Shelf Go.RowKit
def TabH (g:Nat) (h:Heap):Prop:=∃t f,h[g]?=Jg (.cells (pow10Tab.map λz=>Value.int .u64 z).toArray t f)
theorem TabH.ext {g:Nat} {h j:Heap} (o:TabH g h) (a:ExtH h j):TabH g j:=by
 obtain ⟨t,f,e⟩:=o;have l:g<h.size:=by
  rcases Nat.lt_or_ge g h.size with k|k
  .exact k
  .rw [Array.getElem?_eq_none k] at e;cases e
 exact ⟨t,f,(a.2 g l).trans e⟩
theorem TabH.tab {P:Program} {nm:String} {g:Nat} {w:World} (h:P.globalNamed nm=Jg g) (j:TabH g w.heap):TabIs P w nm .u64 pow10Tab:=by
 obtain ⟨t,f,e⟩:=j;unfold TabIs World.var?;rw [h,Jr,e]
theorem TabH.of {P:Program} {nm:String} {g:Nat} {w:World} (j:P.globalNamed nm=Jg g) (h:TabIs P w nm .u64 pow10Tab):TabH g w.heap:=by
 unfold TabIs World.var? at h;rw [j,Jr] at h;cases e:w.heap[g]? with
 | none=>rw [e] at h;cases h
 | some o=>
  rw [e] at h;cases o with
  | cells cs t f=>
   have h:Jg cs=_:=h;rw [Option.some.inj h] at e;exact ⟨t,f,e⟩
  | _=>cases h
def IntH (g:Nat) (h:Heap):Prop:=∃m,hcell h ⟨g,0,none⟩=Jg (.int .i64 m)
def ErrH (g:Nat) (h:Heap):Prop:=∃ev,hcell h ⟨g,0,none⟩=Jg ev/\(ev=.nilIface\/∃e pe,ev=.iface e pe)
def LayH (t:Nat) (is es:List Nat) (h:Heap):Prop:=TabH t h/\(∀g∈is,IntH g h)/\∀g∈es,ErrH g h
theorem LayH.ext {t:Nat} {is es:List Nat} {h o:Heap} (l:LayH t is es h) (a:ExtH h o):LayH t is es o:=
 ⟨l.1.ext a,λg j=>by obtain ⟨m,e⟩:=l.2.1 g j;exact ⟨m,Zgp a e⟩,λg j=>by obtain ⟨ev,e,k⟩:=l.2.2 g j;exact ⟨ev,Zgp a e,k⟩⟩
theorem S.startX {g:CM} {h j:Heap} (e:CLe g (hcell h)) (a:ExtH h j):S g h j []:=by
 obtain ⟨φ,L,s,r⟩:=(S.start e:S g h h [])
 exact ⟨φ,L,⟨a,λb c k=>(s.row b c k).ext a,s.low,s.nod,s.fle.trans (CLe.ext a),s.dis,s.bas,s.old⟩,r⟩
theorem fmt_H {P:Program} {f:FuncId} {j:CM} {h:Heap} (a:CLe j (hcell h)) {n:Int}
  (g:∀w:World,w.heap=h->Calls P f #[.int .i64 n,.int .i64 10] w λe w'=>e=.returned (.string ⟨(itoa n).toArray⟩)/\∃k os,w'=Sort.grow (w.drewN k) os):
  CallsH P f #[.int .i64 n,.int .i64 10] h (λv o=>v=.string (itoaB n)/\S j h o []):=by
 intro w l;refine (g w l).mono ?_;rintro _ w' ⟨rfl,k,os,rfl⟩;refine ⟨_,rfl,⟨rfl,rfl,rfl,λ_=>Nat.le_add_right _ _⟩,rfl,S.startX a ?_⟩;subst l;refine ⟨?_,λb i=>?_⟩
 .show w.heap.size<=(w.heap++os).size;simp
 .show (w.heap++os)[b]?=_;rw [Array.getElem?_append_left i]
theorem ZGx {P:Program} {ρ:Ren} (L:Lays.n156 P ρ) (X:Builder.Extra P ρ) {ψ:CM} {h:Heap} (i:CLe ψ (hcell h)) {v0:Value} {xs:List Jd} {s:Jd} (k:SlC (hcell h) El.str v0 xs)
  (hN:xs.length<=140737488355328) (a7:(join (xs.map (·.data.toList)) s.data.toList).length<=140737488355328):
  CallsH P (ρ.f 156) #[v0,.string s] h (λv h'=>v=.string (joinB xs s)/\S ψ h h' []):=by
 intro w hw;subst hw;have fin:∀e w',e=Ending.returned (.string ⟨(join (xs.map (·.data.toList)) s.data.toList).toArray⟩)/\Below w.heap.size w w'->∃v,e=.returned v/\RestQ False w w'/\v=.string (joinB xs s)/\S ψ w.heap w'.heap []:=by
  rintro _ w' ⟨rfl,f⟩;exact ⟨_,rfl,⟨f.tape,f.os,f.output,False.elim⟩,rfl,S.startX i ⟨f.size,f.block⟩⟩
 rcases k with ⟨rfl,rfl⟩|⟨a,c,rfl,l,hcells⟩
 .exact (Any.strings_Join_none L X none 0 s w).mono λe w' ⟨he,hw⟩=>fin e w' ⟨he,hw▸Below.refl _ _⟩
 .cases xs with
  | nil=>exact (Any.strings_Join_none L X (Jg a) c s w).mono λe w' ⟨he,hw⟩=>fin e w' ⟨he,hw▸Below.refl _ _⟩
  | cons x r=>
   have a5:∀(j:Nat) y,(x::r)[j]?=Jg y->hcell w.heap (a.add (j*1))=Jg (.string y):=by
    intro j y hy;obtain ⟨cs,u,g2⟩:=hcells j y hy;obtain ⟨_,rfl⟩:=g2;exact u 0 _ rfl
   obtain ⟨bk,o,a2⟩:=a;have g:=a5 0 x rfl;have hs:a2=none:=by
    cases a2 with
    | none=>rfl
    | some z=>
     unfold hcell at g;simp only [Addr.add,Option.isSome_some,if_true] at g;split at g<;>cases g
   subst hs;refine (Any.strings_Join L X bk o c (x::r) s w (λj y hy=>?_) (Zda g) hN l a7).mono fin;have h1:=a5 j y hy;rw [Nat.mul_one] at h1;have h2:w.cell? ((⟨bk,o,none⟩:Addr).add j)=Jg (.string y):=h1;have e:(⟨bk,o,none⟩:Addr).add j=⟨bk,o+j,none⟩:=by unfold Addr.add;split<;>simp_all
   rwa [e] at h2
end Go.Vc
