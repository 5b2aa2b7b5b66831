import Derived.Test.YtepnljbkgjbbmaaGreatDoorVcSoundB
import Derived.MapKept
import Derived.Lib.ConvBytes
namespace Go.Vc
set_option linter.unusedVariables false
set_option linter.unusedSimpArgs false
open Go
theorem ZoE {P:Program} {t:TypeId} {k e:Nat} (h:tdOf P t=.map k e):P.underlying t=some (.map k e):=by
 unfold tdOf at h;split at h<;>first|(simp at h;obtain ⟨rfl,rfl⟩:=h;assumption)|simp at h
def KD (d:TD) (D:TypeDesc):Prop:=(∃ k,d=.int k/\D=.int k)\/(d=.str/\D=.string)
theorem kd_of {P:Program} {t:TypeId} {d:TD} (h:tdOf P t=d) (a:isKd d=true):∃ D,P.underlying t=some D/\KD d D:=by
 cases d with
 | int k=>exact ⟨_,Zfq h,.inl ⟨k,rfl,rfl⟩⟩
 | str=>exact ⟨_,ZcC h,.inr ⟨rfl,rfl⟩⟩
 | _=>cases a
theorem Zr3 {d:TD} {D:TypeDesc} (h:KD d D) (x y:Value):kEq d x y=Instr.sameNow D x y:=by
 rcases h with ⟨k,rfl,rfl⟩|⟨rfl,rfl⟩<;>cases x<;>cases y<;>rfl
theorem Zu3 {d:TD} {D:TypeDesc} (h:KD d D) {x:Value} (a:kOk d x=true):MapKept.IsKey D x:=by
 rcases h with ⟨k,rfl,rfl⟩|⟨rfl,rfl⟩
 ·cases x<;>simp [kOk] at a
  have:=ZmW.1 a
  subst this
  simp [MapKept.IsKey]
 ·cases x<;>simp [kOk] at a
  simp [MapKept.IsKey]
def pe (e:MapEntry):Value×Value:=(e.key,e.val)
theorem Znf {d:TD} {D:TypeDesc} (h:KD d D) (k:Value):∀ (l:List MapEntry) (i:Nat),mGet d k (l.map pe)=some none ->
  Instr.findNow D k l i=some none/\∀ v,mSet d k v (l.map pe)=l.map pe++[(k,v)]
 | [],_,_=>⟨rfl,fun _=>rfl⟩
 | e::l,i,hm=>by
  simp only [List.map_cons,pe,mGet] at hm
  cases a:kEq d k e.key with
  | none=>rw [a] at hm;cases hm
  | some b=>
   cases b with
   | true=>rw [a] at hm;cases hm
   | false=>
    rw [a] at hm
    obtain ⟨h1,c⟩:=Znf h k l (i+1) hm
    refine ⟨?_,fun v=>?_⟩
    ·rw [Zr3 h] at a
     simp only [Instr.findNow,a];exact h1
    ·simp only [List.map_cons,pe,mSet,a,List.cons_append]
     exact congrArg _ (c v)
theorem Znq {d:TD} {D:TypeDesc} (h:KD d D) (k u:Value):∀ (l:List MapEntry) (i:Nat),mGet d k (l.map pe)=some (some u) ->
  ∃ j e,Instr.findNow D k l i=some (some (i+j,u))/\l[j]?=some e/\Instr.sameNow D k e.key=some true/\∀ v,mSet d k v (l.map pe)=(l.map pe).set j (k,v)
 | [],_,hm=>by cases hm
 | e::l,i,hm=>by
  simp only [List.map_cons,pe,mGet] at hm
  cases a:kEq d k e.key with
  | none=>rw [a] at hm;cases hm
  | some b=>
   have o:=a
   rw [Zr3 h] at o
   cases b with
   | true=>
    rw [a] at hm
    simp only [Option.some.injEq] at hm
    subst hm
    exact ⟨0,e,by simp only [Instr.findNow,o];rfl,rfl,o,fun v=>by simp only [List.map_cons,pe,mSet,a];rfl⟩
   | false=>
    rw [a] at hm
    obtain ⟨j,r,h1,c,f,g⟩:=Znq h k u l (i+1) hm
    refine ⟨j+1,r,?_,by simpa using c,f,fun v=>?_⟩
    ·simp only [Instr.findNow,o,h1]
     rw [show i+1+j=i+(j+1) by omega]
    ·simp only [List.map_cons,pe,mSet,a,List.set_cons_succ]
     exact congrArg _ (g v)
theorem ZpX {h:Heap} {r:Nat} {m:List (Value×Value)} (g:hmap h r=some m):∃ es a,h[r]?=some (.map es a)/\m=es.toList.map pe:=by
 unfold hmap at g
 split at g
 ·rename_i es a j
  cases g
  exact ⟨es,a,j,rfl⟩
 ·cases g
theorem Zs1 {h:Heap} {r:Nat} {es:Array MapEntry} {a:Nat} (g:h[r]?=some (.map es a)):hmap h r=some (es.toList.map pe):=by
 unfold hmap;rw [g];rfl
theorem ZqH {α:Type} {xs:List α} {k:Nat} {x:α} (h:xs[k]?=some x):k<xs.length:=by
 rcases Nat.lt_or_ge k xs.length with h'|h'
 ·exact h'
 ·rw [List.getElem?_eq_none h'] at h;cases h
section
variable {C:Ctx} {e:Env}
theorem ZG3 {k:TK} {K:Value->Prop} (h:exV1 k K):∃ v,K v:=by
 unfold exV1 at h
 split at h<;>(obtain ⟨x,a⟩:=h;exact ⟨_,a⟩)
theorem ZGK {t kt et:TypeId} {D:TypeDesc} {d:TD} {a0:TE} {tk:TK} (ht:C.P.underlying t=some (.map kt et)) (hk:C.P.underlying kt=some D) (a2:KD d D) (he:TeOk C.P et a0) {x k z:Value} (hz:a0.zero=[z]) (a6:a0.d.agg=false) (a8:kOk d k=true)
  {h:Heap} {K:Value->Prop} (hh:vMapGet tk d x k z h K):∃ v,K v/\∀ w:World,HLe h w.heap->(Instr.lookup t x k false).run C.P w=.ok v w:=by
 unfold vMapGet at hh
 split at hh
 ·rename_i r
  obtain ⟨m,o,h1,f,s⟩:=hh
  obtain ⟨u,rfl,y⟩:=ZG3 s
  refine ⟨_,y,fun w hw=>?_⟩
  obtain ⟨es,ag,g2,rfl⟩:=ZpX (hw.2 r _ h1)
  have g:=MapKept.run_getObj_map (P:=C.P) g2
  have l:=MapKept.run_checkKey (P:=C.P) (w:=w) hk (Zu3 a2 a8) es.isEmpty 9999
  obtain ⟨i,z',hi,_,_,a,a1⟩:=he.info
  have p:z'=z:=by
   rw [hz] at a1
   have hf:=he.2.2.2
   rw [a6,Bool.false_or,hi,Option.bind_some,a] at hf
   cases z'<;>first|(simp [Value.cells] at a1;exact a1)|cases hf
  subst p
  cases o with
  | none=>
   obtain ⟨c,_⟩:=Znf a2 k es.toList 0 f
   simp only [Instr.lookup,Sem.run_bind,ZQ w ht,Result.andThen_ok,g,Sem.run_pure,l,MapKept.run_findKey hk c,Zc9 w hi a]
   rfl
  | some v=>
   obtain ⟨j,e',c,_⟩:=Znq a2 k v es.toList 0 f
   simp only [Instr.lookup,Sem.run_bind,ZQ w ht,Result.andThen_ok,g,Sem.run_pure,l,MapKept.run_findKey hk c]
   rfl
 ·exact hh.elim
theorem ZFt {d:TD} {D:TypeDesc} (h:KD d D) {k k':Value} (hs:Instr.sameNow D k k'=some true):Instr.sameBits 10000 k' k=true:=by
 rcases h with ⟨q,rfl,rfl⟩|⟨rfl,rfl⟩
 ·cases k<;>cases k'<;>simp [Instr.sameNow] at hs
  obtain ⟨rfl,rfl⟩:=hs
  simp [Instr.sameBits]
 ·cases k<;>cases k'<;>simp [Instr.sameNow] at hs
  have:=(MapKept.bytes_beq _ _).1 hs
  subst this
  simpa [Instr.sameBits] using hs
theorem ZsF (hC:CtxOk C) {t:TypeId} {m k x:Value} {w:World} {K:Value->Heap->Prop} (hh:vMapPut C t m k x w.heap K):
  ∃ w',(Instr.mapUpdate t m k x).run C.P w=.ok () w'/\Rest w w'/\K undef w'.heap:=by
 unfold vMapPut at hh
 split at hh
 ·rename_i kt et ks z b ht
  split at hh
  ·rename_i ac aa
   have c:=(Zas hh).1
   replace hh:=(Zas hh).2
   simp only [Bool.and_eq_true] at c
   obtain ⟨h,l⟩:=c
   have hu:=ZoE (hC.tab _ _ ht).1
   obtain ⟨D,hD,a1⟩:=kd_of (hC.tab _ _ aa).1 h
   unfold vMapSet at hh
   split at hh
   ·rename_i r
    obtain ⟨mm,o,h1,p,s⟩:=hh
    obtain ⟨es,a2,a,rfl⟩:=ZpX h1
    have v:=MapKept.run_getObj_map (P:=C.P) a
    have y:=MapKept.run_checkKey (P:=C.P) (w:=w) hD (Zu3 a1 l) false 9999
    have ad:r<w.heap.size:=(Array.getElem?_eq_some_iff.1 a).1
    cases o with
    | none=>
     obtain ⟨f,g⟩:=Znf a1 k es.toList 0 p
     refine ⟨{ w with heap:=w.heap.setIfInBounds r (.map (es.push { key:=k,val:=x,born:=a2 }) (a2+1)) },?_,⟨rfl,rfl,rfl,Nat.le_refl _⟩,s _ ⟨by simp,fun b c=>(MapKept.heap_set a).2 b c,?_⟩⟩
     ·simp only [Instr.mapUpdate,Sem.run_bind,ZQ w hu,Result.andThen_ok,v,y,MapKept.run_findKey hD f,MapKept.run_setObj_map _ a]
     ·rw [Zs1 (MapKept.heap_set a).1,g]
      simp [pe]
    | some u=>
     obtain ⟨j,e',f,g,f3,f4⟩:=Znq a1 k u es.toList 0 p
     simp only [Nat.zero_add] at f
     have f5:es[j]?=some e':=by simpa using g
     refine ⟨{ w with heap:=w.heap.setIfInBounds r (.map (es.modify j fun e=>{ e with key:=k,val:=x }) a2) },?_,⟨rfl,rfl,rfl,Nat.le_refl _⟩,s _ ⟨by simp,fun b c=>(MapKept.heap_set a).2 b c,?_⟩⟩
     ·have a9:(Instr.keyThatStays e'.key k).run C.P w=.ok k w:=by
       unfold Instr.keyThatStays
       rw [if_pos (ZFt a1 f3)]
       rfl
      simp only [Instr.mapUpdate,Sem.run_bind,ZQ w hu,Result.andThen_ok,v,y,MapKept.run_findKey hD f,f5,Option.map_some,Option.getD_some,a9,MapKept.run_setObj_map _ a]
     ·rw [Zs1 (MapKept.heap_set a).1,f4]
      congr 1
      apply List.ext_getElem?
      intro i
      rw [List.getElem?_map,List.getElem?_set,Array.getElem?_toList,Array.getElem?_modify]
      by_cases a3:j=i
      ·subst a3
       have:=ZqH g
       rw [Array.length_toList] at this
       simp [f5,pe,this]
      ·simp [a3]
   ·exact hh.elim
  ·exact hh.elim
 ·exact hh.elim
theorem ZAA {h g el:TypeId} (hs:C.P.underlying h=some .string) (a:C.P.underlying g=some (.slice el)) (u:C.P.underlying el=some (.int .u8)) {s:ByteArray} {w:World}
  {K:Value->Heap->Prop} (r:vS2B s w.heap K):∃ v k,(convert h g (.string s)).run C.P w=.ok v k/\Rest w k/\K v k.heap:=by
 refine ⟨_,_,Lib.run_convert_string_bytes w h g el s hs a u,⟨rfl,rfl,rfl,Nat.le_succ _⟩,r _ _ ?_ ⟨?_,fun b c=>Lib.bytesWorld_at_old w el s b c⟩ (Lib.bytesWorld_size w el s) fun j b l=>?_⟩
 ·simp only [grownCap,Question.cut];omega
 ·rw [Lib.bytesWorld_size];omega
 ·have o:j<s.size:=ZqH l
  have:=Lib.bytesWorld_cell w el s j o
  have e:(s.data.toList.getD j 0)=b:=by rw [List.getD_eq_getElem?_getD,l];rfl
  rw [e] at this
  exact this
end
end Go.Vc
