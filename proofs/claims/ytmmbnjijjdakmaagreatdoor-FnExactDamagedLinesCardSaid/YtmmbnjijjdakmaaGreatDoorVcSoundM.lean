import Derived.Test.YtmmbnjijjdakmaaGreatDoorVcSoundB
import Derived.MapKept
import Derived.Lib.ConvBytes
namespace Go.Vc
set_option linter.unusedVariables false
set_option linter.unusedSimpArgs false
open Go
theorem Zni {P:Program} {t:TypeId} {k e:Nat} (h:tdOf P t=.map k e):P.underlying t=some (.map k e):=by
 unfold tdOf at h;split at h<;>first|(simp at h;obtain ⟨rfl,rfl⟩:=h;assumption)|simp at h
def KD (d:TD) (D:TypeDesc):Prop:=(∃ k,d=.int k∧D=.int k)∨(d=.str∧D=.string)
theorem kd_of {P:Program} {t:TypeId} {d:TD} (h:tdOf P t=d) (hk:isKd d=true):∃ D,P.underlying t=some D∧KD d D:=by
 cases d with
 | int k=>exact ⟨_,ZeD h,.inl ⟨k,rfl,rfl⟩⟩
 | str=>exact ⟨_,ZcP h,.inr ⟨rfl,rfl⟩⟩
 | _=>cases hk
theorem ZpI {d:TD} {D:TypeDesc} (h:KD d D) (x y:Value):kEq d x y=Instr.sameNow D x y:=by
 rcases h with ⟨k,rfl,rfl⟩|⟨rfl,rfl⟩<;>cases x<;>cases y<;>rfl
theorem Zqk {d:TD} {D:TypeDesc} (h:KD d D) {x:Value} (hx:kOk d x=true):MapKept.IsKey D x:=by
 rcases h with ⟨k,rfl,rfl⟩|⟨rfl,rfl⟩
 ·cases x<;>simp [kOk] at hx
  have:=Zm9.1 hx
  subst this
  simp [MapKept.IsKey]
 ·cases x<;>simp [kOk] at hx
  simp [MapKept.IsKey]
def pe (e:MapEntry):Value×Value:=(e.key,e.val)
theorem Zl8 {d:TD} {D:TypeDesc} (h:KD d D) (k:Value):∀ (l:List MapEntry) (i:Nat),mGet d k (l.map pe)=some none →
  Instr.findNow D k l i=some none∧∀ v,mSet d k v (l.map pe)=l.map pe++[(k,v)]
 | [],_,_=>⟨rfl,fun _=>rfl⟩
 | e::l,i,hm=>by
  simp only [List.map_cons,pe,mGet] at hm
  cases hq:kEq d k e.key with
  | none=>rw [hq] at hm;cases hm
  | some b=>
   cases b with
   | true=>rw [hq] at hm;cases hm
   | false=>
    rw [hq] at hm
    obtain ⟨h1,h2⟩:=Zl8 h k l (i+1) hm
    refine ⟨?_,fun v=>?_⟩
    ·rw [ZpI h] at hq
     simp only [Instr.findNow,hq];exact h1
    ·simp only [List.map_cons,pe,mSet,hq,List.cons_append]
     exact congrArg _ (h2 v)
theorem ZlH {d:TD} {D:TypeDesc} (h:KD d D) (k u:Value):∀ (l:List MapEntry) (i:Nat),mGet d k (l.map pe)=some (some u) →
  ∃ j e,Instr.findNow D k l i=some (some (i+j,u))∧l[j]?=some e∧Instr.sameNow D k e.key=some true∧∀ v,mSet d k v (l.map pe)=(l.map pe).set j (k,v)
 | [],_,hm=>by cases hm
 | e::l,i,hm=>by
  simp only [List.map_cons,pe,mGet] at hm
  cases hq:kEq d k e.key with
  | none=>rw [hq] at hm;cases hm
  | some b=>
   have hq':=hq
   rw [ZpI h] at hq'
   cases b with
   | true=>
    rw [hq] at hm
    simp only [Option.some.injEq] at hm
    subst hm
    exact ⟨0,e,by simp only [Instr.findNow,hq'];rfl,rfl,hq',fun v=>by simp only [List.map_cons,pe,mSet,hq];rfl⟩
   | false=>
    rw [hq] at hm
    obtain ⟨j,e',h1,h2,h3,h4⟩:=ZlH h k u l (i+1) hm
    refine ⟨j+1,e',?_,by simpa using h2,h3,fun v=>?_⟩
    ·simp only [Instr.findNow,hq',h1]
     rw [show i+1+j=i+(j+1) by omega]
    ·simp only [List.map_cons,pe,mSet,hq,List.set_cons_succ]
     exact congrArg _ (h4 v)
theorem Zkc {h:Heap} {r:Nat} {m:List (Value×Value)} (hm:hmap h r=some m):∃ es clk,h[r]?=some (.map es clk)∧m=es.toList.map pe:=by
 unfold hmap at hm
 split at hm
 ·rename_i es clk hr
  cases hm
  exact ⟨es,clk,hr,rfl⟩
 ·cases hm
theorem Zqo {h:Heap} {r:Nat} {es:Array MapEntry} {clk:Nat} (hr:h[r]?=some (.map es clk)):hmap h r=some (es.toList.map pe):=by
 unfold hmap;rw [hr];rfl
theorem ZoE {α:Type} {xs:List α} {k:Nat} {x:α} (h:xs[k]?=some x):k<xs.length:=by
 rcases Nat.lt_or_ge k xs.length with h'|h'
 ·exact h'
 ·rw [List.getElem?_eq_none h'] at h;cases h
section
variable {C:Ctx} {e:Env}
theorem Zx6 {k:TK} {K:Value→Prop} (h:exV1 k K):∃ v,K v:=by
 unfold exV1 at h
 split at h<;>(obtain ⟨x,hx⟩:=h;exact ⟨_,hx⟩)
theorem ZtY {t kt et:TypeId} {D:TypeDesc} {d:TD} {ete:TE} {tk:TK} (ht:C.P.underlying t=some (.map kt et)) (hk:C.P.underlying kt=some D) (hkd:KD d D) (he:TeOk C.P et ete) {x k z:Value} (hz:ete.zero=[z]) (hag:ete.d.agg=false) (hkk:kOk d k=true)
  {h:Heap} {K:Value→Prop} (hh:vMapGet tk d x k z h K):∃ v,K v∧∀ w:World,HLe h w.heap→(Instr.lookup t x k false).run C.P w=.ok v w:=by
 unfold vMapGet at hh
 split at hh
 ·rename_i r
  obtain ⟨m,o,h1,h2,h3⟩:=hh
  obtain ⟨u,rfl,h4⟩:=Zx6 h3
  refine ⟨_,h4,fun w hw=>?_⟩
  obtain ⟨es,clk,g2,rfl⟩:=Zkc (hw.2 r _ h1)
  have g3:=MapKept.run_getObj_map (P:=C.P) g2
  have g4:=MapKept.run_checkKey (P:=C.P) (w:=w) hk (Zqk hkd hkk) es.isEmpty 9999
  obtain ⟨i,z',hi,_,_,hz0,hzc⟩:=he.info
  have hz1:z'=z:=by
   rw [hz] at hzc
   have hf:=he.2.2.2
   rw [hag,Bool.false_or,hi,Option.bind_some,hz0] at hf
   cases z'<;>first|(simp [Value.cells] at hzc;exact hzc)|cases hf
  subst hz1
  cases o with
  | none=>
   obtain ⟨f1,_⟩:=Zl8 hkd k es.toList 0 h2
   simp only [Instr.lookup,Sem.run_bind,ZH w ht,Result.andThen_ok,g3,Sem.run_pure,g4,MapKept.run_findKey hk f1,ZdI w hi hz0]
   rfl
  | some v=>
   obtain ⟨j,e',f1,_⟩:=ZlH hkd k v es.toList 0 h2
   simp only [Instr.lookup,Sem.run_bind,ZH w ht,Result.andThen_ok,g3,Sem.run_pure,g4,MapKept.run_findKey hk f1]
   rfl
 ·exact hh.elim
theorem Zxq {d:TD} {D:TypeDesc} (h:KD d D) {k k':Value} (hs:Instr.sameNow D k k'=some true):Instr.sameBits 10000 k' k=true:=by
 rcases h with ⟨q,rfl,rfl⟩|⟨rfl,rfl⟩
 ·cases k<;>cases k'<;>simp [Instr.sameNow] at hs
  obtain ⟨rfl,rfl⟩:=hs
  simp [Instr.sameBits]
 ·cases k<;>cases k'<;>simp [Instr.sameNow] at hs
  have:=(MapKept.bytes_beq _ _).1 hs
  subst this
  simpa [Instr.sameBits] using hs
theorem ZoV (hC:CtxOk C) {t:TypeId} {m k x:Value} {w:World} {K:Value→Heap→Prop} (hh:vMapPut C t m k x w.heap K):
  ∃ w',(Instr.mapUpdate t m k x).run C.P w=.ok () w'∧Rest w w'∧K undef w'.heap:=by
 unfold vMapPut at hh
 split at hh
 ·rename_i kt et ks z b ht
  split at hh
  ·rename_i kte hkt
   have hb:=(Z6 hh).1
   replace hh:=(Z6 hh).2
   simp only [Bool.and_eq_true] at hb
   obtain ⟨hb1,hb2⟩:=hb
   have hu:=Zni (hC.tab _ _ ht).1
   obtain ⟨D,hD,hkd⟩:=kd_of (hC.tab _ _ hkt).1 hb1
   unfold vMapSet at hh
   split at hh
   ·rename_i r
    obtain ⟨mm,o,h1,h2,h3⟩:=hh
    obtain ⟨es,clk,g1,rfl⟩:=Zkc h1
    have g3:=MapKept.run_getObj_map (P:=C.P) g1
    have g4:=MapKept.run_checkKey (P:=C.P) (w:=w) hD (Zqk hkd hb2) false 9999
    have hlt:r<w.heap.size:=(Array.getElem?_eq_some_iff.1 g1).1
    cases o with
    | none=>
     obtain ⟨f1,f2⟩:=Zl8 hkd k es.toList 0 h2
     refine ⟨{ w with heap:=w.heap.setIfInBounds r (.map (es.push { key:=k,val:=x,born:=clk }) (clk+1)) },?_,⟨rfl,rfl,rfl,Nat.le_refl _⟩,h3 _ ⟨by simp,fun b hb=>(MapKept.heap_set g1).2 b hb,?_⟩⟩
     ·simp only [Instr.mapUpdate,Sem.run_bind,ZH w hu,Result.andThen_ok,g3,g4,MapKept.run_findKey hD f1,MapKept.run_setObj_map _ g1]
     ·rw [Zqo (MapKept.heap_set g1).1,f2]
      simp [pe]
    | some u=>
     obtain ⟨j,e',f1,f2,f3,f4⟩:=ZlH hkd k u es.toList 0 h2
     simp only [Nat.zero_add] at f1
     have f5:es[j]?=some e':=by simpa using f2
     refine ⟨{ w with heap:=w.heap.setIfInBounds r (.map (es.modify j fun e=>{ e with key:=k,val:=x }) clk) },?_,⟨rfl,rfl,rfl,Nat.le_refl _⟩,h3 _ ⟨by simp,fun b hb=>(MapKept.heap_set g1).2 b hb,?_⟩⟩
     ·have hks:(Instr.keyThatStays e'.key k).run C.P w=.ok k w:=by
       unfold Instr.keyThatStays
       rw [if_pos (Zxq hkd f3)]
       rfl
      simp only [Instr.mapUpdate,Sem.run_bind,ZH w hu,Result.andThen_ok,g3,g4,MapKept.run_findKey hD f1,f5,Option.map_some,Option.getD_some,hks,MapKept.run_setObj_map _ g1]
     ·rw [Zqo (MapKept.heap_set g1).1,f4]
      congr 1
      apply List.ext_getElem?
      intro i
      rw [List.getElem?_map,List.getElem?_set,Array.getElem?_toList,Array.getElem?_modify]
      by_cases hij:j=i
      ·subst hij
       have:=ZoE f2
       rw [Array.length_toList] at this
       simp [f5,pe,this]
      ·simp [hij]
   ·exact hh.elim
  ·exact hh.elim
 ·exact hh.elim
theorem Zyn {src dst el:TypeId} (hs:C.P.underlying src=some .string) (hd:C.P.underlying dst=some (.slice el)) (he:C.P.underlying el=some (.int .u8)) {s:ByteArray} {w:World}
  {K:Value→Heap→Prop} (hh:vS2B s w.heap K):∃ v w',(convert src dst (.string s)).run C.P w=.ok v w'∧Rest w w'∧K v w'.heap:=by
 refine ⟨_,_,Lib.run_convert_string_bytes w src dst el s hs hd he,⟨rfl,rfl,rfl,Nat.le_succ _⟩,hh _ _ ?_ ⟨?_,fun b hb=>Lib.bytesWorld_at_old w el s b hb⟩ (Lib.bytesWorld_size w el s) fun j b hj=>?_⟩
 ·simp only [grownCap,Question.cut];omega
 ·rw [Lib.bytesWorld_size];omega
 ·have hlt:j<s.size:=ZoE hj
  have:=Lib.bytesWorld_cell w el s j hlt
  have e:(s.data.toList.getD j 0)=b:=by rw [List.getD_eq_getElem?_getD,hj];rfl
  rw [e] at this
  exact this
end
end Go.Vc
