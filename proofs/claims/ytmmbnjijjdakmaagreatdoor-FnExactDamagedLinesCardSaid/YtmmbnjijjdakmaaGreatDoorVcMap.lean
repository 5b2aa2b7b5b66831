import Derived.Test.YtmmbnjijjdakmaaGreatDoorVcEl
namespace Go.Vc
set_option linter.unusedVariables false
set_option linter.unusedSimpArgs false
open Go
section
variable {ψ:CM} {h0 h:Heap} {os:List Ob}
theorem mask0 (h:Heap):hcell (hmask (fun _=>False) h)=hcell h:=by
 funext a
 unfold hcell
 rw [Zjh (fun h=>h)]
theorem ZB {k:IntKind} {a:Addr} {K:Int→Prop} (hk:ldI k h a K):ldI k (hmask (fun _=>False) h) a K:=by unfold ldI;rw [mask0];exact hk
theorem ZA2 {a:Addr} {K:ByteArray→Prop} (hk:ldS h a K):ldS (hmask (fun _=>False) h) a K:=by unfold ldS;rw [mask0];exact hk
theorem Zah {a:Addr} {K:Value→Prop} (hk:ldV h a K):ldV (hmask (fun _=>False) h) a K:=by unfold ldV;rw [mask0];exact hk
def mkV {κ ν:Type} (fk:κ→Value) (fv:ν→Value) (m:List (κ×ν)):List (Value×Value):=m.map fun p=>(fk p.1,fv p.2)
def kStr (s:ByteArray):Value:=.string s
def vBool (b:Bool):Value:=.bool b
theorem Zk2 (a b:ByteArray):kEq .str (kStr a) (kStr b)=some (a==b):=rfl
theorem Znz {κ ν:Type} [BEq κ] {d:TD} {fk:κ→Value} {fv:ν→Value} (hk:∀ a b,kEq d (fk a) (fk b)=some (a==b)) (k:κ):∀ (m:List (κ×ν)),∃ o,mGet d (fk k) (mkV fk fv m)=some o∧∀ z,o.getD (fv z)=fv (mpGet m k z)
 | []=>⟨none,rfl,fun _=>rfl⟩
 | (k',v)::r=>by
  obtain ⟨o,h1,h2⟩:=Znz (fv:=fv) hk k r
  cases hb:k==k' with
  | true=>exact ⟨some (fv v),by simp only [mkV,List.map_cons,mGet,hk,hb],fun z=>by simp only [mpGet,hb];rfl⟩
  | false=>exact ⟨o,by simp only [mkV,List.map_cons,mGet,hk,hb];exact h1,fun z=>by simp only [mpGet,hb];exact h2 z⟩
theorem ZqL {κ ν:Type} [BEq κ] {d:TD} {fk:κ→Value} {fv:ν→Value} (hk:∀ a b,kEq d (fk a) (fk b)=some (a==b)) (k:κ) (v:ν):∀ (m:List (κ×ν)),mSet d (fk k) (fv v) (mkV fk fv m)=mkV fk fv (mpSet m k v)
 | []=>rfl
 | (k',v')::r=>by
  have ih:=ZqL (fv:=fv) hk k v r
  cases hb:k==k' with
  | true=>simp only [mkV,List.map_cons,mSet,hk,hb,mpSet,cond_true]
  | false=>
   simp only [mkV,List.map_cons,mSet,hk,hb,mpSet,cond_false]
   rw [←mkV,ih];rfl
theorem S.mapAt {b:Nat} {m:List (Value×Value)} (st:S ψ h0 h os) (i:Nat) (ho:os[i]?=some (.mp b m)):hmap h b=some m:=by
 obtain ⟨φ,L,s,r⟩:=st
 obtain ⟨L1,Lo,L2,e1,e2,_,_⟩:=r.at ho
 have e2':Lo=[(b,.mp m)]:=e2
 subst e2'
 exact s.row b (.mp m) (by rw [e1];simp)
theorem Zuu {κ ν:Type} (fk:κ→Value) (fv:ν→Value) (st:S ψ h0 h os) {K:Value→Heap→Prop} (hk:∀ b h',S ψ h0 h' (.mp b (mkV fk fv [])::os)→K (.map (some b)) h'):vMapNew h K:=by
 obtain ⟨φ,L,s,r⟩:=st
 have hx:=ExtH.push h (.map #[] 0)
 refine hk _ _ ⟨φ,(h.size,.mp [])::L,?_,[(h.size,.mp [])],L,rfl,rfl,r⟩
 refine ⟨s.ext.trans hx,fun b r hm=>?_,fun b hb=>?_,?_,s.fle.trans (CLe.ext hx),fun p u hp hm=>?_,s.bas,s.old⟩
 ·rcases List.mem_cons.1 hm with e|e
  ·cases e
   show hmap _ _=some []
   unfold hmap
   simp [ents]
  ·exact (s.row b r e).ext hx
 ·rcases List.mem_cons.1 hb with e|e
  ·rw [e];exact s.ext.1
  ·exact s.low b e
 ·refine List.nodup_cons.2 ⟨fun hm=>?_,s.nod⟩
  have:=s.lt hm
  exact absurd this (Nat.lt_irrefl _)
 ·rcases List.mem_cons.1 hm with e|e
  ·have:=Zcl (s.fle p u hp)
   have e':p.block=h.size:=e
   omega
  ·exact s.dis p u hp e
theorem ZsA {κ:Type} [BEq κ] {d:TD} {fk:κ→Value} (hk:∀ a b,kEq d (fk a) (fk b)=some (a==b)) {b:Nat} {m:List (κ×Bool)} {k:κ} (st:S ψ h0 h os) (i:Nat) (ho:os[i]?=some (.mp b (mkV fk vBool m))) {kv:Value} (hkv:kv=fk k) {K:Bool→Prop} (hK:K (mpGet m k false)):mapGetB d (.map (some b)) kv h K:=by
 subst hkv
 obtain ⟨o,h1,h2⟩:=Znz (fv:=vBool) hk k m
 exact ⟨_,o,st.mapAt i ho,h1,mpGet m k false,(h2 false).symm,hK⟩
theorem ZuD {φ:CM} {L1 L2:Rws} {b:Nat} {m m':List (Value×Value)} {h':Heap} (s:S0 ψ h0 h φ (L1++[(b,.mp m)]++L2)) (hp:MapPut h b m' h'):S0 ψ h0 h' φ (L1++[(b,.mp m')]++L2):=by
 obtain ⟨p1,p2,p3⟩:=hp
 have hbs:Rws.bs (L1++[(b,.mp m')]++L2)=Rws.bs (L1++[(b,.mp m)]++L2):=by simp [Rws.bs]
 have hbm:b∈Rws.bs (L1++[(b,.mp m)]++L2):=by simp [Rws.bs]
 have hlow:=s.low b hbm
 have hmp:hmap h b=some m:=s.row b (.mp m) (by simp)
 refine ⟨⟨by rw [p1];exact s.ext.1,fun c hc=>by rw [p2 c (by omega)];exact s.ext.2 c hc⟩,fun c r hm=>?_,by rw [hbs];exact s.low,by rw [hbs];exact s.nod,fun q u hq=>?_,by rw [hbs];exact s.dis,s.bas,s.old⟩
 ·by_cases hc:c=b
  ·subst hc
   have hn:=s.nod
   have hr:r=.mp m':=by
    simp only [Rws.bs,List.map_append,List.map_cons,List.map_nil,List.append_assoc] at hn
    rcases List.mem_append.1 hm with e|e
    ·rcases List.mem_append.1 e with e|e
     ·exact absurd rfl ((List.nodup_append.1 hn).2.2 c (List.mem_map.2 ⟨_,e,rfl⟩) c (by simp))
     ·simp at e;exact e
    ·have h2:=(List.nodup_append.1 hn).2.1
     simp only [List.cons_append,List.nil_append,List.nodup_cons] at h2
     exact absurd (List.mem_map.2 ⟨_,e,rfl⟩) h2.1
   subst hr
   exact p3
  ·have hm':(c,r)∈L1++[(b,Row.mp m)]++L2:=by
    simp only [List.mem_append,List.mem_singleton] at hm ⊢
    rcases hm with (e|e)|e
    ·exact .inl (.inl e)
    ·cases e;exact absurd rfl hc
    ·exact .inr e
   exact (s.row c r hm').same (p2 c hc)
 ·have hd:=s.dis q u hq
  have hne:q.block≠b:=fun e=>hd (by rw [e];exact hbm)
  rw [Zrc (p2 q.block hne)]
  exact s.fle q u hq
theorem Zqp {κ ν:Type} [BEq κ] {d:TD} {fk:κ→Value} {fv:ν→Value} (hk:∀ a b,kEq d (fk a) (fk b)=some (a==b)) {b:Nat} {m:List (κ×ν)} {k:κ} {v:ν} (st:S ψ h0 h os) (i:Nat) (ho:os[i]?=some (.mp b (mkV fk fv m))) {kv vv:Value} (hkv:kv=fk k) (hvv:vv=fv v) {K:Heap→Prop}
  (hK:∀ h',S ψ h0 h' (os.set i (.mp b (mkV fk fv (mpSet m k v))))→K h'):vMapSet d (.map (some b)) kv vv h K:=by
 subst hkv hvv
 obtain ⟨o,h1,_⟩:=Znz (fv:=fv) hk k m
 refine ⟨_,o,st.mapAt i ho,h1,fun h' hp=>hK h' ?_⟩
 rw [ZqL hk] at hp
 obtain ⟨φ,L,s,r⟩:=st
 obtain ⟨L1,Lo,L2,e1,e2,_,e4⟩:=r.at ho
 have e2':Lo=[(b,.mp (mkV fk fv m))]:=e2
 subst e2' e1
 exact ⟨φ,_,ZuD s hp,e4 φ (.mp b (mkV fk fv (mpSet m k v))) _ (CLe.refl _) rfl⟩
theorem Zcq (s:ByteArray):(byts s).length=s.size:=by
 unfold byts
 rw [List.length_map,Array.length_toList];rfl
theorem s2b_S {s:ByteArray} (st:S ψ h0 h os) {K:Value→Heap→Prop} (hk:∀ v h',S ψ h0 h' (.it (El.sl (El.int .u8)) [v] (byts s)::os)→K v h'):vS2B s h K:=by
 intro cap h' hcap hx hsz hcell'
 obtain ⟨φ,L,s0,r⟩:=st
 refine hk _ _ ?_
 classical
 let φ':CM:=fun p=>if p.block=h.size then hcell h' p else φ p
 have hle:CLe φ φ':=fun p u hp=>by
  have:=Zcl (s0.fle p u hp)
  show (if p.block=h.size then hcell h' p else φ p)=some u
  rw [if_neg (by omega)];exact hp
 refine ⟨φ',L,⟨s0.ext.trans hx,fun b r hm=>(s0.row b r hm).ext hx,s0.low,s0.nod,fun p u hp=>?_,fun p u hp hm=>?_,s0.bas.trans hle,fun p u hp hlt=>?_⟩,[],L,rfl,El.sl_of (.inr ⟨⟨h.size,0,none⟩,cap,?_,?_,fun i x hi=>?_⟩),r.mono hle⟩
 ·have hp':(if p.block=h.size then hcell h' p else φ p)=some u:=hp
  by_cases hb:p.block=h.size
  ·rw [if_pos hb] at hp';exact hp'
  ·rw [if_neg hb] at hp';exact CLe.ext hx _ _ (s0.fle p u hp')
 ·have hp':(if p.block=h.size then hcell h' p else φ p)=some u:=hp
  have:=s0.lt hm
  rw [if_neg (by omega)] at hp'
  exact s0.dis p u hp' hm
 ·have hp':(if p.block=h.size then hcell h' p else φ p)=some u:=hp
  have:=s0.ext.1
  rw [if_neg (by omega)] at hp'
  exact s0.old p u hp' hlt
 ·have:(byts s).length=s.size:=Zcq s
  rw [this]
 ·have:(byts s).length=s.size:=Zcq s
  omega
 ·unfold byts at hi
  rw [List.getElem?_map,Option.map_eq_some_iff] at hi
  obtain ⟨b,hb,rfl⟩:=hi
  refine ⟨[.int .u8 b.toNat],fun j u hu=>?_,rfl,rfl⟩
  cases j with
  | succ j=>simp at hu
  | zero=>
   simp at hu;subst hu
   rw [Z7,Z7]
   show (if h.size=h.size then hcell h' _ else _)=_
   rw [if_pos rfl]
   have:=hcell' i b hb
   have e:i*(El.int .u8).z=i:=Nat.mul_one i
   rw [e,Nat.zero_add,Nat.add_zero]
   exact this
theorem b2s_S {v:Value} {xs:List Int} {s:ByteArray} (ha:SlC (hcell h) (El.int .u8) v xs) (hp:gByt xs=some s) {K:ByteArray→Prop} (hk:K s):vB2S v h K:=by
 unfold gByt at hp
 split at hp
 ·rename_i hx
  cases hp
  have key:∀ x∈xs,((UInt8.ofNat x.toNat).toNat:Int)=x:=fun x hm=>by
   obtain ⟨h1,h2⟩:=hx x hm
   have:(UInt8.ofNat x.toNat).toNat=x.toNat%256:=by simp
   rw [this];omega
  rcases ha with ⟨rfl,rfl⟩|⟨a,c,rfl,hc,hel⟩
  ·exact ⟨[],rfl,fun j b hb=>by simp at hb,hk⟩
  ·refine ⟨xs.map fun n:Int=>UInt8.ofNat n.toNat,by simp,fun j b hb=>⟨a,rfl,?_⟩,hk⟩
   rw [List.getElem?_map,Option.map_eq_some_iff] at hb
   obtain ⟨x,hx',rfl⟩:=hb
   obtain ⟨cs,g1,g2⟩:=hel j x hx'
   have:=g1 0 (.int .u8 x) (by rw [g2.2];rfl)
   rw [Zf9,Nat.add_zero] at this
   have e:j*(El.int .u8).z=j:=Nat.mul_one j
   rw [e] at this
   rw [this,key x (List.mem_of_getElem? hx')]
 ·cases hp
end
end Go.Vc
