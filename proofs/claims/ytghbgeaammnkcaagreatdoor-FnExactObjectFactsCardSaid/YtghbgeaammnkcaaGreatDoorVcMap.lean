import Derived.Test.YtghbgeaammnkcaaGreatDoorVcEl
namespace Go.Vc
set_option linter.unusedVariables false
set_option linter.unusedSimpArgs false
open Go
section
variable {ψ:CM} {h0 h:Heap} {os:List Ob}
theorem mask0 (h:Heap):hcell (hmask (fun _=>False) h)=hcell h:=by
 funext a
 unfold hcell
 rw [Zkm (fun h=>h)]
theorem Zs {k:IntKind} {a:Addr} {K:Int→Prop} (hk:ldI k h a K):ldI k (hmask (fun _=>False) h) a K:=by unfold ldI;rw [mask0];exact hk
theorem ZDQ {a:Addr} {K:ByteArray→Prop} (hk:ldS h a K):ldS (hmask (fun _=>False) h) a K:=by unfold ldS;rw [mask0];exact hk
theorem ZM {a:Addr} {K:Value→Prop} (hk:ldV h a K):ldV (hmask (fun _=>False) h) a K:=by unfold ldV;rw [mask0];exact hk
def mkV {κ ν:Type} (fk:κ→Value) (fv:ν→Value) (m:List (κ×ν)):List (Value×Value):=m.map fun p=>(fk p.1,fv p.2)
def kStr (s:ByteArray):Value:=.string s
def vBool (b:Bool):Value:=.bool b
theorem ZoK (a b:ByteArray):kEq .str (kStr a) (kStr b)=some (a==b):=rfl
theorem ZpW {κ ν:Type} [BEq κ] {d:TD} {fk:κ→Value} {fv:ν→Value} (hk:∀ a b,kEq d (fk a) (fk b)=some (a==b)) (k:κ):∀ (m:List (κ×ν)),∃ o,mGet d (fk k) (mkV fk fv m)=some o∧∀ z,o.getD (fv z)=fv (mpGet m k z)
 | []=>⟨none,rfl,fun _=>rfl⟩
 | (k',v)::r=>by
  obtain ⟨o,e,f⟩:=ZpW (fv:=fv) hk k r
  cases c:k==k' with
  | true=>exact ⟨some (fv v),by simp only [mkV,List.map_cons,mGet,hk,c],fun z=>by simp only [mpGet,c];rfl⟩
  | false=>exact ⟨o,by simp only [mkV,List.map_cons,mGet,hk,c];exact e,fun z=>by simp only [mpGet,c];exact f z⟩
theorem Zq8 {κ ν:Type} [BEq κ] {d:TD} {fk:κ→Value} {fv:ν→Value} (hk:∀ a b,kEq d (fk a) (fk b)=some (a==b)) (k:κ) (v:ν):∀ (m:List (κ×ν)),mSet d (fk k) (fv v) (mkV fk fv m)=mkV fk fv (mpSet m k v)
 | []=>rfl
 | (k',v')::r=>by
  have ih:=Zq8 (fv:=fv) hk k v r
  cases c:k==k' with
  | true=>simp only [mkV,List.map_cons,mSet,hk,c,mpSet,cond_true]
  | false=>
   simp only [mkV,List.map_cons,mSet,hk,c,mpSet,cond_false]
   rw [←mkV,ih];rfl
theorem S.mapAt {b:Nat} {m:List (Value×Value)} (st:S ψ h0 h os) (i:Nat) (ho:os[i]?=some (.mp b m)):hmap h b=some m:=by
 obtain ⟨φ,L,s,r⟩:=st
 obtain ⟨L1,Lo,L2,a,c,_,_⟩:=r.at ho
 have e2':Lo=[(b,.mp m)]:=c
 subst e2'
 exact s.row b (.mp m) (by rw [a];simp)
theorem ZBR {κ ν:Type} (fk:κ→Value) (fv:ν→Value) (st:S ψ h0 h os) {K:Value→Heap→Prop} (hk:∀ b h',S ψ h0 h' (.mp b (mkV fk fv [])::os)→K (.map (some b)) h'):vMapNew h K:=by
 obtain ⟨φ,L,s,r⟩:=st
 have a:=ExtH.push h (.map #[] 0)
 refine hk _ _ ⟨φ,(h.size,.mp [])::L,?_,[(h.size,.mp [])],L,rfl,rfl,r⟩
 refine ⟨s.ext.trans a,fun b r hm=>?_,fun b c=>?_,?_,s.fle.trans (CLe.ext a),fun p u hp hm=>?_,s.bas,s.old⟩
 ·rcases List.mem_cons.1 hm with e|e
  ·cases e
   show hmap _ _=some []
   unfold hmap
   simp [ents]
  ·exact (s.row b r e).ext a
 ·rcases List.mem_cons.1 c with e|e
  ·rw [e];exact s.ext.1
  ·exact s.low b e
 ·refine List.nodup_cons.2 ⟨fun hm=>?_,s.nod⟩
  have:=s.lt hm
  exact absurd this (Nat.lt_irrefl _)
 ·rcases List.mem_cons.1 hm with e|e
  ·have:=ZdQ (s.fle p u hp)
   have e':p.block=h.size:=e
   omega
  ·exact s.dis p u hp e
theorem ZDV {κ:Type} [BEq κ] {d:TD} {fk:κ→Value} (hk:∀ a b,kEq d (fk a) (fk b)=some (a==b)) {b:Nat} {m:List (κ×Bool)} {k:κ} (st:S ψ h0 h os) (i:Nat) (ho:os[i]?=some (.mp b (mkV fk vBool m))) {kv:Value} (hkv:kv=fk k) {K:Bool→Prop} (hK:K (mpGet m k false)):mapGetB d (.map (some b)) kv h K:=by
 subst hkv
 obtain ⟨o,c,e⟩:=ZpW (fv:=vBool) hk k m
 exact ⟨_,o,st.mapAt i ho,c,mpGet m k false,(e false).symm,hK⟩
theorem ZBg {φ:CM} {L1 L2:Rws} {b:Nat} {m m':List (Value×Value)} {h':Heap} (s:S0 ψ h0 h φ (L1++[(b,.mp m)]++L2)) (hp:MapPut h b m' h'):S0 ψ h0 h' φ (L1++[(b,.mp m')]++L2):=by
 obtain ⟨p1,p2,j⟩:=hp
 have hbs:Rws.bs (L1++[(b,.mp m')]++L2)=Rws.bs (L1++[(b,.mp m)]++L2):=by simp [Rws.bs]
 have hbm:b∈Rws.bs (L1++[(b,.mp m)]++L2):=by simp [Rws.bs]
 have hlow:=s.low b hbm
 have hmp:hmap h b=some m:=s.row b (.mp m) (by simp)
 refine ⟨⟨by rw [p1];exact s.ext.1,fun c a=>by rw [p2 c (by omega)];exact s.ext.2 c a⟩,fun c r hm=>?_,by rw [hbs];exact s.low,by rw [hbs];exact s.nod,fun q u g=>?_,by rw [hbs];exact s.dis,s.bas,s.old⟩
 ·by_cases a:c=b
  ·subst a
   have f:=s.nod
   have hr:r=.mp m':=by
    simp only [Rws.bs,List.map_append,List.map_cons,List.map_nil,List.append_assoc] at f
    rcases List.mem_append.1 hm with e|e
    ·rcases List.mem_append.1 e with e|e
     ·exact absurd rfl ((List.nodup_append.1 f).2.2 c (List.mem_map.2 ⟨_,e,rfl⟩) c (by simp))
     ·simp at e;exact e
    ·have i:=(List.nodup_append.1 f).2.1
     simp only [List.cons_append,List.nil_append,List.nodup_cons] at i
     exact absurd (List.mem_map.2 ⟨_,e,rfl⟩) i.1
   subst hr
   exact j
  ·have hm':(c,r)∈L1++[(b,Row.mp m)]++L2:=by
    simp only [List.mem_append,List.mem_singleton] at hm ⊢
    rcases hm with (e|e)|e
    ·exact .inl (.inl e)
    ·cases e;exact absurd rfl a
    ·exact .inr e
   exact (s.row c r hm').same (p2 c a)
 ·have k:=s.dis q u g
  have hne:q.block≠b:=fun e=>k (by rw [e];exact hbm)
  rw [Ztm (p2 q.block hne)]
  exact s.fle q u g
theorem ZrA {κ ν:Type} [BEq κ] {d:TD} {fk:κ→Value} {fv:ν→Value} (hk:∀ a b,kEq d (fk a) (fk b)=some (a==b)) {b:Nat} {m:List (κ×ν)} {k:κ} {v:ν} (st:S ψ h0 h os) (i:Nat) (ho:os[i]?=some (.mp b (mkV fk fv m))) {kv vv:Value} (hkv:kv=fk k) (hvv:vv=fv v) {K:Heap→Prop}
  (hK:∀ h',S ψ h0 h' (os.set i (.mp b (mkV fk fv (mpSet m k v))))→K h'):vMapSet d (.map (some b)) kv vv h K:=by
 subst hkv hvv
 obtain ⟨o,c,_⟩:=ZpW (fv:=fv) hk k m
 refine ⟨_,o,st.mapAt i ho,c,fun h' hp=>hK h' ?_⟩
 rw [Zq8 hk] at hp
 obtain ⟨φ,L,s,r⟩:=st
 obtain ⟨L1,Lo,L2,e,f,_,g⟩:=r.at ho
 have e2':Lo=[(b,.mp (mkV fk fv m))]:=f
 subst e2' e
 exact ⟨φ,_,ZBg s hp,g φ (.mp b (mkV fk fv (mpSet m k v))) _ (CLe.refl _) rfl⟩
theorem b2s_S {v:Value} {xs:List Int} {s:ByteArray} (ha:SlC (hcell h) (El.int .u8) v xs) (hp:gByt xs=some s) {K:ByteArray→Prop} (hk:K s):vB2S v h K:=by
 unfold gByt at hp
 split at hp
 ·rename_i g
  cases hp
  have key:∀ x∈xs,((UInt8.ofNat x.toNat).toNat:Int)=x:=fun x hm=>by
   obtain ⟨l,m⟩:=g x hm
   have:(UInt8.ofNat x.toNat).toNat=x.toNat%256:=by simp
   rw [this];omega
  rcases ha with ⟨rfl,rfl⟩|⟨a,c,rfl,o,hel⟩
  ·exact ⟨[],rfl,fun j b f=>by simp at f,hk⟩
  ·refine ⟨xs.map fun n:Int=>UInt8.ofNat n.toNat,by simp,fun j b f=>⟨a,rfl,?_⟩,hk⟩
   rw [List.getElem?_map,Option.map_eq_some_iff] at f
   obtain ⟨x,hx',rfl⟩:=f
   obtain ⟨cs,i,k⟩:=hel j x hx'
   have:=i 0 (.int .u8 x) (by rw [k.2];rfl)
   rw [Zhp,Nat.add_zero] at this
   have e:j*(El.int .u8).z=j:=Nat.mul_one j
   rw [e] at this
   rw [this,key x (List.mem_of_getElem? hx')]
 ·cases hp
end
end Go.Vc
