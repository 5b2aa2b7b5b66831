import Derived.Test.YtccncimchmimdaaGreatDoorVcEl
namespace Go.Vc
set_option linter.unusedVariables false
set_option linter.unusedSimpArgs false
open Go
section
variable {ψ:CM} {h0 h:Heap} {os:List Ob}
theorem mask0 (h:Heap):hcell (hmask (fun _=>False) h)=hcell h:=by
 funext a
 unfold hcell
 rw [Zl4 (fun h=>h)]
theorem ZL {k:IntKind} {a:Addr} {K:Int->Prop} (c:ldI k h a K):ldI k (hmask (fun _=>False) h) a K:=by unfold ldI;rw [mask0];exact c
theorem ZW {a:Addr} {K:Value->Prop} (c:ldV h a K):ldV (hmask (fun _=>False) h) a K:=by unfold ldV;rw [mask0];exact c
def mkV {κ ν:Type} (a:κ->Value) (fv:ν->Value) (m:List (κ×ν)):List (Value×Value):=m.map fun p=>(a p.1,fv p.2)
def kStr (s:ByteArray):Value:=.string s
def vBool (b:Bool):Value:=.bool b
theorem ZqO (a b:ByteArray):kEq .str (kStr a) (kStr b)=some (a==b):=rfl
theorem ZmC {κ ν:Type} [BEq κ] {d:TD} {g:κ->Value} {fv:ν->Value} (j:∀ a b,kEq d (g a) (g b)=some (a==b)) (k:κ):∀ (m:List (κ×ν)),∃ o,mGet d (g k) (mkV g fv m)=some o/\∀ z,o.getD (fv z)=fv (mpGet m k z)
 | []=>⟨none,rfl,fun _=>rfl⟩
 | (k',v)::r=>by
  obtain ⟨o,e,f⟩:=ZmC (fv:=fv) j k r
  cases c:k==k' with
  | true=>exact ⟨some (fv v),by simp only [mkV,List.map_cons,mGet,j,c],fun z=>by simp only [mpGet,c];rfl⟩
  | false=>exact ⟨o,by simp only [mkV,List.map_cons,mGet,j,c];exact e,fun z=>by simp only [mpGet,c];exact f z⟩
theorem ZuZ {κ ν:Type} [BEq κ] {d:TD} {e:κ->Value} {fv:ν->Value} (g:∀ a b,kEq d (e a) (e b)=some (a==b)) (k:κ) (v:ν):∀ (m:List (κ×ν)),mSet d (e k) (fv v) (mkV e fv m)=mkV e fv (mpSet m k v)
 | []=>rfl
 | (k',v')::r=>by
  have j:=ZuZ (fv:=fv) g k v r
  cases c:k==k' with
  | true=>simp only [mkV,List.map_cons,mSet,g,c,mpSet,cond_true]
  | false=>
   simp only [mkV,List.map_cons,mSet,g,c,mpSet,cond_false]
   rw [<-mkV,j];rfl
theorem S.mapAt {b:Nat} {m:List (Value×Value)} (st:S ψ h0 h os) (i:Nat) (j:os[i]?=some (.mp b m)):hmap h b=some m:=by
 obtain ⟨k,L,s,r⟩:=st
 obtain ⟨l,g,o,a,c,_,_⟩:=r.at j
 have e:g=[(b,.mp m)]:=c
 subst e
 exact s.row b (.mp m) (by rw [a];simp)
theorem ZFr {κ ν:Type} (o:κ->Value) (fv:ν->Value) (st:S ψ h0 h os) {K:Value->Heap->Prop} (l:∀ b j,S ψ h0 j (.mp b (mkV o fv [])::os)->K (.map (some b)) j):vMapNew h K:=by
 obtain ⟨k,L,s,r⟩:=st
 have a:=ExtH.push h (.map #[] 0)
 refine l _ _ ⟨k,(h.size,.mp [])::L,?_,[(h.size,.mp [])],L,rfl,rfl,r⟩
 refine ⟨s.ext.trans a,fun b r g=>?_,fun b c=>?_,?_,s.fle.trans (CLe.ext a),fun p u hp g=>?_,s.bas,s.old⟩
 ·rcases List.mem_cons.1 g with e|e
  ·cases e
   show hmap _ _=some []
   unfold hmap
   simp [ents]
  ·exact (s.row b r e).ext a
 ·rcases List.mem_cons.1 c with e|e
  ·rw [e];exact s.ext.1
  ·exact s.low b e
 ·refine List.nodup_cons.2 ⟨fun g=>?_,s.nod⟩
  have:=s.lt g
  exact absurd this (Nat.lt_irrefl _)
 ·rcases List.mem_cons.1 g with e|e
  ·have:=ZeR (s.fle p u hp)
   have w:p.block=h.size:=e
   omega
  ·exact s.dis p u hp e
theorem ZEP {κ:Type} [BEq κ] {d:TD} {g:κ->Value} (r:∀ a b,kEq d (g a) (g b)=some (a==b)) {b:Nat} {m:List (κ×Bool)} {k:κ} (st:S ψ h0 h os) (i:Nat) (u:os[i]?=some (.mp b (mkV g vBool m))) {j:Value} (l:j=g k) {K:Bool->Prop} (w:K (mpGet m k false)):mapGetB d (.map (some b)) j h K:=by
 subst l
 obtain ⟨o,c,e⟩:=ZmC (fv:=vBool) r k m
 exact ⟨_,o,st.mapAt i u,c,mpGet m k false,(e false).symm,w⟩
theorem Zze {φ:CM} {l o:Rws} {b:Nat} {m x:List (Value×Value)} {h':Heap} (s:S0 ψ h0 h φ (l++[(b,.mp m)]++o)) (hp:MapPut h b x h'):S0 ψ h0 h' φ (l++[(b,.mp x)]++o):=by
 obtain ⟨p1,p2,j⟩:=hp
 have w:Rws.bs (l++[(b,.mp x)]++o)=Rws.bs (l++[(b,.mp m)]++o):=by simp [Rws.bs]
 have y:b∈Rws.bs (l++[(b,.mp m)]++o):=by simp [Rws.bs]
 have a5:=s.low b y
 have a7:hmap h b=some m:=s.row b (.mp m) (by simp)
 refine ⟨⟨by rw [p1];exact s.ext.1,fun c a=>by rw [p2 c ω];exact s.ext.2 c a⟩,fun c r hm=>?_,by rw [w];exact s.low,by rw [w];exact s.nod,fun q u g=>?_,by rw [w];exact s.dis,s.bas,s.old⟩
 ·by_cases a:c=b
  ·subst a
   have f:=s.nod
   have hr:r=.mp x:=by
    simp only [Rws.bs,List.map_append,List.map_cons,List.map_nil,List.append_assoc] at f
    rcases List.mem_append.1 hm with e|e
    ·rcases List.mem_append.1 e with e|e
     ·exact absurd rfl ((List.nodup_append.1 f).2.2 c (List.mem_map.2 ⟨_,e,rfl⟩) c (by simp))
     ·simp at e;exact e
    ·have i:=(List.nodup_append.1 f).2.1
     simp only [List.cons_append,List.nil_append,List.nodup_cons] at i
     exact absurd (List.mem_map.2 ⟨_,e,rfl⟩) i.1
   subst hr
   exact j
  ·have a1:(c,r)∈l++[(b,Row.mp m)]++o:=by
    simp only [List.mem_append,List.mem_singleton] at hm ⊢
    rcases hm with (e|e)|e
    ·exact .inl (.inl e)
    ·cases e;exact absurd rfl a
    ·exact .inr e
   exact (s.row c r a1).same (p2 c a)
 ·have k:=s.dis q u g
  have a3:q.block≠b:=fun e=>k (by rw [e];exact y)
  rw [Zs0 (p2 q.block a3)]
  exact s.fle q u g
theorem Zte {κ ν:Type} [BEq κ] {d:TD} {j:κ->Value} {fv:ν->Value} (hk:∀ a b,kEq d (j a) (j b)=some (a==b)) {b:Nat} {m:List (κ×ν)} {k:κ} {v:ν} (st:S ψ h0 h os) (i:Nat) (ho:os[i]?=some (.mp b (mkV j fv m))) {w y:Value} (a3:w=j k) (a2:y=fv v) {K:Heap->Prop}
  (hK:∀ l,S ψ h0 l (os.set i (.mp b (mkV j fv (mpSet m k v))))->K l):vMapSet d (.map (some b)) w y h K:=by
 subst a3 a2
 obtain ⟨o,c,_⟩:=ZmC (fv:=fv) hk k m
 refine ⟨_,o,st.mapAt i ho,c,fun l hp=>hK l ?_⟩
 rw [ZuZ hk] at hp
 obtain ⟨u,L,s,r⟩:=st
 obtain ⟨L1,Lo,L2,e,f,_,g⟩:=r.at ho
 have x:Lo=[(b,.mp (mkV j fv m))]:=f
 subst x e
 exact ⟨u,_,Zze s hp,g u (.mp b (mkV j fv (mpSet m k v))) _ (CLe.refl _) rfl⟩
theorem b2s_S {v:Value} {xs:List Int} {s:ByteArray} (y:SlC (hcell h) (El.int .u8) v xs) (hp:gByt xs=some s) {K:ByteArray->Prop} (w:K s):vB2S v h K:=by
 unfold gByt at hp
 split at hp
 ·rename_i g
  cases hp
  have u:∀ x∈xs,((UInt8.ofNat x.toNat).toNat:Int)=x:=fun x hm=>by
   obtain ⟨l,o⟩:=g x hm
   have:(UInt8.ofNat x.toNat).toNat=x.toNat%256:=by simp
   rw [this];omega
  rcases y with ⟨rfl,rfl⟩|⟨a,c,rfl,p,hel⟩
  ·exact ⟨[],rfl,fun j b f=>by simp at f,w⟩
  ·refine ⟨xs.map fun n:Int=>UInt8.ofNat n.toNat,by simp,fun j b f=>⟨a,rfl,?_⟩,w⟩
   rw [List.getElem?_map,Option.map_eq_some_iff] at f
   obtain ⟨x,r,rfl⟩:=f
   obtain ⟨cs,i,k⟩:=hel j x r
   have:=i 0 (.int .u8 x) (by rw [k.2];rfl)
   rw [ZfY,Nat.add_zero] at this
   have e:j*(El.int .u8).z=j:=Nat.mul_one j
   rw [e] at this
   rw [this,u x (List.mem_of_getElem? r)]
 ·cases hp
end
end Go.Vc
