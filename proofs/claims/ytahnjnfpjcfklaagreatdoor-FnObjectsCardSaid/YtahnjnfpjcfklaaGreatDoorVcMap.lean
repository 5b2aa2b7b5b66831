import Derived.Test.YtahnjnfpjcfklaaGreatDoorVcEl
namespace Go.Vc
set_option linter.unusedVariables false
set_option linter.unusedSimpArgs false
open Go
section
variable {ψ:CM} {h0 h:Heap} {os:List Ob}
theorem mask0 (h:Heap):hcell (hmask (fun _=>False) h)=hcell h:=by
 funext a;unfold hcell;rw [ZiP (fun h=>h)]
theorem ZT {k:IntKind} {a:Addr} {K:Int->Prop} (e:ldI k h a K):ldI k (hmask (fun _=>False) h) a K:=by unfold ldI;rw [mask0];exact e
theorem Z4 {a:Addr} {K:Value->Prop} (e:ldV h a K):ldV (hmask (fun _=>False) h) a K:=by unfold ldV;rw [mask0];exact e
def mkV {κ ν:Type} (a:κ->Value) (fv:ν->Value) (m:List (κ×ν)):List (Value×Value):=m.map fun p=>(a p.1,fv p.2)
def kStr (s:ByteArray):Value:=.string s
def vBool (b:Bool):Value:=.bool b
theorem Zlz (a b:ByteArray):kEq .str (kStr a) (kStr b)=some (a==b):=rfl
theorem Zng {κ ν:Type} [BEq κ] {d:TD} {g:κ->Value} {fv:ν->Value} (j:∀ a b,kEq d (g a) (g b)=some (a==b)) (k:κ):∀ (m:List (κ×ν)),∃ o,mGet d (g k) (mkV g fv m)=some o/\∀ z,o.getD (fv z)=fv (mpGet m k z)
 | []=>⟨none,rfl,fun _=>rfl⟩
 | (k',v)::r=>by
  obtain ⟨o,h1,f⟩:=Zng (fv:=fv) j k r;cases e:k==k' with
  | true=>exact ⟨some (fv v),by simp only [mkV,List.map_cons,mGet,j,e],fun z=>by simp only [mpGet,e];rfl⟩
  | false=>exact ⟨o,by simp only [mkV,List.map_cons,mGet,j,e];exact h1,fun z=>by simp only [mpGet,e];exact f z⟩
theorem ZtU {κ ν:Type} [BEq κ] {d:TD} {g:κ->Value} {fv:ν->Value} (j:∀ a b,kEq d (g a) (g b)=some (a==b)) (k:κ) (v:ν):∀ (m:List (κ×ν)),mSet d (g k) (fv v) (mkV g fv m)=mkV g fv (mpSet m k v)
 | []=>rfl
 | (k',v')::r=>by
  have l:=ZtU (fv:=fv) j k v r;cases e:k==k' with
  | true=>simp only [mkV,List.map_cons,mSet,j,e,mpSet,cond_true]
  | false=>
   simp only [mkV,List.map_cons,mSet,j,e,mpSet,cond_false];rw [<-mkV,l];rfl
theorem S.mapAt {b:Nat} {m:List (Value×Value)} (st:S ψ h0 h os) (i:Nat) (k:os[i]?=some (.mp b m)):hmap h b=some m:=by
 obtain ⟨φ,L,s,r⟩:=st;obtain ⟨o,j,l,a,e,_,_⟩:=r.at k;have g:j=[(b,.mp m)]:=e;subst g;exact s.row b (.mp m) (by rw [a];simp)
theorem ZB5 {κ ν:Type} (k:κ->Value) (fv:ν->Value) (st:S ψ h0 h os) {K:Value->Heap->Prop} (l:∀ b j,S ψ h0 j (.mp b (mkV k fv [])::os)->K (.map (some b)) j):vMapNew h K:=by
 refine vMapNew.mk ?_;obtain ⟨φ,L,s,r⟩:=st;have a:=ExtH.push h (.map #[] 0);refine l _ _ ⟨φ,(h.size,.mp [])::L,?_,[(h.size,.mp [])],L,rfl,rfl,r⟩;refine ⟨s.ext.trans a,fun b r g=>?_,fun b f=>?_,?_,s.fle.trans (CLe.ext a),fun p u hp g=>?_,s.bas,s.old⟩
 ·rcases List.mem_cons.1 g with e|e
  ·cases e;show hmap _ _=some [];unfold hmap;simp [ents]
  ·exact (s.row b r e).ext a
 ·rcases List.mem_cons.1 f with e|e
  ·rw [e];exact s.ext.1
  ·exact s.low b e
 ·refine List.nodup_cons.2 ⟨fun g=>?_,s.nod⟩;have:=s.lt g;exact absurd this (Nat.lt_irrefl _)
 ·rcases List.mem_cons.1 g with e|e
  ·have:=Zc4 (s.fle p u hp);have o:p.block=h.size:=e;omega
  ·exact s.dis p u hp e
theorem ZH7 {κ:Type} [BEq κ] {d:TD} {g:κ->Value} (r:∀ a b,kEq d (g a) (g b)=some (a==b)) {b:Nat} {m:List (κ×Bool)} {k:κ} (st:S ψ h0 h os) (i:Nat) (w:os[i]?=some (.mp b (mkV g vBool m))) {j:Value} (l:j=g k) {K:Bool->Prop} (u:K (mpGet m k false)):mapGetB d (.map (some b)) j h K:=by
 subst l;obtain ⟨o,h1,e⟩:=Zng (fv:=vBool) r k m;exact ⟨_,o,st.mapAt i w,h1,mpGet m k false,(e false).symm,u⟩
theorem ZHl {φ:CM} {l o:Rws} {b:Nat} {m x:List (Value×Value)} {h':Heap} (s:S0 ψ h0 h φ (l++[(b,.mp m)]++o)) (hp:MapPut h b x h'):S0 ψ h0 h' φ (l++[(b,.mp x)]++o):=by
 obtain ⟨p1,p2,j⟩:=hp;have w:Rws.bs (l++[(b,.mp x)]++o)=Rws.bs (l++[(b,.mp m)]++o):=by simp [Rws.bs]
 have a2:b∈Rws.bs (l++[(b,.mp m)]++o):=by simp [Rws.bs]
 have a8:=s.low b a2;have a9:hmap h b=some m:=s.row b (.mp m) (by simp);refine ⟨⟨by rw [p1];exact s.ext.1,fun c a=>by rw [p2 c ω];exact s.ext.2 c a⟩,fun c r hm=>?_,by rw [w];exact s.low,by rw [w];exact s.nod,fun q u g=>?_,by rw [w];exact s.dis,s.bas,s.old⟩
 ·by_cases a:c=b
  ·subst a;have f:=s.nod;have hr:r=.mp x:=by
    simp only [Rws.bs,List.map_append,List.map_cons,List.map_nil,List.append_assoc] at f;rcases List.mem_append.1 hm with e|e
    ·rcases List.mem_append.1 e with e|e
     ·exact absurd rfl ((List.nodup_append.1 f).2.2 c (List.mem_map.2 ⟨_,e,rfl⟩) c (by simp))
     ·simp at e;exact e
    ·have i:=(List.nodup_append.1 f).2.1;simp only [List.cons_append,List.nil_append,List.nodup_cons] at i;exact absurd (List.mem_map.2 ⟨_,e,rfl⟩) i.1
   subst hr;exact j
  ·have a4:(c,r)∈l++[(b,Row.mp m)]++o:=by
    simp only [List.mem_append,List.mem_singleton] at hm ⊢;rcases hm with (e|e)|e
    ·exact .inl (.inl e)
    ·cases e;exact absurd rfl a
    ·exact .inr e
   exact (s.row c r a4).same (p2 c a)
 ·have k:=s.dis q u g;have a5:q.block≠b:=fun e=>k (by rw [e];exact a2);rw [ZuL (p2 q.block a5)];exact s.fle q u g
theorem ZvC {κ ν:Type} [BEq κ] {d:TD} {j:κ->Value} {fv:ν->Value} (hk:∀ a b,kEq d (j a) (j b)=some (a==b)) {b:Nat} {m:List (κ×ν)} {k:κ} {v:ν} (st:S ψ h0 h os) (i:Nat) (ho:os[i]?=some (.mp b (mkV j fv m))) {kv w:Value} (a2:kv=j k) (x:w=fv v) {K:Heap->Prop}
  (hK:∀ l,S ψ h0 l (os.set i (.mp b (mkV j fv (mpSet m k v))))->K l):vMapSet d (.map (some b)) kv w h K:=by
 subst a2 x;obtain ⟨o,h1,_⟩:=Zng (fv:=fv) hk k m;refine ⟨_,o,st.mapAt i ho,h1,fun l hp=>hK l ?_⟩;rw [ZtU hk] at hp;obtain ⟨φ,L,s,r⟩:=st;obtain ⟨L1,Lo,L2,e,f,_,g⟩:=r.at ho;have u:Lo=[(b,.mp (mkV j fv m))]:=f;subst u e;exact ⟨φ,_,ZHl s hp,g φ (.mp b (mkV j fv (mpSet m k v))) _ (CLe.refl _) rfl⟩
theorem b2s_S {v:Value} {xs:List Int} {s:ByteArray} (ha:SlC (hcell h) (El.int .u8) v xs) (hp:gByt xs=some s) {K:ByteArray->Prop} (w:K s):vB2S v h K:=by
 unfold gByt at hp;split at hp
 ·rename_i g;cases hp;have u:∀ x∈xs,((UInt8.ofNat x.toNat).toNat:Int)=x:=fun x hm=>by
   obtain ⟨h1,l⟩:=g x hm;have:(UInt8.ofNat x.toNat).toNat=x.toNat%256:=by simp
   rw [this];omega
  rcases ha with ⟨rfl,rfl⟩|⟨a,c,rfl,o,hel⟩
  ·exact ⟨[],rfl,fun j b f=>by simp at f,w⟩
  ·refine ⟨xs.map fun n:Int=>UInt8.ofNat n.toNat,by simp,fun j b f=>⟨a,rfl,?_⟩,w⟩;rw [List.getElem?_map,Option.map_eq_some_iff] at f;obtain ⟨x,r,rfl⟩:=f;obtain ⟨cs,i,k⟩:=hel j x r;have:=i 0 (.int .u8 x) (by rw [k.2];rfl);rw [Zel,Nat.add_zero] at this;have e:j*(El.int .u8).z=j:=Nat.mul_one j;rw [e] at this;rw [this,u x (List.mem_of_getElem? r)]
 ·cases hp
end
end Go.Vc
