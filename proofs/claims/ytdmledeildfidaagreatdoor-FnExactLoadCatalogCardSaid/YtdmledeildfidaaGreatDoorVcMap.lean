import Derived.Test.YtdmledeildfidaaGreatDoorVcEl
namespace Go.Vc
set_option linter.unusedVariables false
set_option linter.unusedSimpArgs false
open Go
section
variable {ψ:CM} {h0 h:Heap} {os:List Ob}
theorem mask0 (h:Heap):hcell (hmask (fun _=>False) h)=hcell h:=by
 funext a;unfold hcell;rw [Zkv (fun h=>h)]
theorem ZH {k:IntKind} {a:Addr} {K:Int->Prop} (e:ldI k h a K):ldI k (hmask (fun _=>False) h) a K:=by unfold ldI;rw [mask0];exact e
theorem Znm {a:Addr} {K:ByteArray->Prop} (e:ldS h a K):ldS (hmask (fun _=>False) h) a K:=by unfold ldS;rw [mask0];exact e
theorem ZM {a:Addr} {K:Value->Prop} (e:ldV h a K):ldV (hmask (fun _=>False) h) a K:=by unfold ldV;rw [mask0];exact e
def mkV {κ ν:Type} (a:κ->Value) (fv:ν->Value) (m:List (κ×ν)):List (Value×Value):=m.map fun p=>(a p.1,fv p.2)
def kStr (s:ByteArray):Value:=.string s
def vBool (b:Bool):Value:=.bool b
theorem Zpk (a b:ByteArray):kEq .str (kStr a) (kStr b)=some (a==b):=rfl
theorem ZnL {κ ν:Type} [BEq κ] {d:TD} {g:κ->Value} {fv:ν->Value} (j:∀ a b,kEq d (g a) (g b)=some (a==b)) (k:κ):∀ (m:List (κ×ν)),∃ o,mGet d (g k) (mkV g fv m)=some o/\∀ z,o.getD (fv z)=fv (mpGet m k z)
 | []=>⟨none,rfl,fun _=>rfl⟩
 | (k',v)::r=>by
  obtain ⟨o,h1,e⟩:=ZnL (fv:=fv) j k r;cases c:k==k' with
  | true=>exact ⟨some (fv v),by simp only [mkV,List.map_cons,mGet,j,c],fun z=>by simp only [mpGet,c];rfl⟩
  | false=>exact ⟨o,by simp only [mkV,List.map_cons,mGet,j,c];exact h1,fun z=>by simp only [mpGet,c];exact e z⟩
theorem Zuz {κ ν:Type} [BEq κ] {d:TD} {e:κ->Value} {fv:ν->Value} (g:∀ a b,kEq d (e a) (e b)=some (a==b)) (k:κ) (v:ν):∀ (m:List (κ×ν)),mSet d (e k) (fv v) (mkV e fv m)=mkV e fv (mpSet m k v)
 | []=>rfl
 | (k',v')::r=>by
  have j:=Zuz (fv:=fv) g k v r;cases c:k==k' with
  | true=>simp only [mkV,List.map_cons,mSet,g,c,mpSet,cond_true]
  | false=>
   simp only [mkV,List.map_cons,mSet,g,c,mpSet,cond_false];rw [<-mkV,j];rfl
theorem S.mapAt {b:Nat} {m:List (Value×Value)} (st:S ψ h0 h os) (i:Nat) (g:os[i]?=some (.mp b m)):hmap h b=some m:=by
 obtain ⟨l,L,s,r⟩:=st;obtain ⟨o,j,k,a,c,_,_⟩:=r.at g;have e:j=[(b,.mp m)]:=c;subst e;exact s.row b (.mp m) (by rw [a];simp)
theorem ZGF {κ ν:Type} (l:κ->Value) (fv:ν->Value) (st:S ψ h0 h os) {K:Value->Heap->Prop} (k:∀ b j,S ψ h0 j (.mp b (mkV l fv [])::os)->K (.map (some b)) j):vMapNew h K:=by
 refine vMapNew.mk ?_;obtain ⟨o,L,s,r⟩:=st;have a:=ExtH.push h (.map #[] 0);refine k _ _ ⟨o,(h.size,.mp [])::L,?_,[(h.size,.mp [])],L,rfl,rfl,r⟩;refine ⟨s.ext.trans a,fun b r g=>?_,fun b c=>?_,?_,s.fle.trans (CLe.ext a),fun p u hp g=>?_,s.bas,s.old⟩
 ·rcases List.mem_cons.1 g with e|e
  ·cases e;show hmap _ _=some [];unfold hmap;simp [ents]
  ·exact (s.row b r e).ext a
 ·rcases List.mem_cons.1 c with e|e
  ·rw [e];exact s.ext.1
  ·exact s.low b e
 ·refine List.nodup_cons.2 ⟨fun g=>?_,s.nod⟩;have:=s.lt g;exact absurd this (Nat.lt_irrefl _)
 ·rcases List.mem_cons.1 g with e|e
  ·have:=Zct (s.fle p u hp);have w:p.block=h.size:=e;omega
  ·exact s.dis p u hp e
theorem ZD6 {κ:Type} [BEq κ] {d:TD} {e:κ->Value} (r:∀ a b,kEq d (e a) (e b)=some (a==b)) {b:Nat} {m:List (κ×Bool)} {k:κ} (st:S ψ h0 h os) (i:Nat) (u:os[i]?=some (.mp b (mkV e vBool m))) {g:Value} (j:g=e k) {K:Bool->Prop} (l:K (mpGet m k false)):mapGetB d (.map (some b)) g h K:=by
 subst j;obtain ⟨o,h1,c⟩:=ZnL (fv:=vBool) r k m;exact ⟨_,o,st.mapAt i u,h1,mpGet m k false,(c false).symm,l⟩
theorem ZJg {φ:CM} {o l:Rws} {b:Nat} {m x:List (Value×Value)} {h':Heap} (s:S0 ψ h0 h φ (o++[(b,.mp m)]++l)) (hp:MapPut h b x h'):S0 ψ h0 h' φ (o++[(b,.mp x)]++l):=by
 obtain ⟨p1,p2,j⟩:=hp;have w:Rws.bs (o++[(b,.mp x)]++l)=Rws.bs (o++[(b,.mp m)]++l):=by simp [Rws.bs]
 have a0:b∈Rws.bs (o++[(b,.mp m)]++l):=by simp [Rws.bs]
 have a6:=s.low b a0;have a8:hmap h b=some m:=s.row b (.mp m) (by simp);refine ⟨⟨by rw [p1];exact s.ext.1,fun c a=>by rw [p2 c ω];exact s.ext.2 c a⟩,fun c r hm=>?_,by rw [w];exact s.low,by rw [w];exact s.nod,fun q u g=>?_,by rw [w];exact s.dis,s.bas,s.old⟩
 ·by_cases a:c=b
  ·subst a;have f:=s.nod;have hr:r=.mp x:=by
    simp only [Rws.bs,List.map_append,List.map_cons,List.map_nil,List.append_assoc] at f;rcases List.mem_append.1 hm with e|e
    ·rcases List.mem_append.1 e with e|e
     ·exact absurd rfl ((List.nodup_append.1 f).2.2 c (List.mem_map.2 ⟨_,e,rfl⟩) c (by simp))
     ·simp at e;exact e
    ·have i:=(List.nodup_append.1 f).2.1;simp only [List.cons_append,List.nil_append,List.nodup_cons] at i;exact absurd (List.mem_map.2 ⟨_,e,rfl⟩) i.1
   subst hr;exact j
  ·have a3:(c,r)∈o++[(b,Row.mp m)]++l:=by
    simp only [List.mem_append,List.mem_singleton] at hm ⊢;rcases hm with (e|e)|e
    ·exact .inl (.inl e)
    ·cases e;exact absurd rfl a
    ·exact .inr e
   exact (s.row c r a3).same (p2 c a)
 ·have k:=s.dis q u g;have a2:q.block≠b:=fun e=>k (by rw [e];exact a0);rw [ZvZ (p2 q.block a2)];exact s.fle q u g
theorem Zto {κ ν:Type} [BEq κ] {d:TD} {g:κ->Value} {fv:ν->Value} (x:∀ a b,kEq d (g a) (g b)=some (a==b)) {b:Nat} {m:List (κ×ν)} {k:κ} {v:ν} (st:S ψ h0 h os) (i:Nat) (ho:os[i]?=some (.mp b (mkV g fv m))) {l w:Value} (a1:l=g k) (a0:w=fv v) {K:Heap->Prop}
  (hK:∀ j,S ψ h0 j (os.set i (.mp b (mkV g fv (mpSet m k v))))->K j):vMapSet d (.map (some b)) l w h K:=by
 subst a1 a0;obtain ⟨o,h1,_⟩:=ZnL (fv:=fv) x k m;refine ⟨_,o,st.mapAt i ho,h1,fun j hp=>hK j ?_⟩;rw [Zuz x] at hp;obtain ⟨φ,L,s,r⟩:=st;obtain ⟨L1,Lo,L2,c,e,_,f⟩:=r.at ho;have u:Lo=[(b,.mp (mkV g fv m))]:=e;subst u c;exact ⟨φ,_,ZJg s hp,f φ (.mp b (mkV g fv (mpSet m k v))) _ (CLe.refl _) rfl⟩
theorem Zcz (s:ByteArray):(byts s).length=s.size:=by
 unfold byts;rw [List.length_map,Array.length_toList];rfl
theorem s2b_S {s:ByteArray} (st:S ψ h0 h os) {K:Value->Heap->Prop} (hk:∀ v k,S ψ h0 k (.it (El.sl (El.int .u8)) [v] (byts s)::os)->K v k):vS2B s h K:=by
 intro a4 k a6 f a7 o;obtain ⟨l,L,a,r⟩:=st;refine hk _ _ ?_
 classical
 let a1:CM:=fun p=>if p.block=h.size then hcell k p else l p
 have a0:CLe l a1:=fun p u hp=>by
  have:=Zct (a.fle p u hp);show (if p.block=h.size then hcell k p else l p)=some u;rw [if_neg ω];exact hp
 refine ⟨a1,L,⟨a.ext.trans f,fun b r w=>(a.row b r w).ext f,a.low,a.nod,fun p u hp=>?_,fun p u hp w=>?_,a.bas.trans a0,fun p u hp a3=>?_⟩,[],L,rfl,El.sl_of (.inr ⟨⟨h.size,0,none⟩,a4,?_,?_,fun i x hi=>?_⟩),r.mono a0⟩
 ·have g:(if p.block=h.size then hcell k p else l p)=some u:=hp;by_cases c:p.block=h.size
  ·rw [if_pos c] at g;exact g
  ·rw [if_neg c] at g;exact CLe.ext f _ _ (a.fle p u g)
 ·have g:(if p.block=h.size then hcell k p else l p)=some u:=hp;have:=a.lt w;rw [if_neg ω] at g;exact a.dis p u g w
 ·have g:(if p.block=h.size then hcell k p else l p)=some u:=hp;have:=a.ext.1;rw [if_neg ω] at g;exact a.old p u g a3
 ·have:(byts s).length=s.size:=Zcz s;rw [this]
 ·have:(byts s).length=s.size:=Zcz s;omega
 ·unfold byts at hi;rw [List.getElem?_map,Option.map_eq_some_iff] at hi;obtain ⟨b,c,rfl⟩:=hi;refine ⟨[.int .u8 b.toNat],fun j u hu=>?_,rfl,rfl⟩;cases j with
  | succ j=>simp at hu
  | zero=>
   simp at hu;subst hu;rw [ZP,ZP];show (if h.size=h.size then hcell k _ else _)=_;rw [if_pos rfl];have:=o i b c;have e:i*(El.int .u8).z=i:=Nat.mul_one i;rw [e,Nat.zero_add,Nat.add_zero];exact this
theorem b2s_S {v:Value} {xs:List Int} {s:ByteArray} (ha:SlC (hcell h) (El.int .u8) v xs) (hp:gByt xs=some s) {K:ByteArray->Prop} (u:K s):vB2S v h K:=by
 unfold gByt at hp;split at hp
 ·rename_i g;cases hp;have w:∀ x∈xs,((UInt8.ofNat x.toNat).toNat:Int)=x:=fun x hm=>by
   obtain ⟨h1,l⟩:=g x hm;have:(UInt8.ofNat x.toNat).toNat=x.toNat%256:=by simp
   rw [this];omega
  rcases ha with ⟨rfl,rfl⟩|⟨a,c,rfl,o,hel⟩
  ·exact ⟨[],rfl,fun j b f=>by simp at f,u⟩
  ·refine ⟨xs.map fun n:Int=>UInt8.ofNat n.toNat,by simp,fun j b f=>⟨a,rfl,?_⟩,u⟩;rw [List.getElem?_map,Option.map_eq_some_iff] at f;obtain ⟨x,r,rfl⟩:=f;obtain ⟨cs,i,k⟩:=hel j x r;have:=i 0 (.int .u8 x) (by rw [k.2];rfl);rw [ZeL,Nat.add_zero] at this;have e:j*(El.int .u8).z=j:=Nat.mul_one j;rw [e] at this;rw [this,w x (List.mem_of_getElem? r)]
 ·cases hp
end
end Go.Vc
