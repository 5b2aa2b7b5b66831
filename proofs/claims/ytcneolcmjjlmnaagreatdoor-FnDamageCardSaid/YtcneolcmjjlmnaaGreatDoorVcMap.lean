import Derived.Test.YtcneolcmjjlmnaaGreatDoorVcEl
open List renaming map_cons->JG,replicate->Jn,length_set->JC,getElem?_map->JP
open Nat renaming mul_one->JS,zero_add->Xk,add_zero->XA
open Option renaming map_eq_some_iff->X4,some->Jg
open Go renaming Value->Jl
namespace Go.Vc
set_option linter.unusedVariables false
set_option linter.unusedSimpArgs false
open Go
section
variable {ψ:CM} {h0 h:Heap} {os:List Ob}
theorem mask0 (h:Heap):hcell (hmask (λ_=>False) h)=hcell h:=by
 grind [hcell,ZjX]
theorem Z9 {k:IntKind} {a:Addr} {K:Int->Prop} (e:ldI k h a K):ldI k (hmask (λ_=>False) h) a K:=by unfold ldI;rw [mask0];exact e
theorem ZF5 {a:Addr} {K:Bool->Prop} (e:ldB h a K):ldB (hmask (λ_=>False) h) a K:=by unfold ldB;rw [mask0];exact e
theorem Zpl {a:Addr} {K:Jd->Prop} (e:ldS h a K):ldS (hmask (λ_=>False) h) a K:=by unfold ldS;rw [mask0];exact e
theorem ZEA {a:Addr} {K:Addr->Prop} (e:ldP h a K):ldP (hmask (λ_=>False) h) a K:=by unfold ldP;rw [mask0];exact e
theorem Z8 {a:Addr} {K:Jl->Prop} (e:ldV h a K):ldV (hmask (λ_=>False) h) a K:=by unfold ldV;rw [mask0];exact e
def mkV {κ ν:Type} (e:κ->Jl) (fv:ν->Jl) (m:List (κ×ν)):List (Jl×Jl):=m.map λp=>(e p.1,fv p.2)
def kStr (s:Jd):Value:=.string s
def vBool (b:Bool):Value:=.bool b
theorem Ztq (a b:Jd):kEq .str (kStr a) (kStr b)=Jg (a==b):=rfl
theorem ZqU {κ ν:Type} [BEq κ] {d:TD} {g:κ->Jl} {fv:ν->Jl} (j:∀a b,kEq d (g a) (g b)=Jg (a==b)) (k:κ):∀(m:List (κ×ν)),∃o,mGet d (g k) (mkV g fv m)=Jg o/\∀z,o.getD (fv z)=fv (mpGet m k z)
 | []=>⟨none,rfl,λ_=>rfl⟩
 | (k',v)::r=>by
  obtain ⟨o,h1,e⟩:=ZqU (fv:=fv) j k r;grind [mkV,mGet,mpGet]
theorem ZAF {κ ν:Type} [BEq κ] {d:TD} {g:κ->Jl} {fv:ν->Jl} (j:∀a b,kEq d (g a) (g b)=Jg (a==b)) (k:κ) (v:ν):∀(m:List (κ×ν)),mSet d (g k) (fv v) (mkV g fv m)=mkV g fv (mpSet m k v)
 | []=>rfl
 | (k',v')::r=>by
  have l:=ZAF (fv:=fv) j k v r;cases e:k==k' with
  | true=>simp only [mkV,JG,mSet,j,e,mpSet,cond_true]
  | false=>
   simp_all [mkV,JG,mSet,mpSet,cond_false]
theorem S.mapAt {b:Nat} {m:List (Jl×Jl)} (st:S ψ h0 h os) (i:Nat) (k:os[i]?=Jg (.mp b m)):hmap h b=Jg m:=by
 obtain ⟨φ,L,s,r⟩:=st;obtain ⟨o,j,l,a,e,_,_⟩:=r.at k;have g:j=[(b,.mp m)]:=e;subst g;exact s.row b (.mp m) (by rw [a];simp)
theorem ZLU {κ ν:Type} (l:κ->Jl) (fv:ν->Jl) (st:S ψ h0 h os) {K:Jl->Heap->Prop} (k:∀b j,S ψ h0 j (.mp b (mkV l fv [])::os)->K (.map (Jg b)) j):vMapNew h K:=by
 refine vMapNew.mk ?_;obtain ⟨φ,L,s,r⟩:=st;have a:=ExtH.push h (.map #[] 0);refine k _ _ ⟨φ,(h.size,.mp [])::L,?_,[(h.size,.mp [])],L,rfl,rfl,r⟩;refine ⟨s.ext.trans a,λb r g=>?_,λb f=>?_,?_,s.fle.trans (CLe.ext a),λp u hp g=>?_,s.bas,s.old⟩
 .rcases List.mem_cons.1 g with e|e
  .cases e;show hmap _ _=Jg [];simp [hmap,ents]
  .exact (s.row b r e).ext a
 .rcases List.mem_cons.1 f with e|e
  .rw [e];exact s.ext.1
  .exact s.low b e
 .refine List.nodup_cons.2 ⟨λg=>?_,s.nod⟩;have:=s.lt g;omega
 .rcases List.mem_cons.1 g with e|e
  .have:=Zda (s.fle p u hp);omega
  .exact s.dis p u hp e
theorem ZNf {κ:Type} [BEq κ] {d:TD} {g:κ->Jl} (u:∀a b,kEq d (g a) (g b)=Jg (a==b)) {b:Nat} {m:List (κ×Bool)} {k:κ} (st:S ψ h0 h os) (i:Nat) (x:os[i]?=Jg (.mp b (mkV g vBool m))) {l:Jl} (j:l=g k) {K:Bool->Prop} (w:K (mpGet m k false)):mapGetB d (.map (Jg b)) l h K:=by
 subst j;obtain ⟨o,h1,e⟩:=ZqU (fv:=vBool) u k m;exact ⟨_,o,st.mapAt i x,h1,mpGet m k false,(e false).symm,w⟩
theorem ZJk {φ:CM} {l k:Rws} {b:Nat} {m w:List (Jl×Jl)} {h':Heap} (s:S0 ψ h0 h φ (l++[(b,.mp m)]++k)) (hp:MapPut h b w h'):S0 ψ h0 h' φ (l++[(b,.mp w)]++k):=by
 obtain ⟨p1,p2,g⟩:=hp;have o:Rws.bs (l++[(b,.mp w)]++k)=Rws.bs (l++[(b,.mp m)]++k):=by simp [Rws.bs]
 have x:b∈Rws.bs (l++[(b,.mp m)]++k):=by simp [Rws.bs]
 have a6:=s.low b x;have a7:hmap h b=Jg m:=s.row b (.mp m) (by simp);refine ⟨⟨by rw [p1];exact s.ext.1,λc a=>by rw [p2 c Z];exact s.ext.2 c a⟩,λc r hm=>?_,by rw [o];exact s.low,by rw [o];exact s.nod,λq u f=>?_,by rw [o];exact s.dis,s.bas,s.old⟩
 .by_cases a:c=b
  .subst a;have j:=s.nod;have hr:r=.mp w:=by
    grind
   subst hr;exact g
  .have a2:(c,r)∈l++[(b,Row.mp m)]++k:=by
    grind
   exact (s.row c r a2).same (p2 c a)
 .have i:=s.dis q u f;have a3:q.block≠b:=λe=>i (by rw [e];exact x);rw [ZwC (p2 q.block a3)];exact s.fle q u f
theorem ZDj {κ ν:Type} [BEq κ] {d:TD} {j:κ->Jl} {fv:ν->Jl} (u:∀a b,kEq d (j a) (j b)=Jg (a==b)) {b:Nat} {m:List (κ×ν)} {k:κ} {v:ν} (st:S ψ h0 h os) (i:Nat) (ho:os[i]?=Jg (.mp b (mkV j fv m))) {kv w:Jl} (a4:kv=j k) (x:w=fv v) {K:Heap->Prop}
  (hK:∀l,S ψ h0 l (os.set i (.mp b (mkV j fv (mpSet m k v))))->K l):vMapSet d (.map (Jg b)) kv w h K:=by
 subst a4 x;obtain ⟨o,h1,_⟩:=ZqU (fv:=fv) u k m;refine ⟨_,o,st.mapAt i ho,h1,λl hp=>hK l ?_⟩;rw [ZAF u] at hp;obtain ⟨φ,L,s,r⟩:=st;obtain ⟨L1,Lo,L2,e,f,_,g⟩:=r.at ho;have a5:Lo=[(b,.mp (mkV j fv m))]:=f;subst a5 e;exact ⟨φ,_,ZJk s hp,g φ (.mp b (mkV j fv (mpSet m k v))) _ (CLe.refl _) rfl⟩
theorem ZbC (s:Jd):(byts s).length=s.size:=by
 unfold byts;simp
theorem ZGF {s:Jd} {e:Heap} {b:Nat} {t:TypeId} {n:Nat×Nat} {r:Nat} (g:e[b]?=Jg (.cells ((s.data.toList.map λb:UInt8=>Value.int .u8 b.toNat)++Jn r (Value.int .u8 0)).toArray t n)) (j:Nat) (c:UInt8) (a:s.data.toList[j]?=Jg c):hcell e ⟨b,j,none⟩=Jg (.int .u8 c.toNat):=by
 unfold hcell;grind
def BL (h0 h:Heap) (v:Jl) (xs:Jb):Prop:=∃b c t n r,v=.slice (Jg ⟨b,0,none⟩) xs.length c/\xs.length<=c/\h0.size<=b/\h[b]?=Jg (.cells ((xs.map (Value.int .u8))++Jn r (Value.int .u8 0)).toArray t n)/\xs.length<=n.1
theorem BL.ext {v:Jl} {xs:Jb} (l:BL h0 h v xs) {k:Heap} (a:ExtH h k):BL h0 k v xs:=by
 obtain ⟨b,c,t,n,r,e,f,g,j,i⟩:=l;exact ⟨b,c,t,n,r,e,f,g,by rw [a.2 b (Array.getElem?_eq_some_iff.1 j).1];exact j,i⟩
theorem BL.at {xs:Jb} {b:Nat} {t:TypeId} {n:Nat×Nat} {r:Nat} (e:h[b]?=Jg (.cells ((xs.map (Value.int .u8))++Jn r (Value.int .u8 0)).toArray t n)) {i:Nat} {x:Int} (hi:xs[i]?=Jg x):hcell h ⟨b,i,none⟩=Jg (.int .u8 x):=by
 unfold hcell;grind
theorem BL.sl {v:Jl} {xs:Jb} (l:BL h0 h v xs):SlC (hcell h) (El.int .u8) v xs:=by
 obtain ⟨b,c,t,n,r,rfl,a,f,o,g⟩:=l;refine .inr ⟨_,c,rfl,a,λi x hi=>⟨[.int .u8 x],λj u k=>?_,rfl,rfl⟩⟩;cases j with
 | succ j=>simp at k
 | zero=>
  simp at k;subst k;rw [ZY,ZY];have e:i*(El.int .u8).z=i:=JS i;rw [e,Xk,XA];exact BL.at o hi
theorem S.bare (a:CLe ψ (hcell h0)) (e:ExtH h0 h):S ψ h0 h []:=
 ⟨ψ,[],⟨e,λ_ _ g=>(by cases g),λ_ g=>(by cases g),List.nodup_nil,λp u hp=>CLe.ext e _ _ (a p u hp),λ_ _ _ g=>(by cases g),CLe.refl _,λ_ _ hp _=>hp⟩,rfl⟩
theorem s2bB {s:Jd} (a:CLe ψ (hcell h0)) (st:S ψ h0 h os) {K:Jl->Heap->Prop} (w:∀v l,S ψ h0 l []->BL h0 l v (byts s)->K v l):vS2B s h K:=by
 intro o l u g x ⟨t,n,r,hw,i,j⟩;have k:(byts s).length=s.size:=ZbC s;have f:=st.ext;have e:=w (.slice (Jg ⟨h.size,0,none⟩) (byts s).length o) l (S.bare a (f.trans g)) ⟨h.size,o,t,n,r,rfl,by omega,f.1,by
  unfold byts;simp_all,by omega⟩
 grind
theorem st1B (f:CLe ψ (hcell h0)) {v:Jl} {xs:Jb} {i:Int} {x y:Int} {q:Addr} {K:Heap->Prop} (l:BL h0 h v xs) (o:AddrOf v i 1 q) (hi:gIdx xs i=Jg x) (st:S ψ h0 h os) (hk:∀h',S ψ h0 h' []->BL h0 h' v (xs.set i.toNat y)->K h'):vStore1 h q (.int .u8 y) K:=by
 obtain ⟨b,c,t,n,r,rfl,u,s,hw,w⟩:=l;obtain ⟨h1,g⟩:=ZaK hi;obtain ⟨a,n',c',e,rfl⟩:=o;cases e;have hl:=Zad g;have j:=st.ext;rw [JS,ZY,Xk];refine ⟨rfl,⟨_,BL.at hw g⟩,?_,hk _ (S.bare f ?_) ⟨b,c,t,n,r,by rw [JC],by rwa [JC],s,?_,by rwa [JC]⟩⟩
 .unfold hfroz;grind
 .refine ⟨by rw [ZB5];exact j.1,λk a3=>?_⟩;rw [ZAQ (by show k≠b;omega)];exact j.2 k a3
 .unfold hset;rw [Array.getElem?_modify,if_pos rfl,hw];simp_all
theorem s2b_S {s:Jd} (st:S ψ h0 h os) {K:Jl->Heap->Prop} (hk:∀v k,S ψ h0 k (.it (El.sl (El.int .u8)) [v] (byts s)::os)->K v k):vS2B s h K:=by
 intro a3 k a7 e a8 ⟨t,n,r',hw,_⟩;have a5:=ZGF hw;obtain ⟨φ,L,a,r⟩:=st;refine hk _ _ ?_
 classical
 let w:CM:=λp=>if p.block=h.size then hcell k p else φ p
 have o:CLe φ w:=λp u hp=>by
  have:=Zda (a.fle p u hp);grind
 refine ⟨w,L,⟨a.ext.trans e,λb r l=>(a.row b r l).ext e,a.low,a.nod,λp u hp=>?_,λp u hp l=>?_,a.bas.trans o,λp u hp a4=>?_⟩,[],L,rfl,El.sl_of (.inr ⟨⟨h.size,0,none⟩,a3,?_,?_,λi x hi=>?_⟩),r.mono o⟩
 .have g:(if p.block=h.size then hcell k p else φ p)=Jg u:=hp;by_cases f:p.block=h.size
  .rw [if_pos f] at g;exact g
  .rw [if_neg f] at g;exact CLe.ext e _ _ (a.fle p u g)
 .have g:(if p.block=h.size then hcell k p else φ p)=Jg u:=hp;have:=a.lt l;rw [if_neg Z] at g;exact a.dis p u g l
 .have g:(if p.block=h.size then hcell k p else φ p)=Jg u:=hp;have:=a.ext.1;rw [if_neg Z] at g;exact a.old p u g a4
 .have:(byts s).length=s.size:=ZbC s;rw [this]
 .have:(byts s).length=s.size:=ZbC s;omega
 .unfold byts at hi;rw [JP,X4] at hi;obtain ⟨b,f,rfl⟩:=hi;refine ⟨[.int .u8 b.toNat],λj u hu=>?_,rfl,rfl⟩;cases j with
  | succ j=>simp at hu
  | zero=>
   simp at hu;subst hu;rw [ZY,ZY];show (if h.size=h.size then hcell k _ else _)=_;rw [if_pos rfl];simp_all [El.int,JS,Xk,XA]
theorem b2s_S {v:Jl} {xs:Jb} {s:Jd} (ha:SlC (hcell h) (El.int .u8) v xs) (hp:gByt xs=Jg s) {K:Jd->Prop} (u:K s):vB2S v h K:=by
 unfold gByt at hp;split at hp
 .rename_i g;cases hp;have a4:∀x∈xs,((UInt8.ofNat x.toNat).toNat:Int)=x:=λx hm=>by
   obtain ⟨h1,l⟩:=g x hm;have:(UInt8.ofNat x.toNat).toNat=x.toNat%256:=by simp
   omega
  rcases ha with ⟨rfl,rfl⟩|⟨a,c,rfl,o,hel⟩
  .exact ⟨[],rfl,λj b f=>by simp at f,u⟩
  .refine ⟨xs.map λn:Int=>UInt8.ofNat n.toNat,by simp,λj b f=>⟨a,rfl,?_⟩,u⟩;rw [JP,X4] at f;obtain ⟨x,w,rfl⟩:=f;obtain ⟨cs,i,k⟩:=hel j x w;have:=i 0 (.int .u8 x) (by rw [k.2];rfl);rw [Zfw,XA] at this;have e:j*(El.int .u8).z=j:=JS j;grind
 .cases hp
end
end Go.Vc
