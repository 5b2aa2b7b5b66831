import Derived.Test.YtccncimchmimdaaGreatDoorPuJa
import Derived.Test.YtccncimchmimdaaGreatDoorPuJd
namespace Go.Proofs.YtccncimchmimdaaGreatDoor
open Go Go.Vc
set_option linter.unusedSimpArgs false
set_option linter.unusedVariables false
theorem ZjL {α:Type} {R:α->α->Prop} (asym:∀ x y,R x y->¬ R y x):∀ {a b:List α},a.Pairwise R->b.Pairwise R->(∀ x,x∈a↔x∈b)->a=b
 | [],[],_,_,_=>rfl
 | [],y::b,_,_,h=>by have:=(h y).2 (List.mem_cons_self ..);simp at this
 | x::a,[],_,_,h=>by have:=(h x).1 (List.mem_cons_self ..);simp at this
 | x::a,y::b,ha,c,h=>by
  rw [List.pairwise_cons] at ha c
  have j:∀ x,¬ R x x:=fun x f=>asym x x f f
  have e:x=y:=by
   rcases List.mem_cons.1 ((h x).1 (List.mem_cons_self ..)) with e|f
   ·exact e
   ·rcases List.mem_cons.1 ((h y).2 (List.mem_cons_self ..)) with e|hy
    ·exact e.symm
    ·exact absurd (ha.1 y hy) (asym _ _ (c.1 x f))
  subst e
  rw [ZjL asym ha.2 c.2 fun z=>?_]
  constructor
  ·intro hz
   rcases List.mem_cons.1 ((h z).1 (List.mem_cons_of_mem _ hz)) with e|hz'
   ·subst e;exact absurd (ha.1 z hz) (j z)
   ·exact hz'
  ·intro hz
   rcases List.mem_cons.1 ((h z).2 (List.mem_cons_of_mem _ hz)) with e|hz'
   ·subst e;exact absurd (c.1 z hz) (j z)
   ·exact hz'
def insL {α:Type} (c:α->Int) (y:α):List α->List α
 | []=>[y]
 | x::r=>if c x<0 then x::insL c y r else if c x=0 then x::r else y::x::r
theorem ZiT {α:Type} {c:α->Int} {y:α} (b:∀ x,c x=0->x=y):∀ {l:List α} {z:α},z∈insL c y l↔z=y\/z∈l
 | [],z=>by simp [insL]
 | x::r,z=>by
  rw [insL]
  by_cases e:c x<0
  ·rw [if_pos e,List.mem_cons,ZiT b,List.mem_cons]
   constructor
   ·rintro (h|h|h)
    ·exact .inr (.inl h)
    ·exact .inl h
    ·exact .inr (.inr h)
   ·rintro (h|h|h)
    ·exact .inr (.inl h)
    ·exact .inl h
    ·exact .inr (.inr h)
  ·rw [if_neg e]
   by_cases a:c x=0
   ·rw [if_pos a]
    have:=b x a
    subst this
    constructor
    ·exact .inr
    ·rintro (h|h)
     ·rw [h];exact List.mem_cons_self ..
     ·exact h
   ·rw [if_neg a,List.mem_cons]
theorem ZjP {α:Type} {R:α->α->Prop} {c:α->Int} {y:α} (f:∀ x,c x=0->x=y) (i:∀ x,c x<0->R x y) (a:∀ x,0<c x->R y x) (k:∀ x y z,R x y->R y z->R x z):∀ {l:List α},l.Pairwise R->(insL c y l).Pairwise R
 | [],_=>by simp [insL]
 | x::r,h=>by
  rw [List.pairwise_cons] at h
  rw [insL]
  by_cases b:c x<0
  ·rw [if_pos b,List.pairwise_cons]
   refine ⟨fun z hz=>?_,ZjP f i a k h.2⟩
   rcases (ZiT f).1 hz with e|hz
   ·rw [e];exact i x b
   ·exact h.1 z hz
  ·rw [if_neg b]
   by_cases j:c x=0
   ·rw [if_pos j,List.pairwise_cons];exact h
   ·rw [if_neg j,List.pairwise_cons,List.pairwise_cons]
    refine ⟨fun z hz=>?_,h⟩
    rcases List.mem_cons.1 hz with e|hz
    ·rw [e];exact a x ω
    ·exact k _ _ _ (a x ω) (h.1 z hz)
theorem Zn9 {α:Type} (c:α->Int) (y:α):∀ (l:List α),(insL c y l).length<=l.length+1
 | []=>by simp [insL]
 | x::r=>by
  have:=Zn9 c y r
  rw [insL]
  split
  ·simp only [List.length_cons];omega
  ·split
   ·simp
   ·simp
theorem Zuw {l:List Int} {n:Int} (u:(l.length:Int)<=1000000):∀ (t:List Int) (i:Int) (k:List Int),0<=i->l.drop i.toNat=t->i<=(l.length:Int)->(k.length:Int)<=i+1->loop (ZaJ l n) (k,true,i)=some (k++t):=by
 intro t
 induction t with
 | nil=>
  intro i k c b j r
  have hi:i=(l.length:Int):=by have:=congrArg List.length b;simp at this;omega
  rw [List.append_nil]
  refine Ze ?_
  simp (disch:=omega) only [pz,ZaJ]
 | cons a t o=>
  intro i k c b j r
  have e:i<(l.length:Int):=by have:=congrArg List.length b;simp at this;omega
  have f:=ZaE (xs:=l) c e
  rw [b] at f
  obtain ⟨rfl,h⟩:=List.cons.inj f
  have hB:ZaJ l n (k,true,i)=some (.inl (k++[ix l i],true,i+1)):=by
   simp (disch:=omega) only [pz,ZaJ,ZcF,Zb7]
  rw [ZI hB,o (i+1) _ ω h.symm ω (by rw [List.length_append,List.length_singleton];omega),List.append_assoc];rfl
theorem ZEV {l:List Int} {n:Int} (u:(l.length:Int)<=1000000):∀ (t:List Int) (i:Int) (r:List Int),0<=i->l.drop i.toNat=t->i<=(l.length:Int)->(r.length:Int)<=i->loop (ZaJ l n) (r,false,i)=some (r++insL (fun x=>x-n) n t):=by
 intro t
 induction t with
 | nil=>
  intro i r e c o y
  have hi:i=(l.length:Int):=by have:=congrArg List.length c;simp at this;omega
  refine Ze ?_
  simp (disch:=omega) only [pz,ZaJ,insL]
 | cons a t w=>
  intro i r e c o y
  have f:i<(l.length:Int):=by have:=congrArg List.length c;simp at this;omega
  have h:=ZaE (xs:=l) e f
  rw [c] at h
  obtain ⟨rfl,b⟩:=List.cons.inj h
  rw [insL]
  by_cases j:ix l i-n<0
  ·rw [if_pos j]
   have hB:ZaJ l n (r,false,i)=some (.inl (r++[ix l i],false,i+1)):=by
    simp (disch:=omega) only [pz,ZaJ,ZcF,Zb7]
   rw [ZI hB,w (i+1) _ ω b.symm ω (by rw [List.length_append,List.length_singleton];omega),List.append_assoc];rfl
  ·rw [if_neg j]
   by_cases k:ix l i-n=0
   ·rw [if_pos k]
    have hB:ZaJ l n (r,false,i)=some (.inl (r++[ix l i],true,i+1)):=by
     simp (disch:=omega) only [pz,ZaJ,ZcF,Zb7]
    rw [ZI hB,Zuw u t (i+1) _ ω b.symm ω (by rw [List.length_append,List.length_singleton];omega),List.append_assoc];rfl
   ·rw [if_neg k]
    have hB:ZaJ l n (r,false,i)=some (.inl (r++[n]++[ix l i],true,i+1)):=by
     have p:(r++[n]).length=r.length+1:=by simp
     simp (disch:=omega) only [pz,ZaJ,ZcF,Zb7]
    rw [ZI hB,Zuw u t (i+1) _ ω b.symm ω (by rw [List.length_append,List.length_append,List.length_singleton,List.length_singleton];omega),List.append_assoc,List.append_assoc];rfl
theorem ZDM {l:List Int} {n:Int} (a:(l.length:Int)<=1000000):Zmf l n=some (insL (fun x=>x-n) n l):=ZEV a l 0 [] (Int.le_refl 0) rfl ω (by simp)
theorem ZsH {l:List (List Int)} {y:List Int} (hl:(l.length:Int)<=1000000) (hr:∀ x∈l,(x.length:Int)<=1048576):∀ (t:List (List Int)) (i:Int) (r:List (List Int)),0<=i->l.drop i.toNat=t->i<=(l.length:Int)->(r.length:Int)<=i+1->loop (ZaH l y) (r,true,i)=some (r++t):=by
 intro t
 induction t with
 | nil=>
  intro i r f c k w
  have hi:i=(l.length:Int):=by have:=congrArg List.length c;simp at this;omega
  rw [List.append_nil]
  refine Ze ?_
  simp (disch:=omega) only [pz,ZaH]
 | cons a t u=>
  intro i r f c k w
  have e:i<(l.length:Int):=by have:=congrArg List.length c;simp at this;omega
  have h:=ZaE (xs:=l) f e
  rw [c] at h
  obtain ⟨rfl,j⟩:=List.cons.inj h
  have o:=ZbE (a:=ix l i) (b:=y) (by have:=hr _ (Zq f e);omega)
  have hB:ZaH l y (r,true,i)=some (.inl (r++[ix l i],true,i+1)):=by
   simp (disch:=omega) only [pz,ZaH,Zdd,Zco,o]
  rw [ZI hB,u (i+1) _ ω j.symm ω (by rw [List.length_append,List.length_singleton];omega),List.append_assoc];rfl
theorem ZFS {l:List (List Int)} {y:List Int} (hl:(l.length:Int)<=1000000) (w:∀ x∈l,(x.length:Int)<=1048576):∀ (t:List (List Int)) (i:Int) (u:List (List Int)),0<=i->l.drop i.toNat=t->i<=(l.length:Int)->(u.length:Int)<=i->loop (ZaH l y) (u,false,i)=some (u++insL (fun x=>cmpL x y) y t):=by
 intro t
 induction t with
 | nil=>
  intro i u h e r ho
  have hi:i=(l.length:Int):=by have:=congrArg List.length e;simp at this;omega
  refine Ze ?_
  simp (disch:=omega) only [pz,ZaH,insL]
 | cons a t ih=>
  intro i u h e r ho
  have f:i<(l.length:Int):=by have:=congrArg List.length e;simp at this;omega
  have k:=ZaE (xs:=l) h f
  rw [e] at k
  obtain ⟨rfl,c⟩:=List.cons.inj k
  have j:=ZbE (a:=ix l i) (b:=y) (by have:=w _ (Zq h f);omega)
  rw [insL]
  by_cases o:cmpL (ix l i) y<0
  ·rw [if_pos o]
   have hB:ZaH l y (u,false,i)=some (.inl (u++[ix l i],false,i+1)):=by
    simp (disch:=omega) only [pz,ZaH,Zdd,Zco,j]
   rw [ZI hB,ih (i+1) _ ω c.symm ω (by rw [List.length_append,List.length_singleton];omega),List.append_assoc];rfl
  ·rw [if_neg o]
   by_cases p:cmpL (ix l i) y=0
   ·rw [if_pos p]
    have hB:ZaH l y (u,false,i)=some (.inl (u++[ix l i],true,i+1)):=by
     simp (disch:=omega) only [pz,ZaH,Zdd,Zco,j]
    rw [ZI hB,ZsH hl w t (i+1) _ ω c.symm ω (by rw [List.length_append,List.length_singleton];omega),List.append_assoc];rfl
   ·rw [if_neg p]
    have hB:ZaH l y (u,false,i)=some (.inl (u++[y]++[ix l i],true,i+1)):=by
     have s:(u++[y]).length=u.length+1:=by simp
     simp (disch:=omega) only [pz,ZaH,Zdd,Zco,j]
    rw [ZI hB,ZsH hl w t (i+1) _ ω c.symm ω (by rw [List.length_append,List.length_append,List.length_singleton,List.length_singleton];omega),List.append_assoc,List.append_assoc];rfl
theorem ZAX {l:List (List Int)} {y:List Int} (a:(l.length:Int)<=1000000) (c:∀ x∈l,(x.length:Int)<=1048576):ZkR l y=some (insL (fun x=>cmpL x y) y l):=ZFS a c l 0 [] (Int.le_refl 0) rfl ω (by simp)
structure SetIn (s:List Int) (n:Int):Prop where
 srt:s.Pairwise (·<·)
 rng:∀ x∈s,0<=x/\x<n
def LtR (a b:List Int):Prop:=cmpL a b<0
theorem LtR.asym (x y:List Int) (h:LtR x y):¬ LtR y x:=fun k=>by
 unfold LtR at h k
 have:=ZbL x y
 omega
theorem Zri {f:List Int->List Int->Option Bool} (u:∀ a b,(a.length:Int)<=1000->f a b=some (decide (a=b))):∀ (l:List (List Int)) (p:List Int),(∀ x∈l,(x.length:Int)<=1000)->(p::l).Pairwise (fun a b=>lexC a b<=0) ->
  ∃ q,cpt f p l=some q/\(p::q).Pairwise LtR/\(∀ z,z∈p::q↔z∈p::l)/\q.length<=l.length
 | [],p,_,_=>⟨[],rfl,by simp,by simp,Nat.le_refl _⟩
 | y::l,p,hl,hs=>by
  rw [List.pairwise_cons] at hs
  obtain ⟨q,c,q2,i,k⟩:=Zri u l y (fun x j=>hl x (List.mem_cons_of_mem _ j)) hs.2
  have r:=u y p (hl y (List.mem_cons_self ..))
  have w:=hs.1 y (List.mem_cons_self ..)
  rw [ZdF] at w
  by_cases e:y=p
  ·subst e
   refine ⟨q,?_,q2,fun z=>?_,by simp;omega⟩
   ·rw [cpt,r,c];simp
   ·rw [i];simp
  ·refine ⟨y::q,?_,?_,fun z=>?_,by simp;omega⟩
   ·rw [cpt,r,c];simp [e]
   ·have o:LtR p y:=by
     unfold LtR
     have:cmpL p y≠0:=fun h=>e ((ZaD _ _).1 h).symm
     omega
    rw [List.pairwise_cons]
    refine ⟨fun z hz=>?_,q2⟩
    rcases List.mem_cons.1 hz with rfl|hz
    ·exact o
    ·exact ZbH _ _ _ o ((List.pairwise_cons.1 q2).1 z hz)
   ·rw [List.mem_cons,i];simp
theorem ZEM {f:List Int->List Int->Option Bool} (k:∀ a b,(a.length:Int)<=1000->f a b=some (decide (a=b))) {l:List (List Int)} (j:∀ x∈l,(x.length:Int)<=1000) (hs:l.Pairwise (fun a b=>lexC a b<=0)):
  ∃ q,cptL f l=some q/\q.Pairwise LtR/\(∀ z,z∈q↔z∈l)/\q.length<=l.length:=by
 cases l with
 | nil=>exact ⟨[],rfl,by simp,by simp,Nat.le_refl _⟩
 | cons p l=>
  obtain ⟨q,c,q2,e,i⟩:=Zri k l p (fun x h=>j x (List.mem_cons_of_mem _ h)) hs
  exact ⟨p::q,by rw [cptL,c];rfl,q2,e,by simp;omega⟩
def dis (xs:List Int):List Int:=xs.foldl (fun l y=>insL (fun x=>x-y) y l) []
def cnt (xs:List Int):Nat:=(dis xs).length
theorem ZnQ:∀ (xs l:List Int),l.Pairwise (·<·)->(xs.foldl (fun l y=>insL (fun x=>x-y) y l) l).Pairwise (·<·)/\∀ z,z∈xs.foldl (fun l y=>insL (fun x=>x-y) y l) l↔z∈l\/z∈xs
 | [],l,h=>⟨h,by simp⟩
 | y::xs,l,h=>by
  have e:=ZjP (R:=(·<· :Int->Int->Prop)) (c:=fun x=>x-y) (y:=y) (fun x h=>by omega) (fun x h=>by omega) (fun x h=>by omega) (fun x y z a b=>Int.lt_trans a b) h
  obtain ⟨f,i⟩:=ZnQ xs _ e
  refine ⟨f,fun z=>?_⟩
  rw [List.foldl_cons,i,ZiT (fun x h=>by omega),List.mem_cons]
  constructor
  ·rintro ((h|h)|h)
   ·exact .inr (.inl h)
   ·exact .inl h
   ·exact .inr (.inr h)
  ·rintro (h|h|h)
   ·exact .inl (.inr h)
   ·exact .inl (.inl h)
   ·exact .inr h
theorem Zl3 (xs:List Int):(dis xs).Pairwise (·<·):=(ZnQ xs [] (by simp)).1
theorem ZcZ {xs:List Int} {z:Int}:z∈dis xs↔z∈xs:=by rw [dis,(ZnQ xs [] (by simp)).2];simp
theorem ZFB (xs:List Int):(dis xs).Nodup:=(Zl3 xs).imp fun h=>by omega
theorem ZF1 {xs l:List Int} (hp:l.Pairwise (·<·)) (c:∀ z,z∈l↔z∈xs):l=dis xs:=ZjL (fun x y a b=>by omega) hp (Zl3 xs) fun z=>by rw [c,ZcZ]
theorem ZsO {xs l:List Int} (h:∀ z∈xs,z∈l):cnt xs<=l.length:=Zc1 (ZFB xs) fun z hz=>h z (ZcZ.1 hz)
theorem Zej (xs:List Int):cnt xs<=xs.length:=ZsO fun _ h=>h
theorem ZFF {xs l:List Int} (a:l.Nodup) (h:∀ z∈l,z∈xs):l.length<=cnt xs:=Zc1 a fun z hz=>ZcZ.2 (h z hz)
theorem ZhQ {xs:List Int} {z:Int} (h:z∈xs):(xs.idxOf z:Int)<(xs.length:Int)/\ix xs (xs.idxOf z:Int)=z:=by
 have a:=List.idxOf_lt_length_of_mem h
 refine ⟨by omega,ZU ?_⟩
 rw [List.getElem?_eq_getElem a,List.getElem_idxOf a]
theorem ZBS {xs k:List Int} (o:xs.length=k.length) (h:∀ i j:Int,0<=i->i<(xs.length:Int)->0<=j->j<(xs.length:Int)->ix k i=ix k j->ix xs i=ix xs j):cnt xs<=cnt k:=by
 have:cnt xs<=((dis k).map fun z=>ix xs (k.idxOf z:Int)).length:=ZsO fun z hz=>by
  obtain ⟨i,a,b,rfl⟩:=Z0 hz
  have l:ix k i∈k:=Zq a ω
  refine List.mem_map.2 ⟨ix k i,ZcZ.2 l,?_⟩
  obtain ⟨e,c⟩:=ZhQ l
  exact h _ _ ω ω a b c
 rwa [List.length_map] at this
def sgl (cells:List Int) (v:Int):List Int:=tabl cells.length fun w=>if w=v then 2*ix cells w else 2*ix cells w+1
theorem Zii (cells:List Int) (v:Int):(sgl cells v).length=cells.length:=by unfold sgl;rw [Zn];omega
theorem ZnX {cells:List Int} {v w:Int} (a:0<=w) (b:w<(cells.length:Int)):ix (sgl cells v) w=if w=v then 2*ix cells w else 2*ix cells w+1:=ZM a b
theorem Zq7 {cells:List Int} {u v:Int} (c:0<=u) (e:u<(cells.length:Int)) (v0:0<=v) (v1:v<(cells.length:Int)) (r:u≠v) (h:ix cells u=ix cells v):cnt cells+1<=cnt (sgl cells v):=by
 have o:∀ w:Int,0<=w->w<(cells.length:Int)->ix (sgl cells v) w∈sgl cells v:=fun w a b=>Zq a (by rw [Zii];exact b)
 have:=ZFF (xs:=sgl cells v) (l:=(2*ix cells v)::(dis cells).map fun x=>2*x+1) (by
  rw [List.nodup_cons]
  refine ⟨fun y=>?_,?_⟩
  ·obtain ⟨x,_,f⟩:=List.mem_map.1 y;omega
  ·have:=(Zl3 cells).map (fun x=>2*x+1) (S:=(·≠· :Int->Int->Prop)) (fun a b a0=>by omega)
   exact this) (by
  intro z hz
  rcases List.mem_cons.1 hz with rfl|hz
  ·have:=o v v0 v1
   rwa [ZnX v0 v1,if_pos rfl] at this
  ·obtain ⟨x,f,rfl⟩:=List.mem_map.1 hz
   obtain ⟨i,j,k,rfl⟩:=Z0 (ZcZ.1 f)
   by_cases hi:i=v
   ·have:=o u c e
    rw [ZnX c e,if_neg r,h] at this
    rw [hi];exact this
   ·have:=o i j k
    rwa [ZnX j k,if_neg hi] at this)
 simpa [cnt] using this
def keyAt (near:List (List Int)) (cells:List Int) (v:Int):List Int:=ix cells v::sortI ((ix near v).map fun w=>ix cells w)
def rkeys (near:List (List Int)) (cells:List Int):List (List Int):=tabl near.length (keyAt near cells)
def kindsOf (keys:List (List Int)):List (List Int):=keys.foldl (fun l y=>insL (fun x=>cmpL x y) y l) []
theorem ZkU:∀ (xs l:List (List Int)),l.Pairwise LtR->(xs.foldl (fun l y=>insL (fun x=>cmpL x y) y l) l).Pairwise LtR/\(∀ z,z∈xs.foldl (fun l y=>insL (fun x=>cmpL x y) y l) l↔z∈l\/z∈xs)/\(xs.foldl (fun l y=>insL (fun x=>cmpL x y) y l) l).length<=l.length+xs.length
 | [],l,h=>⟨h,by simp,by simp⟩
 | y::xs,l,h=>by
  have e:=ZjP (R:=LtR) (c:=fun x=>cmpL x y) (y:=y) (fun x h=>(ZaD _ _).1 h) (fun x h=>h) (fun x h=>by
   have:=ZbL x y
   show cmpL y x<0
   omega) (fun x y z a b=>ZbH _ _ _ a b) h
  obtain ⟨f,i,j⟩:=ZkU xs _ e
  have k:=Zn9 (fun x=>cmpL x y) y l
  refine ⟨f,fun z=>?_,by rw [List.foldl_cons,List.length_cons];omega⟩
  rw [List.foldl_cons,i,ZiT (fun x h=>(ZaD _ _).1 h),List.mem_cons]
  constructor
  ·rintro ((h|h)|h)
   ·exact .inr (.inl h)
   ·exact .inl h
   ·exact .inr (.inr h)
  ·rintro (h|h|h)
   ·exact .inl (.inr h)
   ·exact .inl (.inl h)
   ·exact .inr h
theorem Zn5 (keys:List (List Int)):(kindsOf keys).Pairwise LtR:=(ZkU keys [] (by simp)).1
theorem Zdx {keys:List (List Int)} {z:List Int}:z∈kindsOf keys↔z∈keys:=by rw [kindsOf,(ZkU keys [] (by simp)).2.1];simp
theorem ZjY (keys:List (List Int)):(kindsOf keys).length<=keys.length:=by have:=(ZkU keys [] (by simp)).2.2;simpa [kindsOf] using this
theorem Zxp (x y:List Int) (h:LtR x y):¬ LtR y x:=fun k=>by
 have h:cmpL x y<0:=h
 have k:cmpL y x<0:=k
 have:=ZbL x y
 omega
theorem ZB1 {keys l:List (List Int)} (hp:l.Pairwise LtR) (a:∀ z,z∈l↔z∈keys):l=kindsOf keys:=ZjL Zxp hp (Zn5 keys) fun z=>by rw [a,Zdx]
def rnd (near:List (List Int)) (cells:List Int):List Int:=(rkeys near cells).map fun x=>((kindsOf (rkeys near cells)).idxOf x:Int)
theorem ZeD (near:List (List Int)) (cells:List Int):(rkeys near cells).length=near.length:=by unfold rkeys;rw [Zn];omega
theorem Zde (near:List (List Int)) (cells:List Int):(rnd near cells).length=near.length:=by unfold rnd;rw [List.length_map,ZeD]
theorem ZiN {near:List (List Int)} {cells:List Int} {v:Int} (a:0<=v) (b:v<(near.length:Int)):ix (rkeys near cells) v=keyAt near cells v:=ZM a b
theorem Zls {near:List (List Int)} {cells:List Int} {v:Int} (a:0<=v) (b:v<(near.length:Int)):ix (rnd near cells) v=((kindsOf (rkeys near cells)).idxOf (keyAt near cells v):Int):=by
 unfold rnd
 rw [Zh7 a (by rw [ZeD];exact b),ZiN a b]
theorem ZtD {near:List (List Int)} {cells:List Int} {v:Int} (a:0<=v) (b:v<(near.length:Int)):keyAt near cells v∈kindsOf (rkeys near cells):=by
 rw [Zdx,<-ZiN a b]
 exact Zq a (by rw [ZeD];exact b)
theorem ZBJ {near:List (List Int)} {cells:List Int}:∀ x∈rnd near cells,0<=x/\x<(near.length:Int):=by
 intro x a
 obtain ⟨y,e,rfl⟩:=List.mem_map.1 a
 have c:=List.idxOf_lt_length_of_mem (Zdx.2 e)
 have b:=ZjY (rkeys near cells)
 rw [ZeD] at b
 omega
theorem ZBA {near:List (List Int)} {cells:List Int} {u v:Int} (a:0<=u) (b:u<(near.length:Int)) (v0:0<=v) (v1:v<(near.length:Int)) (h:ix (rnd near cells) u=ix (rnd near cells) v):keyAt near cells u=keyAt near cells v:=by
 rw [Zls a b,Zls v0 v1] at h
 have c:=List.idxOf_lt_length_of_mem (ZtD (cells:=cells) a b)
 have e:=List.idxOf_lt_length_of_mem (ZtD (cells:=cells) v0 v1)
 rw [<-List.getElem_idxOf c,<-List.getElem_idxOf e]
 congr 1
 omega
theorem ZiU {near:List (List Int)} {cells:List Int} (k:cells.length=near.length):cnt cells<=cnt (rnd near cells):=by
 refine ZBS (by rw [Zde,k]) fun i j a c b e h=>?_
 have:=ZBA a ω b ω h
 unfold keyAt at this
 exact (List.cons.inj this).1
def refM (near:List (List Int)):Nat->List Int->List Int
 | 0,cells=>cells
 | f+1,cells=>if cnt (rnd near cells)=cnt cells then rnd near cells else refM near f (rnd near cells)
def refN (near:List (List Int)) (cells:List Int):List Int:=refM near (near.length+1) cells
theorem ZtX (near:List (List Int)):∀ (f:Nat) (cells:List Int),cells.length=near.length->near.length<f+cnt cells->(refM near f cells).length=near.length/\cnt cells<=cnt (refM near f cells)/\∀ x∈refM near f cells,0<=x/\x<(near.length:Int)
 | 0,cells,hl,hf=>by have:=Zej cells;omega
 | f+1,cells,hl,hf=>by
  have b:=ZiU hl
  have a:=Zde near cells
  rw [refM]
  by_cases h:cnt (rnd near cells)=cnt cells
  ·rw [if_pos h];exact ⟨a,b,ZBJ⟩
  ·rw [if_neg h]
   obtain ⟨c,i,e⟩:=ZtX near f (rnd near cells) a ω
   exact ⟨c,by omega,e⟩
theorem Zn8 {near:List (List Int)} {cells:List Int} (a:cells.length=near.length):(refN near cells).length=near.length/\cnt cells<=cnt (refN near cells)/\∀ x∈refN near cells,0<=x/\x<(near.length:Int):=ZtX near _ cells a ω
def eC (a b:Zd):Int:=if cmpI a.A b.A=0 then cmpI a.B b.B else cmpI a.A b.A
theorem Zgl {x y:Int}:cmpI x y=0↔x=y:=by
 unfold cmpI
 split
 ·omega
 ·split<;>omega
theorem Zsn {x y:Int}:cmpI x y<0↔x<y:=by
 unfold cmpI
 split
 ·omega
 ·split<;>omega
theorem Zq2 {x y:Int}:0<cmpI x y↔y<x:=by
 unfold cmpI
 split
 ·omega
 ·split<;>omega
theorem eC_lt {a b:Zd}:eC a b<0↔eLess a b:=by
 unfold eC eLess
 by_cases h:cmpI a.A b.A=0
 ·rw [if_pos h,Zsn];rw [Zgl] at h;omega
 ·rw [if_neg h,Zsn];rw [Zgl] at h;omega
theorem eC_gt {a b:Zd}:0<eC a b↔eLess b a:=by
 unfold eC eLess
 by_cases h:cmpI a.A b.A=0
 ·rw [if_pos h,Zq2];rw [Zgl] at h;omega
 ·rw [if_neg h,Zq2];rw [Zgl] at h;omega
theorem ZtK {a b:Zd}:eC a b=0↔a=b:=by
 cases a;cases b
 unfold eC
 simp only [Zd.mk.injEq]
 split
 ·rename_i h;rw [Zgl] at h ⊢;simp [h]
 ·rename_i h;rw [Zgl] at h ⊢;simp [h]
theorem ZFp (x y:Zd) (h:eLess x y):¬ eLess y x:=fun k=>by unfold eLess at *;omega
theorem ZlB (x y z:Zd) (h:eLess x y) (k:eLess y z):eLess x z:=by unfold eLess at *;omega
def srtE (l:List Zd):List Zd:=l.foldl (fun l y=>insL (fun x=>eC x y) y l) []
theorem ZkJ:∀ (xs l:List Zd),l.Pairwise eLess->(xs.foldl (fun l y=>insL (fun x=>eC x y) y l) l).Pairwise eLess/\(∀ z,z∈xs.foldl (fun l y=>insL (fun x=>eC x y) y l) l↔z∈l\/z∈xs)/\(xs.foldl (fun l y=>insL (fun x=>eC x y) y l) l).length<=l.length+xs.length
 | [],l,h=>⟨h,by simp,by simp⟩
 | y::xs,l,h=>by
  have a:=ZjP (R:=eLess) (c:=fun x=>eC x y) (y:=y) (fun x h=>ZtK.1 h) (fun x h=>eC_lt.1 h) (fun x h=>eC_gt.1 h) ZlB h
  obtain ⟨b,e,f⟩:=ZkJ xs _ a
  have j:=Zn9 (fun x=>eC x y) y l
  refine ⟨b,fun z=>?_,by rw [List.foldl_cons,List.length_cons];omega⟩
  rw [List.foldl_cons,e,ZiT (fun x h=>ZtK.1 h),List.mem_cons]
  constructor
  ·rintro ((h|h)|h)
   ·exact .inr (.inl h)
   ·exact .inl h
   ·exact .inr (.inr h)
  ·rintro (h|h|h)
   ·exact .inl (.inr h)
   ·exact .inl (.inl h)
   ·exact .inr h
theorem ZuY (l:List Zd):(srtE l).Pairwise eLess:=(ZkJ l [] (by simp)).1
theorem Zt1 {l:List Zd} {z:Zd}:z∈srtE l↔z∈l:=by rw [srtE,(ZkJ l [] (by simp)).2.1];simp
theorem ZBP (l:List Zd):(srtE l).length<=l.length:=by have:=(ZkJ l [] (by simp)).2.2;simpa [srtE] using this
theorem Zlf {l q:List Zd} (hp:q.Pairwise eLess) (a:∀ z,z∈q↔z∈l):q=srtE l:=ZjL ZFp hp (ZuY l) fun z=>by rw [a,Zt1]
def mapE (p:List Int) (e:Zd):Zd:=⟨min (ix p e.A) (ix p e.B),max (ix p e.A) (ix p e.B)⟩
def colM (g:Zc) (p:List Int):List Int:=tabl p.length fun i=>ix g.Colors (p.idxOf i:Int)
def relab (g:Zc) (p:List Int):Zc:=⟨colM g p,srtE (g.Edges.map (mapE p))⟩
theorem ZoU {p:List Int} {n:Int} (hp:Vc.Perm p n) {i:Int} (a:0<=i) (b:i<n):i∈p:=by
 have e:=hp.len
 have hs:=Zkm hp.nd (l':=idP n) (fun x c=>ZV.2 (hp.rng x c)) (by rw [Zag];omega)
 exact hs.mem_iff.2 (ZV.2 ⟨a,b⟩)
theorem ZlJ {p:List Int} (hp:p.Nodup) {i j:Int} (c:0<=i) (e:i<(p.length:Int)) (f:0<=j) (k1:j<(p.length:Int)) (h:ix p i=ix p j):i=j:=by
 have a:=Zal c e
 have b:=Zal f k1
 have l1:i.toNat<p.length:=ω
 have l2:j.toNat<p.length:=ω
 rw [List.getElem?_eq_getElem l1] at a
 rw [List.getElem?_eq_getElem l2] at b
 have:p[i.toNat]=p[j.toNat]:=by rw [Option.some.inj a,Option.some.inj b,h]
 have:=(List.getElem_inj hp).1 this
 omega
theorem ZyO {p:List Int} (hp:p.Nodup) {i:Int} (c:0<=i) (e:i<(p.length:Int)):(p.idxOf (ix p i):Int)=i:=by
 obtain ⟨a,b⟩:=ZhQ (Zq c e)
 exact ZlJ hp ω a c e b
theorem Zb0 {g:Zc} (hg:ValidG g) {e:Zd} (c:e∈g.Edges):0<=e.A/\e.A<e.B/\e.B<(g.Colors.length:Int):=by
 obtain ⟨k,a,k1,rfl⟩:=Z0 c
 exact (hg.edg k a k1).1
theorem Zx9 {g:Zc} (hg:ValidG g):g.Edges.Pairwise eLess:=by
 have h:∀ (d:Nat) (i j:Int),(j-i).toNat=d+1->0<=i->i<j->j<(g.Edges.length:Int)->eLess (ix g.Edges i) (ix g.Edges j):=by
  intro d
  induction d with
  | zero=>
   intro i j c b e a
   obtain rfl:i=j-1:=ω
   exact (hg.edg j ω a).2 ω
  | succ d k=>
   intro i j c b e a
   exact ZlB _ _ _ (k i (j-1) ω b ω ω) ((hg.edg j ω a).2 ω)
 rw [List.pairwise_iff_getElem]
 intro i j hi l o
 have:=h (j-i-1) (i:Int) (j:Int) ω ω ω ω
 rwa [ZU (List.getElem?_eq_getElem hi),ZU (List.getElem?_eq_getElem l)] at this
theorem ZEt {g:Zc} (cl:(g.Colors.length:Int)<=64) (col:∀ x∈g.Colors,0<=x/\x<=63) (el:(g.Edges.length:Int)<=512) (pw:g.Edges.Pairwise eLess) (edg:∀ e∈g.Edges,0<=e.A/\e.A<e.B/\e.B<(g.Colors.length:Int)):ValidG g:=by
 refine ⟨cl,fun k a b=>col _ (Zq a b),el,fun k a b=>⟨edg _ (Zq a b),fun h=>?_⟩⟩
 have:=List.pairwise_iff_getElem.1 pw (k-1).toNat k.toNat ω ω ω
 have c:=Zal (xs:=g.Edges) (i:=k-1) ω ω
 have f:=Zal (xs:=g.Edges) (i:=k) ω ω
 rw [List.getElem?_eq_getElem ω] at c f
 rwa [Option.some.inj c,Option.some.inj f] at this
theorem Zrl (g:Zc) (p:List Int):(colM g p).length=p.length:=by unfold colM;rw [Zn];omega
theorem Zmh {g:Zc} (hg:ValidG g) {p:List Int} (hp:Vc.Perm p g.Colors.length):ValidG (relab g p):=by
 have w:=hp.len
 have r:(colM g p).length=p.length:=Zrl g p
 refine ZEt (by show ((colM g p).length:Int)<=64;have:=hg.cl;omega) (fun x c=>?_) ?_ (ZuY _) fun e l=>?_
 ·obtain ⟨i,a,b,rfl⟩:=Z0 c
  have b:i<(colM g p).length:=b
  have hi:ix (colM g p) i=ix g.Colors (p.idxOf i:Int):=ZM a ω
  show 0<=ix (colM g p) i/\ix (colM g p) i<=63
  rw [hi]
  have o:=ZoU hp a ω
  have:=(ZhQ o).1
  exact hg.col _ ω ω
 ·have:=ZBP (g.Edges.map (mapE p))
  rw [List.length_map] at this
  show ((srtE (g.Edges.map (mapE p))).length:Int)<=512
  have:=hg.el
  omega
 ·have l:e∈srtE (g.Edges.map (mapE p)):=l
  rw [Zt1] at l
  obtain ⟨d,f,rfl⟩:=List.mem_map.1 l
  have j:=Zb0 hg f
  have k:=hp.rng _ (Zq (xs:=p) (i:=d.A) ω ω)
  have r2:=hp.rng _ (Zq (xs:=p) (i:=d.B) ω ω)
  have u:ix p d.A≠ix p d.B:=fun h=>by have:=ZlJ hp.nd ω ω ω ω h;omega
  show 0<=min _ _/\min _ _<max _ _/\max _ _<((colM g p).length:Int)
  omega
def adj (es:List Zd) (a b:Int):Bool:=es.any fun e=>(e.A==a&&e.B==b)||(e.A==b&&e.B==a)
theorem ZrH {es:List Zd} {a b:Int}:adj es a b=true↔∃ e∈es,(e.A=a/\e.B=b)\/(e.A=b/\e.B=a):=by
 unfold adj
 simp only [List.any_eq_true,Bool.or_eq_true,Bool.and_eq_true,beq_iff_eq]
def nearM (g:Zc):List (List Int):=tabl g.Colors.length fun a=>(idP g.Colors.length).filter fun b=>adj g.Edges a b
theorem ZkY (g:Zc):(nearM g).length=g.Colors.length:=by unfold nearM;rw [Zn];omega
theorem ZrI {g:Zc} {a:Int} (c:0<=a) (e:a<(g.Colors.length:Int)):ix (nearM g) a=(idP g.Colors.length).filter fun b=>adj g.Edges a b:=ZM c e
theorem Zxn {g:Zc} {a x:Int} (b:0<=a) (c:a<(g.Colors.length:Int)):x∈ix (nearM g) a↔(0<=x/\x<(g.Colors.length:Int))/\adj g.Edges a x=true:=by
 rw [ZrI b c,List.mem_filter,ZV]
theorem ZzW {g:Zc} {a:Int} (c:0<=a) (e:a<(g.Colors.length:Int)):(ix (nearM g) a).length<=g.Colors.length:=by
 rw [ZrI c e]
 have:=List.length_filter_le (fun b=>adj g.Edges a b) (idP g.Colors.length)
 rw [Zag] at this
 omega
def flatE (l:List Zd):List Int:=l.flatMap fun e=>[e.A,e.B]
def cmpG (g h:Zc):Int:=if cmpL g.Colors h.Colors=0 then cmpL (flatE g.Edges) (flatE h.Edges) else cmpL g.Colors h.Colors
def tgt (cells:List Int):Int:=((dis cells).find? fun t=>decide (2<=cells.count t)).getD (-1)
def vts (cells:List Int) (t:Int):List Int:=(idP cells.length).filter fun v=>ix cells v==t
structure CSt where
 best:Zc
 perms:List (List Int)
 nodes:Int
 leaves:Int
 full:Bool
def leafM (g:Zc) (p:List Int) (s:CSt):CSt:=
 let c:=if s.perms=[] then -1 else cmpG (relab g p) s.best
 ⟨if c<0 then relab g p else s.best,if c<0 then [p] else if c=0 then s.perms++[p] else s.perms,s.nodes,s.leaves+1,s.full⟩
def srch (g:Zc) (near:List (List Int)) (B:Int):Nat->List Int->CSt->CSt
 | 0,_,s=>s
 | d+1,cells,s=>if tgt cells<0 then leafM g cells s else (vts cells (tgt cells)).foldl (fun s v=>if s.full=true then s else if s.nodes=B then { s with full:=true } else srch g near B d (refN near (sgl cells v)) { s with nodes:=s.nodes+1 }) s
def stepM (g:Zc) (near:List (List Int)) (B:Int) (d:Nat) (cells:List Int) (s:CSt) (v:Int):CSt:=if s.full=true then s else if s.nodes=B then { s with full:=true } else srch g near B d (refN near (sgl cells v)) { s with nodes:=s.nodes+1 }
theorem ZkT {g:Zc} {near:List (List Int)} {B:Int} {d:Nat} {cells:List Int} {s:CSt}:srch g near B (d+1) cells s=if tgt cells<0 then leafM g cells s else (vts cells (tgt cells)).foldl (stepM g near B d cells) s:=rfl
theorem Zlk {cells:List Int} {t v:Int}:v∈vts cells t↔(0<=v/\v<(cells.length:Int))/\ix cells v=t:=by
 unfold vts;rw [List.mem_filter,ZV,beq_iff_eq]
theorem Zmd {cells:List Int} {t:Int}:2<=cells.count t↔∃ i j:Int,0<=i/\i<j/\j<(cells.length:Int)/\ix cells i=t/\ix cells j=t:=by
 rw [<-List.replicate_sublist_iff]
 constructor
 ·intro h
  obtain ⟨is,c,k⟩:=List.sublist_eq_map_getElem h
  have w:is.length=2:=by have:=congrArg List.length c;simp at this;exact this.symm
  obtain ⟨a,b,rfl⟩:∃ a b,is=[a,b]:=by
   match is,w with
   | [a,b],_=>exact ⟨a,b,rfl⟩
  simp only [List.map_cons,List.map_nil,List.replicate,List.cons.injEq,and_true] at c
  have u:a<b:=by simpa using k
  refine ⟨(a.val:Int),(b.val:Int),by omega,by have:a.val<b.val:=u;omega,by have:=b.isLt;omega,?_,?_⟩
  ·rw [ZU (List.getElem?_eq_getElem a.isLt)];exact c.1.symm
  ·rw [ZU (List.getElem?_eq_getElem b.isLt)];exact c.2.symm
 ·rintro ⟨i,j,o,y,p,hi,x⟩
  have e:=Zal (xs:=cells) (i:=i) o ω
  have f:=Zal (xs:=cells) (i:=j) ω p
  have:=List.map_getElem_sublist (l:=cells) (is:=[⟨i.toNat,by omega⟩,⟨j.toNat,by omega⟩]) (by simp;omega)
  rw [List.getElem?_eq_getElem ω] at e f
  simp only [List.map_cons,List.map_nil] at this
  have r:cells[i.toNat]=t:=by rw [Option.some.inj e,hi]
  have s:cells[j.toNat]=t:=by rw [Option.some.inj f,x]
  simpa [List.replicate,r,s] using this
theorem Zdk {cells:List Int} (c:∀ x∈cells,0<=x):(tgt cells=-1/\cells.Nodup)\/(0<=tgt cells/\2<=cells.count (tgt cells)/\∀ t,2<=cells.count t->tgt cells<=t):=by
 unfold tgt
 cases hf:(dis cells).find? fun t=>decide (2<=cells.count t) with
 | none=>
  left
  refine ⟨rfl,List.nodup_iff_count.2 fun a=>?_⟩
  rw [List.find?_eq_none] at hf
  rcases Nat.lt_or_ge (cells.count a) 2 with h|h
  ·omega
  ·have j:a∈cells:=List.count_pos_iff.1 ω
   have:=hf a (ZcZ.2 j)
   simp at this
   omega
 | some t=>
  right
  have b:=List.find?_some hf
  have f:=List.mem_of_find?_eq_some hf
  have b:2<=cells.count t:=by simpa using b
  refine ⟨c t (ZcZ.1 f),b,fun u l=>?_⟩
  have j:u∈dis cells:=ZcZ.2 (List.count_pos_iff.1 ω)
  obtain ⟨_,as,bs,e,k⟩:=List.find?_eq_some_iff_append.1 hf
  have hp:=Zl3 cells
  rw [e] at j hp
  show t<=u
  rcases List.mem_append.1 j with h|h
  ·have:=k u h;simp at this;omega
  ·rcases List.mem_cons.1 h with h|h
   ·omega
   ·have:=(List.pairwise_cons.1 (List.pairwise_append.1 hp).2.1).1 u h;omega
structure Cel (n:Nat) (cells:List Int):Prop where
 len:cells.length=n
 rng:∀ x∈cells,0<=x/\x<(n:Int)
theorem Cel.ref {near:List (List Int)} {cells:List Int} (a:cells.length=near.length):Cel near.length (refN near cells):=⟨(Zn8 a).1,(Zn8 a).2.2⟩
theorem Cel.perm {n:Nat} {cells:List Int} (h:Cel n cells) (a:cells.Nodup):Vc.Perm cells n:=⟨by rw [h.len],h.rng,a⟩
theorem Cel.more {near:List (List Int)} {cells:List Int} (h:Cel near.length cells) (y:¬ tgt cells<0) {v:Int} (b:v∈vts cells (tgt cells)):cnt cells+1<=cnt (refN near (sgl cells v)):=by
 obtain ⟨⟨v0,v1⟩,a⟩:=Zlk.1 b
 rcases Zdk (cells:=cells) (fun x c=>(h.rng x c).1) with ⟨e,_⟩|⟨e,f,_⟩
 ·omega
 obtain ⟨i,j,k,w,l,hi,r⟩:=Zmd.1 f
 have hg:=(Zn8 (near:=near) (cells:=sgl cells v) (by rw [Zii,h.len])).2.1
 by_cases o:i=v
 ·have:=Zq7 (u:=j) (v:=v) ω l v0 v1 ω (by rw [r,a]);omega
 ·have:=Zq7 (u:=i) (v:=v) k ω v0 v1 o (by rw [hi,a]);omega
theorem Zt7 {cells:List Int} (a:∀ x∈cells,0<=x) (k:¬ tgt cells<0):vts cells (tgt cells)≠[]:=by
 rcases Zdk a with ⟨b,_⟩|⟨b,c,_⟩
 ·omega
 obtain ⟨i,j,e,h,f,hi,l⟩:=Zmd.1 c
 exact List.ne_nil_of_mem (Zlk.2 ⟨⟨e,by omega⟩,hi⟩)
structure CInv (B K:Int) (s:CSt):Prop where
 le:s.leaves<=s.nodes+K
 pl:(s.perms.length:Int)<=s.leaves
 n0:0<=s.nodes
 nB:s.nodes<=B
theorem ZnU (g:Zc) (near:List (List Int)) (B:Int):∀ (d:Nat) (cells:List Int) (s:CSt) (K:Int),CInv B K s->CInv B (K+1) (srch g near B d cells s)
 | 0,cells,s,K,h=>⟨by have:=h.le;show s.leaves<=s.nodes+(K+1);omega,h.pl,h.n0,h.nB⟩
 | d+1,cells,s,K,h=>by
  rw [ZkT]
  by_cases l:tgt cells<0
  ·rw [if_pos l]
   have b:=h.le
   have e:=h.pl
   refine ⟨by show s.leaves+1<=s.nodes+(K+1);omega,?_,h.n0,h.nB⟩
   unfold leafM
   dsimp only
   generalize (if s.perms=[] then (-1:Int) else cmpG (relab g cells) s.best)=c
   by_cases c1:c<0
   ·rw [if_pos c1,List.length_singleton];omega
   ·rw [if_neg c1]
    by_cases c2:c=0
    ·rw [if_pos c2,List.length_append,List.length_singleton];omega
    ·rw [if_neg c2];omega
  ·rw [if_neg l]
   have k:∀ (vs:List Int) (s:CSt),CInv B K s->CInv B K (vs.foldl (stepM g near B d cells) s):=by
    intro vs
    induction vs with
    | nil=>intro s h;exact h
    | cons v vs o=>
     intro s h
     rw [List.foldl_cons]
     refine o _ ?_
     unfold stepM
     by_cases j:s.full=true
     ·rw [if_pos j];exact h
     ·rw [if_neg j]
      by_cases a:s.nodes=B
      ·rw [if_pos a];exact ⟨h.le,h.pl,h.n0,h.nB⟩
      ·rw [if_neg a]
       have b:=h.le
       have f:=h.n0
       have i:=h.nB
       have:=ZnU g near B d (refN near (sgl cells v)) { s with nodes:=s.nodes+1 } (K-1) ⟨by show s.leaves<=s.nodes+1+(K-1);omega,h.pl,by show 0<=s.nodes+1;omega,by show s.nodes+1<=B;omega⟩
       rwa [show K-1+1=K by omega] at this
   have:=k (vts cells (tgt cells)) s h
   exact ⟨by have:=this.le;omega,this.pl,this.n0,this.nB⟩
def Bst (g:Zc) (s:CSt):Prop:=s.perms≠[]->∃ p,Vc.Perm p g.Colors.length/\s.best=relab g p
theorem Zly {g:Zc} {near:List (List Int)} (i:near.length=g.Colors.length) (B:Int):∀ (d:Nat) (cells:List Int) (s:CSt),Cel near.length cells->near.length<d+cnt cells->Bst g s->Bst g (srch g near B d cells s)/\((srch g near B d cells s).full=false->(srch g near B d cells s).perms≠[])
 | 0,cells,s,a,l,h=>by have:=Zej cells;have:=a.len;omega
 | d+1,cells,s,a,l,h=>by
  rw [ZkT]
  rcases Zdk (cells:=cells) (fun x f=>(a.rng x f).1) with ⟨o,j⟩|⟨o,j,_⟩
  ·rw [if_pos ω]
   have hp:Vc.Perm cells g.Colors.length:=by rw [<-i];exact a.perm j
   unfold leafM Bst
   dsimp only
   generalize a1:(if s.perms=[] then -1 else cmpG (relab g cells) s.best)=c
   by_cases b:c<0
   ·rw [if_pos b,if_pos b]
    exact ⟨fun _=>⟨cells,hp,rfl⟩,fun _=>by simp⟩
   ·have w:s.perms≠[]:=fun e=>by rw [if_pos e] at a1;omega
    rw [if_neg b,if_neg b]
    refine ⟨fun _=>h w,fun _=>?_⟩
    split
    ·simp
    ·exact w
  ·rw [if_neg ω]
   have a0:∀ (vs:List Int) (s:CSt),(∀ v∈vs,v∈vts cells (tgt cells))->Bst g s->(vs=[]->s.full=false->s.perms≠[])->Bst g (vs.foldl (stepM g near B d cells) s)/\((vs.foldl (stepM g near B d cells) s).full=false->(vs.foldl (stepM g near B d cells) s).perms≠[]):=by
    intro vs
    induction vs with
    | nil=>intro s _ h h';exact ⟨h,h' rfl⟩
    | cons v vs ih=>
     intro s hm h _
     rw [List.foldl_cons]
     have r:Bst g (stepM g near B d cells s v)/\((stepM g near B d cells s v).full=false->(stepM g near B d cells s v).perms≠[]):=by
      unfold stepM
      by_cases y:s.full=true
      ·rw [if_pos y];exact ⟨h,fun e=>by rw [y] at e;cases e⟩
      ·rw [if_neg y]
       by_cases k:s.nodes=B
       ·rw [if_pos k];exact ⟨h,fun e=>by cases e⟩
       ·rw [if_neg k]
        have a3:=a.more (near:=near) ω (hm v (List.mem_cons_self ..))
        exact Zly i B d _ _ (Cel.ref (by rw [Zii,a.len])) ω h
     exact ih _ (fun u hu=>hm u (List.mem_cons_of_mem _ hu)) r.1 fun _=>r.2
   exact a0 _ s (fun v p=>p) h fun e=>absurd e (Zt7 (fun x f=>(a.rng x f).1) ω)
theorem ZEQ (i x:Int) (hi:0<=i/\i<=1000000):∀ (m:Nat) (A C:List Int),A.length=m->(A.length:Int)+C.length<=1000000->(A++C).Pairwise (·<=·)->(∀ c∈C,x<c) ->
  ∃ ys,loop (ZcX i) ((A.length:Int),A++x::C)=some (.inl (ys,i+1))/\ys.Pairwise (·<=·)/\ys.Perm (A++x::C):=by
 intro m
 induction m with
 | zero=>
  intro A C hA hl hs hC
  obtain rfl:=List.length_eq_zero_iff.1 hA
  refine ⟨x::C,Ze (by simp (disch:=omega) only [pz,ZcX,List.nil_append]),?_,List.Perm.refl _⟩
  rw [List.pairwise_cons]
  exact ⟨fun c b=>by have:=hC c b;omega,hs⟩
 | succ m ih=>
  intro A C hA hl hs hC
  obtain ⟨w,a,rfl⟩:∃ w a,A=w++[a]:=by
   rcases List.eq_nil_or_concat A with h|⟨w,a,h⟩
   ·rw [h] at hA;simp at hA
   ·exact ⟨w,a,by rw [h,List.concat_eq_append]⟩
  have a5:w.length=m:=by simpa using hA
  rw [List.length_append,List.length_singleton] at hl
  have hL:((w++[a]).length:Int)=(w.length:Int)+1:=by rw [List.length_append];simp
  have f:ix ((w++[a])++x::C) ((w.length:Int)+1)=x:=ixMid (by rw [hL])
  have j:(w++[a])++x::C=w++a::x::C:=by simp
  have k:ix ((w++[a])++x::C) (w.length:Int)=a:=by rw [j];exact ixMid rfl
  have a8:(((w++[a])++x::C).length:Int)=(w.length:Int)+2+C.length:=by simp;omega
  have w1:(w.length:Int)+1-1=(w.length:Int):=ω
  rw [hL]
  by_cases a7:x<a
  ·have o:((w++[a])++x::C).set ((w.length:Int)+1).toNat a=w++a::(a::C):=by
    rw [setMid (by rw [hL])];simp
   have p:(w++a::(a::C)).set (w.length:Int).toNat x=w++x::(a::C):=by
    rw [setMid rfl];simp
   have r:(w++a::(a::C)).set w.length x=w++x::(a::C):=by rw [<-p,Int.toNat_natCast]
   have u:((w++a::(a::C)).length:Int)=(w.length:Int)+2+C.length:=by simp;omega
   have hB:ZcX i ((w.length:Int)+1,(w++[a])++x::C)=some (.inl ((w.length:Int),w++x::(a::C))):=by
    simp (disch:=omega) only [pz,ZcX,ZkL,f,k,w1,o,r]
   rw [ZI hB]
   have l:(w++(a::C)).Pairwise (·<=·):=by simpa using hs
   obtain ⟨ys,e,s,t⟩:=ih w (a::C) a5 (by simp;omega) l (fun c b=>by
    rcases List.mem_cons.1 b with rfl|b
    ·exact a7
    ·exact hC c b)
   refine ⟨ys,e,s,t.trans ?_⟩
   rw [j]
   exact (List.Perm.swap a x C).append_left w
  ·refine ⟨(w++[a])++x::C,Ze (by simp (disch:=omega) only [pz,ZcX,f,k,w1]),?_,List.Perm.refl _⟩
   rw [List.pairwise_append] at hs ⊢
   refine ⟨hs.1,?_,fun y hy z hz=>?_⟩
   ·rw [List.pairwise_cons]
    exact ⟨fun c b=>by have:=hC c b;omega,hs.2.1⟩
   ·rcases List.mem_cons.1 hz with rfl|hz
    ·rw [List.pairwise_append] at hs
     have e:=hs.1
     rcases List.mem_append.1 hy with hy|hy
     ·have:=e.2.2 y hy a (by simp);omega
     ·simp at hy;omega
    ·exact hs.2.2 y hy z hz
theorem ZzA {xs:List Int} (x:(xs.length:Int)<=1000000):ZiM xs=some (sortI xs):=by
 unfold ZiM
 obtain ⟨⟨r,j⟩,⟨b,c,a⟩,o⟩:=ZjJ (B:=ZgX xs) (fun i q=>q.2=i/\q.1.Pairwise (·<=·)/\q.1.Perm (xs.take i.toNat)) (i:=0) (n:=xs.length) ω (s:=(([]:List Int),(0:Int))) ⟨rfl,by simp,by simp⟩ fun i q h p ⟨k,l,f⟩=>by
  obtain ⟨r,j⟩:=q
  dsimp only at k l f
  subst k
  have u:(r.length:Int)=j:=by
   have:=f.length_eq
   rw [List.length_take] at this
   omega
  obtain ⟨w,b,c,a⟩:=ZEQ j (ix xs j) ⟨h,by omega⟩ _ r [] rfl (by simp;omega) (by simpa using l) (by simp)
  refine ⟨(w,j+1),by simp (disch:=omega) only [pz,ZgX,b],rfl,c,?_⟩
  dsimp only
  rw [Zax h p]
  exact a.trans (f.append_right _)
 dsimp only at b c a
 rw [o]
 refine Ze ?_
 subst b
 rw [Int.toNat_natCast,List.take_length] at a
 have e:r=sortI xs:=ZlC (a.trans (ZbJ xs).symm) c (ZlQ xs)
 simp (disch:=omega) only [pz,ZgX,e]
theorem ZA6 {xs:List Int} {i:Int} (a:0<=i) (b:i<(xs.length:Int)):dis (xs.take (i+1).toNat)=insL (fun x=>x-ix xs i) (ix xs i) (dis (xs.take i.toNat)):=by
 unfold dis
 rw [Zax a b,List.foldl_append];rfl
theorem ZnI {xs:List Int} (h:(xs.length:Int)<=1000000):ZeJ xs=some (cnt xs:Int):=by
 unfold ZeJ
 have e:=Zm (B:=Zf5 xs) (fun k=>(dis (xs.take k.toNat),k)) (i:=0) (n:=xs.length) ω fun k b k1=>by
  have a:=Zej (xs.take k.toNat)
  rw [List.length_take] at a
  have a:(dis (xs.take k.toNat)).length<=_:=a
  have hp:=ZDM (l:=dis (xs.take k.toNat)) (n:=ix xs k) ω
  rw [<-ZA6 b k1] at hp
  simp (disch:=omega) only [pz,Zf5,hp]
 have c:(([]:List Int),(0:Int))=(fun k:Int=>(dis (xs.take k.toNat),k)) 0:=rfl
 rw [c,e]
 refine Ze ?_
 simp (disch:=omega) only [pz,Zf5]
 rfl
theorem cptG {α:Type} {eqb:α->α->Bool} {Le R:α->α->Prop} (u:∀ a b,eqb a b=true↔a=b) (i:∀ a b,Le a b->a≠b->R a b) (x:∀ a b c,R a b->R b c->R a c):∀ (l:List α) (p:α),(p::l).Pairwise Le ->
  ∃ q,cpt (fun a b=>some (eqb a b)) p l=some q/\(p::q).Pairwise R/\(∀ z,z∈p::q↔z∈p::l)/\q.length<=l.length
 | [],p,_=>⟨[],rfl,by simp,by simp,Nat.le_refl _⟩
 | y::l,p,hs=>by
  rw [List.pairwise_cons] at hs
  obtain ⟨q,j,q2,k,o⟩:=cptG u i x l y hs.2
  have w:=hs.1 y (List.mem_cons_self ..)
  by_cases e:y=p
  ·subst e
   have f:=(u y y).2 rfl
   refine ⟨q,?_,q2,fun z=>?_,by simp;omega⟩
   ·rw [cpt,j,f];simp
   ·rw [k];simp
  ·have f:eqb y p=false:=by
    cases h:eqb y p with
    | true=>exact absurd ((u y p).1 h) e
    | false=>rfl
   refine ⟨y::q,?_,?_,fun z=>?_,by simp;omega⟩
   ·rw [cpt,j,f];simp
   ·have r:R p y:=i p y w fun h=>e h.symm
    rw [List.pairwise_cons]
    refine ⟨fun z hz=>?_,q2⟩
    rcases List.mem_cons.1 hz with rfl|hz
    ·exact r
    ·exact x _ _ _ r ((List.pairwise_cons.1 q2).1 z hz)
   ·rw [List.mem_cons,k];simp
theorem cptGL {α:Type} {eqb:α->α->Bool} {Le R:α->α->Prop} (j:∀ a b,eqb a b=true↔a=b) (e:∀ a b,Le a b->a≠b->R a b) (k:∀ a b c,R a b->R b c->R a c) {l:List α} (hs:l.Pairwise Le):
  ∃ q,cptL (fun a b=>some (eqb a b)) l=some q/\q.Pairwise R/\∀ z,z∈q↔z∈l:=by
 cases l with
 | nil=>exact ⟨[],rfl,by simp,by simp⟩
 | cons p l=>
  obtain ⟨q,f,q2,h,i⟩:=cptG j e k l p hs
  exact ⟨p::q,by rw [cptL,f];rfl,q2,h⟩
theorem Zj5 {xs:List Int} (l:(xs.length:Int)<=1000000):Zfk xs=some (cnt xs:Int):=by
 unfold Zfk ZlN
 have j:(sortI xs).length=xs.length:=(ZbJ xs).length_eq
 obtain ⟨q,f,q2,i⟩:=cptGL (eqb:=fun a b:Int=>a==b) (Le:=(·<=·)) (R:=(·<·)) (fun a b=>by simp) (fun a b h k=>by omega) (fun a b c h k=>by omega) (ZlQ xs)
 have e:q=dis xs:=ZF1 q2 fun z=>by rw [i];exact (ZbJ xs).mem_iff
 rw [ZlK ω,Option.bind_some,Zma ω,Option.bind_some,if_pos ω,f,e];rfl
theorem Zpl (cells:List Int) (t:Int):(vts cells t).length=cells.count t:=by
 have b:cells=(idP (cells.length:Int)).map fun j=>ix cells j:=by
  refine ZaG (by rw [List.length_map,Zag];omega) fun i a c=>?_
  rw [Zh7 a (by rw [Zag];omega),ZcO a ω]
 have:((idP (cells.length:Int)).map fun j=>ix cells j).count t=(vts cells t).length:=by
  rw [List.count,List.countP_map,List.countP_eq_length_filter];rfl
 rw [<-this,<-b]
def PrU (u v i j:Int):Prop:=0<=i/\i<j/\(j<u\/(j=u/\i<v))
def TgI (cells:List Int) (u v a:Int):Prop:=(a=-1/\∀ i j,PrU u v i j->ix cells i≠ix cells j)\/(0<=a/\(∃ i j,PrU u v i j/\ix cells i=a/\ix cells j=a)/\∀ i j,PrU u v i j->ix cells i=ix cells j->a<=ix cells j)
theorem ZCJ {cells:List Int} {u v y:Int} (o:0<=v/\v<u) (hu:0<=ix cells u) (h:TgI cells u v y):TgI cells u (v+1) (if ix cells u=ix cells v/\(y<0\/ix cells u<y) then ix cells u else y):=by
 have hp:∀ i j,PrU u (v+1) i j->PrU u v i j\/(i=v/\j=u):=fun i j ⟨a,b,c⟩=>by
  by_cases h:j=u/\i=v
  ·exact .inr ⟨h.2,h.1⟩
  ·exact .inl ⟨a,b,by omega⟩
 have s:∀ i j,PrU u v i j->PrU u (v+1) i j:=fun i j ⟨a,b,c⟩=>⟨a,b,by omega⟩
 have p:PrU u (v+1) v u:=⟨o.1,o.2,.inr ⟨rfl,by omega⟩⟩
 rcases h with ⟨l,f⟩|⟨l,⟨i,j,f,t,w⟩,r⟩
 ·by_cases he:ix cells u=ix cells v
  ·rw [if_pos ⟨he,.inl ω⟩]
   refine .inr ⟨hu,⟨v,u,p,he.symm,rfl⟩,fun i j x e=>?_⟩
   rcases hp i j x with k|⟨rfl,rfl⟩
   ·exact absurd e (f i j k)
   ·omega
  ·rw [if_neg fun k=>he k.1]
   refine .inl ⟨l,fun i j x e=>?_⟩
   rcases hp i j x with k|⟨rfl,rfl⟩
   ·exact f i j k e
   ·exact he e.symm
 ·by_cases he:ix cells u=ix cells v/\(y<0\/ix cells u<y)
  ·rw [if_pos he]
   refine .inr ⟨hu,⟨v,u,p,he.1.symm,rfl⟩,fun i' j' x e=>?_⟩
   rcases hp i' j' x with k|⟨rfl,rfl⟩
   ·have:=r i' j' k e;omega
   ·omega
  ·rw [if_neg he]
   refine .inr ⟨l,⟨i,j,s i j f,t,w⟩,fun i' j' x e=>?_⟩
   rcases hp i' j' x with k|⟨rfl,rfl⟩
   ·exact r i' j' k e
   ·have:¬ (ix cells j'<y):=fun k=>he ⟨e.symm,.inr k⟩
    omega
theorem ZsS {cells:List Int} (hl:(cells.length:Int)<=1000000) (h0:∀ x∈cells,0<=x):ZjH cells=some (tgt cells):=by
 unfold ZjH
 have hx:∀ i,0<=i->i<(cells.length:Int)->0<=ix cells i:=fun i a b=>h0 _ (Zq a b)
 obtain ⟨⟨a2,u⟩,⟨h1,y⟩,h3⟩:=ZjJ (B:=ZiI cells) (fun u q=>q.2=u/\TgI cells u 0 q.1) (i:=0) (n:=cells.length) ω (s:=((-1:Int),(0:Int))) ⟨rfl,.inl ⟨rfl,fun i j ⟨a,b,c⟩=>by omega⟩⟩ fun u q u0 u1 ⟨g1,g2⟩=>by
  obtain ⟨a2,j⟩:=q
  dsimp only at g1 g2
  subst g1
  obtain ⟨⟨a1,v⟩,⟨k1,k2⟩,k3⟩:=ZjJ (B:=Zcc cells j) (fun v q=>q.2=v/\TgI cells j v q.1) (i:=0) (n:=j) u0 (s:=(a2,(0:Int))) ⟨rfl,g2⟩ fun v q v0 v1 ⟨m1,m2⟩=>by
   obtain ⟨o,w⟩:=q
   dsimp only at m1 m2
   subst m1
   have a4:=ZCJ ⟨v0,v1⟩ (hx j u0 u1) m2
   generalize hE:(if ix cells j=ix cells w/\(o<0\/ix cells j<o) then ix cells j else o)=o2 at a4
   refine ⟨(o2,w+1),?_,rfl,a4⟩
   by_cases he:ix cells j=ix cells w
   ·by_cases ho:o<0
    ·rw [if_pos ⟨he,.inl ho⟩] at hE
     subst hE
     simp (disch:=omega) only [pz,Zcc,Zca]
    ·by_cases hc:ix cells j<o
     ·rw [if_pos ⟨he,.inr hc⟩] at hE
      subst hE
      simp (disch:=omega) only [pz,Zcc,Zca]
     ·rw [if_neg fun k=>by omega] at hE
      subst hE
      simp (disch:=omega) only [pz,Zcc,Zca]
   ·rw [if_neg fun k=>he k.1] at hE
    subst hE
    simp (disch:=omega) only [pz,Zcc,Zca]
  dsimp only at k1 k2
  subst k1
  have a9:loop (Zcc cells v) (a1,v)=some (.inl (a1,v+1)):=Ze (by simp (disch:=omega) only [pz,Zcc])
  refine ⟨(a1,v+1),by simp (disch:=omega) only [pz,ZiI,k3,a9],rfl,?_⟩
  rcases k2 with ⟨h,p⟩|⟨h,⟨i,j,p,r,t⟩,a5⟩
  ·exact .inl ⟨h,fun i j ⟨f,l,b3⟩=>p i j ⟨f,l,by omega⟩⟩
  ·obtain ⟨c1,c2,c3⟩:=p
   exact .inr ⟨h,⟨i,j,⟨c1,c2,.inl ω⟩,r,t⟩,fun i j ⟨f,l,b3⟩=>a5 i j ⟨f,l,by omega⟩⟩
 dsimp only at h1 y
 rw [h3]
 subst h1
 have e:a2=tgt cells:=by
  rcases Zdk h0 with ⟨t1,t2⟩|⟨t1,t2,t3⟩
  ·rcases y with ⟨h,_⟩|⟨h,⟨i,j,⟨f,l,b3⟩,r,t⟩,_⟩
   ·omega
   ·have:=ZlJ t2 f ω ω ω (r.trans t.symm)
    omega
  ·obtain ⟨i,j,i0,a3,j1,hi,hj⟩:=Zmd.1 t2
   rcases y with ⟨_,p⟩|⟨h,⟨i',j',⟨f,l,b3⟩,r,t⟩,a5⟩
   ·exact absurd (hi.trans hj.symm) (p i j ⟨i0,a3,.inl j1⟩)
   ·have h1:=a5 i j ⟨i0,a3,.inl j1⟩ (hi.trans hj.symm)
    have y:=t3 a2 (Zmd.2 ⟨i',j',f,l,by omega,r,t⟩)
    omega
 refine Ze ?_
 simp (disch:=omega) only [pz,ZiI,e]
theorem ZxB {cells:List Int} {t k:Int} (h:0<=k):(idP (k+1)).filter (fun v=>ix cells v==t)=(idP k).filter (fun v=>ix cells v==t)++(if ix cells k=t then [k] else []):=by
 unfold idP
 rw [ZY h,List.filter_append]
 by_cases e:ix cells k=t
 ·rw [if_pos e];simp [e]
 ·rw [if_neg e];simp [e]
theorem ZBX {cells:List Int} (hl:(cells.length:Int)<=1000000) (hr:∀ x∈cells,0<=x/\x<(cells.length:Int)):Zhe cells=some (if tgt cells<0 then [] else vts cells (tgt cells)):=by
 unfold Zhe
 have w:∀ c:Int,0<=c->c<(cells.length:Int)->loop (ZbK cells c) (([]:List Int),0)=some (if 1<((vts cells c).length:Int) then .inr (vts cells c) else .inl (c+1)):=fun c b c1=>by
  have a3:=Zm (B:=ZbK cells c) (fun k=>((idP k).filter (fun v=>ix cells v==c),k)) (i:=0) (n:=cells.length) ω fun k o k1=>by
   have y:=List.length_filter_le (fun v=>ix cells v==c) (idP k)
   rw [Zag] at y
   have u:=ZxB (cells:=cells) (t:=c) o
   by_cases e:ix cells k=c
   ·rw [if_pos e] at u
    simp (disch:=omega) only [pz,ZbK,u]
   ·rw [if_neg e,List.append_nil] at u
    simp (disch:=omega) only [pz,ZbK,u]
  have p:(([]:List Int),(0:Int))=(fun k:Int=>((idP k).filter (fun v=>ix cells v==c),k)) 0:=rfl
  rw [p,a3]
  refine Ze ?_
  show ZbK cells c (vts cells c,(cells.length:Int))=_
  by_cases h:1<((vts cells c).length:Int)
  ·rw [if_pos h];simp (disch:=omega) only [pz,ZbK]
  ·rw [if_neg h];simp (disch:=omega) only [pz,ZbK]
 rcases ZbR (B:=Zgc cells) (fun k=>k) (fun c=>1<((vts cells c).length:Int)) (i:=0) (n:=cells.length) ω (fun c b c1 r=>by
   have:=w c b c1
   rw [if_neg r] at this
   simp (disch:=omega) only [pz,Zgc,this]) with ⟨c,b,c1,hP,hmin,he⟩|⟨hall,he⟩
 ·rw [he]
  have a0:2<=cells.count c:=by rw [<-Zpl];omega
  have ht:tgt cells=c:=by
   rcases Zdk (fun x j=>(hr x j).1) with ⟨a,f⟩|⟨a,f,l⟩
   ·have:=List.nodup_iff_count.1 f c;omega
   ·have s:=l c a0
    rcases Int.lt_or_le (tgt cells) c with k|k
    ·have:=hmin (tgt cells) a k
     rw [Zpl] at this
     omega
    ·omega
  rw [if_neg ω,ht]
  have:=w c b c1
  rw [if_pos hP] at this
  exact Ze (by simp (disch:=omega) only [pz,Zgc,this])
 ·rw [he]
  have ht:tgt cells<0:=by
   rcases Zdk (fun x j=>(hr x j).1) with ⟨a,f⟩|⟨a,f,l⟩
   ·omega
   ·have hm:tgt cells∈cells:=List.count_pos_iff.1 ω
    have:=hall (tgt cells) a (hr _ hm).2
    rw [Zpl] at this
    omega
  rw [if_pos ht]
  exact Ze (by simp (disch:=omega) only [pz,Zgc])
theorem ZuL {l:List (List Int)} (h:l.Pairwise LtR):StrictL l:=fun i j c k e=>by
 have:=List.pairwise_iff_getElem.1 h i.toNat j.toNat ω ω ω
 have a:=Zal (xs:=l) (i:=i) c ω
 have b:=Zal (xs:=l) (i:=j) ω e
 rw [List.getElem?_eq_getElem ω] at a b
 rwa [Option.some.inj a,Option.some.inj b] at this
theorem ZsX {xs:List (List Int)} {z:List Int} (h:z∈xs):(xs.idxOf z:Int)<(xs.length:Int)/\ix xs (xs.idxOf z:Int)=z:=by
 have a:=List.idxOf_lt_length_of_mem h
 refine ⟨by omega,ZU ?_⟩
 rw [List.getElem?_eq_getElem a,List.getElem_idxOf a]
theorem ZvK {l:List (List Int)} (hs:StrictL l) {i j:Int} (a:0<=i) (b:i<(l.length:Int)) (c:0<=j) (f:j<(l.length:Int)) (h:ix l i=ix l j):i=j:=by
 have e:=(ZaD (ix l i) (ix l j)).2 h
 have o:=(ZaD (ix l j) (ix l i)).2 h.symm
 rcases Int.lt_trichotomy i j with k|k|k
 ·have:=hs i j a k f;omega
 ·exact k
 ·have:=hs j i c k b;omega
theorem ZAe {l:List (List Int)} {p:List Int} (hs:StrictL l) (hl:(l.length:Int)<=1048576) (hr:∀ x∈l,(x.length:Int)<=1048576) (hm:p∈l):
  ZcM l p (fun r s=>Zak r s)=some ((l.idxOf p:Int),true):=by
 unfold ZcM
 generalize a0:Zbp l p (fun r s=>Zak r s)=B
 obtain ⟨a,hi⟩:=ZsX hm
 generalize hI:(l.idxOf p:Int)=I at a hi ⊢
 have b:0<=I:=ω
 have eI:cmpL (ix l I) p=0:=(ZaD _ _).2 hi
 have a6:∀ (d:Nat) (lo hi:Int),(hi-lo).toNat<=d->0<=lo->lo<=hi->hi<=(l.length:Int)->(∀ j,0<=j->j<lo->cmpL (ix l j) p<0)->(∀ j,hi<=j->j<(l.length:Int)->0<=cmpL (ix l j) p)->loop B (lo,hi)=some (I,true):=by
  intro d
  induction d with
  | zero=>
   intro lo y w f t u h i
   obtain rfl:lo=y:=ω
   have aa:lo<=I:=by
    rcases Int.lt_or_le I lo with c|c
    ·have:=h I b c;omega
    ·exact c
   have a3:I=lo:=by
    rcases Int.lt_or_le lo I with c|c
    ·have v:=hs lo I f c a
     rw [hi] at v
     have:=i lo ω ω
     omega
    ·omega
   subst a3
   have a4:=hr (ix l I) (Zq f a)
   have k:=Zbh (a:=ix l I) (b:=p) ω
   refine Ze ?_
   rw [<-a0]
   simp (disch:=omega) only [pz,Zbp,k]
  | succ d ih=>
   intro lo y w f t u h i
   by_cases a9:lo<y
   ·have hm:=ZuA f t (show y<=1048576 by omega)
    have a8:lo<=(lo+y)/2/\(lo+y)/2<y:=ω
    have a4:=hr (ix l ((lo+y)/2)) (Zq ω ω)
    have k:=Zbh (a:=ix l ((lo+y)/2)) (b:=p) ω
    have o:gNn 1=some ():=rfl
    by_cases e:cmpL (ix l ((lo+y)/2)) p<0
    ·have hB:B (lo,y)=some (.inl ((lo+y)/2+1,y)):=by
      rw [<-a0]
      simp only [Zbp,hm,o]
      simp (disch:=omega) only [pz,k]
     rw [ZI hB]
     refine ih _ _ ω ω ω u (fun j a b=>?_) i
     by_cases hj:j=(lo+y)/2
     ·rw [hj];exact e
     ·have:=hs j ((lo+y)/2) a ω ω
      exact ZbH _ _ _ this e
    ·have hB:B (lo,y)=some (.inl (lo,(lo+y)/2)):=by
      rw [<-a0]
      simp only [Zbp,hm,o]
      simp (disch:=omega) only [pz,k]
     rw [ZI hB]
     refine ih _ _ ω f ω ω h fun j a b=>?_
     by_cases hj:j=(lo+y)/2
     ·rw [hj];omega
     ·have v:=hs ((lo+y)/2) j ω ω b
      rcases Int.lt_or_le (cmpL (ix l j) p) 0 with c|c
      ·exact absurd (ZbH _ _ _ v c) e
      ·exact c
   ·exact ih lo y ω f t u h i
 exact a6 _ 0 l.length (Nat.le_refl _) ω ω ω (fun j a b=>by omega) fun j a b=>by omega
structure Nr (near:List (List Int)):Prop where
 n:near.length<=64
 row:∀ a∈near,a.length<=64/\∀ w∈a,0<=w/\w<(near.length:Int)
theorem Nr.ix {near:List (List Int)} (h:Nr near) {v:Int} (c:0<=v) (e:v<(near.length:Int)):(Vc.ix near v).length<=64/\∀ j,0<=j->j<((Vc.ix near v).length:Int)->0<=Vc.ix (Vc.ix near v) j/\Vc.ix (Vc.ix near v) j<(near.length:Int):=by
 obtain ⟨a,b⟩:=h.row _ (Zq c e)
 exact ⟨a,fun j f i=>b _ (Zq f i)⟩
theorem ZGl {near:List (List Int)} {cells:List Int} {v:Int}:(keyAt near cells v).length=(Vc.ix near v).length+1:=by
 unfold keyAt
 rw [List.length_cons,(ZbJ _).length_eq,List.length_map]
theorem Nr.keys {near:List (List Int)} (h:Nr near) {cells:List Int}:∀ x∈rkeys near cells,x.length<=65:=fun x c=>by
 obtain ⟨i,b,a,rfl⟩:=Z0 c
 rw [ZeD] at a
 rw [ZiN b a,ZGl]
 have:=(h.ix b a).1
 omega
theorem Zee {α c:Type} [Inhabited α] {xs:List α} {f:α->c} {k:Int} (a:0<=k) (b:k<(xs.length:Int)):(xs.take (k+1).toNat).map f=(xs.take k.toNat).map f++[f (Vc.ix xs k)]:=by
 rw [Zax a b,List.map_append];rfl
theorem around {near:List (List Int)} {cells:List Int} {v k:Int} (a:0<=k) (k1:k<((Vc.ix near v).length:Int)):((Vc.ix near v).take (k+1).toNat).map (fun w=>ix cells w)=((Vc.ix near v).take k.toNat).map (fun w=>ix cells w)++[ix cells (ix (Vc.ix near v) k)]:=Zee a k1
theorem ZGr {keys:List (List Int)} {i:Int} (a:0<=i) (b:i<(keys.length:Int)):kindsOf (keys.take (i+1).toNat)=insL (fun x=>cmpL x (ix keys i)) (ix keys i) (kindsOf (keys.take i.toNat)):=by
 unfold kindsOf
 rw [Zax a b,List.foldl_append];rfl
theorem ZDD {near:List (List Int)} {cells:List Int} {k:Int} (a:0<=k):tabl (k+1) (keyAt near cells)=tabl k (keyAt near cells)++[keyAt near cells k]:=ZY a
theorem Zsl {near:List (List Int)} {cells:List Int} (hN:Nr near) (hl:cells.length=near.length):Zf8 near cells=some (rnd near cells):=by
 unfold Zf8
 have hn:=hN.n
 -- the keys
 have h1:=Zm (B:=ZfC near cells) (fun k=>(tabl k (keyAt near cells),k)) (i:=0) (n:=near.length) ω fun k f k1=>by
  obtain ⟨a,b⟩:=hN.ix f k1
  have a1:=Zm (B:=ZeP near cells (tabl k (keyAt near cells)) k) (fun j=>(((Vc.ix near k).take j.toNat).map (fun w=>ix cells w),j)) (i:=0) (n:=(Vc.ix near k).length) ω fun j h o=>by
   have hb:=b j h o
   have af:(((Vc.ix near k).take j.toNat).map (fun w=>ix cells w)).length<=64:=by rw [List.length_map,List.length_take];omega
   simp (disch:=omega) only [pz,ZeP,around h o]
  have e0:(([]:List Int),(0:Int))=(fun j:Int=>(((Vc.ix near k).take j.toNat).map (fun w=>ix cells w),j)) 0:=by simp
  have ad:=ZzA (xs:=(Vc.ix near k).map (fun w=>ix cells w)) (by rw [List.length_map];omega)
  have ar:(sortI ((Vc.ix near k).map (fun w=>ix cells w))).length<=64:=by rw [(ZbJ _).length_eq,List.length_map];omega
  have a9:gApp 8 [ix cells k] (sortI ((Vc.ix near k).map (fun w=>ix cells w)))=some (keyAt near cells k):=by
   rw [ZaZ (by simp;omega) (by simp;omega)];rfl
  have aa:(tabl k (keyAt near cells)).length<=64:=by rw [Zn];omega
  have a0:loop (ZeP near cells (tabl k (keyAt near cells)) k) (([]:List Int),0)=some (.inl (tabl (k+1) (keyAt near cells),k+1)):=by
   rw [e0,a1]
   refine Ze ?_
   rw [ZDD f]
   simp (disch:=omega) only [pz,ZeP,ad,a9]
  simp (disch:=omega) only [pz,ZfC,a0]
 have e1:(([]:List (List Int)),(0:Int))=(fun k:Int=>(tabl k (keyAt near cells),k)) 0:=rfl
 rw [e1,h1]
 show loop _ (rkeys near cells,(near.length:Int))=_
 -- the kinds
 generalize hK:rkeys near cells=keys
 have a3:keys.length=near.length:=by rw [<-hK,ZeD]
 have a5:∀ x∈keys,x.length<=65:=by rw [<-hK];exact hN.keys
 have h2:=Zm (B:=Zea near keys) (fun k=>(kindsOf (keys.take k.toNat),k)) (i:=0) (n:=near.length) ω fun k f k1=>by
  have ac:=ZjY (keys.take k.toNat)
  rw [List.length_take] at ac
  have hp:=ZAX (l:=kindsOf (keys.take k.toNat)) (y:=ix keys k) ω (fun x p=>by
   have:=a5 x (List.mem_of_mem_take (Zdx.1 p));omega)
  rw [<-ZGr f ω] at hp
  simp (disch:=omega) only [pz,Zea,hp]
 have e2:(([]:List (List Int)),(0:Int))=(fun k:Int=>(kindsOf (keys.take k.toNat),k)) 0:=rfl
 -- the numbers
 have aq:(kindsOf keys).length<=64:=by have:=ZjY keys;omega
 have r:∀ x∈kindsOf keys,x.length<=65:=fun x p=>a5 x (Zdx.1 p)
 have ae:=ZuL (Zn5 keys)
 have a6:(rnd near cells).length=near.length:=Zde near cells
 have h3:=Zm (B:=ZdV near keys (kindsOf keys)) (fun k=>((rnd near cells).take k.toNat,k)) (i:=0) (n:=near.length) ω fun k f k1=>by
  have hm:ix keys k∈kindsOf keys:=Zdx.2 (Zq f ω)
  obtain ⟨s,t⟩:=ZsX hm
  have a4:ix (rnd near cells) k=((kindsOf keys).idxOf (ix keys k):Int):=by
   rw [Zls f k1,hK,<-hK,ZiN f k1]
  generalize hI:((kindsOf keys).idxOf (ix keys k):Int)=I at s t a4
  have ab:0<=I:=ω
  have a1:=Zm (B:=Zc6 keys (kindsOf keys) k) (fun j=>((rnd near cells).take k.toNat++(if I<j then [I] else []),j)) (i:=0) (n:=(kindsOf keys).length) ω fun j h o=>by
   have v:=ZbE (a:=ix (kindsOf keys) j) (b:=ix keys k) (by have:=r _ (Zq h o);omega)
   have aa:((rnd near cells).take k.toNat).length<=64:=by rw [List.length_take];omega
   by_cases he:j=I
   ·have hz:cmpL (ix (kindsOf keys) j) (ix keys k)=0:=(ZaD _ _).2 (by rw [he];exact t)
    rw [if_neg ω,if_pos ω,List.append_nil]
    simp (disch:=omega) only [pz,Zc6,v,hz]
    rw [he]
   ·have hz:¬ cmpL (ix (kindsOf keys) j) (ix keys k)=0:=fun e=>he (ZvK ae h o ab s (by rw [(ZaD _ _).1 e,t]))
    have u:(if I<j+1 then [I] else [])=(if I<j then [I] else []):=by
     by_cases c:I<j
     ·rw [if_pos c,if_pos ω]
     ·rw [if_neg c,if_neg ω]
    rw [u]
    simp (disch:=omega) only [pz,Zc6,v,hz]
  have u:((rnd near cells).take k.toNat,(0:Int))=(fun j:Int=>((rnd near cells).take k.toNat++(if I<j then [I] else []),j)) 0:=by
   show _=(_++(if I<0 then [I] else []),(0:Int))
   rw [if_neg ω,List.append_nil]
  have a0:loop (Zc6 keys (kindsOf keys) k) ((rnd near cells).take k.toNat,0)=some (.inl ((rnd near cells).take (k+1).toNat,k+1)):=by
   rw [u,a1]
   refine Ze ?_
   rw [if_pos s,Zax f ω,a4]
   simp (disch:=omega) only [pz,Zc6]
  simp (disch:=omega) only [pz,ZdV,a0]
 have e4:(([]:List Int),(0:Int))=(fun k:Int=>((rnd near cells).take k.toNat,k)) 0:=rfl
 have h4:loop (ZdV near keys (kindsOf keys)) (([]:List Int),0)=some (.inr (.inr (rnd near cells))):=by
  rw [e4,h3]
  refine Ze ?_
  rw [Int.toNat_natCast,<-a6,List.take_length,a6]
  simp (disch:=omega) only [pz,ZdV]
 have h5:loop (Zea near keys) (([]:List (List Int)),0)=some (.inr (rnd near cells)):=by
  rw [e2,h2]
  refine Ze ?_
  rw [Int.toNat_natCast,<-a3,List.take_length,a3]
  simp (disch:=omega) only [pz,Zea,h4]
 exact Ze (by simp (disch:=omega) only [pz,ZfC,h5])
theorem ZAR {a b:List Int} (c:(a.length:Int)<=1000):Zb5 a b=some (decide (a=b)):=by
 by_cases e:a=b
 ·rw [(Zm2 ω).eq e,decide_eq_true e]
 ·rw [(Zm2 ω).ne e,decide_eq_false e]
theorem ZvC {near:List (List Int)} {cells:List Int} (hN:Nr near) (hl:cells.length=near.length):Zjh near cells=some (rnd near cells):=by
 unfold Zjh
 have hn:=hN.n
 have a5:gMake 24 ([]:List Int) (cells.length:Int) (cells.length:Int)=some (tabl near.length fun i=>if i<0 then keyAt near cells i else []):=by
  rw [Zav ω ω ω,Int.toNat_natCast]
  congr 1
  refine ZaG (by rw [List.length_replicate,Zn];omega) fun i e h=>?_
  rw [List.length_replicate] at h
  rw [Zce e ω,ZM e ω,if_neg ω]
 rw [a5,Option.bind_some]
 have h1:=Zm (B:=Zfw near cells) (fun k=>(k,tabl near.length fun i=>if i<k then keyAt near cells i else [])) (i:=0) (n:=near.length) ω fun k o k1=>by
  obtain ⟨a,b⟩:=hN.ix o k1
  generalize hX:(tabl near.length fun i=>if i<k then keyAt near cells i else [])=X
  have a7:X.length=near.length:=by rw [<-hX,Zn];omega
  have ad:=Zm (B:=Zei cells k X (ix cells k) (Vc.ix near k)) (fun j=>(((Vc.ix near k).take j.toNat).map (fun w=>ix cells w),j)) (i:=0) (n:=(Vc.ix near k).length) ω fun j j0 j1=>by
   have s:=b j j0 j1
   have ah:(((Vc.ix near k).take j.toNat).map (fun w=>ix cells w)).length<=64:=by rw [List.length_map,List.length_take];omega
   simp (disch:=omega) only [pz,Zei,around j0 j1]
  have e0:(([]:List Int),(0:Int))=(fun j:Int=>(((Vc.ix near k).take j.toNat).map (fun w=>ix cells w),j)) 0:=by simp
  have a0:=Zma (p:=(Vc.ix near k).map (fun w=>ix cells w)) (by rw [List.length_map];omega)
  have a9:(sortI ((Vc.ix near k).map (fun w=>ix cells w))).length<=64:=by rw [(ZbJ _).length_eq,List.length_map];omega
  have a8:gApp 8 [ix cells k] (sortI ((Vc.ix near k).map (fun w=>ix cells w)))=some (keyAt near cells k):=by
   rw [ZaZ (by simp;omega) (by simp;omega)];rfl
  have hset:X.set k.toNat (keyAt near cells k)=tabl near.length fun i=>if i<k+1 then keyAt near cells i else []:=by
   rw [<-hX]
   refine Zah o k1 (fun i e h i2=>?_) ?_
   ·by_cases c:i<k
    ·rw [if_pos c,if_pos ω]
    ·rw [if_neg c,if_neg ω]
   ·rw [if_pos ω]
  have a4:loop (Zei cells k X (ix cells k) (Vc.ix near k)) (([]:List Int),0)=some (.inl (k+1,tabl near.length fun i=>if i<k+1 then keyAt near cells i else [])):=by
   rw [e0,ad]
   refine Ze ?_
   rw [<-hset]
   simp (disch:=omega) only [pz,Zei,a0,a8]
  simp (disch:=omega) only [pz,Zfw,a4]
 rw [h1]
 have e1:(tabl near.length fun i=>if i<(near.length:Int) then keyAt near cells i else [])=rkeys near cells:=ZQ fun i e h=>by rw [if_pos h]
 rw [e1]
 generalize hK:rkeys near cells=keys
 have ax:keys.length=near.length:=by rw [<-hK,ZeD]
 have a1:∀ x∈keys,x.length<=65:=by rw [<-hK];exact hN.keys
 have a6:ZhD keys=some keys:=by
  unfold ZhD
  rw [ZaZ (by simp;omega) (by simp;omega)];rfl
 have a0:=Zsz (q:=keys) ω (fun x r=>by have:=a1 x r;omega)
 have a9:=ZiQ keys
 obtain ⟨q,q1,q2,q3,q4⟩:=ZEM (f:=fun t u=>Zb5 t u) (fun a b ha=>ZAR ha) (l:=sortRows keys) (fun x r=>by have:=a1 x (Zbv.1 r);omega) (Zmc keys)
 have hq:q=kindsOf keys:=ZB1 q2 fun z=>by rw [q3,Zbv]
 have ac:Zhd (sortRows keys) (fun t u=>Zb5 t u)=some (kindsOf keys):=by
  unfold Zhd
  rw [if_pos ω,q1,hq]
 have aw:(kindsOf keys).length<=64:=by have:=ZjY keys;omega
 have v:∀ x∈kindsOf keys,x.length<=65:=fun x r=>a1 x (Zdx.1 r)
 have ae:=ZuL (Zn5 keys)
 have y:gMake 8 (0:Int) (cells.length:Int) (cells.length:Int)=some (tabl near.length fun i=>if i<0 then ix (rnd near cells) i else 0):=by
  rw [Zav ω ω ω,Int.toNat_natCast]
  congr 1
  refine ZaG (by rw [List.length_replicate,Zn];omega) fun i e h=>?_
  rw [List.length_replicate] at h
  rw [Zce e ω,ZM e ω,if_neg ω]
 have h3:=Zm (B:=ZeH near cells keys (kindsOf keys)) (fun k=>(k,tabl near.length fun i=>if i<k then ix (rnd near cells) i else 0)) (i:=0) (n:=near.length) ω fun k o k1=>by
  have hm:ix keys k∈kindsOf keys:=Zdx.2 (Zq o ω)
  have s:=ZAe ae ω (fun x r=>by have:=v x r;omega) hm
  have aa:ix (rnd near cells) k=((kindsOf keys).idxOf (ix keys k):Int):=by
   rw [Zls o k1,hK,<-hK,ZiN o k1]
  rw [<-aa] at s
  have hset:(tabl near.length fun i=>if i<k then ix (rnd near cells) i else 0).set k.toNat (ix (rnd near cells) k)=tabl near.length fun i=>if i<k+1 then ix (rnd near cells) i else 0:=by
   refine Zah o k1 (fun i e h i2=>?_) ?_
   ·by_cases c:i<k
    ·rw [if_pos c,if_pos ω]
    ·rw [if_neg c,if_neg ω]
   ·rw [if_pos ω]
  generalize (tabl near.length fun i=>if i<k then ix (rnd near cells) i else 0)=X at hset ⊢
  have a7:X.length=near.length:=by
   have:=congrArg List.length hset
   rw [List.length_set,Zn] at this
   omega
  simp (disch:=omega) only [pz,ZeH,s,hset]
 have e3:(tabl near.length fun i=>if i<(near.length:Int) then ix (rnd near cells) i else 0)=rnd near cells:=by
  have:=Zbl (rnd near cells)
  rw [Zde] at this
  refine Eq.trans (ZQ fun i e h=>?_) this
  rw [if_pos h]
 have h4:loop (ZeH near cells keys (kindsOf keys)) (0,tabl near.length fun i=>if i<0 then ix (rnd near cells) i else 0)=some (.inr (rnd near cells)):=by
  rw [h3,e3]
  exact Ze (by simp (disch:=omega) only [pz,ZeH])
 exact Ze (by simp (disch:=omega) only [pz,Zfw,a6,a0,ac,y,h4])
theorem ZrO {near:List (List Int)} (k:Nr near):∀ (f:Nat) (c:List Int),c.length=near.length->near.length<f+1+cnt c->loop (ZcE near) ((cnt c:Int),rnd near c)=some (refM near (f+1) c)
 | 0,c,a,hf=>by
  have e:=ZiU a
  have j:=Zej (rnd near c)
  have b:=Zde near c
  have i:=k.n
  have l:=ZnI (xs:=rnd near c) ω
  rw [refM,if_pos ω]
  exact Ze (by simp (disch:=omega) only [pz,ZcE,l])
 | f+1,c,a,hf=>by
  have e:=ZiU a
  have b:=Zde near c
  have i:=k.n
  have l:=ZnI (xs:=rnd near c) ω
  rw [refM]
  by_cases h:cnt (rnd near c)=cnt c
  ·rw [if_pos h]
   exact Ze (by simp (disch:=omega) only [pz,ZcE,l])
  ·rw [if_neg h]
   have o:=Zsl (cells:=rnd near c) k b
   have hB:ZcE near ((cnt c:Int),rnd near c)=some (.inl ((cnt (rnd near c):Int),rnd near (rnd near c))):=by simp (disch:=omega) only [pz,ZcE,l,o]
   rw [ZI hB]
   exact ZrO k f (rnd near c) b ω
theorem Zrf {near:List (List Int)} {c:List Int} (e:Nr near) (a:c.length=near.length):Zfe near c=some (refN near c):=by
 unfold Zfe
 have b:=e.n
 have h:=ZnI (xs:=c) ω
 have j:=Zsl e a
 have:=ZrO e near.length c a ω
 simp (disch:=omega) only [pz,h,j,this]
 rfl
theorem ZqX {near:List (List Int)} (l:Nr near):∀ (f:Nat) (c:List Int),c.length=near.length->near.length<f+1+cnt c->loop (ZcH near) c=some (refM near (f+1) c)
 | 0,c,b,hf=>by
  have i:=ZiU b
  have k:=Zej (rnd near c)
  have e:=Zde near c
  have j:=l.n
  have o:=Zj5 (xs:=rnd near c) ω
  have a:=Zj5 (xs:=c) ω
  have r:=ZvC l b
  rw [refM,if_pos ω]
  exact Ze (by simp (disch:=omega) only [pz,ZcH,o,a,r])
 | f+1,c,b,hf=>by
  have i:=ZiU b
  have e:=Zde near c
  have j:=l.n
  have o:=Zj5 (xs:=rnd near c) ω
  have a:=Zj5 (xs:=c) ω
  have r:=ZvC l b
  rw [refM]
  by_cases h:cnt (rnd near c)=cnt c
  ·rw [if_pos h]
   exact Ze (by simp (disch:=omega) only [pz,ZcH,o,a,r])
  ·rw [if_neg h]
   have hB:ZcH near c=some (.inl (rnd near c)):=by simp (disch:=omega) only [pz,ZcH,o,a,r]
   rw [ZI hB]
   exact ZqX l f (rnd near c) e ω
theorem Zr7 {near:List (List Int)} {c:List Int} (e:Nr near) (a:c.length=near.length):ZiX near c=some (refN near c):=ZqX e near.length c a ω
def tb (n:Int) (F:Int->Int->Bool):List (List Bool):=tabl n fun a=>tabl n fun b=>F a b
theorem ZjQ (n:Int) (F:Int->Int->Bool):(tb n F).length=n.toNat:=Zn
theorem tb_ix {n a:Int} {F:Int->Int->Bool} (c:0<=a) (e:a<n):ix (tb n F) a=tabl n fun b=>F a b:=ZM c e
theorem Zvt {n a b:Int} {F:Int->Int->Bool} (c:0<=a) (e:a<n) (f:0<=b) (h:b<n):ix (ix (tb n F) a) b=F a b:=by rw [tb_ix c e];exact ZM f h
theorem Zf0 {n a:Int} {F:Int->Int->Bool} (b:0<=a) (c:a<n):(ix (tb n F) a).length=n.toNat:=by rw [tb_ix b c,Zn]
theorem ZnZ {n:Int} {F G:Int->Int->Bool} (h:∀ a b,0<=a->a<n->0<=b->b<n->F a b=G a b):tb n F=tb n G:=ZQ fun a c e=>ZQ fun b f i=>h a b c e f i
theorem ZlV {n A B:Int} {F:Int->Int->Bool} (c:0<=A) (e:A<n) (f:0<=B) (h:B<n):(tb n F).set A.toNat ((ix (tb n F) A).set B.toNat true)=tb n fun a b=>F a b||(a==A&&b==B):=by
 unfold tb
 refine Zah c e (fun i k l hi=>ZQ fun b _ _=>?_) ?_
 ·simp [hi]
 ·rw [ZM c e]
  refine Zah f h (fun j o p r=>?_) ?_
  ·simp [r]
  ·simp
theorem ZtZ {n A B:Int} {F:Int->Int->Bool} (c:0<=A) (e:A<n) (f:0<=B) (i:B<n):((tb n F).set A.toNat ((ix (tb n F) A).set B.toNat true)).set B.toNat ((ix ((tb n F).set A.toNat ((ix (tb n F) A).set B.toNat true)) B).set A.toNat true)=tb n fun a b=>F a b||((A==a&&B==b)||(A==b&&B==a)):=by
 rw [ZlV c e f i,ZlV f i c e]
 refine ZnZ fun a b _ _ _ _=>?_
 rw [Bool.eq_iff_iff]
 simp only [Bool.or_eq_true,Bool.and_eq_true,beq_iff_eq]
 constructor
 ·rintro ((h|⟨rfl,rfl⟩)|⟨rfl,rfl⟩)
  ·exact .inl h
  ·exact .inr (.inl ⟨rfl,rfl⟩)
  ·exact .inr (.inr ⟨rfl,rfl⟩)
 ·rintro (h|⟨rfl,rfl⟩|⟨rfl,rfl⟩)
  ·exact .inl (.inl h)
  ·exact .inl (.inr ⟨rfl,rfl⟩)
  ·exact .inr ⟨rfl,rfl⟩
theorem ZFZ {es:List Zd} {k:Int} (c:0<=k) (k1:k<(es.length:Int)) (a b:Int):adj (es.take (k+1).toNat) a b=(adj (es.take k.toNat) a b||(((ix es k).A==a&&(ix es k).B==b)||((ix es k).A==b&&(ix es k).B==a))):=by
 unfold adj
 rw [Zax c k1,List.any_append]
 simp
theorem Zta {g:Zc} (hn:g.Colors.length<=64) (he:g.Edges.length<=1000000) (hg:∀ e∈g.Edges,(0<=e.A/\e.A<(g.Colors.length:Int))/\0<=e.B/\e.B<(g.Colors.length:Int)):ZeF g=some (tb g.Colors.length (adj g.Edges)):=by
 unfold ZeF
 have t:=Zm (B:=ZgD g) (fun k=>(tabl k (fun _=>List.replicate g.Colors.length false),k)) (i:=0) (n:=g.Colors.length) ω fun k c k1=>by
  have a0:gMake 1 false (g.Colors.length:Int) (g.Colors.length:Int)=some (List.replicate g.Colors.length false):=by
   rw [Zav ω ω ω,Int.toNat_natCast]
  have hl:(tabl k (fun _=>List.replicate g.Colors.length false)).length<=64:=by rw [Zn];omega
  have a1:tabl (k+1) (fun _=>List.replicate g.Colors.length false)=_:=ZY c
  simp (disch:=omega) only [pz,ZgD,a0,a1]
 have u:(([]:List (List Bool)),(0:Int))=(fun k:Int=>(tabl k (fun _=>List.replicate g.Colors.length false),k)) 0:=rfl
 have v:=Zm (B:=ZeC g) (fun k=>(k,tb g.Colors.length (adj (g.Edges.take k.toNat)))) (i:=0) (n:=g.Edges.length) ω fun k c k1=>by
  obtain ⟨⟨f,h⟩,l,o⟩:=hg (ix g.Edges k) (Zq c k1)
  have hs:=ZtZ (F:=adj (g.Edges.take k.toNat)) f h l o
  have ht:(tb (g.Colors.length:Int) fun a b=>adj (g.Edges.take k.toNat) a b||(((ix g.Edges k).A==a&&(ix g.Edges k).B==b)||((ix g.Edges k).A==b&&(ix g.Edges k).B==a)))=tb g.Colors.length (adj (g.Edges.take (k+1).toNat)):=ZnZ fun a b _ _ _ _=>(ZFZ c k1 a b).symm
  rw [ht] at hs
  have r:=ZlV (F:=adj (g.Edges.take k.toNat)) f h l o
  have l1:=ZjQ (g.Colors.length:Int) (adj (g.Edges.take k.toNat))
  have l2:=Zf0 (F:=adj (g.Edges.take k.toNat)) f h
  have w:(ix ((tb (g.Colors.length:Int) (adj (g.Edges.take k.toNat))).set (ix g.Edges k).A.toNat ((ix (tb (g.Colors.length:Int) (adj (g.Edges.take k.toNat))) (ix g.Edges k).A).set (ix g.Edges k).B.toNat true)) (ix g.Edges k).B).length=g.Colors.length:=by rw [r,Zf0 l o];omega
  generalize tb (g.Colors.length:Int) (adj (g.Edges.take k.toNat))=X at hs l1 l2 w ⊢
  have l4:(X.set (ix g.Edges k).A.toNat ((ix X (ix g.Edges k).A).set (ix g.Edges k).B.toNat true)).length=g.Colors.length:=by rw [List.length_set];omega
  simp (disch:=omega) only [pz,ZeC]
  rw [hs]
 have x:tabl (g.Colors.length:Int) (fun _=>List.replicate g.Colors.length false)=tb g.Colors.length (adj (g.Edges.take (0:Int).toNat)):=by
  refine ZQ fun i i0 i1=>?_
  refine ZaG (by rw [List.length_replicate,Zn];omega) fun j s p=>?_
  rw [List.length_replicate] at p
  rw [Zce s p,ZM s p]
  simp [adj]
 have y:loop (ZeC g) (0,tabl (g.Colors.length:Int) (fun _=>List.replicate g.Colors.length false))=some (.inr (tb g.Colors.length (adj g.Edges))):=by
  rw [x,v,Int.toNat_natCast,List.take_length]
  exact Ze (by simp (disch:=omega) only [pz,ZeC])
 rw [u,t]
 exact Ze (by simp (disch:=omega) only [pz,ZgD,y])
theorem ZCF {g:Zc} (hg:ValidG g):ZjF g=some (nearM g):=by
 unfold ZjF
 have a5:=hg.cl
 have a4:=hg.el
 have ht:=Zta (g:=g) ω ω (fun e he=>by have:=Zb0 hg he;exact ⟨⟨this.1,by omega⟩,by omega,this.2.2⟩)
 have e:Zc.mk g.Colors g.Edges=g:=rfl
 rw [e,ht,Option.bind_some]
 have x:=ZjQ (g.Colors.length:Int) (adj g.Edges)
 rw [Int.toNat_natCast] at x
 have p:=Zm (B:=ZfI (tb g.Colors.length (adj g.Edges))) (fun k=>(tabl k (fun a=>(idP g.Colors.length).filter fun b=>adj g.Edges a b),k)) (i:=0) (n:=g.Colors.length) ω fun k h k1=>by
  have a6:(tabl k (fun a=>(idP g.Colors.length).filter fun b=>adj g.Edges a b)).length<=64:=by rw [Zn];omega
  have w:=Zf0 (F:=adj g.Edges) h k1
  have a1:=Zm (B:=ZcV (tb g.Colors.length (adj g.Edges)) (tabl k (fun a=>(idP g.Colors.length).filter fun b=>adj g.Edges a b)) k) (fun j=>((idP j).filter (fun b=>adj g.Edges k b),j)) (i:=0) (n:=g.Colors.length) ω fun j l r=>by
   have f:=Zvt (F:=adj g.Edges) h k1 l r
   have y:=List.length_filter_le (fun b=>adj g.Edges k b) (idP j)
   rw [Zag] at y
   have u:(idP (j+1)).filter (fun b=>adj g.Edges k b)=(idP j).filter (fun b=>adj g.Edges k b)++(if adj g.Edges k j=true then [j] else []):=by
    unfold idP
    rw [ZY l,List.filter_append]
    by_cases c:adj g.Edges k j=true
    ·rw [if_pos c];simp [c]
    ·rw [if_neg c];simp [c]
   cases o:adj g.Edges k j with
   | true=>
    rw [o] at f u
    rw [if_pos rfl] at u
    generalize tb (g.Colors.length:Int) (adj g.Edges)=X at f x w ⊢
    simp (disch:=omega) only [pz,ZcV,f,u]
   | false=>
    rw [o] at f u
    rw [if_neg (by simp),List.append_nil] at u
    generalize tb (g.Colors.length:Int) (adj g.Edges)=X at f x w ⊢
    simp (disch:=omega) only [pz,ZcV,f,u]
  have s:(([]:List Int),(0:Int))=(fun j:Int=>((idP j).filter (fun b=>adj g.Edges k b),j)) 0:=rfl
  have u:tabl (k+1) (fun a=>(idP g.Colors.length).filter fun b=>adj g.Edges a b)=tabl k (fun a=>(idP g.Colors.length).filter fun b=>adj g.Edges a b)++[(idP g.Colors.length).filter fun b=>adj g.Edges k b]:=ZY h
  have a0:loop (ZcV (tb g.Colors.length (adj g.Edges)) (tabl k (fun a=>(idP g.Colors.length).filter fun b=>adj g.Edges a b)) k) (([]:List Int),0)=some (.inl (tabl (k+1) (fun a=>(idP g.Colors.length).filter fun b=>adj g.Edges a b),k+1)):=by
   rw [s,a1,u]
   refine Ze ?_
   generalize tb (g.Colors.length:Int) (adj g.Edges)=X at x w ⊢
   simp (disch:=omega) only [pz,ZcV]
  simp (disch:=omega) only [pz,ZfI,a0]
 have t:(([]:List (List Int)),(0:Int))=(fun k:Int=>(tabl k (fun a=>(idP g.Colors.length).filter fun b=>adj g.Edges a b),k)) 0:=rfl
 rw [t,p]
 exact Ze (by simp (disch:=omega) only [pz,ZfI];rfl)
theorem Zqg {g:Zc} (hg:ValidG g):Nr (nearM g):=by
 have j:=hg.cl
 have c:=ZkY g
 refine ⟨by omega,fun a h=>?_⟩
 obtain ⟨v,v0,v1,rfl⟩:=Z0 h
 rw [c] at v1
 have:=ZzW v0 v1
 exact ⟨by omega,fun w e=>by rw [c];exact ((Zxn v0 v1).1 e).1⟩
def nb (es:List Zd) (v:Int):List Int:=es.filterMap fun e=>if e.A=v then some e.B else if e.B=v then some e.A else none
theorem Zuv {es:List Zd} {k:Int} (a:0<=k) (k1:k<(es.length:Int)) (v:Int):nb (es.take (k+1).toNat) v=nb (es.take k.toNat) v++(if (ix es k).A=v then [(ix es k).B] else if (ix es k).B=v then [(ix es k).A] else []):=by
 unfold nb
 rw [Zax a k1,List.filterMap_append]
 congr 1
 by_cases c:(ix es k).A=v
 ·simp [c]
 ·by_cases d:(ix es k).B=v
  ·simp [c,d]
  ·simp [c,d]
theorem ZpL (es:List Zd) (v:Int):(nb es v).length<=es.length:=List.length_filterMap_le _ _
theorem ZwQ {g:Zc} (hg:ValidG g) {v:Int} (v0:0<=v) (v1:v<(g.Colors.length:Int)):sortI (nb g.Edges v)=(idP g.Colors.length).filter fun b=>adj g.Edges v b:=by
 refine ZlC ((ZbJ _).trans ?_) (ZlQ _) (((Zpf _).filter _))
 rw [List.perm_ext_iff_of_nodup]
 ·intro x
  unfold nb
  rw [List.mem_filterMap,List.mem_filter,ZV,ZrH]
  constructor
  ·rintro ⟨e,r,h⟩
   have k:=Zb0 hg r
   by_cases c:e.A=v
   ·rw [if_pos c] at h
    obtain rfl:=Option.some.inj h
    exact ⟨⟨by omega,by omega⟩,e,r,.inl ⟨c,rfl⟩⟩
   ·rw [if_neg c] at h
    by_cases d:e.B=v
    ·rw [if_pos d] at h
     obtain rfl:=Option.some.inj h
     exact ⟨⟨by omega,by omega⟩,e,r,.inr ⟨rfl,d⟩⟩
    ·rw [if_neg d] at h;cases h
  ·rintro ⟨_,e,r,⟨c,d⟩|⟨c,d⟩⟩
   ·exact ⟨e,r,by rw [if_pos c,d]⟩
   ·have k:=Zb0 hg r
    exact ⟨e,r,by rw [if_neg ω,if_pos d,c]⟩
 ·unfold nb List.Nodup
  rw [List.pairwise_filterMap]
  refine (Zx9 hg).imp_of_mem fun {a b} ha l u x i y o w=>?_
  have va:=Zb0 hg ha
  have vb:=Zb0 hg l
  subst w
  unfold eLess at u
  by_cases c:a.A=v
  ·rw [if_pos c] at i
   obtain rfl:=Option.some.inj i
   by_cases d:b.A=v
   ·rw [if_pos d] at o;have:=Option.some.inj o;omega
   ·rw [if_neg d] at o
    by_cases f:b.B=v
    ·rw [if_pos f] at o;have:=Option.some.inj o;omega
    ·rw [if_neg f] at o;cases o
  ·rw [if_neg c] at i
   by_cases f:a.B=v
   ·rw [if_pos f] at i
    obtain rfl:=Option.some.inj i
    by_cases d:b.A=v
    ·rw [if_pos d] at o;have:=Option.some.inj o;omega
    ·rw [if_neg d] at o
     by_cases j:b.B=v
     ·rw [if_pos j] at o;have:=Option.some.inj o;omega
     ·rw [if_neg j] at o;cases o
   ·rw [if_neg f] at i;cases i
 ·exact (Zk8 _).filter _
theorem Zv4 {g:Zc} (hg:ValidG g):ZhS g=some (nearM g):=by
 unfold ZhS
 have a5:=hg.cl
 have a4:=hg.el
 have a2:gMake 24 ([]:List Int) (g.Colors.length:Int) (g.Colors.length:Int)=some (tabl g.Colors.length fun v=>nb (g.Edges.take (0:Int).toNat) v):=by
  rw [Zav ω ω ω,Int.toNat_natCast]
  congr 1
  refine ZaG (by rw [List.length_replicate,Zn];omega) fun i a f=>?_
  rw [List.length_replicate] at f
  rw [Zce a ω,ZM a ω]
  rfl
 rw [a2,Option.bind_some]
 have u:=Zm (B:=Ze3 g) (fun k=>(k,tabl g.Colors.length fun v=>nb (g.Edges.take k.toNat) v)) (i:=0) (n:=g.Edges.length) ω fun k h k1=>by
  obtain ⟨o,ab,r⟩:=Zb0 hg (Zq h k1)
  have j:(tabl g.Colors.length fun v=>nb (g.Edges.take k.toNat) v).set (ix g.Edges k).A.toNat (nb (g.Edges.take k.toNat) (ix g.Edges k).A++[(ix g.Edges k).B])=tabl g.Colors.length fun v=>if v=(ix g.Edges k).A then nb (g.Edges.take k.toNat) v++[(ix g.Edges k).B] else nb (g.Edges.take k.toNat) v:=
   Zah o ω (fun i a f hi=>by rw [if_neg hi]) (by rw [if_pos rfl])
  have s:(tabl g.Colors.length fun v=>if v=(ix g.Edges k).A then nb (g.Edges.take k.toNat) v++[(ix g.Edges k).B] else nb (g.Edges.take k.toNat) v).set (ix g.Edges k).B.toNat (nb (g.Edges.take k.toNat) (ix g.Edges k).B++[(ix g.Edges k).A])=tabl g.Colors.length fun v=>nb (g.Edges.take (k+1).toNat) v:=by
   refine Zah ω r (fun i a f hi=>?_) ?_
   ·rw [Zuv h k1]
    by_cases c:i=(ix g.Edges k).A
    ·rw [if_pos c,if_pos c.symm]
    ·rw [if_neg c,if_neg fun e=>c e.symm,if_neg fun e=>hi e.symm,List.append_nil]
   ·rw [Zuv h k1,if_neg ω,if_pos rfl]
  have l:ix (tabl (g.Colors.length:Int) fun v=>nb (g.Edges.take k.toNat) v) (ix g.Edges k).A=nb (g.Edges.take k.toNat) (ix g.Edges k).A:=ZM o ω
  have t:ix (tabl (g.Colors.length:Int) fun v=>if v=(ix g.Edges k).A then nb (g.Edges.take k.toNat) v++[(ix g.Edges k).B] else nb (g.Edges.take k.toNat) v) (ix g.Edges k).B=nb (g.Edges.take k.toNat) (ix g.Edges k).B:=by rw [ZM ω r,if_neg ω]
  have n1:=ZpL (g.Edges.take k.toNat) (ix g.Edges k).A
  have n2:=ZpL (g.Edges.take k.toNat) (ix g.Edges k).B
  rw [List.length_take] at n1 n2
  have l1:(tabl (g.Colors.length:Int) fun v=>nb (g.Edges.take k.toNat) v).length=g.Colors.length:=by rw [Zn];omega
  have l2:(tabl (g.Colors.length:Int) fun v=>if v=(ix g.Edges k).A then nb (g.Edges.take k.toNat) v++[(ix g.Edges k).B] else nb (g.Edges.take k.toNat) v).length=g.Colors.length:=by rw [Zn];omega
  generalize (tabl (g.Colors.length:Int) fun v=>nb (g.Edges.take k.toNat) v)=X at j l l1 ⊢
  generalize (tabl (g.Colors.length:Int) fun v=>if v=(ix g.Edges k).A then nb (g.Edges.take k.toNat) v++[(ix g.Edges k).B] else nb (g.Edges.take k.toNat) v)=Y at j s t l2
  simp (disch:=omega) only [pz,Ze3,l,j,t,s]
 rw [u,Int.toNat_natCast,List.take_length]
 have l0:(tabl (g.Colors.length:Int) fun v=>nb g.Edges v).length=g.Colors.length:=by rw [Zn];omega
 have w:=Zm (B:=Zep (tabl g.Colors.length fun v=>nb g.Edges v)) (fun k=>(k,tabl g.Colors.length fun v=>if v<k then (idP g.Colors.length).filter (fun b=>adj g.Edges v b) else nb g.Edges v)) (i:=0) (n:=g.Colors.length) ω fun k h k1=>by
  have j:(tabl g.Colors.length fun v=>if v<k then (idP g.Colors.length).filter (fun b=>adj g.Edges v b) else nb g.Edges v).set k.toNat ((idP g.Colors.length).filter fun b=>adj g.Edges k b)=tabl g.Colors.length fun v=>if v<k+1 then (idP g.Colors.length).filter (fun b=>adj g.Edges v b) else nb g.Edges v:=by
   refine Zah h k1 (fun i a f hi=>?_) ?_
   ·by_cases c:i<k
    ·rw [if_pos c,if_pos ω]
    ·rw [if_neg c,if_neg ω]
   ·rw [if_pos ω]
  have l:ix (tabl (g.Colors.length:Int) fun v=>if v<k then (idP g.Colors.length).filter (fun b=>adj g.Edges v b) else nb g.Edges v) k=nb g.Edges k:=by rw [ZM h k1,if_neg ω]
  have hn:=ZpL g.Edges k
  have a0:=Zma (p:=nb g.Edges k) ω
  rw [ZwQ hg h k1] at a0
  have l1:(tabl (g.Colors.length:Int) fun v=>if v<k then (idP g.Colors.length).filter (fun b=>adj g.Edges v b) else nb g.Edges v).length=g.Colors.length:=by rw [Zn];omega
  generalize (tabl (g.Colors.length:Int) fun v=>if v<k then (idP g.Colors.length).filter (fun b=>adj g.Edges v b) else nb g.Edges v)=X at j l l1 ⊢
  generalize (tabl (g.Colors.length:Int) fun v=>nb g.Edges v)=Y at l0 ⊢
  simp (disch:=omega) only [pz,Zep,l,a0,j]
 have x:(tabl (g.Colors.length:Int) fun v=>nb g.Edges v)=tabl g.Colors.length fun v=>if v<0 then (idP g.Colors.length).filter (fun b=>adj g.Edges v b) else nb g.Edges v:=ZQ fun i a f=>by rw [if_neg ω]
 have y:(tabl (g.Colors.length:Int) fun v=>if v<(g.Colors.length:Int) then (idP g.Colors.length).filter (fun b=>adj g.Edges v b) else nb g.Edges v)=nearM g:=ZQ fun i a f=>by rw [if_pos f]
 have h3:loop (Zep (tabl g.Colors.length fun v=>nb g.Edges v)) (0,tabl g.Colors.length fun v=>nb g.Edges v)=some (.inr (nearM g)):=by
  have a1:=w
  rw [<-x,y] at a1
  rw [a1]
  generalize (tabl (g.Colors.length:Int) fun v=>nb g.Edges v)=Y at l0 ⊢
  exact Ze (by simp (disch:=omega) only [pz,Zep])
 refine Ze ?_
 simp (disch:=omega) only [pz,Ze3,h3]
theorem compareE (a b:Zd):Za7 a b=some (eC a b):=by
 unfold Za7
 simp only [Zro,or_ok,Option.bind_some]
 rfl
theorem eC_ok:CmpOk eC where
 swo:=by
  have t:∀ x y,ltC eC x y=true↔eLess x y:=fun x y=>by unfold ltC;rw [decide_eq_true_eq,eC_lt]
  have f:∀ x y,ltC eC x y=false↔¬ eLess x y:=fun x y=>by rw [<-t,Bool.not_eq_true]
  exact ⟨fun x=>(f x x).2 (by unfold eLess;omega),fun x y z h k=>(t x z).2 (ZlB _ _ _ ((t _ _).1 h) ((t _ _).1 k)),fun x y z h k=>(f x z).2 (by
   have h:=(f _ _).1 h
   have k:=(f _ _).1 k
   unfold eLess at *;omega)⟩
 tot:=fun x y h k=>by
  unfold ltC at h k
  simp only [decide_eq_false_iff_not] at h k
  rw [eC_lt] at h k
  unfold eLess at h k
  cases x;cases y
  simp only [Zd.mk.injEq] at *
  omega
def mkE (e:Zd):Zd:=⟨min e.A e.B,max e.A e.B⟩
theorem ZsW {es:List Zd} (hl:es.length<=1000000):Ze2 es=some (srtE (es.map mkE)):=by
 unfold Ze2
 have e:=Zm (B:=Zg3 es) (fun k=>((es.take k.toNat).map mkE,k)) (i:=0) (n:=es.length) ω fun k f k1=>by
  have a1:((es.take k.toNat).map mkE).length<=1000000:=by rw [List.length_map,List.length_take];omega
  have hm:((es.take (k+1).toNat).map mkE)=(es.take k.toNat).map mkE++[mkE (ix es k)]:=Zee f k1
  have j:Zd.mk (if (ix es k).B<(ix es k).A then (ix es k).B else (ix es k).A) (if (ix es k).B>(ix es k).A then (ix es k).B else (ix es k).A)=mkE (ix es k):=by
   unfold mkE
   congr 1
   ·by_cases c:(ix es k).B<(ix es k).A
    ·rw [if_pos c];omega
    ·rw [if_neg c];omega
   ·by_cases c:(ix es k).B>(ix es k).A
    ·rw [if_pos c];omega
    ·rw [if_neg c];omega
  rw [hm,<-j]
  simp (disch:=omega) only [pz,Zg3]
 have l:(([]:List Zd),(0:Int))=(fun k:Int=>((es.take k.toNat).map mkE,k)) 0:=rfl
 rw [l,e,Int.toNat_natCast,List.take_length]
 have hf:(fun a c=>(Za7 a c).getD 0)=eC:=by funext a c;rw [compareE];rfl
 have hs:Zin (es.map mkE) (fun o p=>Za7 o p)=some (sortC eC (es.map mkE)):=by
  unfold Zin
  rw [if_pos ⟨⟨eC,compareE,eC_ok⟩,by rw [List.length_map];omega⟩,hf]
 have w:(sortC eC (es.map mkE)).Perm (es.map mkE):=List.mergeSort_perm _ _
 have a0:(sortC eC (es.map mkE)).Pairwise fun a b=>¬ eLess b a:=by
  have:=List.pairwise_mergeSort (le:=fun x y=>!ltC eC y x) (fun a b c h k=>by
   simp only [Bool.not_eq_true',ltC,decide_eq_false_iff_not,eC_lt] at *
   unfold eLess at *;omega) (fun a b=>by
   simp only [Bool.or_eq_true,Bool.not_eq_true',ltC,decide_eq_false_iff_not,eC_lt]
   unfold eLess;omega) (es.map mkE)
  refine List.Pairwise.imp (fun {a b} h=>?_) this
  simpa [ltC,eC_lt] using h
 obtain ⟨q,r,q2,s⟩:=cptGL (eqb:=fun (a b:Zd)=>a.A==b.A&&a.B==b.B) (Le:=fun a b=>¬ eLess b a) (R:=eLess) (fun a b=>by
   cases a;cases b
   simp) (fun a b h k=>by
   cases a;cases b
   unfold eLess at *
   simp only [Zd.mk.injEq,ne_eq] at *
   omega) ZlB a0
 have t:Ziv (sortC eC (es.map mkE))=some (srtE (es.map mkE)):=by
  have u:q=srtE (es.map mkE):=Zlf q2 fun z=>by rw [s,w.mem_iff]
  unfold Ziv
  rw [if_pos (by rw [w.length_eq,List.length_map];omega),r,u]
 exact Ze (by simp (disch:=omega) only [pz,Zg3,hs,t])
theorem Zr5 {g:Zc} {p:List Int} (hp:Vc.Perm p g.Colors.length) {k:Int} (a:0<=k) (k1:k<(g.Colors.length:Int)):
  (tabl g.Colors.length fun i=>if (p.idxOf i:Int)<k then ix g.Colors (p.idxOf i:Int) else 0).set (ix p k).toNat (ix g.Colors k)=tabl g.Colors.length fun i=>if (p.idxOf i:Int)<k+1 then ix g.Colors (p.idxOf i:Int) else 0:=by
 have l:=hp.len
 have h:=hp.rng _ (Zq (xs:=p) a ω)
 refine Zah h.1 h.2 (fun i b f hi=>?_) ?_
 ·have j:(p.idxOf i:Int)≠k:=fun e=>hi (by
   have:=(ZhQ (ZoU hp b f)).2
   rw [e] at this
   exact this.symm)
  by_cases c:(p.idxOf i:Int)<k
  ·rw [if_pos c,if_pos ω]
  ·rw [if_neg c,if_neg ω]
 ·rw [ZyO hp.nd a ω,if_pos ω]
theorem Zvy {g:Zc} {p:List Int}:(tabl g.Colors.length fun i=>if (p.idxOf i:Int)<0 then ix g.Colors (p.idxOf i:Int) else 0)=List.replicate g.Colors.length 0:=by
 refine ZaG (by rw [List.length_replicate,Zn];omega) fun i a b=>?_
 rw [Zn] at b
 rw [Zce a ω,ZM a ω,if_neg ω]
theorem Zr1 {g:Zc} {p:List Int} (hp:Vc.Perm p g.Colors.length):(tabl g.Colors.length fun i=>if (p.idxOf i:Int)<(g.Colors.length:Int) then ix g.Colors (p.idxOf i:Int) else 0)=colM g p:=by
 have c:=hp.len
 unfold colM
 rw [c]
 refine ZQ fun i a b=>?_
 have:=(ZhQ (ZoU hp a b)).1
 rw [if_pos ω]
def mvE (p:List Int) (e:Zd):Zd:=⟨ix p e.A,ix p e.B⟩
theorem mv_mk (p:List Int) (es:List Zd):(es.map (mvE p)).map mkE=es.map (mapE p):=by rw [List.map_map];rfl
theorem Zyb {g:Zc} (hg:ValidG g) {p:List Int} (hp:Vc.Perm p g.Colors.length):ZfQ g p=some (relab g p):=by
 unfold ZfQ
 have x:=hg.cl
 have w:=hg.el
 have y:=hp.len
 have l:gMake 8 (0:Int) (g.Colors.length:Int) (g.Colors.length:Int)=some (tabl g.Colors.length fun i=>if (p.idxOf i:Int)<0 then ix g.Colors (p.idxOf i:Int) else 0):=by
  rw [Zav ω ω ω,Int.toNat_natCast,Zvy]
 rw [l,Option.bind_some]
 have b:=Zm (B:=ZgJ g p) (fun k=>(k,tabl g.Colors.length fun i=>if (p.idxOf i:Int)<k then ix g.Colors (p.idxOf i:Int) else 0)) (i:=0) (n:=g.Colors.length) ω fun k a k1=>by
  have hs:=Zr5 hp a k1
  have hr:=hp.rng _ (Zq (xs:=p) a ω)
  have r:(tabl (g.Colors.length:Int) fun i=>if (p.idxOf i:Int)<k then ix g.Colors (p.idxOf i:Int) else 0).length=g.Colors.length:=by rw [Zn];omega
  generalize (tabl (g.Colors.length:Int) fun i=>if (p.idxOf i:Int)<k then ix g.Colors (p.idxOf i:Int) else 0)=X at hs r ⊢
  simp (disch:=omega) only [pz,ZgJ,hs]
 rw [b,Zr1 hp]
 have c:=Zm (B:=ZdM g p (colM g p)) (fun k=>(k,(g.Edges.take k.toNat).map (mvE p))) (i:=0) (n:=g.Edges.length) ω fun k a k1=>by
  have h:=Zb0 hg (Zq a k1)
  have o:((g.Edges.take k.toNat).map (mvE p)).length<=512:=by rw [List.length_map,List.length_take];omega
  have u:((g.Edges.take (k+1).toNat).map (mvE p))=(g.Edges.take k.toNat).map (mvE p)++[Zd.mk (ix p (ix g.Edges k).A) (ix p (ix g.Edges k).B)]:=Zee a k1
  simp (disch:=omega) only [pz,ZdM,u]
 have e:((0:Int),([]:List Zd))=(fun k:Int=>(k,(g.Edges.take k.toNat).map (mvE p))) 0:=rfl
 have j:=ZsW (es:=g.Edges.map (mvE p)) (by rw [List.length_map];omega)
 rw [mv_mk] at j
 have f:loop (ZdM g p (colM g p)) (0,([]:List Zd))=some (.inr (relab g p)):=by
  rw [e,c,Int.toNat_natCast,List.take_length]
  exact Ze (by simp (disch:=omega) only [pz,ZdM,j];rfl)
 exact Ze (by simp (disch:=omega) only [pz,ZgJ,f])
def rwE (n:Int) (F:Int->Int->Bool) (a:Int):List Zd:=((idP n).filter fun b=>decide (a<b)&&F a b).map fun b=>⟨a,b⟩
def ofE (n k:Int) (F:Int->Int->Bool):List Zd:=(idP k).flatMap (rwE n F)
theorem Zrd (n:Int) (F:Int->Int->Bool) (a:Int):(rwE n F a).length<=n.toNat:=by
 unfold rwE
 rw [List.length_map]
 have:=List.length_filter_le (fun b=>decide (a<b)&&F a b) (idP n)
 rwa [Zag] at this
theorem Zvb {n k:Int} {F:Int->Int->Bool} (h:0<=k):ofE n (k+1) F=ofE n k F++rwE n F k:=by
 unfold ofE idP
 rw [ZY h,List.flatMap_append]
 simp
theorem Zxw {F:Int->Int->Bool} {a k:Int} (h:0<=k):rwE (k+1) F a=rwE k F a++(if a<k/\F a k=true then [⟨a,k⟩] else []):=by
 unfold rwE idP
 rw [ZY h,List.filter_append,List.map_append]
 by_cases c:a<k/\F a k=true
 ·rw [if_pos c];simp [c.1,c.2]
 ·rw [if_neg c]
  have:(decide (a<k)&&F a k)=false:=by
   rw [Bool.eq_false_iff];intro h;rw [Bool.and_eq_true,decide_eq_true_eq] at h;exact c h
  simp [this]
theorem ZC1 {F:Int->Int->Bool} {a:Int} (h:0<=a):rwE (a+1) F a=[]:=by
 unfold rwE
 have:((idP (a+1)).filter fun b=>decide (a<b)&&F a b)=[]:=by
  rw [List.filter_eq_nil_iff]
  intro b c
  have:=ZV.1 c
  simp;omega
 rw [this];rfl
theorem ZxI {n:Int} {F:Int->Int->Bool} {e:Zd}:e∈ofE n n F↔(0<=e.A/\e.A<n)/\(0<=e.B/\e.B<n)/\e.A<e.B/\F e.A e.B=true:=by
 unfold ofE rwE
 rw [List.mem_flatMap]
 constructor
 ·rintro ⟨a,k,l⟩
  obtain ⟨b,c,rfl⟩:=List.mem_map.1 l
  rw [List.mem_filter,Bool.and_eq_true,decide_eq_true_eq] at c
  exact ⟨ZV.1 k,ZV.1 c.1,c.2.1,c.2.2⟩
 ·rintro ⟨f,h,i,j⟩
  refine ⟨e.A,ZV.2 f,List.mem_map.2 ⟨e.B,?_,rfl⟩⟩
  rw [List.mem_filter,Bool.and_eq_true,decide_eq_true_eq]
  exact ⟨ZV.2 h,i,j⟩
theorem Zdl (n:Int):(idP n).Pairwise (·<·):=by
 have h:=List.Pairwise.and (Zpf n) (Zk8 n)
 exact h.imp fun ⟨a,b⟩=>by omega
theorem ZFv (n:Int) (F:Int->Int->Bool):(ofE n n F).Pairwise eLess:=by
 unfold ofE
 rw [List.pairwise_flatMap]
 refine ⟨fun a k=>?_,(Zdl n).imp fun {a b} e x c y j=>?_⟩
 ·unfold rwE
  rw [List.pairwise_map]
  exact ((Zdl n).filter _).imp fun h=>.inr ⟨rfl,h⟩
 ·unfold rwE at c j
  obtain ⟨_,_,rfl⟩:=List.mem_map.1 c
  obtain ⟨_,_,rfl⟩:=List.mem_map.1 j
  exact .inl e
theorem ZCX {cs:List Int} {F:Int->Int->Bool} (x:cs.length<=64):Zie cs (tb cs.length F)=some ⟨cs,ofE cs.length cs.length F⟩:=by
 unfold Zie
 rw [ZmZ ω,Option.bind_some]
 have hl:=ZjQ (cs.length:Int) F
 rw [Int.toNat_natCast] at hl
 obtain ⟨⟨j,a0⟩,⟨l,o,r⟩,t⟩:=ZjJ (B:=ZfX cs (tb cs.length F) cs) (fun k q=>q.1=k/\q.2=ofE cs.length k F/\(q.2.length:Int)<=64*k) (i:=0) (n:=cs.length) ω (s:=((0:Int),([]:List Zd))) ⟨rfl,rfl,by simp⟩ fun k q e k1 ⟨p,h,u⟩=>by
  obtain ⟨j,a0⟩:=q
  dsimp only at p h u
  subst p
  have a2:=Zf0 (F:=F) e k1
  have a5:=Zm (B:=Zdh cs (tb cs.length F) j) (fun b=>(b,a0++rwE b F j)) (i:=j+1) (n:=cs.length) ω fun b y v=>by
   have c:=Zvt (F:=F) e k1 (show 0<=b by omega) v
   have a7:=Zrd b F j
   have a1:=Zxw (F:=F) (a:=j) (k:=b) ω
   have a6:(a0++rwE b F j).length<=10000:=by rw [List.length_append];omega
   cases f:F j b with
   | true=>
    rw [f] at c
    rw [if_pos ⟨by omega,f⟩] at a1
    generalize tb (cs.length:Int) F=X at c hl a2 ⊢
    rw [a1,<-List.append_assoc]
    generalize a0++rwE b F j=Y at a6 ⊢
    simp (disch:=omega) only [pz,Zdh,c]
   | false=>
    rw [f] at c
    rw [if_neg (by simp [f]),List.append_nil] at a1
    generalize tb (cs.length:Int) F=X at c hl a2 ⊢
    rw [a1]
    simp (disch:=omega) only [pz,Zdh,c]
  have w:(j+1,a0)=(fun b=>(b,a0++rwE b F j)) (j+1):=by
   show _=(_,_++_)
   rw [ZC1 e,List.append_nil]
  have a4:loop (Zdh cs (tb cs.length F) j) (j+1,a0)=some (.inl (j+1,ofE cs.length (j+1) F)):=by
   rw [w,a5]
   refine Ze ?_
   rw [Zvb e,<-h]
   simp (disch:=omega) only [pz,Zdh]
  refine ⟨(j+1,ofE cs.length (j+1) F),by simp (disch:=omega) only [pz,ZfX,a4],rfl,rfl,?_⟩
  dsimp only
  rw [Zvb e,<-h,List.length_append]
  have:=Zrd (cs.length:Int) F j
  omega
 dsimp only at l o r
 rw [t]
 subst l
 rw [o]
 exact Ze (by simp (disch:=omega) only [pz,ZfX])
theorem ZxU {g:Zc} (hg:ValidG g) {p:List Int} (hp:Vc.Perm p g.Colors.length):Zgp g p=some (relab g p):=by
 unfold Zgp
 have a9:=hg.cl
 have a8:=hg.el
 have hl:=hp.len
 have a4:gMake 8 (0:Int) (p.length:Int) (p.length:Int)=some (tabl g.Colors.length fun i=>if (p.idxOf i:Int)<0 then ix g.Colors (p.idxOf i:Int) else 0):=by
  rw [Zav ω ω ω,Int.toNat_natCast,Zvy]
  congr 2;omega
 rw [a4,Option.bind_some]
 have u:=Zm (B:=Zgk g p) (fun k=>(k,tabl g.Colors.length fun i=>if (p.idxOf i:Int)<k then ix g.Colors (p.idxOf i:Int) else 0)) (i:=0) (n:=g.Colors.length) ω fun k c k1=>by
  have hs:=Zr5 hp c k1
  have hr:=hp.rng _ (Zq (xs:=p) c ω)
  have hX:(tabl (g.Colors.length:Int) fun i=>if (p.idxOf i:Int)<k then ix g.Colors (p.idxOf i:Int) else 0).length=g.Colors.length:=by rw [Zn];omega
  generalize (tabl (g.Colors.length:Int) fun i=>if (p.idxOf i:Int)<k then ix g.Colors (p.idxOf i:Int) else 0)=X at hs hX ⊢
  simp (disch:=omega) only [pz,Zgk,hs]
 rw [u,Zr1 hp]
 have a2:(colM g p).length=g.Colors.length:=by rw [Zrl];omega
 have a1:=Zta (g:=⟨colM g p,[]⟩) (by show (colM g p).length<=64;omega) (by simp) (fun e he=>by simp at he)
 have a1:ZeF ⟨colM g p,[]⟩=some (tb g.Colors.length (adj ((g.Edges.take (0:Int).toNat).map (mvE p)))):=by
  rw [a1]
  show some (tb ((colM g p).length:Int) (adj []))=_
  rw [a2];rfl
 have v:=Zm (B:=Zef g p (colM g p)) (fun k=>(k,tb g.Colors.length (adj ((g.Edges.take k.toNat).map (mvE p))))) (i:=0) (n:=g.Edges.length) ω fun k c k1=>by
  have w:=Zb0 hg (Zq c k1)
  obtain ⟨j,l⟩:=hp.rng _ (Zq (xs:=p) (i:=(ix g.Edges k).A) ω ω)
  obtain ⟨o,r⟩:=hp.rng _ (Zq (xs:=p) (i:=(ix g.Edges k).B) ω ω)
  have hs:=ZtZ (F:=adj ((g.Edges.take k.toNat).map (mvE p))) j l o r
  have ht:(tb (g.Colors.length:Int) fun a b=>adj ((g.Edges.take k.toNat).map (mvE p)) a b||((ix p (ix g.Edges k).A==a&&ix p (ix g.Edges k).B==b)||(ix p (ix g.Edges k).A==b&&ix p (ix g.Edges k).B==a)))=tb g.Colors.length (adj ((g.Edges.take (k+1).toNat).map (mvE p))):=ZnZ fun a b _ _ _ _=>by
   rw [Zee c k1]
   unfold adj
   rw [List.any_append]
   simp [mvE]
  rw [ht] at hs
  have t:=ZlV (F:=adj ((g.Edges.take k.toNat).map (mvE p))) j l o r
  have l1:=ZjQ (g.Colors.length:Int) (adj ((g.Edges.take k.toNat).map (mvE p)))
  have l2:=Zf0 (F:=adj ((g.Edges.take k.toNat).map (mvE p))) j l
  have x:(ix ((tb (g.Colors.length:Int) (adj ((g.Edges.take k.toNat).map (mvE p)))).set (ix p (ix g.Edges k).A).toNat ((ix (tb (g.Colors.length:Int) (adj ((g.Edges.take k.toNat).map (mvE p)))) (ix p (ix g.Edges k).A)).set (ix p (ix g.Edges k).B).toNat true)) (ix p (ix g.Edges k).B)).length=g.Colors.length:=by rw [t,Zf0 o r];omega
  generalize tb (g.Colors.length:Int) (adj ((g.Edges.take k.toNat).map (mvE p)))=X at hs l1 l2 x ⊢
  have y:(X.set (ix p (ix g.Edges k).A).toNat ((ix X (ix p (ix g.Edges k).A)).set (ix p (ix g.Edges k).B).toNat true)).length=g.Colors.length:=by rw [List.length_set];omega
  simp (disch:=omega) only [pz,Zef]
  rw [hs]
 have a0:=ZCX (cs:=colM g p) (F:=adj (g.Edges.map (mvE p))) ω
 rw [a2] at a0
 have hE:ofE (g.Colors.length:Int) g.Colors.length (adj (g.Edges.map (mvE p)))=srtE (g.Edges.map (mapE p)):=by
  refine Zlf (ZFv _ _) fun z=>?_
  rw [ZxI,ZrH,List.mem_map]
  constructor
  ·rintro ⟨_,_,s,e,he,h⟩
   obtain ⟨d,f,rfl⟩:=List.mem_map.1 he
   refine ⟨d,f,?_⟩
   unfold mapE
   have h:(ix p d.A=z.A/\ix p d.B=z.B)\/(ix p d.A=z.B/\ix p d.B=z.A):=h
   cases z
   simp only [Zd.mk.injEq]
   dsimp only at h s
   omega
  ·rintro ⟨d,f,rfl⟩
   have w:=Zb0 hg f
   have r1:=hp.rng _ (Zq (xs:=p) (i:=d.A) ω ω)
   have r2:=hp.rng _ (Zq (xs:=p) (i:=d.B) ω ω)
   have aa:ix p d.A≠ix p d.B:=fun h=>by have:=ZlJ hp.nd ω ω ω ω h;omega
   unfold mapE
   refine ⟨by dsimp only;omega,by dsimp only;omega,by dsimp only;omega,mvE p d,List.mem_map_of_mem f,?_⟩
   show (ix p d.A=min _ _/\ix p d.B=max _ _)\/(ix p d.A=max _ _/\ix p d.B=min _ _)
   omega
 rw [hE] at a0
 have s:loop (Zef g p (colM g p)) (0,tb g.Colors.length (adj ((g.Edges.take (0:Int).toNat).map (mvE p))))=some (.inr (relab g p)):=by
  rw [v,Int.toNat_natCast,List.take_length]
  exact Ze (by simp (disch:=omega) only [pz,Zef,a0];rfl)
 exact Ze (by simp (disch:=omega) only [pz,Zgk,a1,s])
theorem Zs7 {es:List Zd} {k:Int} (a:0<=k) (k1:k<(es.length:Int)):flatE (es.take (k+1).toNat)=flatE (es.take k.toNat)++[(ix es k).A,(ix es k).B]:=by
 unfold flatE
 rw [Zax a k1,List.flatMap_append]
 simp
theorem Zfy (es:List Zd):(flatE es).length=2*es.length:=by
 induction es with
 | nil=>rfl
 | cons e es a=>unfold flatE at *;rw [List.flatMap_cons,List.length_append,a];simp;omega
theorem Zs6 {g:Zc} (j:g.Edges.length<=1000000):Zf2 g=some (flatE g.Edges):=by
 unfold Zf2
 have a:=Zm (B:=Zfi g) (fun k=>(flatE (g.Edges.take k.toNat),k)) (i:=0) (n:=g.Edges.length) ω fun k b k1=>by
  have h:=Zfy (g.Edges.take k.toNat)
  rw [List.length_take] at h
  have e:gApp 8 (flatE (g.Edges.take k.toNat)) [(ix g.Edges k).A,(ix g.Edges k).B]=some (flatE (g.Edges.take (k+1).toNat)):=by
   rw [ZaZ (by simp;omega) (by simp;omega),Zs7 b k1]
  simp (disch:=omega) only [pz,Zfi,e]
 have c:(([]:List Int),(0:Int))=(fun k:Int=>(flatE (g.Edges.take k.toNat),k)) 0:=rfl
 rw [c,a,Int.toNat_natCast,List.take_length]
 exact Ze (by simp (disch:=omega) only [pz,Zfi])
theorem Zvr {es:List Zd} (j:es.length<=1000000):Zgw es=some (flatE es):=by
 unfold Zgw
 have a:=Zm (B:=Zfm es) (fun k=>(flatE (es.take k.toNat),k)) (i:=0) (n:=es.length) ω fun k b k1=>by
  have h:=Zfy (es.take k.toNat)
  rw [List.length_take] at h
  have e:gApp 8 (flatE (es.take k.toNat)) [(ix es k).A,(ix es k).B]=some (flatE (es.take (k+1).toNat)):=by
   rw [ZaZ (by simp;omega) (by simp;omega),Zs7 b k1]
  simp (disch:=omega) only [pz,Zfm,e]
 have c:(([]:List Int),(0:Int))=(fun k:Int=>(flatE (es.take k.toNat),k)) 0:=rfl
 rw [c,a,Int.toNat_natCast,List.take_length]
 exact Ze (by simp (disch:=omega) only [pz,Zfm])
theorem Zwv {g h:Zc} (l:g.Colors.length<=1000000) (e:g.Edges.length<=1000000) (f:h.Edges.length<=1000000):Zgz g h=some (cmpG g h):=by
 unfold Zgz cmpG
 have i:Zc.mk g.Colors g.Edges=g:=rfl
 have j:Zc.mk h.Colors h.Edges=h:=rfl
 have c1:=ZbE (a:=g.Colors) (b:=h.Colors) ω
 have o:=Zfy g.Edges
 have c2:=ZbE (a:=flatE g.Edges) (b:=flatE h.Edges) ω
 have k1:=Zs6 (g:=g) e
 have k:=Zs6 (g:=h) f
 by_cases c:cmpL g.Colors h.Colors=0
 ·rw [if_pos c];simp (disch:=omega) only [pz,c1,i,j,k1,k,c2]
 ·rw [if_neg c];simp (disch:=omega) only [pz,c1]
theorem ZwB {g h:Zc} (j:g.Colors.length<=1000000) (e:g.Edges.length<=1000000) (f:h.Edges.length<=1000000):Zfo g h=some (cmpG g h):=by
 unfold Zfo cmpG
 have c1:=Zbh (a:=g.Colors) (b:=h.Colors) ω
 have k:=Zfy g.Edges
 have c2:=Zbh (a:=flatE g.Edges) (b:=flatE h.Edges) ω
 have k1:=Zvr (es:=g.Edges) e
 have i:=Zvr (es:=h.Edges) f
 by_cases c:cmpL g.Colors h.Colors=0
 ·rw [if_pos c];simp (disch:=omega) only [pz,c1,k1,i,c2]
 ·rw [if_neg c];simp (disch:=omega) only [pz,c1]
def spS (g:Zc) (near:List (List Int)) (B:Int) (s:CSt):ZJ:=⟨g,near,s.best,s.perms,s.nodes,s.leaves,B,s.full⟩
def ipS (g:Zc) (near:List (List Int)) (B:Int) (s:CSt):ZG:=⟨⟨B-s.nodes,s.full⟩,g,near,s.nodes,s.leaves,s.best,s.perms⟩
theorem ZlD {g:Zc} {p:List Int} {s:CSt} (h:s.perms=[]\/cmpG (relab g p) s.best<0):leafM g p s=⟨relab g p,[p],s.nodes,s.leaves+1,s.full⟩:=by
 unfold leafM
 dsimp only
 have a:(if s.perms=[] then (-1:Int) else cmpG (relab g p) s.best)<0:=by
  by_cases c:s.perms=[]
  ·rw [if_pos c];omega
  ·rw [if_neg c];exact h.resolve_left c
 rw [if_pos a,if_pos a]
theorem Zsj {g:Zc} {p:List Int} {s:CSt} (h:s.perms≠[]) (a:cmpG (relab g p) s.best=0):leafM g p s=⟨s.best,s.perms++[p],s.nodes,s.leaves+1,s.full⟩:=by
 unfold leafM
 dsimp only
 rw [if_neg h,a]
 simp
theorem ZrC {g:Zc} {p:List Int} {s:CSt} (h:s.perms≠[]) (a:0<cmpG (relab g p) s.best):leafM g p s=⟨s.best,s.perms,s.nodes,s.leaves+1,s.full⟩:=by
 unfold leafM
 dsimp only
 rw [if_neg h,if_neg ω,if_neg ω,if_neg ω]
theorem Ztq {g:Zc} (hg:ValidG g) {s:CSt} (a:Bst g s) (h:s.perms≠[]):s.best.Edges.length<=512:=by
 obtain ⟨p,hp,e⟩:=a h
 rw [e]
 have:=(Zmh hg hp).el
 omega
section
variable {g:Zc} {B:Int} (hg:ValidG g) (hB:B<=20000)
include hg hB
theorem ZDu {rf:ZJ->List Int->Option ZJ} {cells:List Int} {s:CSt} {K:Int} (hp:Vc.Perm cells g.Colors.length) (ht:tgt cells<0) (hK:K<=1000) (hi:CInv B K s) (f:Bst g s):
  q_spec_l22Find_run rf (spS g (nearM g) B s) cells=some (spS g (nearM g) B (leafM g cells s)):=by
 have a3:=hg.cl
 have a2:=hg.el
 have hl:=hp.len
 have j:=hi.le
 have k:=hi.pl
 have l:=hi.nB
 have o:=hi.n0
 have u:=ZsS (cells:=cells) ω (fun x i=>(hp.rng x i).1)
 have hr:Zgp (Zc.mk g.Colors g.Edges) cells=some (relab g cells):=ZxU hg hp
 have b:=Zmh hg hp
 have a5:=b.cl
 have a4:=b.el
 have w:=ZmZ (p:=cells) ω
 unfold q_spec_l22Find_run spS
 dsimp only
 by_cases r:s.perms=[]
 ·rw [ZlD (.inl r)]
  have e:(s.perms.length:Int)=0:=by rw [r];rfl
  have y:gApp 24 ([]:List (List Int)) [cells]=some [cells]:=rfl
  simp (disch:=omega) only [pz,u,hr,Zda,ZcS,w,y]
 ·have e:0<s.perms.length:=List.length_pos_iff.2 r
  have a6:=Ztq hg f r
  have a:Zgz (Zc.mk (relab g cells).Colors (relab g cells).Edges) (Zc.mk s.best.Colors s.best.Edges)=some (cmpG (relab g cells) s.best):=Zwv (g:=relab g cells) (h:=s.best) ω ω ω
  have y:gApp 24 ([]:List (List Int)) [cells]=some [cells]:=rfl
  rcases Int.lt_trichotomy (cmpG (relab g cells) s.best) 0 with c|c|c
  ·rw [ZlD (.inr c)]
   simp (disch:=omega) only [pz,u,hr,Zda,ZcS,w,a,y]
  ·rw [Zsj r c]
   simp (disch:=omega) only [pz,u,hr,Zda,ZcS,w,a,c]
  ·rw [ZrC r c]
   simp (disch:=omega) only [pz,u,hr,Zda,ZcS,w,a]
theorem ZAV {cells:List Int} {s:CSt} {K:Int} (hp:Vc.Perm cells g.Colors.length) (hK:K<=1000) (hi:CInv B K s) (f:Bst g s):
  ZdB (ipS g (nearM g) B s) cells=some (ipS g (nearM g) B (leafM g cells s)):=by
 have x:=hg.cl
 have w:=hg.el
 have hl:=hp.len
 have i:=hi.le
 have j:=hi.pl
 have k:=hi.nB
 have l:=hi.n0
 have u:ZfQ (Zc.mk g.Colors g.Edges) cells=some (relab g cells):=Zyb hg hp
 have b:=Zmh hg hp
 have a0:=b.cl
 have y:=b.el
 unfold ZdB ipS
 dsimp only
 by_cases o:s.perms=[]
 ·rw [ZlD (.inl o)]
  have e:(s.perms.length:Int)=0:=by rw [o];rfl
  have r:gApp 24 ([]:List (List Int)) [cells]=some [cells]:=rfl
  simp (disch:=omega) only [pz,u,Zc3,Zc9,r]
 ·have e:0<s.perms.length:=List.length_pos_iff.2 o
  have a1:=Ztq hg f o
  have a:Zfo (Zc.mk (relab g cells).Colors (relab g cells).Edges) (Zc.mk s.best.Colors s.best.Edges)=some (cmpG (relab g cells) s.best):=ZwB (g:=relab g cells) (h:=s.best) ω ω ω
  have r:gApp 24 ([]:List (List Int)) [cells]=some [cells]:=rfl
  rcases Int.lt_trichotomy (cmpG (relab g cells) s.best) 0 with c|c|c
  ·rw [ZlD (.inr c)]
   simp (disch:=omega) only [pz,u,Zc3,Zc9,a,r]
  ·rw [Zsj o c]
   simp (disch:=omega) only [pz,u,Zc3,Zc9,a,c]
  ·rw [ZrC o c]
   simp (disch:=omega) only [pz,u,Zc3,Zc9,a]
end
theorem Zh8 {g:Zc} {near:List (List Int)} {B:Int} {d:Nat} {cells:List Int}:∀ (vs:List Int) {s:CSt},s.full=true->vs.foldl (stepM g near B d cells) s=s
 | [],s,_=>rfl
 | v::vs,s,h=>by
  rw [List.foldl_cons]
  have:stepM g near B d cells s v=s:=by unfold stepM;rw [if_pos h]
  rw [this,Zh8 vs h]
theorem Zt8 {g:Zc} {near:List (List Int)} {B:Int} {d:Nat} {cells:List Int} {s:CSt} {v:Int} (h:s.nodes=B):stepM g near B d cells s v={ s with full:=true }:=by
 unfold stepM
 by_cases a:s.full=true
 ·rw [if_pos a]
  cases s
  dsimp only at a
  rw [a]
 ·rw [if_neg a,if_pos h]
theorem ZsP {g:Zc} {near:List (List Int)} {B:Int} {d:Nat} {cells:List Int} {s:CSt} {v:Int} (h:¬ s.nodes=B) (a:s.full=false):stepM g near B d cells s v=srch g near B d (refN near (sgl cells v)) { s with nodes:=s.nodes+1 }:=by
 unfold stepM
 rw [if_neg (by rw [a];simp),if_neg h]
theorem Zxk {n:Nat} {cells:List Int} {t k:Int} (a:0<=k) (k1:k<(n:Int)):((idP (n:Int)).drop k.toNat).filter (fun v=>ix cells v==t)=(if ix cells k=t then [k] else [])++((idP (n:Int)).drop (k+1).toNat).filter (fun v=>ix cells v==t):=by
 rw [ZaE a (by rw [Zag];omega),ZcO a k1,List.filter_cons]
 by_cases c:ix cells k=t
 ·rw [if_pos c,if_pos (by simpa using c)];rfl
 ·rw [if_neg c,if_neg (by simpa using c)];rfl
section
variable {g:Zc} {B:Int} (hg:ValidG g) (hB:B<=20000)
include hg hB
theorem Ztl:∀ (d m:Nat) (cells:List Int) (s:CSt) (K:Int),d<=m->Cel (nearM g).length cells->(nearM g).length<d+cnt cells->K<=1000->CInv B K s->Bst g s ->
  pn_spec_l22Find_run m (spS g (nearM g) B s) cells=some (spS g (nearM g) B (srch g (nearM g) B d cells s))
 | 0,m,cells,s,K,hm,u,hd,hK,hi,r=>by have:=Zej cells;have:=u.len;omega
 | d+1,m,cells,s,K,hm,u,hd,hK,hi,r=>by
  obtain ⟨m',rfl⟩:∃ m',m=m'+1:=⟨m-1,by omega⟩
  have hN:=Zqg hg
  have hn:=hN.n
  have ai:=ZkY g
  have ag:=u.len
  show q_spec_l22Find_run (pn_spec_l22Find_run m') _ _=_
  rw [ZkT]
  have a0:∀ x∈cells,0<=x:=fun x hx=>(u.rng x hx).1
  by_cases ht:tgt cells<0
  ·rw [if_pos ht]
   have b0:cells.Nodup:=by
    rcases Zdk a0 with ⟨_,h⟩|⟨h,_⟩
    ·exact h
    ·omega
   have hp:Vc.Perm cells g.Colors.length:=by rw [<-ai];exact u.perm b0
   exact ZDu hg hB hp ht hK hi r
  ·rw [if_neg ht]
   have ao:=ZsS (cells:=cells) ω a0
   have am:∀ j,0<=j->j<(cells.length:Int)->0<=ix cells j/\ix cells j<64:=fun j a b=>by
    have:=u.rng _ (Zq a b)
    omega
   have av:∀ (y:Nat) (k:Int) (s:CSt),k+y=(cells.length:Int)->0<=k->CInv B K s->Bst g s->∀ (l:ZJ),l.qg=g->l.qnear=nearM g ->
     loop (Zbt (pn_spec_l22Find_run m') l cells (tgt cells)) (k,s.nodes,s.leaves,B,s.full,s.best.Colors,s.best.Edges,s.perms)=some (spS g (nearM g) B ((((idP (cells.length:Int)).drop k.toNat).filter (fun v=>ix cells v==tgt cells)).foldl (stepM g (nearM g) B d cells) s)):=by
    intro y
    induction y with
    | zero=>
     intro k s hk k0 hi r l o p
     obtain rfl:k=(cells.length:Int):=ω
     have e:(idP (cells.length:Int)).drop ((cells.length:Int)).toNat=[]:=List.drop_eq_nil_of_le (by rw [Zag];omega)
     rw [e]
     refine Ze ?_
     unfold Zbt
     dsimp only
     rw [o,p]
     simp (disch:=omega) only [pz,]
     rfl
    | succ y ih=>
     intro k s hk k0 hi r l o p
     have a1:k<(cells.length:Int):=ω
     have a7:=Zxk (n:=cells.length) (cells:=cells) (t:=tgt cells) k0 a1
     have i1:=hi.le
     have i2:=hi.pl
     have i3:=hi.nB
     have i4:=hi.n0
     by_cases a9:ix cells k=tgt cells
     ·rw [if_pos a9] at a7
      rw [a7,List.singleton_append,List.foldl_cons]
      by_cases aj:s.nodes=B
      ·rw [Zt8 aj,Zh8 _ rfl]
       refine Ze ?_
       unfold Zbt ZeN
       dsimp only
       rw [o,p]
       simp (disch:=omega) only [pz,]
       rfl
      ·cases hf:s.full with
       | true=>
        have ax:stepM g (nearM g) B d cells s k=s:=by unfold stepM;rw [if_pos hf]
        rw [ax,Zh8 _ hf]
        refine Ze ?_
        unfold Zbt ZeN
        dsimp only
        rw [o,p]
        simp (disch:=omega) only [pz,]
        unfold spS
        rw [hf]
       | false=>
        rw [ZsP aj hf]
        have b1:k∈vts cells (tgt cells):=Zlk.2 ⟨⟨k0,a1⟩,a9⟩
        have b2:=u.more ht b1
        have ah:=Zii cells k
        have ad:Cel (nearM g).length (refN (nearM g) (sgl cells k)):=Cel.ref (by rw [ah,ag])
        have a2:CInv B (K-1) { s with nodes:=s.nodes+1 }:=⟨by show s.leaves<=s.nodes+1+(K-1);omega,i2,by show 0<=s.nodes+1;omega,by show s.nodes+1<=B;omega⟩
        have ac:=Ztl d m' (refN (nearM g) (sgl cells k)) { s with nodes:=s.nodes+1 } (K-1) ω ad ω ω a2 r
        have a4:=ZnU g (nearM g) B d (refN (nearM g) (sgl cells k)) _ _ a2
        rw [show K-1+1=K by omega] at a4
        have aa:=(Zly ai B d (refN (nearM g) (sgl cells k)) { s with nodes:=s.nodes+1 } ad ω r).1
        generalize srch g (nearM g) B d (refN (nearM g) (sgl cells k)) { s with nodes:=s.nodes+1 }=f at ac a4 aa ⊢
        have au:=Zm (B:=Zcr (pn_spec_l22Find_run m') l cells k s.nodes s.leaves B s.best.Colors s.best.Edges s.perms s.full) (fun j=>(tabl j fun w=>if w=k then 2*ix cells w else 2*ix cells w+1,j)) (i:=0) (n:=cells.length) ω fun j j0 j1=>by
         obtain ⟨x0,x1⟩:=am j j0 j1
         have a8:(tabl j fun w=>if w=k then 2*ix cells w else 2*ix cells w+1).length<=64:=by rw [Zn];omega
         have a5:(tabl (j+1) fun w=>if w=k then 2*ix cells w else 2*ix cells w+1)=_:=ZY j0
         by_cases c:j=k
         ·rw [if_pos c] at a5
          have hw:2*ix cells j+1-1=2*ix cells j:=ω
          rw [a5]
          generalize (tabl j fun w=>if w=k then 2*ix cells w else 2*ix cells w+1)=X at a8 ⊢
          simp (disch:=omega) only [pz,Zcr,ZfN,hw]
         ·rw [if_neg c] at a5
          rw [a5]
          generalize (tabl j fun w=>if w=k then 2*ix cells w else 2*ix cells w+1)=X at a8 ⊢
          simp (disch:=omega) only [pz,Zcr,ZfN]
        have e0:(([]:List Int),(0:Int))=(fun j:Int=>(tabl j fun w=>if w=k then 2*ix cells w else 2*ix cells w+1,j)) 0:=rfl
        have ap:=Zrf (c:=sgl cells k) hN (by rw [ah,ag])
        have al:loop (Zcr (pn_spec_l22Find_run m') l cells k s.nodes s.leaves B s.best.Colors s.best.Edges s.perms s.full) (([]:List Int),0)=some (.inl (k+1,f.nodes,f.leaves,B,f.full,f.best.Colors,f.best.Edges,f.perms)):=by
         rw [e0,au]
         refine Ze ?_
         show Zcr _ _ _ _ _ _ _ _ _ _ _ (sgl cells k,(cells.length:Int))=_
         have ae:pn_spec_l22Find_run m' (ZJ.mk (Zc.mk g.Colors g.Edges) (nearM g) (Zc.mk s.best.Colors s.best.Edges) s.perms (s.nodes+1) s.leaves B s.full) (refN (nearM g) (sgl cells k))=some (spS g (nearM g) B f):=ac
         unfold Zcr
         dsimp only
         rw [o,p]
         simp (disch:=omega) only [pz,ap,ae]
         rfl
        have ab:Zbt (pn_spec_l22Find_run m') l cells (tgt cells) (k,s.nodes,s.leaves,B,s.full,s.best.Colors,s.best.Edges,s.perms)=some (.inl (k+1,f.nodes,f.leaves,B,f.full,f.best.Colors,f.best.Edges,f.perms)):=by
         have a6:=al
         rw [hf] at a6
         unfold Zbt ZeN
         dsimp only
         simp (disch:=omega) only [pz,a6,hf]
        rw [<-hf,ZI ab]
        exact ih (k+1) f ω ω a4 aa l o p
     ·rw [if_neg a9,List.nil_append] at a7
      rw [a7]
      have ab:Zbt (pn_spec_l22Find_run m') l cells (tgt cells) (k,s.nodes,s.leaves,B,s.full,s.best.Colors,s.best.Edges,s.perms)=some (.inl (k+1,s.nodes,s.leaves,B,s.full,s.best.Colors,s.best.Edges,s.perms)):=by
       unfold Zbt
       dsimp only
       simp (disch:=omega) only [pz,]
      rw [ZI ab]
      exact ih (k+1) s ω ω hi r l o p
   have:=av cells.length 0 s ω ω hi r (spS g (nearM g) B s) rfl rfl
   unfold q_spec_l22Find_run
   rw [ao,Option.bind_some,dec_f ω]
   exact this
theorem ZuI:∀ (d m:Nat) (cells:List Int) (s:CSt) (K:Int),d<=m->Cel (nearM g).length cells->(nearM g).length<d+cnt cells->K<=1000->CInv B K s->Bst g s ->
  pn_impl_explorer_search m (ipS g (nearM g) B s) cells=some (ipS g (nearM g) B (srch g (nearM g) B d cells s))
 | 0,m,cells,s,K,hm,r,hd,hK,hi,t=>by have:=Zej cells;have:=r.len;omega
 | d+1,m,cells,s,K,hm,r,hd,hK,hi,t=>by
  obtain ⟨m',rfl⟩:∃ m',m=m'+1:=⟨m-1,by omega⟩
  have hN:=Zqg hg
  have hn:=hN.n
  have ai:=ZkY g
  have aj:=r.len
  show q_impl_explorer_search (pn_impl_explorer_search m') _ _=_
  rw [ZkT]
  have a1:∀ x∈cells,0<=x:=fun x hx=>(r.rng x hx).1
  have a4:=ZBX (cells:=cells) ω (fun x hx=>by have:=r.rng x hx;omega)
  by_cases ht:tgt cells<0
  ·rw [if_pos ht] at a4 ⊢
   have b0:cells.Nodup:=by
    rcases Zdk a1 with ⟨_,h⟩|⟨h,_⟩
    ·exact h
    ·omega
   have hp:Vc.Perm cells g.Colors.length:=by rw [<-ai];exact r.perm b0
   have b7:=ZAV hg hB hp hK hi t
   have an:ZdB (ZG.mk (Zar.mk (B-s.nodes) s.full) (Zc.mk g.Colors g.Edges) (nearM g) s.nodes s.leaves (Zc.mk s.best.Colors s.best.Edges) s.perms) cells=some (ipS g (nearM g) B (leafM g cells s)):=b7
   unfold q_impl_explorer_search
   rw [a4]
   show (ZdB _ cells).bind _=_
   unfold ipS
   dsimp only
   rw [an]
   rfl
  ·rw [if_neg ht] at a4 ⊢
   have ag:∀ j,0<=j->j<(cells.length:Int)->0<=ix cells j/\ix cells j<64:=fun j a b=>by
    have:=r.rng _ (Zq a b)
    omega
   have au:(vts cells (tgt cells)).length<=64:=by
    have:=List.length_filter_le (fun v=>ix cells v==tgt cells) (idP (cells.length:Int))
    rw [Zag] at this
    unfold vts
    omega
   have az:(vts cells (tgt cells)).length≠0:=fun e=>Zt7 a1 ht (List.length_eq_zero_iff.1 e)
   have a6:∀ v∈vts cells (tgt cells),v∈vts cells (tgt cells):=fun v h=>h
   generalize hV:vts cells (tgt cells)=V at a4 au az a6 ⊢
   have a6:∀ v∈V,v∈vts cells (tgt cells):=by rw [hV];exact a6
   have b8:∀ (y:Nat) (k:Int) (s:CSt),k+y=(V.length:Int)->0<=k->CInv B K s->Bst g s->∀ (p:ZG),p.qgraph=g->p.qlists=nearM g ->
     loop (Zcb (pn_impl_explorer_search m') p cells V) (k,B-s.nodes,s.full,s.nodes,s.leaves,s.best.Colors,s.best.Edges,s.perms)=some (ipS g (nearM g) B ((V.drop k.toNat).foldl (stepM g (nearM g) B d cells) s)):=by
    intro y
    induction y with
    | zero=>
     intro k s hk k0 hi t p l o
     obtain rfl:k=(V.length:Int):=ω
     have e:V.drop ((V.length:Int)).toNat=[]:=List.drop_eq_nil_of_le ω
     rw [e]
     refine Ze ?_
     unfold Zcb
     dsimp only
     rw [l,o]
     simp (disch:=omega) only [pz,]
     rfl
    | succ y ih=>
     intro k s hk k0 hi t p l o
     have a2:k<(V.length:Int):=ω
     have u:=hi.le
     have i2:=hi.pl
     have i3:=hi.nB
     have i4:=hi.n0
     rw [ZaE k0 a2,List.foldl_cons]
     have a9:=a6 _ (Zq k0 a2)
     generalize hv:ix V k=v at a9 ⊢
     obtain ⟨⟨v0,v1⟩,_⟩:=Zlk.1 a9
     cases hf:s.full with
     | true=>
      have aw:stepM g (nearM g) B d cells s v=s:=by unfold stepM;rw [if_pos hf]
      rw [aw,Zh8 _ hf]
      refine Ze ?_
      unfold Zcb
      dsimp only
      rw [l,o]
      simp (disch:=omega) only [pz,]
      unfold ipS
      rw [hf]
     | false=>
      by_cases al:s.nodes=B
      ·rw [Zt8 al,Zh8 _ rfl]
       refine Ze ?_
       unfold Zcb ZhG
       dsimp only
       rw [l,o]
       simp (disch:=omega) only [pz,]
       rfl
      ·rw [ZsP al hf]
       have ba:=r.more ht a9
       have ah:=Zii cells v
       have aa:Cel (nearM g).length (refN (nearM g) (sgl cells v)):=Cel.ref (by rw [ah,aj])
       have a3:CInv B (K-1) { s with nodes:=s.nodes+1 }:=⟨by show s.leaves<=s.nodes+1+(K-1);omega,i2,by show 0<=s.nodes+1;omega,by show s.nodes+1<=B;omega⟩
       have a7:=ZuI d m' (refN (nearM g) (sgl cells v)) { s with nodes:=s.nodes+1 } (K-1) ω aa ω ω a3 t
       have a5:=ZnU g (nearM g) B d (refN (nearM g) (sgl cells v)) _ _ a3
       rw [show K-1+1=K by omega] at a5
       have a8:=(Zly ai B d (refN (nearM g) (sgl cells v)) { s with nodes:=s.nodes+1 } aa ω t).1
       generalize srch g (nearM g) B d (refN (nearM g) (sgl cells v)) { s with nodes:=s.nodes+1 }=f at a7 a5 a8 ⊢
       have b3:=Zm (B:=ZeO (pn_impl_explorer_search m') p cells k s.nodes s.leaves s.best.Colors s.best.Edges s.perms v (B-s.nodes-1) false) (fun j=>(j,tabl cells.length fun w=>if w<j then 2*ix cells w+1 else 0)) (i:=0) (n:=cells.length) ω fun j j0 j1=>by
        obtain ⟨x0,x1⟩:=ag j j0 j1
        have hset:(tabl cells.length fun w=>if w<j then 2*ix cells w+1 else 0).set j.toNat (2*ix cells j+1)=tabl cells.length fun w=>if w<j+1 then 2*ix cells w+1 else 0:=by
         refine Zah j0 j1 (fun i i0 u hi=>?_) ?_
         ·by_cases c:i<j
          ·rw [if_pos c,if_pos ω]
          ·rw [if_neg c,if_neg ω]
         ·rw [if_pos ω]
        have hX:(tabl (cells.length:Int) fun w=>if w<j then 2*ix cells w+1 else 0).length=cells.length:=by rw [Zn];omega
        generalize (tabl (cells.length:Int) fun w=>if w<j then 2*ix cells w+1 else 0)=X at hset hX ⊢
        simp (disch:=omega) only [pz,ZeO,hset]
       have ar:gMake 8 (0:Int) (cells.length:Int) (cells.length:Int)=some (tabl cells.length fun w=>if w<0 then 2*ix cells w+1 else 0):=by
        rw [Zav ω ω ω,Int.toNat_natCast]
        congr 1
        refine ZaG (by rw [List.length_replicate,Zn];omega) fun i i0 u=>?_
        rw [List.length_replicate] at u
        rw [Zce i0 ω,ZM i0 ω,if_neg ω]
       have hS:(tabl cells.length fun w=>if w<(cells.length:Int) then 2*ix cells w+1 else 0).set v.toNat (2*ix cells v+1-1)=sgl cells v:=by
        unfold sgl
        refine Zah v0 v1 (fun i i0 u hi=>?_) ?_
        ·rw [if_neg hi,if_pos u]
        ·rw [if_pos rfl];omega
       have ak:ix (tabl cells.length fun w=>if w<(cells.length:Int) then 2*ix cells w+1 else 0) v=2*ix cells v+1:=by rw [ZM v0 v1,if_pos v1]
       have hX:(tabl (cells.length:Int) fun w=>if w<(cells.length:Int) then 2*ix cells w+1 else 0).length=cells.length:=by rw [Zn];omega
       obtain ⟨ab,ac⟩:=ag v v0 v1
       have av:=Zr7 (c:=sgl cells v) hN (by rw [ah,aj])
       have aq:loop (ZeO (pn_impl_explorer_search m') p cells k s.nodes s.leaves s.best.Colors s.best.Edges s.perms v (B-s.nodes-1) false) (0,tabl cells.length fun w=>if w<0 then 2*ix cells w+1 else 0)=some (.inl (k+1,B-f.nodes,f.full,f.nodes,f.leaves,f.best.Colors,f.best.Edges,f.perms)):=by
        rw [b3]
        refine Ze ?_
        have ad:pn_impl_explorer_search m' (ZG.mk (Zar.mk (B-s.nodes-1) false) (Zc.mk g.Colors g.Edges) (nearM g) (s.nodes+1) s.leaves (Zc.mk s.best.Colors s.best.Edges) s.perms) (refN (nearM g) (sgl cells v))=some (ipS g (nearM g) B f):=by
         rw [<-a7]
         unfold ipS
         rw [<-hf,show B-s.nodes-1=B-(s.nodes+1) by omega]
        generalize (tabl (cells.length:Int) fun w=>if w<(cells.length:Int) then 2*ix cells w+1 else 0)=X at hS ak hX ⊢
        unfold ZeO
        dsimp only
        rw [l,o]
        simp (disch:=omega) only [pz,ak,hS,av,ad]
        rfl
       have b9:Zcb (pn_impl_explorer_search m') p cells V (k,B-s.nodes,false,s.nodes,s.leaves,s.best.Colors,s.best.Edges,s.perms)=some (.inl (k+1,B-f.nodes,f.full,f.nodes,f.leaves,f.best.Colors,f.best.Edges,f.perms)):=by
        unfold Zcb ZhG ZjM
        dsimp only
        simp (disch:=omega) only [pz,hv,ar,aq]
       rw [ZI b9]
       exact ih (k+1) f ω ω a5 a8 p l o
   have:=b8 V.length 0 s ω ω hi t (ipS g (nearM g) B s) rfl rfl
   unfold q_impl_explorer_search
   rw [a4,Option.bind_some,beq_f ω]
   exact this
end
end Go.Proofs.YtccncimchmimdaaGreatDoor
