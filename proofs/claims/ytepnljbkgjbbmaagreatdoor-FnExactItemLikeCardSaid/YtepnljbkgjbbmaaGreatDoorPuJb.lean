import Derived.Test.YtepnljbkgjbbmaaGreatDoorPuJa
import Derived.Test.YtepnljbkgjbbmaaGreatDoorPuJd
namespace Go.Proofs.YtepnljbkgjbbmaaGreatDoor
open Go Go.Vc
set_option linter.unusedSimpArgs false
set_option linter.unusedVariables false
theorem ZlB {α:Type} {R:α->α->Prop} (asym:∀ x y,R x y->¬ R y x):∀ {a b:List α},a.Pairwise R->b.Pairwise R->(∀ x,x∈a↔x∈b)->a=b
 | [],[],_,_,_=>rfl
 | [],y::b,_,_,h=>by have:=(h y).2 (List.mem_cons_self ..);simp at this
 | x::a,[],_,_,h=>by have:=(h x).1 (List.mem_cons_self ..);simp at this
 | x::a,y::b,ha,c,h=>by
  rw [List.pairwise_cons] at ha c
  have irr:∀ x,¬ R x x:=fun x f=>asym x x f f
  have e:x=y:=by
   rcases List.mem_cons.1 ((h x).1 (List.mem_cons_self ..)) with e|f
   ·exact e
   ·rcases List.mem_cons.1 ((h y).2 (List.mem_cons_self ..)) with e|hy
    ·exact e.symm
    ·exact absurd (ha.1 y hy) (asym _ _ (c.1 x f))
  subst e
  rw [ZlB asym ha.2 c.2 fun z=>?_]
  constructor
  ·intro hz
   rcases List.mem_cons.1 ((h z).1 (List.mem_cons_of_mem _ hz)) with e|hz'
   ·subst e;exact absurd (ha.1 z hz) (irr z)
   ·exact hz'
  ·intro hz
   rcases List.mem_cons.1 ((h z).2 (List.mem_cons_of_mem _ hz)) with e|hz'
   ·subst e;exact absurd (c.1 z hz) (irr z)
   ·exact hz'
def insL {α:Type} (c:α->Int) (y:α):List α->List α
 | []=>[y]
 | x::r=>if c x<0 then x::insL c y r else if c x=0 then x::r else y::x::r
theorem Zkk {α:Type} {c:α->Int} {y:α} (e:∀ x,c x=0->x=y):∀ {l:List α} {z:α},z∈insL c y l↔z=y\/z∈l
 | [],z=>by simp [insL]
 | x::r,z=>by
  rw [insL]
  by_cases h1:c x<0
  ·rw [if_pos h1,List.mem_cons,Zkk e,List.mem_cons]
   constructor
   ·rintro (h|h|h)
    ·exact .inr (.inl h)
    ·exact .inl h
    ·exact .inr (.inr h)
   ·rintro (h|h|h)
    ·exact .inr (.inl h)
    ·exact .inl h
    ·exact .inr (.inr h)
  ·rw [if_neg h1]
   by_cases a:c x=0
   ·rw [if_pos a]
    have:=e x a
    subst this
    constructor
    ·exact .inr
    ·rintro (h|h)
     ·rw [h];exact List.mem_cons_self ..
     ·exact h
   ·rw [if_neg a,List.mem_cons]
theorem ZmA {α:Type} {R:α->α->Prop} {c:α->Int} {y:α} (i:∀ x,c x=0->x=y) (h1:∀ x,c x<0->R x y) (a:∀ x,0<c x->R y x) (k:∀ x y z,R x y->R y z->R x z):∀ {l:List α},l.Pairwise R->(insL c y l).Pairwise R
 | [],_=>by simp [insL]
 | x::r,h=>by
  rw [List.pairwise_cons] at h
  rw [insL]
  by_cases f:c x<0
  ·rw [if_pos f,List.pairwise_cons]
   refine ⟨fun z hz=>?_,ZmA i h1 a k h.2⟩
   rcases (Zkk i).1 hz with e|hz
   ·rw [e];exact h1 x f
   ·exact h.1 z hz
  ·rw [if_neg f]
   by_cases j:c x=0
   ·rw [if_pos j,List.pairwise_cons];exact h
   ·rw [if_neg j,List.pairwise_cons,List.pairwise_cons]
    refine ⟨fun z hz=>?_,h⟩
    rcases List.mem_cons.1 hz with e|hz
    ·rw [e];exact a x ω
    ·exact k _ _ _ (a x ω) (h.1 z hz)
theorem Zpg {α:Type} (c:α->Int) (y:α):∀ (l:List α),(insL c y l).length<=l.length+1
 | []=>by simp [insL]
 | x::r=>by
  have:=Zpg c y r
  rw [insL]
  split
  ·simp only [List.length_cons];omega
  ·split
   ·simp
   ·simp
theorem Zrd {l:List Int} {n:Int} (w:(l.length:Int)<=1000000):∀ (t:List Int) (i:Int) (o:List Int),0<=i->l.drop i.toNat=t->i<=(l.length:Int)->(o.length:Int)<=i+1->loop (ZaP l n) (o,true,i)=some (o++t):=by
 intro t
 induction t with
 | nil=>
  intro i o e c k u
  have hi:i=(l.length:Int):=by have:=congrArg List.length c;simp at this;omega
  rw [List.append_nil]
  refine Zc ?_
  simp (disch:=omega) only [pz,ZaP]
 | cons a t r=>
  intro i o e c k u
  have f:i<(l.length:Int):=by have:=congrArg List.length c;simp at this;omega
  have h:=ZaQ (xs:=l) e f
  rw [c] at h
  obtain ⟨rfl,j⟩:=List.cons.inj h
  have hB:ZaP l n (o,true,i)=some (.inl (o++[ix l i],true,i+1)):=by
   simp (disch:=omega) only [pz,ZaP,Zdh,Zcc]
  rw [ZG hB,r (i+1) _ ω j.symm ω (by rw [List.length_append,List.length_singleton];omega),List.append_assoc];rfl
theorem ZFR {l:List Int} {n:Int} (u:(l.length:Int)<=1000000):∀ (t:List Int) (i:Int) (r:List Int),0<=i->l.drop i.toNat=t->i<=(l.length:Int)->(r.length:Int)<=i->loop (ZaP l n) (r,false,i)=some (r++insL (fun x=>x-n) n t):=by
 intro t
 induction t with
 | nil=>
  intro i r f e o w
  have hi:i=(l.length:Int):=by have:=congrArg List.length e;simp at this;omega
  refine Zc ?_
  simp (disch:=omega) only [pz,ZaP,insL]
 | cons a t y=>
  intro i r f e o w
  have h:i<(l.length:Int):=by have:=congrArg List.length e;simp at this;omega
  have j:=ZaQ (xs:=l) f h
  rw [e] at j
  obtain ⟨rfl,c⟩:=List.cons.inj j
  rw [insL]
  by_cases h1:ix l i-n<0
  ·rw [if_pos h1]
   have hB:ZaP l n (r,false,i)=some (.inl (r++[ix l i],false,i+1)):=by
    simp (disch:=omega) only [pz,ZaP,Zdh,Zcc]
   rw [ZG hB,y (i+1) _ ω c.symm ω (by rw [List.length_append,List.length_singleton];omega),List.append_assoc];rfl
  ·rw [if_neg h1]
   by_cases k:ix l i-n=0
   ·rw [if_pos k]
    have hB:ZaP l n (r,false,i)=some (.inl (r++[ix l i],true,i+1)):=by
     simp (disch:=omega) only [pz,ZaP,Zdh,Zcc]
    rw [ZG hB,Zrd u t (i+1) _ ω c.symm ω (by rw [List.length_append,List.length_singleton];omega),List.append_assoc];rfl
   ·rw [if_neg k]
    have hB:ZaP l n (r,false,i)=some (.inl (r++[n]++[ix l i],true,i+1)):=by
     have p:(r++[n]).length=r.length+1:=by simp
     simp (disch:=omega) only [pz,ZaP,Zdh,Zcc]
    rw [ZG hB,Zrd u t (i+1) _ ω c.symm ω (by rw [List.length_append,List.length_append,List.length_singleton,List.length_singleton];omega),List.append_assoc,List.append_assoc];rfl
theorem ZEc {l:List Int} {n:Int} (a:(l.length:Int)<=1000000):Zmc l n=some (insL (fun x=>x-n) n l):=ZFR a l 0 [] (Int.le_refl 0) rfl ω (by simp)
theorem Zug {l:List (List Int)} {y:List Int} (hl:(l.length:Int)<=1000000) (hr:∀ x∈l,(x.length:Int)<=1048576):∀ (t:List (List Int)) (i:Int) (r:List (List Int)),0<=i->l.drop i.toNat=t->i<=(l.length:Int)->(r.length:Int)<=i+1->loop (ZaO l y) (r,true,i)=some (r++t):=by
 intro t
 induction t with
 | nil=>
  intro i r f c k u
  have hi:i=(l.length:Int):=by have:=congrArg List.length c;simp at this;omega
  rw [List.append_nil]
  refine Zc ?_
  simp (disch:=omega) only [pz,ZaO]
 | cons a t w=>
  intro i r f c k u
  have e:i<(l.length:Int):=by have:=congrArg List.length c;simp at this;omega
  have h:=ZaQ (xs:=l) f e
  rw [c] at h
  obtain ⟨rfl,j⟩:=List.cons.inj h
  have o:=Zb7 (a:=ix l i) (b:=y) (by have:=hr _ (Zo f e);omega)
  have hB:ZaO l y (r,true,i)=some (.inl (r++[ix l i],true,i+1)):=by
   simp (disch:=omega) only [pz,ZaO,ZdJ,Zck,o]
  rw [ZG hB,w (i+1) _ ω j.symm ω (by rw [List.length_append,List.length_singleton];omega),List.append_assoc];rfl
theorem Zy8 {l:List (List Int)} {y:List Int} (hl:(l.length:Int)<=1000000) (w:∀ x∈l,(x.length:Int)<=1048576):∀ (t:List (List Int)) (i:Int) (u:List (List Int)),0<=i->l.drop i.toNat=t->i<=(l.length:Int)->(u.length:Int)<=i->loop (ZaO l y) (u,false,i)=some (u++insL (fun x=>cmpL x y) y t):=by
 intro t
 induction t with
 | nil=>
  intro i u h e p ho
  have hi:i=(l.length:Int):=by have:=congrArg List.length e;simp at this;omega
  refine Zc ?_
  simp (disch:=omega) only [pz,ZaO,insL]
 | cons a t ih=>
  intro i u h e p ho
  have f:i<(l.length:Int):=by have:=congrArg List.length e;simp at this;omega
  have k:=ZaQ (xs:=l) h f
  rw [e] at k
  obtain ⟨rfl,c⟩:=List.cons.inj k
  have j:=Zb7 (a:=ix l i) (b:=y) (by have:=w _ (Zo h f);omega)
  rw [insL]
  by_cases h1:cmpL (ix l i) y<0
  ·rw [if_pos h1]
   have hB:ZaO l y (u,false,i)=some (.inl (u++[ix l i],false,i+1)):=by
    simp (disch:=omega) only [pz,ZaO,ZdJ,Zck,j]
   rw [ZG hB,ih (i+1) _ ω c.symm ω (by rw [List.length_append,List.length_singleton];omega),List.append_assoc];rfl
  ·rw [if_neg h1]
   by_cases o:cmpL (ix l i) y=0
   ·rw [if_pos o]
    have hB:ZaO l y (u,false,i)=some (.inl (u++[ix l i],true,i+1)):=by
     simp (disch:=omega) only [pz,ZaO,ZdJ,Zck,j]
    rw [ZG hB,Zug hl w t (i+1) _ ω c.symm ω (by rw [List.length_append,List.length_singleton];omega),List.append_assoc];rfl
   ·rw [if_neg o]
    have hB:ZaO l y (u,false,i)=some (.inl (u++[y]++[ix l i],true,i+1)):=by
     have r:(u++[y]).length=u.length+1:=by simp
     simp (disch:=omega) only [pz,ZaO,ZdJ,Zck,j]
    rw [ZG hB,Zug hl w t (i+1) _ ω c.symm ω (by rw [List.length_append,List.length_append,List.length_singleton,List.length_singleton];omega),List.append_assoc,List.append_assoc];rfl
theorem ZwA {l:List (List Int)} {y:List Int} (a:(l.length:Int)<=1000000) (e:∀ x∈l,(x.length:Int)<=1048576):Zlw l y=some (insL (fun x=>cmpL x y) y l):=Zy8 a e l 0 [] (Int.le_refl 0) rfl ω (by simp)
structure SetIn (s:List Int) (n:Int):Prop where
 srt:s.Pairwise (·<·)
 rng:∀ x∈s,0<=x/\x<n
def LtR (a b:List Int):Prop:=cmpL a b<0
theorem LtR.asym (x y:List Int) (h:LtR x y):¬ LtR y x:=fun k=>by
 unfold LtR at h k
 have:=Zb9 x y
 omega
theorem ZtR {f:List Int->List Int->Option Bool} (u:∀ a b,(a.length:Int)<=1000->f a b=some (decide (a=b))):∀ (l:List (List Int)) (p:List Int),(∀ x∈l,(x.length:Int)<=1000)->(p::l).Pairwise (fun a b=>lexC a b<=0) ->
  ∃ q,cpt f p l=some q/\(p::q).Pairwise LtR/\(∀ z,z∈p::q↔z∈p::l)/\q.length<=l.length
 | [],p,_,_=>⟨[],rfl,by simp,by simp,Nat.le_refl _⟩
 | y::l,p,hl,hs=>by
  rw [List.pairwise_cons] at hs
  obtain ⟨q,c,q2,i,k⟩:=ZtR u l y (fun x j=>hl x (List.mem_cons_of_mem _ j)) hs.2
  have r:=u y p (hl y (List.mem_cons_self ..))
  have w:=hs.1 y (List.mem_cons_self ..)
  rw [ZdY] at w
  by_cases e:y=p
  ·subst e
   refine ⟨q,?_,q2,fun z=>?_,by simp;omega⟩
   ·rw [cpt,r,c];simp
   ·rw [i];simp
  ·refine ⟨y::q,?_,?_,fun z=>?_,by simp;omega⟩
   ·rw [cpt,r,c];simp [e]
   ·have o:LtR p y:=by
     unfold LtR
     have:cmpL p y≠0:=fun h=>e ((ZaE _ _).1 h).symm
     omega
    rw [List.pairwise_cons]
    refine ⟨fun z hz=>?_,q2⟩
    rcases List.mem_cons.1 hz with rfl|hz
    ·exact o
    ·exact Zb3 _ _ _ o ((List.pairwise_cons.1 q2).1 z hz)
   ·rw [List.mem_cons,i];simp
theorem ZEQ {f:List Int->List Int->Option Bool} (k:∀ a b,(a.length:Int)<=1000->f a b=some (decide (a=b))) {l:List (List Int)} (j:∀ x∈l,(x.length:Int)<=1000) (hs:l.Pairwise (fun a b=>lexC a b<=0)):
  ∃ q,cptL f l=some q/\q.Pairwise LtR/\(∀ z,z∈q↔z∈l)/\q.length<=l.length:=by
 cases l with
 | nil=>exact ⟨[],rfl,by simp,by simp,Nat.le_refl _⟩
 | cons p l=>
  obtain ⟨q,c,q2,e,i⟩:=ZtR k l p (fun x h=>j x (List.mem_cons_of_mem _ h)) hs
  exact ⟨p::q,by rw [cptL,c];rfl,q2,e,by simp;omega⟩
def dis (xs:List Int):List Int:=xs.foldl (fun l y=>insL (fun x=>x-y) y l) []
def cnt (xs:List Int):Nat:=(dis xs).length
theorem ZmX:∀ (xs l:List Int),l.Pairwise (·<·)->(xs.foldl (fun l y=>insL (fun x=>x-y) y l) l).Pairwise (·<·)/\∀ z,z∈xs.foldl (fun l y=>insL (fun x=>x-y) y l) l↔z∈l\/z∈xs
 | [],l,h=>⟨h,by simp⟩
 | y::xs,l,h=>by
  have h1:=ZmA (R:=(·<· :Int->Int->Prop)) (c:=fun x=>x-y) (y:=y) (fun x h=>by omega) (fun x h=>by omega) (fun x h=>by omega) (fun x y z a b=>Int.lt_trans a b) h
  obtain ⟨e,f⟩:=ZmX xs _ h1
  refine ⟨e,fun z=>?_⟩
  rw [List.foldl_cons,f,Zkk (fun x h=>by omega),List.mem_cons]
  constructor
  ·rintro ((h|h)|h)
   ·exact .inr (.inl h)
   ·exact .inl h
   ·exact .inr (.inr h)
  ·rintro (h|h|h)
   ·exact .inl (.inr h)
   ·exact .inl (.inl h)
   ·exact .inr h
theorem Zl1 (xs:List Int):(dis xs).Pairwise (·<·):=(ZmX xs [] (by simp)).1
theorem Zdx {xs:List Int} {z:Int}:z∈dis xs↔z∈xs:=by rw [dis,(ZmX xs [] (by simp)).2];simp
theorem Zvh (xs:List Int):(dis xs).Nodup:=(Zl1 xs).imp fun h=>by omega
theorem ZDI {xs l:List Int} (hp:l.Pairwise (·<·)) (e:∀ z,z∈l↔z∈xs):l=dis xs:=ZlB (fun x y a b=>by omega) hp (Zl1 xs) fun z=>by rw [e,Zdx]
theorem ZrO {xs l:List Int} (h:∀ z∈xs,z∈l):cnt xs<=l.length:=ZdF (Zvh xs) fun z hz=>h z (Zdx.1 hz)
theorem Zel (xs:List Int):cnt xs<=xs.length:=ZrO fun _ h=>h
theorem ZE0 {xs l:List Int} (a:l.Nodup) (h:∀ z∈l,z∈xs):l.length<=cnt xs:=ZdF a fun z hz=>Zdx.2 (h z hz)
theorem Zie {xs:List Int} {z:Int} (h:z∈xs):(xs.idxOf z:Int)<(xs.length:Int)/\ix xs (xs.idxOf z:Int)=z:=by
 have h1:=List.idxOf_lt_length_of_mem h
 refine ⟨by omega,ZQ ?_⟩
 rw [List.getElem?_eq_getElem h1,List.getElem_idxOf h1]
theorem Zx8 {xs k:List Int} (o:xs.length=k.length) (h:∀ i j:Int,0<=i->i<(xs.length:Int)->0<=j->j<(xs.length:Int)->ix k i=ix k j->ix xs i=ix xs j):cnt xs<=cnt k:=by
 have:cnt xs<=((dis k).map fun z=>ix xs (k.idxOf z:Int)).length:=ZrO fun z hz=>by
  obtain ⟨i,a,c,rfl⟩:=Z2 hz
  have l:ix k i∈k:=Zo a ω
  refine List.mem_map.2 ⟨ix k i,Zdx.2 l,?_⟩
  obtain ⟨h1,e⟩:=Zie l
  exact h _ _ ω ω a c e
 rwa [List.length_map] at this
def sgl (cells:List Int) (v:Int):List Int:=tabl cells.length fun w=>if w=v then 2*ix cells w else 2*ix cells w+1
theorem ZjR (cells:List Int) (v:Int):(sgl cells v).length=cells.length:=by unfold sgl;rw [Zm];omega
theorem Znr {cells:List Int} {v w:Int} (a:0<=w) (h1:w<(cells.length:Int)):ix (sgl cells v) w=if w=v then 2*ix cells w else 2*ix cells w+1:=ZI a h1
theorem Zqf {cells:List Int} {u v:Int} (c:0<=u) (e:u<(cells.length:Int)) (v0:0<=v) (v1:v<(cells.length:Int)) (r:u≠v) (h:ix cells u=ix cells v):cnt cells+1<=cnt (sgl cells v):=by
 have o:∀ w:Int,0<=w->w<(cells.length:Int)->ix (sgl cells v) w∈sgl cells v:=fun w a b=>Zo a (by rw [ZjR];exact b)
 have:=ZE0 (xs:=sgl cells v) (l:=(2*ix cells v)::(dis cells).map fun x=>2*x+1) (by
  rw [List.nodup_cons]
  refine ⟨fun y=>?_,?_⟩
  ·obtain ⟨x,_,f⟩:=List.mem_map.1 y;omega
  ·have:=(Zl1 cells).map (fun x=>2*x+1) (S:=(·≠· :Int->Int->Prop)) (fun a b a0=>by omega)
   exact this) (by
  intro z hz
  rcases List.mem_cons.1 hz with rfl|hz
  ·have:=o v v0 v1
   rwa [Znr v0 v1,if_pos rfl] at this
  ·obtain ⟨x,f,rfl⟩:=List.mem_map.1 hz
   obtain ⟨i,j,k,rfl⟩:=Z2 (Zdx.1 f)
   by_cases hi:i=v
   ·have:=o u c e
    rw [Znr c e,if_neg r,h] at this
    rw [hi];exact this
   ·have:=o i j k
    rwa [Znr j k,if_neg hi] at this)
 simpa [cnt] using this
def keyAt (near:List (List Int)) (cells:List Int) (v:Int):List Int:=ix cells v::sortI ((ix near v).map fun w=>ix cells w)
def rkeys (near:List (List Int)) (cells:List Int):List (List Int):=tabl near.length (keyAt near cells)
def kindsOf (keys:List (List Int)):List (List Int):=keys.foldl (fun l y=>insL (fun x=>cmpL x y) y l) []
theorem Zky:∀ (xs l:List (List Int)),l.Pairwise LtR->(xs.foldl (fun l y=>insL (fun x=>cmpL x y) y l) l).Pairwise LtR/\(∀ z,z∈xs.foldl (fun l y=>insL (fun x=>cmpL x y) y l) l↔z∈l\/z∈xs)/\(xs.foldl (fun l y=>insL (fun x=>cmpL x y) y l) l).length<=l.length+xs.length
 | [],l,h=>⟨h,by simp,by simp⟩
 | y::xs,l,h=>by
  have h1:=ZmA (R:=LtR) (c:=fun x=>cmpL x y) (y:=y) (fun x h=>(ZaE _ _).1 h) (fun x h=>h) (fun x h=>by
   have:=Zb9 x y
   show cmpL y x<0
   omega) (fun x y z a b=>Zb3 _ _ _ a b) h
  obtain ⟨e,f,i⟩:=Zky xs _ h1
  have j:=Zpg (fun x=>cmpL x y) y l
  refine ⟨e,fun z=>?_,by rw [List.foldl_cons,List.length_cons];omega⟩
  rw [List.foldl_cons,f,Zkk (fun x h=>(ZaE _ _).1 h),List.mem_cons]
  constructor
  ·rintro ((h|h)|h)
   ·exact .inr (.inl h)
   ·exact .inl h
   ·exact .inr (.inr h)
  ·rintro (h|h|h)
   ·exact .inl (.inr h)
   ·exact .inl (.inl h)
   ·exact .inr h
theorem ZnP (keys:List (List Int)):(kindsOf keys).Pairwise LtR:=(Zky keys [] (by simp)).1
theorem ZdC {keys:List (List Int)} {z:List Int}:z∈kindsOf keys↔z∈keys:=by rw [kindsOf,(Zky keys [] (by simp)).2.1];simp
theorem ZmH (keys:List (List Int)):(kindsOf keys).length<=keys.length:=by have:=(Zky keys [] (by simp)).2.2;simpa [kindsOf] using this
theorem ZEB (x y:List Int) (h:LtR x y):¬ LtR y x:=fun k=>by
 have h:cmpL x y<0:=h
 have k:cmpL y x<0:=k
 have:=Zb9 x y
 omega
theorem ZGq {keys l:List (List Int)} (hp:l.Pairwise LtR) (a:∀ z,z∈l↔z∈keys):l=kindsOf keys:=ZlB ZEB hp (ZnP keys) fun z=>by rw [a,ZdC]
def rnd (near:List (List Int)) (cells:List Int):List Int:=(rkeys near cells).map fun x=>((kindsOf (rkeys near cells)).idxOf x:Int)
theorem Zei (near:List (List Int)) (cells:List Int):(rkeys near cells).length=near.length:=by unfold rkeys;rw [Zm];omega
theorem ZdB (near:List (List Int)) (cells:List Int):(rnd near cells).length=near.length:=by unfold rnd;rw [List.length_map,Zei]
theorem Zkm {near:List (List Int)} {cells:List Int} {v:Int} (a:0<=v) (h1:v<(near.length:Int)):ix (rkeys near cells) v=keyAt near cells v:=ZI a h1
theorem ZkH {near:List (List Int)} {cells:List Int} {v:Int} (a:0<=v) (h1:v<(near.length:Int)):ix (rnd near cells) v=((kindsOf (rkeys near cells)).idxOf (keyAt near cells v):Int):=by
 unfold rnd
 rw [ZjX a (by rw [Zei];exact h1),Zkm a h1]
theorem Zqg {near:List (List Int)} {cells:List Int} {v:Int} (a:0<=v) (h1:v<(near.length:Int)):keyAt near cells v∈kindsOf (rkeys near cells):=by
 rw [ZdC,<-Zkm a h1]
 exact Zo a (by rw [Zei];exact h1)
theorem Zx0 {near:List (List Int)} {cells:List Int}:∀ x∈rnd near cells,0<=x/\x<(near.length:Int):=by
 intro x a
 obtain ⟨y,e,rfl⟩:=List.mem_map.1 a
 have h1:=List.idxOf_lt_length_of_mem (ZdC.2 e)
 have c:=ZmH (rkeys near cells)
 rw [Zei] at c
 omega
theorem Zzo {near:List (List Int)} {cells:List Int} {u v:Int} (a:0<=u) (c:u<(near.length:Int)) (v0:0<=v) (v1:v<(near.length:Int)) (h:ix (rnd near cells) u=ix (rnd near cells) v):keyAt near cells u=keyAt near cells v:=by
 rw [ZkH a c,ZkH v0 v1] at h
 have h1:=List.idxOf_lt_length_of_mem (Zqg (cells:=cells) a c)
 have e:=List.idxOf_lt_length_of_mem (Zqg (cells:=cells) v0 v1)
 rw [<-List.getElem_idxOf h1,<-List.getElem_idxOf e]
 congr 1
 omega
theorem ZiS {near:List (List Int)} {cells:List Int} (k:cells.length=near.length):cnt cells<=cnt (rnd near cells):=by
 refine Zx8 (by rw [ZdB,k]) fun i j a e c f h=>?_
 have:=Zzo a ω c ω h
 unfold keyAt at this
 exact (List.cons.inj this).1
def refM (near:List (List Int)):Nat->List Int->List Int
 | 0,cells=>cells
 | f+1,cells=>if cnt (rnd near cells)=cnt cells then rnd near cells else refM near f (rnd near cells)
def refN (near:List (List Int)) (cells:List Int):List Int:=refM near (near.length+1) cells
theorem ZrN (near:List (List Int)):∀ (f:Nat) (cells:List Int),cells.length=near.length->near.length<f+cnt cells->(refM near f cells).length=near.length/\cnt cells<=cnt (refM near f cells)/\∀ x∈refM near f cells,0<=x/\x<(near.length:Int)
 | 0,cells,hl,hf=>by have:=Zel cells;omega
 | f+1,cells,hl,hf=>by
  have h1:=ZiS hl
  have a:=ZdB near cells
  rw [refM]
  by_cases h:cnt (rnd near cells)=cnt cells
  ·rw [if_pos h];exact ⟨a,h1,Zx0⟩
  ·rw [if_neg h]
   obtain ⟨c,i,e⟩:=ZrN near f (rnd near cells) a ω
   exact ⟨c,by omega,e⟩
theorem Zn5 {near:List (List Int)} {cells:List Int} (a:cells.length=near.length):(refN near cells).length=near.length/\cnt cells<=cnt (refN near cells)/\∀ x∈refN near cells,0<=x/\x<(near.length:Int):=ZrN near _ cells a ω
def eC (a b:Zb):Int:=if cmpI a.A b.A=0 then cmpI a.B b.B else cmpI a.A b.A
theorem ZfX {x y:Int}:cmpI x y=0↔x=y:=by
 unfold cmpI
 split
 ·omega
 ·split<;>omega
theorem Zqs {x y:Int}:cmpI x y<0↔x<y:=by
 unfold cmpI
 split
 ·omega
 ·split<;>omega
theorem ZsI {x y:Int}:0<cmpI x y↔y<x:=by
 unfold cmpI
 split
 ·omega
 ·split<;>omega
theorem eC_lt {a b:Zb}:eC a b<0↔eLess a b:=by
 unfold eC eLess
 by_cases h:cmpI a.A b.A=0
 ·rw [if_pos h,Zqs];rw [ZfX] at h;omega
 ·rw [if_neg h,Zqs];rw [ZfX] at h;omega
theorem eC_gt {a b:Zb}:0<eC a b↔eLess b a:=by
 unfold eC eLess
 by_cases h:cmpI a.A b.A=0
 ·rw [if_pos h,ZsI];rw [ZfX] at h;omega
 ·rw [if_neg h,ZsI];rw [ZfX] at h;omega
theorem ZuJ {a b:Zb}:eC a b=0↔a=b:=by
 cases a;cases b
 unfold eC
 simp only [Zb.mk.injEq]
 split
 ·rename_i h;rw [ZfX] at h ⊢;simp [h]
 ·rename_i h;rw [ZfX] at h ⊢;simp [h]
theorem ZxM (x y:Zb) (h:eLess x y):¬ eLess y x:=fun k=>by unfold eLess at *;omega
theorem ZlJ (x y z:Zb) (h:eLess x y) (k:eLess y z):eLess x z:=by unfold eLess at *;omega
def srtE (l:List Zb):List Zb:=l.foldl (fun l y=>insL (fun x=>eC x y) y l) []
theorem Zkv:∀ (xs l:List Zb),l.Pairwise eLess->(xs.foldl (fun l y=>insL (fun x=>eC x y) y l) l).Pairwise eLess/\(∀ z,z∈xs.foldl (fun l y=>insL (fun x=>eC x y) y l) l↔z∈l\/z∈xs)/\(xs.foldl (fun l y=>insL (fun x=>eC x y) y l) l).length<=l.length+xs.length
 | [],l,h=>⟨h,by simp,by simp⟩
 | y::xs,l,h=>by
  have h1:=ZmA (R:=eLess) (c:=fun x=>eC x y) (y:=y) (fun x h=>ZuJ.1 h) (fun x h=>eC_lt.1 h) (fun x h=>eC_gt.1 h) ZlJ h
  obtain ⟨a,e,f⟩:=Zkv xs _ h1
  have j:=Zpg (fun x=>eC x y) y l
  refine ⟨a,fun z=>?_,by rw [List.foldl_cons,List.length_cons];omega⟩
  rw [List.foldl_cons,e,Zkk (fun x h=>ZuJ.1 h),List.mem_cons]
  constructor
  ·rintro ((h|h)|h)
   ·exact .inr (.inl h)
   ·exact .inl h
   ·exact .inr (.inr h)
  ·rintro (h|h|h)
   ·exact .inl (.inr h)
   ·exact .inl (.inl h)
   ·exact .inr h
theorem Zrb (l:List Zb):(srtE l).Pairwise eLess:=(Zkv l [] (by simp)).1
theorem Zsb {l:List Zb} {z:Zb}:z∈srtE l↔z∈l:=by rw [srtE,(Zkv l [] (by simp)).2.1];simp
theorem ZBv (l:List Zb):(srtE l).length<=l.length:=by have:=(Zkv l [] (by simp)).2.2;simpa [srtE] using this
theorem ZmK {l q:List Zb} (hp:q.Pairwise eLess) (a:∀ z,z∈q↔z∈l):q=srtE l:=ZlB ZxM hp (Zrb l) fun z=>by rw [a,Zsb]
def mapE (p:List Int) (e:Zb):Zb:=⟨min (ix p e.A) (ix p e.B),max (ix p e.A) (ix p e.B)⟩
def colM (g:Za) (p:List Int):List Int:=tabl p.length fun i=>ix g.Colors (p.idxOf i:Int)
def relab (g:Za) (p:List Int):Za:=⟨colM g p,srtE (g.Edges.map (mapE p))⟩
theorem Zpy {p:List Int} {n:Int} (hp:Vc.Perm p n) {i:Int} (a:0<=i) (h1:i<n):i∈p:=by
 have e:=hp.len
 have hs:=Zkz hp.nd (l':=idP n) (fun x c=>ZT.2 (hp.rng x c)) (by rw [Zai];omega)
 exact hs.mem_iff.2 (ZT.2 ⟨a,h1⟩)
theorem ZmC {p:List Int} (hp:p.Nodup) {i j:Int} (e:0<=i) (h1:i<(p.length:Int)) (k0:0<=j) (k1:j<(p.length:Int)) (h:ix p i=ix p j):i=j:=by
 have a:=Zah e h1
 have c:=Zah k0 k1
 have l1:i.toNat<p.length:=ω
 have l2:j.toNat<p.length:=ω
 rw [List.getElem?_eq_getElem l1] at a
 rw [List.getElem?_eq_getElem l2] at c
 have:p[i.toNat]=p[j.toNat]:=by rw [Option.some.inj a,Option.some.inj c,h]
 have:=(List.getElem_inj hp).1 this
 omega
theorem ZD1 {p:List Int} (hp:p.Nodup) {i:Int} (c:0<=i) (h1:i<(p.length:Int)):(p.idxOf (ix p i):Int)=i:=by
 obtain ⟨a,b⟩:=Zie (Zo c h1)
 exact ZmC hp ω a c h1 b
theorem Zb4 {g:Za} (hg:ValidG g) {e:Zb} (a:e∈g.Edges):0<=e.A/\e.A<e.B/\e.B<(g.Colors.length:Int):=by
 obtain ⟨k,k0,k1,rfl⟩:=Z2 a
 exact (hg.edg k k0 k1).1
theorem Zwc {g:Za} (hg:ValidG g):g.Edges.Pairwise eLess:=by
 have h:∀ (d:Nat) (i j:Int),(j-i).toNat=d+1->0<=i->i<j->j<(g.Edges.length:Int)->eLess (ix g.Edges i) (ix g.Edges j):=by
  intro d
  induction d with
  | zero=>
   intro i j e c h1 a
   obtain rfl:i=j-1:=ω
   exact (hg.edg j ω a).2 ω
  | succ d l=>
   intro i j e c h1 a
   exact ZlJ _ _ _ (l i (j-1) ω c ω ω) ((hg.edg j ω a).2 ω)
 rw [List.pairwise_iff_getElem]
 intro i j hi k o
 have:=h (j-i-1) (i:Int) (j:Int) ω ω ω ω
 rwa [ZQ (List.getElem?_eq_getElem hi),ZQ (List.getElem?_eq_getElem k)] at this
theorem ZBw {g:Za} (cl:(g.Colors.length:Int)<=64) (col:∀ x∈g.Colors,0<=x/\x<=63) (el:(g.Edges.length:Int)<=512) (pw:g.Edges.Pairwise eLess) (edg:∀ e∈g.Edges,0<=e.A/\e.A<e.B/\e.B<(g.Colors.length:Int)):ValidG g:=by
 refine ⟨cl,fun k a b=>col _ (Zo a b),el,fun k a b=>⟨edg _ (Zo a b),fun h=>?_⟩⟩
 have:=List.pairwise_iff_getElem.1 pw (k-1).toNat k.toNat ω ω ω
 have c:=Zah (xs:=g.Edges) (i:=k-1) ω ω
 have f:=Zah (xs:=g.Edges) (i:=k) ω ω
 rw [List.getElem?_eq_getElem ω] at c f
 rwa [Option.some.inj c,Option.some.inj f] at this
theorem Zrc (g:Za) (p:List Int):(colM g p).length=p.length:=by unfold colM;rw [Zm];omega
theorem ZlV {g:Za} (hg:ValidG g) {p:List Int} (hp:Vc.Perm p g.Colors.length):ValidG (relab g p):=by
 have y:=hp.len
 have w:(colM g p).length=p.length:=Zrc g p
 refine ZBw (by show ((colM g p).length:Int)<=64;have:=hg.cl;omega) (fun x f=>?_) ?_ (Zrb _) fun e o=>?_
 ·obtain ⟨i,a,c,rfl⟩:=Z2 f
  have c:i<(colM g p).length:=c
  have hi:ix (colM g p) i=ix g.Colors (p.idxOf i:Int):=ZI a ω
  show 0<=ix (colM g p) i/\ix (colM g p) i<=63
  rw [hi]
  have r:=Zpy hp a ω
  have:=(Zie r).1
  exact hg.col _ ω ω
 ·have:=ZBv (g.Edges.map (mapE p))
  rw [List.length_map] at this
  show ((srtE (g.Edges.map (mapE p))).length:Int)<=512
  have:=hg.el
  omega
 ·have o:e∈srtE (g.Edges.map (mapE p)):=o
  rw [Zsb] at o
  obtain ⟨d,j,rfl⟩:=List.mem_map.1 o
  have k:=Zb4 hg j
  have l:=hp.rng _ (Zo (xs:=p) (i:=d.A) ω ω)
  have r2:=hp.rng _ (Zo (xs:=p) (i:=d.B) ω ω)
  have u:ix p d.A≠ix p d.B:=fun h=>by have:=ZmC hp.nd ω ω ω ω h;omega
  show 0<=min _ _/\min _ _<max _ _/\max _ _<((colM g p).length:Int)
  omega
def adj (es:List Zb) (a b:Int):Bool:=es.any fun e=>(e.A==a&&e.B==b)||(e.A==b&&e.B==a)
theorem Zu2 {es:List Zb} {a b:Int}:adj es a b=true↔∃ e∈es,(e.A=a/\e.B=b)\/(e.A=b/\e.B=a):=by
 unfold adj
 simp only [List.any_eq_true,Bool.or_eq_true,Bool.and_eq_true,beq_iff_eq]
def nearM (g:Za):List (List Int):=tabl g.Colors.length fun a=>(idP g.Colors.length).filter fun b=>adj g.Edges a b
theorem ZmM (g:Za):(nearM g).length=g.Colors.length:=by unfold nearM;rw [Zm];omega
theorem Zqm {g:Za} {a:Int} (c:0<=a) (h1:a<(g.Colors.length:Int)):ix (nearM g) a=(idP g.Colors.length).filter fun b=>adj g.Edges a b:=ZI c h1
theorem ZvO {g:Za} {a x:Int} (c:0<=a) (h1:a<(g.Colors.length:Int)):x∈ix (nearM g) a↔(0<=x/\x<(g.Colors.length:Int))/\adj g.Edges a x=true:=by
 rw [Zqm c h1,List.mem_filter,ZT]
theorem ZGr {g:Za} {a:Int} (c:0<=a) (h1:a<(g.Colors.length:Int)):(ix (nearM g) a).length<=g.Colors.length:=by
 rw [Zqm c h1]
 have:=List.length_filter_le (fun b=>adj g.Edges a b) (idP g.Colors.length)
 rw [Zai] at this
 omega
def flatE (l:List Zb):List Int:=l.flatMap fun e=>[e.A,e.B]
def cmpG (g h:Za):Int:=if cmpL g.Colors h.Colors=0 then cmpL (flatE g.Edges) (flatE h.Edges) else cmpL g.Colors h.Colors
def tgt (cells:List Int):Int:=((dis cells).find? fun t=>decide (2<=cells.count t)).getD (-1)
def vts (cells:List Int) (t:Int):List Int:=(idP cells.length).filter fun v=>ix cells v==t
structure CSt where
 best:Za
 perms:List (List Int)
 nodes:Int
 leaves:Int
 full:Bool
def leafM (g:Za) (p:List Int) (s:CSt):CSt:=
 let c:=if s.perms=[] then -1 else cmpG (relab g p) s.best
 ⟨if c<0 then relab g p else s.best,if c<0 then [p] else if c=0 then s.perms++[p] else s.perms,s.nodes,s.leaves+1,s.full⟩
def srch (g:Za) (near:List (List Int)) (B:Int):Nat->List Int->CSt->CSt
 | 0,_,s=>s
 | d+1,cells,s=>if tgt cells<0 then leafM g cells s else (vts cells (tgt cells)).foldl (fun s v=>if s.full=true then s else if s.nodes=B then { s with full:=true } else srch g near B d (refN near (sgl cells v)) { s with nodes:=s.nodes+1 }) s
def stepM (g:Za) (near:List (List Int)) (B:Int) (d:Nat) (cells:List Int) (s:CSt) (v:Int):CSt:=if s.full=true then s else if s.nodes=B then { s with full:=true } else srch g near B d (refN near (sgl cells v)) { s with nodes:=s.nodes+1 }
theorem ZmJ {g:Za} {near:List (List Int)} {B:Int} {d:Nat} {cells:List Int} {s:CSt}:srch g near B (d+1) cells s=if tgt cells<0 then leafM g cells s else (vts cells (tgt cells)).foldl (stepM g near B d cells) s:=rfl
theorem Zkx {cells:List Int} {t v:Int}:v∈vts cells t↔(0<=v/\v<(cells.length:Int))/\ix cells v=t:=by
 unfold vts;rw [List.mem_filter,ZT,beq_iff_eq]
theorem ZlF {cells:List Int} {t:Int}:2<=cells.count t↔∃ i j:Int,0<=i/\i<j/\j<(cells.length:Int)/\ix cells i=t/\ix cells j=t:=by
 rw [<-List.replicate_sublist_iff]
 constructor
 ·intro h
  obtain ⟨is,h1,f⟩:=List.sublist_eq_map_getElem h
  have w:is.length=2:=by have:=congrArg List.length h1;simp at this;exact this.symm
  obtain ⟨a,b,rfl⟩:∃ a b,is=[a,b]:=by
   match is,w with
   | [a,b],_=>exact ⟨a,b,rfl⟩
  simp only [List.map_cons,List.map_nil,List.replicate,List.cons.injEq,and_true] at h1
  have u:a<b:=by simpa using f
  refine ⟨(a.val:Int),(b.val:Int),by omega,by have:a.val<b.val:=u;omega,by have:=b.isLt;omega,?_,?_⟩
  ·rw [ZQ (List.getElem?_eq_getElem a.isLt)];exact h1.1.symm
  ·rw [ZQ (List.getElem?_eq_getElem b.isLt)];exact h1.2.symm
 ·rintro ⟨i,j,k,y,o,hi,x⟩
  have c:=Zah (xs:=cells) (i:=i) k ω
  have e:=Zah (xs:=cells) (i:=j) ω o
  have:=List.map_getElem_sublist (l:=cells) (is:=[⟨i.toNat,by omega⟩,⟨j.toNat,by omega⟩]) (by simp;omega)
  rw [List.getElem?_eq_getElem ω] at c e
  simp only [List.map_cons,List.map_nil] at this
  have p:cells[i.toNat]=t:=by rw [Option.some.inj c,hi]
  have r:cells[j.toNat]=t:=by rw [Option.some.inj e,x]
  simpa [List.replicate,p,r] using this
theorem Zdk {cells:List Int} (c:∀ x∈cells,0<=x):(tgt cells=-1/\cells.Nodup)\/(0<=tgt cells/\2<=cells.count (tgt cells)/\∀ t,2<=cells.count t->tgt cells<=t):=by
 unfold tgt
 cases hf:(dis cells).find? fun t=>decide (2<=cells.count t) with
 | none=>
  left
  refine ⟨rfl,List.nodup_iff_count.2 fun a=>?_⟩
  rw [List.find?_eq_none] at hf
  rcases Nat.lt_or_ge (cells.count a) 2 with h|h
  ·omega
  ·have j:a∈cells:=List.count_pos_iff.1 ω
   have:=hf a (Zdx.2 j)
   simp at this
   omega
 | some t=>
  right
  have h1:=List.find?_some hf
  have f:=List.mem_of_find?_eq_some hf
  have h1:2<=cells.count t:=by simpa using h1
  refine ⟨c t (Zdx.1 f),h1,fun u l=>?_⟩
  have j:u∈dis cells:=Zdx.2 (List.count_pos_iff.1 ω)
  obtain ⟨_,as,bs,e,k⟩:=List.find?_eq_some_iff_append.1 hf
  have hp:=Zl1 cells
  rw [e] at j hp
  show t<=u
  rcases List.mem_append.1 j with h|h
  ·have:=k u h;simp at this;omega
  ·rcases List.mem_cons.1 h with h|h
   ·omega
   ·have:=(List.pairwise_cons.1 (List.pairwise_append.1 hp).2.1).1 u h;omega
structure Cel (n:Nat) (cells:List Int):Prop where
 len:cells.length=n
 rng:∀ x∈cells,0<=x/\x<(n:Int)
theorem Cel.ref {near:List (List Int)} {cells:List Int} (a:cells.length=near.length):Cel near.length (refN near cells):=⟨(Zn5 a).1,(Zn5 a).2.2⟩
theorem Cel.perm {n:Nat} {cells:List Int} (h:Cel n cells) (a:cells.Nodup):Vc.Perm cells n:=⟨by rw [h.len],h.rng,a⟩
theorem Cel.more {near:List (List Int)} {cells:List Int} (h:Cel near.length cells) (y:¬ tgt cells<0) {v:Int} (c:v∈vts cells (tgt cells)):cnt cells+1<=cnt (refN near (sgl cells v)):=by
 obtain ⟨⟨v0,v1⟩,a⟩:=Zkx.1 c
 rcases Zdk (cells:=cells) (fun x e=>(h.rng x e).1) with ⟨h1,_⟩|⟨h1,f,_⟩
 ·omega
 obtain ⟨i,j,k,w,l,hi,r⟩:=ZlF.1 f
 have hg:=(Zn5 (near:=near) (cells:=sgl cells v) (by rw [ZjR,h.len])).2.1
 by_cases o:i=v
 ·have:=Zqf (u:=j) (v:=v) ω l v0 v1 ω (by rw [r,a]);omega
 ·have:=Zqf (u:=i) (v:=v) k ω v0 v1 o (by rw [hi,a]);omega
theorem Zu5 {cells:List Int} (a:∀ x∈cells,0<=x) (l:¬ tgt cells<0):vts cells (tgt cells)≠[]:=by
 rcases Zdk a with ⟨h1,_⟩|⟨h1,c,_⟩
 ·omega
 obtain ⟨i,j,e,h,f,hi,k⟩:=ZlF.1 c
 exact List.ne_nil_of_mem (Zkx.2 ⟨⟨e,by omega⟩,hi⟩)
structure CInv (B K:Int) (s:CSt):Prop where
 le:s.leaves<=s.nodes+K
 pl:(s.perms.length:Int)<=s.leaves
 n0:0<=s.nodes
 nB:s.nodes<=B
theorem Zpq (g:Za) (near:List (List Int)) (B:Int):∀ (d:Nat) (cells:List Int) (s:CSt) (K:Int),CInv B K s->CInv B (K+1) (srch g near B d cells s)
 | 0,cells,s,K,h=>⟨by have:=h.le;show s.leaves<=s.nodes+(K+1);omega,h.pl,h.n0,h.nB⟩
 | d+1,cells,s,K,h=>by
  rw [ZmJ]
  by_cases l:tgt cells<0
  ·rw [if_pos l]
   have h1:=h.le
   have e:=h.pl
   refine ⟨by show s.leaves+1<=s.nodes+(K+1);omega,?_,h.n0,h.nB⟩
   unfold leafM
   dsimp only
   generalize (if s.perms=[] then (-1:Int) else cmpG (relab g cells) s.best)=c
   by_cases c1:c<0
   ·rw [if_pos c1,List.length_singleton];omega
   ·rw [if_neg c1]
    by_cases c2:c=0
    ·rw [if_pos c2,List.length_append,List.length_singleton];omega
    ·rw [if_neg c2];omega
  ·rw [if_neg l]
   have k:∀ (vs:List Int) (s:CSt),CInv B K s->CInv B K (vs.foldl (stepM g near B d cells) s):=by
    intro vs
    induction vs with
    | nil=>intro s h;exact h
    | cons v vs o=>
     intro s h
     rw [List.foldl_cons]
     refine o _ ?_
     unfold stepM
     by_cases j:s.full=true
     ·rw [if_pos j];exact h
     ·rw [if_neg j]
      by_cases a:s.nodes=B
      ·rw [if_pos a];exact ⟨h.le,h.pl,h.n0,h.nB⟩
      ·rw [if_neg a]
       have h1:=h.le
       have f:=h.n0
       have i:=h.nB
       have:=Zpq g near B d (refN near (sgl cells v)) { s with nodes:=s.nodes+1 } (K-1) ⟨by show s.leaves<=s.nodes+1+(K-1);omega,h.pl,by show 0<=s.nodes+1;omega,by show s.nodes+1<=B;omega⟩
       rwa [show K-1+1=K by omega] at this
   have:=k (vts cells (tgt cells)) s h
   exact ⟨by have:=this.le;omega,this.pl,this.n0,this.nB⟩
def Bst (g:Za) (s:CSt):Prop:=s.perms≠[]->∃ p,Vc.Perm p g.Colors.length/\s.best=relab g p
theorem ZmP {g:Za} {near:List (List Int)} (j:near.length=g.Colors.length) (B:Int):∀ (d:Nat) (cells:List Int) (s:CSt),Cel near.length cells->near.length<d+cnt cells->Bst g s->Bst g (srch g near B d cells s)/\((srch g near B d cells s).full=false->(srch g near B d cells s).perms≠[])
 | 0,cells,s,a,o,h=>by have:=Zel cells;have:=a.len;omega
 | d+1,cells,s,a,o,h=>by
  rw [ZmJ]
  rcases Zdk (cells:=cells) (fun x i=>(a.rng x i).1) with ⟨h1,k⟩|⟨h1,k,_⟩
  ·rw [if_pos ω]
   have hp:Vc.Perm cells g.Colors.length:=by rw [<-j];exact a.perm k
   unfold leafM Bst
   dsimp only
   generalize a0:(if s.perms=[] then -1 else cmpG (relab g cells) s.best)=c
   by_cases f:c<0
   ·rw [if_pos f,if_pos f]
    exact ⟨fun _=>⟨cells,hp,rfl⟩,fun _=>by simp⟩
   ·have w:s.perms≠[]:=fun e=>by rw [if_pos e] at a0;omega
    rw [if_neg f,if_neg f]
    refine ⟨fun _=>h w,fun _=>?_⟩
    split
    ·simp
    ·exact w
  ·rw [if_neg ω]
   have a2:∀ (vs:List Int) (s:CSt),(∀ v∈vs,v∈vts cells (tgt cells))->Bst g s->(vs=[]->s.full=false->s.perms≠[])->Bst g (vs.foldl (stepM g near B d cells) s)/\((vs.foldl (stepM g near B d cells) s).full=false->(vs.foldl (stepM g near B d cells) s).perms≠[]):=by
    intro vs
    induction vs with
    | nil=>intro s _ h h';exact ⟨h,h' rfl⟩
    | cons v vs ih=>
     intro s hm h _
     rw [List.foldl_cons]
     have r:Bst g (stepM g near B d cells s v)/\((stepM g near B d cells s v).full=false->(stepM g near B d cells s v).perms≠[]):=by
      unfold stepM
      by_cases y:s.full=true
      ·rw [if_pos y];exact ⟨h,fun e=>by rw [y] at e;cases e⟩
      ·rw [if_neg y]
       by_cases l:s.nodes=B
       ·rw [if_pos l];exact ⟨h,fun e=>by cases e⟩
       ·rw [if_neg l]
        have a3:=a.more (near:=near) ω (hm v (List.mem_cons_self ..))
        exact ZmP j B d _ _ (Cel.ref (by rw [ZjR,a.len])) ω h
     exact ih _ (fun u hu=>hm u (List.mem_cons_of_mem _ hu)) r.1 fun _=>r.2
   exact a2 _ s (fun v p=>p) h fun e=>absurd e (Zu5 (fun x i=>(a.rng x i).1) ω)
theorem Zzp (i x:Int) (hi:0<=i/\i<=1000000):∀ (m:Nat) (A C:List Int),A.length=m->(A.length:Int)+C.length<=1000000->(A++C).Pairwise (·<=·)->(∀ c∈C,x<c) ->
  ∃ ys,loop (ZcT i) ((A.length:Int),A++x::C)=some (.inl (ys,i+1))/\ys.Pairwise (·<=·)/\ys.Perm (A++x::C):=by
 intro m
 induction m with
 | zero=>
  intro A C hA hl hs hC
  obtain rfl:=List.length_eq_zero_iff.1 hA
  refine ⟨x::C,Zc (by simp (disch:=omega) only [pz,ZcT,List.nil_append]),?_,List.Perm.refl _⟩
  rw [List.pairwise_cons]
  exact ⟨fun c e=>by have:=hC c e;omega,hs⟩
 | succ m ih=>
  intro A C hA hl hs hC
  obtain ⟨u,a,rfl⟩:∃ u a,A=u++[a]:=by
   rcases List.eq_nil_or_concat A with h|⟨u,a,h⟩
   ·rw [h] at hA;simp at hA
   ·exact ⟨u,a,by rw [h,List.concat_eq_append]⟩
  have a6:u.length=m:=by simpa using hA
  rw [List.length_append,List.length_singleton] at hl
  have hL:((u++[a]).length:Int)=(u.length:Int)+1:=by rw [List.length_append];simp
  have f:ix ((u++[a])++x::C) ((u.length:Int)+1)=x:=ixMid (by rw [hL])
  have j:(u++[a])++x::C=u++a::x::C:=by simp
  have k:ix ((u++[a])++x::C) (u.length:Int)=a:=by rw [j];exact ixMid rfl
  have a7:(((u++[a])++x::C).length:Int)=(u.length:Int)+2+C.length:=by simp;omega
  have w1:(u.length:Int)+1-1=(u.length:Int):=ω
  rw [hL]
  by_cases a5:x<a
  ·have s1:((u++[a])++x::C).set ((u.length:Int)+1).toNat a=u++a::(a::C):=by
    rw [setMid (by rw [hL])];simp
   have s2:(u++a::(a::C)).set (u.length:Int).toNat x=u++x::(a::C):=by
    rw [setMid rfl];simp
   have o:(u++a::(a::C)).set u.length x=u++x::(a::C):=by rw [<-s2,Int.toNat_natCast]
   have s:((u++a::(a::C)).length:Int)=(u.length:Int)+2+C.length:=by simp;omega
   have hB:ZcT i ((u.length:Int)+1,(u++[a])++x::C)=some (.inl ((u.length:Int),u++x::(a::C))):=by
    simp (disch:=omega) only [pz,ZcT,ZlL,f,k,w1,s1,o]
   rw [ZG hB]
   have l:(u++(a::C)).Pairwise (·<=·):=by simpa using hs
   obtain ⟨ys,h1,p,r⟩:=ih u (a::C) a6 (by simp;omega) l (fun c e=>by
    rcases List.mem_cons.1 e with rfl|e
    ·exact a5
    ·exact hC c e)
   refine ⟨ys,h1,p,r.trans ?_⟩
   rw [j]
   exact (List.Perm.swap a x C).append_left u
  ·refine ⟨(u++[a])++x::C,Zc (by simp (disch:=omega) only [pz,ZcT,f,k,w1]),?_,List.Perm.refl _⟩
   rw [List.pairwise_append] at hs ⊢
   refine ⟨hs.1,?_,fun y w z hz=>?_⟩
   ·rw [List.pairwise_cons]
    exact ⟨fun c e=>by have:=hC c e;omega,hs.2.1⟩
   ·rcases List.mem_cons.1 hz with rfl|hz
    ·rw [List.pairwise_append] at hs
     have h1:=hs.1
     rcases List.mem_append.1 w with w|w
     ·have:=h1.2.2 y w a (by simp);omega
     ·simp at w;omega
    ·exact hs.2.2 y w z hz
theorem ZCO {xs:List Int} (x:(xs.length:Int)<=1000000):Zh0 xs=some (sortI xs):=by
 unfold Zh0
 obtain ⟨⟨r,j⟩,⟨h1,c,a⟩,o⟩:=ZhV (B:=Zg0 xs) (fun i q=>q.2=i/\q.1.Pairwise (·<=·)/\q.1.Perm (xs.take i.toNat)) (i:=0) (n:=xs.length) ω (s:=(([]:List Int),(0:Int))) ⟨rfl,by simp,by simp⟩ fun i q h p ⟨k,l,f⟩=>by
  obtain ⟨r,j⟩:=q
  dsimp only at k l f
  subst k
  have u:(r.length:Int)=j:=by
   have:=f.length_eq
   rw [List.length_take] at this
   omega
  obtain ⟨w,h1,c,a⟩:=Zzp j (ix xs j) ⟨h,by omega⟩ _ r [] rfl (by simp;omega) (by simpa using l) (by simp)
  refine ⟨(w,j+1),by simp (disch:=omega) only [pz,Zg0,h1],rfl,c,?_⟩
  dsimp only
  rw [ZaC h p]
  exact a.trans (f.append_right _)
 dsimp only at h1 c a
 rw [o]
 refine Zc ?_
 subst h1
 rw [Int.toNat_natCast,List.take_length] at a
 have e:r=sortI xs:=ZlT (a.trans (ZbY xs).symm) c (Zmt xs)
 simp (disch:=omega) only [pz,Zg0,e]
theorem ZGo {xs:List Int} {i:Int} (a:0<=i) (h1:i<(xs.length:Int)):dis (xs.take (i+1).toNat)=insL (fun x=>x-ix xs i) (ix xs i) (dis (xs.take i.toNat)):=by
 unfold dis
 rw [ZaC a h1,List.foldl_append];rfl
theorem Znk {xs:List Int} (h:(xs.length:Int)<=1000000):Zeh xs=some (cnt xs:Int):=by
 unfold Zeh
 have e:=Zl (B:=ZfS xs) (fun k=>(dis (xs.take k.toNat),k)) (i:=0) (n:=xs.length) ω fun k k0 k1=>by
  have a:=Zel (xs.take k.toNat)
  rw [List.length_take] at a
  have a:(dis (xs.take k.toNat)).length<=_:=a
  have hp:=ZEc (l:=dis (xs.take k.toNat)) (n:=ix xs k) ω
  rw [<-ZGo k0 k1] at hp
  simp (disch:=omega) only [pz,ZfS,hp]
 have c:(([]:List Int),(0:Int))=(fun k:Int=>(dis (xs.take k.toNat),k)) 0:=rfl
 rw [c,e]
 refine Zc ?_
 simp (disch:=omega) only [pz,ZfS]
 rfl
theorem cptG {α:Type} {eqb:α->α->Bool} {Le R:α->α->Prop} (r:∀ a b,eqb a b=true↔a=b) (h1:∀ a b,Le a b->a≠b->R a b) (u:∀ a b c,R a b->R b c->R a c):∀ (l:List α) (p:α),(p::l).Pairwise Le ->
  ∃ q,cpt (fun a b=>some (eqb a b)) p l=some q/\(p::q).Pairwise R/\(∀ z,z∈p::q↔z∈p::l)/\q.length<=l.length
 | [],p,_=>⟨[],rfl,by simp,by simp,Nat.le_refl _⟩
 | y::l,p,hs=>by
  rw [List.pairwise_cons] at hs
  obtain ⟨q,i,q2,j,k⟩:=cptG r h1 u l y hs.2
  have w:=hs.1 y (List.mem_cons_self ..)
  by_cases e:y=p
  ·subst e
   have f:=(r y y).2 rfl
   refine ⟨q,?_,q2,fun z=>?_,by simp;omega⟩
   ·rw [cpt,i,f];simp
   ·rw [j];simp
  ·have f:eqb y p=false:=by
    cases h:eqb y p with
    | true=>exact absurd ((r y p).1 h) e
    | false=>rfl
   refine ⟨y::q,?_,?_,fun z=>?_,by simp;omega⟩
   ·rw [cpt,i,f];simp
   ·have o:R p y:=h1 p y w fun h=>e h.symm
    rw [List.pairwise_cons]
    refine ⟨fun z hz=>?_,q2⟩
    rcases List.mem_cons.1 hz with rfl|hz
    ·exact o
    ·exact u _ _ _ o ((List.pairwise_cons.1 q2).1 z hz)
   ·rw [List.mem_cons,j];simp
theorem cptGL {α:Type} {eqb:α->α->Bool} {Le R:α->α->Prop} (k:∀ a b,eqb a b=true↔a=b) (h1:∀ a b,Le a b->a≠b->R a b) (j:∀ a b c,R a b->R b c->R a c) {l:List α} (hs:l.Pairwise Le):
  ∃ q,cptL (fun a b=>some (eqb a b)) l=some q/\q.Pairwise R/\∀ z,z∈q↔z∈l:=by
 cases l with
 | nil=>exact ⟨[],rfl,by simp,by simp⟩
 | cons p l=>
  obtain ⟨q,e,q2,f,h⟩:=cptG k h1 j l p hs
  exact ⟨p::q,by rw [cptL,e];rfl,q2,f⟩
theorem Zlx {xs:List Int} (l:(xs.length:Int)<=1000000):Zhl xs=some (cnt xs:Int):=by
 unfold Zhl ZkC
 have j:(sortI xs).length=xs.length:=(ZbY xs).length_eq
 obtain ⟨q,f,q2,i⟩:=cptGL (eqb:=fun a b:Int=>a==b) (Le:=(·<=·)) (R:=(·<·)) (fun a b=>by simp) (fun a b h k=>by omega) (fun a b c h k=>by omega) (Zmt xs)
 have e:q=dis xs:=ZDI q2 fun z=>by rw [i];exact (ZbY xs).mem_iff
 rw [ZkL ω,Option.bind_some,Zl3 ω,Option.bind_some,if_pos ω,f,e];rfl
theorem Zpp (cells:List Int) (t:Int):(vts cells t).length=cells.count t:=by
 have c:cells=(idP (cells.length:Int)).map fun j=>ix cells j:=by
  refine ZaL (by rw [List.length_map,Zai];omega) fun i a e=>?_
  rw [ZjX a (by rw [Zai];omega),Zc5 a ω]
 have:((idP (cells.length:Int)).map fun j=>ix cells j).count t=(vts cells t).length:=by
  rw [List.count,List.countP_map,List.countP_eq_length_filter];rfl
 rw [<-this,<-c]
def PrU (u v i j:Int):Prop:=0<=i/\i<j/\(j<u\/(j=u/\i<v))
def TgI (cells:List Int) (u v a:Int):Prop:=(a=-1/\∀ i j,PrU u v i j->ix cells i≠ix cells j)\/(0<=a/\(∃ i j,PrU u v i j/\ix cells i=a/\ix cells j=a)/\∀ i j,PrU u v i j->ix cells i=ix cells j->a<=ix cells j)
theorem ZEE {cells:List Int} {u v y:Int} (l:0<=v/\v<u) (hu:0<=ix cells u) (h:TgI cells u v y):TgI cells u (v+1) (if ix cells u=ix cells v/\(y<0\/ix cells u<y) then ix cells u else y):=by
 have hp:∀ i j,PrU u (v+1) i j->PrU u v i j\/(i=v/\j=u):=fun i j ⟨a,b,c⟩=>by
  by_cases h:j=u/\i=v
  ·exact .inr ⟨h.2,h.1⟩
  ·exact .inl ⟨a,b,by omega⟩
 have r:∀ i j,PrU u v i j->PrU u (v+1) i j:=fun i j ⟨a,b,c⟩=>⟨a,b,by omega⟩
 have o:PrU u (v+1) v u:=⟨l.1,l.2,.inr ⟨rfl,by omega⟩⟩
 rcases h with ⟨h1,f⟩|⟨h1,⟨i,j,f,s,w⟩,p⟩
 ·by_cases he:ix cells u=ix cells v
  ·rw [if_pos ⟨he,.inl ω⟩]
   refine .inr ⟨hu,⟨v,u,o,he.symm,rfl⟩,fun i j x e=>?_⟩
   rcases hp i j x with k|⟨rfl,rfl⟩
   ·exact absurd e (f i j k)
   ·omega
  ·rw [if_neg fun k=>he k.1]
   refine .inl ⟨h1,fun i j x e=>?_⟩
   rcases hp i j x with k|⟨rfl,rfl⟩
   ·exact f i j k e
   ·exact he e.symm
 ·by_cases he:ix cells u=ix cells v/\(y<0\/ix cells u<y)
  ·rw [if_pos he]
   refine .inr ⟨hu,⟨v,u,o,he.1.symm,rfl⟩,fun i' j' x e=>?_⟩
   rcases hp i' j' x with k|⟨rfl,rfl⟩
   ·have:=p i' j' k e;omega
   ·omega
  ·rw [if_neg he]
   refine .inr ⟨h1,⟨i,j,r i j f,s,w⟩,fun i' j' x e=>?_⟩
   rcases hp i' j' x with k|⟨rfl,rfl⟩
   ·exact p i' j' k e
   ·have:¬ (ix cells j'<y):=fun k=>he ⟨e.symm,.inr k⟩
    omega
theorem ZsH {cells:List Int} (hl:(cells.length:Int)<=1000000) (h0:∀ x∈cells,0<=x):ZjG cells=some (tgt cells):=by
 unfold ZjG
 have hx:∀ i,0<=i->i<(cells.length:Int)->0<=ix cells i:=fun i a b=>h0 _ (Zo a b)
 obtain ⟨⟨a2,u⟩,⟨h1,h2⟩,h3⟩:=ZhV (B:=Zjn cells) (fun u q=>q.2=u/\TgI cells u 0 q.1) (i:=0) (n:=cells.length) ω (s:=((-1:Int),(0:Int))) ⟨rfl,.inl ⟨rfl,fun i j ⟨a,b,c⟩=>by omega⟩⟩ fun u q u0 u1 ⟨g1,g2⟩=>by
  obtain ⟨a2,j⟩:=q
  dsimp only at g1 g2
  subst g1
  obtain ⟨⟨a1,v⟩,⟨k1,k2⟩,k3⟩:=ZhV (B:=ZcA cells j) (fun v q=>q.2=v/\TgI cells j v q.1) (i:=0) (n:=j) u0 (s:=(a2,(0:Int))) ⟨rfl,g2⟩ fun v q v0 v1 ⟨m1,m2⟩=>by
   obtain ⟨o,w⟩:=q
   dsimp only at m1 m2
   subst m1
   have a4:=ZEE ⟨v0,v1⟩ (hx j u0 u1) m2
   generalize hE:(if ix cells j=ix cells w/\(o<0\/ix cells j<o) then ix cells j else o)=o2 at a4
   refine ⟨(o2,w+1),?_,rfl,a4⟩
   by_cases he:ix cells j=ix cells w
   ·by_cases ho:o<0
    ·rw [if_pos ⟨he,.inl ho⟩] at hE
     subst hE
     simp (disch:=omega) only [pz,ZcA,Zca]
    ·by_cases hc:ix cells j<o
     ·rw [if_pos ⟨he,.inr hc⟩] at hE
      subst hE
      simp (disch:=omega) only [pz,ZcA,Zca]
     ·rw [if_neg fun k=>by omega] at hE
      subst hE
      simp (disch:=omega) only [pz,ZcA,Zca]
   ·rw [if_neg fun k=>he k.1] at hE
    subst hE
    simp (disch:=omega) only [pz,ZcA,Zca]
  dsimp only at k1 k2
  subst k1
  have a7:loop (ZcA cells v) (a1,v)=some (.inl (a1,v+1)):=Zc (by simp (disch:=omega) only [pz,ZcA])
  refine ⟨(a1,v+1),by simp (disch:=omega) only [pz,Zjn,k3,a7],rfl,?_⟩
  rcases k2 with ⟨h,p⟩|⟨h,⟨i,j,p,r,y⟩,a5⟩
  ·exact .inl ⟨h,fun i j ⟨f,l,b3⟩=>p i j ⟨f,l,by omega⟩⟩
  ·obtain ⟨c1,c2,c3⟩:=p
   exact .inr ⟨h,⟨i,j,⟨c1,c2,.inl ω⟩,r,y⟩,fun i j ⟨f,l,b3⟩=>a5 i j ⟨f,l,by omega⟩⟩
 dsimp only at h1 h2
 rw [h3]
 subst h1
 have e:a2=tgt cells:=by
  rcases Zdk h0 with ⟨t1,t2⟩|⟨t1,t2,t3⟩
  ·rcases h2 with ⟨h,_⟩|⟨h,⟨i,j,⟨f,l,b3⟩,r,y⟩,_⟩
   ·omega
   ·have:=ZmC t2 f ω ω ω (r.trans y.symm)
    omega
  ·obtain ⟨i,j,i0,a6,j1,hi,hj⟩:=ZlF.1 t2
   rcases h2 with ⟨_,p⟩|⟨h,⟨i',j',⟨f,l,b3⟩,r,y⟩,a5⟩
   ·exact absurd (hi.trans hj.symm) (p i j ⟨i0,a6,.inl j1⟩)
   ·have h1:=a5 i j ⟨i0,a6,.inl j1⟩ (hi.trans hj.symm)
    have h2:=t3 a2 (ZlF.2 ⟨i',j',f,l,by omega,r,y⟩)
    omega
 refine Zc ?_
 simp (disch:=omega) only [pz,Zjn,e]
theorem ZxC {cells:List Int} {t k:Int} (h:0<=k):(idP (k+1)).filter (fun v=>ix cells v==t)=(idP k).filter (fun v=>ix cells v==t)++(if ix cells k=t then [k] else []):=by
 unfold idP
 rw [ZW h,List.filter_append]
 by_cases e:ix cells k=t
 ·rw [if_pos e];simp [e]
 ·rw [if_neg e];simp [e]
theorem ZHD {cells:List Int} (hl:(cells.length:Int)<=1000000) (hr:∀ x∈cells,0<=x/\x<(cells.length:Int)):Zj8 cells=some (if tgt cells<0 then [] else vts cells (tgt cells)):=by
 unfold Zj8
 have w:∀ c:Int,0<=c->c<(cells.length:Int)->loop (Zb5 cells c) (([]:List Int),0)=some (if 1<((vts cells c).length:Int) then .inr (vts cells c) else .inl (c+1)):=fun c f c1=>by
  have a3:=Zl (B:=Zb5 cells c) (fun k=>((idP k).filter (fun v=>ix cells v==c),k)) (i:=0) (n:=cells.length) ω fun k k0 k1=>by
   have y:=List.length_filter_le (fun v=>ix cells v==c) (idP k)
   rw [Zai] at y
   have u:=ZxC (cells:=cells) (t:=c) k0
   by_cases e:ix cells k=c
   ·rw [if_pos e] at u
    simp (disch:=omega) only [pz,Zb5,u]
   ·rw [if_neg e,List.append_nil] at u
    simp (disch:=omega) only [pz,Zb5,u]
  have p:(([]:List Int),(0:Int))=(fun k:Int=>((idP k).filter (fun v=>ix cells v==c),k)) 0:=rfl
  rw [p,a3]
  refine Zc ?_
  show Zb5 cells c (vts cells c,(cells.length:Int))=_
  by_cases h:1<((vts cells c).length:Int)
  ·rw [if_pos h];simp (disch:=omega) only [pz,Zb5]
  ·rw [if_neg h];simp (disch:=omega) only [pz,Zb5]
 rcases Zb0 (B:=Zf0 cells) (fun k=>k) (fun c=>1<((vts cells c).length:Int)) (i:=0) (n:=cells.length) ω (fun c f c1 r=>by
   have:=w c f c1
   rw [if_neg r] at this
   simp (disch:=omega) only [pz,Zf0,this]) with ⟨c,f,c1,hP,hmin,he⟩|⟨hall,he⟩
 ·rw [he]
  have a2:2<=cells.count c:=by rw [<-Zpp];omega
  have ht:tgt cells=c:=by
   rcases Zdk (fun x l=>(hr x l).1) with ⟨a,j⟩|⟨a,j,o⟩
   ·have:=List.nodup_iff_count.1 j c;omega
   ·have h1:=o c a2
    rcases Int.lt_or_le (tgt cells) c with k|k
    ·have:=hmin (tgt cells) a k
     rw [Zpp] at this
     omega
    ·omega
  rw [if_neg ω,ht]
  have:=w c f c1
  rw [if_pos hP] at this
  exact Zc (by simp (disch:=omega) only [pz,Zf0,this])
 ·rw [he]
  have ht:tgt cells<0:=by
   rcases Zdk (fun x l=>(hr x l).1) with ⟨a,j⟩|⟨a,j,o⟩
   ·omega
   ·have hm:tgt cells∈cells:=List.count_pos_iff.1 ω
    have:=hall (tgt cells) a (hr _ hm).2
    rw [Zpp] at this
    omega
  rw [if_pos ht]
  exact Zc (by simp (disch:=omega) only [pz,Zf0])
theorem ZrC {l:List (List Int)} (h:l.Pairwise LtR):StrictL l:=fun i j e k f=>by
 have:=List.pairwise_iff_getElem.1 h i.toNat j.toNat ω ω ω
 have a:=Zah (xs:=l) (i:=i) e ω
 have c:=Zah (xs:=l) (i:=j) ω f
 rw [List.getElem?_eq_getElem ω] at a c
 rwa [Option.some.inj a,Option.some.inj c] at this
theorem Zub {xs:List (List Int)} {z:List Int} (h:z∈xs):(xs.idxOf z:Int)<(xs.length:Int)/\ix xs (xs.idxOf z:Int)=z:=by
 have h1:=List.idxOf_lt_length_of_mem h
 refine ⟨by omega,ZQ ?_⟩
 rw [List.getElem?_eq_getElem h1,List.getElem_idxOf h1]
theorem ZxB {l:List (List Int)} (hs:StrictL l) {i j:Int} (a:0<=i) (c:i<(l.length:Int)) (f:0<=j) (o:j<(l.length:Int)) (h:ix l i=ix l j):i=j:=by
 have e:=(ZaE (ix l i) (ix l j)).2 h
 have p:=(ZaE (ix l j) (ix l i)).2 h.symm
 rcases Int.lt_trichotomy i j with k|k|k
 ·have:=hs i j a k o;omega
 ·exact k
 ·have:=hs j i f k c;omega
theorem ZvK {l:List (List Int)} {p:List Int} (hs:StrictL l) (hl:(l.length:Int)<=1048576) (hr:∀ x∈l,(x.length:Int)<=1048576) (hm:p∈l):
  Zc1 l p (fun r s=>Zao r s)=some ((l.idxOf p:Int),true):=by
 unfold Zc1
 generalize a0:Zbq l p (fun r s=>Zao r s)=B
 obtain ⟨a,hi⟩:=Zub hm
 generalize hI:(l.idxOf p:Int)=I at a hi ⊢
 have b:0<=I:=ω
 have eI:cmpL (ix l I) p=0:=(ZaE _ _).2 hi
 have a6:∀ (d:Nat) (lo hi:Int),(hi-lo).toNat<=d->0<=lo->lo<=hi->hi<=(l.length:Int)->(∀ j,0<=j->j<lo->cmpL (ix l j) p<0)->(∀ j,hi<=j->j<(l.length:Int)->0<=cmpL (ix l j) p)->loop B (lo,hi)=some (I,true):=by
  intro d
  induction d with
  | zero=>
   intro lo y w f h1 u h i
   obtain rfl:lo=y:=ω
   have aa:lo<=I:=by
    rcases Int.lt_or_le I lo with c|c
    ·have:=h I b c;omega
    ·exact c
   have a2:I=lo:=by
    rcases Int.lt_or_le lo I with c|c
    ·have v:=hs lo I f c a
     rw [hi] at v
     have:=i lo ω ω
     omega
    ·omega
   subst a2
   have a5:=hr (ix l I) (Zo f a)
   have k:=Zbt (a:=ix l I) (b:=p) ω
   refine Zc ?_
   rw [<-a0]
   simp (disch:=omega) only [pz,Zbq,k]
  | succ d ih=>
   intro lo y w f h1 u h i
   by_cases a9:lo<y
   ·have hm:=ZtB f h1 (show y<=1048576 by omega)
    have a8:lo<=(lo+y)/2/\(lo+y)/2<y:=ω
    have a5:=hr (ix l ((lo+y)/2)) (Zo ω ω)
    have k:=Zbt (a:=ix l ((lo+y)/2)) (b:=p) ω
    have o:gNn 1=some ():=rfl
    by_cases e:cmpL (ix l ((lo+y)/2)) p<0
    ·have hB:B (lo,y)=some (.inl ((lo+y)/2+1,y)):=by
      rw [<-a0]
      simp only [Zbq,hm,o]
      simp (disch:=omega) only [pz,k]
     rw [ZG hB]
     refine ih _ _ ω ω ω u (fun j a b=>?_) i
     by_cases hj:j=(lo+y)/2
     ·rw [hj];exact e
     ·have:=hs j ((lo+y)/2) a ω ω
      exact Zb3 _ _ _ this e
    ·have hB:B (lo,y)=some (.inl (lo,(lo+y)/2)):=by
      rw [<-a0]
      simp only [Zbq,hm,o]
      simp (disch:=omega) only [pz,k]
     rw [ZG hB]
     refine ih _ _ ω f ω ω h fun j a b=>?_
     by_cases hj:j=(lo+y)/2
     ·rw [hj];omega
     ·have v:=hs ((lo+y)/2) j ω ω b
      rcases Int.lt_or_le (cmpL (ix l j) p) 0 with c|c
      ·exact absurd (Zb3 _ _ _ v c) e
      ·exact c
   ·exact ih lo y ω f h1 u h i
 exact a6 _ 0 l.length (Nat.le_refl _) ω ω ω (fun j a b=>by omega) fun j a b=>by omega
structure Nr (near:List (List Int)):Prop where
 n:near.length<=64
 row:∀ a∈near,a.length<=64/\∀ w∈a,0<=w/\w<(near.length:Int)
theorem Nr.ix {near:List (List Int)} (h:Nr near) {v:Int} (c:0<=v) (h1:v<(near.length:Int)):(Vc.ix near v).length<=64/\∀ j,0<=j->j<((Vc.ix near v).length:Int)->0<=Vc.ix (Vc.ix near v) j/\Vc.ix (Vc.ix near v) j<(near.length:Int):=by
 obtain ⟨a,b⟩:=h.row _ (Zo c h1)
 exact ⟨a,fun j e f=>b _ (Zo e f)⟩
theorem ZGm {near:List (List Int)} {cells:List Int} {v:Int}:(keyAt near cells v).length=(Vc.ix near v).length+1:=by
 unfold keyAt
 rw [List.length_cons,(ZbY _).length_eq,List.length_map]
theorem Nr.keys {near:List (List Int)} (h:Nr near) {cells:List Int}:∀ x∈rkeys near cells,x.length<=65:=fun x e=>by
 obtain ⟨i,c,a,rfl⟩:=Z2 e
 rw [Zei] at a
 rw [Zkm c a,ZGm]
 have:=(h.ix c a).1
 omega
theorem Zeq {α e:Type} [Inhabited α] {xs:List α} {f:α->e} {k:Int} (a:0<=k) (h1:k<(xs.length:Int)):(xs.take (k+1).toNat).map f=(xs.take k.toNat).map f++[f (Vc.ix xs k)]:=by
 rw [ZaC a h1,List.map_append];rfl
theorem around {near:List (List Int)} {cells:List Int} {v k:Int} (k0:0<=k) (k1:k<((Vc.ix near v).length:Int)):((Vc.ix near v).take (k+1).toNat).map (fun w=>ix cells w)=((Vc.ix near v).take k.toNat).map (fun w=>ix cells w)++[ix cells (ix (Vc.ix near v) k)]:=Zeq k0 k1
theorem ZB4 {keys:List (List Int)} {i:Int} (a:0<=i) (h1:i<(keys.length:Int)):kindsOf (keys.take (i+1).toNat)=insL (fun x=>cmpL x (ix keys i)) (ix keys i) (kindsOf (keys.take i.toNat)):=by
 unfold kindsOf
 rw [ZaC a h1,List.foldl_append];rfl
theorem ZCu {near:List (List Int)} {cells:List Int} {k:Int} (k0:0<=k):tabl (k+1) (keyAt near cells)=tabl k (keyAt near cells)++[keyAt near cells k]:=ZW k0
theorem ZtE {near:List (List Int)} {cells:List Int} (hN:Nr near) (hl:cells.length=near.length):ZgJ near cells=some (rnd near cells):=by
 unfold ZgJ
 have hn:=hN.n
 -- the keys
 have h1:=Zl (B:=Zga near cells) (fun k=>(tabl k (keyAt near cells),k)) (i:=0) (n:=near.length) ω fun k k0 k1=>by
  obtain ⟨a,b⟩:=hN.ix k0 k1
  have a1:=Zl (B:=ZdO near cells (tabl k (keyAt near cells)) k) (fun j=>(((Vc.ix near k).take j.toNat).map (fun w=>ix cells w),j)) (i:=0) (n:=(Vc.ix near k).length) ω fun j f h=>by
   have hb:=b j f h
   have ai:(((Vc.ix near k).take j.toNat).map (fun w=>ix cells w)).length<=64:=by rw [List.length_map,List.length_take];omega
   simp (disch:=omega) only [pz,ZdO,around f h]
  have e0:(([]:List Int),(0:Int))=(fun j:Int=>(((Vc.ix near k).take j.toNat).map (fun w=>ix cells w),j)) 0:=by simp
  have ae:=ZCO (xs:=(Vc.ix near k).map (fun w=>ix cells w)) (by rw [List.length_map];omega)
  have ap:(sortI ((Vc.ix near k).map (fun w=>ix cells w))).length<=64:=by rw [(ZbY _).length_eq,List.length_map];omega
  have a9:gApp 8 [ix cells k] (sortI ((Vc.ix near k).map (fun w=>ix cells w)))=some (keyAt near cells k):=by
   rw [ZaW (by simp;omega) (by simp;omega)];rfl
  have ad:(tabl k (keyAt near cells)).length<=64:=by rw [Zm];omega
  have a0:loop (ZdO near cells (tabl k (keyAt near cells)) k) (([]:List Int),0)=some (.inl (tabl (k+1) (keyAt near cells),k+1)):=by
   rw [e0,a1]
   refine Zc ?_
   rw [ZCu k0]
   simp (disch:=omega) only [pz,ZdO,ae,a9]
  simp (disch:=omega) only [pz,Zga,a0]
 have e1:(([]:List (List Int)),(0:Int))=(fun k:Int=>(tabl k (keyAt near cells),k)) 0:=rfl
 rw [e1,h1]
 show loop _ (rkeys near cells,(near.length:Int))=_
 -- the kinds
 generalize hK:rkeys near cells=keys
 have a3:keys.length=near.length:=by rw [<-hK,Zei]
 have a6:∀ x∈keys,x.length<=65:=by rw [<-hK];exact hN.keys
 have h2:=Zl (B:=Zeb near keys) (fun k=>(kindsOf (keys.take k.toNat),k)) (i:=0) (n:=near.length) ω fun k k0 k1=>by
  have ac:=ZmH (keys.take k.toNat)
  rw [List.length_take] at ac
  have hp:=ZwA (l:=kindsOf (keys.take k.toNat)) (y:=ix keys k) ω (fun x o=>by
   have:=a6 x (List.mem_of_mem_take (ZdC.1 o));omega)
  rw [<-ZB4 k0 ω] at hp
  simp (disch:=omega) only [pz,Zeb,hp]
 have e2:(([]:List (List Int)),(0:Int))=(fun k:Int=>(kindsOf (keys.take k.toNat),k)) 0:=rfl
 -- the numbers
 have aq:(kindsOf keys).length<=64:=by have:=ZmH keys;omega
 have p:∀ x∈kindsOf keys,x.length<=65:=fun x o=>a6 x (ZdC.1 o)
 have aa:=ZrC (ZnP keys)
 have a4:(rnd near cells).length=near.length:=ZdB near cells
 have h3:=Zl (B:=ZdZ near keys (kindsOf keys)) (fun k=>((rnd near cells).take k.toNat,k)) (i:=0) (n:=near.length) ω fun k k0 k1=>by
  have hm:ix keys k∈kindsOf keys:=ZdC.2 (Zo k0 ω)
  obtain ⟨r,s⟩:=Zub hm
  have a5:ix (rnd near cells) k=((kindsOf keys).idxOf (ix keys k):Int):=by
   rw [ZkH k0 k1,hK,<-hK,Zkm k0 k1]
  generalize hI:((kindsOf keys).idxOf (ix keys k):Int)=I at r s a5
  have ab:0<=I:=ω
  have a1:=Zl (B:=Zdr keys (kindsOf keys) k) (fun j=>((rnd near cells).take k.toNat++(if I<j then [I] else []),j)) (i:=0) (n:=(kindsOf keys).length) ω fun j f h=>by
   have v:=Zb7 (a:=ix (kindsOf keys) j) (b:=ix keys k) (by have:=p _ (Zo f h);omega)
   have ad:((rnd near cells).take k.toNat).length<=64:=by rw [List.length_take];omega
   by_cases he:j=I
   ·have hz:cmpL (ix (kindsOf keys) j) (ix keys k)=0:=(ZaE _ _).2 (by rw [he];exact s)
    rw [if_neg ω,if_pos ω,List.append_nil]
    simp (disch:=omega) only [pz,Zdr,v,hz]
    rw [he]
   ·have hz:¬ cmpL (ix (kindsOf keys) j) (ix keys k)=0:=fun e=>he (ZxB aa f h ab r (by rw [(ZaE _ _).1 e,s]))
    have u:(if I<j+1 then [I] else [])=(if I<j then [I] else []):=by
     by_cases c:I<j
     ·rw [if_pos c,if_pos ω]
     ·rw [if_neg c,if_neg ω]
    rw [u]
    simp (disch:=omega) only [pz,Zdr,v,hz]
  have u:((rnd near cells).take k.toNat,(0:Int))=(fun j:Int=>((rnd near cells).take k.toNat++(if I<j then [I] else []),j)) 0:=by
   show _=(_++(if I<0 then [I] else []),(0:Int))
   rw [if_neg ω,List.append_nil]
  have a0:loop (Zdr keys (kindsOf keys) k) ((rnd near cells).take k.toNat,0)=some (.inl ((rnd near cells).take (k+1).toNat,k+1)):=by
   rw [u,a1]
   refine Zc ?_
   rw [if_pos r,ZaC k0 ω,a5]
   simp (disch:=omega) only [pz,Zdr]
  simp (disch:=omega) only [pz,ZdZ,a0]
 have e4:(([]:List Int),(0:Int))=(fun k:Int=>((rnd near cells).take k.toNat,k)) 0:=rfl
 have h4:loop (ZdZ near keys (kindsOf keys)) (([]:List Int),0)=some (.inr (.inr (rnd near cells))):=by
  rw [e4,h3]
  refine Zc ?_
  rw [Int.toNat_natCast,<-a4,List.take_length,a4]
  simp (disch:=omega) only [pz,ZdZ]
 have h5:loop (Zeb near keys) (([]:List (List Int)),0)=some (.inr (rnd near cells)):=by
  rw [e2,h2]
  refine Zc ?_
  rw [Int.toNat_natCast,<-a3,List.take_length,a3]
  simp (disch:=omega) only [pz,Zeb,h4]
 exact Zc (by simp (disch:=omega) only [pz,Zga,h5])
theorem Zvx {a b:List Int} (h:(a.length:Int)<=1000):Zcb a b=some (decide (a=b)):=by
 by_cases e:a=b
 ·rw [(Zoi ω).eq e,decide_eq_true e]
 ·rw [(Zoi ω).ne e,decide_eq_false e]
theorem Zp4 {near:List (List Int)} {cells:List Int} (hN:Nr near) (hl:cells.length=near.length):Zj0 near cells=some (rnd near cells):=by
 unfold Zj0
 have hn:=hN.n
 have ae:gMake 24 ([]:List Int) (cells.length:Int) (cells.length:Int)=some (tabl near.length fun i=>if i<0 then keyAt near cells i else []):=by
  rw [Zaw ω ω ω,Int.toNat_natCast]
  congr 1
  refine ZaL (by rw [List.length_replicate,Zm];omega) fun i e h=>?_
  rw [List.length_replicate] at h
  rw [ZcD e ω,ZI e ω,if_neg ω]
 rw [ae,Option.bind_some]
 have h1:=Zl (B:=Zgr near cells) (fun k=>(k,tabl near.length fun i=>if i<k then keyAt near cells i else [])) (i:=0) (n:=near.length) ω fun k k0 k1=>by
  obtain ⟨a,b⟩:=hN.ix k0 k1
  generalize hX:(tabl near.length fun i=>if i<k then keyAt near cells i else [])=X
  have a7:X.length=near.length:=by rw [<-hX,Zm];omega
  have a8:=Zl (B:=Ze7 cells k X (ix cells k) (Vc.ix near k)) (fun j=>(((Vc.ix near k).take j.toNat).map (fun w=>ix cells w),j)) (i:=0) (n:=(Vc.ix near k).length) ω fun j j0 j1=>by
   have r:=b j j0 j1
   have aj:(((Vc.ix near k).take j.toNat).map (fun w=>ix cells w)).length<=64:=by rw [List.length_map,List.length_take];omega
   simp (disch:=omega) only [pz,Ze7,around j0 j1]
  have e0:(([]:List Int),(0:Int))=(fun j:Int=>(((Vc.ix near k).take j.toNat).map (fun w=>ix cells w),j)) 0:=by simp
  have a1:=Zl3 (p:=(Vc.ix near k).map (fun w=>ix cells w)) (by rw [List.length_map];omega)
  have aa:(sortI ((Vc.ix near k).map (fun w=>ix cells w))).length<=64:=by rw [(ZbY _).length_eq,List.length_map];omega
  have a5:gApp 8 [ix cells k] (sortI ((Vc.ix near k).map (fun w=>ix cells w)))=some (keyAt near cells k):=by
   rw [ZaW (by simp;omega) (by simp;omega)];rfl
  have hset:X.set k.toNat (keyAt near cells k)=tabl near.length fun i=>if i<k+1 then keyAt near cells i else []:=by
   rw [<-hX]
   refine Zam k0 k1 (fun i e h i2=>?_) ?_
   ·by_cases c:i<k
    ·rw [if_pos c,if_pos ω]
    ·rw [if_neg c,if_neg ω]
   ·rw [if_pos ω]
  have a3:loop (Ze7 cells k X (ix cells k) (Vc.ix near k)) (([]:List Int),0)=some (.inl (k+1,tabl near.length fun i=>if i<k+1 then keyAt near cells i else [])):=by
   rw [e0,a8]
   refine Zc ?_
   rw [<-hset]
   simp (disch:=omega) only [pz,Ze7,a1,a5]
  simp (disch:=omega) only [pz,Zgr,a3]
 rw [h1]
 have e1:(tabl near.length fun i=>if i<(near.length:Int) then keyAt near cells i else [])=rkeys near cells:=ZM fun i e h=>by rw [if_pos h]
 rw [e1]
 generalize hK:rkeys near cells=keys
 have av:keys.length=near.length:=by rw [<-hK,Zei]
 have a0:∀ x∈keys,x.length<=65:=by rw [<-hK];exact hN.keys
 have ag:ZjZ keys=some keys:=by
  unfold ZjZ
  rw [ZaW (by simp;omega) (by simp;omega)];rfl
 have a1:=Zqb (q:=keys) ω (fun x o=>by have:=a0 x o;omega)
 have aa:=Zjz keys
 obtain ⟨q,q1,q2,q3,q4⟩:=ZEQ (f:=fun s u=>Zcb s u) (fun a b ha=>Zvx ha) (l:=sortRows keys) (fun x o=>by have:=a0 x (ZbA.1 o);omega) (ZlI keys)
 have hq:q=kindsOf keys:=ZGq q2 fun z=>by rw [q3,ZbA]
 have a9:ZiF (sortRows keys) (fun s u=>Zcb s u)=some (kindsOf keys):=by
  unfold ZiF
  rw [if_pos ω,q1,hq]
 have aw:(kindsOf keys).length<=64:=by have:=ZmH keys;omega
 have v:∀ x∈kindsOf keys,x.length<=65:=fun x o=>a0 x (ZdC.1 o)
 have a6:=ZrC (ZnP keys)
 have y:gMake 8 (0:Int) (cells.length:Int) (cells.length:Int)=some (tabl near.length fun i=>if i<0 then ix (rnd near cells) i else 0):=by
  rw [Zaw ω ω ω,Int.toNat_natCast]
  congr 1
  refine ZaL (by rw [List.length_replicate,Zm];omega) fun i e h=>?_
  rw [List.length_replicate] at h
  rw [ZcD e ω,ZI e ω,if_neg ω]
 have h3:=Zl (B:=Zec near cells keys (kindsOf keys)) (fun k=>(k,tabl near.length fun i=>if i<k then ix (rnd near cells) i else 0)) (i:=0) (n:=near.length) ω fun k k0 k1=>by
  have hm:ix keys k∈kindsOf keys:=ZdC.2 (Zo k0 ω)
  have r:=ZvK a6 ω (fun x o=>by have:=v x o;omega) hm
  have ab:ix (rnd near cells) k=((kindsOf keys).idxOf (ix keys k):Int):=by
   rw [ZkH k0 k1,hK,<-hK,Zkm k0 k1]
  rw [<-ab] at r
  have hset:(tabl near.length fun i=>if i<k then ix (rnd near cells) i else 0).set k.toNat (ix (rnd near cells) k)=tabl near.length fun i=>if i<k+1 then ix (rnd near cells) i else 0:=by
   refine Zam k0 k1 (fun i e h i2=>?_) ?_
   ·by_cases c:i<k
    ·rw [if_pos c,if_pos ω]
    ·rw [if_neg c,if_neg ω]
   ·rw [if_pos ω]
  generalize (tabl near.length fun i=>if i<k then ix (rnd near cells) i else 0)=X at hset ⊢
  have a7:X.length=near.length:=by
   have:=congrArg List.length hset
   rw [List.length_set,Zm] at this
   omega
  simp (disch:=omega) only [pz,Zec,r,hset]
 have e3:(tabl near.length fun i=>if i<(near.length:Int) then ix (rnd near cells) i else 0)=rnd near cells:=by
  have:=Zbe (rnd near cells)
  rw [ZdB] at this
  refine Eq.trans (ZM fun i e h=>?_) this
  rw [if_pos h]
 have h4:loop (Zec near cells keys (kindsOf keys)) (0,tabl near.length fun i=>if i<0 then ix (rnd near cells) i else 0)=some (.inr (rnd near cells)):=by
  rw [h3,e3]
  exact Zc (by simp (disch:=omega) only [pz,Zec])
 exact Zc (by simp (disch:=omega) only [pz,Zgr,ag,a1,a9,y,h4])
theorem ZpJ {near:List (List Int)} (l:Nr near):∀ (f:Nat) (c:List Int),c.length=near.length->near.length<f+1+cnt c->loop (Zdq near) ((cnt c:Int),rnd near c)=some (refM near (f+1) c)
 | 0,c,a,hf=>by
  have h1:=ZiS a
  have j:=Zel (rnd near c)
  have e:=ZdB near c
  have i:=l.n
  have k:=Znk (xs:=rnd near c) ω
  rw [refM,if_pos ω]
  exact Zc (by simp (disch:=omega) only [pz,Zdq,k])
 | f+1,c,a,hf=>by
  have h1:=ZiS a
  have e:=ZdB near c
  have i:=l.n
  have k:=Znk (xs:=rnd near c) ω
  rw [refM]
  by_cases h:cnt (rnd near c)=cnt c
  ·rw [if_pos h]
   exact Zc (by simp (disch:=omega) only [pz,Zdq,k])
  ·rw [if_neg h]
   have o:=ZtE (cells:=rnd near c) l e
   have hB:Zdq near ((cnt c:Int),rnd near c)=some (.inl ((cnt (rnd near c):Int),rnd near (rnd near c))):=by simp (disch:=omega) only [pz,Zdq,k,o]
   rw [ZG hB]
   exact ZpJ l f (rnd near c) e ω
theorem Zt9 {near:List (List Int)} {c:List Int} (h:Nr near) (a:c.length=near.length):Zgv near c=some (refN near c):=by
 unfold Zgv
 have e:=h.n
 have j:=Znk (xs:=c) ω
 have k:=ZtE h a
 have:=ZpJ h near.length c a ω
 simp (disch:=omega) only [pz,j,k,this]
 rfl
theorem ZuN {near:List (List Int)} (l:Nr near):∀ (f:Nat) (c:List Int),c.length=near.length->near.length<f+1+cnt c->loop (ZdK near) c=some (refM near (f+1) c)
 | 0,c,e,hf=>by
  have h1:=ZiS e
  have k:=Zel (rnd near c)
  have i:=ZdB near c
  have j:=l.n
  have o:=Zlx (xs:=rnd near c) ω
  have a:=Zlx (xs:=c) ω
  have r:=Zp4 l e
  rw [refM,if_pos ω]
  exact Zc (by simp (disch:=omega) only [pz,ZdK,o,a,r])
 | f+1,c,e,hf=>by
  have h1:=ZiS e
  have i:=ZdB near c
  have j:=l.n
  have o:=Zlx (xs:=rnd near c) ω
  have a:=Zlx (xs:=c) ω
  have r:=Zp4 l e
  rw [refM]
  by_cases h:cnt (rnd near c)=cnt c
  ·rw [if_pos h]
   exact Zc (by simp (disch:=omega) only [pz,ZdK,o,a,r])
  ·rw [if_neg h]
   have hB:ZdK near c=some (.inl (rnd near c)):=by simp (disch:=omega) only [pz,ZdK,o,a,r]
   rw [ZG hB]
   exact ZuN l f (rnd near c) i ω
theorem ZrZ {near:List (List Int)} {c:List Int} (e:Nr near) (a:c.length=near.length):Zih near c=some (refN near c):=ZuN e near.length c a ω
def tb (n:Int) (F:Int->Int->Bool):List (List Bool):=tabl n fun a=>tabl n fun b=>F a b
theorem ZkM (n:Int) (F:Int->Int->Bool):(tb n F).length=n.toNat:=Zm
theorem tb_ix {n a:Int} {F:Int->Int->Bool} (c:0<=a) (e:a<n):ix (tb n F) a=tabl n fun b=>F a b:=ZI c e
theorem ZuQ {n a b:Int} {F:Int->Int->Bool} (c:0<=a) (e:a<n) (f:0<=b) (h:b<n):ix (ix (tb n F) a) b=F a b:=by rw [tb_ix c e];exact ZI f h
theorem ZgT {n a:Int} {F:Int->Int->Bool} (c:0<=a) (e:a<n):(ix (tb n F) a).length=n.toNat:=by rw [tb_ix c e,Zm]
theorem Zn6 {n:Int} {F G:Int->Int->Bool} (h:∀ a b,0<=a->a<n->0<=b->b<n->F a b=G a b):tb n F=tb n G:=ZM fun a c e=>ZM fun b f i=>h a b c e f i
theorem ZkO {n A B:Int} {F:Int->Int->Bool} (c:0<=A) (e:A<n) (f:0<=B) (h:B<n):(tb n F).set A.toNat ((ix (tb n F) A).set B.toNat true)=tb n fun a b=>F a b||(a==A&&b==B):=by
 unfold tb
 refine Zam c e (fun i k l hi=>ZM fun b _ _=>?_) ?_
 ·simp [hi]
 ·rw [ZI c e]
  refine Zam f h (fun j o p r=>?_) ?_
  ·simp [r]
  ·simp
theorem Zta {n A B:Int} {F:Int->Int->Bool} (c:0<=A) (e:A<n) (f:0<=B) (i:B<n):((tb n F).set A.toNat ((ix (tb n F) A).set B.toNat true)).set B.toNat ((ix ((tb n F).set A.toNat ((ix (tb n F) A).set B.toNat true)) B).set A.toNat true)=tb n fun a b=>F a b||((A==a&&B==b)||(A==b&&B==a)):=by
 rw [ZkO c e f i,ZkO f i c e]
 refine Zn6 fun a b _ _ _ _=>?_
 rw [Bool.eq_iff_iff]
 simp only [Bool.or_eq_true,Bool.and_eq_true,beq_iff_eq]
 constructor
 ·rintro ((h|⟨rfl,rfl⟩)|⟨rfl,rfl⟩)
  ·exact .inl h
  ·exact .inr (.inl ⟨rfl,rfl⟩)
  ·exact .inr (.inr ⟨rfl,rfl⟩)
 ·rintro (h|⟨rfl,rfl⟩|⟨rfl,rfl⟩)
  ·exact .inl (.inl h)
  ·exact .inl (.inr ⟨rfl,rfl⟩)
  ·exact .inr ⟨rfl,rfl⟩
theorem ZvB {es:List Zb} {k:Int} (k0:0<=k) (k1:k<(es.length:Int)) (a b:Int):adj (es.take (k+1).toNat) a b=(adj (es.take k.toNat) a b||(((ix es k).A==a&&(ix es k).B==b)||((ix es k).A==b&&(ix es k).B==a))):=by
 unfold adj
 rw [ZaC k0 k1,List.any_append]
 simp
theorem ZqT {g:Za} (w:g.Colors.length<=64) (he:g.Edges.length<=1000000) (hg:∀ e∈g.Edges,(0<=e.A/\e.A<(g.Colors.length:Int))/\0<=e.B/\e.B<(g.Colors.length:Int)):Ze1 g=some (tb g.Colors.length (adj g.Edges)):=by
 unfold Ze1
 have h1:=Zl (B:=Zgq g) (fun k=>(tabl k (fun _=>List.replicate g.Colors.length false),k)) (i:=0) (n:=g.Colors.length) ω fun k k0 k1=>by
  have a1:gMake 1 false (g.Colors.length:Int) (g.Colors.length:Int)=some (List.replicate g.Colors.length false):=by
   rw [Zaw ω ω ω,Int.toNat_natCast]
  have hl:(tabl k (fun _=>List.replicate g.Colors.length false)).length<=64:=by rw [Zm];omega
  have a0:tabl (k+1) (fun _=>List.replicate g.Colors.length false)=_:=ZW k0
  simp (disch:=omega) only [pz,Zgq,a1,a0]
 have p:(([]:List (List Bool)),(0:Int))=(fun k:Int=>(tabl k (fun _=>List.replicate g.Colors.length false),k)) 0:=rfl
 have r:=Zl (B:=Ze6 g) (fun k=>(k,tb g.Colors.length (adj (g.Edges.take k.toNat)))) (i:=0) (n:=g.Edges.length) ω fun k k0 k1=>by
  obtain ⟨⟨x0,x1⟩,c,f⟩:=hg (ix g.Edges k) (Zo k0 k1)
  have hs:=Zta (F:=adj (g.Edges.take k.toNat)) x0 x1 c f
  have ht:(tb (g.Colors.length:Int) fun a b=>adj (g.Edges.take k.toNat) a b||(((ix g.Edges k).A==a&&(ix g.Edges k).B==b)||((ix g.Edges k).A==b&&(ix g.Edges k).B==a)))=tb g.Colors.length (adj (g.Edges.take (k+1).toNat)):=Zn6 fun a b _ _ _ _=>(ZvB k0 k1 a b).symm
  rw [ht] at hs
  have l:=ZkO (F:=adj (g.Edges.take k.toNat)) x0 x1 c f
  have l1:=ZkM (g.Colors.length:Int) (adj (g.Edges.take k.toNat))
  have l2:=ZgT (F:=adj (g.Edges.take k.toNat)) x0 x1
  have s:(ix ((tb (g.Colors.length:Int) (adj (g.Edges.take k.toNat))).set (ix g.Edges k).A.toNat ((ix (tb (g.Colors.length:Int) (adj (g.Edges.take k.toNat))) (ix g.Edges k).A).set (ix g.Edges k).B.toNat true)) (ix g.Edges k).B).length=g.Colors.length:=by rw [l,ZgT c f];omega
  generalize tb (g.Colors.length:Int) (adj (g.Edges.take k.toNat))=X at hs l1 l2 s ⊢
  have x:(X.set (ix g.Edges k).A.toNat ((ix X (ix g.Edges k).A).set (ix g.Edges k).B.toNat true)).length=g.Colors.length:=by rw [List.length_set];omega
  simp (disch:=omega) only [pz,Ze6]
  rw [hs]
 have u:tabl (g.Colors.length:Int) (fun _=>List.replicate g.Colors.length false)=tb g.Colors.length (adj (g.Edges.take (0:Int).toNat)):=by
  refine ZM fun i y i1=>?_
  refine ZaL (by rw [List.length_replicate,Zm];omega) fun j o h=>?_
  rw [List.length_replicate] at h
  rw [ZcD o h,ZI o h]
  simp [adj]
 have v:loop (Ze6 g) (0,tabl (g.Colors.length:Int) (fun _=>List.replicate g.Colors.length false))=some (.inr (tb g.Colors.length (adj g.Edges))):=by
  rw [u,r,Int.toNat_natCast,List.take_length]
  exact Zc (by simp (disch:=omega) only [pz,Ze6])
 rw [p,h1]
 exact Zc (by simp (disch:=omega) only [pz,Zgq,v])
theorem ZFL {g:Za} (hg:ValidG g):ZhZ g=some (nearM g):=by
 unfold ZhZ
 have a6:=hg.cl
 have a5:=hg.el
 have ht:=ZqT (g:=g) ω ω (fun e he=>by have:=Zb4 hg he;exact ⟨⟨this.1,by omega⟩,by omega,this.2.2⟩)
 have e:Za.mk g.Colors g.Edges=g:=rfl
 rw [e,ht,Option.bind_some]
 have x:=ZkM (g.Colors.length:Int) (adj g.Edges)
 rw [Int.toNat_natCast] at x
 have h1:=Zl (B:=Zgn (tb g.Colors.length (adj g.Edges))) (fun k=>(tabl k (fun a=>(idP g.Colors.length).filter fun b=>adj g.Edges a b),k)) (i:=0) (n:=g.Colors.length) ω fun k k0 k1=>by
  have a4:(tabl k (fun a=>(idP g.Colors.length).filter fun b=>adj g.Edges a b)).length<=64:=by rw [Zm];omega
  have w:=ZgT (F:=adj g.Edges) k0 k1
  have a1:=Zl (B:=ZcQ (tb g.Colors.length (adj g.Edges)) (tabl k (fun a=>(idP g.Colors.length).filter fun b=>adj g.Edges a b)) k) (fun j=>((idP j).filter (fun b=>adj g.Edges k b),j)) (i:=0) (n:=g.Colors.length) ω fun j h o=>by
   have f:=ZuQ (F:=adj g.Edges) k0 k1 h o
   have y:=List.length_filter_le (fun b=>adj g.Edges k b) (idP j)
   rw [Zai] at y
   have u:(idP (j+1)).filter (fun b=>adj g.Edges k b)=(idP j).filter (fun b=>adj g.Edges k b)++(if adj g.Edges k j=true then [j] else []):=by
    unfold idP
    rw [ZW h,List.filter_append]
    by_cases c:adj g.Edges k j=true
    ·rw [if_pos c];simp [c]
    ·rw [if_neg c];simp [c]
   cases l:adj g.Edges k j with
   | true=>
    rw [l] at f u
    rw [if_pos rfl] at u
    generalize tb (g.Colors.length:Int) (adj g.Edges)=X at f x w ⊢
    simp (disch:=omega) only [pz,ZcQ,f,u]
   | false=>
    rw [l] at f u
    rw [if_neg (by simp),List.append_nil] at u
    generalize tb (g.Colors.length:Int) (adj g.Edges)=X at f x w ⊢
    simp (disch:=omega) only [pz,ZcQ,f,u]
  have p:(([]:List Int),(0:Int))=(fun j:Int=>((idP j).filter (fun b=>adj g.Edges k b),j)) 0:=rfl
  have u:tabl (k+1) (fun a=>(idP g.Colors.length).filter fun b=>adj g.Edges a b)=tabl k (fun a=>(idP g.Colors.length).filter fun b=>adj g.Edges a b)++[(idP g.Colors.length).filter fun b=>adj g.Edges k b]:=ZW k0
  have a0:loop (ZcQ (tb g.Colors.length (adj g.Edges)) (tabl k (fun a=>(idP g.Colors.length).filter fun b=>adj g.Edges a b)) k) (([]:List Int),0)=some (.inl (tabl (k+1) (fun a=>(idP g.Colors.length).filter fun b=>adj g.Edges a b),k+1)):=by
   rw [p,a1,u]
   refine Zc ?_
   generalize tb (g.Colors.length:Int) (adj g.Edges)=X at x w ⊢
   simp (disch:=omega) only [pz,ZcQ]
  simp (disch:=omega) only [pz,Zgn,a0]
 have r:(([]:List (List Int)),(0:Int))=(fun k:Int=>(tabl k (fun a=>(idP g.Colors.length).filter fun b=>adj g.Edges a b),k)) 0:=rfl
 rw [r,h1]
 exact Zc (by simp (disch:=omega) only [pz,Zgn];rfl)
theorem ZmZ {g:Za} (hg:ValidG g):Nr (nearM g):=by
 have k:=hg.cl
 have e:=ZmM g
 refine ⟨by omega,fun a h=>?_⟩
 obtain ⟨v,v0,v1,rfl⟩:=Z2 h
 rw [e] at v1
 have:=ZGr v0 v1
 exact ⟨by omega,fun w j=>by rw [e];exact ((ZvO v0 v1).1 j).1⟩
def nb (es:List Zb) (v:Int):List Int:=es.filterMap fun e=>if e.A=v then some e.B else if e.B=v then some e.A else none
theorem Zqy {es:List Zb} {k:Int} (k0:0<=k) (k1:k<(es.length:Int)) (v:Int):nb (es.take (k+1).toNat) v=nb (es.take k.toNat) v++(if (ix es k).A=v then [(ix es k).B] else if (ix es k).B=v then [(ix es k).A] else []):=by
 unfold nb
 rw [ZaC k0 k1,List.filterMap_append]
 congr 1
 by_cases c:(ix es k).A=v
 ·simp [c]
 ·by_cases d:(ix es k).B=v
  ·simp [c,d]
  ·simp [c,d]
theorem ZoP (es:List Zb) (v:Int):(nb es v).length<=es.length:=List.length_filterMap_le _ _
theorem ZD4 {g:Za} (hg:ValidG g) {v:Int} (v0:0<=v) (v1:v<(g.Colors.length:Int)):sortI (nb g.Edges v)=(idP g.Colors.length).filter fun b=>adj g.Edges v b:=by
 refine ZlT ((ZbY _).trans ?_) (Zmt _) (((Znz _).filter _))
 rw [List.perm_ext_iff_of_nodup]
 ·intro x
  unfold nb
  rw [List.mem_filterMap,List.mem_filter,ZT,Zu2]
  constructor
  ·rintro ⟨e,r,h⟩
   have k:=Zb4 hg r
   by_cases c:e.A=v
   ·rw [if_pos c] at h
    obtain rfl:=Option.some.inj h
    exact ⟨⟨by omega,by omega⟩,e,r,.inl ⟨c,rfl⟩⟩
   ·rw [if_neg c] at h
    by_cases d:e.B=v
    ·rw [if_pos d] at h
     obtain rfl:=Option.some.inj h
     exact ⟨⟨by omega,by omega⟩,e,r,.inr ⟨rfl,d⟩⟩
    ·rw [if_neg d] at h;cases h
  ·rintro ⟨_,e,r,⟨c,d⟩|⟨c,d⟩⟩
   ·exact ⟨e,r,by rw [if_pos c,d]⟩
   ·have k:=Zb4 hg r
    exact ⟨e,r,by rw [if_neg ω,if_pos d,c]⟩
 ·unfold nb List.Nodup
  rw [List.pairwise_filterMap]
  refine (Zwc hg).imp_of_mem fun {a b} ha l w x i y o u=>?_
  have va:=Zb4 hg ha
  have vb:=Zb4 hg l
  subst u
  unfold eLess at w
  by_cases c:a.A=v
  ·rw [if_pos c] at i
   obtain rfl:=Option.some.inj i
   by_cases d:b.A=v
   ·rw [if_pos d] at o;have:=Option.some.inj o;omega
   ·rw [if_neg d] at o
    by_cases f:b.B=v
    ·rw [if_pos f] at o;have:=Option.some.inj o;omega
    ·rw [if_neg f] at o;cases o
  ·rw [if_neg c] at i
   by_cases f:a.B=v
   ·rw [if_pos f] at i
    obtain rfl:=Option.some.inj i
    by_cases d:b.A=v
    ·rw [if_pos d] at o;have:=Option.some.inj o;omega
    ·rw [if_neg d] at o
     by_cases j:b.B=v
     ·rw [if_pos j] at o;have:=Option.some.inj o;omega
     ·rw [if_neg j] at o;cases o
   ·rw [if_neg f] at i;cases i
 ·exact (Zme _).filter _
theorem ZAg {g:Za} (hg:ValidG g):Zkb g=some (nearM g):=by
 unfold Zkb
 have a1:=hg.cl
 have a0:=hg.el
 have y:gMake 24 ([]:List Int) (g.Colors.length:Int) (g.Colors.length:Int)=some (tabl g.Colors.length fun v=>nb (g.Edges.take (0:Int).toNat) v):=by
  rw [Zaw ω ω ω,Int.toNat_natCast]
  congr 1
  refine ZaL (by rw [List.length_replicate,Zm];omega) fun i a f=>?_
  rw [List.length_replicate] at f
  rw [ZcD a ω,ZI a ω]
  rfl
 rw [y,Option.bind_some]
 have h1:=Zl (B:=Zf9 g) (fun k=>(k,tabl g.Colors.length fun v=>nb (g.Edges.take k.toNat) v)) (i:=0) (n:=g.Edges.length) ω fun k k0 k1=>by
  obtain ⟨h,ab,j⟩:=Zb4 hg (Zo k0 k1)
  have s1:(tabl g.Colors.length fun v=>nb (g.Edges.take k.toNat) v).set (ix g.Edges k).A.toNat (nb (g.Edges.take k.toNat) (ix g.Edges k).A++[(ix g.Edges k).B])=tabl g.Colors.length fun v=>if v=(ix g.Edges k).A then nb (g.Edges.take k.toNat) v++[(ix g.Edges k).B] else nb (g.Edges.take k.toNat) v:=
   Zam h ω (fun i a f hi=>by rw [if_neg hi]) (by rw [if_pos rfl])
  have s2:(tabl g.Colors.length fun v=>if v=(ix g.Edges k).A then nb (g.Edges.take k.toNat) v++[(ix g.Edges k).B] else nb (g.Edges.take k.toNat) v).set (ix g.Edges k).B.toNat (nb (g.Edges.take k.toNat) (ix g.Edges k).B++[(ix g.Edges k).A])=tabl g.Colors.length fun v=>nb (g.Edges.take (k+1).toNat) v:=by
   refine Zam ω j (fun i a f hi=>?_) ?_
   ·rw [Zqy k0 k1]
    by_cases c:i=(ix g.Edges k).A
    ·rw [if_pos c,if_pos c.symm]
    ·rw [if_neg c,if_neg fun e=>c e.symm,if_neg fun e=>hi e.symm,List.append_nil]
   ·rw [Zqy k0 k1,if_neg ω,if_pos rfl]
  have x1:ix (tabl (g.Colors.length:Int) fun v=>nb (g.Edges.take k.toNat) v) (ix g.Edges k).A=nb (g.Edges.take k.toNat) (ix g.Edges k).A:=ZI h ω
  have x2:ix (tabl (g.Colors.length:Int) fun v=>if v=(ix g.Edges k).A then nb (g.Edges.take k.toNat) v++[(ix g.Edges k).B] else nb (g.Edges.take k.toNat) v) (ix g.Edges k).B=nb (g.Edges.take k.toNat) (ix g.Edges k).B:=by rw [ZI ω j,if_neg ω]
  have n1:=ZoP (g.Edges.take k.toNat) (ix g.Edges k).A
  have n2:=ZoP (g.Edges.take k.toNat) (ix g.Edges k).B
  rw [List.length_take] at n1 n2
  have l1:(tabl (g.Colors.length:Int) fun v=>nb (g.Edges.take k.toNat) v).length=g.Colors.length:=by rw [Zm];omega
  have l2:(tabl (g.Colors.length:Int) fun v=>if v=(ix g.Edges k).A then nb (g.Edges.take k.toNat) v++[(ix g.Edges k).B] else nb (g.Edges.take k.toNat) v).length=g.Colors.length:=by rw [Zm];omega
  generalize (tabl (g.Colors.length:Int) fun v=>nb (g.Edges.take k.toNat) v)=X at s1 x1 l1 ⊢
  generalize (tabl (g.Colors.length:Int) fun v=>if v=(ix g.Edges k).A then nb (g.Edges.take k.toNat) v++[(ix g.Edges k).B] else nb (g.Edges.take k.toNat) v)=Y at s1 s2 x2 l2
  simp (disch:=omega) only [pz,Zf9,x1,s1,x2,s2]
 rw [h1,Int.toNat_natCast,List.take_length]
 have l0:(tabl (g.Colors.length:Int) fun v=>nb g.Edges v).length=g.Colors.length:=by rw [Zm];omega
 have l:=Zl (B:=Ze9 (tabl g.Colors.length fun v=>nb g.Edges v)) (fun k=>(k,tabl g.Colors.length fun v=>if v<k then (idP g.Colors.length).filter (fun b=>adj g.Edges v b) else nb g.Edges v)) (i:=0) (n:=g.Colors.length) ω fun k k0 k1=>by
  have s1:(tabl g.Colors.length fun v=>if v<k then (idP g.Colors.length).filter (fun b=>adj g.Edges v b) else nb g.Edges v).set k.toNat ((idP g.Colors.length).filter fun b=>adj g.Edges k b)=tabl g.Colors.length fun v=>if v<k+1 then (idP g.Colors.length).filter (fun b=>adj g.Edges v b) else nb g.Edges v:=by
   refine Zam k0 k1 (fun i a f hi=>?_) ?_
   ·by_cases c:i<k
    ·rw [if_pos c,if_pos ω]
    ·rw [if_neg c,if_neg ω]
   ·rw [if_pos ω]
  have x1:ix (tabl (g.Colors.length:Int) fun v=>if v<k then (idP g.Colors.length).filter (fun b=>adj g.Edges v b) else nb g.Edges v) k=nb g.Edges k:=by rw [ZI k0 k1,if_neg ω]
  have u:=ZoP g.Edges k
  have x:=Zl3 (p:=nb g.Edges k) ω
  rw [ZD4 hg k0 k1] at x
  have l1:(tabl (g.Colors.length:Int) fun v=>if v<k then (idP g.Colors.length).filter (fun b=>adj g.Edges v b) else nb g.Edges v).length=g.Colors.length:=by rw [Zm];omega
  generalize (tabl (g.Colors.length:Int) fun v=>if v<k then (idP g.Colors.length).filter (fun b=>adj g.Edges v b) else nb g.Edges v)=X at s1 x1 l1 ⊢
  generalize (tabl (g.Colors.length:Int) fun v=>nb g.Edges v)=Y at l0 ⊢
  simp (disch:=omega) only [pz,Ze9,x1,x,s1]
 have o:(tabl (g.Colors.length:Int) fun v=>nb g.Edges v)=tabl g.Colors.length fun v=>if v<0 then (idP g.Colors.length).filter (fun b=>adj g.Edges v b) else nb g.Edges v:=ZM fun i a f=>by rw [if_neg ω]
 have r:(tabl (g.Colors.length:Int) fun v=>if v<(g.Colors.length:Int) then (idP g.Colors.length).filter (fun b=>adj g.Edges v b) else nb g.Edges v)=nearM g:=ZM fun i a f=>by rw [if_pos f]
 have s:loop (Ze9 (tabl g.Colors.length fun v=>nb g.Edges v)) (0,tabl g.Colors.length fun v=>nb g.Edges v)=some (.inr (nearM g)):=by
  have w:=l
  rw [<-o,r] at w
  rw [w]
  generalize (tabl (g.Colors.length:Int) fun v=>nb g.Edges v)=Y at l0 ⊢
  exact Zc (by simp (disch:=omega) only [pz,Ze9])
 refine Zc ?_
 simp (disch:=omega) only [pz,Zf9,s]
theorem compareE (a b:Zb):Zbb a b=some (eC a b):=by
 unfold Zbb
 simp only [ZsS,or_ok,Option.bind_some]
 rfl
theorem eC_ok:CmpOk eC where
 swo:=by
  have t:∀ x y,ltC eC x y=true↔eLess x y:=fun x y=>by unfold ltC;rw [decide_eq_true_eq,eC_lt]
  have f:∀ x y,ltC eC x y=false↔¬ eLess x y:=fun x y=>by rw [<-t,Bool.not_eq_true]
  exact ⟨fun x=>(f x x).2 (by unfold eLess;omega),fun x y z h k=>(t x z).2 (ZlJ _ _ _ ((t _ _).1 h) ((t _ _).1 k)),fun x y z h k=>(f x z).2 (by
   have h:=(f _ _).1 h
   have k:=(f _ _).1 k
   unfold eLess at *;omega)⟩
 tot:=fun x y h k=>by
  unfold ltC at h k
  simp only [decide_eq_false_iff_not] at h k
  rw [eC_lt] at h k
  unfold eLess at h k
  cases x;cases y
  simp only [Zb.mk.injEq] at *
  omega
def mkE (e:Zb):Zb:=⟨min e.A e.B,max e.A e.B⟩
theorem Zq0 {es:List Zb} (hl:es.length<=1000000):ZfW es=some (srtE (es.map mkE)):=by
 unfold ZfW
 have h1:=Zl (B:=ZfP es) (fun k=>((es.take k.toNat).map mkE,k)) (i:=0) (n:=es.length) ω fun k k0 k1=>by
  have a1:((es.take k.toNat).map mkE).length<=1000000:=by rw [List.length_map,List.length_take];omega
  have hm:((es.take (k+1).toNat).map mkE)=(es.take k.toNat).map mkE++[mkE (ix es k)]:=Zeq k0 k1
  have e:Zb.mk (if (ix es k).B<(ix es k).A then (ix es k).B else (ix es k).A) (if (ix es k).B>(ix es k).A then (ix es k).B else (ix es k).A)=mkE (ix es k):=by
   unfold mkE
   congr 1
   ·by_cases c:(ix es k).B<(ix es k).A
    ·rw [if_pos c];omega
    ·rw [if_neg c];omega
   ·by_cases c:(ix es k).B>(ix es k).A
    ·rw [if_pos c];omega
    ·rw [if_neg c];omega
  rw [hm,<-e]
  simp (disch:=omega) only [pz,ZfP]
 have f:(([]:List Zb),(0:Int))=(fun k:Int=>((es.take k.toNat).map mkE,k)) 0:=rfl
 rw [f,h1,Int.toNat_natCast,List.take_length]
 have hf:(fun a c=>(Zbb a c).getD 0)=eC:=by funext a c;rw [compareE];rfl
 have hs:ZjS (es.map mkE) (fun j l=>Zbb j l)=some (sortC eC (es.map mkE)):=by
  unfold ZjS
  rw [if_pos ⟨⟨eC,compareE,eC_ok⟩,by rw [List.length_map];omega⟩,hf]
 have u:(sortC eC (es.map mkE)).Perm (es.map mkE):=List.mergeSort_perm _ _
 have w:(sortC eC (es.map mkE)).Pairwise fun a b=>¬ eLess b a:=by
  have:=List.pairwise_mergeSort (le:=fun x y=>!ltC eC y x) (fun a b c h k=>by
   simp only [Bool.not_eq_true',ltC,decide_eq_false_iff_not,eC_lt] at *
   unfold eLess at *;omega) (fun a b=>by
   simp only [Bool.or_eq_true,Bool.not_eq_true',ltC,decide_eq_false_iff_not,eC_lt]
   unfold eLess;omega) (es.map mkE)
  refine List.Pairwise.imp (fun {a b} h=>?_) this
  simpa [ltC,eC_lt] using h
 obtain ⟨q,o,q2,p⟩:=cptGL (eqb:=fun (a b:Zb)=>a.A==b.A&&a.B==b.B) (Le:=fun a b=>¬ eLess b a) (R:=eLess) (fun a b=>by
   cases a;cases b
   simp) (fun a b h k=>by
   cases a;cases b
   unfold eLess at *
   simp only [Zb.mk.injEq,ne_eq] at *
   omega) ZlJ w
 have r:ZiZ (sortC eC (es.map mkE))=some (srtE (es.map mkE)):=by
  have s:q=srtE (es.map mkE):=ZmK q2 fun z=>by rw [p,u.mem_iff]
  unfold ZiZ
  rw [if_pos (by rw [u.length_eq,List.length_map];omega),o,s]
 exact Zc (by simp (disch:=omega) only [pz,ZfP,hs,r])
theorem ZuX {g:Za} {p:List Int} (hp:Vc.Perm p g.Colors.length) {k:Int} (k0:0<=k) (k1:k<(g.Colors.length:Int)):
  (tabl g.Colors.length fun i=>if (p.idxOf i:Int)<k then ix g.Colors (p.idxOf i:Int) else 0).set (ix p k).toNat (ix g.Colors k)=tabl g.Colors.length fun i=>if (p.idxOf i:Int)<k+1 then ix g.Colors (p.idxOf i:Int) else 0:=by
 have l:=hp.len
 have h:=hp.rng _ (Zo (xs:=p) k0 ω)
 refine Zam h.1 h.2 (fun i a f hi=>?_) ?_
 ·have j:(p.idxOf i:Int)≠k:=fun e=>hi (by
   have:=(Zie (Zpy hp a f)).2
   rw [e] at this
   exact this.symm)
  by_cases c:(p.idxOf i:Int)<k
  ·rw [if_pos c,if_pos ω]
  ·rw [if_neg c,if_neg ω]
 ·rw [ZD1 hp.nd k0 ω,if_pos ω]
theorem Zsx {g:Za} {p:List Int}:(tabl g.Colors.length fun i=>if (p.idxOf i:Int)<0 then ix g.Colors (p.idxOf i:Int) else 0)=List.replicate g.Colors.length 0:=by
 refine ZaL (by rw [List.length_replicate,Zm];omega) fun i a c=>?_
 rw [Zm] at c
 rw [ZcD a ω,ZI a ω,if_neg ω]
theorem ZtL {g:Za} {p:List Int} (hp:Vc.Perm p g.Colors.length):(tabl g.Colors.length fun i=>if (p.idxOf i:Int)<(g.Colors.length:Int) then ix g.Colors (p.idxOf i:Int) else 0)=colM g p:=by
 have e:=hp.len
 unfold colM
 rw [e]
 refine ZM fun i a c=>?_
 have:=(Zie (Zpy hp a c)).1
 rw [if_pos ω]
def mvE (p:List Int) (e:Zb):Zb:=⟨ix p e.A,ix p e.B⟩
theorem mv_mk (p:List Int) (es:List Zb):(es.map (mvE p)).map mkE=es.map (mapE p):=by rw [List.map_map];rfl
theorem ZC6 {g:Za} (hg:ValidG g) {p:List Int} (hp:Vc.Perm p g.Colors.length):ZfO g p=some (relab g p):=by
 unfold ZfO
 have w:=hg.cl
 have u:=hg.el
 have x:=hp.len
 have j:gMake 8 (0:Int) (g.Colors.length:Int) (g.Colors.length:Int)=some (tabl g.Colors.length fun i=>if (p.idxOf i:Int)<0 then ix g.Colors (p.idxOf i:Int) else 0):=by
  rw [Zaw ω ω ω,Int.toNat_natCast,Zsx]
 rw [j,Option.bind_some]
 have h1:=Zl (B:=ZgN g p) (fun k=>(k,tabl g.Colors.length fun i=>if (p.idxOf i:Int)<k then ix g.Colors (p.idxOf i:Int) else 0)) (i:=0) (n:=g.Colors.length) ω fun k k0 k1=>by
  have hs:=ZuX hp k0 k1
  have y:=hp.rng _ (Zo (xs:=p) k0 ω)
  have r:(tabl (g.Colors.length:Int) fun i=>if (p.idxOf i:Int)<k then ix g.Colors (p.idxOf i:Int) else 0).length=g.Colors.length:=by rw [Zm];omega
  generalize (tabl (g.Colors.length:Int) fun i=>if (p.idxOf i:Int)<k then ix g.Colors (p.idxOf i:Int) else 0)=X at hs r ⊢
  simp (disch:=omega) only [pz,ZgN,hs]
 rw [h1,ZtL hp]
 have a:=Zl (B:=ZeK g p (colM g p)) (fun k=>(k,(g.Edges.take k.toNat).map (mvE p))) (i:=0) (n:=g.Edges.length) ω fun k k0 k1=>by
  have f:=Zb4 hg (Zo k0 k1)
  have o:((g.Edges.take k.toNat).map (mvE p)).length<=512:=by rw [List.length_map,List.length_take];omega
  have l:((g.Edges.take (k+1).toNat).map (mvE p))=(g.Edges.take k.toNat).map (mvE p)++[Zb.mk (ix p (ix g.Edges k).A) (ix p (ix g.Edges k).B)]:=Zeq k0 k1
  simp (disch:=omega) only [pz,ZeK,l]
 have c:((0:Int),([]:List Zb))=(fun k:Int=>(k,(g.Edges.take k.toNat).map (mvE p))) 0:=rfl
 have h:=Zq0 (es:=g.Edges.map (mvE p)) (by rw [List.length_map];omega)
 rw [mv_mk] at h
 have e:loop (ZeK g p (colM g p)) (0,([]:List Zb))=some (.inr (relab g p)):=by
  rw [c,a,Int.toNat_natCast,List.take_length]
  exact Zc (by simp (disch:=omega) only [pz,ZeK,h];rfl)
 exact Zc (by simp (disch:=omega) only [pz,ZgN,e])
def rwE (n:Int) (F:Int->Int->Bool) (a:Int):List Zb:=((idP n).filter fun b=>decide (a<b)&&F a b).map fun b=>⟨a,b⟩
def ofE (n k:Int) (F:Int->Int->Bool):List Zb:=(idP k).flatMap (rwE n F)
theorem Zur (n:Int) (F:Int->Int->Bool) (a:Int):(rwE n F a).length<=n.toNat:=by
 unfold rwE
 rw [List.length_map]
 have:=List.length_filter_le (fun b=>decide (a<b)&&F a b) (idP n)
 rwa [Zai] at this
theorem ZrF {n k:Int} {F:Int->Int->Bool} (h:0<=k):ofE n (k+1) F=ofE n k F++rwE n F k:=by
 unfold ofE idP
 rw [ZW h,List.flatMap_append]
 simp
theorem Zw3 {F:Int->Int->Bool} {a k:Int} (h:0<=k):rwE (k+1) F a=rwE k F a++(if a<k/\F a k=true then [⟨a,k⟩] else []):=by
 unfold rwE idP
 rw [ZW h,List.filter_append,List.map_append]
 by_cases c:a<k/\F a k=true
 ·rw [if_pos c];simp [c.1,c.2]
 ·rw [if_neg c]
  have:(decide (a<k)&&F a k)=false:=by
   rw [Bool.eq_false_iff];intro h;rw [Bool.and_eq_true,decide_eq_true_eq] at h;exact c h
  simp [this]
theorem ZxV {F:Int->Int->Bool} {a:Int} (h:0<=a):rwE (a+1) F a=[]:=by
 unfold rwE
 have:((idP (a+1)).filter fun b=>decide (a<b)&&F a b)=[]:=by
  rw [List.filter_eq_nil_iff]
  intro b c
  have:=ZT.1 c
  simp;omega
 rw [this];rfl
theorem Zy1 {n:Int} {F:Int->Int->Bool} {e:Zb}:e∈ofE n n F↔(0<=e.A/\e.A<n)/\(0<=e.B/\e.B<n)/\e.A<e.B/\F e.A e.B=true:=by
 unfold ofE rwE
 rw [List.mem_flatMap]
 constructor
 ·rintro ⟨a,j,k⟩
  obtain ⟨b,c,rfl⟩:=List.mem_map.1 k
  rw [List.mem_filter,Bool.and_eq_true,decide_eq_true_eq] at c
  exact ⟨ZT.1 j,ZT.1 c.1,c.2.1,c.2.2⟩
 ·rintro ⟨h1,f,h,i⟩
  refine ⟨e.A,ZT.2 h1,List.mem_map.2 ⟨e.B,?_,rfl⟩⟩
  rw [List.mem_filter,Bool.and_eq_true,decide_eq_true_eq]
  exact ⟨ZT.2 f,h,i⟩
theorem Zc0 (n:Int):(idP n).Pairwise (·<·):=by
 have h:=List.Pairwise.and (Znz n) (Zme n)
 exact h.imp fun ⟨a,b⟩=>by omega
theorem ZDh (n:Int) (F:Int->Int->Bool):(ofE n n F).Pairwise eLess:=by
 unfold ofE
 rw [List.pairwise_flatMap]
 refine ⟨fun a k=>?_,(Zc0 n).imp fun {a b} j x c y e=>?_⟩
 ·unfold rwE
  rw [List.pairwise_map]
  exact ((Zc0 n).filter _).imp fun h=>.inr ⟨rfl,h⟩
 ·unfold rwE at c e
  obtain ⟨_,_,rfl⟩:=List.mem_map.1 c
  obtain ⟨_,_,rfl⟩:=List.mem_map.1 e
  exact .inl j
theorem ZBo {cs:List Int} {F:Int->Int->Bool} (w:cs.length<=64):ZhL cs (tb cs.length F)=some ⟨cs,ofE cs.length cs.length F⟩:=by
 unfold ZhL
 rw [Zpc ω,Option.bind_some]
 have hl:=ZkM (cs.length:Int) F
 rw [Int.toNat_natCast] at hl
 obtain ⟨⟨j,y⟩,⟨h1,h,o⟩,p⟩:=ZhV (B:=Zgw cs (tb cs.length F) cs) (fun k q=>q.1=k/\q.2=ofE cs.length k F/\(q.2.length:Int)<=64*k) (i:=0) (n:=cs.length) ω (s:=((0:Int),([]:List Zb))) ⟨rfl,rfl,by simp⟩ fun k q k0 k1 ⟨l,f,r⟩=>by
  obtain ⟨j,y⟩:=q
  dsimp only at l f r
  subst l
  have a1:=ZgT (F:=F) k0 k1
  have a5:=Zl (B:=ZcR cs (tb cs.length F) j) (fun b=>(b,y++rwE b F j)) (i:=j+1) (n:=cs.length) ω fun b x u=>by
   have c:=ZuQ (F:=F) k0 k1 (show 0<=b by omega) u
   have a6:=Zur b F j
   have a0:=Zw3 (F:=F) (a:=j) (k:=b) ω
   have a4:(y++rwE b F j).length<=10000:=by rw [List.length_append];omega
   cases e:F j b with
   | true=>
    rw [e] at c
    rw [if_pos ⟨by omega,e⟩] at a0
    generalize tb (cs.length:Int) F=X at c hl a1 ⊢
    rw [a0,<-List.append_assoc]
    generalize y++rwE b F j=Y at a4 ⊢
    simp (disch:=omega) only [pz,ZcR,c]
   | false=>
    rw [e] at c
    rw [if_neg (by simp [e]),List.append_nil] at a0
    generalize tb (cs.length:Int) F=X at c hl a1 ⊢
    rw [a0]
    simp (disch:=omega) only [pz,ZcR,c]
  have v:(j+1,y)=(fun b=>(b,y++rwE b F j)) (j+1):=by
   show _=(_,_++_)
   rw [ZxV k0,List.append_nil]
  have a3:loop (ZcR cs (tb cs.length F) j) (j+1,y)=some (.inl (j+1,ofE cs.length (j+1) F)):=by
   rw [v,a5]
   refine Zc ?_
   rw [ZrF k0,<-f]
   simp (disch:=omega) only [pz,ZcR]
  refine ⟨(j+1,ofE cs.length (j+1) F),by simp (disch:=omega) only [pz,Zgw,a3],rfl,rfl,?_⟩
  dsimp only
  rw [ZrF k0,<-f,List.length_append]
  have:=Zur (cs.length:Int) F j
  omega
 dsimp only at h1 h o
 rw [p]
 subst h1
 rw [h]
 exact Zc (by simp (disch:=omega) only [pz,Zgw])
theorem ZC5 {g:Za} (hg:ValidG g) {p:List Int} (hp:Vc.Perm p g.Colors.length):Zg9 g p=some (relab g p):=by
 unfold Zg9
 have a8:=hg.cl
 have a7:=hg.el
 have hl:=hp.len
 have a2:gMake 8 (0:Int) (p.length:Int) (p.length:Int)=some (tabl g.Colors.length fun i=>if (p.idxOf i:Int)<0 then ix g.Colors (p.idxOf i:Int) else 0):=by
  rw [Zaw ω ω ω,Int.toNat_natCast,Zsx]
  congr 2;omega
 rw [a2,Option.bind_some]
 have h1:=Zl (B:=ZgQ g p) (fun k=>(k,tabl g.Colors.length fun i=>if (p.idxOf i:Int)<k then ix g.Colors (p.idxOf i:Int) else 0)) (i:=0) (n:=g.Colors.length) ω fun k k0 k1=>by
  have hs:=ZuX hp k0 k1
  have hr:=hp.rng _ (Zo (xs:=p) k0 ω)
  have hX:(tabl (g.Colors.length:Int) fun i=>if (p.idxOf i:Int)<k then ix g.Colors (p.idxOf i:Int) else 0).length=g.Colors.length:=by rw [Zm];omega
  generalize (tabl (g.Colors.length:Int) fun i=>if (p.idxOf i:Int)<k then ix g.Colors (p.idxOf i:Int) else 0)=X at hs hX ⊢
  simp (disch:=omega) only [pz,ZgQ,hs]
 rw [h1,ZtL hp]
 have a0:(colM g p).length=g.Colors.length:=by rw [Zrc];omega
 have x:=ZqT (g:=⟨colM g p,[]⟩) (by show (colM g p).length<=64;omega) (by simp) (fun e he=>by simp at he)
 have x:Ze1 ⟨colM g p,[]⟩=some (tb g.Colors.length (adj ((g.Edges.take (0:Int).toNat).map (mvE p)))):=by
  rw [x]
  show some (tb ((colM g p).length:Int) (adj []))=_
  rw [a0];rfl
 have r:=Zl (B:=ZeS g p (colM g p)) (fun k=>(k,tb g.Colors.length (adj ((g.Edges.take k.toNat).map (mvE p))))) (i:=0) (n:=g.Edges.length) ω fun k k0 k1=>by
  have s:=Zb4 hg (Zo k0 k1)
  obtain ⟨x0,x1⟩:=hp.rng _ (Zo (xs:=p) (i:=(ix g.Edges k).A) ω ω)
  obtain ⟨f,j⟩:=hp.rng _ (Zo (xs:=p) (i:=(ix g.Edges k).B) ω ω)
  have hs:=Zta (F:=adj ((g.Edges.take k.toNat).map (mvE p))) x0 x1 f j
  have ht:(tb (g.Colors.length:Int) fun a b=>adj ((g.Edges.take k.toNat).map (mvE p)) a b||((ix p (ix g.Edges k).A==a&&ix p (ix g.Edges k).B==b)||(ix p (ix g.Edges k).A==b&&ix p (ix g.Edges k).B==a)))=tb g.Colors.length (adj ((g.Edges.take (k+1).toNat).map (mvE p))):=Zn6 fun a b _ _ _ _=>by
   rw [Zeq k0 k1]
   unfold adj
   rw [List.any_append]
   simp [mvE]
  rw [ht] at hs
  have o:=ZkO (F:=adj ((g.Edges.take k.toNat).map (mvE p))) x0 x1 f j
  have l1:=ZkM (g.Colors.length:Int) (adj ((g.Edges.take k.toNat).map (mvE p)))
  have l2:=ZgT (F:=adj ((g.Edges.take k.toNat).map (mvE p))) x0 x1
  have u:(ix ((tb (g.Colors.length:Int) (adj ((g.Edges.take k.toNat).map (mvE p)))).set (ix p (ix g.Edges k).A).toNat ((ix (tb (g.Colors.length:Int) (adj ((g.Edges.take k.toNat).map (mvE p)))) (ix p (ix g.Edges k).A)).set (ix p (ix g.Edges k).B).toNat true)) (ix p (ix g.Edges k).B)).length=g.Colors.length:=by rw [o,ZgT f j];omega
  generalize tb (g.Colors.length:Int) (adj ((g.Edges.take k.toNat).map (mvE p)))=X at hs l1 l2 u ⊢
  have v:(X.set (ix p (ix g.Edges k).A).toNat ((ix X (ix p (ix g.Edges k).A)).set (ix p (ix g.Edges k).B).toNat true)).length=g.Colors.length:=by rw [List.length_set];omega
  simp (disch:=omega) only [pz,ZeS]
  rw [hs]
 have y:=ZBo (cs:=colM g p) (F:=adj (g.Edges.map (mvE p))) ω
 rw [a0] at y
 have hE:ofE (g.Colors.length:Int) g.Colors.length (adj (g.Edges.map (mvE p)))=srtE (g.Edges.map (mapE p)):=by
  refine ZmK (ZDh _ _) fun z=>?_
  rw [Zy1,Zu2,List.mem_map]
  constructor
  ·rintro ⟨_,_,l,e,he,h⟩
   obtain ⟨d,c,rfl⟩:=List.mem_map.1 he
   refine ⟨d,c,?_⟩
   unfold mapE
   have h:(ix p d.A=z.A/\ix p d.B=z.B)\/(ix p d.A=z.B/\ix p d.B=z.A):=h
   cases z
   simp only [Zb.mk.injEq]
   dsimp only at h l
   omega
  ·rintro ⟨d,c,rfl⟩
   have s:=Zb4 hg c
   have w:=hp.rng _ (Zo (xs:=p) (i:=d.A) ω ω)
   have r2:=hp.rng _ (Zo (xs:=p) (i:=d.B) ω ω)
   have a6:ix p d.A≠ix p d.B:=fun h=>by have:=ZmC hp.nd ω ω ω ω h;omega
   unfold mapE
   refine ⟨by dsimp only;omega,by dsimp only;omega,by dsimp only;omega,mvE p d,List.mem_map_of_mem c,?_⟩
   show (ix p d.A=min _ _/\ix p d.B=max _ _)\/(ix p d.A=max _ _/\ix p d.B=min _ _)
   omega
 rw [hE] at y
 have l:loop (ZeS g p (colM g p)) (0,tb g.Colors.length (adj ((g.Edges.take (0:Int).toNat).map (mvE p))))=some (.inr (relab g p)):=by
  rw [r,Int.toNat_natCast,List.take_length]
  exact Zc (by simp (disch:=omega) only [pz,ZeS,y];rfl)
 exact Zc (by simp (disch:=omega) only [pz,ZgQ,x,l])
theorem Zrq {es:List Zb} {k:Int} (k0:0<=k) (k1:k<(es.length:Int)):flatE (es.take (k+1).toNat)=flatE (es.take k.toNat)++[(ix es k).A,(ix es k).B]:=by
 unfold flatE
 rw [ZaC k0 k1,List.flatMap_append]
 simp
theorem Zgh (es:List Zb):(flatE es).length=2*es.length:=by
 induction es with
 | nil=>rfl
 | cons e es a=>unfold flatE at *;rw [List.flatMap_cons,List.length_append,a];simp;omega
theorem ZsQ {g:Za} (j:g.Edges.length<=1000000):ZfQ g=some (flatE g.Edges):=by
 unfold ZfQ
 have h1:=Zl (B:=Zhs g) (fun k=>(flatE (g.Edges.take k.toNat),k)) (i:=0) (n:=g.Edges.length) ω fun k k0 k1=>by
  have h:=Zgh (g.Edges.take k.toNat)
  rw [List.length_take] at h
  have e:gApp 8 (flatE (g.Edges.take k.toNat)) [(ix g.Edges k).A,(ix g.Edges k).B]=some (flatE (g.Edges.take (k+1).toNat)):=by
   rw [ZaW (by simp;omega) (by simp;omega),Zrq k0 k1]
  simp (disch:=omega) only [pz,Zhs,e]
 have a:(([]:List Int),(0:Int))=(fun k:Int=>(flatE (g.Edges.take k.toNat),k)) 0:=rfl
 rw [a,h1,Int.toNat_natCast,List.take_length]
 exact Zc (by simp (disch:=omega) only [pz,Zhs])
theorem Ztr {es:List Zb} (j:es.length<=1000000):ZfI es=some (flatE es):=by
 unfold ZfI
 have h1:=Zl (B:=Zfl es) (fun k=>(flatE (es.take k.toNat),k)) (i:=0) (n:=es.length) ω fun k k0 k1=>by
  have h:=Zgh (es.take k.toNat)
  rw [List.length_take] at h
  have e:gApp 8 (flatE (es.take k.toNat)) [(ix es k).A,(ix es k).B]=some (flatE (es.take (k+1).toNat)):=by
   rw [ZaW (by simp;omega) (by simp;omega),Zrq k0 k1]
  simp (disch:=omega) only [pz,Zfl,e]
 have a:(([]:List Int),(0:Int))=(fun k:Int=>(flatE (es.take k.toNat),k)) 0:=rfl
 rw [a,h1,Int.toNat_natCast,List.take_length]
 exact Zc (by simp (disch:=omega) only [pz,Zfl])
theorem ZGO {g h:Za} (j:g.Colors.length<=1000000) (h1:g.Edges.length<=1000000) (e:h.Edges.length<=1000000):Zgp g h=some (cmpG g h):=by
 unfold Zgp cmpG
 have f:Za.mk g.Colors g.Edges=g:=rfl
 have i:Za.mk h.Colors h.Edges=h:=rfl
 have c1:=Zb7 (a:=g.Colors) (b:=h.Colors) ω
 have k:=Zgh g.Edges
 have c2:=Zb7 (a:=flatE g.Edges) (b:=flatE h.Edges) ω
 have k1:=ZsQ (g:=g) h1
 have k2:=ZsQ (g:=h) e
 by_cases c:cmpL g.Colors h.Colors=0
 ·rw [if_pos c];simp (disch:=omega) only [pz,c1,f,i,k1,k2,c2]
 ·rw [if_neg c];simp (disch:=omega) only [pz,c1]
theorem ZDQ {g h:Za} (f:g.Colors.length<=1000000) (h1:g.Edges.length<=1000000) (e:h.Edges.length<=1000000):Zg1 g h=some (cmpG g h):=by
 unfold Zg1 cmpG
 have c1:=Zbt (a:=g.Colors) (b:=h.Colors) ω
 have i:=Zgh g.Edges
 have c2:=Zbt (a:=flatE g.Edges) (b:=flatE h.Edges) ω
 have k1:=Ztr (es:=g.Edges) h1
 have k2:=Ztr (es:=h.Edges) e
 by_cases c:cmpL g.Colors h.Colors=0
 ·rw [if_pos c];simp (disch:=omega) only [pz,c1,k1,k2,c2]
 ·rw [if_neg c];simp (disch:=omega) only [pz,c1]
def spS (g:Za) (near:List (List Int)) (B:Int) (s:CSt):ZE:=⟨g,near,s.best,s.perms,s.nodes,s.leaves,B,s.full⟩
def ipS (g:Za) (near:List (List Int)) (B:Int) (s:CSt):Zv:=⟨⟨B-s.nodes,s.full⟩,g,near,s.nodes,s.leaves,s.best,s.perms⟩
theorem Zle {g:Za} {p:List Int} {s:CSt} (h:s.perms=[]\/cmpG (relab g p) s.best<0):leafM g p s=⟨relab g p,[p],s.nodes,s.leaves+1,s.full⟩:=by
 unfold leafM
 dsimp only
 have a:(if s.perms=[] then (-1:Int) else cmpG (relab g p) s.best)<0:=by
  by_cases c:s.perms=[]
  ·rw [if_pos c];omega
  ·rw [if_neg c];exact h.resolve_left c
 rw [if_pos a,if_pos a]
theorem Zsf {g:Za} {p:List Int} {s:CSt} (h:s.perms≠[]) (a:cmpG (relab g p) s.best=0):leafM g p s=⟨s.best,s.perms++[p],s.nodes,s.leaves+1,s.full⟩:=by
 unfold leafM
 dsimp only
 rw [if_neg h,a]
 simp
theorem ZpQ {g:Za} {p:List Int} {s:CSt} (h:s.perms≠[]) (a:0<cmpG (relab g p) s.best):leafM g p s=⟨s.best,s.perms,s.nodes,s.leaves+1,s.full⟩:=by
 unfold leafM
 dsimp only
 rw [if_neg h,if_neg ω,if_neg ω,if_neg ω]
theorem Zqx {g:Za} (hg:ValidG g) {s:CSt} (a:Bst g s) (h:s.perms≠[]):s.best.Edges.length<=512:=by
 obtain ⟨p,hp,e⟩:=a h
 rw [e]
 have:=(ZlV hg hp).el
 omega
section
variable {g:Za} {B:Int} (hg:ValidG g) (hB:B<=20000)
include hg hB
theorem Zxo {rf:ZE->List Int->Option ZE} {cells:List Int} {s:CSt} {K:Int} (hp:Vc.Perm cells g.Colors.length) (ht:tgt cells<0) (hK:K<=1000) (hi:CInv B K s) (i:Bst g s):
  q_spec_l22Find_run rf (spS g (nearM g) B s) cells=some (spS g (nearM g) B (leafM g cells s)):=by
 have a7:=hg.cl
 have a6:=hg.el
 have hl:=hp.len
 have k:=hi.le
 have l:=hi.pl
 have o:=hi.nB
 have r:=hi.n0
 have y:=ZsH (cells:=cells) ω (fun x j=>(hp.rng x j).1)
 have hr:Zg9 (Za.mk g.Colors g.Edges) cells=some (relab g cells):=ZC5 hg hp
 have e:=ZlV hg hp
 have a5:=e.cl
 have a3:=e.el
 have w:=Zpc (p:=cells) ω
 unfold q_spec_l22Find_run spS
 dsimp only
 by_cases u:s.perms=[]
 ·rw [Zle (.inl u)]
  have f:(s.perms.length:Int)=0:=by rw [u];rfl
  have a0:gApp 24 ([]:List (List Int)) [cells]=some [cells]:=rfl
  simp (disch:=omega) only [pz,y,hr,Zdi,Zdv,w,a0]
 ·have f:0<s.perms.length:=List.length_pos_iff.2 u
  have a4:=Zqx hg i u
  have a:Zgp (Za.mk (relab g cells).Colors (relab g cells).Edges) (Za.mk s.best.Colors s.best.Edges)=some (cmpG (relab g cells) s.best):=ZGO (g:=relab g cells) (h:=s.best) ω ω ω
  have a0:gApp 24 ([]:List (List Int)) [cells]=some [cells]:=rfl
  rcases Int.lt_trichotomy (cmpG (relab g cells) s.best) 0 with c|c|c
  ·rw [Zle (.inr c)]
   simp (disch:=omega) only [pz,y,hr,Zdi,Zdv,w,a,a0]
  ·rw [Zsf u c]
   simp (disch:=omega) only [pz,y,hr,Zdi,Zdv,w,a,c]
  ·rw [ZpQ u c]
   simp (disch:=omega) only [pz,y,hr,Zdi,Zdv,w,a]
theorem ZG1 {cells:List Int} {s:CSt} {K:Int} (hp:Vc.Perm cells g.Colors.length) (hK:K<=1000) (hi:CInv B K s) (i:Bst g s):
  Zfc (ipS g (nearM g) B s) cells=some (ipS g (nearM g) B (leafM g cells s)):=by
 have a2:=hg.cl
 have a1:=hg.el
 have hl:=hp.len
 have j:=hi.le
 have k:=hi.pl
 have l:=hi.nB
 have o:=hi.n0
 have w:ZfO (Za.mk g.Colors g.Edges) cells=some (relab g cells):=ZC6 hg hp
 have e:=ZlV hg hp
 have a0:=e.cl
 have x:=e.el
 unfold Zfc ipS
 dsimp only
 by_cases r:s.perms=[]
 ·rw [Zle (.inl r)]
  have f:(s.perms.length:Int)=0:=by rw [r];rfl
  have u:gApp 24 ([]:List (List Int)) [cells]=some [cells]:=rfl
  simp (disch:=omega) only [pz,w,Zdw,Zc6,u]
 ·have f:0<s.perms.length:=List.length_pos_iff.2 r
  have y:=Zqx hg i r
  have a:Zg1 (Za.mk (relab g cells).Colors (relab g cells).Edges) (Za.mk s.best.Colors s.best.Edges)=some (cmpG (relab g cells) s.best):=ZDQ (g:=relab g cells) (h:=s.best) ω ω ω
  have u:gApp 24 ([]:List (List Int)) [cells]=some [cells]:=rfl
  rcases Int.lt_trichotomy (cmpG (relab g cells) s.best) 0 with c|c|c
  ·rw [Zle (.inr c)]
   simp (disch:=omega) only [pz,w,Zdw,Zc6,a,u]
  ·rw [Zsf r c]
   simp (disch:=omega) only [pz,w,Zdw,Zc6,a,c]
  ·rw [ZpQ r c]
   simp (disch:=omega) only [pz,w,Zdw,Zc6,a]
end
theorem ZiO {g:Za} {near:List (List Int)} {B:Int} {d:Nat} {cells:List Int}:∀ (vs:List Int) {s:CSt},s.full=true->vs.foldl (stepM g near B d cells) s=s
 | [],s,_=>rfl
 | v::vs,s,h=>by
  rw [List.foldl_cons]
  have:stepM g near B d cells s v=s:=by unfold stepM;rw [if_pos h]
  rw [this,ZiO vs h]
theorem Zsy {g:Za} {near:List (List Int)} {B:Int} {d:Nat} {cells:List Int} {s:CSt} {v:Int} (h:s.nodes=B):stepM g near B d cells s v={ s with full:=true }:=by
 unfold stepM
 by_cases a:s.full=true
 ·rw [if_pos a]
  cases s
  dsimp only at a
  rw [a]
 ·rw [if_neg a,if_pos h]
theorem ZrU {g:Za} {near:List (List Int)} {B:Int} {d:Nat} {cells:List Int} {s:CSt} {v:Int} (h:¬ s.nodes=B) (a:s.full=false):stepM g near B d cells s v=srch g near B d (refN near (sgl cells v)) { s with nodes:=s.nodes+1 }:=by
 unfold stepM
 rw [if_neg (by rw [a];simp),if_neg h]
theorem ZEY {n:Nat} {cells:List Int} {t k:Int} (k0:0<=k) (k1:k<(n:Int)):((idP (n:Int)).drop k.toNat).filter (fun v=>ix cells v==t)=(if ix cells k=t then [k] else [])++((idP (n:Int)).drop (k+1).toNat).filter (fun v=>ix cells v==t):=by
 rw [ZaQ k0 (by rw [Zai];omega),Zc5 k0 k1,List.filter_cons]
 by_cases c:ix cells k=t
 ·rw [if_pos c,if_pos (by simpa using c)];rfl
 ·rw [if_neg c,if_neg (by simpa using c)];rfl
section
variable {g:Za} {B:Int} (hg:ValidG g) (hB:B<=20000)
include hg hB
theorem Zs3:∀ (d m:Nat) (cells:List Int) (s:CSt) (K:Int),d<=m->Cel (nearM g).length cells->(nearM g).length<d+cnt cells->K<=1000->CInv B K s->Bst g s ->
  pn_spec_l22Find_run m (spS g (nearM g) B s) cells=some (spS g (nearM g) B (srch g (nearM g) B d cells s))
 | 0,m,cells,s,K,hm,r,hd,hK,hi,p=>by have:=Zel cells;have:=r.len;omega
 | d+1,m,cells,s,K,hm,r,hd,hK,hi,p=>by
  obtain ⟨m',rfl⟩:∃ m',m=m'+1:=⟨m-1,by omega⟩
  have hN:=ZmZ hg
  have hn:=hN.n
  have ah:=ZmM g
  have ai:=r.len
  show q_spec_l22Find_run (pn_spec_l22Find_run m') _ _=_
  rw [ZmJ]
  have y:∀ x∈cells,0<=x:=fun x hx=>(r.rng x hx).1
  by_cases ht:tgt cells<0
  ·rw [if_pos ht]
   have aw:cells.Nodup:=by
    rcases Zdk y with ⟨_,h⟩|⟨h,_⟩
    ·exact h
    ·omega
   have hp:Vc.Perm cells g.Colors.length:=by rw [<-ah];exact r.perm aw
   exact Zxo hg hB hp ht hK hi p
  ·rw [if_neg ht]
   have ax:=ZsH (cells:=cells) ω y
   have ar:∀ j,0<=j->j<(cells.length:Int)->0<=ix cells j/\ix cells j<64:=fun j a b=>by
    have:=r.rng _ (Zo a b)
    omega
   have am:∀ (u:Nat) (k:Int) (s:CSt),k+u=(cells.length:Int)->0<=k->CInv B K s->Bst g s->∀ (f:ZE),f.qg=g->f.qnear=nearM g ->
     loop (Zbp (pn_spec_l22Find_run m') f cells (tgt cells)) (k,s.nodes,s.leaves,B,s.full,s.best.Colors,s.best.Edges,s.perms)=some (spS g (nearM g) B ((((idP (cells.length:Int)).drop k.toNat).filter (fun v=>ix cells v==tgt cells)).foldl (stepM g (nearM g) B d cells) s)):=by
    intro u
    induction u with
    | zero=>
     intro k s hk k0 hi p f l o
     obtain rfl:k=(cells.length:Int):=ω
     have e:(idP (cells.length:Int)).drop ((cells.length:Int)).toNat=[]:=List.drop_eq_nil_of_le (by rw [Zai];omega)
     rw [e]
     refine Zc ?_
     unfold Zbp
     dsimp only
     rw [l,o]
     simp (disch:=omega) only [pz,]
     rfl
    | succ u ih=>
     intro k s hk k0 hi p f l o
     have a0:k<(cells.length:Int):=ω
     have a4:=ZEY (n:=cells.length) (cells:=cells) (t:=tgt cells) k0 a0
     have i1:=hi.le
     have i2:=hi.pl
     have i3:=hi.nB
     have i4:=hi.n0
     by_cases aa:ix cells k=tgt cells
     ·rw [if_pos aa] at a4
      rw [a4,List.singleton_append,List.foldl_cons]
      by_cases ag:s.nodes=B
      ·rw [Zsy ag,ZiO _ rfl]
       refine Zc ?_
       unfold Zbp ZeW
       dsimp only
       rw [l,o]
       simp (disch:=omega) only [pz,]
       rfl
      ·cases hf:s.full with
       | true=>
        have ak:stepM g (nearM g) B d cells s k=s:=by unfold stepM;rw [if_pos hf]
        rw [ak,ZiO _ hf]
        refine Zc ?_
        unfold Zbp ZeW
        dsimp only
        rw [l,o]
        simp (disch:=omega) only [pz,]
        unfold spS
        rw [hf]
       | false=>
        rw [ZrU ag hf]
        have av:k∈vts cells (tgt cells):=Zkx.2 ⟨⟨k0,a0⟩,aa⟩
        have az:=r.more ht av
        have af:=ZjR cells k
        have a9:Cel (nearM g).length (refN (nearM g) (sgl cells k)):=Cel.ref (by rw [af,ai])
        have a1:CInv B (K-1) { s with nodes:=s.nodes+1 }:=⟨by show s.leaves<=s.nodes+1+(K-1);omega,i2,by show 0<=s.nodes+1;omega,by show s.nodes+1<=B;omega⟩
        have a8:=Zs3 d m' (refN (nearM g) (sgl cells k)) { s with nodes:=s.nodes+1 } (K-1) ω a9 ω ω a1 p
        have a3:=Zpq g (nearM g) B d (refN (nearM g) (sgl cells k)) _ _ a1
        rw [show K-1+1=K by omega] at a3
        have ab:=(ZmP ah B d (refN (nearM g) (sgl cells k)) { s with nodes:=s.nodes+1 } a9 ω p).1
        generalize srch g (nearM g) B d (refN (nearM g) (sgl cells k)) { s with nodes:=s.nodes+1 }=s1 at a8 a3 ab ⊢
        have ao:=Zl (B:=ZcB (pn_spec_l22Find_run m') f cells k s.nodes s.leaves B s.best.Colors s.best.Edges s.perms s.full) (fun j=>(tabl j fun w=>if w=k then 2*ix cells w else 2*ix cells w+1,j)) (i:=0) (n:=cells.length) ω fun j j0 j1=>by
         obtain ⟨x0,x1⟩:=ar j j0 j1
         have a7:(tabl j fun w=>if w=k then 2*ix cells w else 2*ix cells w+1).length<=64:=by rw [Zm];omega
         have a6:(tabl (j+1) fun w=>if w=k then 2*ix cells w else 2*ix cells w+1)=_:=ZW j0
         by_cases c:j=k
         ·rw [if_pos c] at a6
          have hw:2*ix cells j+1-1=2*ix cells j:=ω
          rw [a6]
          generalize (tabl j fun w=>if w=k then 2*ix cells w else 2*ix cells w+1)=X at a7 ⊢
          simp (disch:=omega) only [pz,ZcB,Zhp,hw]
         ·rw [if_neg c] at a6
          rw [a6]
          generalize (tabl j fun w=>if w=k then 2*ix cells w else 2*ix cells w+1)=X at a7 ⊢
          simp (disch:=omega) only [pz,ZcB,Zhp]
        have e0:(([]:List Int),(0:Int))=(fun j:Int=>(tabl j fun w=>if w=k then 2*ix cells w else 2*ix cells w+1,j)) 0:=rfl
        have ap:=Zt9 (c:=sgl cells k) hN (by rw [af,ai])
        have aj:loop (ZcB (pn_spec_l22Find_run m') f cells k s.nodes s.leaves B s.best.Colors s.best.Edges s.perms s.full) (([]:List Int),0)=some (.inl (k+1,s1.nodes,s1.leaves,B,s1.full,s1.best.Colors,s1.best.Edges,s1.perms)):=by
         rw [e0,ao]
         refine Zc ?_
         show ZcB _ _ _ _ _ _ _ _ _ _ _ (sgl cells k,(cells.length:Int))=_
         have ad:pn_spec_l22Find_run m' (ZE.mk (Za.mk g.Colors g.Edges) (nearM g) (Za.mk s.best.Colors s.best.Edges) s.perms (s.nodes+1) s.leaves B s.full) (refN (nearM g) (sgl cells k))=some (spS g (nearM g) B s1):=a8
         unfold ZcB
         dsimp only
         rw [l,o]
         simp (disch:=omega) only [pz,ap,ad]
         rfl
        have ac:Zbp (pn_spec_l22Find_run m') f cells (tgt cells) (k,s.nodes,s.leaves,B,s.full,s.best.Colors,s.best.Edges,s.perms)=some (.inl (k+1,s1.nodes,s1.leaves,B,s1.full,s1.best.Colors,s1.best.Edges,s1.perms)):=by
         have a5:=aj
         rw [hf] at a5
         unfold Zbp ZeW
         dsimp only
         simp (disch:=omega) only [pz,a5,hf]
        rw [<-hf,ZG ac]
        exact ih (k+1) s1 ω ω a3 ab f l o
     ·rw [if_neg aa,List.nil_append] at a4
      rw [a4]
      have ac:Zbp (pn_spec_l22Find_run m') f cells (tgt cells) (k,s.nodes,s.leaves,B,s.full,s.best.Colors,s.best.Edges,s.perms)=some (.inl (k+1,s.nodes,s.leaves,B,s.full,s.best.Colors,s.best.Edges,s.perms)):=by
       unfold Zbp
       dsimp only
       simp (disch:=omega) only [pz,]
      rw [ZG ac]
      exact ih (k+1) s ω ω hi p f l o
   have:=am cells.length 0 s ω ω hi p (spS g (nearM g) B s) rfl rfl
   unfold q_spec_l22Find_run
   rw [ax,Option.bind_some,dec_f ω]
   exact this
theorem Zs5:∀ (d m:Nat) (cells:List Int) (s:CSt) (K:Int),d<=m->Cel (nearM g).length cells->(nearM g).length<d+cnt cells->K<=1000->CInv B K s->Bst g s ->
  pn_impl_explorer_search m (ipS g (nearM g) B s) cells=some (ipS g (nearM g) B (srch g (nearM g) B d cells s))
 | 0,m,cells,s,K,hm,p,hd,hK,hi,r=>by have:=Zel cells;have:=p.len;omega
 | d+1,m,cells,s,K,hm,p,hd,hK,hi,r=>by
  obtain ⟨m',rfl⟩:∃ m',m=m'+1:=⟨m-1,by omega⟩
  have hN:=ZmZ hg
  have hn:=hN.n
  have ag:=ZmM g
  have ak:=p.len
  show q_impl_explorer_search (pn_impl_explorer_search m') _ _=_
  rw [ZmJ]
  have a1:∀ x∈cells,0<=x:=fun x hx=>(p.rng x hx).1
  have a4:=ZHD (cells:=cells) ω (fun x hx=>by have:=p.rng x hx;omega)
  by_cases ht:tgt cells<0
  ·rw [if_pos ht] at a4 ⊢
   have b8:cells.Nodup:=by
    rcases Zdk a1 with ⟨_,h⟩|⟨h,_⟩
    ·exact h
    ·omega
   have hp:Vc.Perm cells g.Colors.length:=by rw [<-ag];exact p.perm b8
   have aq:=ZG1 hg hB hp hK hi r
   have an:Zfc (Zv.mk (Zae.mk (B-s.nodes) s.full) (Za.mk g.Colors g.Edges) (nearM g) s.nodes s.leaves (Za.mk s.best.Colors s.best.Edges) s.perms) cells=some (ipS g (nearM g) B (leafM g cells s)):=aq
   unfold q_impl_explorer_search
   rw [a4]
   show (Zfc _ cells).bind _=_
   unfold ipS
   dsimp only
   rw [an]
   rfl
  ·rw [if_neg ht] at a4 ⊢
   have ai:∀ j,0<=j->j<(cells.length:Int)->0<=ix cells j/\ix cells j<64:=fun j a b=>by
    have:=p.rng _ (Zo a b)
    omega
   have ax:(vts cells (tgt cells)).length<=64:=by
    have:=List.length_filter_le (fun v=>ix cells v==tgt cells) (idP (cells.length:Int))
    rw [Zai] at this
    unfold vts
    omega
   have b6:(vts cells (tgt cells)).length≠0:=fun e=>Zu5 a1 ht (List.length_eq_zero_iff.1 e)
   have a6:∀ v∈vts cells (tgt cells),v∈vts cells (tgt cells):=fun v h=>h
   generalize hV:vts cells (tgt cells)=V at a4 ax b6 a6 ⊢
   have a6:∀ v∈V,v∈vts cells (tgt cells):=by rw [hV];exact a6
   have b5:∀ (y:Nat) (k:Int) (s:CSt),k+y=(V.length:Int)->0<=k->CInv B K s->Bst g s->∀ (o:Zv),o.qgraph=g->o.qlists=nearM g ->
     loop (Zcv (pn_impl_explorer_search m') o cells V) (k,B-s.nodes,s.full,s.nodes,s.leaves,s.best.Colors,s.best.Edges,s.perms)=some (ipS g (nearM g) B ((V.drop k.toNat).foldl (stepM g (nearM g) B d cells) s)):=by
    intro y
    induction y with
    | zero=>
     intro k s hk k0 hi r o f l
     obtain rfl:k=(V.length:Int):=ω
     have e:V.drop ((V.length:Int)).toNat=[]:=List.drop_eq_nil_of_le ω
     rw [e]
     refine Zc ?_
     unfold Zcv
     dsimp only
     rw [f,l]
     simp (disch:=omega) only [pz,]
     rfl
    | succ y ih=>
     intro k s hk k0 hi r o f l
     have a2:k<(V.length:Int):=ω
     have u:=hi.le
     have i2:=hi.pl
     have i3:=hi.nB
     have i4:=hi.n0
     rw [ZaQ k0 a2,List.foldl_cons]
     have ac:=a6 _ (Zo k0 a2)
     generalize hv:ix V k=v at ac ⊢
     obtain ⟨⟨v0,v1⟩,_⟩:=Zkx.1 ac
     cases hf:s.full with
     | true=>
      have az:stepM g (nearM g) B d cells s v=s:=by unfold stepM;rw [if_pos hf]
      rw [az,ZiO _ hf]
      refine Zc ?_
      unfold Zcv
      dsimp only
      rw [f,l]
      simp (disch:=omega) only [pz,]
      unfold ipS
      rw [hf]
     | false=>
      by_cases aj:s.nodes=B
      ·rw [Zsy aj,ZiO _ rfl]
       refine Zc ?_
       unfold Zcv ZhI
       dsimp only
       rw [f,l]
       simp (disch:=omega) only [pz,]
       rfl
      ·rw [ZrU aj hf]
       have b9:=p.more ht ac
       have ah:=ZjR cells v
       have a8:Cel (nearM g).length (refN (nearM g) (sgl cells v)):=Cel.ref (by rw [ah,ak])
       have a3:CInv B (K-1) { s with nodes:=s.nodes+1 }:=⟨by show s.leaves<=s.nodes+1+(K-1);omega,i2,by show 0<=s.nodes+1;omega,by show s.nodes+1<=B;omega⟩
       have a7:=Zs5 d m' (refN (nearM g) (sgl cells v)) { s with nodes:=s.nodes+1 } (K-1) ω a8 ω ω a3 r
       have a5:=Zpq g (nearM g) B d (refN (nearM g) (sgl cells v)) _ _ a3
       rw [show K-1+1=K by omega] at a5
       have a9:=(ZmP ag B d (refN (nearM g) (sgl cells v)) { s with nodes:=s.nodes+1 } a8 ω r).1
       generalize srch g (nearM g) B d (refN (nearM g) (sgl cells v)) { s with nodes:=s.nodes+1 }=s1 at a7 a5 a9 ⊢
       have ay:=Zl (B:=ZeB (pn_impl_explorer_search m') o cells k s.nodes s.leaves s.best.Colors s.best.Edges s.perms v (B-s.nodes-1) false) (fun j=>(j,tabl cells.length fun w=>if w<j then 2*ix cells w+1 else 0)) (i:=0) (n:=cells.length) ω fun j j0 j1=>by
        obtain ⟨x0,x1⟩:=ai j j0 j1
        have hset:(tabl cells.length fun w=>if w<j then 2*ix cells w+1 else 0).set j.toNat (2*ix cells j+1)=tabl cells.length fun w=>if w<j+1 then 2*ix cells w+1 else 0:=by
         refine Zam j0 j1 (fun i i0 u hi=>?_) ?_
         ·by_cases c:i<j
          ·rw [if_pos c,if_pos ω]
          ·rw [if_neg c,if_neg ω]
         ·rw [if_pos ω]
        have hX:(tabl (cells.length:Int) fun w=>if w<j then 2*ix cells w+1 else 0).length=cells.length:=by rw [Zm];omega
        generalize (tabl (cells.length:Int) fun w=>if w<j then 2*ix cells w+1 else 0)=X at hset hX ⊢
        simp (disch:=omega) only [pz,ZeB,hset]
       have av:gMake 8 (0:Int) (cells.length:Int) (cells.length:Int)=some (tabl cells.length fun w=>if w<0 then 2*ix cells w+1 else 0):=by
        rw [Zaw ω ω ω,Int.toNat_natCast]
        congr 1
        refine ZaL (by rw [List.length_replicate,Zm];omega) fun i i0 u=>?_
        rw [List.length_replicate] at u
        rw [ZcD i0 ω,ZI i0 ω,if_neg ω]
       have hS:(tabl cells.length fun w=>if w<(cells.length:Int) then 2*ix cells w+1 else 0).set v.toNat (2*ix cells v+1-1)=sgl cells v:=by
        unfold sgl
        refine Zam v0 v1 (fun i i0 u hi=>?_) ?_
        ·rw [if_neg hi,if_pos u]
        ·rw [if_pos rfl];omega
       have al:ix (tabl cells.length fun w=>if w<(cells.length:Int) then 2*ix cells w+1 else 0) v=2*ix cells v+1:=by rw [ZI v0 v1,if_pos v1]
       have hX:(tabl (cells.length:Int) fun w=>if w<(cells.length:Int) then 2*ix cells w+1 else 0).length=cells.length:=by rw [Zm];omega
       obtain ⟨aa,ab⟩:=ai v v0 v1
       have b0:=ZrZ (c:=sgl cells v) hN (by rw [ah,ak])
       have am:loop (ZeB (pn_impl_explorer_search m') o cells k s.nodes s.leaves s.best.Colors s.best.Edges s.perms v (B-s.nodes-1) false) (0,tabl cells.length fun w=>if w<0 then 2*ix cells w+1 else 0)=some (.inl (k+1,B-s1.nodes,s1.full,s1.nodes,s1.leaves,s1.best.Colors,s1.best.Edges,s1.perms)):=by
        rw [ay]
        refine Zc ?_
        have ae:pn_impl_explorer_search m' (Zv.mk (Zae.mk (B-s.nodes-1) false) (Za.mk g.Colors g.Edges) (nearM g) (s.nodes+1) s.leaves (Za.mk s.best.Colors s.best.Edges) s.perms) (refN (nearM g) (sgl cells v))=some (ipS g (nearM g) B s1):=by
         rw [<-a7]
         unfold ipS
         rw [<-hf,show B-s.nodes-1=B-(s.nodes+1) by omega]
        generalize (tabl (cells.length:Int) fun w=>if w<(cells.length:Int) then 2*ix cells w+1 else 0)=X at hS al hX ⊢
        unfold ZeB
        dsimp only
        rw [f,l]
        simp (disch:=omega) only [pz,al,hS,b0,ae]
        rfl
       have b1:Zcv (pn_impl_explorer_search m') o cells V (k,B-s.nodes,false,s.nodes,s.leaves,s.best.Colors,s.best.Edges,s.perms)=some (.inl (k+1,B-s1.nodes,s1.full,s1.nodes,s1.leaves,s1.best.Colors,s1.best.Edges,s1.perms)):=by
        unfold Zcv ZhI Zmn
        dsimp only
        simp (disch:=omega) only [pz,hv,av,am]
       rw [ZG b1]
       exact ih (k+1) s1 ω ω a5 a9 o f l
   have:=b5 V.length 0 s ω ω hi r (ipS g (nearM g) B s) rfl rfl
   unfold q_impl_explorer_search
   rw [a4,Option.bind_some,beq_f ω]
   exact this
end
end Go.Proofs.YtepnljbkgjbbmaaGreatDoor
