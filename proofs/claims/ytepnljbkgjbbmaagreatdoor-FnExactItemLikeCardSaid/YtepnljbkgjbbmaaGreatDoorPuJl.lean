import Derived.Test.YtepnljbkgjbbmaaGreatDoorPuJb
import Derived.Test.YtepnljbkgjbbmaaGreatDoorPuJg
import Derived.Test.YtepnljbkgjbbmaaGreatDoorPuJa
import Derived.Test.YtepnljbkgjbbmaaGreatDoorPuFam
open Go.IntKind renaming i64->ε
namespace Go.Proofs.YtepnljbkgjbbmaaGreatDoor
open Go Go.Vc
set_option linter.unusedSimpArgs false
set_option linter.unusedVariables false
def bipR (v m:Int) (rel:Int->Int->Bool) (x:Int):List Zb:=((idP m).filter fun i=>rel x i).map fun i=>⟨x,v+i⟩
def bipK (v m:Int) (rel:Int->Int->Bool) (k:Int):List Zb:=(idP k).flatMap (bipR v m rel)
theorem Zmo (v m:Int) (rel:Int->Int->Bool) (x:Int):(bipR v m rel x).length<=m.toNat:=by
 unfold bipR
 rw [List.length_map]
 have:=List.length_filter_le (fun i=>rel x i) (idP m)
 rwa [Zai] at this
theorem Zsh {v k:Int} {rel:Int->Int->Bool} {x:Int} (h:0<=k):bipR v (k+1) rel x=bipR v k rel x++(if rel x k=true then [⟨x,v+k⟩] else []):=by
 unfold bipR idP
 rw [ZW h,List.filter_append,List.map_append]
 by_cases c:rel x k=true
 ·rw [if_pos c];simp [c]
 ·rw [if_neg c];simp [c]
theorem ZlQ {v m k:Int} {rel:Int->Int->Bool} (h:0<=k):bipK v m rel (k+1)=bipK v m rel k++bipR v m rel k:=by
 unfold bipK idP
 rw [ZW h,List.flatMap_append]
 simp
theorem ZAz {v m k:Int} {rel:Int->Int->Bool} {e:Zb}:e∈bipK v m rel k↔(0<=e.A/\e.A<k)/\∃ i,(0<=i/\i<m)/\rel e.A i=true/\e.B=v+i:=by
 unfold bipK bipR
 rw [List.mem_flatMap]
 constructor
 ·rintro ⟨a,j,he⟩
  obtain ⟨i,hi,rfl⟩:=List.mem_map.1 he
  rw [List.mem_filter] at hi
  exact ⟨ZT.1 j,i,ZT.1 hi.1,hi.2,rfl⟩
 ·rintro ⟨h1,i,c,f,g⟩
  refine ⟨e.A,ZT.2 h1,List.mem_map.2 ⟨i,List.mem_filter.2 ⟨ZT.2 c,f⟩,?_⟩⟩
  cases e
  simp only [Zb.mk.injEq,true_and]
  exact g.symm
theorem Zvb (v m k:Int) (rel:Int->Int->Bool):(bipK v m rel k).Pairwise eLess:=by
 unfold bipK
 rw [List.pairwise_flatMap]
 refine ⟨fun a l=>?_,(Zc0 k).imp fun {a b} j x c y g=>?_⟩
 ·unfold bipR
  rw [List.pairwise_map]
  exact ((Zc0 m).filter _).imp fun h=>.inr ⟨rfl,by show v+_<v+_;omega⟩
 ·unfold bipR at c g
  obtain ⟨_,_,rfl⟩:=List.mem_map.1 c
  obtain ⟨_,_,rfl⟩:=List.mem_map.1 g
  exact .inl j
theorem pw_nd {l:List Zb} (h:l.Pairwise eLess):l.Nodup:=h.imp fun {a b} h e=>by subst e;unfold eLess at h;omega
def setE (v:Int) (sets:List (List Int)) (k:Int):List Zb:=(idP k).flatMap fun i=>(ix sets i).map fun x=>⟨x,v+i⟩
theorem ZqC {v k:Int} {sets:List (List Int)} (h:0<=k):setE v sets (k+1)=setE v sets k++(ix sets k).map fun x=>⟨x,v+k⟩:=by
 unfold setE idP
 rw [ZW h,List.flatMap_append]
 simp
structure Sts (v:Int) (sets:List (List Int)):Prop where
 v0:0<=v
 v1:v<=64
 m:(sets.length:Int)<=4096
 len:∀ s∈sets,s.length<=64
 nd:∀ s∈sets,s.Nodup
 rng:∀ s∈sets,∀ x∈s,0<=x/\x<v
section
variable {v:Int} {sets:List (List Int)} (h:Sts v sets)
include h
theorem Zq7 {e:Zb}:e∈setE v sets sets.length↔∃ i,(0<=i/\i<(sets.length:Int))/\e.A∈ix sets i/\e.B=v+i:=by
 have _:=h
 unfold setE
 rw [List.mem_flatMap]
 constructor
 ·rintro ⟨i,hi,he⟩
  obtain ⟨x,c,rfl⟩:=List.mem_map.1 he
  exact ⟨i,ZT.1 hi,c,rfl⟩
 ·rintro ⟨i,hi,c,g⟩
  refine ⟨i,ZT.2 hi,List.mem_map.2 ⟨e.A,c,?_⟩⟩
  cases e
  simp only [Zb.mk.injEq,true_and]
  exact g.symm
theorem ZtM {e:Zb}:e∈setE v sets sets.length↔e∈bipK v sets.length (fun x i=>decide (x∈ix sets i)) v:=by
 rw [Zq7 h,ZAz]
 constructor
 ·rintro ⟨i,hi,c,g⟩
  have:=h.rng _ (Zo hi.1 hi.2) _ c
  exact ⟨this,i,hi,by simpa using c,g⟩
 ·rintro ⟨_,i,hi,c,g⟩
  exact ⟨i,hi,by simpa using c,g⟩
theorem Zxc:srtE ((setE v sets sets.length).map mkE)=bipK v sets.length (fun x i=>decide (x∈ix sets i)) v:=by
 refine (ZmK (Zvb _ _ _ _) fun z=>?_).symm
 have g:∀ e∈setE v sets sets.length,mkE e=e:=fun e he=>by
  obtain ⟨i,hi,c,j⟩:=(Zq7 h).1 he
  have:=h.rng _ (Zo hi.1 hi.2) _ c
  unfold mkE
  cases e
  simp only [Zb.mk.injEq]
  dsimp only at j this
  omega
 rw [List.mem_map,<-ZtM h]
 constructor
 ·intro hz;exact ⟨z,hz,g z hz⟩
 ·rintro ⟨e,he,rfl⟩;rw [g e he];exact he
theorem Zzz:(setE v sets sets.length).length=(bipK v sets.length (fun x i=>decide (x∈ix sets i)) v).length:=by
 refine List.Perm.length_eq ((List.perm_ext_iff_of_nodup ?_ (pw_nd (Zvb _ _ _ _))).2 fun e=>ZtM h)
 unfold setE List.Nodup
 rw [List.pairwise_flatMap]
 refine ⟨fun i hi=>?_,(Zc0 _).imp fun {a b} g x c y j e=>?_⟩
 ·have hi:=ZT.1 hi
  rw [List.pairwise_map]
  refine (h.nd _ (Zo hi.1 hi.2)).imp fun {a b} g e=>g ?_
  simp only [Zb.mk.injEq] at e
  exact e.1
 ·obtain ⟨_,_,rfl⟩:=List.mem_map.1 c
  obtain ⟨_,_,rfl⟩:=List.mem_map.1 j
  simp only [Zb.mk.injEq] at e
  omega
end
def cols (z o:Int):List Int:=tabl (z+o) fun i=>if i<z then 0 else 1
theorem ZqA {z o:Int}:(cols z o).length=(z+o).toNat:=Zm
theorem Zyb {z o:Int} (j:0<=z) (l:0<=o) (h:z+o<=1000000):Zke z o=some (cols z o):=by
 unfold Zke
 have u:gMake 8 (0:Int) (ε.wrap (z+o)) (ε.wrap (z+o))=some (tabl (z+o) fun i=>if z<=i/\i<z then 1 else 0):=by
  rw [wr64 ω ω,Zaw ω ω ω]
  congr 1
  refine ZaL (by rw [List.length_replicate,Zm]) fun i f g=>?_
  rw [List.length_replicate] at g
  rw [ZcD f ω,ZI f ω,if_neg ω]
 rw [u,Option.bind_some]
 have h1:=Zl (B:=Zf1 z o) (fun k=>(k,tabl (z+o) fun i=>if z<=i/\i<k then (1:Int) else 0)) (i:=z) (n:=z+o) ω fun k k0 k1=>by
  have hs:(tabl (z+o) fun i=>if z<=i/\i<k then (1:Int) else 0).set k.toNat 1=tabl (z+o) fun i=>if z<=i/\i<k+1 then (1:Int) else 0:=by
   refine Zam ω k1 (fun i f g hi=>?_) ?_
   ·by_cases c:z<=i/\i<k
    ·rw [if_pos c,if_pos ω]
    ·rw [if_neg c,if_neg ω]
   ·rw [if_pos ω]
  have w:(tabl (z+o) fun i=>if z<=i/\i<k then (1:Int) else 0).length=(z+o).toNat:=Zm
  generalize (tabl (z+o) fun i=>if z<=i/\i<k then (1:Int) else 0)=X at hs w ⊢
  simp (disch:=omega) only [pz,Zf1,hs]
 rw [h1]
 have e:(tabl (z+o) fun i=>if z<=i/\i<z+o then (1:Int) else 0)=cols z o:=ZM fun i f g=>by
  by_cases c:i<z
  ·rw [if_pos c,if_neg ω]
  ·rw [if_neg c,if_pos ω]
 rw [e]
 exact Zc (by simp (disch:=omega) only [pz,Zf1])
def nilG:Za:=⟨[],[]⟩
theorem ZsL {cs:List Int} {es:List Zb} (h:es.length<=1000000):Zhh cs es=some (if (cs.length:Int)>64 then (nilG,5) else if (es.length:Int)>512 then (nilG,5) else (⟨cs,srtE (es.map mkE)⟩,0)):=by
 unfold Zhh Zmj
 have hs:=Zq0 h
 by_cases c:(cs.length:Int)>64
 ·rw [if_pos c];simp (disch:=omega) only [pz,];rfl
 ·by_cases d:(es.length:Int)>512
  ·rw [if_neg c,if_pos d];simp (disch:=omega) only [pz,];rfl
  ·rw [if_neg c,if_neg d];simp (disch:=omega) only [pz,hs]
def bipG (v m:Int) (rel:Int->Int->Bool):Za×Int:=if v+m>64 then (nilG,5) else if ((bipK v m rel v).length:Int)>512 then (nilG,5) else (⟨cols v m,bipK v m rel v⟩,0)
theorem Zrj {v:Int} {sets:List (List Int)} (h:Sts v sets):Zho v sets=some (bipG v sets.length fun x i=>decide (x∈ix sets i)):=by
 unfold Zho
 have g:=h.v0
 have a4:=h.v1
 have hm:=h.m
 obtain ⟨⟨a0,j⟩,⟨h1,l,u⟩,w⟩:=ZhV (B:=ZgP v sets) (fun k q=>q.2=k/\q.1=setE v sets k/\(q.1.length:Int)<=64*k) (i:=0) (n:=sets.length) ω (s:=(([]:List Zb),(0:Int))) ⟨rfl,rfl,by simp⟩ fun k q k0 k1 ⟨p,f,y⟩=>by
  obtain ⟨a0,j⟩:=q
  dsimp only at p f y
  subst p
  have a9:=h.len _ (Zo k0 k1)
  have a3:=Zl (B:=Zex v j (ix sets j)) (fun i=>(a0++((ix sets j).take i.toNat).map (fun x=>Zb.mk x (v+j)),i)) (i:=0) (n:=(ix sets j).length) ω fun i i0 i1=>by
   have hl:(a0++((ix sets j).take i.toNat).map (fun x=>Zb.mk x (v+j))).length<=1000000:=by rw [List.length_append,List.length_map,List.length_take];omega
   have a7:((ix sets j).take (i+1).toNat).map (fun x=>Zb.mk x (v+j))=_:=Zeq i0 i1
   rw [a7,<-List.append_assoc]
   generalize a0++((ix sets j).take i.toNat).map (fun x=>Zb.mk x (v+j))=X at hl ⊢
   simp (disch:=omega) only [pz,Zex]
  have e0:(a0,(0:Int))=(fun i:Int=>(a0++((ix sets j).take i.toNat).map (fun x=>Zb.mk x (v+j)),i)) 0:=by simp
  have a2:loop (Zex v j (ix sets j)) (a0,0)=some (.inl (setE v sets (j+1),j+1)):=by
   rw [e0,a3]
   refine Zc ?_
   rw [Int.toNat_natCast,List.take_length,ZqC k0,<-f]
   simp (disch:=omega) only [pz,Zex]
  refine ⟨(setE v sets (j+1),j+1),by simp (disch:=omega) only [pz,ZgP,a2],rfl,rfl,?_⟩
  dsimp only
  rw [ZqC k0,<-f,List.length_append,List.length_map]
  omega
 dsimp only at h1 l u
 rw [w]
 subst h1
 have a6:=Zyb (z:=v) (o:=sets.length) g ω ω
 have a1:=ZsL (cs:=cols v sets.length) (es:=a0) ω
 have a8:=ZqA (z:=v) (o:=sets.length)
 have a5:=Zzz h
 have hr:(if ((cols v sets.length).length:Int)>64 then (nilG,(5:Int)) else if (a0.length:Int)>512 then (nilG,5) else (⟨cols v sets.length,srtE (a0.map mkE)⟩,0))=bipG v sets.length fun x i=>decide (x∈ix sets i):=by
  unfold bipG
  rw [a8,l,a5,Zxc h]
  by_cases c:v+(sets.length:Int)>64
  ·rw [if_pos c,if_pos ω]
  ·rw [if_neg c,if_neg ω]
 rw [hr] at a1
 refine Zc ?_
 unfold ZgP
 dsimp only
 have e9:∀ r:Za×Int,(Za.mk r.1.Colors r.1.Edges,r.2)=r:=fun r=>rfl
 simp (disch:=omega) only [pz,Z7,a6,a1,e9]
theorem ZER {d:Zaf} (h:Sts d.Points d.Blocks):Ziw d=some (bipG d.Points d.Blocks.length fun x i=>decide (x∈ix d.Blocks i)):=by
 unfold Ziw bipG
 have f:=h.v0
 have a2:=h.v1
 have hm:=h.m
 by_cases c:d.Points+(d.Blocks.length:Int)>64
 ·rw [if_pos c];simp (disch:=omega) only [pz,];rfl
 rw [if_neg c]
 have h1:=Zl (B:=ZeO d) (fun k=>(k,tabl k fun i=>if i<d.Points then (0:Int) else 1)) (i:=0) (n:=d.Points) f fun k k0 k1=>by
  have hl:(tabl k fun i=>if i<d.Points then (0:Int) else 1).length<=64:=by rw [Zm];omega
  have a0:(tabl (k+1) fun i=>if i<d.Points then (0:Int) else 1)=_:=ZW k0
  rw [if_pos k1] at a0
  rw [a0]
  generalize (tabl k fun i=>if i<d.Points then (0:Int) else 1)=X at hl ⊢
  simp (disch:=omega) only [pz,ZeO]
 have g:=Zl (B:=Zdf d) (fun k=>(k,tabl (d.Points+k) fun i=>if i<d.Points then (0:Int) else 1)) (i:=0) (n:=d.Blocks.length) ω fun k k0 k1=>by
  have hl:(tabl (d.Points+k) fun i=>if i<d.Points then (0:Int) else 1).length<=64:=by rw [Zm];omega
  have a0:(tabl (d.Points+k+1) fun i=>if i<d.Points then (0:Int) else 1)=_:=ZW ω
  rw [if_neg ω] at a0
  rw [<-Int.add_assoc,a0]
  generalize (tabl (d.Points+k) fun i=>if i<d.Points then (0:Int) else 1)=X at hl ⊢
  simp (disch:=omega) only [pz,Zdf]
 generalize a5:(fun (x:Int) (i:Int)=>decide (x∈ix d.Blocks i))=rel
 have a8:∀ k:Int,0<=k->k<=d.Points->((bipK d.Points d.Blocks.length rel k).length:Int)<=64*k:=by
  intro k k0 k1
  obtain ⟨n,rfl⟩:∃ n:Nat,k=n:=⟨k.toNat,by omega⟩
  clear k0
  induction n with
  | zero=>simp [bipK,idP,tabl]
  | succ n ih=>
   have:=ih ω
   have g:=Zmo d.Points d.Blocks.length rel (n:Int)
   rw [show ((n+1:Nat):Int)=(n:Int)+1 by omega,ZlQ ω,List.length_append]
   omega
 have p:=Zl (B:=ZcX d (cols d.Points d.Blocks.length)) (fun k=>(k,bipK d.Points d.Blocks.length rel k)) (i:=0) (n:=d.Points) f fun k k0 k1=>by
  have ad:=a8 k k0 ω
  have a7:=Zl (B:=ZcW d k) (fun i=>(i,bipK d.Points d.Blocks.length rel k++bipR d.Points i rel k)) (i:=0) (n:=d.Blocks.length) ω fun i j u=>by
   have hl:=Zmo d.Points i rel k
   have l:(bipK d.Points d.Blocks.length rel k++bipR d.Points i rel k).length<=100000:=by rw [List.length_append];omega
   have a0:=Zsh (v:=d.Points) (rel:=rel) (x:=k) j
   have a9:=h.len _ (Zo j u)
   have a3:=ZpE (s:=ix d.Blocks i) (v:=k) ω
   have o:rel k i=decide (k∈ix d.Blocks i):=by rw [<-a5]
   by_cases cc:k∈ix d.Blocks i
   ·have hh:=a3.eq cc
    rw [if_pos (by rw [o];simpa using cc)] at a0
    rw [a0,<-List.append_assoc]
    generalize bipK d.Points d.Blocks.length rel k++bipR d.Points i rel k=X at l ⊢
    simp (disch:=omega) only [pz,ZcW,hh]
   ·have hh:=a3.ne cc
    rw [if_neg (by rw [o];simpa using cc),List.append_nil] at a0
    rw [a0]
    simp (disch:=omega) only [pz,ZcW,hh]
  have w:((0:Int),bipK d.Points d.Blocks.length rel k)=(fun i:Int=>(i,bipK d.Points d.Blocks.length rel k++bipR d.Points i rel k)) 0:=by
   show _=((0:Int),_++bipR d.Points 0 rel k)
   rw [show bipR d.Points 0 rel k=[] from rfl,List.append_nil]
  have a4:loop (ZcW d k) (0,bipK d.Points d.Blocks.length rel k)=some (.inl (k+1,bipK d.Points d.Blocks.length rel (k+1))):=by
   rw [w,a7]
   refine Zc ?_
   rw [ZlQ k0]
   simp (disch:=omega) only [pz,ZcW]
  simp (disch:=omega) only [pz,ZcX,a4]
 have y:((0:Int),([]:List Int))=(fun k:Int=>(k,tabl k fun i=>if i<d.Points then (0:Int) else 1)) 0:=rfl
 have e2:((0:Int),tabl d.Points fun i=>if i<d.Points then (0:Int) else 1)=(fun k:Int=>(k,tabl (d.Points+k) fun i=>if i<d.Points then (0:Int) else 1)) 0:=by
  show _=((0:Int),tabl (d.Points+0) _)
  rw [Int.add_zero]
 have e3:((0:Int),([]:List Zb))=(fun k:Int=>(k,bipK d.Points d.Blocks.length rel k)) 0:=rfl
 have k3:loop (ZcX d (cols d.Points d.Blocks.length)) (0,([]:List Zb))=some (.inr (.inr (if ((bipK d.Points d.Blocks.length rel d.Points).length:Int)>512 then (nilG,5) else (⟨cols d.Points d.Blocks.length,bipK d.Points d.Blocks.length rel d.Points⟩,0)))):=by
  rw [e3,p]
  refine Zc ?_
  by_cases cc:((bipK d.Points d.Blocks.length rel d.Points).length:Int)>512
  ·rw [if_pos cc];simp (disch:=omega) only [pz,ZcX];rfl
  ·rw [if_neg cc];simp (disch:=omega) only [pz,ZcX]
 have k2:loop (Zdf d) (0,tabl d.Points fun i=>if i<d.Points then (0:Int) else 1)=some (.inr (if ((bipK d.Points d.Blocks.length rel d.Points).length:Int)>512 then (nilG,5) else (⟨cols d.Points d.Blocks.length,bipK d.Points d.Blocks.length rel d.Points⟩,0))):=by
  rw [e2,g]
  refine Zc ?_
  show Zdf d ((d.Blocks.length:Int),cols d.Points d.Blocks.length)=_
  simp (disch:=omega) only [pz,Zdf,k3]
 have k1:loop (ZeO d) (0,([]:List Int))=some (if ((bipK d.Points d.Blocks.length rel d.Points).length:Int)>512 then (nilG,5) else (⟨cols d.Points d.Blocks.length,bipK d.Points d.Blocks.length rel d.Points⟩,0)):=by
  rw [y,h1]
  exact Zc (by simp (disch:=omega) only [pz,ZeO,k2])
 simp (disch:=omega) only [pz,k1]
set_option linter.unusedSectionVars false
theorem ZrW {α:Type} {n:Int} {f:Int->α} {y:α} (h:y∈tabl n f):∃ i,f i=y:=by
 unfold tabl at h
 obtain ⟨j,_,e⟩:=List.mem_map.1 h
 exact ⟨_,e⟩
def supp (r:List Int):List Int:=(idP r.length).filter fun x=>decide (¬ ix r x=0)
theorem ZFz {r:List Int} (g:r.length<=1000):Zid r=some (supp r):=by
 unfold Zid
 have h:=Zl (B:=Zeu r) (fun k=>((idP k).filter fun x=>decide (¬ ix r x=0),k)) (i:=0) (n:=r.length) ω fun k k0 k1=>by
  have hl:((idP k).filter fun x=>decide (¬ ix r x=0)).length<=1000:=by
   have:=List.length_filter_le (fun x=>decide (¬ ix r x=0)) (idP k)
   rw [Zai] at this;omega
  have hs:(idP (k+1)).filter (fun x=>decide (¬ ix r x=0))=((idP k).filter fun x=>decide (¬ ix r x=0))++(if ¬ ix r k=0 then [k] else []):=by
   unfold idP
   rw [ZW k0,List.filter_append]
   by_cases c:ix r k=0
   ·rw [if_neg (Classical.not_not.2 c)];simp [c]
   ·rw [if_pos c];simp [c]
  rw [hs]
  generalize ((idP k).filter fun x=>decide (¬ ix r x=0))=X at hl ⊢
  by_cases c:ix r k=0
  ·rw [if_neg (Classical.not_not.2 c),List.append_nil]
   simp (disch:=omega) only [pz,Zeu]
  ·rw [if_pos c]
   simp (disch:=omega) only [pz,Zeu]
 exact h.trans (Zc (by simp (disch:=omega) only [pz,Zeu];rfl))
theorem ZwU {v m k:Int} {c r2:Int->Int->Bool} (h:∀ x i,0<=x->x<k->0<=i->i<m->c x i=r2 x i):bipK v m c k=bipK v m r2 k:=by
 unfold bipK
 have:∀ l:List Int,(∀ x∈l,0<=x/\x<k)->l.flatMap (bipR v m c)=l.flatMap (bipR v m r2):=fun l=>by
  induction l with
  | nil=>intro _;rfl
  | cons a l g=>
   intro hl
   rw [List.flatMap_cons,List.flatMap_cons,g fun x f=>hl x (.tail _ f)]
   congr 1
   unfold bipR
   congr 1
   refine List.filter_congr fun i hi=>?_
   have:=hl a (.head _)
   have:=ZT.1 hi
   exact h _ _ ω ω ω ω
 exact this _ fun x f=>ZT.1 f
theorem Zwu {v m:Int} {c r2:Int->Int->Bool} (h:∀ x i,0<=x->x<v->0<=i->i<m->c x i=r2 x i):bipG v m c=bipG v m r2:=by
 unfold bipG
 rw [ZwU h]
section
variable {e:List Int} {ws:List (List Int)} (he:(e.length:Int)<=64) (hl:∀ r∈ws,(r.length:Int)=e.length) (hi:∀ r∈ws,In 2 r) (w1:1<=(ws.length:Int)) (wN:(ws.length:Int)<=4096)
include he hl hi w1 wN
theorem ZCv:Sts e.length ((ws.drop 1).map supp) where
 v0:=ω
 v1:=he
 m:=by rw [List.length_map,List.length_drop];omega
 len:=fun s hs=>by
  obtain ⟨r,g,rfl⟩:=List.mem_map.1 hs
  have:=hl r (List.mem_of_mem_drop g)
  unfold supp
  have f:=List.length_filter_le (fun x=>decide (¬ ix r x=0)) (idP r.length)
  rw [Zai] at f;omega
 nd:=fun s hs=>by
  obtain ⟨r,g,rfl⟩:=List.mem_map.1 hs
  exact (Zme _).filter _
 rng:=fun s hs x c=>by
  obtain ⟨r,g,rfl⟩:=List.mem_map.1 hs
  have:=hl r (List.mem_of_mem_drop g)
  unfold supp at c
  have:=ZT.1 (List.mem_filter.1 c).1
  omega
theorem ZvF:(bif decide ((ε.wrap ((ε.wrap ((e.length:Int)+(ws.length:Int)))-1):Int)>64) then
   some (((Za.mk ([]:List Int) ([]:List Zb)),(5:Int)))
  else loop (Zdu e ws) (0,([]:List Int)))=some (bipG e.length ((ws.drop 1).map supp).length fun x i=>decide (x∈ix ((ws.drop 1).map supp) i)):=by
 have a4:(((ws.drop 1).map supp).length:Int)=(ws.length:Int)-1:=by rw [List.length_map,List.length_drop];omega
 have a6:∀ x i:Int,0<=x->x<(e.length:Int)->0<=i->i<(ws.length:Int)-1->decide (x∈ix ((ws.drop 1).map supp) i)=decide (ix (ix ws (i+1)) x=1):=fun x i x0 x1 g l=>by
  have hm:ix ws (i+1)∈ws:=Zo ω ω
  have h1:=hl _ hm
  have j:=hi _ hm x x0 ω
  rw [ZjX g (by rw [List.length_drop];omega),show ws.drop 1=ws.drop (1:Int).toNat from rfl,Zpb ω g,Int.add_comm 1 i]
  unfold supp
  rw [decide_eq_decide,List.mem_filter,ZT,decide_eq_true_eq]
  omega
 rw [Zwu (r2:=fun x i=>decide (ix (ix ws (i+1)) x=1)) (by rw [a4];exact a6),a4]
 generalize hR:(fun (x:Int) (i:Int)=>decide (ix (ix ws (i+1)) x=1))=rel
 have v0:(0:Int)<=e.length:=ω
 generalize f:(e.length:Int)=v at *
 generalize hm:(ws.length:Int)-1=m at *
 unfold bipG
 by_cases c:v+m>64
 ·rw [if_pos c];simp (disch:=omega) only [pz,];rfl
 rw [if_neg c]
 have h1:=Zl (B:=Zdu e ws) (fun k=>(k,tabl k fun i=>if i<v then (0:Int) else 1)) (i:=0) (n:=v) v0 fun k k0 k1=>by
  have hl:(tabl k fun i=>if i<v then (0:Int) else 1).length<=64:=by rw [Zm];omega
  have a0:(tabl (k+1) fun i=>if i<v then (0:Int) else 1)=_:=ZW k0
  rw [if_pos k1] at a0
  rw [a0]
  generalize (tabl k fun i=>if i<v then (0:Int) else 1)=X at hl ⊢
  simp (disch:=omega) only [pz,Zdu]
 have j:=Zl (B:=Zde e ws) (fun k=>(k,tabl (v+(k-1)) fun i=>if i<v then (0:Int) else 1)) (i:=1) (n:=ws.length) ω fun k k0 k1=>by
  have hl:(tabl (v+(k-1)) fun i=>if i<v then (0:Int) else 1).length<=64:=by rw [Zm];omega
  have a0:(tabl (v+(k-1)+1) fun i=>if i<v then (0:Int) else 1)=_:=ZW ω
  rw [if_neg ω] at a0
  rw [show v+(k+1-1)=v+(k-1)+1 by omega,a0]
  generalize (tabl (v+(k-1)) fun i=>if i<v then (0:Int) else 1)=X at hl ⊢
  simp (disch:=omega) only [pz,Zde]
 have a8:∀ k:Int,0<=k->k<=v->((bipK v m rel k).length:Int)<=64*k:=by
  intro k k0 k1
  obtain ⟨n,rfl⟩:∃ n:Nat,k=n:=⟨k.toNat,by omega⟩
  clear k0
  induction n with
  | zero=>simp [bipK,idP,tabl]
  | succ n ih=>
   have:=ih ω
   have j:=Zmo v m rel (n:Int)
   rw [show ((n+1:Nat):Int)=(n:Int)+1 by omega,ZlQ ω,List.length_append]
   omega
 have s:=Zl (B:=Zdl e ws (cols v m)) (fun k=>(k,bipK v m rel k)) (i:=0) (n:=v) v0 fun k k0 k1=>by
  have af:=a8 k k0 ω
  have a7:=Zl (B:=Zdc e ws k) (fun i=>(i,bipK v m rel k++bipR v (i-1) rel k)) (i:=1) (n:=ws.length) ω fun i g l=>by
   have a1:=Zmo v (i-1) rel k
   have o:(bipK v m rel k++bipR v (i-1) rel k).length<=100000:=by rw [List.length_append];omega
   have a0:=Zsh (v:=v) (rel:=rel) (x:=k) (k:=i-1) ω
   have a9:=hl _ (Zo (xs:=ws) (i:=i) ω l)
   have p:rel k (i-1)=decide (ix (ix ws i) k=1):=by rw [<-hR];show decide (ix (ix ws (i-1+1)) k=1)=_;rw [Int.sub_add_cancel]
   have ei:i+1-1=i-1+1:=ω
   have ew:v+i-1=v+(i-1):=ω
   rw [ei]
   by_cases cc:ix (ix ws i) k=1
   ·rw [if_pos (by rw [p];simpa using cc)] at a0
    rw [a0,<-List.append_assoc]
    generalize bipK v m rel k++bipR v (i-1) rel k=X at o ⊢
    simp (disch:=omega) only [pz,Zdc,f,ew]
   ·rw [if_neg (by rw [p];simpa using cc),List.append_nil] at a0
    rw [a0]
    simp (disch:=omega) only [pz,Zdc]
  have u:((1:Int),bipK v m rel k)=(fun i:Int=>(i,bipK v m rel k++bipR v (i-1) rel k)) 1:=by
   show _=((1:Int),_++bipR v 0 rel k)
   rw [show bipR v 0 rel k=[] from rfl,List.append_nil]
  have a5:loop (Zdc e ws k) (1,bipK v m rel k)=some (.inl (k+1,bipK v m rel (k+1))):=by
   rw [u,a7]
   refine Zc ?_
   rw [hm,ZlQ k0]
   simp (disch:=omega) only [pz,Zdc]
  simp (disch:=omega) only [pz,Zdl,a5,f]
 have w:((0:Int),([]:List Int))=(fun k:Int=>(k,tabl k fun i=>if i<v then (0:Int) else 1)) 0:=rfl
 have y:((1:Int),tabl v fun i=>if i<v then (0:Int) else 1)=(fun k:Int=>(k,tabl (v+(k-1)) fun i=>if i<v then (0:Int) else 1)) 1:=by
  show _=((1:Int),tabl (v+0) _)
  rw [Int.add_zero]
 have e3:((0:Int),([]:List Zb))=(fun k:Int=>(k,bipK v m rel k)) 0:=rfl
 have k3:loop (Zdl e ws (cols v m)) (0,([]:List Zb))=some (.inr (.inr (if ((bipK v m rel v).length:Int)>512 then (nilG,5) else (⟨cols v m,bipK v m rel v⟩,0)))):=by
  rw [e3,s]
  refine Zc ?_
  by_cases cc:((bipK v m rel v).length:Int)>512
  ·rw [if_pos cc];simp (disch:=omega) only [pz,Zdl,f];rfl
  ·rw [if_neg cc];simp (disch:=omega) only [pz,Zdl,f]
 have k2:loop (Zde e ws) (1,tabl v fun i=>if i<v then (0:Int) else 1)=some (.inr (if ((bipK v m rel v).length:Int)>512 then (nilG,5) else (⟨cols v m,bipK v m rel v⟩,0))):=by
  rw [y,j]
  refine Zc ?_
  rw [hm]
  show Zde e ws ((ws.length:Int),cols v m)=_
  simp (disch:=omega) only [pz,Zde,k3]
 have k1:loop (Zdu e ws) (0,([]:List Int))=some (if ((bipK v m rel v).length:Int)>512 then (nilG,5) else (⟨cols v m,bipK v m rel v⟩,0)):=by
  rw [w,h1]
  exact Zc (by simp (disch:=omega) only [pz,Zdu,k2,f])
 simp (disch:=omega) only [pz,k1]
end
theorem ZAr {o:Zg} (hs:Sz2 o.Rows) {f:Zd} {aj:List Int} (h:CodeV o f aj):∃ r,ZfT ⟨f,o.Rows⟩=some r/\Zfi ⟨f,o.Rows⟩=some r/\(r=(nilG,6)\/∃ v m rel,0<=v/\0<=m/\r=bipG v m rel):=by
 have eF:Zd.mk f.Prime f.Degree f.Poly=f:=rfl
 have eC:Z1.mk f o.Rows=⟨f,o.Rows⟩:=rfl
 have a3:=h.si
 have a1:=h.ss
 have aa:=h.oki
 by_cases g:o.Size=2
 ·have n1:=h.M.n1
  have w1:=h.M.w1
  have w2:=h.M.w2
  have hF:=h.F
  have hM:=h.M.mat
  have ac:=ZvP hF hM ω n1 a3 h.few
  have ab:=ZHm hF hM ω n1 a1 h.few
  have al:=h.few
  have hP:=Zbk (p:=o.Size) hF.q2 o.Rows.length
  have u:=hM.len 0 ω ω
  generalize hW:tabl (pwN o.Size o.Rows.length) (wd f o.Size (ix o.Rows 0).length o.Rows o.Rows.length)=W at ac ab
  have an:(W.length:Int)=pwN o.Size o.Rows.length:=by rw [<-hW,Zm];omega
  have a4:∀ r∈W,(r.length:Int)=(ix o.Rows 0).length:=fun r hr=>by
   rw [<-hW] at hr
   obtain ⟨n,rfl⟩:=ZrW hr
   exact Zkp hF ω _ _
  have a9:∀ r∈W,In 2 r:=fun r hr=>by
   rw [<-hW] at hr
   obtain ⟨n,rfl⟩:=ZrW hr
   have:=wd_in hF (m:=o.Rows) (w:=(ix o.Rows 0).length) ω o.Rows.length n
   rw [g] at this ⊢
   exact this
  clear hW
  have hg:=ZvF (e:=ix o.Rows 0) (ws:=W) ω a4 a9 ω ω
  have a8:=Zrj (ZCv (e:=ix o.Rows 0) (ws:=W) ω a4 a9 ω ω)
  have a2:=Zlm (xs:=W) (lo:=1) ω ω
  have eD:W.drop (1:Int).toNat=W.drop 1:=rfl
  rw [eD] at a2
  have ai:((W.drop 1).length:Int)=(W.length:Int)-1:=by rw [List.length_drop];omega
  have c:∀ r∈W.drop 1,(r.length:Int)=(ix o.Rows 0).length:=fun r hr=>a4 r (List.mem_of_mem_drop hr)
  refine ⟨bipG (ix o.Rows 0).length ((W.drop 1).map supp).length fun x i=>decide (x∈ix ((W.drop 1).map supp) i),?_,?_,.inr ⟨_,_,_,Int.natCast_nonneg (ix o.Rows 0).length,Int.natCast_nonneg ((W.drop 1).map supp).length,rfl⟩⟩
  ·unfold ZfT
   have j:ε.wrap (((ix o.Rows 0).length:Int)+(W.length:Int))=(ix o.Rows 0).length+(W.length:Int):=wr64 ω ω
   have l:ε.wrap (((ix o.Rows 0).length:Int)+(W.length:Int)-1)=(ix o.Rows 0).length+(W.length:Int)-1:=wr64 ω ω
   rw [j,l] at hg
   simp (disch:=omega) only [pz,eF,a1,ab]
   exact hg
  ·generalize W.drop 1=D at a8 a2 ai c
   have ag:=Zl (B:=ZdM ⟨f,o.Rows⟩ D) (fun k=>((D.take k.toNat).map supp,k)) (i:=0) (n:=D.length) ω fun k k0 k1=>by
    have hm:=c _ (Zo k0 k1)
    have ah:=ZFz (r:=ix D k) ω
    have hl:((D.take k.toNat).map supp).length<=10000:=by rw [List.length_map,List.length_take];omega
    rw [Zeq k0 k1]
    generalize (D.take k.toNat).map supp=X at hl ⊢
    have af:=gAppV (xs:=X) (y:=supp (ix D k)) ω
    simp (disch:=omega) only [pz,ZdM,ah,af]
   have ad:loop (ZdM ⟨f,o.Rows⟩ D) ([],0)=some (bipG (ix o.Rows 0).length (D.map supp).length fun x i=>decide (x∈ix (D.map supp) i)):=by
    refine ag.trans (Zc ?_)
    rw [Int.toNat_natCast,List.take_length]
    have s:∀ r:Za×Int,(Za.mk r.1.Colors r.1.Edges,r.2)=r:=fun r=>rfl
    simp (disch:=omega) only [pz,ZdM,Zld,ZV,a8,s]
   unfold Zfi
   simp (disch:=omega) only [pz,eF,aa,a3,ac,a2,ad]
 ·refine ⟨_,?_,?_,.inl rfl⟩
  ·unfold ZfT
   simp (disch:=omega) only [pz,eF,a1]
   rfl
  ·unfold Zfi
   simp (disch:=omega) only [pz,eF,aa,a3]
   rfl
def sqP (n:Int) (a:List (List Int)) (l x y:Int):Bool:=decide (l=x\/l=n+y\/l=2*n+ix (ix a x) y)
def sqR (n:Int) (a:List (List Int)) (l x k:Int):List Zb:=((idP k).filter fun y=>sqP n a l x y).map fun y=>⟨l,3*n+x*n+y⟩
def sqX (n:Int) (a:List (List Int)) (l k:Int):List Zb:=(idP k).flatMap fun x=>sqR n a l x n
def sqL (n:Int) (a:List (List Int)) (k:Int):List Zb:=(idP k).flatMap fun l=>sqX n a l n
def sqC (n:Int):List Int:=tabl (3*n+n*n) fun v=>if v<3*n then v/n else 3
theorem ZE7 {n l x k:Int} {a:List (List Int)} (h:0<=k):sqR n a l x (k+1)=sqR n a l x k++(if sqP n a l x k=true then [⟨l,3*n+x*n+k⟩] else []):=by
 unfold sqR idP
 rw [ZW h,List.filter_append,List.map_append]
 by_cases c:sqP n a l x k=true
 ·rw [if_pos c];simp [c]
 ·rw [if_neg c];simp [c]
theorem ZsO {n l k:Int} {a:List (List Int)} (h:0<=k):sqX n a l (k+1)=sqX n a l k++sqR n a l k n:=by
 unfold sqX idP
 rw [ZW h,List.flatMap_append]
 simp
theorem ZsY {n k:Int} {a:List (List Int)} (h:0<=k):sqL n a (k+1)=sqL n a k++sqX n a k n:=by
 unfold sqL idP
 rw [ZW h,List.flatMap_append]
 simp
theorem ZpW (n l x k:Int) (a:List (List Int)):(sqR n a l x k).length<=k.toNat:=by
 unfold sqR
 rw [List.length_map]
 have:=List.length_filter_le (fun y=>sqP n a l x y) (idP k)
 rwa [Zai] at this
theorem Ztl {n:Int} (c:n<=6) (l:Int) (a:List (List Int)) (k:Nat):(sqX n a l k).length<=6*k:=by
 induction k with
 | zero=>simp [sqX,idP,tabl]
 | succ k g=>
  have:=ZpW n l k n a
  rw [show ((k+1:Nat):Int)=(k:Int)+1 by omega,ZsO ω,List.length_append]
  omega
theorem Zte {n:Int} (n0:0<=n) (c:n<=6) (a:List (List Int)) (k:Nat):(sqL n a k).length<=36*k:=by
 induction k with
 | zero=>simp [sqL,idP,tabl]
 | succ k g=>
  have:=Ztl c k a n.toNat
  rw [show ((n.toNat:Nat):Int)=n by omega] at this
  rw [show ((k+1:Nat):Int)=(k:Int)+1 by omega,ZsY ω,List.length_append]
  omega
theorem Zr6 {n k:Int} {a:List (List Int)} {e:Zb}:e∈sqL n a k↔(0<=e.A/\e.A<k)/\∃ x y,(0<=x/\x<n)/\(0<=y/\y<n)/\sqP n a e.A x y=true/\e.B=3*n+x*n+y:=by
 unfold sqL sqX sqR
 rw [List.mem_flatMap]
 constructor
 ·rintro ⟨l,hl,he⟩
  obtain ⟨x,c,he⟩:=List.mem_flatMap.1 he
  obtain ⟨y,g,rfl⟩:=List.mem_map.1 he
  rw [List.mem_filter] at g
  exact ⟨ZT.1 hl,x,y,ZT.1 c,ZT.1 g.1,g.2,rfl⟩
 ·rintro ⟨h1,x,y,c,g,hp,j⟩
  refine ⟨e.A,ZT.2 h1,List.mem_flatMap.2 ⟨x,ZT.2 c,List.mem_map.2 ⟨y,List.mem_filter.2 ⟨ZT.2 g,hp⟩,?_⟩⟩⟩
  cases e
  simp only [Zb.mk.injEq,true_and]
  exact j.symm
theorem Zyl (n k:Int) (n0:0<=n) (a:List (List Int)):(sqL n a k).Pairwise eLess:=by
 unfold sqL
 rw [List.pairwise_flatMap]
 refine ⟨fun l hl=>?_,(Zc0 k).imp fun {l l'} a3 x c y w=>?_⟩
 ·unfold sqX
  rw [List.pairwise_flatMap]
  refine ⟨fun x c=>?_,(Zc0 n).imp fun {x x'} a6 u hu v f=>?_⟩
  ·unfold sqR
   rw [List.pairwise_map]
   exact ((Zc0 n).filter _).imp fun h=>.inr ⟨rfl,by show _+_<_+_;omega⟩
  ·unfold sqR at hu f
   obtain ⟨y,w,rfl⟩:=List.mem_map.1 hu
   obtain ⟨y',a1,rfl⟩:=List.mem_map.1 f
   have h1:=ZT.1 (List.mem_filter.1 w).1
   have o:=ZT.1 (List.mem_filter.1 a1).1
   have g:(x+1)*n<=x'*n:=Int.mul_le_mul_of_nonneg_right ω n0
   rw [Int.add_mul,Int.one_mul] at g
   exact .inr ⟨rfl,by show 3*n+x*n+y<3*n+x'*n+y';omega⟩
 ·have fA:∀ {l:Int} {e:Zb},e∈sqX n a l n->e.A=l:=fun he=>by
   obtain ⟨x,c,he⟩:=List.mem_flatMap.1 he
   obtain ⟨y,w,rfl⟩:=List.mem_map.1 he
   rfl
  have i:=fA c
  have j:=fA w
  exact .inl (by rw [i,j];exact a3)
def sqT (n:Int) (a:List (List Int)) (x y:Int):List Zb:=[⟨x,3*n+n*x+y⟩,⟨n+y,3*n+n*x+y⟩,⟨2*n+ix (ix a x) y,3*n+n*x+y⟩]
def sqU (n:Int) (a:List (List Int)) (x k:Int):List Zb:=(idP k).flatMap fun y=>sqT n a x y
def sqE (n:Int) (a:List (List Int)) (k:Int):List Zb:=(idP k).flatMap fun x=>sqU n a x n
theorem ZsZ {n x k:Int} {a:List (List Int)} (h:0<=k):sqU n a x (k+1)=sqU n a x k++sqT n a x k:=by
 unfold sqU idP
 rw [ZW h,List.flatMap_append]
 simp
theorem Zq9 {n k:Int} {a:List (List Int)} (h:0<=k):sqE n a (k+1)=sqE n a k++sqU n a k n:=by
 unfold sqE idP
 rw [ZW h,List.flatMap_append]
 simp
theorem Zst (n x:Int) (a:List (List Int)) (k:Nat):(sqU n a x k).length=3*k:=by
 induction k with
 | zero=>simp [sqU,idP,tabl]
 | succ k g=>
  rw [show ((k+1:Nat):Int)=(k:Int)+1 by omega,ZsZ ω,List.length_append,g]
  simp [sqT];omega
theorem ZuC {n:Int} (n0:0<=n) (c:n<=6) (a:List (List Int)) (k:Nat):(sqE n a k).length<=18*k:=by
 induction k with
 | zero=>simp [sqE,idP,tabl]
 | succ k g=>
  have:=Zst n k a n.toNat
  rw [show ((n.toNat:Nat):Int)=n by omega] at this
  rw [show ((k+1:Nat):Int)=(k:Int)+1 by omega,Zq9 ω,List.length_append]
  omega
section
variable {a:List (List Int)} (h:ValidSq a) (h6:(a.length:Int)<=6)
include h h6
theorem Zng {x y:Int} (x0:0<=x) (x1:x<(a.length:Int)) (c:0<=y) (i:y<(a.length:Int)):((ix a x).length:Int)=a.length/\0<=ix (ix a x) y/\ix (ix a x) y<(a.length:Int):=by
 obtain ⟨f,r2,g⟩:=h.row _ (Zo x0 x1)
 have:=g.rng _ (Zo (xs:=ix a x) c ω)
 exact ⟨f,this.1,by omega⟩
theorem ZDU:srtE ((sqE a.length a a.length).map mkE)=sqL a.length a (3*a.length):=by
 have n1:=h.n1
 have l:∀ z:Zb,z∈sqE a.length a a.length↔z∈sqL a.length a (3*a.length):=fun z=>by
  rw [Zr6]
  unfold sqE sqU sqT
  rw [List.mem_flatMap]
  constructor
  ·rintro ⟨x,c,hz⟩
   obtain ⟨y,j,hz⟩:=List.mem_flatMap.1 hz
   have c:=ZT.1 c
   have j:=ZT.1 j
   obtain ⟨_,f,g⟩:=Zng h h6 c.1 c.2 j.1 j.2
   rw [List.mem_cons,List.mem_cons,List.mem_singleton] at hz
   rcases hz with rfl|rfl|rfl
   ·exact ⟨by dsimp only;omega,x,y,c,j,by simp [sqP],by show (_:Int)=_;simp only [];rw [Int.mul_comm (a.length:Int) x]⟩
   ·exact ⟨by dsimp only;omega,x,y,c,j,by simp [sqP],by show (_:Int)=_;simp only [];rw [Int.mul_comm (a.length:Int) x]⟩
   ·exact ⟨by dsimp only;omega,x,y,c,j,by simp [sqP],by show (_:Int)=_;simp only [];rw [Int.mul_comm (a.length:Int) x]⟩
  ·rintro ⟨h1,x,y,c,j,hp,k⟩
   refine ⟨x,ZT.2 c,List.mem_flatMap.2 ⟨y,ZT.2 j,?_⟩⟩
   unfold sqP at hp
   rw [decide_eq_true_eq] at hp
   rw [List.mem_cons,List.mem_cons,List.mem_singleton]
   cases z
   simp only [Zb.mk.injEq]
   dsimp only at hp k
   rw [Int.mul_comm (a.length:Int) x]
   rcases hp with hp|hp|hp
   ·exact .inl ⟨hp,k⟩
   ·exact .inr (.inl ⟨hp,k⟩)
   ·exact .inr (.inr ⟨hp,k⟩)
 have o:∀ z∈sqE a.length a a.length,mkE z=z:=fun z hz=>by
  obtain ⟨h1,x,y,c,j,hp,k⟩:=Zr6.1 ((l z).1 hz)
  have u:0<=x*(a.length:Int):=Int.mul_nonneg c.1 ω
  unfold mkE
  cases z
  simp only [Zb.mk.injEq]
  dsimp only at h1 k
  omega
 refine (ZmK (Zyl _ _ ω _) fun z=>?_).symm
 rw [List.mem_map,<-l]
 constructor
 ·intro hz;exact ⟨z,hz,o z hz⟩
 ·rintro ⟨e,he,rfl⟩;rw [o e he];exact he
theorem Zv7:Zj1 a false=some ⟨sqC a.length,sqL a.length a (3*a.length)⟩:=by
 unfold Zj1
 have n1:=h.n1
 have a6:(a.length:Int)*a.length<=36:=by
  have:=Int.mul_le_mul h6 h6 ω (by omega:(0:Int)<=6)
  omega
 have g:0<=(a.length:Int)*a.length:=Int.mul_nonneg ω ω
 generalize c:(a.length:Int)=n at n1 h6 a6 g ⊢
 have h1:=Zl (B:=ZfH a false) (fun k=>(k,tabl k fun v=>if v<3*n then v/n else 3)) (i:=0) (n:=3*n) ω fun k k0 k1=>by
  have hl:(tabl k fun v=>if v<3*n then v/n else 3).length<=18:=by rw [Zm];omega
  have a0:(tabl (k+1) fun v=>if v<3*n then v/n else 3)=_:=ZW k0
  rw [if_pos k1] at a0
  have u:Int.tdiv k n=k/n:=Int.tdiv_eq_ediv_of_nonneg k0
  have a4:0<=k/n:=Int.ediv_nonneg k0 ω
  have a5:k/n<3:=Int.ediv_lt_of_lt_mul ω ω
  rw [a0]
  generalize (tabl k fun v=>if v<3*n then v/n else 3)=X at hl ⊢
  simp (disch:=omega) only [pz,ZfH,ZiQ,c,u]
 have w:=Zl (B:=Zdn a) (fun k=>(k,tabl (3*n+k) fun v=>if v<3*n then v/n else 3)) (i:=0) (n:=n*n) ω fun k k0 k1=>by
  have hl:(tabl (3*n+k) fun v=>if v<3*n then v/n else 3).length<=54:=by rw [Zm];omega
  have a0:(tabl (3*n+k+1) fun v=>if v<3*n then v/n else 3)=_:=ZW ω
  rw [if_neg ω] at a0
  rw [<-Int.add_assoc,a0]
  generalize (tabl (3*n+k) fun v=>if v<3*n then v/n else 3)=X at hl ⊢
  simp (disch:=omega) only [pz,Zdn,c]
 have h3:=Zl (B:=Ze3 a (sqC n)) (fun k=>(k,sqL n a k)) (i:=0) (n:=3*n) ω fun l l0 l1=>by
  have hL:=Zte ω h6 a l.toNat
  rw [show ((l.toNat:Nat):Int)=l by omega] at hL
  have hx:=Zl (B:=Zen a l) (fun x=>(x,sqL n a l++sqX n a l x)) (i:=0) (n:=n) ω fun x x0 x1=>by
   have hX:=Ztl h6 l a x.toNat
   rw [show ((x.toNat:Nat):Int)=x by omega] at hX
   have a2:0<=x*n:=Int.mul_nonneg x0 ω
   have a3:x*n<=n*n:=Int.mul_le_mul_of_nonneg_right ω ω
   have hy:=Zl (B:=ZbM a l x) (fun y=>(y,sqL n a l++sqX n a l x++sqR n a l x y)) (i:=0) (n:=n) ω fun y j y1=>by
    obtain ⟨o,p,s⟩:=Zng h ω x0 ω j (show y<(a.length:Int) by omega)
    have hR:=ZpW n l x y a
    have hl:(sqL n a l++sqX n a l x++sqR n a l x y).length<=100000:=by rw [List.length_append,List.length_append];omega
    have a0:=ZE7 (n:=n) (l:=l) (x:=x) (a:=a) j
    by_cases hp:l=x\/l=n+y\/l=2*n+ix (ix a x) y
    ·rw [if_pos (by unfold sqP;simpa using hp)] at a0
     rw [a0,<-List.append_assoc]
     generalize sqL n a l++sqX n a l x++sqR n a l x y=X at hl ⊢
     by_cases c1:l=x
     ·simp (disch:=omega) only [pz,ZbM,Zcq,c]
     ·by_cases c2:l=n+y
      ·simp (disch:=omega) only [pz,ZbM,Zcq,c]
      ·simp (disch:=omega) only [pz,ZbM,Zcq,c]
    ·rw [if_neg (by unfold sqP;simpa using hp),List.append_nil] at a0
     rw [a0]
     simp (disch:=omega) only [pz,ZbM,Zcq,c]
   have f:((0:Int),sqL n a l++sqX n a l x)=(fun y:Int=>(y,sqL n a l++sqX n a l x++sqR n a l x y)) 0:=by
    show _=((0:Int),_++sqR n a l x 0)
    rw [show sqR n a l x 0=[] from rfl,List.append_nil]
   have a1:loop (ZbM a l x) (0,sqL n a l++sqX n a l x)=some (.inl (x+1,sqL n a l++sqX n a l (x+1))):=by
    rw [f,hy]
    refine Zc ?_
    rw [ZsO x0,<-List.append_assoc]
    simp (disch:=omega) only [pz,ZbM,c]
   simp (disch:=omega) only [pz,Zen,c,a1]
  have f:((0:Int),sqL n a l)=(fun x:Int=>(x,sqL n a l++sqX n a l x)) 0:=by
   show _=((0:Int),_++sqX n a l 0)
   rw [show sqX n a l 0=[] from rfl,List.append_nil]
  have a1:loop (Zen a l) (0,sqL n a l)=some (.inl (l+1,sqL n a (l+1))):=by
   rw [f,hx]
   refine Zc ?_
   rw [ZsY l0]
   simp (disch:=omega) only [pz,Zen,c]
  simp (disch:=omega) only [pz,Ze3,c,a1]
 have o:((0:Int),([]:List Int))=(fun k:Int=>(k,tabl k fun v=>if v<3*n then v/n else 3)) 0:=rfl
 have p:((0:Int),tabl (3*n) fun v=>if v<3*n then v/n else 3)=(fun k:Int=>(k,tabl (3*n+k) fun v=>if v<3*n then v/n else 3)) 0:=by
  show _=((0:Int),tabl (3*n+0) _)
  rw [Int.add_zero]
 have s:((0:Int),([]:List Zb))=(fun k:Int=>(k,sqL n a k)) 0:=rfl
 have k3:loop (Ze3 a (sqC n)) (0,([]:List Zb))=some (.inr (.inr ⟨sqC n,sqL n a (3*n)⟩)):=by
  rw [s,h3]
  exact Zc (by simp (disch:=omega) only [pz,Ze3,c])
 have k2:loop (Zdn a) (0,tabl (3*n) fun v=>if v<3*n then v/n else 3)=some (.inr ⟨sqC n,sqL n a (3*n)⟩):=by
  rw [p,w]
  refine Zc ?_
  show Zdn a (n*n,sqC n)=_
  simp (disch:=omega) only [pz,Zdn,c,k3]
 rw [o,h1]
 exact Zc (by simp (disch:=omega) only [pz,ZfH,c,k2])
theorem ZwX (hs:Sz2 a):ZeD a false=some (⟨sqC a.length,sqL a.length a (3*a.length)⟩,0):=by
 unfold ZeD
 have s:=(Zov hs).eq h
 have n1:=h.n1
 have aa:(a.length:Int)*a.length<=36:=by
  have:=Int.mul_le_mul h6 h6 ω (by omega:(0:Int)<=6)
  omega
 have f:0<=(a.length:Int)*a.length:=Int.mul_nonneg ω ω
 have a3:=ZDU h h6
 have a9:=ZuC ω h6 a a.length
 generalize u:(a.length:Int)=n at n1 h6 aa f a3 a9 ⊢
 have h1:=Zl (B:=Zc2 a false n) (fun k=>(tabl k fun v=>if v<3*n then v/n else 3,k)) (i:=0) (n:=3*n+n*n) ω fun k k0 k1=>by
  have hl:(tabl k fun v=>if v<3*n then v/n else 3).length<=54:=by rw [Zm];omega
  have a0:(tabl (k+1) fun v=>if v<3*n then v/n else 3)=_:=ZW k0
  have w:Int.tdiv k n=k/n:=Int.tdiv_eq_ediv_of_nonneg k0
  have a4:0<=k/n:=Int.ediv_nonneg k0 ω
  have a5:k/n<=k:=Int.ediv_le_self _ k0
  have hw:ε.wrap (k/n)=k/n:=wr64 ω ω
  have g:(if (3:Int)<k/n then 3 else k/n)=if k<3*n then k/n else 3:=by
   by_cases c:k<3*n
   ·have j:k/n<3:=Int.ediv_lt_of_lt_mul ω ω
    rw [if_pos c,if_neg ω]
   ·have j:3<=k/n:=Int.le_ediv_of_mul_le ω ω
    rw [if_neg c]
    by_cases d:3<k/n
    ·rw [if_pos d]
    ·rw [if_neg d];omega
  rw [<-g] at a0
  rw [a0]
  generalize (tabl k fun v=>if v<3*n then v/n else 3)=X at hl ⊢
  simp (disch:=omega) only [pz,Zc2,Zfn,w,hw]
 have h2:=Zl (B:=Zd7 a n (sqC n)) (fun k=>(sqE n a k,k)) (i:=0) (n:=n) ω fun x x0 x1=>by
  have hE:=ZuC ω h6 a x.toNat
  rw [show ((x.toNat:Nat):Int)=x by omega] at hE
  have a1:0<=n*x:=Int.mul_nonneg ω x0
  have a2:n*x<=n*n:=Int.mul_le_mul_of_nonneg_left ω ω
  have hy:=Zl (B:=ZdN a n x) (fun y=>(sqE n a x++sqU n a x y,y)) (i:=0) (n:=n) ω fun y l y1=>by
   obtain ⟨o,e2,p⟩:=Zng h ω x0 ω l (show y<(a.length:Int) by omega)
   have hU:=Zst n x a y.toNat
   rw [show ((y.toNat:Nat):Int)=y by omega] at hU
   have hl:(sqE n a x++sqU n a x y).length<=1000:=by rw [List.length_append];omega
   have a0:=ZsZ (n:=n) (x:=x) (a:=a) l
   rw [a0,<-List.append_assoc]
   generalize sqE n a x++sqU n a x y=X at hl ⊢
   have a6:gApp 16 X (sqT n a x y)=some (X++sqT n a x y):=ZaW (by simp [sqT];omega) (by simp [sqT];omega)
   unfold sqT at a6 ⊢
   simp (disch:=omega) only [pz,ZdN,a6]
  have e0:(sqE n a x,(0:Int))=(fun y:Int=>(sqE n a x++sqU n a x y,y)) 0:=by
   show _=(_++sqU n a x 0,(0:Int))
   rw [show sqU n a x 0=[] from rfl,List.append_nil]
  have a8:loop (ZdN a n x) (sqE n a x,0)=some (.inl (sqE n a (x+1),x+1)):=by
   rw [e0,hy]
   refine Zc ?_
   rw [Zq9 x0]
   simp (disch:=omega) only [pz,ZdN]
  simp (disch:=omega) only [pz,Zd7,a8]
 have o:(([]:List Int),(0:Int))=(fun k:Int=>(tabl k fun v=>if v<3*n then v/n else 3,k)) 0:=rfl
 have p:(([]:List Zb),(0:Int))=(fun k:Int=>(sqE n a k,k)) 0:=rfl
 have ah:(sqC n).length=(3*n+n*n).toNat:=Zm
 have a7:=ZsL (cs:=sqC n) (es:=sqE n a n) ω
 rw [if_neg ω,if_neg ω,a3] at a7
 have k3:loop (Zd7 a n (sqC n)) (([]:List Zb),0)=some (.inr (⟨sqC n,sqL n a (3*n)⟩,0)):=by
  rw [p,h2]
  exact Zc (by simp (disch:=omega) only [pz,Zd7,a7])
 have k1:loop (Zc2 a false n) (([]:List Int),0)=some (⟨sqC n,sqL n a (3*n)⟩,0):=by
  rw [o,h1]
  refine Zc ?_
  show Zc2 a false n (sqC n,3*n+n*n)=_
  simp (disch:=omega) only [pz,Zc2,k3]
 simp (disch:=omega) only [pz,s,Z7,u,k1]
end
theorem ZF3 {a:List (List Int)} (h:ValidSq a) (hs:Sz2 a):∃ r,Zfw a false=some r/\ZeD a false=some r/\r.1.Colors.length<=64/\r.1.Edges.length<=1000:=by
 have c:=(Zns hs).eq h
 have n1:=h.n1
 by_cases h6:(a.length:Int)<=6
 ·have s:=Zv7 h h6
  have g:(a.length:Int)*a.length<=36:=by
   have:=Int.mul_le_mul h6 h6 ω (by omega:(0:Int)<=6)
   omega
  have hl:=Zte (n:=a.length) ω h6 a (3*a.length)
  refine ⟨_,?_,ZwX h h6 hs,?_,?_⟩
  ·unfold Zfw
   simp (disch:=omega) only [pz,c,s]
  ·show (sqC a.length).length<=64
   unfold sqC
   rw [Zm];omega
  ·show (sqL a.length a (3*a.length)).length<=1000
   rw [show ((3*a.length:Nat):Int)=3*(a.length:Int) by omega] at hl
   omega
 ·refine ⟨(nilG,5),?_,?_,by simp [nilG],by simp [nilG]⟩
  ·unfold Zfw
   simp (disch:=omega) only [pz,c];rfl
  ·unfold ZeD
   have f:=(Zov hs).eq h
   simp (disch:=omega) only [pz,f,Z7];rfl
def marks (k:Int) (n:Nat):List Int:=(List.range n).map fun (j:Nat)=>k+(j:Int)
theorem Zdo (k:Int) (n:Nat):(marks k n).length=n:=by unfold marks;simp
theorem Zww {k:Int} {n j:Nat} (h:j<n):(marks k n)[j]?=some (k+(j:Int)):=by
 unfold marks;rw [List.getElem?_map,List.getElem?_range h];rfl
theorem ZGv {xs:List Int} {k:Int} (h:xs.length<=4194304) (u:0<=k) (h1:k<=9100000000000000000):Zjq xs k=some (k+(xs.length:Int),marks k xs.length):=by
 unfold Zjq
 let f:Nat->Int×Int×List Int:=fun j=>(k+(j:Int),(j:Int),marks k j++xs.drop j)
 have g:f 0=(k,0,xs):=by simp [f,marks]
 have o:f xs.length=(k+(xs.length:Int),(xs.length:Int),marks k xs.length):=by simp only [f];rw [List.drop_length,List.append_nil]
 rw [<-g,Ze8 f xs.length fun j w=>?_,o]
 ·refine Zc ?_
  rw [ZiA]
  have:decide ((xs.length:Int)<((marks k xs.length).length:Int))=false:=by rw [Zdo];simp
  rw [this];rfl
 ·obtain ⟨x,c⟩:=ZaI (xs:=xs) (k:=j) w
  have hl:(marks k j++xs.drop j).length=xs.length:=by rw [List.length_append,Zdo,List.length_drop];omega
  have p:(marks k j++xs.drop j)[j]?=some x:=by
   rw [List.getElem?_append_right (by rw [Zdo];omega),Zdo,Nat.sub_self,List.getElem?_drop];simpa using c
  simp only [f]
  rw [ZiA]
  have:decide ((j:Int)<((marks k j++xs.drop j).length:Int))=true:=by rw [hl];simpa using w
  rw [this,Zax p]
  simp only [cond_true,Option.bind_some]
  rw [wrapN w (by unfold M63;omega),Zat ω ω,Int.toNat_natCast]
  have hs:(marks k j++xs.drop j).set j (k+(j:Int))=marks k (j+1)++xs.drop (j+1):=by
   rw [List.set_append,if_neg (by rw [Zdo];omega),Zdo,Nat.sub_self]
   have s:xs.drop j=x::xs.drop (j+1):=by
    rw [List.drop_eq_getElem_cons w]
    congr 1
    have:=List.getElem?_eq_getElem (l:=xs) (i:=j) w
    rw [c] at this;exact (Option.some.inj this).symm
   rw [s]
   unfold marks
   rw [List.range_succ,List.map_append];simp
  rw [hs,show k+(j:Int)+1=k+((j+1:Nat):Int) by omega]
theorem ZCD {n:Nat} {k:Int} (h:n<=4194304) (i:0<=k) (h1:k<=9100000000000000000):Zka (marks k n) k=some (k+(n:Int)):=by
 unfold Zka
 let f:Nat->Int×Int:=fun j=>(k+(j:Int),(j:Int))
 have c:f 0=(k,0):=by simp [f]
 rw [<-c,Ze8 f n fun j l=>?_]
 ·refine Zc ?_
  simp only [f]
  rw [ZkP]
  have:decide ((n:Int)<((marks k n).length:Int))=false:=by rw [Zdo];simp
  rw [this];rfl
 ·simp only [f]
  rw [ZkP]
  have:decide ((j:Int)<((marks k n).length:Int))=true:=by rw [Zdo];simpa using l
  rw [this,Zax (Zww l)]
  simp only [cond_true,Option.bind_some]
  have g:((k+(j:Int)) !=(k+(j:Int)))=false:=by simp
  rw [g]
  simp only [cond_false]
  rw [wrapN l (by unfold M63;omega),Zat ω ω,show k+(j:Int)+1=k+((j+1:Nat):Int) by omega]
def marksR:Int->List (List Int)->List (List Int)
 | _,[]=>[]
 | k,r::rs=>marks k r.length::marksR (k+r.length) rs
def total:List (List Int)->Nat
 | []=>0
 | r::rs=>r.length+total rs
theorem Zk4:∀ (xs:List (List Int)),(∀ r∈xs,r.length<=4194304)->total xs<=xs.length*4194304
 | [],_=>by simp [total]
 | r::rs,h=>by
  have h1:=h r (List.mem_cons_self ..)
  have f:=Zk4 rs fun x c=>h x (List.mem_cons_of_mem _ c)
  simp only [total,List.length_cons];omega
theorem ZgF:∀ (k:Int) (xs:List (List Int)),(marksR k xs).length=xs.length
 | _,[]=>rfl
 | k,r::rs=>by simp [marksR,ZgF]
theorem Zuy {xs:List (List Int)} {j:Nat} {r:List Int} (h:xs[j]?=some r):total (xs.take (j+1))=total (xs.take j)+r.length:=by
 induction xs generalizing j with
 | nil=>simp at h
 | cons x xs g=>
  cases j with
  | zero=>simp at h;subst h;simp [total]
  | succ j=>simp only [List.take_succ_cons,total];rw [g (by simpa using h)];omega
theorem ZqG {xs:List (List Int)} {j:Nat} {r:List Int} (h:xs[j]?=some r):∀ k:Int,(marksR k xs)[j]?=some (marks (k+(total (xs.take j):Int)) r.length):=by
 induction xs generalizing j with
 | nil=>simp at h
 | cons x xs g=>
  intro k
  cases j with
  | zero=>simp at h;subst h;simp [marksR,total]
  | succ j=>
   simp only [marksR,List.getElem?_cons_succ,List.take_succ_cons,total]
   rw [g (by simpa using h)]
   congr 2;omega
theorem ZnK (xs:List (List Int)) (j:Nat):total (xs.take j)<=total xs:=by
 induction xs generalizing j with
 | nil=>simp [total]
 | cons x xs g=>
  cases j with
  | zero=>simp [total]
  | succ j=>simp only [List.take_succ_cons,total];have:=g j;omega
theorem Zpr {xs:List (List Int)} {k:Int} (h:xs.length<=4194304) (hr:∀ r∈xs,r.length<=4194304) (u:0<=k) (h1:k<=9000000000000000000):ZfR xs k=some (k+(total xs:Int),marksR k xs):=by
 have y:=Zk4 xs hr
 have a2:total xs<=17592186044416:=Nat.le_trans y ω
 unfold ZfR
 let f:Nat->Int×Int×List (List Int):=fun j=>(k+(total (xs.take j):Int),(j:Int),(marksR k xs).take j++xs.drop j)
 have g:f 0=(k,0,xs):=by simp [f,total]
 have o:f xs.length=(k+(total xs:Int),(xs.length:Int),marksR k xs):=by
  simp only [f];rw [List.take_length,List.drop_length,List.append_nil,List.take_of_length_le (by rw [ZgF];omega)]
 rw [<-g,Ze8 f xs.length fun j x=>?_,o]
 ·refine Zc ?_
  rw [ZhS]
  have:decide ((xs.length:Int)<((marksR k xs).length:Int))=false:=by rw [ZgF];simp
  rw [this];rfl
 ·obtain ⟨r,c⟩:=ZaI (xs:=xs) (k:=j) x
  have w:((marksR k xs).take j).length=j:=by rw [List.length_take,ZgF];omega
  have hl:((marksR k xs).take j++xs.drop j).length=xs.length:=by rw [List.length_append,w,List.length_drop];omega
  have p:((marksR k xs).take j++xs.drop j)[j]?=some r:=by
   rw [List.getElem?_append_right ω,w,Nat.sub_self,List.getElem?_drop];simpa using c
  have a1:=ZnK xs j
  simp only [f]
  rw [ZhS]
  have:decide ((j:Int)<(((marksR k xs).take j++xs.drop j).length:Int))=true:=by rw [hl];simpa using x
  rw [this,Zax p]
  simp only [cond_true,Option.bind_some]
  rw [ZGv (hr r (List.mem_of_getElem? c)) ω ω]
  simp only [Option.bind_some]
  rw [wrapN x (by unfold M63;omega),Int.toNat_natCast]
  have hs:((marksR k xs).take j++xs.drop j).set j (marks (k+(total (xs.take j):Int)) r.length)=(marksR k xs).take (j+1)++xs.drop (j+1):=by
   rw [List.set_append,if_neg ω,w,Nat.sub_self,List.take_add_one,ZqG c]
   have s:xs.drop j=r::xs.drop (j+1):=by
    rw [List.drop_eq_getElem_cons x]
    congr 1
    have:=List.getElem?_eq_getElem (l:=xs) (i:=j) x
    rw [c] at this;exact (Option.some.inj this).symm
   rw [s];simp
  rw [hs,Zuy c,show k+(total (xs.take j):Int)+(r.length:Int)=k+((total (xs.take j)+r.length:Nat):Int) by omega]
theorem Zp3 {l:List Int} {hi:Int} (h:Rising l 0 hi):∀ n:Nat,(n:Int)<l.length->(n:Int)<=ix l n
 | 0,c=>(h 0 ω c).1.1
 | n+1,c=>by
  have:=Zp3 h n ω
  have f:=(h ((n+1:Nat):Int) ω c).2 ω
  rw [show ((n+1:Nat):Int)-1=(n:Int) by omega] at f
  omega
theorem ZxK {l:List Int} {lo hi:Int} (h:Rising l lo hi):l.Nodup:=by
 unfold List.Nodup
 rw [List.pairwise_iff_getElem]
 intro i j hi k g
 have h1:=Zyo h (i:=(i:Int)) (j:=(j:Int)) ω ω ω
 have c:=Zah (xs:=l) (i:=(i:Int)) ω ω
 have f:=Zah (xs:=l) (i:=(j:Int)) ω ω
 rw [Int.toNat_natCast,List.getElem?_eq_getElem ω] at c f
 rw [Option.some.inj c,Option.some.inj f]
 omega
theorem Zvg {d:Zaf} (h:ValidD d):Sts d.Points d.Blocks where
 v0:=by have:=h.p1;omega
 v1:=by have:=h.p2;omega
 m:=by have:=h.len;omega
 len:=fun s hs=>by
  obtain ⟨k,k0,k1,rfl⟩:=Z2 hs
  have u:=(h.blk k k0 k1).2
  have i:=h.p2
  by_cases hz:(ix d.Blocks k).length=0
  ·omega
  ·have l:=Zp3 u ((ix d.Blocks k).length-1) ω
   have o:=(u (((ix d.Blocks k).length-1:Nat):Int) ω ω).1.2
   omega
 nd:=fun s hs=>by
  obtain ⟨k,k0,k1,rfl⟩:=Z2 hs
  exact ZxK (h.blk k k0 k1).2
 rng:=fun s hs x c=>by
  obtain ⟨k,k0,k1,rfl⟩:=Z2 hs
  obtain ⟨j,f,g,rfl⟩:=Z2 c
  have:=((h.blk k k0 k1).2 j f g).1
  omega
theorem Zp6 {v m:Int} {rel:Int->Int->Bool} (v0:0<=v) (f:0<=m):(bipG v m rel).1.Colors.length<=1000/\(bipG v m rel).1.Edges.length<=1000:=by
 unfold bipG
 by_cases c:v+m>64
 ·rw [if_pos c];exact ⟨Nat.zero_le _,Nat.zero_le _⟩
 ·rw [if_neg c]
  by_cases d:((bipK v m rel v).length:Int)>512
  ·rw [if_pos d];exact ⟨Nat.zero_le _,Nat.zero_le _⟩
  ·rw [if_neg d]
   have g:=ZqA (z:=v) (o:=m)
   exact ⟨by show (cols v m).length<=1000;omega,by show (bipK v m rel v).length<=1000;omega⟩
theorem Zzi {o:Zg} (hs:Sz2 o.Rows) (l:Zas o=some true) (hi:ZbL o=some true):∃ r,Zcg o=some r/\Zce o=some r/\r.1.Colors.length<=1000/\r.1.Edges.length<=1000:=by
 have e:Zg.mk o.Kind o.Size o.Rows=o:=rfl
 have eG:∀ r:Za×Int,(Za.mk r.1.Colors r.1.Edges,r.2)=r:=fun r=>rfl
 have eH:∀ r:Za,Za.mk r.Colors r.Edges=r:=fun r=>rfl
 have hN:=hs.1
 by_cases h1:o.Kind=1
 ·have g:ValidSq o.Rows:=by
   refine Classical.byContradiction fun p=>?_
   have g:=(Zns hs).ne p
   have:Zas o=some false:=by unfold Zas;simp (disch:=omega) only [pz,g]
   rw [l] at this;cases this
  obtain ⟨r,c,j,k,u⟩:=ZF3 g hs
  refine ⟨r,?_,?_,by omega,u⟩
  ·unfold Zcg;simp (disch:=omega) only [pz,c,eG]
  ·unfold Zce;simp (disch:=omega) only [pz,j,eG]
 by_cases h2:o.Kind=2
 ·have g:ValidD ⟨o.Size,o.Rows⟩:=by
   refine Classical.byContradiction fun p=>?_
   have g:=(ZpL (d:=⟨o.Size,o.Rows⟩) hs).ne p
   have:Zas o=some false:=by unfold Zas;simp (disch:=omega) only [pz,g]
   rw [l] at this;cases this
  have a1:=Zvg g
  have c:=ZER a1
  have j:=Zrj a1
  have k:=(Zue (d:=⟨o.Size,o.Rows⟩) hs).eq g
  have w:0<=o.Size:=a1.v0
  obtain ⟨z1,z2⟩:=Zp6 (v:=o.Size) (m:=(o.Rows.length:Int)) (rel:=fun x i=>decide (x∈ix o.Rows i)) w ω
  refine ⟨bipG o.Size o.Rows.length fun x i=>decide (x∈ix o.Rows i),?_,?_,z1,z2⟩
  ·unfold Zcg
   dsimp only at c
   simp (disch:=omega) only [pz,c,eG]
  ·unfold Zce
   dsimp only at j
   simp (disch:=omega) only [pz,e,Zgi,Zc9 hs,Zlb,k,j,eG]
 by_cases y:o.Kind=5
 ·obtain ⟨f,a7,s⟩:=ZC0 hs l y
  obtain ⟨r,c,j,k⟩:=ZAr hs s
  have a3:=s.cs
  have a4:=s.ci
  have eF:Zd.mk f.Prime f.Degree f.Poly=f:=rfl
  have hz:r.1.Colors.length<=1000/\r.1.Edges.length<=1000:=by
   rcases k with rfl|⟨v,m,rel,v0,m0,rfl⟩
   ·exact ⟨Nat.zero_le _,Nat.zero_le _⟩
   ·exact Zp6 v0 m0
  refine ⟨r,?_,?_,hz⟩
  ·unfold Zcg
   simp (disch:=omega) only [pz,a3,eF,c,eG]
  ·unfold Zce
   simp (disch:=omega) only [pz,e,a4,j,eG]
 by_cases h6:o.Kind=6
 ·obtain ⟨r,c,j,k,u⟩:=ZpP hs
  have hr:r.2=true:=by
   have:Zas o=some r.2:=by unfold Zas;simp (disch:=omega) only [pz,c]
   rw [l] at this
   exact (Option.some.inj this).symm
  have hz:=k hr
  refine ⟨(r.1,0),?_,?_,by dsimp only;omega,by dsimp only;omega⟩
  ·unfold Zcg
   simp (disch:=omega) only [pz,c,eH]
  ·unfold Zce
   simp (disch:=omega) only [pz,e,Zmr,ZkQ,hi,j,eH]
 ·refine ⟨(nilG,6),?_,?_,Nat.zero_le _,Nat.zero_le _⟩
  ·unfold Zcg;simp (disch:=omega) only [pz,];rfl
  ·unfold Zce;simp (disch:=omega) only [pz,];rfl
theorem ZAs {o:Zg} (hs:Sz2 o.Rows) (B:Int):∃ r,ZjD o B=some r/\ZhE o B=some r:=by
 have e:Zg.mk o.Kind o.Size o.Rows=o:=rfl
 obtain ⟨c,h1,i⟩:=Zls hs
 unfold ZjD ZhE
 have j:=in_ok B 1 20000
 have f:=Zu0 B
 cases c
 ·exact ⟨(⟨#[]⟩,1),by simp (disch:=omega) only [pz,e,h1],by simp (disch:=omega) only [pz,e,i]⟩
 by_cases w:1<=B/\B<=20000
 ·rw [decide_eq_true w] at j f
  obtain ⟨r,k,l,p,s⟩:=Zzi hs h1 i
  have y:∀ r:Za,Za.mk r.Colors r.Edges=r:=fun r=>rfl
  by_cases u:r.2=0
  ·obtain ⟨x,k1,k2⟩:=ZGe (g:=r.1) ω ω w.1 w.2
   exact ⟨x,by simp (disch:=omega) only [pz,e,h1,j,k,y,k1],by simp (disch:=omega) only [pz,e,i,f,l,y,k2]⟩
  ·exact ⟨(⟨#[]⟩,r.2),by simp (disch:=omega) only [pz,e,h1,j,k],by simp (disch:=omega) only [pz,e,i,f,l]⟩
 ·rw [decide_eq_false w] at j f
  exact ⟨(⟨#[]⟩,2),by simp (disch:=omega) only [pz,e,h1,j],by simp (disch:=omega) only [pz,e,i,f]⟩
theorem ZAu {a:Z4} (h:ZmE a):Sz2 (Zg5 a).Rows:=by
 have e:(Zg5 a).Rows=a.Rows:=by simp [Zg5]
 rw [e]
 exact ⟨by have:=h.1;omega,fun b c=>by have:=(h.2 b c).1;omega⟩
theorem Zf8 (s:ByteArray):(byts s).length=s.size:=by
 unfold byts
 rw [List.length_map,Array.length_toList];rfl
theorem ZnH {s:ByteArray} {i:Int} (f:0<=i) (h1:i<(s.size:Int)):∃ c:UInt8,gSt s i=some c/\(c.toNat:Int)=ix (byts s) i:=by
 have hl:i.toNat<s.size:=ω
 refine ⟨s[i.toNat],?_,?_⟩
 ·unfold gSt
  rw [if_pos f]
  exact getElem?_pos s i.toNat hl
 ·have g:i.toNat<(byts s).length:=by rw [Zf8];exact hl
  have:(byts s)[i.toNat]?=some ((s[i.toNat]).toNat:Int):=by
   rw [List.getElem?_eq_getElem g]
   simp [byts]
   rfl
  have j:=Zah (xs:=byts s) f (by rw [Zf8];exact h1)
  rw [this] at j
  exact Option.some.inj j
structure Nam (s:ByteArray):Prop where
 s1:1<=(s.size:Int)
 s2:(s.size:Int)<=10
 fst:97<=ix (byts s) 0/\ix (byts s) 0<=122
 all:∀ i,0<=i->i<(s.size:Int)->(97<=ix (byts s) i/\ix (byts s) i<=122)\/(48<=ix (byts s) i/\ix (byts s) i<=57)
theorem ZqZ (s:ByteArray):IsQ (Zip s) (Nam s):=by
 unfold Zip Zms
 by_cases o:(s.size:Int)=0
 ·have e:s=⟨#[]⟩:=by
   have:s.data=#[]:=Array.eq_empty_of_size_eq_zero (by have:s.size=s.data.size:=rfl;omega)
   cases s;simp at this;rw [this]
  rw [(Zjr s ⟨#[]⟩).2 e]
  exact IsQ.f fun h=>by have:=h.s1;omega
 ·have ne:(s.toList==(⟨#[]⟩:ByteArray).toList)=false:=by
   cases u:s.toList==(⟨#[]⟩:ByteArray).toList with
   | false=>rfl
   | true=>
    have:=(Zjr s ⟨#[]⟩).1 u
    rw [this] at o
    exact absurd rfl o
  rw [ne]
  by_cases j:(s.size:Int)<=10
  ·obtain ⟨c,f,he⟩:=ZnH (s:=s) (i:=0) ω ω
   by_cases hf:97<=ix (byts s) 0/\ix (byts s) 0<=122
   ·simp (disch:=omega) only [pz,f,Za7,he]
    refine (Zav (P:=fun i=>(97<=ix (byts s) i/\ix (byts s) i<=122)\/(48<=ix (byts s) i/\ix (byts s) i<=57)) (n:=s.size) (Q:=True) ω ?_ ?_ fun _=>?_).congr ⟨fun g=>⟨by omega,j,hf,g.1⟩,fun g=>⟨g.all,trivial⟩⟩
    ·intro i k l w
     obtain ⟨c,f,he⟩:=ZnH (s:=s) k l
     by_cases hl:97<=ix (byts s) i
     ·by_cases x:ix (byts s) i<=122
      ·simp (disch:=omega) only [pz,ZcV,f,Za7,Zds,he]
      ·omega
     ·simp (disch:=omega) only [pz,ZcV,f,Za7,Zds,he]
    ·intro i k l w
     obtain ⟨c,f,he⟩:=ZnH (s:=s) k l
     by_cases hl:97<=ix (byts s) i
     ·simp (disch:=omega) only [pz,ZcV,f,Za7,Zds,he]
     ·by_cases y:48<=ix (byts s) i
      ·simp (disch:=omega) only [pz,ZcV,f,Za7,Zds,he]
      ·simp (disch:=omega) only [pz,ZcV,f,Za7,Zds,he]
    ·rw [Zc (r:=true) (by simp (disch:=omega) only [pz,ZcV])];exact IsQ.t trivial
   ·have p:IsQ (some false) (Nam s):=IsQ.f fun h=>hf h.fst
    by_cases hl:97<=ix (byts s) 0
    ·simp (disch:=omega) only [pz,f,Za7,he];exact p
    ·simp (disch:=omega) only [pz,f,Za7,he];exact p
  ·simp (disch:=omega) only [pz,]
   exact IsQ.f fun h=>j h.s2
theorem Ztb (s:ByteArray):IsQ (ZiT s) (Nam s):=by
 have w:=Zf8 s
 unfold ZiT ZlR
 by_cases u:(s.size:Int)<1
 ·simp (disch:=omega) only [pz,]
  exact IsQ.f fun h=>by have:=h.s1;omega
 ·by_cases c:(s.size:Int)<=10
  ·simp (disch:=omega) only [pz,]
   refine (Zav (P:=fun i=>(97<=ix (byts s) i/\ix (byts s) i<=122)\/(¬ i=0/\48<=ix (byts s) i/\ix (byts s) i<=57)) (n:=s.size) (Q:=True) ω ?_ ?_ fun _=>?_).congr ⟨fun g=>⟨by omega,c,?_,fun i a b=>?_⟩,fun g=>⟨fun i a b=>?_,trivial⟩⟩
   ·intro i f j k
    by_cases hl:97<=ix (byts s) i
    ·by_cases p:ix (byts s) i<=122
     ·simp (disch:=omega) only [pz,Zbh,Zbd,Za4]
     ·omega
    ·simp (disch:=omega) only [pz,Zbh,Zbd,Za4]
   ·intro i f j k
    by_cases hl:97<=ix (byts s) i
    ·by_cases hz:i=0
     ·simp (disch:=omega) only [pz,Zbh,Zbd,Za4]
     ·simp (disch:=omega) only [pz,Zbh,Zbd,Za4]
    ·by_cases hz:i=0
     ·by_cases l:48<=ix (byts s) i
      ·simp (disch:=omega) only [pz,Zbh,Zbd,Za4]
      ·simp (disch:=omega) only [pz,Zbh,Zbd,Za4]
     ·by_cases l:48<=ix (byts s) i
      ·simp (disch:=omega) only [pz,Zbh,Zbd,Za4]
      ·simp (disch:=omega) only [pz,Zbh,Zbd,Za4]
   ·rw [Zc (r:=true) (by simp (disch:=omega) only [pz,Zbh])];exact IsQ.t trivial
   ·have:=g.1 0 ω ω;omega
   ·have:=g.1 i a b;omega
   ·have h1:=g.all i a b
    have o:=g.fst
    by_cases hz:i=0
    ·subst hz;exact .inl o
    ·omega
  ·simp (disch:=omega) only [pz,]
   exact IsQ.f fun h=>c h.s2
instance :Inhabited Ze:=⟨⟨⟨#[]⟩,⟨0,0,[]⟩,⟨#[]⟩⟩⟩
def ObjV (o:Zg):Prop:=Zas o=some true
theorem Zr9 {o:Zg} (hs:Sz2 o.Rows):IsQ (Zas o) (ObjV o):=by
 obtain ⟨c,h1,f⟩:=Zls hs
 refine ⟨c,h1,?_⟩
 unfold ObjV
 rw [h1]
 exact ⟨fun h=>by rw [h],fun h=>Option.some.inj h⟩
theorem Zuj {o:Zg} (hs:Sz2 o.Rows):IsQ (ZbL o) (ObjV o):=by
 obtain ⟨c,h1,f⟩:=Zls hs
 refine ⟨c,f,?_⟩
 unfold ObjV
 rw [h1]
 exact ⟨fun h=>by rw [h],fun h=>Option.some.inj h⟩
structure ItemV (x:Ze):Prop where
 nam:Nam x.Name
 obj:ObjV x.Object
 k1:1<=(x.Key.size:Int)
 k2:(x.Key.size:Int)<=4000
theorem Zoj {x:Ze} (hs:Sz2 x.Object.Rows):IsQ (Zj5 x) (ItemV x):=by
 have e:Zg.mk x.Object.Kind x.Object.Size x.Object.Rows=x.Object:=rfl
 unfold Zj5
 by_cases h1:Nam x.Name
 ·have c:=(ZqZ x.Name).eq h1
  by_cases f:ObjV x.Object
  ·have q2:=(Zr9 hs).eq f
   by_cases g:1<=(x.Key.size:Int)
   ·by_cases i:(x.Key.size:Int)<=4000
    ·simp (disch:=omega) only [pz,c,e,q2];exact IsQ.t ⟨h1,f,g,i⟩
    ·simp (disch:=omega) only [pz,c,e,q2];exact IsQ.f fun h=>i h.k2
   ·simp (disch:=omega) only [pz,c,e,q2];exact IsQ.f fun h=>g h.k1
  ·have q2:=(Zr9 hs).ne f
   simp (disch:=omega) only [pz,c,e,q2];exact IsQ.f fun h=>f h.obj
 ·have c:=(ZqZ x.Name).ne h1
  simp (disch:=omega) only [pz,c];exact IsQ.f fun h=>h1 h.nam
theorem ZoZ {x:Ze} (hs:Sz2 x.Object.Rows):IsQ (ZjN x) (ItemV x):=by
 have e:Zg.mk x.Object.Kind x.Object.Size x.Object.Rows=x.Object:=rfl
 unfold ZjN
 by_cases h1:Nam x.Name
 ·have c:=(Ztb x.Name).eq h1
  by_cases f:ObjV x.Object
  ·have q2:=(Zuj hs).eq f
   by_cases g:1<=(x.Key.size:Int)
   ·by_cases i:(x.Key.size:Int)<=4000
    ·simp (disch:=omega) only [pz,c,e,q2];exact IsQ.t ⟨h1,f,g,i⟩
    ·simp (disch:=omega) only [pz,c,e,q2];exact IsQ.f fun h=>i h.k2
   ·simp (disch:=omega) only [pz,c,e,q2];exact IsQ.f fun h=>g h.k1
  ·have q2:=(Zuj hs).ne f
   simp (disch:=omega) only [pz,c,e,q2];exact IsQ.f fun h=>f h.obj
 ·have c:=(Ztb x.Name).ne h1
  simp (disch:=omega) only [pz,c];exact IsQ.f fun h=>h1 h.nam
theorem Zk1:∀ a b:List UInt8,(Op.bytesLess a b||a==b)=!Op.bytesLess b a
 | [],[]=>rfl
 | [],b::y=>rfl
 | a::x,[]=>rfl
 | a::x,b::y=>by
  have l:=Zk1 x y
  show ((decide (a<b)||(a==b&&Op.bytesLess x y))||((a::x)==(b::y)))=!(decide (b<a)||(b==a&&Op.bytesLess y x))
  rw [show ((a::x)==(b::y))=(a==b&&x==y) from rfl]
  by_cases h:a=b
  ·subst h
   have h1:decide (a<a)=false:=by simp
   rw [h1,beq_self_eq_true]
   simpa using l
  ·have h1:(a==b)=false:=by simpa using h
   have c:(b==a)=false:=by simpa using fun e=>h e.symm
   rw [h1,c]
   simp only [Bool.false_and,Bool.or_false]
   have f:a<b\/b<a:=by
    rcases Nat.lt_or_gt_of_ne (fun e=>h (UInt8.toNat_inj.1 e)) with g|g
    ·exact .inl (UInt8.lt_iff_toNat_lt.2 g)
    ·exact .inr (UInt8.lt_iff_toNat_lt.2 g)
   rcases f with g|g
   ·have:¬ b<a:=fun k=>by
     have i:=UInt8.lt_iff_toNat_lt.1 g
     have j:=UInt8.lt_iff_toNat_lt.1 k
     omega
    simp [g,this]
   ·have:¬ a<b:=fun k=>by
     have i:=UInt8.lt_iff_toNat_lt.1 g
     have j:=UInt8.lt_iff_toNat_lt.1 k
     omega
    simp [g,this]
def Like (a b:Ze):Prop:=a.Object.Kind=b.Object.Kind/\a.Key=b.Key
theorem ZjV (a b:Ze):IsQ (Zfk a b) (Like a b):=by
 unfold Zfk Like
 by_cases h:a.Object.Kind=b.Object.Kind
 ·simp (disch:=omega) only [pz,]
  exact ⟨_,rfl,by rw [Zjr];simp [h]⟩
 ·simp (disch:=omega) only [pz,]
  exact IsQ.f fun g=>h g.1
theorem ZpS (a b:Ze):IsQ (Zkw a b) (Like a b):=ZjV a b
def Szc (c:List Ze):Prop:=(c.length:Int)<=1048576/\∀ x∈c,Sz2 x.Object.Rows
structure At (c:List Ze) (i:Int):Prop where
 item:ItemV (ix c i)
 ord:0<i->Op.bytesLess (ix c (i-1)).Name.toList (ix c i).Name.toList=true
 new:∀ j,0<=j->j<i->¬ Like (ix c i) (ix c j)
structure CatV (c:List Ze):Prop where
 at_:∀ i,0<=i->i<(c.length:Int)->At c i
 n:(c.length:Int)<=24
theorem ZuR {c:ZL} {i:Int} (hs:Szc c.Items) (l:0<=i) (h1:i<(c.Items.length:Int)):∃ b:Bool,Zhu c i=some (bif b then .inl (i+1) else .inr false)/\(b=true↔∀ j,0<=j->j<i->¬ Like (ix c.Items i) (ix c.Items j)):=by
 have o:=hs.1
 unfold Zhu
 refine Zdd (B:=Zfy c i) (P:=fun j=>¬ Like (ix c.Items i) (ix c.Items j)) (t:=.inl (i+1)) (f:=.inr false) (i:=0) (n:=i) ω (fun k a b g=>?_) (fun k a b g=>?_) ?_
 ·have q:=(ZjV (ix c.Items i) (ix c.Items k)).ne g
  simp (disch:=omega) only [pz,Zfy,q]
 ·have q:=(ZjV (ix c.Items i) (ix c.Items k)).eq (Classical.byContradiction g)
  simp (disch:=omega) only [pz,Zfy,q]
 ·simp (disch:=omega) only [pz,Zfy]
theorem ZvN {c:ZL} (hs:Szc c.Items):IsQ (ZhN c) (CatV c.Items):=by
 have u:=hs.1
 unfold ZhN
 refine (Zav (P:=At c.Items) (n:=c.Items.length) (Q:=(c.Items.length:Int)<=24) ω ?_ ?_ fun _=>?_).congr ⟨fun g=>⟨g.1,g.2⟩,fun g=>⟨g.at_,g.n⟩⟩
 ·intro i j k l
  have f:=(Zoj (hs.2 _ (Zo j k))).eq l.item
  obtain ⟨b,n1,n2⟩:=ZuR hs j k
  rw [n2.2 l.new] at n1
  by_cases hi:0<i
  ·have o:=l.ord hi
   simp (disch:=omega) only [pz,ZbV,f,o,n1]
  ·simp (disch:=omega) only [pz,ZbV,f,n1]
 ·intro i j k l
  by_cases h1:ItemV (ix c.Items i)
  ·have f:=(Zoj (hs.2 _ (Zo j k))).eq h1
   obtain ⟨b,n1,n2⟩:=ZuR hs j k
   by_cases hi:0<i
   ·cases o:Op.bytesLess (ix c.Items (i-1)).Name.toList (ix c.Items i).Name.toList with
    | false=>simp (disch:=omega) only [pz,ZbV,f,o]
    | true=>
     have:b=false:=by
      cases b with
      | false=>rfl
      | true=>exact absurd ⟨h1,fun _=>o,n2.1 rfl⟩ l
     rw [this] at n1
     simp (disch:=omega) only [pz,ZbV,f,o,n1]
   ·have:b=false:=by
     cases b with
     | false=>rfl
     | true=>exact absurd ⟨h1,fun h=>absurd h hi,n2.1 rfl⟩ l
    rw [this] at n1
    simp (disch:=omega) only [pz,ZbV,f,n1]
  ·have f:=(Zoj (hs.2 _ (Zo j k))).ne h1
   simp (disch:=omega) only [pz,ZbV,f]
 ·by_cases h:(c.Items.length:Int)<=24
  ·rw [Zc (r:=true) (by simp (disch:=omega) only [pz,ZbV])];exact IsQ.t h
  ·rw [Zc (r:=false) (by simp (disch:=omega) only [pz,ZbV])];exact IsQ.f h
theorem Zsk {c:List Ze} {x:Ze} {i:Int} (hN:(c.length:Int)<=1048576) (h0:0<=i) (h1:i<=(c.length:Int)):∃ r:Int,Zcs (c.take i.toNat) x=some r/\(r<0↔∀ j,0<=j->j<i->¬ Like x (ix c j)):=by
 unfold Zcs Zik
 have hl:(c.take i.toNat).length=i.toNat:=by rw [List.length_take];omega
 have hf:∀ y∈c.take i.toNat,IsQ (Zb1 y x) (Like x y):=fun y _=>(ZpS x y).bind_id
 obtain ⟨r,p,s⟩:=Zoz (xs:=c.take i.toNat) (B:=ZbS (c.take i.toNat) (fun g=>Zb1 g x)) (f:=fun g=>Zb1 g x) (q:=fun y=>Like x y) (by unfold M63;omega) hf
  (fun k y hy=>by
   have:=Z0 hy
   simp (disch:=omega) only [pz,ZbS]
   rw [ZQ hy])
  (by simp (disch:=omega) only [pz,ZbS])
 refine ⟨r,?_,?_⟩
 ·show (loop (ZbS (c.take i.toNat) (fun g=>Zb1 g x)) 0).bind _=_
  rw [p];rfl
 ·rcases s with ⟨u,l⟩|⟨k,y,u,l,h6,_⟩
  ·refine ⟨fun _ j o w=>?_,fun _=>by omega⟩
   have:=l (ix c j) (by
    rw [<-ZdG (i:=i) o w]
    exact Zo o ω)
   exact this
  ·refine ⟨fun h=>by omega,fun h=>?_⟩
   have hk:=Z0 l
   have e:=ZQ l
   rw [ZdG (i:=i) ω ω] at e
   rw [<-e] at h6
   exact absurd h6 (h k ω ω)
theorem ZFn {c:ZL} (hs:Szc c.Items):IsQ (Zi2 c) (CatV c.Items):=by
 have hN:=hs.1
 have u:∀ x:Ze,Ze.mk x.Name (Zg.mk x.Object.Kind x.Object.Size x.Object.Rows) x.Key=x:=fun x=>rfl
 unfold Zi2
 have tk:∀ i:Int,0<=i->i<(c.Items.length:Int)->gSl c.Items 0 i=some (c.Items.take i.toNat):=fun i a b=>by
  rw [ZbT ω ω ω];rfl
 refine (Zav (P:=At c.Items) (n:=c.Items.length) (Q:=(c.Items.length:Int)<=24) ω ?_ ?_ fun _=>?_).congr ⟨fun g=>⟨g.1,g.2⟩,fun g=>⟨g.at_,g.n⟩⟩
 ·intro i f j o
  have k:=(ZoZ (hs.2 _ (Zo f j))).eq o.item
  obtain ⟨r,n1,n2⟩:=Zsk (x:=ix c.Items i) hN f (Int.le_of_lt j)
  have hr:=n2.2 o.new
  have w:=tk i f j
  by_cases hi:0<i
  ·have y:=o.ord hi
   have l:=Zk1 (ix c.Items i).Name.toList (ix c.Items (i-1)).Name.toList
   rw [y] at l
   simp (disch:=omega) only [pz,Zb6,u,k,l,w,n1]
  ·simp (disch:=omega) only [pz,Zb6,u,k,w,n1]
 ·intro i f j o
  have w:=tk i f j
  by_cases h1:ItemV (ix c.Items i)
  ·have k:=(ZoZ (hs.2 _ (Zo f j))).eq h1
   obtain ⟨r,n1,n2⟩:=Zsk (x:=ix c.Items i) hN f (Int.le_of_lt j)
   by_cases hi:0<i
   ·have l:=Zk1 (ix c.Items i).Name.toList (ix c.Items (i-1)).Name.toList
    cases y:Op.bytesLess (ix c.Items (i-1)).Name.toList (ix c.Items i).Name.toList with
    | false=>
     rw [y] at l
     simp (disch:=omega) only [pz,Zb6,u,k,l]
    | true=>
     rw [y] at l
     have:¬ r<0:=fun h=>o ⟨h1,fun _=>y,n2.1 h⟩
     simp (disch:=omega) only [pz,Zb6,u,k,l,w,n1]
   ·have:¬ r<0:=fun h=>o ⟨h1,fun h=>absurd h hi,n2.1 h⟩
    simp (disch:=omega) only [pz,Zb6,u,k,w,n1]
  ·have k:=(ZoZ (hs.2 _ (Zo f j))).ne h1
   simp (disch:=omega) only [pz,Zb6,u,k]
 ·by_cases h:(c.Items.length:Int)<=24
  ·rw [Zc (r:=true) (by simp (disch:=omega) only [pz,Zb6])];exact IsQ.t h
  ·rw [Zc (r:=false) (by simp (disch:=omega) only [pz,Zb6])];exact IsQ.f h
theorem ZxW {r:List (List Int)} (h:SmL (SmL (fun _=>True)) r):Sz2 (List.map (List.map fun x=>x) r):=by
 have e:List.map (List.map fun x=>x) r=r:=by simp
 rw [e]
 exact ⟨by have:=h.1;omega,fun b c=>by have:=(h.2 b c).1;omega⟩
theorem ZFO {a:Zag} (h:Zo3 a):Szc (Zjs a).Items:=by
 refine ⟨?_,fun x c=>?_⟩
 ·have:(Zjs a).Items.length=a.Items.length:=by simp [Zjs]
  have:=h.1
  omega
 ·obtain ⟨y,g,rfl⟩:=List.mem_map.1 (show x∈a.Items.map ZhX from c)
  exact ZxW (h.2 y g)
theorem ZDw {c:ZL} (h:Szc c.Items):ZrR c:=by
 refine ⟨by unfold M63;have:=h.1;omega,fun x f=>?_⟩
 have g:=h.2 x f
 exact ⟨by unfold M63;have:=g.1;omega,fun y j=>⟨by unfold M63;have:=g.2 y j;omega,fun _ _=>trivial⟩⟩
theorem ZFh {xs:List (List Int)} {k:Int} (h:xs.length<=4194304) (y:∀ r∈xs,r.length<=4194304) (o:0<=k) (h1:k<=9000000000000000000):ZiM (marksR k xs) k=some (k+(total xs:Int)):=by
 have x:=Zk4 xs y
 have a1:total xs<=17592186044416:=Nat.le_trans x ω
 unfold ZiM
 let f:Nat->Int×Int:=fun j=>(k+(total (xs.take j):Int),(j:Int))
 have g:f 0=(k,0):=by simp [f,total]
 have i:f xs.length=(k+(total xs:Int),(xs.length:Int)):=by simp only [f];rw [List.take_length]
 rw [<-g,Ze8 f xs.length fun j w=>?_,i]
 ·refine Zc ?_
  rw [Zmf]
  have:decide ((xs.length:Int)<((marksR k xs).length:Int))=false:=by rw [ZgF];simp
  rw [this];rfl
 ·obtain ⟨r,c⟩:=ZaI (xs:=xs) (k:=j) w
  have a0:=ZnK xs j
  have l:=ZnK xs (j+1)
  simp only [f]
  rw [Zmf]
  have:decide ((j:Int)<((marksR k xs).length:Int))=true:=by rw [ZgF];simpa using w
  rw [this,Zax (ZqG c k)]
  simp only [cond_true,Option.bind_some]
  rw [ZCD (y r (List.mem_of_getElem? c)) ω ω]
  simp only [Option.bind_some]
  have u:decide (k+(total (xs.take j):Int)+(r.length:Int)<0)=false:=by simp;omega
  rw [u]
  simp only [cond_false]
  rw [wrapN w (by unfold M63;omega),Zuy c,show k+(total (xs.take j):Int)+(r.length:Int)=k+((total (xs.take j)+r.length:Nat):Int) by omega]
theorem ZrK {a b:ByteArray} (h:a.size+b.size<=1000):gFit a b=some ():=by
 unfold gFit
 rw [if_pos]
 have:IntKind.i64.max=9223372036854775807:=rfl
 omega
theorem gByt1 {x:Int} (c:0<=x) (h1:x<=255):gByt [x]=some (bstr [x]):=by
 unfold gByt
 rw [if_pos]
 intro y g
 simp at g
 omega
theorem bstr1 (x:Int):(bstr [x]).size=1:=rfl
theorem Zyc (a b:ByteArray):(a++b).size=a.size+b.size:=by simp
theorem Zyf:∀ (n:Nat) (k:Int) (l:ByteArray),0<=k->k<10^n->k<=9223372036854775807->l.size+n<=100->∃ t,loop ZgD (k,l)=some t:=by
 have o:∀ l:ByteArray,l.size<=100->loop ZgD (0,l)=some ((⟨#[109]⟩:ByteArray)++l):=fun l h=>by
  have u:gFit ⟨#[109]⟩ l=some ():=ZrK (by show 1+l.size<=1000;omega)
  refine Zc ?_
  simp (disch:=omega) only [pz,ZgD,u]
 intro n
 induction n with
 | zero=>
  intro k l c h1 _ f
  have:k=0:=by simp at h1;omega
  subst this
  exact ⟨_,o l ω⟩
 | succ n ih=>
  intro k l c h1 j f
  by_cases hk:k=0
  ·subst hk;exact ⟨_,o l ω⟩
  ·have w:Int.tmod k 10=k%10:=Int.tmod_eq_emod_of_nonneg c
   have g:Int.tdiv k 10=k/10:=Int.tdiv_eq_ediv_of_nonneg c
   have w1:ε.wrap (48+k%10)=48+k%10:=Zat ω ω
   have w2:IntKind.u8.wrap (48+k%10)=48+k%10:=u8_of ω ω
   have i:=gByt1 (x:=48+k%10) ω ω
   have u:gFit (bstr [48+k%10]) l=some ():=ZrK (by rw [bstr1];omega)
   have hp:k/10<10^n:=by
    have e:(10:Int)^(n+1)=10^n*10:=Int.pow_succ ..
    omega
   obtain ⟨t,y⟩:=ih (k/10) (bstr [48+k%10]++l) ω hp ω (by rw [Zyc,bstr1];omega)
   refine ⟨t,?_⟩
   rw [<-y]
   refine ZG ?_
   simp (disch:=omega) only [pz,ZgD,w,g,w1,w2,i,u]
theorem mtext {k:Int} (h1:k<=9223372036854775807):∃ t,Zdb k=some t:=by
 unfold Zdb
 by_cases h:k<=0
 ·exact ⟨⟨#[109,48]⟩,by simp (disch:=omega) only [pz,]⟩
 ·obtain ⟨t,g⟩:=Zyf 19 k ⟨#[]⟩ ω ω h1 (by decide)
  exact ⟨t,by simp (disch:=omega) only [pz,g]⟩
noncomputable def mtx (k:Int):ByteArray:=(Zdb k).getD ⟨#[]⟩
theorem Ztn {k:Int} (h1:k<=9223372036854775807):Zdb k=some (mtx k):=by
 obtain ⟨t,g⟩:=mtext h1
 unfold mtx
 rw [g];rfl
noncomputable def mIt (k:Int) (x:Ze):Ze:=⟨mtx k,⟨k+1,k+1+1,marksR (k+1+1+1) x.Object.Rows⟩,mtx (k+1+1+1+(total x.Object.Rows:Int))⟩
def kIt (k:Int) (x:Ze):Int:=k+1+1+1+(total x.Object.Rows:Int)+1
noncomputable def mItems:Int->List Ze->List Ze
 | _,[]=>[]
 | k,x::xs=>mIt k x::mItems (kIt k x) xs
def kItems:Int->List Ze->Int
 | k,[]=>k
 | k,x::xs=>kItems (kIt k x) xs
theorem ZnL {r:List (List Int)} (h:Sz2 r):total r<=4398046511104:=by
 have h1:=h.1
 have f:=Zk4 r fun x c=>by have:=h.2 x c;omega
 omega
theorem gMid {α:Type} {A C:List α} {y:α}:gIdx (A++y::C) (A.length:Int)=some y:=by
 unfold gIdx
 rw [if_pos ω,Int.toNat_natCast,List.getElem?_append_right (Nat.le_refl _),Nat.sub_self];rfl
theorem sMid {α:Type} {A C:List α} {y z:α}:(A++y::C).set A.length z=A++z::C:=by
 rw [List.set_append_right _ _ (Nat.le_refl _),Nat.sub_self];rfl
theorem iMid {α:Type} [Inhabited α] {A C:List α} {y:α}:ix (A++y::C) (A.length:Int)=y:=ixMid rfl
theorem Zxy {A C:List Ze} {b:Ze} {k:Int} (hs:Sz2 b.Object.Rows) (g:0<=k) (h1:k<=8900000000000000000) (o:A.length+C.length<=4194304):
  ZdP (k,(A.length:Int),A++b::C)=some (.inl (kIt k b,(A.length:Int)+1,A++mIt k b::C)):=by
 have hl:((A++b::C).length:Int)=(A.length:Int)+1+(C.length:Int):=by simp;omega
 have u:=ZnL hs
 have j:=Zpr (xs:=b.Object.Rows) (k:=k+1+1+1) (by have:=hs.1;omega) (fun r l=>by have:=hs.2 r l;omega) ω ω
 have c:=Ztn (k:=k) ω
 have f:=Ztn (k:=k+1+1+1+(total b.Object.Rows:Int)) ω
 have w1:ε.wrap (k+1+1+1+(total b.Object.Rows:Int)+1)=k+1+1+1+(total b.Object.Rows:Int)+1:=Zat ω ω
 simp (disch:=omega) only [pz,ZdP,gMid,iMid,sMid,c,j,f,w1,mIt,kIt]
theorem ZA2:∀ (C A:List Ze) (k:Int),(∀ x∈C,Sz2 x.Object.Rows)->0<=k->k+C.length*4398046511108<=8900000000000000000->A.length+C.length<=4194304 ->
  loop ZdP (k,(A.length:Int),A++C)=some (kItems k C,A++mItems k C):=by
 intro C
 induction C with
 | nil=>
  intro A k _ c _ j
  refine Zc ?_
  have hl:(((A++[]).length:Nat):Int)=(A.length:Int):=by simp
  simp (disch:=omega) only [pz,ZdP,hl,kItems,mItems,List.append_nil]
 | cons b C l=>
  intro A k hs c h1 j
  rw [List.length_cons] at h1 j
  have f:=hs b (List.mem_cons_self ..)
  have o:=ZnL f
  rw [ZG (Zxy f c ω ω)]
  have e:A++mIt k b::C=(A++[mIt k b])++C:=by simp
  have el:(A.length:Int)+1=((A++[mIt k b]).length:Int):=by simp
  rw [e,el,l (A++[mIt k b]) (kIt k b) (fun x g=>hs x (List.mem_cons_of_mem _ g)) (by unfold kIt;omega) (by unfold kIt;omega) (by simp;omega)]
  simp [kItems,mItems]
theorem Zth:∀ (C:List Ze) (k:Int),k<=kItems k C
 | [],k=>Int.le_refl _
 | x::C,k=>by
  have:=Zth C (kIt k x)
  unfold kItems
  unfold kIt at this ⊢
  omega
theorem ZGJ {c:ZL} (hs:Szc c.Items):Zio c 1=some (kItems 1 c.Items,⟨mItems 1 c.Items⟩):=by
 have h:=ZA2 c.Items [] 1 hs.2 ω (by have:=hs.1;omega) (by have:=hs.1;simp;omega)
 have e:ZkB c.Items 1=some (kItems 1 c.Items,mItems 1 c.Items):=h
 unfold Zio
 simp (disch:=omega) only [pz,e]
def Bl (a b:ByteArray):Prop:=Op.bytesLess a.toList b.toList=true
instance (a b:ByteArray):Decidable (Bl a b):=inferInstanceAs (Decidable (_=true))
theorem ZHK (a:List UInt8):Op.bytesLess a a=false:=by
 have h:=Zk1 a a
 have e:(a==a)=true:=by simp
 rw [e,Bool.or_true] at h
 cases c:Op.bytesLess a a with
 | false=>rfl
 | true=>rw [c] at h;cases h
theorem ZtZ:∀ a b c:List UInt8,Op.bytesLess a b=true->Op.bytesLess b c=true->Op.bytesLess a c=true
 | a,[],c,h,_=>by cases a<;>cases h
 | _,_::_,[],_,k=>by cases k
 | [],_::_,_::_,_,_=>rfl
 | a::x,b::y,c::z,h,k=>by
  have j:(decide (a<b)||(a==b&&Op.bytesLess x y))=true:=h
  have k':(decide (b<c)||(b==c&&Op.bytesLess y z))=true:=k
  show (decide (a<c)||(a==c&&Op.bytesLess x z))=true
  simp only [Bool.or_eq_true,decide_eq_true_eq,Bool.and_eq_true,beq_iff_eq] at j k' ⊢
  have l:∀ {p q r:UInt8},p<q->q<r->p<r:=fun f g=>by
   have f:=UInt8.lt_iff_toNat_lt.1 f
   have g:=UInt8.lt_iff_toNat_lt.1 g
   exact UInt8.lt_iff_toNat_lt.2 ω
  rcases j with j|⟨rfl,j⟩
  ·rcases k' with k'|⟨rfl,k'⟩
   ·exact .inl (l j k')
   ·exact .inl j
  ·rcases k' with k'|⟨rfl,k'⟩
   ·exact .inl k'
   ·exact .inr ⟨rfl,ZtZ x y z j k'⟩
theorem Bl.trans {a b c:ByteArray} (h:Bl a b) (k:Bl b c):Bl a c:=ZtZ _ _ _ h k
theorem Bl.irr {a:ByteArray} (h:Bl a a):False:=by
 unfold Bl at h;rw [ZHK] at h;cases h
def Rise (c:List Ze):Prop:=∀ i j:Int,0<=i->i<j->j<(c.length:Int)->Bl (ix c i).Name (ix c j).Name
structure Plc (c:List Ze) (name:ByteArray) (k:Int) (b:Bool):Prop where
 k0:0<=k
 k1:k<=(c.length:Int)
 lo:∀ j,0<=j->j<k->Bl (ix c j).Name name
 hi:∀ j,k<=j->j<(c.length:Int)->¬ Bl (ix c j).Name name
 eq:b=true↔k<(c.length:Int)/\(ix c k).Name=name
theorem Plc.none {c:List Ze} {w:ByteArray} {k:Int} {b:Bool} (l:Rise c) (p:Plc c w k b) (f:b=false):∀ j,0<=j->j<(c.length:Int)->¬ (ix c j).Name=w:=fun j o h1 e=>by
 have u:k<=j:=by
  rcases Int.lt_or_le j k with g|g
  ·have:=p.lo j o g
   rw [e] at this
   exact this.irr.elim
  ·exact g
 by_cases s:k=j
 ·subst s
  rw [p.eq.2 ⟨h1,e⟩] at f;cases f
 ·have i:=l k j p.k0 ω h1
  rw [e] at i
  exact p.hi k (Int.le_refl _) ω i
theorem Zwh {x:Ze} (hs:Sz2 x.Object.Rows):ZiJ x=some x:=by
 unfold ZiJ
 have h:=Zq1 hs
 simp (disch:=omega) only [pz,h]
theorem ZHA {x:Ze} (hs:Sz2 x.Object.Rows):Zj7 x=some x:=by
 unfold Zj7 Zmd
 have h:=Zc9 hs
 simp (disch:=omega) only [pz,h]
theorem ZAc {o:Zg} (hs:Sz2 o.Rows) (B:Int):∃ r,ZhP o B=some r/\Zh2 o B=some r:=by
 have e:Zg.mk o.Kind o.Size o.Rows=o:=rfl
 obtain ⟨q,h1,f⟩:=ZAs hs B
 unfold ZhP Zh2
 by_cases c:q.2=0
 ·by_cases d:(q.1.size:Int)>4000
  ·exact ⟨(⟨#[]⟩,5),by simp (disch:=omega) only [pz,h1],by simp (disch:=omega) only [pz,e,f]⟩
  ·exact ⟨(q.1,0),by simp (disch:=omega) only [pz,h1],by simp (disch:=omega) only [pz,e,f]⟩
 ·exact ⟨(⟨#[]⟩,q.2),by simp (disch:=omega) only [pz,h1],by simp (disch:=omega) only [pz,e,f]⟩
theorem ZEP {c:List Ze} {x:Ze} (hN:(c.length:Int)<=1048576):∃ r:Int,Zcs c x=some r/\(r=-1/\(∀ j,0<=j->j<(c.length:Int)->¬ Like (ix c j) x)\/0<=r/\r<(c.length:Int)/\Like (ix c r) x/\∀ j,0<=j->j<r->¬ Like (ix c j) x):=by
 unfold Zcs Zik
 obtain ⟨r,p,s⟩:=Zoz (xs:=c) (B:=ZbS c (fun i=>Zb1 i x)) (f:=fun i=>Zb1 i x) (q:=fun y=>Like x y) (by unfold M63;omega) (fun y _=>(ZpS x y).bind_id)
  (fun k y hy=>by
   have:=Z0 hy
   simp (disch:=omega) only [pz,ZbS]
   rw [ZQ hy])
  (by simp (disch:=omega) only [pz,ZbS])
 have w:∀ {a b:Ze},Like a b->Like b a:=fun h=>⟨h.1.symm,h.2.symm⟩
 refine ⟨r,?_,?_⟩
 ·show (loop (ZbS c (fun i=>Zb1 i x)) 0).bind _=_
  rw [p];rfl
 ·rcases s with ⟨o,l⟩|⟨k,y,o,l,h6,u⟩
  ·exact .inl ⟨o,fun j a b g=>l _ (Zo a b) (w g)⟩
  ·have hk:=Z0 l
   subst o
   refine .inr ⟨by omega,by omega,by rw [ZQ l];exact w h6,fun j a b g=>?_⟩
   obtain ⟨m,rfl⟩:=Int.eq_ofNat_of_zero_le a
   exact u m _ ω (Zah a ω) (w g)
theorem ZB9 {c:ZL} (hs:Szc c.Items) {o:Zg} (ho:Sz2 o.Rows) (B:Int):∃ r,Zic c o B=some r/\ZgL c o B=some r/\Sz2 r.1.Object.Rows:=by
 have hN:=hs.1
 have e:ZL.mk c.Items=c:=rfl
 have f:Zg.mk o.Kind o.Size o.Rows=o:=rfl
 have ei:∀ x:Ze,Ze.mk x.Name (Zg.mk x.Object.Kind x.Object.Size x.Object.Rows) x.Key=x:=fun x=>rfl
 obtain ⟨b,h1,j⟩:=two_q (ZvN hs) (ZFn hs)
 obtain ⟨d,k,l⟩:=Zls ho
 obtain ⟨q,k1,k2⟩:=ZAc ho B
 unfold Zic ZgL
 have z:Sz2 ([]:List (List Int)):=⟨by simp,by simp⟩
 cases b with
 | false=>exact ⟨(⟨⟨#[]⟩,⟨0,0,[]⟩,⟨#[]⟩⟩,1),by simp (disch:=omega) only [pz,e,h1],by simp (disch:=omega) only [pz,e,j],z⟩
 | true=>
 cases d with
 | false=>exact ⟨(⟨⟨#[]⟩,⟨0,0,[]⟩,⟨#[]⟩⟩,1),by simp (disch:=omega) only [pz,e,h1,f,k],by simp (disch:=omega) only [pz,e,j,f,l],z⟩
 | true=>
 by_cases hq:q.2=0
 ·obtain ⟨r,p,r2⟩:=ZEP (c:=c.Items) (x:=⟨⟨#[]⟩,o,q.1⟩) hN
  have st:∀ i,0<=i->i<(c.Items.length:Int)->¬ Like (ix c.Items i) ⟨⟨#[]⟩,o,q.1⟩->ZbH c o q i=some (.inl (i+1)):=fun i a b g=>by
   have hl:=(ZjV _ _).ne g
   simp (disch:=omega) only [pz,ZbH,f,hl]
  rcases r2 with ⟨rfl,no⟩|⟨s,u,w,y⟩
  ·have lp:loop (ZbH c o q) 0=some (⟨⟨#[]⟩,⟨0,0,[]⟩,⟨#[]⟩⟩,3):=by
    rw [Zl (B:=ZbH c o q) (fun i=>i) (i:=0) (n:=c.Items.length) ω fun i a b=>st i a b (no i a b)]
    exact Zc (by simp (disch:=omega) only [pz,ZbH])
   exact ⟨(⟨⟨#[]⟩,⟨0,0,[]⟩,⟨#[]⟩⟩,3),by simp (disch:=omega) only [pz,e,h1,f,k,Zgb,k1,lp],by simp (disch:=omega) only [pz,e,j,f,l,Zg4,k2,p],z⟩
  ·have hz:=hs.2 _ (Zo s u)
   have o1:=Zwh hz
   have o2:=ZHA hz
   have hl:=(ZjV _ _).eq w
   have lp:loop (ZbH c o q) 0=some (ix c.Items r,0):=by
    rw [Zl (B:=ZbH c o q) (fun i=>i) (i:=0) (n:=r) ω fun i a b=>st i a ω (y i a b)]
    exact Zc (by simp (disch:=omega) only [pz,ZbH,f,hl,o1,ei])
   exact ⟨(ix c.Items r,0),by simp (disch:=omega) only [pz,e,h1,f,k,Zgb,k1,lp],by simp (disch:=omega) only [pz,e,j,f,l,Zg4,k2,p,o2,ei],hz⟩
 ·exact ⟨(⟨⟨#[]⟩,⟨0,0,[]⟩,⟨#[]⟩⟩,q.2),by simp (disch:=omega) only [pz,e,h1,f,k,Zgb,k1],by simp (disch:=omega) only [pz,e,j,f,l,Zg4,k2],z⟩
theorem ZHz {x:Ze} (hs:Sz2 x.Object.Rows):Zit x 1=some (1+(total x.Object.Rows:Int),⟨x.Name,⟨x.Object.Kind,x.Object.Size,marksR 1 x.Object.Rows⟩,x.Key⟩):=by
 have g:=Zpr (xs:=x.Object.Rows) (k:=1) (by have:=hs.1;omega) (fun r j=>by have:=hs.2 r j;omega) ω ω
 unfold Zit Zd5
 simp (disch:=omega) only [pz,g]
theorem Zzl {x y:Ze} (hs:Sz2 x.Object.Rows) (j:y.Object.Rows=marksR 1 x.Object.Rows):Zfp y 1=some (1+(total x.Object.Rows:Int)):=by
 have g:=ZFh (xs:=x.Object.Rows) (k:=1) (by have:=hs.1;omega) (fun r l=>by have:=hs.2 r l;omega) ω ω
 unfold Zfp Zlt
 simp (disch:=omega) only [pz,j,g]
theorem ZEz {x:Zg} (hs:Sz2 x.Rows) {k:Int} (c:0<=k) (h1:k<=8000000000000000000):Zd5 x k=some (k+(total x.Rows:Int),⟨x.Kind,x.Size,marksR k x.Rows⟩):=by
 have g:=Zpr (xs:=x.Rows) (k:=k) (by have:=hs.1;omega) (fun r j=>by have:=hs.2 r j;omega) ω ω
 unfold Zd5
 simp (disch:=omega) only [pz,g]
theorem ZrV:∀ (C:List Ze) (k:Int),(∀ x∈C,Sz2 x.Object.Rows)->kItems k C<=k+C.length*4398046511108
 | [],k,_=>by simp [kItems]
 | x::C,k,h=>by
  have h1:=ZnL (h x (List.mem_cons_self ..))
  have c:=ZrV C (kIt k x) fun y g=>h y (List.mem_cons_of_mem _ g)
  have e:kItems k (x::C)=kItems (kIt k x) C:=rfl
  rw [e,List.length_cons]
  unfold kIt at c ⊢
  omega
theorem ZAQ {x:Ze} (g:Sz2 x.Object.Rows):Zlq x:=
 ⟨by unfold M63;have:=g.1;omega,fun y j=>⟨by unfold M63;have:=g.2 y j;omega,fun _ _=>trivial⟩⟩
theorem ZxP {x:Zg} (g:Sz2 x.Rows):Zoe x:=
 ⟨by unfold M63;have:=g.1;omega,fun y j=>⟨by unfold M63;have:=g.2 y j;omega,fun _ _=>trivial⟩⟩
theorem ZDt {a:Zag} {b:Z4} {B:Int} (ha:ZnA a) (hb:ZjQ b) (_:I64 B):Zl6 a b B=some true:=by
 unfold Zl6
 obtain ⟨r,hr,c⟩:=ZA0 a 1048576 ha ω ω
 have e:Zag.mk a.Items=a:=rfl
 have f:Z4.mk b.Kind b.Size b.Rows=b:=rfl
 rcases c with rfl|⟨r0,r1,sa⟩
 ·simp (disch:=omega) only [pz,e,hr]
 obtain ⟨s,hs,c⟩:=Zrg b r hb ω ω
 rcases c with rfl|⟨s0,s1,sb⟩
 ·simp (disch:=omega) only [pz,e,hr,f,hs]
 ·have hz:=ZFO sa
  have hw:=ZAu sb
  have ht:=ZCm sa
  have hu:=ZuY sb
  generalize Zjs a=x at hz ht
  generalize Zg5 b=y at hw hu
  have l:ZL.mk x.Items=x:=rfl
  have o:Zg.mk y.Kind y.Size y.Rows=y:=rfl
  have ei:∀ x:Ze,Ze.mk x.Name (Zg.mk x.Object.Kind x.Object.Size x.Object.Rows) x.Key=x:=fun x=>rfl
  obtain ⟨⟨g,n⟩,h1,p,i⟩:=ZB9 hz hw B
  dsimp only at i
  have j:=(ZsD (a:=g) (b:=g) (ZAQ i)).eq rfl
  have u:=(ZHn (ZDw hz)).eq (rfl:x=x)
  have w:=(Zql (ZxP hw)).eq (rfl:y=y)
  have hm:=ZGJ hz
  have a2:=Zth x.Items 1
  have a3:=ZrV x.Items 1 hz.2
  have a4:=hz.1
  have a0:=ZEz hw (k:=kItems 1 x.Items) ω ω
  have hg:=ZHz i
  have hh:=Zzl (y:=⟨g.Name,⟨g.Object.Kind,g.Object.Size,marksR 1 g.Object.Rows⟩,g.Key⟩) i rfl
  have k3:Zh5 (g,n) (1+(total g.Object.Rows:Int),⟨g.Name,⟨g.Object.Kind,g.Object.Size,marksR 1 g.Object.Rows⟩,g.Key⟩)=some true:=by
   unfold Zh5
   simp (disch:=omega) only [pz,hh]
  have k2:Zjx a b B (g,n) (g,n)=some true:=by
   unfold Zjx
   simp (disch:=omega) only [pz,hg,hh,e,f,ht,hu,p,j,k3,ei]
  have k1:Zjf a b B (g,n) x y (g,n)=some true:=by
   unfold Zjf
   simp (disch:=omega) only [pz,e,f,ht,hu,l,o,u,w,hm,a0,j,k2,ei]
  simp (disch:=omega) only [pz,e,f,hr,hs,ht,hu,h1,l,o,p,j,k1,ei]
end Go.Proofs.YtepnljbkgjbbmaaGreatDoor
