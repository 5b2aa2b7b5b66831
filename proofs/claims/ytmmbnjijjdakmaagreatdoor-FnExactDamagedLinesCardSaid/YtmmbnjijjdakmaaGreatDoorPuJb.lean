import Derived.Test.YtmmbnjijjdakmaaGreatDoorPuJa
namespace Go.Proofs.YtmmbnjijjdakmaaGreatDoor
open Go Go.Vc
set_option linter.unusedSimpArgs false
set_option linter.unusedVariables false
theorem Ze4:∀ a b,lexC a b=cmpL a b
 | [],[]=>rfl
 | [],_::_=>rfl
 | _::_,[]=>rfl
 | a::as,b::bs=>by simp only [lexC,cmpL,Ze4 as bs]
def SortedL (ys:List (List Int)):Prop:=ys.Pairwise fun a b=>lexC a b≤0
theorem Ze3 {xs ys:List (List Int)} (hp:ys.Perm xs) (hs:SortedL ys):ys=sortRows xs:=by
 refine Zoj hp fun i j hij hj=>?_
 have:=List.pairwise_iff_getElem.1 hs i j (by omega) hj hij
 rw [getElem!_pos ys i (by omega),getElem!_pos ys j hj]
 simp only [lexLt,decide_eq_false_iff_not,Int.not_lt]
 have:=Zbg ys[i] ys[j]
 omega
theorem ZmI (xs:List (List Int)):SortedL (sortRows xs):=by
 have h:=List.pairwise_mergeSort (le:=fun x y=>!lexLt y x) (fun a b c h k=>by
  simp only [Bool.not_eq_true',lexLt,decide_eq_false_iff_not,Int.not_lt] at *
  have e1:=Zbg a b
  have e2:=Zbg b c
  have e3:=Zbg a c
  have:=(Zjt a b c (by omega) (by omega)).1
  omega) (fun a b=>by
  simp only [Bool.or_eq_true,Bool.not_eq_true',lexLt,decide_eq_false_iff_not,Int.not_lt]
  have:=Zbg a b
  omega) xs
 refine List.Pairwise.imp (fun {a b} hab=>?_) h
 simp only [Bool.not_eq_true',lexLt,decide_eq_false_iff_not,Int.not_lt] at hab
 have:=Zbg a b
 omega
theorem ZbR {xs:List (List Int)} {x:List Int}:x∈sortRows xs↔x∈xs:=(Zgd xs).mem_iff
theorem ZiX (xs:List (List Int)):(sortRows xs).length=xs.length:=(Zgd xs).length_eq
theorem ZzD {xs out:List (List Int)} {x:List Int} {k:Nat} (ho:out=sortRows xs) (h1:∀ y∈out.take k,lexC y x≤0) (h2:∀ y∈out.drop k,lexC x y≤0):out.take k++[x]++out.drop k=sortRows (xs++[x]):=by
 have hs:=ZmI xs
 rw [←ho] at hs
 refine Ze3 ?_ ?_
 ·have p1:(out.take k++[x]++out.drop k).Perm ([x]++(out.take k++out.drop k)):=by
   rw [←List.append_assoc]
   exact List.Perm.append_right _ List.perm_append_comm
  rw [List.take_append_drop] at p1
  refine p1.trans (List.Perm.trans ?_ List.perm_append_comm)
  exact List.Perm.append_left _ (by rw [ho];exact Zgd xs)
 ·have hsp:=hs
  unfold SortedL at *
  rw [←List.take_append_drop k out,List.pairwise_append] at hsp
  obtain ⟨s1,s2,s3⟩:=hsp
  rw [List.append_assoc,List.pairwise_append]
  refine ⟨s1,?_,?_⟩
  ·rw [List.singleton_append,List.pairwise_cons];exact ⟨h2,s2⟩
  ·intro a ha b hb
   rw [List.singleton_append,List.mem_cons] at hb
   rcases hb with rfl|hb
   ·exact h1 a ha
   ·exact s3 a ha b hb
end Go.Proofs.YtmmbnjijjdakmaaGreatDoor
namespace Go.Vc
set_option linter.unusedVariables false
open Go
def cmpP (p g:List Int):List Int:=p.map fun x=>ix g x
def addq (q:List (List Int)) (p:List Int):List (List Int):=if p∈q then q else q++[p]
def rowq (e:List Int):List (List Int)→List (List Int)→List (List Int)
 | [],q=>q
 | g::gs,q=>rowq e gs (addq q (cmpP e g))
inductive Rch (one:List Int) (gens:List (List Int)):List Int→Prop
 | one:Rch one gens one
 | step {p g:List Int}:Rch one gens p→g∈gens→Rch one gens (cmpP p g)
theorem Rch.mono {one:List Int} {gens gens':List (List Int)} (hs:∀ g∈gens,g∈gens') {p:List Int} (h:Rch one gens p):Rch one gens' p:=by
 induction h with
 | one=>exact .one
 | step _ hg ih=>exact .step ih (hs _ hg)
theorem ZyS {q:List (List Int)} {p x:List Int}:x∈addq q p↔x∈q∨x=p:=by
 unfold addq
 split
 ·rename_i h
  exact ⟨.inl,fun h'=>h'.elim id fun e=>e▸h⟩
 ·simp
theorem ZrU {q:List (List Int)} {p:List Int} (h:q.Nodup):(addq q p).Nodup:=by
 unfold addq
 split
 ·exact h
 ·rename_i hn
  rw [List.nodup_append]
  exact ⟨h,by simp,fun a ha b hb e=>by simp at hb;subst hb;subst e;exact hn ha⟩
theorem ZtC (q:List (List Int)) (p:List Int):q <+: addq q p:=by
 unfold addq
 split
 ·exact List.prefix_refl _
 ·exact List.prefix_append ..
theorem Zgl (e:List Int):∀ (gs q:List (List Int)),q <+: rowq e gs q
 | [],q=>List.prefix_refl _
 | g::gs,q=>(ZtC q _).trans (Zgl e gs _)
theorem Zjd (e:List Int):∀ (gs q:List (List Int)),q.Nodup→(rowq e gs q).Nodup
 | [],_,h=>h
 | _::gs,_,h=>Zjd e gs _ (ZrU h)
theorem Zh6 (e:List Int):∀ (gs q:List (List Int)) {x:List Int},x∈rowq e gs q↔x∈q∨∃ g∈gs,x=cmpP e g
 | [],q,x=>by simp [rowq]
 | g::gs,q,x=>by
  rw [rowq,Zh6 e gs,ZyS]
  constructor
  ·rintro ((h|h)|⟨g',h,e⟩)
   ·exact .inl h
   ·exact .inr ⟨g,by simp,h⟩
   ·exact .inr ⟨g',by simp [h],e⟩
  ·rintro (h|⟨g',h,e⟩)
   ·exact .inl (.inl h)
   ·rcases List.mem_cons.1 h with rfl|h
    ·exact .inl (.inr e)
    ·exact .inr ⟨g',h,e⟩
theorem Znl (e:List Int):∀ (gs q:List (List Int)) (g:List Int),rowq e (gs++[g]) q=addq (rowq e gs q) (cmpP e g)
 | [],_,_=>rfl
 | _::gs,_,g=>by rw [List.cons_append,rowq,Znl e gs,rowq]
structure Bfs (e0:List Int) (gens:List (List Int)) (k:Nat) (q:List (List Int)):Prop where
 nd:q.Nodup
 one:q[0]?=some e0
 rch:∀ p∈q,Rch e0 gens p
 cls:∀ (j:Nat) e,j<k→q[j]?=some e→∀ g∈gens,cmpP e g∈q
theorem Bfs.start {one:List Int} {gens:List (List Int)}:Bfs one gens 0 [one]:=⟨by simp,rfl,(fun p h=>by simp at h;subst h;exact .one),fun j e h=>by omega⟩
theorem ZlT {α:Type} {q q':List α} {j:Nat} {e:α} (h:q <+: q') (hj:q[j]?=some e):q'[j]?=some e:=by
 obtain ⟨t,rfl⟩:=h
 rw [List.getElem?_append_left (Z5 hj)];exact hj
theorem Bfs.row {one:List Int} {gens:List (List Int)} {k:Nat} {q:List (List Int)} {e:List Int} (h:Bfs one gens k q) (he:q[k]?=some e):Bfs one gens (k+1) (rowq e gens q):=by
 have hp:=Zgl e gens q
 refine ⟨Zjd e gens q h.nd,ZlT hp h.one,fun p hm=>?_,fun j e' hj he' g hg=>?_⟩
 ·rcases (Zh6 e gens q).1 hm with h1|⟨g,hg,rfl⟩
  ·exact h.rch p h1
  ·exact .step (h.rch e (List.mem_of_getElem? he)) hg
 ·have hlt:=Z5 he
  have hej:q[j]?=some e':=by
   obtain ⟨t,ht⟩:=hp
   rw [←ht,List.getElem?_append_left (by omega)] at he'
   exact he'
  refine (Zh6 e gens q).2 ?_
  by_cases hjk:j=k
  ·subst hjk
   rw [he] at hej;cases hej
   exact .inr ⟨g,hg,rfl⟩
  ·exact .inl (h.cls j e' (by omega) hej g hg)
def Gens (one:List Int) (gens L:List (List Int)):Prop:=L.Nodup∧∀ p,p∈L↔Rch one gens p
theorem Bfs.done {one:List Int} {gens:List (List Int)} {k:Nat} {q:List (List Int)} (h:Bfs one gens k q) (hk:q.length≤k):Gens one gens q:=by
 refine ⟨h.nd,fun p=>⟨h.rch p,fun hp=>?_⟩⟩
 induction hp with
 | one=>exact List.mem_of_getElem? h.one
 | step _ hg ih=>
  obtain ⟨j,hj⟩:=List.getElem?_of_mem ih
  exact h.cls j _ (by have:=Z5 hj;omega) hj _ hg
theorem Zfd {α:Type} [DecidableEq α]:∀ {l l':List α},l.Nodup→(∀ x∈l,x∈l')→l.length≤l'.length
 | [],_,_,_=>Nat.zero_le _
 | a::l,l',hn,hs=>by
  obtain ⟨h1,h2⟩:=List.nodup_cons.1 hn
  have ha:=hs a (by simp)
  have:=Zfd (l':=l'.erase a) h2 fun x hx=>by
   rw [List.mem_erase_of_ne (fun e=>by subst e;exact h1 hx)]
   exact hs x (List.mem_cons_of_mem _ hx)
  rw [List.length_erase_of_mem ha] at this
  have hp:0<l'.length:=List.length_pos_of_mem ha
  simp only [List.length_cons];omega
theorem Gens.le {one:List Int} {gens L q:List (List Int)} (h:Gens one gens L) (hn:q.Nodup) (hr:∀ p∈q,Rch one gens p):q.length≤L.length:=Zfd hn fun x hx=>(h.2 x).2 (hr x hx)
theorem Gens.mono {one:List Int} {gens gens' L L':List (List Int)} (h:Gens one gens L) (h':Gens one gens' L') (hs:∀ g∈gens,g∈gens'):(∀ p∈L,p∈L')∧L.length≤L'.length:=by
 have:∀ p∈L,p∈L':=fun p hp=>(h'.2 p).2 (((h.2 p).1 hp).mono hs)
 exact ⟨this,Zfd h.1 this⟩
theorem Zob {α:Type} [DecidableEq α]:∀ {l l':List α},l.Nodup→(∀ x∈l,x∈l')→l.length=l'.length→l.Perm l'
 | [],l',_,_,hl=>by
  have:l'=[]:=List.eq_nil_of_length_eq_zero hl.symm
  subst this;exact .refl _
 | a::l,l',hn,hs,hl=>by
  obtain ⟨h1,h2⟩:=List.nodup_cons.1 hn
  have ha:=hs a (by simp)
  have:=Zob (l':=l'.erase a) h2 (fun x hx=>by
   rw [List.mem_erase_of_ne (fun e=>by subst e;exact h1 hx)]
   exact hs x (List.mem_cons_of_mem _ hx)) (by rw [List.length_erase_of_mem ha];simp at hl;omega)
  exact (this.cons a).trans (List.perm_cons_erase ha).symm
def idP (n:Int):List Int:=tabl n fun i=>i
structure Perm (p:List Int) (n:Int):Prop where
 len:(p.length:Int)=n
 rng:∀ x∈p,0≤x∧x<n
 nd:p.Nodup
theorem Zhn (p g:List Int):(cmpP p g).length=p.length:=by simp [cmpP]
theorem ZyW {p g:List Int} {i:Int} (h0:0≤i) (h1:i<(p.length:Int)):ix (cmpP p g) i=ix g (ix p i):=ZpY h0 h1
theorem ZoB {g:List Int} {n:Int} (h0:0≤n) (hg:(g.length:Int)=n):cmpP (idP n) g=g:=by
 have hl:(idP n).length=n.toNat:=ZJ
 refine ZdG (by rw [Zhn,hl];omega) fun i h1 h2=>?_
 rw [Zhn,hl] at h2
 rw [ZyW h1 (by rw [hl];omega)]
 unfold idP
 rw [Z3 h1 (by omega)]
theorem Zsw {gens:List (List Int)} {n:Int} (h0:0≤n) (hg:∀ g∈gens,Perm g n) {p:List Int} (hp:Rch (idP n) gens p):(p.length:Int)=n∧∀ x∈p,0≤x∧x<n:=by
 induction hp with
 | one=>
  refine ⟨by unfold idP;rw [ZJ];omega,fun x hx=>?_⟩
  unfold idP tabl at hx
  simp at hx
  obtain ⟨a,h1,rfl⟩:=hx
  omega
 | step _ h1 ih=>
  refine ⟨by rw [Zhn];exact ih.1,fun x hx=>?_⟩
  unfold cmpP at hx
  rw [List.mem_map] at hx
  obtain ⟨y,hy,rfl⟩:=hx
  have:=ih.2 y hy
  have hG:=hg _ h1
  exact hG.rng _ (ZK this.1 (by rw [hG.len];exact this.2))
end Go.Vc
namespace Go.Proofs.YtmmbnjijjdakmaaGreatDoor
set_option linter.unusedVariables false
open Go Go.Vc
set_option linter.unusedSimpArgs false
def IsP (p:List Int):Prop:=(p.length:Int)≤32∧Vc.Perm p p.length
theorem Zn1 {p:List Int}:p.Nodup↔∀ k,0≤k→k<(p.length:Int)→ix p k∉p.take k.toNat:=by
 constructor
 ·intro h k h0 h1 hm
  have e:p=p.take k.toNat++p.drop k.toNat:=(List.take_append_drop ..).symm
  rw [e] at h
  refine (List.nodup_append.1 h).2.2 _ hm (ix p k) ?_ rfl
  rw [ZbC h0 h1];simp
 ·intro h
  unfold List.Nodup
  rw [List.pairwise_iff_getElem]
  intro i j hi hj hij he
  have h1:=Zap (xs:=p) (i:=(j:Int)) (by omega) (by omega)
  rw [Int.toNat_natCast] at h1
  refine h (j:Int) (by omega) (by omega) ?_
  rw [Int.toNat_natCast]
  refine List.mem_of_getElem? (i:=i) ?_
  rw [List.getElem?_take,if_pos hij,List.getElem?_eq_getElem hi,he,←List.getElem?_eq_getElem hj,h1]
theorem Zeb {p:List Int} (hN:(p.length:Int)≤1048576):IsQ (ZdC p) (IsP p):=by
 unfold ZdC
 by_cases hl:(p.length:Int)≤32
 ·simp (disch:=omega) only [pz]
  refine (Zaj (P:=fun k=>(0≤ix p k∧ix p k≤p.length-1)∧ix p k∉p.take k.toNat) (n:=p.length) (Q:=True) (by omega) ?_ ?_ fun _=>?_).congr ?_
  ·intro k h0 h1 hp
   have h2:=hp.1
   have hs:gSl p 0 k=some (p.take k.toNat):=by rw [ZaX (by omega) h0 (by omega)];simp
   have hh:=(Zqg (s:=p.take k.toNat) (v:=ix p k) (by rw [List.length_take];omega)).ne hp.2
   simp (disch:=omega) only [pz,Zfp,in_ok,hs,hh]
  ·intro k h0 h1 hp
   by_cases ha:0≤ix p k∧ix p k≤p.length-1
   ·have hb:ix p k∈p.take k.toNat:=Classical.byContradiction fun h=>hp ⟨ha,h⟩
    have hs:gSl p 0 k=some (p.take k.toNat):=by rw [ZaX (by omega) h0 (by omega)];simp
    have hh:=(Zqg (s:=p.take k.toNat) (v:=ix p k) (by rw [List.length_take];omega)).eq hb
    simp (disch:=omega) only [pz,Zfp,in_ok,hs,hh]
   ·simp (disch:=omega) only [pz,Zfp,in_ok]
  ·rw [Zc (r:=true) (by simp (disch:=omega) only [pz,Zfp])];exact IsQ.t trivial
  ·constructor
   ·intro h
    refine ⟨hl,rfl,fun x hx=>?_,Zn1.2 fun k a b=>(h.1 k a b).2⟩
    obtain ⟨i,a,b,rfl⟩:=Z4 hx
    have:=(h.1 i a b).1
    omega
   ·intro h
    refine ⟨fun k a b=>⟨?_,Zn1.1 h.2.nd k a b⟩,trivial⟩
    have:=h.2.rng _ (ZK a b)
    omega
 ·simp (disch:=omega) only [pz];exact IsQ.f fun h=>hl h.1
theorem Zq8:∀ {l l':List Int},l.Perm l'→l.Pairwise (·≤·)→l'.Pairwise (·≤·)→l=l'
 | [],l',hp,_,_=>hp.nil_eq
 | a::l,[],hp,_,_=>absurd hp.length_eq (by simp)
 | a::l,b::l',hp,h1,h2=>by
  have ha:a∈b::l':=hp.mem_iff.1 (by simp)
  have hb:b∈a::l:=hp.mem_iff.2 (by simp)
  have e:a=b:=by
   rcases List.mem_cons.1 ha with h|h
   ·exact h
   ·rcases List.mem_cons.1 hb with h'|h'
    ·exact h'.symm
    ·have q1:=(List.pairwise_cons.1 h1).1 b h'
     have q2:=(List.pairwise_cons.1 h2).1 a h
     omega
  subst e
  rw [Zq8 (List.perm_cons _ |>.1 hp) (List.pairwise_cons.1 h1).2 (List.pairwise_cons.1 h2).2]
theorem Zkz (xs:List Int):(sortI xs).Perm xs:=List.mergeSort_perm _ _
theorem Zut (xs:List Int):(sortI xs).Pairwise (·≤·):=by
 have h:=List.pairwise_mergeSort (le:=fun x y:Int=>decide (x≤y)) (fun a b c h k=>by simp at *;omega) (fun a b=>by simp;omega) xs
 exact h.imp fun {a b} hab=>by simpa using hab
theorem Zbz (n:Int):(idP n).length=n.toNat:=ZJ
theorem ZeN {n i:Int} (h0:0≤i) (h1:i<n):ix (idP n) i=i:=Z3 h0 h1
theorem ZqV {n x:Int}:x∈idP n↔0≤x∧x<n:=by
 unfold idP tabl
 simp only [List.mem_map,List.mem_range]
 constructor
 ·rintro ⟨a,h1,rfl⟩;omega
 ·intro h;exact ⟨x.toNat,by omega,by omega⟩
theorem Zsd (n:Int):(idP n).Pairwise (·≤·):=by
 rw [List.pairwise_iff_getElem]
 intro i j hi hj hij
 rw [Zbz] at hi hj
 have e1:=Zap (xs:=idP n) (i:=(i:Int)) (by omega) (by rw [Zbz];omega)
 have e2:=Zap (xs:=idP n) (i:=(j:Int)) (by omega) (by rw [Zbz];omega)
 rw [Int.toNat_natCast] at e1 e2
 rw [ZeN (by omega) (by omega)] at e1 e2
 rw [List.getElem?_eq_getElem (by rw [Zbz];omega)] at e1 e2
 have:=Option.some.inj e1
 have:=Option.some.inj e2
 omega
theorem Zw2 (n:Int):(idP n).Nodup:=by
 rw [Zn1]
 intro k h0 h1 hm
 rw [Zbz] at h1
 rw [ZeN h0 (by omega)] at hm
 obtain ⟨i,a,b,e⟩:=Z4 hm
 rw [List.length_take,Zbz] at b
 rw [Zdf a (by omega),ZeN a (by omega)] at e
 omega
theorem ZoN {p:List Int}:sortI p=idP p.length↔Vc.Perm p p.length:=by
 constructor
 ·intro h
  have hp:=Zkz p
  rw [h] at hp
  exact ⟨rfl,fun x hx=>ZqV.1 (hp.mem_iff.2 hx),hp.nodup_iff.1 (Zw2 _)⟩
 ·intro h
  refine Zq8 ((Zkz p).trans ?_) (Zut p) (Zsd _)
  exact Zob h.nd (fun x hx=>ZqV.2 (h.rng x hx)) (by rw [Zbz];omega)
theorem Zlx {p:List Int} (hN:(p.length:Int)≤1048576):ZbF p=some p:=by
 unfold ZbF
 rw [ZdF (by simp;omega) (by simp;omega)];rfl
theorem Zzb {p:List Int} (hN:(p.length:Int)≤1048576):Zgc p=some (sortI p):=by
 unfold Zgc
 rw [if_pos (by omega)]
theorem Zot {p:List Int} (hN:(p.length:Int)≤1048576):IsQ (Ze7 p) (IsP p):=by
 unfold Ze7
 have hlen:(sortI p).length=p.length:=(Zkz p).length_eq
 simp only [Zlx hN,Zzb hN,Option.bind_some]
 refine (Zaj (P:=fun k=>ix (sortI p) k=k) (n:=(sortI p).length) (Q:=(p.length:Int)≤32) (by omega) ?_ ?_ fun _=>?_).congr ?_
 ·intro k h0 h1 hp
  simp (disch:=omega) only [pz,Zef]
 ·intro k h0 h1 hp
  simp (disch:=omega) only [pz,Zef]
 ·by_cases hl:(p.length:Int)≤32
  ·rw [Zc (r:=true) (by simp (disch:=omega) only [pz,Zef])];exact IsQ.t hl
  ·rw [Zc (r:=false) (by simp (disch:=omega) only [pz,Zef])];exact IsQ.f hl
 ·constructor
  ·intro h
   refine ⟨h.2,ZoN.1 (ZdG (by rw [hlen,Zbz];omega) fun i a b=>?_)⟩
   rw [h.1 i a b,ZeN a (by omega)]
  ·intro h
   refine ⟨fun k a b=>?_,h.1⟩
   rw [ZoN.2 h.2,ZeN a (by omega)]
theorem Zjg {n:Int} {ps:List (List Int)} (hs:Sz2 ps):IsQ (Zev n ps) (∀ p∈ps,(p.length:Int)=n∧IsP p):=by
 unfold Zev
 refine (containsLL (q:=fun p=>¬ ((p.length:Int)=n∧IsP p)) hs.1 fun p hp=>?_).not.congr ⟨fun h p hp=>Classical.byContradiction fun hn=>h ⟨p,hp,hn⟩,fun h ⟨p,hp,hn⟩=>hn (h p hp)⟩
 unfold Zio ZN
 have hr:=hs.2 p hp
 by_cases hl:(p.length:Int)=n
 ·simp (disch:=omega) only [pz]
  exact (Zot hr).not.congr ⟨fun h h'=>h h'.2,fun h h'=>h ⟨hl,h'⟩⟩
 ·simp (disch:=omega) only [pz]
  exact IsQ.t fun h=>hl h.1
end Go.Proofs.YtmmbnjijjdakmaaGreatDoor
namespace Go.Proofs.YtmmbnjijjdakmaaGreatDoor
set_option linter.unusedVariables false
open Go Go.Vc
set_option linter.unusedSimpArgs false
def colOf (a:List (List Int)) (y:Int):List Int:=a.map fun r=>ix r y
structure ValidSq (a:List (List Int)):Prop where
 n1:1≤(a.length:Int)
 n2:(a.length:Int)≤10
 row:∀ r∈a,(r.length:Int)=a.length∧IsP r
 col:∀ y,0≤y→y<(a.length:Int)→IsP (colOf a y)
theorem Zpd {a:List (List Int)} {y k:Int} (h0:0≤k) (h1:k<(a.length:Int)):(a.take (k+1).toNat).map (fun r=>ix r y)=(a.take k.toNat).map (fun r=>ix r y)++[ix (ix a k) y]:=by
 rw [Zbo h0 h1,List.map_append];rfl
theorem ZpO {a:List (List Int)} {y:Int} (hn:(a.length:Int)≤10) (hr:∀ r∈a,(r.length:Int)=a.length) (hy0:0≤y) (hy1:y<(a.length:Int)):∃ c:Bool,loop (Zc2 a y) (([]:List Int),0)=some (bif c then .inl (y+1) else .inr (.inr false))∧(c=true↔IsP (colOf a y)):=by
 have hgo:=ZA (B:=Zc2 a y) (fun k=>((a.take k.toNat).map (fun r=>ix r y),k)) (i:=0) (n:=a.length) (by omega) fun k h0 h1=>by
  have hrow:=hr _ (ZK h0 h1)
  have hl:((a.take k.toNat).map (fun r=>ix r y)).length≤10:=by rw [List.length_map,List.length_take];omega
  simp (disch:=omega) only [pz,Zc2,Zpd h0 h1]
 have e0:(([]:List Int),(0:Int))=(fun k:Int=>((a.take k.toNat).map (fun r=>ix r y),k)) 0:=by simp
 rw [e0,hgo]
 have e1:(a.take ((a.length:Int)).toNat).map (fun r=>ix r y)=colOf a y:=by rw [Int.toNat_natCast,List.take_length];rfl
 simp only [e1]
 have hcl:((colOf a y).length:Int)≤1048576:=by unfold colOf;rw [List.length_map];omega
 obtain ⟨c,hc,hq⟩:=Zeb hcl
 refine ⟨c,Zc ?_,hq⟩
 cases c<;>simp (disch:=omega) only [pz,Zc2,hc]
theorem ZvZ {a:List (List Int)} (hs:Sz2 a):IsQ (Zhv a) (ValidSq a):=by
 unfold Zhv ZjL
 by_cases h1:1≤(a.length:Int)
 ·by_cases h2:(a.length:Int)≤10
  ·simp (disch:=omega) only [pz]
   refine (Zaj (P:=fun k=>((ix a k).length:Int)=a.length∧IsP (ix a k)) (n:=a.length) (Q:=∀ y,0≤y→y<(a.length:Int)→IsP (colOf a y)) (by omega) ?_ ?_ fun hall=>?_).congr ?_
   ·intro k g0 g1 hp
    have hb:=(Zeb (hs.row g0 g1)).eq hp.2
    have:=hp.1
    simp (disch:=omega) only [pz,Zft,hb]
   ·intro k g0 g1 hp
    by_cases hl:((ix a k).length:Int)=a.length
    ·have hb:=(Zeb (hs.row g0 g1)).ne fun h=>hp ⟨hl,h⟩
     simp (disch:=omega) only [pz,Zft,hb]
    ·simp (disch:=omega) only [pz,Zft]
   ·have hrow:∀ r∈a,(r.length:Int)=a.length:=fun r hr=>by
     obtain ⟨i,x,y,rfl⟩:=Z4 hr
     exact (hall i x y).1
    have key:∃ c:Bool,loop (Zdp a) 0=some (.inr c)∧(c=true↔∀ y,0≤y→y<(a.length:Int)→IsP (colOf a y)):=by
     rcases ZbI (B:=Zdp a) (fun k=>k) (fun k=>¬ IsP (colOf a k)) (i:=0) (n:=a.length) (by omega) (fun k g0 g1 g2=>by
      obtain ⟨c,q1,q2⟩:=ZpO h2 hrow g0 g1
      rw [q2.2 (Classical.not_not.1 g2)] at q1
      simp (disch:=omega) only [pz,Zdp,q1]) with ⟨k,g0,g1,g2,_,g4⟩|⟨g1,g2⟩
     ·obtain ⟨c,q1,q2⟩:=ZpO h2 hrow g0 g1
      have hc:c=false:=by cases c with|false=>rfl|true=>exact absurd (q2.1 rfl) g2
      rw [hc] at q1
      refine ⟨false,?_,by simp;exact ⟨k,g0,g1,g2⟩⟩
      rw [g4]
      exact Zc (by simp (disch:=omega) only [pz,Zdp,q1])
     ·refine ⟨true,?_,by simp;exact fun y u v=>Classical.not_not.1 (g1 y u v)⟩
      rw [g2]
      exact Zc (by simp (disch:=omega) only [pz,Zdp])
    obtain ⟨c,q1,q2⟩:=key
    refine ⟨c,?_,q2⟩
    exact Zc (by simp (disch:=omega) only [pz,Zft,q1])
   ·constructor
    ·intro h
     exact ⟨h1,h2,fun r hr=>by obtain ⟨i,x,y,rfl⟩:=Z4 hr;exact h.1 i x y,h.2⟩
    ·intro h
     exact ⟨fun k x y=>h.row _ (ZK x y),h.col⟩
  ·simp (disch:=omega) only [pz];exact IsQ.f fun h=>h2 h.n2
 ·simp (disch:=omega) only [pz];exact IsQ.f fun h=>h1 h.n1
theorem ZoO {a:List (List Int)} {y:Int} (hn:(a.length:Int)≤10) (hr:∀ r∈a,(r.length:Int)=a.length) (hy0:0≤y) (hy1:y<(a.length:Int)):∃ c:Bool,loop (Zdb a y) (([]:List Int),0)=some (bif c then .inl (y+1) else .inr false)∧(c=true↔IsP (colOf a y)):=by
 have hgo:=ZA (B:=Zdb a y) (fun k=>((a.take k.toNat).map (fun r=>ix r y),k)) (i:=0) (n:=a.length) (by omega) fun k h0 h1=>by
  have hrow:=hr _ (ZK h0 h1)
  have hl:((a.take k.toNat).map (fun r=>ix r y)).length≤10:=by rw [List.length_map,List.length_take];omega
  simp (disch:=omega) only [pz,Zdb,Zpd h0 h1]
 have e0:(([]:List Int),(0:Int))=(fun k:Int=>((a.take k.toNat).map (fun r=>ix r y),k)) 0:=by simp
 rw [e0,hgo]
 have e1:(a.take ((a.length:Int)).toNat).map (fun r=>ix r y)=colOf a y:=by rw [Int.toNat_natCast,List.take_length];rfl
 simp only [e1]
 have hcl:((colOf a y).length:Int)≤1048576:=by unfold colOf;rw [List.length_map];omega
 obtain ⟨c,hc,hq⟩:=Zot hcl
 refine ⟨c,Zc ?_,hq⟩
 cases c<;>simp (disch:=omega) only [pz,Zdb,hc]
theorem Zpp {a:List (List Int)} (hs:Sz2 a):IsQ (ZgF a) (ValidSq a):=by
 unfold ZgF Zid Z0
 by_cases hn:1≤(a.length:Int)∧(a.length:Int)≤10
 ·by_cases hp:∀ p∈a,(p.length:Int)=a.length∧IsP p
  ·have hq:=(Zjg (n:=a.length) hs).eq hp
   have hrow:∀ r∈a,(r.length:Int)=a.length:=fun r hr=>(hp r hr).1
   simp (disch:=omega) only [pz,ZP,hq]
   refine (Zaj (P:=fun y=>IsP (colOf a y)) (n:=a.length) (Q:=True) (by omega) ?_ ?_ fun _=>?_).congr ?_
   ·intro k g0 g1 g2
    obtain ⟨c,q1,q2⟩:=ZoO hn.2 hrow g0 g1
    rw [q2.2 g2] at q1
    simp (disch:=omega) only [pz,ZhD,q1]
   ·intro k g0 g1 g2
    obtain ⟨c,q1,q2⟩:=ZoO hn.2 hrow g0 g1
    have hc:c=false:=by cases c with|false=>rfl|true=>exact absurd (q2.1 rfl) g2
    rw [hc] at q1
    simp (disch:=omega) only [pz,ZhD,q1]
   ·rw [Zc (r:=true) (by simp (disch:=omega) only [pz,ZhD])];exact IsQ.t trivial
   ·exact ⟨fun h=>⟨hn.1,hn.2,hp,h.1⟩,fun h=>⟨h.col,trivial⟩⟩
  ·have hq:=(Zjg (n:=a.length) hs).ne hp
   simp (disch:=omega) only [pz,ZP,hq]
   exact IsQ.f fun h=>hp h.row
 ·simp (disch:=omega) only [pz,ZP];exact IsQ.f fun h=>hn ⟨h.n1,h.n2⟩
end Go.Proofs.YtmmbnjijjdakmaaGreatDoor
namespace Go.Vc
set_option linter.unusedVariables false
open Go
theorem ZyV {B:Int→Option (Int ⊕ Bool)} {P:Int→Prop} {i n:Int} (hi:i≤n) (h:∀ k,i≤k→k<n→(∀ j,i≤j→j<k→P j)→P k→B k=some (.inl (k+1))) (h':∀ k,i≤k→k<n→(∀ j,i≤j→j<k→P j)→¬ P k→B k=some (.inr false)) {Q:Prop} (he:(∀ k,i≤k→k<n→P k)→IsQ (loop B n) Q):IsQ (loop B i) ((∀ k,i≤k→k<n→P k)∧Q):=by
 have key:∀ (d:Nat) (k:Int),k+d=n→i≤k→(∀ j,i≤j→j<k→P j)→IsQ (loop B k) ((∀ k,i≤k→k<n→P k)∧Q):=by
  intro d
  induction d with
  | zero=>
   intro k hk hik ha
   obtain rfl:k=n:=by omega
   exact (he ha).congr ⟨fun q=>⟨ha,q⟩,fun q=>q.2⟩
  | succ d ih=>
   intro k hk hik ha
   by_cases hp:P k
   ·rw [ZI (h k hik (by omega) ha hp)]
    refine ih (k+1) (by omega) (by omega) fun j h1 h2=>?_
    by_cases hjk:j=k
    ·rw [hjk];exact hp
    ·exact ha j h1 (by omega)
   ·rw [Zc (h' k hik (by omega) ha hp)]
    exact IsQ.f fun hh=>hp (hh.1 k hik (by omega))
 exact key (n-i).toNat i (by omega) (by omega) fun j h1 h2=>by omega
theorem Zdg {ρ:Type} {B:Int→Option (Int ⊕ ρ)} {P:Int→Prop} {t f:ρ} {i n:Int} (hi:i≤n) (h:∀ k,i≤k→k<n→P k→B k=some (.inl (k+1))) (h':∀ k,i≤k→k<n→¬ P k→B k=some (.inr f)) (he:B n=some (.inr t)):∃ c:Bool,loop B i=some (bif c then t else f)∧(c=true↔∀ k,i≤k→k<n→P k):=by
 rcases ZbI (B:=B) (fun k=>k) (fun k=>¬ P k) hi (fun k h1 h2 h3=>h k h1 h2 (Classical.not_not.1 h3)) with ⟨k,h1,h2,h3,_,h5⟩|⟨h1,h2⟩
 ·exact ⟨false,by rw [h5];exact Zc (h' k h1 h2 h3),by simp;exact ⟨k,h1,h2,h3⟩⟩
 ·exact ⟨true,by rw [h2];exact Zc he,by simp;exact fun k a b=>Classical.not_not.1 (h1 k a b)⟩
end Go.Vc
namespace Go.Proofs.YtmmbnjijjdakmaaGreatDoor
set_option linter.unusedVariables false
open Go Go.Vc
set_option linter.unusedSimpArgs false
def dotN (a b:List Int):Nat→Int
 | 0=>0
 | k+1=>dotN a b k+ix a k*ix b k
def Sgn (a:List Int):Prop:=∀ k,0≤k→k<(a.length:Int)→ix a k=1∨ix a k=-1
theorem ZoY {a b:List Int} {k:Int} (h:0≤k):dotN a b (k+1).toNat=dotN a b k.toNat+ix a k*ix b k:=by
 rw [show (k+1).toNat=k.toNat+1 by omega,dotN,show ((k.toNat:Nat):Int)=k by omega]
theorem Zma {a b:List Int} {k:Int} (ha:Sgn a) (hb:Sgn b) (h0:0≤k) (h1:k<(a.length:Int)) (h2:k<(b.length:Int)):ix a k*ix b k=1∨ix a k*ix b k=-1:=by
 rcases ha k h0 h1 with e|e<;>rcases hb k h0 h2 with e'|e'<;>rw [e,e']<;>simp
theorem Zkw {a b:List Int} (ha:Sgn a) (hb:Sgn b):∀ k:Nat,(k:Int)≤a.length→(k:Int)≤b.length→-(k:Int)≤dotN a b k∧dotN a b k≤k
 | 0,_,_=>by simp [dotN]
 | k+1,h1,h2=>by
  have ih:=Zkw ha hb k (by omega) (by omega)
  have:=Zma ha hb (k:=(k:Int)) (by omega) (by omega) (by omega)
  rw [dotN]
  omega
structure ValidHd (h:List (List Int)):Prop where
 n1:1≤(h.length:Int)
 n2:(h.length:Int)≤32
 row:∀ i,0≤i→i<(h.length:Int)→((ix h i).length:Int)=h.length∧Sgn (ix h i)
 dot:∀ i k,0≤k→k<i→i<(h.length:Int)→dotN (ix h i) (ix h k) h.length=0
theorem Zzj {a b:List Int} {n:Nat} (hn:(n:Int)≤1048576) (ha:(a.length:Int)=n) (hb:(b.length:Int)=n) (sa:Sgn a) (sb:Sgn b):Zfg a b=some (dotN a b n):=by
 unfold Zfg
 have hgo:=ZA (B:=ZfV a b) (fun k=>(dotN a b k.toNat,k)) (i:=0) (n:=a.length) (by omega) fun k h0 h1=>by
  have hd:=Zkw sa sb k.toNat (by omega) (by omega)
  have hm:=Zma sa sb h0 h1 (by omega)
  have hm1:-1≤ix a k*ix b k∧ix a k*ix b k≤1:=by omega
  simp (disch:=omega) only [pz,ZfV,ZoY h0]
 have e0:((0:Int),(0:Int))=(fun k:Int=>(dotN a b k.toNat,k)) 0:=by simp [dotN]
 rw [e0,hgo]
 refine Zc ?_
 have e1:(a.length:Int).toNat=n:=by omega
 simp (disch:=omega) only [pz,ZfV,e1]
theorem ZyB {h:List (List Int)} (hs:Sz2 h):IsQ (ZhP h) (ValidHd h):=by
 unfold ZhP ZiL
 by_cases h1:1≤(h.length:Int)
 ·by_cases h2:(h.length:Int)≤32
  ·simp (disch:=omega) only [pz]
   refine (Zaj (P:=fun i=>((ix h i).length:Int)=h.length∧Sgn (ix h i)) (n:=h.length) (Q:=∀ i k,0≤k→k<i→i<(h.length:Int)→dotN (ix h i) (ix h k) h.length=0) (by omega) ?_ ?_ fun hall=>?_).congr ⟨fun q=>⟨h1,h2,q.1,q.2⟩,fun q=>⟨q.row,q.dot⟩⟩
   ·intro i g0 g1 ⟨g2,g3⟩
    obtain ⟨c,q1,q2⟩:=Zdg (B:=ZaR h i) (P:=fun k=>ix (ix h i) k=1∨ix (ix h i) k=-1) (t:=.inl (i+1)) (f:=.inr false) (i:=0) (n:=h.length) (by omega)
     (fun k a b c=>by
      by_cases hk:ix (ix h i) k=1
      ·simp (disch:=omega) only [pz,ZaR]
      ·have:ix (ix h i) k=-1:=c.elim (fun c=>absurd c hk) id
       simp (disch:=omega) only [pz,ZaR])
     (fun k a b c=>by
      have c1:¬ ix (ix h i) k=1:=fun e=>c (.inl e)
      have c2:¬ ix (ix h i) k=-1:=fun e=>c (.inr e)
      simp (disch:=omega) only [pz,ZaR]) (by simp (disch:=omega) only [pz,ZaR])
    rw [q2.2 (fun k a b=>g3 k a (by omega))] at q1
    simp (disch:=omega) only [pz,Zfi,q1]
   ·intro i g0 g1 g2
    by_cases hl:((ix h i).length:Int)=h.length
    ·obtain ⟨c,q1,q2⟩:=Zdg (B:=ZaR h i) (P:=fun k=>ix (ix h i) k=1∨ix (ix h i) k=-1) (t:=.inl (i+1)) (f:=.inr false) (i:=0) (n:=h.length) (by omega)
      (fun k a b c=>by
       by_cases hk:ix (ix h i) k=1
       ·simp (disch:=omega) only [pz,ZaR]
       ·have:ix (ix h i) k=-1:=c.elim (fun c=>absurd c hk) id
        simp (disch:=omega) only [pz,ZaR])
      (fun k a b c=>by
       have c1:¬ ix (ix h i) k=1:=fun e=>c (.inl e)
       have c2:¬ ix (ix h i) k=-1:=fun e=>c (.inr e)
       simp (disch:=omega) only [pz,ZaR]) (by simp (disch:=omega) only [pz,ZaR])
     have hc:c=false:=by
      cases c with
      | false=>rfl
      | true=>exact absurd ⟨hl,fun k a b=>q2.1 rfl k a (by omega)⟩ g2
     rw [hc] at q1
     simp (disch:=omega) only [pz,Zfi,q1]
    ·simp (disch:=omega) only [pz,Zfi]
   ·have inner:∀ i,0≤i→i<(h.length:Int)→∃ c:Bool,loop (Zdv h i) 0=some (bif c then .inl (i+1) else .inr (.inr false))∧(c=true↔∀ k,0≤k→k<i→dotN (ix h i) (ix h k) h.length=0):=fun i g0 g1=>by
     have hd:∀ k,0≤k→k<i→Zfg (ix h i) (ix h k)=some (dotN (ix h i) (ix h k) h.length):=fun k a b=>
      Zzj (by omega) (hall i g0 g1).1 (hall k a (by omega)).1 (hall i g0 g1).2 (hall k a (by omega)).2
     exact Zdg (B:=Zdv h i) (P:=fun k=>dotN (ix h i) (ix h k) h.length=0) (t:=.inl (i+1)) (f:=.inr (.inr false)) (i:=0) (n:=i) (by omega)
      (fun k a b c=>by simp (disch:=omega) only [pz,Zdv,hd k a b]) (fun k a b c=>by simp (disch:=omega) only [pz,Zdv,hd k a b]) (by simp (disch:=omega) only [pz,Zdv])
    obtain ⟨c,q1,q2⟩:=Zdg (B:=Zeg h) (P:=fun i=>∀ k,0≤k→k<i→dotN (ix h i) (ix h k) h.length=0) (t:=.inr true) (f:=.inr false) (i:=0) (n:=h.length) (by omega)
     (fun i a b c=>by
      obtain ⟨c',r1,r2⟩:=inner i a b
      rw [r2.2 c] at r1
      simp (disch:=omega) only [pz,Zeg,r1])
     (fun i a b c=>by
      obtain ⟨c',r1,r2⟩:=inner i a b
      have:c'=false:=by cases c' with|false=>rfl|true=>exact absurd (r2.1 rfl) c
      rw [this] at r1
      simp (disch:=omega) only [pz,Zeg,r1]) (by simp (disch:=omega) only [pz,Zeg])
    refine ⟨c,Zc ?_,q2.trans ⟨fun q i k a b e=>q i (by omega) e k a b,fun q i a b k e f=>q i k e f b⟩⟩
    cases c<;>simp (disch:=omega) only [pz,Zfi,q1]
  ·simp (disch:=omega) only [pz];exact IsQ.f fun q=>h2 q.n2
 ·simp (disch:=omega) only [pz];exact IsQ.f fun q=>h1 q.n1
theorem ZnE {r:List Int} (hr:(r.length:Int)≤1048576):IsQ (ZaA r (fun y0=>ZhF y0)) (¬ Sgn r):=by
 refine (containsL (q:=fun x=>¬ (x=1∨x=-1)) hr fun x hx=>?_).congr ?_
 ·unfold ZhF
  by_cases h1:x=1
  ·simp (disch:=omega) only [pz];exact IsQ.f fun h=>h (.inl h1)
  ·by_cases h2:x=-1
   ·simp (disch:=omega) only [pz];exact IsQ.f fun h=>h (.inr h2)
   ·simp (disch:=omega) only [pz];exact IsQ.t fun h=>h.elim h1 h2
 ·constructor
  ·rintro ⟨x,hx,hn⟩ hs
   obtain ⟨i,a,b,rfl⟩:=Z4 hx
   exact hn (hs i a b)
  ·intro hn
   refine Classical.byContradiction fun hc=>hn fun k a b=>?_
   exact Classical.byContradiction fun hh=>hc ⟨_,ZK a b,hh⟩
theorem ZqF {h:List (List Int)} (hs:Sz2 h) {i:Int} (g0:0≤i) (g1:i<(h.length:Int)) (g2:((ix h i).length:Int)=h.length) (g3:Sgn (ix h i))
  (hbef:∀ j,0≤j→j<i→(((ix h j).length:Int)=h.length∧Sgn (ix h j))∧∀ k,0≤k→k<j→dotN (ix h j) (ix h k) h.length=0):
  ∃ c:Bool,Zg5 h i (ix h i)=some (bif c then .inl (i+1) else .inr false)∧(c=true↔∀ k,0≤k→k<i→dotN (ix h i) (ix h k) h.length=0):=by
 have hl:=hs.1
 unfold Zg5
 have hsl:gSl h 0 i=some (h.take i.toNat):=by rw [ZaX (by omega) g0 (by omega)];simp
 have htl:((h.take i.toNat).length:Int)=i:=by rw [List.length_take];omega
 rw [hsl]
 simp only [Option.bind_some]
 have row:∀ k,0≤k→k<i→loop (ZcY (ix h i) k (ix h k)) (0,0)=some (bif decide (dotN (ix h i) (ix h k) h.length=0) then .inl (k+1) else .inr (.inr false)):=fun k a b=>by
  have hk:=(hbef k a b).1
  have hgo:=ZA (B:=ZcY (ix h i) k (ix h k)) (fun j=>(dotN (ix h i) (ix h k) j.toNat,j)) (i:=0) (n:=(ix h i).length) (by omega) fun j h0 h1=>by
   have hd:=Zkw g3 hk.2 j.toNat (by omega) (by omega)
   have hm:=Zma g3 hk.2 h0 h1 (by omega)
   have hm1:-1≤ix (ix h i) j*ix (ix h k) j∧ix (ix h i) j*ix (ix h k) j≤1:=by omega
   simp (disch:=omega) only [pz,ZcY,ZoY h0]
  have e0:((0:Int),(0:Int))=(fun j:Int=>(dotN (ix h i) (ix h k) j.toNat,j)) 0:=by simp [dotN]
  rw [e0,hgo]
  refine Zc ?_
  have e1:(((ix h i).length:Nat):Int).toNat=h.length:=by omega
  simp only [e1]
  by_cases hz:dotN (ix h i) (ix h k) h.length=0
  ·simp (disch:=omega) only [pz,ZcY]
  ·simp (disch:=omega) only [pz,ZcY]
 exact Zdg (B:=Zfk i (ix h i) (h.take i.toNat)) (P:=fun k=>dotN (ix h i) (ix h k) h.length=0) (t:=.inl (i+1)) (f:=.inr false) (i:=0) (n:=i) (by omega)
  (fun k a b c=>by
   have e:ix (h.take i.toNat) k=ix h k:=Zdf a b
   have r:=row k a b
   rw [dec_t c] at r
   simp (disch:=omega) only [pz,Zfk,e,r])
  (fun k a b c=>by
   have e:ix (h.take i.toNat) k=ix h k:=Zdf a b
   have r:=row k a b
   rw [dec_f c] at r
   simp (disch:=omega) only [pz,Zfk,e,r]) (by simp (disch:=omega) only [pz,Zfk])
theorem ZoU {h:List (List Int)} (hs:Sz2 h):IsQ (ZgC h) (ValidHd h):=by
 unfold ZgC Z0
 have hl:=hs.1
 simp (disch:=omega) only [pz]
 refine (ZyV (P:=fun i=>(((ix h i).length:Int)=h.length∧Sgn (ix h i))∧∀ k,0≤k→k<i→dotN (ix h i) (ix h k) h.length=0) (n:=h.length) (Q:=1≤(h.length:Int)∧(h.length:Int)≤32) (by omega) ?_ ?_ fun _=>?_).congr ?_
 all_goals first
  | exact ⟨fun q=>⟨q.2.1,q.2.2,fun i a b=>(q.1 i a b).1,fun i k a b c=>(q.1 i (by omega) c).2 k a b⟩,fun q=>⟨fun i a b=>⟨q.row i a b,fun k c d=>q.dot i k c d b⟩,q.n1,q.n2⟩⟩
  | skip
 ·intro i g0 g1 hbef ⟨⟨g2,g3⟩,g4⟩
  have inner:=ZqF hs g0 g1 g2 g3 hbef
  obtain ⟨c,q1,q2⟩:=inner
  rw [q2.2 g4] at q1
  have hc:=(ZnE (hs.row g0 g1)).ne (fun hn=>hn g3)
  simp (disch:=omega) only [pz,ZcR,ZN,hc,q1]
 ·intro i g0 g1 hbef hn
  by_cases g2:((ix h i).length:Int)=h.length
  ·by_cases g3:Sgn (ix h i)
   ·obtain ⟨c,q1,q2⟩:=ZqF hs g0 g1 g2 g3 hbef
    have:c=false:=by cases c with|false=>rfl|true=>exact absurd ⟨⟨g2,g3⟩,q2.1 rfl⟩ hn
    rw [this] at q1
    have hc:=(ZnE (hs.row g0 g1)).ne (fun hn=>hn g3)
    simp (disch:=omega) only [pz,ZcR,ZN,hc,q1]
   ·have hc:=(ZnE (hs.row g0 g1)).eq g3
    simp (disch:=omega) only [pz,ZcR,ZN,hc]
  ·simp (disch:=omega) only [pz,ZcR,ZN]
 ·by_cases hq:1≤(h.length:Int)∧(h.length:Int)≤32
  ·rw [Zc (r:=true) (by simp (disch:=omega) only [pz,ZcR,ZP])];exact IsQ.t hq
  ·rw [Zc (r:=false) (by simp (disch:=omega) only [pz,ZcR,ZP])];exact IsQ.f hq
end Go.Proofs.YtmmbnjijjdakmaaGreatDoor
namespace Go.Proofs.YtmmbnjijjdakmaaGreatDoor
set_option linter.unusedVariables false
open Go Go.Vc
set_option linter.unusedSimpArgs false
theorem ZbE {xs:List (List Int)} (hs:Sz2 xs):Zb7 xs=some xs:=by
 unfold Zb7
 have hl:=hs.1
 have hgo:=ZA (B:=ZeC xs) (fun k=>(xs.take k.toNat,k)) (i:=0) (n:=xs.length) (by omega) fun k h0 h1=>by
  have hr:=hs.row h0 h1
  have ht:(xs.take k.toNat).length≤1048576:=by rw [List.length_take];omega
  simp (disch:=omega) only [pz,ZeC,Zlx,Zbo h0 h1]
 have e0:(([]:List (List Int)),(0:Int))=(fun k:Int=>(xs.take k.toNat,k)) 0:=by simp
 rw [e0,hgo]
 refine Zc ?_
 simp (disch:=omega) only [pz,ZeC]
structure ValidAr (a:Zac):Prop where
 l1:2≤a.Levels
 l2:a.Levels≤16
 c1:1≤a.Columns
 c2:a.Columns≤8
 len:(a.Rows.length:Int)≤256
 row:∀ i,0≤i→i<(a.Rows.length:Int)→((ix a.Rows i).length:Int)=a.Columns∧∀ k,0≤k→k<((ix a.Rows i).length:Int)→0≤ix (ix a.Rows i) k∧ix (ix a.Rows i) k≤a.Levels-1
theorem Ztm {a:Zac} (hs:Sz2 a.Rows):IsQ (ZfD a) (ValidAr a):=by
 unfold ZfD ZiJ ZjC
 by_cases h1:2≤a.Levels∧a.Levels≤16
 ·by_cases h2:1≤a.Columns∧a.Columns≤8
  ·by_cases h3:(a.Rows.length:Int)≤256
   ·simp (disch:=omega) only [pz,in_ok]
    have inner:∀ i,0≤i→i<(a.Rows.length:Int)→∃ c:Bool,loop (Zdh a i) 0=some (bif c then .inl (i+1) else .inr false)∧(c=true↔∀ k,0≤k→k<((ix a.Rows i).length:Int)→0≤ix (ix a.Rows i) k∧ix (ix a.Rows i) k≤a.Levels-1):=fun i g0 g1=>by
     have hr:=hs.row g0 g1
     exact Zdg (B:=Zdh a i) (P:=fun k=>0≤ix (ix a.Rows i) k∧ix (ix a.Rows i) k≤a.Levels-1) (t:=.inl (i+1)) (f:=.inr false) (i:=0) (n:=(ix a.Rows i).length) (by omega)
      (fun k a b c=>by simp (disch:=omega) only [pz,Zdh,in_ok]) (fun k a b c=>by simp (disch:=omega) only [pz,Zdh,in_ok]) (by simp (disch:=omega) only [pz,Zdh])
    refine (Zaj (P:=fun i=>((ix a.Rows i).length:Int)=a.Columns∧∀ k,0≤k→k<((ix a.Rows i).length:Int)→0≤ix (ix a.Rows i) k∧ix (ix a.Rows i) k≤a.Levels-1) (n:=a.Rows.length) (Q:=True) (by omega) ?_ ?_ fun _=>?_).congr ⟨fun q=>⟨h1.1,h1.2,h2.1,h2.2,h3,q.1⟩,fun q=>⟨q.row,trivial⟩⟩
    ·intro i g0 g1 g2
     obtain ⟨c,q1,q2⟩:=inner i g0 g1
     rw [q2.2 g2.2] at q1
     have:=g2.1
     simp (disch:=omega) only [pz,Zem,q1]
    ·intro i g0 g1 g2
     by_cases hl:((ix a.Rows i).length:Int)=a.Columns
     ·obtain ⟨c,q1,q2⟩:=inner i g0 g1
      have:c=false:=by cases c with|false=>rfl|true=>exact absurd ⟨hl,q2.1 rfl⟩ g2
      rw [this] at q1
      simp (disch:=omega) only [pz,Zem,q1]
     ·simp (disch:=omega) only [pz,Zem]
    ·rw [Zc (r:=true) (by simp (disch:=omega) only [pz,Zem])];exact IsQ.t trivial
   ·simp (disch:=omega) only [pz,in_ok];exact IsQ.f fun q=>h3 q.len
  ·simp (disch:=omega) only [pz,in_ok];exact IsQ.f fun q=>h2 ⟨q.c1,q.c2⟩
 ·simp (disch:=omega) only [pz,in_ok];exact IsQ.f fun q=>h1 ⟨q.l1,q.l2⟩
theorem Zry {a:Zac} (hs:Sz2 a.Rows):IsQ (Zf6 a) (ValidAr a):=by
 unfold Zf6 Zjq Zi5
 by_cases h1:2≤a.Levels∧a.Levels≤16
 ·by_cases h2:1≤a.Columns∧a.Columns≤8
  ·by_cases h3:(a.Rows.length:Int)≤256
   ·simp (disch:=omega) only [pz,ZP]
    have e:Zac.mk a.Levels a.Columns a.Rows=a:=rfl
    have inner:∀ i,0≤i→i<(a.Rows.length:Int)→IsQ (ZaA (ix a.Rows i) (fun y0=>Zg3 y0 a)) (¬ ∀ k,0≤k→k<((ix a.Rows i).length:Int)→0≤ix (ix a.Rows i) k∧ix (ix a.Rows i) k≤a.Levels-1):=fun i g0 g1=>by
     refine (containsL (q:=fun x=>¬ (0≤x∧x≤a.Levels-1)) (hs.row g0 g1) fun x hx=>?_).congr ?_
     ·unfold Zg3
      by_cases hx:0≤x∧x≤a.Levels-1
      ·simp (disch:=omega) only [pz,ZP];exact IsQ.f fun h=>h hx
      ·simp (disch:=omega) only [pz,ZP];exact IsQ.t hx
     ·constructor
      ·rintro ⟨x,hx,hn⟩ hq
       obtain ⟨k,a1,b1,rfl⟩:=Z4 hx
       exact hn (hq k a1 b1)
      ·intro hn
       exact Classical.byContradiction fun hc=>hn fun k a1 b1=>Classical.byContradiction fun hh=>hc ⟨_,ZK a1 b1,hh⟩
    refine (Zaj (P:=fun i=>((ix a.Rows i).length:Int)=a.Columns∧∀ k,0≤k→k<((ix a.Rows i).length:Int)→0≤ix (ix a.Rows i) k∧ix (ix a.Rows i) k≤a.Levels-1) (n:=a.Rows.length) (Q:=True) (by omega) ?_ ?_ fun _=>?_).congr ⟨fun q=>⟨h1.1,h1.2,h2.1,h2.2,h3,q.1⟩,fun q=>⟨q.row,trivial⟩⟩
    ·intro i g0 g1 g2
     have q1:=(inner i g0 g1).ne (fun hn=>hn g2.2)
     have:=g2.1
     simp (disch:=omega) only [pz,ZeU,ZN,e,q1]
    ·intro i g0 g1 g2
     by_cases hl:((ix a.Rows i).length:Int)=a.Columns
     ·have q1:=(inner i g0 g1).eq (fun hn=>g2 ⟨hl,hn⟩)
      simp (disch:=omega) only [pz,ZeU,ZN,e,q1]
     ·simp (disch:=omega) only [pz,ZeU,ZN]
    ·rw [Zc (r:=true) (by simp (disch:=omega) only [pz,ZeU])];exact IsQ.t trivial
   ·simp (disch:=omega) only [pz,ZP];exact IsQ.f fun q=>h3 q.len
  ·simp (disch:=omega) only [pz,ZP];exact IsQ.f fun q=>h2 ⟨q.c1,q.c2⟩
 ·simp (disch:=omega) only [pz,ZP];exact IsQ.f fun q=>h1 ⟨q.l1,q.l2⟩
instance :Inhabited ZL:=⟨⟨0,0⟩⟩
def eLess (a b:ZL):Prop:=a.A<b.A∨(a.A=b.A∧a.B<b.B)
structure ValidG (g:Z1):Prop where
 cl:(g.Colors.length:Int)≤64
 col:∀ k,0≤k→k<(g.Colors.length:Int)→0≤ix g.Colors k∧ix g.Colors k≤63
 el:(g.Edges.length:Int)≤512
 edg:∀ k,0≤k→k<(g.Edges.length:Int)→(0≤(ix g.Edges k).A∧(ix g.Edges k).A<(ix g.Edges k).B∧(ix g.Edges k).B<(g.Colors.length:Int))∧(0<k→eLess (ix g.Edges (k-1)) (ix g.Edges k))
theorem Zqe (a b:ZL):IsQ (ZgG a b) (eLess a b):=by
 unfold ZgG eLess
 by_cases h1:a.A<b.A
 ·simp (disch:=omega) only [pz];exact IsQ.t (.inl h1)
 ·by_cases h2:a.A=b.A
  ·by_cases h3:a.B<b.B
   ·simp (disch:=omega) only [pz];exact IsQ.t (.inr ⟨h2,h3⟩)
   ·simp (disch:=omega) only [pz];exact IsQ.f fun h=>h.elim h1 fun h=>h3 h.2
  ·simp (disch:=omega) only [pz];exact IsQ.f fun h=>h.elim h1 fun h=>h2 h.1
def cmpI (x y:Int):Int:=if x<y then -1 else if y<x then 1 else 0
theorem Zr6 (x y:Int):Za5 x y=some (cmpI x y):=by
 unfold Za5 Zb3 cmpI
 rcases Int.lt_trichotomy x y with h|h|h
 ·rw [if_pos h];simp (disch:=omega) only [pz]
 ·rw [if_neg (by omega),if_neg (by omega)];simp (disch:=omega) only [pz]
 ·rw [if_neg (by omega),if_pos h];simp (disch:=omega) only [pz]
theorem or_ok (x y:Int):ZfZ [x,y]=some (if x=0 then y else x):=by
 unfold ZfZ
 have l:(([x,y]:List Int).length:Int)=2:=rfl
 have g0:ix [x,y] 0=x:=rfl
 have g1:ix [x,y] 1=y:=rfl
 by_cases hx:x=0
 ·rw [if_pos hx,ZI (s':=1) (by simp (disch:=omega) only [pz,Zc4,l,g0];rfl)]
  by_cases hy:y=0
  ·rw [ZI (s':=2) (by simp (disch:=omega) only [pz,Zc4,l,g1];rfl)]
   refine Zc ?_
   simp (disch:=omega) only [pz,Zc4,l]
   rw [hy]
  ·refine Zc ?_
   simp (disch:=omega) only [pz,Zc4,l,g1]
 ·rw [if_neg hx]
  refine Zc ?_
  simp (disch:=omega) only [pz,Zc4,l,g0]
theorem Zri (a b:ZL):∃ c:Int,Zhu a b=some c∧(c<0↔eLess a b):=by
 unfold Zhu
 simp only [Zr6,or_ok,Option.bind_some]
 refine ⟨_,rfl,?_⟩
 unfold eLess cmpI
 split<;>split<;>omega
theorem Zwg {g:Z1} (hc:(g.Colors.length:Int)≤1048576) (he:(g.Edges.length:Int)≤1048576):IsQ (ZfR g) (ValidG g):=by
 unfold ZfR ZjW
 have hcol:IsQ (Zhh g.Colors) ((g.Colors.length:Int)≤64∧∀ k,0≤k→k<(g.Colors.length:Int)→0≤ix g.Colors k∧ix g.Colors k≤63):=by
  unfold Zhh
  by_cases h1:(g.Colors.length:Int)≤64
  ·simp (disch:=omega) only [pz]
   refine (Zaj (P:=fun k=>0≤ix g.Colors k∧ix g.Colors k≤63) (n:=g.Colors.length) (Q:=True) (by omega) (fun k a b c=>by simp (disch:=omega) only [pz,Zhq,in_ok]) (fun k a b c=>by simp (disch:=omega) only [pz,Zhq,in_ok]) fun _=>?_).congr ⟨fun q=>⟨h1,q.1⟩,fun q=>⟨q.2,trivial⟩⟩
   rw [Zc (r:=true) (by simp (disch:=omega) only [pz,Zhq])];exact IsQ.t trivial
  ·simp (disch:=omega) only [pz];exact IsQ.f fun q=>h1 q.1
 by_cases h1:(g.Colors.length:Int)≤64∧∀ k,0≤k→k<(g.Colors.length:Int)→0≤ix g.Colors k∧ix g.Colors k≤63
 ·have q0:=hcol.eq h1
  have h11:=h1.1
  by_cases h2:(g.Edges.length:Int)≤512
  ·simp (disch:=omega) only [pz,q0]
   refine (Zaj (P:=fun k=>(0≤(ix g.Edges k).A∧(ix g.Edges k).A<(ix g.Edges k).B∧(ix g.Edges k).B<(g.Colors.length:Int))∧(0<k→eLess (ix g.Edges (k-1)) (ix g.Edges k))) (n:=g.Edges.length) (Q:=True) (by omega) ?_ ?_ fun _=>?_).congr ⟨fun q=>⟨h1.1,h1.2,h2,q.1⟩,fun q=>⟨q.edg,trivial⟩⟩
   ·intro k g0 g1 ⟨⟨a1,a2,a3⟩,a4⟩
    by_cases hk:0<k
    ·have l:=(Zqe (ix g.Edges (k-1)) (ix g.Edges k)).eq (a4 hk)
     have e:ZL.mk (ix g.Edges k).A (ix g.Edges k).B=ix g.Edges k:=rfl
     simp (disch:=omega) only [pz,Zcr,in_ok,e,l]
    ·simp (disch:=omega) only [pz,Zcr,in_ok]
   ·intro k g0 g1 hn
    by_cases a1:0≤(ix g.Edges k).A∧(ix g.Edges k).A≤(g.Colors.length:Int)-1
    ·by_cases a2:(ix g.Edges k).A+1≤(ix g.Edges k).B∧(ix g.Edges k).B≤(g.Colors.length:Int)-1
     ·have hk:0<k∧¬ eLess (ix g.Edges (k-1)) (ix g.Edges k):=⟨Classical.byContradiction fun h=>hn ⟨by omega,fun h'=>absurd h' h⟩,fun h=>hn ⟨by omega,fun _=>h⟩⟩
      have l:=(Zqe (ix g.Edges (k-1)) (ix g.Edges k)).ne hk.2
      have e:ZL.mk (ix g.Edges k).A (ix g.Edges k).B=ix g.Edges k:=rfl
      simp (disch:=omega) only [pz,Zcr,in_ok,e,l]
     ·simp (disch:=omega) only [pz,Zcr,in_ok]
    ·simp (disch:=omega) only [pz,Zcr,in_ok]
   ·rw [Zc (r:=true) (by simp (disch:=omega) only [pz,Zcr])];exact IsQ.t trivial
  ·simp (disch:=omega) only [pz,q0];exact IsQ.f fun q=>h2 q.el
 ·simp (disch:=omega) only [pz,hcol.ne h1];exact IsQ.f fun q=>h1 ⟨q.cl,q.col⟩
theorem ZAN {g:Z1} (hc:(g.Colors.length:Int)≤1048576) (he:(g.Edges.length:Int)≤1048576):IsQ (ZgV g) (ValidG g):=by
 unfold ZgV
 have hcol:IsQ (Zh0 g.Colors) ((g.Colors.length:Int)≤64∧∀ k,0≤k→k<(g.Colors.length:Int)→0≤ix g.Colors k∧ix g.Colors k≤63):=by
  unfold Zh0
  by_cases h1:(g.Colors.length:Int)≤64
  ·simp (disch:=omega) only [pz]
   refine (containsL (q:=fun x=>¬ (0≤x∧x≤63)) hc fun x hx=>?_).not.congr ?_
   ·unfold ZjX Zjm
    by_cases hx:0≤x∧x≤63
    ·simp (disch:=omega) only [pz,ZP];exact IsQ.f fun h=>h hx
    ·simp (disch:=omega) only [pz,ZP];exact IsQ.t hx
   ·constructor
    ·intro h
     exact ⟨h1,fun k a b=>Classical.byContradiction fun hh=>h ⟨_,ZK a b,hh⟩⟩
    ·rintro h ⟨x,hx,hn⟩
     obtain ⟨k,a,b,rfl⟩:=Z4 hx
     exact hn (h.2 k a b)
  ·simp (disch:=omega) only [pz];exact IsQ.f fun q=>h1 q.1
 refine (Zaj (P:=fun k=>(0≤(ix g.Edges k).A∧(ix g.Edges k).A<(ix g.Edges k).B∧(ix g.Edges k).B<(g.Colors.length:Int))∧(0<k→eLess (ix g.Edges (k-1)) (ix g.Edges k))) (n:=g.Edges.length) (Q:=((g.Colors.length:Int)≤64∧∀ k,0≤k→k<(g.Colors.length:Int)→0≤ix g.Colors k∧ix g.Colors k≤63)∧(g.Edges.length:Int)≤512) (by omega) ?_ ?_ fun _=>?_).congr ⟨fun q=>⟨q.2.1.1,q.2.1.2,q.2.2,q.1⟩,fun q=>⟨q.edg,⟨q.cl,q.col⟩,q.el⟩⟩
 ·intro k g0 g1 ⟨⟨a1,a2,a3⟩,a4⟩
  by_cases hk:0<k
  ·obtain ⟨c,q1,q2⟩:=Zri (ix g.Edges (k-1)) (ix g.Edges k)
   have q3:=q2.2 (a4 hk)
   have e:ZL.mk (ix g.Edges k).A (ix g.Edges k).B=ix g.Edges k:=rfl
   simp (disch:=omega) only [pz,Za6,ZN,e,q1]
  ·simp (disch:=omega) only [pz,Za6,ZN]
 ·intro k g0 g1 hn
  by_cases a1:0≤(ix g.Edges k).A
  ·by_cases a2:(ix g.Edges k).A<(ix g.Edges k).B
   ·by_cases a3:(ix g.Edges k).B<(g.Colors.length:Int)
    ·have hk:0<k∧¬ eLess (ix g.Edges (k-1)) (ix g.Edges k):=⟨Classical.byContradiction fun h=>hn ⟨⟨a1,a2,a3⟩,fun h'=>absurd h' h⟩,fun h=>hn ⟨⟨a1,a2,a3⟩,fun _=>h⟩⟩
     obtain ⟨c,q1,q2⟩:=Zri (ix g.Edges (k-1)) (ix g.Edges k)
     have q3:¬ c<0:=fun h=>hk.2 (q2.1 h)
     have e:ZL.mk (ix g.Edges k).A (ix g.Edges k).B=ix g.Edges k:=rfl
     simp (disch:=omega) only [pz,Za6,ZN,e,q1]
    ·simp (disch:=omega) only [pz,Za6,ZN]
   ·simp (disch:=omega) only [pz,Za6,ZN]
  ·simp (disch:=omega) only [pz,Za6,ZN]
 ·obtain ⟨c,q1,q2⟩:=hcol
  cases c with
  | true=>
   by_cases h2:(g.Edges.length:Int)≤512
   ·rw [Zc (r:=true) (by simp (disch:=omega) only [pz,Za6,q1])];exact IsQ.t ⟨q2.1 rfl,h2⟩
   ·rw [Zc (r:=false) (by simp (disch:=omega) only [pz,Za6,q1])];exact IsQ.f fun q=>h2 q.2
  | false=>
   rw [Zc (r:=false) (by simp (disch:=omega) only [pz,Za6,q1])];exact IsQ.f fun q=>absurd (q2.2 q.1) (by simp)
def rowsEdges (rows:List (List Int)):List ZL:=rows.map fun r=>⟨ix r 0,ix r 1⟩
theorem Zli {rows:List (List Int)} {k:Int} (h0:0≤k) (h1:k<(rows.length:Int)):rowsEdges (rows.take (k+1).toNat)=rowsEdges (rows.take k.toNat)++[⟨ix (ix rows k) 0,ix (ix rows k) 1⟩]:=by
 unfold rowsEdges
 rw [Zbo h0 h1,List.map_append];rfl
theorem Zor {o:Zf} (hs:Sz2 o.Rows):∃ r,Zg4 o=some r∧Zhp o=some r∧(r.2=true→(r.1.Edges.length:Int)≤512∧(r.1.Colors.length:Int)≤64)∧(r.2=true→(o.Rows.length:Int)≤512):=by
 unfold Zg4 Zhp
 have hl:=hs.1
 by_cases h1:0≤o.Size∧o.Size≤64
 ·have hmk:=ZdO (b:=8) (z:=(0:Int)) h1.1 (by omega) (by omega)
  simp (disch:=omega) only [pz,in_ok,ZP,hmk]
  have hlen:∀ k:Int,0≤k→k≤(o.Rows.length:Int)→((rowsEdges (o.Rows.take k.toNat)).length:Int)=k:=fun k a b=>by unfold rowsEdges;rw [List.length_map,List.length_take];omega
  have e0:((0:Int),([]:List ZL))=(fun k:Int=>(k,rowsEdges (o.Rows.take k.toNat))) 0:=by simp [rowsEdges]
  have zl:((List.replicate o.Size.toNat (0:Int)).length:Int)≤64:=by rw [List.length_replicate];omega
  rw [e0]
  rcases ZbI (B:=ZdE o (List.replicate o.Size.toNat 0)) (fun k=>(k,rowsEdges (o.Rows.take k.toNat))) (fun k=>¬ ((ix o.Rows k).length:Int)=2) (i:=0) (n:=o.Rows.length) (by omega) (fun k g0 g1 g2=>by
    have g2:=Classical.not_not.1 g2
    have hk:=hlen k g0 (by omega)
    simp (disch:=omega) only [pz,ZdE,Zli g0 g1]) with ⟨k,g0,g1,g2,g3,g4⟩|⟨g1,g2⟩
  ·have himp:=ZA (B:=ZbJ o (List.replicate o.Size.toNat 0)) (fun k=>(k,rowsEdges (o.Rows.take k.toNat))) (i:=0) (n:=k) g0 (fun j a b=>by
     have g5:=Classical.not_not.1 (g3 j a b)
     have hk:=hlen j a (by omega)
     simp (disch:=omega) only [pz,ZbJ,Zli a (show j<(o.Rows.length:Int) by omega)])
   refine ⟨(Z1.mk [] [],false),?_,?_,fun h=>(by cases h),fun h=>by cases h⟩
   ·rw [g4];exact Zc (by simp (disch:=omega) only [pz,ZdE])
   ·rw [himp];exact Zc (by simp (disch:=omega) only [pz,ZbJ])
  ·have himp:=ZA (B:=ZbJ o (List.replicate o.Size.toNat 0)) (fun k=>(k,rowsEdges (o.Rows.take k.toNat))) (i:=0) (n:=o.Rows.length) (by omega) (fun j a b=>by
     have g5:=Classical.not_not.1 (g1 j a b)
     have hk:=hlen j a (by omega)
     simp (disch:=omega) only [pz,ZbJ,Zli a b])
   have hel:=hlen o.Rows.length (by omega) (by omega)
   rw [Int.toNat_natCast,List.take_length] at hel
   obtain ⟨c,q1,q2⟩:=Zwg (g:=Z1.mk (List.replicate o.Size.toNat 0) (rowsEdges o.Rows)) (by show ((List.replicate o.Size.toNat (0:Int)).length:Int)≤_;omega) (by show ((rowsEdges o.Rows).length:Int)≤_;omega)
   obtain ⟨c',q3,q4⟩:=ZAN (g:=Z1.mk (List.replicate o.Size.toNat 0) (rowsEdges o.Rows)) (by show ((List.replicate o.Size.toNat (0:Int)).length:Int)≤_;omega) (by show ((rowsEdges o.Rows).length:Int)≤_;omega)
   have hcc:c'=c:=by
    cases c<;>cases c'<;>simp_all
   rw [hcc] at q3
   refine ⟨(Z1.mk (List.replicate o.Size.toNat 0) (rowsEdges o.Rows),c),?_,?_,fun h=>?_,fun h=>?_⟩
   ·rw [g2];refine Zc ?_
    simp (disch:=omega) only [pz,ZdE,q1]
   ·rw [himp];refine Zc ?_
    simp (disch:=omega) only [pz,ZbJ,q3]
   ·have v:=q2.1 h
    exact ⟨v.el,v.cl⟩
   ·have v:=(q2.1 h).el
    have v:((rowsEdges o.Rows).length:Int)≤512:=v
    omega
 ·simp (disch:=omega) only [pz,in_ok,ZP]
  exact ⟨_,rfl,rfl,fun h=>(by cases h),fun h=>by cases h⟩
end Go.Proofs.YtmmbnjijjdakmaaGreatDoor
