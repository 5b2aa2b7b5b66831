import Derived.Test.YtmmbnjijjdakmaaGreatDoorPuJh
import Derived.Lib.SplitLaws
import Derived.Test.YtmmbnjijjdakmaaGreatDoorPuFam
namespace Go.Proofs.YtmmbnjijjdakmaaGreatDoor
open Go Go.Vc Go.Lib
set_option linter.unusedSimpArgs false
set_option linter.unusedVariables false
theorem ZqJ (b:UInt8):∀ l:List UInt8,splitK [b] 0 (count l [b]) l=spl b l
 | []=>by rw [count_one];rfl
 | c::l=>by
  have ih:=ZqJ b l
  unfold spl
  by_cases hc:c=b
  ·subst hc
   rw [if_pos rfl,count_cons_eq,Nat.add_comm,←ih]
   have hix:index (c::l) [c]=((0:Nat):Int):=by rw [index];simp [List.isPrefixOf]
   conv=>lhs;unfold splitK
   rw [hix]
   rfl
  ·rw [if_neg hc,count_cons_ne c b l hc,←ih]
   have hp:([b]:List UInt8).isPrefixOf (c::l)=false:=by simp [List.isPrefixOf,Ne.symm hc]
   have hix:index (c::l) [b]=if index l [b]==-1 then -1 else index l [b]+1:=by rw [index,hp];simp
   by_cases hm:index l [b]=-1
   ·rw [count_miss hm];rfl
   ·have hge:=index_ge l [b]
    obtain ⟨j,hj⟩:∃ j:Nat,index l [b]=j:=⟨(index l [b]).toNat,by omega⟩
    have hix':index (c::l) [b]=((j+1:Nat):Int):=by rw [hix,if_neg (fun e=>hm (beq_iff_eq.1 e)),hj];omega
    rw [count_hit (by simp) hj,Nat.add_comm 1]
    generalize count (l.drop (j+[b].length)) [b]=k
    unfold splitK
    rw [hj,hix',if_neg (by rw [beq_iff_eq];omega),if_neg (by rw [beq_iff_eq];omega)]
    rfl
def splB (b:UInt8) (s:ByteArray):List ByteArray:=(spl b s.data.toList).map bl
theorem ZBk (b:UInt8) (s:ByteArray):splitB ⟨#[b]⟩ 0 (countB s ⟨#[b]⟩) s=splB b s:=by
 have h:=splitB_data ⟨#[b]⟩ 0 (countB s ⟨#[b]⟩) s
 have h2:splitK (⟨#[b]⟩:ByteArray).data.toList 0 (countB s ⟨#[b]⟩) s.data.toList=spl b s.data.toList:=ZqJ b s.data.toList
 rw [h2] at h
 unfold splB
 rw [←h,List.map_map]
 conv=>lhs;rw [←List.map_id (splitB _ _ _ _)]
 exact List.map_congr_left fun x _=>(Zaa x).symm
theorem ZfJ {b:UInt8} {s:ByteArray} (hs:s.size≤4294967280):Zba s ⟨#[b]⟩=some (splB b s):=by
 unfold Zba
 rw [if_pos ⟨by omega,Nat.le_refl _⟩,ZBk]
end Go.Proofs.YtmmbnjijjdakmaaGreatDoor
namespace Go.Proofs.YtmmbnjijjdakmaaGreatDoor
set_option linter.unusedVariables false
open Go Go.Vc Go.Lib
set_option linter.unusedSimpArgs false
theorem Zhr {b:UInt8} {s:ByteArray} (hs:s.size≤1000000000):Zaz s (b.toNat:Int)=some (splB b s):=by
 unfold Zaz
 have hL:=Zaw s
 obtain ⟨⟨out,frm,i⟩,⟨hi,f0,f1,os,h1,h2⟩,hgo⟩:=Zud (B:=Zdr s (b.toNat:Int)) (fun k (t:List ByteArray×Int×Int)=>t.2.2=k∧0≤t.2.1∧t.2.1≤k∧∃ os,spl b (s.data.toList.take k.toNat)=os++[(s.data.toList.take k.toNat).drop t.2.1.toNat]∧t.1=os.map bl)
  (i:=0) (n:=s.size) (by omega) (s:=(([]:List ByteArray),(0:Int),(0:Int))) ⟨rfl,Int.le_refl _,Int.le_refl _,[],rfl,rfl⟩ (by
   rintro k ⟨out,frm,i⟩ k0 k1 ⟨hi,f0,f1,os,h1,h2⟩
   dsimp only at hi f0 f1 h1 h2
   subst hi h2
   have hk:i.toNat<s.data.toList.length:=by omega
   obtain ⟨c,hc⟩:∃ c,s.data.toList[i.toNat]?=some c:=⟨_,List.getElem?_eq_getElem hk⟩
   have hg:gSt s i=some c:=ZdU k0 hc
   have ht:s.data.toList.take (i+1).toNat=s.data.toList.take i.toNat++[c]:=by rw [show (i+1).toNat=i.toNat+1 by omega,List.take_add_one,hc];rfl
   have h3:=Zjz (s.data.toList.take i.toNat) c h1
   have hn:(os.map bl).length≤1000000001:=by
    have:=ZiV b (s.data.toList.take i.toNat)
    rw [h1,List.length_append,List.length_singleton,List.length_take] at this
    rw [List.length_map];omega
   by_cases hcb:c=b
   ·subst hcb
    rw [if_pos rfl] at h3
    have hsl:=Zbw (s:=s) (lo:=frm) (hi:=i) f0 f1 (by omega)
    refine ⟨(os.map bl++[bl ((s.data.toList.take i.toNat).drop frm.toNat)],i+1,i+1),?_,rfl,by show 0≤i+1;omega,by show i+1≤i+1;omega,os++[(s.data.toList.take i.toNat).drop frm.toNat],?_,?_⟩
    ·simp (disch:=omega) only [pz,Zdr,hg,hsl]
    ·show spl c (s.data.toList.take (i+1).toNat)=_++[(s.data.toList.take (i+1).toNat).drop (i+1).toNat]
     have hd:(s.data.toList.take (i+1).toNat).drop (i+1).toNat=[]:=List.drop_eq_nil_of_le (by rw [List.length_take];omega)
     rw [hd,ht,h3]
    ·simp
   ·rw [if_neg hcb] at h3
    have hne:¬ ((c.toNat:Nat):Int)=(b.toNat:Int):=fun h=>hcb (UInt8.toNat_inj.1 (by omega))
    refine ⟨(os.map bl,frm,i+1),?_,rfl,f0,by show frm≤i+1;omega,os,?_,rfl⟩
    ·simp (disch:=omega) only [pz,Zdr,hg]
    ·show spl b (s.data.toList.take (i+1).toNat)=_++[(s.data.toList.take (i+1).toNat).drop frm.toNat]
     rw [ht,h3,List.drop_append_of_le_length (by rw [List.length_take];omega)])
 dsimp only at hi f0 f1 h1 h2
 subst hi h2
 rw [hgo]
 have hsl:=Zbw (s:=s) (lo:=frm) (hi:=s.size) f0 f1 (by omega)
 have hn:(os.map bl).length≤1000000001:=by
  have:=ZiV b (s.data.toList.take ((s.size:Nat):Int).toNat)
  rw [h1,List.length_append,List.length_singleton,List.length_take] at this
  rw [List.length_map];omega
 have e:splB b s=os.map bl++[bl ((s.data.toList.take ((s.size:Nat):Int).toNat).drop frm.toNat)]:=by
  unfold splB
  rw [show spl b s.data.toList=spl b (s.data.toList.take ((s.size:Nat):Int).toNat) by rw [Int.toNat_natCast,←Zaw,List.take_length],h1,List.map_append];rfl
 rw [e]
 refine Zc ?_
 rw [Int.toNat_natCast] at hsl ⊢
 simp (disch:=omega) only [pz,Zdr,hsl]
theorem Zyg (b:UInt8) (s:ByteArray):(splB b s).map (·.data.toList)=spl b s.data.toList:=by
 unfold splB
 rw [List.map_map]
 conv=>rhs;rw [←List.map_id (spl b s.data.toList)]
 rfl
theorem ZnJ (b:UInt8) (s:ByteArray):joinB (splB b s) ⟨#[b]⟩=s:=by
 have h:joinB (splB b s) ⟨#[b]⟩=bl (join ((splB b s).map (·.data.toList)) [b]):=rfl
 rw [h,Zyg,Zp4,Zaa]
theorem Zi0 {b:UInt8} {xs:List ByteArray} (h:xs≠[]) (hn:∀ x∈xs,b∉x.data.toList):splB b (joinB xs ⟨#[b]⟩)=xs:=by
 have e:(joinB xs ⟨#[b]⟩).data.toList=join (xs.map (·.data.toList)) [b]:=rfl
 unfold splB
 rw [e,Zpl (by simpa using h) (fun x hx=>by obtain ⟨y,hy,rfl⟩:=List.mem_map.1 hx;exact hn y hy),List.map_map]
 conv=>rhs;rw [←List.map_id xs]
 exact List.map_congr_left fun x _=>Zaa x
theorem ZkO (b:UInt8) (s:ByteArray):splB b s≠[]:=by
 unfold splB
 have:=ZfT b s.data.toList
 simpa using this
theorem ZfK (b:UInt8) (s:ByteArray):(splB b s).length≤s.size+1:=by
 unfold splB
 rw [List.length_map,←Zaw];exact ZiV b _
theorem ZhU {b:UInt8} {s x:ByteArray} (h:x∈splB b s):x.size≤s.size:=by
 obtain ⟨l,hl,rfl⟩:=List.mem_map.1 h
 rw [ZO,←Zaw];exact ZqQ b _ l hl
noncomputable def nmsL (s:ByteArray):List Int:=(splB 44 s).map fun p=>(numOf p).1
noncomputable def lst (s:ByteArray):List Int×Bool:=if s=⟨#[45]⟩ then ([],true) else if tL (nmsL s)=s then (nmsL s,true) else ([],false)
theorem ZoG {s:ByteArray} (h:¬ (numOf s).2=true):numOf s=(0,false):=by
 by_cases hx:∃ n:Int,(-1000000000000000000<n∧n<1000000000000000000)∧itoaB n=s
 ·obtain ⟨m,h1,h2⟩:=hx
  rw [Zhz h1 h2] at h
  exact absurd rfl h
 ·exact ZdQ fun n h1 h2=>hx ⟨n,h1,h2⟩
theorem Zn4 {n:Int} (h:InR n):numOf (itoaB n)=(n,true):=Zhz (by have:=h.1;have:=h.2;omega) rfl
theorem dg_no {c:UInt8} {l:List UInt8} (hc:¬ Dg c) (h45:c≠45) (n:Int):c∉(itoaB n).data.toList:=by
 rw [ZcM]
 intro h
 unfold itoa at h
 split at h
 ·rcases List.mem_cons.1 h with h|h
  ·exact h45 h
  ·exact hc (ZeZ _ c h)
 ·exact hc (ZeZ _ c h)
theorem Znm (s:ByteArray):nmsL s≠[]:=by
 unfold nmsL
 have:=ZkO 44 s
 simpa using this
theorem Znq (s:ByteArray):(nmsL s).length=(splB 44 s).length:=List.length_map ..
def OkN (p:ByteArray):Prop:=(numOf p).2=true∧InR (numOf p).1
theorem ZAY {s:ByteArray} (hl:(splB 44 s).length≤100) (h:∀ p∈splB 44 s,OkN p):tL (nmsL s)=s:=by
 rw [tL_t ⟨by rw [Znq];exact hl,fun x hx=>by obtain ⟨p,hp,rfl⟩:=List.mem_map.1 hx;exact (h p hp).2⟩ (Znm s)]
 have e:(nmsL s).map itoaB=splB 44 s:=by
  unfold nmsL
  rw [List.map_map]
  conv=>rhs;rw [←List.map_id (splB 44 s)]
  refine List.map_congr_left fun p hp=>?_
  have:=(h p hp).1
  exact (Zmb (s:=p) (n:=(numOf p).1) (by rw [←this])).2
 rw [e,ZnJ]
theorem Znw {s:ByteArray} (h:tL (nmsL s)=s):(splB 44 s).length≤100∧∀ p∈splB 44 s,OkN p:=by
 by_cases hk:(nmsL s).length≤100∧∀ x∈nmsL s,InR x
 ·have h1:=h
  rw [tL_t hk (Znm s)] at h1
  have h2:splB 44 s=(nmsL s).map itoaB:=by
   conv=>lhs;rw [←h1]
   refine Zi0 (by have:=Znm s;simpa using this) fun x hx=>?_
   obtain ⟨n,_,rfl⟩:=List.mem_map.1 hx
   exact dg_no (l:=[]) (by unfold Dg;decide) (by decide) n
  refine ⟨by rw [←Znq];exact hk.1,fun p hp=>?_⟩
  rw [h2] at hp
  obtain ⟨n,hn,rfl⟩:=List.mem_map.1 hp
  unfold OkN
  rw [Zn4 (hk.2 n hn)]
  exact ⟨rfl,hk.2 n hn⟩
 ·exfalso
  rw [tL_f hk] at h
  have e:nmsL s=[0]:=by
   rw [←h]
   show [(numOf (bl [])).1]=_
   rw [Zgw (s:=bl []) (.inl (by show 0<1;omega))]
  exact hk (by rw [e];exact ⟨by decide,fun x hx=>by rw [List.mem_singleton.1 hx];exact ⟨by omega,by omega⟩⟩)
theorem Zay {a b:ByteArray} (h:¬ a=b):(a.toList==b.toList)=false:=by
 cases hb:(a.toList==b.toList) with
 | false=>rfl
 | true=>exact absurd ((ZY _ _).1 hb) h
theorem ZuX (s:ByteArray):(lst s).1.length≤100:=by
 unfold lst
 split
 ·show 0≤100;omega
 ·split
  ·rename_i h
   show (nmsL s).length≤100
   rw [Znq];exact (Znw h).1
  ·show 0≤100;omega
theorem Zvz {s:ByteArray} (hs:s.size≤1000000000):Zf0 s=some (lst s):=by
 unfold Zf0 lst
 by_cases h:s=⟨#[45]⟩
 ·have:=(ZY s ⟨#[45]⟩).2 h
  rw [if_pos h]
  simp (disch:=omega) only [pz,this]
 ·have hb:=Zay h
  have hsp:=ZfJ (b:=44) (s:=s) (by omega)
  have hl:=ZfK 44 s
  rw [if_neg h]
  have e1:=ZA (B:=ZcV s (splB 44 s)) (fun k:Int=>(((splB 44 s).take k.toNat).map fun p=>(numOf p).1,k)) (i:=0) (n:=(splB 44 s).length) (by omega) fun k a b=>by
   have hm:=ZK a b
   have hn:=ZkK (ix (splB 44 s) k) (by have:=ZhU hm;omega)
   have hlk:(((splB 44 s).take k.toNat).map fun p=>(numOf p).1).length≤1000000001:=by rw [List.length_map,List.length_take];omega
   rw [Zfb a b]
   have hg:gApp 8 (((splB 44 s).take k.toNat).map fun p=>(numOf p).1) [(numOf (ix (splB 44 s) k)).1]=some (((splB 44 s).take k.toNat).map (fun p=>(numOf p).1)++[(numOf (ix (splB 44 s) k)).1]):=gApp1 (by omega) (by omega)
   simp (disch:=omega) only [pz,ZcV,hn,hg]
  rw [Int.toNat_natCast,List.take_length] at e1
  have e2:loop (ZcV s (splB 44 s)) ([],0)=some (if tL (nmsL s)=s then (nmsL s,true) else ([],false)):=by
   refine Eq.trans e1 (Zc ?_)
   have ht:=Zow (nmsL s)
   unfold nmsL at ht ⊢
   by_cases hc:tL ((splB 44 s).map fun p=>(numOf p).1)=s
   ·have:=(ZY _ _).2 hc
    rw [if_pos hc]
    simp (disch:=omega) only [pz,ZcV,ht,this]
   ·have:=Zay hc
    rw [if_neg hc]
    simp (disch:=omega) only [pz,ZcV,ht,this]
  simp (disch:=omega) only [pz,hb,hsp,e2]
theorem ZqG {s:ByteArray} (hs:s.size≤1000000000):ZfI s=some (lst s):=by
 unfold ZfI lst
 by_cases h:s=⟨#[45]⟩
 ·have:=(ZY s ⟨#[45]⟩).2 h
  rw [if_pos h]
  simp (disch:=omega) only [pz,this]
 ·have hb:=Zay h
  have hsp:Zaz s 44=some (splB 44 s):=Zhr (b:=44) hs
  rw [if_neg h]
  by_cases hl:(splB 44 s).length≤100
  ·have step:∀ n:Int,0≤n→n≤((splB 44 s).length:Int)→(∀ j,0≤j→j<n→OkN (ix (splB 44 s) j))→loop (ZaO (splB 44 s)) ([],0)=loop (ZaO (splB 44 s)) (((splB 44 s).take n.toNat).map (fun p=>(numOf p).1),n):=by
    intro n n0 n1 hok
    refine ZA (B:=ZaO (splB 44 s)) (fun k:Int=>(((splB 44 s).take k.toNat).map fun p=>(numOf p).1,k)) (i:=0) (n:=n) n0 fun k a b=>?_
    have hk:=hok k a b
    have hn:=ZfF (ix (splB 44 s) k)
    have hi:ZE (numOf (ix (splB 44 s) k)).1 (-999999999) 999999999=some true:=by
     have:=hk.2.1;have:=hk.2.2
     simp (disch:=omega) only [pz,ZE]
    have hlk:(((splB 44 s).take k.toNat).map fun p=>(numOf p).1).length≤100:=by rw [List.length_map,List.length_take];omega
    have hg:gApp 8 (((splB 44 s).take k.toNat).map fun p=>(numOf p).1) [(numOf (ix (splB 44 s) k)).1]=some (((splB 44 s).take k.toNat).map (fun p=>(numOf p).1)++[(numOf (ix (splB 44 s) k)).1]):=gApp1 (by omega) (by omega)
    rw [Zfb a (by omega)]
    have h2:=hk.1
    simp (disch:=omega) only [pz,ZaO,Zi9,hn,h2,hi,hg]
   rcases ZjB (n:=(splB 44 s).length) (by omega) (fun k=>¬ OkN (ix (splB 44 s) k)) with ⟨k,k0,k1,hk,hbad⟩|hbad
   ·have e:=step k k0 (by omega) fun j a b=>Classical.not_not.1 (hbad j a b)
    have hn:=ZfF (ix (splB 44 s) k)
    rw [if_neg fun hh=>hk ((Znw hh).2 _ (ZK k0 k1))]
    have e2:loop (ZaO (splB 44 s)) ([],0)=some ([],false):=by
     rw [e]
     refine Zc ?_
     by_cases h2:(numOf (ix (splB 44 s) k)).2=true
     ·have hi:ZE (numOf (ix (splB 44 s) k)).1 (-999999999) 999999999=some false:=by
       by_cases g1:-999999999≤(numOf (ix (splB 44 s) k)).1
       ·have:¬ (numOf (ix (splB 44 s) k)).1≤999999999:=fun g2=>hk ⟨h2,g1,g2⟩
        simp (disch:=omega) only [pz,ZE]
       ·simp (disch:=omega) only [pz,ZE]
      simp (disch:=omega) only [pz,ZaO,hn,h2,hi]
     ·have h2:(numOf (ix (splB 44 s) k)).2=false:=by simpa using h2
      simp (disch:=omega) only [pz,ZaO,hn,h2]
    simp (disch:=omega) only [pz,hb,hsp,e2]
   ·have hok:∀ j,0≤j→j<((splB 44 s).length:Int)→OkN (ix (splB 44 s) j):=fun j a b=>Classical.not_not.1 (hbad j a b)
    have e:=step (splB 44 s).length (by omega) (by omega) hok
    rw [Int.toNat_natCast,List.take_length] at e
    rw [if_pos (ZAY hl fun p hp=>by obtain ⟨i,a,b,rfl⟩:=Z4 hp;exact hok i a b)]
    have e2:loop (ZaO (splB 44 s)) ([],0)=some (nmsL s,true):=by
     refine Eq.trans e (Zc ?_)
     simp (disch:=omega) only [pz,ZaO]
     rfl
    simp (disch:=omega) only [pz,hb,hsp,e2]
  ·rw [if_neg fun hh=>hl (Znw hh).1]
   simp (disch:=omega) only [pz,hb,hsp]
end Go.Proofs.YtmmbnjijjdakmaaGreatDoor
namespace Go.Proofs.YtmmbnjijjdakmaaGreatDoor
set_option linter.unusedVariables false
open Go Go.Vc Go.Lib
set_option linter.unusedSimpArgs false
theorem ZvE {o:Zf} (hs:Sz2 o.Rows) (h:ZaF o=some true):(o.Rows.length:Int)≤720:=by
 refine Classical.byContradiction fun hn=>?_
 have hn:720<(o.Rows.length:Int):=by omega
 have e:Zf.mk o.Kind o.Size o.Rows=o:=rfl
 have hN:=hs.1
 have hf:ZaF o=some false:=by
  unfold ZaF
  by_cases h1:o.Kind=1
  ·have q:=(Zpp hs).ne fun v=>by have:=v.n2;omega
   by_cases hl:(o.Rows.length:Int)=o.Size
   ·simp (disch:=omega) only [pz,q,Z0]
   ·simp (disch:=omega) only [pz,q,Z0]
  by_cases h2:o.Kind=2
  ·have q:=(Zov (d:=⟨o.Size,o.Rows⟩) hs).ne fun v=>by have:(o.Rows.length:Int)≤128:=v.len;omega
   simp (disch:=omega) only [pz,e,ZhV,ZbE hs,q]
  by_cases h3:o.Kind=3
  ·have q:=(ZoU hs).ne fun v=>by have:=v.n2;omega
   by_cases hl:(o.Rows.length:Int)=o.Size
   ·simp (disch:=omega) only [pz,q,Z0]
   ·simp (disch:=omega) only [pz,q,Z0]
  by_cases h4:o.Kind=4
  ·have q:=(Zry (a:=⟨o.Size,(ix o.Rows 0).length,o.Rows⟩) hs).ne fun v=>by have:(o.Rows.length:Int)≤256:=v.len;omega
   simp (disch:=omega) only [pz,e,ZgW,ZN,ZbE hs,q]
  by_cases h5:o.Kind=5
  ·obtain ⟨cs,ci,b,g1,g2,g3,g4⟩:=Zpm hs
   have hr:ci.Rows=o.Rows:=by
    have g:=g2
    unfold Zew at g
    rw [ZbE hs] at g
    cases hm:ZaU o.Size with
    | none=>rw [hm] at g;cases g
    | some r=>rw [hm] at g;rw [←Option.some.inj g]
   have hb:b=false:=by
    cases b with
    | false=>rfl
    | true=>
     exfalso
     unfold Zc6 at g4
     cases hm:Zfm (Zd.mk ci.Field.Prime ci.Field.Degree ci.Field.Poly) ci.Rows with
     | none=>rw [hm] at g4;cases g4
     | some c=>
      rw [hm] at g4
      cases c with
      | false=>cases g4
      | true=>
       have hd:decide ((ci.Rows.length:Int)>8)=true:=by rw [hr];simp;omega
       simp only [Option.bind_some,Bool.not_true,cond_false] at g4
       rw [hd] at g4
       cases g4
   rw [hb] at g4
   simp (disch:=omega) only [pz,e,g2,g4]
  by_cases h6:o.Kind=6
  ·obtain ⟨r,g1,g2,_,g3⟩:=Zor hs
   have hr:r.2=false:=by
    cases hc:r.2 with
    | false=>rfl
    | true=>have:=g3 hc;omega
   simp (disch:=omega) only [pz,e,g2,hr]
  by_cases h7:o.Kind=7
  ·have q:=(Zph (g:=⟨o.Size,o.Rows⟩) hs).ne fun v=>by have:(o.Rows.length:Int)≤720:=v.1.l1;omega
   simp (disch:=omega) only [pz,e,Zg8,ZbE hs,q]
  ·simp (disch:=omega) only [pz,]
 rw [hf] at h
 cases h
theorem Zyj (s:ByteArray):∃ k b,ZfY s=some (k,b)∧Zgn s=some (k,b)∧(b=false→k=0)∧0≤k∧k≤7:=by
 obtain ⟨kn,n1,n2,hl⟩:∃ kn:List ByteArray,ZeQ=some kn∧ZdV=some (⟨#[]⟩::kn)∧(kn.length:Int)=7:=⟨_,rfl,rfl,rfl⟩
 have hl2:(((⟨#[]⟩:ByteArray)::kn).length:Int)=8:=by rw [List.length_cons];omega
 unfold ZfY Zgn Zjs
 have up:∀ n:Int,0≤n→n≤7→(∀ j,0≤j→j<n→¬ ix kn j=s)→loop (Zbn s (⟨#[]⟩::kn)) 1=loop (Zbn s (⟨#[]⟩::kn)) (n+1):=by
  intro n n0 n1 hn
  refine ZA (B:=Zbn s (⟨#[]⟩::kn)) (fun k:Int=>k) (i:=1) (n:=n+1) (by omega) fun k a b=>?_
  have hx:ix ((⟨#[]⟩:ByteArray)::kn) k=ix kn (k-1):=ZbK (by omega)
  have hq:=Zay (hn (k-1) (by omega) (by omega))
  simp (disch:=omega) only [pz,Zbn,hx,hq]
 rcases ZbI (B:=Zct kn s) (fun k=>k) (fun k=>ix kn k=s) (i:=0) (n:=7) (by omega) (fun k a b hk=>by
   have hq:=Zay fun h=>hk h.symm
   simp (disch:=omega) only [pz,Zct,hq]) with ⟨k,a,b,hk,hbef,e⟩|⟨hall,e⟩
 ·have e2:=up k a (by omega) hbef
  have hx:ix ((⟨#[]⟩:ByteArray)::kn) (k+1)=ix kn k:=by rw [ZbK (by omega),show k+1-1=k by omega]
  have q1:=(ZY s (ix kn k)).2 hk.symm
  have q2:=(ZY (ix kn k) s).2 hk
  have e3:loop (Zct kn s) 0=some k:=e.trans (Zc (by simp (disch:=omega) only [pz,Zct,q1]))
  have e4:loop (Zbn s (⟨#[]⟩::kn)) 1=some (k+1,true):=e2.trans (Zc (by simp (disch:=omega) only [pz,Zbn,hx,q2]))
  exact ⟨k+1,true,by simp (disch:=omega) only [pz,n2,e4],by simp (disch:=omega) only [pz,n1,e3],(fun h=>by cases h),by omega,by omega⟩
 ·have e2:=up 7 (by omega) (by omega) hall
  have e3:loop (Zct kn s) 0=some (-1):=e.trans (Zc (by simp (disch:=omega) only [pz,Zct]))
  have e4:loop (Zbn s (⟨#[]⟩::kn)) 1=some (0,false):=e2.trans (Zc (by simp (disch:=omega) only [pz,Zbn]))
  exact ⟨0,false,by simp (disch:=omega) only [pz,n2,e4],by simp (disch:=omega) only [pz,n1,e3];rfl,fun _=>rfl,by omega,by omega⟩
theorem ZrK {c:UInt8} {s:List UInt8}:∀ {xs:List (List UInt8)},c∈join xs s→c∈s∨∃ x∈xs,c∈x
 | [],h=>by cases h
 | [x],h=>.inr ⟨x,List.mem_singleton_self x,by rwa [join_one] at h⟩
 | x::y::r,h=>by
  rw [Zkp] at h
  rcases List.mem_append.1 h with h|h
  ·rcases List.mem_append.1 h with h|h
   ·exact .inr ⟨x,List.mem_cons_self ..,h⟩
   ·exact .inl h
  ·rcases ZrK h with h|⟨z,hz,h⟩
   ·exact .inl h
   ·exact .inr ⟨z,List.mem_cons_of_mem _ hz,h⟩
theorem Zpi {c:UInt8} {s:ByteArray} {xs:List ByteArray} (h1:c∉s.data.toList) (h2:∀ x∈xs,c∉x.data.toList):c∉(joinB xs s).data.toList:=by
 intro h
 have h:c∈join (xs.map (·.data.toList)) s.data.toList:=h
 rcases ZrK h with h|⟨x,hx,h⟩
 ·exact h1 h
 ·obtain ⟨y,hy,rfl⟩:=List.mem_map.1 hx
  exact h2 y hy h
theorem tL_no {c:UInt8} (h1:¬ Dg c) (h2:c≠45) (h3:c≠44) (xs:List Int):c∉(tL xs).data.toList:=by
 by_cases hn:xs=[]
 ·rw [tL_n hn]
  intro h
  exact h2 (List.mem_singleton.1 h)
 ·by_cases h:xs.length≤100∧∀ x∈xs,InR x
  ·rw [tL_t h hn]
   refine Zpi (fun h=>h3 (List.mem_singleton.1 h)) fun x hx=>?_
   obtain ⟨n,_,rfl⟩:=List.mem_map.1 hx
   exact dg_no (l:=[]) h1 h2 n
  ·rw [tL_f h]
   intro h
   cases h
theorem tR_no (rows:List (List Int)):32∉(tR rows).data.toList:=by
 unfold tR
 split
 ·decide
 ·refine Zpi (by decide) fun x hx=>?_
  obtain ⟨r,_,rfl⟩:=List.mem_map.1 hx
  exact tL_no (by unfold Dg;decide) (by decide) (by decide) r
theorem Zo4 (a b c t:ByteArray):joinB [a,b,c] t=(((a++t)++b)++t)++c:=by
 have h1:=Zf1 (l:=[a,b]) (by simp) c t
 have h2:=Zf1 (l:=[a]) (by simp) b t
 have h1:joinB [a,b,c] t=joinB [a,b] t++t++c:=h1
 have h2:joinB [a,b] t=joinB [a] t++t++b:=h2
 rw [h1,h2,Zit]
theorem ZoT {s:ByteArray} (h:32∉s.data.toList) (n:Int) (rows:List (List Int)):splB 32 ((((s++⟨#[32]⟩)++itoaB n)++⟨#[32]⟩)++tR rows)=[s,itoaB n,tR rows]:=by
 rw [←Zo4]
 refine Zi0 (by simp) fun x hx=>?_
 simp only [List.mem_cons,List.not_mem_nil,or_false] at hx
 rcases hx with rfl|rfl|rfl
 ·exact h
 ·exact dg_no (l:=[]) (by unfold Dg;decide) (by decide) n
 ·exact tR_no rows
theorem three {α:Type} {l:List α} (h:l.length=3):∃ a b c,l=[a,b,c]:=by
 match l,h with
 | [a,b,c],_=>exact ⟨a,b,c,rfl⟩
theorem Zop {α:Type} {g:α→α}:∀ {l:List α},l.map g=l→∀ x∈l,g x=x
 | [],_,x,hx=>by cases hx
 | a::l,h,x,hx=>by
  rw [List.map_cons,List.cons.injEq] at h
  rcases List.mem_cons.1 hx with rfl|hx
  ·exact h.1
  ·exact Zop h.2 x hx
theorem ZwW {p:ByteArray} (h:tL (lst p).1=p):(lst p).2=true:=by
 unfold lst at h ⊢
 split
 ·rfl
 ·rename_i h1
  rw [if_neg h1] at h
  split
  ·rfl
  ·rename_i h2
   rw [if_neg h2] at h
   rw [tL_n rfl] at h
   exact absurd h.symm h1
theorem Zo1 (s:ByteArray):-1000000000000000000<(numOf s).1∧(numOf s).1<1000000000000000000:=by
 by_cases h:(numOf s).2=true
 ·exact (Zmb (s:=s) (n:=(numOf s).1) (by rw [←h])).1
 ·rw [ZoG h]
  exact ⟨by show (-1000000000000000000:Int)<0;omega,by show (0:Int)<1000000000000000000;omega⟩
noncomputable def rowsRd (p:ByteArray):List (List Int):=if p=⟨#[110,111,110,101]⟩ then [] else (splB 47 p).map fun q=>(lst q).1
theorem Zup {p:ByteArray} (h:p.size≤1048574):Sz2 (rowsRd p):=by
 unfold rowsRd
 split
 ·exact ⟨by simp,fun b hb=>by cases hb⟩
 ·refine ⟨?_,fun b hb=>?_⟩
  ·rw [List.length_map]
   have:=ZfK 47 p
   omega
  ·obtain ⟨q,_,rfl⟩:=List.mem_map.1 hb
   have:=ZuX q
   omega
theorem ZAg {p:ByteArray} (hp:¬ p=⟨#[110,111,110,101]⟩) (h:p=tR (rowsRd p)):∀ q∈splB 47 p,(lst q).2=true:=by
 have hr:rowsRd p=(splB 47 p).map fun q=>(lst q).1:=by unfold rowsRd;rw [if_neg hp]
 have hne:rowsRd p≠[]:=by
  rw [hr]
  have:=ZkO 47 p
  simpa using this
 have h2:p=joinB ((rowsRd p).map tL) ⟨#[47]⟩:=by
  unfold tR at h
  rwa [if_neg hne] at h
 have h3:splB 47 p=(rowsRd p).map tL:=by
  conv=>lhs;rw [h2]
  refine Zi0 (by simpa using hne) fun x hx=>?_
  obtain ⟨r,_,rfl⟩:=List.mem_map.1 hx
  exact tL_no (by unfold Dg;decide) (by decide) (by decide) r
 rw [hr,List.map_map] at h3
 intro q hq
 exact ZwW (Zop h3.symm q hq)
theorem ZzP {y:ByteArray} (hs:y.size≤1048576):∃ r,Zh5 y=some r∧ZdA y=some r∧Sz2 r.1.Rows:=by
 have hsp:Zaz y 32=some (splB 32 y):=Zhr (b:=32) (by omega)
 have him:Zba y ⟨#[32]⟩=some (splB 32 y):=ZfJ (b:=32) (by omega)
 unfold Zh5 ZdA
 have z2:Sz2 (Zf.mk 0 0 ([]:List (List Int))).Rows:=⟨by simp,fun b hb=>by cases hb⟩
 by_cases h3:((splB 32 y).length:Int)=3
 ·obtain ⟨p0,p1,p2,he⟩:=three (show (splB 32 y).length=3 by omega)
  have hsz:y.size=p0.size+1+p1.size+1+p2.size:=by
   have:=ZnJ 32 y
   rw [he,Zo4] at this
   have:=congrArg ByteArray.size this
   simp only [ZaL] at this
   have e1:(⟨#[32]⟩:ByteArray).size=1:=rfl
   omega
  rw [he] at hsp him
  obtain ⟨k,b,nk1,nk2,nk3,nk4,nk5⟩:=Zyj p0
  have ns:=ZfF p1
  have ni:=ZkK p1 (by omega)
  have hrng:=Zo1 p1
  have hz:=Zup (p:=p2) (by omega)
  have hR:∃ R,Zeo y (k,b) (numOf p1) (rowsRd p2)=some R∧Zep y (k,b) (numOf p1) (rowsRd p2)=some R∧Sz2 R.1.Rows∧((R=(Zf.mk 0 0 ([]:List (List Int)),false))∨(b=true∧(numOf p1).2=true∧(p2=⟨#[110,111,110,101]⟩∨((splB 47 p2).length:Int)≤720∧∀ q∈splB 47 p2,(lst q).2=true))):=by
   unfold Zeo Zep
   obtain ⟨cv,v1,v2⟩:=ZyJ (o:=Zf.mk k (numOf p1).1 (rowsRd p2)) hz
   cases cv with
   | false=>exact ⟨(Zf.mk 0 0 ([]:List (List Int)),false),by simp (disch:=omega) only [pz,v2],by simp (disch:=omega) only [pz,v1],z2,.inl rfl⟩
   | true=>
    obtain ⟨k1,k7⟩:=ZsI v2
    have hrow:=ZvE hz v2
    obtain ⟨t,t1,t2,_,s,hno,et⟩:=Zwt (o:=Zf.mk k (numOf p1).1 (rowsRd p2)) k1 k7 (by show _≤(numOf p1).1∧(numOf p1).1≤_;omega) (by have:((rowsRd p2).length:Int)≤720:=hrow;show (rowsRd p2).length≤_;omega)
    have t2:=t2 v2
    by_cases hty:t=y
    ·have hq:=(ZY t y).2 hty
     refine ⟨(Zf.mk k (numOf p1).1 (rowsRd p2),true),by simp (disch:=omega) only [pz,v2,t2,hq],by simp (disch:=omega) only [pz,v1,t1,hq],hz,.inr ⟨?_,?_,?_⟩⟩
     ·cases b with
      | true=>rfl
      | false=>have:=nk3 rfl;have k1:1≤k:=k1;omega
     ·have hp:=ZoT hno (numOf p1).1 (rowsRd p2)
      rw [←et,hty,he] at hp
      simp only [List.cons.injEq,and_true] at hp
      refine Classical.byContradiction fun hn=>hn ?_
      have e0:=ZoG hn
      have:=Zn4 (n:=(numOf p1).1) (by rw [e0];exact ⟨by show (-999999999:Int)≤0;omega,by show (0:Int)≤999999999;omega⟩)
      rw [←hp.2.1] at this
      rw [this]
     ·have hp:=ZoT hno (numOf p1).1 (rowsRd p2)
      rw [←et,hty,he] at hp
      simp only [List.cons.injEq,and_true] at hp
      by_cases hn:p2=⟨#[110,111,110,101]⟩
      ·exact .inl hn
      ·refine .inr ⟨?_,ZAg hn hp.2.2⟩
       have hrow:((rowsRd p2).length:Int)≤720:=hrow
       unfold rowsRd at hrow
       rw [if_neg hn,List.length_map] at hrow
       exact hrow
    ·have hq:=Zay hty
     exact ⟨(Zf.mk 0 0 ([]:List (List Int)),false),by simp (disch:=omega) only [pz,v2,t2,hq],by simp (disch:=omega) only [pz,v1,t1,hq],z2,.inl rfl⟩
  obtain ⟨R,R1,R2,R3,R4⟩:=hR
  refine ⟨R,?_,?_,R3⟩
  ·have g0:ix [p0,p1,p2] 0=p0:=rfl
   have g1:ix [p0,p1,p2] 1=p1:=rfl
   have g2:ix [p0,p1,p2] 2=p2:=rfl
   have l3:(([p0,p1,p2]:List ByteArray).length:Int)=3:=rfl
   have key:ZfC y [p0,p1,p2] (k,b) (numOf p1)=some R∨R=(Zf.mk 0 0 ([]:List (List Int)),false)∧¬ (b=true∧(numOf p1).2=true):=by
    by_cases hbc:b=true∧(numOf p1).2=true
    ·refine .inl ?_
     unfold ZfC
     by_cases hn:p2=⟨#[110,111,110,101]⟩
     ·have hq:=(ZY p2 _).2 hn
      have e:rowsRd p2=[]:=by unfold rowsRd;rw [if_pos hn]
      rw [e] at R2
      simp (disch:=omega) only [pz,g2,hq,R2]
     ·have hq:=Zay hn
      have h47:Zaz p2 47=some (splB 47 p2):=Zhr (b:=47) (by omega)
      have e:rowsRd p2=(splB 47 p2).map fun q=>(lst q).1:=by unfold rowsRd;rw [if_neg hn]
      by_cases hl:((splB 47 p2).length:Int)≤720
      ·have step:∀ n:Int,0≤n→n≤((splB 47 p2).length:Int)→(∀ j,0≤j→j<n→(lst (ix (splB 47 p2) j)).2=true)→loop (Zbd y (k,b) (numOf p1) (splB 47 p2)) (0,[])=loop (Zbd y (k,b) (numOf p1) (splB 47 p2)) (n,((splB 47 p2).take n.toNat).map fun q=>(lst q).1):=by
        intro n n0 n1 hok
        refine ZA (B:=Zbd y (k,b) (numOf p1) (splB 47 p2)) (fun m:Int=>(m,((splB 47 p2).take m.toNat).map fun q=>(lst q).1)) (i:=0) (n:=n) n0 fun m a b=>?_
        have hm:=hok m a b
        have hr:=ZqG (s:=ix (splB 47 p2) m) (by have:=ZhU (ZK a (show m<((splB 47 p2).length:Int) by omega));omega)
        have hlk:(((splB 47 p2).take m.toNat).map fun q=>(lst q).1).length≤720:=by rw [List.length_map,List.length_take];omega
        have hg:gApp 24 (((splB 47 p2).take m.toNat).map fun q=>(lst q).1) [(lst (ix (splB 47 p2) m)).1]=some (((splB 47 p2).take m.toNat).map (fun q=>(lst q).1)++[(lst (ix (splB 47 p2) m)).1]):=gApp1 (by omega) (by omega)
        rw [Zfb a (by omega)]
        simp (disch:=omega) only [pz,Zbd,hr,hm,hg]
       rcases ZjB (n:=(splB 47 p2).length) (by omega) (fun m=>¬ (lst (ix (splB 47 p2) m)).2=true) with ⟨m,m0,m1,hm,hbad⟩|hbad
       ·have e3:=step m m0 (by omega) fun j a b=>Classical.not_not.1 (hbad j a b)
        have hr:=ZqG (s:=ix (splB 47 p2) m) (by have:=ZhU (ZK m0 m1);omega)
        have hm2:(lst (ix (splB 47 p2) m)).2=false:=by simpa using hm
        have hR0:R=(Zf.mk 0 0 ([]:List (List Int)),false):=by
         rcases R4 with h|⟨_,_,h|h⟩
         ·exact h
         ·exact absurd h hn
         ·exact absurd (h.2 _ (ZK m0 m1)) hm
        have e4:loop (Zbd y (k,b) (numOf p1) (splB 47 p2)) (0,[])=some R:=by
         rw [e3,hR0]
         refine Zc ?_
         simp (disch:=omega) only [pz,Zbd,hr,hm2]
        simp (disch:=omega) only [pz,g2,hq,h47,e4]
       ·have e3:=step (splB 47 p2).length (by omega) (by omega) fun j a b=>Classical.not_not.1 (hbad j a b)
        rw [Int.toNat_natCast,List.take_length,←e] at e3
        have e4:loop (Zbd y (k,b) (numOf p1) (splB 47 p2)) (0,[])=some R:=by
         rw [e3]
         refine Zc ?_
         simp (disch:=omega) only [pz,Zbd,R2]
        simp (disch:=omega) only [pz,g2,hq,h47,e4]
      ·have hR0:R=(Zf.mk 0 0 ([]:List (List Int)),false):=by
        rcases R4 with h|⟨_,_,h|h⟩
        ·exact h
        ·exact absurd h hn
        ·exact absurd h.1 hl
       rw [hR0]
       simp (disch:=omega) only [pz,g2,hq,h47]
    ·refine .inr ⟨?_,hbc⟩
     rcases R4 with h|⟨h1,h2,_⟩
     ·exact h
     ·exact absurd ⟨h1,h2⟩ hbc
   rcases key with key|⟨hR0,hbc⟩
   ·by_cases hb:b=true
    ·by_cases hc:(numOf p1).2=true
     ·simp (disch:=omega) only [pz,hsp,l3,g0,nk1,g1,ns,hb,hc]
      rw [hb] at key
      exact key
     ·have hR0:R=(Zf.mk 0 0 ([]:List (List Int)),false):=by
       rcases R4 with h|⟨h1,h2,_⟩
       ·exact h
       ·exact absurd h2 hc
      have hc:(numOf p1).2=false:=by simpa using hc
      rw [hR0]
      simp (disch:=omega) only [pz,hsp,l3,g0,nk1,g1,ns,hb,hc]
    ·have hR0:R=(Zf.mk 0 0 ([]:List (List Int)),false):=by
      rcases R4 with h|⟨h1,h2,_⟩
      ·exact h
      ·exact absurd h1 hb
     have hb:b=false:=by simpa using hb
     rw [hR0]
     simp (disch:=omega) only [pz,hsp,l3,g0,nk1,g1,ns,hb]
   ·rw [hR0]
    by_cases hb:b=true
    ·have hc:(numOf p1).2=false:=by
      cases hc:(numOf p1).2 with
      | false=>rfl
      | true=>exact absurd ⟨hb,hc⟩ hbc
     simp (disch:=omega) only [pz,hsp,l3,g0,nk1,g1,ns,hb,hc]
    ·have hb:b=false:=by simpa using hb
     simp (disch:=omega) only [pz,hsp,l3,g0,nk1,g1,ns,hb]
  ·have g0:ix [p0,p1,p2] 0=p0:=rfl
   have g1:ix [p0,p1,p2] 1=p1:=rfl
   have g2:ix [p0,p1,p2] 2=p2:=rfl
   have l3:(([p0,p1,p2]:List ByteArray).length:Int)=3:=rfl
   by_cases hn:p2=⟨#[110,111,110,101]⟩
   ·have hq:=(ZY p2 _).2 hn
    have e:rowsRd p2=[]:=by unfold rowsRd;rw [if_pos hn]
    rw [e] at R1
    simp (disch:=omega) only [pz,him,l3,g0,nk2,g1,ni,g2,hq,R1]
   ·have hq:=Zay hn
    have h47:=ZfJ (b:=47) (s:=p2) (by omega)
    have e:rowsRd p2=(splB 47 p2).map fun q=>(lst q).1:=by unfold rowsRd;rw [if_neg hn]
    have hl:=ZfK 47 p2
    have e3:=ZA (B:=Zdw y (k,b) (numOf p1) (splB 47 p2)) (fun m:Int=>(m,((splB 47 p2).take m.toNat).map fun q=>(lst q).1)) (i:=0) (n:=(splB 47 p2).length) (by omega) fun m a b=>by
     have hr:=Zvz (s:=ix (splB 47 p2) m) (by have:=ZhU (ZK a b);omega)
     have hlk:(((splB 47 p2).take m.toNat).map fun q=>(lst q).1).length≤1048577:=by rw [List.length_map,List.length_take];omega
     have hg:gApp 24 (((splB 47 p2).take m.toNat).map fun q=>(lst q).1) [(lst (ix (splB 47 p2) m)).1]=some (((splB 47 p2).take m.toNat).map (fun q=>(lst q).1)++[(lst (ix (splB 47 p2) m)).1]):=gApp1 (by omega) (by omega)
     rw [Zfb a b]
     simp (disch:=omega) only [pz,Zdw,hr,hg]
    rw [Int.toNat_natCast,List.take_length,←e] at e3
    have e4:loop (Zdw y (k,b) (numOf p1) (splB 47 p2)) (0,[])=some R:=by
     refine Eq.trans e3 (Zc ?_)
     simp (disch:=omega) only [pz,Zdw,R1]
    simp (disch:=omega) only [pz,him,l3,g0,nk2,g1,ni,g2,hq,h47,e4]
 ·exact ⟨(Zf.mk 0 0 ([]:List (List Int)),false),by simp (disch:=omega) only [pz,hsp],by simp (disch:=omega) only [pz,him],z2⟩
end Go.Proofs.YtmmbnjijjdakmaaGreatDoor
namespace Go.Proofs.YtmmbnjijjdakmaaGreatDoor
set_option linter.unusedVariables false
open Go Go.Vc Go.Lib
set_option linter.unusedSimpArgs false
theorem ZrI (b:UInt8):∀ l:List UInt8,b∉l∨∃ x y,l=x++b::y∧b∉x
 | []=>.inl (by simp)
 | c::l=>by
  by_cases hc:c=b
  ·exact .inr ⟨[],l,by rw [hc];rfl,by simp⟩
  ·rcases ZrI b l with h|⟨x,y,rfl,hx⟩
   ·exact .inl fun hh=>by
     rcases List.mem_cons.1 hh with e|hh
     ·exact hc e.symm
     ·exact h hh
   ·exact .inr ⟨c::x,y,rfl,fun hh=>by
     rcases List.mem_cons.1 hh with e|hh
     ·exact hc e.symm
     ·exact hx hh⟩
theorem ZpQ (b:UInt8):∀ l:List UInt8,b∉l∨∃ x y,l=x++b::y∧b∉y
 | []=>.inl (by simp)
 | c::l=>by
  rcases ZpQ b l with h|⟨x,y,rfl,hx⟩
  ·by_cases hc:c=b
   ·exact .inr ⟨[],l,by rw [hc];rfl,h⟩
   ·exact .inl fun hh=>by
     rcases List.mem_cons.1 hh with e|hh
     ·exact hc e.symm
     ·exact h hh
  ·exact .inr ⟨c::x,y,rfl,hx⟩
theorem ZrH {b:UInt8}:∀ {l:List UInt8},b∉l→index l [b]=-1
 | [],_=>by rw [index];rfl
 | c::l,h=>by
  have ih:=ZrH (l:=l) fun hh=>h (List.mem_cons_of_mem _ hh)
  have hp:([b]:List UInt8).isPrefixOf (c::l)=false:=by
   have:¬ b=c:=fun e=>h (by rw [e];exact List.mem_cons_self ..)
   simp [List.isPrefixOf,this]
  rw [index,hp,ih]
  rfl
theorem Zpt {b:UInt8} {y:List UInt8}:∀ {x:List UInt8},b∉x→index (x++b::y) [b]=(x.length:Int)
 | [],_=>by
  show index (b::y) [b]=_
  rw [index];simp [List.isPrefixOf]
 | c::x,h=>by
  have ih:=Zpt (y:=y) (x:=x) fun hh=>h (List.mem_cons_of_mem _ hh)
  have hp:([b]:List UInt8).isPrefixOf (c::(x++b::y))=false:=by
   have:¬ b=c:=fun e=>h (by rw [e];exact List.mem_cons_self ..)
   simp [List.isPrefixOf,this]
  show index (c::(x++b::y)) [b]=_
  rw [index,hp,ih]
  have:((x.length:Int)==-1)=false:=by
   cases hb:(x.length:Int)==-1 with
   | false=>rfl
   | true=>have:=beq_iff_eq.1 hb;omega
  rw [this]
  simp
theorem ZuK {l:List UInt8} (h:32∉l):cut3 (bl l) ⟨#[32]⟩=(bl l,⟨#[]⟩,false):=by
 have hi:index l [32]=-1:=ZrH h
 have e:cut l [32]=(l,[],false):=by
  unfold cut
  rw [hi,if_neg (by omega)]
 unfold cut3
 show ((⟨(cut l [32]).1.toArray⟩:ByteArray),(⟨(cut l [32]).2.1.toArray⟩:ByteArray),(cut l [32]).2.2)=_
 rw [e];rfl
theorem Zyh {x y:List UInt8} (h:32∉x):cut3 (bl (x++32::y)) ⟨#[32]⟩=(bl x,bl y,true):=by
 have hi:index (x++32::y) [32]=(x.length:Int):=Zpt h
 have e:cut (x++32::y) [32]=(x,y,true):=by
  unfold cut
  rw [hi,if_pos (by omega)]
  simp
 unfold cut3
 show ((⟨(cut (x++32::y) [32]).1.toArray⟩:ByteArray),(⟨(cut (x++32::y) [32]).2.1.toArray⟩:ByteArray),(cut (x++32::y) [32]).2.2)=_
 rw [e];rfl
theorem ch_ne {c:UInt8} (h:¬ c=32):¬ (c.toNat:Int)=32:=fun e=>h (by
 apply UInt8.toNat_inj.1
 have:(32:UInt8).toNat=32:=rfl
 omega)
theorem at_l {x y:List UInt8} {i:Int} (h0:0≤i) (h1:i<(x.length:Int)):∃ c∈x,gSt (bl (x++y)) i=some c:=by
 have hl:i.toNat<x.length:=by omega
 refine ⟨x[i.toNat],List.getElem_mem _,ZdU h0 ?_⟩
 show (x++y)[i.toNat]?=_
 rw [List.getElem?_append_left hl,List.getElem?_eq_getElem hl]
theorem at_m {x y:List UInt8} {b:UInt8}:gSt (bl (x++b::y)) (x.length:Int)=some b:=by
 refine ZdU (by omega) ?_
 show (x++b::y)[(x.length:Int).toNat]?=_
 rw [Int.toNat_natCast,List.getElem?_append_right (Nat.le_refl _),Nat.sub_self]
 rfl
theorem at_r {x y:List UInt8} {b:UInt8} {i:Int} (h0:(x.length:Int)<i) (h1:i<((x++b::y).length:Int)):∃ c∈y,gSt (bl (x++b::y)) i=some c:=by
 rw [List.length_append,List.length_cons] at h1
 obtain ⟨k,hk⟩:∃ k,i.toNat=x.length+(k+1):=⟨i.toNat-x.length-1,by omega⟩
 have hl:k<y.length:=by omega
 refine ⟨y[k],List.getElem_mem _,ZdU (by omega) ?_⟩
 show (x++b::y)[i.toNat]?=_
 rw [hk,List.getElem?_append_right (by omega),Nat.add_sub_cancel_left,List.getElem?_cons_succ,List.getElem?_eq_getElem hl]
theorem sl_l {x y:List UInt8}:gStSl (bl (x++y)) 0 (x.length:Int)=some (bl x):=by
 rw [Zbw (by omega) (by omega) (by rw [ZO,List.length_append];omega)]
 congr 2
 show ((x++y).take (x.length:Int).toNat).drop 0=x
 rw [Int.toNat_natCast];simp
theorem sl_r {x y:List UInt8} {b:UInt8}:gStSl (bl (x++b::y)) ((x.length:Int)+1) ((bl (x++b::y)).size:Int)=some (bl y):=by
 rw [Zbw (by omega) (by rw [ZO,List.length_append,List.length_cons];omega) (by omega)]
 congr 2
 show (((x++b::y)).take ((bl (x++b::y)).size:Int).toNat).drop ((x.length:Int)+1).toNat=y
 rw [Int.toNat_natCast,ZO,List.take_length,show ((x.length:Int)+1).toNat=x.length+1 by omega]
 simp [List.drop_append]
theorem ZjJ {σ ρ:Type} {B:σ→Option (σ ⊕ ρ)} (f:Int→σ) {i m:Int} (hi:m≤i) (h:∀ k,m<k→k≤i→B (f k)=some (.inl (f (k-1)))):loop B (f i)=loop B (f m):=by
 rcases Zq1 (B:=B) f (fun _=>False) hi fun k a b _=>h k a b with ⟨_,_,_,h,_⟩|⟨_,h⟩
 ·exact h.elim
 ·exact h
theorem ZrY {l:List UInt8} (h:32∉l) (hs:l.length≤1048576):ZdT (bl l) 32=some (-1)∧Zbp (bl l)=some (⟨#[]⟩,false):=by
 have hz:(bl l).size=l.length:=ZO l
 have hc:∀ k:Int,-1<k→k≤(l.length:Int)-1→∃ c:UInt8,gSt (bl l) k=some c∧¬ (c.toNat:Int)=32:=fun k a b=>by
  obtain ⟨c,hm,hg⟩:=at_l (x:=l) (y:=[]) (i:=k) (by omega) (by omega)
  rw [List.append_nil] at hg
  exact ⟨c,hg,ch_ne fun e=>h (e▸hm)⟩
 constructor
 ·unfold ZdT ZhJ
  have e:loop (ZcN (bl l) 32) ((l.length:Int)-1)=some (-1):=by
   refine Eq.trans (ZjJ (fun k=>k) (m:=-1) (by omega) fun k a b=>?_) (Zc ?_)
   ·obtain ⟨c,hg,hn⟩:=hc k a b
    simp (disch:=omega) only [pz,ZcN,hg]
   ·simp (disch:=omega) only [pz,ZcN]
  simp (disch:=omega) only [pz,hz,e]
 ·unfold Zbp
  have k1:Zb5 (bl l) (-1)=some (⟨#[]⟩,false):=by
   unfold Zb5
   simp (disch:=omega) only [pz,]
  have e:loop (ZcO (bl l)) ((l.length:Int)-1)=some (⟨#[]⟩,false):=by
   refine Eq.trans (ZjJ (fun k=>k) (m:=-1) (by omega) fun k a b=>?_) (Zc ?_)
   ·obtain ⟨c,hg,hn⟩:=hc k a b
    simp (disch:=omega) only [pz,ZcO,hg]
   ·simp (disch:=omega) only [pz,ZcO,k1]
  simp (disch:=omega) only [pz,hz,e]
theorem ZuB {x y:List UInt8} (h:32∉y) (hs:(x++32::y).length≤1048576) {r:ByteArray×Bool} (hk:Zb5 (bl (x++32::y)) (x.length:Int)=some r):
  ZdT (bl (x++32::y)) 32=some (x.length:Int)∧Zbp (bl (x++32::y))=some r:=by
 have hz:(bl (x++32::y)).size=(x++32::y).length:=ZO _
 have hl:(x++32::y).length=x.length+(y.length+1):=by rw [List.length_append,List.length_cons]
 have hm:gSt (bl (x++32::y)) (x.length:Int)=some 32:=at_m
 have h32:((32:UInt8).toNat:Int)=32:=rfl
 have hc:∀ k:Int,(x.length:Int)<k→k≤((x++32::y).length:Int)-1→∃ c:UInt8,gSt (bl (x++32::y)) k=some c∧¬ (c.toNat:Int)=32:=fun k a b=>by
  obtain ⟨c,hm,hg⟩:=at_r (x:=x) (y:=y) (b:=32) (i:=k) a (by omega)
  exact ⟨c,hg,ch_ne fun e=>h (e▸hm)⟩
 constructor
 ·unfold ZdT ZhJ
  have e:loop (ZcN (bl (x++32::y)) 32) (((x++32::y).length:Int)-1)=some (x.length:Int):=by
   refine Eq.trans (ZjJ (fun k=>k) (m:=(x.length:Int)) (by omega) fun k a b=>?_) (Zc ?_)
   ·obtain ⟨c,hg,hn⟩:=hc k a b
    simp (disch:=omega) only [pz,ZcN,hg]
   ·simp (disch:=omega) only [pz,ZcN,hm,h32]
  simp (disch:=omega) only [pz,hz,e]
 ·unfold Zbp
  have e:loop (ZcO (bl (x++32::y))) (((x++32::y).length:Int)-1)=some r:=by
   refine Eq.trans (ZjJ (fun k=>k) (m:=(x.length:Int)) (by omega) fun k a b=>?_) (Zc ?_)
   ·obtain ⟨c,hg,hn⟩:=hc k a b
    simp (disch:=omega) only [pz,ZcO,hg]
   ·simp (disch:=omega) only [pz,ZcO,hm,h32,hk]
  simp (disch:=omega) only [pz,hz,e]
theorem Zw1 {l:List UInt8} (h:32∉l) (hs:l.length≤1048576):∃ r,Za3 (bl l)=some r∧r.2=false:=by
 have hz:(bl l).size=l.length:=ZO l
 refine ⟨((ZaC.mk ⟨#[]⟩ (Zf.mk 0 0 ([]:List (List Int))) ⟨#[]⟩),false),?_,rfl⟩
 unfold Za3
 have k1:ZbS (bl l) (l.length:Int)=some ((ZaC.mk ⟨#[]⟩ (Zf.mk 0 0 ([]:List (List Int))) ⟨#[]⟩),false):=by
  unfold ZbS
  simp (disch:=omega) only [pz,hz]
 refine Eq.trans (ZA (fun k=>k) (n:=(l.length:Int)) (by omega) fun k a b=>?_) (Zc ?_)
 ·obtain ⟨c,hm,hg⟩:=at_l (x:=l) (y:=[]) (i:=k) a b
  rw [List.append_nil] at hg
  have hn:=ch_ne (c:=c) fun e=>h (e▸hm)
  simp (disch:=omega) only [pz,Zfn,hz,hg]
 ·simp (disch:=omega) only [pz,Zfn,hz,k1]
theorem Zqh {x y:List UInt8} (h:32∉x) (hs:(x++32::y).length≤1048576) {r:ZaC×Bool} (hk:ZbS (bl (x++32::y)) (x.length:Int)=some r):Za3 (bl (x++32::y))=some r:=by
 have hz:(bl (x++32::y)).size=(x++32::y).length:=ZO _
 have hl:(x++32::y).length=x.length+(y.length+1):=by rw [List.length_append,List.length_cons]
 have hm:gSt (bl (x++32::y)) (x.length:Int)=some 32:=at_m
 have h32:((32:UInt8).toNat:Int)=32:=rfl
 unfold Za3
 refine Eq.trans (ZA (fun k=>k) (n:=(x.length:Int)) (by omega) fun k a b=>?_) (Zc ?_)
 ·obtain ⟨c,hmm,hg⟩:=at_l (x:=x) (y:=32::y) (i:=k) a b
  have hn:=ch_ne (c:=c) fun e=>h (e▸hmm)
  simp (disch:=omega) only [pz,Zfn,hz,hg]
 ·simp (disch:=omega) only [pz,Zfn,hz,hm,h32,hk]
theorem Zu2:∃ r,ZdA ⟨#[]⟩=some r∧r.2=false:=by
 have him:Zba ⟨#[]⟩ ⟨#[32]⟩=some (splB 32 ⟨#[]⟩):=ZfJ (b:=32) (by show 0≤_;omega)
 have hl:((splB 32 ⟨#[]⟩).length:Int)=1:=rfl
 refine ⟨(Zf.mk 0 0 ([]:List (List Int)),false),?_,rfl⟩
 unfold ZdA
 simp (disch:=omega) only [pz,him,hl]
theorem Zt8 {w:ByteArray} (hs:w.size≤1048576):∃ b:Bool,
  (∀ out i,((Zbp w).bind fun r30=>bif r30.2 then (Za3 r30.1).bind fun r36=>Zaq out i r36.2 else Zaq out i r30.2)=Zaq out i b) ∧
  ∃ r,Zbs w=some r∧(r.2.2=0↔b=true):=by
 obtain ⟨l,rfl⟩:∃ l,w=bl l:=⟨_,(Zaa w).symm⟩
 rw [ZO] at hs
 rcases ZpQ 32 l with h|⟨x,y,rfl,h⟩
 ·obtain ⟨e1,e2⟩:=ZrY h hs
  refine ⟨false,fun out i=>by simp (disch:=omega) only [pz,e2],(⟨#[]⟩,Zf.mk 0 0 ([]:List (List Int)),10),?_,by simp⟩
  unfold Zbs
  simp (disch:=omega) only [pz,e1]
 ·have hl:(x++32::y).length=x.length+(y.length+1):=by rw [List.length_append,List.length_cons]
  have hb:(bl x).size=x.length:=ZO x
  have c1:=ZBb (s:=bl x) (by omega)
  have c2:=ZsW (s:=bl x) (by omega)
  have hlt:=Zm8 (Zn2 (bl x))
  generalize crN (byts (bl x))=q at c1 c2 hlt
  have d1:=ZiY (n:=(q:Int)) (by omega) (by omega)
  have d2:=ZeF (n:=(q:Int)) (by omega) (by omega)
  have s1:gStSl (bl (x++32::y)) 0 (x.length:Int)=some (bl x):=sl_l
  have s2:gStSl (bl (x++32::y)) ((x.length:Int)+1) ((bl (x++32::y)).size:Int)=some (bl y):=sl_r
  have k1:Zb5 (bl (x++32::y)) (x.length:Int)=some (bl x,(bl y).toList==(itoaB q).toList):=by
   unfold Zb5
   simp (disch:=omega) only [pz,s1,c1,d1,s2]
  obtain ⟨e1,e2⟩:=ZuB h hs k1
  by_cases hq:bl y=itoaB q
  ·have hq:=(ZY _ _).2 hq
   rw [hq] at e2
   rcases ZrI 32 x with g|⟨u,v,rfl,g⟩
   ·obtain ⟨r,f1,f2⟩:=Zw1 g (by omega)
    obtain ⟨r3,f3,f4⟩:=Zu2
    have hct:=ZuK g
    refine ⟨false,fun out i=>by simp (disch:=omega) only [pz,e2,f1,f2],(⟨#[]⟩,Zf.mk 0 0 ([]:List (List Int)),9),?_,by simp⟩
    have kk:Zdz (bl (x++32::y)) (x.length:Int)=some (⟨#[]⟩,Zf.mk 0 0 ([]:List (List Int)),9):=by
     unfold Zdz Zhc
     rw [s1,Option.bind_some,if_pos (by omega),Option.bind_some,hct]
     simp (disch:=omega) only [pz,f3,f4]
    unfold Zbs
    simp (disch:=omega) only [pz,e1,s1,c2,d2,s2,hq,kk]
   ·have hxl:(u++32::v).length=u.length+(v.length+1):=by rw [List.length_append,List.length_cons]
    have hv:(bl v).size=v.length:=ZO v
    obtain ⟨R,R1,R2,_⟩:=ZzP (y:=bl v) (by omega)
    have t1:gStSl (bl (u++32::v)) 0 (u.length:Int)=some (bl u):=sl_l
    have t2:gStSl (bl (u++32::v)) ((u.length:Int)+1) ((bl (u++32::v)).size:Int)=some (bl v):=sl_r
    have hz:((bl (u++32::v)).size:Int)=(u.length:Int)+((v.length:Int)+1):=by rw [ZO,hxl];omega
    have hct:=Zyh (y:=v) g
    have n1:=Ztb (bl u)
    have n2:=ZsD (bl u)
    obtain ⟨nb,nb1,nb2⟩:∃ nb:Bool,Zeh (bl u)=some nb∧Zed (bl u)=some nb:=by
     obtain ⟨b1,h1,h2⟩:=n1
     obtain ⟨b2,h3,h4⟩:=n2
     have:b1=b2:=by
      cases b1<;>cases b2
      ·rfl
      ·exact absurd (h2.2 (h4.1 rfl)) (by simp)
      ·exact absurd (h4.2 (h2.1 rfl)) (by simp)
      ·rfl
     exact ⟨b1,h1,this▸h3⟩
    have e9:Zf.mk R.1.Kind R.1.Size R.1.Rows=R.1:=rfl
    have k2:∃ r,Za3 (bl (u++32::v))=some r∧r.2=(nb&&R.2):=by
     cases hnb:nb with
     | false=>
      rw [hnb] at nb1
      refine ⟨((ZaC.mk ⟨#[]⟩ (Zf.mk 0 0 ([]:List (List Int))) ⟨#[]⟩),false),Zqh g (by omega) ?_,rfl⟩
      unfold ZbS
      simp (disch:=omega) only [pz,hz,t1,nb1]
     | true=>
      rw [hnb] at nb1
      have k3:Zgt (bl (u++32::v)) (u.length:Int)=some (ZaC.mk (bl u) R.1 ⟨#[]⟩,R.2):=by
       unfold Zgt
       simp (disch:=omega) only [pz,t2,R1,t1]
      refine ⟨(ZaC.mk (bl u) R.1 ⟨#[]⟩,R.2),Zqh g (by omega) ?_,rfl⟩
      unfold ZbS
      simp (disch:=omega) only [pz,hz,t1,nb1,k3]
    obtain ⟨r,f1,f2⟩:=k2
    refine ⟨nb&&R.2,fun out i=>by simp (disch:=omega) only [pz,e2,f1,f2],?_⟩
    have kk:∃ r,Zdz (bl ((u++32::v)++32::y)) ((u++32::v).length:Int)=some r∧(r.2.2=0↔(nb&&R.2)=true):=by
     unfold Zdz Zhc
     rw [s1,Option.bind_some,if_pos (by rw [ZO];omega),Option.bind_some,hct]
     cases hr:R.2 with
     | false=>exact ⟨(⟨#[]⟩,Zf.mk 0 0 ([]:List (List Int)),9),by simp (disch:=omega) only [pz,R2,hr],by simp⟩
     | true=>
      cases hnb:nb with
      | false=>
       rw [hnb] at nb2
       exact ⟨(⟨#[]⟩,Zf.mk 0 0 ([]:List (List Int)),9),by simp (disch:=omega) only [pz,R2,hr,nb2],by simp⟩
      | true=>
       rw [hnb] at nb2
       exact ⟨(bl u,R.1,0),by simp (disch:=omega) only [pz,R2,hr,nb2,ZjZ],by simp⟩
    obtain ⟨r',g1,g2⟩:=kk
    refine ⟨r',?_,g2⟩
    unfold Zbs
    simp (disch:=omega) only [pz,e1,s1,c2,d2,s2,hq,g1]
  ·have hq:=Zay hq
   rw [hq] at e2
   refine ⟨false,fun out i=>by simp (disch:=omega) only [pz,e2],(⟨#[]⟩,Zf.mk 0 0 ([]:List (List Int)),10),?_,by simp⟩
   unfold Zbs
   simp (disch:=omega) only [pz,e1,s1,c2,d2,s2,hq]
end Go.Proofs.YtmmbnjijjdakmaaGreatDoor
namespace Go.Proofs.YtmmbnjijjdakmaaGreatDoor
set_option linter.unusedVariables false
open Go Go.Vc Go.Lib
set_option linter.unusedSimpArgs false
theorem trimP {l p:List UInt8} (hl:l.length≤1048576) (hp:p.length≤100):∃ r:List UInt8,ZbP (bl l) (bl p)=some (bl r)∧r.length≤l.length∧∀ q,l=p++q→r=q:=by
 have z1:(bl l).size=l.length:=ZO l
 have z2:(bl p).size=p.length:=ZO p
 unfold ZbP ZfL ZhW
 by_cases h:p.length≤l.length
 ·have hs1:=Zbw (s:=bl l) (lo:=0) (hi:=(p.length:Int)) (by omega) (by omega) (by omega)
  have es1:bl (((bl l).data.toList.take ((p.length:Int)).toNat).drop (0:Int).toNat)=bl (l.take p.length):=by
   rw [Int.toNat_natCast];rfl
  rw [es1] at hs1
  have hs2:=Zbw (s:=bl l) (lo:=(p.length:Int)) (hi:=((bl l).size:Int)) (by omega) (by omega) (by omega)
  have es2:bl (((bl l).data.toList.take (((bl l).size:Int)).toNat).drop ((p.length:Int)).toNat)=bl (l.drop p.length):=by
   rw [Int.toNat_natCast,Int.toNat_natCast,z1]
   show bl ((l.take l.length).drop p.length)=_
   rw [List.take_length]
  rw [es2,z1] at hs2
  by_cases hq:bl (l.take p.length)=bl p
  ·have hq:=(ZY _ _).2 hq
   refine ⟨l.drop p.length,?_,by rw [List.length_drop];omega,fun q e=>by rw [e];simp⟩
   simp (disch:=omega) only [pz,z1,z2,hs1,hq,hs2]
  ·have hq2:=Zay hq
   refine ⟨l,?_,Nat.le_refl _,fun q e=>(hq (by rw [e];simp)).elim⟩
   simp (disch:=omega) only [pz,z1,z2,hs1,hq2]
 ·refine ⟨l,?_,Nat.le_refl _,fun q e=>(h (by rw [e,List.length_append];omega)).elim⟩
  simp (disch:=omega) only [pz,z1,z2]
theorem Zoo (l:List UInt8) (c:UInt8) (hl:(l++[c]).length≤1048576):ZdK (bl (l++[c])) ⟨#[10]⟩=some (decide (c=10)):=by
 have z1:(bl (l++[c])).size=l.length+1:=by rw [ZO,List.length_append];rfl
 have z2:((⟨#[10]⟩:ByteArray).size:Int)=1:=rfl
 have hs:=Zbw (s:=bl (l++[c])) (lo:=(l.length:Int)) (hi:=((bl (l++[c])).size:Int)) (by omega) (by omega) (by omega)
 have es:bl (((bl (l++[c])).data.toList.take (((bl (l++[c])).size:Int)).toNat).drop ((l.length:Int)).toNat)=bl [c]:=by
  rw [Int.toNat_natCast,Int.toNat_natCast,ZO]
  show bl (((l++[c]).take (l++[c]).length).drop l.length)=_
  rw [List.take_length];simp
 rw [es] at hs
 have hL:l.length≤1048576:=by rw [List.length_append] at hl;omega
 have w:((l.length+1:Nat):Int)-1=(l.length:Int):=by omega
 unfold ZdK Zb9
 rw [z1] at hs ⊢
 have hq:((bl [c]).toList==(⟨#[10]⟩:ByteArray).toList)=decide (c=10):=by
  by_cases hc:c=10
  ·rw [decide_eq_true hc,hc];exact (ZY _ _).2 rfl
  ·rw [decide_eq_false hc]
   refine Zay fun e=>hc ?_
   have:=congrArg (fun s:ByteArray=>s.data.toList) e
   exact (List.cons.inj (show [c]=[10] from this)).1
 simp (disch:=omega) only [pz,z2,w,hs,hq]
theorem trimS (l:List UInt8) (hl:(l++[10]).length≤1048576):Zhm (bl (l++[10])) ⟨#[10]⟩=some (bl l):=by
 have h1:=Zoo l 10 hl
 have h1:Zb9 (bl (l++[10])) ⟨#[10]⟩=some true:=by
  have h2:(Zb9 (bl (l++[10])) ⟨#[10]⟩).bind (fun r7=>some r7)=some true:=h1
  cases e:Zb9 (bl (l++[10])) ⟨#[10]⟩ with
  | none=>rw [e] at h2;cases h2
  | some b=>rw [e] at h2;exact h2
 have z1:(bl (l++[10])).size=l.length+1:=by rw [ZO,List.length_append];rfl
 have z2:((⟨#[10]⟩:ByteArray).size:Int)=1:=rfl
 have hL:l.length≤1048576:=by rw [List.length_append] at hl;omega
 have w:((l.length+1:Nat):Int)-1=(l.length:Int):=by omega
 have hs:gStSl (bl (l++[10])) 0 (l.length:Int)=some (bl l):=sl_l
 unfold Zhm Zij
 simp (disch:=omega) only [pz,h1,z1,z2,w,hs]
def catW:List UInt8:=[99,97,116,97,108,111,103]
theorem ZvT {s:ByteArray} (hs:s.size≤1048576):∃ r,Zcb s=some r∧ZbX s=some r∧r.1.length≤24∧∀ w∈r.1,w.size≤1048576:=by
 obtain ⟨l,rfl⟩:∃ l,s=bl l:=⟨_,(Zaa s).symm⟩
 rw [ZO] at hs
 have hsp:Zaz (bl l) 10=some (splB 10 (bl l)):=Zhr (b:=10) (by rw [ZO];omega)
 have he:splB 10 (bl l)=(spl 10 l).map bl:=rfl
 have n11:∀ {P:List ByteArray×Int→Prop},P ([],11)→P ([],11):=fun h=>h
 by_cases h0:l=[]
 ·subst h0
  have hl:((splB 10 (bl [])).length:Int)=1:=rfl
  have z:((bl []).size:Int)=0:=rfl
  have z2:((⟨#[10]⟩:ByteArray).size:Int)=1:=rfl
  have hh:ZdK (bl []) ⟨#[10]⟩=some false:=by
   unfold ZdK Zb9
   simp (disch:=omega) only [pz,z,z2]
  refine ⟨([],11),?_,?_,by simp,fun w hw=>by cases hw⟩
  ·unfold Zcb
   simp (disch:=omega) only [pz,hsp,hl]
  ·unfold ZbX
   simp (disch:=omega) only [pz,hh]
 ·obtain ⟨l',c,rfl⟩:∃ l' c,l=l'++[c]:=⟨l.dropLast,l.getLast h0,(List.dropLast_concat_getLast h0).symm⟩
  have hL:l'.length+1≤1048576:=by rw [List.length_append] at hs;exact hs
  have hsuf:=Zoo l' c hs
  by_cases hc:c=10
  ·subst hc
   rw [decide_eq_true rfl] at hsuf
   have htr:=trimS l' hs
   have hS:splB 10 (bl (l'++[10]))=splB 10 (bl l')++[⟨#[]⟩]:=by
    rw [he]
    have h1:spl 10 l'=(spl 10 l').dropLast++[(spl 10 l').getLast (ZfT 10 l')]:=(List.dropLast_concat_getLast _).symm
    have h2:=Zjz (b:=10) l' 10 h1
    rw [if_pos rfl,←h1] at h2
    rw [h2,List.map_append];rfl
   rw [hS] at hsp
   have him:Zba (bl l') ⟨#[10]⟩=some (splB 10 (bl l')):=ZfJ (b:=10) (by rw [ZO];omega)
   have hpart:∀ w∈splB 10 (bl l'),w.size≤1048575:=fun w hw=>by
    have:=ZhU hw
    rw [ZO] at this
    omega
   have hlen:=ZfK 10 (bl l')
   rw [ZO] at hlen
   obtain ⟨h,t,ht⟩:∃ h t,splB 10 (bl l')=h::t:=by
    cases e:splB 10 (bl l') with
    | nil=>exact absurd e (ZkO 10 _)
    | cons h t=>exact ⟨h,t,rfl⟩
   rw [ht] at hsp him hpart hlen
   have hhs:=hpart h (List.mem_cons_self ..)
   rw [List.length_cons] at hlen
   have x1:((h::t++[⟨#[]⟩]:List ByteArray).length:Int)=(t.length:Int)+2:=by rw [List.length_append,List.length_cons,List.length_singleton];omega
   have x2:ix (h::t++[⟨#[]⟩]:List ByteArray) ((t.length:Int)+1)=⟨#[]⟩:=by
    have:(h::t++[⟨#[]⟩]:List ByteArray)[((t.length:Int)+1).toNat]?=some ⟨#[]⟩:=by
     rw [show ((t.length:Int)+1).toNat=(h::t).length by rw [List.length_cons];omega,List.getElem?_append_right (Nat.le_refl _),Nat.sub_self];rfl
    have h3:=Zap (xs:=(h::t++[⟨#[]⟩]:List ByteArray)) (i:=(t.length:Int)+1) (by omega) (by omega)
    rw [this] at h3
    exact (Option.some.inj h3).symm
   have x3:((⟨#[]⟩:ByteArray).toList==(⟨#[]⟩:ByteArray).toList)=true:=(ZY _ _).2 rfl
   have x4:ix (h::t++[⟨#[]⟩]:List ByteArray) 0=h:=rfl
   have x5:ix (h::t:List ByteArray) 0=h:=rfl
   have x6:((h::t:List ByteArray).length:Int)=(t.length:Int)+1:=by rw [List.length_cons];omega
   have w1:(t.length:Int)+2-1=(t.length:Int)+1:=by omega
   have w2:(t.length:Int)+2-2=(t.length:Int):=by omega
   have w3:(t.length:Int)+1-1=(t.length:Int):=by omega
   have y1:gSl (h::t++[⟨#[]⟩]:List ByteArray) 1 ((t.length:Int)+1)=some t:=by
    rw [ZaX (by omega) (by omega) (by omega)]
    congr 1
    rw [show ((t.length:Int)+1).toNat=(h::t).length by rw [List.length_cons];omega,List.take_left]
    rfl
   have y2:gSl (h::t:List ByteArray) 1 ((t.length:Int)+1)=some t:=by
    rw [ZaX (by omega) (by omega) (by omega)]
    congr 1
    rw [show ((t.length:Int)+1).toNat=(h::t).length by rw [List.length_cons];omega,List.take_length]
    rfl
   have hspec:Zcb (bl (l'++[10]))=Zfc (h::t++[⟨#[]⟩]):=by
    unfold Zcb
    simp (disch:=omega) only [pz,hsp,x1,w1,x2,x3]
   obtain ⟨hd,rfl⟩:∃ hd,h=bl hd:=⟨_,(Zaa h).symm⟩
   rw [ZO] at hhs
   obtain ⟨r,r1,r2,r3⟩:=trimP (l:=hd) (p:=[99,97,116,97,108,111,103,32]) (by omega) (by decide)
   have r1:ZbP (bl hd) ⟨#[99,97,116,97,108,111,103,32]⟩=some (bl r):=r1
   have ni:=ZkK (bl r) (by rw [ZO];omega)
   have hs2:Zaz (bl hd) 32=some (splB 32 (bl hd)):=Zhr (b:=32) (by rw [ZO];omega)
   have g1:∀ m:Int,gFit (⟨#[99,97,116,97,108,111,103,32]⟩:ByteArray) (itoaB m)=some ()→True:=fun _ _=>trivial
   by_cases hm:∃ m:Int,0≤m∧m≤24∧bl hd=(⟨#[99,97,116,97,108,111,103,32]⟩:ByteArray)++itoaB m
   ·obtain ⟨m,m0,m1,hm⟩:=hm
    have hin:InR m:=⟨by omega,by omega⟩
    have hn:=Zn4 hin
    have hsz:=ZeX hin
    have hd2:hd=[99,97,116,97,108,111,103,32]++itoa m:=by
     have:=congrArg (fun s:ByteArray=>s.data.toList) hm
     rw [←Zaa (itoaB m),ZcM] at this
     have e2:(⟨#[99,97,116,97,108,111,103,32]⟩:ByteArray)=bl [99,97,116,97,108,111,103,32]:=rfl
     rw [e2,Za7] at this
     exact this
    have hr:=r3 _ hd2
    have hr2:bl r=itoaB m:=by rw [hr];rfl
    rw [hr2] at r1 ni
    have hno:=dg_no (l:=[]) (c:=32) (by unfold Dg;decide) (by decide) m
    have hw:splB 32 (bl hd)=[bl catW,itoaB m]:=by
     have e2:bl hd=joinB [bl catW,itoaB m] ⟨#[32]⟩:=by
      have:=Zf1 (l:=[bl catW]) (by simp) (itoaB m) ⟨#[32]⟩
      rw [hm,show [bl catW,itoaB m]=[bl catW]++[itoaB m] from rfl,this,Zit]
      rfl
     rw [e2]
     refine Zi0 (by simp) fun x hx=>?_
     simp only [List.mem_cons,List.not_mem_nil,or_false] at hx
     rcases hx with rfl|rfl
     ·decide
     ·exact hno
    rw [hw] at hs2
    have v1:(([bl catW,itoaB m]:List ByteArray).length:Int)=2:=rfl
    have v2:ix [bl catW,itoaB m] 0=bl catW:=rfl
    have v3:ix [bl catW,itoaB m] 1=itoaB m:=rfl
    have v4:((bl catW).toList==(⟨#[99,97,116,97,108,111,103]⟩:ByteArray).toList)=true:=(ZY _ _).2 rfl
    have ns:=ZfF (itoaB m)
    rw [hn] at ns ni
    have i1:ZE m 0 24=some true:=by simp (disch:=omega) only [pz,ZE]
    have i2:ZG m 0 24=some true:=by simp (disch:=omega) only [pz,ZG]
    have dd:=ZeF (n:=m) (by omega) (by omega)
    have gf:gFit (⟨#[99,97,116,97,108,111,103,32]⟩:ByteArray) (itoaB m)=some ():=gFitW (by show 8+_≤_;omega)
    have hq:=(ZY _ _).2 hm
    have hspec2:Zcb (bl (l'++[10]))=ZhX (bl hd::t++[⟨#[]⟩]) (m,true):=by
     rw [hspec]
     unfold Zfc ZgS
     simp (disch:=omega) only [pz,x4,hs2,v1,v2,v4,v3,ns,i1]
    have himp2:ZbX (bl (l'++[10]))=ZbH (bl hd::t) (m,true) false:=by
     unfold ZbX
     simp (disch:=omega) only [pz,hsuf,htr,him,x5,r1,ni,i2,dd,gf,hq]
    have sz:ZeO (bl hd::t)=some ((t.length:Int)+1):=by unfold ZeO;rw [x6]
    rw [hspec2,himp2]
    unfold ZhX ZbH
    by_cases a1:(t.length:Int)<m
    ·exact ⟨([],11),by simp (disch:=omega) only [pz,x1,w2],by simp (disch:=omega) only [pz,sz,w3],by simp,fun w hw=>by cases hw⟩
    ·by_cases a2:(t.length:Int)>m
     ·exact ⟨([],9),by simp (disch:=omega) only [pz,x1,w2],by simp (disch:=omega) only [pz,sz,w3],by simp,fun w hw=>by cases hw⟩
     ·refine ⟨(t,0),by simp (disch:=omega) only [pz,x1,w2,w1,y1],by simp (disch:=omega) only [pz,sz,w3,x6,y2],by show t.length≤24;omega,fun w hw=>?_⟩
      have:=hpart w (List.mem_cons_of_mem _ hw)
      omega
   ·refine ⟨([],9),?_,?_,by simp,fun w hw=>by cases hw⟩
    ·rw [hspec]
     unfold Zfc
     by_cases v1:((splB 32 (bl hd)).length:Int)=2
     ·obtain ⟨a,b,hab⟩:∃ a b,splB 32 (bl hd)=[a,b]:=by
       generalize splB 32 (bl hd)=L at v1
       match L,v1 with
       | [a,b],_=>exact ⟨a,b,rfl⟩
      have hj:=ZnJ 32 (bl hd)
      rw [hab] at hs2 hj
      have u1:(([a,b]:List ByteArray).length:Int)=2:=rfl
      have u2:ix [a,b] 0=a:=rfl
      have u3:ix [a,b] 1=b:=rfl
      by_cases ha:a=⟨#[99,97,116,97,108,111,103]⟩
      ·have hq:=(ZY _ _).2 ha
       have ns:=ZfF b
       unfold ZgS
       by_cases hb:(numOf b).2=true
       ·have hnb:=(Zmb (s:=b) (n:=(numOf b).1) (by rw [←hb])).2
        by_cases hi:0≤(numOf b).1∧(numOf b).1≤24
        ·refine absurd ⟨(numOf b).1,hi.1,hi.2,?_⟩ hm
         have:=Zf1 (l:=[a]) (by simp) b ⟨#[32]⟩
         rw [Zit] at this
         rw [hnb,←hj,show [a,b]=[a]++[b] from rfl,this,ha]
         rfl
        ·have i1:ZE (numOf b).1 0 24=some false:=by
          by_cases hi0:0≤(numOf b).1
          ·simp (disch:=omega) only [pz,ZE]
          ·simp (disch:=omega) only [pz,ZE]
         simp (disch:=omega) only [pz,x4,hs2,u1,u2,hq,u3,ns,hb,i1]
       ·have hb:(numOf b).2=false:=by simpa using hb
        simp (disch:=omega) only [pz,x4,hs2,u1,u2,hq,u3,ns,hb]
      ·have hq:=Zay ha
       simp (disch:=omega) only [pz,x4,hs2,u1,u2,hq]
     ·simp (disch:=omega) only [pz,x4,hs2]
    ·unfold ZbX
     have kk:ZbH (bl hd::t) (numOf (bl r)) true=some ([],9):=by
      unfold ZbH
      simp (disch:=omega) only [pz,]
     by_cases hb:(numOf (bl r)).2=true
     ·have hrng:=Zo1 (bl r)
      by_cases hi:0≤(numOf (bl r)).1∧(numOf (bl r)).1≤24
      ·have i2:ZG (numOf (bl r)).1 0 24=some true:=by
        have:=hi.1;have:=hi.2
        simp (disch:=omega) only [pz,ZG]
       have dd:=ZeF (n:=(numOf (bl r)).1) (by omega) (by omega)
       have hsz:=ZeX (x:=(numOf (bl r)).1) ⟨by omega,by omega⟩
       have gf:gFit (⟨#[99,97,116,97,108,111,103,32]⟩:ByteArray) (itoaB (numOf (bl r)).1)=some ():=gFitW (by show 8+_≤_;omega)
       have hq:=Zay fun e=>hm ⟨(numOf (bl r)).1,hi.1,hi.2,e⟩
       simp (disch:=omega) only [pz,hsuf,htr,him,x5,r1,ni,hb,i2,dd,gf,hq,kk]
      ·have i2:ZG (numOf (bl r)).1 0 24=some false:=by
        by_cases hi0:0≤(numOf (bl r)).1
        ·simp (disch:=omega) only [pz,ZG]
        ·simp (disch:=omega) only [pz,ZG]
       simp (disch:=omega) only [pz,hsuf,htr,him,x5,r1,ni,hb,i2,kk]
     ·have hb:(numOf (bl r)).2=false:=by simpa using hb
      simp (disch:=omega) only [pz,hsuf,htr,him,x5,r1,ni,hb,kk]
  ·rw [decide_eq_false hc] at hsuf
   refine ⟨([],11),?_,?_,by simp,fun w hw=>by cases hw⟩
   ·have h1:spl 10 l'=(spl 10 l').dropLast++[(spl 10 l').getLast (ZfT 10 l')]:=(List.dropLast_concat_getLast _).symm
    have h2:=Zjz (b:=10) l' c h1
    rw [if_neg hc] at h2
    generalize (spl 10 l').dropLast=os at h2
    generalize (spl 10 l').getLast (ZfT 10 l')=u at h2
    have hS:splB 10 (bl (l'++[c]))=os.map bl++[bl (u++[c])]:=by
     rw [he,h2,List.map_append];rfl
    have hol:os.length≤1048576:=by
     have:=ZfK 10 (bl (l'++[c]))
     rw [hS,List.length_append,ZO,List.length_append,List.length_map,List.length_singleton,List.length_singleton] at this
     omega
    rw [hS] at hsp
    have x1:((os.map bl++[bl (u++[c])]:List ByteArray).length:Int)=(os.length:Int)+1:=by rw [List.length_append,List.length_map,List.length_singleton];omega
    have w1:(os.length:Int)+1-1=(os.length:Int):=by omega
    have x2:ix (os.map bl++[bl (u++[c])]:List ByteArray) (os.length:Int)=bl (u++[c]):=by
     have:(os.map bl++[bl (u++[c])]:List ByteArray)[((os.length:Int)).toNat]?=some (bl (u++[c])):=by
      rw [Int.toNat_natCast,List.getElem?_append_right (by rw [List.length_map];exact Nat.le_refl _),List.length_map,Nat.sub_self];rfl
     have h3:=Zap (xs:=(os.map bl++[bl (u++[c])]:List ByteArray)) (i:=(os.length:Int)) (by omega) (by omega)
     rw [this] at h3
     exact (Option.some.inj h3).symm
    have x3:((bl (u++[c])).toList==(⟨#[]⟩:ByteArray).toList)=false:=by
     refine Zay fun e=>?_
     have:=congrArg (fun s:ByteArray=>s.data.toList) e
     have h3:u++[c]=[]:=this
     simp at h3
    unfold Zcb
    by_cases h2:(os.length:Int)+1<2
    ·simp (disch:=omega) only [pz,hsp,x1]
    ·simp (disch:=omega) only [pz,hsp,x1,w1,x2,x3]
   ·unfold ZbX
    simp (disch:=omega) only [pz,hsuf]
end Go.Proofs.YtmmbnjijjdakmaaGreatDoor
namespace Go.Proofs.YtmmbnjijjdakmaaGreatDoor
set_option linter.unusedVariables false
open Go Go.Vc
set_option linter.unusedSimpArgs false
def marks (k:Int) (n:Nat):List Int:=(List.range n).map fun (j:Nat)=>k+(j:Int)
theorem Zcz (k:Int) (n:Nat):(marks k n).length=n:=by unfold marks;simp
theorem ZsZ {k:Int} {n j:Nat} (h:j<n):(marks k n)[j]?=some (k+(j:Int)):=by
 unfold marks;rw [List.getElem?_map,List.getElem?_range h];rfl
theorem ZyX {xs:List Int} {k:Int} (h:xs.length≤4194304) (h0:0≤k) (h1:k≤9100000000000000000):Zgj xs k=some (k+(xs.length:Int),marks k xs.length):=by
 unfold Zgj
 let f:Nat→Int×Int×List Int:=fun j=>(k+(j:Int),(j:Int),marks k j++xs.drop j)
 have e0:f 0=(k,0,xs):=by simp [f,marks]
 have e1:f xs.length=(k+(xs.length:Int),(xs.length:Int),marks k xs.length):=by simp only [f];rw [List.drop_length,List.append_nil]
 rw [←e0,Zil f xs.length fun j hj=>?_,e1]
 ·refine Zc ?_
  rw [ZhM]
  have:decide ((xs.length:Int)<((marks k xs.length).length:Int))=false:=by rw [Zcz];simp
  rw [this];rfl
 ·obtain ⟨x,hx⟩:=Zfq (xs:=xs) (k:=j) hj
  have hl:(marks k j++xs.drop j).length=xs.length:=by rw [List.length_append,Zcz,List.length_drop];omega
  have hc:(marks k j++xs.drop j)[j]?=some x:=by
   rw [List.getElem?_append_right (by rw [Zcz];omega),Zcz,Nat.sub_self,List.getElem?_drop];simpa using hx
  simp only [f]
  rw [ZhM]
  have:decide ((j:Int)<((marks k j++xs.drop j).length:Int))=true:=by rw [hl];simpa using hj
  rw [this,Zir hc]
  simp only [cond_true,Option.bind_some]
  rw [wrapN hj (by unfold M63;omega),Zak (by omega) (by omega),Int.toNat_natCast]
  have hs:(marks k j++xs.drop j).set j (k+(j:Int))=marks k (j+1)++xs.drop (j+1):=by
   rw [List.set_append,if_neg (by rw [Zcz];omega),Zcz,Nat.sub_self]
   have hd:xs.drop j=x::xs.drop (j+1):=by
    rw [List.drop_eq_getElem_cons hj]
    congr 1
    have:=List.getElem?_eq_getElem (l:=xs) (i:=j) hj
    rw [hx] at this;exact (Option.some.inj this).symm
   rw [hd]
   unfold marks
   rw [List.range_succ,List.map_append];simp
  rw [hs,show k+(j:Int)+1=k+((j+1:Nat):Int) by omega]
theorem Zyp {n:Nat} {k:Int} (h:n≤4194304) (h0:0≤k) (h1:k≤9100000000000000000):Zfo (marks k n) k=some (k+(n:Int)):=by
 unfold Zfo
 let f:Nat→Int×Int:=fun j=>(k+(j:Int),(j:Int))
 have e0:f 0=(k,0):=by simp [f]
 rw [←e0,Zil f n fun j hj=>?_]
 ·refine Zc ?_
  simp only [f]
  rw [ZjY]
  have:decide ((n:Int)<((marks k n).length:Int))=false:=by rw [Zcz];simp
  rw [this];rfl
 ·simp only [f]
  rw [ZjY]
  have:decide ((j:Int)<((marks k n).length:Int))=true:=by rw [Zcz];simpa using hj
  rw [this,Zir (ZsZ hj)]
  simp only [cond_true,Option.bind_some]
  have hb:((k+(j:Int)) !=(k+(j:Int)))=false:=by simp
  rw [hb]
  simp only [cond_false]
  rw [wrapN hj (by unfold M63;omega),Zak (by omega) (by omega),show k+(j:Int)+1=k+((j+1:Nat):Int) by omega]
end Go.Proofs.YtmmbnjijjdakmaaGreatDoor
namespace Go.Proofs.YtmmbnjijjdakmaaGreatDoor
set_option linter.unusedVariables false
open Go Go.Vc
set_option linter.unusedSimpArgs false
def damN (b:Int→Bool):Nat→List Int
 | 0=>[]
 | n+1=>if b n then damN b n else damN b n++[(n:Int)+1]
theorem ZiT (b:Int→Bool):∀ n,(damN b n).length≤n
 | 0=>Nat.le_refl _
 | n+1=>by
  have:=ZiT b n
  unfold damN
  split
  ·omega
  ·rw [List.length_append,List.length_singleton];omega
theorem Zzi {s:ByteArray} (hs:s.size≤1048576):∃ r,ZhA s=some r∧Zeq s=some r∧r.1.length≤24:=by
 obtain ⟨⟨L,c⟩,h1,h2,h3,h4⟩:=ZvT hs
 have h3:L.length≤24:=h3
 unfold ZhA Zeq
 by_cases hc:c=0
 ·have hch:∀ k:Int,∃ b:Bool,0≤k→k<(L.length:Int)→(∀ out i,((Zbp (ix L k)).bind fun r30=>bif r30.2 then (Za3 r30.1).bind fun r36=>Zaq out i r36.2 else Zaq out i r30.2)=Zaq out i b) ∧
    ∃ r,Zbs (ix L k)=some r∧(r.2.2=0↔b=true):=fun k=>by
   by_cases hk:0≤k∧k<(L.length:Int)
   ·obtain ⟨b,hb⟩:=Zt8 (h4 _ (ZK hk.1 hk.2))
    exact ⟨b,fun _ _=>hb⟩
   ·exact ⟨true,fun a b=>(hk ⟨a,b⟩).elim⟩
  have hb:∃ b:Int→Bool,∀ k:Int,0≤k→k<(L.length:Int)→(∀ out i,((Zbp (ix L k)).bind fun r30=>bif r30.2 then (Za3 r30.1).bind fun r36=>Zaq out i r36.2 else Zaq out i r30.2)=Zaq out i (b k)) ∧
    ∃ r,Zbs (ix L k)=some r∧(r.2.2=0↔b k=true):=⟨fun k=>Classical.choose (hch k),fun k=>Classical.choose_spec (hch k)⟩
  obtain ⟨b,hb⟩:=hb
  have hstep:∀ k:Int,0≤k→damN b (k+1).toNat=bif b k then damN b k.toNat else damN b k.toNat++[k+1]:=fun k k0=>by
   rw [show (k+1).toNat=k.toNat+1 by omega,damN,show ((k.toNat:Nat):Int)=k by omega]
   cases b k<;>rfl
  refine ⟨(damN b L.length,0),?_,?_,Nat.le_trans (ZiT _ _) h3⟩
  ·have e:loop (ZcI (L,c)) (([]:List Int),0)=some (damN b L.length,0):=by
    refine Eq.trans (ZA (B:=ZcI (L,c)) (fun k:Int=>(damN b k.toNat,k)) (i:=0) (n:=(L.length:Int)) (by omega) fun k k0 k1=>?_) (Zc ?_)
    ·have hs:=(hb k k0 k1).1 (damN b k.toNat) k
     have hl:=ZiT b k.toNat
     have hg:gApp 8 (damN b k.toNat) [k+1]=some (damN b k.toNat++[k+1]):=gApp1 (by omega) (by omega)
     rw [hstep k k0]
     have h0:ZcI (L,c) (damN b k.toNat,k)=Zaq (damN b k.toNat) k (b k):=by simp (disch:=omega) only [pz,ZcI,hs]
     rw [h0]
     unfold Zaq
     cases hbk:b k with
     | true=>simp (disch:=omega) only [pz,]
     | false=>simp (disch:=omega) only [pz,hg]
    ·rw [Int.toNat_natCast]
     simp (disch:=omega) only [pz,ZcI]
   simp (disch:=omega) only [pz,h1,e]
  ·have e:loop (ZcK (L,c)) (([]:List Int),0)=some (damN b L.length,0):=by
    refine Eq.trans (ZA (B:=ZcK (L,c)) (fun k:Int=>(damN b k.toNat,k)) (i:=0) (n:=(L.length:Int)) (by omega) fun k k0 k1=>?_) (Zc ?_)
    ·obtain ⟨r,hr,hr2⟩:=(hb k k0 k1).2
     have hl:=ZiT b k.toNat
     have hg:gApp 8 (damN b k.toNat) [k+1]=some (damN b k.toNat++[k+1]):=gApp1 (by omega) (by omega)
     rw [hstep k k0]
     by_cases hz:r.2.2=0
     ·have hbk:=hr2.1 hz
      simp (disch:=omega) only [pz,ZcK,hr,hz,hbk]
     ·have hbk:b k=false:=by
       cases e:b k with
       | false=>rfl
       | true=>exact absurd (hr2.2 e) hz
      simp (disch:=omega) only [pz,ZcK,hr,hz,hbk,hg]
    ·rw [Int.toNat_natCast]
     simp (disch:=omega) only [pz,ZcK]
   simp (disch:=omega) only [pz,h2,e]
 ·exact ⟨([],c),by simp (disch:=omega) only [pz,h1],by simp (disch:=omega) only [pz,h2],by simp⟩
theorem Zxa {y:ByteArray} (hy:OkS y):Zji y=some true:=by
 unfold Zji
 by_cases hs:y.size≤1048576
 ·obtain ⟨⟨x,c⟩,h1,h2,hz⟩:=Zzi hs
  have hz:x.length≤24:=hz
  have hq:=(Zy1 (a:=x) (b:=x) ⟨by unfold M63;omega,fun _ _=>trivial⟩).eq rfl
  have hm:=ZyX (xs:=x) (k:=1) (by omega) (by omega) (by omega)
  have hh:=Zyp (n:=x.length) (k:=1) (by omega) (by omega) (by omega)
  have n0:¬ (1+(x.length:Int)<0):=by omega
  have k2:ZhK (1+(x.length:Int),marks 1 x.length)=some true:=by
   unfold ZhK
   simp (disch:=omega) only [pz,hh]
  have k1:Zgq y (x,c) (x,c)=some true:=by
   unfold Zgq
   simp (disch:=omega) only [pz,hm,hh,h2,hq,k2]
  simp (disch:=omega) only [pz,h1,h2,hq,k1]
 ·simp (disch:=omega) only [pz,]
end Go.Proofs.YtmmbnjijjdakmaaGreatDoor
