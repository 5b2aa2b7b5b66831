import Derived.Test.YtghbgeaammnkcaaGreatDoorPuJg
import Derived.Test.YtghbgeaammnkcaaGreatDoorPuJd
import Derived.Test.YtghbgeaammnkcaaGreatDoorPuJa
import Derived.Test.YtghbgeaammnkcaaGreatDoorCeFns
namespace Go.Proofs.YtghbgeaammnkcaaGreatDoor
open Go Go.Vc
set_option linter.unusedSimpArgs false
set_option linter.unusedVariables false
set_option linter.unusedSectionVars false
theorem ZrJ {l:List Int} {lo hi:Int} (h:Rising l lo hi) {i:Int} (h0:0≤i):∀ (d:Nat) (j:Int),j=i+1+d→j<(l.length:Int)→ix l i<ix l j
 | 0,j,hj,hl=>by
  have:=(h j (by omega) hl).2 (by omega)
  rw [show j-1=i by omega] at this
  exact this
 | d+1,j,hj,hl=>by
  have:=(h j (by omega) hl).2 (by omega)
  have h2:=ZrJ h h0 d (j-1) (by omega) (by omega)
  omega
theorem ZgV {l:List Int} {lo hi:Int} (h:Rising l lo hi) {i j:Int} (h0:0≤i) (h1:i<j) (h2:j<(l.length:Int)):ix l i<ix l j:=ZrJ h h0 (j-i-1).toNat j (by omega) h2
theorem ZoX {l:List Int} {lo hi:Int} (h:Rising l lo hi) {i j:Int} (h0:0≤i) (h1:i<(l.length:Int)) (h2:0≤j) (c:j<(l.length:Int)) (e:ix l i=ix l j):i=j:=by
 rcases Int.lt_or_lt_of_ne (a:=i) (b:=j) |> fun f=>Classical.em (i=j) |>.imp id f with h'|h'|h'
 ·exact h'
 ·have:=ZgV h h0 h' c;omega
 ·have:=ZgV h h2 h' h1;omega
def cntB (bs:List (List Int)) (p:List Int→Bool):Nat→Int
 | 0=>0
 | n+1=>cntB bs p n+if p (ix bs n) then 1 else 0
theorem ZdK (bs:List (List Int)) (p:List Int→Bool):∀ n:Nat,0≤cntB bs p n∧cntB bs p n≤n
 | 0=>by simp [cntB]
 | n+1=>by
  have:=ZdK bs p n
  rw [cntB]
  split<;>omega
theorem ZdY {bs:List (List Int)} {p:List Int→Bool} {k:Int} (h:0≤k):cntB bs p (k+1).toNat=cntB bs p k.toNat+if p (ix bs k) then 1 else 0:=by
 rw [show (k+1).toNat=k.toNat+1 by omega,cntB,show ((k.toNat:Nat):Int)=k by omega]
def repN (d:ZJ) (x:Int) (m:Nat):Int:=cntB d.Blocks (fun b=>decide (x∈b)) m
def prN (d:ZJ) (x y:Int) (m:Nat):Int:=cntB d.Blocks (fun b=>decide (x∈b)&&decide (y∈b)) m
def prs (d:ZJ):List Int:=colG (fun x=>colG (fun y=>[prN d x y d.Blocks.length]) (x+1) (d.Points-(x+1)).toNat) 0 (d.Points-0).toNat
section
variable {d:ZJ} (hv:ValidD d)
include hv
theorem Zhv {i:Int} (h0:0≤i) (h1:i<(d.Blocks.length:Int)):((ix d.Blocks i).length:Int)≤32:=by
 have b:=(hv.blk i h0 h1).2
 have hp:=hv.p2
 refine Classical.byContradiction fun c=>?_
 have key:∀ m:Nat,(m:Int)<((ix d.Blocks i).length:Int)→(m:Int)≤ix (ix d.Blocks i) m:=by
  intro m
  induction m with
  | zero=>intro hm;have:=(b 0 (by omega) hm).1;simpa using this.1
  | succ m ih=>
   intro hm
   have:=ih (by omega)
   have h2:=ZgV b (i:=(m:Int)) (j:=((m+1:Nat):Int)) (by omega) (by omega) hm
   omega
 have h1:(32:Int)≤ix (ix d.Blocks i) (32:Int):=key 32 (by show (32:Int)<_;omega)
 have h2:=(b 32 (by omega) (by omega)).1
 omega
theorem ZsZ {i:Int} (h:0≤i) (l:i<(d.Blocks.length:Int)):loop (ZbX i (ix d.Blocks i)) (0,tabl d.Points fun x=>repN d x i.toNat)=some (.inl (i+1,tabl d.Points fun x=>repN d x (i+1).toNat)):=by
 have p1:=hv.p1
 have p2:=hv.p2
 have m:=(hv.blk i h l).2
 have hbl:=Zhv hv h l
 have hl:=hv.len
 have e:=Zj (B:=ZbX i (ix d.Blocks i)) (fun k:Int=>(k,tabl d.Points fun x=>repN d x i.toNat+if x∈(ix d.Blocks i).take k.toNat then 1 else 0)) (i:=0) (n:=((ix d.Blocks i).length:Int)) (by omega) fun k c k1=>by
  have o:=(m k c k1).1
  have hnot:ix (ix d.Blocks i) k∉(ix d.Blocks i).take k.toNat:=fun hm=>by
   obtain ⟨j,p,u,hj⟩:=Z0 hm
   rw [List.length_take] at u
   rw [Zb7 p (by omega)] at hj
   have:=ZoX m p (by omega) c k1 hj
   omega
  have r:=ZdK d.Blocks (fun b=>decide (ix (ix d.Blocks i) k∈b)) i.toNat
  have r:0≤repN d (ix (ix d.Blocks i) k) i.toNat∧repN d (ix (ix d.Blocks i) k) i.toNat≤i.toNat:=r
  have htl:((tabl d.Points (fun x=>repN d x i.toNat+if x∈(ix d.Blocks i).take k.toNat then 1 else 0)).length:Int)=d.Points:=by rw [Zk];omega
  have hget:ix (tabl d.Points (fun x=>repN d x i.toNat+if x∈(ix d.Blocks i).take k.toNat then 1 else 0)) (ix (ix d.Blocks i) k)=repN d (ix (ix d.Blocks i) k) i.toNat:=by
   rw [Zq o.1 (by omega),if_neg hnot,Int.add_zero]
  have hset:=Zav (n:=d.Points) (f:=fun x=>repN d x i.toNat+if x∈(ix d.Blocks i).take k.toNat then 1 else 0) (g:=fun x=>repN d x i.toNat+if x∈(ix d.Blocks i).take (k+1).toNat then 1 else 0) (k:=ix (ix d.Blocks i) k) o.1 (by omega) (fun x x0 x1 hne=>by
   rw [ZaS c k1]
   simp [hne]) (y:=repN d (ix (ix d.Blocks i) k) i.toNat+1) (by
   rw [ZaS c k1]
   simp)
  simp (disch:=omega) only [pz,ZbX,hget,hset]
 have w:(tabl d.Points fun x=>repN d x i.toNat+if x∈(ix d.Blocks i).take (0:Int).toNat then 1 else 0)=tabl d.Points fun x=>repN d x i.toNat:=ZN fun x _ _=>by simp
 have e1:(tabl d.Points fun x=>repN d x i.toNat+if x∈(ix d.Blocks i).take ((ix d.Blocks i).length:Int).toNat then 1 else 0)=tabl d.Points fun x=>repN d x (i+1).toNat:=ZN fun x _ _=>by
  rw [Int.toNat_natCast,List.take_length]
  unfold repN
  rw [ZdY h]
  by_cases hm:x∈ix d.Blocks i
  ·simp [hm]
  ·simp [hm]
 rw [w,e1] at e
 exact e.trans (Zc (by simp (disch:=omega) only [pz,ZbX]))
theorem ZEp {i:Int} (b:0≤i) (c:i<(d.Blocks.length:Int)):Zh3 d i=ZbX i (ix d.Blocks i):=by
 funext ⟨k,xs⟩
 unfold Zh3 ZbX
 rw [ZgL b c]
 rfl
theorem ZFp:ZiS d=some (tabl d.Points fun x=>repN d x d.Blocks.length)∧Zik d=some (tabl d.Points fun x=>repN d x d.Blocks.length):=by
 have p1:=hv.p1
 have p2:=hv.p2
 have hl:=hv.len
 have hmk:=ZaN (b:=8) (z:=(0:Int)) (n:=d.Points) (by omega) (by omega) (by omega)
 have h:List.replicate d.Points.toNat (0:Int)=tabl d.Points fun x=>repN d x (0:Int).toNat:=by
  refine Za1 (by rw [Zk,List.length_replicate]) fun i e l=>?_
  rw [List.length_replicate] at l
  rw [Zhz e (by omega),Zq e (by omega)]
  rfl
 have f:=Zj (B:=Zfm d) (fun k:Int=>(k,tabl d.Points fun x=>repN d x k.toNat)) (i:=0) (n:=(d.Blocks.length:Int)) (by omega) fun k c k1=>by
  have:=ZsZ hv c k1
  have h2:=ZEp hv c k1
  simp (disch:=omega) only [pz,Zfm,h2,this]
 have g:=Zj (B:=ZfA d) (fun k:Int=>(k,tabl d.Points fun x=>repN d x k.toNat)) (i:=0) (n:=(d.Blocks.length:Int)) (by omega) fun k c k1=>by
  have:=ZsZ hv c k1
  simp (disch:=omega) only [pz,ZfA,this]
 rw [Int.toNat_natCast,←h] at f g
 have m:=f.trans (Zc (r:=tabl d.Points fun x=>repN d x d.Blocks.length) (by simp (disch:=omega) only [pz,Zfm]))
 have o:=g.trans (Zc (r:=tabl d.Points fun x=>repN d x d.Blocks.length) (by simp (disch:=omega) only [pz,ZfA]))
 unfold ZiS Zik
 constructor
 ·simp (disch:=omega) only [pz,hmk,m]
 ·simp (disch:=omega) only [pz,hmk,o]
theorem ZpG (x y:Int) (m:Nat):0≤prN d x y m∧prN d x y m≤m:=ZdK _ _ m
theorem ZBb {a b:Int} (out:List Int) (ho:out.length≤5000) (l:0≤b) (m:b≤100):loop (Zc5 d a out b) (0,0)=some (.inl (out++[prN d a b d.Blocks.length],b+1)):=by
 have hl:=hv.len
 have e:=Zj (B:=Zc5 d a out b) (fun k:Int=>(prN d a b k.toNat,k)) (i:=0) (n:=(d.Blocks.length:Int)) (by omega) fun k h k1=>by
  have hr:=ZpG hv a b k.toNat
  have hbl:=Zhv hv h k1
  have ha:=ZlN (s:=ix d.Blocks k) (v:=a) (by omega)
  have c:=ZlN (s:=ix d.Blocks k) (v:=b) (by omega)
  have hst:prN d a b (k+1).toNat=prN d a b k.toNat+if (decide (a∈ix d.Blocks k)&&decide (b∈ix d.Blocks k))=true then 1 else 0:=ZdY h
  rw [hst]
  by_cases f:a∈ix d.Blocks k
  ·have ha:=ha.eq f
   by_cases g:b∈ix d.Blocks k
   ·have c:=c.eq g
    rw [if_pos (by simp [f,g])]
    simp (disch:=omega) only [pz,Zc5,ha,c]
   ·have c:=c.ne g
    rw [if_neg (by simp [f,g]),Int.add_zero]
    simp (disch:=omega) only [pz,Zc5,ha,c]
  ·have ha:=ha.ne f
   rw [if_neg (by simp [f]),Int.add_zero]
   simp (disch:=omega) only [pz,Zc5,ha]
 rw [Int.toNat_natCast] at e
 refine Eq.trans e (Zc ?_)
 simp (disch:=omega) only [pz,Zc5]
theorem Zxy:ZjO d=some (prs d):=by
 have p1:=hv.p1
 have p2:=hv.p2
 have h:∀ (out:List Int) a,0≤a→a<d.Points→out.length≤4000→loop (ZdX d a) (out,a+1)=some (.inl (out++colG (fun y=>[prN d a y d.Blocks.length]) (a+1) (d.Points-(a+1)).toNat,a+1)):=fun out a c e ho=>by
  refine Eq.trans (ZaH (B:=ZdX d a) (fun y=>[prN d a y d.Blocks.length]) 1 5000 (lo:=a+1) (hi:=d.Points) (by omega) (fun _ _ _=>Nat.le_refl _) out (by omega) fun out b l m ho f=>?_) (Zc ?_)
  ·have:=ZBb hv (a:=a) (b:=b) out ho (by omega) (by omega)
   simp (disch:=omega) only [pz,ZdX,this]
  ·simp (disch:=omega) only [pz,ZdX]
 have hM:∀ x,0≤x→x<d.Points→(colG (fun y=>[prN d x y d.Blocks.length]) (x+1) (d.Points-(x+1)).toNat).length≤32:=fun x o p=>by
  have:=Za8 (g:=fun y=>[prN d x y d.Blocks.length]) (lo:=x+1) (M:=1) (n:=(d.Points-(x+1)).toNat) fun _ _ _=>Nat.le_refl _
  omega
 unfold ZjO
 refine Eq.trans (ZaH (B:=Zeq d) (fun x=>colG (fun y=>[prN d x y d.Blocks.length]) (x+1) (d.Points-(x+1)).toNat) 32 2000 (lo:=0) (hi:=d.Points) (by omega) hM [] (by rw [List.length_nil];omega) fun out a c e ho f=>?_) (Zc ?_)
 ·have:=h out a c e (by omega)
  simp (disch:=omega) only [pz,Zeq,this]
 ·show Zeq d (prs d,_)=_
  simp (disch:=omega) only [pz,Zeq]
end
end Go.Proofs.YtghbgeaammnkcaaGreatDoor
namespace Go.Proofs.YtghbgeaammnkcaaGreatDoor
set_option linter.unusedVariables false
open Go Go.Vc
set_option linter.unusedSimpArgs false
set_option linter.unusedSectionVars false
theorem ZAz {n:Int} {fn:Int→Int→Option Int} {g:Int→Int→Int} (h0:0≤n) (h1:n≤64) (hf:∀ x y,0≤x→x<n→0≤y→y<n→fn x y=some (g x y)):Zg0 n fn=some (tabl n fun x=>tabl n fun y=>g x y):=by
 unfold Zg0
 rw [show (([]:List (List Int)),(0:Int))=(fun j:Int=>(tabl j (fun x=>tabl n fun y=>g x y),j)) 0 from rfl,Zj (B:=Zff n fn) (fun j=>(tabl j (fun x=>tabl n fun y=>g x y),j)) (i:=0) (n:=n) (by omega) ?_]
 ·exact Zc (by simp (disch:=omega) only [pz,Zff])
 ·intro x b e
  have hl:((tabl x (fun x=>tabl n fun y=>g x y)).length:Int)=x:=by rw [Zk];omega
  simp (disch:=omega) only [pz,Zff]
  rw [show (([]:List Int),(0:Int))=(fun j:Int=>(tabl j (fun y=>g x y),j)) 0 from rfl,Zj (B:=Zf8 n fn (tabl x (fun x=>tabl n fun y=>g x y)) x) (fun j=>(tabl j (fun y=>g x y),j)) (i:=0) (n:=n) (by omega) ?_]
  ·rw [Zc (r:=.inl (tabl (x+1) (fun x=>tabl n fun y=>g x y),x+1)) ?_]
   simp (disch:=omega) only [pz,Zf8]
   rw [Za6 b]
  ·intro y c f
   have h:((tabl y (fun y=>g x y)).length:Int)=y:=by rw [Zk];omega
   simp (disch:=omega) only [pz,Zf8,hf x y b e c f]
   rw [Za6 c]
def sqT (n:Int) (F:Int→Int→Int):List (List Int):=tabl n fun x=>tabl n fun y=>F x y
theorem ZlR {n:Int} {F G:Int→Int→Int} (h:∀ x y,0≤x→x<n→0≤y→y<n→F x y=G x y):sqT n F=sqT n G:=
 ZN fun x b c=>ZN fun y e f=>h x y b c e f
theorem ZFz {n:Int} {F G:Int→Int→Int} {x y:Int} (m:0≤x) (o:x<n) (p:0≤y) (r:y<n) (h:∀ a b,0≤a→a<n→0≤b→b<n→¬ (a=x∧b=y)→G a b=F a b) {v:Int} (hv:v=G x y):(sqT n F).set x.toNat ((tabl n fun b=>F x b).set y.toNat v)=sqT n G:=by
 refine Zav (f:=fun a=>tabl n fun b=>F a b) (g:=fun a=>tabl n fun b=>G a b) m o (fun a u w hne=>ZN fun b c l=>h a b u w c l fun e=>hne e.1) ?_
 exact Zav (f:=fun b=>F x b) (g:=fun b=>G x b) p r (fun b c l hne=>h x b m o c l fun e=>hne e.2) hv
section
variable {d:ZJ} (hv:ValidD d)
include hv
def prG (d:ZJ) (m:Nat) (x y:Int):Int:=if x<y then prN d x y m else 0
theorem ZvJ (m:Nat) (x y:Int):0≤prG d m x y∧prG d m x y≤m:=by
 unfold prG
 split
 ·exact ZpG hv x y m
 ·omega
def prF (d:ZJ) (m:Nat) (b:List Int) (i j:Int) (x y:Int):Int:=prG d m x y+if (x<y∧x∈b.take i.toNat∧y∈b)∨(x=ix b i∧y∈(b.drop (i+1).toNat).take j.toNat) then 1 else 0
theorem prF_j {m:Int} (m0:0≤m) (m1:m<(d.Blocks.length:Int)) {i:Int} (p:0≤i) (o:i<((ix d.Blocks m).length:Int)):
  loop (ZdS i (ix (ix d.Blocks m) i) ((ix d.Blocks m).drop (i+1).toNat)) (0,sqT d.Points (prF d m.toNat (ix d.Blocks m) i 0))=some (.inl (i+1,sqT d.Points (prF d m.toNat (ix d.Blocks m) (i+1) 0))):=by
 have p1:=hv.p1
 have p2:=hv.p2
 have f:=(hv.blk m m0 m1).2
 have hbl:=Zhv hv m0 m1
 have hl:=hv.len
 generalize ix d.Blocks m=b at o f hbl
 have hdl:((b.drop (i+1).toNat).length:Int)=(b.length:Int)-(i+1):=by rw [List.length_drop];omega
 have hbi:=(f i p o).1
 have hni:ix b i∉b.take i.toNat:=fun hm=>by
  obtain ⟨j,g,r,hj⟩:=Z0 hm
  rw [List.length_take] at r
  rw [Zb7 g (by omega)] at hj
  have:=ZoX f g (by omega) p o hj
  omega
 have e:=Zj (B:=ZdS i (ix b i) (b.drop (i+1).toNat)) (fun j:Int=>(j,sqT d.Points (prF d m.toNat b i j))) (i:=0) (n:=((b.drop (i+1).toNat).length:Int)) (by omega) fun j g r=>by
  have hyj:ix (b.drop (i+1).toNat) j=ix b (i+1+j):=Zej (by omega) g
  have hy:=(f (i+1+j) (by omega) (by omega)).1
  have hnj:ix b (i+1+j)∉(b.drop (i+1).toNat).take j.toNat:=fun hm=>by
   obtain ⟨q,l,w,hq⟩:=Z0 hm
   rw [List.length_take] at w
   rw [Zb7 l (by omega),Zej (by omega) l] at hq
   have:=ZoX f (by omega) (by omega) (by omega) (by omega) hq
   omega
  have hg:=ZvJ hv m.toNat (ix b i) (ix b (i+1+j))
  have hF:prF d m.toNat b i j (ix b i) (ix b (i+1+j))=prG d m.toNat (ix b i) (ix b (i+1+j)):=by
   unfold prF
   rw [if_neg fun h=>h.elim (fun h=>hni h.2.1) fun h=>hnj h.2,Int.add_zero]
  have a8:((sqT d.Points (prF d m.toNat b i j)).length:Int)=d.Points:=by unfold sqT;rw [Zk];omega
  have a4:ix (sqT d.Points (prF d m.toNat b i j)) (ix b i)=tabl d.Points fun y=>prF d m.toNat b i j (ix b i) y:=Zq hbi.1 (by omega)
  have a9:((tabl d.Points fun y=>prF d m.toNat b i j (ix b i) y).length:Int)=d.Points:=by rw [Zk];omega
  have a5:ix (tabl d.Points fun y=>prF d m.toNat b i j (ix b i) y) (ix b (i+1+j))=prG d m.toNat (ix b i) (ix b (i+1+j)):=by rw [Zq hy.1 (by omega),hF]
  have hset:=ZFz (n:=d.Points) (F:=prF d m.toNat b i j) (G:=prF d m.toNat b i (j+1)) (x:=ix b i) (y:=ix b (i+1+j)) hbi.1 (by omega) hy.1 (by omega) (fun x y _ _ _ _ hne=>by
   unfold prF
   have ht:(b.drop (i+1).toNat).take (j+1).toNat=(b.drop (i+1).toNat).take j.toNat++[ix b (i+1+j)]:=by rw [ZaS g r,hyj]
   rw [ht]
   congr 1
   by_cases hx:x=ix b i
   ·have hyn:¬ y=ix b (i+1+j):=fun e=>hne ⟨hx,e⟩
    simp [hx,hyn]
   ·simp [hx]) (v:=prG d m.toNat (ix b i) (ix b (i+1+j))+1) (by
   unfold prF
   rw [if_pos (.inr ⟨rfl,by rw [ZaS g r,hyj];simp⟩)])
  simp (disch:=omega) only [pz,ZdS,hyj,a4,a5,hset]
 have e1:sqT d.Points (prF d m.toNat b i ((b.drop (i+1).toNat).length:Int))=sqT d.Points (prF d m.toNat b (i+1) 0):=ZlR fun x y _ _ _ _=>by
  unfold prF
  rw [Int.toNat_natCast,List.take_length,ZaS p o]
  congr 1
  have key:(x=ix b i∧y∈b.drop (i+1).toNat)↔(x=ix b i∧x<y∧y∈b):=by
   constructor
   ·rintro ⟨rfl,hm⟩
    obtain ⟨q,l,w,rfl⟩:=Z0 hm
    rw [Zej (by omega) l]
    exact ⟨rfl,ZgV f p (by omega) (by omega),ZP (by omega) (by omega)⟩
   ·rintro ⟨rfl,hlt,hm⟩
    obtain ⟨q,l,w,rfl⟩:=Z0 hm
    have:i<q:=by
     refine Classical.byContradiction fun hn=>?_
     rcases Int.lt_or_le q i with h|h
     ·have:=ZgV f l h o;omega
     ·have:q=i:=by omega
      subst this;omega
    refine ⟨rfl,?_⟩
    have h2:=Zej (xs:=b) (i:=i+1) (j:=q-(i+1)) (by omega) (by omega)
    rw [show i+1+(q-(i+1))=q by omega] at h2
    rw [←h2]
    exact ZP (by omega) (by omega)
  have k2:((x<y∧x∈b.take i.toNat∧y∈b)∨(x=ix b i∧y∈b.drop (i+1).toNat))↔((x<y∧x∈b.take i.toNat++[ix b i]∧y∈b)∨(x=ix b (i+1)∧y∈(b.drop (i+1+1).toNat).take (0:Int).toNat)):=by
   rw [key]
   simp only [List.mem_append,List.mem_singleton,Int.toNat_zero,List.take_zero,List.not_mem_nil,and_false,or_false]
   constructor
   ·rintro (⟨a,b,c⟩|⟨a,b,c⟩)
    ·exact ⟨a,.inl b,c⟩
    ·exact ⟨b,.inr a,c⟩
   ·rintro ⟨a,b|b,c⟩
    ·exact .inl ⟨a,b,c⟩
    ·exact .inr ⟨b,a,c⟩
  by_cases u:(x<y∧x∈b.take i.toNat∧y∈b)∨(x=ix b i∧y∈b.drop (i+1).toNat)
  ·rw [if_pos u,if_pos (k2.1 u)]
  ·rw [if_neg u,if_neg fun h=>u (k2.2 h)]
 rw [e1] at e
 exact e.trans (Zc (by simp (disch:=omega) only [pz,ZdS]))
theorem prF_i {m:Int} (b:0≤m) (c:m<(d.Blocks.length:Int)):loop (Zee m (ix d.Blocks m)) (0,sqT d.Points (prG d m.toNat))=some (.inl (m+1,sqT d.Points (prG d (m+1).toNat))):=by
 have hl:=hv.len
 have o:=(hv.blk m b c).2
 have hbl:=Zhv hv b c
 have e:=Zj (B:=Zee m (ix d.Blocks m)) (fun i:Int=>(i,sqT d.Points (prF d m.toNat (ix d.Blocks m) i 0))) (i:=0) (n:=((ix d.Blocks m).length:Int)) (by omega) fun i f g=>by
  have:=prF_j hv b c f g
  have hs:gSl (ix d.Blocks m) (i+1) ((ix d.Blocks m).length:Int)=some ((ix d.Blocks m).drop (i+1).toNat):=ZgU (by omega) (by omega)
  simp (disch:=omega) only [pz,Zee,hs,this]
 have h:sqT d.Points (prF d m.toNat (ix d.Blocks m) 0 0)=sqT d.Points (prG d m.toNat):=ZlR fun x y _ _ _ _=>by
  unfold prF
  rw [if_neg (by simp),Int.add_zero]
 have l:sqT d.Points (prF d m.toNat (ix d.Blocks m) ((ix d.Blocks m).length:Int) 0)=sqT d.Points (prG d (m+1).toNat):=ZlR fun x y _ _ _ _=>by
  unfold prF prG
  rw [Int.toNat_natCast,List.take_length]
  by_cases hxy:x<y
  ·rw [if_pos hxy,if_pos hxy]
   have hst:prN d x y (m+1).toNat=prN d x y m.toNat+if (decide (x∈ix d.Blocks m)&&decide (y∈ix d.Blocks m))=true then 1 else 0:=ZdY b
   rw [hst]
   congr 1
   simp [hxy]
  ·rw [if_neg hxy,if_neg hxy]
   rw [if_neg (by simp [hxy])]
   rfl
 rw [h,l] at e
 exact e.trans (Zc (by simp (disch:=omega) only [pz,Zee]))
theorem Zv9 {n:Int} {f:Int→Int} {x:Int} (e:0≤x) (g:x<n):(tabl n f).drop (x+1).toNat=colG (fun y=>[f y]) (x+1) (n-(x+1)).toNat:=by
 have key:∀ m:Nat,colG (fun y=>[f y]) (x+1) m=tabl (m:Int) fun j=>f (x+1+j):=by
  intro m
  induction m with
  | zero=>rfl
  | succ m ih=>
   rw [colG,ih,show ((m+1:Nat):Int)=(m:Int)+1 by omega,Za6 (by omega)]
 rw [key]
 refine Za1 (by rw [List.length_drop,Zk,Zk];omega) fun i b c=>?_
 rw [List.length_drop,Zk] at c
 rw [Zej (by omega) b,Zq (by omega) (by omega),Zq b (by omega)]
theorem Zy9:Zim d=some (prs d):=by
 have p1:=hv.p1
 have p2:=hv.p2
 have hl:=hv.len
 have hes:Zht d.Points=some (sqT d.Points fun _ _=>0):=by
  unfold Zht
  rw [ZAz (fn:=fun h l=>Zkv h l) (g:=fun _ _=>0) (by omega) (by omega) fun _ _ _ _ _ _=>rfl]
  rfl
 have e:=Zj (B:=Zgf d) (fun m:Int=>(m,sqT d.Points (prG d m.toNat))) (i:=0) (n:=(d.Blocks.length:Int)) (by omega) fun m o p=>by
  have:=prF_i hv o p
  simp (disch:=omega) only [pz,Zgf,this]
 have r:sqT d.Points (prG d (0:Int).toNat)=sqT d.Points fun _ _=>0:=ZlR fun x y _ _ _ _=>by
  unfold prG prN
  simp [cntB]
 rw [r,Int.toNat_natCast] at e
 have hM:∀ x,0≤x→x<d.Points→(colG (fun y=>[prN d x y d.Blocks.length]) (x+1) (d.Points-(x+1)).toNat).length≤32:=fun x b c=>by
  have:=Za8 (g:=fun y=>[prN d x y d.Blocks.length]) (lo:=x+1) (M:=1) (n:=(d.Points-(x+1)).toNat) fun _ _ _=>Nat.le_refl _
  omega
 have hll:((sqT d.Points (prG d d.Blocks.length)).length:Int)=d.Points:=by unfold sqT;rw [Zk];omega
 have u:=ZaH (B:=Zdi (sqT d.Points (prG d d.Blocks.length))) (fun x=>colG (fun y=>[prN d x y d.Blocks.length]) (x+1) (d.Points-(x+1)).toNat) 32 2000 (lo:=0) (hi:=d.Points) (by omega) hM [] (by rw [List.length_nil];omega) fun out x b c ho f=>by
  have hrow:ix (sqT d.Points (prG d d.Blocks.length)) x=tabl d.Points fun y=>prG d d.Blocks.length x y:=Zq b c
  have hrl:((tabl d.Points fun y=>prG d d.Blocks.length x y).length:Int)=d.Points:=by rw [Zk];omega
  have hs:gSl (tabl d.Points fun y=>prG d d.Blocks.length x y) (x+1) d.Points=some (colG (fun y=>[prN d x y d.Blocks.length]) (x+1) (d.Points-(x+1)).toNat):=by
   have h1:=ZgU (xs:=tabl d.Points fun y=>prG d d.Blocks.length x y) (lo:=x+1) (by omega) (by omega)
   rw [hrl,Zv9 hv b c] at h1
   rw [h1]
   congr 1
   have hcg:∀ m:Nat,colG (fun y=>[prG d d.Blocks.length x y]) (x+1) m=colG (fun y=>[prN d x y d.Blocks.length]) (x+1) m:=by
    intro m
    induction m with
    | zero=>rfl
    | succ m ih=>
     rw [colG,colG,ih]
     congr 2
     unfold prG
     rw [if_pos (by omega)]
   exact hcg _
  have hg:gApp 8 out (colG (fun y=>[prN d x y d.Blocks.length]) (x+1) (d.Points-(x+1)).toNat)=some (out++colG (fun y=>[prN d x y d.Blocks.length]) (x+1) (d.Points-(x+1)).toNat):=by
   rw [List.length_append] at f
   exact ZbN (by omega) (by omega)
  simp (disch:=omega) only [pz,Zdi,hrow,hrl,hs,hg]
 have w:loop (Zdi (sqT d.Points (prG d d.Blocks.length))) ([],0)=some (.inr (prs d)):=u.trans (Zc (by
  show Zdi _ (prs d,_)=_
  simp (disch:=omega) only [pz,Zdi]))
 unfold Zim
 rw [hes,Option.bind_some,e]
 refine Zc ?_
 simp (disch:=omega) only [pz,Zgf,w]
theorem ZDa (h2:2≤d.Points):0<(prs d).length∧∀ c∈prs d,0≤c∧c≤128:=by
 have hl:=hv.len
 refine ⟨?_,fun c b=>?_⟩
 ·have h1:(1:Int)-1=0:=rfl
  obtain ⟨n,f⟩:∃ n:Nat,(d.Points-0).toNat=n+1:=⟨(d.Points-0).toNat-1,by omega⟩
  have pos:∀ n:Nat,0<(colG (fun x=>colG (fun y=>[prN d x y d.Blocks.length]) (x+1) (d.Points-(x+1)).toNat) 0 (n+1)).length:=by
   intro n
   induction n with
   | zero=>
    obtain ⟨m,hm⟩:∃ m:Nat,(d.Points-(0+1)).toNat=m+1:=⟨(d.Points-(0+1)).toNat-1,by omega⟩
    have e:(0:Int)+((0:Nat):Int)=0:=by omega
    rw [colG,e,hm,colG,List.nil_append]
    show 0<(colG _ _ (m+1)).length
    rw [colG,List.length_append,List.length_singleton]
    omega
   | succ n ih=>
    rw [colG,List.length_append]
    omega
  unfold prs
  rw [f]
  exact pos n
 ·obtain ⟨x,_,_,g⟩:=Zlu b
  obtain ⟨y,_,_,hy⟩:=Zlu g
  rw [List.mem_singleton.1 hy]
  have:=ZpG hv x y d.Blocks.length
  omega
theorem ZAN:∃ r,Zji d=some r∧Zhg d=some r∧(0≤r.1.R∧r.1.R≤128)∧(0≤r.1.K∧r.1.K≤32)∧(0≤r.1.Lambda∧r.1.Lambda≤128):=by
 have p1:=hv.p1
 have p2:=hv.p2
 have hl:=hv.len
 have eD:ZJ.mk d.Points d.Blocks=d:=rfl
 have bad:((0:Int)≤(ZS.mk 0 0 0 0 0).R∧(ZS.mk 0 0 0 0 0).R≤128)∧(0≤(ZS.mk 0 0 0 0 0).K∧(ZS.mk 0 0 0 0 0).K≤32)∧(0≤(ZS.mk 0 0 0 0 0).Lambda∧(ZS.mk 0 0 0 0 0).Lambda≤128):=⟨⟨by show (0:Int)≤0;omega,by show (0:Int)≤128;omega⟩,⟨by show (0:Int)≤0;omega,by show (0:Int)≤32;omega⟩,⟨by show (0:Int)≤0;omega,by show (0:Int)≤128;omega⟩⟩
 unfold Zji Zhg
 by_cases h2:d.Points<2
 ·exact ⟨(ZS.mk 0 0 0 0 0,false),by simp (disch:=omega) only [pz],by simp (disch:=omega) only [pz],bad⟩
 by_cases hb:(d.Blocks.length:Int)=0
 ·exact ⟨(ZS.mk 0 0 0 0 0,false),by simp (disch:=omega) only [pz],by simp (disch:=omega) only [pz],bad⟩
 obtain ⟨hne,hrng⟩:=ZDa hv (by omega)
 have p:=Zhv hv (i:=0) (by omega) (by omega)
 have q1:=Zxy hv
 have q2:=Zy9 hv
 obtain ⟨r1,r2⟩:=ZFp hv
 by_cases hk:((ix d.Blocks 0).length:Int)<2
 ·have s1:Zd9 d=some (ZS.mk 0 0 0 0 0,false):=by
   unfold Zd9
   have e:loop (ZbB d (ix d.Blocks 0)) 0=some (ZS.mk 0 0 0 0 0,false):=Zc (by simp (disch:=omega) only [pz,ZbB])
   simp (disch:=omega) only [pz,e]
  exact ⟨(ZS.mk 0 0 0 0 0,false),by simp (disch:=omega) only [pz,s1],by simp (disch:=omega) only [pz],bad⟩
 have key:∃ r,loop (ZbB d (ix d.Blocks 0)) 0=some r∧loop (Zcs d (prs d)) 0=some r∧(0≤r.1.R∧r.1.R≤128)∧(0≤r.1.K∧r.1.K≤32)∧(0≤r.1.Lambda∧r.1.Lambda≤128):=by
  have u:∀ n:Int,0≤n→n≤(d.Blocks.length:Int)→(∀ j,0≤j→j<n→¬ ¬ ((ix d.Blocks j).length:Int)=((ix d.Blocks 0).length:Int))→loop (ZbB d (ix d.Blocks 0)) 0=loop (ZbB d (ix d.Blocks 0)) n∧loop (Zcs d (prs d)) 0=loop (Zcs d (prs d)) n:=fun n n0 n1 hok=>by
   constructor
   ·refine Zj (B:=ZbB d (ix d.Blocks 0)) (fun k=>k) n0 fun k a b=>?_
    have:=Classical.not_not.1 (hok k a b)
    simp (disch:=omega) only [pz,ZbB]
   ·refine Zj (B:=Zcs d (prs d)) (fun k=>k) n0 fun k a b=>?_
    have:=Classical.not_not.1 (hok k a b)
    simp (disch:=omega) only [pz,Zcs]
  rcases Zqg (n:=(d.Blocks.length:Int)) (by omega) (fun k=>¬ ((ix d.Blocks k).length:Int)=((ix d.Blocks 0).length:Int)) with ⟨k,f,k1,hkk,hbad⟩|hbad
  ·obtain ⟨h,l⟩:=u k f (by omega) hbad
   exact ⟨(ZS.mk 0 0 0 0 0,false),by rw [h];exact Zc (by simp (disch:=omega) only [pz,ZbB]),by rw [l];exact Zc (by simp (disch:=omega) only [pz,Zcs]),bad⟩
  ·obtain ⟨h,l⟩:=u _ (by omega) (Int.le_refl _) hbad
   have hrl:((tabl d.Points fun x=>repN d x d.Blocks.length).length:Int)=d.Points:=by rw [Zk];omega
   have c:ix (tabl d.Points fun x=>repN d x d.Blocks.length) 0=repN d 0 d.Blocks.length:=Zq (by omega) (by omega)
   have hrr:=ZdK d.Blocks (fun b=>decide ((0:Int)∈b)) d.Blocks.length
   have hrr:0≤repN d 0 d.Blocks.length∧repN d 0 d.Blocks.length≤d.Blocks.length:=hrr
   have w:=hrng _ (ZP (xs:=prs d) (i:=0) (by omega) (by omega))
   have hpl:((prs d).length:Int)≤2000:=by
    have:=Za8 (g:=fun x=>colG (fun y=>[prN d x y d.Blocks.length]) (x+1) (d.Points-(x+1)).toNat) (lo:=0) (M:=32) (n:=(d.Points-0).toNat) fun x x0 x1=>by
     have:=Za8 (g:=fun y=>[prN d x y d.Blocks.length]) (lo:=x+1) (M:=1) (n:=(d.Points-(x+1)).toNat) fun _ _ _=>Nat.le_refl _
     omega
    unfold prs
    omega
   have a0:∃ r,loop (Zcj d (ix d.Blocks 0) (prs d)) 0=some (.inr r)∧loop (ZcB d (prs d)) 0=some (.inr r)∧(0≤r.1.R∧r.1.R≤128)∧(0≤r.1.K∧r.1.K≤32)∧(0≤r.1.Lambda∧r.1.Lambda≤128):=by
    have f1:∀ n:Int,0≤n→n≤((prs d).length:Int)→(∀ j,0≤j→j<n→¬ ¬ ix (prs d) j=ix (prs d) 0)→loop (Zcj d (ix d.Blocks 0) (prs d)) 0=loop (Zcj d (ix d.Blocks 0) (prs d)) n∧loop (ZcB d (prs d)) 0=loop (ZcB d (prs d)) n:=fun n n0 n1 hok=>by
     constructor
     ·refine Zj (B:=Zcj d (ix d.Blocks 0) (prs d)) (fun k=>k) n0 fun k a b=>?_
      have:=Classical.not_not.1 (hok k a b)
      simp (disch:=omega) only [pz,Zcj]
     ·refine Zj (B:=ZcB d (prs d)) (fun k=>k) n0 fun k a b=>?_
      have:=Classical.not_not.1 (hok k a b)
      simp (disch:=omega) only [pz,ZcB]
    rcases Zqg (n:=((prs d).length:Int)) (by omega) (fun k=>¬ ix (prs d) k=ix (prs d) 0) with ⟨k,f,k1,hkk,hbad⟩|hbad
    ·obtain ⟨m,o⟩:=f1 k f (by omega) hbad
     exact ⟨(ZS.mk 0 0 0 0 0,false),by rw [m];exact Zc (by simp (disch:=omega) only [pz,Zcj]),by rw [o];exact Zc (by simp (disch:=omega) only [pz,ZcB]),bad⟩
    ·obtain ⟨m,o⟩:=f1 _ (by omega) (Int.le_refl _) hbad
     refine ⟨(ZS.mk d.Points (d.Blocks.length:Int) (repN d 0 d.Blocks.length) ((ix d.Blocks 0).length:Int) (ix (prs d) 0),true),?_,?_,⟨hrr.1,by show repN d 0 d.Blocks.length≤128;omega⟩,⟨by show (0:Int)≤((ix d.Blocks 0).length:Int);omega,p⟩,w⟩
     ·rw [m]
      exact Zc (by simp (disch:=omega) only [pz,Zcj,r1,c])
     ·rw [o]
      exact Zc (by simp (disch:=omega) only [pz,ZcB,eD,r2,c,ZF,ZH])
   obtain ⟨r,i1,i2,i3⟩:=a0
   refine ⟨r,?_,?_,i3⟩
   ·rw [h]
    exact Zc (by simp (disch:=omega) only [pz,ZbB,q1,i1])
   ·rw [l]
    exact Zc (by simp (disch:=omega) only [pz,Zcs,i2])
 obtain ⟨r,k1,k2,k3⟩:=key
 have s1:Zd9 d=some r:=by
  unfold Zd9
  simp (disch:=omega) only [pz,k1]
 have s2:ZiB d=some r:=by
  unfold ZiB
  simp (disch:=omega) only [pz,eD,q2,k2]
 exact ⟨r,by simp (disch:=omega) only [pz,s1],by simp (disch:=omega) only [pz,s2],k3⟩
end
end Go.Proofs.YtghbgeaammnkcaaGreatDoor
namespace Go.Proofs.YtghbgeaammnkcaaGreatDoor
set_option linter.unusedVariables false
open Go Go.Vc
set_option linter.unusedSimpArgs false
def iota (lo:Int):Nat→List Int
 | 0=>[]
 | n+1=>lo::iota (lo+1) n
theorem Zsq:∀ (n:Nat) (lo:Int),(iota lo n).length=n
 | 0,_=>rfl
 | n+1,lo=>by simp [iota,Zsq n]
theorem ZuO:∀ (n:Nat) (lo:Int),iota lo (n+1)=iota lo n++[lo+n]
 | 0,lo=>by simp [iota]
 | n+1,lo=>by
  rw [iota,ZuO n (lo+1),iota]
  simp only [List.cons_append]
  rw [show lo+1+(n:Int)=lo+((n+1:Nat):Int) by omega]
def nextS (v:Int):List Int→Option (List Int)
 | []=>none
 | x::xs=>match nextS v xs with
  | some ys=>some (x::ys)
  | none=>if x+((xs.length:Int)+1)=v then none else some (iota (x+1) (xs.length+1))
theorem Zqw {v:Int}:∀ (xs:List Int),(∀ j,0≤j→j<(xs.length:Int)→ix xs j=v-xs.length+j)→nextS v xs=none
 | [],_=>rfl
 | x::xs,h=>by
  have hl:((x::xs).length:Int)=xs.length+1:=by simp
  have h0:=h 0 (by omega) (by omega)
  rw [ZcL] at h0
  have ih:=Zqw (v:=v) xs fun j a b=>by
   have:=h (j+1) (by omega) (by omega)
   rw [Zat (by omega),show j+1-1=j by omega] at this
   omega
  unfold nextS
  rw [ih]
  simp only
  rw [if_pos (by omega)]
theorem Zuw {v:Int}:∀ (xs:List Int) (i:Int),0≤i→i<(xs.length:Int)→ix xs i≠v-xs.length+i→(∀ j,i<j→j<(xs.length:Int)→ix xs j=v-xs.length+j)→nextS v xs=some (xs.take i.toNat++iota (ix xs i+1) (xs.length-i.toNat))
 | [],i,h0,h1,_,_=>by simp at h1;omega
 | x::xs,i,h0,h1,h2,c=>by
  have hl:((x::xs).length:Int)=xs.length+1:=by simp
  by_cases h:i=0
  ·subst h
   rw [ZcL] at h2 ⊢
   have e:=Zqw (v:=v) xs fun j a b=>by
    have:=c (j+1) (by omega) (by omega)
    rw [Zat (by omega),show j+1-1=j by omega] at this
    omega
   unfold nextS
   rw [e]
   simp only
   rw [if_neg (by omega)];rfl
  ·rw [Zat (by omega)] at h2 ⊢
   have ih:=Zuw (v:=v) xs (i-1) (by omega) (by omega) (by omega) fun j a b=>by
    have:=c (j+1) (by omega) (by omega)
    rw [Zat (by omega),show j+1-1=j by omega] at this
    omega
   unfold nextS
   rw [ih]
   simp only
   rw [show i.toNat=(i-1).toNat+1 by omega]
   simp only [List.take_succ_cons,List.length_cons,List.cons_append]
   rw [show xs.length+1-((i-1).toNat+1)=xs.length-(i-1).toNat by omega]
def subs (lo:Int):Nat→Nat→List (List Int)
 | _,0=>[[]]
 | 0,_+1=>[]
 | g+1,k+1=>(subs (lo+1) g k).map (lo::·)++subs (lo+1) g (k+1)
def RisL (hi:Int):Int→List Int→Prop
 | _,[]=>True
 | lo,x::xs=>lo≤x∧x≤hi∧RisL hi (x+1) xs
theorem RisL.mono {hi:Int}:∀ {lo lo':Int} {xs:List Int},lo'≤lo→RisL hi lo xs→RisL hi lo' xs
 | _,_,[],_,_=>trivial
 | _,_,x::xs,h,⟨a,b,c⟩=>⟨by omega,b,c⟩
theorem ZEw {x:Int} {xs:List Int} {lo hi:Int}:Rising (x::xs) lo hi↔(lo≤x∧x≤hi)∧Rising xs (x+1) hi:=by
 have hl:((x::xs).length:Int)=xs.length+1:=by simp
 constructor
 ·intro h
  have h0:=h 0 (by omega) (by omega)
  rw [ZcL] at h0
  refine ⟨h0.1,?_⟩
  have low:∀ (n:Nat),(n:Int)<xs.length→x+1≤ix xs n:=by
   intro n
   induction n with
   | zero=>
    intro e
    have:=(h 1 (by omega) (by omega)).2 (by omega)
    rw [show (1:Int)-1=0 by omega,ZcL,Zat (i:=1) (by omega),show (1:Int)-1=0 by omega] at this
    exact this
   | succ n ih=>
    intro e
    have h1:=ih (by omega)
    have:=(h ((n:Int)+2) (by omega) (by omega)).2 (by omega)
    rw [Zat (i:=(n:Int)+2-1) (by omega),Zat (i:=(n:Int)+2) (by omega)] at this
    rw [show (n:Int)+2-1-1=n by omega,show (n:Int)+2-1=((n+1:Nat):Int) by omega] at this
    omega
  intro k a b
  have h1:=h (k+1) (by omega) (by omega)
  rw [Zat (by omega),show k+1-1=k by omega] at h1
  have hl':=low k.toNat (by omega)
  rw [show ((k.toNat:Nat):Int)=k by omega] at hl'
  refine ⟨⟨hl',h1.1.2⟩,fun hk=>?_⟩
  have:=h1.2 (by omega)
  rw [Zat (by omega)] at this
  exact this
 ·rintro ⟨h0,h⟩ k a b
  by_cases hk:k=0
  ·subst hk;rw [ZcL];exact ⟨h0,fun h=>by omega⟩
  ·rw [Zat (by omega)]
   have h1:=h (k-1) (by omega) (by omega)
   refine ⟨⟨by omega,h1.1.2⟩,fun _=>?_⟩
   by_cases c:k=1
   ·subst c;rw [show (1:Int)-1=0 by omega] at *;rw [ZcL];omega
   ·rw [Zat (by omega)];exact h1.2 (by omega)
theorem Zoz {hi:Int}:∀ {xs:List Int} {lo:Int},Rising xs lo hi↔RisL hi lo xs
 | [],_=>⟨fun _=>trivial,fun _ k a b=>by simp at b;omega⟩
 | x::xs,lo=>by rw [ZEw,Zoz,RisL,and_assoc]
theorem Zio:∀ {g k:Nat} {lo:Int} {xs:List Int},xs∈subs lo g k↔xs.length=k∧RisL (lo+g-1) lo xs
 | g,0,lo,xs=>by
  rw [show subs lo g 0=[[]] by cases g<;>rfl]
  constructor
  ·intro h;simp at h;subst h;exact ⟨rfl,trivial⟩
  ·rintro ⟨h,_⟩;simp at h;simp [h]
 | 0,k+1,lo,xs=>by
  rw [subs]
  constructor
  ·intro h;simp at h
  ·rintro ⟨h,h2⟩
   cases xs with
   | nil=>simp at h
   | cons x xs=>obtain ⟨a,b,_⟩:=h2;omega
 | g+1,k+1,lo,xs=>by
  rw [subs,List.mem_append,List.mem_map,Zio (g:=g) (k:=k+1)]
  rw [show lo+1+(g:Int)-1=lo+((g+1:Nat):Int)-1 by omega]
  constructor
  ·rintro (⟨ys,h1,rfl⟩|⟨h1,h2⟩)
   ·rw [Zio,show lo+1+(g:Int)-1=lo+((g+1:Nat):Int)-1 by omega] at h1
    exact ⟨by simp [h1.1],by omega,by omega,h1.2⟩
   ·exact ⟨h1,h2.mono (by omega)⟩
  ·rintro ⟨h1,h2⟩
   cases xs with
   | nil=>simp at h1
   | cons x xs=>
    obtain ⟨a,b,c⟩:=h2
    by_cases e:x=lo
    ·subst e
     refine .inl ⟨xs,?_,rfl⟩
     rw [Zio,show x+1+(g:Int)-1=x+((g+1:Nat):Int)-1 by omega]
     exact ⟨by simpa using h1,c⟩
    ·exact .inr ⟨h1,by omega,b,c⟩
theorem ZjF:∀ {g k:Nat} {lo:Int},g<k→subs lo g k=[]
 | _,0,_,h=>by omega
 | 0,k+1,_,_=>rfl
 | g+1,k+1,lo,h=>by rw [subs,ZjF (by omega),ZjF (by omega)];rfl
theorem ZkC:∀ {g k:Nat} {lo:Int},k≤g→∃ L,subs lo g k=iota lo k::L
 | g,0,lo,_=>⟨[],by cases g<;>rfl⟩
 | 0,k+1,_,h=>by omega
 | g+1,k+1,lo,h=>by
  obtain ⟨L,hL⟩:=ZkC (g:=g) (k:=k) (lo:=lo+1) (by omega)
  rw [subs,hL]
  exact ⟨_,rfl⟩
theorem Znv:∀ (g k:Nat) (lo:Int),(subs lo g k).length≤2^g
 | g,0,lo=>by
  rw [show subs lo g 0=[[]] by cases g<;>rfl]
  exact Nat.one_le_two_pow
 | 0,k+1,lo=>by simp [subs]
 | g+1,k+1,lo=>by
  rw [subs,List.length_append,List.length_map]
  have h1:=Znv g k (lo+1)
  have h2:=Znv g (k+1) (lo+1)
  rw [Nat.pow_succ];omega
def Chain (v:Int):List (List Int)→Prop
 | []=>True
 | [x]=>nextS v x=none
 | x::y::L=>nextS v x=some y∧Chain v (y::L)
theorem ZtU {v lo:Int} {k:Nat} {B:List (List Int)} (hB:Chain v B) (h1:B=[]→lo+((k:Int)+1)=v) (h2:∀ b L,B=b::L→lo+((k:Int)+1)≠v∧b=iota (lo+1) (k+1)):
  ∀ (A:List (List Int)),Chain v A→(∀ x∈A,x.length=k)→Chain v (A.map (lo::·)++B)
 | [],_,_=>hB
 | [x],hA,hl=>by
  have c:=hl x (by simp)
  have e:nextS v x=none:=hA
  simp only [List.map_cons,List.map_nil,List.cons_append,List.nil_append]
  cases B with
  | nil=>
   show nextS v (lo::x)=none
   unfold nextS;rw [e];simp only;rw [c,if_pos (h1 rfl)]
  | cons b L=>
   obtain ⟨f,g⟩:=h2 b L rfl
   refine ⟨?_,hB⟩
   unfold nextS;rw [e];simp only;rw [c,if_neg f,g]
 | x::y::L,hA,hl=>by
  have ih:=ZtU hB h1 h2 (y::L) hA.2 fun z hz=>hl z (List.mem_cons_of_mem _ hz)
  simp only [List.map_cons,List.cons_append] at ih ⊢
  refine ⟨?_,ih⟩
  unfold nextS;rw [hA.1]
theorem Zqz:∀ (g k:Nat) (lo:Int),Chain (lo+g) (subs lo g k)
 | g,0,lo=>by
  rw [show subs lo g 0=[[]] by cases g<;>rfl];rfl
 | 0,k+1,lo=>trivial
 | g+1,k+1,lo=>by
  rw [subs]
  have hA:=Zqz g k (lo+1)
  have hB:=Zqz g (k+1) (lo+1)
  rw [show lo+1+(g:Int)=lo+((g+1:Nat):Int) by omega] at hA hB
  by_cases hk:k≤g
  ·refine ZtU (k:=k) hB (fun h=>?_) (fun b L h=>?_) _ hA fun x c=>(Zio.1 c).1
   ·have:¬ k+1≤g:=fun hh=>by
     obtain ⟨L,hL⟩:=ZkC (lo:=lo+1) hh
     rw [hL] at h;cases h
    omega
   ·by_cases hh:k+1≤g
    ·obtain ⟨L',hL⟩:=ZkC (lo:=lo+1) hh
     rw [hL] at h;cases h
     exact ⟨by omega,rfl⟩
    ·rw [ZjF (by omega)] at h;cases h
  ·rw [ZjF (by omega),ZjF (by omega)];trivial
end Go.Proofs.YtghbgeaammnkcaaGreatDoor
namespace Go.Proofs.YtghbgeaammnkcaaGreatDoor
set_option linter.unusedVariables false
open Go Go.Vc
set_option linter.unusedSimpArgs false
set_option linter.unusedSectionVars false
theorem ZyB {l:List Int} (h:(l.length:Int)≤4194304):Zbc l=some l:=by
 unfold Zbc
 rw [ZbN (by simp;omega) (by simp;omega)];rfl
def bump (xs:List Int) (i:Int) (x:Int) (j:Int):List Int:=xs.take i.toNat++iota x (j-i).toNat++xs.drop j.toNat
section
variable {xs:List Int} {i j x:Int} (h0:0≤i) (h1:i≤j)
include h0 h1
theorem Zsa (h2:j≤(xs.length:Int)):((xs.take i.toNat++iota x (j-i).toNat).length:Int)=j:=by
 rw [List.length_append,List.length_take,Zsq];omega
theorem Zra (h2:j≤(xs.length:Int)):((bump xs i x j).length:Int)=xs.length:=by
 have:=Zsa (x:=x) h0 h1 h2
 unfold bump;rw [List.length_append,List.length_drop];omega
theorem ZrL (h2:j<(xs.length:Int)):(bump xs i x j).set j.toNat (x+(j-i))=bump xs i x (j+1):=by
 unfold bump
 rw [ZbQ (by omega) h2,setMid (by rw [Zsa h0 h1 (by omega)]),show (j+1-i).toNat=(j-i).toNat+1 by omega,ZuO,show (((j-i).toNat:Nat):Int)=j-i by omega]
 simp
end
theorem ZsK {xs:List Int} {i x:Int} (h0:0≤i):bump xs i x i=xs:=by
 unfold bump;rw [Int.sub_self];simp [iota]
theorem Ztn {xs:List Int} {i x:Int} (h0:0≤i) (h1:i≤(xs.length:Int)):bump xs i x xs.length=xs.take i.toNat++iota x (xs.length-i.toNat):=by
 unfold bump;rw [Int.toNat_natCast,List.drop_length,List.append_nil,show ((xs.length:Int)-i).toNat=xs.length-i.toNat by omega]
def Tame (xs:List Int):Prop:=∀ x∈xs,0≤x∧x≤64
theorem ZsG {hi:Int} (h:hi≤64):∀ {xs:List Int} {lo:Int},0≤lo→RisL hi lo xs→Tame xs
 | [],_,_,_=>fun x e=>by simp at e
 | y::ys,lo,h0,⟨a,b,c⟩=>fun x e=>by
  rcases List.mem_cons.1 e with rfl|e
  ·exact ⟨by omega,by omega⟩
  ·exact ZsG h (by omega) c x e
def allSub (v k:Int):List (List Int):=subs 0 v.toNat k.toNat
section
variable {v k:Int} (h0:0≤k) (h1:k≤v) (h2:v≤32)
include h0 h1 h2
theorem ZsB {xs:List Int}:xs∈allSub v k↔(xs.length:Int)=k∧Rising xs 0 (v-1):=by
 unfold allSub
 rw [Zio,Zoz,show (0:Int)+((v.toNat:Nat):Int)-1=v-1 by omega]
 constructor
 ·rintro ⟨a,b⟩;exact ⟨by omega,b⟩
 ·rintro ⟨a,b⟩;exact ⟨by omega,b⟩
theorem Zzc:∃ L,allSub v k=iota 0 k.toNat::L∧Chain v (iota 0 k.toNat::L):=by
 obtain ⟨L,hL⟩:=ZkC (g:=v.toNat) (k:=k.toNat) (lo:=0) (by omega)
 have b:=Zqz v.toNat k.toNat 0
 rw [show (0:Int)+((v.toNat:Nat):Int)=v by omega,hL] at b
 exact ⟨L,hL,b⟩
end
theorem Zwz {k:Int} {xs:List Int} {i:Int} (hk:(xs.length:Int)=k) (h0:0≤i) (h1:i<k) (c:k≤64) (ht:Tame xs):
  loop (ZeA xs k i) (i,xs)=some (.inr (xs.take i.toNat++iota (ix xs i+1) (xs.length-i.toNat),true)):=by
 have f:=ht _ (ZP h0 (by omega):ix xs i∈xs)
 have hz:=ZsK (xs:=xs) (i:=i) (x:=ix xs i+1) h0
 have e:((i,xs):Int×List Int)=(fun j=>(j,bump xs i (ix xs i+1) j)) i:=by simp only [hz]
 rw [e,Zj (B:=ZeA xs k i) (fun j=>(j,bump xs i (ix xs i+1) j)) (i:=i) (n:=k) (by omega) ?_]
 ·refine Zc ?_
  simp (disch:=omega) only [pz,ZeA]
  rw [←hk,Ztn h0 (by omega)]
 ·intro j a b
  have hl:=Zra (xs:=xs) (x:=ix xs i+1) (j:=j) h0 (by omega) (by omega)
  have hs:=ZrL (xs:=xs) (x:=ix xs i+1) (j:=j) h0 (by omega) (by omega)
  simp (disch:=omega) only [pz,ZeA]
  rw [show ix xs i+1+j-i=ix xs i+1+(j-i) by omega,hs]
theorem Zt0 {v k:Int} {xs:List Int} (hk:(xs.length:Int)=k) (e:k≤64) (f:0≤v) (g:v≤32) (ht:Rising xs 0 (v-1)):
  ZiZ v xs=some (match nextS v xs with|some ys=>(ys,true)|none=>([],false)):=by
 have htm:Tame xs:=ZsG (hi:=v-1) (by omega) (Int.le_refl 0) (Zoz.1 ht)
 have hV:=(ZrX (l:=xs) (n:=v) (by omega)).eq ⟨ht,f,g⟩
 have hC:=ZyB (l:=xs) (by omega)
 unfold ZiZ
 simp (disch:=omega) only [pz,hV,ZH,hk]
 rcases ZlB (B:=ZeY v xs k) (fun k=>k) (fun i=>ix xs i≠v-k+i) (i:=k-1) (m:=-1) (by omega) (fun i a b c=>by
   have c:=Classical.not_not.1 c
   simp (disch:=omega) only [pz,ZeY]) with ⟨i,h1,h2,p,h,o⟩|⟨h1,h2⟩
 ·rw [o,Zuw xs i (by omega) (by omega) (by omega) (fun j a b=>by have:=Classical.not_not.1 (h j a (by omega));omega)]
  refine Zc ?_
  simp (disch:=omega) only [pz,ZeY,hC,Zwz hk (show 0≤i by omega) (by omega) e htm]
 ·rw [h2,Zqw xs (fun j a b=>by have:=Classical.not_not.1 (h1 j (by omega) (by omega));omega)]
  refine Zc ?_
  simp (disch:=omega) only [pz,ZeY]
theorem ZED {n:Int} (h0:0≤n) (h1:n≤4194304):Zcg n=some (iota 0 n.toNat):=by
 unfold Zcg
 rw [ZaN h0 (by omega) (by omega)]
 simp only [Option.bind_some]
 have hl:(((List.replicate n.toNat (0:Int)).length:Nat):Int)=n:=by rw [List.length_replicate];omega
 let R:List Int:=List.replicate n.toNat (0:Int)
 have hl':((R.length:Nat):Int)=n:=hl
 have e:((0,R):Int×List Int)=(fun j=>(j,bump R 0 0 j)) 0:=by simp only [ZsK (Int.le_refl 0)]
 show loop (ZbR R) (0,R)=_
 rw [e,Zj (B:=ZbR R) (fun j=>(j,bump R 0 0 j)) (i:=0) (n:=n) (by omega) ?_]
 ·refine Zc ?_
  simp (disch:=omega) only [pz,ZbR]
  rw [←hl',Ztn (Int.le_refl 0) (by omega)];simp
 ·intro j a b
  have c:=Zra (xs:=R) (x:=0) (j:=j) (Int.le_refl 0) (by omega) (by omega)
  have hs:=ZrL (xs:=R) (x:=0) (j:=j) (Int.le_refl 0) (by omega) (by omega)
  simp (disch:=omega) only [pz,ZbR]
  rw [show (0:Int)+(j-0)=j by omega] at hs
  rw [hs]
end Go.Proofs.YtghbgeaammnkcaaGreatDoor
namespace Go.Proofs.YtghbgeaammnkcaaGreatDoor
set_option linter.unusedVariables false
open Go Go.Vc
set_option linter.unusedSimpArgs false
def bin:Nat→Nat→Nat
 | _,0=>1
 | 0,_+1=>0
 | n+1,k+1=>bin n k+bin n (k+1)
theorem ZdU:∀ (g k:Nat) (lo:Int),(subs lo g k).length=bin g k
 | g,0,lo=>by cases g<;>rfl
 | 0,k+1,lo=>rfl
 | g+1,k+1,lo=>by
  rw [subs,List.length_append,List.length_map,ZdU g k,ZdU g (k+1),bin]
theorem Znp:∀ {n k:Nat},n<k→bin n k=0
 | 0,k+1,_=>rfl
 | n+1,k+1,h=>by rw [bin,Znp (by omega),Znp (by omega)]
theorem Zz9 (n k:Nat):bin n k≤2^n:=by
 rw [←ZdU n k 0];exact Znv n k 0
theorem bin32 {n:Nat} (k:Nat) (h:n≤32):bin n k≤4294967296:=by
 have h1:=Zz9 n k
 have h2:2^n≤2^32:=Nat.pow_le_pow_right (by omega) h
 omega
theorem Zvb:(List.range 33).all (fun n=>(List.range (n+1)).all fun k=>decide (Zni 200 (n:Int) (k:Int)=some ((bin n k:Nat):Int)))=true:=by decide +kernel
theorem choose_spec {n k:Nat} (b:n≤32):Zcz (n:Int) (k:Int)=some ((bin n k:Nat):Int):=by
 by_cases hk:k≤n
 ·have h:=List.all_eq_true.1 Zvb n (by simp;omega)
  have h2:=of_decide_eq_true (List.all_eq_true.1 h k (by simp;omega))
  exact ZBT (F:=200) _ _ _ h2
 ·rw [Znp (by omega)]
  unfold Zcz ZR
  simp (disch:=omega) only [pz,]
  rfl
theorem chooseS {n k:Int} (h0:0≤n) (h1:n≤32) (h2:0≤k):Zcz n k=some ((bin n.toNat k.toNat:Nat):Int):=by
 have a:=choose_spec (n:=n.toNat) (k:=k.toNat) (by omega)
 rw [Int.toNat_of_nonneg h0,Int.toNat_of_nonneg h2] at a
 exact a
theorem ZpH {n k:Int} (b:n≤32) (hk:k≤32):∀ (g j r:Nat) (out:List Int) (x:Int),0≤x→x+g=n→(out.length:Int)+j=k→r<bin g j→∃ s,(subs x g j)[r]?=some s∧loop (Zcf n k) ((r:Int),out,x)=some (out++s)
 | g,0,r,out,x,h0,h1,h2,c=>by
  have hr:r=0:=by
   have:bin g 0=1:=by cases g<;>rfl
   omega
  subst hr
  refine ⟨[],by cases g<;>rfl,?_⟩
  rw [List.append_nil]
  refine Zc ?_
  simp (disch:=omega) only [pz,Zcf]
 | 0,j+1,r,out,x,h0,h1,h2,c=>by
  have:bin 0 (j+1)=0:=rfl
  omega
 | g+1,j+1,r,out,x,h0,h1,h2,c=>by
  have h:bin (g+1) (j+1)=bin g j+bin g (j+1):=rfl
  have c1:=chooseS (n:=n-1-x) (k:=k-1-out.length) (by omega) (by omega) (by omega)
  rw [show (n-1-x).toNat=g by omega,show (k-1-(out.length:Int)).toNat=j by omega] at c1
  have f:=bin32 j (show g≤32 by omega)
  have b32':=bin32 (j+1) (show g≤32 by omega)
  by_cases hr:r<bin g j
  ·obtain ⟨s,s1,s2⟩:=ZpH b hk g j r (out++[x]) (x+1) (by omega) (by omega) (by rw [List.length_append,List.length_singleton];omega) hr
   have hB:Zcf n k ((r:Int),out,x)=some (.inl ((r:Int),out++[x],x+1)):=by
    simp (disch:=omega) only [pz,Zcf,Zh2,c1]
   refine ⟨x::s,?_,?_⟩
   ·rw [subs,List.getElem?_append_left (by rw [List.length_map,ZdU];exact hr),List.getElem?_map,s1];rfl
   ·rw [ZL hB,s2,List.append_assoc];rfl
  ·obtain ⟨s,s1,s2⟩:=ZpH b hk g (j+1) (r-bin g j) out (x+1) (by omega) (by omega) h2 (by omega)
   have hB:Zcf n k ((r:Int),out,x)=some (.inl (((r-bin g j:Nat):Int),out,x+1)):=by
    have e:(r:Int)-((bin g j:Nat):Int)=((r-bin g j:Nat):Int):=by omega
    simp (disch:=omega) only [pz,Zcf,Zh2,c1,e]
   refine ⟨s,?_,?_⟩
   ·rw [subs,List.getElem?_append_right (by rw [List.length_map,ZdU];omega),List.length_map,ZdU];exact s1
   ·rw [ZL hB,s2]
theorem ZBV {n k:Int} (h0:0≤n) (b:n≤32) (c:0≤k) (hk:k≤n) {r:Nat} (hr:r<bin n.toNat k.toNat):∃ s,(subs 0 n.toNat k.toNat)[r]?=some s∧Zkb n k (r:Int)=some s:=by
 obtain ⟨s,s1,s2⟩:=ZpH (n:=n) (k:=k) b (by omega) n.toNat k.toNat r [] 0 (Int.le_refl 0) (by omega) (by simp;omega) hr
 exact ⟨s,s1,s2⟩
end Go.Proofs.YtghbgeaammnkcaaGreatDoor
namespace Go.Proofs.YtghbgeaammnkcaaGreatDoor
set_option linter.unusedVariables false
open Go Go.Vc
set_option linter.unusedSimpArgs false
set_option linter.unusedSectionVars false
def pwI (q:Int):Nat→Int
 | 0=>1
 | n+1=>pwI q n*q
theorem ZAh:(List.range 17).all (fun q=>(List.range 9).all fun t=>decide (2≤q→(pwI q t≤256→Zkf 20 (q:Int) (t:Int)=some (pwI q t)∧Zcb 20 (q:Int) (t:Int) 256=some (pwI q t))∧(256<pwI q t→Zkf 20 (q:Int) (t:Int)=some 257∧256<(Zcb 20 (q:Int) (t:Int) 256).getD 0∧(Zcb 20 (q:Int) (t:Int) 256).getD 0≤5000)))=true:=by decide +kernel
theorem pw_ok {q t:Int} (q2:2≤q) (g:q≤16) (f:0≤t) (l:t≤8):(pwI q t.toNat≤256∧ZdL q t=some (pwI q t.toNat)∧Zau q t 256=some (pwI q t.toNat))∨(ZdL q t=some 257∧∃ r,Zau q t 256=some r∧256<r∧r≤5000):=by
 have h:=List.all_eq_true.1 (List.all_eq_true.1 ZAh q.toNat (by simp;omega)) t.toNat (by simp;omega)
 have h:=(of_decide_eq_true h) (by omega)
 rw [Int.toNat_of_nonneg (show 0≤q by omega),Int.toNat_of_nonneg f] at h
 by_cases hp:pwI q t.toNat≤256
 ·obtain ⟨a,b⟩:=h.1 hp
  exact .inl ⟨hp,Zss (F:=20) _ _ _ a,Zjl (F:=20) _ _ _ _ b⟩
 ·obtain ⟨a,b,c⟩:=h.2 (by omega)
  refine .inr ⟨Zss (F:=20) _ _ _ a,?_⟩
  cases e:Zcb 20 q t 256 with
  | none=>rw [e] at b;exact absurd b (by show ¬ (256:Int)<0;omega)
  | some r=>
   rw [e] at b c
   exact ⟨r,Zjl (F:=20) _ _ _ _ e,b,c⟩
theorem Zin {q:Int} (q2:2≤q):∀ n:Nat,1≤pwI q n
 | 0=>by simp [pwI]
 | n+1=>by
  have ih:=Zin q2 n
  have:=Int.mul_le_mul_of_nonneg_right ih (show 0≤q by omega)
  rw [pwI]
  omega
theorem Zrj {q:Int} (q2:2≤q):∀ {n m:Nat},n≤m→pwI q n≤pwI q m
 | n,0,h=>by
  have:n=0:=by omega
  subst this;exact Int.le_refl _
 | n,m+1,h=>by
  by_cases e:n=m+1
  ·subst e;exact Int.le_refl _
  ·have ih:=Zrj q2 (n:=n) (m:=m) (by omega)
   have hp:=Zin q2 m
   have:=Int.mul_le_mul_of_nonneg_left (show 1≤q by omega) (show 0≤pwI q m by omega)
   rw [pwI]
   omega
def vlS (q:Int) (s r:List Int):Nat→Int
 | 0=>0
 | n+1=>vlS q s r n*q+ix r (ix s (n:Int))
theorem Ztx {q:Int} (q2:2≤q) {s r:List Int}:∀ {n:Nat},(∀ k,0≤k→k<(n:Int)→0≤ix r (ix s k)∧ix r (ix s k)≤q-1)→0≤vlS q s r n∧vlS q s r n+1≤pwI q n
 | 0,_=>by simp [vlS,pwI]
 | n+1,h=>by
  have ih:=Ztx q2 (n:=n) fun k a b=>h k a (by omega)
  have e:=h (n:Int) (by omega) (by omega)
  have f:=Int.mul_nonneg ih.1 (show 0≤q by omega)
  have c:=Int.mul_le_mul_of_nonneg_right ih.2 (show 0≤q by omega)
  rw [Int.add_mul,Int.one_mul] at c
  rw [vlS,pwI]
  omega
theorem Zuy {q:Int} {s r:List Int} {k:Int} (h:0≤k):vlS q s r (k+1).toNat=vlS q s r k.toNat*q+ix r (ix s k):=by
 rw [show (k+1).toNat=k.toNat+1 by omega,vlS,show ((k.toNat:Nat):Int)=k by omega]
theorem Zkz {f g:Int→Int}:∀ {n:Nat},(∀ k,0≤k→k<(n:Int)→f k=g k)→sm f n=sm g n
 | 0,_=>rfl
 | n+1,h=>by rw [sm,sm,Zkz (n:=n) fun k a b=>h k a (by omega),h n (by omega) (by omega)]
theorem Zrw (f g:Int→Int):∀ n:Nat,sm (fun k=>f k+g k) n=sm f n+sm g n
 | 0=>rfl
 | n+1=>by rw [sm,sm,sm,Zrw f g n];omega
theorem Zsv {v:Int} (b:0≤v):∀ n:Nat,sm (fun k=>if v=k then 1 else 0) n=if v<(n:Int) then 1 else 0
 | 0=>by rw [sm,if_neg (by omega)]
 | n+1=>by
  rw [sm,Zsv b n]
  by_cases h1:v<(n:Int)
  ·rw [if_pos h1,if_neg (by omega),if_pos (by omega)];rfl
  ·by_cases h2:v=(n:Int)
   ·rw [if_neg h1,if_pos h2,if_pos (by omega)];rfl
   ·rw [if_neg h1,if_neg h2,if_neg (by omega)];rfl
theorem ZoV (c:Int):∀ n:Nat,sm (fun _=>c) n=n*c
 | 0=>by simp [sm]
 | n+1=>by rw [sm,ZoV c n,Int.natCast_add,Int.add_mul];simp
section
variable {a:ZE} (hv:ValidAr a)
def seenN (a:ZE) (s:List Int) (m:Nat) (v:Int):Int:=cntB a.Rows (fun r=>decide (vlS a.Levels s r s.length=v)) m
structure SetA (a:ZE) (s:List Int) (K:Int):Prop where
 len:(s.length:Int)≤8
 rng:∀ k,0≤k→k<(s.length:Int)→0≤ix s k∧ix s k<a.Columns
 pw:K=pwI a.Levels s.length
 k256:K≤256
include hv
variable {s:List Int} {K:Int} (hs:SetA a s K)
include hs
theorem Zft {i:Int} (c:0≤i) (f:i<(a.Rows.length:Int)) {k:Nat} (hk:k≤s.length):0≤vlS a.Levels s (ix a.Rows i) k∧vlS a.Levels s (ix a.Rows i) k<256∧(k=s.length→vlS a.Levels s (ix a.Rows i) k<K):=by
 have hr:=hv.row i c f
 have l1:=hv.l1
 have h1:=Ztx l1 (s:=s) (r:=ix a.Rows i) (n:=k) fun j b h=>hr.2 _ (hs.rng j b (by omega)).1 (by have:=(hs.rng j b (by omega)).2;omega)
 have h2:=Zrj l1 hk
 have g:=hs.pw
 have l:=hs.k256
 refine ⟨h1.1,by omega,fun e=>?_⟩
 rw [g,←e]
 omega
theorem Zuh (m:Nat) (v:Int):0≤seenN a s m v∧seenN a s m v≤m:=ZdK _ _ m
theorem Zq2:∀ m:Nat,(m:Int)≤(a.Rows.length:Int)→sm (seenN a s m) K.toNat=m
 | 0,_=>by
  have:sm (seenN a s 0) K.toNat=sm (fun _=>0) K.toNat:=Zkz fun k _ _=>rfl
  rw [this,ZoV]
  simp
 | m+1,h=>by
  have ih:=Zq2 m (by omega)
  obtain ⟨h1,_,h2⟩:=Zft hv hs (i:=(m:Int)) (by omega) (by omega) (Nat.le_refl s.length)
  have h2:=h2 rfl
  have e:sm (seenN a s (m+1)) K.toNat=sm (fun k=>seenN a s m k+if vlS a.Levels s (ix a.Rows m) s.length=k then 1 else 0) K.toNat:=Zkz fun k _ _=>by
   unfold seenN
   rw [cntB]
   simp
  rw [e,Zrw,ih,Zsv h1,if_pos (by omega)]
  omega
def Evn (a:ZE) (s:List Int) (K:Int):Prop:=∀ v,0≤v→v<K→seenN a s a.Rows.length v=seenN a s a.Rows.length 0
theorem ZlO (hK:1≤K) (h:Evn a s K):(a.Rows.length:Int)=K*seenN a s a.Rows.length 0:=by
 have h1:=Zq2 hv hs a.Rows.length (Int.le_refl _)
 have h2:sm (seenN a s a.Rows.length) K.toNat=sm (fun _=>seenN a s a.Rows.length 0) K.toNat:=Zkz fun v b c=>h v b (by omega)
 rw [h2,ZoV,Int.toNat_of_nonneg (by omega)] at h1
 exact h1.symm
theorem Zrt {i:Int} (b:0≤i) (c:i<(a.Rows.length:Int)):(tabl K (seenN a s i.toNat)).set (vlS a.Levels s (ix a.Rows i) s.length).toNat (seenN a s i.toNat (vlS a.Levels s (ix a.Rows i) s.length)+1)=tabl K (seenN a s (i+1).toNat):=by
 obtain ⟨h1,_,h2⟩:=Zft hv hs b c (Nat.le_refl s.length)
 have h2:=h2 rfl
 refine Zav h1 h2 (fun v e f hne=>?_) ?_
 ·unfold seenN
  rw [ZdY b]
  simp [Ne.symm hne]
 ·unfold seenN
  rw [ZdY b]
  simp
theorem Zwj {i:Int} (b:0≤i) (c:i<(a.Rows.length:Int)):loop (ZfX a s i (tabl K (seenN a s i.toNat)) (ix a.Rows i)) (0,0)=some (.inl (i+1,tabl K (seenN a s (i+1).toNat))):=by
 have hr:=hv.row i b c
 have l1:=hv.l1
 have l2:=hv.l2
 have hlen:=hs.len
 have hk:=hs.k256
 have hrows:=hv.len
 have e:=Zj (B:=ZfX a s i (tabl K (seenN a s i.toNat)) (ix a.Rows i)) (fun k:Int=>(vlS a.Levels s (ix a.Rows i) k.toNat,k)) (i:=0) (n:=(s.length:Int)) (by omega) fun k f k1=>by
  have g:=hs.rng k f k1
  have h:=hr.2 (ix s k) g.1 (by omega)
  obtain ⟨h1,h2,_⟩:=Zft hv hs b c (k:=k.toNat) (by omega)
  have l:=Int.mul_nonneg h1 (show 0≤a.Levels by omega)
  have m:=Int.mul_le_mul_of_nonneg_right (show vlS a.Levels s (ix a.Rows i) k.toNat≤256 by omega) (show 0≤a.Levels by omega)
  rw [Zuy f]
  simp (disch:=omega) only [pz,ZfX]
 rw [Int.toNat_natCast] at e
 obtain ⟨h1,_,h2⟩:=Zft hv hs b c (Nat.le_refl s.length)
 have h2:=h2 rfl
 have htl:((tabl K (seenN a s i.toNat)).length:Int)=K:=by rw [Zk];omega
 have hg:ix (tabl K (seenN a s i.toNat)) (vlS a.Levels s (ix a.Rows i) s.length)=seenN a s i.toNat (vlS a.Levels s (ix a.Rows i) s.length):=Zq h1 h2
 have hrg:=Zuh hv hs i.toNat (vlS a.Levels s (ix a.Rows i) s.length)
 have hst:=Zrt hv hs b c
 refine Eq.trans e (Zc ?_)
 simp (disch:=omega) only [pz,ZfX,hg,hst]
theorem ZsT (hK:1≤K) (hp:Zau a.Levels s.length 256=some K):∃ c:Int,Zdz a s=some c∧((Evn a s K∧c=seenN a s a.Rows.length 0)∨(¬ Evn a s K∧c=0)):=by
 have hk:=hs.k256
 have hlen:=hs.len
 have hrows:=hv.len
 have hmk:=ZaN (b:=8) (z:=(0:Int)) (n:=K) (by omega) (by omega) (by omega)
 have u:List.replicate K.toNat (0:Int)=tabl K (seenN a s (0:Int).toNat):=by
  refine Za1 (by rw [Zk,List.length_replicate]) fun i l o=>?_
  rw [List.length_replicate] at o
  rw [Zhz l (by omega),Zq l (by omega)]
  rfl
 have e:=Zj (B:=Zd0 a s) (fun i:Int=>(i,tabl K (seenN a s i.toNat))) (i:=0) (n:=(a.Rows.length:Int)) (by omega) fun i l o=>by
  have:=Zwj hv hs l o
  simp (disch:=omega) only [pz,Zd0,this]
 rw [Int.toNat_natCast,←u] at e
 have htl:((tabl K (seenN a s a.Rows.length)).length:Int)=K:=by rw [Zk];omega
 have hz:ix (tabl K (seenN a s a.Rows.length)) 0=seenN a s a.Rows.length 0:=Zq (by omega) (by omega)
 have key:∃ c:Int,loop (ZeD (tabl K (seenN a s a.Rows.length))) 0=some (.inr c)∧((Evn a s K∧c=seenN a s a.Rows.length 0)∨(¬ Evn a s K∧c=0)):=by
  rcases ZaK (B:=ZeD (tabl K (seenN a s a.Rows.length))) (fun k=>k) (fun v=>¬ seenN a s a.Rows.length v=seenN a s a.Rows.length 0) (i:=0) (n:=K) (by omega) (fun v f g m=>by
   have m:=Classical.not_not.1 m
   have p:ix (tabl K (seenN a s a.Rows.length)) v=seenN a s a.Rows.length v:=Zq f g
   simp (disch:=omega) only [pz,ZeD,p,hz]) with ⟨v,f,g,m,_,r⟩|⟨hall,r⟩
  ·have p:ix (tabl K (seenN a s a.Rows.length)) v=seenN a s a.Rows.length v:=Zq f g
   refine ⟨0,?_,.inr ⟨fun h=>m (h v f g),rfl⟩⟩
   rw [r]
   exact Zc (by simp (disch:=omega) only [pz,ZeD,p,hz])
  ·refine ⟨_,?_,.inl ⟨fun v f g=>Classical.not_not.1 (hall v f g),rfl⟩⟩
   rw [r]
   exact Zc (by simp (disch:=omega) only [pz,ZeD,hz])
 obtain ⟨c,k1,w⟩:=key
 refine ⟨c,?_,w⟩
 have y:loop (Zd0 a s) (0,List.replicate K.toNat (0:Int))=some c:=e.trans (Zc (by simp (disch:=omega) only [pz,Zd0,k1]))
 unfold Zdz ZH
 simp (disch:=omega) only [pz,hp,hmk,y]
theorem ZAu {i y7:Int} (b:0≤i) (c:i<(a.Rows.length:Int)):loop (ZgD a s i (tabl K (seenN a s i.toNat))) (0,0)=some (.inl (i+1,tabl K (seenN a s (i+1).toNat))):=by
 have hr:=hv.row i b c
 have l1:=hv.l1
 have l2:=hv.l2
 have hlen:=hs.len
 have hk:=hs.k256
 have hrows:=hv.len
 have e:=Zj (B:=ZgD a s i (tabl K (seenN a s i.toNat))) (fun k:Int=>(vlS a.Levels s (ix a.Rows i) k.toNat,k)) (i:=0) (n:=(s.length:Int)) (by omega) fun k f k1=>by
  have g:=hs.rng k f k1
  have h:=hr.2 (ix s k) g.1 (by omega)
  obtain ⟨h1,h2,_⟩:=Zft hv hs b c (k:=k.toNat) (by omega)
  have l:=Int.mul_nonneg h1 (show 0≤a.Levels by omega)
  have m:=Int.mul_le_mul_of_nonneg_right (show vlS a.Levels s (ix a.Rows i) k.toNat≤256 by omega) (show 0≤a.Levels by omega)
  rw [Zuy f]
  simp (disch:=omega) only [pz,ZgD]
 rw [Int.toNat_natCast] at e
 obtain ⟨h1,_,h2⟩:=Zft hv hs b c (Nat.le_refl s.length)
 have h2:=h2 rfl
 have htl:((tabl K (seenN a s i.toNat)).length:Int)=K:=by rw [Zk];omega
 have hg:ix (tabl K (seenN a s i.toNat)) (vlS a.Levels s (ix a.Rows i) s.length)=seenN a s i.toNat (vlS a.Levels s (ix a.Rows i) s.length):=Zq h1 h2
 have hrg:=Zuh hv hs i.toNat (vlS a.Levels s (ix a.Rows i) s.length)
 have hst:=Zrt hv hs b c
 refine Eq.trans e (Zc ?_)
 simp (disch:=omega) only [pz,ZgD,hg,hst]
end
end Go.Proofs.YtghbgeaammnkcaaGreatDoor
namespace Go.Proofs.YtghbgeaammnkcaaGreatDoor
set_option linter.unusedVariables false
open Go Go.Vc
set_option linter.unusedSimpArgs false
set_option linter.unusedSectionVars false
section
variable {a:ZE} (hv:ValidAr a)
include hv
theorem ZEE {s:List Int} {K:Int} (hs:SetA a s K) (hK:1≤K) (r:(a.Rows.length:Int)=K*Int.tdiv (a.Rows.length:Int) K) (y7:Int):∃ b:Bool,loop (ZeM a K y7 s) (0,List.replicate K.toNat 0)=some (bif b then .inl (IntKind.i64.wrap (y7+1)) else .inr 0)∧(b=true↔Evn a s K):=by
 have hk:=hs.k256
 have hrows:=hv.len
 have u:List.replicate K.toNat (0:Int)=tabl K (seenN a s (0:Int).toNat):=by
  refine Za1 (by rw [Zk,List.length_replicate]) fun i g m=>?_
  rw [List.length_replicate] at m
  rw [Zhz g (by omega),Zq g (by omega)]
  rfl
 have e:=Zj (B:=ZeM a K y7 s) (fun i:Int=>(i,tabl K (seenN a s i.toNat))) (i:=0) (n:=(a.Rows.length:Int)) (by omega) fun i g m=>by
  have:=ZAu hv hs (y7:=y7) g m
  simp (disch:=omega) only [pz,ZeM,this]
 rw [Int.toNat_natCast,←u] at e
 have htl:((tabl K (seenN a s a.Rows.length)).length:Int)=K:=by rw [Zk];omega
 have heq:Evn a s K↔∀ v,0≤v→v<K→seenN a s a.Rows.length v=Int.tdiv (a.Rows.length:Int) K:=by
  constructor
  ·intro h v c f
   have h1:=ZlO hv hs hK h
   rw [h v c f]
   have h2:K*seenN a s a.Rows.length 0=K*Int.tdiv (a.Rows.length:Int) K:=by rw [←h1];exact r
   exact Int.eq_of_mul_eq_mul_left (by omega) h2
  ·intro h v c f
   rw [h v c f,h 0 (by omega) (by omega)]
 generalize hI:Int.tdiv (a.Rows.length:Int) K=I at heq
 have key:∃ b:Bool,loop (ZeO a K y7 (tabl K (seenN a s a.Rows.length))) 0=some (.inr (bif b then .inl (IntKind.i64.wrap (y7+1)) else .inr 0))∧(b=true↔Evn a s K):=by
  have hIr:-9223372036854775808≤Int.tdiv (a.Rows.length:Int) K∧Int.tdiv (a.Rows.length:Int) K≤9223372036854775807:=by
   have h1:Int.tdiv (a.Rows.length:Int) K=(a.Rows.length:Int)/K:=Int.tdiv_eq_ediv_of_nonneg (by omega)
   have h2:=Int.ediv_nonneg (show 0≤(a.Rows.length:Int) by omega) (show 0≤K by omega)
   have y:=Int.ediv_le_self K (show 0≤(a.Rows.length:Int) by omega)
   omega
  rcases ZaK (B:=ZeO a K y7 (tabl K (seenN a s a.Rows.length))) (fun k=>k) (fun v=>¬ seenN a s a.Rows.length v=I) (i:=0) (n:=K) (by omega) (fun v c f l=>by
   have l:=Classical.not_not.1 l
   have o:ix (tabl K (seenN a s a.Rows.length)) v=seenN a s a.Rows.length v:=Zq c f
   simp (disch:=omega) only [pz,ZeO,o,hI]) with ⟨v,c,f,l,_,p⟩|⟨hall,p⟩
  ·have o:ix (tabl K (seenN a s a.Rows.length)) v=seenN a s a.Rows.length v:=Zq c f
   refine ⟨false,?_,by simp;exact fun h=>l (heq.1 h v c f)⟩
   rw [p]
   exact Zc (by simp (disch:=omega) only [pz,ZeO,o,hI])
  ·refine ⟨true,?_,by simp;exact heq.2 fun v c f=>Classical.not_not.1 (hall v c f)⟩
   rw [p]
   exact Zc (by simp (disch:=omega) only [pz,ZeO])
 obtain ⟨b,k1,w⟩:=key
 refine ⟨b,?_,w⟩
 refine Eq.trans e (Zc ?_)
 simp (disch:=omega) only [pz,ZeM,k1]
def AllE (a:ZE) (t K:Int):Prop:=∀ s∈allSub a.Columns t,Evn a s K
variable {t:Int} (t1:1≤t) (tc:t≤a.Columns)
include t1 tc
theorem setA {K:Int} (hK:K=pwI a.Levels t.toNat) (b:K≤256) {s:List Int} (h:(s.length:Int)=t∧Rising s 0 (a.Columns-1)):SetA a s K:=by
 have c2:=hv.c2
 refine ⟨by omega,fun k c k1=>?_,by rw [hK,←h.1,Int.toNat_natCast],b⟩
 have:=(h.2 k c k1).1
 omega
theorem ZxP {K:Int} (hK:K=pwI a.Levels t.toNat) (m:K≤256) (h0:0<(a.Rows.length:Int)) (p:(a.Rows.length:Int)=K*Int.tdiv (a.Rows.length:Int) K):∃ b:Bool,loop (Zd5 a t K) 0=some (bif b then Int.tdiv (a.Rows.length:Int) K else 0)∧(b=true↔AllE a t K):=by
 have c1:=hv.c1
 have c2:=hv.c2
 have l1:=hv.l1
 have hrows:=hv.len
 have hKp:1≤K:=by rw [hK];exact Zin l1 _
 have hch:=chooseS (n:=a.Columns) (k:=t) (by omega) (by omega) (by omega)
 have o:=bin32 (n:=a.Columns.toNat) t.toNat (by omega)
 have hlen:(allSub a.Columns t).length=bin a.Columns.toNat t.toNat:=ZdU _ _ _
 have hmem:=fun {xs:List Int}=>(ZsB (v:=a.Columns) (k:=t) (by omega) tc (by omega) (xs:=xs))
 have hmk:=ZaN (b:=8) (z:=(0:Int)) (n:=K) (by omega) (by omega) (by omega)
 generalize hB:bin a.Columns.toNat t.toNat=B at hch o hlen
 have stepv:∀ y,0≤y→y<(B:Int)→∃ b:Bool,Zd5 a t K y=some (bif b then .inl (y+1) else .inr 0)∧(b=true↔Evn a (ix (allSub a.Columns t) y) K):=fun y c g=>by
  obtain ⟨s,s1,s2⟩:=ZBV (n:=a.Columns) (k:=t) (by omega) (by omega) (by omega) tc (r:=y.toNat) (by omega)
  have s1:(allSub a.Columns t)[y.toNat]?=some s:=s1
  have hix:ix (allSub a.Columns t) y=s:=by
   have:=Za3 (xs:=allSub a.Columns t) c (by omega)
   rw [s1] at this
   exact (Option.some.inj this).symm
  rw [Int.toNat_of_nonneg c] at s2
  have hsA:=setA hv t1 tc hK m (hmem.1 (List.mem_of_getElem? s1))
  obtain ⟨b,f,q2⟩:=ZEE hv hsA hKp p y
  rw [hix]
  refine ⟨b,?_,q2⟩
  cases b<;>simp (disch:=omega) only [pz,Zd5,hch,s2,hmk,f]
 rcases ZaK (B:=Zd5 a t K) (fun k=>k) (fun y=>¬ Evn a (ix (allSub a.Columns t) y) K) (i:=0) (n:=(B:Int)) (by omega) (fun y c g l=>by
  obtain ⟨b,f,q2⟩:=stepv y c g
  rw [q2.2 (Classical.not_not.1 l)] at f
  exact f) with ⟨y,c,g,l,_,e⟩|⟨hall,e⟩
 ·obtain ⟨b,f,q2⟩:=stepv y c g
  have hbf:b=false:=by cases b with|false=>rfl|true=>exact absurd (q2.1 rfl) l
  rw [hbf] at f
  refine ⟨false,by rw [e];exact Zc f,by simp;exact fun h=>l (h _ (ZP c (by omega)))⟩
 ·have hIr:-9223372036854775808≤Int.tdiv (a.Rows.length:Int) K∧Int.tdiv (a.Rows.length:Int) K≤9223372036854775807:=by
   have h1:Int.tdiv (a.Rows.length:Int) K=(a.Rows.length:Int)/K:=Int.tdiv_eq_ediv_of_nonneg (by omega)
   have h2:=Int.ediv_nonneg (show 0≤(a.Rows.length:Int) by omega) (show 0≤K by omega)
   have u:=Int.ediv_le_self K (show 0≤(a.Rows.length:Int) by omega)
   omega
  refine ⟨true,by rw [e];exact Zc (by simp (disch:=omega) only [pz,Zd5,hch]),iff_of_true rfl fun s hs=>?_⟩
  obtain ⟨y,c,g,rfl⟩:=Z0 hs
  exact Classical.not_not.1 (hall y c (by omega))
theorem Zu0 {K:Int} (hK:K=pwI a.Levels t.toNat) (l:K≤256) (h0:0<(a.Rows.length:Int)) (hp:Zau a.Levels t 256=some K) (c:Int):∀ (L:List (List Int)) (x:List Int),Chain a.Columns (x::L)→(∀ y∈x::L,(y.length:Int)=t∧Rising y 0 (a.Columns-1)) →
  ∃ b:Bool,loop (Zcm a c) (x,true)=some (bif b then c else 0)∧(b=true↔∀ y∈x::L,Evn a y K):=by
 have c1:=hv.c1
 have c2:=hv.c2
 have l1:=hv.l1
 have hKp:1≤K:=by rw [hK];exact Zin l1 _
 have eA:ZE.mk a.Levels a.Columns a.Rows=a:=rfl
 have ev:∀ y:List Int,((y.length:Int)=t∧Rising y 0 (a.Columns-1))→∃ q:Int,Zdz a y=some q∧(q=0↔¬ Evn a y K):=fun y hy=>by
  have hsA:=setA hv t1 tc hK l hy
  obtain ⟨q,f,q2⟩:=ZsT hv hsA hKp (by rw [hy.1];exact hp)
  refine ⟨q,f,?_⟩
  rcases q2 with ⟨h1,h2⟩|⟨h1,h2⟩
  ·have o:=ZlO hv hsA hKp h1
   refine ⟨fun e=>?_,fun h=>absurd h1 h⟩
   rw [h2] at e
   rw [e,Int.mul_zero] at o
   omega
  ·exact ⟨fun _=>h1,fun _=>h2⟩
 intro L
 induction L with
 | nil=>
  intro x g hy
  have h1:=hy x (by simp)
  have p:nextS a.Columns x=none:=g
  have hnx:=Zt0 h1.1 (by omega) (by omega) (by omega) h1.2
  rw [p] at hnx
  obtain ⟨q,f,q2⟩:=ev x h1
  by_cases hE:Evn a x K
  ·have m:¬ q=0:=fun e=>(q2.1 e) hE
   refine ⟨true,?_,by simp [hE]⟩
   rw [ZL (s':=([],false)) (by simp (disch:=omega) only [pz,Zcm,eA,f,hnx])]
   exact Zc (by simp (disch:=omega) only [pz,Zcm])
  ·have m:=q2.2 hE
   refine ⟨false,Zc (by simp (disch:=omega) only [pz,Zcm,eA,f]),by simp [hE]⟩
 | cons y L ih=>
  intro x g hy
  have h1:=hy x (by simp)
  have hnx:=Zt0 h1.1 (by omega) (by omega) (by omega) h1.2
  rw [g.1] at hnx
  obtain ⟨q,f,q2⟩:=ev x h1
  by_cases hE:Evn a x K
  ·have m:¬ q=0:=fun e=>(q2.1 e) hE
   obtain ⟨b,r,u⟩:=ih y g.2 fun z hz=>hy z (List.mem_cons_of_mem _ hz)
   refine ⟨b,?_,?_⟩
   ·rw [ZL (s':=(y,true)) (by simp (disch:=omega) only [pz,Zcm,eA,f,hnx])]
    exact r
   ·rw [u]
    exact ⟨fun h z hz=>by
     rcases List.mem_cons.1 hz with rfl|hz
     ·exact hE
     ·exact h z hz,fun h z hz=>h z (List.mem_cons_of_mem _ hz)⟩
  ·have m:=q2.2 hE
   refine ⟨false,Zc (by simp (disch:=omega) only [pz,Zcm,eA,f]),by simp [hE]⟩
theorem ZvL:∃ r:Int,ZeQ a t=some r∧Zem a t=some r:=by
 have c1:=hv.c1
 have c2:=hv.c2
 have l1:=hv.l1
 have l2:=hv.l2
 have hrows:=hv.len
 have eA:ZE.mk a.Levels a.Columns a.Rows=a:=rfl
 unfold ZeQ Zem
 rcases pw_ok (q:=a.Levels) (t:=t) l1 l2 (by omega) (by omega) with ⟨c,p1,p2⟩|⟨p1,r,p2,r1,r2⟩
 ·have hKp:=Zin l1 t.toNat
  generalize hK:pwI a.Levels t.toNat=K at c p1 p2 hKp
  by_cases h0:(a.Rows.length:Int)=0
  ·exact ⟨0,by simp (disch:=omega) only [pz,p1],by simp (disch:=omega) only [pz,p2,ZF]⟩
  ·have hid:=ZED (n:=t) (by omega) (by omega)
   obtain ⟨L,hL,m⟩:=Zzc (v:=a.Columns) (k:=t) (by omega) tc (by omega)
   have hmem:∀ y∈iota 0 t.toNat::L,(y.length:Int)=t∧Rising y 0 (a.Columns-1):=fun y hy=>(ZsB (by omega) tc (by omega)).1 (by rw [hL];exact hy)
   have hfst:=hmem _ (List.mem_cons_self ..)
   have hsA:=setA hv t1 tc hK.symm c hfst
   obtain ⟨q,h,q2⟩:=ZsT hv hsA hKp (by rw [hfst.1];exact p2)
   obtain ⟨b,e,f⟩:=Zu0 hv t1 tc hK.symm c (by omega) p2 q L _ m hmem
   by_cases hlt:(a.Rows.length:Int)<K
   ·have htm:Int.tmod (a.Rows.length:Int) K=(a.Rows.length:Int):=by
     rw [Int.tmod_eq_emod_of_nonneg (by omega),Int.emod_eq_of_lt (by omega) hlt]
    have hgn:gNz K=some ():=ZoA (by omega)
    exact ⟨0,by simp (disch:=omega) only [pz,p1,hgn,htm],by simp (disch:=omega) only [pz,p2,ZF]⟩
   ·have hgn:gNz K=some ():=ZoA (by omega)
    have hdm:=Int.mul_tdiv_add_tmod (a.Rows.length:Int) K
    by_cases hm:Int.tmod (a.Rows.length:Int) K=0
    ·rw [hm,Int.add_zero] at hdm
     obtain ⟨b',o,p⟩:=ZxP hv t1 tc hK.symm c (by omega) hdm.symm
     have hbb:b=b':=by
      have:b=true↔b'=true:=by rw [f,p];unfold AllE;rw [hL]
      cases b<;>cases b'<;>simp_all
     have l:ZjM a t K=some (bif b' then Int.tdiv (a.Rows.length:Int) K else 0):=by
      unfold ZjM
      simp (disch:=omega) only [pz,hgn,o]
     refine ⟨bif b' then Int.tdiv (a.Rows.length:Int) K else 0,by simp (disch:=omega) only [pz,p1,hgn,hm,l],?_⟩
     have hqv:(bif b then q else 0)=bif b' then Int.tdiv (a.Rows.length:Int) K else 0:=by
      rw [hbb]
      cases hb':b' with
      | false=>rfl
      | true=>
       have hE:Evn a (iota 0 t.toNat) K:=(f.1 (hbb.trans hb')) _ (List.mem_cons_self ..)
       rcases q2 with ⟨_,h2⟩|⟨h1,_⟩
       ·have g:=ZlO hv hsA hKp hE
        have u:K*q=K*Int.tdiv (a.Rows.length:Int) K:=by rw [h2,←g];exact hdm.symm
        exact Int.eq_of_mul_eq_mul_left (by omega) u
       ·exact absurd hE h1
     rw [hqv] at e
     simp (disch:=omega) only [pz,p2,ZF,hid,eA,h,e]
    ·refine ⟨0,by simp (disch:=omega) only [pz,p1,hgn,hm],?_⟩
     have hbf:b=false:=by
      cases w:b with
      | false=>rfl
      | true=>
       exfalso
       have hE:Evn a (iota 0 t.toNat) K:=(f.1 w) _ (List.mem_cons_self ..)
       have g:=ZlO hv hsA hKp hE
       refine hm ?_
       rw [g]
       exact Int.mul_tmod_right _ _
     rw [hbf] at e
     simp (disch:=omega) only [pz,p2,ZF,hid,eA,h,e]
 ·exact ⟨0,by simp (disch:=omega) only [pz,p1],by simp (disch:=omega) only [pz,p2,ZF]⟩
end
theorem ZD7 {a:ZE} (hv:ValidAr a) (hs:Sz2 a.Rows):∃ r,Ziw a=some r∧ZgJ a=some r∧0≤r∧r≤8:=by
 have c1:=hv.c1
 have c2:=hv.c2
 have eA:ZE.mk a.Levels a.Columns a.Rows=a:=rfl
 have o:=(ZqH hs).eq hv
 have p:=(Zrh hs).eq hv
 have hch:∀ t:Int,∃ r:Int,1≤t→t≤a.Columns→ZeQ a t=some r∧Zem a t=some r:=fun t=>by
  by_cases h:1≤t∧t≤a.Columns
  ·obtain ⟨r,hr⟩:=ZvL hv h.1 h.2
   exact ⟨r,fun _ _=>hr⟩
  ·exact ⟨0,fun a b=>(h ⟨a,b⟩).elim⟩
 obtain ⟨f,hf⟩:∃ f:Int→Int,∀ t,1≤t→t≤a.Columns→ZeQ a t=some (f t)∧Zem a t=some (f t):=⟨fun t=>Classical.choose (hch t),fun t=>Classical.choose_spec (hch t)⟩
 have dn:∀ m:Int,0≤m→m≤a.Columns→(∀ j,m<j→j≤a.Columns→¬ f j>0)→loop (ZbJ a) a.Columns=loop (ZbJ a) m:=fun m y w u=>by
  rcases ZlB (B:=ZbJ a) (fun k=>k) (fun _=>False) w (fun k c k1 _=>by
   have:=(hf k (by omega) k1).2
   have:=u k c k1
   simp (disch:=omega) only [pz,ZbJ,eA,(hf k (by omega) k1).2]) with ⟨_,_,_,h,_⟩|⟨_,h⟩
  ·exact h.elim
  ·exact h
 unfold Ziw ZgJ
 rcases ZlB (B:=Zdg a) (fun k=>k) (fun t=>f t>0) (i:=a.Columns) (m:=0) (by omega) (fun k c k1 u=>by
  simp (disch:=omega) only [pz,Zdg,eA,(hf k (by omega) k1).1]) with ⟨k,c,k1,hk,hj,e⟩|⟨hj,e⟩
 ·have d:=dn k (by omega) k1 hj
  have g:loop (Zdg a) a.Columns=some k:=e.trans (Zc (by simp (disch:=omega) only [pz,Zdg,eA,(hf k (by omega) k1).1]))
  have l:loop (ZbJ a) a.Columns=some k:=d.trans (Zc (by simp (disch:=omega) only [pz,ZbJ,eA,(hf k (by omega) k1).2]))
  exact ⟨k,by simp (disch:=omega) only [pz,eA,o,g],by simp (disch:=omega) only [pz,eA,p,l],by omega,by omega⟩
 ·have d:=dn 0 (by omega) (by omega) hj
  have g:loop (Zdg a) a.Columns=some 0:=e.trans (Zc (by simp (disch:=omega) only [pz,Zdg]))
  have l:loop (ZbJ a) a.Columns=some 0:=d.trans (Zc (by simp (disch:=omega) only [pz,ZbJ]))
  exact ⟨0,by simp (disch:=omega) only [pz,eA,o,g],by simp (disch:=omega) only [pz,eA,p,l],by omega,by omega⟩
end Go.Proofs.YtghbgeaammnkcaaGreatDoor
