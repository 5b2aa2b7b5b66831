import Derived.Test.YtghbgeaammnkcaaGreatDoorVcLib
import Derived.Below
namespace Go.Vc
set_option linter.unusedVariables false
set_option linter.unusedSimpArgs false
open Go
theorem ExtBut.mono {B B':Nat→Prop} {a b:Heap} (h:ExtBut B a b) (hB:∀ x,B x→B' x):ExtBut B' a b:=⟨h.1,fun x c e=>h.2 x c fun hh=>e (hB x hh)⟩
theorem ExtBut.ext {B:Nat→Prop} {c a b:Heap} (h:ExtBut B a b) (h0a:ExtH c a) (hB:∀ x,B x→c.size≤x):ExtH c b:=
 ⟨Nat.le_trans h0a.1 h.1,fun x e=>(h.2 x (Nat.lt_of_lt_of_le e h0a.1) fun f=>by have:=hB x f;omega).trans (h0a.2 x e)⟩
theorem Ztm {h h':Heap} {p:Addr} (a:h'[p.block]?=h[p.block]?):hcell h' p=hcell h p:=by unfold hcell;rw [a]
theorem Zdy {B:Nat→Prop} {h h':Heap} {p:Addr} {u:Value} (b:ExtBut B h h') (hp:¬ B p.block) (a:hcell h p=some u):hcell h' p=some u:=by
 rw [Ztm (b.2 p.block (ZdQ a) hp)];exact a
def world (h:Heap):World:=⟨h,fun _ _=>0,0,default,#[]⟩
theorem Zwa {h:Heap} {p:Addr} {u v:Value} (a:hcell h p=some u):hcell (hset h p v) p=some v:=
 World.cell?_setCell_same (world h) p v a
theorem ZzM {h:Heap} {p q:Addr} {v:Value} (hne:p≠q):hcell (hset h p v) q=hcell h q:=
 World.cell?_setCell_other (world h) p q v hne
theorem ZCq {h:Heap} {p:Addr} {v:Value}:(hset h p v).size=h.size:=World.size_setCell (world h) p v
theorem ZEx {h:Heap} {p:Addr} {v:Value} {b:Nat} (a:b≠p.block):(hset h p v)[b]?=h[b]?:=Go.RowKit.Below.heap_setCell (world h) p v b a
theorem Zys {h:Heap} {p q:Addr} {v:Value}:hfroz (hset h p v) q=hfroz h q:=by
 unfold hfroz hset
 rw [Array.getElem?_modify]
 by_cases a:p.block=q.block
 ·rw [if_pos a]
  cases h[q.block]? with
  | none=>rfl
  | some o=>cases o<;>rfl
 ·rw [if_neg a]
theorem ExtBut.hset (h:Heap) (p:Addr) (v:Value):ExtBut (·=p.block) h (hset h p v):=⟨by rw [ZCq];exact Nat.le_refl _,fun b _ a=>ZEx a⟩
def Wr (h:Heap) (p:Addr):Prop:=(∃ u,hcell h p=some u)∧hfroz h p=false
theorem Wr.hset {h:Heap} {p q:Addr} {v:Value} (a:Wr h q):Wr (hset h p v) q:=by
 obtain ⟨⟨u,hu⟩,hf⟩:=a
 refine ⟨?_,by rw [Zys];exact hf⟩
 by_cases hpq:p=q
 ·subst hpq;exact ⟨v,Zwa hu⟩
 ·exact ⟨u,by rw [ZzM hpq];exact hu⟩
theorem Wr.but {B:Nat→Prop} {h h':Heap} {p:Addr} (a:ExtBut B h h') (hp:¬ B p.block) (hw:Wr h p):Wr h' p:=by
 obtain ⟨⟨u,hu⟩,hf⟩:=hw
 have b:=a.2 p.block (ZdQ hu) hp
 exact ⟨⟨u,Zdy a hp hu⟩,by unfold hfroz at hf ⊢;rw [b];exact hf⟩
theorem Wr.ext {h h':Heap} {p:Addr} (a:ExtH h h') (hw:Wr h p):Wr h' p:=Wr.but (B:=fun _=>False) (eZ a) (fun h=>h) hw
theorem ZzD {h:Heap} {p:Addr} {v:Value} {K:Heap→Prop} (hw:Wr h p) (a:v.oneCell'=true) (hk:K (hset h p v)):vStore1 h p v K:=⟨a,hw.1,hw.2,hk⟩
def RowAt (h:Heap) (b off:Nat) (cs:List Value):Prop:=∃ arr t,h[b]?=some (.cells arr t)∧∀ j u,cs[j]?=some u→arr[off+j]?=some u
theorem Zar (b off j:Nat):(⟨b,off,none⟩:Addr).add j=⟨b,off+j,none⟩:=by
 unfold Addr.add
 by_cases hj:j=0
 ·subst hj;rfl
 ·rw [if_neg hj]
theorem RowAt.cell {h:Heap} {b off:Nat} {cs:List Value} (hr:RowAt h b off cs) {j:Nat} {u:Value} (hu:cs[j]?=some u):hcell h ⟨b,off+j,none⟩=some u:=by
 obtain ⟨arr,t,a,c⟩:=hr
 unfold hcell;rw [a];exact c j u hu
theorem RowAt.wr {h:Heap} {b off:Nat} {cs:List Value} (hr:RowAt h b off cs) {j:Nat} (hj:j<cs.length):Wr h ⟨b,off+j,none⟩:=by
 obtain ⟨u,hu⟩:=ZcD hj
 refine ⟨⟨u,hr.cell hu⟩,?_⟩
 obtain ⟨arr,t,a,c⟩:=hr
 unfold hfroz;rw [a]
 simp
theorem RowAt.lt {h:Heap} {b off:Nat} {cs:List Value} (hr:RowAt h b off cs):b<h.size:=by
 obtain ⟨arr,t,a,_⟩:=hr
 rcases Nat.lt_or_ge b h.size with h'|h'
 ·exact h'
 ·rw [Array.getElem?_eq_none h'] at a;cases a
theorem RowAt.but {B:Nat→Prop} {h h':Heap} {b off:Nat} {cs:List Value} (hr:RowAt h b off cs) (a:ExtBut B h h') (c:¬ B b):RowAt h' b off cs:=by
 have hl:=hr.lt
 obtain ⟨arr,t,e,f⟩:=hr
 exact ⟨arr,t,by rw [a.2 b hl c];exact e,f⟩
theorem RowAt.ext {h h':Heap} {b off:Nat} {cs:List Value} (hr:RowAt h b off cs) (a:ExtH h h'):RowAt h' b off cs:=hr.but (B:=fun _=>False) (eZ a) (fun h=>h)
theorem RowAt.push (h:Heap) (cs:List Value) (t:TypeId):RowAt (h.push (.cells cs.toArray t)) h.size 0 cs:=by
 refine ⟨cs.toArray,t,by simp,fun j u hu=>?_⟩
 simpa using hu
theorem RowAt.set {h:Heap} {b off:Nat} {cs:List Value} (hr:RowAt h b off cs) {j:Nat} (hj:j<cs.length) (v:Value):RowAt (hset h ⟨b,off+j,none⟩ v) b off (cs.set j v):=by
 obtain ⟨arr,t,e,a⟩:=hr
 refine ⟨arr.setIfInBounds (off+j) v,t,?_,fun i u hu=>?_⟩
 ·unfold hset
  rw [Array.getElem?_modify,if_pos rfl,e]
  simp
 ·rw [List.getElem?_set] at hu
  by_cases hij:j=i
  ·subst hij
   rw [if_pos rfl,if_pos hj] at hu
   cases hu
   obtain ⟨f,c⟩:=ZcD hj
   have:=a j f c
   have hlt:off+j<arr.size:=by
    rcases Nat.lt_or_ge (off+j) arr.size with h'|h'
    ·exact h'
    ·rw [Array.getElem?_eq_none h'] at this;cases this
   simp [hlt]
  ·rw [if_neg hij] at hu
   rw [Array.getElem?_setIfInBounds_ne (by omega)]
   exact a i u hu
def CapAt (h:Heap) (b n:Nat):Prop:=∃ arr t,h[b]?=some (.cells arr t)∧n≤arr.size
theorem CapAt.but {B:Nat→Prop} {h h':Heap} {b n:Nat} (hr:CapAt h b n) (c:ExtBut B h h') (e:¬ B b):CapAt h' b n:=by
 obtain ⟨arr,t,a,f⟩:=hr
 have hl:b<h.size:=by
  rcases Nat.lt_or_ge b h.size with h'|h'
  ·exact h'
  ·rw [Array.getElem?_eq_none h'] at a;cases a
 exact ⟨arr,t,by rw [c.2 b hl e];exact a,f⟩
theorem CapAt.ext {h h':Heap} {b n:Nat} (hr:CapAt h b n) (a:ExtH h h'):CapAt h' b n:=hr.but (B:=fun _=>False) (eZ a) (fun h=>h)
theorem CapAt.hset {h:Heap} {b n:Nat} (hr:CapAt h b n) (p:Addr) (v:Value):CapAt (hset h p v) b n:=by
 obtain ⟨arr,t,a,c⟩:=hr
 unfold Vc.hset
 rw [CapAt,Array.getElem?_modify]
 by_cases hp:p.block=b
 ·rw [if_pos hp,a]
  refine ⟨if p.spot.isSome then arr else arr.setIfInBounds p.off v,t,rfl,?_⟩
  split<;>simpa using c
 ·rw [if_neg hp];exact ⟨arr,t,a,c⟩
theorem CapAt.wr {h:Heap} {b n j:Nat} (hr:CapAt h b n) (hj:j<n):Wr h ⟨b,j,none⟩:=by
 obtain ⟨arr,t,a,c⟩:=hr
 have hlt:j<arr.size:=by omega
 refine ⟨⟨arr[j],?_⟩,?_⟩
 ·unfold hcell;rw [a];simp [hlt]
 ·unfold hfroz;rw [a];simp
def OwnSl (h:Heap) (v:Value) (b:Nat) (cs:List Value):Prop:=
 ∃ off c,v=.slice (some ⟨b,off,none⟩) cs.length c∧cs.length≤c∧RowAt h b off cs∧CapAt h b (off+c)
theorem OwnSl.ext {h h':Heap} {v:Value} {b:Nat} {cs:List Value} (ho:OwnSl h v b cs) (a:ExtH h h'):OwnSl h' v b cs:=by
 obtain ⟨off,c,e,f,g,i⟩:=ho;exact ⟨off,c,e,f,g.ext a,i.ext a⟩
theorem OwnSl.but {B:Nat→Prop} {h h':Heap} {v:Value} {b:Nat} {cs:List Value} (ho:OwnSl h v b cs) (a:ExtBut B h h') (e:¬ B b):OwnSl h' v b cs:=by
 obtain ⟨off,c,f,g,i,j⟩:=ho;exact ⟨off,c,f,g,i.but a e,j.but a e⟩
theorem OwnSl.lt {h:Heap} {v:Value} {b:Nat} {cs:List Value} (ho:OwnSl h v b cs):b<h.size:=by
 obtain ⟨off,c,_,_,a,_⟩:=ho;exact a.lt
theorem OwnSl.vLen {h:Heap} {v:Value} {b:Nat} {cs:List Value} (ho:OwnSl h v b cs) {K:Nat→Prop} (hk:K cs.length):vLen v K:=by
 obtain ⟨off,c,rfl,_,_,_⟩:=ho;exact hk
theorem OwnSl.sl {α:Type} {E:Elem α} {h:Heap} {v:Value} {b:Nat} {xs:List α} {f:α→Value} (ho:OwnSl h v b (xs.map f)) (hE:∀ x∈xs,E h [f x] x):SlAt 1 E h v xs:=by
 obtain ⟨off,c,rfl,a,e,_⟩:=ho
 refine .inr ⟨⟨b,off,none⟩,c,by simp,by simpa using a,fun i x hi=>⟨[f x],rfl,fun j u hu=>?_,hE x (List.mem_of_getElem? hi)⟩⟩
 cases j with
 | zero=>
  simp at hu;subst hu
  rw [Zar,Zar]
  simpa using e.cell (j:=i) (by rw [List.getElem?_map,hi];rfl)
 | succ j=>simp at hu
theorem OwnSl.one {h:Heap} {v:Value} {b:Nat} {cs:List Value} (ho:OwnSl h v b cs):v.oneCell'=true:=by
 obtain ⟨off,c,rfl,_⟩:=ho;rfl
theorem Zt {v:Value} {A:Unit→Prop} (h:v.oneCell'=true) (ha:A ()):vOne v A:=by unfold vOne;rw [h];exact ha
theorem ZcC {C:Ctx} {g:Nat} {A:Unit→Prop} (h:C.okf g=true) (ha:A ()):vOkf C g A:=by unfold vOkf;rw [h];exact ha
def OwnO (h:Heap) (v:Value) (ob:Option Nat) (cs:List Value):Prop:=
 match ob with
 | none=>v=.slice none 0 0∧cs=[]
 | some b=>OwnSl h v b cs
theorem OwnO.ext {h h':Heap} {v:Value} {ob:Option Nat} {cs:List Value} (ho:OwnO h v ob cs) (a:ExtH h h'):OwnO h' v ob cs:=by
 cases ob with
 | none=>exact ho
 | some b=>exact OwnSl.ext ho a
theorem OwnO.but {B:Nat→Prop} {h h':Heap} {v:Value} {ob:Option Nat} {cs:List Value} (ho:OwnO h v ob cs) (a:ExtBut B h h') (c:∀ b,ob=some b→¬ B b):OwnO h' v ob cs:=by
 cases ob with
 | none=>exact ho
 | some b=>exact OwnSl.but ho a (c b rfl)
theorem OwnO.one {h:Heap} {v:Value} {ob:Option Nat} {cs:List Value} (ho:OwnO h v ob cs):v.oneCell'=true:=by
 cases ob with
 | none=>obtain ⟨rfl,_⟩:=ho;rfl
 | some b=>exact OwnSl.one ho
theorem OwnO.vLen {h:Heap} {v:Value} {ob:Option Nat} {cs:List Value} (ho:OwnO h v ob cs) {K:Nat→Prop} (hk:K cs.length):vLen v K:=by
 cases ob with
 | none=>obtain ⟨rfl,rfl⟩:=ho;exact hk
 | some b=>exact OwnSl.vLen ho hk
theorem OwnO.sl {α:Type} {E:Elem α} {h:Heap} {v:Value} {ob:Option Nat} {xs:List α} {f:α→Value} (ho:OwnO h v ob (xs.map f)) (hE:∀ x∈xs,E h [f x] x):SlAt 1 E h v xs:=by
 cases ob with
 | none=>obtain ⟨a,c⟩:=ho;exact .inl ⟨a,by simpa using c⟩
 | some b=>exact OwnSl.sl ho hE
theorem OwnO.lt {h:Heap} {v:Value} {b:Nat} {cs:List Value} (ho:OwnO h v (some b) cs):b<h.size:=OwnSl.lt ho
def AllC {α:Type} (z:Nat) (E:Elem α) (h:Heap):List (List Value)→List α→Prop
 | [],[]=>True
 | c::cs,x::xs=>c.length=z∧E h c x∧AllC z E h cs xs
 | _,_=>False
theorem AllC.ext {α:Type} {z:Nat} {E:Elem α} (hE:Mono E) {h h':Heap} (a:ExtH h h'):∀ {css:List (List Value)} {xs:List α},AllC z E h css xs→AllC z E h' css xs
 | [],[],_=>trivial
 | [],_::_,h=>h.elim
 | _::_,[],h=>h.elim
 | _::_,_::_,⟨b,c,e⟩=>⟨b,hE _ _ _ _ a c,AllC.ext hE a e⟩
end Go.Vc
