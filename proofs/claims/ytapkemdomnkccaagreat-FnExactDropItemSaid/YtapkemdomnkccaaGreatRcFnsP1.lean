/- Each call computes its plain function: printed by pgen.py. -/
import Derived.Test.YtapkemdomnkccaaGreatPuFns
import Derived.Test.YtapkemdomnkccaaGreatVcFns
import Derived.Test.YtapkemdomnkccaaGreatVcFld
import Derived.Test.YtapkemdomnkccaaGreatVcCl
import Derived.Test.YtapkemdomnkccaaGreatVcSortI
import Derived.Test.YtapkemdomnkccaaGreatVcLay
namespace Go.Proofs.YtapkemdomnkccaaGreat
open Go Go.Vc
set_option linter.unusedVariables false
set_option linter.unusedSimpArgs false
def ZnP : El ZZ := El.iso (El.pair eI (El.pair eI (El.sl eL))) (fun x => (x.Kind, x.Size, x.Rows)) (ZZ.mk (0 : Int) (0 : Int) ([] : List (List Int))) rfl
def Zw5 : El ZwV := El.iso (El.pair El.str (El.pair ZnP El.str)) (fun x => (x.Name, x.Object, x.Key)) (ZwV.mk (⟨#[]⟩ : ByteArray) (ZZ.mk (0 : Int) (0 : Int) ([] : List (List Int))) (⟨#[]⟩ : ByteArray)) rfl
theorem Zza {φ : CM} {L : Rws} {cs : List Value} {x : ZwV} (h : Zw5.R φ L cs x) : ∃ v3 : Value, cs = [.string x.Name, .int .i64 x.Object.Kind, .int .i64 x.Object.Size, v3, .string x.Key] ∧ SlC φ eL v3 x.Object.Rows := by
  obtain ⟨_, _, _, _, rfl, _, a1_0, b1_0⟩ := h
  obtain ⟨_, rfl⟩ := a1_0
  obtain ⟨_, _, _, _, rfl, _, a1_1, b1_1⟩ := b1_0
  obtain ⟨_, _, _, _, rfl, _, a3_0, b3_0⟩ := a1_1
  obtain ⟨_, rfl⟩ := a3_0
  obtain ⟨_, _, _, _, rfl, _, a3_1, b3_1⟩ := b3_0
  obtain ⟨_, rfl⟩ := a3_1
  obtain ⟨_, w6, rfl, g6⟩ := b3_1
  obtain ⟨_, rfl⟩ := b1_1
  exact ⟨w6, rfl, g6⟩
def Zy6 : El ZwT := El.iso (El.sl Zw5) (fun x => (x.Items)) (ZwT.mk ([] : List ZwV)) rfl
theorem ZzR {φ : CM} {L : Rws} {cs : List Value} {x : ZwT} (h : Zy6.R φ L cs x) : ∃ v0 : Value, cs = [v0] ∧ SlC φ Zw5 v0 x.Items := by
  obtain ⟨_, w2, rfl, g2⟩ := h
  exact ⟨w2, rfl, g2⟩
def Zy0 : El Zx := El.iso (El.pair eI (El.pair eI (El.ow oL))) (fun x => (x.Kind, x.Size, x.Rows)) (Zx.mk (0 : Int) (0 : Int) ([] : List (List Int))) rfl
def Zy5 : El Zx := El.iso (El.pair eI (El.pair eI (El.sl eL))) (fun x => (x.Kind, x.Size, x.Rows)) (Zx.mk (0 : Int) (0 : Int) ([] : List (List Int))) rfl
theorem frzo_T_impl_Object : Frz Zy0 Zy5 := Zt2 (Zvl (Za _) (Zvl (Za _) (Ze (Ze (Za _)))))
theorem frzf_T_impl_Object : Frz Zy5 Zy5 := Zt2 (Zvl (Za _) (Zvl (Za _) (ZN _)))
def ZwW : El ZwR := El.iso (El.pair El.str (El.pair Zy0 El.str)) (fun x => (x.Name, x.Object, x.Key)) (ZwR.mk (⟨#[]⟩ : ByteArray) (Zx.mk (0 : Int) (0 : Int) ([] : List (List Int))) (⟨#[]⟩ : ByteArray)) rfl
def ZwU : El ZwR := El.iso (El.pair El.str (El.pair Zy5 El.str)) (fun x => (x.Name, x.Object, x.Key)) (ZwR.mk (⟨#[]⟩ : ByteArray) (Zx.mk (0 : Int) (0 : Int) ([] : List (List Int))) (⟨#[]⟩ : ByteArray)) rfl
theorem frzo_T_impl_Item : Frz ZwW ZwU := Zt2 (Zvl ZwX (Zvl frzo_T_impl_Object ZwX))
theorem frzf_T_impl_Item : Frz ZwU ZwU := Zt2 (Zvl ZwX (Zvl frzf_T_impl_Object ZwX))
theorem pko_T_impl_Item {ψ : CM} {h0 h : Heap} {os : List Ob} {x0 : ByteArray} {x1 : Int} {x2 : Int} {x3 : List (List Int)} {v3 : Value} {x4 : ByteArray} (st : S ψ h0 h (.it (El.ow oL) [v3] x3 :: os)) : S ψ h0 h (.it ZwW [.string x0, .int .i64 x1, .int .i64 x2, v3, .string x4] (ZwR.mk x0 (Zx.mk x1 x2 x3) x4) :: os) := by
  obtain ⟨φ, M0, s, L3, M1, rfl, a3, r⟩ := st
  exact ⟨φ, _, s, ([] ++ (([] ++ ([] ++ L3)) ++ [])), M1, by simp, (Zx4 Zzl (Zx4 (Zx4 Zzd (Zx4 Zzd a3)) Zzl)), r⟩
theorem pkf_T_impl_Item {ψ : CM} {h0 h : Heap} {os : List Ob} {x0 : ByteArray} {x1 : Int} {x2 : Int} {x3 : List (List Int)} {v3 : Value} {x4 : ByteArray} (st : S ψ h0 h (.it (El.sl eL) [v3] x3 :: os)) : S ψ h0 h (.it ZwU [.string x0, .int .i64 x1, .int .i64 x2, v3, .string x4] (ZwR.mk x0 (Zx.mk x1 x2 x3) x4) :: os) := by
  obtain ⟨φ, M0, s, L3, M1, rfl, a3, r⟩ := st
  exact ⟨φ, _, s, ([] ++ (([] ++ ([] ++ L3)) ++ [])), M1, by simp, (Zx4 Zzl (Zx4 (Zx4 Zzd (Zx4 Zzd a3)) Zzl)), r⟩
theorem ZwY {φ : CM} {L : Rws} {cs : List Value} {x : ZwR} (h : ZwU.R φ L cs x) : ∃ v3 : Value, cs = [.string x.Name, .int .i64 x.Object.Kind, .int .i64 x.Object.Size, v3, .string x.Key] ∧ SlC φ eL v3 x.Object.Rows := by
  obtain ⟨_, _, _, _, rfl, _, a1_0, b1_0⟩ := h
  obtain ⟨_, rfl⟩ := a1_0
  obtain ⟨_, _, _, _, rfl, _, a1_1, b1_1⟩ := b1_0
  obtain ⟨_, _, _, _, rfl, _, a3_0, b3_0⟩ := a1_1
  obtain ⟨_, rfl⟩ := a3_0
  obtain ⟨_, _, _, _, rfl, _, a3_1, b3_1⟩ := b3_0
  obtain ⟨_, rfl⟩ := a3_1
  obtain ⟨_, w6, rfl, g6⟩ := b3_1
  obtain ⟨_, rfl⟩ := b1_1
  exact ⟨w6, rfl, g6⟩
def ZB : El Zg := El.iso (El.pair eI eI) (fun x => (x.A, x.B)) (Zg.mk (0 : Int) (0 : Int)) rfl
theorem frzf_T_impl_Edge : Frz ZB ZB := Zt2 (Zvl (Za _) (Za _))
theorem ZbA {φ : CM} {L : Rws} {cs : List Value} {x : Zg} (h : ZB.R φ L cs x) : cs = [.int .i64 x.A, .int .i64 x.B] := by
  obtain ⟨_, _, _, _, rfl, _, a1_0, b1_0⟩ := h
  obtain ⟨_, rfl⟩ := a1_0
  obtain ⟨_, rfl⟩ := b1_0
  rfl
abbrev zR (f : FuncId) (a : Array Value) (h : Heap) (ψ : CM) (u : Value) : Prop := CallsH P f a h fun v h' => v = u ∧ S ψ h h' []
abbrev zL {α : Type} (f : FuncId) (a : Array Value) (h : Heap) (ψ : CM) (E : El α) (r : List α) : Prop := CallsH P f a h fun v h' => ∃ w0 : Value, v = w0 ∧ S ψ h h' [.it (El.ow E) [w0] r]
section
variable {ψ : CM} {h : Heap} (hψ : CLe ψ (hcell h))
include hψ
theorem ZqR {a0 v0 left1 r} (hp : Zb7 a0 left1 = some r) (f0 : SlC (hcell h) eI v0 a0) : zR Zji #[v0, .int .i64 left1] h ψ (.int .i64 r) := by
 apply ZtE
 rw [Zb7] at hp
 have st := S.start hψ
 refine vL f0 st.le ?_
 exact brQ hp (fun hp => tZ) fun hp => tZ
theorem ZwL {a0 v0 left1 r} (hp : Zfv a0 left1 = some r) (f0 : SlC (hcell h) eL v0 a0) : zR Zjm #[v0, .int .i64 left1] h ψ (.int .i64 r) := by
 apply ZvA
 rw [Zfv] at hp
 have st := S.start hψ
 refine vL f0 st.le ?_
 refine brQ hp (fun hp => tZ) fun hp => ?_
 refine lp2 hp (nlS st) fun m left1_2 i5 h_2 a st hp hs => ?_
 rw [Zge] at hp
 refine vL f0 st.le ?_
 refine brR hp (fun hp => tZ) fun hp => ?_
 refine ixV f0 st.le hp fun e20 u21 f hp => ?_
 refine cl0 hp st (fun s _ _ hx_2 => ZqR s.fle hx_2 (f.mono st.le)) fun r23 h_3 st hp => ⟨_, rfl, ?_⟩
 exact brQ hp (fun hp => tZ) fun hp => tZ
theorem ZtR {a0 v0_2 left1 r} (hp : Zgf a0 left1 = some r) (f0_2 : SlC (hcell h) eL v0_2 a0.Rows) : zR Zi7 #[.agg #[.int .i64 a0.Kind, .int .i64 a0.Size, v0_2], .int .i64 left1] h ψ (.int .i64 r) := by
 apply ZoU
 rw [Zgf] at hp
 have st := S.start hψ
 refine new_S st fun b2 h_2 st => ?_
 refine bV st 0 2 ?_
 refine cl0 hp st (fun s _ _ hx => ZwL s.fle hx (f0_2.mono st.le)) fun r8 h_3 st hp => ⟨_, rfl, ?_⟩
 exact brQ hp (fun hp => tZ) fun hp => tZ
theorem ZzY {a0 v0_3 left1 r} (hp : Zxd a0 left1 = some r) (f0_3 : SlC (hcell h) eL v0_3 a0.Object.Rows) : zR Zyr #[.agg #[.string a0.Name, .int .i64 a0.Object.Kind, .int .i64 a0.Object.Size, v0_3, .string a0.Key], .int .i64 left1] h ψ (.int .i64 r) := by
 apply ZAE
 rw [Zxd] at hp
 have st := S.start hψ
 refine new_S st fun b2 h_2 st => ?_
 refine bS st 0 0 ?_
 refine brQ hp (fun hp => tZ) fun hp => ?_
 refine bI st 0 1 ?_
 refine bI st 0 2 ?_
 refine bV st 0 3 ?_
 refine cl0 hp st (fun s _ _ hx => ZtR s.fle hx (f0_3.mono st.le)) fun r15 h_3 st hp => ⟨_, rfl, ?_⟩
 refine brQ hp (fun hp => tZ) fun hp => ?_
 refine bS st 0 4 ?_
 exact brQ hp (fun hp => tZ) fun hp => tZ
theorem ZAi {a0 v0 left1 r} (hp : ZxK a0 left1 = some r) (f0 : SlC (hcell h) Zw5 v0 a0) : zR Zyi #[v0, .int .i64 left1] h ψ (.int .i64 r) := by
 apply ZAr
 rw [ZxK] at hp
 have st := S.start hψ
 refine vL f0 st.le ?_
 refine brQ hp (fun hp => tZ) fun hp => ?_
 refine lp2 hp (nlS st) fun m left1_2 i5 h_2 a st hp hs => ?_
 rw [ZxV] at hp
 refine vL f0 st.le ?_
 refine brR hp (fun hp => tZ) fun hp => ?_
 refine ixA (f0.mono st.le) hp fun e20 p20 ad hx hp => ?_
 obtain ⟨cs, ck, hr⟩ := f0.cells ad hx rfl
 obtain ⟨v_2, rfl, f⟩ := Zza hr
 refine kS ck st.le 0 ?_
 refine kI ck st.le 1 ?_
 refine kI ck st.le 2 ?_
 refine kV ck st.le 3 ?_
 refine kS ck st.le 4 ?_
 refine cl0 hp st (fun s _ _ hx_2 => ZzY s.fle hx_2 (f.mono st.le)) fun r23 h_3 st hp => ⟨_, rfl, ?_⟩
 exact brQ hp (fun hp => tZ) fun hp => tZ
theorem ZzT {a0 v0_0 left1 r} (hp : ZxQ a0 left1 = some r) (f0_0 : SlC (hcell h) Zw5 v0_0 a0.Items) : zR Zyu #[.agg #[v0_0], .int .i64 left1] h ψ (.int .i64 r) := by
 apply ZzS
 rw [ZxQ] at hp
 have st := S.start hψ
 refine new_S st fun b2 h_2 st => ?_
 refine bV st 0 0 ?_
 refine cl0 hp st (fun s _ _ hx => ZAi s.fle hx (f0_0.mono st.le)) fun r8 h_3 st hp => ⟨_, rfl, ?_⟩
 exact brQ hp (fun hp => tZ) fun hp => tZ
theorem ZtJ {a0 v0 r} (hp : Zc2 a0 = some r) (f0 : SlC (hcell h) eI v0 a0) : zL Zlm #[v0] h ψ eI r := by
 apply ZrE
 rw [Zc2] at hp
 have st := S.start hψ
 refine vL f0 st.le ?_
 obtain ⟨l7, hx, hp⟩ := obind hp
 refine Zaz (E := eI) st rfl hx fun v7 h_2 st => ?_
 obtain ⟨n_2, hn⟩ := Zy hp
 refine ⟨fun n i4 h_3 => ∃ xs : List Int, S ψ h h_3 [.it oL [v7] xs] ∧ loopN (Zf5 a0) n (i4, xs) = some r, ⟨n_2, _, pk st [0], hn⟩, ?_⟩
 rintro n _ i4 h_3 ⟨xs, st, hn⟩
 obtain ⟨m, a, rfl, hp, hs⟩ := Zw hn
 rw [Zf5] at hp
 refine vL f0 st.le ?_
 refine brQ hp (fun hp => ?_) fun hp => ?_
 ·refine ixI (f0.mono st.le) hp fun e18 hp => ?_
  refine ixA (st.rdL 0 rfl (Za _)) hp fun e20 p20 ad_2 hx_3 hp => ?_
  refine st1_S st 0 rfl ad_2 hx_3 rfl (fun _ => ⟨rfl, rfl⟩) fun h_4 st => ?_
  dsimp only [List.set] at st
  obtain rfl := oI hp
  exact ⟨m, ltS, _, pk st [0], hs⟩
 ·obtain rfl := oI hp
  obtain rfl := oI hs
  exact ⟨v7, rfl, pk st [0]⟩
theorem ZsK {a0 v0 r} (hp : Zdz a0 = some r) (f0 : SlC (hcell h) eL v0 a0) : zL ZlJ #[v0] h ψ oL r := by
 apply Zq0
 rw [Zdz] at hp
 have st := S.start hψ
 refine vL f0 st.le ?_
 obtain ⟨l7, hx, hp⟩ := obind hp
 refine Zaz (E := oL) st rfl hx fun v7 h_2 st => ?_
 obtain ⟨n_2, hn⟩ := Zy hp
 refine ⟨fun n i4 h_3 => ∃ xs : List (List Int), S ψ h h_3 [.it (El.ow oL) [v7] xs] ∧ loopN (ZfD a0) n (i4, xs) = some r, ⟨n_2, _, pk st [0], hn⟩, ?_⟩
 rintro n _ i4 h_3 ⟨xs, st, hn⟩
 obtain ⟨m, a, rfl, hp, hs⟩ := Zw hn
 rw [ZfD] at hp
 refine vL f0 st.le ?_
 refine brQ hp (fun hp => ?_) fun hp => ?_
 ·refine ixV f0 st.le hp fun e18 u19 f hp => ?_
  refine cl1 hp st (fun s _ _ hx_3 => ZtJ s.fle hx_3 (f.mono st.le)) fun r20 v20 h_4 st hp => ⟨_, rfl, ?_⟩
  refine ixA (st.rdL 1 rfl (Ze (Za _))) hp fun e21 p21 ad_2 hx_4 hp => ?_
  refine Zh1 st 0 rfl ad_2 hx_4 rfl fun h_5 st => ?_
  dsimp only [List.set] at st
  obtain rfl := oI hp
  exact ⟨m, ltS, _, pk st [0], hs⟩
 ·obtain rfl := oI hp
  obtain rfl := oI hs
  exact ⟨v7, rfl, pk st [0]⟩
theorem ZgQ {a0 v0_2 r} (hp : ZbO a0 = some r) (f0_2 : SlC (hcell h) eL v0_2 a0.Rows) : CallsH P Zdq #[.agg #[.int .i64 a0.Kind, .int .i64 a0.Size, v0_2]] h (fun v h' => ∃ w0 : Value, v = .agg #[.int .i64 r.Kind, .int .i64 r.Size, w0] ∧ S ψ h h' [.it (El.ow oL) [w0] r.Rows]) := by
 apply ZqI
 rw [ZbO] at hp
 have st := S.start hψ
 refine new_S st fun b1 h_2 st => ?_
 refine new_S st fun b2 h_3 st => ?_
 refine new_S st fun b3 h_4 st => ?_
 refine bI st 2 0 ?_
 refine Zb st 0 rfl rfl rfl rfl fun h_5 st => ?_
 dsimp only [List.set] at st
 refine bI st 2 1 ?_
 refine Zb st 0 rfl rfl rfl rfl fun h_6 st => ?_
 dsimp only [List.set] at st
 refine bV st 2 2 ?_
 refine cl1 hp st (fun s _ _ hx => ZsK s.fle hx (f0_2.mono st.le)) fun r12 v12 h_7 st hp => ⟨_, rfl, ?_⟩
 refine Zb st 1 rfl rfl rfl (st.rdL 0 rfl (Ze (Za _))).one fun h_8 st => ?_
 dsimp only [List.set] at st
 refine bI st 1 0 ?_
 refine bI st 1 1 ?_
 refine bV st 1 2 ?_
 refine Zb st 2 rfl rfl rfl rfl fun h_9 st => ?_
 refine Zb st 2 rfl rfl rfl rfl fun h_10 st => ?_
 refine Zb st 2 rfl rfl rfl (st.rdL 0 rfl (Ze (Za _))).one fun h_11 st => ?_
 dsimp only [List.set] at st
 refine bI st 2 0 ?_
 refine bI st 2 1 ?_
 refine bV st 2 2 ?_
 obtain rfl := oI hp
 exact ⟨v12, rfl, pk st [0]⟩
theorem ZzK {a0 v0_3 r} (hp : Zxl a0 = some r) (f0_3 : SlC (hcell h) eL v0_3 a0.Object.Rows) : CallsH P ZyN #[.agg #[.string a0.Name, .int .i64 a0.Object.Kind, .int .i64 a0.Object.Size, v0_3, .string a0.Key]] h (fun v h' => ∃ w0 : Value, v = .agg #[.string r.Name, .int .i64 r.Object.Kind, .int .i64 r.Object.Size, w0, .string r.Key] ∧ S ψ h h' [.it (El.ow oL) [w0] r.Object.Rows]) := by
 apply ZzG
 rw [Zxl] at hp
 have st := S.start hψ
 refine new_S st fun b1 h_2 st => ?_
 refine new_S st fun b2 h_3 st => ?_
 refine new_S st fun b3 h_4 st => ?_
 refine bS st 2 0 ?_
 refine Zb st 0 rfl rfl rfl rfl fun h_5 st => ?_
 dsimp only [List.set] at st
 refine bI st 2 1 ?_
 refine bI st 2 2 ?_
 refine bV st 2 3 ?_
 refine cl1 hp st (fun s _ _ hx => ZgQ s.fle hx (f0_3.mono st.le)) fun r9 v9 h_6 st hp => ⟨_, _, _, rfl, ?_⟩
 refine Zb st 1 rfl rfl rfl rfl fun h_7 st => ?_
 refine Zb st 1 rfl rfl rfl rfl fun h_8 st => ?_
 refine Zb st 1 rfl rfl rfl (st.rdL 0 rfl (Ze (Za _))).one fun h_9 st => ?_
 dsimp only [List.set] at st
 refine bS st 3 4 ?_
 refine Zb st 1 rfl rfl rfl rfl fun h_10 st => ?_
 dsimp only [List.set] at st
 refine bS st 1 0 ?_
 refine bI st 1 1 ?_
 refine bI st 1 2 ?_
 refine bV st 1 3 ?_
 refine bS st 1 4 ?_
 refine Zb st 2 rfl rfl rfl rfl fun h_11 st => ?_
 refine Zb st 2 rfl rfl rfl rfl fun h_12 st => ?_
 refine Zb st 2 rfl rfl rfl rfl fun h_13 st => ?_
 refine Zb st 2 rfl rfl rfl (st.rdL 0 rfl (Ze (Za _))).one fun h_14 st => ?_
 refine Zb st 2 rfl rfl rfl rfl fun h_15 st => ?_
 dsimp only [List.set] at st
 refine bS st 2 0 ?_
 refine bI st 2 1 ?_
 refine bI st 2 2 ?_
 refine bV st 2 3 ?_
 refine bS st 2 4 ?_
 obtain rfl := oI hp
 exact ⟨v9, rfl, pk st [0]⟩
theorem Zzu {a0 v0 r} (hp : Zxt a0 = some r) (f0 : SlC (hcell h) Zw5 v0 a0) : zL Zyh #[v0] h ψ ZwW r := by
 apply Zzx
 rw [Zxt] at hp
 have st := S.start hψ
 refine vL f0 st.le ?_
 obtain ⟨l7, hx, hp⟩ := obind hp
 refine Zaz (E := ZwW) st rfl hx fun v7 h_2 st => ?_
 obtain ⟨n_2, hn⟩ := Zy hp
 refine ⟨fun n i4 h_3 => ∃ xs : List ZwR, S ψ h h_3 [.it (El.ow ZwW) [v7] xs] ∧ loopN (ZxA a0) n (i4, xs) = some r, ⟨n_2, _, pk st [0], hn⟩, ?_⟩
 rintro n _ i4 h_3 ⟨xs, st, hn⟩
 obtain ⟨m, a, rfl, hp, hs⟩ := Zw hn
 rw [ZxA] at hp
 refine vL f0 st.le ?_
 refine brQ hp (fun hp => ?_) fun hp => ?_
 ·refine ixA (f0.mono st.le) hp fun e18 p18 ad hx_2 hp => ?_
  obtain ⟨cs, ck, hr⟩ := f0.cells ad hx_2 rfl
  obtain ⟨v_2, rfl, f⟩ := Zza hr
  refine kS ck st.le 0 ?_
  refine kI ck st.le 1 ?_
  refine kI ck st.le 2 ?_
  refine kV ck st.le 3 ?_
  refine kS ck st.le 4 ?_
  refine cl1 hp st (fun s _ _ hx_3 => ZzK s.fle hx_3 (f.mono st.le)) fun r20 v20 h_4 st hp => ⟨_, _, _, _, _, rfl, ?_⟩
  refine ixA (st.rdL 1 rfl frzo_T_impl_Item) hp fun e21 p21 ad_2 hx_4 hp => ?_
  have st := pko_T_impl_Item (x0 := r20.Name) (x1 := r20.Object.Kind) (x2 := r20.Object.Size) (x4 := r20.Key) st
  refine Zq6 st 0 rfl ad_2 hx_4 rfl fun h_5 st => ?_
  dsimp only [List.set] at st
  obtain rfl := oI hp
  exact ⟨m, ltS, _, pk st [0], hs⟩
 ·obtain rfl := oI hp
  obtain rfl := oI hs
  exact ⟨v7, rfl, pk st [0]⟩
theorem Zyf {a0 v0_0 r} (hp : Zw9 a0 = some r) (f0_0 : SlC (hcell h) Zw5 v0_0 a0.Items) : CallsH P Zxw #[.agg #[v0_0]] h (fun v h' => ∃ w0 : Value, v = .agg #[w0] ∧ S ψ h h' [.it (El.ow ZwW) [w0] r.Items]) := by
 apply ZAf
 rw [Zw9] at hp
 have st := S.start hψ
 refine new_S st fun b1 h_2 st => ?_
 refine new_S st fun b2 h_3 st => ?_
 refine new_S st fun b3 h_4 st => ?_
 refine bV st 2 0 ?_
 refine cl1 hp st (fun s _ _ hx => Zzu s.fle hx (f0_0.mono st.le)) fun r6 v6 h_5 st hp => ⟨_, rfl, ?_⟩
 refine Zb st 1 rfl rfl rfl (st.rdL 0 rfl frzo_T_impl_Item).one fun h_6 st => ?_
 dsimp only [List.set] at st
 refine bV st 1 0 ?_
 refine Zb st 2 rfl rfl rfl (st.rdL 0 rfl frzo_T_impl_Item).one fun h_7 st => ?_
 dsimp only [List.set] at st
 refine bV st 2 0 ?_
 obtain rfl := oI hp
 exact ⟨v6, rfl, pk st [0]⟩
theorem Zma {a0 v0 b1 v1 r} (hp : Zb1 a0 b1 = some r) (f0 : SlC (hcell h) eI v0 a0) (f1 : SlC (hcell h) eI v1 b1) : zR ZhK #[v0, v1] h ψ (.bool r) := by
 apply ZtK
 rw [Zb1] at hp
 have st := S.start hψ
 refine vL f0 st.le ?_
 refine vL f1 st.le ?_
 refine brQ hp (fun hp => tZ) fun hp => ?_
 refine lp1 hp (nlS st) fun m i5 h_2 a st hp hs => ?_
 rw [Zem] at hp
 refine vL f0 st.le ?_
 refine brR hp (fun hp => tZ) fun hp => ?_
 refine ixI (f0.mono st.le) hp fun e19 hp => ?_
 refine ixI (f1.mono st.le) hp fun e23 hp => ?_
 exact brQ hp (fun hp => tZ) fun hp => tZ
theorem Zu2 {a0 v0 b1 v1 r} (hp : Zfp a0 b1 = some r) (f0 : SlC (hcell h) eL v0 a0) (f1 : SlC (hcell h) eL v1 b1) : zR Zkh #[v0, v1] h ψ (.bool r) := by
 apply Zp8
 rw [Zfp] at hp
 have st := S.start hψ
 refine vL f0 st.le ?_
 refine vL f1 st.le ?_
 refine brQ hp (fun hp => tZ) fun hp => ?_
 refine lp1 hp (nlS st) fun m i5 h_2 a st hp hs => ?_
 rw [ZfW] at hp
 refine vL f0 st.le ?_
 refine brR hp (fun hp => tZ) fun hp => ?_
 refine ixV f0 st.le hp fun e19 u20 f hp => ?_
 refine ixV f1 st.le hp fun e23 u24 f_2 hp => ?_
 refine cl0 hp st (fun s _ _ hx_3 => Zma s.fle hx_3 (f.mono st.le) (f_2.mono st.le)) fun r25 h_3 st hp => ⟨_, rfl, ?_⟩
 exact brQ hp (fun hp => tZ) fun hp => tZ
theorem Zvm {a0 v0_2 b1 v1_2 r} (hp : Zf0 a0 b1 = some r) (f0_2 : SlC (hcell h) eL v0_2 a0.Rows) (f1_2 : SlC (hcell h) eL v1_2 b1.Rows) : zR ZkB #[.agg #[.int .i64 a0.Kind, .int .i64 a0.Size, v0_2], .agg #[.int .i64 b1.Kind, .int .i64 b1.Size, v1_2]] h ψ (.bool r) := by
 apply ZqE
 rw [Zf0] at hp
 have st := S.start hψ
 refine new_S st fun b2 h_2 st => ?_
 refine new_S st fun b3 h_3 st => ?_
 refine bI st 1 0 ?_
 refine bI st 0 0 ?_
 refine brQ hp (fun hp => tZ) fun hp => ?_
 refine bI st 1 1 ?_
 refine bI st 0 1 ?_
 refine brQ hp (fun hp => tZ) fun hp => ?_
 refine bV st 1 2 ?_
 refine bV st 0 2 ?_
 refine cl0 hp st (fun s _ _ hx => Zu2 s.fle hx (f0_2.mono st.le) (f1_2.mono st.le)) fun r19 h_4 st hp => ⟨_, rfl, ?_⟩
 exact brQ hp (fun hp => tZ) fun hp => tZ
theorem Zzv {a0 v0_3 b1 v1_3 r} (hp : Zxo a0 b1 = some r) (f0_3 : SlC (hcell h) eL v0_3 a0.Object.Rows) (f1_3 : SlC (hcell h) eL v1_3 b1.Object.Rows) : zR Zyt #[.agg #[.string a0.Name, .int .i64 a0.Object.Kind, .int .i64 a0.Object.Size, v0_3, .string a0.Key], .agg #[.string b1.Name, .int .i64 b1.Object.Kind, .int .i64 b1.Object.Size, v1_3, .string b1.Key]] h ψ (.bool r) := by
 apply ZAX
 rw [Zxo] at hp
 have st := S.start hψ
 refine new_S st fun b2 h_2 st => ?_
 refine new_S st fun b3 h_3 st => ?_
 refine bS st 1 0 ?_
 refine bS st 0 0 ?_
 refine brQ hp (fun hp => tZ) fun hp => ?_
 refine bI st 1 1 ?_
 refine bI st 1 2 ?_
 refine bV st 1 3 ?_
 refine bI st 0 1 ?_
 refine bI st 0 2 ?_
 refine bV st 0 3 ?_
 refine cl0 hp st (fun s _ _ hx => Zvm s.fle hx (f0_3.mono st.le) (f1_3.mono st.le)) fun r14 h_4 st hp => ⟨_, rfl, ?_⟩
 refine brQ hp (fun hp => tZ) fun hp => ?_
 refine bS st 1 4 ?_
 refine bS st 0 4 ?_
 exact brQ hp (fun hp => tZ) fun hp => tZ
theorem ZAG {a0 v0 b1 v1 r} (hp : ZxE a0 b1 = some r) (f0 : SlC (hcell h) ZwU v0 a0) (f1 : SlC (hcell h) ZwU v1 b1) : zR ZyL #[v0, v1] h ψ (.bool r) := by
 apply ZzE
 rw [ZxE] at hp
 have st := S.start hψ
 refine vL f0 st.le ?_
 refine vL f1 st.le ?_
 refine brQ hp (fun hp => tZ) fun hp => ?_
 refine lp1 hp (nlS st) fun m i5 h_2 a st hp hs => ?_
 rw [ZxP] at hp
 refine vL f0 st.le ?_
 refine brR hp (fun hp => tZ) fun hp => ?_
 refine ixA (f0.mono st.le) hp fun e19 p19 ad hx hp => ?_
 obtain ⟨cs, ck, hr⟩ := f0.cells ad hx rfl
 obtain ⟨v_2, rfl, f⟩ := ZwY hr
 refine kS ck st.le 0 ?_
 refine kI ck st.le 1 ?_
 refine kI ck st.le 2 ?_
 refine kV ck st.le 3 ?_
 refine kS ck st.le 4 ?_
 refine ixA (f1.mono st.le) hp fun e23 p23 ad_2 hx_2 hp => ?_
 obtain ⟨cs_2, ck_2, hr_2⟩ := f1.cells ad_2 hx_2 rfl
 obtain ⟨v_3, rfl, f_2⟩ := ZwY hr_2
 refine kS ck_2 st.le 0 ?_
 refine kI ck_2 st.le 1 ?_
 refine kI ck_2 st.le 2 ?_
 refine kV ck_2 st.le 3 ?_
 refine kS ck_2 st.le 4 ?_
 refine cl0 hp st (fun s _ _ hx_3 => Zzv s.fle hx_3 (f.mono st.le) (f_2.mono st.le)) fun r25 h_3 st hp => ⟨_, rfl, ?_⟩
 exact brQ hp (fun hp => tZ) fun hp => tZ
theorem ZAd {a0 v0_0 b1 v1_0 r} (hp : ZxR a0 b1 = some r) (f0_0 : SlC (hcell h) ZwU v0_0 a0.Items) (f1_0 : SlC (hcell h) ZwU v1_0 b1.Items) : zR Zyz #[.agg #[v0_0], .agg #[v1_0]] h ψ (.bool r) := by
 apply ZAj
 rw [ZxR] at hp
 have st := S.start hψ
 refine new_S st fun b2 h_2 st => ?_
 refine new_S st fun b3 h_3 st => ?_
 refine bV st 1 0 ?_
 refine bV st 0 0 ?_
 refine cl0 hp st (fun s _ _ hx => ZAG s.fle hx (f0_0.mono st.le) (f1_0.mono st.le)) fun r9 h_4 st hp => ⟨_, rfl, ?_⟩
 exact brQ hp (fun hp => tZ) fun hp => tZ
end
theorem ZoA {ψ : CM} {h0 h : Heap} {os : List Ob} {a0 : List Int} {v0 : Value} {k1 : Int} {r : Int × (List Int)} (hp : ZcS a0 k1 = some r) (st : S ψ h0 h (.it oL [v0] a0 :: os))  : CallsH P ZgJ #[v0, .int .i64 k1] h (fun v h' => v = .int .i64 r.1 ∧ S ψ h0 h' (.it oL [v0] r.2 :: os)) := by
 apply ZuP
 rw [ZcS] at hp
 obtain ⟨n_2, hn⟩ := Zy hp
 refine ⟨fun n k1_2 i5 h_2 => ∃ xs : List Int, S ψ h0 h_2 (.it oL [v0] xs :: os) ∧ loopN (Zel) n (k1_2, i5, xs) = some r, ⟨n_2, _, pkT st 1 [0], hn⟩, ?_⟩
 rintro n _ k1_2 i5 h_2 ⟨xs, st, hn⟩
 obtain ⟨m, a, rfl, hp, hs⟩ := Zw hn
 rw [Zel] at hp
 refine ZC (st.rdL 0 rfl (Za _)) ?_
 refine brQ hp (fun hp => ?_) fun hp => ?_
 ·refine ixA (st.rdL 0 rfl (Za _)) hp fun e15 p15 ad hx hp => ?_
  refine st1_S st 0 rfl ad hx rfl (fun _ => ⟨rfl, rfl⟩) fun h_3 st => ?_
  dsimp only [List.set] at st
  obtain rfl := oI hp
  exact ⟨m, ltS, _, pkT st 1 [0], hs⟩
 ·obtain rfl := oI hp
  obtain rfl := oI hs
  exact ⟨rfl, pkT st 1 [0]⟩
theorem Zs5 {ψ : CM} {h0 h : Heap} {os : List Ob} {a0 : List (List Int)} {v0 : Value} {k1 : Int} {r : Int × (List (List Int))} (hp : Zek a0 k1 = some r) (st : S ψ h0 h (.it (El.ow oL) [v0] a0 :: os))  : CallsH P ZiL #[v0, .int .i64 k1] h (fun v h' => v = .int .i64 r.1 ∧ S ψ h0 h' (.it (El.ow oL) [v0] r.2 :: os)) := by
 apply Ztm
 rw [Zek] at hp
 obtain ⟨n_2, hn⟩ := Zy hp
 refine ⟨fun n k1_2 i5 h_2 => ∃ xs : List (List Int), S ψ h0 h_2 (.it (El.ow oL) [v0] xs :: os) ∧ loopN (Zgr) n (k1_2, i5, xs) = some r, ⟨n_2, _, pkT st 1 [0], hn⟩, ?_⟩
 rintro n _ k1_2 i5 h_2 ⟨xs, st, hn⟩
 obtain ⟨m, a, rfl, hp, hs⟩ := Zw hn
 rw [Zgr] at hp
 refine ZC (st.rdL 0 rfl (Ze (Za _))) ?_
 refine brQ hp (fun hp => ?_) fun hp => ?_
 ·refine ixA (st.rdL 0 rfl (Ze (Za _))) hp fun e14 p14 ad hx hp => ?_
  refine Zct st 0 rfl ad hx fun u15 hd => ?_
  have st := foc_S st 0 rfl hd hx
  dsimp only [List.set] at st
  obtain ⟨r17, hx_2, hp⟩ := obind hp
  obtain ⟨φ, L, s, r_2⟩ := id st
  refine (ZoA hx_2 (s.upS r_2) ).mono fun v_2 h_3 ⟨eq, t⟩ => ⟨_, eq, ?_⟩
  replace st := s.downS t
  clear t s r_2
  have st := unf_S st 0 rfl
  dsimp only [List.set] at st
  obtain rfl := oI hp
  exact ⟨m, ltS, _, pkT st 1 [0], hs⟩
 ·obtain rfl := oI hp
  obtain rfl := oI hs
  exact ⟨rfl, pkT st 1 [0]⟩
section
variable {ψ : CM} {h : Heap} (hψ : CLe ψ (hcell h))
include hψ
theorem Zyb {k0 r} (hp : Zw4 k0 = some r)  : zR Zxx #[.int .i64 k0] h ψ (.string r) := by
 apply ZAp
 rw [Zw4] at hp
 have st := S.start hψ
 refine brQ hp (fun hp => tZ) fun hp => ?_
 refine lp2 hp (nlS st) fun m k0_2 out3 h_2 a st hp hs => ?_
 rw [Zxm] at hp
 refine brQ hp (fun hp => ?_) fun hp => ?_
 ·obtain ⟨_, hx, hp⟩ := obind hp
  refine ⟨Zaa hx, ?_⟩
  refine Zan (E := (El.int .u8)) (css := [[.int .u8 (IntKind.u8.wrap (IntKind.i64.wrap (48 + (Int.tmod k0_2 10))))]]) (xs := ([IntKind.u8.wrap (IntKind.i64.wrap (48 + (Int.tmod k0_2 10)))] : List Int)) st (fun _ => ⟨[], [], rfl, ⟨rfl, rfl⟩, rfl⟩) rfl rfl fun v12 h_3 st => ?_
  obtain ⟨s13, hx_2, hp⟩ := obind hp
  refine b2s_S (st.rdL 0 rfl (Za _)) hx_2 ?_
  obtain ⟨_, hx_3, hp⟩ := obind hp
  refine ⟨Zy4 hx_3, ?_⟩
  obtain ⟨_, hx_4, hp⟩ := obind hp
  refine ⟨Zaa hx_4, ?_⟩
  exact tZ
 ·obtain ⟨_, hx_5, hp⟩ := obind hp
  refine ⟨Zy4 hx_5, ?_⟩
  exact tZ
end
theorem ZAs {ψ : CM} {h0 h : Heap} {os : List Ob} {a0 : List ZwR} {v0 : Value} {k1 : Int} {r : Int × (List ZwR)} (hp : Zx9 a0 k1 = some r) (st : S ψ h0 h (.it (El.ow ZwW) [v0] a0 :: os))  : CallsH P Zyy #[v0, .int .i64 k1] h (fun v h' => v = .int .i64 r.1 ∧ S ψ h0 h' (.it (El.ow ZwW) [v0] r.2 :: os)) := by
 apply ZAS
 rw [Zx9] at hp
 obtain ⟨n_2, hn⟩ := Zy hp
 refine ⟨fun n k1_2 i5 h_2 => ∃ xs : List ZwR, S ψ h0 h_2 (.it (El.ow ZwW) [v0] xs :: os) ∧ loopN (Zxe) n (k1_2, i5, xs) = some r, ⟨n_2, _, pkT st 1 [0], hn⟩, ?_⟩
 rintro n _ k1_2 i5 h_2 ⟨xs, st, hn⟩
 obtain ⟨m, a, rfl, hp, hs⟩ := Zw hn
 rw [Zxe] at hp
 refine ZC (st.rdL 0 rfl frzo_T_impl_Item) ?_
 refine brQ hp (fun hp => ?_) fun hp => ?_
 ·refine cl0 hp st (fun s _ _ hx => Zyb s.fle hx) fun r15 h_3 st hp => ⟨_, rfl, ?_⟩
  refine ixA (st.rdL 0 rfl frzo_T_impl_Item) hp fun e16 p16 ad hx_2 hp => ?_
  refine stF_S (off := 0) st 0 rfl ad (fun b o e => by subst e; first | rfl | simp [Z1]) rfl hx_2 (ZnE (ub := fun x => (ZwR.mk r15 x.Object x.Key)) (fld_l Zy1) (fun _ => rfl)) fun h_4 st => ?_
  dsimp only [List.set] at st
  refine ixA (st.rdL 0 rfl frzo_T_impl_Item) hp fun e23 p23 ad_2 hx_3 hp => ?_
  refine stF_S (off := 1) st 0 rfl ad_2 (fun b o e => by subst e; first | rfl | simp [Z1]) rfl hx_3 (ZnE (ub := fun x => (ZwR.mk x.Name (Zx.mk (IntKind.i64.wrap (k1_2 + 1)) x.Object.Size x.Object.Rows) x.Key)) (fld_r (off := 0) (fld_l (ZnE (ub := fun x => (Zx.mk (IntKind.i64.wrap (k1_2 + 1)) x.Size x.Rows)) (fld_l Zl5) (fun _ => rfl))) rfl) (fun _ => rfl)) fun h_5 st => ?_
  dsimp only [List.set] at st
  refine ixA (st.rdL 0 rfl frzo_T_impl_Item) hp fun e31 p31 ad_3 hx_4 hp => ?_
  refine stF_S (off := 2) st 0 rfl ad_3 (fun b o e => by subst e; first | rfl | simp [Z1]) rfl hx_4 (ZnE (ub := fun x => (ZwR.mk x.Name (Zx.mk x.Object.Kind (IntKind.i64.wrap ((IntKind.i64.wrap (k1_2 + 1)) + 1)) x.Object.Rows) x.Key)) (fld_r (off := 1) (fld_l (ZnE (ub := fun x => (Zx.mk x.Kind (IntKind.i64.wrap ((IntKind.i64.wrap (k1_2 + 1)) + 1)) x.Rows)) (fld_r (off := 0) (fld_l Zl5) rfl) (fun _ => rfl))) rfl) (fun _ => rfl)) fun h_6 st => ?_
  dsimp only [List.set] at st
  refine ixA (st.rdL 0 rfl frzo_T_impl_Item) hp fun e38 p38 ad_4 hx_5 hp => ?_
  refine ldF_S (off := 3) st 0 rfl ad_4 (fun b o e => by subst e; first | rfl | simp [Z1]) rfl hx_5 (ZyU (gb := fun x => x.Object.Rows) (pb := fun x y => (ZwR.mk x.Name (Zx.mk x.Object.Kind x.Object.Size y) x.Key)) (Zys (off := 2) (ZAP (ZyU (gb := fun x => x.Rows) (pb := fun x y => (Zx.mk x.Kind x.Size y)) (Zys (off := 1) (Zys (off := 0) ZAe rfl) rfl) (fun _ => rfl) (fun _ _ => rfl))) rfl) (fun _ => rfl) (fun _ _ => rfl)) fun u41 st => ?_
  dsimp only [List.set] at st
  obtain ⟨r43, hx_6, hp⟩ := obind hp
  obtain ⟨φ_2, L_2, s_2, r_3⟩ := id st
  refine (Zs5 hx_6 (s_2.upS r_3) ).mono fun v_3 h_7 ⟨eq_2, t_2⟩ => ⟨_, eq_2, ?_⟩
  replace st := s_2.downS t_2
  clear t_2 s_2 r_3
  have st := Zz8 st 0 rfl
  dsimp only [List.set] at st
  refine cl0 hp st (fun s_3 _ _ hx_7 => Zyb s_3.fle hx_7) fun r47 h_8 st hp => ⟨_, rfl, ?_⟩
  refine ixA (st.rdL 0 rfl frzo_T_impl_Item) hp fun e48 p48 ad_5 hx_8 hp => ?_
  refine stF_S (off := 4) st 0 rfl ad_5 (fun b o e => by subst e; first | rfl | simp [Z1]) rfl hx_8 (ZnE (ub := fun x => (ZwR.mk x.Name x.Object r47)) (fld_r (off := 3) (fld_r (off := 0) Zy1 rfl) rfl) (fun _ => rfl)) fun h_9 st => ?_
  dsimp only [List.set] at st
  obtain rfl := oI hp
  exact ⟨m, ltS, _, pkT st 1 [0], hs⟩
 ·obtain rfl := oI hp
  obtain rfl := oI hs
  exact ⟨rfl, pkT st 1 [0]⟩
theorem ZAT {ψ : CM} {h0 h : Heap} {os : List Ob} {a0 : ZwS} {v0_0 : Value} {k1 : Int} {r : Int × ZwS} (hp : ZxY a0 k1 = some r) (st : S ψ h0 h (.it (El.ow ZwW) [v0_0] a0.Items :: os))  : CallsH P ZyH #[.agg #[v0_0], .int .i64 k1] h (fun v h' => v = .int .i64 r.1 ∧ S ψ h0 h' (.it (El.ow ZwW) [v0_0] r.2.Items :: os)) := by
 apply ZAR
 rw [ZxY] at hp
 refine new_S st fun b2 h_2 st => ?_
 refine bV st 0 0 ?_
 have st : S ψ h0 h_2 (.it (El.ow ZwW) [v0_0] a0.Items :: .box b2 [v0_0] :: os) := pkT st 2 [1,0]
 obtain ⟨r8, hx, hp⟩ := obind hp
 obtain ⟨φ, L, s, r_2⟩ := id st
 refine (ZAs hx (s.upS r_2) ).mono fun v_2 h_3 ⟨eq, t⟩ => ⟨_, eq, ?_⟩
 replace st := s.downS t
 clear t s r_2
 obtain rfl := oI hp
 exact ⟨rfl, pkT st 2 [0]⟩
section
variable {ψ : CM} {h : Heap} (hψ : CLe ψ (hcell h))
include hψ
theorem Zac {n0 low1 high2 r} (hp : ZY n0 low1 high2 = some r)  : zR Z8 #[.int .i64 n0, .int .i64 low1, .int .i64 high2] h ψ (.bool r) := by
 apply Zwp
 rw [ZY] at hp
 have st := S.start hψ
 exact brQ hp (fun hp => tZ) fun hp => tZ
theorem Zrz {list0 v0 n1 r} (hp : Ze1 list0 n1 = some r) (f0 : SlC (hcell h) eI v0 list0) : zR Zju #[v0, .int .i64 n1] h ψ (.bool r) := by
 apply Zru
 rw [Ze1] at hp
 have st := S.start hψ
 refine lp1 hp (nlS st) fun m i5 h_2 a st hp hs => ?_
 rw [Zc4] at hp
 refine vL f0 st.le ?_
 refine brR hp (fun hp => tZ) fun hp => ?_
 refine ixI (f0.mono st.le) hp fun e14 hp => ?_
 exact brQ hp (fun hp => tZ) fun hp => tZ
theorem ZiM {p0 v0 r} (hp : Zcv p0 = some r) (f0 : SlC (hcell h) eI v0 p0) : zR Zfx #[v0] h ψ (.bool r) := by
 apply ZqH
 rw [Zcv] at hp
 have st := S.start hψ
 refine vL f0 st.le ?_
 refine brQ hp (fun hp => tZ) fun hp => ?_
 refine lp1 hp (nlS st) fun m i3 h_2 a st hp hs => ?_
 rw [ZcV] at hp
 refine vL f0 st.le ?_
 refine brR hp (fun hp => tZ) fun hp => ?_
 refine ixI (f0.mono st.le) hp fun e15 hp => ?_
 refine vL f0 st.le ?_
 refine cl0 hp st (fun s _ _ hx_2 => Zac s.fle hx_2) fun r20 h_3 st hp => ⟨_, rfl, ?_⟩
 refine brQ hp (fun hp => tZ) fun hp => ?_
 obtain ⟨l25, hx_3, hp⟩ := obind hp
 refine Zhz none (some i3) f0 hx_3 rfl fun v25 f => ?_
 refine ixI (f0.mono st.le) hp fun e28 hp => ?_
 refine cl0 hp st (fun s_2 _ _ hx_5 => Zrz s_2.fle hx_5 (f.mono st.le)) fun r30 h_4 st hp => ⟨_, rfl, ?_⟩
 exact brQ hp (fun hp => tZ) fun hp => tZ
theorem Zj0 {a0 v0 b1 v1 r} (hp : Zce a0 b1 = some r) (f0 : SlC (hcell h) eI v0 a0) (f1 : SlC (hcell h) eI v1 b1) : zR ZeJ #[v0, v1] h ψ (.int .i64 r) := by
 apply Zrq
 rw [Zce] at hp
 have st := S.start hψ
 refine ⟨fun h_2 => S ψ h h_2 [] ∧ Zb2 a0 b1 = some r, ?_, ?_⟩
 ·refine lp1 hp (nlS st) fun m i5 h_3 a st hp hs => ?_
  rw [Za8] at hp
  refine ⟨fun h_4 => S ψ h h_4 [] ∧ ZdD a0 b1 i5 = some a, ?_, ?_⟩
  ·refine vL f0 st.le ?_
   refine brQ hp (fun hp => ?_) fun hp => ?_
   ·refine vL f1 st.le ?_
    refine brQ hp (fun hp => tZ) fun hp => ?_
    obtain ⟨xm, hq, rfl⟩ := omap hp
    obtain rfl := oI hs
    exact ⟨nlS st, hq⟩
   ·obtain ⟨xm, hq, rfl⟩ := omap hp
    obtain rfl := oI hs
    exact ⟨nlS st, hq⟩
  ·rintro _ h_4 ⟨st, hp⟩
   rw [ZdD] at hp
   refine ixI (f0.mono st.le) hp fun e20 hp => ?_
   refine ixI (f1.mono st.le) hp fun e24 hp => ?_
   refine brQ hp (fun hp => tZ) fun hp => ?_
   refine ixI (f0.mono st.le) hp fun e29 hp => ?_
   refine ixI (f1.mono st.le) hp fun e33 hp => ?_
   exact brQ hp (fun hp => tZ) fun hp => tZ
 ·rintro _ h_2 ⟨st, hp⟩
  rw [Zb2] at hp
  refine vL f0 st.le ?_
  refine vL f1 st.le ?_
  refine brQ hp (fun hp => tZ) fun hp => ?_
  refine vL f0 st.le ?_
  refine vL f1 st.le ?_
  exact brQ hp (fun hp => tZ) fun hp => tZ
theorem Zmq {list0 v0 p1 v1 r} (hp : Zcs list0 p1 = some r) (f0 : SlC (hcell h) eL v0 list0) (f1 : SlC (hcell h) eI v1 p1) : zR ZgS #[v0, v1] h ψ (.tuple #[.int .i64 r.1, .bool r.2]) := by
 apply ZoP
 rw [Zcs] at hp
 have st := S.start hψ
 refine vL f0 st.le ?_
 refine lp2 hp (nlS st) fun m low6 high7 h_2 a st hp hs => ?_
 rw [ZaN] at hp
 refine brR hp (fun hp => tZ) fun hp => ?_
 obtain ⟨_, hx, hp⟩ := obind hp
 refine ⟨Zaa hx, ?_⟩
 refine ixV f0 st.le hp fun e21 u22 f hp => ?_
 refine cl0 hp st (fun s _ _ hx_3 => Zj0 s.fle hx_3 (f.mono st.le) (f1.mono st.le)) fun r24 h_3 st hp => ⟨_, rfl, ?_⟩
 refine brQ hp (fun hp => tZ) fun hp => ?_
 exact brQ hp (fun hp => tZ) fun hp => tZ
theorem ZqJ {n0 r} (hp : Zet n0 = some r)  : zL Zka #[.int .i64 n0] h ψ eI r := by
 apply Zq5
 rw [Zet] at hp
 have st := S.start hψ
 refine Zan (E := eI) (css := []) (xs := ([] : List Int)) st (fun _ => rfl) rfl rfl fun v5 h_2 st => ?_
 obtain ⟨n_2, hn⟩ := Zy hp
 refine ⟨fun n v3 i4 h_3 => ∃ out3 : List Int, S ψ h h_3 [.it oL [v3] out3] ∧ loopN (ZdG n0) n (out3, i4) = some r, ⟨n_2, _, pk st [0], hn⟩, ?_⟩
 rintro n _ v3 i4 h_3 ⟨out3, st, hn⟩
 obtain ⟨m, a, rfl, hp, hs⟩ := Zw hn
 rw [ZdG] at hp
 refine brQ hp (fun hp => ?_) fun hp => ?_
 ·obtain ⟨l14, hx, hp⟩ := obind hp
  refine Zad st 0 rfl (fun _ => ⟨rfl, rfl⟩) rfl rfl hx fun v14 h_4 st => ?_
  dsimp only [List.set] at st
  obtain rfl := oI hp
  exact ⟨m, ltS, _, pk st [0], hs⟩
 ·obtain rfl := oI hp
  obtain rfl := oI hs
  exact ⟨v3, rfl, pk st [0]⟩
theorem ZvX {p0 v0 q1 v1 r} (hp : Zfc p0 q1 = some r) (f0 : SlC (hcell h) eI v0 p0) (f1 : SlC (hcell h) eI v1 q1) : zL ZiJ #[v0, v1] h ψ eI r := by
 apply Zwa
 rw [Zfc] at hp
 have st := S.start hψ
 refine Zan (E := eI) (css := []) (xs := ([] : List Int)) st (fun _ => rfl) rfl rfl fun v7 h_2 st => ?_
 obtain ⟨n_2, hn⟩ := Zy hp
 refine ⟨fun n v5 i6 h_3 => ∃ out5 : List Int, S ψ h h_3 [.it oL [v5] out5] ∧ loopN (ZdB p0 q1) n (out5, i6) = some r, ⟨n_2, _, pk st [0], hn⟩, ?_⟩
 rintro n _ v5 i6 h_3 ⟨out5, st, hn⟩
 obtain ⟨m, a, rfl, hp, hs⟩ := Zw hn
 rw [ZdB] at hp
 refine vL f0 st.le ?_
 refine brQ hp (fun hp => ?_) fun hp => ?_
 ·refine ixI (f0.mono st.le) hp fun e18 hp => ?_
  refine ixI (f1.mono st.le) hp fun e20 hp => ?_
  obtain ⟨l23, hx_3, hp⟩ := obind hp
  refine Zad st 0 rfl (fun _ => ⟨rfl, rfl⟩) rfl rfl hx_3 fun v23 h_4 st => ?_
  dsimp only [List.set] at st
  obtain rfl := oI hp
  exact ⟨m, ltS, _, pk st [0], hs⟩
 ·obtain rfl := oI hp
  obtain rfl := oI hs
  exact ⟨v5, rfl, pk st [0]⟩
theorem Ztz {list0 v0 at1 p2 v2 r} (hp : ZfA list0 at1 p2 = some r) (f0 : SlC ψ eL v0 list0) (f2 : SlC ψ eI v2 p2) : zL Zkq #[v0, .int .i64 at1, v2] h ψ eL r := by
 apply Zqh
 rw [ZfA] at hp
 have st := S.start hψ
 refine Zan (E := eL) (css := []) (xs := ([] : List (List Int))) st (fun _ => rfl) rfl rfl fun v8 h_2 st => ?_
 obtain ⟨l11, hx, hp⟩ := obind hp
 refine Zhz none (some at1) f0 hx rfl fun v11 f => ?_
 have st := st.arg f
 obtain ⟨l12, hx_2, hp⟩ := obind hp
 refine app_S st 1 rfl (ZnM 0 rfl) rfl rfl hx_2 fun v12 h_3 st => ?_
 dsimp only [List.set] at st
 refine Zz (f2.mono st.leF).one ?_
 have st := st.arg f2
 obtain ⟨l16, hx_3, hp⟩ := obind hp
 refine Zcn st 1 rfl rfl rfl hx_3 fun v16 h_4 st => ?_
 dsimp only [List.set] at st
 obtain ⟨l20, hx_4, hp⟩ := obind hp
 refine Zhz (some at1) none f0 hx_4 rfl fun v20 f_2 => ?_
 have st := st.arg f_2
 obtain ⟨l21, hx_5, hp⟩ := obind hp
 refine app_S st 2 rfl (ZnM 0 rfl) rfl rfl hx_5 fun v21 h_5 st => ?_
 dsimp only [List.set] at st
 obtain rfl := oI hp
 exact ⟨v21, rfl, pk st [2]⟩
theorem Zoh {degree0 genera1 v1 most2 r} (hp : ZbQ degree0 genera1 most2 = some r) (f1 : SlC (hcell h) eL v1 genera1) : CallsH P Zgu #[.int .i64 degree0, v1, .int .i64 most2] h (fun v h' => ∃ w0 : Value, v = .tuple #[w0, .bool r.2] ∧ S ψ h h' [.it (El.ow eL) [w0] r.1]) := by
 apply Zr2
 rw [ZbQ] at hp
 have st := S.start hψ
 refine cl1 hp st (fun s _ _ hx => ZqJ s.fle hx) fun r17 v17 h_2 st hp => ⟨_, rfl, ?_⟩
 refine Zz (st.rdL 0 rfl (Za _)).one ?_
 have st := st.freeze 0 rfl (Ze (Za _))
 dsimp only [List.set] at st
 have st := st.copyF 0 rfl
 refine ZjG st fun v19 h_3 st => ?_
 refine Zz (st.rdF 1 rfl).one ?_
 have st := st.copyF 1 rfl
 refine ZjG st fun v21 h_4 st => ?_
 obtain ⟨n_4, hn⟩ := Zy hp
 refine ⟨fun n v9 v10 i11 h_5 => ∃ list9 : List (List Int), ∃ queue10 : List (List Int), S ψ h h_5 [.it (El.ow eL) [v10] queue10, .it (El.ow eL) [v9] list9, .it eL [v17] r17] ∧ loopN (Zbg genera1 most2) n (list9, queue10, i11) = some r, ⟨n_4, _, _, pk st [0,1,2], hn⟩, ?_⟩
 rintro n _ v9 v10 i11 h_5 ⟨list9, queue10, st, hn⟩
 obtain ⟨m, a, rfl, hp, hs⟩ := Zw hn
 rw [Zbg] at hp
 refine ZC (st.rdL 0 rfl (ZN _)) ?_
 refine brQ hp (fun hp => ?_) fun hp => ?_
 ·obtain ⟨n_3, hn_2⟩ := Zy hp
  refine ⟨fun n_2 v9_2 v10_2 k12 h_6 => ∃ list9_2 : List (List Int), ∃ queue10_2 : List (List Int), S ψ h h_6 [.it (El.ow eL) [v10_2] queue10_2, .it (El.ow eL) [v9_2] list9_2, .it eL [v17] r17] ∧ loopN (Zas genera1 most2 i11) n_2 (list9_2, queue10_2, k12) = some a, ⟨n_3, _, _, pk st [0,1,2], hn_2⟩, ?_⟩
  rintro n_2 _ v9_2 v10_2 k12 h_6 ⟨list9_2, queue10_2, st, hn_2⟩
  obtain ⟨m_2, a_2, rfl, hp, hs_2⟩ := Zw hn_2
  rw [Zas] at hp
  refine vL f1 st.le ?_
  refine brQ hp (fun hp => ?_) fun hp => ?_
  ·refine ixA (st.rdL 0 rfl (ZN _)) hp fun e36 p36 ad hx_2 hp => ?_
   refine Zc9 st 0 rfl ad hx_2 fun u37 st => ?_
   refine ixV f1 st.le hp fun e40 u41 f hp => ?_
   refine cl1 hp st (fun s_2 _ _ hx_4 => ZvX s_2.fle hx_4 (st.rdF 0 rfl) (f.mono st.le)) fun r42 v42 h_7 st hp => ⟨_, rfl, ?_⟩
   refine cl0 hp st (fun s_3 _ _ hx_5 => Zmq s_3.fle hx_5 (st.rdL 3 rfl (ZN _)) (st.rdL 0 rfl (Za _))) fun r46 h_8 st hp => ⟨_, _, rfl, ?_⟩
   refine brQ hp (fun hp => ?_) fun hp => ?_
   ·obtain rfl := oI hp
    exact ⟨m_2, ltS, _, _, pk st [2,3,4], hs_2⟩
   ·refine ZC (st.rdL 3 rfl (ZN _)) ?_
    refine brQ hp (fun hp => ?_) fun hp => ?_
    ·have st := st.nilO (E := eL)
     obtain rfl := oI hp
     obtain rfl := oI hs_2
     obtain rfl := oI hs
     exact ⟨(.slice none 0 0), rfl, pk st [0]⟩
    ·have st := st.freeze 3 rfl (Ze (ZN _))
     dsimp only [List.set] at st
     have st := st.freeze 0 rfl (Ze (Za _))
     dsimp only [List.set] at st
     refine cl1 hp st (fun s_4 r_5 _ hx_6 => Ztz s_4.fle hx_6 (frF r_5 3 rfl) (frF r_5 0 rfl)) fun r57 v57 h_9 st hp => ⟨_, rfl, ?_⟩
     refine Zz (st.rdF 1 rfl).one ?_
     have st := st.copyF 1 rfl
     obtain ⟨l61, hx_7, hp⟩ := obind hp
     refine Zcn st 3 rfl rfl rfl hx_7 fun v61 h_10 st => ?_
     dsimp only [List.set] at st
     obtain rfl := oI hp
     exact ⟨m_2, ltS, _, _, pk st [3,0,5], hs_2⟩
  ·obtain rfl := oI hp
   obtain rfl := oI hs_2
   exact ⟨m, ltS, _, _, pk st [0,1,2], hs⟩
 ·obtain rfl := oI hp
  obtain rfl := oI hs
  exact ⟨v9, rfl, pk st [1]⟩
theorem Zlh {list0 v0 r} (hp : ZaO list0 = some r) (f0 : SlC (hcell h) eI v0 list0) : zL ZfC #[v0] h ψ eI r := by
 apply Zu9
 rw [ZaO] at hp
 have st := S.start hψ
 refine Zan (E := eI) (css := []) (xs := ([] : List Int)) st (fun _ => rfl) rfl rfl fun v3 h_2 st => ?_
 obtain ⟨l5, hx, hp⟩ := obind hp
 refine app_S st 0 rfl (ZnY (Zmh _) (f0.mono st.le)) rfl rfl hx fun v5 h_3 st => ?_
 dsimp only [List.set] at st
 obtain rfl := oI hp
 exact ⟨v5, rfl, pk st [0]⟩
theorem Zuq {a0 v0 b1 v1 r} (hp : Zeu a0 b1 = some r) (f0 : SlC (hcell h) eI v0 a0) (f1 : SlC (hcell h) eI v1 b1) : zR Zi3 #[v0, v1] h ψ (.bool r) := by
 apply Zrh
 rw [Zeu] at hp
 have st := S.start hψ
 refine vL f0 st.le ?_
 refine vL f1 st.le ?_
 refine brQ hp (fun hp => tZ) fun hp => ?_
 refine lp1 hp (nlS st) fun m i5 h_2 a st hp hs => ?_
 rw [ZeE] at hp
 refine vL f0 st.le ?_
 refine brR hp (fun hp => tZ) fun hp => ?_
 refine ixI (f0.mono st.le) hp fun e19 hp => ?_
 refine ixI (f1.mono st.le) hp fun e23 hp => ?_
 exact brQ hp (fun hp => tZ) fun hp => tZ
theorem ZnI {a0 v0 b1 v1 r} (hp : Zdg a0 b1 = some r) (f0 : SlC (hcell h) eL v0 a0) (f1 : SlC (hcell h) eL v1 b1) : zR ZgC #[v0, v1] h ψ (.bool r) := by
 apply ZpB
 rw [Zdg] at hp
 have st := S.start hψ
 refine vL f0 st.le ?_
 refine vL f1 st.le ?_
 refine brQ hp (fun hp => tZ) fun hp => ?_
 refine lp1 hp (nlS st) fun m i5 h_2 a st hp hs => ?_
 rw [Zf2] at hp
 refine vL f0 st.le ?_
 refine brR hp (fun hp => tZ) fun hp => ?_
 refine ixV f0 st.le hp fun e19 u20 f hp => ?_
 refine ixV f1 st.le hp fun e23 u24 f_2 hp => ?_
 refine cl0 hp st (fun s _ _ hx_3 => Zuq s.fle hx_3 (f.mono st.le) (f_2.mono st.le)) fun r25 h_3 st hp => ⟨_, rfl, ?_⟩
 exact brQ hp (fun hp => tZ) fun hp => tZ
theorem ZrZ {degree0 list1 v1 r} (hp : ZeY degree0 list1 = some r) (f1 : SlC (hcell h) eL v1 list1) : CallsH P Zj3 #[.int .i64 degree0, v1] h (fun v h' => ∃ w0 : Value, v = .tuple #[w0, .bool r.2] ∧ S ψ h h' [.it (El.ow eL) [w0] r.1]) := by
 apply Zvw
 rw [ZeY] at hp
 have st := S.start hψ
 refine Zan (E := eL) (css := []) (xs := ([] : List (List Int))) st (fun _ => rfl) rfl rfl fun v14 h_2 st => ?_
 refine cl1 hp st (fun s _ _ hx => Zoh s.fle hx (st.rdL 0 rfl (ZN _))) fun r18 v18 h_3 st hp => ⟨_, _, rfl, ?_⟩
 obtain ⟨n_2, hn⟩ := Zy hp
 refine ⟨fun n v6 v7 i9 h_4 => ∃ out6 : List (List Int), ∃ have7 : List (List Int), S ψ h h_4 [.it (El.ow eL) [v7] have7, .it (El.ow eL) [v6] out6] ∧ loopN (ZaV degree0 list1) n (out6, have7, i9) = some r, ⟨n_2, _, _, pk st [0,1], hn⟩, ?_⟩
 rintro n _ v6 v7 i9 h_4 ⟨out6, have7, st, hn⟩
 obtain ⟨m, a, rfl, hp, hs⟩ := Zw hn
 rw [ZaV] at hp
 refine vL f1 st.le ?_
 refine brQ hp (fun hp => ?_) fun hp => ?_
 ·refine ixV f1 st.le hp fun e31 u32 f hp => ?_
  refine cl0 hp st (fun s_2 _ _ hx_3 => Zmq s_2.fle hx_3 (st.rdL 0 rfl (ZN _)) (f.mono st.le)) fun r33 h_5 st hp => ⟨_, _, rfl, ?_⟩
  refine brQ hp (fun hp => ?_) fun hp => ?_
  ·obtain rfl := oI hp
   exact ⟨m, ltS, _, _, pk st [0,1], hs⟩
  ·refine ixV f1 st.le hp fun e40 u41 f_2 hp => ?_
   refine cl1 hp st (fun s_3 _ _ hx_5 => Zlh s_3.fle hx_5 (f_2.mono st.le)) fun r42 v42 h_6 st hp => ⟨_, rfl, ?_⟩
   refine Zz (st.rdL 0 rfl (Za _)).one ?_
   have st := st.freeze 0 rfl (Ze (Za _))
   dsimp only [List.set] at st
   have st := st.copyF 0 rfl
   obtain ⟨l44, hx_6, hp⟩ := obind hp
   refine Zcn st 2 rfl rfl rfl hx_6 fun v44 h_7 st => ?_
   dsimp only [List.set] at st
   refine vL f1 st.le ?_
   refine cl1 hp st (fun s_4 _ _ hx_7 => Zoh s_4.fle hx_7 (st.rdL 2 rfl (ZN _))) fun r50 v50 h_8 st hp => ⟨_, _, rfl, ?_⟩
   refine brQ hp (fun hp => ?_) fun hp => ?_
   ·have st := st.nilO (E := eL)
    obtain rfl := oI hp
    obtain rfl := oI hs
    exact ⟨(.slice none 0 0), rfl, pk st [0]⟩
   ·obtain rfl := oI hp
    exact ⟨m, ltS, _, _, pk st [0,3], hs⟩
 ·refine cl0 hp st (fun s_5 _ _ hx_8 => ZnI s_5.fle hx_8 (st.rdL 0 rfl (ZN _)) (f1.mono st.le)) fun r59 h_9 st hp => ⟨_, rfl, ?_⟩
  obtain rfl := oI hp
  obtain rfl := oI hs
  exact ⟨v6, rfl, pk st [1]⟩
theorem Zvo {y0 p0 v0_1 r} (hp : Zeh y0 = some r) (ck0 : CellsC (hcell h) p0 [.int .i64 y0.Degree, v0_1]) (f0_1 : SlC (hcell h) eL v0_1 y0.Elements) : zR ZlK #[.pointer (some p0)] h ψ (.bool r) := by
 apply ZtM
 rw [Zeh] at hp
 have st := S.start hψ
 refine ⟨fun h_2 => S ψ h h_2 [] ∧ Zhg y0 = some r, ?_, ?_⟩
 ·refine kI ck0 st.le 0 ?_
  refine cl0 hp st (fun s_4 _ _ hx_8 => Zac s_4.fle hx_8) fun r10 h_7 st hp => ⟨_, rfl, ?_⟩
  refine brQ hp (fun hp => tZ) fun hp => ?_
  refine kV ck0 st.le 1 ?_
  refine vL f0_1 st.le ?_
  refine brQ hp (fun hp => tZ) fun hp => ?_
  refine kV ck0 st.le 1 ?_
  refine vL f0_1 st.le ?_
  exact brQ hp (fun hp => tZ) fun hp => tZ
 ·rintro _ h_2 ⟨st, hp⟩
  rw [Zhg] at hp
  refine lp1 hp (nlS st) fun m y3 h_3 a st hp hs => ?_
  rw [ZbB] at hp
  refine kV ck0 st.le 1 ?_
  refine vL f0_1 st.le ?_
  refine brQ hp (fun hp => ?_) fun hp => ?_
  ·refine kV ck0 st.le 1 ?_
   refine ixV f0_1 st.le hp fun e42 u43 f hp => ?_
   refine cl0 hp st (fun s _ _ hx_2 => ZiM s.fle hx_2 (f.mono st.le)) fun r44 h_4 st hp => ⟨_, rfl, ?_⟩
   refine brQ hp (fun hp => tZ) fun hp => ?_
   refine kV ck0 st.le 1 ?_
   refine ixV f0_1 st.le hp fun e52 u53 f_2 hp => ?_
   refine vL f_2 st.le ?_
   refine kI ck0 st.le 0 ?_
   refine brQ hp (fun hp => tZ) fun hp => ?_
   refine brR hp (fun hp => tZ) fun hp => ?_
   refine kV ck0 st.le 1 ?_
   refine ixV f0_1 st.le hp fun e71 u72 f_3 hp => ?_
   refine kV ck0 st.le 1 ?_
   refine ixV f0_1 st.le hp fun e78 u79 f_4 hp => ?_
   refine cl0 hp st (fun s_2 _ _ hx_6 => Zj0 s_2.fle hx_6 (f_3.mono st.le) (f_4.mono st.le)) fun r80 h_5 st hp => ⟨_, rfl, ?_⟩
   exact brQ hp (fun hp => tZ) fun hp => tZ
  ·refine kI ck0 st.le 0 ?_
   refine kV ck0 st.le 1 ?_
   refine cl1 hp st (fun s_3 _ _ hx_7 => ZrZ s_3.fle hx_7 (f0_1.mono st.le)) fun r93 v93 h_6 st hp => ⟨_, _, rfl, ?_⟩
   exact tZ
theorem Zv7 {list0 v0 r} (hp : Ze7 list0 = some r) (f0 : SlC (hcell h) eI v0 list0) : zR ZjB #[v0] h ψ (.bool r) := by
 apply Zqg
 rw [Ze7] at hp
 have st := S.start hψ
 refine vL f0 st.le ?_
 refine brQ hp (fun hp => tZ) fun hp => ?_
 refine lp1 hp (nlS st) fun m i3 h_2 a st hp hs => ?_
 rw [Zev] at hp
 refine vL f0 st.le ?_
 refine brR hp (fun hp => tZ) fun hp => ?_
 refine ixI (f0.mono st.le) hp fun e15 hp => ?_
 refine cl0 hp st (fun s _ _ hx_2 => Zac s.fle hx_2) fun r17 h_3 st hp => ⟨_, rfl, ?_⟩
 exact brQ hp (fun hp => tZ) fun hp => tZ
theorem Zv6 {a0 b1 r} (hp : ZfF a0 b1 = some r)  : zR ZkE #[.agg #[.int .i64 a0.A, .int .i64 a0.B], .agg #[.int .i64 b1.A, .int .i64 b1.B]] h ψ (.bool r) := by
 apply ZoK
 rw [ZfF] at hp
 have st := S.start hψ
 refine new_S st fun b2 h_2 st => ?_
 refine new_S st fun b3 h_3 st => ?_
 refine bI st 1 0 ?_
 refine bI st 0 0 ?_
 refine brQ hp (fun hp => tZ) fun hp => ?_
 refine bI st 1 0 ?_
 refine bI st 0 0 ?_
 refine brR hp (fun hp => tZ) fun hp => ?_
 refine bI st 1 1 ?_
 refine bI st 0 1 ?_
 exact tZ
theorem ZpG {g0 v0_0 v0_1 r} (hp : Zgo g0 = some r) (f0_0 : SlC (hcell h) eI v0_0 g0.Colors) (f0_1 : SlC (hcell h) ZB v0_1 g0.Edges) : zR Zkw #[.agg #[v0_0, v0_1]] h ψ (.bool r) := by
 apply ZoE
 rw [Zgo] at hp
 have st := S.start hψ
 refine new_S st fun b1 h_2 st => ?_
 refine ⟨fun h_3 => S ψ h h_3 [.box b1 [v0_0, v0_1]] ∧ Zhj g0 = some r, ?_, ?_⟩
 ·refine bV st 0 0 ?_
  refine cl0 hp st (fun s_4 _ _ hx_6 => Zv7 s_4.fle hx_6 (f0_0.mono st.le)) fun r8 h_11 st hp => ⟨_, rfl, ?_⟩
  refine brQ hp (fun hp => tZ) fun hp => ?_
  refine bV st 0 1 ?_
  refine vL f0_1 st.le ?_
  refine brQ hp (fun hp => tZ) fun hp => ?_
  exact ⟨pk st [0], hp⟩
 ·rintro _ h_3 ⟨st, hp⟩
  rw [Zhj] at hp
  refine bV st 0 0 ?_
  refine vL f0_0 st.le ?_
  refine lp1 (os := [.box b1 [v0_0, v0_1]]) hp (pk st [0]) fun m i4 h_4 a st hp hs => ?_
  rw [ZbR] at hp
  refine bV st 0 1 ?_
  refine vL f0_1 st.le ?_
  refine brR hp (fun hp => tZ) fun hp => ?_
  refine bV st 0 1 ?_
  refine ixA (f0_1.mono st.le) hp fun e29 p29 ad hx hp => ?_
  obtain ⟨cs, ck, hr⟩ := f0_1.cells ad hx rfl
  obtain rfl := ZbA hr
  refine kI ck st.le 0 ?_
  refine kI ck st.le 1 ?_
  refine new_S st fun b5 h_5 st => ?_
  refine Zb st 0 rfl rfl rfl rfl fun h_6 st => ?_
  refine Zb st 0 rfl rfl rfl rfl fun h_7 st => ?_
  dsimp only [List.set] at st
  refine bI st 0 0 ?_
  refine cl0 hp st (fun s _ _ hx_2 => Zac s.fle hx_2) fun r35 h_8 st hp => ⟨_, rfl, ?_⟩
  refine brQ hp (fun hp => tZ) fun hp => ?_
  refine bI st 0 1 ?_
  refine bI st 0 0 ?_
  refine cl0 hp st (fun s_2 _ _ hx_3 => Zac s_2.fle hx_3) fun r45 h_9 st hp => ⟨_, rfl, ?_⟩
  refine brQ hp (fun hp => tZ) fun hp => ?_
  refine brQ hp (fun hp => ?_) fun hp => ?_
  ·refine bV st 1 1 ?_
   refine ixA (f0_1.mono st.le) hp fun e56 p56 ad_2 hx_4 hp => ?_
   obtain ⟨cs_2, ck_2, hr_2⟩ := f0_1.cells ad_2 hx_4 rfl
   obtain rfl := ZbA hr_2
   refine kI ck_2 st.le 0 ?_
   refine kI ck_2 st.le 1 ?_
   refine bI st 0 0 ?_
   refine bI st 0 1 ?_
   refine cl0 hp st (fun s_3 _ _ hx_5 => Zv6 s_3.fle hx_5) fun r59 h_10 st hp => ⟨_, rfl, ?_⟩
   refine brQ hp (fun hp => tZ) fun hp => ?_
   obtain rfl := oI hp
   exact ⟨m, ltS, pk st [1], hs⟩
  ·obtain rfl := oI hp
   exact ⟨m, ltS, pk st [1], hs⟩
theorem Zoe {y0 p0 v0_2 r} (hp : ZdP y0 = some r) (ck0 : CellsC (hcell h) p0 [.int .i64 y0.Kind, .int .i64 y0.Size, v0_2]) (f0_2 : SlC (hcell h) eL v0_2 y0.Rows) : CallsH P ZgF #[.pointer (some p0)] h (fun v h' => ∃ w0 : Value, ∃ w1 : Value, v = .tuple #[.agg #[w0, w1], .bool r.2] ∧ S ψ h h' [.it oL [w0] r.1.Colors, .it (El.ow ZB) [w1] r.1.Edges]) := by
 apply ZrP
 rw [ZdP] at hp
 have st := S.start hψ
 refine new_S st fun b2 h_2 st => ?_
 refine kI ck0 st.le 1 ?_
 refine cl0 hp st (fun s _ _ hx => Zac s.fle hx) fun r10 h_3 st hp => ⟨_, rfl, ?_⟩
 refine brQ hp (fun hp => ?_) fun hp => ?_
 ·refine Zb st 0 rfl rfl rfl rfl fun h_4 st => ?_
  refine Zb st 0 rfl rfl rfl rfl fun h_5 st => ?_
  dsimp only [List.set] at st
  refine bV st 0 0 ?_
  refine bV st 0 1 ?_
  have st := st.nilO (E := eI)
  have st := st.nilO (E := ZB)
  obtain rfl := oI hp
  exact ⟨(.slice none 0 0), (.slice none 0 0), rfl, pk st [1,0]⟩
 ·refine kI ck0 st.le 1 ?_
  obtain ⟨l17, hx_2, hp⟩ := obind hp
  refine Zaz (E := eI) st rfl hx_2 fun v17 h_6 st => ?_
  refine Zz (st.rdL 0 rfl (Za _)).one ?_
  refine new_S st fun b4 h_7 st => ?_
  refine Zb st 0 rfl rfl rfl (st.rdL 1 rfl (Za _)).one fun h_8 st => ?_
  refine Zb st 0 rfl rfl rfl rfl fun h_9 st => ?_
  dsimp only [List.set] at st
  have st := st.nilO (E := ZB)
  obtain ⟨n_2, hn⟩ := Zy hp
  refine ⟨fun n y5 h_10 => ∃ xs : List Zg, ∃ v_3 : Value, S ψ h h_10 [.box b4 [v17, v_3], .it oL [v17] l17, .box b2 [(.slice none 0 0), (.slice none 0 0)], .it (El.ow ZB) [v_3] xs] ∧ loopN (ZcL y0 l17) n (y5, xs) = some r, ⟨n_2, _, _, pk st [1,2,3,0], hn⟩, ?_⟩
  rintro n _ y5 h_10 ⟨xs, v_3, st, hn⟩
  obtain ⟨m, a, rfl, hp, hs⟩ := Zw hn
  rw [ZcL] at hp
  refine kV ck0 st.le 2 ?_
  refine vL f0_2 st.le ?_
  refine brQ hp (fun hp => ?_) fun hp => ?_
  ·refine kV ck0 st.le 2 ?_
   refine ixV f0_2 st.le hp fun e33 u34 f hp => ?_
   refine vL f st.le ?_
   refine brQ hp (fun hp => ?_) fun hp => ?_
   ·refine Zb st 2 rfl rfl rfl rfl fun h_11 st => ?_
    refine Zb st 2 rfl rfl rfl rfl fun h_12 st => ?_
    dsimp only [List.set] at st
    refine bV st 2 0 ?_
    refine bV st 2 1 ?_
    have st := st.nilO (E := eI)
    have st := st.nilO (E := ZB)
    obtain rfl := oI hp
    obtain rfl := oI hs
    exact ⟨(.slice none 0 0), (.slice none 0 0), rfl, pk st [1,0]⟩
   ·refine ⟨fun _ => False, ?_⟩
    have stR_9 := st
    have xR_9 := ExtH.refl h_10
    refine kV ck0 st.le 2 ?_
    refine ixV f0_2 st.le hp fun e45 u46 f_2 hp => ?_
    refine ixI (f_2.mono st.le) hp fun e47 hp => ?_
    refine kV ck0 st.le 2 ?_
    refine ixV f0_2 st.le hp fun e54 u55 f_3 hp => ?_
    refine ixI (f_3.mono st.le) hp fun e56 hp => ?_
    refine ZO st fun b59 h_13 xE st => ⟨ExtBut.of_ext (xR_9.trans xE), ?_⟩
    replace xR_9 := xR_9.trans xE
    refine Z7 ?_
    refine ldV_K (stR_9.cells 0 rfl) 1 rfl rfl ?_
    obtain ⟨l60, hx_8, hp⟩ := obind hp
    refine Zm5 st 4 rfl 0 rfl (fun _ => ⟨[.int .i64 e47], [.int .i64 e56], [], [], rfl, rfl, ⟨rfl, rfl⟩, ⟨rfl, rfl⟩⟩) rfl rfl hx_8 fun v60 h_14 xE st => ?_
    refine Zb st 1 rfl rfl rfl (st.rdL 4 rfl frzf_T_impl_Edge).one fun h_15 st => ?_
    dsimp only [List.set] at st
    obtain rfl := oI hp
    exact ⟨m, ltS, _, _, pk st [1,2,3,4], hs⟩
  ·refine ⟨fun _ => False, ?_⟩
   have stR_11 := st
   have xR_11 := ExtH.refl h_10
   refine bV st 0 0 ?_
   refine bV st 0 1 ?_
   obtain ⟨r64, hx_9, hp⟩ := obind hp
   obtain ⟨φ_2, L_2, s_2, r_3⟩ := id st
   refine (ZpG s_2.fle hx_9 (st.rdL 1 rfl (Za _)) (st.rdL 3 rfl frzf_T_impl_Edge)).mono fun v_4 h_16 ⟨eq_2, t_2⟩ => ⟨_, eq_2, ExtBut.of_ext (xR_11.trans t_2.ext), ?_⟩
   replace xR_11 := xR_11.trans t_2.ext
   replace st := join0 s_2 r_3 t_2
   clear t_2 s_2 r_3
   refine Z7 ?_
   refine ldV_K (stR_11.cells 0 rfl) 0 rfl rfl ?_
   refine Z7 ?_
   refine ldV_K (stR_11.cells 0 rfl) 1 rfl rfl ?_
   refine Zb st 2 rfl rfl rfl (st.rdL 1 rfl (Za _)).one fun h_17 st => ?_
   refine Zb st 2 rfl rfl rfl (st.rdL 3 rfl frzf_T_impl_Edge).one fun h_18 st => ?_
   dsimp only [List.set] at st
   refine bV st 2 0 ?_
   refine bV st 2 1 ?_
   obtain rfl := oI hp
   obtain rfl := oI hs
   exact ⟨v17, v_3, rfl, pk st [1,3]⟩
theorem ZvU {a0 v0 r} (hp : Zeb a0 = some r) (f0 : SlC (hcell h) eL v0 a0) : zR Zkn #[v0] h ψ (.bool r) := by
 apply Zss
 rw [Zeb] at hp
 have st := S.start hψ
 refine vL f0 st.le ?_
 refine ⟨fun h_2 => S ψ h h_2 [] ∧ ZhG a0 = some r, ?_, ?_⟩
 ·refine brQ hp (fun hp => tZ) fun hp => ?_
  exact brQ hp (fun hp => tZ) fun hp => tZ
 ·rintro _ h_2 ⟨st, hp⟩
  rw [ZhG] at hp
  refine lp1 hp (nlS st) fun m x4 h_3 a st hp hs => ?_
  rw [ZdO] at hp
  refine brQ hp (fun hp => ?_) fun hp => ?_
  ·refine ixV f0 st.le hp fun e23 u24 f hp => ?_
   refine vL f st.le ?_
   refine brQ hp (fun hp => tZ) fun hp => ?_
   refine ixV f0 st.le hp fun e31 u32 f_2 hp => ?_
   refine cl0 hp st (fun s _ _ hx_3 => ZiM s.fle hx_3 (f_2.mono st.le)) fun r33 h_4 st hp => ⟨_, rfl, ?_⟩
   exact brQ hp (fun hp => tZ) fun hp => tZ
  ·refine lp1 hp (nlS st) fun m_2 y5 h_5 a_2 st hp hs_2 => ?_
   rw [Zcz] at hp
   refine brQ hp (fun hp => ?_) fun hp => ?_
   ·refine Zan (E := eI) (css := []) (xs := ([] : List Int)) st (fun _ => rfl) rfl rfl fun v41 h_6 st => ?_
    obtain ⟨n_4, hn_3⟩ := Zy hp
    refine ⟨fun n_3 v6 x7 h_7 => ∃ col6 : List Int, S ψ h h_7 [.it oL [v6] col6] ∧ loopN (ZbX a0 y5) n_3 (col6, x7) = some a_2, ⟨n_4, _, pk st [0], hn_3⟩, ?_⟩
    rintro n_3 _ v6 x7 h_7 ⟨col6, st, hn_3⟩
    obtain ⟨m_3, a_3, rfl, hp, hs_3⟩ := Zw hn_3
    rw [ZbX] at hp
    refine brQ hp (fun hp => ?_) fun hp => ?_
    ·refine ixV f0 st.le hp fun e50 u51 f_3 hp => ?_
     refine ixI (f_3.mono st.le) hp fun e53 hp => ?_
     obtain ⟨l56, hx_6, hp⟩ := obind hp
     refine Zad st 0 rfl (fun _ => ⟨rfl, rfl⟩) rfl rfl hx_6 fun v56 h_8 st => ?_
     dsimp only [List.set] at st
     obtain rfl := oI hp
     exact ⟨m_3, ltS, _, pk st [0], hs_3⟩
    ·refine cl0 hp st (fun s_2 _ _ hx_7 => ZiM s_2.fle hx_7 (st.rdL 0 rfl (Za _))) fun r58 h_9 st hp => ⟨_, rfl, ?_⟩
     refine brQ hp (fun hp => ?_) fun hp => ?_
     ·obtain rfl := oI hp
      obtain rfl := oI hs_3
      obtain rfl := oI hs_2
      obtain rfl := oI hs
      exact ⟨rfl, nlS st⟩
     ·obtain rfl := oI hp
      obtain rfl := oI hs_3
      exact ⟨m_2, ltS, nlS st, hs_2⟩
   ·obtain rfl := oI hp
    obtain rfl := oI hs_2
    obtain rfl := oI hs
    exact ⟨rfl, nlS st⟩
theorem Zrb {list0 v0 low1 high2 r} (hp : ZeV list0 low1 high2 = some r) (f0 : SlC (hcell h) eI v0 list0) : zR Zkp #[v0, .int .i64 low1, .int .i64 high2] h ψ (.bool r) := by
 apply ZwD
 rw [ZeV] at hp
 have st := S.start hψ
 refine lp1 hp (nlS st) fun m i7 h_2 a st hp hs => ?_
 rw [ZcC] at hp
 refine vL f0 st.le ?_
 refine brR hp (fun hp => tZ) fun hp => ?_
 refine ixI (f0.mono st.le) hp fun e16 hp => ?_
 refine cl0 hp st (fun s _ _ hx_2 => Zac s.fle hx_2) fun r20 h_3 st hp => ⟨_, rfl, ?_⟩
 refine brQ hp (fun hp => tZ) fun hp => ?_
 refine brR hp (fun hp => tZ) fun hp => ?_
 refine ixI (f0.mono st.le) hp fun e29 hp => ?_
 refine ixI (f0.mono st.le) hp fun e33 hp => ?_
 exact brQ hp (fun hp => tZ) fun hp => tZ
theorem Zs7 {set0 v0 points1 r} (hp : Zgp set0 points1 = some r) (f0 : SlC (hcell h) eI v0 set0) : zR Zlg #[v0, .int .i64 points1] h ψ (.bool r) := by
 apply ZuQ
 rw [Zgp] at hp
 have st := S.start hψ
 refine vL f0 st.le ?_
 refine brR hp (fun hp => tZ) fun hp => ?_
 refine cl0 hp st (fun s _ _ hx => Zrb s.fle hx (f0.mono st.le)) fun r12 h_2 st hp => ⟨_, rfl, ?_⟩
 exact tZ
theorem ZvI {d0 p0 v0_1 r} (hp : Zft d0 = some r) (ck0 : CellsC (hcell h) p0 [.int .i64 d0.Points, v0_1]) (f0_1 : SlC (hcell h) eL v0_1 d0.Blocks) : zR Zlo #[.pointer (some p0)] h ψ (.bool r) := by
 apply ZsI
 rw [Zft] at hp
 have st := S.start hψ
 refine ⟨fun h_2 => S ψ h h_2 [] ∧ ZgV d0 = some r, ?_, ?_⟩
 ·refine kI ck0 st.le 0 ?_
  refine cl0 hp st (fun s_3 _ _ hx_6 => Zac s_3.fle hx_6) fun r8 h_6 st hp => ⟨_, rfl, ?_⟩
  refine brQ hp (fun hp => tZ) fun hp => ?_
  refine kV ck0 st.le 1 ?_
  refine vL f0_1 st.le ?_
  exact brQ hp (fun hp => tZ) fun hp => tZ
 ·rintro _ h_2 ⟨st, hp⟩
  rw [ZgV] at hp
  refine lp1 hp (nlS st) fun m i3 h_3 a st hp hs => ?_
  rw [ZcG] at hp
  refine kV ck0 st.le 1 ?_
  refine vL f0_1 st.le ?_
  refine brR hp (fun hp => tZ) fun hp => ?_
  refine kV ck0 st.le 1 ?_
  refine ixV f0_1 st.le hp fun e32 u33 f hp => ?_
  refine kI ck0 st.le 0 ?_
  refine cl0 hp st (fun s _ _ hx_2 => Zs7 s.fle hx_2 (f.mono st.le)) fun r38 h_4 st hp => ⟨_, rfl, ?_⟩
  refine brQ hp (fun hp => tZ) fun hp => ?_
  refine brR hp (fun hp => tZ) fun hp => ?_
  refine kV ck0 st.le 1 ?_
  refine ixV f0_1 st.le hp fun e50 u51 f_2 hp => ?_
  refine kV ck0 st.le 1 ?_
  refine ixV f0_1 st.le hp fun e57 u58 f_3 hp => ?_
  refine cl0 hp st (fun s_2 _ _ hx_5 => Zj0 s_2.fle hx_5 (f_2.mono st.le) (f_3.mono st.le)) fun r59 h_5 st hp => ⟨_, rfl, ?_⟩
  exact brQ hp (fun hp => tZ) fun hp => tZ
theorem ZpX {a0 v0 b1 v1 r} (hp : Zd6 a0 b1 = some r) (f0 : SlC (hcell h) eI v0 a0) (f1 : SlC (hcell h) eI v1 b1) : zR Zle #[v0, v1] h ψ (.int .i64 r) := by
 apply Zq4
 rw [Zd6] at hp
 have st := S.start hψ
 refine lp2 hp (nlS st) fun m sum5 i6 h_2 a st hp hs => ?_
 rw [Zfq] at hp
 refine vL f0 st.le ?_
 refine brR hp (fun hp => tZ) fun hp => ?_
 refine ixI (f0.mono st.le) hp fun e16 hp => ?_
 refine ixI (f1.mono st.le) hp fun e20 hp => ?_
 exact tZ
theorem Zv2 {y0 v0 r} (hp : Zed y0 = some r) (f0 : SlC (hcell h) eL v0 y0) : zR ZiW #[v0] h ψ (.bool r) := by
 apply Zt4
 rw [Zed] at hp
 have st := S.start hψ
 refine vL f0 st.le ?_
 refine ⟨fun h_2 => S ψ h h_2 [] ∧ ZgO y0 = some r, ?_, ?_⟩
 ·refine brQ hp (fun hp => tZ) fun hp => ?_
  exact brQ hp (fun hp => tZ) fun hp => tZ
 ·rintro _ h_2 ⟨st, hp⟩
  rw [ZgO] at hp
  refine lp1 hp (nlS st) fun m y4 h_3 a st hp hs => ?_
  rw [Zdm] at hp
  refine brQ hp (fun hp => ?_) fun hp => ?_
  ·refine ixV f0 st.le hp fun e23 u24 f hp => ?_
   refine vL f st.le ?_
   refine brQ hp (fun hp => tZ) fun hp => ?_
   refine lp1 hp (nlS st) fun m_2 y5 h_4 a_2 st hp hs_2 => ?_
   rw [Zay] at hp
   refine brQ hp (fun hp => ?_) fun hp => ?_
   ·refine ixV f0 st.le hp fun e35 u36 f_2 hp => ?_
    refine ixI (f_2.mono st.le) hp fun e38 hp => ?_
    refine brQ hp (fun hp => ?_) fun hp => ?_
    ·refine ixV f0 st.le hp fun e44 u45 f_3 hp => ?_
     refine ixI (f_3.mono st.le) hp fun e47 hp => ?_
     refine brQ hp (fun hp => ?_) fun hp => ?_
     ·obtain rfl := oI hp
      obtain rfl := oI hs_2
      obtain rfl := oI hs
      exact ⟨rfl, nlS st⟩
     ·obtain rfl := oI hp
      exact ⟨m_2, ltS, nlS st, hs_2⟩
    ·obtain rfl := oI hp
     exact ⟨m_2, ltS, nlS st, hs_2⟩
   ·obtain rfl := oI hp
    obtain rfl := oI hs_2
    exact ⟨m, ltS, nlS st, hs⟩
  ·refine lp1 hp (nlS st) fun m_3 y6 h_5 a_3 st hp hs_3 => ?_
   rw [ZdE] at hp
   refine brQ hp (fun hp => ?_) fun hp => ?_
   ·refine lp1 hp (nlS st) fun m_4 y7 h_6 a_4 st hp hs_4 => ?_
    rw [Zcg] at hp
    refine brQ hp (fun hp => ?_) fun hp => ?_
    ·refine ixV f0 st.le hp fun e63 u64 f_4 hp => ?_
     refine ixV f0 st.le hp fun e67 u68 f_5 hp => ?_
     refine cl0 hp st (fun s _ _ hx_8 => ZpX s.fle hx_8 (f_4.mono st.le) (f_5.mono st.le)) fun r69 h_7 st hp => ⟨_, rfl, ?_⟩
     refine brQ hp (fun hp => ?_) fun hp => ?_
     ·obtain rfl := oI hp
      obtain rfl := oI hs_4
      obtain rfl := oI hs_3
      obtain rfl := oI hs
      exact ⟨rfl, nlS st⟩
     ·obtain rfl := oI hp
      exact ⟨m_4, ltS, nlS st, hs_4⟩
    ·obtain rfl := oI hp
     obtain rfl := oI hs_4
     exact ⟨m_3, ltS, nlS st, hs_3⟩
   ·obtain rfl := oI hp
    obtain rfl := oI hs_3
    obtain rfl := oI hs
    exact ⟨rfl, nlS st⟩
theorem ZvW {o0 p0 v0_2 r} (hp : Zfn o0 = some r) (ck0 : CellsC (hcell h) p0 [.int .i64 o0.Kind, .int .i64 o0.Size, v0_2]) (f0_2 : SlC ψ eL v0_2 o0.Rows) : CallsH P Zlr #[.pointer (some p0)] h (fun v h' => ∃ w0 : Value, v = .agg #[.int .i64 r.Levels, .int .i64 r.Columns, w0] ∧ S ψ h h' [.it (El.sl eL) [w0] r.Rows]) := by
 apply Zpx
 rw [Zfn] at hp
 have st := S.start hψ
 refine new_S st fun b2 h_2 st => ?_
 refine ⟨fun _ => False, ?_⟩
 have stR_2 := st
 have xR_2 := ExtH.refl h_2
 refine Ziz st fun b3 h_3 xE st => ⟨ExtBut.of_ext (xR_2.trans xE), ?_⟩
 replace xR_2 := xR_2.trans xE
 refine ZA ?_
 refine kI ck0 stR_2.le 1 ?_
 refine Z7 ?_
 refine kV ck0 stR_2.le 2 ?_
 refine Zz (f0_2.mono st.leF).one ?_
 refine Zb st 0 rfl rfl rfl rfl fun h_4 st => ?_
 refine Zb st 0 rfl rfl rfl rfl fun h_5 st => ?_
 refine Zb st 0 rfl rfl rfl (f0_2.mono st.leF).one fun h_6 st => ?_
 dsimp only [List.set] at st
 refine kV ck0 st.le 2 ?_
 refine vL f0_2 st.leF ?_
 refine brQ hp (fun hp => ?_) fun hp => ?_
 ·refine kV ck0 st.le 2 ?_
  refine ixV f0_2 st.leF hp fun e23 u24 f hp => ?_
  refine vL f st.leF ?_
  refine Zb st 0 rfl rfl rfl rfl fun h_7 st => ?_
  dsimp only [List.set] at st
  refine bI st 0 0 ?_
  refine bI st 0 1 ?_
  refine bV st 0 2 ?_
  refine Zb st 1 rfl rfl rfl rfl fun h_8 st => ?_
  refine Zb st 1 rfl rfl rfl rfl fun h_9 st => ?_
  refine Zb st 1 rfl rfl rfl (f0_2.mono st.leF).one fun h_10 st => ?_
  dsimp only [List.set] at st
  refine bI st 1 0 ?_
  refine bI st 1 1 ?_
  refine bV st 1 2 ?_
  have st := st.arg f0_2
  obtain rfl := oI hp
  exact ⟨v0_2, rfl, pk st [0]⟩
 ·refine bI st 0 0 ?_
  refine bI st 0 1 ?_
  refine bV st 0 2 ?_
  refine Zb st 1 rfl rfl rfl rfl fun h_11 st => ?_
  refine Zb st 1 rfl rfl rfl rfl fun h_12 st => ?_
  refine Zb st 1 rfl rfl rfl (f0_2.mono st.leF).one fun h_13 st => ?_
  dsimp only [List.set] at st
  refine bI st 1 0 ?_
  refine bI st 1 1 ?_
  refine bV st 1 2 ?_
  have st := st.arg f0_2
  obtain rfl := oI hp
  exact ⟨v0_2, rfl, pk st [0]⟩
theorem Zvb {levels0 column1 r} (hp : ZgZ levels0 column1 = some r)  : zR Zk6 #[.int .i64 levels0, .int .i64 column1] h ψ (.bool r) := by
 apply ZqV
 rw [ZgZ] at hp
 have st := S.start hψ
 refine cl0 hp st (fun s _ _ hx => Zac s.fle hx) fun r6 h_2 st hp => ⟨_, rfl, ?_⟩
 refine brR hp (fun hp => tZ) fun hp => ?_
 refine cl0 hp st (fun s_2 _ _ hx_2 => Zac s_2.fle hx_2) fun r9 h_3 st hp => ⟨_, rfl, ?_⟩
 exact tZ
theorem Zte {y0 p0 v0_2 r} (hp : Zex y0 = some r) (ck0 : CellsC (hcell h) p0 [.int .i64 y0.Levels, .int .i64 y0.Columns, v0_2]) (f0_2 : SlC (hcell h) eL v0_2 y0.Rows) : zR Zlc #[.pointer (some p0)] h ψ (.bool r) := by
 apply ZrJ
 rw [Zex] at hp
 have st := S.start hψ
 refine ⟨fun h_2 => S ψ h h_2 [] ∧ Zgs y0 = some r, ?_, ?_⟩
 ·refine kI ck0 st.le 0 ?_
  refine kI ck0 st.le 1 ?_
  refine cl0 hp st (fun s_2 _ _ hx_6 => Zvb s_2.fle hx_6) fun r13 h_6 st hp => ⟨_, rfl, ?_⟩
  refine brQ hp (fun hp => tZ) fun hp => ?_
  refine kV ck0 st.le 2 ?_
  refine vL f0_2 st.le ?_
  exact brQ hp (fun hp => tZ) fun hp => tZ
 ·rintro _ h_2 ⟨st, hp⟩
  rw [Zgs] at hp
  refine lp1 hp (nlS st) fun m y3 h_3 a st hp hs => ?_
  rw [Zd0] at hp
  refine kV ck0 st.le 2 ?_
  refine vL f0_2 st.le ?_
  refine brR hp (fun hp => tZ) fun hp => ?_
  refine kV ck0 st.le 2 ?_
  refine ixV f0_2 st.le hp fun e37 u38 f hp => ?_
  refine vL f st.le ?_
  refine kI ck0 st.le 1 ?_
  refine brQ hp (fun hp => tZ) fun hp => ?_
  refine lp1 hp (nlS st) fun m_2 y4 h_4 a_2 st hp hs_2 => ?_
  rw [Zca] at hp
  refine kV ck0 st.le 2 ?_
  refine ixV f0_2 st.le hp fun e51 u52 f_2 hp => ?_
  refine vL f_2 st.le ?_
  refine brQ hp (fun hp => ?_) fun hp => ?_
  ·refine kV ck0 st.le 2 ?_
   refine ixV f0_2 st.le hp fun e62 u63 f_3 hp => ?_
   refine ixI (f_3.mono st.le) hp fun e65 hp => ?_
   refine kI ck0 st.le 0 ?_
   refine cl0 hp st (fun s _ _ hx_5 => Zac s.fle hx_5) fun r72 h_5 st hp => ⟨_, rfl, ?_⟩
   refine brQ hp (fun hp => ?_) fun hp => ?_
   ·obtain rfl := oI hp
    obtain rfl := oI hs_2
    obtain rfl := oI hs
    exact ⟨rfl, nlS st⟩
   ·obtain rfl := oI hp
    exact ⟨m_2, ltS, nlS st, hs_2⟩
  ·obtain rfl := oI hp
   obtain rfl := oI hs_2
   exact ⟨m, ltS, nlS st, hs⟩
theorem ZkG {q0 r} (hp : Za4 q0 = some r)  : zR ZeI #[.int .i64 q0] h ψ (.tuple #[.int .i64 r.1, .int .i64 r.2]) := by
 apply Zr9
 rw [Za4] at hp
 have st := S.start hψ
 refine cl0 hp st (fun s _ _ hx => Zac s.fle hx) fun r8 h_2 st hp => ⟨_, rfl, ?_⟩
 refine brQ hp (fun hp => tZ) fun hp => ?_
 refine lp1 hp (nlS st) fun m p4 h_3 a st hp hs => ?_
 rw [ZgT] at hp
 obtain ⟨_, hx_2, hp⟩ := obind hp
 refine ⟨Zaa hx_2, ?_⟩
 refine brQ hp (fun hp => tZ) fun hp => ?_
 refine lp2 hp (nlS st) fun m_2 k5 n6 h_4 a_2 st hp hs_2 => ?_
 rw [ZhB] at hp
 refine brQ hp (fun hp => ?_) fun hp => ?_
 ·obtain ⟨_, hx_3, hp⟩ := obind hp
  refine ⟨Zaa hx_3, ?_⟩
  refine brQ hp (fun hp => ?_) fun hp => ?_
  ·obtain rfl := oI hp
   obtain rfl := oI hs_2
   obtain rfl := oI hs
   exact ⟨rfl, nlS st⟩
  ·obtain ⟨_, hx_4, hp⟩ := obind hp
   refine ⟨Zaa hx_4, ?_⟩
   obtain rfl := oI hp
   exact ⟨m_2, ltS, nlS st, hs_2⟩
 ·obtain rfl := oI hp
  obtain rfl := oI hs_2
  obtain rfl := oI hs
  exact ⟨rfl, nlS st⟩
theorem Zc0 {a0 p1 n2 r} (hp : Zav a0 p1 n2 = some r)  : zL ZbV #[.int .i64 a0, .int .i64 p1, .int .i64 n2] h ψ eI r := by
 apply Zqq
 rw [Zav] at hp
 have st := S.start hψ
 refine Zan (E := eI) (css := []) (xs := ([] : List Int)) st (fun _ => rfl) rfl rfl fun v8 h_2 st => ?_
 obtain ⟨n_2, hn⟩ := Zy hp
 refine ⟨fun n a0_2 n2_2 v7 h_3 => ∃ out7 : List Int, S ψ h h_3 [.it oL [v7] out7] ∧ loopN (ZbP p1) n (a0_2, n2_2, out7) = some r, ⟨n_2, _, pk st [0], hn⟩, ?_⟩
 rintro n _ a0_2 n2_2 v7 h_3 ⟨out7, st, hn⟩
 obtain ⟨m, a, rfl, hp, hs⟩ := Zw hn
 rw [ZbP] at hp
 refine brQ hp (fun hp => ?_) fun hp => ?_
 ·obtain ⟨_, hx, hp⟩ := obind hp
  refine ⟨Zaa hx, ?_⟩
  obtain ⟨l18, hx_2, hp⟩ := obind hp
  refine Zad st 0 rfl (fun _ => ⟨rfl, rfl⟩) rfl rfl hx_2 fun v18 h_4 st => ?_
  dsimp only [List.set] at st
  obtain ⟨_, hx_3, hp⟩ := obind hp
  refine ⟨Zaa hx_3, ?_⟩
  obtain rfl := oI hp
  exact ⟨m, ltS, _, pk st [0], hs⟩
 ·obtain rfl := oI hp
  obtain rfl := oI hs
  exact ⟨v7, rfl, pk st [0]⟩
theorem Zii {p0 k1 r} (hp : Zck p0 k1 = some r)  : zR Zf3 #[.int .i64 p0, .int .i64 k1] h ψ (.int .i64 r) := by
 apply ZqX
 rw [Zck] at hp
 have st := S.start hψ
 refine lp2 hp (nlS st) fun m k1_2 out5 h_2 a st hp hs => ?_
 rw [ZhP] at hp
 exact brQ hp (fun hp => tZ) fun hp => tZ
theorem ZnQ {y0 v0 y1 v1 y2 r} (hp : ZbJ y0 y1 y2 = some r) (f0 : SlC (hcell h) eI v0 y0) (f1 : SlC (hcell h) eI v1 y1) : zL Zgx #[v0, v1, .int .i64 y2] h ψ eI r := by
 apply ZqB
 rw [ZbJ] at hp
 have st := S.start hψ
 refine cl1 hp st (fun s _ _ hx => Zlh s.fle hx (f0.mono st.le)) fun r14 v14 h_2 st hp => ⟨_, rfl, ?_⟩
 refine vL f1 st.le ?_
 refine ZC (st.rdL 0 rfl (Za _)) ?_
 obtain ⟨n_6, hn⟩ := Zy hp
 refine ⟨fun n y9 h_3 => ∃ xs : List Int, S ψ h h_3 [.it oL [v14] xs] ∧ loopN (ZaI y1 y2) n (y9, xs) = some r, ⟨n_6, _, pk st [0], hn⟩, ?_⟩
 rintro n _ y9 h_3 ⟨xs, st, hn⟩
 obtain ⟨m, a, rfl, hp, hs⟩ := Zw hn
 rw [ZaI] at hp
 refine brQ hp (fun hp => ?_) fun hp => ?_
 ·refine ixI (st.rdL 0 rfl (Za _)) hp fun e28 hp => ?_
  obtain ⟨n_3, hn_2⟩ := Zy hp
  refine ⟨fun n_2 y11 h_4 => ∃ xs_2 : List Int, S ψ h h_4 [.it oL [v14] xs_2] ∧ loopN (Zb4 y1 y2 y9 e28) n_2 (y11, xs_2) = some a, ⟨n_3, _, pk st [0], hn_2⟩, ?_⟩
  rintro n_2 _ y11 h_4 ⟨xs_2, st, hn_2⟩
  obtain ⟨m_2, a_2, rfl, hp, hs_2⟩ := Zw hn_2
  rw [Zb4] at hp
  refine brQ hp (fun hp => ?_) fun hp => ?_
  ·refine ixI (st.rdL 0 rfl (Za _)) hp fun e45 hp => ?_
   refine ixI (f1.mono st.le) hp fun e52 hp => ?_
   obtain ⟨_, hx_5, hp⟩ := obind hp
   refine ⟨Zaa hx_5, ?_⟩
   refine ixA (st.rdL 0 rfl (Za _)) hp fun e58 p58 ad_4 hx_6 hp => ?_
   refine st1_S st 0 rfl ad_4 hx_6 rfl (fun _ => ⟨rfl, rfl⟩) fun h_5 st => ?_
   dsimp only [List.set] at st
   obtain rfl := oI hp
   exact ⟨m_2, ltS, _, pk st [0], hs_2⟩
  ·obtain rfl := oI hp
   obtain rfl := oI hs_2
   exact ⟨m, ltS, _, pk st [0], hs⟩
 ·obtain ⟨n_5, hn_3⟩ := Zy hp
  refine ⟨fun n_4 v7 h_6 => ∃ y7 : List Int, S ψ h h_6 [.it oL [v7] y7] ∧ loopN (Zbn y1) n_4 y7 = some a, ⟨n_5, _, pk st [0], hn_3⟩, ?_⟩
  rintro n_4 _ v7 h_6 ⟨y7, st, hn_3⟩
  obtain ⟨m_3, a_3, rfl, hp, hs_3⟩ := Zw hn_3
  rw [Zbn] at hp
  refine ZC (st.rdL 0 rfl (Za _)) ?_
  refine brQ hp (fun hp => ?_) fun hp => ?_
  ·refine ZC (st.rdL 0 rfl (Za _)) ?_
   obtain ⟨l67, hx_7, hp⟩ := obind hp
   refine cut_S none (some (IntKind.i64.wrap ((y7.length : Int) - 1))) st 0 rfl hx_7 rfl fun v67 st => ?_
   dsimp only [List.set] at st
   obtain rfl := oI hp
   exact ⟨m_3, ltS, _, pk st [0], hs_3⟩
  ·obtain rfl := oI hp
   obtain rfl := oI hs_3
   obtain rfl := oI hs
   exact ⟨v7, rfl, pk st [0]⟩
theorem Zi8 {list0 v0 p1 r} (hp : Zax list0 p1 = some r) (f0 : SlC (hcell h) eI v0 list0) : zR Ze6 #[v0, .int .i64 p1] h ψ (.int .i64 r) := by
 apply ZuR
 rw [Zax] at hp
 have st := S.start hψ
 refine vL f0 st.le ?_
 refine lp2 hp (nlS st) fun m out5 i6 h_2 a st hp hs => ?_
 rw [Zcx] at hp
 refine brR hp (fun hp => tZ) fun hp => ?_
 refine ixI (f0.mono st.le) hp fun e19 hp => ?_
 exact tZ
theorem ZlP {poly0 v0 p1 r} (hp : Zd2 poly0 p1 = some r) (f0 : SlC (hcell h) eI v0 poly0) : zR Zhx #[v0, .int .i64 p1] h ψ (.bool r) := by
 apply Zrp
 rw [Zd2] at hp
 have st := S.start hψ
 refine vL f0 st.le ?_
 refine lp1 hp (nlS st) fun m d6 h_2 a st hp hs => ?_
 rw [Zhb] at hp
 refine brR hp (fun hp => tZ) fun hp => ?_
 refine lp1 hp (nlS st) fun m_2 n7 h_3 a_2 st hp hs_2 => ?_
 rw [ZhF] at hp
 refine cl0 hp st (fun s _ _ hx => Zii s.fle hx) fun r22 h_4 st hp => ⟨_, rfl, ?_⟩
 refine brQ hp (fun hp => ?_) fun hp => ?_
 ·refine cl1 hp st (fun s_2 _ _ hx_2 => Zc0 s_2.fle hx_2) fun r29 v29 h_5 st hp => ⟨_, rfl, ?_⟩
  obtain ⟨l31, hx_3, hp⟩ := obind hp
  refine Zad st 0 rfl (fun _ => ⟨rfl, rfl⟩) rfl rfl hx_3 fun v31 h_6 st => ?_
  dsimp only [List.set] at st
  refine cl1 hp st (fun s_3 _ _ hx_4 => ZnQ s_3.fle hx_4 (f0.mono st.le) (st.rdL 0 rfl (Za _))) fun r35 v35 h_7 st hp => ⟨_, rfl, ?_⟩
  refine cl0 hp st (fun s_4 _ _ hx_5 => Zi8 s_4.fle hx_5 (st.rdL 0 rfl (Za _))) fun r38 h_8 st hp => ⟨_, rfl, ?_⟩
  refine brQ hp (fun hp => ?_) fun hp => ?_
  ·obtain rfl := oI hp
   obtain rfl := oI hs_2
   obtain rfl := oI hs
   exact ⟨rfl, nlS st⟩
  ·obtain rfl := oI hp
   exact ⟨m_2, ltS, nlS st, hs_2⟩
 ·obtain rfl := oI hp
  obtain rfl := oI hs_2
  exact ⟨m, ltS, nlS st, hs⟩
theorem ZpO {q0 r} (hp : Zc5 q0 = some r)  : CallsH P ZiF #[.int .i64 q0] h (fun v h' => ∃ w0 : Value, v = .agg #[.int .i64 r.Prime, .int .i64 r.Degree, w0] ∧ S ψ h h' [.it oL [w0] r.Poly]) := by
 apply ZsG
 rw [Zc5] at hp
 have st := S.start hψ
 refine new_S st fun b2 h_2 st => ?_
 refine cl0 hp st (fun s _ _ hx => ZkG s.fle hx) fun r9 h_3 st hp => ⟨_, _, rfl, ?_⟩
 refine lp1 (os := [.box b2 [.int .i64 0, .int .i64 0, (.slice none 0 0)]]) hp (pk st [0]) fun m n5 h_4 a st hp hs => ?_
 rw [Zhy] at hp
 refine cl1 hp st (fun s_2 _ _ hx_2 => Zc0 s_2.fle hx_2) fun r17 v17 h_5 st hp => ⟨_, rfl, ?_⟩
 obtain ⟨l19, hx_3, hp⟩ := obind hp
 refine Zad st 0 rfl (fun _ => ⟨rfl, rfl⟩) rfl rfl hx_3 fun v19 h_6 st => ?_
 dsimp only [List.set] at st
 refine cl0 hp st (fun s_3 _ _ hx_4 => ZlP s_3.fle hx_4 (st.rdL 0 rfl (Za _))) fun r22 h_7 st hp => ⟨_, rfl, ?_⟩
 refine brQ hp (fun hp => ?_) fun hp => ?_
 ·refine Zz (st.rdL 0 rfl (Za _)).one ?_
  refine Zb st 1 rfl rfl rfl rfl fun h_8 st => ?_
  refine Zb st 1 rfl rfl rfl rfl fun h_9 st => ?_
  refine Zb st 1 rfl rfl rfl (st.rdL 0 rfl (Za _)).one fun h_10 st => ?_
  dsimp only [List.set] at st
  refine bI st 1 0 ?_
  refine bI st 1 1 ?_
  refine bV st 1 2 ?_
  obtain rfl := oI hp
  obtain rfl := oI hs
  exact ⟨v19, rfl, pk st [0]⟩
 ·obtain rfl := oI hp
  exact ⟨m, ltS, pk st [1], hs⟩
theorem Ztc {o0 p0 v0_2 r} (hp : Zfs o0 = some r) (ck0 : CellsC (hcell h) p0 [.int .i64 o0.Kind, .int .i64 o0.Size, v0_2]) (f0_2 : SlC ψ eL v0_2 o0.Rows) : CallsH P Zje #[.pointer (some p0)] h (fun v h' => ∃ w0 : Value, ∃ w1 : Value, v = .agg #[.int .i64 r.Field.Prime, .int .i64 r.Field.Degree, w0, w1] ∧ S ψ h h' [.it oL [w0] r.Field.Poly, .it (El.sl eL) [w1] r.Rows]) := by
 apply Zs1
 rw [Zfs] at hp
 have st := S.start hψ
 refine new_S st fun b2 h_2 st => ?_
 refine kI ck0 st.le 1 ?_
 refine cl0 hp st (fun s _ _ hx => ZkG s.fle hx) fun r10 h_3 st hp => ⟨_, _, rfl, ?_⟩
 refine brQ hp (fun hp => ?_) fun hp => ?_
 ·refine Zb st 0 rfl rfl rfl rfl fun h_4 st => ?_
  refine Zb st 0 rfl rfl rfl rfl fun h_5 st => ?_
  refine Zb st 0 rfl rfl rfl rfl fun h_6 st => ?_
  refine Zb st 0 rfl rfl rfl rfl fun h_7 st => ?_
  dsimp only [List.set] at st
  refine bI st 0 0 ?_
  refine bI st 0 1 ?_
  refine bV st 0 2 ?_
  refine bV st 0 3 ?_
  have st := st.nilO (E := eI)
  have st := st.nilF (E := eL)
  obtain rfl := oI hp
  exact ⟨(.slice none 0 0), (.slice none 0 0), rfl, pk st [1,0]⟩
 ·refine ⟨fun _ => False, ?_⟩
  have stR_5 := st
  have xR_5 := ExtH.refl h_3
  refine kI ck0 st.le 1 ?_
  obtain ⟨r20, hx_2, hp⟩ := obind hp
  obtain ⟨φ_2, L_2, s_2, r_3⟩ := id st
  refine (ZpO s_2.fle hx_2).mono fun v_3 h_8 ⟨v20, eq_2, t_2⟩ => ⟨_, _, _, eq_2, ExtBut.of_ext (xR_5.trans t_2.ext), ?_⟩
  replace xR_5 := xR_5.trans t_2.ext
  replace st := join1 s_2 r_3 t_2
  clear t_2 s_2 r_3
  refine Z7 ?_
  refine kV ck0 stR_5.le 2 ?_
  refine Zz (f0_2.mono st.leF).one ?_
  refine Zb st 1 rfl rfl rfl rfl fun h_9 st => ?_
  refine Zb st 1 rfl rfl rfl rfl fun h_10 st => ?_
  refine Zb st 1 rfl rfl rfl (st.rdL 0 rfl (Za _)).one fun h_11 st => ?_
  refine Zb st 1 rfl rfl rfl (f0_2.mono st.leF).one fun h_12 st => ?_
  dsimp only [List.set] at st
  refine bI st 1 0 ?_
  refine bI st 1 1 ?_
  refine bV st 1 2 ?_
  refine bV st 1 3 ?_
  have st := st.arg f0_2
  obtain rfl := oI hp
  exact ⟨v20, v0_2, rfl, pk st [1,0]⟩
theorem Ztv {y0 p0 v0_2 r} (hp : Zc7 y0 = some r) (ck0 : CellsC (hcell h) p0 [.int .i64 y0.Prime, .int .i64 y0.Degree, v0_2]) (f0_2 : SlC (hcell h) eI v0_2 y0.Poly) : zR Zkz #[.pointer (some p0)] h ψ (.bool r) := by
 apply ZqY
 rw [Zc7] at hp
 have st := S.start hψ
 refine ⟨fun h_2 => S ψ h h_2 [] ∧ ZeP y0 = some r, ?_, ?_⟩
 ·refine kI ck0 st.le 0 ?_
  refine cl0 hp st (fun s_5 _ _ hx_6 => Zac s_5.fle hx_6) fun r11 h_8 st hp => ⟨_, rfl, ?_⟩
  refine brQ hp (fun hp => tZ) fun hp => ?_
  refine kI ck0 st.le 1 ?_
  refine cl0 hp st (fun s_6 _ _ hx_7 => Zac s_6.fle hx_7) fun r18 h_9 st hp => ⟨_, rfl, ?_⟩
  refine brQ hp (fun hp => tZ) fun hp => ?_
  refine kV ck0 st.le 2 ?_
  refine vL f0_2 st.le ?_
  refine kI ck0 st.le 1 ?_
  refine brQ hp (fun hp => tZ) fun hp => ?_
  refine kV ck0 st.le 2 ?_
  refine kI ck0 st.le 1 ?_
  refine ixI (f0_2.mono st.le) hp fun e43 hp => ?_
  exact brQ hp (fun hp => tZ) fun hp => tZ
 ·rintro _ h_2 ⟨st, hp⟩
  rw [ZeP] at hp
  refine kI ck0 st.le 0 ?_
  refine kI ck0 st.le 1 ?_
  refine cl0 hp st (fun s _ _ hx => Zii s.fle hx) fun r55 h_3 st hp => ⟨_, rfl, ?_⟩
  refine cl0 hp st (fun s_2 _ _ hx_2 => ZkG s_2.fle hx_2) fun r58 h_4 st hp => ⟨_, _, rfl, ?_⟩
  refine kI ck0 st.le 0 ?_
  refine brQ hp (fun hp => tZ) fun hp => ?_
  refine lp1 hp (nlS st) fun m y6 h_5 a st hp hs => ?_
  rw [Zhu] at hp
  refine kV ck0 st.le 2 ?_
  refine vL f0_2 st.le ?_
  refine brQ hp (fun hp => ?_) fun hp => ?_
  ·refine kV ck0 st.le 2 ?_
   refine ixI (f0_2.mono st.le) hp fun e81 hp => ?_
   refine cl0 hp st (fun s_3 _ _ hx_4 => Zac s_3.fle hx_4) fun r85 h_6 st hp => ⟨_, rfl, ?_⟩
   exact brQ hp (fun hp => tZ) fun hp => tZ
  ·refine kV ck0 st.le 2 ?_
   refine cl0 hp st (fun s_4 _ _ hx_5 => ZlP s_4.fle hx_5 (f0_2.mono st.le)) fun r92 h_7 st hp => ⟨_, rfl, ?_⟩
   exact tZ
theorem ZnX {f0 p0 v0_2 r} (hp : ZbF f0 = some r) (ck0 : CellsC (hcell h) p0 [.int .i64 f0.Prime, .int .i64 f0.Degree, v0_2]) (f0_2 : SlC (hcell h) eI v0_2 f0.Poly) : zR Zhc #[.pointer (some p0)] h ψ (.int .i64 r) := by
 apply Zv9
 rw [ZbF] at hp
 have st := S.start hψ
 refine kI ck0 st.le 0 ?_
 refine kI ck0 st.le 1 ?_
 refine cl0 hp st (fun s _ _ hx => Zii s.fle hx) fun r11 h_2 st hp => ⟨_, rfl, ?_⟩
 exact tZ
theorem ZoW {f0 p0 v0_2 v1 v1_2 r} (hp : ZfS f0 v1 = some r) (ck0 : CellsC (hcell h) p0 [.int .i64 f0.Prime, .int .i64 f0.Degree, v0_2]) (f0_2 : SlC (hcell h) eI v0_2 f0.Poly) (f1 : SlC (hcell h) eI v1_2 v1) : zR ZiP #[.pointer (some p0), v1_2] h ψ (.bool r) := by
 apply ZuB
 rw [ZfS] at hp
 have st := S.start hψ
 refine cl0 hp st (fun s _ _ hx => ZnX s.fle hx (ck0.mono st.le) (f0_2.mono st.le)) fun r8 h_2 st hp => ⟨_, rfl, ?_⟩
 refine lp1 hp (nlS st) fun m i6 h_3 a st hp hs => ?_
 rw [Zcc] at hp
 refine vL f1 st.le ?_
 refine brR hp (fun hp => tZ) fun hp => ?_
 refine ixI (f1.mono st.le) hp fun e17 hp => ?_
 refine cl0 hp st (fun s_2 _ _ hx_3 => Zac s_2.fle hx_3) fun r21 h_4 st hp => ⟨_, rfl, ?_⟩
 exact brQ hp (fun hp => tZ) fun hp => tZ
theorem ZpS {f0 p0 v0_2 m1 v1 r} (hp : ZfV f0 m1 = some r) (ck0 : CellsC (hcell h) p0 [.int .i64 f0.Prime, .int .i64 f0.Degree, v0_2]) (f0_2 : SlC (hcell h) eI v0_2 f0.Poly) (f1 : SlC (hcell h) eL v1 m1) : zR Zlt #[.pointer (some p0), v1] h ψ (.bool r) := by
 apply ZuT
 rw [ZfV] at hp
 have st := S.start hψ
 refine ⟨fun h_2 => S ψ h h_2 [] ∧ Zg1 f0 m1 = some r, ?_, ?_⟩
 ·refine cl0 hp st (fun s_2 _ _ hx_5 => Ztv s_2.fle hx_5 (ck0.mono st.le) (f0_2.mono st.le)) fun r7 h_5 st hp => ⟨_, rfl, ?_⟩
  refine brQ hp (fun hp => tZ) fun hp => ?_
  refine vL f1 st.le ?_
  refine brQ hp (fun hp => tZ) fun hp => ?_
  refine vL f1 st.le ?_
  refine brQ hp (fun hp => tZ) fun hp => ?_
  refine ixV f1 st.le hp fun e21 u22 f_4 hp => ?_
  refine vL f_4 st.le ?_
  refine brQ hp (fun hp => tZ) fun hp => ?_
  refine ixV f1 st.le hp fun e28 u29 f_5 hp => ?_
  refine vL f_5 st.le ?_
  exact brQ hp (fun hp => tZ) fun hp => tZ
 ·rintro _ h_2 ⟨st, hp⟩
  rw [Zg1] at hp
  refine lp1 hp (nlS st) fun m i5 h_3 a st hp hs => ?_
  rw [Zc8] at hp
  refine vL f1 st.le ?_
  refine brR hp (fun hp => tZ) fun hp => ?_
  refine ixV f1 st.le hp fun e41 u42 f hp => ?_
  refine vL f st.le ?_
  refine ixV f1 st.le hp fun e45 u46 f_2 hp => ?_
  refine vL f_2 st.le ?_
  refine brQ hp (fun hp => tZ) fun hp => ?_
  refine ixV f1 st.le hp fun e53 u54 f_3 hp => ?_
  refine cl0 hp st (fun s _ _ hx_4 => ZoW s.fle hx_4 (ck0.mono st.le) (f0_2.mono st.le) (f_3.mono st.le)) fun r55 h_4 st hp => ⟨_, rfl, ?_⟩
  exact brQ hp (fun hp => tZ) fun hp => tZ
theorem ZqN {q0 k1 r} (hp : Zht q0 k1 = some r)  : zR Zj2 #[.int .i64 q0, .int .i64 k1] h ψ (.int .i64 r) := by
 apply Zsx
 rw [Zht] at hp
 have st := S.start hψ
 refine lp2 hp (nlS st) fun m k1_2 n5 h_2 a st hp hs => ?_
 rw [ZdW] at hp
 refine brR hp (fun hp => tZ) fun hp => ?_
 exact brQ hp (fun hp => tZ) fun hp => tZ
theorem Zr7 {m0 v0 r} (hp : ZfB m0 = some r) (f0 : SlC (hcell h) eL v0 m0) : zL ZiY #[v0] h ψ eL r := by
 apply Zr3
 rw [ZfB] at hp
 have st := S.start hψ
 refine Zan (E := eL) (css := []) (xs := ([] : List (List Int))) st (fun _ => rfl) rfl rfl fun v5 h_2 st => ?_
 obtain ⟨n_2, hn⟩ := Zy hp
 refine ⟨fun n v3 i4 h_3 => ∃ out3 : List (List Int), S ψ h h_3 [.it (El.ow eL) [v3] out3] ∧ loopN (Zda m0) n (out3, i4) = some r, ⟨n_2, _, pk st [0], hn⟩, ?_⟩
 rintro n _ v3 i4 h_3 ⟨out3, st, hn⟩
 obtain ⟨m, a, rfl, hp, hs⟩ := Zw hn
 rw [Zda] at hp
 refine vL f0 st.le ?_
 refine brQ hp (fun hp => ?_) fun hp => ?_
 ·refine ixV f0 st.le hp fun e15 u16 f hp => ?_
  refine cl1 hp st (fun s _ _ hx_2 => Zlh s.fle hx_2 (f.mono st.le)) fun r17 v17 h_4 st hp => ⟨_, rfl, ?_⟩
  refine Zz (st.rdL 0 rfl (Za _)).one ?_
  have st := st.freeze 0 rfl (Ze (Za _))
  dsimp only [List.set] at st
  have st := st.copyF 0 rfl
  obtain ⟨l19, hx_3, hp⟩ := obind hp
  refine Zcn st 1 rfl rfl rfl hx_3 fun v19 h_5 st => ?_
  dsimp only [List.set] at st
  obtain rfl := oI hp
  exact ⟨m, ltS, _, pk st [1], hs⟩
 ·obtain rfl := oI hp
  obtain rfl := oI hs
  exact ⟨v3, rfl, pk st [0]⟩
theorem Zln {y0 p0 v0_2 y1 y2 r} (hp : Zb6 y0 y1 y2 = some r) (ck0 : CellsC (hcell h) p0 [.int .i64 y0.Prime, .int .i64 y0.Degree, v0_2]) (f0_2 : SlC (hcell h) eI v0_2 y0.Poly) : zR ZeM #[.pointer (some p0), .int .i64 y1, .int .i64 y2] h ψ (.int .i64 r) := by
 apply Zvn
 rw [Zb6] at hp
 have st := S.start hψ
 refine kI ck0 st.le 0 ?_
 refine kI ck0 st.le 1 ?_
 refine cl1 hp st (fun s _ _ hx => Zc0 s.fle hx) fun r21 v21 h_2 st hp => ⟨_, rfl, ?_⟩
 refine kI ck0 st.le 0 ?_
 refine kI ck0 st.le 1 ?_
 refine cl1 hp st (fun s_2 _ _ hx_2 => Zc0 s_2.fle hx_2) fun r31 v31 h_3 st hp => ⟨_, rfl, ?_⟩
 refine kI ck0 st.le 1 ?_
 obtain ⟨l38, hx_3, hp⟩ := obind hp
 refine Zaz (E := eI) st rfl hx_3 fun v38 h_4 st => ?_
 obtain ⟨n_4, hn⟩ := Zy hp
 refine ⟨fun n y10 h_5 => ∃ xs : List Int, S ψ h h_5 [.it oL [v38] xs, .it oL [v31] r31, .it oL [v21] r21] ∧ loopN (ZbN y0 r21 r31) n (y10, xs) = some r, ⟨n_4, _, pk st [0,1,2], hn⟩, ?_⟩
 rintro n _ y10 h_5 ⟨xs, st, hn⟩
 obtain ⟨m, a, rfl, hp, hs⟩ := Zw hn
 rw [ZbN] at hp
 refine ZC (st.rdL 2 rfl (Za _)) ?_
 refine brQ hp (fun hp => ?_) fun hp => ?_
 ·obtain ⟨n_3, hn_2⟩ := Zy hp
  refine ⟨fun n_2 y11 h_6 => ∃ xs_2 : List Int, S ψ h h_6 [.it oL [v38] xs_2, .it oL [v31] r31, .it oL [v21] r21] ∧ loopN (ZfL y0 r21 r31 y10) n_2 (y11, xs_2) = some a, ⟨n_3, _, pk st [0,1,2], hn_2⟩, ?_⟩
  rintro n_2 _ y11 h_6 ⟨xs_2, st, hn_2⟩
  obtain ⟨m_2, a_2, rfl, hp, hs_2⟩ := Zw hn_2
  rw [ZfL] at hp
  refine ZC (st.rdL 1 rfl (Za _)) ?_
  refine brQ hp (fun hp => ?_) fun hp => ?_
  ·refine ixI (st.rdL 0 rfl (Za _)) hp fun e59 hp => ?_
   refine ixI (st.rdL 2 rfl (Za _)) hp fun e63 hp => ?_
   refine ixI (st.rdL 1 rfl (Za _)) hp fun e67 hp => ?_
   refine kI ck0 st.le 0 ?_
   obtain ⟨_, hx_7, hp⟩ := obind hp
   refine ⟨Zaa hx_7, ?_⟩
   refine ixA (st.rdL 0 rfl (Za _)) hp fun e76 p76 ad_4 hx_8 hp => ?_
   refine st1_S st 0 rfl ad_4 hx_8 rfl (fun _ => ⟨rfl, rfl⟩) fun h_7 st => ?_
   dsimp only [List.set] at st
   obtain rfl := oI hp
   exact ⟨m_2, ltS, _, pk st [0,1,2], hs_2⟩
  ·obtain rfl := oI hp
   obtain rfl := oI hs_2
   exact ⟨m, ltS, _, pk st [0,1,2], hs⟩
 ·refine ⟨fun _ => False, ?_⟩
  have stR_12 := st
  have xR_12 := ExtH.refl h_5
  refine kV ck0 st.le 2 ?_
  refine kI ck0 st.le 0 ?_
  obtain ⟨r86, hx_9, hp⟩ := obind hp
  obtain ⟨φ_3, L_3, s_3, r_4⟩ := id st
  refine (ZnQ s_3.fle hx_9 (st.rdL 0 rfl (Za _)) (f0_2.mono st.le)).mono fun v_4 h_8 ⟨v86, eq_3, t_3⟩ => ⟨_, eq_3, ExtBut.of_ext (xR_12.trans t_3.ext), ?_⟩
  replace xR_12 := xR_12.trans t_3.ext
  replace st := join1 s_3 r_4 t_3
  clear t_3 s_3 r_4
  refine ZA ?_
  refine kI ck0 stR_12.le 0 ?_
  refine cl0 hp st (fun s_4 _ _ hx_10 => Zi8 s_4.fle hx_10 (st.rdL 0 rfl (Za _))) fun r91 h_9 st hp => ⟨_, rfl, ?_⟩
  exact tZ
theorem ZwP {f0 p0 v0_2 v1 v1_2 c2 r} (hp : Zf7 f0 v1 c2 = some r) (ck0 : CellsC (hcell h) p0 [.int .i64 f0.Prime, .int .i64 f0.Degree, v0_2]) (f0_2 : SlC (hcell h) eI v0_2 f0.Poly) (f1 : SlC (hcell h) eI v1_2 v1) : zL Zi0 #[.pointer (some p0), v1_2, .int .i64 c2] h ψ eI r := by
 apply Zv1
 rw [Zf7] at hp
 have st := S.start hψ
 refine Zan (E := eI) (css := []) (xs := ([] : List Int)) st (fun _ => rfl) rfl rfl fun v9 h_2 st => ?_
 obtain ⟨n_2, hn⟩ := Zy hp
 refine ⟨fun n v7 i8 h_3 => ∃ out7 : List Int, S ψ h h_3 [.it oL [v7] out7] ∧ loopN (ZdJ f0 v1 c2) n (out7, i8) = some r, ⟨n_2, _, pk st [0], hn⟩, ?_⟩
 rintro n _ v7 i8 h_3 ⟨out7, st, hn⟩
 obtain ⟨m, a, rfl, hp, hs⟩ := Zw hn
 rw [ZdJ] at hp
 refine vL f1 st.le ?_
 refine brQ hp (fun hp => ?_) fun hp => ?_
 ·refine ixI (f1.mono st.le) hp fun e20 hp => ?_
  refine cl0 hp st (fun s _ _ hx_2 => Zln s.fle hx_2 (ck0.mono st.le) (f0_2.mono st.le)) fun r23 h_4 st hp => ⟨_, rfl, ?_⟩
  obtain ⟨l25, hx_3, hp⟩ := obind hp
  refine Zad st 0 rfl (fun _ => ⟨rfl, rfl⟩) rfl rfl hx_3 fun v25 h_5 st => ?_
  dsimp only [List.set] at st
  obtain rfl := oI hp
  exact ⟨m, ltS, _, pk st [0], hs⟩
 ·obtain rfl := oI hp
  obtain rfl := oI hs
  exact ⟨v7, rfl, pk st [0]⟩
theorem ZrQ {f0 p0 v0_2 a1 r} (hp : Zfa f0 a1 = some r) (ck0 : CellsC (hcell h) p0 [.int .i64 f0.Prime, .int .i64 f0.Degree, v0_2]) (f0_2 : SlC (hcell h) eI v0_2 f0.Poly) : zR Zlw #[.pointer (some p0), .int .i64 a1] h ψ (.int .i64 r) := by
 apply ZwK
 rw [Zfa] at hp
 have st := S.start hψ
 refine lp1 hp (nlS st) fun m b5 h_2 a st hp hs => ?_
 rw [Zes] at hp
 refine cl0 hp st (fun s _ _ hx => Zln s.fle hx (ck0.mono st.le) (f0_2.mono st.le)) fun r9 h_3 st hp => ⟨_, rfl, ?_⟩
 exact brQ hp (fun hp => tZ) fun hp => tZ
theorem Zvp {f0 p0 v0_2 a1 b2 k3 r} (hp : ZfI f0 a1 b2 k3 = some r) (ck0 : CellsC (hcell h) p0 [.int .i64 f0.Prime, .int .i64 f0.Degree, v0_2]) (f0_2 : SlC (hcell h) eI v0_2 f0.Poly) : zR ZiO #[.pointer (some p0), .int .i64 a1, .int .i64 b2, .int .i64 k3] h ψ (.int .i64 r) := by
 apply Zrg
 rw [ZfI] at hp
 have st := S.start hψ
 refine kI ck0 st.le 0 ?_
 refine kI ck0 st.le 1 ?_
 refine cl1 hp st (fun s _ _ hx => Zc0 s.fle hx) fun r21 v21 h_2 st hp => ⟨_, rfl, ?_⟩
 refine kI ck0 st.le 0 ?_
 refine kI ck0 st.le 1 ?_
 refine cl1 hp st (fun s_2 _ _ hx_2 => Zc0 s_2.fle hx_2) fun r31 v31 h_3 st hp => ⟨_, rfl, ?_⟩
 obtain ⟨n_2, hn⟩ := Zy hp
 refine ⟨fun n i11 h_4 => ∃ xs : List Int, S ψ h h_4 [.it oL [v31] r31, .it oL [v21] xs] ∧ loopN (Zc6 f0 k3 r31) n (i11, xs) = some r, ⟨n_2, _, pk st [0,1], hn⟩, ?_⟩
 rintro n _ i11 h_4 ⟨xs, st, hn⟩
 obtain ⟨m, a, rfl, hp, hs⟩ := Zw hn
 rw [Zc6] at hp
 refine ZC (st.rdL 1 rfl (Za _)) ?_
 refine brQ hp (fun hp => ?_) fun hp => ?_
 ·refine ixI (st.rdL 1 rfl (Za _)) hp fun e42 hp => ?_
  refine ixI (st.rdL 0 rfl (Za _)) hp fun e47 hp => ?_
  refine kI ck0 st.le 0 ?_
  obtain ⟨_, hx_5, hp⟩ := obind hp
  refine ⟨Zaa hx_5, ?_⟩
  refine ixA (st.rdL 1 rfl (Za _)) hp fun e56 p56 ad_3 hx_6 hp => ?_
  refine st1_S st 1 rfl ad_3 hx_6 rfl (fun _ => ⟨rfl, rfl⟩) fun h_5 st => ?_
  dsimp only [List.set] at st
  obtain rfl := oI hp
  exact ⟨m, ltS, _, pk st [0,1], hs⟩
 ·refine kI ck0 st.le 0 ?_
  refine cl0 hp st (fun s_3 _ _ hx_7 => Zi8 s_3.fle hx_7 (st.rdL 1 rfl (Za _))) fun r62 h_6 st hp => ⟨_, rfl, ?_⟩
  exact tZ
theorem Zo4 {f0 p0 v0_2 v1 v1_2 w2 v2 c3 r} (hp : ZeK f0 v1 w2 c3 = some r) (ck0 : CellsC (hcell h) p0 [.int .i64 f0.Prime, .int .i64 f0.Degree, v0_2]) (f0_2 : SlC (hcell h) eI v0_2 f0.Poly) (f1 : SlC (hcell h) eI v1_2 v1) (f2 : SlC (hcell h) eI v2 w2) : zL Zjy #[.pointer (some p0), v1_2, v2, .int .i64 c3] h ψ eI r := by
 apply ZrI
 rw [ZeK] at hp
 have st := S.start hψ
 refine Zan (E := eI) (css := []) (xs := ([] : List Int)) st (fun _ => rfl) rfl rfl fun v11 h_2 st => ?_
 obtain ⟨n_2, hn⟩ := Zy hp
 refine ⟨fun n v9 i10 h_3 => ∃ out9 : List Int, S ψ h h_3 [.it oL [v9] out9] ∧ loopN (Zc1 f0 v1 w2 c3) n (out9, i10) = some r, ⟨n_2, _, pk st [0], hn⟩, ?_⟩
 rintro n _ v9 i10 h_3 ⟨out9, st, hn⟩
 obtain ⟨m, a, rfl, hp, hs⟩ := Zw hn
 rw [Zc1] at hp
 refine vL f1 st.le ?_
 refine brQ hp (fun hp => ?_) fun hp => ?_
 ·refine ⟨fun _ => False, ?_⟩
  have stR_5 := st
  have xR_5 := ExtH.refl h_3
  refine ixI (f2.mono st.le) hp fun e27 hp => ?_
  obtain ⟨r30, hx_2, hp⟩ := obind hp
  obtain ⟨φ, L, s, r_2⟩ := id st
  refine (Zln s.fle hx_2 (ck0.mono st.le) (f0_2.mono st.le)).mono fun v_2 h_4 ⟨eq, t⟩ => ⟨_, eq, ExtBut.of_ext (xR_5.trans t.ext), ?_⟩
  replace xR_5 := xR_5.trans t.ext
  replace st := join0 s r_2 t
  clear t s r_2
  refine ixA (f1.mono st.le) hp fun e22 p22 ad_2 hx_3 hp => ?_
  refine ZA ?_
  refine ldI_C (f1.mono stR_5.le) ad_2 hx_3 ?_
  refine ZA ?_
  refine kI ck0 stR_5.le 0 ?_
  refine cl0 hp st (fun s_2 _ _ hx_4 => Zvp s_2.fle hx_4 (ck0.mono st.le) (f0_2.mono st.le)) fun r36 h_5 st hp => ⟨_, rfl, ?_⟩
  obtain ⟨l38, hx_5, hp⟩ := obind hp
  refine Zad st 0 rfl (fun _ => ⟨rfl, rfl⟩) rfl rfl hx_5 fun v38 h_6 st => ?_
  dsimp only [List.set] at st
  obtain rfl := oI hp
  exact ⟨m, ltS, _, pk st [0], hs⟩
 ·obtain rfl := oI hp
  obtain rfl := oI hs
  exact ⟨v9, rfl, pk st [0]⟩
theorem Zpv {y0 p0 v0_2 y1 v1 y2 r} (hp : Zg7 y0 y1 y2 = some r) (ck0 : CellsC (hcell h) p0 [.int .i64 y0.Prime, .int .i64 y0.Degree, v0_2]) (f0_2 : SlC (hcell h) eI v0_2 y0.Poly) (f1 : SlC (hcell h) eL v1 y1) : CallsH P Zit #[.pointer (some p0), v1, .int .i64 y2] h (fun v h' => ∃ w0 : Value, ∃ w1 : Value, v = .tuple #[w0, w1] ∧ S ψ h h' [.it (El.ow eL) [w0] r.1, .it oL [w1] r.2]) := by
 apply Zrk
 rw [Zg7] at hp
 have st := S.start hψ
 refine cl1 hp st (fun s _ _ hx => Zr7 s.fle hx (f1.mono st.le)) fun r16 v16 h_2 st hp => ⟨_, rfl, ?_⟩
 refine Zan (E := eI) (css := []) (xs := ([] : List Int)) st (fun _ => rfl) rfl rfl fun v17 h_3 st => ?_
 obtain ⟨n_6, hn⟩ := Zy hp
 refine ⟨fun n v9 y10 h_4 => ∃ y9 : List Int, ∃ xs : List (List Int), S ψ h h_4 [.it oL [v9] y9, .it (El.ow eL) [v16] xs] ∧ loopN (Zbj y0 y2) n (y9, y10, xs) = some r, ⟨n_6, _, _, pk st [0,1], hn⟩, ?_⟩
 rintro n _ v9 y10 h_4 ⟨y9, xs, st, hn⟩
 obtain ⟨m, a, rfl, hp, hs⟩ := Zw hn
 rw [Zbj] at hp
 refine ⟨fun h_5 => S ψ h h_5 [.it oL [v9] y9, .it (El.ow eL) [v16] xs] ∧ ZfM y0 y9 y10 xs = some a, ?_, ?_⟩
 ·refine brQ hp (fun hp => ?_) fun hp => ?_
  ·refine ZC (st.rdL 0 rfl (Za _)) ?_
   refine ZC (st.rdL 1 rfl (ZN _)) ?_
   refine brQ hp (fun hp => ?_) fun hp => ?_
   ·exact ⟨pk st [0,1], hp⟩
   ·obtain rfl := oI hp
    obtain rfl := oI hs
    exact ⟨v16, v9, rfl, pk st [1,0]⟩
  ·obtain rfl := oI hp
   obtain rfl := oI hs
   exact ⟨v16, v9, rfl, pk st [1,0]⟩
 ·rintro _ h_5 ⟨st, hp⟩
  rw [ZfM] at hp
  refine ZC (st.rdL 0 rfl (Za _)) ?_
  refine ⟨fun y12 h_6 => S ψ h h_6 [.it oL [v9] y9, .it (El.ow eL) [v16] xs] ∧ Zae y0 y9 y10 xs y12 = some a, ?_, ?_⟩
  ·refine lp1 (os := [.it oL [v9] y9, .it (El.ow eL) [v16] xs]) hp (pk st [0,1]) fun m_3 y12_2 h_15 a_3 st hp hs_3 => ?_
   rw [Zbr] at hp
   refine ZC (st.rdL 1 rfl (ZN _)) ?_
   refine brQ hp (fun hp => ?_) fun hp => ?_
   ·refine ixA (st.rdL 1 rfl (ZN _)) hp fun e40 p40 ad_11 hx_16 hp => ?_
    refine Zc9 st 1 rfl ad_11 hx_16 fun u41 st => ?_
    refine ixI (st.rdF 0 rfl) hp fun e43 hp => ?_
    refine brQ hp (fun hp => ?_) fun hp => ?_
    ·obtain rfl := oI hp
     exact ⟨m_3, ltS, pk st [1,2], hs_3⟩
    ·obtain ⟨xm, hq, rfl⟩ := omap hp
     obtain rfl := oI hs_3
     exact ⟨pk st [1,2], hq⟩
   ·obtain ⟨xm, hq, rfl⟩ := omap hp
    obtain rfl := oI hs_3
    exact ⟨pk st [0,1], hq⟩
  ·rintro _ y12 h_6 ⟨st, hp⟩
   rw [Zae] at hp
   refine ZC (st.rdL 1 rfl (ZN _)) ?_
   refine brQ hp (fun hp => ?_) fun hp => ?_
   ·obtain rfl := oI hp
    exact ⟨m, ltS, _, _, pk st [0,1], hs⟩
   ·refine ⟨fun _ => False, ?_⟩
    have stR_9 := st
    have xR_9 := ExtH.refl h_6
    refine ixA (st.rdL 1 rfl (ZN _)) hp fun e61 p61 ad hx_2 hp => ?_
    refine Zc9 st 1 rfl ad hx_2 fun u62 st => ?_
    refine ixI (st.rdF 0 rfl) hp fun e64 hp => ?_
    obtain ⟨r66, hx_4, hp⟩ := obind hp
    obtain ⟨φ_2, L_2, s_2, r_3⟩ := id st
    refine (ZrQ s_2.fle hx_4 (ck0.mono st.le) (f0_2.mono st.le)).mono fun v_3 h_7 ⟨eq_2, t_2⟩ => ⟨_, eq_2, ExtBut.of_ext (xR_9.trans t_2.ext), ?_⟩
    replace xR_9 := xR_9.trans t_2.ext
    replace st := join0 s_2 r_3 t_2
    clear t_2 s_2 r_3
    refine ixA (st.rdL 2 rfl (ZN _)) hp fun e56 p56 ad_3 hx_5 hp => ?_
    refine Z7 ?_
    refine ldV_C (stR_9.rdL 1 rfl (ZN _)) (CLe.refl _) ad_3 hx_5 fun u57 f => ?_
    refine cl1 hp st (fun s_3 _ _ hx_6 => ZwP s_3.fle hx_6 (ck0.mono st.le) (f0_2.mono st.le) (f.mono (CLe.ext xR_9))) fun r67 v67 h_8 st hp => ⟨_, rfl, ?_⟩
    refine ixA (st.rdL 3 rfl (ZN _)) hp fun e72 p72 ad_4 hx_7 hp => ?_
    refine Zc9 st 3 rfl ad_4 hx_7 fun u73 st => ?_
    refine ixA (st.rdL 4 rfl (ZN _)) hp fun e74 p74 ad_5 hx_8 hp => ?_
    have st := st.copyF 0 rfl
    refine Zh1 st 4 rfl ad_5 hx_8 rfl fun h_9 st => ?_
    dsimp only [List.set] at st
    refine ixA (st.rdL 4 rfl (ZN _)) hp fun e78 p78 ad_6 hx_9 hp => ?_
    have st := st.freeze 1 rfl (Ze (Za _))
    dsimp only [List.set] at st
    have st := st.copyF 1 rfl
    refine Zh1 st 4 rfl ad_6 hx_9 rfl fun h_10 st => ?_
    dsimp only [List.set] at st
    obtain ⟨n_3, hn_2⟩ := Zy hp
    refine ⟨fun n_2 y14 h_11 => ∃ xs_2 : List (List Int), S ψ h h_11 [.it eL [u73] e72, .it eL [v67] r67, .it eL [u62] e61, .it oL [v9] y9, .it (El.ow eL) [v16] xs_2] ∧ loopN (Zcy y0 y9 y10 r67) n_2 (y14, xs_2) = some a, ⟨n_3, _, pk st [0,1,2,3,4], hn_2⟩, ?_⟩
    rintro n_2 _ y14 h_11 ⟨xs_2, st, hn_2⟩
    obtain ⟨m_2, a_2, rfl, hp, hs_2⟩ := Zw hn_2
    rw [Zcy] at hp
    refine ZC (st.rdL 4 rfl (ZN _)) ?_
    refine brQ hp (fun hp => ?_) fun hp => ?_
    ·refine brQ hp (fun hp => ?_) fun hp => ?_
     ·refine ixA (st.rdL 4 rfl (ZN _)) hp fun e93 p93 ad_7 hx_10 hp => ?_
      refine Zc9 st 4 rfl ad_7 hx_10 fun u94 st => ?_
      refine ixA (st.rdL 5 rfl (ZN _)) hp fun e98 p98 ad_8 hx_11 hp => ?_
      refine Zc9 st 5 rfl ad_8 hx_11 fun u99 st => ?_
      refine ixI (st.rdF 0 rfl) hp fun e101 hp => ?_
      refine cl1 hp st (fun s_4 _ _ hx_13 => Zo4 s_4.fle hx_13 (ck0.mono st.le) (f0_2.mono st.le) (st.rdF 1 rfl) (st.rdF 3 rfl)) fun r103 v103 h_12 st hp => ⟨_, rfl, ?_⟩
      refine ixA (st.rdL 7 rfl (ZN _)) hp fun e104 p104 ad_10 hx_14 hp => ?_
      have st := st.freeze 0 rfl (Ze (Za _))
      dsimp only [List.set] at st
      have st := st.copyF 0 rfl
      refine Zh1 st 7 rfl ad_10 hx_14 rfl fun h_13 st => ?_
      dsimp only [List.set] at st
      obtain rfl := oI hp
      exact ⟨m_2, ltS, _, pk st [3,4,5,6,7], hs_2⟩
     ·obtain rfl := oI hp
      exact ⟨m_2, ltS, _, pk st [0,1,2,3,4], hs_2⟩
    ·obtain ⟨l108, hx_15, hp⟩ := obind hp
     refine Zad st 3 rfl (fun _ => ⟨rfl, rfl⟩) rfl rfl hx_15 fun v108 h_14 st => ?_
     dsimp only [List.set] at st
     obtain rfl := oI hp
     obtain rfl := oI hs_2
     exact ⟨m, ltS, _, _, pk st [3,4], hs⟩
theorem Zpk {f0 p0 v0_2 m1 v1 r} (hp : ZfN f0 m1 = some r) (ck0 : CellsC (hcell h) p0 [.int .i64 f0.Prime, .int .i64 f0.Degree, v0_2]) (f0_2 : SlC (hcell h) eI v0_2 f0.Poly) (f1 : SlC (hcell h) eL v1 m1) : zL Zia #[.pointer (some p0), v1] h ψ eL r := by
 apply Ztk
 rw [ZfN] at hp
 have st := S.start hψ
 refine ixV f1 st.le hp fun e11 u12 f hp => ?_
 refine vL f st.le ?_
 refine cl2 hp st (fun s _ _ hx_2 => Zpv s.fle hx_2 (ck0.mono st.le) (f0_2.mono st.le) (f1.mono st.le)) fun r14 v14 v14_2 h_2 st hp => ⟨_, _, rfl, ?_⟩
 refine ZC (st.rdL 1 rfl (Za _)) ?_
 obtain ⟨l20, hx_3, hp⟩ := obind hp
 refine cut_S none (some (r14.2.length : Int)) st 0 rfl hx_3 rfl fun v20 st => ?_
 dsimp only [List.set] at st
 obtain rfl := oI hp
 exact ⟨v20, rfl, pk st [0]⟩
theorem ZrV {c0 p0 v0_2 v0_3 r} (hp : ZcY c0 = some r) (ck0 : CellsC (hcell h) p0 [.int .i64 c0.Field.Prime, .int .i64 c0.Field.Degree, v0_2, v0_3]) (f0_2 : SlC (hcell h) eI v0_2 c0.Field.Poly) (f0_3 : SlC (hcell h) eL v0_3 c0.Rows) : zR ZlI #[.pointer (some p0)] h ψ (.bool r) := by
 apply ZvH
 rw [ZcY] at hp
 have st := S.start hψ
 refine ⟨fun h_2 => S ψ h h_2 [] ∧ Zhw c0 = some r, ?_, ?_⟩
 ·refine kV ck0 st.le 3 ?_
  refine cl0 hp st (fun s_5 _ _ hx_5 => ZpS s_5.fle hx_5 (CellsC.part 0 3 (ck0.mono st.le)) (f0_2.mono st.le) (f0_3.mono st.le)) fun r10 h_7 st hp => ⟨_, rfl, ?_⟩
  refine brQ hp (fun hp => tZ) fun hp => ?_
  refine kV ck0 st.le 3 ?_
  refine ixV f0_3 st.le hp fun e17 u18 f hp => ?_
  refine vL f st.le ?_
  refine brQ hp (fun hp => tZ) fun hp => ?_
  refine kV ck0 st.le 3 ?_
  refine vL f0_3 st.le ?_
  exact brQ hp (fun hp => tZ) fun hp => tZ
 ·rintro _ h_2 ⟨st, hp⟩
  rw [Zhw] at hp
  refine ⟨fun _ => False, ?_⟩
  have stR_2 := st
  have xR_2 := ExtH.refl h_2
  obtain ⟨r33, hx, hp⟩ := obind hp
  obtain ⟨φ, L, s, r_2⟩ := id st
  refine (ZnX s.fle hx (CellsC.part 0 3 (ck0.mono st.le)) (f0_2.mono st.le)).mono fun v_2 h_3 ⟨eq, t⟩ => ⟨_, eq, ExtBut.of_ext (xR_2.trans t.ext), ?_⟩
  replace xR_2 := xR_2.trans t.ext
  replace st := join0 s r_2 t
  clear t s r_2
  refine Z7 ?_
  refine kV ck0 stR_2.le 3 ?_
  refine vL f0_3 st.le ?_
  refine cl0 hp st (fun s_2 _ _ hx_2 => ZqN s_2.fle hx_2) fun r39 h_4 st hp => ⟨_, rfl, ?_⟩
  refine brQ hp (fun hp => tZ) fun hp => ?_
  refine ⟨fun _ => False, ?_⟩
  have stR_4 := st
  have xR_4 := ExtH.refl h_4
  refine kV ck0 st.le 3 ?_
  obtain ⟨r48, hx_3, hp⟩ := obind hp
  obtain ⟨φ_3, L_3, s_3, r_4⟩ := id st
  refine (Zpk s_3.fle hx_3 (CellsC.part 0 3 (ck0.mono st.le)) (f0_2.mono st.le) (f0_3.mono st.le)).mono fun v_4 h_5 ⟨v48, eq_3, t_3⟩ => ⟨_, eq_3, ExtBut.of_ext (xR_4.trans t_3.ext), ?_⟩
  replace xR_4 := xR_4.trans t_3.ext
  replace st := join1 s_3 r_4 t_3
  clear t_3 s_3 r_4
  refine Z7 ?_
  refine kV ck0 stR_4.le 3 ?_
  refine cl0 hp st (fun s_4 _ _ hx_4 => ZnI s_4.fle hx_4 (st.rdL 0 rfl (ZN _)) (f0_3.mono st.le)) fun r53 h_6 st hp => ⟨_, rfl, ?_⟩
  exact tZ
theorem Zu3 {y0 p0 v0_2 r} (hp : ZdC y0 = some r) (ck0 : CellsC (hcell h) p0 [.int .i64 y0.Kind, .int .i64 y0.Size, v0_2]) (f0_2 : SlC ψ eL v0_2 y0.Rows) : zR ZjC #[.pointer (some p0)] h ψ (.bool r) := by
 apply Zvz
 rw [ZdC] at hp
 have st := S.start hψ
 refine kI ck0 st.le 0 ?_
 refine brQ hp (fun hp => ?_) fun hp => ?_
 ·refine kV ck0 st.le 2 ?_
  refine cl0 hp st (fun s _ _ hx => ZvU s.fle hx (f0_2.mono st.leF)) fun r17 h_2 st hp => ⟨_, rfl, ?_⟩
  refine brR hp (fun hp => tZ) fun hp => ?_
  refine kV ck0 st.le 2 ?_
  refine vL f0_2 st.leF ?_
  refine kI ck0 st.le 1 ?_
  exact tZ
 ·refine brQ hp (fun hp => ?_) fun hp => ?_
  ·refine kI ck0 st.le 1 ?_
   refine kV ck0 st.le 2 ?_
   refine Zz (f0_2.mono st.leF).one ?_
   refine new_S st fun b41 h_3 st => ?_
   refine cl0 hp st (fun s_2 _ _ hx_2 => ZvI s_2.fle hx_2 (st.cells 0 rfl) (f0_2.mono st.leF)) fun r42 h_4 st hp => ⟨_, rfl, ?_⟩
   exact tZ
  ·refine brQ hp (fun hp => ?_) fun hp => ?_
   ·refine kV ck0 st.le 2 ?_
    refine cl0 hp st (fun s_3 _ _ hx_3 => Zv2 s_3.fle hx_3 (f0_2.mono st.leF)) fun r49 h_5 st hp => ⟨_, rfl, ?_⟩
    refine brR hp (fun hp => tZ) fun hp => ?_
    refine kV ck0 st.le 2 ?_
    refine vL f0_2 st.leF ?_
    refine kI ck0 st.le 1 ?_
    exact tZ
   ·refine brQ hp (fun hp => ?_) fun hp => ?_
    ·refine cl1 hp st (fun s_4 _ _ hx_4 => ZvW s_4.fle hx_4 (ck0.mono st.le) (f0_2.mono s_4.bas)) fun r65 v65 h_6 st hp => ⟨_, _, _, rfl, ?_⟩
     refine new_S st fun b3 h_7 st => ?_
     refine Zb st 0 rfl rfl rfl rfl fun h_8 st => ?_
     refine Zb st 0 rfl rfl rfl rfl fun h_9 st => ?_
     refine Zb st 0 rfl rfl rfl (st.rdF 1 rfl).one fun h_10 st => ?_
     dsimp only [List.set] at st
     refine kV ck0 st.le 2 ?_
     refine vL f0_2 st.leF ?_
     refine brR hp (fun hp => tZ) fun hp => ?_
     refine cl0 hp st (fun s_5 _ _ hx_5 => Zte s_5.fle hx_5 (st.cells 0 rfl) (st.rdF 1 rfl)) fun r73 h_11 st hp => ⟨_, rfl, ?_⟩
     exact tZ
    ·refine brQ hp (fun hp => ?_) fun hp => ?_
     ·refine cl2 hp st (fun s_6 _ _ hx_6 => Ztc s_6.fle hx_6 (ck0.mono st.le) (f0_2.mono s_6.bas)) fun r78 v78 v78_2 h_12 st hp => ⟨_, _, _, _, rfl, ?_⟩
      refine new_S st fun b4 h_13 st => ?_
      refine Zb st 0 rfl rfl rfl rfl fun h_14 st => ?_
      refine Zb st 0 rfl rfl rfl rfl fun h_15 st => ?_
      refine Zb st 0 rfl rfl rfl (st.rdL 1 rfl (Za _)).one fun h_16 st => ?_
      refine Zb st 0 rfl rfl rfl (st.rdF 2 rfl).one fun h_17 st => ?_
      dsimp only [List.set] at st
      refine cl0 hp st (fun s_7 _ _ hx_7 => ZrV s_7.fle hx_7 (st.cells 0 rfl) (st.rdL 1 rfl (Za _)) (st.rdF 2 rfl)) fun r79 h_18 st hp => ⟨_, rfl, ?_⟩
      exact tZ
     ·refine brQ hp (fun hp => ?_) fun hp => ?_
      ·refine cl2 hp st (fun s_8 _ _ hx_8 => Zoe s_8.fle hx_8 (ck0.mono st.le) (f0_2.mono st.leF)) fun r84 v84 v84_2 h_19 st hp => ⟨_, _, _, rfl, ?_⟩
       refine new_S st fun b5 h_20 st => ?_
       refine Zb st 0 rfl rfl rfl (st.rdL 1 rfl (Za _)).one fun h_21 st => ?_
       refine Zb st 0 rfl rfl rfl (st.rdL 2 rfl frzf_T_impl_Edge).one fun h_22 st => ?_
       dsimp only [List.set] at st
       exact tZ
      ·refine brR hp (fun hp => tZ) fun hp => ?_
       refine kI ck0 st.le 1 ?_
       refine kV ck0 st.le 2 ?_
       refine Zz (f0_2.mono st.leF).one ?_
       refine new_S st fun b99 h_23 st => ?_
       refine cl0 hp st (fun s_9 _ _ hx_9 => Zvo s_9.fle hx_9 (st.cells 0 rfl) (f0_2.mono st.leF)) fun r100 h_24 st hp => ⟨_, rfl, ?_⟩
       exact tZ
theorem Zze {c0 r} (hp : ZwZ c0 = some r)  : zR Zx2 #[.int .u8 c0] h ψ (.bool r) := by
 apply Zzt
 rw [ZwZ] at hp
 have st := S.start hψ
 exact brQ hp (fun hp => tZ) fun hp => tZ
theorem ZAL {c0 r} (hp : Zxa c0 = some r)  : zR ZyC #[.int .u8 c0] h ψ (.bool r) := by
 apply Zzq
 rw [Zxa] at hp
 have st := S.start hψ
 exact brQ hp (fun hp => tZ) fun hp => tZ
theorem Zzz {s0 r} (hp : ZxZ s0 = some r)  : zR Zym #[.string s0] h ψ (.bool r) := by
 apply Zz5
 rw [ZxZ] at hp
 have st := S.start hψ
 refine ⟨fun h_2 => S ψ h h_2 [] ∧ Zx7 s0 = some r, ?_, ?_⟩
 ·refine brQ hp (fun hp => tZ) fun hp => ?_
  refine brQ hp (fun hp => tZ) fun hp => ?_
  obtain ⟨c13, hx_5, hp⟩ := obind hp
  refine ZyM hx_5 ?_
  refine cl0 hp st (fun s_3 _ _ hx_6 => Zze s_3.fle hx_6) fun r14 h_6 st hp => ⟨_, rfl, ?_⟩
  exact brQ hp (fun hp => tZ) fun hp => tZ
 ·rintro _ h_2 ⟨st, hp⟩
  rw [Zx7] at hp
  refine lp1 hp (nlS st) fun m i3 h_3 a st hp hs => ?_
  rw [Zxb] at hp
  refine brR hp (fun hp => tZ) fun hp => ?_
  obtain ⟨c25, hx, hp⟩ := obind hp
  refine ZyM hx ?_
  refine cl0 hp st (fun s _ _ hx_2 => Zze s.fle hx_2) fun r26 h_4 st hp => ⟨_, rfl, ?_⟩
  refine brR hp (fun hp => tZ) fun hp => ?_
  obtain ⟨c31, hx_3, hp⟩ := obind hp
  refine ZyM hx_3 ?_
  refine cl0 hp st (fun s_2 _ _ hx_4 => ZAL s_2.fle hx_4) fun r32 h_5 st hp => ⟨_, rfl, ?_⟩
  exact brQ hp (fun hp => tZ) fun hp => tZ
theorem ZAt {x0 p0 v0_3 r} (hp : ZxL x0 = some r) (ck0 : CellsC (hcell h) p0 [.string x0.Name, .int .i64 x0.Object.Kind, .int .i64 x0.Object.Size, v0_3, .string x0.Key]) (f0_3 : SlC (hcell h) eL v0_3 x0.Object.Rows) : zR Zyo #[.pointer (some p0)] h ψ (.bool r) := by
 apply Zz2
 rw [ZxL] at hp
 have st := S.start hψ
 refine kS ck0 st.le 0 ?_
 refine cl0 hp st (fun s _ _ hx => Zzz s.fle hx) fun r7 h_2 st hp => ⟨_, rfl, ?_⟩
 refine brR hp (fun hp => tZ) fun hp => ?_
 obtain ⟨r12, hx_2, hp⟩ := obind hp
 obtain ⟨φ_2, L_2, s_2, r_3⟩ := id st
 refine (Zu3 (CLe.refl _) hx_2 (CellsC.part 1 3 (ck0.mono st.le)) (f0_3.mono st.le)).mono fun v_3 h_3 ⟨eq_2, t_2⟩ => ⟨_, eq_2, ?_⟩
 replace st := join0 s_2 r_3 (t_2.weak s_2.fle)
 clear t_2 s_2 r_3
 refine brR hp (fun hp => tZ) fun hp => ?_
 refine kS ck0 st.le 4 ?_
 refine brR hp (fun hp => tZ) fun hp => ?_
 refine kS ck0 st.le 4 ?_
 exact tZ
theorem ZzD {a0 p0 v0_3 b1 p1 v1_3 r} (hp : ZxW a0 b1 = some r) (ck0 : CellsC (hcell h) p0 [.string a0.Name, .int .i64 a0.Object.Kind, .int .i64 a0.Object.Size, v0_3, .string a0.Key]) (f0_3 : SlC (hcell h) eL v0_3 a0.Object.Rows) (ck1 : CellsC (hcell h) p1 [.string b1.Name, .int .i64 b1.Object.Kind, .int .i64 b1.Object.Size, v1_3, .string b1.Key]) (f1_3 : SlC (hcell h) eL v1_3 b1.Object.Rows) : zR Zyw #[.pointer (some p0), .pointer (some p1)] h ψ (.bool r) := by
 apply Zz1
 rw [ZxW] at hp
 have st := S.start hψ
 refine kI ck0 st.le 1 ?_
 refine kI ck1 st.le 1 ?_
 refine brR hp (fun hp => tZ) fun hp => ?_
 refine kS ck0 st.le 4 ?_
 refine kS ck1 st.le 4 ?_
 exact tZ
theorem ZzZ {y0 p0 v0_0 r} (hp : ZxN y0 = some r) (ck0 : CellsC (hcell h) p0 [v0_0]) (f0_0 : SlC (hcell h) ZwU v0_0 y0.Items) : zR Zyv #[.pointer (some p0)] h ψ (.bool r) := by
 apply Zzm
 rw [ZxN] at hp
 have st := S.start hψ
 refine lp1 hp (nlS st) fun m y3 h_2 a st hp hs => ?_
 rw [Zw6] at hp
 refine kV ck0 st.le 0 ?_
 refine vL f0_0 st.le ?_
 refine brQ hp (fun hp => ?_) fun hp => ?_
 ·refine ⟨fun h_3 => S ψ h h_3 [] ∧ Zxz y0 y3 = some a, ?_, ?_⟩
  ·refine kV ck0 st.le 0 ?_
   refine ixA (f0_0.mono st.le) hp fun e19 p19 ad_3 hx_4 hp => ?_
   obtain ⟨cs_3, ck_3, hr_3⟩ := f0_0.cells ad_3 hx_4 rfl
   obtain ⟨v_5, rfl, f_3⟩ := ZwY hr_3
   refine cl0 hp st (fun s_2 _ _ hx_5 => ZAt s_2.fle hx_5 (ck_3.mono st.le) (f_3.mono st.le)) fun r20 h_6 st hp => ⟨_, rfl, ?_⟩
   refine brQ hp (fun hp => tZ) fun hp => ?_
   refine brR hp (fun hp => tZ) fun hp => ?_
   refine kV ck0 st.le 0 ?_
   refine ixA (f0_0.mono st.le) hp fun e32 p32 ad_4 hx_6 hp => ?_
   obtain ⟨cs_4, ck_4, hr_4⟩ := f0_0.cells ad_4 hx_6 rfl
   obtain ⟨v_7, rfl, f_4⟩ := ZwY hr_4
   refine kS ck_4 st.le 0 ?_
   refine kV ck0 st.le 0 ?_
   refine ixA (f0_0.mono st.le) hp fun e40 p40 ad_5 hx_7 hp => ?_
   obtain ⟨cs_5, ck_5, hr_5⟩ := f0_0.cells ad_5 hx_7 rfl
   obtain ⟨v_8, rfl, f_5⟩ := ZwY hr_5
   refine kS ck_5 st.le 0 ?_
   exact brQ hp (fun hp => tZ) fun hp => tZ
  ·rintro _ h_3 ⟨st, hp⟩
   rw [Zxz] at hp
   refine lp1 hp (nlS st) fun m_2 y4 h_4 a_2 st hp hs_2 => ?_
   rw [Zxv] at hp
   refine brQ hp (fun hp => ?_) fun hp => ?_
   ·refine kV ck0 st.le 0 ?_
    refine ixA (f0_0.mono st.le) hp fun e56 p56 ad hx hp => ?_
    obtain ⟨cs, ck, hr⟩ := f0_0.cells ad hx rfl
    obtain ⟨v_2, rfl, f⟩ := ZwY hr
    refine kV ck0 st.le 0 ?_
    refine ixA (f0_0.mono st.le) hp fun e62 p62 ad_2 hx_2 hp => ?_
    obtain ⟨cs_2, ck_2, hr_2⟩ := f0_0.cells ad_2 hx_2 rfl
    obtain ⟨v_3, rfl, f_2⟩ := ZwY hr_2
    refine cl0 hp st (fun s _ _ hx_3 => ZzD s.fle hx_3 (ck.mono st.le) (f.mono st.le) (ck_2.mono st.le) (f_2.mono st.le)) fun r63 h_5 st hp => ⟨_, rfl, ?_⟩
    refine brQ hp (fun hp => ?_) fun hp => ?_
    ·obtain rfl := oI hp
     obtain rfl := oI hs_2
     obtain rfl := oI hs
     exact ⟨rfl, nlS st⟩
    ·obtain rfl := oI hp
     exact ⟨m_2, ltS, nlS st, hs_2⟩
   ·obtain rfl := oI hp
    obtain rfl := oI hs_2
    exact ⟨m, ltS, nlS st, hs⟩
 ·refine kV ck0 st.le 0 ?_
  refine vL f0_0 st.le ?_
  exact tZ
theorem ZBJ {c0 p0 v0_0 name1 r} (hp : ZBd c0 name1 = some r) (ck0 : CellsC (hcell h) p0 [v0_0]) (f0_0 : SlC (hcell h) ZwU v0_0 c0.Items) : zR ZBo #[.pointer (some p0), .string name1] h ψ (.int .i64 r) := by
 apply ZBK
 rw [ZBd] at hp
 have st := S.start hψ
 refine lp1 hp (nlS st) fun m i5 h_2 a st hp hs => ?_
 rw [ZAY] at hp
 refine kV ck0 st.le 0 ?_
 refine vL f0_0 st.le ?_
 refine brR hp (fun hp => tZ) fun hp => ?_
 refine kV ck0 st.le 0 ?_
 refine ixA (f0_0.mono st.le) hp fun e20 p20 ad hx hp => ?_
 obtain ⟨cs, ck, hr⟩ := f0_0.cells ad hx rfl
 obtain ⟨v_2, rfl, f⟩ := ZwY hr
 refine kS ck st.le 0 ?_
 exact brQ hp (fun hp => tZ) fun hp => tZ
theorem ZBO {x0 p0 v0_3 r} (hp : ZA6 x0 = some r) (ck0 : CellsC (hcell h) p0 [.string x0.Name, .int .i64 x0.Object.Kind, .int .i64 x0.Object.Size, v0_3, .string x0.Key]) (f0_3 : SlC (hcell h) eL v0_3 x0.Object.Rows) : CallsH P ZBt #[.pointer (some p0)] h (fun v h' => ∃ w0 : Value, v = .agg #[.string r.Name, .int .i64 r.Object.Kind, .int .i64 r.Object.Size, w0, .string r.Key] ∧ S ψ h h' [.it (El.ow eL) [w0] r.Object.Rows]) := by
 apply ZBV
 rw [ZA6] at hp
 have st := S.start hψ
 refine new_S st fun b2 h_2 st => ?_
 obtain ⟨r19, hx, hp⟩ := obind hp
 refine ⟨fun _ => False, ?_⟩
 have stR_2 := st
 have xR_2 := ExtH.refl h_2
 refine ⟨?_, ?_⟩
 ·refine Z7 ?_
  refine kV ck0 stR_2.le 3 ?_
  obtain ⟨φ_3, L_3, s_3, r_4⟩ := id st
  refine (Zr7 s_3.fle hx (f0_3.mono st.le)).mono fun v_4 h_18 ⟨v19_3, eq_3, t_3⟩ => ⟨_, eq_3, ExtBut.of_ext (xR_2.trans t_3.ext), ?_⟩
  replace xR_2 := xR_2.trans t_3.ext
  replace st := join1 s_3 r_4 t_3
  clear t_3 s_3 r_4
  refine Ziz st fun b3_3 h_19 xE st => ⟨ExtBut.of_ext (xR_2.trans xE), ?_⟩
  replace xR_2 := xR_2.trans xE
  refine ZA ?_
  refine kI ck0 stR_2.le 1 ?_
  refine ZA ?_
  refine kI ck0 stR_2.le 2 ?_
  refine Zz (st.rdL 1 rfl (ZN _)).one ?_
  refine Zb st 0 rfl rfl rfl rfl fun h_20 st => ?_
  refine Zb st 0 rfl rfl rfl rfl fun h_21 st => ?_
  refine Zb st 0 rfl rfl rfl (st.rdL 1 rfl (ZN _)).one fun h_22 st => ?_
  dsimp only [List.set] at st
  refine kS ck0 st.le 0 ?_
  refine bI st 0 0 ?_
  refine bI st 0 1 ?_
  refine bV st 0 2 ?_
  refine kS ck0 st.le 4 ?_
  refine Zb st 2 rfl rfl rfl rfl fun h_23 st => ?_
  refine Zb st 2 rfl rfl rfl rfl fun h_24 st => ?_
  refine Zb st 2 rfl rfl rfl rfl fun h_25 st => ?_
  refine Zb st 2 rfl rfl rfl (st.rdL 1 rfl (ZN _)).one fun h_26 st => ?_
  refine Zb st 2 rfl rfl rfl rfl fun h_27 st => ?_
  dsimp only [List.set] at st
  refine bS st 2 0 ?_
  refine bI st 2 1 ?_
  refine bI st 2 2 ?_
  refine bV st 2 3 ?_
  refine bS st 2 4 ?_
  obtain rfl := oI hp
  exact ⟨v19_3, rfl, pk st [1]⟩
 ·refine Ziz st fun b3_4 h_28 xE st => ⟨ExtBut.of_ext (xR_2.trans xE), ?_⟩
  replace xR_2 := xR_2.trans xE
  refine Z7 ?_
  refine kV ck0 stR_2.le 3 ?_
  obtain ⟨φ_4, L_4, s_4, r_5⟩ := id st
  refine (Zr7 s_4.fle hx (f0_3.mono st.le)).mono fun v_5 h_29 ⟨v19_4, eq_4, t_4⟩ => ⟨_, eq_4, ExtBut.of_ext (xR_2.trans t_4.ext), ?_⟩
  replace xR_2 := xR_2.trans t_4.ext
  replace st := join1 s_4 r_5 t_4
  clear t_4 s_4 r_5
  refine ZA ?_
  refine kI ck0 stR_2.le 1 ?_
  refine ZA ?_
  refine kI ck0 stR_2.le 2 ?_
  refine Zz (st.rdL 0 rfl (ZN _)).one ?_
  refine Zb st 1 rfl rfl rfl rfl fun h_30 st => ?_
  refine Zb st 1 rfl rfl rfl rfl fun h_31 st => ?_
  refine Zb st 1 rfl rfl rfl (st.rdL 0 rfl (ZN _)).one fun h_32 st => ?_
  dsimp only [List.set] at st
  refine kS ck0 st.le 0 ?_
  refine bI st 1 0 ?_
  refine bI st 1 1 ?_
  refine bV st 1 2 ?_
  refine kS ck0 st.le 4 ?_
  refine Zb st 2 rfl rfl rfl rfl fun h_33 st => ?_
  refine Zb st 2 rfl rfl rfl rfl fun h_34 st => ?_
  refine Zb st 2 rfl rfl rfl rfl fun h_35 st => ?_
  refine Zb st 2 rfl rfl rfl (st.rdL 0 rfl (ZN _)).one fun h_36 st => ?_
  refine Zb st 2 rfl rfl rfl rfl fun h_37 st => ?_
  dsimp only [List.set] at st
  refine bS st 2 0 ?_
  refine bI st 2 1 ?_
  refine bI st 2 2 ?_
  refine bV st 2 3 ?_
  refine bS st 2 4 ?_
  obtain rfl := oI hp
  exact ⟨v19_4, rfl, pk st [0]⟩
theorem ZC6 {c0 v0_0 name1 r} (hp : ZCv c0 name1 = some r) (f0_0 : SlC (hcell h) ZwU v0_0 c0.Items) : CallsH P ZCE #[.agg #[v0_0], .string name1] h (fun v h' => ∃ w0 : Value, v = .tuple #[.agg #[w0], .int .i64 r.2] ∧ S ψ h h' [.it (El.ow ZwU) [w0] r.1.Items]) := by
 apply ZDb
 rw [ZCv] at hp
 have st := S.start hψ
 refine new_S st fun b2 h_2 st => ?_
 refine new_S st fun b4 h_3 st => ?_
 refine cl0 hp st (fun s _ _ hx => ZzZ s.fle hx (st.cells 1 rfl) (f0_0.mono st.le)) fun r9 h_4 st hp => ⟨_, rfl, ?_⟩
 refine brQ hp (fun hp => ?_) fun hp => ?_
 ·refine Zb st 0 rfl rfl rfl rfl fun h_5 st => ?_
  dsimp only [List.set] at st
  refine bV st 0 0 ?_
  have st := st.nilO (E := ZwU)
  obtain rfl := oI hp
  exact ⟨(.slice none 0 0), rfl, pk st [0]⟩
 ·refine cl0 hp st (fun s_2 _ _ hx_2 => ZBJ s_2.fle hx_2 (st.cells 1 rfl) (f0_0.mono st.le)) fun r13 h_6 st hp => ⟨_, rfl, ?_⟩
  refine brQ hp (fun hp => ?_) fun hp => ?_
  ·refine Zb st 0 rfl rfl rfl rfl fun h_7 st => ?_
   dsimp only [List.set] at st
   refine bV st 0 0 ?_
   have st := st.nilO (E := ZwU)
   obtain rfl := oI hp
   exact ⟨(.slice none 0 0), rfl, pk st [0]⟩
  ·refine new_S st fun b7 h_8 st => ?_
   refine Zb st 0 rfl rfl rfl rfl fun h_9 st => ?_
   dsimp only [List.set] at st
   have st := st.nilO (E := ZwU)
   obtain ⟨n_2, hn⟩ := Zy hp
   refine ⟨fun n i8 h_10 => ∃ xs : List ZwR, ∃ v_4 : Value, S ψ h h_10 [.box b7 [v_4], .box b4 [(.slice none 0 0)], .box b2 [v0_0], .it (El.ow ZwU) [v_4] xs] ∧ loopN (ZCo c0 r13) n (i8, xs) = some r, ⟨n_2, _, _, pk st [1,2,3,0], hn⟩, ?_⟩
   rintro n _ i8 h_10 ⟨xs, v_4, st, hn⟩
   obtain ⟨m, a, rfl, hp, hs⟩ := Zw hn
   rw [ZCo] at hp
   refine bV st 2 0 ?_
   refine vL f0_0 st.le ?_
   refine brQ hp (fun hp => ?_) fun hp => ?_
   ·refine brQ hp (fun hp => ?_) fun hp => ?_
    ·refine ⟨fun _ => False, ?_⟩
     have stR_11 := st
     have xR_11 := ExtH.refl h_10
     refine bV st 2 0 ?_
     refine ixA (f0_0.mono st.le) hp fun e33 p33 ad hx_3 hp => ?_
     obtain ⟨cs, ck, hr⟩ := f0_0.cells ad hx_3 rfl
     obtain ⟨v_5, rfl, f⟩ := ZwY hr
     obtain ⟨r34, hx_4, hp⟩ := obind hp
     obtain ⟨φ_3, L_3, s_3, r_4⟩ := id st
     refine (ZBO s_3.fle hx_4 (ck.mono st.le) (f.mono st.le)).mono fun v_6 h_11 ⟨v34, eq_3, t_3⟩ => ⟨_, _, _, _, _, eq_3, ExtBut.of_ext (xR_11.trans t_3.ext), ?_⟩
     replace xR_11 := xR_11.trans t_3.ext
     replace st := join1 s_3 r_4 t_3
     clear t_3 s_3 r_4
     refine ZO st fun b35 h_12 xE st => ⟨ExtBut.of_ext (xR_11.trans xE), ?_⟩
     replace xR_11 := xR_11.trans xE
     refine Z7 ?_
     refine ldV_K (stR_11.cells 0 rfl) 0 rfl rfl ?_
     have st := st.freeze 1 rfl (Ze (ZN _))
     dsimp only [List.set] at st
     have st := st.copyF 1 rfl
     have st := pkf_T_impl_Item (x0 := r34.Name) (x1 := r34.Object.Kind) (x2 := r34.Object.Size) (x4 := r34.Key) st
     obtain ⟨l36, hx_5, hp⟩ := obind hp
     refine ZD st 5 rfl 0 rfl rfl rfl hx_5 fun v36 h_13 xE st => ?_
     refine Zb st 2 rfl rfl rfl (st.rdL 5 rfl frzf_T_impl_Item).one fun h_14 st => ?_
     dsimp only [List.set] at st
     obtain rfl := oI hp
     exact ⟨m, ltS, _, _, pk st [2,3,4,5], hs⟩
    ·obtain rfl := oI hp
     exact ⟨m, ltS, _, _, pk st [0,1,2,3], hs⟩
   ·refine bV st 0 0 ?_
    refine Zb st 1 rfl rfl rfl (st.rdL 3 rfl frzf_T_impl_Item).one fun h_15 st => ?_
    dsimp only [List.set] at st
    refine bV st 1 0 ?_
    obtain rfl := oI hp
    obtain rfl := oI hs
    exact ⟨v_4, rfl, pk st [3]⟩
theorem Zah {n0 low1 high2 r} (hp : Z0 n0 low1 high2 = some r)  : zR Zab #[.int .i64 n0, .int .i64 low1, .int .i64 high2] h ψ (.bool r) := by
 apply Zp0
 rw [Z0] at hp
 have st := S.start hψ
 exact brQ hp (fun hp => tZ) fun hp => tZ
theorem Zmx {s0 : List (List Int)} {v0 : Value} {fn1 : (List Int) → Option Bool} {g1 : Nat} {cap1 : List Value} {r : Int} (hp : ZdU s0 fn1 = some r) (f0 : SlC (hcell h) eL v0 s0) (o1 : ctx.okf g1 = true) (k1 : ∀ {h1 : Heap}, ExtH h h1 → ∀ {ψ1 : CM}, CLe ψ1 (hcell h1) → ∀ {y0 : List Int} {u0_0 : Value} {r1 : Bool}, fn1 y0 = some r1 → SlC (hcell h1) eI u0_0 y0 → CallsH P g1 (([u0_0] : List Value) ++ cap1).toArray h1 (fun v h' => v = .bool r1 ∧ S ψ1 h1 h' [])) : zR ZhU #[v0, .func (.func g1) #[] cap1.toArray] h ψ (.int .i64 r) := by
 apply Zv4
 rw [ZdU] at hp
 have st := S.start hψ
 refine vL f0 st.le ?_
 refine lp1 hp (nlS st) fun m y8 h_2 a st hp hs => ?_
 rw [Zbh] at hp
 refine brR hp (fun hp => tZ) fun hp => ?_
 refine ixV f0 st.le hp fun e14 u15 f hp => ?_
 obtain ⟨r16, hx_2, hp⟩ := obind hp
 obtain ⟨φ, L, s, r_2⟩ := id st
 refine Zd4 o1 ?_
 refine (k1 st.ext s.fle hx_2 (f.mono st.le)).mono fun v_2 h_3 ⟨eq, t⟩ => ⟨_, eq, ?_⟩
 replace st := join0 s r_2 t
 clear t s r_2
 exact brQ hp (fun hp => tZ) fun hp => tZ
theorem Zjl {s0 : List (List Int)} {v0 : Value} {fn1 : (List Int) → Option Bool} {g1 : Nat} {cap1 : List Value} {r : Bool} (hp : Zdi s0 fn1 = some r) (f0 : SlC (hcell h) eL v0 s0) (o1 : ctx.okf g1 = true) (k1 : ∀ {h1 : Heap}, ExtH h h1 → ∀ {ψ1 : CM}, CLe ψ1 (hcell h1) → ∀ {y0 : List Int} {u0_0 : Value} {r1 : Bool}, fn1 y0 = some r1 → SlC (hcell h1) eI u0_0 y0 → CallsH P g1 (([u0_0] : List Value) ++ cap1).toArray h1 (fun v h' => v = .bool r1 ∧ S ψ1 h1 h' [])) : zR Ze2 #[v0, .func (.func g1) #[] cap1.toArray] h ψ (.bool r) := by
 apply Zp9
 rw [Zdi] at hp
 have st := S.start hψ
 refine cl0 hp st (fun s _ _ hx => Zmx s.fle hx (f0.mono st.le) o1 (fun hx1 => k1 (st.ext.trans hx1))) fun r7 h_2 st hp => ⟨_, rfl, ?_⟩
 exact tZ
theorem ZaY {list0 v0 r} (hp : ZI list0 = some r) (f0 : SlC (hcell h) eI v0 list0) : zR ZaA #[v0] h ψ (.int .i64 r) := by
 apply Zr5
 rw [ZI] at hp
 have st := S.start hψ
 refine vL f0 st.le ?_
 exact tZ
theorem ZjK {a0 v0 r} (hp : Zbu a0 = some r) (f0 : SlC (hcell h) eI v0 a0) : zL Zep #[v0] h ψ eI r := by
 apply ZtQ
 rw [Zbu] at hp
 have st := S.start hψ
 refine Zuy f0 (fun e1 e2 => Zps rfl ?_) (Zuc rfl ?_)
 ·subst e2
  obtain ⟨_, rfl⟩ := Zdj hp
  exact ⟨_, rfl, st.nilO⟩
 ·refine Zan (E := eI) (css := []) (xs := []) st (fun _ => rfl) rfl rfl fun v1 h1 st => ?_
  refine app_S st 0 rfl (ZnY (Zmh _) (f0.mono st.le)) rfl rfl hp fun v2 h2 st => ?_
  exact ⟨_, rfl, st⟩
end
theorem ZsZ {ψ : CM} {h0 h : Heap} {os : List Ob} {x0 : List Int} {v0 : Value} {r : List Int} (hp : ZeD x0 = some r) (st : S ψ h0 h (.it oL [v0] x0 :: os)) : CallsH P Zmd #[v0] h (fun v h' => v = .tuple #[] ∧ S ψ h0 h' (.it oL [v0] r :: os)) := by
  unfold ZeD at hp
  split at hp
  · rename_i hc
    obtain rfl := oI hp
    exact Zwl Tryz.sortM st hc
  · cases hp
section
variable {ψ : CM} {h : Heap} (hψ : CLe ψ (hcell h))
include hψ
theorem Zmg {p0 v0 r} (hp : Zdy p0 = some r) (f0 : SlC (hcell h) eI v0 p0) : zR Zgt #[v0] h ψ (.bool r) := by
 apply Zpb
 rw [Zdy] at hp
 have st := S.start hψ
 refine cl1 hp st (fun s _ _ hx => ZjK s.fle hx (f0.mono st.le)) fun r7 v7 h_2 st hp => ⟨_, rfl, ?_⟩
 obtain ⟨r9, hx_2, hp⟩ := obind hp
 obtain ⟨φ_2, L_2, s_2, r_3⟩ := id st
 refine (ZsZ hx_2 (s_2.upS r_3) ).mono fun v_3 h_3 ⟨eq_2, t_2⟩ => ⟨eq_2, ?_⟩
 replace st := s_2.downS t_2
 clear t_2 s_2 r_3
 refine ZC (st.rdL 0 rfl (Za _)) ?_
 refine lp1 (os := [.it oL [v7] r9]) hp (pk st [0]) fun m y12 h_4 a st hp hs => ?_
 rw [Zdf] at hp
 refine brQ hp (fun hp => ?_) fun hp => ?_
 ·refine ixI (st.rdL 0 rfl (Za _)) hp fun e15 hp => ?_
  refine brQ hp (fun hp => tZ) fun hp => ?_
  obtain rfl := oI hp
  exact ⟨m, ltS, pk st [0], hs⟩
 ·refine vL f0 st.le ?_
  exact tZ
theorem ZpY {p0 v0 y1 p1 r} (hp : ZhW p0 y1 = some r) (f0 : SlC (hcell h) eI v0 p0) (ck1 : CellsC (hcell h) p1 [.int .i64 y1]) : zR Zh8 #[v0, .pointer (some p1)] h ψ (.bool r) := by
 apply ZoJ
 rw [ZhW] at hp
 have st := S.start hψ
 refine ⟨fun _ => False, ?_⟩
 have stR_2 := st
 have xR_2 := ExtH.refl h
 obtain ⟨r5, hx, hp⟩ := obind hp
 obtain ⟨φ, L, s, r_2⟩ := id st
 refine (ZaY s.fle hx (f0.mono st.le)).mono fun v_2 h_2 ⟨eq, t⟩ => ⟨_, eq, ExtBut.of_ext (xR_2.trans t.ext), ?_⟩
 replace xR_2 := xR_2.trans t.ext
 replace st := join0 s r_2 t
 clear t s r_2
 refine ZA ?_
 refine kI ck1 stR_2.le 0 ?_
 refine brQ hp (fun hp => tZ) fun hp => ?_
 refine cl0 hp st (fun s_2 _ _ hx_2 => Zmg s_2.fle hx_2 (f0.mono st.le)) fun r10 h_3 st hp => ⟨_, rfl, ?_⟩
 exact tZ
theorem Zmb {degree0 list1 v1 r} (hp : ZdM degree0 list1 = some r) (f1 : SlC (hcell h) eL v1 list1) : zR Zhk #[.int .i64 degree0, v1] h ψ (.bool r) := by
 apply Zuh
 rw [ZdM] at hp
 have st := S.start hψ
 refine new_S st fun b2 h_2 st => ?_
 refine cl0 hp st (fun s _ _ hx => Zjl s.fle hx (f1.mono st.le) (by kernel_rfl) (fun hx1 => fun hψ1 => fun hp1 ff0 => ZpY hψ1 hp1 ff0 ((st.cells 0 rfl).mono (CLe.ext hx1)))) fun r7 h_3 st hp => ⟨_, rfl, ?_⟩
 exact tZ
theorem Znk {x0 r} (hp : ZcO x0 = some r)  : zR ZgM #[.int .i64 x0] h ψ (.bool r) := by
 apply ZrR
 rw [ZcO] at hp
 have st := S.start hψ
 exact tZ
theorem ZjJ {x0 y1 r} (hp : Za6 x0 y1 = some r)  : zR Zf6 #[.int .i64 x0, .int .i64 y1] h ψ (.int .i64 r) := by
 apply ZsM
 rw [Za6] at hp
 have st := S.start hψ
 refine cl0 hp st (fun s _ _ hx => Znk s.fle hx) fun r8 h_2 st hp => ⟨_, rfl, ?_⟩
 refine cl0 hp st (fun s_2 _ _ hx_2 => Znk s_2.fle hx_2) fun r10 h_3 st hp => ⟨_, rfl, ?_⟩
 refine brQ hp (fun hp => ?_) fun hp => ?_
 ·exact brQ hp (fun hp => tZ) fun hp => tZ
 ·refine brQ hp (fun hp => tZ) fun hp => ?_
  refine brQ hp (fun hp => tZ) fun hp => ?_
  exact brQ hp (fun hp => tZ) fun hp => tZ
theorem Zhq {s0 v0 s1 v1 r} (hp : Zam s0 s1 = some r) (f0 : SlC (hcell h) eI v0 s0) (f1 : SlC (hcell h) eI v1 s1) : zR ZdQ #[v0, v1] h ψ (.int .i64 r) := by
 apply Zst
 rw [Zam] at hp
 have st := S.start hψ
 refine vL f0 st.le ?_
 refine lp1 hp (nlS st) fun m y11 h_2 a st hp hs => ?_
 rw [Zbq] at hp
 refine brQ hp (fun hp => ?_) fun hp => ?_
 ·refine ixI (f0.mono st.le) hp fun e14 hp => ?_
  refine vL f1 st.le ?_
  refine brQ hp (fun hp => tZ) fun hp => ?_
  refine ixI (f1.mono st.le) hp fun e22 hp => ?_
  refine cl0 hp st (fun s _ _ hx_3 => ZjJ s.fle hx_3) fun r26 h_3 st hp => ⟨_, rfl, ?_⟩
  exact brQ hp (fun hp => tZ) fun hp => tZ
 ·refine vL f0 st.le ?_
  refine vL f1 st.le ?_
  exact brQ hp (fun hp => tZ) fun hp => tZ
end
theorem Zuw {ψ : CM} {h0 h : Heap} {os : List Ob} {E0 : El (List Int)} {x0 : List (List Int)} {v0 : Value} {fn1 : (List Int) → (List Int) → Option Int} {g1 : Nat} {cap1 : List Value} {r : List (List Int)} (hp : Zen x0 fn1 = some r) (st : S ψ h0 h (.it (El.ow E0) [v0] x0 :: os)) (o1 : ctx.okf g1 = true) (k1 : ∀ {h1 : Heap}, ExtH h0 h1 → ∀ {ψ1 : CM}, CLe ψ1 (hcell h1) → ∀ {y0 : List Int} {u0_0 : Value} {y1 : List Int} {u1_0 : Value} {r1 : Int}, fn1 y0 y1 = some r1 → SlC (hcell h1) eI u0_0 y0 → SlC (hcell h1) eI u1_0 y1 → CallsH P g1 (([u0_0, u1_0] : List Value) ++ cap1).toArray h1 (fun v h' => v = .int .i64 r1 ∧ S ψ1 h1 h' [])) (hz0 : E0.z = 1 := by exact rfl) (hf0 : Frz E0 eL := by first | exact Ze (Za _) | exact ZN _) : CallsH P ZmQ #[v0, .func (.func g1) #[] cap1.toArray] h (fun v h' => v = .tuple #[] ∧ S ψ h0 h' (.it (El.ow E0) [v0] r :: os)) := by
  unfold Zen at hp
  split at hp
  · rename_i hc
    obtain rfl := oI hp
    obtain ⟨fn, hf, hb, hn⟩ := ctxOk.fns g1 o1
    obtain ⟨c, hb⟩ := Option.isSome_iff_exists.1 hb
    exact ZrY Tryz.sortF Tryz.sortG st (Go.Proofs.enters_of hf hn hb) k1 hc.1 hc.2 hz0 hf0
  · cases hp
section
variable {ψ : CM} {h : Heap} (hψ : CLe ψ (hcell h))
include hψ
theorem Zu1 {n0 r} (hp : ZeN n0 = some r)  : zL ZiD #[.int .i64 n0] h ψ eI r := by
 apply Ztn
 rw [ZeN] at hp
 have st := S.start hψ
 obtain ⟨l6, hx, hp⟩ := obind hp
 refine Zaz (E := eI) st rfl hx fun v6 h_2 st => ?_
 refine ZC (st.rdL 0 rfl (Za _)) ?_
 obtain ⟨n_2, hn⟩ := Zy hp
 refine ⟨fun n y9 h_3 => ∃ xs : List Int, S ψ h h_3 [.it oL [v6] xs] ∧ loopN (ZcX l6) n (y9, xs) = some r, ⟨n_2, _, pk st [0], hn⟩, ?_⟩
 rintro n _ y9 h_3 ⟨xs, st, hn⟩
 obtain ⟨m, a, rfl, hp, hs⟩ := Zw hn
 rw [ZcX] at hp
 refine brQ hp (fun hp => ?_) fun hp => ?_
 ·refine ixA (st.rdL 0 rfl (Za _)) hp fun e15 p15 ad hx_2 hp => ?_
  refine st1_S st 0 rfl ad hx_2 rfl (fun _ => ⟨rfl, rfl⟩) fun h_4 st => ?_
  dsimp only [List.set] at st
  obtain rfl := oI hp
  exact ⟨m, ltS, _, pk st [0], hs⟩
 ·obtain rfl := oI hp
  obtain rfl := oI hs
  exact ⟨v6, rfl, pk st [0]⟩
theorem ZlW {p0 v0 r} (hp : ZcR p0 = some r) (f0 : SlC (hcell h) eI v0 p0) : zR ZgW #[v0] h ψ (.string r) := by
 apply Zqb
 rw [ZcR] at hp
 have st := S.start hψ
 refine vL f0 st.le ?_
 obtain ⟨l8, hx, hp⟩ := obind hp
 refine Zaz (E := (El.int .u8)) st rfl hx fun v8 h_2 st => ?_
 refine vL f0 st.le ?_
 obtain ⟨n_2, hn⟩ := Zy hp
 refine ⟨fun n y11 h_3 => ∃ xs : List Int, S ψ h h_3 [.it (El.ow (El.int .u8)) [v8] xs] ∧ loopN (ZdT p0) n (y11, xs) = some r, ⟨n_2, _, pk st [0], hn⟩, ?_⟩
 rintro n _ y11 h_3 ⟨xs, st, hn⟩
 obtain ⟨m, a, rfl, hp, hs⟩ := Zw hn
 rw [ZdT] at hp
 refine brQ hp (fun hp => ?_) fun hp => ?_
 ·refine ixI (f0.mono st.le) hp fun e14 hp => ?_
  refine ixA (st.rdL 0 rfl (Za _)) hp fun e20 p20 ad_2 hx_3 hp => ?_
  refine st1_S st 0 rfl ad_2 hx_3 rfl (fun _ => ⟨rfl, rfl⟩) fun h_4 st => ?_
  dsimp only [List.set] at st
  obtain rfl := oI hp
  exact ⟨m, ltS, _, pk st [0], hs⟩
 ·obtain ⟨s23, hx_4, hp⟩ := obind hp
  refine b2s_S (st.rdL 0 rfl (Za _)) hx_4 ?_
  exact tZ
theorem Zp2 {p0 v0 q1 v1 r} (hp : ZfO p0 q1 = some r) (f0 : SlC (hcell h) eI v0 p0) (f1 : SlC (hcell h) eI v1 q1) : zL ZkQ #[v0, v1] h ψ eI r := by
 apply ZsT
 rw [ZfO] at hp
 have st := S.start hψ
 refine vL f0 st.le ?_
 obtain ⟨l9, hx, hp⟩ := obind hp
 refine Zaz (E := eI) st rfl hx fun v9 h_2 st => ?_
 refine ZC (st.rdL 0 rfl (Za _)) ?_
 obtain ⟨n_2, hn⟩ := Zy hp
 refine ⟨fun n y12 h_3 => ∃ xs : List Int, S ψ h h_3 [.it oL [v9] xs] ∧ loopN (Zdw p0 q1 l9) n (y12, xs) = some r, ⟨n_2, _, pk st [0], hn⟩, ?_⟩
 rintro n _ y12 h_3 ⟨xs, st, hn⟩
 obtain ⟨m, a, rfl, hp, hs⟩ := Zw hn
 rw [Zdw] at hp
 refine brQ hp (fun hp => ?_) fun hp => ?_
 ·refine ixI (f0.mono st.le) hp fun e20 hp => ?_
  refine ixI (f1.mono st.le) hp fun e22 hp => ?_
  refine ixA (st.rdL 0 rfl (Za _)) hp fun e24 p24 ad_3 hx_4 hp => ?_
  refine st1_S st 0 rfl ad_3 hx_4 rfl (fun _ => ⟨rfl, rfl⟩) fun h_4 st => ?_
  dsimp only [List.set] at st
  obtain rfl := oI hp
  exact ⟨m, ltS, _, pk st [0], hs⟩
 ·obtain rfl := oI hp
  obtain rfl := oI hs
  exact ⟨v9, rfl, pk st [0]⟩
theorem Zm3 {degree0 genera1 v1 r} (hp : ZcN degree0 genera1 = some r) (f1 : SlC (hcell h) eL v1 genera1) : CallsH P Zhd #[.int .i64 degree0, v1] h (fun v h' => ∃ w0 : Value, v = .tuple #[w0, .bool r.2] ∧ S ψ h h' [.it (El.ow oL) [w0] r.1]) := by
 apply ZpA
 rw [ZcN] at hp
 have st := S.start hψ
 refine cl1 hp st (fun s _ _ hx => Zu1 s.fle hx) fun r14 v14 h_2 st hp => ⟨_, rfl, ?_⟩
 refine Zz (st.rdL 0 rfl (Za _)).one ?_
 refine ZjG st fun v15 h_3 st => ?_
 refine Zua (κ := ByteArray) (ν := Bool) kStr vBool st fun b16 h_4 st => ?_
 refine ixA (st.rdL 1 rfl (Ze (Za _))) hp fun e18 p18 ad hx_2 hp => ?_
 refine Zct st 1 rfl ad hx_2 fun u19 hd => ?_
 refine cl0 hp st (fun s_2 _ _ hx_3 => ZlW s_2.fle hx_3 (st.rowC 1 rfl hd hx_2 (Za _))) fun r20 h_5 st hp => ⟨_, rfl, ?_⟩
 refine ZlT (v := true) ZjI st 0 rfl rfl rfl fun h_6 st => ?_
 dsimp only [List.set] at st
 obtain ⟨n_4, hn⟩ := Zy hp
 refine ⟨fun n v6 k8 h_7 => ∃ elemen6 : List (List Int), ∃ mp : List (ByteArray × Bool), S ψ h h_7 [.mp b16 (mkV kStr vBool mp), .it (El.ow oL) [v6] elemen6] ∧ loopN (Za7 genera1) n (elemen6, k8, mp) = some r, ⟨n_4, _, _, pk st [0,1], hn⟩, ?_⟩
 rintro n _ v6 k8 h_7 ⟨elemen6, mp, st, hn⟩
 obtain ⟨m, a, rfl, hp, hs⟩ := Zw hn
 rw [Za7] at hp
 refine ZC (st.rdL 1 rfl (Ze (Za _))) ?_
 refine brQ hp (fun hp => ?_) fun hp => ?_
 ·refine vL f1 st.le ?_
  obtain ⟨n_3, hn_2⟩ := Zy hp
  refine ⟨fun n_2 v6_2 y30 h_8 => ∃ elemen6_2 : List (List Int), ∃ mp_2 : List (ByteArray × Bool), S ψ h h_8 [.mp b16 (mkV kStr vBool mp_2), .it (El.ow oL) [v6_2] elemen6_2] ∧ loopN (ZaW genera1 k8) n_2 (elemen6_2, y30, mp_2) = some a, ⟨n_3, _, _, pk st [0,1], hn_2⟩, ?_⟩
  rintro n_2 _ v6_2 y30 h_8 ⟨elemen6_2, mp_2, st, hn_2⟩
  obtain ⟨m_2, a_2, rfl, hp, hs_2⟩ := Zw hn_2
  rw [ZaW] at hp
  refine brQ hp (fun hp => ?_) fun hp => ?_
  ·refine ixV f1 st.le hp fun e32 u33 f hp => ?_
   refine ixA (st.rdL 1 rfl (Ze (Za _))) hp fun e36 p36 ad_3 hx_5 hp => ?_
   refine Zct st 1 rfl ad_3 hx_5 fun u37 hd_2 => ?_
   refine cl1 hp st (fun s_3 _ _ hx_6 => Zp2 s_3.fle hx_6 (st.rowC 1 rfl hd_2 hx_5 (Za _)) (f.mono st.le)) fun r39 v39 h_9 st hp => ⟨_, rfl, ?_⟩
   refine cl0 hp st (fun s_4 _ _ hx_7 => ZlW s_4.fle hx_7 (st.rdL 0 rfl (Za _))) fun r41 h_10 st hp => ⟨_, rfl, ?_⟩
   refine Zqe ZjI st 1 rfl rfl ?_
   refine brQ hp (fun hp => ?_) fun hp => ?_
   ·refine ZlT (v := true) ZjI st 1 rfl rfl rfl fun h_11 st => ?_
    dsimp only [List.set] at st
    refine Zz (st.rdL 0 rfl (Za _)).one ?_
    obtain ⟨l51, hx_8, hp⟩ := obind hp
    refine Zcn st 1 rfl rfl rfl hx_8 fun v51 h_12 st => ?_
    dsimp only [List.set] at st
    obtain rfl := oI hp
    exact ⟨m_2, ltS, _, _, pk st [0,1], hs_2⟩
   ·obtain rfl := oI hp
    exact ⟨m_2, ltS, _, _, pk st [1,2], hs_2⟩
  ·refine ZC (st.rdL 1 rfl (Ze (Za _))) ?_
   refine brQ hp (fun hp => ?_) fun hp => ?_
   ·have st := st.nilO (E := oL)
    obtain rfl := oI hp
    obtain rfl := oI hs_2
    obtain rfl := oI hs
    exact ⟨(.slice none 0 0), rfl, pk st [0]⟩
   ·obtain rfl := oI hp
    obtain rfl := oI hs_2
    exact ⟨m, ltS, _, _, pk st [0,1], hs⟩
 ·have st : S ψ h h_7 [.it (El.ow oL) [v6] elemen6, .mp b16 (mkV kStr vBool mp)] := pk st [1,0]
  obtain ⟨r57, hx_9, hp⟩ := obind hp
  obtain ⟨φ_5, L_5, s_5, r_6⟩ := id st
  refine (Zuw hx_9 (s_5.upS r_6) (by kernel_rfl) (fun hx1 => fun hψ1 => fun hp1 ff0 ff1 => Zhq hψ1 hp1 ff0 ff1)).mono fun v_6 h_13 ⟨eq_5, t_5⟩ => ⟨eq_5, ?_⟩
  replace st := s_5.downS t_5
  clear t_5 s_5 r_6
  obtain rfl := oI hp
  obtain rfl := oI hs
  exact ⟨v6, rfl, pk st [0]⟩
theorem ZoL {x0 : List (List Int)} {v0 : Value} {target1 : List Int} {v1 : Value} {fn2 : (List Int) → (List Int) → Option Int} {g2 : Nat} {cap2 : List Value} {r : Int × Bool} (hp : Ze4 x0 target1 fn2 = some r) (f0 : SlC (hcell h) eL v0 x0) (f1 : SlC (hcell h) eI v1 target1) (o2 : ctx.okf g2 = true) (k2 : ∀ {h1 : Heap}, ExtH h h1 → ∀ {ψ1 : CM}, CLe ψ1 (hcell h1) → ∀ {y0 : List Int} {u0_0 : Value} {y1 : List Int} {u1_0 : Value} {r1 : Int}, fn2 y0 y1 = some r1 → SlC (hcell h1) eI u0_0 y0 → SlC (hcell h1) eI u1_0 y1 → CallsH P g2 (([u0_0, u1_0] : List Value) ++ cap2).toArray h1 (fun v h' => v = .int .i64 r1 ∧ S ψ1 h1 h' [])) : zR Zkj #[v0, v1, .func (.func g2) #[] cap2.toArray] h ψ (.tuple #[.int .i64 r.1, .bool r.2]) := by
 apply Zt9
 rw [Ze4] at hp
 have st := S.start hψ
 refine vL f0 st.le ?_
 refine lp2 hp (nlS st) fun m i9 j10 h_2 a st hp hs => ?_
 rw [Zcw] at hp
 refine brQ hp (fun hp => ?_) fun hp => ?_
 ·obtain ⟨_, hx, hp⟩ := obind hp
  refine ⟨Zsl hx, ?_⟩
  refine ixV f0 st.le hp fun e27 u28 f hp => ?_
  obtain ⟨r30, hx_3, hp⟩ := obind hp
  obtain ⟨φ, L, s, r_2⟩ := id st
  refine Zd4 o2 ?_
  refine (k2 st.ext s.fle hx_3 (f.mono st.le) (f1.mono st.le)).mono fun v_2 h_3 ⟨eq, t⟩ => ⟨_, eq, ?_⟩
  replace st := join0 s r_2 t
  clear t s r_2
  exact brQ hp (fun hp => tZ) fun hp => tZ
 ·refine brR hp (fun hp => tZ) fun hp => ?_
  refine ixV f0 st.le hp fun e43 u44 f_2 hp => ?_
  obtain ⟨r46, hx_5, hp⟩ := obind hp
  obtain ⟨φ_2, L_2, s_2, r_3⟩ := id st
  refine Zd4 o2 ?_
  refine (k2 st.ext s_2.fle hx_5 (f_2.mono st.le) (f1.mono st.le)).mono fun v_3 h_4 ⟨eq_2, t_2⟩ => ⟨_, eq_2, ?_⟩
  replace st := join0 s_2 r_3 t_2
  clear t_2 s_2 r_3
  exact tZ
end
end Go.Proofs.YtapkemdomnkccaaGreat
