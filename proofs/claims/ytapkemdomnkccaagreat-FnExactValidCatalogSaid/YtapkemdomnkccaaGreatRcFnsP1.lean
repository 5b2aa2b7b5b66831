/- Each call computes its plain function: printed by pgen.py. -/
import Derived.Test.YtapkemdomnkccaaGreatPuFns
import Derived.Test.YtapkemdomnkccaaGreatVcFns
import Derived.Test.YtapkemdomnkccaaGreatVcFld
import Derived.Test.YtapkemdomnkccaaGreatVcSortI
import Derived.Test.YtapkemdomnkccaaGreatVcLay
namespace Go.Proofs.YtapkemdomnkccaaGreat
open Go Go.Vc
set_option linter.unusedVariables false
set_option linter.unusedSimpArgs false
def Zl6 : El Zah := El.iso (El.pair eI (El.pair eI (El.sl eL))) (fun x => (x.Kind, x.Size, x.Rows)) (Zah.mk (0 : Int) (0 : Int) ([] : List (List Int))) rfl
def Zbf : El Z4 := El.iso (El.pair El.str (El.pair Zl6 El.str)) (fun x => (x.Name, x.Object, x.Key)) (Z4.mk (⟨#[]⟩ : ByteArray) (Zah.mk (0 : Int) (0 : Int) ([] : List (List Int))) (⟨#[]⟩ : ByteArray)) rfl
theorem Zn4 {φ : CM} {L : Rws} {cs : List Value} {x : Z4} (h : Zbf.R φ L cs x) : ∃ v3 : Value, cs = [.string x.Name, .int .i64 x.Object.Kind, .int .i64 x.Object.Size, v3, .string x.Key] ∧ SlC φ eL v3 x.Object.Rows := by
  obtain ⟨_, _, _, _, rfl, _, a1_0, b1_0⟩ := h
  obtain ⟨_, rfl⟩ := a1_0
  obtain ⟨_, _, _, _, rfl, _, a1_1, b1_1⟩ := b1_0
  obtain ⟨_, _, _, _, rfl, _, a3_0, b3_0⟩ := a1_1
  obtain ⟨_, rfl⟩ := a3_0
  obtain ⟨_, _, _, _, rfl, _, a3_1, b3_1⟩ := b3_0
  obtain ⟨_, rfl⟩ := a3_1
  obtain ⟨_, w6, rfl, g6⟩ := b3_1
  obtain ⟨_, rfl⟩ := b1_1
  exact ⟨w6, rfl, g6⟩
def Znp : El Z3 := El.iso (El.sl Zbf) (fun x => (x.Items)) (Z3.mk ([] : List Z4)) rfl
theorem ZuR {φ : CM} {L : Rws} {cs : List Value} {x : Z3} (h : Znp.R φ L cs x) : ∃ v0 : Value, cs = [v0] ∧ SlC φ Zbf v0 x.Items := by
  obtain ⟨_, w2, rfl, g2⟩ := h
  exact ⟨w2, rfl, g2⟩
def Zaa : El ZD := El.iso (El.pair eI eI) (fun x => (x.A, x.B)) (ZD.mk (0 : Int) (0 : Int)) rfl
theorem frzf_T_impl_Edge : Frz Zaa Zaa := Zj7 (ZfB (Za _) (Za _))
theorem Zo9 : Plain Zaa := Zws (ZwM (ZhY _) (ZhY _))
theorem ZhF {φ : CM} {L : Rws} {cs : List Value} {x : ZD} (h : Zaa.R φ L cs x) : cs = [.int .i64 x.A, .int .i64 x.B] := by
  obtain ⟨_, _, _, _, rfl, _, a1_0, b1_0⟩ := h
  obtain ⟨_, rfl⟩ := a1_0
  obtain ⟨_, rfl⟩ := b1_0
  rfl
def ZoH : El Zv := El.iso (El.pair eI (El.pair eI (El.ow oL))) (fun x => (x.Kind, x.Size, x.Rows)) (Zv.mk (0 : Int) (0 : Int) ([] : List (List Int))) rfl
def ZmD : El Zv := El.iso (El.pair eI (El.pair eI (El.sl eL))) (fun x => (x.Kind, x.Size, x.Rows)) (Zv.mk (0 : Int) (0 : Int) ([] : List (List Int))) rfl
theorem frzo_T_impl_Object : Frz ZoH ZmD := Zj7 (ZfB (Za _) (ZfB (Za _) (Ze (Ze (Za _)))))
def ZdO : El Zj := El.iso (El.pair El.str (El.pair ZoH El.str)) (fun x => (x.Name, x.Object, x.Key)) (Zj.mk (⟨#[]⟩ : ByteArray) (Zv.mk (0 : Int) (0 : Int) ([] : List (List Int))) (⟨#[]⟩ : ByteArray)) rfl
def ZaV : El Zj := El.iso (El.pair El.str (El.pair ZmD El.str)) (fun x => (x.Name, x.Object, x.Key)) (Zj.mk (⟨#[]⟩ : ByteArray) (Zv.mk (0 : Int) (0 : Int) ([] : List (List Int))) (⟨#[]⟩ : ByteArray)) rfl
theorem frzo_T_impl_Item : Frz ZdO ZaV := Zj7 (ZfB Znt (ZfB frzo_T_impl_Object Znt))
theorem pko_T_impl_Item {ψ : CM} {h0 h : Heap} {os : List Ob} {x0 : ByteArray} {x1 : Int} {x2 : Int} {x3 : List (List Int)} {v3 : Value} {x4 : ByteArray} (st : S ψ h0 h (.it (El.ow oL) [v3] x3 :: os)) : S ψ h0 h (.it ZdO [.string x0, .int .i64 x1, .int .i64 x2, v3, .string x4] (Zj.mk x0 (Zv.mk x1 x2 x3) x4) :: os) := by
  obtain ⟨φ, M0, s, L3, M1, rfl, a3, r⟩ := st
  exact ⟨φ, _, s, ([] ++ (([] ++ ([] ++ L3)) ++ [])), M1, by simp, (Zhy Zpx (Zhy (Zhy ZoD (Zhy ZoD a3)) Zpx)), r⟩
theorem Za9 {φ : CM} {L : Rws} {cs : List Value} {x : Zj} (h : ZaV.R φ L cs x) : ∃ v3 : Value, cs = [.string x.Name, .int .i64 x.Object.Kind, .int .i64 x.Object.Size, v3, .string x.Key] ∧ SlC φ eL v3 x.Object.Rows := by
  obtain ⟨_, _, _, _, rfl, _, a1_0, b1_0⟩ := h
  obtain ⟨_, rfl⟩ := a1_0
  obtain ⟨_, _, _, _, rfl, _, a1_1, b1_1⟩ := b1_0
  obtain ⟨_, _, _, _, rfl, _, a3_0, b3_0⟩ := a1_1
  obtain ⟨_, rfl⟩ := a3_0
  obtain ⟨_, _, _, _, rfl, _, a3_1, b3_1⟩ := b3_0
  obtain ⟨_, rfl⟩ := a3_1
  obtain ⟨_, w6, rfl, g6⟩ := b3_1
  obtain ⟨_, rfl⟩ := b1_1
  exact ⟨w6, rfl, g6⟩
abbrev zR (f : FuncId) (a : Array Value) (h : Heap) (ψ : CM) (u : Value) : Prop := CallsH P f a h fun v h' => v = u ∧ S ψ h h' []
abbrev zL {α : Type} (f : FuncId) (a : Array Value) (h : Heap) (ψ : CM) (E : El α) (r : List α) : Prop := CallsH P f a h fun v h' => ∃ w0 : Value, v = w0 ∧ S ψ h h' [.it (El.ow E) [w0] r]
section
variable {ψ : CM} {h : Heap} (hψ : CLe ψ (hcell h))
include hψ
theorem ZxK {a0 v0 left1 r} (hp : ZcD a0 left1 = some r) (f0 : SlC (hcell h) eI v0 a0) : zR Zkb #[v0, .int .i64 left1] h ψ (.int .i64 r) := by
 apply ZrH
 rw [ZcD] at hp
 have st := S.start hψ
 refine vL f0 st.le ?_
 exact brQ hp (fun hp => tZ) fun hp => tZ
theorem Zuu {a0 v0 left1 r} (hp : Ze5 a0 left1 = some r) (f0 : SlC (hcell h) eL v0 a0) : zR Zk5 #[v0, .int .i64 left1] h ψ (.int .i64 r) := by
 apply Ztv
 rw [Ze5] at hp
 have st := S.start hψ
 refine vL f0 st.le ?_
 refine brQ hp (fun hp => tZ) fun hp => ?_
 refine lp2 hp (nlS st) fun m left1_2 i5 h_2 a st hp hs => ?_
 rw [ZfE] at hp
 refine vL f0 st.le ?_
 refine brR hp (fun hp => tZ) fun hp => ?_
 refine ixV f0 st.le hp fun e20 u21 f hp => ?_
 refine cl0 hp st (fun s _ _ hx_2 => ZxK s.fle hx_2 (f.mono st.le)) fun r23 h_3 st hp => ⟨_, rfl, ?_⟩
 exact brQ hp (fun hp => tZ) fun hp => tZ
theorem ZuX {a0 v0_2 left1 r} (hp : ZdY a0 left1 = some r) (f0_2 : SlC (hcell h) eL v0_2 a0.Rows) : zR ZlN #[.agg #[.int .i64 a0.Kind, .int .i64 a0.Size, v0_2], .int .i64 left1] h ψ (.int .i64 r) := by
 apply Zvd
 rw [ZdY] at hp
 have st := S.start hψ
 refine new_S st fun b2 h_2 st => ?_
 refine bV st 0 2 ?_
 refine cl0 hp st (fun s _ _ hx => Zuu s.fle hx (f0_2.mono st.le)) fun r8 h_3 st hp => ⟨_, rfl, ?_⟩
 exact brQ hp (fun hp => tZ) fun hp => tZ
theorem Zve {a0 v0_3 left1 r} (hp : Zcu a0 left1 = some r) (f0_3 : SlC (hcell h) eL v0_3 a0.Object.Rows) : zR ZkM #[.agg #[.string a0.Name, .int .i64 a0.Object.Kind, .int .i64 a0.Object.Size, v0_3, .string a0.Key], .int .i64 left1] h ψ (.int .i64 r) := by
 apply Zvg
 rw [Zcu] at hp
 have st := S.start hψ
 refine new_S st fun b2 h_2 st => ?_
 refine bS st 0 0 ?_
 refine brQ hp (fun hp => tZ) fun hp => ?_
 refine bI st 0 1 ?_
 refine bI st 0 2 ?_
 refine bV st 0 3 ?_
 refine cl0 hp st (fun s _ _ hx => ZuX s.fle hx (f0_3.mono st.le)) fun r15 h_3 st hp => ⟨_, rfl, ?_⟩
 refine brQ hp (fun hp => tZ) fun hp => ?_
 refine bS st 0 4 ?_
 exact brQ hp (fun hp => tZ) fun hp => tZ
theorem ZxD {a0 v0 left1 r} (hp : ZfV a0 left1 = some r) (f0 : SlC (hcell h) Zbf v0 a0) : zR ZkG #[v0, .int .i64 left1] h ψ (.int .i64 r) := by
 apply ZvK
 rw [ZfV] at hp
 have st := S.start hψ
 refine vL f0 st.le ?_
 refine brQ hp (fun hp => tZ) fun hp => ?_
 refine lp2 hp (nlS st) fun m left1_2 i5 h_2 a st hp hs => ?_
 rw [Zf8] at hp
 refine vL f0 st.le ?_
 refine brR hp (fun hp => tZ) fun hp => ?_
 refine ixA (f0.mono st.le) hp fun e20 p20 ad hx hp => ?_
 obtain ⟨cs, ck, hr⟩ := f0.cells ad hx rfl
 obtain ⟨v_2, rfl, f⟩ := Zn4 hr
 refine kS ck st.le 0 ?_
 refine kI ck st.le 1 ?_
 refine kI ck st.le 2 ?_
 refine kV ck st.le 3 ?_
 refine kS ck st.le 4 ?_
 refine cl0 hp st (fun s _ _ hx_2 => Zve s.fle hx_2 (f.mono st.le)) fun r23 h_3 st hp => ⟨_, rfl, ?_⟩
 exact brQ hp (fun hp => tZ) fun hp => tZ
theorem Zvj {a0 v0_0 left1 r} (hp : Ze4 a0 left1 = some r) (f0_0 : SlC (hcell h) Zbf v0_0 a0.Items) : zR ZkI #[.agg #[v0_0], .int .i64 left1] h ψ (.int .i64 r) := by
 apply Zrh
 rw [Ze4] at hp
 have st := S.start hψ
 refine new_S st fun b2 h_2 st => ?_
 refine bV st 0 0 ?_
 refine cl0 hp st (fun s _ _ hx => ZxD s.fle hx (f0_0.mono st.le)) fun r8 h_3 st hp => ⟨_, rfl, ?_⟩
 exact brQ hp (fun hp => tZ) fun hp => tZ
theorem Zaf {n0 low1 high2 r} (hp : ZZ n0 low1 high2 = some r)  : zR Zab #[.int .i64 n0, .int .i64 low1, .int .i64 high2] h ψ (.bool r) := by
 apply Zut
 rw [ZZ] at hp
 have st := S.start hψ
 exact brQ hp (fun hp => tZ) fun hp => tZ
theorem Zro {list0 v0 n1 r} (hp : Zfm list0 n1 = some r) (f0 : SlC (hcell h) eI v0 list0) : zR ZiH #[v0, .int .i64 n1] h ψ (.bool r) := by
 apply Zwk
 rw [Zfm] at hp
 have st := S.start hψ
 refine lp1 hp (nlS st) fun m i5 h_2 a st hp hs => ?_
 rw [Zeb] at hp
 refine vL f0 st.le ?_
 refine brR hp (fun hp => tZ) fun hp => ?_
 refine ixI (f0.mono st.le) hp fun e14 hp => ?_
 exact brQ hp (fun hp => tZ) fun hp => tZ
theorem Zi3 {p0 v0 r} (hp : Zce p0 = some r) (f0 : SlC (hcell h) eI v0 p0) : zR ZeD #[v0] h ψ (.bool r) := by
 apply Zun
 rw [Zce] at hp
 have st := S.start hψ
 refine vL f0 st.le ?_
 refine brQ hp (fun hp => tZ) fun hp => ?_
 refine lp1 hp (nlS st) fun m i3 h_2 a st hp hs => ?_
 rw [Zdo] at hp
 refine vL f0 st.le ?_
 refine brR hp (fun hp => tZ) fun hp => ?_
 refine ixI (f0.mono st.le) hp fun e15 hp => ?_
 refine vL f0 st.le ?_
 refine cl0 hp st (fun s _ _ hx_2 => Zaf s.fle hx_2) fun r20 h_3 st hp => ⟨_, rfl, ?_⟩
 refine brQ hp (fun hp => tZ) fun hp => ?_
 obtain ⟨l25, hx_3, hp⟩ := obind hp
 refine Zc7 none (some i3) f0 hx_3 rfl fun v25 f => ?_
 refine ixI (f0.mono st.le) hp fun e28 hp => ?_
 refine cl0 hp st (fun s_2 _ _ hx_5 => Zro s_2.fle hx_5 (f.mono st.le)) fun r30 h_4 st hp => ⟨_, rfl, ?_⟩
 exact brQ hp (fun hp => tZ) fun hp => tZ
theorem ZiZ {a0 v0 b1 v1 r} (hp : ZcT a0 b1 = some r) (f0 : SlC (hcell h) eI v0 a0) (f1 : SlC (hcell h) eI v1 b1) : zR ZfM #[v0, v1] h ψ (.int .i64 r) := by
 apply Zx5
 rw [ZcT] at hp
 have st := S.start hψ
 refine ⟨fun h_2 => S ψ h h_2 [] ∧ Zcw a0 b1 = some r, ?_, ?_⟩
 ·refine lp1 hp (nlS st) fun m i5 h_3 a st hp hs => ?_
  rw [ZbA] at hp
  refine ⟨fun h_4 => S ψ h h_4 [] ∧ ZdP a0 b1 i5 = some a, ?_, ?_⟩
  ·refine vL f0 st.le ?_
   refine brQ hp (fun hp => ?_) fun hp => ?_
   ·refine vL f1 st.le ?_
    refine brQ hp (fun hp => tZ) fun hp => ?_
    obtain ⟨xm, hq, rfl⟩ := omap hp
    obtain rfl := oI hs
    exact ⟨nlS st, hq⟩
   ·obtain ⟨xm, hq, rfl⟩ := omap hp
    obtain rfl := oI hs
    exact ⟨nlS st, hq⟩
  ·rintro _ h_4 ⟨st, hp⟩
   rw [ZdP] at hp
   refine ixI (f0.mono st.le) hp fun e20 hp => ?_
   refine ixI (f1.mono st.le) hp fun e24 hp => ?_
   refine brQ hp (fun hp => tZ) fun hp => ?_
   refine ixI (f0.mono st.le) hp fun e29 hp => ?_
   refine ixI (f1.mono st.le) hp fun e33 hp => ?_
   exact brQ hp (fun hp => tZ) fun hp => tZ
 ·rintro _ h_2 ⟨st, hp⟩
  rw [Zcw] at hp
  refine vL f0 st.le ?_
  refine vL f1 st.le ?_
  refine brQ hp (fun hp => tZ) fun hp => ?_
  refine vL f0 st.le ?_
  refine vL f1 st.le ?_
  exact brQ hp (fun hp => tZ) fun hp => tZ
theorem Zpt {list0 v0 p1 v1 r} (hp : ZcU list0 p1 = some r) (f0 : SlC (hcell h) eL v0 list0) (f1 : SlC (hcell h) eI v1 p1) : zR ZhX #[v0, v1] h ψ (.tuple #[.int .i64 r.1, .bool r.2]) := by
 apply ZpS
 rw [ZcU] at hp
 have st := S.start hψ
 refine vL f0 st.le ?_
 refine lp2 hp (nlS st) fun m low6 high7 h_2 a st hp hs => ?_
 rw [ZaI] at hp
 refine brR hp (fun hp => tZ) fun hp => ?_
 obtain ⟨_, hx, hp⟩ := obind hp
 refine ⟨Zae hx, ?_⟩
 refine ixV f0 st.le hp fun e21 u22 f hp => ?_
 refine cl0 hp st (fun s _ _ hx_3 => ZiZ s.fle hx_3 (f.mono st.le) (f1.mono st.le)) fun r24 h_3 st hp => ⟨_, rfl, ?_⟩
 refine brQ hp (fun hp => tZ) fun hp => ?_
 exact brQ hp (fun hp => tZ) fun hp => tZ
theorem ZvC {n0 r} (hp : Zf5 n0 = some r)  : zL Zmq #[.int .i64 n0] h ψ eI r := by
 apply ZvS
 rw [Zf5] at hp
 have st := S.start hψ
 refine Zam (E := eI) (css := []) (xs := ([] : List Int)) st (fun _ => rfl) rfl rfl fun v5 h_2 st => ?_
 obtain ⟨n_2, hn⟩ := Zy hp
 refine ⟨fun n v3 i4 h_3 => ∃ out3 : List Int, S ψ h h_3 [.it oL [v3] out3] ∧ loopN (Zea n0) n (out3, i4) = some r, ⟨n_2, _, pk st [0], hn⟩, ?_⟩
 rintro n _ v3 i4 h_3 ⟨out3, st, hn⟩
 obtain ⟨m, a, rfl, hp, hs⟩ := Zx hn
 rw [Zea] at hp
 refine brQ hp (fun hp => ?_) fun hp => ?_
 ·obtain ⟨l14, hx, hp⟩ := obind hp
  refine Zag st 0 rfl (fun _ => ⟨rfl, rfl⟩) rfl rfl hx fun v14 h_4 st => ?_
  dsimp only [List.set] at st
  obtain rfl := oI hp
  exact ⟨m, ltS, _, pk st [0], hs⟩
 ·obtain rfl := oI hp
  obtain rfl := oI hs
  exact ⟨v3, rfl, pk st [0]⟩
theorem ZtT {p0 v0 q1 v1 r} (hp : Zfp p0 q1 = some r) (f0 : SlC (hcell h) eI v0 p0) (f1 : SlC (hcell h) eI v1 q1) : zL Zjd #[v0, v1] h ψ eI r := by
 apply ZuH
 rw [Zfp] at hp
 have st := S.start hψ
 refine Zam (E := eI) (css := []) (xs := ([] : List Int)) st (fun _ => rfl) rfl rfl fun v7 h_2 st => ?_
 obtain ⟨n_2, hn⟩ := Zy hp
 refine ⟨fun n v5 i6 h_3 => ∃ out5 : List Int, S ψ h h_3 [.it oL [v5] out5] ∧ loopN (Zdn p0 q1) n (out5, i6) = some r, ⟨n_2, _, pk st [0], hn⟩, ?_⟩
 rintro n _ v5 i6 h_3 ⟨out5, st, hn⟩
 obtain ⟨m, a, rfl, hp, hs⟩ := Zx hn
 rw [Zdn] at hp
 refine vL f0 st.le ?_
 refine brQ hp (fun hp => ?_) fun hp => ?_
 ·refine ixI (f0.mono st.le) hp fun e18 hp => ?_
  refine ixI (f1.mono st.le) hp fun e20 hp => ?_
  obtain ⟨l23, hx_3, hp⟩ := obind hp
  refine Zag st 0 rfl (fun _ => ⟨rfl, rfl⟩) rfl rfl hx_3 fun v23 h_4 st => ?_
  dsimp only [List.set] at st
  obtain rfl := oI hp
  exact ⟨m, ltS, _, pk st [0], hs⟩
 ·obtain rfl := oI hp
  obtain rfl := oI hs
  exact ⟨v5, rfl, pk st [0]⟩
theorem ZrO {list0 v0 at1 p2 v2 r} (hp : ZeW list0 at1 p2 = some r) (f0 : SlC ψ eL v0 list0) (f2 : SlC ψ eI v2 p2) : zL Zj8 #[v0, .int .i64 at1, v2] h ψ eL r := by
 apply Zxs
 rw [ZeW] at hp
 have st := S.start hψ
 refine Zam (E := eL) (css := []) (xs := ([] : List (List Int))) st (fun _ => rfl) rfl rfl fun v8 h_2 st => ?_
 obtain ⟨l11, hx, hp⟩ := obind hp
 refine Zc7 none (some at1) f0 hx rfl fun v11 f => ?_
 have st := st.arg f
 obtain ⟨l12, hx_2, hp⟩ := obind hp
 refine app_S st 1 rfl (ZpA 0 rfl) rfl rfl hx_2 fun v12 h_3 st => ?_
 dsimp only [List.set] at st
 refine Zw (f2.mono st.leF).one ?_
 have st := st.arg f2
 obtain ⟨l16, hx_3, hp⟩ := obind hp
 refine Zb8 st 1 rfl rfl rfl hx_3 fun v16 h_4 st => ?_
 dsimp only [List.set] at st
 obtain ⟨l20, hx_4, hp⟩ := obind hp
 refine Zc7 (some at1) none f0 hx_4 rfl fun v20 f_2 => ?_
 have st := st.arg f_2
 obtain ⟨l21, hx_5, hp⟩ := obind hp
 refine app_S st 2 rfl (ZpA 0 rfl) rfl rfl hx_5 fun v21 h_5 st => ?_
 dsimp only [List.set] at st
 obtain rfl := oI hp
 exact ⟨v21, rfl, pk st [2]⟩
theorem Zo4 {degree0 genera1 v1 most2 r} (hp : Zb2 degree0 genera1 most2 = some r) (f1 : SlC (hcell h) eL v1 genera1) : CallsH P ZhR #[.int .i64 degree0, v1, .int .i64 most2] h (fun v h' => ∃ w0 : Value, v = .tuple #[w0, .bool r.2] ∧ S ψ h h' [.it (El.ow eL) [w0] r.1]) := by
 apply Zvn
 rw [Zb2] at hp
 have st := S.start hψ
 refine cl1 hp st (fun s _ _ hx => ZvC s.fle hx) fun r17 v17 h_2 st hp => ⟨_, rfl, ?_⟩
 refine Zw (st.rdL 0 rfl (Za _)).one ?_
 have st := st.freeze 0 rfl (Ze (Za _))
 dsimp only [List.set] at st
 have st := st.copyF 0 rfl
 refine ZiY st fun v19 h_3 st => ?_
 refine Zw (st.rdF 1 rfl).one ?_
 have st := st.copyF 1 rfl
 refine ZiY st fun v21 h_4 st => ?_
 obtain ⟨n_4, hn⟩ := Zy hp
 refine ⟨fun n v9 v10 i11 h_5 => ∃ list9 : List (List Int), ∃ queue10 : List (List Int), S ψ h h_5 [.it (El.ow eL) [v10] queue10, .it (El.ow eL) [v9] list9, .it eL [v17] r17] ∧ loopN (ZbB genera1 most2) n (list9, queue10, i11) = some r, ⟨n_4, _, _, pk st [0,1,2], hn⟩, ?_⟩
 rintro n _ v9 v10 i11 h_5 ⟨list9, queue10, st, hn⟩
 obtain ⟨m, a, rfl, hp, hs⟩ := Zx hn
 rw [ZbB] at hp
 refine ZA (st.rdL 0 rfl (ZT _)) ?_
 refine brQ hp (fun hp => ?_) fun hp => ?_
 ·obtain ⟨n_3, hn_2⟩ := Zy hp
  refine ⟨fun n_2 v9_2 v10_2 k12 h_6 => ∃ list9_2 : List (List Int), ∃ queue10_2 : List (List Int), S ψ h h_6 [.it (El.ow eL) [v10_2] queue10_2, .it (El.ow eL) [v9_2] list9_2, .it eL [v17] r17] ∧ loopN (Zau genera1 most2 i11) n_2 (list9_2, queue10_2, k12) = some a, ⟨n_3, _, _, pk st [0,1,2], hn_2⟩, ?_⟩
  rintro n_2 _ v9_2 v10_2 k12 h_6 ⟨list9_2, queue10_2, st, hn_2⟩
  obtain ⟨m_2, a_2, rfl, hp, hs_2⟩ := Zx hn_2
  rw [Zau] at hp
  refine vL f1 st.le ?_
  refine brQ hp (fun hp => ?_) fun hp => ?_
  ·refine ixA (st.rdL 0 rfl (ZT _)) hp fun e36 p36 ad hx_2 hp => ?_
   refine Zec st 0 rfl ad hx_2 fun u37 st => ?_
   refine ixV f1 st.le hp fun e40 u41 f hp => ?_
   refine cl1 hp st (fun s_2 _ _ hx_4 => ZtT s_2.fle hx_4 (st.rdF 0 rfl) (f.mono st.le)) fun r42 v42 h_7 st hp => ⟨_, rfl, ?_⟩
   refine cl0 hp st (fun s_3 _ _ hx_5 => Zpt s_3.fle hx_5 (st.rdL 3 rfl (ZT _)) (st.rdL 0 rfl (Za _))) fun r46 h_8 st hp => ⟨_, _, rfl, ?_⟩
   refine brQ hp (fun hp => ?_) fun hp => ?_
   ·obtain rfl := oI hp
    exact ⟨m_2, ltS, _, _, pk st [2,3,4], hs_2⟩
   ·refine ZA (st.rdL 3 rfl (ZT _)) ?_
    refine brQ hp (fun hp => ?_) fun hp => ?_
    ·have st := st.nilO (E := eL)
     obtain rfl := oI hp
     obtain rfl := oI hs_2
     obtain rfl := oI hs
     exact ⟨(.slice none 0 0), rfl, pk st [0]⟩
    ·have st := st.freeze 3 rfl (Ze (ZT _))
     dsimp only [List.set] at st
     have st := st.freeze 0 rfl (Ze (Za _))
     dsimp only [List.set] at st
     refine cl1 hp st (fun s_4 r_5 _ hx_6 => ZrO s_4.fle hx_6 (frF r_5 3 rfl) (frF r_5 0 rfl)) fun r57 v57 h_9 st hp => ⟨_, rfl, ?_⟩
     refine Zw (st.rdF 1 rfl).one ?_
     have st := st.copyF 1 rfl
     obtain ⟨l61, hx_7, hp⟩ := obind hp
     refine Zb8 st 3 rfl rfl rfl hx_7 fun v61 h_10 st => ?_
     dsimp only [List.set] at st
     obtain rfl := oI hp
     exact ⟨m_2, ltS, _, _, pk st [3,0,5], hs_2⟩
  ·obtain rfl := oI hp
   obtain rfl := oI hs_2
   exact ⟨m, ltS, _, _, pk st [0,1,2], hs⟩
 ·obtain rfl := oI hp
  obtain rfl := oI hs
  exact ⟨v9, rfl, pk st [1]⟩
theorem ZjS {list0 v0 r} (hp : ZaM list0 = some r) (f0 : SlC (hcell h) eI v0 list0) : zL Zgw #[v0] h ψ eI r := by
 apply Ztj
 rw [ZaM] at hp
 have st := S.start hψ
 refine Zam (E := eI) (css := []) (xs := ([] : List Int)) st (fun _ => rfl) rfl rfl fun v3 h_2 st => ?_
 obtain ⟨l5, hx, hp⟩ := obind hp
 refine app_S st 0 rfl (Zir (ZhY _) (f0.mono st.le)) rfl rfl hx fun v5 h_3 st => ?_
 dsimp only [List.set] at st
 obtain rfl := oI hp
 exact ⟨v5, rfl, pk st [0]⟩
theorem ZqK {a0 v0 b1 v1 r} (hp : ZfK a0 b1 = some r) (f0 : SlC (hcell h) eI v0 a0) (f1 : SlC (hcell h) eI v1 b1) : zR Zme #[v0, v1] h ψ (.bool r) := by
 apply Zvp
 rw [ZfK] at hp
 have st := S.start hψ
 refine vL f0 st.le ?_
 refine vL f1 st.le ?_
 refine brQ hp (fun hp => tZ) fun hp => ?_
 refine lp1 hp (nlS st) fun m i5 h_2 a st hp hs => ?_
 rw [Zgq] at hp
 refine vL f0 st.le ?_
 refine brR hp (fun hp => tZ) fun hp => ?_
 refine ixI (f0.mono st.le) hp fun e19 hp => ?_
 refine ixI (f1.mono st.le) hp fun e23 hp => ?_
 exact brQ hp (fun hp => tZ) fun hp => tZ
theorem Zow {a0 v0 b1 v1 r} (hp : Zdc a0 b1 = some r) (f0 : SlC (hcell h) eL v0 a0) (f1 : SlC (hcell h) eL v1 b1) : zR Zhc #[v0, v1] h ψ (.bool r) := by
 apply Zu2
 rw [Zdc] at hp
 have st := S.start hψ
 refine vL f0 st.le ?_
 refine vL f1 st.le ?_
 refine brQ hp (fun hp => tZ) fun hp => ?_
 refine lp1 hp (nlS st) fun m i5 h_2 a st hp hs => ?_
 rw [Zfn] at hp
 refine vL f0 st.le ?_
 refine brR hp (fun hp => tZ) fun hp => ?_
 refine ixV f0 st.le hp fun e19 u20 f hp => ?_
 refine ixV f1 st.le hp fun e23 u24 f_2 hp => ?_
 refine cl0 hp st (fun s _ _ hx_3 => ZqK s.fle hx_3 (f.mono st.le) (f_2.mono st.le)) fun r25 h_3 st hp => ⟨_, rfl, ?_⟩
 exact brQ hp (fun hp => tZ) fun hp => tZ
theorem ZwE {degree0 list1 v1 r} (hp : ZeG degree0 list1 = some r) (f1 : SlC (hcell h) eL v1 list1) : CallsH P ZjM #[.int .i64 degree0, v1] h (fun v h' => ∃ w0 : Value, v = .tuple #[w0, .bool r.2] ∧ S ψ h h' [.it (El.ow eL) [w0] r.1]) := by
 apply Zu7
 rw [ZeG] at hp
 have st := S.start hψ
 refine Zam (E := eL) (css := []) (xs := ([] : List (List Int))) st (fun _ => rfl) rfl rfl fun v14 h_2 st => ?_
 refine cl1 hp st (fun s _ _ hx => Zo4 s.fle hx (st.rdL 0 rfl (ZT _))) fun r18 v18 h_3 st hp => ⟨_, _, rfl, ?_⟩
 obtain ⟨n_2, hn⟩ := Zy hp
 refine ⟨fun n v6 v7 i9 h_4 => ∃ out6 : List (List Int), ∃ have7 : List (List Int), S ψ h h_4 [.it (El.ow eL) [v7] have7, .it (El.ow eL) [v6] out6] ∧ loopN (Za4 degree0 list1) n (out6, have7, i9) = some r, ⟨n_2, _, _, pk st [0,1], hn⟩, ?_⟩
 rintro n _ v6 v7 i9 h_4 ⟨out6, have7, st, hn⟩
 obtain ⟨m, a, rfl, hp, hs⟩ := Zx hn
 rw [Za4] at hp
 refine vL f1 st.le ?_
 refine brQ hp (fun hp => ?_) fun hp => ?_
 ·refine ixV f1 st.le hp fun e31 u32 f hp => ?_
  refine cl0 hp st (fun s_2 _ _ hx_3 => Zpt s_2.fle hx_3 (st.rdL 0 rfl (ZT _)) (f.mono st.le)) fun r33 h_5 st hp => ⟨_, _, rfl, ?_⟩
  refine brQ hp (fun hp => ?_) fun hp => ?_
  ·obtain rfl := oI hp
   exact ⟨m, ltS, _, _, pk st [0,1], hs⟩
  ·refine ixV f1 st.le hp fun e40 u41 f_2 hp => ?_
   refine cl1 hp st (fun s_3 _ _ hx_5 => ZjS s_3.fle hx_5 (f_2.mono st.le)) fun r42 v42 h_6 st hp => ⟨_, rfl, ?_⟩
   refine Zw (st.rdL 0 rfl (Za _)).one ?_
   have st := st.freeze 0 rfl (Ze (Za _))
   dsimp only [List.set] at st
   have st := st.copyF 0 rfl
   obtain ⟨l44, hx_6, hp⟩ := obind hp
   refine Zb8 st 2 rfl rfl rfl hx_6 fun v44 h_7 st => ?_
   dsimp only [List.set] at st
   refine vL f1 st.le ?_
   refine cl1 hp st (fun s_4 _ _ hx_7 => Zo4 s_4.fle hx_7 (st.rdL 2 rfl (ZT _))) fun r50 v50 h_8 st hp => ⟨_, _, rfl, ?_⟩
   refine brQ hp (fun hp => ?_) fun hp => ?_
   ·have st := st.nilO (E := eL)
    obtain rfl := oI hp
    obtain rfl := oI hs
    exact ⟨(.slice none 0 0), rfl, pk st [0]⟩
   ·obtain rfl := oI hp
    exact ⟨m, ltS, _, _, pk st [0,3], hs⟩
 ·refine cl0 hp st (fun s_5 _ _ hx_8 => Zow s_5.fle hx_8 (st.rdL 0 rfl (ZT _)) (f1.mono st.le)) fun r59 h_9 st hp => ⟨_, rfl, ?_⟩
  obtain rfl := oI hp
  obtain rfl := oI hs
  exact ⟨v6, rfl, pk st [1]⟩
theorem Zxz {y0 p0 v0_1 r} (hp : ZgC y0 = some r) (ck0 : CellsC (hcell h) p0 [.int .i64 y0.Degree, v0_1]) (f0_1 : SlC (hcell h) eL v0_1 y0.Elements) : zR ZjE #[.pointer (some p0)] h ψ (.bool r) := by
 apply ZuE
 rw [ZgC] at hp
 have st := S.start hψ
 refine ⟨fun h_2 => S ψ h h_2 [] ∧ ZgY y0 = some r, ?_, ?_⟩
 ·refine kI ck0 st.le 0 ?_
  refine cl0 hp st (fun s_4 _ _ hx_8 => Zaf s_4.fle hx_8) fun r10 h_7 st hp => ⟨_, rfl, ?_⟩
  refine brQ hp (fun hp => tZ) fun hp => ?_
  refine kV ck0 st.le 1 ?_
  refine vL f0_1 st.le ?_
  refine brQ hp (fun hp => tZ) fun hp => ?_
  refine kV ck0 st.le 1 ?_
  refine vL f0_1 st.le ?_
  exact brQ hp (fun hp => tZ) fun hp => tZ
 ·rintro _ h_2 ⟨st, hp⟩
  rw [ZgY] at hp
  refine lp1 hp (nlS st) fun m y3 h_3 a st hp hs => ?_
  rw [ZbR] at hp
  refine kV ck0 st.le 1 ?_
  refine vL f0_1 st.le ?_
  refine brQ hp (fun hp => ?_) fun hp => ?_
  ·refine kV ck0 st.le 1 ?_
   refine ixV f0_1 st.le hp fun e42 u43 f hp => ?_
   refine cl0 hp st (fun s _ _ hx_2 => Zi3 s.fle hx_2 (f.mono st.le)) fun r44 h_4 st hp => ⟨_, rfl, ?_⟩
   refine brQ hp (fun hp => tZ) fun hp => ?_
   refine kV ck0 st.le 1 ?_
   refine ixV f0_1 st.le hp fun e52 u53 f_2 hp => ?_
   refine vL f_2 st.le ?_
   refine kI ck0 st.le 0 ?_
   refine brQ hp (fun hp => tZ) fun hp => ?_
   refine brR hp (fun hp => tZ) fun hp => ?_
   refine kV ck0 st.le 1 ?_
   refine ixV f0_1 st.le hp fun e71 u72 f_3 hp => ?_
   refine kV ck0 st.le 1 ?_
   refine ixV f0_1 st.le hp fun e78 u79 f_4 hp => ?_
   refine cl0 hp st (fun s_2 _ _ hx_6 => ZiZ s_2.fle hx_6 (f_3.mono st.le) (f_4.mono st.le)) fun r80 h_5 st hp => ⟨_, rfl, ?_⟩
   exact brQ hp (fun hp => tZ) fun hp => tZ
  ·refine kI ck0 st.le 0 ?_
   refine kV ck0 st.le 1 ?_
   refine cl1 hp st (fun s_3 _ _ hx_7 => ZwE s_3.fle hx_7 (f0_1.mono st.le)) fun r93 v93 h_6 st hp => ⟨_, _, rfl, ?_⟩
   exact tZ
theorem Zq1 {list0 v0 r} (hp : ZgL list0 = some r) (f0 : SlC (hcell h) eI v0 list0) : zR ZiG #[v0] h ψ (.bool r) := by
 apply ZtE
 rw [ZgL] at hp
 have st := S.start hψ
 refine vL f0 st.le ?_
 refine brQ hp (fun hp => tZ) fun hp => ?_
 refine lp1 hp (nlS st) fun m i3 h_2 a st hp hs => ?_
 rw [Zfg] at hp
 refine vL f0 st.le ?_
 refine brR hp (fun hp => tZ) fun hp => ?_
 refine ixI (f0.mono st.le) hp fun e15 hp => ?_
 refine cl0 hp st (fun s _ _ hx_2 => Zaf s.fle hx_2) fun r17 h_3 st hp => ⟨_, rfl, ?_⟩
 exact brQ hp (fun hp => tZ) fun hp => tZ
theorem Zuo {a0 b1 r} (hp : ZeT a0 b1 = some r)  : zR ZlL #[.agg #[.int .i64 a0.A, .int .i64 a0.B], .agg #[.int .i64 b1.A, .int .i64 b1.B]] h ψ (.bool r) := by
 apply ZqB
 rw [ZeT] at hp
 have st := S.start hψ
 refine new_S st fun b2 h_2 st => ?_
 refine new_S st fun b3 h_3 st => ?_
 refine bI st 1 0 ?_
 refine bI st 0 0 ?_
 refine brQ hp (fun hp => tZ) fun hp => ?_
 refine bI st 1 0 ?_
 refine bI st 0 0 ?_
 refine brR hp (fun hp => tZ) fun hp => ?_
 refine bI st 1 1 ?_
 refine bI st 0 1 ?_
 exact tZ
theorem ZvE {g0 v0_0 v0_1 r} (hp : ZgE g0 = some r) (f0_0 : SlC (hcell h) eI v0_0 g0.Colors) (f0_1 : SlC (hcell h) Zaa v0_1 g0.Edges) : zR Zlb #[.agg #[v0_0, v0_1]] h ψ (.bool r) := by
 apply Zsy
 rw [ZgE] at hp
 have st := S.start hψ
 refine new_S st fun b1 h_2 st => ?_
 refine ⟨fun h_3 => S ψ h h_3 [.box b1 [v0_0, v0_1]] ∧ ZhI g0 = some r, ?_, ?_⟩
 ·refine bV st 0 0 ?_
  refine cl0 hp st (fun s_4 _ _ hx_6 => Zq1 s_4.fle hx_6 (f0_0.mono st.le)) fun r8 h_11 st hp => ⟨_, rfl, ?_⟩
  refine brQ hp (fun hp => tZ) fun hp => ?_
  refine bV st 0 1 ?_
  refine vL f0_1 st.le ?_
  refine brQ hp (fun hp => tZ) fun hp => ?_
  exact ⟨pk st [0], hp⟩
 ·rintro _ h_3 ⟨st, hp⟩
  rw [ZhI] at hp
  refine bV st 0 0 ?_
  refine vL f0_0 st.le ?_
  refine lp1 (os := [.box b1 [v0_0, v0_1]]) hp (pk st [0]) fun m i4 h_4 a st hp hs => ?_
  rw [Zb6] at hp
  refine bV st 0 1 ?_
  refine vL f0_1 st.le ?_
  refine brR hp (fun hp => tZ) fun hp => ?_
  refine bV st 0 1 ?_
  refine ixA (f0_1.mono st.le) hp fun e29 p29 ad hx hp => ?_
  obtain ⟨cs, ck, hr⟩ := f0_1.cells ad hx rfl
  obtain rfl := ZhF hr
  refine kI ck st.le 0 ?_
  refine kI ck st.le 1 ?_
  refine new_S st fun b5 h_5 st => ?_
  refine Zb st 0 rfl rfl rfl rfl fun h_6 st => ?_
  refine Zb st 0 rfl rfl rfl rfl fun h_7 st => ?_
  dsimp only [List.set] at st
  refine bI st 0 0 ?_
  refine cl0 hp st (fun s _ _ hx_2 => Zaf s.fle hx_2) fun r35 h_8 st hp => ⟨_, rfl, ?_⟩
  refine brQ hp (fun hp => tZ) fun hp => ?_
  refine bI st 0 1 ?_
  refine bI st 0 0 ?_
  refine cl0 hp st (fun s_2 _ _ hx_3 => Zaf s_2.fle hx_3) fun r45 h_9 st hp => ⟨_, rfl, ?_⟩
  refine brQ hp (fun hp => tZ) fun hp => ?_
  refine brQ hp (fun hp => ?_) fun hp => ?_
  ·refine bV st 1 1 ?_
   refine ixA (f0_1.mono st.le) hp fun e56 p56 ad_2 hx_4 hp => ?_
   obtain ⟨cs_2, ck_2, hr_2⟩ := f0_1.cells ad_2 hx_4 rfl
   obtain rfl := ZhF hr_2
   refine kI ck_2 st.le 0 ?_
   refine kI ck_2 st.le 1 ?_
   refine bI st 0 0 ?_
   refine bI st 0 1 ?_
   refine cl0 hp st (fun s_3 _ _ hx_5 => Zuo s_3.fle hx_5) fun r59 h_10 st hp => ⟨_, rfl, ?_⟩
   refine brQ hp (fun hp => tZ) fun hp => ?_
   obtain rfl := oI hp
   exact ⟨m, ltS, pk st [1], hs⟩
  ·obtain rfl := oI hp
   exact ⟨m, ltS, pk st [1], hs⟩
theorem ZqP {y0 p0 v0_2 r} (hp : Zf0 y0 = some r) (ck0 : CellsC (hcell h) p0 [.int .i64 y0.Kind, .int .i64 y0.Size, v0_2]) (f0_2 : SlC (hcell h) eL v0_2 y0.Rows) : CallsH P Zk1 #[.pointer (some p0)] h (fun v h' => ∃ w0 : Value, ∃ w1 : Value, v = .tuple #[.agg #[w0, w1], .bool r.2] ∧ S ψ h h' [.it oL [w0] r.1.Colors, .it (El.ow Zaa) [w1] r.1.Edges]) := by
 apply Ztn
 rw [Zf0] at hp
 have st := S.start hψ
 refine new_S st fun b2 h_2 st => ?_
 refine kI ck0 st.le 1 ?_
 refine cl0 hp st (fun s _ _ hx => Zaf s.fle hx) fun r10 h_3 st hp => ⟨_, rfl, ?_⟩
 refine brQ hp (fun hp => ?_) fun hp => ?_
 ·refine Zb st 0 rfl rfl rfl rfl fun h_4 st => ?_
  refine Zb st 0 rfl rfl rfl rfl fun h_5 st => ?_
  dsimp only [List.set] at st
  refine bV st 0 0 ?_
  refine bV st 0 1 ?_
  have st := st.nilO (E := eI)
  have st := st.nilO (E := Zaa)
  obtain rfl := oI hp
  exact ⟨(.slice none 0 0), (.slice none 0 0), rfl, pk st [1,0]⟩
 ·refine kI ck0 st.le 1 ?_
  obtain ⟨l17, hx_2, hp⟩ := obind hp
  refine Zav (E := eI) st rfl hx_2 fun v17 h_6 st => ?_
  refine Zw (st.rdL 0 rfl (Za _)).one ?_
  refine new_S st fun b4 h_7 st => ?_
  refine Zb st 0 rfl rfl rfl (st.rdL 1 rfl (Za _)).one fun h_8 st => ?_
  refine Zb st 0 rfl rfl rfl rfl fun h_9 st => ?_
  dsimp only [List.set] at st
  have st := st.nilO (E := Zaa)
  obtain ⟨n_2, hn⟩ := Zy hp
  refine ⟨fun n y5 h_10 => ∃ xs : List ZD, ∃ v_3 : Value, S ψ h h_10 [.box b4 [v17, v_3], .it oL [v17] l17, .box b2 [(.slice none 0 0), (.slice none 0 0)], .it (El.ow Zaa) [v_3] xs] ∧ loopN (ZcH y0 l17) n (y5, xs) = some r, ⟨n_2, _, _, pk st [1,2,3,0], hn⟩, ?_⟩
  rintro n _ y5 h_10 ⟨xs, v_3, st, hn⟩
  obtain ⟨m, a, rfl, hp, hs⟩ := Zx hn
  rw [ZcH] at hp
  refine kV ck0 st.le 2 ?_
  refine vL f0_2 st.le ?_
  refine brQ hp (fun hp => ?_) fun hp => ?_
  ·refine kV ck0 st.le 2 ?_
   refine ixV f0_2 st.le hp fun e33 u34 f hp => ?_
   refine vL f st.le ?_
   refine brQ hp (fun hp => ?_) fun hp => ?_
   ·refine Zb st 2 rfl rfl rfl rfl fun h_11 st => ?_
    refine Zb st 2 rfl rfl rfl rfl fun h_12 st => ?_
    dsimp only [List.set] at st
    refine bV st 2 0 ?_
    refine bV st 2 1 ?_
    have st := st.nilO (E := eI)
    have st := st.nilO (E := Zaa)
    obtain rfl := oI hp
    obtain rfl := oI hs
    exact ⟨(.slice none 0 0), (.slice none 0 0), rfl, pk st [1,0]⟩
   ·refine ⟨fun _ => False, ?_⟩
    have stR_9 := st
    have xR_9 := ExtH.refl h_10
    refine kV ck0 st.le 2 ?_
    refine ixV f0_2 st.le hp fun e45 u46 f_2 hp => ?_
    refine ixI (f_2.mono st.le) hp fun e47 hp => ?_
    refine kV ck0 st.le 2 ?_
    refine ixV f0_2 st.le hp fun e54 u55 f_3 hp => ?_
    refine ixI (f_3.mono st.le) hp fun e56 hp => ?_
    refine Zpe (E := Zaa) (css := [[.int .i64 e47, .int .i64 e56]]) (xs := ([(ZD.mk e47 e56)] : List ZD)) st (fun _ => ⟨[], [], rfl, ⟨[.int .i64 e47], [.int .i64 e56], [], [], rfl, rfl, ⟨rfl, rfl⟩, ⟨rfl, rfl⟩⟩, rfl⟩) rfl rfl fun v59 h_13 xE st => ⟨ExtBut.of_ext (xR_9.trans xE), ?_⟩
    replace xR_9 := xR_9.trans xE
    refine Z8 ?_
    refine ldV_K (stR_9.cells 0 rfl) 1 rfl rfl ?_
    obtain ⟨l60, hx_8, hp⟩ := obind hp
    refine app_S st 4 rfl (Zir Zo9 (st.rdL 0 rfl frzf_T_impl_Edge)) rfl rfl hx_8 fun v60 h_14 st => ?_
    refine Zb st 1 rfl rfl rfl (st.rdL 4 rfl frzf_T_impl_Edge).one fun h_15 st => ?_
    dsimp only [List.set] at st
    obtain rfl := oI hp
    exact ⟨m, ltS, _, _, pk st [1,2,3,4], hs⟩
  ·refine ⟨fun _ => False, ?_⟩
   have stR_11 := st
   have xR_11 := ExtH.refl h_10
   refine bV st 0 0 ?_
   refine bV st 0 1 ?_
   obtain ⟨r64, hx_9, hp⟩ := obind hp
   obtain ⟨φ_2, L_2, s_2, r_3⟩ := id st
   refine (ZvE s_2.fle hx_9 (st.rdL 1 rfl (Za _)) (st.rdL 3 rfl frzf_T_impl_Edge)).mono fun v_4 h_16 ⟨eq_2, t_2⟩ => ⟨_, eq_2, ExtBut.of_ext (xR_11.trans t_2.ext), ?_⟩
   replace xR_11 := xR_11.trans t_2.ext
   replace st := join0 s_2 r_3 t_2
   clear t_2 s_2 r_3
   refine Z8 ?_
   refine ldV_K (stR_11.cells 0 rfl) 0 rfl rfl ?_
   refine Z8 ?_
   refine ldV_K (stR_11.cells 0 rfl) 1 rfl rfl ?_
   refine Zb st 2 rfl rfl rfl (st.rdL 1 rfl (Za _)).one fun h_17 st => ?_
   refine Zb st 2 rfl rfl rfl (st.rdL 3 rfl frzf_T_impl_Edge).one fun h_18 st => ?_
   dsimp only [List.set] at st
   refine bV st 2 0 ?_
   refine bV st 2 1 ?_
   obtain rfl := oI hp
   obtain rfl := oI hs
   exact ⟨v17, v_3, rfl, pk st [1,3]⟩
theorem ZuJ {a0 v0 r} (hp : Zfl a0 = some r) (f0 : SlC (hcell h) eL v0 a0) : zR Zk9 #[v0] h ψ (.bool r) := by
 apply ZpZ
 rw [Zfl] at hp
 have st := S.start hψ
 refine vL f0 st.le ?_
 refine ⟨fun h_2 => S ψ h h_2 [] ∧ Zhu a0 = some r, ?_, ?_⟩
 ·refine brQ hp (fun hp => tZ) fun hp => ?_
  exact brQ hp (fun hp => tZ) fun hp => tZ
 ·rintro _ h_2 ⟨st, hp⟩
  rw [Zhu] at hp
  refine lp1 hp (nlS st) fun m x4 h_3 a st hp hs => ?_
  rw [Zd6] at hp
  refine brQ hp (fun hp => ?_) fun hp => ?_
  ·refine ixV f0 st.le hp fun e23 u24 f hp => ?_
   refine vL f st.le ?_
   refine brQ hp (fun hp => tZ) fun hp => ?_
   refine ixV f0 st.le hp fun e31 u32 f_2 hp => ?_
   refine cl0 hp st (fun s _ _ hx_3 => Zi3 s.fle hx_3 (f_2.mono st.le)) fun r33 h_4 st hp => ⟨_, rfl, ?_⟩
   exact brQ hp (fun hp => tZ) fun hp => tZ
  ·refine lp1 hp (nlS st) fun m_2 y5 h_5 a_2 st hp hs_2 => ?_
   rw [Zcx] at hp
   refine brQ hp (fun hp => ?_) fun hp => ?_
   ·refine Zam (E := eI) (css := []) (xs := ([] : List Int)) st (fun _ => rfl) rfl rfl fun v41 h_6 st => ?_
    obtain ⟨n_4, hn_3⟩ := Zy hp
    refine ⟨fun n_3 v6 x7 h_7 => ∃ col6 : List Int, S ψ h h_7 [.it oL [v6] col6] ∧ loopN (Zc2 a0 y5) n_3 (col6, x7) = some a_2, ⟨n_4, _, pk st [0], hn_3⟩, ?_⟩
    rintro n_3 _ v6 x7 h_7 ⟨col6, st, hn_3⟩
    obtain ⟨m_3, a_3, rfl, hp, hs_3⟩ := Zx hn_3
    rw [Zc2] at hp
    refine brQ hp (fun hp => ?_) fun hp => ?_
    ·refine ixV f0 st.le hp fun e50 u51 f_3 hp => ?_
     refine ixI (f_3.mono st.le) hp fun e53 hp => ?_
     obtain ⟨l56, hx_6, hp⟩ := obind hp
     refine Zag st 0 rfl (fun _ => ⟨rfl, rfl⟩) rfl rfl hx_6 fun v56 h_8 st => ?_
     dsimp only [List.set] at st
     obtain rfl := oI hp
     exact ⟨m_3, ltS, _, pk st [0], hs_3⟩
    ·refine cl0 hp st (fun s_2 _ _ hx_7 => Zi3 s_2.fle hx_7 (st.rdL 0 rfl (Za _))) fun r58 h_9 st hp => ⟨_, rfl, ?_⟩
     refine brQ hp (fun hp => ?_) fun hp => ?_
     ·obtain rfl := oI hp
      obtain rfl := oI hs_3
      obtain rfl := oI hs_2
      obtain rfl := oI hs
      exact ⟨rfl, nlS st⟩
     ·obtain rfl := oI hp
      obtain rfl := oI hs_3
      exact ⟨m_2, ltS, nlS st, hs_2⟩
   ·obtain rfl := oI hp
    obtain rfl := oI hs_2
    obtain rfl := oI hs
    exact ⟨rfl, nlS st⟩
theorem ZuQ {list0 v0 low1 high2 r} (hp : ZgG list0 low1 high2 = some r) (f0 : SlC (hcell h) eI v0 list0) : zR ZlH #[v0, .int .i64 low1, .int .i64 high2] h ψ (.bool r) := by
 apply ZsD
 rw [ZgG] at hp
 have st := S.start hψ
 refine lp1 hp (nlS st) fun m i7 h_2 a st hp hs => ?_
 rw [ZcB] at hp
 refine vL f0 st.le ?_
 refine brR hp (fun hp => tZ) fun hp => ?_
 refine ixI (f0.mono st.le) hp fun e16 hp => ?_
 refine cl0 hp st (fun s _ _ hx_2 => Zaf s.fle hx_2) fun r20 h_3 st hp => ⟨_, rfl, ?_⟩
 refine brQ hp (fun hp => tZ) fun hp => ?_
 refine brR hp (fun hp => tZ) fun hp => ?_
 refine ixI (f0.mono st.le) hp fun e29 hp => ?_
 refine ixI (f0.mono st.le) hp fun e33 hp => ?_
 exact brQ hp (fun hp => tZ) fun hp => tZ
theorem ZuL {set0 v0 points1 r} (hp : Zgd set0 points1 = some r) (f0 : SlC (hcell h) eI v0 set0) : zR ZiX #[v0, .int .i64 points1] h ψ (.bool r) := by
 apply Zx0
 rw [Zgd] at hp
 have st := S.start hψ
 refine vL f0 st.le ?_
 refine brR hp (fun hp => tZ) fun hp => ?_
 refine cl0 hp st (fun s _ _ hx => ZuQ s.fle hx (f0.mono st.le)) fun r12 h_2 st hp => ⟨_, rfl, ?_⟩
 exact tZ
theorem ZpP {d0 p0 v0_1 r} (hp : Zgc d0 = some r) (ck0 : CellsC (hcell h) p0 [.int .i64 d0.Points, v0_1]) (f0_1 : SlC (hcell h) eL v0_1 d0.Blocks) : zR Zlo #[.pointer (some p0)] h ψ (.bool r) := by
 apply ZqN
 rw [Zgc] at hp
 have st := S.start hψ
 refine ⟨fun h_2 => S ψ h h_2 [] ∧ ZhE d0 = some r, ?_, ?_⟩
 ·refine kI ck0 st.le 0 ?_
  refine cl0 hp st (fun s_3 _ _ hx_6 => Zaf s_3.fle hx_6) fun r8 h_6 st hp => ⟨_, rfl, ?_⟩
  refine brQ hp (fun hp => tZ) fun hp => ?_
  refine kV ck0 st.le 1 ?_
  refine vL f0_1 st.le ?_
  exact brQ hp (fun hp => tZ) fun hp => tZ
 ·rintro _ h_2 ⟨st, hp⟩
  rw [ZhE] at hp
  refine lp1 hp (nlS st) fun m i3 h_3 a st hp hs => ?_
  rw [ZcO] at hp
  refine kV ck0 st.le 1 ?_
  refine vL f0_1 st.le ?_
  refine brR hp (fun hp => tZ) fun hp => ?_
  refine kV ck0 st.le 1 ?_
  refine ixV f0_1 st.le hp fun e32 u33 f hp => ?_
  refine kI ck0 st.le 0 ?_
  refine cl0 hp st (fun s _ _ hx_2 => ZuL s.fle hx_2 (f.mono st.le)) fun r38 h_4 st hp => ⟨_, rfl, ?_⟩
  refine brQ hp (fun hp => tZ) fun hp => ?_
  refine brR hp (fun hp => tZ) fun hp => ?_
  refine kV ck0 st.le 1 ?_
  refine ixV f0_1 st.le hp fun e50 u51 f_2 hp => ?_
  refine kV ck0 st.le 1 ?_
  refine ixV f0_1 st.le hp fun e57 u58 f_3 hp => ?_
  refine cl0 hp st (fun s_2 _ _ hx_5 => ZiZ s_2.fle hx_5 (f_2.mono st.le) (f_3.mono st.le)) fun r59 h_5 st hp => ⟨_, rfl, ?_⟩
  exact brQ hp (fun hp => tZ) fun hp => tZ
theorem ZtK {a0 v0 b1 v1 r} (hp : Zdx a0 b1 = some r) (f0 : SlC (hcell h) eI v0 a0) (f1 : SlC (hcell h) eI v1 b1) : zR Zlt #[v0, v1] h ψ (.int .i64 r) := by
 apply ZtJ
 rw [Zdx] at hp
 have st := S.start hψ
 refine lp2 hp (nlS st) fun m sum5 i6 h_2 a st hp hs => ?_
 rw [ZgA] at hp
 refine vL f0 st.le ?_
 refine brR hp (fun hp => tZ) fun hp => ?_
 refine ixI (f0.mono st.le) hp fun e16 hp => ?_
 refine ixI (f1.mono st.le) hp fun e20 hp => ?_
 exact tZ
theorem ZqQ {y0 v0 r} (hp : Zfv y0 = some r) (f0 : SlC (hcell h) eL v0 y0) : zR ZiI #[v0] h ψ (.bool r) := by
 apply Zsb
 rw [Zfv] at hp
 have st := S.start hψ
 refine vL f0 st.le ?_
 refine ⟨fun h_2 => S ψ h h_2 [] ∧ Zha y0 = some r, ?_, ?_⟩
 ·refine brQ hp (fun hp => tZ) fun hp => ?_
  exact brQ hp (fun hp => tZ) fun hp => tZ
 ·rintro _ h_2 ⟨st, hp⟩
  rw [Zha] at hp
  refine lp1 hp (nlS st) fun m y4 h_3 a st hp hs => ?_
  rw [ZdW] at hp
  refine brQ hp (fun hp => ?_) fun hp => ?_
  ·refine ixV f0 st.le hp fun e23 u24 f hp => ?_
   refine vL f st.le ?_
   refine brQ hp (fun hp => tZ) fun hp => ?_
   refine lp1 hp (nlS st) fun m_2 y5 h_4 a_2 st hp hs_2 => ?_
   rw [Zaz] at hp
   refine brQ hp (fun hp => ?_) fun hp => ?_
   ·refine ixV f0 st.le hp fun e35 u36 f_2 hp => ?_
    refine ixI (f_2.mono st.le) hp fun e38 hp => ?_
    refine brQ hp (fun hp => ?_) fun hp => ?_
    ·refine ixV f0 st.le hp fun e44 u45 f_3 hp => ?_
     refine ixI (f_3.mono st.le) hp fun e47 hp => ?_
     refine brQ hp (fun hp => ?_) fun hp => ?_
     ·obtain rfl := oI hp
      obtain rfl := oI hs_2
      obtain rfl := oI hs
      exact ⟨rfl, nlS st⟩
     ·obtain rfl := oI hp
      exact ⟨m_2, ltS, nlS st, hs_2⟩
    ·obtain rfl := oI hp
     exact ⟨m_2, ltS, nlS st, hs_2⟩
   ·obtain rfl := oI hp
    obtain rfl := oI hs_2
    exact ⟨m, ltS, nlS st, hs⟩
  ·refine lp1 hp (nlS st) fun m_3 y6 h_5 a_3 st hp hs_3 => ?_
   rw [Zeg] at hp
   refine brQ hp (fun hp => ?_) fun hp => ?_
   ·refine lp1 hp (nlS st) fun m_4 y7 h_6 a_4 st hp hs_4 => ?_
    rw [Zb9] at hp
    refine brQ hp (fun hp => ?_) fun hp => ?_
    ·refine ixV f0 st.le hp fun e63 u64 f_4 hp => ?_
     refine ixV f0 st.le hp fun e67 u68 f_5 hp => ?_
     refine cl0 hp st (fun s _ _ hx_8 => ZtK s.fle hx_8 (f_4.mono st.le) (f_5.mono st.le)) fun r69 h_7 st hp => ⟨_, rfl, ?_⟩
     refine brQ hp (fun hp => ?_) fun hp => ?_
     ·obtain rfl := oI hp
      obtain rfl := oI hs_4
      obtain rfl := oI hs_3
      obtain rfl := oI hs
      exact ⟨rfl, nlS st⟩
     ·obtain rfl := oI hp
      exact ⟨m_4, ltS, nlS st, hs_4⟩
    ·obtain rfl := oI hp
     obtain rfl := oI hs_4
     exact ⟨m_3, ltS, nlS st, hs_3⟩
   ·obtain rfl := oI hp
    obtain rfl := oI hs_3
    obtain rfl := oI hs
    exact ⟨rfl, nlS st⟩
theorem Zqj {o0 p0 v0_2 r} (hp : ZeP o0 = some r) (ck0 : CellsC (hcell h) p0 [.int .i64 o0.Kind, .int .i64 o0.Size, v0_2]) (f0_2 : SlC ψ eL v0_2 o0.Rows) : CallsH P Zkm #[.pointer (some p0)] h (fun v h' => ∃ w0 : Value, v = .agg #[.int .i64 r.Levels, .int .i64 r.Columns, w0] ∧ S ψ h h' [.it (El.sl eL) [w0] r.Rows]) := by
 apply Zu6
 rw [ZeP] at hp
 have st := S.start hψ
 refine new_S st fun b2 h_2 st => ?_
 refine ⟨fun _ => False, ?_⟩
 have stR_2 := st
 have xR_2 := ExtH.refl h_2
 refine ZjC st fun b3 h_3 xE st => ⟨ExtBut.of_ext (xR_2.trans xE), ?_⟩
 replace xR_2 := xR_2.trans xE
 refine Zz ?_
 refine kI ck0 stR_2.le 1 ?_
 refine Z8 ?_
 refine kV ck0 stR_2.le 2 ?_
 refine Zw (f0_2.mono st.leF).one ?_
 refine Zb st 0 rfl rfl rfl rfl fun h_4 st => ?_
 refine Zb st 0 rfl rfl rfl rfl fun h_5 st => ?_
 refine Zb st 0 rfl rfl rfl (f0_2.mono st.leF).one fun h_6 st => ?_
 dsimp only [List.set] at st
 refine kV ck0 st.le 2 ?_
 refine vL f0_2 st.leF ?_
 refine brQ hp (fun hp => ?_) fun hp => ?_
 ·refine kV ck0 st.le 2 ?_
  refine ixV f0_2 st.leF hp fun e23 u24 f hp => ?_
  refine vL f st.leF ?_
  refine Zb st 0 rfl rfl rfl rfl fun h_7 st => ?_
  dsimp only [List.set] at st
  refine bI st 0 0 ?_
  refine bI st 0 1 ?_
  refine bV st 0 2 ?_
  refine Zb st 1 rfl rfl rfl rfl fun h_8 st => ?_
  refine Zb st 1 rfl rfl rfl rfl fun h_9 st => ?_
  refine Zb st 1 rfl rfl rfl (f0_2.mono st.leF).one fun h_10 st => ?_
  dsimp only [List.set] at st
  refine bI st 1 0 ?_
  refine bI st 1 1 ?_
  refine bV st 1 2 ?_
  have st := st.arg f0_2
  obtain rfl := oI hp
  exact ⟨v0_2, rfl, pk st [0]⟩
 ·refine bI st 0 0 ?_
  refine bI st 0 1 ?_
  refine bV st 0 2 ?_
  refine Zb st 1 rfl rfl rfl rfl fun h_11 st => ?_
  refine Zb st 1 rfl rfl rfl rfl fun h_12 st => ?_
  refine Zb st 1 rfl rfl rfl (f0_2.mono st.leF).one fun h_13 st => ?_
  dsimp only [List.set] at st
  refine bI st 1 0 ?_
  refine bI st 1 1 ?_
  refine bV st 1 2 ?_
  have st := st.arg f0_2
  obtain rfl := oI hp
  exact ⟨v0_2, rfl, pk st [0]⟩
theorem Zxn {levels0 column1 r} (hp : Zh0 levels0 column1 = some r)  : zR Zjp #[.int .i64 levels0, .int .i64 column1] h ψ (.bool r) := by
 apply Zwg
 rw [Zh0] at hp
 have st := S.start hψ
 refine cl0 hp st (fun s _ _ hx => Zaf s.fle hx) fun r6 h_2 st hp => ⟨_, rfl, ?_⟩
 refine brR hp (fun hp => tZ) fun hp => ?_
 refine cl0 hp st (fun s_2 _ _ hx_2 => Zaf s_2.fle hx_2) fun r9 h_3 st hp => ⟨_, rfl, ?_⟩
 exact tZ
theorem ZsC {y0 p0 v0_2 r} (hp : ZeZ y0 = some r) (ck0 : CellsC (hcell h) p0 [.int .i64 y0.Levels, .int .i64 y0.Columns, v0_2]) (f0_2 : SlC (hcell h) eL v0_2 y0.Rows) : zR Zls #[.pointer (some p0)] h ψ (.bool r) := by
 apply Zqa
 rw [ZeZ] at hp
 have st := S.start hψ
 refine ⟨fun h_2 => S ψ h h_2 [] ∧ Zin y0 = some r, ?_, ?_⟩
 ·refine kI ck0 st.le 0 ?_
  refine kI ck0 st.le 1 ?_
  refine cl0 hp st (fun s_2 _ _ hx_6 => Zxn s_2.fle hx_6) fun r13 h_6 st hp => ⟨_, rfl, ?_⟩
  refine brQ hp (fun hp => tZ) fun hp => ?_
  refine kV ck0 st.le 2 ?_
  refine vL f0_2 st.le ?_
  exact brQ hp (fun hp => tZ) fun hp => tZ
 ·rintro _ h_2 ⟨st, hp⟩
  rw [Zin] at hp
  refine lp1 hp (nlS st) fun m y3 h_3 a st hp hs => ?_
  rw [Zdd] at hp
  refine kV ck0 st.le 2 ?_
  refine vL f0_2 st.le ?_
  refine brR hp (fun hp => tZ) fun hp => ?_
  refine kV ck0 st.le 2 ?_
  refine ixV f0_2 st.le hp fun e37 u38 f hp => ?_
  refine vL f st.le ?_
  refine kI ck0 st.le 1 ?_
  refine brQ hp (fun hp => tZ) fun hp => ?_
  refine lp1 hp (nlS st) fun m_2 y4 h_4 a_2 st hp hs_2 => ?_
  rw [ZcX] at hp
  refine kV ck0 st.le 2 ?_
  refine ixV f0_2 st.le hp fun e51 u52 f_2 hp => ?_
  refine vL f_2 st.le ?_
  refine brQ hp (fun hp => ?_) fun hp => ?_
  ·refine kV ck0 st.le 2 ?_
   refine ixV f0_2 st.le hp fun e62 u63 f_3 hp => ?_
   refine ixI (f_3.mono st.le) hp fun e65 hp => ?_
   refine kI ck0 st.le 0 ?_
   refine cl0 hp st (fun s _ _ hx_5 => Zaf s.fle hx_5) fun r72 h_5 st hp => ⟨_, rfl, ?_⟩
   refine brQ hp (fun hp => ?_) fun hp => ?_
   ·obtain rfl := oI hp
    obtain rfl := oI hs_2
    obtain rfl := oI hs
    exact ⟨rfl, nlS st⟩
   ·obtain rfl := oI hp
    exact ⟨m_2, ltS, nlS st, hs_2⟩
  ·obtain rfl := oI hp
   obtain rfl := oI hs_2
   exact ⟨m, ltS, nlS st, hs⟩
theorem Zi1 {q0 r} (hp : Za0 q0 = some r)  : zR ZgB #[.int .i64 q0] h ψ (.tuple #[.int .i64 r.1, .int .i64 r.2]) := by
 apply ZwH
 rw [Za0] at hp
 have st := S.start hψ
 refine cl0 hp st (fun s _ _ hx => Zaf s.fle hx) fun r8 h_2 st hp => ⟨_, rfl, ?_⟩
 refine brQ hp (fun hp => tZ) fun hp => ?_
 refine lp1 hp (nlS st) fun m p4 h_3 a st hp hs => ?_
 rw [Zhk] at hp
 obtain ⟨_, hx_2, hp⟩ := obind hp
 refine ⟨Zae hx_2, ?_⟩
 refine brQ hp (fun hp => tZ) fun hp => ?_
 refine lp2 hp (nlS st) fun m_2 k5 n6 h_4 a_2 st hp hs_2 => ?_
 rw [ZhB] at hp
 refine brQ hp (fun hp => ?_) fun hp => ?_
 ·obtain ⟨_, hx_3, hp⟩ := obind hp
  refine ⟨Zae hx_3, ?_⟩
  refine brQ hp (fun hp => ?_) fun hp => ?_
  ·obtain rfl := oI hp
   obtain rfl := oI hs_2
   obtain rfl := oI hs
   exact ⟨rfl, nlS st⟩
  ·obtain ⟨_, hx_4, hp⟩ := obind hp
   refine ⟨Zae hx_4, ?_⟩
   obtain rfl := oI hp
   exact ⟨m_2, ltS, nlS st, hs_2⟩
 ·obtain rfl := oI hp
  obtain rfl := oI hs_2
  obtain rfl := oI hs
  exact ⟨rfl, nlS st⟩
theorem ZdQ {a0 p1 n2 r} (hp : Zay a0 p1 n2 = some r)  : zL ZbW #[.int .i64 a0, .int .i64 p1, .int .i64 n2] h ψ eI r := by
 apply Zvu
 rw [Zay] at hp
 have st := S.start hψ
 refine Zam (E := eI) (css := []) (xs := ([] : List Int)) st (fun _ => rfl) rfl rfl fun v8 h_2 st => ?_
 obtain ⟨n_2, hn⟩ := Zy hp
 refine ⟨fun n a0_2 n2_2 v7 h_3 => ∃ out7 : List Int, S ψ h h_3 [.it oL [v7] out7] ∧ loopN (ZbN p1) n (a0_2, n2_2, out7) = some r, ⟨n_2, _, pk st [0], hn⟩, ?_⟩
 rintro n _ a0_2 n2_2 v7 h_3 ⟨out7, st, hn⟩
 obtain ⟨m, a, rfl, hp, hs⟩ := Zx hn
 rw [ZbN] at hp
 refine brQ hp (fun hp => ?_) fun hp => ?_
 ·obtain ⟨_, hx, hp⟩ := obind hp
  refine ⟨Zae hx, ?_⟩
  obtain ⟨l18, hx_2, hp⟩ := obind hp
  refine Zag st 0 rfl (fun _ => ⟨rfl, rfl⟩) rfl rfl hx_2 fun v18 h_4 st => ?_
  dsimp only [List.set] at st
  obtain ⟨_, hx_3, hp⟩ := obind hp
  refine ⟨Zae hx_3, ?_⟩
  obtain rfl := oI hp
  exact ⟨m, ltS, _, pk st [0], hs⟩
 ·obtain rfl := oI hp
  obtain rfl := oI hs
  exact ⟨v7, rfl, pk st [0]⟩
theorem Zlv {p0 k1 r} (hp : Zco p0 k1 = some r)  : zR ZeJ #[.int .i64 p0, .int .i64 k1] h ψ (.int .i64 r) := by
 apply ZxS
 rw [Zco] at hp
 have st := S.start hψ
 refine lp2 hp (nlS st) fun m k1_2 out5 h_2 a st hp hs => ?_
 rw [Zhr] at hp
 exact brQ hp (fun hp => tZ) fun hp => tZ
theorem ZmL {y0 v0 y1 v1 y2 r} (hp : ZbH y0 y1 y2 = some r) (f0 : SlC (hcell h) eI v0 y0) (f1 : SlC (hcell h) eI v1 y1) : zL ZhW #[v0, v1, .int .i64 y2] h ψ eI r := by
 apply ZrJ
 rw [ZbH] at hp
 have st := S.start hψ
 refine cl1 hp st (fun s _ _ hx => ZjS s.fle hx (f0.mono st.le)) fun r14 v14 h_2 st hp => ⟨_, rfl, ?_⟩
 refine vL f1 st.le ?_
 refine ZA (st.rdL 0 rfl (Za _)) ?_
 obtain ⟨n_6, hn⟩ := Zy hp
 refine ⟨fun n y9 h_3 => ∃ xs : List Int, S ψ h h_3 [.it oL [v14] xs] ∧ loopN (ZaE y1 y2) n (y9, xs) = some r, ⟨n_6, _, pk st [0], hn⟩, ?_⟩
 rintro n _ y9 h_3 ⟨xs, st, hn⟩
 obtain ⟨m, a, rfl, hp, hs⟩ := Zx hn
 rw [ZaE] at hp
 refine brQ hp (fun hp => ?_) fun hp => ?_
 ·refine ixI (st.rdL 0 rfl (Za _)) hp fun e28 hp => ?_
  obtain ⟨n_3, hn_2⟩ := Zy hp
  refine ⟨fun n_2 y11 h_4 => ∃ xs_2 : List Int, S ψ h h_4 [.it oL [v14] xs_2] ∧ loopN (Zcp y1 y2 y9 e28) n_2 (y11, xs_2) = some a, ⟨n_3, _, pk st [0], hn_2⟩, ?_⟩
  rintro n_2 _ y11 h_4 ⟨xs_2, st, hn_2⟩
  obtain ⟨m_2, a_2, rfl, hp, hs_2⟩ := Zx hn_2
  rw [Zcp] at hp
  refine brQ hp (fun hp => ?_) fun hp => ?_
  ·refine ixI (st.rdL 0 rfl (Za _)) hp fun e45 hp => ?_
   refine ixI (f1.mono st.le) hp fun e52 hp => ?_
   obtain ⟨_, hx_5, hp⟩ := obind hp
   refine ⟨Zae hx_5, ?_⟩
   refine ixA (st.rdL 0 rfl (Za _)) hp fun e58 p58 ad_4 hx_6 hp => ?_
   refine st1_S st 0 rfl ad_4 hx_6 rfl (fun _ => ⟨rfl, rfl⟩) fun h_5 st => ?_
   dsimp only [List.set] at st
   obtain rfl := oI hp
   exact ⟨m_2, ltS, _, pk st [0], hs_2⟩
  ·obtain rfl := oI hp
   obtain rfl := oI hs_2
   exact ⟨m, ltS, _, pk st [0], hs⟩
 ·obtain ⟨n_5, hn_3⟩ := Zy hp
  refine ⟨fun n_4 v7 h_6 => ∃ y7 : List Int, S ψ h h_6 [.it oL [v7] y7] ∧ loopN (Zbl y1) n_4 y7 = some a, ⟨n_5, _, pk st [0], hn_3⟩, ?_⟩
  rintro n_4 _ v7 h_6 ⟨y7, st, hn_3⟩
  obtain ⟨m_3, a_3, rfl, hp, hs_3⟩ := Zx hn_3
  rw [Zbl] at hp
  refine ZA (st.rdL 0 rfl (Za _)) ?_
  refine brQ hp (fun hp => ?_) fun hp => ?_
  ·refine ZA (st.rdL 0 rfl (Za _)) ?_
   obtain ⟨l67, hx_7, hp⟩ := obind hp
   refine cut_S none (some (IntKind.i64.wrap ((y7.length : Int) - 1))) st 0 rfl hx_7 rfl fun v67 st => ?_
   dsimp only [List.set] at st
   obtain rfl := oI hp
   exact ⟨m_3, ltS, _, pk st [0], hs_3⟩
  ·obtain rfl := oI hp
   obtain rfl := oI hs_3
   obtain rfl := oI hs
   exact ⟨v7, rfl, pk st [0]⟩
theorem Zjr {list0 v0 p1 r} (hp : ZaB list0 p1 = some r) (f0 : SlC (hcell h) eI v0 list0) : zR ZeA #[v0, .int .i64 p1] h ψ (.int .i64 r) := by
 apply ZuU
 rw [ZaB] at hp
 have st := S.start hψ
 refine vL f0 st.le ?_
 refine lp2 hp (nlS st) fun m out5 i6 h_2 a st hp hs => ?_
 rw [Zch] at hp
 refine brR hp (fun hp => tZ) fun hp => ?_
 refine ixI (f0.mono st.le) hp fun e19 hp => ?_
 exact tZ
theorem Zps {poly0 v0 p1 r} (hp : Zd2 poly0 p1 = some r) (f0 : SlC (hcell h) eI v0 poly0) : zR Zg9 #[v0, .int .i64 p1] h ψ (.bool r) := by
 apply ZuB
 rw [Zd2] at hp
 have st := S.start hψ
 refine vL f0 st.le ?_
 refine lp1 hp (nlS st) fun m d6 h_2 a st hp hs => ?_
 rw [ZhG] at hp
 refine brR hp (fun hp => tZ) fun hp => ?_
 refine lp1 hp (nlS st) fun m_2 n7 h_3 a_2 st hp hs_2 => ?_
 rw [ZhJ] at hp
 refine cl0 hp st (fun s _ _ hx => Zlv s.fle hx) fun r22 h_4 st hp => ⟨_, rfl, ?_⟩
 refine brQ hp (fun hp => ?_) fun hp => ?_
 ·refine cl1 hp st (fun s_2 _ _ hx_2 => ZdQ s_2.fle hx_2) fun r29 v29 h_5 st hp => ⟨_, rfl, ?_⟩
  obtain ⟨l31, hx_3, hp⟩ := obind hp
  refine Zag st 0 rfl (fun _ => ⟨rfl, rfl⟩) rfl rfl hx_3 fun v31 h_6 st => ?_
  dsimp only [List.set] at st
  refine cl1 hp st (fun s_3 _ _ hx_4 => ZmL s_3.fle hx_4 (f0.mono st.le) (st.rdL 0 rfl (Za _))) fun r35 v35 h_7 st hp => ⟨_, rfl, ?_⟩
  refine cl0 hp st (fun s_4 _ _ hx_5 => Zjr s_4.fle hx_5 (st.rdL 0 rfl (Za _))) fun r38 h_8 st hp => ⟨_, rfl, ?_⟩
  refine brQ hp (fun hp => ?_) fun hp => ?_
  ·obtain rfl := oI hp
   obtain rfl := oI hs_2
   obtain rfl := oI hs
   exact ⟨rfl, nlS st⟩
  ·obtain rfl := oI hp
   exact ⟨m_2, ltS, nlS st, hs_2⟩
 ·obtain rfl := oI hp
  obtain rfl := oI hs_2
  exact ⟨m, ltS, nlS st, hs⟩
theorem Zsn {q0 r} (hp : Zdb q0 = some r)  : CallsH P Zll #[.int .i64 q0] h (fun v h' => ∃ w0 : Value, v = .agg #[.int .i64 r.Prime, .int .i64 r.Degree, w0] ∧ S ψ h h' [.it oL [w0] r.Poly]) := by
 apply Zum
 rw [Zdb] at hp
 have st := S.start hψ
 refine new_S st fun b2 h_2 st => ?_
 refine cl0 hp st (fun s _ _ hx => Zi1 s.fle hx) fun r9 h_3 st hp => ⟨_, _, rfl, ?_⟩
 refine lp1 (os := [.box b2 [.int .i64 0, .int .i64 0, (.slice none 0 0)]]) hp (pk st [0]) fun m n5 h_4 a st hp hs => ?_
 rw [Zhn] at hp
 refine cl1 hp st (fun s_2 _ _ hx_2 => ZdQ s_2.fle hx_2) fun r17 v17 h_5 st hp => ⟨_, rfl, ?_⟩
 obtain ⟨l19, hx_3, hp⟩ := obind hp
 refine Zag st 0 rfl (fun _ => ⟨rfl, rfl⟩) rfl rfl hx_3 fun v19 h_6 st => ?_
 dsimp only [List.set] at st
 refine cl0 hp st (fun s_3 _ _ hx_4 => Zps s_3.fle hx_4 (st.rdL 0 rfl (Za _))) fun r22 h_7 st hp => ⟨_, rfl, ?_⟩
 refine brQ hp (fun hp => ?_) fun hp => ?_
 ·refine Zw (st.rdL 0 rfl (Za _)).one ?_
  refine Zb st 1 rfl rfl rfl rfl fun h_8 st => ?_
  refine Zb st 1 rfl rfl rfl rfl fun h_9 st => ?_
  refine Zb st 1 rfl rfl rfl (st.rdL 0 rfl (Za _)).one fun h_10 st => ?_
  dsimp only [List.set] at st
  refine bI st 1 0 ?_
  refine bI st 1 1 ?_
  refine bV st 1 2 ?_
  obtain rfl := oI hp
  obtain rfl := oI hs
  exact ⟨v19, rfl, pk st [0]⟩
 ·obtain rfl := oI hp
  exact ⟨m, ltS, pk st [1], hs⟩
theorem Zsi {o0 p0 v0_2 r} (hp : Zf1 o0 = some r) (ck0 : CellsC (hcell h) p0 [.int .i64 o0.Kind, .int .i64 o0.Size, v0_2]) (f0_2 : SlC ψ eL v0_2 o0.Rows) : CallsH P ZlP #[.pointer (some p0)] h (fun v h' => ∃ w0 : Value, ∃ w1 : Value, v = .agg #[.int .i64 r.Field.Prime, .int .i64 r.Field.Degree, w0, w1] ∧ S ψ h h' [.it oL [w0] r.Field.Poly, .it (El.sl eL) [w1] r.Rows]) := by
 apply ZuD
 rw [Zf1] at hp
 have st := S.start hψ
 refine new_S st fun b2 h_2 st => ?_
 refine kI ck0 st.le 1 ?_
 refine cl0 hp st (fun s _ _ hx => Zi1 s.fle hx) fun r10 h_3 st hp => ⟨_, _, rfl, ?_⟩
 refine brQ hp (fun hp => ?_) fun hp => ?_
 ·refine Zb st 0 rfl rfl rfl rfl fun h_4 st => ?_
  refine Zb st 0 rfl rfl rfl rfl fun h_5 st => ?_
  refine Zb st 0 rfl rfl rfl rfl fun h_6 st => ?_
  refine Zb st 0 rfl rfl rfl rfl fun h_7 st => ?_
  dsimp only [List.set] at st
  refine bI st 0 0 ?_
  refine bI st 0 1 ?_
  refine bV st 0 2 ?_
  refine bV st 0 3 ?_
  have st := st.nilO (E := eI)
  have st := st.nilF (E := eL)
  obtain rfl := oI hp
  exact ⟨(.slice none 0 0), (.slice none 0 0), rfl, pk st [1,0]⟩
 ·refine ⟨fun _ => False, ?_⟩
  have stR_5 := st
  have xR_5 := ExtH.refl h_3
  refine kI ck0 st.le 1 ?_
  obtain ⟨r20, hx_2, hp⟩ := obind hp
  obtain ⟨φ_2, L_2, s_2, r_3⟩ := id st
  refine (Zsn s_2.fle hx_2).mono fun v_3 h_8 ⟨v20, eq_2, t_2⟩ => ⟨_, _, _, eq_2, ExtBut.of_ext (xR_5.trans t_2.ext), ?_⟩
  replace xR_5 := xR_5.trans t_2.ext
  replace st := join1 s_2 r_3 t_2
  clear t_2 s_2 r_3
  refine Z8 ?_
  refine kV ck0 stR_5.le 2 ?_
  refine Zw (f0_2.mono st.leF).one ?_
  refine Zb st 1 rfl rfl rfl rfl fun h_9 st => ?_
  refine Zb st 1 rfl rfl rfl rfl fun h_10 st => ?_
  refine Zb st 1 rfl rfl rfl (st.rdL 0 rfl (Za _)).one fun h_11 st => ?_
  refine Zb st 1 rfl rfl rfl (f0_2.mono st.leF).one fun h_12 st => ?_
  dsimp only [List.set] at st
  refine bI st 1 0 ?_
  refine bI st 1 1 ?_
  refine bV st 1 2 ?_
  refine bV st 1 3 ?_
  have st := st.arg f0_2
  obtain rfl := oI hp
  exact ⟨v20, v0_2, rfl, pk st [1,0]⟩
theorem ZxR {y0 p0 v0_2 r} (hp : ZdN y0 = some r) (ck0 : CellsC (hcell h) p0 [.int .i64 y0.Prime, .int .i64 y0.Degree, v0_2]) (f0_2 : SlC (hcell h) eI v0_2 y0.Poly) : zR ZjN #[.pointer (some p0)] h ψ (.bool r) := by
 apply Ztm
 rw [ZdN] at hp
 have st := S.start hψ
 refine ⟨fun h_2 => S ψ h h_2 [] ∧ ZeX y0 = some r, ?_, ?_⟩
 ·refine kI ck0 st.le 0 ?_
  refine cl0 hp st (fun s_5 _ _ hx_6 => Zaf s_5.fle hx_6) fun r11 h_8 st hp => ⟨_, rfl, ?_⟩
  refine brQ hp (fun hp => tZ) fun hp => ?_
  refine kI ck0 st.le 1 ?_
  refine cl0 hp st (fun s_6 _ _ hx_7 => Zaf s_6.fle hx_7) fun r18 h_9 st hp => ⟨_, rfl, ?_⟩
  refine brQ hp (fun hp => tZ) fun hp => ?_
  refine kV ck0 st.le 2 ?_
  refine vL f0_2 st.le ?_
  refine kI ck0 st.le 1 ?_
  refine brQ hp (fun hp => tZ) fun hp => ?_
  refine kV ck0 st.le 2 ?_
  refine kI ck0 st.le 1 ?_
  refine ixI (f0_2.mono st.le) hp fun e43 hp => ?_
  exact brQ hp (fun hp => tZ) fun hp => tZ
 ·rintro _ h_2 ⟨st, hp⟩
  rw [ZeX] at hp
  refine kI ck0 st.le 0 ?_
  refine kI ck0 st.le 1 ?_
  refine cl0 hp st (fun s _ _ hx => Zlv s.fle hx) fun r55 h_3 st hp => ⟨_, rfl, ?_⟩
  refine cl0 hp st (fun s_2 _ _ hx_2 => Zi1 s_2.fle hx_2) fun r58 h_4 st hp => ⟨_, _, rfl, ?_⟩
  refine kI ck0 st.le 0 ?_
  refine brQ hp (fun hp => tZ) fun hp => ?_
  refine lp1 hp (nlS st) fun m y6 h_5 a st hp hs => ?_
  rw [Zh5] at hp
  refine kV ck0 st.le 2 ?_
  refine vL f0_2 st.le ?_
  refine brQ hp (fun hp => ?_) fun hp => ?_
  ·refine kV ck0 st.le 2 ?_
   refine ixI (f0_2.mono st.le) hp fun e81 hp => ?_
   refine cl0 hp st (fun s_3 _ _ hx_4 => Zaf s_3.fle hx_4) fun r85 h_6 st hp => ⟨_, rfl, ?_⟩
   exact brQ hp (fun hp => tZ) fun hp => tZ
  ·refine kV ck0 st.le 2 ?_
   refine cl0 hp st (fun s_4 _ _ hx_5 => Zps s_4.fle hx_5 (f0_2.mono st.le)) fun r92 h_7 st hp => ⟨_, rfl, ?_⟩
   exact tZ
theorem ZnY {f0 p0 v0_2 r} (hp : ZbL f0 = some r) (ck0 : CellsC (hcell h) p0 [.int .i64 f0.Prime, .int .i64 f0.Degree, v0_2]) (f0_2 : SlC (hcell h) eI v0_2 f0.Poly) : zR Zif #[.pointer (some p0)] h ψ (.int .i64 r) := by
 apply Zrm
 rw [ZbL] at hp
 have st := S.start hψ
 refine kI ck0 st.le 0 ?_
 refine kI ck0 st.le 1 ?_
 refine cl0 hp st (fun s _ _ hx => Zlv s.fle hx) fun r11 h_2 st hp => ⟨_, rfl, ?_⟩
 exact tZ
theorem Zvc {f0 p0 v0_2 v1 v1_2 r} (hp : Zfk f0 v1 = some r) (ck0 : CellsC (hcell h) p0 [.int .i64 f0.Prime, .int .i64 f0.Degree, v0_2]) (f0_2 : SlC (hcell h) eI v0_2 f0.Poly) (f1 : SlC (hcell h) eI v1_2 v1) : zR ZiW #[.pointer (some p0), v1_2] h ψ (.bool r) := by
 apply Zty
 rw [Zfk] at hp
 have st := S.start hψ
 refine cl0 hp st (fun s _ _ hx => ZnY s.fle hx (ck0.mono st.le) (f0_2.mono st.le)) fun r8 h_2 st hp => ⟨_, rfl, ?_⟩
 refine lp1 hp (nlS st) fun m i6 h_3 a st hp hs => ?_
 rw [ZcJ] at hp
 refine vL f1 st.le ?_
 refine brR hp (fun hp => tZ) fun hp => ?_
 refine ixI (f1.mono st.le) hp fun e17 hp => ?_
 refine cl0 hp st (fun s_2 _ _ hx_3 => Zaf s_2.fle hx_3) fun r21 h_4 st hp => ⟨_, rfl, ?_⟩
 exact brQ hp (fun hp => tZ) fun hp => tZ
theorem ZwO {f0 p0 v0_2 m1 v1 r} (hp : Ze0 f0 m1 = some r) (ck0 : CellsC (hcell h) p0 [.int .i64 f0.Prime, .int .i64 f0.Degree, v0_2]) (f0_2 : SlC (hcell h) eI v0_2 f0.Poly) (f1 : SlC (hcell h) eL v1 m1) : zR ZjH #[.pointer (some p0), v1] h ψ (.bool r) := by
 apply Zww
 rw [Ze0] at hp
 have st := S.start hψ
 refine ⟨fun h_2 => S ψ h h_2 [] ∧ Zh1 f0 m1 = some r, ?_, ?_⟩
 ·refine cl0 hp st (fun s_2 _ _ hx_5 => ZxR s_2.fle hx_5 (ck0.mono st.le) (f0_2.mono st.le)) fun r7 h_5 st hp => ⟨_, rfl, ?_⟩
  refine brQ hp (fun hp => tZ) fun hp => ?_
  refine vL f1 st.le ?_
  refine brQ hp (fun hp => tZ) fun hp => ?_
  refine vL f1 st.le ?_
  refine brQ hp (fun hp => tZ) fun hp => ?_
  refine ixV f1 st.le hp fun e21 u22 f_4 hp => ?_
  refine vL f_4 st.le ?_
  refine brQ hp (fun hp => tZ) fun hp => ?_
  refine ixV f1 st.le hp fun e28 u29 f_5 hp => ?_
  refine vL f_5 st.le ?_
  exact brQ hp (fun hp => tZ) fun hp => tZ
 ·rintro _ h_2 ⟨st, hp⟩
  rw [Zh1] at hp
  refine lp1 hp (nlS st) fun m i5 h_3 a st hp hs => ?_
  rw [Zej] at hp
  refine vL f1 st.le ?_
  refine brR hp (fun hp => tZ) fun hp => ?_
  refine ixV f1 st.le hp fun e41 u42 f hp => ?_
  refine vL f st.le ?_
  refine ixV f1 st.le hp fun e45 u46 f_2 hp => ?_
  refine vL f_2 st.le ?_
  refine brQ hp (fun hp => tZ) fun hp => ?_
  refine ixV f1 st.le hp fun e53 u54 f_3 hp => ?_
  refine cl0 hp st (fun s _ _ hx_4 => Zvc s.fle hx_4 (ck0.mono st.le) (f0_2.mono st.le) (f_3.mono st.le)) fun r55 h_4 st hp => ⟨_, rfl, ?_⟩
  exact brQ hp (fun hp => tZ) fun hp => tZ
theorem Zus {q0 k1 r} (hp : Zhw q0 k1 = some r)  : zR ZjR #[.int .i64 q0, .int .i64 k1] h ψ (.int .i64 r) := by
 apply Zp0
 rw [Zhw] at hp
 have st := S.start hψ
 refine lp2 hp (nlS st) fun m k1_2 n5 h_2 a st hp hs => ?_
 rw [Zed] at hp
 refine brR hp (fun hp => tZ) fun hp => ?_
 exact brQ hp (fun hp => tZ) fun hp => tZ
theorem ZvR {m0 v0 r} (hp : ZeF m0 = some r) (f0 : SlC (hcell h) eL v0 m0) : zL Zi2 #[v0] h ψ eL r := by
 apply Zs5
 rw [ZeF] at hp
 have st := S.start hψ
 refine Zam (E := eL) (css := []) (xs := ([] : List (List Int))) st (fun _ => rfl) rfl rfl fun v5 h_2 st => ?_
 obtain ⟨n_2, hn⟩ := Zy hp
 refine ⟨fun n v3 i4 h_3 => ∃ out3 : List (List Int), S ψ h h_3 [.it (El.ow eL) [v3] out3] ∧ loopN (Zet m0) n (out3, i4) = some r, ⟨n_2, _, pk st [0], hn⟩, ?_⟩
 rintro n _ v3 i4 h_3 ⟨out3, st, hn⟩
 obtain ⟨m, a, rfl, hp, hs⟩ := Zx hn
 rw [Zet] at hp
 refine vL f0 st.le ?_
 refine brQ hp (fun hp => ?_) fun hp => ?_
 ·refine ixV f0 st.le hp fun e15 u16 f hp => ?_
  refine cl1 hp st (fun s _ _ hx_2 => ZjS s.fle hx_2 (f.mono st.le)) fun r17 v17 h_4 st hp => ⟨_, rfl, ?_⟩
  refine Zw (st.rdL 0 rfl (Za _)).one ?_
  have st := st.freeze 0 rfl (Ze (Za _))
  dsimp only [List.set] at st
  have st := st.copyF 0 rfl
  obtain ⟨l19, hx_3, hp⟩ := obind hp
  refine Zb8 st 1 rfl rfl rfl hx_3 fun v19 h_5 st => ?_
  dsimp only [List.set] at st
  obtain rfl := oI hp
  exact ⟨m, ltS, _, pk st [1], hs⟩
 ·obtain rfl := oI hp
  obtain rfl := oI hs
  exact ⟨v3, rfl, pk st [0]⟩
theorem Zju {y0 p0 v0_2 y1 y2 r} (hp : ZcM y0 y1 y2 = some r) (ck0 : CellsC (hcell h) p0 [.int .i64 y0.Prime, .int .i64 y0.Degree, v0_2]) (f0_2 : SlC (hcell h) eI v0_2 y0.Poly) : zR ZeE #[.pointer (some p0), .int .i64 y1, .int .i64 y2] h ψ (.int .i64 r) := by
 apply ZtM
 rw [ZcM] at hp
 have st := S.start hψ
 refine kI ck0 st.le 0 ?_
 refine kI ck0 st.le 1 ?_
 refine cl1 hp st (fun s _ _ hx => ZdQ s.fle hx) fun r21 v21 h_2 st hp => ⟨_, rfl, ?_⟩
 refine kI ck0 st.le 0 ?_
 refine kI ck0 st.le 1 ?_
 refine cl1 hp st (fun s_2 _ _ hx_2 => ZdQ s_2.fle hx_2) fun r31 v31 h_3 st hp => ⟨_, rfl, ?_⟩
 refine kI ck0 st.le 1 ?_
 obtain ⟨l38, hx_3, hp⟩ := obind hp
 refine Zav (E := eI) st rfl hx_3 fun v38 h_4 st => ?_
 obtain ⟨n_4, hn⟩ := Zy hp
 refine ⟨fun n y10 h_5 => ∃ xs : List Int, S ψ h h_5 [.it oL [v38] xs, .it oL [v31] r31, .it oL [v21] r21] ∧ loopN (ZbZ y0 r21 r31) n (y10, xs) = some r, ⟨n_4, _, pk st [0,1,2], hn⟩, ?_⟩
 rintro n _ y10 h_5 ⟨xs, st, hn⟩
 obtain ⟨m, a, rfl, hp, hs⟩ := Zx hn
 rw [ZbZ] at hp
 refine ZA (st.rdL 2 rfl (Za _)) ?_
 refine brQ hp (fun hp => ?_) fun hp => ?_
 ·obtain ⟨n_3, hn_2⟩ := Zy hp
  refine ⟨fun n_2 y11 h_6 => ∃ xs_2 : List Int, S ψ h h_6 [.it oL [v38] xs_2, .it oL [v31] r31, .it oL [v21] r21] ∧ loopN (Zgy y0 r21 r31 y10) n_2 (y11, xs_2) = some a, ⟨n_3, _, pk st [0,1,2], hn_2⟩, ?_⟩
  rintro n_2 _ y11 h_6 ⟨xs_2, st, hn_2⟩
  obtain ⟨m_2, a_2, rfl, hp, hs_2⟩ := Zx hn_2
  rw [Zgy] at hp
  refine ZA (st.rdL 1 rfl (Za _)) ?_
  refine brQ hp (fun hp => ?_) fun hp => ?_
  ·refine ixI (st.rdL 0 rfl (Za _)) hp fun e59 hp => ?_
   refine ixI (st.rdL 2 rfl (Za _)) hp fun e63 hp => ?_
   refine ixI (st.rdL 1 rfl (Za _)) hp fun e67 hp => ?_
   refine kI ck0 st.le 0 ?_
   obtain ⟨_, hx_7, hp⟩ := obind hp
   refine ⟨Zae hx_7, ?_⟩
   refine ixA (st.rdL 0 rfl (Za _)) hp fun e76 p76 ad_4 hx_8 hp => ?_
   refine st1_S st 0 rfl ad_4 hx_8 rfl (fun _ => ⟨rfl, rfl⟩) fun h_7 st => ?_
   dsimp only [List.set] at st
   obtain rfl := oI hp
   exact ⟨m_2, ltS, _, pk st [0,1,2], hs_2⟩
  ·obtain rfl := oI hp
   obtain rfl := oI hs_2
   exact ⟨m, ltS, _, pk st [0,1,2], hs⟩
 ·refine ⟨fun _ => False, ?_⟩
  have stR_12 := st
  have xR_12 := ExtH.refl h_5
  refine kV ck0 st.le 2 ?_
  refine kI ck0 st.le 0 ?_
  obtain ⟨r86, hx_9, hp⟩ := obind hp
  obtain ⟨φ_3, L_3, s_3, r_4⟩ := id st
  refine (ZmL s_3.fle hx_9 (st.rdL 0 rfl (Za _)) (f0_2.mono st.le)).mono fun v_4 h_8 ⟨v86, eq_3, t_3⟩ => ⟨_, eq_3, ExtBut.of_ext (xR_12.trans t_3.ext), ?_⟩
  replace xR_12 := xR_12.trans t_3.ext
  replace st := join1 s_3 r_4 t_3
  clear t_3 s_3 r_4
  refine Zz ?_
  refine kI ck0 stR_12.le 0 ?_
  refine cl0 hp st (fun s_4 _ _ hx_10 => Zjr s_4.fle hx_10 (st.rdL 0 rfl (Za _))) fun r91 h_9 st hp => ⟨_, rfl, ?_⟩
  exact tZ
theorem ZxB {f0 p0 v0_2 v1 v1_2 c2 r} (hp : ZfY f0 v1 c2 = some r) (ck0 : CellsC (hcell h) p0 [.int .i64 f0.Prime, .int .i64 f0.Degree, v0_2]) (f0_2 : SlC (hcell h) eI v0_2 f0.Poly) (f1 : SlC (hcell h) eI v1_2 v1) : zL ZkS #[.pointer (some p0), v1_2, .int .i64 c2] h ψ eI r := by
 apply ZuT
 rw [ZfY] at hp
 have st := S.start hψ
 refine Zam (E := eI) (css := []) (xs := ([] : List Int)) st (fun _ => rfl) rfl rfl fun v9 h_2 st => ?_
 obtain ⟨n_2, hn⟩ := Zy hp
 refine ⟨fun n v7 i8 h_3 => ∃ out7 : List Int, S ψ h h_3 [.it oL [v7] out7] ∧ loopN (Zd8 f0 v1 c2) n (out7, i8) = some r, ⟨n_2, _, pk st [0], hn⟩, ?_⟩
 rintro n _ v7 i8 h_3 ⟨out7, st, hn⟩
 obtain ⟨m, a, rfl, hp, hs⟩ := Zx hn
 rw [Zd8] at hp
 refine vL f1 st.le ?_
 refine brQ hp (fun hp => ?_) fun hp => ?_
 ·refine ixI (f1.mono st.le) hp fun e20 hp => ?_
  refine cl0 hp st (fun s _ _ hx_2 => Zju s.fle hx_2 (ck0.mono st.le) (f0_2.mono st.le)) fun r23 h_4 st hp => ⟨_, rfl, ?_⟩
  obtain ⟨l25, hx_3, hp⟩ := obind hp
  refine Zag st 0 rfl (fun _ => ⟨rfl, rfl⟩) rfl rfl hx_3 fun v25 h_5 st => ?_
  dsimp only [List.set] at st
  obtain rfl := oI hp
  exact ⟨m, ltS, _, pk st [0], hs⟩
 ·obtain rfl := oI hp
  obtain rfl := oI hs
  exact ⟨v7, rfl, pk st [0]⟩
theorem ZtX {f0 p0 v0_2 a1 r} (hp : ZfZ f0 a1 = some r) (ck0 : CellsC (hcell h) p0 [.int .i64 f0.Prime, .int .i64 f0.Degree, v0_2]) (f0_2 : SlC (hcell h) eI v0_2 f0.Poly) : zR ZlT #[.pointer (some p0), .int .i64 a1] h ψ (.int .i64 r) := by
 apply ZsN
 rw [ZfZ] at hp
 have st := S.start hψ
 refine lp1 hp (nlS st) fun m b5 h_2 a st hp hs => ?_
 rw [ZfX] at hp
 refine cl0 hp st (fun s _ _ hx => Zju s.fle hx (ck0.mono st.le) (f0_2.mono st.le)) fun r9 h_3 st hp => ⟨_, rfl, ?_⟩
 exact brQ hp (fun hp => tZ) fun hp => tZ
theorem Zso {f0 p0 v0_2 a1 b2 k3 r} (hp : Ze8 f0 a1 b2 k3 = some r) (ck0 : CellsC (hcell h) p0 [.int .i64 f0.Prime, .int .i64 f0.Degree, v0_2]) (f0_2 : SlC (hcell h) eI v0_2 f0.Poly) : zR Zks #[.pointer (some p0), .int .i64 a1, .int .i64 b2, .int .i64 k3] h ψ (.int .i64 r) := by
 apply Ztc
 rw [Ze8] at hp
 have st := S.start hψ
 refine kI ck0 st.le 0 ?_
 refine kI ck0 st.le 1 ?_
 refine cl1 hp st (fun s _ _ hx => ZdQ s.fle hx) fun r21 v21 h_2 st hp => ⟨_, rfl, ?_⟩
 refine kI ck0 st.le 0 ?_
 refine kI ck0 st.le 1 ?_
 refine cl1 hp st (fun s_2 _ _ hx_2 => ZdQ s_2.fle hx_2) fun r31 v31 h_3 st hp => ⟨_, rfl, ?_⟩
 obtain ⟨n_2, hn⟩ := Zy hp
 refine ⟨fun n i11 h_4 => ∃ xs : List Int, S ψ h h_4 [.it oL [v31] r31, .it oL [v21] xs] ∧ loopN (Zc9 f0 k3 r31) n (i11, xs) = some r, ⟨n_2, _, pk st [0,1], hn⟩, ?_⟩
 rintro n _ i11 h_4 ⟨xs, st, hn⟩
 obtain ⟨m, a, rfl, hp, hs⟩ := Zx hn
 rw [Zc9] at hp
 refine ZA (st.rdL 1 rfl (Za _)) ?_
 refine brQ hp (fun hp => ?_) fun hp => ?_
 ·refine ixI (st.rdL 1 rfl (Za _)) hp fun e42 hp => ?_
  refine ixI (st.rdL 0 rfl (Za _)) hp fun e47 hp => ?_
  refine kI ck0 st.le 0 ?_
  obtain ⟨_, hx_5, hp⟩ := obind hp
  refine ⟨Zae hx_5, ?_⟩
  refine ixA (st.rdL 1 rfl (Za _)) hp fun e56 p56 ad_3 hx_6 hp => ?_
  refine st1_S st 1 rfl ad_3 hx_6 rfl (fun _ => ⟨rfl, rfl⟩) fun h_5 st => ?_
  dsimp only [List.set] at st
  obtain rfl := oI hp
  exact ⟨m, ltS, _, pk st [0,1], hs⟩
 ·refine kI ck0 st.le 0 ?_
  refine cl0 hp st (fun s_3 _ _ hx_7 => Zjr s_3.fle hx_7 (st.rdL 1 rfl (Za _))) fun r62 h_6 st hp => ⟨_, rfl, ?_⟩
  exact tZ
theorem Zp9 {f0 p0 v0_2 v1 v1_2 w2 v2 c3 r} (hp : Zgn f0 v1 w2 c3 = some r) (ck0 : CellsC (hcell h) p0 [.int .i64 f0.Prime, .int .i64 f0.Degree, v0_2]) (f0_2 : SlC (hcell h) eI v0_2 f0.Poly) (f1 : SlC (hcell h) eI v1_2 v1) (f2 : SlC (hcell h) eI v2 w2) : zL Zkz #[.pointer (some p0), v1_2, v2, .int .i64 c3] h ψ eI r := by
 apply Zxx
 rw [Zgn] at hp
 have st := S.start hψ
 refine Zam (E := eI) (css := []) (xs := ([] : List Int)) st (fun _ => rfl) rfl rfl fun v11 h_2 st => ?_
 obtain ⟨n_2, hn⟩ := Zy hp
 refine ⟨fun n v9 i10 h_3 => ∃ out9 : List Int, S ψ h h_3 [.it oL [v9] out9] ∧ loopN (Zem f0 v1 w2 c3) n (out9, i10) = some r, ⟨n_2, _, pk st [0], hn⟩, ?_⟩
 rintro n _ v9 i10 h_3 ⟨out9, st, hn⟩
 obtain ⟨m, a, rfl, hp, hs⟩ := Zx hn
 rw [Zem] at hp
 refine vL f1 st.le ?_
 refine brQ hp (fun hp => ?_) fun hp => ?_
 ·refine ⟨fun _ => False, ?_⟩
  have stR_5 := st
  have xR_5 := ExtH.refl h_3
  refine ixI (f2.mono st.le) hp fun e27 hp => ?_
  obtain ⟨r30, hx_2, hp⟩ := obind hp
  obtain ⟨φ, L, s, r_2⟩ := id st
  refine (Zju s.fle hx_2 (ck0.mono st.le) (f0_2.mono st.le)).mono fun v_2 h_4 ⟨eq, t⟩ => ⟨_, eq, ExtBut.of_ext (xR_5.trans t.ext), ?_⟩
  replace xR_5 := xR_5.trans t.ext
  replace st := join0 s r_2 t
  clear t s r_2
  refine ixA (f1.mono st.le) hp fun e22 p22 ad_2 hx_3 hp => ?_
  refine Zz ?_
  refine ldI_C (f1.mono stR_5.le) ad_2 hx_3 ?_
  refine Zz ?_
  refine kI ck0 stR_5.le 0 ?_
  refine cl0 hp st (fun s_2 _ _ hx_4 => Zso s_2.fle hx_4 (ck0.mono st.le) (f0_2.mono st.le)) fun r36 h_5 st hp => ⟨_, rfl, ?_⟩
  obtain ⟨l38, hx_5, hp⟩ := obind hp
  refine Zag st 0 rfl (fun _ => ⟨rfl, rfl⟩) rfl rfl hx_5 fun v38 h_6 st => ?_
  dsimp only [List.set] at st
  obtain rfl := oI hp
  exact ⟨m, ltS, _, pk st [0], hs⟩
 ·obtain rfl := oI hp
  obtain rfl := oI hs
  exact ⟨v9, rfl, pk st [0]⟩
theorem Zxj {y0 p0 v0_2 y1 v1 y2 r} (hp : Zis y0 y1 y2 = some r) (ck0 : CellsC (hcell h) p0 [.int .i64 y0.Prime, .int .i64 y0.Degree, v0_2]) (f0_2 : SlC (hcell h) eI v0_2 y0.Poly) (f1 : SlC (hcell h) eL v1 y1) : CallsH P ZlW #[.pointer (some p0), v1, .int .i64 y2] h (fun v h' => ∃ w0 : Value, ∃ w1 : Value, v = .tuple #[w0, w1] ∧ S ψ h h' [.it (El.ow eL) [w0] r.1, .it oL [w1] r.2]) := by
 apply ZrT
 rw [Zis] at hp
 have st := S.start hψ
 refine cl1 hp st (fun s _ _ hx => ZvR s.fle hx (f1.mono st.le)) fun r16 v16 h_2 st hp => ⟨_, rfl, ?_⟩
 refine Zam (E := eI) (css := []) (xs := ([] : List Int)) st (fun _ => rfl) rfl rfl fun v17 h_3 st => ?_
 obtain ⟨n_6, hn⟩ := Zy hp
 refine ⟨fun n v9 y10 h_4 => ∃ y9 : List Int, ∃ xs : List (List Int), S ψ h h_4 [.it oL [v9] y9, .it (El.ow eL) [v16] xs] ∧ loopN (Zbm y0 y2) n (y9, y10, xs) = some r, ⟨n_6, _, _, pk st [0,1], hn⟩, ?_⟩
 rintro n _ v9 y10 h_4 ⟨y9, xs, st, hn⟩
 obtain ⟨m, a, rfl, hp, hs⟩ := Zx hn
 rw [Zbm] at hp
 refine ⟨fun h_5 => S ψ h h_5 [.it oL [v9] y9, .it (El.ow eL) [v16] xs] ∧ ZfW y0 y9 y10 xs = some a, ?_, ?_⟩
 ·refine brQ hp (fun hp => ?_) fun hp => ?_
  ·refine ZA (st.rdL 0 rfl (Za _)) ?_
   refine ZA (st.rdL 1 rfl (ZT _)) ?_
   refine brQ hp (fun hp => ?_) fun hp => ?_
   ·exact ⟨pk st [0,1], hp⟩
   ·obtain rfl := oI hp
    obtain rfl := oI hs
    exact ⟨v16, v9, rfl, pk st [1,0]⟩
  ·obtain rfl := oI hp
   obtain rfl := oI hs
   exact ⟨v16, v9, rfl, pk st [1,0]⟩
 ·rintro _ h_5 ⟨st, hp⟩
  rw [ZfW] at hp
  refine ZA (st.rdL 0 rfl (Za _)) ?_
  refine ⟨fun y12 h_6 => S ψ h h_6 [.it oL [v9] y9, .it (El.ow eL) [v16] xs] ∧ Zai y0 y9 y10 xs y12 = some a, ?_, ?_⟩
  ·refine lp1 (os := [.it oL [v9] y9, .it (El.ow eL) [v16] xs]) hp (pk st [0,1]) fun m_3 y12_2 h_15 a_3 st hp hs_3 => ?_
   rw [Zbx] at hp
   refine ZA (st.rdL 1 rfl (ZT _)) ?_
   refine brQ hp (fun hp => ?_) fun hp => ?_
   ·refine ixA (st.rdL 1 rfl (ZT _)) hp fun e40 p40 ad_11 hx_16 hp => ?_
    refine Zec st 1 rfl ad_11 hx_16 fun u41 st => ?_
    refine ixI (st.rdF 0 rfl) hp fun e43 hp => ?_
    refine brQ hp (fun hp => ?_) fun hp => ?_
    ·obtain rfl := oI hp
     exact ⟨m_3, ltS, pk st [1,2], hs_3⟩
    ·obtain ⟨xm, hq, rfl⟩ := omap hp
     obtain rfl := oI hs_3
     exact ⟨pk st [1,2], hq⟩
   ·obtain ⟨xm, hq, rfl⟩ := omap hp
    obtain rfl := oI hs_3
    exact ⟨pk st [0,1], hq⟩
  ·rintro _ y12 h_6 ⟨st, hp⟩
   rw [Zai] at hp
   refine ZA (st.rdL 1 rfl (ZT _)) ?_
   refine brQ hp (fun hp => ?_) fun hp => ?_
   ·obtain rfl := oI hp
    exact ⟨m, ltS, _, _, pk st [0,1], hs⟩
   ·refine ⟨fun _ => False, ?_⟩
    have stR_9 := st
    have xR_9 := ExtH.refl h_6
    refine ixA (st.rdL 1 rfl (ZT _)) hp fun e61 p61 ad hx_2 hp => ?_
    refine Zec st 1 rfl ad hx_2 fun u62 st => ?_
    refine ixI (st.rdF 0 rfl) hp fun e64 hp => ?_
    obtain ⟨r66, hx_4, hp⟩ := obind hp
    obtain ⟨φ_2, L_2, s_2, r_3⟩ := id st
    refine (ZtX s_2.fle hx_4 (ck0.mono st.le) (f0_2.mono st.le)).mono fun v_3 h_7 ⟨eq_2, t_2⟩ => ⟨_, eq_2, ExtBut.of_ext (xR_9.trans t_2.ext), ?_⟩
    replace xR_9 := xR_9.trans t_2.ext
    replace st := join0 s_2 r_3 t_2
    clear t_2 s_2 r_3
    refine ixA (st.rdL 2 rfl (ZT _)) hp fun e56 p56 ad_3 hx_5 hp => ?_
    refine Z8 ?_
    refine ldV_C (stR_9.rdL 1 rfl (ZT _)) (CLe.refl _) ad_3 hx_5 fun u57 f => ?_
    refine cl1 hp st (fun s_3 _ _ hx_6 => ZxB s_3.fle hx_6 (ck0.mono st.le) (f0_2.mono st.le) (f.mono (CLe.ext xR_9))) fun r67 v67 h_8 st hp => ⟨_, rfl, ?_⟩
    refine ixA (st.rdL 3 rfl (ZT _)) hp fun e72 p72 ad_4 hx_7 hp => ?_
    refine Zec st 3 rfl ad_4 hx_7 fun u73 st => ?_
    refine ixA (st.rdL 4 rfl (ZT _)) hp fun e74 p74 ad_5 hx_8 hp => ?_
    have st := st.copyF 0 rfl
    refine Zhd st 4 rfl ad_5 hx_8 rfl fun h_9 st => ?_
    dsimp only [List.set] at st
    refine ixA (st.rdL 4 rfl (ZT _)) hp fun e78 p78 ad_6 hx_9 hp => ?_
    have st := st.freeze 1 rfl (Ze (Za _))
    dsimp only [List.set] at st
    have st := st.copyF 1 rfl
    refine Zhd st 4 rfl ad_6 hx_9 rfl fun h_10 st => ?_
    dsimp only [List.set] at st
    obtain ⟨n_3, hn_2⟩ := Zy hp
    refine ⟨fun n_2 y14 h_11 => ∃ xs_2 : List (List Int), S ψ h h_11 [.it eL [u73] e72, .it eL [v67] r67, .it eL [u62] e61, .it oL [v9] y9, .it (El.ow eL) [v16] xs_2] ∧ loopN (Zcc y0 y9 y10 r67) n_2 (y14, xs_2) = some a, ⟨n_3, _, pk st [0,1,2,3,4], hn_2⟩, ?_⟩
    rintro n_2 _ y14 h_11 ⟨xs_2, st, hn_2⟩
    obtain ⟨m_2, a_2, rfl, hp, hs_2⟩ := Zx hn_2
    rw [Zcc] at hp
    refine ZA (st.rdL 4 rfl (ZT _)) ?_
    refine brQ hp (fun hp => ?_) fun hp => ?_
    ·refine brQ hp (fun hp => ?_) fun hp => ?_
     ·refine ixA (st.rdL 4 rfl (ZT _)) hp fun e93 p93 ad_7 hx_10 hp => ?_
      refine Zec st 4 rfl ad_7 hx_10 fun u94 st => ?_
      refine ixA (st.rdL 5 rfl (ZT _)) hp fun e98 p98 ad_8 hx_11 hp => ?_
      refine Zec st 5 rfl ad_8 hx_11 fun u99 st => ?_
      refine ixI (st.rdF 0 rfl) hp fun e101 hp => ?_
      refine cl1 hp st (fun s_4 _ _ hx_13 => Zp9 s_4.fle hx_13 (ck0.mono st.le) (f0_2.mono st.le) (st.rdF 1 rfl) (st.rdF 3 rfl)) fun r103 v103 h_12 st hp => ⟨_, rfl, ?_⟩
      refine ixA (st.rdL 7 rfl (ZT _)) hp fun e104 p104 ad_10 hx_14 hp => ?_
      have st := st.freeze 0 rfl (Ze (Za _))
      dsimp only [List.set] at st
      have st := st.copyF 0 rfl
      refine Zhd st 7 rfl ad_10 hx_14 rfl fun h_13 st => ?_
      dsimp only [List.set] at st
      obtain rfl := oI hp
      exact ⟨m_2, ltS, _, pk st [3,4,5,6,7], hs_2⟩
     ·obtain rfl := oI hp
      exact ⟨m_2, ltS, _, pk st [0,1,2,3,4], hs_2⟩
    ·obtain ⟨l108, hx_15, hp⟩ := obind hp
     refine Zag st 3 rfl (fun _ => ⟨rfl, rfl⟩) rfl rfl hx_15 fun v108 h_14 st => ?_
     dsimp only [List.set] at st
     obtain rfl := oI hp
     obtain rfl := oI hs_2
     exact ⟨m, ltS, _, _, pk st [3,4], hs⟩
theorem Zt5 {f0 p0 v0_2 m1 v1 r} (hp : Zgi f0 m1 = some r) (ck0 : CellsC (hcell h) p0 [.int .i64 f0.Prime, .int .i64 f0.Degree, v0_2]) (f0_2 : SlC (hcell h) eI v0_2 f0.Poly) (f1 : SlC (hcell h) eL v1 m1) : zL Zkt #[.pointer (some p0), v1] h ψ eL r := by
 apply ZsS
 rw [Zgi] at hp
 have st := S.start hψ
 refine ixV f1 st.le hp fun e11 u12 f hp => ?_
 refine vL f st.le ?_
 refine cl2 hp st (fun s _ _ hx_2 => Zxj s.fle hx_2 (ck0.mono st.le) (f0_2.mono st.le) (f1.mono st.le)) fun r14 v14 v14_2 h_2 st hp => ⟨_, _, rfl, ?_⟩
 refine ZA (st.rdL 1 rfl (Za _)) ?_
 obtain ⟨l20, hx_3, hp⟩ := obind hp
 refine cut_S none (some (r14.2.length : Int)) st 0 rfl hx_3 rfl fun v20 st => ?_
 dsimp only [List.set] at st
 obtain rfl := oI hp
 exact ⟨v20, rfl, pk st [0]⟩
theorem ZwB {c0 p0 v0_2 v0_3 r} (hp : ZdB c0 = some r) (ck0 : CellsC (hcell h) p0 [.int .i64 c0.Field.Prime, .int .i64 c0.Field.Degree, v0_2, v0_3]) (f0_2 : SlC (hcell h) eI v0_2 c0.Field.Poly) (f0_3 : SlC (hcell h) eL v0_3 c0.Rows) : zR Zjn #[.pointer (some p0)] h ψ (.bool r) := by
 apply ZqF
 rw [ZdB] at hp
 have st := S.start hψ
 refine ⟨fun h_2 => S ψ h h_2 [] ∧ Zia c0 = some r, ?_, ?_⟩
 ·refine kV ck0 st.le 3 ?_
  refine cl0 hp st (fun s_5 _ _ hx_5 => ZwO s_5.fle hx_5 (CellsC.part 0 3 (ck0.mono st.le)) (f0_2.mono st.le) (f0_3.mono st.le)) fun r10 h_7 st hp => ⟨_, rfl, ?_⟩
  refine brQ hp (fun hp => tZ) fun hp => ?_
  refine kV ck0 st.le 3 ?_
  refine ixV f0_3 st.le hp fun e17 u18 f hp => ?_
  refine vL f st.le ?_
  refine brQ hp (fun hp => tZ) fun hp => ?_
  refine kV ck0 st.le 3 ?_
  refine vL f0_3 st.le ?_
  exact brQ hp (fun hp => tZ) fun hp => tZ
 ·rintro _ h_2 ⟨st, hp⟩
  rw [Zia] at hp
  refine ⟨fun _ => False, ?_⟩
  have stR_2 := st
  have xR_2 := ExtH.refl h_2
  obtain ⟨r33, hx, hp⟩ := obind hp
  obtain ⟨φ, L, s, r_2⟩ := id st
  refine (ZnY s.fle hx (CellsC.part 0 3 (ck0.mono st.le)) (f0_2.mono st.le)).mono fun v_2 h_3 ⟨eq, t⟩ => ⟨_, eq, ExtBut.of_ext (xR_2.trans t.ext), ?_⟩
  replace xR_2 := xR_2.trans t.ext
  replace st := join0 s r_2 t
  clear t s r_2
  refine Z8 ?_
  refine kV ck0 stR_2.le 3 ?_
  refine vL f0_3 st.le ?_
  refine cl0 hp st (fun s_2 _ _ hx_2 => Zus s_2.fle hx_2) fun r39 h_4 st hp => ⟨_, rfl, ?_⟩
  refine brQ hp (fun hp => tZ) fun hp => ?_
  refine ⟨fun _ => False, ?_⟩
  have stR_4 := st
  have xR_4 := ExtH.refl h_4
  refine kV ck0 st.le 3 ?_
  obtain ⟨r48, hx_3, hp⟩ := obind hp
  obtain ⟨φ_3, L_3, s_3, r_4⟩ := id st
  refine (Zt5 s_3.fle hx_3 (CellsC.part 0 3 (ck0.mono st.le)) (f0_2.mono st.le) (f0_3.mono st.le)).mono fun v_4 h_5 ⟨v48, eq_3, t_3⟩ => ⟨_, eq_3, ExtBut.of_ext (xR_4.trans t_3.ext), ?_⟩
  replace xR_4 := xR_4.trans t_3.ext
  replace st := join1 s_3 r_4 t_3
  clear t_3 s_3 r_4
  refine Z8 ?_
  refine kV ck0 stR_4.le 3 ?_
  refine cl0 hp st (fun s_4 _ _ hx_4 => Zow s_4.fle hx_4 (st.rdL 0 rfl (ZT _)) (f0_3.mono st.le)) fun r53 h_6 st hp => ⟨_, rfl, ?_⟩
  exact tZ
theorem ZpU {y0 p0 v0_2 r} (hp : Zcy y0 = some r) (ck0 : CellsC (hcell h) p0 [.int .i64 y0.Kind, .int .i64 y0.Size, v0_2]) (f0_2 : SlC ψ eL v0_2 y0.Rows) : zR Zma #[.pointer (some p0)] h ψ (.bool r) := by
 apply Zp8
 rw [Zcy] at hp
 have st := S.start hψ
 refine kI ck0 st.le 0 ?_
 refine brQ hp (fun hp => ?_) fun hp => ?_
 ·refine kV ck0 st.le 2 ?_
  refine cl0 hp st (fun s _ _ hx => ZuJ s.fle hx (f0_2.mono st.leF)) fun r17 h_2 st hp => ⟨_, rfl, ?_⟩
  refine brR hp (fun hp => tZ) fun hp => ?_
  refine kV ck0 st.le 2 ?_
  refine vL f0_2 st.leF ?_
  refine kI ck0 st.le 1 ?_
  exact tZ
 ·refine brQ hp (fun hp => ?_) fun hp => ?_
  ·refine kI ck0 st.le 1 ?_
   refine kV ck0 st.le 2 ?_
   refine Zw (f0_2.mono st.leF).one ?_
   refine new_S st fun b41 h_3 st => ?_
   refine cl0 hp st (fun s_2 _ _ hx_2 => ZpP s_2.fle hx_2 (st.cells 0 rfl) (f0_2.mono st.leF)) fun r42 h_4 st hp => ⟨_, rfl, ?_⟩
   exact tZ
  ·refine brQ hp (fun hp => ?_) fun hp => ?_
   ·refine kV ck0 st.le 2 ?_
    refine cl0 hp st (fun s_3 _ _ hx_3 => ZqQ s_3.fle hx_3 (f0_2.mono st.leF)) fun r49 h_5 st hp => ⟨_, rfl, ?_⟩
    refine brR hp (fun hp => tZ) fun hp => ?_
    refine kV ck0 st.le 2 ?_
    refine vL f0_2 st.leF ?_
    refine kI ck0 st.le 1 ?_
    exact tZ
   ·refine brQ hp (fun hp => ?_) fun hp => ?_
    ·refine cl1 hp st (fun s_4 _ _ hx_4 => Zqj s_4.fle hx_4 (ck0.mono st.le) (f0_2.mono s_4.bas)) fun r65 v65 h_6 st hp => ⟨_, _, _, rfl, ?_⟩
     refine new_S st fun b3 h_7 st => ?_
     refine Zb st 0 rfl rfl rfl rfl fun h_8 st => ?_
     refine Zb st 0 rfl rfl rfl rfl fun h_9 st => ?_
     refine Zb st 0 rfl rfl rfl (st.rdF 1 rfl).one fun h_10 st => ?_
     dsimp only [List.set] at st
     refine kV ck0 st.le 2 ?_
     refine vL f0_2 st.leF ?_
     refine brR hp (fun hp => tZ) fun hp => ?_
     refine cl0 hp st (fun s_5 _ _ hx_5 => ZsC s_5.fle hx_5 (st.cells 0 rfl) (st.rdF 1 rfl)) fun r73 h_11 st hp => ⟨_, rfl, ?_⟩
     exact tZ
    ·refine brQ hp (fun hp => ?_) fun hp => ?_
     ·refine cl2 hp st (fun s_6 _ _ hx_6 => Zsi s_6.fle hx_6 (ck0.mono st.le) (f0_2.mono s_6.bas)) fun r78 v78 v78_2 h_12 st hp => ⟨_, _, _, _, rfl, ?_⟩
      refine new_S st fun b4 h_13 st => ?_
      refine Zb st 0 rfl rfl rfl rfl fun h_14 st => ?_
      refine Zb st 0 rfl rfl rfl rfl fun h_15 st => ?_
      refine Zb st 0 rfl rfl rfl (st.rdL 1 rfl (Za _)).one fun h_16 st => ?_
      refine Zb st 0 rfl rfl rfl (st.rdF 2 rfl).one fun h_17 st => ?_
      dsimp only [List.set] at st
      refine cl0 hp st (fun s_7 _ _ hx_7 => ZwB s_7.fle hx_7 (st.cells 0 rfl) (st.rdL 1 rfl (Za _)) (st.rdF 2 rfl)) fun r79 h_18 st hp => ⟨_, rfl, ?_⟩
      exact tZ
     ·refine brQ hp (fun hp => ?_) fun hp => ?_
      ·refine cl2 hp st (fun s_8 _ _ hx_8 => ZqP s_8.fle hx_8 (ck0.mono st.le) (f0_2.mono st.leF)) fun r84 v84 v84_2 h_19 st hp => ⟨_, _, _, rfl, ?_⟩
       refine new_S st fun b5 h_20 st => ?_
       refine Zb st 0 rfl rfl rfl (st.rdL 1 rfl (Za _)).one fun h_21 st => ?_
       refine Zb st 0 rfl rfl rfl (st.rdL 2 rfl frzf_T_impl_Edge).one fun h_22 st => ?_
       dsimp only [List.set] at st
       exact tZ
      ·refine brR hp (fun hp => tZ) fun hp => ?_
       refine kI ck0 st.le 1 ?_
       refine kV ck0 st.le 2 ?_
       refine Zw (f0_2.mono st.leF).one ?_
       refine new_S st fun b99 h_23 st => ?_
       refine cl0 hp st (fun s_9 _ _ hx_9 => Zxz s_9.fle hx_9 (st.cells 0 rfl) (f0_2.mono st.leF)) fun r100 h_24 st hp => ⟨_, rfl, ?_⟩
       exact tZ
theorem ZnB {c0 r} (hp : ZaA c0 = some r)  : zR Zh3 #[.int .u8 c0] h ψ (.bool r) := by
 apply ZxX
 rw [ZaA] at hp
 have st := S.start hψ
 exact brQ hp (fun hp => tZ) fun hp => tZ
theorem Zrg {c0 r} (hp : ZbX c0 = some r)  : zR ZjP #[.int .u8 c0] h ψ (.bool r) := by
 apply Zu3
 rw [ZbX] at hp
 have st := S.start hψ
 exact brQ hp (fun hp => tZ) fun hp => tZ
theorem ZuF {s0 r} (hp : Zgl s0 = some r)  : zR ZiR #[.string s0] h ψ (.bool r) := by
 apply Zsd
 rw [Zgl] at hp
 have st := S.start hψ
 refine ⟨fun h_2 => S ψ h h_2 [] ∧ Zg8 s0 = some r, ?_, ?_⟩
 ·refine brQ hp (fun hp => tZ) fun hp => ?_
  refine brQ hp (fun hp => tZ) fun hp => ?_
  obtain ⟨c13, hx_5, hp⟩ := obind hp
  refine Zmw hx_5 ?_
  refine cl0 hp st (fun s_3 _ _ hx_6 => ZnB s_3.fle hx_6) fun r14 h_6 st hp => ⟨_, rfl, ?_⟩
  exact brQ hp (fun hp => tZ) fun hp => tZ
 ·rintro _ h_2 ⟨st, hp⟩
  rw [Zg8] at hp
  refine lp1 hp (nlS st) fun m i3 h_3 a st hp hs => ?_
  rw [ZbV] at hp
  refine brR hp (fun hp => tZ) fun hp => ?_
  obtain ⟨c25, hx, hp⟩ := obind hp
  refine Zmw hx ?_
  refine cl0 hp st (fun s _ _ hx_2 => ZnB s.fle hx_2) fun r26 h_4 st hp => ⟨_, rfl, ?_⟩
  refine brR hp (fun hp => tZ) fun hp => ?_
  obtain ⟨c31, hx_3, hp⟩ := obind hp
  refine Zmw hx_3 ?_
  refine cl0 hp st (fun s_2 _ _ hx_4 => Zrg s_2.fle hx_4) fun r32 h_5 st hp => ⟨_, rfl, ?_⟩
  exact brQ hp (fun hp => tZ) fun hp => tZ
theorem Zt7 {x0 p0 v0_3 r} (hp : Zgf x0 = some r) (ck0 : CellsC (hcell h) p0 [.string x0.Name, .int .i64 x0.Object.Kind, .int .i64 x0.Object.Size, v0_3, .string x0.Key]) (f0_3 : SlC ψ eL v0_3 x0.Object.Rows) : zR ZlA #[.pointer (some p0)] h ψ (.bool r) := by
 apply Zqo
 rw [Zgf] at hp
 have st := S.start hψ
 refine kS ck0 st.le 0 ?_
 refine cl0 hp st (fun s _ _ hx => ZuF s.fle hx) fun r7 h_2 st hp => ⟨_, rfl, ?_⟩
 refine brR hp (fun hp => tZ) fun hp => ?_
 refine cl0 hp st (fun s_2 _ _ hx_2 => ZpU s_2.fle hx_2 (CellsC.part 1 3 (ck0.mono st.le)) (f0_3.mono s_2.bas)) fun r12 h_3 st hp => ⟨_, rfl, ?_⟩
 refine brR hp (fun hp => tZ) fun hp => ?_
 refine kS ck0 st.le 4 ?_
 refine brR hp (fun hp => tZ) fun hp => ?_
 refine kS ck0 st.le 4 ?_
 exact tZ
theorem Zw3 {a0 p0 v0_3 b1 p1 v1_3 r} (hp : Zex a0 b1 = some r) (ck0 : CellsC (hcell h) p0 [.string a0.Name, .int .i64 a0.Object.Kind, .int .i64 a0.Object.Size, v0_3, .string a0.Key]) (f0_3 : SlC (hcell h) eL v0_3 a0.Object.Rows) (ck1 : CellsC (hcell h) p1 [.string b1.Name, .int .i64 b1.Object.Kind, .int .i64 b1.Object.Size, v1_3, .string b1.Key]) (f1_3 : SlC (hcell h) eL v1_3 b1.Object.Rows) : zR Zlx #[.pointer (some p0), .pointer (some p1)] h ψ (.bool r) := by
 apply Zqw
 rw [Zex] at hp
 have st := S.start hψ
 refine kI ck0 st.le 1 ?_
 refine kI ck1 st.le 1 ?_
 refine brR hp (fun hp => tZ) fun hp => ?_
 refine kS ck0 st.le 4 ?_
 refine kS ck1 st.le 4 ?_
 exact tZ
theorem ZqC {y0 p0 v0_0 r} (hp : Zfx y0 = some r) (ck0 : CellsC (hcell h) p0 [v0_0]) (f0_0 : SlC ψ ZaV v0_0 y0.Items) : zR Zl3 #[.pointer (some p0)] h ψ (.bool r) := by
 apply ZwI
 rw [Zfx] at hp
 have st := S.start hψ
 refine lp1 hp (nlS st) fun m y3 h_2 a st hp hs => ?_
 rw [Zbb] at hp
 refine kV ck0 st.le 0 ?_
 refine vL f0_0 st.leF ?_
 refine brQ hp (fun hp => ?_) fun hp => ?_
 ·refine ⟨fun h_3 => S ψ h h_3 [] ∧ ZdD y0 y3 = some a, ?_, ?_⟩
  ·refine kV ck0 st.le 0 ?_
   refine ixA (f0_0.mono st.leF) hp fun e19 p19 ad_3 hx_4 hp => ?_
   obtain ⟨cs_3, ck_3, hr_3⟩ := f0_0.cells ad_3 hx_4 rfl
   obtain ⟨v_5, rfl, f_3⟩ := Za9 hr_3
   refine cl0 hp st (fun s_2 _ _ hx_5 => Zt7 s_2.fle hx_5 (ck_3.mono st.leF) (f_3.mono s_2.bas)) fun r20 h_6 st hp => ⟨_, rfl, ?_⟩
   refine brQ hp (fun hp => tZ) fun hp => ?_
   refine brR hp (fun hp => tZ) fun hp => ?_
   refine kV ck0 st.le 0 ?_
   refine ixA (f0_0.mono st.leF) hp fun e32 p32 ad_4 hx_6 hp => ?_
   obtain ⟨cs_4, ck_4, hr_4⟩ := f0_0.cells ad_4 hx_6 rfl
   obtain ⟨v_7, rfl, f_4⟩ := Za9 hr_4
   refine kS ck_4 st.leF 0 ?_
   refine kV ck0 st.le 0 ?_
   refine ixA (f0_0.mono st.leF) hp fun e40 p40 ad_5 hx_7 hp => ?_
   obtain ⟨cs_5, ck_5, hr_5⟩ := f0_0.cells ad_5 hx_7 rfl
   obtain ⟨v_8, rfl, f_5⟩ := Za9 hr_5
   refine kS ck_5 st.leF 0 ?_
   exact brQ hp (fun hp => tZ) fun hp => tZ
  ·rintro _ h_3 ⟨st, hp⟩
   rw [ZdD] at hp
   refine lp1 hp (nlS st) fun m_2 y4 h_4 a_2 st hp hs_2 => ?_
   rw [Zdu] at hp
   refine brQ hp (fun hp => ?_) fun hp => ?_
   ·refine kV ck0 st.le 0 ?_
    refine ixA (f0_0.mono st.leF) hp fun e56 p56 ad hx hp => ?_
    obtain ⟨cs, ck, hr⟩ := f0_0.cells ad hx rfl
    obtain ⟨v_2, rfl, f⟩ := Za9 hr
    refine kV ck0 st.le 0 ?_
    refine ixA (f0_0.mono st.leF) hp fun e62 p62 ad_2 hx_2 hp => ?_
    obtain ⟨cs_2, ck_2, hr_2⟩ := f0_0.cells ad_2 hx_2 rfl
    obtain ⟨v_3, rfl, f_2⟩ := Za9 hr_2
    refine cl0 hp st (fun s _ _ hx_3 => Zw3 s.fle hx_3 (ck.mono st.leF) (f.mono st.leF) (ck_2.mono st.leF) (f_2.mono st.leF)) fun r63 h_5 st hp => ⟨_, rfl, ?_⟩
    refine brQ hp (fun hp => ?_) fun hp => ?_
    ·obtain rfl := oI hp
     obtain rfl := oI hs_2
     obtain rfl := oI hs
     exact ⟨rfl, nlS st⟩
    ·obtain rfl := oI hp
     exact ⟨m_2, ltS, nlS st, hs_2⟩
   ·obtain rfl := oI hp
    obtain rfl := oI hs_2
    exact ⟨m, ltS, nlS st, hs⟩
 ·refine kV ck0 st.le 0 ?_
  refine vL f0_0 st.leF ?_
  exact tZ
theorem ZsG {c0 v0_0 r} (hp : Zfz c0 = some r) (f0_0 : SlC ψ ZaV v0_0 c0.Items) : zR Ziz #[.agg #[v0_0]] h ψ (.bool r) := by
 apply ZvI
 rw [Zfz] at hp
 have st := S.start hψ
 refine new_S st fun b1 h_2 st => ?_
 refine cl0 hp st (fun s _ _ hx => ZqC s.fle hx (st.cells 0 rfl) (f0_0.mono s.bas)) fun r3 h_3 st hp => ⟨_, rfl, ?_⟩
 exact tZ
theorem Zxo {a0 v0 r} (hp : ZdV a0 = some r) (f0 : SlC (hcell h) eI v0 a0) : zL ZjX #[v0] h ψ eI r := by
 apply ZxI
 rw [ZdV] at hp
 have st := S.start hψ
 refine vL f0 st.le ?_
 obtain ⟨l7, hx, hp⟩ := obind hp
 refine Zav (E := eI) st rfl hx fun v7 h_2 st => ?_
 obtain ⟨n_2, hn⟩ := Zy hp
 refine ⟨fun n i4 h_3 => ∃ xs : List Int, S ψ h h_3 [.it oL [v7] xs] ∧ loopN (Zfo a0) n (i4, xs) = some r, ⟨n_2, _, pk st [0], hn⟩, ?_⟩
 rintro n _ i4 h_3 ⟨xs, st, hn⟩
 obtain ⟨m, a, rfl, hp, hs⟩ := Zx hn
 rw [Zfo] at hp
 refine vL f0 st.le ?_
 refine brQ hp (fun hp => ?_) fun hp => ?_
 ·refine ixI (f0.mono st.le) hp fun e18 hp => ?_
  refine ixA (st.rdL 0 rfl (Za _)) hp fun e20 p20 ad_2 hx_3 hp => ?_
  refine st1_S st 0 rfl ad_2 hx_3 rfl (fun _ => ⟨rfl, rfl⟩) fun h_4 st => ?_
  dsimp only [List.set] at st
  obtain rfl := oI hp
  exact ⟨m, ltS, _, pk st [0], hs⟩
 ·obtain rfl := oI hp
  obtain rfl := oI hs
  exact ⟨v7, rfl, pk st [0]⟩
theorem ZrV {a0 v0 r} (hp : Zdz a0 = some r) (f0 : SlC (hcell h) eL v0 a0) : zL ZkA #[v0] h ψ oL r := by
 apply ZsM
 rw [Zdz] at hp
 have st := S.start hψ
 refine vL f0 st.le ?_
 obtain ⟨l7, hx, hp⟩ := obind hp
 refine Zav (E := oL) st rfl hx fun v7 h_2 st => ?_
 obtain ⟨n_2, hn⟩ := Zy hp
 refine ⟨fun n i4 h_3 => ∃ xs : List (List Int), S ψ h h_3 [.it (El.ow oL) [v7] xs] ∧ loopN (Ze2 a0) n (i4, xs) = some r, ⟨n_2, _, pk st [0], hn⟩, ?_⟩
 rintro n _ i4 h_3 ⟨xs, st, hn⟩
 obtain ⟨m, a, rfl, hp, hs⟩ := Zx hn
 rw [Ze2] at hp
 refine vL f0 st.le ?_
 refine brQ hp (fun hp => ?_) fun hp => ?_
 ·refine ixV f0 st.le hp fun e18 u19 f hp => ?_
  refine cl1 hp st (fun s _ _ hx_3 => Zxo s.fle hx_3 (f.mono st.le)) fun r20 v20 h_4 st hp => ⟨_, rfl, ?_⟩
  refine ixA (st.rdL 1 rfl (Ze (Za _))) hp fun e21 p21 ad_2 hx_4 hp => ?_
  refine Zhd st 0 rfl ad_2 hx_4 rfl fun h_5 st => ?_
  dsimp only [List.set] at st
  obtain rfl := oI hp
  exact ⟨m, ltS, _, pk st [0], hs⟩
 ·obtain rfl := oI hp
  obtain rfl := oI hs
  exact ⟨v7, rfl, pk st [0]⟩
theorem Zr5 {a0 v0_2 r} (hp : ZdA a0 = some r) (f0_2 : SlC (hcell h) eL v0_2 a0.Rows) : CallsH P ZkQ #[.agg #[.int .i64 a0.Kind, .int .i64 a0.Size, v0_2]] h (fun v h' => ∃ w0 : Value, v = .agg #[.int .i64 r.Kind, .int .i64 r.Size, w0] ∧ S ψ h h' [.it (El.ow oL) [w0] r.Rows]) := by
 apply ZqT
 rw [ZdA] at hp
 have st := S.start hψ
 refine new_S st fun b1 h_2 st => ?_
 refine new_S st fun b2 h_3 st => ?_
 refine new_S st fun b3 h_4 st => ?_
 refine bI st 2 0 ?_
 refine Zb st 0 rfl rfl rfl rfl fun h_5 st => ?_
 dsimp only [List.set] at st
 refine bI st 2 1 ?_
 refine Zb st 0 rfl rfl rfl rfl fun h_6 st => ?_
 dsimp only [List.set] at st
 refine bV st 2 2 ?_
 refine cl1 hp st (fun s _ _ hx => ZrV s.fle hx (f0_2.mono st.le)) fun r12 v12 h_7 st hp => ⟨_, rfl, ?_⟩
 refine Zb st 1 rfl rfl rfl (st.rdL 0 rfl (Ze (Za _))).one fun h_8 st => ?_
 dsimp only [List.set] at st
 refine bI st 1 0 ?_
 refine bI st 1 1 ?_
 refine bV st 1 2 ?_
 refine Zb st 2 rfl rfl rfl rfl fun h_9 st => ?_
 refine Zb st 2 rfl rfl rfl rfl fun h_10 st => ?_
 refine Zb st 2 rfl rfl rfl (st.rdL 0 rfl (Ze (Za _))).one fun h_11 st => ?_
 dsimp only [List.set] at st
 refine bI st 2 0 ?_
 refine bI st 2 1 ?_
 refine bV st 2 2 ?_
 obtain rfl := oI hp
 exact ⟨v12, rfl, pk st [0]⟩
theorem ZvZ {a0 v0_3 r} (hp : Zer a0 = some r) (f0_3 : SlC (hcell h) eL v0_3 a0.Object.Rows) : CallsH P Zmn #[.agg #[.string a0.Name, .int .i64 a0.Object.Kind, .int .i64 a0.Object.Size, v0_3, .string a0.Key]] h (fun v h' => ∃ w0 : Value, v = .agg #[.string r.Name, .int .i64 r.Object.Kind, .int .i64 r.Object.Size, w0, .string r.Key] ∧ S ψ h h' [.it (El.ow oL) [w0] r.Object.Rows]) := by
 apply Zrv
 rw [Zer] at hp
 have st := S.start hψ
 refine new_S st fun b1 h_2 st => ?_
 refine new_S st fun b2 h_3 st => ?_
 refine new_S st fun b3 h_4 st => ?_
 refine bS st 2 0 ?_
 refine Zb st 0 rfl rfl rfl rfl fun h_5 st => ?_
 dsimp only [List.set] at st
 refine bI st 2 1 ?_
 refine bI st 2 2 ?_
 refine bV st 2 3 ?_
 refine cl1 hp st (fun s _ _ hx => Zr5 s.fle hx (f0_3.mono st.le)) fun r9 v9 h_6 st hp => ⟨_, _, _, rfl, ?_⟩
 refine Zb st 1 rfl rfl rfl rfl fun h_7 st => ?_
 refine Zb st 1 rfl rfl rfl rfl fun h_8 st => ?_
 refine Zb st 1 rfl rfl rfl (st.rdL 0 rfl (Ze (Za _))).one fun h_9 st => ?_
 dsimp only [List.set] at st
 refine bS st 3 4 ?_
 refine Zb st 1 rfl rfl rfl rfl fun h_10 st => ?_
 dsimp only [List.set] at st
 refine bS st 1 0 ?_
 refine bI st 1 1 ?_
 refine bI st 1 2 ?_
 refine bV st 1 3 ?_
 refine bS st 1 4 ?_
 refine Zb st 2 rfl rfl rfl rfl fun h_11 st => ?_
 refine Zb st 2 rfl rfl rfl rfl fun h_12 st => ?_
 refine Zb st 2 rfl rfl rfl rfl fun h_13 st => ?_
 refine Zb st 2 rfl rfl rfl (st.rdL 0 rfl (Ze (Za _))).one fun h_14 st => ?_
 refine Zb st 2 rfl rfl rfl rfl fun h_15 st => ?_
 dsimp only [List.set] at st
 refine bS st 2 0 ?_
 refine bI st 2 1 ?_
 refine bI st 2 2 ?_
 refine bV st 2 3 ?_
 refine bS st 2 4 ?_
 obtain rfl := oI hp
 exact ⟨v9, rfl, pk st [0]⟩
theorem Ztr {a0 v0 r} (hp : Zeo a0 = some r) (f0 : SlC (hcell h) Zbf v0 a0) : zL Zl9 #[v0] h ψ ZdO r := by
 apply Zrj
 rw [Zeo] at hp
 have st := S.start hψ
 refine vL f0 st.le ?_
 obtain ⟨l7, hx, hp⟩ := obind hp
 refine Zav (E := ZdO) st rfl hx fun v7 h_2 st => ?_
 obtain ⟨n_2, hn⟩ := Zy hp
 refine ⟨fun n i4 h_3 => ∃ xs : List Zj, S ψ h h_3 [.it (El.ow ZdO) [v7] xs] ∧ loopN (ZgD a0) n (i4, xs) = some r, ⟨n_2, _, pk st [0], hn⟩, ?_⟩
 rintro n _ i4 h_3 ⟨xs, st, hn⟩
 obtain ⟨m, a, rfl, hp, hs⟩ := Zx hn
 rw [ZgD] at hp
 refine vL f0 st.le ?_
 refine brQ hp (fun hp => ?_) fun hp => ?_
 ·refine ixA (f0.mono st.le) hp fun e18 p18 ad hx_2 hp => ?_
  obtain ⟨cs, ck, hr⟩ := f0.cells ad hx_2 rfl
  obtain ⟨v_2, rfl, f⟩ := Zn4 hr
  refine kS ck st.le 0 ?_
  refine kI ck st.le 1 ?_
  refine kI ck st.le 2 ?_
  refine kV ck st.le 3 ?_
  refine kS ck st.le 4 ?_
  refine cl1 hp st (fun s _ _ hx_3 => ZvZ s.fle hx_3 (f.mono st.le)) fun r20 v20 h_4 st hp => ⟨_, _, _, _, _, rfl, ?_⟩
  refine ixA (st.rdL 1 rfl frzo_T_impl_Item) hp fun e21 p21 ad_2 hx_4 hp => ?_
  have st := pko_T_impl_Item (x0 := r20.Name) (x1 := r20.Object.Kind) (x2 := r20.Object.Size) (x4 := r20.Key) st
  refine ZmT st 0 rfl ad_2 hx_4 rfl fun h_5 st => ?_
  dsimp only [List.set] at st
  obtain rfl := oI hp
  exact ⟨m, ltS, _, pk st [0], hs⟩
 ·obtain rfl := oI hp
  obtain rfl := oI hs
  exact ⟨v7, rfl, pk st [0]⟩
theorem ZjZ {a0 v0_0 r} (hp : Zcq a0 = some r) (f0_0 : SlC (hcell h) Zbf v0_0 a0.Items) : CallsH P ZeV #[.agg #[v0_0]] h (fun v h' => ∃ w0 : Value, v = .agg #[w0] ∧ S ψ h h' [.it (El.ow ZdO) [w0] r.Items]) := by
 apply ZrG
 rw [Zcq] at hp
 have st := S.start hψ
 refine new_S st fun b1 h_2 st => ?_
 refine new_S st fun b2 h_3 st => ?_
 refine new_S st fun b3 h_4 st => ?_
 refine bV st 2 0 ?_
 refine cl1 hp st (fun s _ _ hx => Ztr s.fle hx (f0_0.mono st.le)) fun r6 v6 h_5 st hp => ⟨_, rfl, ?_⟩
 refine Zb st 1 rfl rfl rfl (st.rdL 0 rfl frzo_T_impl_Item).one fun h_6 st => ?_
 dsimp only [List.set] at st
 refine bV st 1 0 ?_
 refine Zb st 2 rfl rfl rfl (st.rdL 0 rfl frzo_T_impl_Item).one fun h_7 st => ?_
 dsimp only [List.set] at st
 refine bV st 2 0 ?_
 obtain rfl := oI hp
 exact ⟨v6, rfl, pk st [0]⟩
theorem Zaj {n0 low1 high2 r} (hp : Z0 n0 low1 high2 = some r)  : zR Zad #[.int .i64 n0, .int .i64 low1, .int .i64 high2] h ψ (.bool r) := by
 apply ZxT
 rw [Z0] at hp
 have st := S.start hψ
 exact brQ hp (fun hp => tZ) fun hp => tZ
theorem ZoT {s0 : List (List Int)} {v0 : Value} {fn1 : (List Int) → Option Bool} {g1 : Nat} {cap1 : List Value} {r : Int} (hp : ZdF s0 fn1 = some r) (f0 : SlC (hcell h) eL v0 s0) (o1 : ctx.okf g1 = true) (k1 : ∀ {h1 : Heap}, ExtH h h1 → ∀ {ψ1 : CM}, CLe ψ1 (hcell h1) → ∀ {y0 : List Int} {u0_0 : Value} {r1 : Bool}, fn1 y0 = some r1 → SlC (hcell h1) eI u0_0 y0 → CallsH P g1 (([u0_0] : List Value) ++ cap1).toArray h1 (fun v h' => v = .bool r1 ∧ S ψ1 h1 h' [])) : zR ZhC #[v0, .func (.func g1) #[] cap1.toArray] h ψ (.int .i64 r) := by
 apply Zv2
 rw [ZdF] at hp
 have st := S.start hψ
 refine vL f0 st.le ?_
 refine lp1 hp (nlS st) fun m y8 h_2 a st hp hs => ?_
 rw [Zbu] at hp
 refine brR hp (fun hp => tZ) fun hp => ?_
 refine ixV f0 st.le hp fun e14 u15 f hp => ?_
 obtain ⟨r16, hx_2, hp⟩ := obind hp
 obtain ⟨φ, L, s, r_2⟩ := id st
 refine Zc0 o1 ?_
 refine (k1 st.ext s.fle hx_2 (f.mono st.le)).mono fun v_2 h_3 ⟨eq, t⟩ => ⟨_, eq, ?_⟩
 replace st := join0 s r_2 t
 clear t s r_2
 exact brQ hp (fun hp => tZ) fun hp => tZ
theorem ZiD {s0 : List (List Int)} {v0 : Value} {fn1 : (List Int) → Option Bool} {g1 : Nat} {cap1 : List Value} {r : Bool} (hp : Zd0 s0 fn1 = some r) (f0 : SlC (hcell h) eL v0 s0) (o1 : ctx.okf g1 = true) (k1 : ∀ {h1 : Heap}, ExtH h h1 → ∀ {ψ1 : CM}, CLe ψ1 (hcell h1) → ∀ {y0 : List Int} {u0_0 : Value} {r1 : Bool}, fn1 y0 = some r1 → SlC (hcell h1) eI u0_0 y0 → CallsH P g1 (([u0_0] : List Value) ++ cap1).toArray h1 (fun v h' => v = .bool r1 ∧ S ψ1 h1 h' [])) : zR Zey #[v0, .func (.func g1) #[] cap1.toArray] h ψ (.bool r) := by
 apply Zxv
 rw [Zd0] at hp
 have st := S.start hψ
 refine cl0 hp st (fun s _ _ hx => ZoT s.fle hx (f0.mono st.le) o1 (fun hx1 => k1 (st.ext.trans hx1))) fun r7 h_2 st hp => ⟨_, rfl, ?_⟩
 exact tZ
theorem Za6 {list0 v0 r} (hp : ZI list0 = some r) (f0 : SlC (hcell h) eI v0 list0) : zR ZaC #[v0] h ψ (.int .i64 r) := by
 apply ZuA
 rw [ZI] at hp
 have st := S.start hψ
 refine vL f0 st.le ?_
 exact tZ
theorem Zki {a0 v0 r} (hp : Zbt a0 = some r) (f0 : SlC (hcell h) eI v0 a0) : zL Zfs #[v0] h ψ eI r := by
 apply ZxU
 rw [Zbt] at hp
 have st := S.start hψ
 refine ZtH f0 (fun e1 e2 => Zvq rfl ?_) (Zt4 rfl ?_)
 ·subst e2
  obtain ⟨_, rfl⟩ := Zei hp
  exact ⟨_, rfl, st.nilO⟩
 ·refine Zam (E := eI) (css := []) (xs := []) st (fun _ => rfl) rfl rfl fun v1 h1 st => ?_
  refine app_S st 0 rfl (Zir (ZhY _) (f0.mono st.le)) rfl rfl hp fun v2 h2 st => ?_
  exact ⟨_, rfl, st⟩
end
theorem ZpH {ψ : CM} {h0 h : Heap} {os : List Ob} {x0 : List Int} {v0 : Value} {r : List Int} (hp : Ze9 x0 = some r) (st : S ψ h0 h (.it oL [v0] x0 :: os)) : CallsH P Zpk #[v0] h (fun v h' => v = .tuple #[] ∧ S ψ h0 h' (.it oL [v0] r :: os)) := by
 unfold Ze9 at hp
 split at hp
 ·rename_i hc
  obtain rfl := oI hp
  exact ZvL Tryz.sortM st hc
 ·cases hp
section
variable {ψ : CM} {h : Heap} (hψ : CLe ψ (hcell h))
include hψ
theorem ZnI {p0 v0 r} (hp : Zd5 p0 = some r) (f0 : SlC (hcell h) eI v0 p0) : zR ZhN #[v0] h ψ (.bool r) := by
 apply Zx4
 rw [Zd5] at hp
 have st := S.start hψ
 refine cl1 hp st (fun s _ _ hx => Zki s.fle hx (f0.mono st.le)) fun r7 v7 h_2 st hp => ⟨_, rfl, ?_⟩
 obtain ⟨r9, hx_2, hp⟩ := obind hp
 obtain ⟨φ_2, L_2, s_2, r_3⟩ := id st
 refine (ZpH hx_2 (s_2.upS r_3) ).mono fun v_3 h_3 ⟨eq_2, t_2⟩ => ⟨eq_2, ?_⟩
 replace st := s_2.downS t_2
 clear t_2 s_2 r_3
 refine ZA (st.rdL 0 rfl (Za _)) ?_
 refine lp1 (os := [.it oL [v7] r9]) hp (pk st [0]) fun m y12 h_4 a st hp hs => ?_
 rw [Zdr] at hp
 refine brQ hp (fun hp => ?_) fun hp => ?_
 ·refine ixI (st.rdL 0 rfl (Za _)) hp fun e15 hp => ?_
  refine brQ hp (fun hp => tZ) fun hp => ?_
  obtain rfl := oI hp
  exact ⟨m, ltS, pk st [0], hs⟩
 ·refine vL f0 st.le ?_
  exact tZ
theorem Zwb {p0 v0 y1 p1 r} (hp : Zh6 p0 y1 = some r) (f0 : SlC (hcell h) eI v0 p0) (ck1 : CellsC (hcell h) p1 [.int .i64 y1]) : zR Zl7 #[v0, .pointer (some p1)] h ψ (.bool r) := by
 apply Zsm
 rw [Zh6] at hp
 have st := S.start hψ
 refine ⟨fun _ => False, ?_⟩
 have stR_2 := st
 have xR_2 := ExtH.refl h
 obtain ⟨r5, hx, hp⟩ := obind hp
 obtain ⟨φ, L, s, r_2⟩ := id st
 refine (Za6 s.fle hx (f0.mono st.le)).mono fun v_2 h_2 ⟨eq, t⟩ => ⟨_, eq, ExtBut.of_ext (xR_2.trans t.ext), ?_⟩
 replace xR_2 := xR_2.trans t.ext
 replace st := join0 s r_2 t
 clear t s r_2
 refine Zz ?_
 refine kI ck1 stR_2.le 0 ?_
 refine brQ hp (fun hp => tZ) fun hp => ?_
 refine cl0 hp st (fun s_2 _ _ hx_2 => ZnI s_2.fle hx_2 (f0.mono st.le)) fun r10 h_3 st hp => ⟨_, rfl, ?_⟩
 exact tZ
theorem Zot {degree0 list1 v1 r} (hp : Zdf degree0 list1 = some r) (f1 : SlC (hcell h) eL v1 list1) : zR Zg3 #[.int .i64 degree0, v1] h ψ (.bool r) := by
 apply Zx3
 rw [Zdf] at hp
 have st := S.start hψ
 refine new_S st fun b2 h_2 st => ?_
 refine cl0 hp st (fun s _ _ hx => ZiD s.fle hx (f1.mono st.le) (by kernel_rfl) (fun hx1 => fun hψ1 => fun hp1 ff0 => Zwb hψ1 hp1 ff0 ((st.cells 0 rfl).mono (CLe.ext hx1)))) fun r7 h_3 st hp => ⟨_, rfl, ?_⟩
 exact tZ
theorem ZmU {x0 r} (hp : Zc1 x0 = some r)  : zR ZhK #[.int .i64 x0] h ψ (.bool r) := by
 apply Zp7
 rw [Zc1] at hp
 have st := S.start hψ
 exact tZ
theorem Zja {x0 y1 r} (hp : ZbG x0 y1 = some r)  : zR ZeH #[.int .i64 x0, .int .i64 y1] h ψ (.int .i64 r) := by
 apply Zup
 rw [ZbG] at hp
 have st := S.start hψ
 refine cl0 hp st (fun s _ _ hx => ZmU s.fle hx) fun r8 h_2 st hp => ⟨_, rfl, ?_⟩
 refine cl0 hp st (fun s_2 _ _ hx_2 => ZmU s_2.fle hx_2) fun r10 h_3 st hp => ⟨_, rfl, ?_⟩
 refine brQ hp (fun hp => ?_) fun hp => ?_
 ·exact brQ hp (fun hp => tZ) fun hp => tZ
 ·refine brQ hp (fun hp => tZ) fun hp => ?_
  refine brQ hp (fun hp => tZ) fun hp => ?_
  exact brQ hp (fun hp => tZ) fun hp => tZ
theorem Zg1 {s0 v0 s1 v1 r} (hp : Zan s0 s1 = some r) (f0 : SlC (hcell h) eI v0 s0) (f1 : SlC (hcell h) eI v1 s1) : zR ZdG #[v0, v1] h ψ (.int .i64 r) := by
 apply ZsT
 rw [Zan] at hp
 have st := S.start hψ
 refine vL f0 st.le ?_
 refine lp1 hp (nlS st) fun m y11 h_2 a st hp hs => ?_
 rw [ZbF] at hp
 refine brQ hp (fun hp => ?_) fun hp => ?_
 ·refine ixI (f0.mono st.le) hp fun e14 hp => ?_
  refine vL f1 st.le ?_
  refine brQ hp (fun hp => tZ) fun hp => ?_
  refine ixI (f1.mono st.le) hp fun e22 hp => ?_
  refine cl0 hp st (fun s _ _ hx_3 => Zja s.fle hx_3) fun r26 h_3 st hp => ⟨_, rfl, ?_⟩
  exact brQ hp (fun hp => tZ) fun hp => tZ
 ·refine vL f0 st.le ?_
  refine vL f1 st.le ?_
  exact brQ hp (fun hp => tZ) fun hp => tZ
end
theorem ZxF {ψ : CM} {h0 h : Heap} {os : List Ob} {x0 : List (List Int)} {v0 : Value} {fn1 : (List Int) → (List Int) → Option Int} {g1 : Nat} {cap1 : List Value} {r : List (List Int)} (hp : Zge x0 fn1 = some r) (st : S ψ h0 h (.it (El.ow oL) [v0] x0 :: os)) (o1 : ctx.okf g1 = true) (k1 : ∀ {h1 : Heap}, ExtH h0 h1 → ∀ {ψ1 : CM}, CLe ψ1 (hcell h1) → ∀ {y0 : List Int} {u0_0 : Value} {y1 : List Int} {u1_0 : Value} {r1 : Int}, fn1 y0 y1 = some r1 → SlC (hcell h1) eI u0_0 y0 → SlC (hcell h1) eI u1_0 y1 → CallsH P g1 (([u0_0, u1_0] : List Value) ++ cap1).toArray h1 (fun v h' => v = .int .i64 r1 ∧ S ψ1 h1 h' [])) : CallsH P Zoe #[v0, .func (.func g1) #[] cap1.toArray] h (fun v h' => v = .tuple #[] ∧ S ψ h0 h' (.it (El.ow oL) [v0] r :: os)) := by
 unfold Zge at hp
 split at hp
 ·rename_i hc
  obtain rfl := oI hp
  obtain ⟨fn, hf, hb, hn⟩ := ctxOk.fns g1 o1
  obtain ⟨c, hb⟩ := Option.isSome_iff_exists.1 hb
  exact Zqk Tryz.sortF Tryz.sortG st (Go.Proofs.enters_of hf hn hb) k1 hc.1 hc.2
 ·cases hp
section
variable {ψ : CM} {h : Heap} (hψ : CLe ψ (hcell h))
include hψ
theorem ZtG {n0 r} (hp : Zga n0 = some r)  : zL Zjj #[.int .i64 n0] h ψ eI r := by
 apply Ztw
 rw [Zga] at hp
 have st := S.start hψ
 obtain ⟨l6, hx, hp⟩ := obind hp
 refine Zav (E := eI) st rfl hx fun v6 h_2 st => ?_
 refine ZA (st.rdL 0 rfl (Za _)) ?_
 obtain ⟨n_2, hn⟩ := Zy hp
 refine ⟨fun n y9 h_3 => ∃ xs : List Int, S ψ h h_3 [.it oL [v6] xs] ∧ loopN (ZdS l6) n (y9, xs) = some r, ⟨n_2, _, pk st [0], hn⟩, ?_⟩
 rintro n _ y9 h_3 ⟨xs, st, hn⟩
 obtain ⟨m, a, rfl, hp, hs⟩ := Zx hn
 rw [ZdS] at hp
 refine brQ hp (fun hp => ?_) fun hp => ?_
 ·refine ixA (st.rdL 0 rfl (Za _)) hp fun e15 p15 ad hx_2 hp => ?_
  refine st1_S st 0 rfl ad hx_2 rfl (fun _ => ⟨rfl, rfl⟩) fun h_4 st => ?_
  dsimp only [List.set] at st
  obtain rfl := oI hp
  exact ⟨m, ltS, _, pk st [0], hs⟩
 ·obtain rfl := oI hp
  obtain rfl := oI hs
  exact ⟨v6, rfl, pk st [0]⟩
theorem Zm9 {p0 v0 r} (hp : ZdZ p0 = some r) (f0 : SlC (hcell h) eI v0 p0) : zR Zg6 #[v0] h ψ (.string r) := by
 apply Zq2
 rw [ZdZ] at hp
 have st := S.start hψ
 refine vL f0 st.le ?_
 obtain ⟨l8, hx, hp⟩ := obind hp
 refine Zav (E := (El.int .u8)) st rfl hx fun v8 h_2 st => ?_
 refine vL f0 st.le ?_
 obtain ⟨n_2, hn⟩ := Zy hp
 refine ⟨fun n y11 h_3 => ∃ xs : List Int, S ψ h h_3 [.it (El.ow (El.int .u8)) [v8] xs] ∧ loopN (Zd7 p0) n (y11, xs) = some r, ⟨n_2, _, pk st [0], hn⟩, ?_⟩
 rintro n _ y11 h_3 ⟨xs, st, hn⟩
 obtain ⟨m, a, rfl, hp, hs⟩ := Zx hn
 rw [Zd7] at hp
 refine brQ hp (fun hp => ?_) fun hp => ?_
 ·refine ixI (f0.mono st.le) hp fun e14 hp => ?_
  refine ixA (st.rdL 0 rfl (Za _)) hp fun e20 p20 ad_2 hx_3 hp => ?_
  refine st1_S st 0 rfl ad_2 hx_3 rfl (fun _ => ⟨rfl, rfl⟩) fun h_4 st => ?_
  dsimp only [List.set] at st
  obtain rfl := oI hp
  exact ⟨m, ltS, _, pk st [0], hs⟩
 ·obtain ⟨s23, hx_4, hp⟩ := obind hp
  refine b2s_S (st.rdL 0 rfl (Za _)) hx_4 ?_
  exact tZ
theorem Zre {p0 v0 q1 v1 r} (hp : Zgj p0 q1 = some r) (f0 : SlC (hcell h) eI v0 p0) (f1 : SlC (hcell h) eI v1 q1) : zL ZlS #[v0, v1] h ψ eI r := by
 apply Zs2
 rw [Zgj] at hp
 have st := S.start hψ
 refine vL f0 st.le ?_
 obtain ⟨l9, hx, hp⟩ := obind hp
 refine Zav (E := eI) st rfl hx fun v9 h_2 st => ?_
 refine ZA (st.rdL 0 rfl (Za _)) ?_
 obtain ⟨n_2, hn⟩ := Zy hp
 refine ⟨fun n y12 h_3 => ∃ xs : List Int, S ψ h h_3 [.it oL [v9] xs] ∧ loopN (Zen p0 q1 l9) n (y12, xs) = some r, ⟨n_2, _, pk st [0], hn⟩, ?_⟩
 rintro n _ y12 h_3 ⟨xs, st, hn⟩
 obtain ⟨m, a, rfl, hp, hs⟩ := Zx hn
 rw [Zen] at hp
 refine brQ hp (fun hp => ?_) fun hp => ?_
 ·refine ixI (f0.mono st.le) hp fun e20 hp => ?_
  refine ixI (f1.mono st.le) hp fun e22 hp => ?_
  refine ixA (st.rdL 0 rfl (Za _)) hp fun e24 p24 ad_3 hx_4 hp => ?_
  refine st1_S st 0 rfl ad_3 hx_4 rfl (fun _ => ⟨rfl, rfl⟩) fun h_4 st => ?_
  dsimp only [List.set] at st
  obtain rfl := oI hp
  exact ⟨m, ltS, _, pk st [0], hs⟩
 ·obtain rfl := oI hp
  obtain rfl := oI hs
  exact ⟨v9, rfl, pk st [0]⟩
theorem Zm0 {degree0 genera1 v1 r} (hp : ZcF degree0 genera1 = some r) (f1 : SlC (hcell h) eL v1 genera1) : CallsH P Zig #[.int .i64 degree0, v1] h (fun v h' => ∃ w0 : Value, v = .tuple #[w0, .bool r.2] ∧ S ψ h h' [.it (El.ow oL) [w0] r.1]) := by
 apply Zq5
 rw [ZcF] at hp
 have st := S.start hψ
 refine cl1 hp st (fun s _ _ hx => ZtG s.fle hx) fun r14 v14 h_2 st hp => ⟨_, rfl, ?_⟩
 refine Zw (st.rdL 0 rfl (Za _)).one ?_
 refine ZiY st fun v15 h_3 st => ?_
 refine Ztz (κ := ByteArray) (ν := Bool) kStr vBool st fun b16 h_4 st => ?_
 refine ixA (st.rdL 1 rfl (Ze (Za _))) hp fun e18 p18 ad hx_2 hp => ?_
 refine Zdm st 1 rfl ad hx_2 fun u19 hd => ?_
 refine cl0 hp st (fun s_2 _ _ hx_3 => Zm9 s_2.fle hx_3 (st.rowC 1 rfl hd hx_2 (Za _))) fun r20 h_5 st hp => ⟨_, rfl, ?_⟩
 refine ZmW (v := true) Zj9 st 0 rfl rfl rfl fun h_6 st => ?_
 dsimp only [List.set] at st
 obtain ⟨n_4, hn⟩ := Zy hp
 refine ⟨fun n v6 k8 h_7 => ∃ elemen6 : List (List Int), ∃ mp : List (ByteArray × Bool), S ψ h h_7 [.mp b16 (mkV kStr vBool mp), .it (El.ow oL) [v6] elemen6] ∧ loopN (Zbw genera1) n (elemen6, k8, mp) = some r, ⟨n_4, _, _, pk st [0,1], hn⟩, ?_⟩
 rintro n _ v6 k8 h_7 ⟨elemen6, mp, st, hn⟩
 obtain ⟨m, a, rfl, hp, hs⟩ := Zx hn
 rw [Zbw] at hp
 refine ZA (st.rdL 1 rfl (Ze (Za _))) ?_
 refine brQ hp (fun hp => ?_) fun hp => ?_
 ·refine vL f1 st.le ?_
  obtain ⟨n_3, hn_2⟩ := Zy hp
  refine ⟨fun n_2 v6_2 y30 h_8 => ∃ elemen6_2 : List (List Int), ∃ mp_2 : List (ByteArray × Bool), S ψ h h_8 [.mp b16 (mkV kStr vBool mp_2), .it (El.ow oL) [v6_2] elemen6_2] ∧ loopN (Zbi genera1 k8) n_2 (elemen6_2, y30, mp_2) = some a, ⟨n_3, _, _, pk st [0,1], hn_2⟩, ?_⟩
  rintro n_2 _ v6_2 y30 h_8 ⟨elemen6_2, mp_2, st, hn_2⟩
  obtain ⟨m_2, a_2, rfl, hp, hs_2⟩ := Zx hn_2
  rw [Zbi] at hp
  refine brQ hp (fun hp => ?_) fun hp => ?_
  ·refine ixV f1 st.le hp fun e32 u33 f hp => ?_
   refine ixA (st.rdL 1 rfl (Ze (Za _))) hp fun e36 p36 ad_3 hx_5 hp => ?_
   refine Zdm st 1 rfl ad_3 hx_5 fun u37 hd_2 => ?_
   refine cl1 hp st (fun s_3 _ _ hx_6 => Zre s_3.fle hx_6 (st.rowC 1 rfl hd_2 hx_5 (Za _)) (f.mono st.le)) fun r39 v39 h_9 st hp => ⟨_, rfl, ?_⟩
   refine cl0 hp st (fun s_4 _ _ hx_7 => Zm9 s_4.fle hx_7 (st.rdL 0 rfl (Za _))) fun r41 h_10 st hp => ⟨_, rfl, ?_⟩
   refine ZqV Zj9 st 1 rfl rfl ?_
   refine brQ hp (fun hp => ?_) fun hp => ?_
   ·refine ZmW (v := true) Zj9 st 1 rfl rfl rfl fun h_11 st => ?_
    dsimp only [List.set] at st
    refine Zw (st.rdL 0 rfl (Za _)).one ?_
    obtain ⟨l51, hx_8, hp⟩ := obind hp
    refine Zb8 st 1 rfl rfl rfl hx_8 fun v51 h_12 st => ?_
    dsimp only [List.set] at st
    obtain rfl := oI hp
    exact ⟨m_2, ltS, _, _, pk st [0,1], hs_2⟩
   ·obtain rfl := oI hp
    exact ⟨m_2, ltS, _, _, pk st [1,2], hs_2⟩
  ·refine ZA (st.rdL 1 rfl (Ze (Za _))) ?_
   refine brQ hp (fun hp => ?_) fun hp => ?_
   ·have st := st.nilO (E := oL)
    obtain rfl := oI hp
    obtain rfl := oI hs_2
    obtain rfl := oI hs
    exact ⟨(.slice none 0 0), rfl, pk st [0]⟩
   ·obtain rfl := oI hp
    obtain rfl := oI hs_2
    exact ⟨m, ltS, _, _, pk st [0,1], hs⟩
 ·have st : S ψ h h_7 [.it (El.ow oL) [v6] elemen6, .mp b16 (mkV kStr vBool mp)] := pk st [1,0]
  obtain ⟨r57, hx_9, hp⟩ := obind hp
  obtain ⟨φ_5, L_5, s_5, r_6⟩ := id st
  refine (ZxF hx_9 (s_5.upS r_6) (by kernel_rfl) (fun hx1 => fun hψ1 => fun hp1 ff0 ff1 => Zg1 hψ1 hp1 ff0 ff1)).mono fun v_6 h_13 ⟨eq_5, t_5⟩ => ⟨eq_5, ?_⟩
  replace st := s_5.downS t_5
  clear t_5 s_5 r_6
  obtain rfl := oI hp
  obtain rfl := oI hs
  exact ⟨v6, rfl, pk st [0]⟩
theorem ZtQ {x0 : List (List Int)} {v0 : Value} {target1 : List Int} {v1 : Value} {fn2 : (List Int) → (List Int) → Option Int} {g2 : Nat} {cap2 : List Value} {r : Int × Bool} (hp : ZfR x0 target1 fn2 = some r) (f0 : SlC (hcell h) eL v0 x0) (f1 : SlC (hcell h) eI v1 target1) (o2 : ctx.okf g2 = true) (k2 : ∀ {h1 : Heap}, ExtH h h1 → ∀ {ψ1 : CM}, CLe ψ1 (hcell h1) → ∀ {y0 : List Int} {u0_0 : Value} {y1 : List Int} {u1_0 : Value} {r1 : Int}, fn2 y0 y1 = some r1 → SlC (hcell h1) eI u0_0 y0 → SlC (hcell h1) eI u1_0 y1 → CallsH P g2 (([u0_0, u1_0] : List Value) ++ cap2).toArray h1 (fun v h' => v = .int .i64 r1 ∧ S ψ1 h1 h' [])) : zR ZkR #[v0, v1, .func (.func g2) #[] cap2.toArray] h ψ (.tuple #[.int .i64 r.1, .bool r.2]) := by
 apply ZsJ
 rw [ZfR] at hp
 have st := S.start hψ
 refine vL f0 st.le ?_
 refine lp2 hp (nlS st) fun m i9 j10 h_2 a st hp hs => ?_
 rw [Zc6] at hp
 refine brQ hp (fun hp => ?_) fun hp => ?_
 ·obtain ⟨_, hx, hp⟩ := obind hp
  refine ⟨Zqx hx, ?_⟩
  refine ixV f0 st.le hp fun e27 u28 f hp => ?_
  obtain ⟨r30, hx_3, hp⟩ := obind hp
  obtain ⟨φ, L, s, r_2⟩ := id st
  refine Zc0 o2 ?_
  refine (k2 st.ext s.fle hx_3 (f.mono st.le) (f1.mono st.le)).mono fun v_2 h_3 ⟨eq, t⟩ => ⟨_, eq, ?_⟩
  replace st := join0 s r_2 t
  clear t s r_2
  exact brQ hp (fun hp => tZ) fun hp => tZ
 ·refine brR hp (fun hp => tZ) fun hp => ?_
  refine ixV f0 st.le hp fun e43 u44 f_2 hp => ?_
  obtain ⟨r46, hx_5, hp⟩ := obind hp
  obtain ⟨φ_2, L_2, s_2, r_3⟩ := id st
  refine Zc0 o2 ?_
  refine (k2 st.ext s_2.fle hx_5 (f_2.mono st.le) (f1.mono st.le)).mono fun v_3 h_4 ⟨eq_2, t_2⟩ => ⟨_, eq_2, ?_⟩
  replace st := join0 s_2 r_3 t_2
  clear t_2 s_2 r_3
  exact tZ
theorem Zwe {degree0 elemen1 v1 r} (hp : Zgr degree0 elemen1 = some r) (f1 : SlC ψ eL v1 elemen1) : CallsH P Zkx #[.int .i64 degree0, v1] h (fun v h' => ∃ w0 : Value, ∃ w1 : Value, v = .tuple #[w0, w1, .bool r.2.2] ∧ S ψ h h' [.it (El.ow eL) [w0] r.1, .it (El.ow eL) [w1] r.2.1]) := by
 apply Zwq
 rw [Zgr] at hp
 have st := S.start hψ
 refine cl1 hp st (fun s _ _ hx => Zm0 s.fle hx SlC.nil) fun r16 v16 h_2 st hp => ⟨_, _, rfl, ?_⟩
 refine vL f1 st.leF ?_
 have st := st.nilO (E := eL)
 obtain ⟨n_2, hn⟩ := Zy hp
 refine ⟨fun n v7 v8 ok9 y21 h_3 => ∃ genera7 : List (List Int), ∃ all8 : List (List Int), S ψ h h_3 [.it (El.ow eL) [v7] genera7, .it (El.ow oL) [v8] all8] ∧ loopN (Zak degree0 elemen1) n (genera7, all8, ok9, y21) = some r, ⟨n_2, _, _, pk st [0,1], hn⟩, ?_⟩
 rintro n _ v7 v8 ok9 y21 h_3 ⟨genera7, all8, st, hn⟩
 obtain ⟨m, a, rfl, hp, hs⟩ := Zx hn
 rw [Zak] at hp
 refine brQ hp (fun hp => ?_) fun hp => ?_
 ·refine ixV f1 st.leF hp fun e23 u24 f hp => ?_
  refine ⟨fun h_4 => S ψ h h_4 [.it (El.ow eL) [v7] genera7, .it (El.ow oL) [v8] all8] ∧ ZgM degree0 genera7 y21 e23 = some a, ?_, ?_⟩
  ·refine cl0 hp st (fun s_3 _ _ hx_5 => ZtQ s_3.fle hx_5 (st.rdL 1 rfl (Ze (Za _))) (f.mono st.leF) (by kernel_rfl) (fun hx1 => fun hψ1 => fun hp1 ff0 ff1 => Zg1 hψ1 hp1 ff0 ff1)) fun r28 h_7 st hp => ⟨_, _, rfl, ?_⟩
   refine brQ hp (fun hp => ?_) fun hp => ?_
   ·obtain rfl := oI hp
    exact ⟨m, ltS, _, _, pk st [0,1], hs⟩
   ·refine brQ hp (fun hp => ?_) fun hp => ?_
    ·obtain rfl := oI hp
     exact ⟨m, ltS, _, _, pk st [0,1], hs⟩
    ·exact ⟨pk st [0,1], hp⟩
  ·rintro _ h_4 ⟨st, hp⟩
   rw [ZgM] at hp
   refine Zw (f.mono st.leF).one ?_
   have st := st.arg f
   obtain ⟨l39, hx_3, hp⟩ := obind hp
   refine Zb8 st 0 rfl rfl rfl hx_3 fun v39 h_5 st => ?_
   dsimp only [List.set] at st
   refine cl1 hp st (fun s_2 _ _ hx_4 => Zm0 s_2.fle hx_4 (st.rdL 0 rfl (ZT _))) fun r43 v43 h_6 st hp => ⟨_, _, rfl, ?_⟩
   obtain rfl := oI hp
   exact ⟨m, ltS, _, _, pk st [1,0], hs⟩
 ·have st := st.frzIn 1 rfl (Ze (Za _))
  dsimp only [List.set] at st
  obtain rfl := oI hp
  obtain rfl := oI hs
  exact ⟨v7, v8, rfl, pk st [0,1]⟩
theorem Zwl {y0 v0_1 r} (hp : Zfj y0 = some r) (f0_1 : SlC ψ eL v0_1 y0.Elements) : zR Zl0 #[.agg #[.int .i64 y0.Degree, v0_1]] h ψ (.bool r) := by
 apply Zqe
 rw [Zfj] at hp
 have st := S.start hψ
 refine new_S st fun b1 h_2 st => ?_
 refine ⟨fun h_3 => S ψ h h_3 [.box b1 [.int .i64 y0.Degree, v0_1]] ∧ Zh2 y0 = some r, ?_, ?_⟩
 ·refine bI st 0 0 ?_
  refine cl0 hp st (fun s_3 _ _ hx_5 => Zaj s_3.fle hx_5) fun r9 h_7 st hp => ⟨_, rfl, ?_⟩
  refine brQ hp (fun hp => tZ) fun hp => ?_
  refine bV st 0 1 ?_
  refine vL f0_1 st.leF ?_
  refine brQ hp (fun hp => tZ) fun hp => ?_
  refine bV st 0 1 ?_
  refine vL f0_1 st.leF ?_
  refine brQ hp (fun hp => tZ) fun hp => ?_
  refine bI st 0 0 ?_
  refine bV st 0 1 ?_
  refine cl0 hp st (fun s_4 _ _ hx_6 => Zot s_4.fle hx_6 (f0_1.mono st.leF)) fun r28 h_8 st hp => ⟨_, rfl, ?_⟩
  refine brQ hp (fun hp => tZ) fun hp => ?_
  exact ⟨pk st [0], hp⟩
 ·rintro _ h_3 ⟨st, hp⟩
  rw [Zh2] at hp
  refine lp1 (os := [.box b1 [.int .i64 y0.Degree, v0_1]]) hp (pk st [0]) fun m y3 h_4 a st hp hs => ?_
  rw [ZcS] at hp
  refine bV st 0 1 ?_
  refine vL f0_1 st.leF ?_
  refine brQ hp (fun hp => ?_) fun hp => ?_
  ·refine bV st 0 1 ?_
   refine ixV f0_1 st.leF hp fun e42 u43 f hp => ?_
   refine bV st 0 1 ?_
   refine ixV f0_1 st.leF hp fun e47 u48 f_2 hp => ?_
   refine cl0 hp st (fun s _ _ hx_3 => Zg1 s.fle hx_3 (f.mono st.leF) (f_2.mono st.leF)) fun r49 h_5 st hp => ⟨_, rfl, ?_⟩
   refine brQ hp (fun hp => tZ) fun hp => ?_
   obtain rfl := oI hp
   exact ⟨m, ltS, pk st [0], hs⟩
  ·refine bI st 0 0 ?_
   refine bV st 0 1 ?_
   refine cl2 hp st (fun s_2 _ _ hx_4 => Zwe s_2.fle hx_4 (f0_1.mono s_2.bas)) fun r56 v56 v56_2 h_6 st hp => ⟨_, _, _, rfl, ?_⟩
   refine brR hp (fun hp => tZ) fun hp => ?_
   refine ZA (st.rdL 1 rfl (ZT _)) ?_
   refine bV st 2 1 ?_
   refine vL f0_1 st.leF ?_
   exact tZ
theorem Zwp {vals0 v0 r} (hp : ZfC vals0 = some r) (f0 : SlC (hcell h) eI v0 vals0) : zR ZkZ #[v0] h ψ (.int .i64 r) := by
 apply Zsf
 rw [ZfC] at hp
 have st := S.start hψ
 refine vL f0 st.le ?_
 refine lp1 hp (nlS st) fun m y8 h_2 a st hp hs => ?_
 rw [Zc4] at hp
 refine brR hp (fun hp => tZ) fun hp => ?_
 refine ixI (f0.mono st.le) hp fun e10 hp => ?_
 exact brQ hp (fun hp => tZ) fun hp => tZ
theorem Zr1 {a0 b1 r} (hp : ZgK a0 b1 = some r)  : zR ZlE #[.agg #[.int .i64 a0.A, .int .i64 a0.B], .agg #[.int .i64 b1.A, .int .i64 b1.B]] h ψ (.int .i64 r) := by
 apply Zst
 rw [ZgK] at hp
 have st := S.start hψ
 refine new_S st fun b2 h_2 st => ?_
 refine new_S st fun b3 h_3 st => ?_
 refine ⟨fun _ => False, ?_⟩
 have stR_2 := st
 have xR_2 := ExtH.refl h_3
 refine bI st 1 0 ?_
 refine bI st 0 0 ?_
 obtain ⟨r9, hx, hp⟩ := obind hp
 obtain ⟨φ, L, s, r_2⟩ := id st
 refine (Zja s.fle hx).mono fun v_2 h_4 ⟨eq, t⟩ => ⟨_, eq, ExtBut.of_ext (xR_2.trans t.ext), ?_⟩
 replace xR_2 := xR_2.trans t.ext
 replace st := join0 s r_2 t
 clear t s r_2
 refine Zz ?_
 refine ldI_K (stR_2.cells 1 rfl) 1 rfl rfl ?_
 refine Zz ?_
 refine ldI_K (stR_2.cells 0 rfl) 1 rfl rfl ?_
 refine cl0 hp st (fun s_2 _ _ hx_2 => Zja s_2.fle hx_2) fun r14 h_5 st hp => ⟨_, rfl, ?_⟩
 refine Zam (E := eI) (css := [[.int .i64 r9], [.int .i64 r14]]) (xs := ([r9, r14] : List Int)) st (fun _ => ⟨[], [], rfl, ⟨rfl, rfl⟩, ⟨[], [], rfl, ⟨rfl, rfl⟩, rfl⟩⟩) rfl rfl fun v15 h_6 st => ?_
 refine cl0 hp st (fun s_3 _ _ hx_3 => Zwp s_3.fle hx_3 (st.rdL 0 rfl (Za _))) fun r16 h_7 st hp => ⟨_, rfl, ?_⟩
 exact tZ
theorem ZwR {s0 : List Int} {v0 : Value} {fn1 : Int → Option Bool} {g1 : Nat} {cap1 : List Value} {r : Int} (hp : Ze6 s0 fn1 = some r) (f0 : SlC (hcell h) eI v0 s0) (o1 : ctx.okf g1 = true) (k1 : ∀ {h1 : Heap}, ExtH h h1 → ∀ {ψ1 : CM}, CLe ψ1 (hcell h1) → ∀ {y0 : Int} {r1 : Bool}, fn1 y0 = some r1 → CallsH P g1 (([.int .i64 y0] : List Value) ++ cap1).toArray h1 (fun v h' => v = .bool r1 ∧ S ψ1 h1 h' [])) : zR ZkO #[v0, .func (.func g1) #[] cap1.toArray] h ψ (.int .i64 r) := by
 apply ZwX
 rw [Ze6] at hp
 have st := S.start hψ
 refine vL f0 st.le ?_
 refine lp1 hp (nlS st) fun m y8 h_2 a st hp hs => ?_
 rw [ZcC] at hp
 refine brR hp (fun hp => tZ) fun hp => ?_
 refine ixI (f0.mono st.le) hp fun e14 hp => ?_
 obtain ⟨r16, hx_2, hp⟩ := obind hp
 obtain ⟨φ, L, s, r_2⟩ := id st
 refine Zc0 o1 ?_
 refine (k1 st.ext s.fle hx_2).mono fun v_2 h_3 ⟨eq, t⟩ => ⟨_, eq, ?_⟩
 replace st := join0 s r_2 t
 clear t s r_2
 exact brQ hp (fun hp => tZ) fun hp => tZ
theorem ZgO {s0 : List Int} {v0 : Value} {fn1 : Int → Option Bool} {g1 : Nat} {cap1 : List Value} {r : Bool} (hp : Zaq s0 fn1 = some r) (f0 : SlC (hcell h) eI v0 s0) (o1 : ctx.okf g1 = true) (k1 : ∀ {h1 : Heap}, ExtH h h1 → ∀ {ψ1 : CM}, CLe ψ1 (hcell h1) → ∀ {y0 : Int} {r1 : Bool}, fn1 y0 = some r1 → CallsH P g1 (([.int .i64 y0] : List Value) ++ cap1).toArray h1 (fun v h' => v = .bool r1 ∧ S ψ1 h1 h' [])) : zR ZcL #[v0, .func (.func g1) #[] cap1.toArray] h ψ (.bool r) := by
 apply Zto
 rw [Zaq] at hp
 have st := S.start hψ
 refine cl0 hp st (fun s _ _ hx => ZwR s.fle hx (f0.mono st.le) o1 (fun hx1 => k1 (st.ext.trans hx1))) fun r7 h_2 st hp => ⟨_, rfl, ?_⟩
 exact tZ
theorem ZpI {n0 r} (hp : Zhi n0 = some r)  : zR Zlr #[.int .i64 n0] h ψ (.bool r) := by
 apply Zth
 rw [Zhi] at hp
 have st := S.start hψ
 refine cl0 hp st (fun s _ _ hx => Zaj s.fle hx) fun r4 h_2 st hp => ⟨_, rfl, ?_⟩
 exact tZ
theorem ZpL {n0 r} (hp : ZgU n0 = some r)  : zR ZjG #[.int .i64 n0] h ψ (.bool r) := by
 apply Zw9
 rw [ZgU] at hp
 have st := S.start hψ
 refine cl0 hp st (fun s _ _ hx => ZpI s.fle hx) fun r4 h_2 st hp => ⟨_, rfl, ?_⟩
 exact tZ
theorem Zwn {colors0 v0 r} (hp : Zgx colors0 = some r) (f0 : SlC (hcell h) eI v0 colors0) : zR ZkC #[v0] h ψ (.bool r) := by
 apply Zsg
 rw [Zgx] at hp
 have st := S.start hψ
 refine vL f0 st.le ?_
 refine brR hp (fun hp => tZ) fun hp => ?_
 refine cl0 hp st (fun s _ _ hx => ZgO s.fle hx (f0.mono st.le) (by kernel_rfl) (fun hx1 => fun hψ1 => fun hp1  => ZpL hψ1 hp1 )) fun r8 h_2 st hp => ⟨_, rfl, ?_⟩
 exact tZ
theorem ZpO {g0 v0_0 v0_1 r} (hp : ZfO g0 = some r) (f0_0 : SlC (hcell h) eI v0_0 g0.Colors) (f0_1 : SlC (hcell h) Zaa v0_1 g0.Edges) : zR ZjD #[.agg #[v0_0, v0_1]] h ψ (.bool r) := by
 apply Zp1
 rw [ZfO] at hp
 have st := S.start hψ
 refine new_S st fun b1 h_2 st => ?_
 refine bV st 0 1 ?_
 refine vL f0_1 st.le ?_
 refine lp1 (os := [.box b1 [v0_0, v0_1]]) hp (pk st [0]) fun m y8 h_3 a st hp hs => ?_
 rw [ZaR] at hp
 refine brQ hp (fun hp => ?_) fun hp => ?_
 ·refine ixA (f0_1.mono st.le) hp fun e11 p11 ad hx hp => ?_
  obtain ⟨cs, ck, hr⟩ := f0_1.cells ad hx rfl
  obtain rfl := ZhF hr
  refine kI ck st.le 0 ?_
  refine kI ck st.le 1 ?_
  refine new_S st fun b4 h_4 st => ?_
  refine Zb st 0 rfl rfl rfl rfl fun h_5 st => ?_
  refine Zb st 0 rfl rfl rfl rfl fun h_6 st => ?_
  dsimp only [List.set] at st
  refine ⟨fun _ => False, ?_⟩
  have stR_5 := st
  have xR_5 := ExtH.refl h_6
  refine bI st 0 0 ?_
  refine brQ hp (fun hp => tZ) fun hp => ?_
  refine bI st 0 0 ?_
  refine bI st 0 1 ?_
  refine brQ hp (fun hp => tZ) fun hp => ?_
  refine bV st 1 0 ?_
  obtain ⟨r28, hx_2, hp⟩ := obind hp
  obtain ⟨φ, L, s, r_2⟩ := id st
  refine (Za6 s.fle hx_2 (f0_0.mono st.le)).mono fun v_2 h_7 ⟨eq, t⟩ => ⟨_, eq, ExtBut.of_ext (xR_5.trans t.ext), ?_⟩
  replace xR_5 := xR_5.trans t.ext
  replace st := join0 s r_2 t
  clear t s r_2
  refine Zz ?_
  refine ldI_K (stR_5.cells 0 rfl) 1 rfl rfl ?_
  refine brQ hp (fun hp => tZ) fun hp => ?_
  refine brQ hp (fun hp => ?_) fun hp => ?_
  ·refine bV st 1 1 ?_
   refine ixA (f0_1.mono st.le) hp fun e39 p39 ad_2 hx_3 hp => ?_
   obtain ⟨cs_2, ck_2, hr_2⟩ := f0_1.cells ad_2 hx_3 rfl
   obtain rfl := ZhF hr_2
   refine kI ck_2 st.le 0 ?_
   refine kI ck_2 st.le 1 ?_
   refine bI st 0 0 ?_
   refine bI st 0 1 ?_
   refine cl0 hp st (fun s_2 _ _ hx_4 => Zr1 s_2.fle hx_4) fun r42 h_8 st hp => ⟨_, rfl, ?_⟩
   refine brQ hp (fun hp => tZ) fun hp => ?_
   obtain rfl := oI hp
   exact ⟨m, ltS, pk st [1], hs⟩
  ·obtain rfl := oI hp
   exact ⟨m, ltS, pk st [1], hs⟩
 ·refine bV st 0 0 ?_
  refine cl0 hp st (fun s_3 _ _ hx_5 => Zwn s_3.fle hx_5 (f0_0.mono st.le)) fun r49 h_9 st hp => ⟨_, rfl, ?_⟩
  refine brR hp (fun hp => tZ) fun hp => ?_
  refine bV st 0 1 ?_
  refine vL f0_1 st.le ?_
  exact tZ
theorem Zw6 {o0 v0_2 r} (hp : ZeL o0 = some r) (f0_2 : SlC (hcell h) eL v0_2 o0.Rows) : CallsH P Zjv #[.agg #[.int .i64 o0.Kind, .int .i64 o0.Size, v0_2]] h (fun v h' => ∃ w0 : Value, ∃ w1 : Value, v = .tuple #[.agg #[w0, w1], .bool r.2] ∧ S ψ h h' [.it oL [w0] r.1.Colors, .it (El.ow Zaa) [w1] r.1.Edges]) := by
 apply Zs0
 rw [ZeL] at hp
 have st := S.start hψ
 refine new_S st fun b1 h_2 st => ?_
 refine new_S st fun b2 h_3 st => ?_
 refine bI st 1 1 ?_
 refine cl0 hp st (fun s _ _ hx => Zaj s.fle hx) fun r9 h_4 st hp => ⟨_, rfl, ?_⟩
 refine brQ hp (fun hp => ?_) fun hp => ?_
 ·refine Zb st 0 rfl rfl rfl rfl fun h_5 st => ?_
  refine Zb st 0 rfl rfl rfl rfl fun h_6 st => ?_
  dsimp only [List.set] at st
  refine bV st 0 0 ?_
  refine bV st 0 1 ?_
  have st := st.nilO (E := eI)
  have st := st.nilO (E := Zaa)
  obtain rfl := oI hp
  exact ⟨(.slice none 0 0), (.slice none 0 0), rfl, pk st [1,0]⟩
 ·refine bI st 1 1 ?_
  obtain ⟨l14, hx_2, hp⟩ := obind hp
  refine Zav (E := eI) st rfl hx_2 fun v14 h_7 st => ?_
  refine Zw (st.rdL 0 rfl (Za _)).one ?_
  refine new_S st fun b4 h_8 st => ?_
  refine Zb st 0 rfl rfl rfl (st.rdL 1 rfl (Za _)).one fun h_9 st => ?_
  refine Zb st 0 rfl rfl rfl rfl fun h_10 st => ?_
  dsimp only [List.set] at st
  refine bV st 3 2 ?_
  refine vL f0_2 st.le ?_
  have st := st.nilO (E := Zaa)
  obtain ⟨n_2, hn⟩ := Zy hp
  refine ⟨fun n y19 h_11 => ∃ xs : List ZD, ∃ v_3 : Value, S ψ h h_11 [.box b4 [v14, v_3], .it oL [v14] l14, .box b2 [(.slice none 0 0), (.slice none 0 0)], .box b1 [.int .i64 o0.Kind, .int .i64 o0.Size, v0_2], .it (El.ow Zaa) [v_3] xs] ∧ loopN (Zbr o0 l14) n (y19, xs) = some r, ⟨n_2, _, _, pk st [1,2,3,4,0], hn⟩, ?_⟩
  rintro n _ y19 h_11 ⟨xs, v_3, st, hn⟩
  obtain ⟨m, a, rfl, hp, hs⟩ := Zx hn
  rw [Zbr] at hp
  refine brQ hp (fun hp => ?_) fun hp => ?_
  ·refine ixV f0_2 st.le hp fun e21 u22 f hp => ?_
   refine vL f st.le ?_
   refine brQ hp (fun hp => ?_) fun hp => ?_
   ·refine Zb st 2 rfl rfl rfl rfl fun h_12 st => ?_
    refine Zb st 2 rfl rfl rfl rfl fun h_13 st => ?_
    dsimp only [List.set] at st
    refine bV st 2 0 ?_
    refine bV st 2 1 ?_
    have st := st.nilO (E := eI)
    have st := st.nilO (E := Zaa)
    obtain rfl := oI hp
    obtain rfl := oI hs
    exact ⟨(.slice none 0 0), (.slice none 0 0), rfl, pk st [1,0]⟩
   ·refine ⟨fun _ => False, ?_⟩
    have stR_10 := st
    have xR_10 := ExtH.refl h_11
    refine ixI (f.mono st.le) hp fun e30 hp => ?_
    refine ixI (f.mono st.le) hp fun e33 hp => ?_
    refine Zpe (E := Zaa) (css := [[.int .i64 e30, .int .i64 e33]]) (xs := ([(ZD.mk e30 e33)] : List ZD)) st (fun _ => ⟨[], [], rfl, ⟨[.int .i64 e30], [.int .i64 e33], [], [], rfl, rfl, ⟨rfl, rfl⟩, ⟨rfl, rfl⟩⟩, rfl⟩) rfl rfl fun v36 h_14 xE st => ⟨ExtBut.of_ext (xR_10.trans xE), ?_⟩
    replace xR_10 := xR_10.trans xE
    refine Z8 ?_
    refine ldV_K (stR_10.cells 0 rfl) 1 rfl rfl ?_
    obtain ⟨l37, hx_6, hp⟩ := obind hp
    refine app_S st 5 rfl (Zir Zo9 (st.rdL 0 rfl frzf_T_impl_Edge)) rfl rfl hx_6 fun v37 h_15 st => ?_
    refine Zb st 1 rfl rfl rfl (st.rdL 5 rfl frzf_T_impl_Edge).one fun h_16 st => ?_
    dsimp only [List.set] at st
    obtain rfl := oI hp
    exact ⟨m, ltS, _, _, pk st [1,2,3,4,5], hs⟩
  ·refine ⟨fun _ => False, ?_⟩
   have stR_12 := st
   have xR_12 := ExtH.refl h_11
   refine bV st 0 0 ?_
   refine bV st 0 1 ?_
   obtain ⟨r42, hx_7, hp⟩ := obind hp
   obtain ⟨φ_2, L_2, s_2, r_3⟩ := id st
   refine (ZpO s_2.fle hx_7 (st.rdL 1 rfl (Za _)) (st.rdL 4 rfl frzf_T_impl_Edge)).mono fun v_4 h_17 ⟨eq_2, t_2⟩ => ⟨_, eq_2, ExtBut.of_ext (xR_12.trans t_2.ext), ?_⟩
   replace xR_12 := xR_12.trans t_2.ext
   replace st := join0 s_2 r_3 t_2
   clear t_2 s_2 r_3
   refine Z8 ?_
   refine ldV_K (stR_12.cells 0 rfl) 0 rfl rfl ?_
   refine Z8 ?_
   refine ldV_K (stR_12.cells 0 rfl) 1 rfl rfl ?_
   refine Zb st 2 rfl rfl rfl (st.rdL 1 rfl (Za _)).one fun h_18 st => ?_
   refine Zb st 2 rfl rfl rfl (st.rdL 4 rfl frzf_T_impl_Edge).one fun h_19 st => ?_
   dsimp only [List.set] at st
   refine bV st 2 0 ?_
   refine bV st 2 1 ?_
   obtain rfl := oI hp
   obtain rfl := oI hs
   exact ⟨v14, v_3, rfl, pk st [1,4]⟩
theorem ZdL {list0 v0 r} (hp : Z1 list0 = some r) (f0 : SlC (hcell h) eL v0 list0) : zR ZbY #[v0] h ψ (.int .i64 r) := by
 apply Zw8
 rw [Z1] at hp
 have st := S.start hψ
 refine vL f0 st.le ?_
 exact tZ
theorem ZuO {a0 v0 r} (hp : ZfU a0 = some r) (f0 : SlC (hcell h) eL v0 a0) : zR ZlR #[v0] h ψ (.bool r) := by
 apply Zqv
 rw [ZfU] at hp
 have st := S.start hψ
 refine cl0 hp st (fun s _ _ hx => ZdL s.fle hx (f0.mono st.le)) fun r8 h_2 st hp => ⟨_, rfl, ?_⟩
 refine ⟨fun h_3 => S ψ h h_3 [] ∧ Zhq a0 = some r, ?_, ?_⟩
 ·refine cl0 hp st (fun s_3 _ _ hx_6 => Zaj s_3.fle hx_6) fun r10 h_8 st hp => ⟨_, rfl, ?_⟩
  refine brQ hp (fun hp => tZ) fun hp => ?_
  refine cl0 hp st (fun s_4 _ _ hx_7 => Zot s_4.fle hx_7 (f0.mono st.le)) fun r15 h_9 st hp => ⟨_, rfl, ?_⟩
  exact brQ hp (fun hp => tZ) fun hp => tZ
 ·rintro _ h_3 ⟨st, hp⟩
  rw [Zhq] at hp
  refine vL f0 st.le ?_
  refine lp1 hp (nlS st) fun m y20 h_4 a st hp hs => ?_
  rw [ZeM] at hp
  refine brR hp (fun hp => tZ) fun hp => ?_
  refine vL f0 st.le ?_
  have st := st.nilO (E := eI)
  obtain ⟨n_3, hn_2⟩ := Zy hp
  refine ⟨fun n_2 v5 y25 h_5 => ∃ column5 : List Int, S ψ h h_5 [.it oL [v5] column5] ∧ loopN (ZcG a0 y20) n_2 (column5, y25) = some a, ⟨n_3, _, pk st [0], hn_2⟩, ?_⟩
  rintro n_2 _ v5 y25 h_5 ⟨column5, st, hn_2⟩
  obtain ⟨m_2, a_2, rfl, hp, hs_2⟩ := Zx hn_2
  rw [ZcG] at hp
  refine brQ hp (fun hp => ?_) fun hp => ?_
  ·refine ixV f0 st.le hp fun e31 u32 f hp => ?_
   refine ixI (f.mono st.le) hp fun e34 hp => ?_
   obtain ⟨l37, hx_4, hp⟩ := obind hp
   refine Zag st 0 rfl (fun _ => ⟨rfl, rfl⟩) rfl rfl hx_4 fun v37 h_6 st => ?_
   dsimp only [List.set] at st
   obtain rfl := oI hp
   exact ⟨m_2, ltS, _, pk st [0], hs_2⟩
  ·refine cl0 hp st (fun s_2 _ _ hx_5 => ZnI s_2.fle hx_5 (st.rdL 0 rfl (Za _))) fun r40 h_7 st hp => ⟨_, rfl, ?_⟩
   refine brQ hp (fun hp => ?_) fun hp => ?_
   ·obtain rfl := oI hp
    obtain rfl := oI hs_2
    obtain rfl := oI hs
    exact ⟨rfl, nlS st⟩
   ·obtain rfl := oI hp
    obtain rfl := oI hs_2
    exact ⟨m, ltS, nlS st, hs⟩
theorem ZtZ {set0 v0 n1 r} (hp : ZeU set0 n1 = some r) (f0 : SlC (hcell h) eI v0 set0) : zR Zjh #[v0, .int .i64 n1] h ψ (.bool r) := by
 apply Zt0
 rw [ZeU] at hp
 have st := S.start hψ
 refine vL f0 st.le ?_
 refine lp2 hp (nlS st) fun m last5 y10 h_2 a st hp hs => ?_
 rw [Zbv] at hp
 refine brQ hp (fun hp => ?_) fun hp => ?_
 ·refine ixI (f0.mono st.le) hp fun e12 hp => ?_
  refine brQ hp (fun hp => tZ) fun hp => ?_
  exact brQ hp (fun hp => tZ) fun hp => tZ
 ·refine cl0 hp st (fun s _ _ hx_2 => Zaj s.fle hx_2) fun r25 h_3 st hp => ⟨_, rfl, ?_⟩
  exact tZ
end
end Go.Proofs.YtapkemdomnkccaaGreat
