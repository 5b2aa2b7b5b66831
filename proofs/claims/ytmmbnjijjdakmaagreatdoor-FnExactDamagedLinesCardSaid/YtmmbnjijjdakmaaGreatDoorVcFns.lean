import Derived.Test.YtmmbnjijjdakmaaGreatDoorVcFnsA
import Derived.Test.YtmmbnjijjdakmaaGreatDoorVcSoundE
import Derived.Test.YtmmbnjijjdakmaaGreatDoorPuBase
import Derived.Test.YtmmbnjijjdakmaaGreatDoorProg
import Derived.KernelRfl
namespace Go.Proofs.YtmmbnjijjdakmaaGreatDoor
set_option linter.unusedSimpArgs false
open Go Go.Vc Go.Proofs
set_option linter.unusedVariables false
set_option maxRecDepth 100000
variable {R:Value→Heap→Prop} {h:Heap}
theorem ZyF {v0:Value} (hv:
 zI ZcJ #[v0] h fun x8 h_2=>
 ∃ J:Heap→Prop,(
 zB Z9 #[zi x8,zi 1,zi 10] h_2 fun b10 h_3=>
 bif !b10 then
 R (.bool false) h_3
 else
 zB Zjc #[zi x8,v0] h_3 fun b15 h_4=>
 bif !b15 then
 R (.bool false) h_4
 else
 J h_4
 )∧∀ (_:Env) (h_5:Heap),J h_5 →
 vLen v0 fun n19=>
 lq1 (0:Int) h_5 fun J_2 n x20 h_6=>
 bif decide (x20<(n19:Int)) then
 vLen v0 fun n24=>
 lq2 ((.slice none 0 0):Value) (0:Int) h_6 fun J_3 n_3 v5 x25 h_7=>
 bif decide (x25<(n24:Int)) then
 vIdx v0 x25 1 fun p31=>
 ldV h_7 p31 fun v32=>
 vIdx v32 x20 1 fun p34=>
 ldI .i64 h_7 p34 fun x35=>
 vNewS h_7 (.cells #[zi x35] Zh) 1 fun v36 h_8=>
 vAppend 1 8 [zi 0] Zh v5 v36 h_8 fun v37 h_9=>
 ag2 J_3 n_3 v37 (zw (x25+1)) h_9
 else
 zB Zjw #[v5] h_7 fun b40 h_10=>
 bif !b40 then
 R (.bool false) h_10
 else
 ag1 J_2 n (zw (x20+1)) h_10
 else
 R (.bool true) h_6):CallsH P Zng #[v0] h R:=zv ⟨[(5,[(20,.i .i64)]),(9,[(5,.v),(25,.i .i64)])],[(4,[])],[]⟩ Tryz.func84 hv
theorem ZsN {v0:Value} {x1:Int} (hv:
 vLen v0 fun n9=>
 lq2 ((-1):Int) (0:Int) h fun J n x5 x10 h_2=>
 bif decide (x10<(n9:Int)) then
 vIdx v0 x10 1 fun p12=>
 ldI .i64 h_2 p12 fun x13=>
 bif decide (x13≤x5) then
 R (.bool false) h_2
 else
 bif decide (x13≥x1) then
 R (.bool false) h_2
 else
 ag2 J n x13 (zw (x10+1)) h_2
 else
 zB Z9 #[zi x1,zi 0,zi 32] h_2 fun b25 h_3=>
 R (.bool b25) h_3):CallsH P ZmV #[v0,zi x1] h R:=zv ⟨[(3,[(5,.i .i64),(10,.i .i64)])],[],[]⟩ Tryz.func278 hv
theorem Zs8 {v0:Value} {x1:Int} (hv:
 vLen v0 fun n6=>
 bif decide ((n6:Int)>0) then
 zB ZmV #[v0,zi x1] h fun b11 h_2=>
 R (.bool b11) h_2
 else
 R (.bool false) h):CallsH P ZkI #[v0,zi x1] h R:=zv ⟨[],[],[]⟩ Tryz.func238 hv
theorem ZzB {v0:Value} {p1:Addr} (hv:
 ldI .i64 h p1 fun x5=>
 zB ZkI #[v0,zi x5] h fun b6 h_2=>
 R (.bool (!b6)) h_2):CallsH P Zl0 #[v0,.pointer (some p1)] h R:=zv ⟨[],[],[]⟩ Tryz.func237 hv
theorem Zzh {v0:Value} {x1:Int} (hv:
 vNew h (.cells #[zi x1] Zh) fun p3 h_2=>
 ldI .i64 h_2 p3 fun x5=>
 zB Z9 #[zi x5,zi 1,zi 32] h_2 fun b6 h_3=>
 bif b6 then
 zB ZgY #[v0,.func (.func Zl0) #[] #[.pointer (some p3)]] h_3 fun b10 h_4=>
 R (.bool (!b10)) h_4
 else
 R (.bool false) h_3):CallsH P Zl3 #[v0,zi x1] h R:=zv ⟨[],[],[]⟩ Tryz.func159 hv
theorem ZvH {v0:Value} {g1:Nat} {cap1:List Value} (hv:
 vLen v0 fun n7=>
 lq1 (zw ((n7:Int)-1)) h fun J n x5 h_2=>
 bif decide (x5>0) then
 vIdx v0 x5 1 fun p16=>
 ldV h_2 p16 fun v17=>
 vIdx v0 (zw (x5-1)) 1 fun p21=>
 ldV h_2 p21 fun v22=>
 vOkf ctx g1 fun _=>
 CallsH P g1 (([v17,v22]:List Value)++cap1).toArray h_2 fun r23 h_3=>∃ x23,r23=zi x23 ∧
 bif decide (x23<0) then
 R (.bool false) h_3
 else
 ag1 J n (zw (x5-1)) h_3
 else
 R (.bool true) h_2):CallsH P Zke #[v0,.func (.func g1) #[] cap1.toArray] h R:=zv ⟨[(2,[(5,.i .i64)])],[],[]⟩ Tryz.func160 hv
theorem ZyC {x0:Int} (hv:
 R (.bool (x0 !=x0)) h):CallsH P Zcs #[zi x0] h R:=zv ⟨[],[],[]⟩ Tryz.func315 hv
theorem Zy2 {x0 x1:Int} (hv:
 zB Zcs #[zi x0] h fun b8 h_2=>
 zB Zcs #[zi x1] h_2 fun b10 h_3=>
 bif b8 then
 bif b10 then
 R (zi 0) h_3
 else
 R (zi (-1)) h_3
 else
 bif b10 then
 R (zi 1) h_3
 else
 bif decide (x0<x1) then
 R (zi (-1)) h_3
 else
 bif decide (x0>x1) then
 R (zi 1) h_3
 else
 R (zi 0) h_3):CallsH P ZcQ #[zi x0,zi x1] h R:=zv ⟨[],[],[]⟩ Tryz.func239 hv
theorem Zti {v0 v1:Value} (hv:
 vLen v0 fun n10=>
 lq1 (0:Int) h fun J n x11 h_2=>
 bif decide (x11<(n10:Int)) then
 vIdx v0 x11 1 fun p14=>
 ldI .i64 h_2 p14 fun x15=>
 vLen v1 fun n18=>
 bif decide (x11≥(n18:Int)) then
 R (zi 1) h_2
 else
 vIdx v1 x11 1 fun p22=>
 ldI .i64 h_2 p22 fun x23=>
 zI ZcQ #[zi x15,zi x23] h_2 fun x26 h_3=>
 bif x26 !=0 then
 R (zi x26) h_3
 else
 ag1 J n (zw (x11+1)) h_3
 else
 vLen v0 fun n32=>
 vLen v1 fun n34=>
 bif decide ((n32:Int)<(n34:Int)) then
 R (zi (-1)) h_2
 else
 R (zi 0) h_2):CallsH P ZcC #[v0,v1] h R:=zv ⟨[(2,[(11,.i .i64)])],[],[]⟩ Tryz.func161 hv
theorem ZyO {x0_0:Int} {v0_1:Value} (hv:
 vNew h (.cells #[zi x0_0,v0_1] Zmu) fun p1 h_2=>
 ldV h_2 (p1.add 1) fun v4=>
 ldI .i64 h_2 p1 fun x6=>
 zB Zl3 #[v4,zi x6] h_2 fun b7 h_3=>
 bif b7 then
 ldV h_3 (p1.add 1) fun v10=>
 vLen v10 fun n11=>
 bif decide ((n11:Int)≤128) then
 ldV h_3 (p1.add 1) fun v16=>
 zB Zke #[v16,.func (.func ZcC) #[] #[]] h_3 fun b17 h_4=>
 R (.bool b17) h_4
 else
 R (.bool false) h_3
 else
 R (.bool false) h_3):CallsH P Znt #[.agg #[zi x0_0,v0_1]] h R:=zv ⟨[],[],[]⟩ Tryz.func85 hv
theorem ZwP {x0_0 x0_1:Int} {v0_2:Value} (hv:
 vNew h (.cells #[zi x0_0,zi x0_1,v0_2] Zas) fun p1 h_2=>
 vNew h_2 (.cells #[zi 0,.slice none 0 0] Zmu) fun p2 h_3=>
 ∃ B:Nat→Prop,
 ldV h_3 (p1.add 2) fun v6=>
 zV Zcy #[v6] h_3 fun v7 h_4=>
 ExtBut B h_3 h_4 ∧
 ldI .i64 (hmask B h_3) (p1.add 1) fun x4=>
 vOne v7 fun _=>
 vStore1 h_4 p2 (zi x4) fun h_5=>
 vStore1 h_5 (p2.add 1) v7 fun h_6=>
 ldI .i64 h_6 p2 fun xres0_0=>
 ldV h_6 (p2.add 1) fun vres0_1=>
 R (.agg #[zi xres0_0,vres0_1]) h_6):CallsH P Zn9 #[.agg #[zi x0_0,zi x0_1,v0_2]] h R:=zv ⟨[],[],[]⟩ Tryz.func86 hv
theorem Zzf {x0:Int} (hv:
 bif x0 !=1 then
 R (.bool (x0 !=(-1))) h
 else
 R (.bool false) h):CallsH P Zlk #[zi x0] h R:=zv ⟨[],[],[]⟩ Tryz.func162 hv
theorem ZAr {v0:Value} (hv:
 zI ZcJ #[v0] h fun x11 h_2=>
 vLen v0 fun n13=>
 lq1 (0:Int) h_2 fun J n x14 h_3=>
 bif decide (x14<(n13:Int)) then
 vIdx v0 x14 1 fun p17=>
 ldV h_3 p17 fun v18=>
 ∃ J_2:Heap→Prop,(
 zI ZaJ #[v18] h_3 fun x20 h_4=>
 bif x20 !=x11 then
 R (.bool false) h_4
 else
 zB ZcB #[v18,.func (.func Zlk) #[] #[]] h_4 fun b25 h_5=>
 bif b25 then
 R (.bool false) h_5
 else
 J_2 h_5
 )∧∀ (_:Env) (h_6:Heap),J_2 h_6 →
 vSliceS v0 1 none (some (zi x14)) none fun v29=>
 vLen v29 fun n30=>
 lq1 (0:Int) h_6 fun J_3 n_3 x31 h_7=>
 bif decide (x31<(n30:Int)) then
 vIdx v29 x31 1 fun p33=>
 ldV h_7 p33 fun v34=>
 vLen v18 fun n36=>
 lq2 (0:Int) (0:Int) h_7 fun J_4 n_5 x8 x37 h_8=>
 bif decide (x37<(n36:Int)) then
 vIdx v18 x37 1 fun p43=>
 ldI .i64 h_8 p43 fun x44=>
 vIdx v34 x37 1 fun p47=>
 ldI .i64 h_8 p47 fun x48=>
 ag2 J_4 n_5 (zw (x8+(zw (x44*x48)))) (zw (x37+1)) h_8
 else
 bif x8 !=0 then
 R (.bool false) h_8
 else
 ag1 J_3 n_3 (zw (x31+1)) h_8
 else
 ag1 J n (zw (x14+1)) h_7
 else
 zB Z9 #[zi x11,zi 1,zi 32] h_3 fun b57 h_9=>
 R (.bool b57) h_9):CallsH P Zl6 #[v0] h R:=zv ⟨[(3,[(14,.i .i64)]),(8,[(31,.i .i64)]),(12,[(8,.i .i64),(37,.i .i64)])],[(7,[])],[]⟩ Tryz.func87 hv
theorem ZxQ {x0 x1:Int} (hv:
 zB Z9 #[zi x0,zi 2,zi 16] h fun b6 h_2=>
 bif b6 then
 zB Z9 #[zi x1,zi 1,zi 8] h_2 fun b9 h_3=>
 R (.bool b9) h_3
 else
 R (.bool false) h_2):CallsH P Zld #[zi x0,zi x1] h R:=zv ⟨[],[],[]⟩ Tryz.func163 hv
theorem ZtA {x0:Int} {p1:Addr} (hv:
 ldI .i64 h p1 fun x6=>
 zB Z9 #[zi x0,zi 0,zi (zw (x6-1))] h fun b8 h_2=>
 R (.bool (!b8)) h_2):CallsH P Zmq #[zi x0,.pointer (some p1)] h R:=zv ⟨[],[],[]⟩ Tryz.func164 hv
theorem Zu9 {x0_0 x0_1:Int} {v0_2:Value} (hv:
 vNew h (.cells #[zi x0_0,zi x0_1,v0_2] Zc3) fun p1 h_2=>
 ∃ J:Heap→Prop,(
 ldI .i64 h_2 p1 fun x6=>
 ldI .i64 h_2 (p1.add 1) fun x8=>
 zB Zld #[zi x6,zi x8] h_2 fun b9 h_3=>
 bif !b9 then
 R (.bool false) h_3
 else
 ldV h_3 (p1.add 2) fun v13=>
 vLen v13 fun n14=>
 bif decide ((n14:Int)>256) then
 R (.bool false) h_3
 else
 J h_3
 )∧∀ (_:Env) (h_4:Heap),J h_4 →
 ldV h_4 (p1.add 2) fun v18=>
 vLen v18 fun n19=>
 lq1 (0:Int) h_4 fun J_2 n x20 h_5=>
 bif decide (x20<(n19:Int)) then
 vIdx v18 x20 1 fun p22=>
 ldV h_5 p22 fun v23=>
 ∃ B:Nat→Prop,
 zI ZaJ #[v23] h_5 fun x25 h_6=>
 ExtBut B h_5 h_6 ∧
 ldI .i64 (hmask B h_5) (p1.add 1) fun x27=>
 bif x25 !=x27 then
 R (.bool false) h_6
 else
 zB ZcB #[v23,.func (.func Zmq) #[] #[.pointer (some p1)]] h_6 fun b32 h_7=>
 bif b32 then
 R (.bool false) h_7
 else
 ag1 J_2 n (zw (x20+1)) h_7
 else
 R (.bool true) h_5):CallsH P ZlS #[.agg #[zi x0_0,zi x0_1,v0_2]] h R:=zv ⟨[(4,[(20,.i .i64)])],[(3,[])],[]⟩ Tryz.func88 hv
theorem ZtU {x0 x1 x2:Int} (hv:
 lq2 x1 (1:Int) h fun J n x1_2 x7 h_2=>
 ∃ J_2:Heap→Prop,(
 bif decide (x1_2>0) then
 bif decide (x7≤x2) then
 J_2 h_2
 else
 R (zi x7) h_2
 else
 R (zi x7) h_2
 )∧∀ (_:Env) (h_3:Heap),J_2 h_3 →
 ag2 J n (zw (x1_2-1)) (zw (x7*x0)) h_3):CallsH P ZeG #[zi x0,zi x1,zi x2] h R:=zv ⟨[(2,[(1,.i .i64),(7,.i .i64)])],[(4,[])],[]⟩ Tryz.func166 hv
theorem ZtE {x0_0 x0_1:Int} {v0_2:Value} (hv:
 vNew h (.cells #[zi x0_0,zi x0_1,v0_2] ZbO) fun p1 h_2=>
 ldI .i64 h_2 p1 fun x4=>
 ldI .i64 h_2 (p1.add 1) fun x6=>
 zI ZeG #[zi x4,zi x6,zi 64] h_2 fun x7 h_3=>
 R (zi x7) h_3):CallsH P ZgJ #[.agg #[zi x0_0,zi x0_1,v0_2]] h R:=zv ⟨[],[],[]⟩ Tryz.func167 hv
theorem ZsS {x0 x1 x2:Int} (hv:
 vMake 8 [zi 0] Zh x2 x2 h fun v10 h_2=>
 vLen v10 fun n12=>
 lq2 x0 (0:Int) h_2 fun J n x0_2 x13 h_3=>
 bif decide (x13<(n12:Int)) then
 x1≠0 ∧
 vIdx v10 x13 1 fun p21=>
 vStore1 h_3 p21 (zi (Int.tmod x0_2 x1)) fun h_4=>
 x1≠0 ∧
 ag2 J n (zw (Int.tdiv x0_2 x1)) (zw (x13+1)) h_4
 else
 R v10 h_3):CallsH P Zcc #[zi x0,zi x1,zi x2] h R:=zv ⟨[(3,[(0,.i .i64),(13,.i .i64)])],[],[]⟩ Tryz.func252 hv
theorem ZzN {v0 v1:Value} {x2:Int} (hv:
 zV ZhS #[v0] h fun v15 h_2=>
 vLen v1 fun n17=>
 vLen v15 fun n20=>
 lq1 (zw ((n20:Int)-1)) h_2 fun J n x9 h_3=>
 bif decide (x9≥(zw ((n17:Int)-1))) then
 vIdx v15 x9 1 fun p29=>
 ldI .i64 h_3 p29 fun x30=>
 vLen v1 fun n32=>
 lq1 (0:Int) h_3 fun J_2 n_3 x33 h_4=>
 bif decide (x33<(n32:Int)) then
 vIdx v1 x33 1 fun p36=>
 ldI .i64 h_4 p36 fun x37=>
 vIdx v15 (zw ((zw (x9-(zw ((n17:Int)-1))))+x33)) 1 fun p47=>
 ldI .i64 h_4 p47 fun x48=>
 x2≠0 ∧
 x2≠0 ∧
 vIdx v15 (zw ((zw (x9-(zw ((n17:Int)-1))))+x33)) 1 fun p59=>
 vStore1 h_4 p59 (zi (Int.tmod (zw ((Int.tmod (zw (x48-(zw (x30*x37)))) x2)+x2)) x2)) fun h_5=>
 ag1 J_2 n_3 (zw (x33+1)) h_5
 else
 ag1 J n (zw (x9-1)) h_4
 else
 vLen v15 fun n64=>
 vSliceS v15 1 none (some (zi (if (n64:Int)<(zw ((n17:Int)-1)) then (n64:Int) else zw ((n17:Int)-1)))) none fun v66=>
 R v66 h_3):CallsH P ZiU #[v0,v1,zi x2] h R:=zv ⟨[(4,[(9,.i .i64)]),(8,[(33,.i .i64)])],[],[]⟩ Tryz.func319 hv
theorem ZyY {x0:Int} (hv:
 R (.bool (x0 !=0)) h):CallsH P Zmf #[zi x0] h R:=zv ⟨[],[],[]⟩ Tryz.func376 hv
theorem Zza {v0:Value} (hv:
 zB ZcB #[v0,.func (.func Zmf) #[] #[]] h fun b4 h_2=>
 R (.bool (!b4)) h_2):CallsH P Zmg #[v0] h R:=zv ⟨[],[],[]⟩ Tryz.func321 hv
theorem Zyv {v0:Value} {x1:Int} (hv:
 zI ZaJ #[v0] h fun x9 h_2=>
 lq1 (1:Int) h_2 fun J n x6 h_3=>
 bif decide ((zw (2*x6):Int)≤(zw (x9-1))) then
 lq1 (0:Int) h_3 fun J_2 n_3 x7 h_4=>
 zI ZeG #[zi x1,zi x6,zi 64] h_4 fun x20 h_5=>
 bif decide (x7<x20) then
 zV Zcc #[zi x7,zi x1,zi x6] h_5 fun v28 h_6=>
 vNewS h_6 (.cells #[zi 1] Zh) 1 fun v29 h_7=>
 vAppend 1 8 [zi 0] Zh v28 v29 h_7 fun v30 h_8=>
 zV ZiU #[v0,v30,zi x1] h_8 fun v32 h_9=>
 zB Zmg #[v32] h_9 fun b33 h_10=>
 bif b33 then
 R (.bool false) h_10
 else
 ag1 J_2 n_3 (zw (x7+1)) h_10
 else
 ag1 J n (zw (x6+1)) h_5
 else
 R (.bool true) h_3):CallsH P Zjf #[v0,zi x1] h R:=zv ⟨[(3,[(6,.i .i64)]),(6,[(7,.i .i64)])],[],[]⟩ Tryz.func251 hv
theorem Zzn {x0:Int} (hv:
 zB Z9 #[zi x0,zi 1,zi 1000000] h fun b6 h_2=>
 bif !b6 then
 R (.slice none 0 0) h_2
 else
 lq3 x0 ((.slice none 0 0):Value) (2:Int) h_2 fun J n x0_2 v3 x4 h_3=>
 bif decide ((zw (x4*x4):Int)≤x0_2) then
 lq2 x0_2 v3 h_3 fun J_2 n_3 x0_3 v3_2 h_4=>
 x4≠0 ∧
 bif (Int.tmod x0_3 x4:Int)==0 then
 vNewS h_4 (.cells #[zi x4] Zh) 1 fun v21 h_5=>
 vAppend 1 8 [zi 0] Zh v3_2 v21 h_5 fun v22 h_6=>
 x4≠0 ∧
 ag2 J_2 n_3 (zw (Int.tdiv x0_3 x4)) v22 h_6
 else
 ag3 J n x0_3 v3_2 (zw (x4+1)) h_4
 else
 bif decide (x0_2>1) then
 vNewS h_3 (.cells #[zi x0_2] Zh) 1 fun v30 h_7=>
 vAppend 1 8 [zi 0] Zh v3 v30 h_7 fun v31 h_8=>
 R v31 h_8
 else
 R v3 h_3):CallsH P Zjo #[zi x0] h R:=zv ⟨[(5,[(0,.i .i64),(3,.v),(4,.i .i64)]),(7,[(0,.i .i64),(3,.v)])],[],[]⟩ Tryz.func320 hv
theorem ZuS {x0:Int} (hv:
 zV Zjo #[zi x0] h fun v4 h_2=>
 vLen v4 fun n5=>
 R (.bool ((n5:Int)==1)) h_2):CallsH P ZnD #[zi x0] h R:=zv ⟨[],[],[]⟩ Tryz.func316 hv
theorem ZBn {x0_0 x0_1:Int} {v0_2:Value} (hv:
 vNew h (.cells #[zi x0_0,zi x0_1,v0_2] ZbO) fun p1 h_2=>
 ∃ J:Heap→Prop,(
 ldI .i64 h_2 p1 fun x6=>
 zB ZnD #[zi x6] h_2 fun b7 h_3=>
 bif !b7 then
 R (.bool false) h_3
 else
 ldI .i64 h_3 (p1.add 1) fun x11=>
 bif decide (x11<1) then
 R (.bool false) h_3
 else
 ldI .i64 h_3 p1 fun x16=>
 ldI .i64 h_3 (p1.add 1) fun x18=>
 zI ZeG #[zi x16,zi x18,zi 64] h_3 fun x19 h_4=>
 bif decide (x19>64) then
 R (.bool false) h_4
 else
 J h_4
 )∧∀ (_:Env) (h_5:Heap),J h_5 →
 ∃ J_2:Heap→Prop,(
 ∃ B:Nat→Prop,
 ldV h_5 (p1.add 2) fun v23=>
 zI ZaJ #[v23] h_5 fun x24 h_6=>
 ExtBut B h_5 h_6 ∧
 ldI .i64 (hmask B h_5) (p1.add 1) fun x26=>
 bif x24 !=(zw (x26+1)) then
 R (.bool false) h_6
 else
 ldV h_6 (p1.add 2) fun v31=>
 ldI .i64 h_6 (p1.add 1) fun x33=>
 vIdx v31 x33 1 fun p34=>
 ldI .i64 h_6 p34 fun x35=>
 bif x35 !=1 then
 R (.bool false) h_6
 else
 J_2 h_6
 )∧∀ (_:Env) (h_7:Heap),J_2 h_7 →
 ldV h_7 (p1.add 2) fun v39=>
 vLen v39 fun n40=>
 lq1 (0:Int) h_7 fun J_3 n x41 h_8=>
 bif decide (x41<(n40:Int)) then
 vIdx v39 x41 1 fun p43=>
 ldI .i64 h_8 p43 fun x44=>
 ldI .i64 h_8 p1 fun x47=>
 zB Z9 #[zi x44,zi 0,zi (zw (x47-1))] h_8 fun b49 h_9=>
 bif !b49 then
 R (.bool false) h_9
 else
 ag1 J_3 n (zw (x41+1)) h_9
 else
 ldV h_8 (p1.add 2) fun v53=>
 ldI .i64 h_8 p1 fun x55=>
 zB Zjf #[v53,zi x55] h_8 fun b56 h_10=>
 R (.bool b56) h_10):CallsH P ZlE #[.agg #[zi x0_0,zi x0_1,v0_2]] h R:=zv ⟨[(6,[(41,.i .i64)])],[(3,[]),(5,[])],[]⟩ Tryz.func240 hv
theorem Zv3 {x0:Int} {p1:Addr} (hv:
 ldI .i64 h p1 fun x5=>
 zB Z9 #[zi x0,zi 0,zi (zw (x5-1))] h fun b7 h_2=>
 R (.bool (!b7)) h_2):CallsH P Zn6 #[zi x0,.pointer (some p1)] h R:=zv ⟨[],[],[]⟩ Tryz.func317 hv
theorem Zz2 {x0:Int} {v1:Value} (hv:
 vNew h (.cells #[zi x0] Zh) fun p2 h_2=>
 zB ZcB #[v1,.func (.func Zn6) #[] #[.pointer (some p2)]] h_2 fun b7 h_3=>
 R (.bool (!b7)) h_3):CallsH P ZkR #[zi x0,v1] h R:=zv ⟨[],[],[]⟩ Tryz.func242 hv
theorem Zvb {v0:Value} {p1 p2:Addr} (hv:
 vLen v0 fun n6=>
 ldV h p1 fun v7=>
 vIdx v7 0 1 fun p8=>
 ldV h p8 fun v9=>
 vLen v9 fun n10=>
 bif (n6:Int) !=(n10:Int) then
 R (.bool true) h
 else
 ldI .i64 h p2 fun x13=>
 zB ZkR #[zi x13,v0] h fun b15 h_2=>
 R (.bool (!b15)) h_2):CallsH P Zne #[v0,.pointer (some p1),.pointer (some p2)] h R:=zv ⟨[],[],[]⟩ Tryz.func241 hv
theorem Zt7 {x0_0 x0_1:Int} {v0_2 v1:Value} (hv:
 vNew h (.cells #[zi x0_0,zi x0_1,v0_2] ZbO) fun p2 h_2=>
 vOne v1 fun _=>
 vNew h_2 (.cells #[v1] ZtG) fun p3 h_3=>
 ∃ J:Heap→Prop,(
 ldI .i64 h_3 p2 fun x6_0=>
 ldI .i64 h_3 (p2.add 1) fun x6_1=>
 ldV h_3 (p2.add 2) fun v6_2=>
 zB ZlE #[.agg #[zi x6_0,zi x6_1,v6_2]] h_3 fun b7 h_4=>
 bif !b7 then
 R (.bool false) h_4
 else
 ldV h_4 p3 fun v10=>
 zI ZcJ #[v10] h_4 fun x11 h_5=>
 zB Z9 #[zi x11,zi 1,zi 32] h_5 fun b12 h_6=>
 bif !b12 then
 R (.bool false) h_6
 else
 ldV h_6 p3 fun v16=>
 vIdx v16 0 1 fun p17=>
 ldV h_6 p17 fun v18=>
 zI ZaJ #[v18] h_6 fun x19 h_7=>
 zB Z9 #[zi x19,zi 1,zi 32] h_7 fun b20 h_8=>
 bif !b20 then
 R (.bool false) h_8
 else
 J h_8
 )∧∀ (_:Env) (h_9:Heap),J h_9 →
 ldI .i64 h_9 p2 fun x23_0=>
 ldI .i64 h_9 (p2.add 1) fun x23_1=>
 ldV h_9 (p2.add 2) fun v23_2=>
 zI ZgJ #[.agg #[zi x23_0,zi x23_1,v23_2]] h_9 fun x24 h_10=>
 vNew h_10 (.cells #[zi 0] Zh) fun p5 h_11=>
 vStore1 h_11 p5 (zi x24) fun h_12=>
 ldV h_12 p3 fun v25=>
 zB ZgY #[v25,.func (.func Zne) #[] #[.pointer (some p3),.pointer (some p5)]] h_12 fun b27 h_13=>
 R (.bool (!b27)) h_13):CallsH P Znk #[.agg #[zi x0_0,zi x0_1,v0_2],v1] h R:=zv ⟨[],[(3,[])],[]⟩ Tryz.func165 hv
theorem Zvo {v0:Value} {x1:Int} (hv:
 vLen v0 fun n8=>
 lq2 (0:Int) (zw ((n8:Int)-1)) h fun J n x5 x6 h_2=>
 bif decide (x6≥0) then
 vIdx v0 x6 1 fun p19=>
 ldI .i64 h_2 p19 fun x20=>
 ag2 J n (zw ((zw (x5*x1))+x20)) (zw (x6-1)) h_2
 else
 R (zi x5) h_2):CallsH P Zib #[v0,zi x1] h R:=zv ⟨[(3,[(5,.i .i64),(6,.i .i64)])],[],[]⟩ Tryz.func318 hv
theorem ZAQ {x0_0 x0_1:Int} {v0_2:Value} {x1 x2 x3:Int} (hv:
 vNew h (.cells #[zi x0_0,zi x0_1,v0_2] ZbO) fun p4 h_2=>
 ∃ B:Nat→Prop,
 ldI .i64 h_2 p4 fun x14=>
 ldI .i64 h_2 (p4.add 1) fun x16=>
 zV Zcc #[zi x1,zi x14,zi x16] h_2 fun v17 h_3=>
 ExtBut B h_2 h_3 ∧
 ldI .i64 (hmask B h_2) p4 fun x20=>
 ldI .i64 (hmask B h_2) (p4.add 1) fun x22=>
 zV Zcc #[zi x2,zi x20,zi x22] h_3 fun v23 h_4=>
 vLen v17 fun n25=>
 lq1 (0:Int) h_4 fun J n x26 h_5=>
 bif decide (x26<(n25:Int)) then
 vIdx v17 x26 1 fun p33=>
 ldI .i64 h_5 p33 fun x34=>
 vIdx v23 x26 1 fun p38=>
 ldI .i64 h_5 p38 fun x39=>
 ldI .i64 h_5 p4 fun x43=>
 ldI .i64 h_5 p4 fun x46=>
 x46≠0 ∧
 vIdx v17 x26 1 fun p48=>
 vStore1 h_5 p48 (zi (Int.tmod (zw ((zw (x34+(zw (x3*x39))))+x43)) x46)) fun h_6=>
 ag1 J n (zw (x26+1)) h_6
 else
 ldI .i64 h_5 p4 fun x52=>
 zI Zib #[v17,zi x52] h_5 fun x53 h_7=>
 R (zi x53) h_7):CallsH P Zia #[.agg #[zi x0_0,zi x0_1,v0_2],zi x1,zi x2,zi x3] h R:=zv ⟨[(3,[(26,.i .i64)])],[],[]⟩ Tryz.func243 hv
theorem ZAc {x0_0 x0_1:Int} {v0_2:Value} {x1 x2:Int} (hv:
 vNew h (.cells #[zi x0_0,zi x0_1,v0_2] ZbO) fun p3 h_2=>
 ∃ B:Nat→Prop,
 ldI .i64 h_2 p3 fun x14=>
 ldI .i64 h_2 (p3.add 1) fun x16=>
 zV Zcc #[zi x1,zi x14,zi x16] h_2 fun v17 h_3=>
 ExtBut B h_2 h_3 ∧
 ldI .i64 (hmask B h_2) p3 fun x20=>
 ldI .i64 (hmask B h_2) (p3.add 1) fun x22=>
 zV Zcc #[zi x2,zi x20,zi x22] h_3 fun v23 h_4=>
 ldI .i64 h_4 (p3.add 1) fun x25=>
 vMake 8 [zi 0] Zh (zw (2*x25)) (zw (2*x25)) h_4 fun v27 h_5=>
 vLen v17 fun n29=>
 lq1 (0:Int) h_5 fun J n x30 h_6=>
 bif decide (x30<(n29:Int)) then
 vLen v23 fun n34=>
 lq1 (0:Int) h_6 fun J_2 n_3 x35 h_7=>
 bif decide (x35<(n34:Int)) then
 vIdx v27 (zw (x30+x35)) 1 fun p46=>
 ldI .i64 h_7 p46 fun x47=>
 vIdx v17 x30 1 fun p50=>
 ldI .i64 h_7 p50 fun x51=>
 vIdx v23 x35 1 fun p54=>
 ldI .i64 h_7 p54 fun x55=>
 ldI .i64 h_7 p3 fun x59=>
 x59≠0 ∧
 vIdx v27 (zw (x30+x35)) 1 fun p61=>
 vStore1 h_7 p61 (zi (Int.tmod (zw (x47+(zw (x51*x55)))) x59)) fun h_8=>
 ag1 J_2 n_3 (zw (x35+1)) h_8
 else
 ag1 J n (zw (x30+1)) h_7
 else
 ∃ B_2:Nat→Prop,
 ldV h_6 (p3.add 2) fun v66=>
 ldI .i64 h_6 p3 fun x68=>
 zV ZiU #[v27,v66,zi x68] h_6 fun v69 h_9=>
 ExtBut B_2 h_6 h_9 ∧
 ldI .i64 (hmask B_2 h_6) p3 fun x71=>
 zI Zib #[v69,zi x71] h_9 fun x72 h_10=>
 R (zi x72) h_10):CallsH P ZkS #[.agg #[zi x0_0,zi x0_1,v0_2],zi x1,zi x2] h R:=zv ⟨[(4,[(30,.i .i64)]),(7,[(35,.i .i64)])],[],[]⟩ Tryz.func244 hv
theorem Zxe {x0_0 x0_1:Int} {v0_2:Value} (hv:
 vNew h (.cells #[zi x0_0,zi x0_1,v0_2] ZbO) fun p1 h_2=>
 vNew h_2 (.cells #[zi 0,.slice none 0 0,.slice none 0 0,.slice none 0 0,.slice none 0 0] Zj1) fun p2 h_3=>
 ldI .i64 h_3 p1 fun x9_0=>
 ldI .i64 h_3 (p1.add 1) fun x9_1=>
 ldV h_3 (p1.add 2) fun v9_2=>
 zI ZgJ #[.agg #[zi x9_0,zi x9_1,v9_2]] h_3 fun x10 h_4=>
 vNew h_4 (.cells #[zi 0,.slice none 0 0,.slice none 0 0,.slice none 0 0,.slice none 0 0] Zj1) fun p3 h_5=>
 vStore1 h_5 p3 (zi x10) fun h_6=>
 vStore1 h_6 (p3.add 1) (.slice none 0 0) fun h_7=>
 vStore1 h_7 (p3.add 2) (.slice none 0 0) fun h_8=>
 vStore1 h_8 (p3.add 3) (.slice none 0 0) fun h_9=>
 vStore1 h_9 (p3.add 4) (.slice none 0 0) fun h_10=>
 ldI .i64 h_10 p3 fun x13=>
 vMake 8 [zi 0] Zh x13 x13 h_10 fun v14 h_11=>
 vStore1 h_11 (p3.add 4) v14 fun h_12=>
 lq1 (0:Int) h_12 fun J n x4 h_13=>
 ldI .i64 h_13 p3 fun x18=>
 bif decide (x4<x18) then
 vK (fun K:Value→Value→Value→Heap→Prop=>
 ∃ B:Nat→Prop,
 (
 ldI .i64 (hmask B h_13) p3 fun x23=>
 vMake 8 [zi 0] Zh x23 x23 h_13 fun v24 h_14=>
 ExtBut B h_13 h_14 ∧
 (
 ldI .i64 (hmask B h_13) p3 fun x26=>
 vMake 8 [zi 0] Zh x26 x26 h_14 fun v27 h_15=>
 ExtBut B h_13 h_15 ∧
 ldI .i64 (hmask B h_13) p3 fun x29=>
 vMake 8 [zi 0] Zh x29 x29 h_15 fun v30 h_16=>
 ExtBut B h_13 h_16 ∧
 K v24 v27 v30 h_16
 ) ∧
 (
 ldI .i64 (hmask B h_13) p3 fun x29_2=>
 vMake 8 [zi 0] Zh x29_2 x29_2 h_14 fun v30_2 h_17=>
 ExtBut B h_13 h_17 ∧
 ldI .i64 (hmask B h_13) p3 fun x26_2=>
 vMake 8 [zi 0] Zh x26_2 x26_2 h_17 fun v27_2 h_18=>
 ExtBut B h_13 h_18 ∧
 K v24 v27_2 v30_2 h_18
 )
 ) ∧
 (
 ldI .i64 (hmask B h_13) p3 fun x26_3=>
 vMake 8 [zi 0] Zh x26_3 x26_3 h_13 fun v27_3 h_19=>
 ExtBut B h_13 h_19 ∧
 (
 ldI .i64 (hmask B h_13) p3 fun x23_2=>
 vMake 8 [zi 0] Zh x23_2 x23_2 h_19 fun v24_2 h_20=>
 ExtBut B h_13 h_20 ∧
 ldI .i64 (hmask B h_13) p3 fun x29_3=>
 vMake 8 [zi 0] Zh x29_3 x29_3 h_20 fun v30_3 h_21=>
 ExtBut B h_13 h_21 ∧
 K v24_2 v27_3 v30_3 h_21
 ) ∧
 (
 ldI .i64 (hmask B h_13) p3 fun x29_4=>
 vMake 8 [zi 0] Zh x29_4 x29_4 h_19 fun v30_4 h_22=>
 ExtBut B h_13 h_22 ∧
 ldI .i64 (hmask B h_13) p3 fun x23_3=>
 vMake 8 [zi 0] Zh x23_3 x23_3 h_22 fun v24_3 h_23=>
 ExtBut B h_13 h_23 ∧
 K v24_3 v27_3 v30_4 h_23
 )
 ) ∧
 (
 ldI .i64 (hmask B h_13) p3 fun x29_5=>
 vMake 8 [zi 0] Zh x29_5 x29_5 h_13 fun v30_5 h_24=>
 ExtBut B h_13 h_24 ∧
 (
 ldI .i64 (hmask B h_13) p3 fun x23_4=>
 vMake 8 [zi 0] Zh x23_4 x23_4 h_24 fun v24_4 h_25=>
 ExtBut B h_13 h_25 ∧
 ldI .i64 (hmask B h_13) p3 fun x26_4=>
 vMake 8 [zi 0] Zh x26_4 x26_4 h_25 fun v27_4 h_26=>
 ExtBut B h_13 h_26 ∧
 K v24_4 v27_4 v30_5 h_26
 ) ∧
 (
 ldI .i64 (hmask B h_13) p3 fun x26_5=>
 vMake 8 [zi 0] Zh x26_5 x26_5 h_24 fun v27_5 h_27=>
 ExtBut B h_13 h_27 ∧
 ldI .i64 (hmask B h_13) p3 fun x23_5=>
 vMake 8 [zi 0] Zh x23_5 x23_5 h_27 fun v24_5 h_28=>
 ExtBut B h_13 h_28 ∧
 K v24_5 v27_5 v30_5 h_28
 )
 )
 ) fun v5 v6 v7 h_29=>
 lq1 (0:Int) h_29 fun J_2 n_3 x8 h_30=>
 ldI .i64 h_30 p3 fun x33=>
 bif decide (x8<x33) then
 ∃ B_2:Nat→Prop,
 ldI .i64 h_30 p1 fun x43_0=>
 ldI .i64 h_30 (p1.add 1) fun x43_1=>
 ldV h_30 (p1.add 2) fun v43_2=>
 zI Zia #[.agg #[zi x43_0,zi x43_1,v43_2],zi x4,zi x8,zi 1] h_30 fun x46 h_31=>
 ExtBut B_2 h_30 h_31 ∧
 ldI .i64 (hmask B_2 h_30) p1 fun x47_0=>
 ldI .i64 (hmask B_2 h_30) (p1.add 1) fun x47_1=>
 ldV (hmask B_2 h_30) (p1.add 2) fun v47_2=>
 zI Zia #[.agg #[zi x47_0,zi x47_1,v47_2],zi x4,zi x8,zi (-1)] h_31 fun x50 h_32=>
 ExtBut B_2 h_30 h_32 ∧
 ldI .i64 (hmask B_2 h_30) p1 fun x51_0=>
 ldI .i64 (hmask B_2 h_30) (p1.add 1) fun x51_1=>
 ldV (hmask B_2 h_30) (p1.add 2) fun v51_2=>
 zI ZkS #[.agg #[zi x51_0,zi x51_1,v51_2],zi x4,zi x8] h_32 fun x54 h_33=>
 vIdx v5 x8 1 fun p55=>
 vStore1 h_33 p55 (zi x46) fun h_34=>
 vIdx v6 x8 1 fun p56=>
 vStore1 h_34 p56 (zi x50) fun h_35=>
 vIdx v7 x8 1 fun p57=>
 vStore1 h_35 p57 (zi x54) fun h_36=>
 vIdx v7 x8 1 fun p60=>
 ldI .i64 h_36 p60 fun x61=>
 bif x61==1 then
 ldV h_36 (p3.add 4) fun v64=>
 vIdx v64 x4 1 fun p67=>
 vStore1 h_36 p67 (zi x8) fun h_37=>
 ag1 J_2 n_3 (zw (x8+1)) h_37
 else
 ag1 J_2 n_3 (zw (x8+1)) h_36
 else
 vK (fun K_2:Heap→Prop=>
 ∃ B_3:Nat→Prop,
 (
 vOne v5 fun _=>
 vNewS h_30 (.cells #[v5] Zg) 1 fun v71 h_38=>
 ExtBut B_3 h_30 h_38 ∧
 (
 ldV (hmask B_3 h_30) (p3.add 1) fun v69=>
 vAppend 1 24 [.slice none 0 0] Zg v69 v71 h_38 fun v72 h_39=>
 ExtBut B_3 h_30 h_39 ∧
 (
 vOne v6 fun _=>
 vNewS h_39 (.cells #[v6] Zg) 1 fun v76 h_40=>
 ExtBut B_3 h_30 h_40 ∧
 (
 ldV (hmask B_3 h_30) (p3.add 2) fun v74=>
 vAppend 1 24 [.slice none 0 0] Zg v74 v76 h_40 fun v77 h_41=>
 ExtBut B_3 h_30 h_41 ∧
 vOne v7 fun _=>
 vNewS h_41 (.cells #[v7] Zg) 1 fun v81 h_42=>
 ExtBut B_3 h_30 h_42 ∧
 ldV (hmask B_3 h_30) (p3.add 3) fun v79=>
 vAppend 1 24 [.slice none 0 0] Zg v79 v81 h_42 fun v82 h_43=>
 vStore1 h_43 (p3.add 1) v72 fun h_44=>
 vStore1 h_44 (p3.add 2) v77 fun h_45=>
 vStore1 h_45 (p3.add 3) v82 fun h_46=>
 K_2 h_46
 ) ∧
 (
 vOne v7 fun _=>
 vNewS h_40 (.cells #[v7] Zg) 1 fun v81_2 h_47=>
 ExtBut B_3 h_30 h_47 ∧
 ldV (hmask B_3 h_30) (p3.add 2) fun v74_2=>
 vAppend 1 24 [.slice none 0 0] Zg v74_2 v76 h_47 fun v77_2 h_48=>
 ExtBut B_3 h_30 h_48 ∧
 ldV (hmask B_3 h_30) (p3.add 3) fun v79_2=>
 vAppend 1 24 [.slice none 0 0] Zg v79_2 v81_2 h_48 fun v82_2 h_49=>
 vStore1 h_49 (p3.add 1) v72 fun h_50=>
 vStore1 h_50 (p3.add 2) v77_2 fun h_51=>
 vStore1 h_51 (p3.add 3) v82_2 fun h_52=>
 K_2 h_52
 )
 ) ∧
 (
 vOne v7 fun _=>
 vNewS h_39 (.cells #[v7] Zg) 1 fun v81_3 h_53=>
 ExtBut B_3 h_30 h_53 ∧
 vOne v6 fun _=>
 vNewS h_53 (.cells #[v6] Zg) 1 fun v76_2 h_54=>
 ExtBut B_3 h_30 h_54 ∧
 ldV (hmask B_3 h_30) (p3.add 2) fun v74_3=>
 vAppend 1 24 [.slice none 0 0] Zg v74_3 v76_2 h_54 fun v77_3 h_55=>
 ExtBut B_3 h_30 h_55 ∧
 ldV (hmask B_3 h_30) (p3.add 3) fun v79_3=>
 vAppend 1 24 [.slice none 0 0] Zg v79_3 v81_3 h_55 fun v82_3 h_56=>
 vStore1 h_56 (p3.add 1) v72 fun h_57=>
 vStore1 h_57 (p3.add 2) v77_3 fun h_58=>
 vStore1 h_58 (p3.add 3) v82_3 fun h_59=>
 K_2 h_59
 )
 ) ∧
 (
 vOne v6 fun _=>
 vNewS h_38 (.cells #[v6] Zg) 1 fun v76_3 h_60=>
 ExtBut B_3 h_30 h_60 ∧
 (
 ldV (hmask B_3 h_30) (p3.add 1) fun v69_2=>
 vAppend 1 24 [.slice none 0 0] Zg v69_2 v71 h_60 fun v72_2 h_61=>
 ExtBut B_3 h_30 h_61 ∧
 (
 ldV (hmask B_3 h_30) (p3.add 2) fun v74_4=>
 vAppend 1 24 [.slice none 0 0] Zg v74_4 v76_3 h_61 fun v77_4 h_62=>
 ExtBut B_3 h_30 h_62 ∧
 vOne v7 fun _=>
 vNewS h_62 (.cells #[v7] Zg) 1 fun v81_4 h_63=>
 ExtBut B_3 h_30 h_63 ∧
 ldV (hmask B_3 h_30) (p3.add 3) fun v79_4=>
 vAppend 1 24 [.slice none 0 0] Zg v79_4 v81_4 h_63 fun v82_4 h_64=>
 vStore1 h_64 (p3.add 1) v72_2 fun h_65=>
 vStore1 h_65 (p3.add 2) v77_4 fun h_66=>
 vStore1 h_66 (p3.add 3) v82_4 fun h_67=>
 K_2 h_67
 ) ∧
 (
 vOne v7 fun _=>
 vNewS h_61 (.cells #[v7] Zg) 1 fun v81_5 h_68=>
 ExtBut B_3 h_30 h_68 ∧
 ldV (hmask B_3 h_30) (p3.add 2) fun v74_5=>
 vAppend 1 24 [.slice none 0 0] Zg v74_5 v76_3 h_68 fun v77_5 h_69=>
 ExtBut B_3 h_30 h_69 ∧
 ldV (hmask B_3 h_30) (p3.add 3) fun v79_5=>
 vAppend 1 24 [.slice none 0 0] Zg v79_5 v81_5 h_69 fun v82_5 h_70=>
 vStore1 h_70 (p3.add 1) v72_2 fun h_71=>
 vStore1 h_71 (p3.add 2) v77_5 fun h_72=>
 vStore1 h_72 (p3.add 3) v82_5 fun h_73=>
 K_2 h_73
 )
 ) ∧
 (
 vOne v7 fun _=>
 vNewS h_60 (.cells #[v7] Zg) 1 fun v81_6 h_74=>
 ExtBut B_3 h_30 h_74 ∧
 ldV (hmask B_3 h_30) (p3.add 1) fun v69_3=>
 vAppend 1 24 [.slice none 0 0] Zg v69_3 v71 h_74 fun v72_3 h_75=>
 ExtBut B_3 h_30 h_75 ∧
 ldV (hmask B_3 h_30) (p3.add 2) fun v74_6=>
 vAppend 1 24 [.slice none 0 0] Zg v74_6 v76_3 h_75 fun v77_6 h_76=>
 ExtBut B_3 h_30 h_76 ∧
 ldV (hmask B_3 h_30) (p3.add 3) fun v79_6=>
 vAppend 1 24 [.slice none 0 0] Zg v79_6 v81_6 h_76 fun v82_6 h_77=>
 vStore1 h_77 (p3.add 1) v72_3 fun h_78=>
 vStore1 h_78 (p3.add 2) v77_6 fun h_79=>
 vStore1 h_79 (p3.add 3) v82_6 fun h_80=>
 K_2 h_80
 )
 ) ∧
 (
 vOne v7 fun _=>
 vNewS h_38 (.cells #[v7] Zg) 1 fun v81_7 h_81=>
 ExtBut B_3 h_30 h_81 ∧
 (
 ldV (hmask B_3 h_30) (p3.add 1) fun v69_4=>
 vAppend 1 24 [.slice none 0 0] Zg v69_4 v71 h_81 fun v72_4 h_82=>
 ExtBut B_3 h_30 h_82 ∧
 vOne v6 fun _=>
 vNewS h_82 (.cells #[v6] Zg) 1 fun v76_4 h_83=>
 ExtBut B_3 h_30 h_83 ∧
 ldV (hmask B_3 h_30) (p3.add 2) fun v74_7=>
 vAppend 1 24 [.slice none 0 0] Zg v74_7 v76_4 h_83 fun v77_7 h_84=>
 ExtBut B_3 h_30 h_84 ∧
 ldV (hmask B_3 h_30) (p3.add 3) fun v79_7=>
 vAppend 1 24 [.slice none 0 0] Zg v79_7 v81_7 h_84 fun v82_7 h_85=>
 vStore1 h_85 (p3.add 1) v72_4 fun h_86=>
 vStore1 h_86 (p3.add 2) v77_7 fun h_87=>
 vStore1 h_87 (p3.add 3) v82_7 fun h_88=>
 K_2 h_88
 ) ∧
 (
 vOne v6 fun _=>
 vNewS h_81 (.cells #[v6] Zg) 1 fun v76_5 h_89=>
 ExtBut B_3 h_30 h_89 ∧
 ldV (hmask B_3 h_30) (p3.add 1) fun v69_5=>
 vAppend 1 24 [.slice none 0 0] Zg v69_5 v71 h_89 fun v72_5 h_90=>
 ExtBut B_3 h_30 h_90 ∧
 ldV (hmask B_3 h_30) (p3.add 2) fun v74_8=>
 vAppend 1 24 [.slice none 0 0] Zg v74_8 v76_5 h_90 fun v77_8 h_91=>
 ExtBut B_3 h_30 h_91 ∧
 ldV (hmask B_3 h_30) (p3.add 3) fun v79_8=>
 vAppend 1 24 [.slice none 0 0] Zg v79_8 v81_7 h_91 fun v82_8 h_92=>
 vStore1 h_92 (p3.add 1) v72_5 fun h_93=>
 vStore1 h_93 (p3.add 2) v77_8 fun h_94=>
 vStore1 h_94 (p3.add 3) v82_8 fun h_95=>
 K_2 h_95
 )
 )
 ) ∧
 (
 vOne v6 fun _=>
 vNewS h_30 (.cells #[v6] Zg) 1 fun v76_6 h_96=>
 ExtBut B_3 h_30 h_96 ∧
 (
 vOne v5 fun _=>
 vNewS h_96 (.cells #[v5] Zg) 1 fun v71_2 h_97=>
 ExtBut B_3 h_30 h_97 ∧
 (
 ldV (hmask B_3 h_30) (p3.add 1) fun v69_6=>
 vAppend 1 24 [.slice none 0 0] Zg v69_6 v71_2 h_97 fun v72_6 h_98=>
 ExtBut B_3 h_30 h_98 ∧
 (
 ldV (hmask B_3 h_30) (p3.add 2) fun v74_9=>
 vAppend 1 24 [.slice none 0 0] Zg v74_9 v76_6 h_98 fun v77_9 h_99=>
 ExtBut B_3 h_30 h_99 ∧
 vOne v7 fun _=>
 vNewS h_99 (.cells #[v7] Zg) 1 fun v81_8 h_100=>
 ExtBut B_3 h_30 h_100 ∧
 ldV (hmask B_3 h_30) (p3.add 3) fun v79_9=>
 vAppend 1 24 [.slice none 0 0] Zg v79_9 v81_8 h_100 fun v82_9 h_101=>
 vStore1 h_101 (p3.add 1) v72_6 fun h_102=>
 vStore1 h_102 (p3.add 2) v77_9 fun h_103=>
 vStore1 h_103 (p3.add 3) v82_9 fun h_104=>
 K_2 h_104
 ) ∧
 (
 vOne v7 fun _=>
 vNewS h_98 (.cells #[v7] Zg) 1 fun v81_9 h_105=>
 ExtBut B_3 h_30 h_105 ∧
 ldV (hmask B_3 h_30) (p3.add 2) fun v74_10=>
 vAppend 1 24 [.slice none 0 0] Zg v74_10 v76_6 h_105 fun v77_10 h_106=>
 ExtBut B_3 h_30 h_106 ∧
 ldV (hmask B_3 h_30) (p3.add 3) fun v79_10=>
 vAppend 1 24 [.slice none 0 0] Zg v79_10 v81_9 h_106 fun v82_10 h_107=>
 vStore1 h_107 (p3.add 1) v72_6 fun h_108=>
 vStore1 h_108 (p3.add 2) v77_10 fun h_109=>
 vStore1 h_109 (p3.add 3) v82_10 fun h_110=>
 K_2 h_110
 )
 ) ∧
 (
 vOne v7 fun _=>
 vNewS h_97 (.cells #[v7] Zg) 1 fun v81_10 h_111=>
 ExtBut B_3 h_30 h_111 ∧
 ldV (hmask B_3 h_30) (p3.add 1) fun v69_7=>
 vAppend 1 24 [.slice none 0 0] Zg v69_7 v71_2 h_111 fun v72_7 h_112=>
 ExtBut B_3 h_30 h_112 ∧
 ldV (hmask B_3 h_30) (p3.add 2) fun v74_11=>
 vAppend 1 24 [.slice none 0 0] Zg v74_11 v76_6 h_112 fun v77_11 h_113=>
 ExtBut B_3 h_30 h_113 ∧
 ldV (hmask B_3 h_30) (p3.add 3) fun v79_11=>
 vAppend 1 24 [.slice none 0 0] Zg v79_11 v81_10 h_113 fun v82_11 h_114=>
 vStore1 h_114 (p3.add 1) v72_7 fun h_115=>
 vStore1 h_115 (p3.add 2) v77_11 fun h_116=>
 vStore1 h_116 (p3.add 3) v82_11 fun h_117=>
 K_2 h_117
 )
 ) ∧
 (
 vOne v7 fun _=>
 vNewS h_96 (.cells #[v7] Zg) 1 fun v81_11 h_118=>
 ExtBut B_3 h_30 h_118 ∧
 vOne v5 fun _=>
 vNewS h_118 (.cells #[v5] Zg) 1 fun v71_3 h_119=>
 ExtBut B_3 h_30 h_119 ∧
 ldV (hmask B_3 h_30) (p3.add 1) fun v69_8=>
 vAppend 1 24 [.slice none 0 0] Zg v69_8 v71_3 h_119 fun v72_8 h_120=>
 ExtBut B_3 h_30 h_120 ∧
 ldV (hmask B_3 h_30) (p3.add 2) fun v74_12=>
 vAppend 1 24 [.slice none 0 0] Zg v74_12 v76_6 h_120 fun v77_12 h_121=>
 ExtBut B_3 h_30 h_121 ∧
 ldV (hmask B_3 h_30) (p3.add 3) fun v79_12=>
 vAppend 1 24 [.slice none 0 0] Zg v79_12 v81_11 h_121 fun v82_12 h_122=>
 vStore1 h_122 (p3.add 1) v72_8 fun h_123=>
 vStore1 h_123 (p3.add 2) v77_12 fun h_124=>
 vStore1 h_124 (p3.add 3) v82_12 fun h_125=>
 K_2 h_125
 )
 ) ∧
 (
 vOne v7 fun _=>
 vNewS h_30 (.cells #[v7] Zg) 1 fun v81_12 h_126=>
 ExtBut B_3 h_30 h_126 ∧
 (
 vOne v5 fun _=>
 vNewS h_126 (.cells #[v5] Zg) 1 fun v71_4 h_127=>
 ExtBut B_3 h_30 h_127 ∧
 (
 ldV (hmask B_3 h_30) (p3.add 1) fun v69_9=>
 vAppend 1 24 [.slice none 0 0] Zg v69_9 v71_4 h_127 fun v72_9 h_128=>
 ExtBut B_3 h_30 h_128 ∧
 vOne v6 fun _=>
 vNewS h_128 (.cells #[v6] Zg) 1 fun v76_7 h_129=>
 ExtBut B_3 h_30 h_129 ∧
 ldV (hmask B_3 h_30) (p3.add 2) fun v74_13=>
 vAppend 1 24 [.slice none 0 0] Zg v74_13 v76_7 h_129 fun v77_13 h_130=>
 ExtBut B_3 h_30 h_130 ∧
 ldV (hmask B_3 h_30) (p3.add 3) fun v79_13=>
 vAppend 1 24 [.slice none 0 0] Zg v79_13 v81_12 h_130 fun v82_13 h_131=>
 vStore1 h_131 (p3.add 1) v72_9 fun h_132=>
 vStore1 h_132 (p3.add 2) v77_13 fun h_133=>
 vStore1 h_133 (p3.add 3) v82_13 fun h_134=>
 K_2 h_134
 ) ∧
 (
 vOne v6 fun _=>
 vNewS h_127 (.cells #[v6] Zg) 1 fun v76_8 h_135=>
 ExtBut B_3 h_30 h_135 ∧
 ldV (hmask B_3 h_30) (p3.add 1) fun v69_10=>
 vAppend 1 24 [.slice none 0 0] Zg v69_10 v71_4 h_135 fun v72_10 h_136=>
 ExtBut B_3 h_30 h_136 ∧
 ldV (hmask B_3 h_30) (p3.add 2) fun v74_14=>
 vAppend 1 24 [.slice none 0 0] Zg v74_14 v76_8 h_136 fun v77_14 h_137=>
 ExtBut B_3 h_30 h_137 ∧
 ldV (hmask B_3 h_30) (p3.add 3) fun v79_14=>
 vAppend 1 24 [.slice none 0 0] Zg v79_14 v81_12 h_137 fun v82_14 h_138=>
 vStore1 h_138 (p3.add 1) v72_10 fun h_139=>
 vStore1 h_139 (p3.add 2) v77_14 fun h_140=>
 vStore1 h_140 (p3.add 3) v82_14 fun h_141=>
 K_2 h_141
 )
 ) ∧
 (
 vOne v6 fun _=>
 vNewS h_126 (.cells #[v6] Zg) 1 fun v76_9 h_142=>
 ExtBut B_3 h_30 h_142 ∧
 vOne v5 fun _=>
 vNewS h_142 (.cells #[v5] Zg) 1 fun v71_5 h_143=>
 ExtBut B_3 h_30 h_143 ∧
 ldV (hmask B_3 h_30) (p3.add 1) fun v69_11=>
 vAppend 1 24 [.slice none 0 0] Zg v69_11 v71_5 h_143 fun v72_11 h_144=>
 ExtBut B_3 h_30 h_144 ∧
 ldV (hmask B_3 h_30) (p3.add 2) fun v74_15=>
 vAppend 1 24 [.slice none 0 0] Zg v74_15 v76_9 h_144 fun v77_15 h_145=>
 ExtBut B_3 h_30 h_145 ∧
 ldV (hmask B_3 h_30) (p3.add 3) fun v79_15=>
 vAppend 1 24 [.slice none 0 0] Zg v79_15 v81_12 h_145 fun v82_15 h_146=>
 vStore1 h_146 (p3.add 1) v72_11 fun h_147=>
 vStore1 h_147 (p3.add 2) v77_15 fun h_148=>
 vStore1 h_148 (p3.add 3) v82_15 fun h_149=>
 K_2 h_149
 )
 )
 ) fun h_150=>
 ag1 J n (zw (x4+1)) h_150
 else
 ldI .i64 h_13 p3 fun x86_0=>
 ldV h_13 (p3.add 1) fun v86_1=>
 ldV h_13 (p3.add 2) fun v86_2=>
 ldV h_13 (p3.add 3) fun v86_3=>
 ldV h_13 (p3.add 4) fun v86_4=>
 vStore1 h_13 p2 (zi x86_0) fun h_151=>
 vStore1 h_151 (p2.add 1) v86_1 fun h_152=>
 vStore1 h_152 (p2.add 2) v86_2 fun h_153=>
 vStore1 h_153 (p2.add 3) v86_3 fun h_154=>
 vStore1 h_154 (p2.add 4) v86_4 fun h_155=>
 ldI .i64 h_155 p2 fun xres0_0=>
 ldV h_155 (p2.add 1) fun vres0_1=>
 ldV h_155 (p2.add 2) fun vres0_2=>
 ldV h_155 (p2.add 3) fun vres0_3=>
 ldV h_155 (p2.add 4) fun vres0_4=>
 R (.agg #[zi xres0_0,vres0_1,vres0_2,vres0_3,vres0_4]) h_155):CallsH P ZkZ #[.agg #[zi x0_0,zi x0_1,v0_2]] h R:=zv ⟨[(4,[(4,.i .i64)]),(8,[(8,.i .i64)])],[],[]⟩ Tryz.func168 hv
theorem Zus {v0:Value} {p1:Addr} (hv:
 ldI .i64 h p1 fun x5=>
 vIdx v0 x5 1 fun p6=>
 ldI .i64 h p6 fun x7=>
 R (.bool (x7 !=0)) h):CallsH P Zmx #[v0,.pointer (some p1)] h R:=zv ⟨[],[],[]⟩ Tryz.func246 hv
theorem ZzW {x0_0:Int} {v0_1 v0_2 v0_3 v0_4 v1 v2:Value} {x3:Int} (hv:
 vNew h (.cells #[zi x0_0,v0_1,v0_2,v0_3,v0_4] Zj1) fun p4 h_2=>
 vLen v2 fun n11=>
 lq1 (0:Int) h_2 fun J n x12 h_3=>
 bif decide (x12<(n11:Int)) then
 vIdx v2 x12 1 fun p15=>
 ldI .i64 h_3 p15 fun x16=>
 ldV h_3 (p4.add 1) fun v20=>
 vIdx v1 x12 1 fun p23=>
 ldI .i64 h_3 p23 fun x24=>
 vIdx v20 x24 1 fun p25=>
 ldV h_3 p25 fun v26=>
 ldV h_3 (p4.add 3) fun v28=>
 vIdx v28 x3 1 fun p30=>
 ldV h_3 p30 fun v31=>
 vIdx v31 x16 1 fun p33=>
 ldI .i64 h_3 p33 fun x34=>
 vIdx v26 x34 1 fun p35=>
 ldI .i64 h_3 p35 fun x36=>
 vIdx v1 x12 1 fun p37=>
 vStore1 h_3 p37 (zi x36) fun h_4=>
 ag1 J n (zw (x12+1)) h_4
 else
 R (.tuple #[]) h_3):CallsH P Zmp #[.agg #[zi x0_0,v0_1,v0_2,v0_3,v0_4],v1,v2,zi x3] h R:=zv ⟨[(2,[(12,.i .i64)])],[],[]⟩ Tryz.func247 hv
theorem Zw6 {x0_0:Int} {v0_1 v0_2 v0_3 v0_4 v1:Value} (hv:
 vNew h (.cells #[zi x0_0,v0_1,v0_2,v0_3,v0_4] Zj1) fun p2 h_2=>
 zV Zcy #[v1] h_2 fun v19 h_3=>
 ∃ J:Value→Int→Heap→Prop,(
 vNew h_3 (.cells #[zi 0] t_int) fun p10 h_4=>
 vStore1 h_4 p10 (zi 0) fun h_5=>
 lq3 ((.slice none 0 0):Value) (1:Int) p10 h_5 fun J_2 n v8 x9 p10_2 h_6=>
 ∃ J_3:Heap→Prop,(
 vLen v19 fun n21=>
 bif decide ((n21:Int)>0) then
 ldI .i64 h_6 p10_2 fun x24=>
 vIdx v19 0 1 fun p26=>
 ldV h_6 p26 fun v27=>
 vLen v27 fun n28=>
 bif decide (x24<(n28:Int)) then
 J_3 h_6
 else
 J v8 x9 h_6
 else
 J v8 x9 h_6
 )∧∀ (_:Env) (h_7:Heap),J_3 h_7 →
 ∃ J_4:Value→Int→Heap→Prop,(
 vLen v8 fun n34=>
 vSliceS v19 1 (some (zi (n34:Int))) none none fun v37=>
 zI ZjQ #[v37,.func (.func Zmx) #[] #[.pointer (some p10_2)]] h_7 fun x39 h_8=>
 bif decide (x39<0) then
 J_4 v8 0 h_8
 else
 ∃ J_5:Int→Heap→Prop,(
 bif decide (x39>0) then
 vIdx v19 (zw ((n34:Int)+x39)) 1 fun p54=>
 ldV h_8 p54 fun v55=>
 vIdx v19 (n34:Int) 1 fun p58=>
 ldV h_8 p58 fun v59=>
 vIdx v19 (n34:Int) 1 fun p60=>
 vStore1 h_8 p60 v55 fun h_9=>
 vIdx v19 (zw ((n34:Int)+x39)) 1 fun p61=>
 vStore1 h_9 p61 v59 fun h_10=>
 ldV h_10 (p2.add 2) fun v63=>
 vIdx v63 0 1 fun p64=>
 ldV h_10 p64 fun v65=>
 vIdx v65 x9 1 fun p67=>
 ldI .i64 h_10 p67 fun x68=>
 J_5 x68 h_10
 else
 J_5 x9 h_8
 )∧∀ (_:Env) x9_2 (h_11:Heap),J_5 x9_2 h_11 →
 vIdx v19 (n34:Int) 1 fun p71=>
 ldV h_11 p71 fun v72=>
 ldI .i64 h_11 p10_2 fun x73=>
 vIdx v72 x73 1 fun p74=>
 ldI .i64 h_11 p74 fun x75=>
 ldV h_11 (p2.add 3) fun v77=>
 vIdx v77 x9_2 1 fun p79=>
 ldV h_11 p79 fun v80=>
 vIdx v80 x75 1 fun p82=>
 ldI .i64 h_11 p82 fun x83=>
 vIdx v19 (n34:Int) 1 fun p86=>
 ldV h_11 p86 fun v87=>
 vLen v87 fun n88=>
 lq1 (0:Int) h_11 fun J_6 n_3 x89 h_12=>
 bif decide (x89<(n88:Int)) then
 vIdx v87 x89 1 fun p92=>
 ldI .i64 h_12 p92 fun x93=>
 vIdx v19 (n34:Int) 1 fun p96=>
 ldV h_12 p96 fun v97=>
 ldV h_12 (p2.add 3) fun v100=>
 ldV h_12 (p2.add 4) fun v102=>
 vIdx v102 x75 1 fun p104=>
 ldI .i64 h_12 p104 fun x105=>
 vIdx v100 x105 1 fun p106=>
 ldV h_12 p106 fun v107=>
 vIdx v107 x93 1 fun p109=>
 ldI .i64 h_12 p109 fun x110=>
 vIdx v97 x89 1 fun p111=>
 vStore1 h_12 p111 (zi x110) fun h_13=>
 ag1 J_6 n_3 (zw (x89+1)) h_13
 else
 vLen v19 fun n114=>
 lq1 (0:Int) h_12 fun J_7 n_5 x115 h_14=>
 bif decide (x115<(n114:Int)) then
 vIdx v19 x115 1 fun p118=>
 ldV h_14 p118 fun v119=>
 ∃ J_8:Bool→Heap→Prop,(
 bif x115 !=(n34:Int) then
 ldI .i64 h_14 p10_2 fun x125=>
 vIdx v119 x125 1 fun p126=>
 ldI .i64 h_14 p126 fun x127=>
 J_8 (x127 !=0) h_14
 else
 J_8 false h_14
 )∧∀ (_:Env) (b129:Bool) (h_15:Heap),J_8 b129 h_15 →
 bif b129 then
 ldI .i64 h_15 p2 fun x130_0=>
 ldV h_15 (p2.add 1) fun v130_1=>
 ldV h_15 (p2.add 2) fun v130_2=>
 ldV h_15 (p2.add 3) fun v130_3=>
 ldV h_15 (p2.add 4) fun v130_4=>
 vIdx v19 (n34:Int) 1 fun p134=>
 ldV h_15 p134 fun v135=>
 ldV h_15 (p2.add 2) fun v137=>
 vIdx v137 0 1 fun p138=>
 ldV h_15 p138 fun v139=>
 ldI .i64 h_15 p10_2 fun x141=>
 vIdx v119 x141 1 fun p142=>
 ldI .i64 h_15 p142 fun x143=>
 vIdx v139 x143 1 fun p144=>
 ldI .i64 h_15 p144 fun x145=>
 CallsH P Zmp #[.agg #[zi x130_0,v130_1,v130_2,v130_3,v130_4],v119,v135,zi x145] h_15 fun r146 h_16=>r146=.tuple #[] ∧
 ag1 J_7 n_5 (zw (x115+1)) h_16
 else
 ag1 J_7 n_5 (zw (x115+1)) h_15
 else
 ldI .i64 h_14 p10_2 fun x149=>
 vNewS h_14 (.cells #[zi x149] Zh) 1 fun v150 h_17=>
 vAppend 1 8 [zi 0] Zh v8 v150 h_17 fun v151 h_18=>
 vLen v151 fun n153=>
 vLen v19 fun n155=>
 bif (n153:Int)==(n155:Int) then
 J v151 x83 h_18
 else
 J_4 v151 x83 h_18
 )∧∀ (_:Env) (v8_2:Value) x9_3 (h_19:Heap),J_4 v8_2 x9_3 h_19 →
 ldI .i64 h_19 p10_2 fun x157=>
 vNew h_19 (.cells #[zi 0] t_int) fun p10_3 h_20=>
 vStore1 h_20 p10_3 (zi x157) fun h_21=>
 ldI .i64 h_21 p10_3 fun x31=>
 vStore1 h_21 p10_3 (zi (zw (x31+1))) fun h_22=>
 ag3 J_2 n v8_2 x9_3 p10_3 h_22
 )∧∀ (_:Env) (v8_3:Value) x9_4 (h_23:Heap),J v8_3 x9_4 h_23 →
 vLen v8_3 fun n160=>
 vSliceS v19 1 none (some (zi (n160:Int))) none fun v161=>
 R (.tuple #[v161,v8_3,zi x9_4]) h_23):CallsH P Zlj #[.agg #[zi x0_0,v0_1,v0_2,v0_3,v0_4],v1] h R:=zv ⟨[(5,[(8,.v),(9,.i .i64),(10,.p)]),(17,[(89,.i .i64)]),(22,[(115,.i .i64)])],[(7,[]),(14,[(9,.i .i64)]),(25,[(129,.b)]),(29,[(8,.v),(9,.i .i64)]),(31,[(8,.v),(9,.i .i64)])],[]⟩ Tryz.func169 hv
theorem Zzr {v0 v1:Value} {g2:Nat} {cap2:List Value} (hv:
 vLen v0 fun n11=>
 vLen v1 fun n13=>
 bif (n11:Int) !=(n13:Int) then
 R (.bool false) h
 else
 vLen v0 fun n16=>
 lq1 (0:Int) h fun J n x17 h_2=>
 bif decide (x17<(n16:Int)) then
 vIdx v0 x17 1 fun p20=>
 ldV h_2 p20 fun v21=>
 vIdx v1 x17 1 fun p24=>
 ldV h_2 p24 fun v25=>
 vOkf ctx g2 fun _=>
 CallsH P g2 (([v21,v25]:List Value)++cap2).toArray h_2 fun r29 h_3=>∃ (b29:Bool),r29=.bool b29 ∧
 bif !b29 then
 R (.bool false) h_3
 else
 ag1 J n (zw (x17+1)) h_3
 else
 R (.bool true) h_2):CallsH P Zlg #[v0,v1,.func (.func g2) #[] cap2.toArray] h R:=zv ⟨[(4,[(17,.i .i64)])],[],[]⟩ Tryz.func248 hv
theorem Zr9 {v0 v1:Value} (hv:
 vLen v0 fun n7=>
 vLen v1 fun n9=>
 bif (n7:Int) !=(n9:Int) then
 R (.bool false) h
 else
 vLen v0 fun n12=>
 lq1 (0:Int) h fun J n x13 h_2=>
 bif decide (x13<(n12:Int)) then
 vIdx v0 x13 1 fun p18=>
 ldI .i64 h_2 p18 fun x19=>
 vIdx v1 x13 1 fun p22=>
 ldI .i64 h_2 p22 fun x23=>
 bif x19 !=x23 then
 R (.bool false) h_2
 else
 ag1 J n (zw (x13+1)) h_2
 else
 R (.bool true) h_2):CallsH P ZmS #[v0,v1] h R:=zv ⟨[(4,[(13,.i .i64)])],[],[]⟩ Tryz.func249 hv
theorem Zwv {v0 v1:Value} (hv:
 zB Zlg #[v0,v1,.func (.func ZmS) #[] #[]] h fun b7 h_2=>
 R (.bool b7) h_2):CallsH P Zkd #[v0,v1] h R:=zv ⟨[],[],[]⟩ Tryz.func170 hv
theorem Zyd {x0_0 x0_1:Int} {v0_2 v0_3:Value} (hv:
 vNew h (.cells #[zi x0_0,zi x0_1,v0_2,v0_3] Zi1) fun p1 h_2=>
 ∃ J:Heap→Prop,(
 ∃ B:Nat→Prop,
 ldI .i64 h_2 p1 fun x7_0=>
 ldI .i64 h_2 (p1.add 1) fun x7_1=>
 ldV h_2 (p1.add 2) fun v7_2=>
 ldV h_2 (p1.add 3) fun v9=>
 zB Znk #[.agg #[zi x7_0,zi x7_1,v7_2],v9] h_2 fun b10 h_3=>
 ExtBut B h_2 h_3 ∧
 bif !b10 then
 R (.bool false) h_3
 else
 ldV h_3 (p1.add 3) fun v14=>
 vLen v14 fun n15=>
 bif decide ((n15:Int)>8) then
 R (.bool false) h_3
 else
 ldI .i64 h_3 p1 fun x20_0=>
 ldI .i64 h_3 (p1.add 1) fun x20_1=>
 ldV h_3 (p1.add 2) fun v20_2=>
 zI ZgJ #[.agg #[zi x20_0,zi x20_1,v20_2]] h_3 fun x21 h_4=>
 ExtBut B h_2 h_4 ∧
 ldV (hmask B h_2) (p1.add 3) fun v23=>
 zI ZcJ #[v23] h_4 fun x24 h_5=>
 zI ZeG #[zi x21,zi x24,zi 4096] h_5 fun x25 h_6=>
 bif decide (x25>4096) then
 R (.bool false) h_6
 else
 J h_6
 )∧∀ (_:Env) (h_7:Heap),J h_7 →
 ∃ B_2:Nat→Prop,
 ldI .i64 h_7 p1 fun x30_0=>
 ldI .i64 h_7 (p1.add 1) fun x30_1=>
 ldV h_7 (p1.add 2) fun v30_2=>
 CallsH P ZkZ #[.agg #[zi x30_0,zi x30_1,v30_2]] h_7 fun r31 h_8=>∃ x31_0_0,∃ (v31_0_1:Value),∃ (v31_0_2:Value),∃ (v31_0_3:Value),∃ (v31_0_4:Value),r31=.agg #[zi x31_0_0,v31_0_1,v31_0_2,v31_0_3,v31_0_4] ∧
 ExtBut B_2 h_7 h_8 ∧
 ldV (hmask B_2 h_7) (p1.add 3) fun v33=>
 CallsH P Zlj #[.agg #[zi x31_0_0,v31_0_1,v31_0_2,v31_0_3,v31_0_4],v33] h_8 fun r34 h_9=>∃ (v34_0:Value),∃ (v34_1:Value),∃ x34_2,r34=.tuple #[v34_0,v34_1,zi x34_2] ∧
 ldV h_9 (p1.add 3) fun v40=>
 zB Zkd #[v34_0,v40] h_9 fun b41 h_10=>
 R (.bool b41) h_10):CallsH P Zkx #[.agg #[zi x0_0,zi x0_1,v0_2,v0_3]] h R:=zv ⟨[],[(3,[])],[]⟩ Tryz.func89 hv
theorem Zta {x0:Int} (hv:
 zV Zjo #[zi x0] h fun v8 h_2=>
 vLen v8 fun n10=>
 lq1 (0:Int) h_2 fun J n x11 h_3=>
 bif decide (x11<(n10:Int)) then
 vIdx v8 x11 1 fun p13=>
 ldI .i64 h_3 p13 fun x14=>
 vIdx v8 0 1 fun p17=>
 ldI .i64 h_3 p17 fun x18=>
 bif x14 !=x18 then
 R (.tuple #[zi 0,zi 0]) h_3
 else
 ag1 J n (zw (x11+1)) h_3
 else
 vLen v8 fun n22=>
 bif (n22:Int)==0 then
 R (.tuple #[zi 0,zi 0]) h_3
 else
 ∃ B:Nat→Prop,
 zI ZaJ #[v8] h_3 fun x28 h_4=>
 ExtBut B h_3 h_4 ∧
 vIdx v8 0 1 fun p25=>
 ldI .i64 (hmask B h_3) p25 fun x26=>
 R (.tuple #[zi x26,zi x28]) h_4):CallsH P ZmN #[zi x0] h R:=zv ⟨[(3,[(11,.i .i64)])],[],[]⟩ Tryz.func250 hv
theorem Zr2 {x0:Int} (hv:
 vNew h (.cells #[zi 0,zi 0,.slice none 0 0] ZbO) fun p2 h_2=>
 CallsH P ZmN #[zi x0] h_2 fun r9 h_3=>∃ x9_0,∃ x9_1,r9=.tuple #[zi x9_0,zi x9_1] ∧
 ∃ J:Heap→Prop,(
 bif x9_0==0 then
 vStore1 h_3 p2 (zi 0) fun h_4=>
 vStore1 h_4 (p2.add 1) (zi 0) fun h_5=>
 vStore1 h_5 (p2.add 2) (.slice none 0 0) fun h_6=>
 ldI .i64 h_6 p2 fun xres0_0=>
 ldI .i64 h_6 (p2.add 1) fun xres0_1=>
 ldV h_6 (p2.add 2) fun vres0_2=>
 R (.tuple #[.agg #[zi xres0_0,zi xres0_1,vres0_2],zi 2]) h_6
 else
 bif decide (x0>64) then
 vStore1 h_3 p2 (zi 0) fun h_7=>
 vStore1 h_7 (p2.add 1) (zi 0) fun h_8=>
 vStore1 h_8 (p2.add 2) (.slice none 0 0) fun h_9=>
 ldI .i64 h_9 p2 fun xres0_0_2=>
 ldI .i64 h_9 (p2.add 1) fun xres0_1_2=>
 ldV h_9 (p2.add 2) fun vres0_2_2=>
 R (.tuple #[.agg #[zi xres0_0_2,zi xres0_1_2,vres0_2_2],zi 2]) h_9
 else
 J h_3
 )∧∀ (_:Env) (h_10:Heap),J h_10 →
 lq1 (0:Int) h_10 fun J_2 n x6 h_11=>
 zV Zcc #[zi x6,zi x9_0,zi x9_1] h_11 fun v22 h_12=>
 vNewS h_12 (.cells #[zi 1] Zh) 1 fun v23 h_13=>
 vAppend 1 8 [zi 0] Zh v22 v23 h_13 fun v24 h_14=>
 zB Zjf #[v24,zi x9_0] h_14 fun b26 h_15=>
 bif !b26 then
 ag1 J_2 n (zw (x6+1)) h_15
 else
 zV Zcc #[zi x6,zi x9_0,zi x9_1] h_15 fun v35 h_16=>
 vNewS h_16 (.cells #[zi 1] Zh) 1 fun v36 h_17=>
 vAppend 1 8 [zi 0] Zh v35 v36 h_17 fun v37 h_18=>
 vOne v37 fun _=>
 vStore1 h_18 p2 (zi x9_0) fun h_19=>
 vStore1 h_19 (p2.add 1) (zi x9_1) fun h_20=>
 vStore1 h_20 (p2.add 2) v37 fun h_21=>
 ldI .i64 h_21 p2 fun xres0_0_3=>
 ldI .i64 h_21 (p2.add 1) fun xres0_1_3=>
 ldV h_21 (p2.add 2) fun vres0_2_3=>
 R (.tuple #[.agg #[zi xres0_0_3,zi xres0_1_3,vres0_2_3],zi 0]) h_21):CallsH P Zm3 #[zi x0] h R:=zv ⟨[(5,[(6,.i .i64)])],[(4,[])],[]⟩ Tryz.func171 hv
theorem ZtH {x0_0 x0_1:Int} {v0_2:Value} (hv:
 vNew h (.cells #[zi x0_0,zi x0_1,v0_2] Zas) fun p1 h_2=>
 vNew h_2 (.cells #[zi 0,zi 0,.slice none 0 0,.slice none 0 0] Zi1) fun p2 h_3=>
 ldI .i64 h_3 (p1.add 1) fun x7=>
 CallsH P Zm3 #[zi x7] h_3 fun r8 h_4=>∃ x8_0_0,∃ x8_0_1,∃ (v8_0_2:Value),∃ x8_1,r8=.tuple #[.agg #[zi x8_0_0,zi x8_0_1,v8_0_2],zi x8_1] ∧
 vNew h_4 (.cells #[zi 0,zi 0,.slice none 0 0] ZbO) fun p3 h_5=>
 vStore1 h_5 p3 (zi x8_0_0) fun h_6=>
 vStore1 h_6 (p3.add 1) (zi x8_0_1) fun h_7=>
 vStore1 h_7 (p3.add 2) v8_0_2 fun h_8=>
 ∃ B:Nat→Prop,
 ldV h_8 (p1.add 2) fun v13=>
 zV Zcy #[v13] h_8 fun v14 h_9=>
 ExtBut B h_8 h_9 ∧
 ldI .i64 (hmask B h_8) p3 fun x11_0=>
 ldI .i64 (hmask B h_8) (p3.add 1) fun x11_1=>
 ldV (hmask B h_8) (p3.add 2) fun v11_2=>
 vOne v14 fun _=>
 vStore1 h_9 p2 (zi x11_0) fun h_10=>
 vStore1 h_10 (p2.add 1) (zi x11_1) fun h_11=>
 vStore1 h_11 (p2.add 2) v11_2 fun h_12=>
 vStore1 h_12 (p2.add 3) v14 fun h_13=>
 ldI .i64 h_13 p2 fun xres0_0=>
 ldI .i64 h_13 (p2.add 1) fun xres0_1=>
 ldV h_13 (p2.add 2) fun vres0_2=>
 ldV h_13 (p2.add 3) fun vres0_3=>
 R (.agg #[zi xres0_0,zi xres0_1,vres0_2,vres0_3]) h_13):CallsH P ZmD #[.agg #[zi x0_0,zi x0_1,v0_2]] h R:=zv ⟨[],[],[]⟩ Tryz.func90 hv
theorem Zsv {v0:Value} (hv:
 vLen v0 fun n7=>
 lq1 (0:Int) h fun J n x8 h_2=>
 bif decide (x8<(n7:Int)) then
 vIdx v0 x8 1 fun p10=>
 ldI .i64 h_2 p10 fun x11=>
 bif x11 !=0 then
 R (zi x11) h_2
 else
 ag1 J n (zw (x8+1)) h_2
 else
 R (zi 0) h_2):CallsH P Zlr #[v0] h R:=zv ⟨[(3,[(8,.i .i64)])],[],[]⟩ Tryz.func322 hv
theorem ZzE {x0_0 x0_1 x1_0 x1_1:Int} (hv:
 vNew h (.cells #[zi x0_0,zi x0_1] Zbi) fun p2 h_2=>
 vNew h_2 (.cells #[zi x1_0,zi x1_1] Zbi) fun p3 h_3=>
 ∃ B:Nat→Prop,
 ldI .i64 h_3 p2 fun x6=>
 ldI .i64 h_3 p3 fun x8=>
 zI ZcQ #[zi x6,zi x8] h_3 fun x9 h_4=>
 ExtBut B h_3 h_4 ∧
 ldI .i64 (hmask B h_3) (p2.add 1) fun x11=>
 ldI .i64 (hmask B h_3) (p3.add 1) fun x13=>
 zI ZcQ #[zi x11,zi x13] h_4 fun x14 h_5=>
 vNewS h_5 (.cells #[zi x9,zi x14] t_int) 2 fun v15 h_6=>
 zI Zlr #[v15] h_6 fun x16 h_7=>
 R (zi x16) h_7):CallsH P ZkT #[.agg #[zi x0_0,zi x0_1],.agg #[zi x1_0,zi x1_1]] h R:=zv ⟨[],[],[]⟩ Tryz.func253 hv
theorem Zvy {x0:Int} (hv:
 zB Z9 #[zi x0,zi 0,zi 63] h fun b4 h_2=>
 R (.bool b4) h_2):CallsH P ZlM #[zi x0] h R:=zv ⟨[],[],[]⟩ Tryz.func324 hv
theorem Zxt {x0:Int} (hv:
 zB ZlM #[zi x0] h fun b4 h_2=>
 R (.bool (!b4)) h_2):CallsH P Zmr #[zi x0] h R:=zv ⟨[],[],[]⟩ Tryz.func323 hv
theorem Zr4 {v0:Value} (hv:
 vLen v0 fun n4=>
 bif decide ((n4:Int)≤64) then
 zB ZcB #[v0,.func (.func Zmr) #[] #[]] h fun b8 h_2=>
 R (.bool (!b8)) h_2
 else
 R (.bool false) h):CallsH P Zmi #[v0] h R:=zv ⟨[],[],[]⟩ Tryz.func254 hv
theorem ZsQ {v0_0 v0_1:Value} (hv:
 vNew h (.cells #[v0_0,v0_1] Zco) fun p1 h_2=>
 ldV h_2 (p1.add 1) fun v6=>
 vLen v6 fun n7=>
 lq1 (0:Int) h_2 fun J n x8 h_3=>
 bif decide (x8<(n7:Int)) then
 vIdx v6 x8 2 fun p11=>
 ldI .i64 h_3 p11 fun x12_0=>
 ldI .i64 h_3 (p11.add 1) fun x12_1=>
 vNew h_3 (.cells #[zi 0,zi 0] Zbi) fun p4 h_4=>
 vStore1 h_4 p4 (zi x12_0) fun h_5=>
 vStore1 h_5 (p4.add 1) (zi x12_1) fun h_6=>
 ∃ B:Nat→Prop,
 ldI .i64 h_6 p4 fun x14=>
 bif decide (x14<0) then
 R (.bool false) h_6
 else
 ldI .i64 h_6 p4 fun x18=>
 ldI .i64 h_6 (p4.add 1) fun x20=>
 bif decide (x18≥x20) then
 R (.bool false) h_6
 else
 ldV h_6 p1 fun v27=>
 zI ZaJ #[v27] h_6 fun x28 h_7=>
 ExtBut B h_6 h_7 ∧
 ldI .i64 (hmask B h_6) (p4.add 1) fun x25=>
 bif decide (x25≥x28) then
 R (.bool false) h_7
 else
 bif decide (x8>0) then
 ldV h_7 (p1.add 1) fun v36=>
 vIdx v36 (zw (x8-1)) 2 fun p39=>
 ldI .i64 h_7 p39 fun x40_0=>
 ldI .i64 h_7 (p39.add 1) fun x40_1=>
 ldI .i64 h_7 p4 fun x41_0=>
 ldI .i64 h_7 (p4.add 1) fun x41_1=>
 zI ZkT #[.agg #[zi x40_0,zi x40_1],.agg #[zi x41_0,zi x41_1]] h_7 fun x42 h_8=>
 bif decide (x42≥0) then
 R (.bool false) h_8
 else
 ag1 J n (zw (x8+1)) h_8
 else
 ag1 J n (zw (x8+1)) h_7
 else
 ldV h_3 p1 fun v48=>
 zB Zmi #[v48] h_3 fun b49 h_9=>
 bif b49 then
 ldV h_9 (p1.add 1) fun v52=>
 vLen v52 fun n53=>
 R (.bool (decide ((n53:Int)≤512))) h_9
 else
 R (.bool false) h_9):CallsH P ZnA #[.agg #[v0_0,v0_1]] h R:=zv ⟨[(2,[(8,.i .i64)])],[],[]⟩ Tryz.func172 hv
theorem ZwN {x0_0 x0_1:Int} {v0_2:Value} (hv:
 vNew h (.cells #[zi x0_0,zi x0_1,v0_2] Zas) fun p1 h_2=>
 vNew h_2 (.cells #[.slice none 0 0,.slice none 0 0] Zco) fun p2 h_3=>
 ldI .i64 h_3 (p1.add 1) fun x8=>
 zB Z9 #[zi x8,zi 0,zi 64] h_3 fun b9 h_4=>
 bif !b9 then
 vStore1 h_4 p2 (.slice none 0 0) fun h_5=>
 vStore1 h_5 (p2.add 1) (.slice none 0 0) fun h_6=>
 ldV h_6 p2 fun vres0_0=>
 ldV h_6 (p2.add 1) fun vres0_1=>
 R (.tuple #[.agg #[vres0_0,vres0_1],.bool false]) h_6
 else
 ldI .i64 h_4 (p1.add 1) fun x13=>
 vMake 8 [zi 0] Zh x13 x13 h_4 fun v14 h_7=>
 vOne v14 fun _=>
 vNew h_7 (.cells #[.slice none 0 0,.slice none 0 0] Zco) fun p4 h_8=>
 vStore1 h_8 p4 v14 fun h_9=>
 vStore1 h_9 (p4.add 1) (.slice none 0 0) fun h_10=>
 ldV h_10 (p1.add 2) fun v17=>
 vLen v17 fun n18=>
 lq1 (0:Int) h_10 fun J n x19 h_11=>
 bif decide (x19<(n18:Int)) then
 vIdx v17 x19 1 fun p21=>
 ldV h_11 p21 fun v22=>
 vLen v22 fun n24=>
 bif (n24:Int) !=2 then
 vStore1 h_11 p2 (.slice none 0 0) fun h_12=>
 vStore1 h_12 (p2.add 1) (.slice none 0 0) fun h_13=>
 ldV h_13 p2 fun vres0_0_2=>
 ldV h_13 (p2.add 1) fun vres0_1_2=>
 R (.tuple #[.agg #[vres0_0_2,vres0_1_2],.bool false]) h_13
 else
 ∃ B:Nat→Prop,
 vIdx v22 0 1 fun p30=>
 ldI .i64 h_11 p30 fun x31=>
 vIdx v22 1 1 fun p33=>
 ldI .i64 h_11 p33 fun x34=>
 vNewS h_11 (.cells #[zi x31,zi x34] Zbi) 1 fun v36 h_14=>
 ExtBut B h_11 h_14 ∧
 ldV (hmask B h_11) (p4.add 1) fun v28=>
 vAppend 2 16 [zi 0,zi 0] Zbi v28 v36 h_14 fun v37 h_15=>
 vStore1 h_15 (p4.add 1) v37 fun h_16=>
 ag1 J n (zw (x19+1)) h_16
 else
 ∃ B_2:Nat→Prop,
 ldV h_11 p4 fun v41_0=>
 ldV h_11 (p4.add 1) fun v41_1=>
 zB ZnA #[.agg #[v41_0,v41_1]] h_11 fun b42 h_17=>
 ExtBut B_2 h_11 h_17 ∧
 ldV (hmask B_2 h_11) p4 fun v40_0=>
 ldV (hmask B_2 h_11) (p4.add 1) fun v40_1=>
 vStore1 h_17 p2 v40_0 fun h_18=>
 vStore1 h_18 (p2.add 1) v40_1 fun h_19=>
 ldV h_19 p2 fun vres0_0_3=>
 ldV h_19 (p2.add 1) fun vres0_1_3=>
 R (.tuple #[.agg #[vres0_0_3,vres0_1_3],.bool b42]) h_19):CallsH P Zms #[.agg #[zi x0_0,zi x0_1,v0_2]] h R:=zv ⟨[(5,[(19,.i .i64)])],[],[]⟩ Tryz.func91 hv
theorem ZtX {x0:Int} (hv:
 vMake 8 [zi 0] Zh x0 x0 h fun v6 h_2=>
 vLen v6 fun n8=>
 lq1 (0:Int) h_2 fun J n x9 h_3=>
 bif decide (x9<(n8:Int)) then
 vIdx v6 x9 1 fun p15=>
 vStore1 h_3 p15 (zi x9) fun h_4=>
 ag1 J n (zw (x9+1)) h_4
 else
 R v6 h_3):CallsH P Zk3 #[zi x0] h R:=zv ⟨[(3,[(9,.i .i64)])],[],[]⟩ Tryz.func189 hv
theorem Zz9 {v0:Value} (hv:
 vLen v0 fun n7=>
 vMake 1 [.int .u8 0] Zjb (n7:Int) (n7:Int) h fun v8 h_2=>
 vLen v0 fun n10=>
 lq1 (0:Int) h_2 fun J n x11 h_3=>
 bif decide (x11<(n10:Int)) then
 vIdx v0 x11 1 fun p14=>
 ldI .i64 h_3 p14 fun x15=>
 vIdx v8 x11 1 fun p20=>
 vStore1 h_3 p20 (.int .u8 (IntKind.u8.wrap x15)) fun h_4=>
 ag1 J n (zw (x11+1)) h_4
 else
 vB2S v8 h_3 fun s23=>
 R (.string s23) h_3):CallsH P Zjp #[v0] h R:=zv ⟨[(3,[(11,.i .i64)])],[],[]⟩ Tryz.func325 hv
theorem Zyz {v0 v1:Value} (hv:
 vLen v0 fun n8=>
 vMake 8 [zi 0] Zh (n8:Int) (n8:Int) h fun v9 h_2=>
 vLen v9 fun n11=>
 lq1 (0:Int) h_2 fun J n x12 h_3=>
 bif decide (x12<(n11:Int)) then
 vIdx v0 x12 1 fun p20=>
 ldI .i64 h_3 p20 fun x21=>
 vIdx v1 x21 1 fun p22=>
 ldI .i64 h_3 p22 fun x23=>
 vIdx v9 x12 1 fun p24=>
 vStore1 h_3 p24 (zi x23) fun h_4=>
 ag1 J n (zw (x12+1)) h_4
 else
 R v9 h_3):CallsH P Zm6 #[v0,v1] h R:=zv ⟨[(3,[(12,.i .i64)])],[],[]⟩ Tryz.func326 hv
theorem Zt5 {x0:Int} {v1:Value} (hv:
 zV Zk3 #[zi x0] h fun v14 h_2=>
 vOne v14 fun _=>
 vNewS h_2 (.cells #[v14] Zg) 1 fun v15 h_3=>
 vMapNew h_3 fun v16 h_4=>
 vIdx v15 0 1 fun p18=>
 ldV h_4 p18 fun v19=>
 zS Zjp #[v19] h_4 fun s20 h_5=>
 vMapSet .str v16 (.string s20) (.bool true) h_5 fun h_6=>
 lq2 v15 (0:Int) h_6 fun J n v6 x8 h_7=>
 vLen v6 fun n24=>
 bif decide (x8<(n24:Int)) then
 vLen v1 fun n29=>
 lq2 v6 (0:Int) h_7 fun J_2 n_3 v6_2 x30 h_8=>
 bif decide (x30<(n29:Int)) then
 vIdx v1 x30 1 fun p32=>
 ldV h_8 p32 fun v33=>
 vIdx v6_2 x8 1 fun p36=>
 ldV h_8 p36 fun v37=>
 zV Zm6 #[v37,v33] h_8 fun v39 h_9=>
 zS Zjp #[v39] h_9 fun s41 h_10=>
 mapGetB .str v16 (.string s41) h_10 fun b44=>
 bif !b44 then
 vMapSet .str v16 (.string s41) (.bool true) h_10 fun h_11=>
 vOne v39 fun _=>
 vNewS h_11 (.cells #[v39] Zg) 1 fun v50 h_12=>
 vAppend 1 24 [.slice none 0 0] Zg v6_2 v50 h_12 fun v51 h_13=>
 ag2 J_2 n_3 v51 (zw (x30+1)) h_13
 else
 ag2 J_2 n_3 v6_2 (zw (x30+1)) h_10
 else
 vLen v6_2 fun n54=>
 bif decide ((n54:Int)>720) then
 R (.tuple #[(.slice none 0 0),.bool false]) h_8
 else
 ag2 J n v6_2 (zw (x8+1)) h_8
 else
 CallsH P Zrk #[v6,.func (.func ZcC) #[] #[]] h_7 fun r57 h_14=>r57=.tuple #[] ∧
 R (.tuple #[v6,.bool true]) h_14):CallsH P Zjv #[zi x0,v1] h R:=zv ⟨[(4,[(6,.v),(8,.i .i64)]),(7,[(6,.v),(30,.i .i64)])],[],[]⟩ Tryz.func255 hv
theorem Zu4 {v0 v1:Value} {g2:Nat} {cap2:List Value} (hv:
 vLen v0 fun n13=>
 lq2 (0:Int) (n13:Int) h fun J n x9 x10 h_2=>
 bif decide (x9<x10) then
 (0:Int)≤1 ∧
 vIdx v0 (zw (Int.fdiv (IntKind.u64.wrap (zw (x9+x10))) (2^min (1:Int).toNat IntKind.u64.bits))) 1 fun p27=>
 ldV h_2 p27 fun v28=>
 vOkf ctx g2 fun _=>
 CallsH P g2 (([v28,v1]:List Value)++cap2).toArray h_2 fun r30 h_3=>∃ x30,r30=zi x30 ∧
 bif decide (x30<0) then
 ag2 J n (zw ((zw (Int.fdiv (IntKind.u64.wrap (zw (x9+x10))) (2^min (1:Int).toNat IntKind.u64.bits)))+1)) x10 h_3
 else
 ag2 J n x9 (zw (Int.fdiv (IntKind.u64.wrap (zw (x9+x10))) (2^min (1:Int).toNat IntKind.u64.bits))) h_3
 else
 bif decide (x9<(n13:Int)) then
 vIdx v0 x9 1 fun p43=>
 ldV h_2 p43 fun v44=>
 vOkf ctx g2 fun _=>
 CallsH P g2 (([v44,v1]:List Value)++cap2).toArray h_2 fun r46 h_4=>∃ x46,r46=zi x46 ∧
 R (.tuple #[zi x9,.bool (x46==0)]) h_4
 else
 R (.tuple #[zi x9,.bool false]) h_2):CallsH P Zk0 #[v0,v1,.func (.func g2) #[] cap2.toArray] h R:=zv ⟨[(3,[(9,.i .i64),(10,.i .i64)])],[],[]⟩ Tryz.func256 hv
theorem Ztk {x0:Int} {v1:Value} (hv:
 CallsH P Zjv #[zi x0,(.slice none 0 0)] h fun r16 h_2=>∃ (v16_0:Value),∃ (b16_1:Bool),r16=.tuple #[v16_0,.bool b16_1] ∧
 vLen v1 fun n20=>
 lq4 ((.slice none 0 0):Value) v16_0 b16_1 (0:Int) h_2 fun J n v7 v8 b9 x21 h_3=>
 bif decide (x21<(n20:Int)) then
 vIdx v1 x21 1 fun p23=>
 ldV h_3 p23 fun v24=>
 ∃ J_2:Heap→Prop,(
 CallsH P Zk0 #[v8,v24,.func (.func ZcC) #[] #[]] h_3 fun r28 h_4=>∃ x28_0,∃ (b28_1:Bool),r28=.tuple #[zi x28_0,.bool b28_1] ∧
 bif b28_1 then
 ag4 J n v7 v8 b9 (zw (x21+1)) h_4
 else
 bif !b9 then
 ag4 J n v7 v8 b9 (zw (x21+1)) h_4
 else
 J_2 h_4
 )∧∀ (_:Env) (h_5:Heap),J_2 h_5 →
 vOne v24 fun _=>
 vNewS h_5 (.cells #[v24] Zg) 1 fun v38 h_6=>
 vAppend 1 24 [.slice none 0 0] Zg v7 v38 h_6 fun v39 h_7=>
 CallsH P Zjv #[zi x0,v39] h_7 fun r43 h_8=>∃ (v43_0:Value),∃ (b43_1:Bool),r43=.tuple #[v43_0,.bool b43_1] ∧
 ag4 J n v39 v43_0 b43_1 (zw (x21+1)) h_8
 else
 R (.tuple #[v7,v8,.bool b9]) h_3):CallsH P Zmw #[zi x0,v1] h R:=zv ⟨[(4,[(7,.v),(8,.v),(9,.b),(21,.i .i64)])],[(8,[])],[]⟩ Tryz.func173 hv
theorem Zvj {x0_0:Int} {v0_1:Value} (hv:
 vNew h (.cells #[zi x0_0,v0_1] ZnF) fun p1 h_2=>
 ∃ J:Heap→Prop,(
 ldI .i64 h_2 p1 fun x8=>
 zB Z9 #[zi x8,zi 1,zi 32] h_2 fun b9 h_3=>
 bif !b9 then
 R (.bool false) h_3
 else
 ldV h_3 (p1.add 1) fun v13=>
 vLen v13 fun n14=>
 bif decide ((n14:Int)<1) then
 R (.bool false) h_3
 else
 ldV h_3 (p1.add 1) fun v19=>
 vLen v19 fun n20=>
 bif decide ((n20:Int)>720) then
 R (.bool false) h_3
 else
 ldI .i64 h_3 p1 fun x25=>
 ldV h_3 (p1.add 1) fun v27=>
 zB Zjc #[zi x25,v27] h_3 fun b28 h_4=>
 bif !b28 then
 R (.bool false) h_4
 else
 J h_4
 )∧∀ (_:Env) (h_5:Heap),J h_5 →
 lq1 (1:Int) h_5 fun J_2 n x3 h_6=>
 ldV h_6 (p1.add 1) fun v33=>
 vLen v33 fun n34=>
 bif decide (x3<(n34:Int)) then
 ldV h_6 (p1.add 1) fun v39=>
 vIdx v39 (zw (x3-1)) 1 fun p42=>
 ldV h_6 p42 fun v43=>
 ldV h_6 (p1.add 1) fun v45=>
 vIdx v45 x3 1 fun p47=>
 ldV h_6 p47 fun v48=>
 zI ZcC #[v43,v48] h_6 fun x49 h_7=>
 bif decide (x49≥0) then
 R (.bool false) h_7
 else
 ag1 J_2 n (zw (x3+1)) h_7
 else
 ldI .i64 h_6 p1 fun x53=>
 ldV h_6 (p1.add 1) fun v55=>
 CallsH P Zmw #[zi x53,v55] h_6 fun r56 h_8=>∃ (v56_0:Value),∃ (v56_1:Value),∃ (b56_2:Bool),r56=.tuple #[v56_0,v56_1,.bool b56_2] ∧
 bif b56_2 then
 vLen v56_1 fun n63=>
 ldV h_8 (p1.add 1) fun v65=>
 vLen v65 fun n66=>
 R (.bool ((n63:Int)==(n66:Int))) h_8
 else
 R (.bool false) h_8):CallsH P ZnT #[.agg #[zi x0_0,v0_1]] h R:=zv ⟨[(4,[(3,.i .i64)])],[(3,[])],[]⟩ Tryz.func92 hv
theorem Zw9 {x0_0 x0_1:Int} {v0_2:Value} (hv:
 vNew h (.cells #[zi x0_0,zi x0_1,v0_2] Zas) fun p1 h_2=>
 vNew h_2 (.cells #[zi 0,.slice none 0 0] ZnF) fun p2 h_3=>
 ∃ B:Nat→Prop,
 ldV h_3 (p1.add 2) fun v6=>
 zV Zcy #[v6] h_3 fun v7 h_4=>
 ExtBut B h_3 h_4 ∧
 ldI .i64 (hmask B h_3) (p1.add 1) fun x4=>
 vOne v7 fun _=>
 vStore1 h_4 p2 (zi x4) fun h_5=>
 vStore1 h_5 (p2.add 1) v7 fun h_6=>
 ldI .i64 h_6 p2 fun xres0_0=>
 ldV h_6 (p2.add 1) fun vres0_1=>
 R (.agg #[zi xres0_0,vres0_1]) h_6):CallsH P ZkA #[.agg #[zi x0_0,zi x0_1,v0_2]] h R:=zv ⟨[],[],[]⟩ Tryz.func93 hv
theorem ZvG {x0_0 x0_1:Int} {v0_2:Value} (hv:
 vNew h (.cells #[zi x0_0,zi x0_1,v0_2] Zas) fun p1 h_2=>
 ldI .i64 h_2 p1 fun x6=>
 bif x6==1 then
 ∃ B:Nat→Prop,
 ldV h_2 (p1.add 2) fun v10=>
 zI ZcJ #[v10] h_2 fun x11 h_3=>
 ExtBut B h_2 h_3 ∧
 ldI .i64 (hmask B h_2) (p1.add 1) fun x13=>
 bif x11==x13 then
 ldV h_3 (p1.add 2) fun v17=>
 zB Zng #[v17] h_3 fun b18 h_4=>
 R (.bool b18) h_4
 else
 R (.bool false) h_3
 else
 bif x6==2 then
 ldI .i64 h_2 p1 fun x22_0=>
 ldI .i64 h_2 (p1.add 1) fun x22_1=>
 ldV h_2 (p1.add 2) fun v22_2=>
 CallsH P Zn9 #[.agg #[zi x22_0,zi x22_1,v22_2]] h_2 fun r23 h_5=>∃ x23_0_0,∃ (v23_0_1:Value),r23=.agg #[zi x23_0_0,v23_0_1] ∧
 zB Znt #[.agg #[zi x23_0_0,v23_0_1]] h_5 fun b24 h_6=>
 R (.bool b24) h_6
 else
 bif x6==3 then
 ∃ B_2:Nat→Prop,
 ldV h_2 (p1.add 2) fun v28=>
 zI ZcJ #[v28] h_2 fun x29 h_7=>
 ExtBut B_2 h_2 h_7 ∧
 ldI .i64 (hmask B_2 h_2) (p1.add 1) fun x31=>
 bif x29==x31 then
 ldV h_7 (p1.add 2) fun v35=>
 zB Zl6 #[v35] h_7 fun b36 h_8=>
 R (.bool b36) h_8
 else
 R (.bool false) h_7
 else
 bif x6==4 then
 ldV h_2 (p1.add 2) fun v41=>
 vLen v41 fun n42=>
 bif decide ((n42:Int)>0) then
 ldI .i64 h_2 p1 fun x45_0=>
 ldI .i64 h_2 (p1.add 1) fun x45_1=>
 ldV h_2 (p1.add 2) fun v45_2=>
 CallsH P Zn3 #[.agg #[zi x45_0,zi x45_1,v45_2]] h_2 fun r46 h_9=>∃ x46_0_0,∃ x46_0_1,∃ (v46_0_2:Value),r46=.agg #[zi x46_0_0,zi x46_0_1,v46_0_2] ∧
 zB ZlS #[.agg #[zi x46_0_0,zi x46_0_1,v46_0_2]] h_9 fun b47 h_10=>
 R (.bool b47) h_10
 else
 R (.bool false) h_2
 else
 bif x6==5 then
 ldI .i64 h_2 p1 fun x51_0=>
 ldI .i64 h_2 (p1.add 1) fun x51_1=>
 ldV h_2 (p1.add 2) fun v51_2=>
 CallsH P ZmD #[.agg #[zi x51_0,zi x51_1,v51_2]] h_2 fun r52 h_11=>∃ x52_0_0,∃ x52_0_1,∃ (v52_0_2:Value),∃ (v52_0_3:Value),r52=.agg #[zi x52_0_0,zi x52_0_1,v52_0_2,v52_0_3] ∧
 zB Zkx #[.agg #[zi x52_0_0,zi x52_0_1,v52_0_2,v52_0_3]] h_11 fun b53 h_12=>
 R (.bool b53) h_12
 else
 bif x6==6 then
 ldI .i64 h_2 p1 fun x57_0=>
 ldI .i64 h_2 (p1.add 1) fun x57_1=>
 ldV h_2 (p1.add 2) fun v57_2=>
 CallsH P Zms #[.agg #[zi x57_0,zi x57_1,v57_2]] h_2 fun r58 h_13=>∃ (v58_0_0:Value),∃ (v58_0_1:Value),∃ (b58_1:Bool),r58=.tuple #[.agg #[v58_0_0,v58_0_1],.bool b58_1] ∧
 vNew h_13 (.cells #[.slice none 0 0,.slice none 0 0] Zco) fun p3 h_14=>
 vStore1 h_14 p3 v58_0_0 fun h_15=>
 vStore1 h_15 (p3.add 1) v58_0_1 fun h_16=>
 R (.bool b58_1) h_16
 else
 bif x6==7 then
 ldI .i64 h_2 p1 fun x64_0=>
 ldI .i64 h_2 (p1.add 1) fun x64_1=>
 ldV h_2 (p1.add 2) fun v64_2=>
 CallsH P ZkA #[.agg #[zi x64_0,zi x64_1,v64_2]] h_2 fun r65 h_17=>∃ x65_0_0,∃ (v65_0_1:Value),r65=.agg #[zi x65_0_0,v65_0_1] ∧
 zB ZnT #[.agg #[zi x65_0_0,v65_0_1]] h_17 fun b66 h_18=>
 R (.bool b66) h_18
 else
 R (.bool false) h_2):CallsH P ZjG #[.agg #[zi x0_0,zi x0_1,v0_2]] h R:=zv ⟨[],[],[]⟩ Tryz.func36 hv
theorem Zyx {x0:Int} (hv:
 zB Z9 #[zi x0,zi 1,zi 7] h fun b4 h_2=>
 R (.bool b4) h_2):CallsH P Znh #[zi x0] h R:=zv ⟨[],[],[]⟩ Tryz.func177 hv
theorem ZxP {x0:Int} (hv:
 zB Znh #[zi x0] h fun b4 h_2=>
 bif !b4 then
 R (.string ⟨#[]⟩) h_2
 else
 zV Zip #[] h_2 fun v6 h_3=>
 vIdx v6 (zw (x0-1)) 1 fun p9=>
 ldS h_3 p9 fun s10=>
 R (.string s10) h_3):CallsH P Zns #[zi x0] h R:=zv ⟨[],[],[]⟩ Tryz.func95 hv
theorem ZAo {x0_0 x0_1:Int} {v0_2:Value} (hv:
 vNew h (.cells #[zi x0_0,zi x0_1,v0_2] Zas) fun p1 h_2=>
 ldI .i64 h_2 p1 fun x7_0=>
 ldI .i64 h_2 (p1.add 1) fun x7_1=>
 ldV h_2 (p1.add 2) fun v7_2=>
 zB ZjG #[.agg #[zi x7_0,zi x7_1,v7_2]] h_2 fun b8 h_3=>
 bif !b8 then
 R (.string ⟨#[]⟩) h_3
 else
 ∃ J:ByteArray→Heap→Prop,(
 ldV h_3 (p1.add 2) fun v11=>
 vLen v11 fun n12=>
 bif decide ((n12:Int)>0) then
 ldV h_3 (p1.add 2) fun v15=>
 vLen v15 fun n16=>
 lq2 ((.slice none 0 0):Value) (0:Int) h_3 fun J_2 n v4 x17 h_4=>
 bif decide (x17<(n16:Int)) then
 vIdx v15 x17 1 fun p19=>
 ldV h_4 p19 fun v20=>
 zS ZiW #[v20] h_4 fun s23 h_5=>
 vNewS h_5 (.cells #[.string s23] ZaT) 1 fun v24 h_6=>
 vAppend 1 16 [.string ⟨#[]⟩] ZaT v4 v24 h_6 fun v25 h_7=>
 ag2 J_2 n v25 (zw (x17+1)) h_7
 else
 zS Zoh #[v4,.string ⟨#[47]⟩] h_4 fun s28 h_8=>
 J s28 h_8
 else
 J ⟨#[110,111,110,101]⟩ h_3
 )∧∀ (_:Env) (s3:ByteArray) (h_9:Heap),J s3 h_9 →
 ∃ B:Nat→Prop,
 ldI .i64 h_9 p1 fun x30=>
 zS Zns #[zi x30] h_9 fun s31 h_10=>
 ExtBut B h_9 h_10 ∧
 ldI .i64 (hmask B h_9) (p1.add 1) fun x34=>
 zS ZdW #[zi x34] h_10 fun s35 h_11=>
 (((s31:ByteArray).size+(⟨#[32]⟩:ByteArray).size:Nat):Int)≤IntKind.i64.max ∧
 ((((s31:ByteArray)++(⟨#[32]⟩:ByteArray):ByteArray).size+(s35:ByteArray).size:Nat):Int)≤IntKind.i64.max ∧
 (((((s31:ByteArray)++(⟨#[32]⟩:ByteArray):ByteArray)++(s35:ByteArray):ByteArray).size+(⟨#[32]⟩:ByteArray).size:Nat):Int)≤IntKind.i64.max ∧
 ((((((s31:ByteArray)++(⟨#[32]⟩:ByteArray):ByteArray)++(s35:ByteArray):ByteArray)++(⟨#[32]⟩:ByteArray):ByteArray).size+(s3:ByteArray).size:Nat):Int)≤IntKind.i64.max ∧
 R (.string (((((s31:ByteArray)++(⟨#[32]⟩:ByteArray):ByteArray)++(s35:ByteArray):ByteArray)++(⟨#[32]⟩:ByteArray):ByteArray)++(s3:ByteArray))) h_11):CallsH P ZkJ #[.agg #[zi x0_0,zi x0_1,v0_2]] h R:=zv ⟨[(7,[(4,.v),(17,.i .i64)])],[(12,[(3,.s)])],[]⟩ Tryz.func37 hv
theorem Zzw {s0:ByteArray} (hv:
 vNew h (.cells #[zi 0,zi 0,.slice none 0 0] Zas) fun p2 h_2=>
 zV Zhs #[.string s0,.string ⟨#[32]⟩] h_2 fun v11 h_3=>
 vLen v11 fun n13=>
 bif (n13:Int) !=3 then
 vStore1 h_3 p2 (zi 0) fun h_4=>
 vStore1 h_4 (p2.add 1) (zi 0) fun h_5=>
 vStore1 h_5 (p2.add 2) (.slice none 0 0) fun h_6=>
 ldI .i64 h_6 p2 fun xres0_0=>
 ldI .i64 h_6 (p2.add 1) fun xres0_1=>
 ldV h_6 (p2.add 2) fun vres0_2=>
 R (.tuple #[.agg #[zi xres0_0,zi xres0_1,vres0_2],.bool false]) h_6
 else
 vNew h_3 (.cells #[zi 0,zi 0,.slice none 0 0] Zas) fun p5 h_7=>
 vIdx v11 0 1 fun p18=>
 ldS h_7 p18 fun s19=>
 CallsH P ZlD #[.string s19] h_7 fun r20 h_8=>∃ x20_0,∃ (b20_1:Bool),r20=.tuple #[zi x20_0,.bool b20_1] ∧
 vStore1 h_8 p5 (zi x20_0) fun h_9=>
 vIdx v11 1 1 fun p26=>
 ldS h_9 p26 fun s27=>
 CallsH P Zg1 #[.string s27] h_9 fun r28 h_10=>∃ x28_0,∃ (b28_1:Bool),r28=.tuple #[zi x28_0,.bool b28_1] ∧
 vStore1 h_10 (p5.add 1) (zi x28_0) fun h_11=>
 ∃ J:Heap→Prop,(
 vIdx v11 2 1 fun p33=>
 ldS h_11 p33 fun s34=>
 bif !(s34.toList==(⟨#[110,111,110,101]⟩:ByteArray).toList) then
 vIdx v11 2 1 fun p37=>
 ldS h_11 p37 fun s38=>
 zV Zhs #[.string s38,.string ⟨#[47]⟩] h_11 fun v39 h_12=>
 vLen v39 fun n40=>
 lq1 (0:Int) h_12 fun J_2 n x41 h_13=>
 bif decide (x41<(n40:Int)) then
 vIdx v39 x41 1 fun p43=>
 ldS h_13 p43 fun s44=>
 CallsH P Zmm #[.string s44] h_13 fun r47 h_14=>∃ (v47_0:Value),∃ (b47_1:Bool),r47=.tuple #[v47_0,.bool b47_1] ∧
 ldV h_14 (p5.add 2) fun v51=>
 vOne v47_0 fun _=>
 vNewS h_14 (.cells #[v47_0] Zg) 1 fun v53 h_15=>
 vAppend 1 24 [.slice none 0 0] Zg v51 v53 h_15 fun v54 h_16=>
 vStore1 h_16 (p5.add 2) v54 fun h_17=>
 ag1 J_2 n (zw (x41+1)) h_17
 else
 J h_13
 else
 J h_11
 )∧∀ (_:Env) (h_18:Heap),J h_18 →
 ldI .i64 h_18 p5 fun x57_0=>
 ldI .i64 h_18 (p5.add 1) fun x57_1=>
 ldV h_18 (p5.add 2) fun v57_2=>
 zB ZjG #[.agg #[zi x57_0,zi x57_1,v57_2]] h_18 fun b58 h_19=>
 bif !b58 then
 vStore1 h_19 p2 (zi 0) fun h_20=>
 vStore1 h_20 (p2.add 1) (zi 0) fun h_21=>
 vStore1 h_21 (p2.add 2) (.slice none 0 0) fun h_22=>
 ldI .i64 h_22 p2 fun xres0_0_2=>
 ldI .i64 h_22 (p2.add 1) fun xres0_1_2=>
 ldV h_22 (p2.add 2) fun vres0_2_2=>
 R (.tuple #[.agg #[zi xres0_0_2,zi xres0_1_2,vres0_2_2],.bool false]) h_22
 else
 ldI .i64 h_19 p5 fun x61_0=>
 ldI .i64 h_19 (p5.add 1) fun x61_1=>
 ldV h_19 (p5.add 2) fun v61_2=>
 zS ZkJ #[.agg #[zi x61_0,zi x61_1,v61_2]] h_19 fun s62 h_23=>
 bif !(s62.toList==s0.toList) then
 vStore1 h_23 p2 (zi 0) fun h_24=>
 vStore1 h_24 (p2.add 1) (zi 0) fun h_25=>
 vStore1 h_25 (p2.add 2) (.slice none 0 0) fun h_26=>
 ldI .i64 h_26 p2 fun xres0_0_3=>
 ldI .i64 h_26 (p2.add 1) fun xres0_1_3=>
 ldV h_26 (p2.add 2) fun vres0_2_3=>
 R (.tuple #[.agg #[zi xres0_0_3,zi xres0_1_3,vres0_2_3],.bool false]) h_26
 else
 ldI .i64 h_23 p5 fun x67_0=>
 ldI .i64 h_23 (p5.add 1) fun x67_1=>
 ldV h_23 (p5.add 2) fun v67_2=>
 vStore1 h_23 p2 (zi x67_0) fun h_27=>
 vStore1 h_27 (p2.add 1) (zi x67_1) fun h_28=>
 vStore1 h_28 (p2.add 2) v67_2 fun h_29=>
 ldI .i64 h_29 p2 fun xres0_0_4=>
 ldI .i64 h_29 (p2.add 1) fun xres0_1_4=>
 ldV h_29 (p2.add 2) fun vres0_2_4=>
 R (.tuple #[.agg #[zi xres0_0_4,zi xres0_1_4,vres0_2_4],.bool true]) h_29):CallsH P ZkX #[.string s0] h R:=zv ⟨[(9,[(41,.i .i64)])],[(14,[])],[]⟩ Tryz.func8 hv
theorem ZAa {s0:ByteArray} {x1:Int} (hv:
 lq1 (zw ((s0.size:Int)-1)) h fun J n x5 h_2=>
 bif decide (x5≥0) then
 vStrIdx s0 x5 fun c15=>
 bif ((c15.toNat:Int):Int)==x1 then
 R (zi x5) h_2
 else
 ag1 J n (zw (x5-1)) h_2
 else
 R (zi (-1)) h_2):CallsH P ZnY #[.string s0,.int .u8 x1] h R:=zv ⟨[(2,[(5,.i .i64)])],[],[]⟩ Tryz.func207 hv
theorem ZuV {s0:ByteArray} {x1:Int} (hv:
 zI ZnY #[.string s0,.int .u8 x1] h fun x7 h_2=>
 R (zi x7) h_2):CallsH P ZmA #[.string s0,.int .u8 x1] h R:=zv ⟨[],[],[]⟩ Tryz.func130 hv
theorem Zy4 {s0:ByteArray} {x1:Int} (hv:
 zB Z9 #[zi x1,zi 0,zi 65535] h fun b9 h_2=>
 bif !b9 then
 R (zi 0) h_2
 else
 vS2B s0 h_2 fun v13 h_3=>
 vLen v13 fun n14=>
 lq2 x1 (0:Int) h_3 fun J n x5 x15 h_4=>
 bif decide (x15<(n14:Int)) then
 vIdx v13 x15 1 fun p17=>
 ldI .u8 h_4 p17 fun x18=>
 (0:Int)≤8 ∧
 lq2 (zw ((BitVec.ofInt IntKind.i64.bits x5^^^BitVec.ofInt IntKind.i64.bits (zw ((zw x18)*2^min (8:Int).toNat IntKind.i64.bits))).toNat:Int)) (0:Int) h_4 fun J_2 n_3 x5_2 x24 h_5=>
 bif decide (x24<8) then
 (0:Int)≤1 ∧
 bif decide ((zw (x5_2*2^min (1:Int).toNat IntKind.i64.bits):Int)≥65536) then
 ag2 J_2 n_3 (zw ((BitVec.ofInt IntKind.i64.bits (zw ((BitVec.ofInt IntKind.i64.bits (zw (x5_2*2^min (1:Int).toNat IntKind.i64.bits))^^^BitVec.ofInt IntKind.i64.bits 4129).toNat:Int))&&&BitVec.ofInt IntKind.i64.bits 65535).toNat:Int)) (zw (x24+1)) h_5
 else
 ag2 J_2 n_3 (zw (x5_2*2^min (1:Int).toNat IntKind.i64.bits)) (zw (x24+1)) h_5
 else
 ag2 J n x5_2 (zw (x15+1)) h_5
 else
 R (zi x5) h_4):CallsH P ZmJ #[.string s0,zi x1] h R:=zv ⟨[(5,[(5,.i .i64),(15,.i .i64)]),(9,[(5,.i .i64),(24,.i .i64)])],[],[]⟩ Tryz.func131 hv
theorem ZsB {s0:ByteArray} (hv:
 ∃ J:Heap→Prop,(
 bif decide (((s0.size:Int):Int)<1) then
 R (.bool false) h
 else
 bif decide (((s0.size:Int):Int)>10) then
 R (.bool false) h
 else
 J h
 )∧∀ (_:Env) (h_2:Heap),J h_2 →
 vS2B s0 h_2 fun v16 h_3=>
 vLen v16 fun n17=>
 lq1 (0:Int) h_3 fun J_2 n x18 h_4=>
 bif decide (x18<(n17:Int)) then
 vIdx v16 x18 1 fun p21=>
 ldI .u8 h_4 p21 fun x22=>
 ∃ J_3:Bool→Heap→Prop,(
 bif decide (x22≥97) then
 J_3 (decide (x22≤122)) h_4
 else
 J_3 false h_4
 )∧∀ (_:Env) (b5:Bool) (h_5:Heap),J_3 b5 h_5 →
 ∃ J_4:Bool→Heap→Prop,(
 bif decide (x22≥48) then
 J_4 (decide (x22≤57)) h_5
 else
 J_4 false h_5
 )∧∀ (_:Env) (b6:Bool) (h_6:Heap),J_4 b6 h_6 →
 bif !b5 then
 bif x18==0 then
 R (.bool false) h_6
 else
 bif !b6 then
 R (.bool false) h_6
 else
 ag1 J_2 n (zw (x18+1)) h_6
 else
 ag1 J_2 n (zw (x18+1)) h_6
 else
 R (.bool true) h_4):CallsH P Znu #[.string s0] h R:=zv ⟨[(4,[(18,.i .i64)])],[(3,[]),(7,[(5,.b)]),(8,[(6,.b)])],[]⟩ Tryz.func133 hv
theorem ZxV {s0:ByteArray} (hv:
 vNew h (.cells #[zi 0,zi 0,.slice none 0 0] Zas) fun p3 h_2=>
 zI ZmA #[.string s0,.int .u8 32] h_2 fun x12 h_3=>
 ∃ J:Heap→Prop,(
 bif decide (x12<0) then
 vStore1 h_3 p3 (zi 0) fun h_4=>
 vStore1 h_4 (p3.add 1) (zi 0) fun h_5=>
 vStore1 h_5 (p3.add 2) (.slice none 0 0) fun h_6=>
 ldI .i64 h_6 p3 fun xres1_0=>
 ldI .i64 h_6 (p3.add 1) fun xres1_1=>
 ldV h_6 (p3.add 2) fun vres1_2=>
 R (.tuple #[.string ⟨#[]⟩,.agg #[zi xres1_0,zi xres1_1,vres1_2],zi 10]) h_6
 else
 vSliceStr s0 none (some (zi x12)) fun s22=>
 zI ZmJ #[.string s22,zi 65535] h_3 fun x23 h_7=>
 zS ZdW #[zi x23] h_7 fun s24 h_8=>
 vSliceStr s0 (some (zi (zw (x12+1)))) none fun s19=>
 bif !(s19.toList==s24.toList) then
 vStore1 h_8 p3 (zi 0) fun h_9=>
 vStore1 h_9 (p3.add 1) (zi 0) fun h_10=>
 vStore1 h_10 (p3.add 2) (.slice none 0 0) fun h_11=>
 ldI .i64 h_11 p3 fun xres1_0_2=>
 ldI .i64 h_11 (p3.add 1) fun xres1_1_2=>
 ldV h_11 (p3.add 2) fun vres1_2_2=>
 R (.tuple #[.string ⟨#[]⟩,.agg #[zi xres1_0_2,zi xres1_1_2,vres1_2_2],zi 10]) h_11
 else
 J h_8
 )∧∀ (_:Env) (h_12:Heap),J h_12 →
 vSliceStr s0 none (some (zi x12)) fun s31=>
 CallsH P ZrO #[.string s31,.string ⟨#[32]⟩] h_12 fun r32 h_13=>∃ (s32_0:ByteArray),∃ (s32_1:ByteArray),∃ (b32_2:Bool),r32=.tuple #[.string s32_0,.string s32_1,.bool b32_2] ∧
 CallsH P ZkX #[.string s32_1] h_13 fun r38 h_14=>∃ x38_0_0,∃ x38_0_1,∃ (v38_0_2:Value),∃ (b38_1:Bool),r38=.tuple #[.agg #[zi x38_0_0,zi x38_0_1,v38_0_2],.bool b38_1] ∧
 vNew h_14 (.cells #[zi 0,zi 0,.slice none 0 0] Zas) fun p9 h_15=>
 vStore1 h_15 p9 (zi x38_0_0) fun h_16=>
 vStore1 h_16 (p9.add 1) (zi x38_0_1) fun h_17=>
 vStore1 h_17 (p9.add 2) v38_0_2 fun h_18=>
 ∃ J_2:Heap→Prop,(
 bif !b38_1 then
 vStore1 h_18 p3 (zi 0) fun h_19=>
 vStore1 h_19 (p3.add 1) (zi 0) fun h_20=>
 vStore1 h_20 (p3.add 2) (.slice none 0 0) fun h_21=>
 ldI .i64 h_21 p3 fun xres1_0_3=>
 ldI .i64 h_21 (p3.add 1) fun xres1_1_3=>
 ldV h_21 (p3.add 2) fun vres1_2_3=>
 R (.tuple #[.string ⟨#[]⟩,.agg #[zi xres1_0_3,zi xres1_1_3,vres1_2_3],zi 9]) h_21
 else
 zB Znu #[.string s32_0] h_18 fun b45 h_22=>
 bif !b45 then
 vStore1 h_22 p3 (zi 0) fun h_23=>
 vStore1 h_23 (p3.add 1) (zi 0) fun h_24=>
 vStore1 h_24 (p3.add 2) (.slice none 0 0) fun h_25=>
 ldI .i64 h_25 p3 fun xres1_0_4=>
 ldI .i64 h_25 (p3.add 1) fun xres1_1_4=>
 ldV h_25 (p3.add 2) fun vres1_2_4=>
 R (.tuple #[.string ⟨#[]⟩,.agg #[zi xres1_0_4,zi xres1_1_4,vres1_2_4],zi 9]) h_25
 else
 J_2 h_22
 )∧∀ (_:Env) (h_26:Heap),J_2 h_26 →
 ldI .i64 h_26 p9 fun x50_0=>
 ldI .i64 h_26 (p9.add 1) fun x50_1=>
 ldV h_26 (p9.add 2) fun v50_2=>
 vStore1 h_26 p3 (zi x50_0) fun h_27=>
 vStore1 h_27 (p3.add 1) (zi x50_1) fun h_28=>
 vStore1 h_28 (p3.add 2) v50_2 fun h_29=>
 ldI .i64 h_29 p3 fun xres1_0_5=>
 ldI .i64 h_29 (p3.add 1) fun xres1_1_5=>
 ldV h_29 (p3.add 2) fun vres1_2_5=>
 R (.tuple #[.string s32_0,.agg #[zi xres1_0_5,zi xres1_1_5,vres1_2_5],zi 0]) h_29):CallsH P Zlw #[.string s0] h R:=zv ⟨[],[(4,[]),(8,[])],[]⟩ Tryz.func63 hv
theorem ZAZ {s0:ByteArray} (hv:
 CallsH P Zks #[.string s0] h fun r14 h_2=>∃ (v14_0:Value),∃ x14_1,r14=.tuple #[v14_0,zi x14_1] ∧
 bif x14_1 !=0 then
 R (.tuple #[(.slice none 0 0),zi x14_1]) h_2
 else
 vLen v14_0 fun n21=>
 lq2 ((.slice none 0 0):Value) (0:Int) h_2 fun J n v6 x22 h_3=>
 bif decide (x22<(n21:Int)) then
 vIdx v14_0 x22 1 fun p25=>
 ldS h_3 p25 fun s26=>
 CallsH P Zlw #[.string s26] h_3 fun r29 h_4=>∃ (s29_0:ByteArray),∃ x29_1_0,∃ x29_1_1,∃ (v29_1_2:Value),∃ x29_2,r29=.tuple #[.string s29_0,.agg #[zi x29_1_0,zi x29_1_1,v29_1_2],zi x29_2] ∧
 vNew h_4 (.cells #[zi 0,zi 0,.slice none 0 0] Zas) fun p10 h_5=>
 vStore1 h_5 p10 (zi x29_1_0) fun h_6=>
 vStore1 h_6 (p10.add 1) (zi x29_1_1) fun h_7=>
 vStore1 h_7 (p10.add 2) v29_1_2 fun h_8=>
 bif x29_2 !=0 then
 vNewS h_8 (.cells #[zi (zw (x22+1))] Zh) 1 fun v38 h_9=>
 vAppend 1 8 [zi 0] Zh v6 v38 h_9 fun v39 h_10=>
 ag2 J n v39 (zw (x22+1)) h_10
 else
 ag2 J n v6 (zw (x22+1)) h_8
 else
 R (.tuple #[v6,zi 0]) h_3):CallsH P Zka #[.string s0] h R:=zv ⟨[(6,[(6,.v),(22,.i .i64)])],[],[]⟩ Tryz.func22 hv
theorem ZxC {v0 v1:Value} (hv:
 vLen v0 fun n7=>
 vLen v1 fun n9=>
 bif (n7:Int) !=(n9:Int) then
 R (.bool false) h
 else
 lq1 (0:Int) h fun J n x5 h_2=>
 vLen v0 fun n13=>
 bif decide (x5<(n13:Int)) then
 vIdx v0 x5 1 fun p19=>
 ldI .i64 h_2 p19 fun x20=>
 vIdx v1 x5 1 fun p23=>
 ldI .i64 h_2 p23 fun x24=>
 bif x20 !=x24 then
 R (.bool false) h_2
 else
 ag1 J n (zw (x5+1)) h_2
 else
 R (.bool true) h_2):CallsH P Zii #[v0,v1] h R:=zv ⟨[(4,[(5,.i .i64)])],[],[]⟩ Tryz.func23 hv
theorem Zx1 {v0:Value} {x1:Int} (hv:
 lq2 x1 (0:Int) h fun J n x1_2 x5 h_2=>
 vLen v0 fun n8=>
 bif decide (x5<(n8:Int)) then
 vIdx v0 x5 1 fun p15=>
 vStore1 h_2 p15 (zi x1_2) fun h_3=>
 ag2 J n (zw (x1_2+1)) (zw (x5+1)) h_3
 else
 R (zi x1_2) h_2):CallsH P Zlz #[v0,zi x1] h R:=zv ⟨[(2,[(1,.i .i64),(5,.i .i64)])],[],[]⟩ Tryz.func24 hv
theorem ZAI {v0:Value} {x1:Int} (hv:
 lq2 x1 (0:Int) h fun J n x1_2 x5 h_2=>
 vLen v0 fun n8=>
 bif decide (x5<(n8:Int)) then
 vIdx v0 x5 1 fun p14=>
 ldI .i64 h_2 p14 fun x15=>
 bif x15 !=x1_2 then
 R (zi (-1)) h_2
 else
 ag2 J n (zw (x1_2+1)) (zw (x5+1)) h_2
 else
 R (zi x1_2) h_2):CallsH P ZjP #[v0,zi x1] h R:=zv ⟨[(2,[(1,.i .i64),(5,.i .i64)])],[],[]⟩ Tryz.func25 hv
theorem Zxn {s0:ByteArray} (hv:
 bif decide (((s0.size:Int):Int)>1048576) then
 R (.bool true) h
 else
 CallsH P Znv #[.string s0] h fun r16 h_2=>∃ (v16_0:Value),∃ x16_1,r16=.tuple #[v16_0,zi x16_1] ∧
 CallsH P Zka #[.string s0] h_2 fun r21 h_3=>∃ (v21_0:Value),∃ x21_1,r21=.tuple #[v21_0,zi x21_1] ∧
 ∃ J:Heap→Prop,(
 zB Zii #[v21_0,v16_0] h_3 fun b26 h_4=>
 bif !b26 then
 R (.bool false) h_4
 else
 bif x21_1 !=x16_1 then
 R (.bool false) h_4
 else
 J h_4
 )∧∀ (_:Env) (h_5:Heap),J h_5 →
 zI Zlz #[v21_0,zi 1] h_5 fun x35 h_6=>
 zI ZjP #[v21_0,zi 1] h_6 fun x38 h_7=>
 bif decide (x38<0) then
 R (.bool false) h_7
 else
 bif x38 !=x35 then
 R (.bool false) h_7
 else
 CallsH P Zka #[.string s0] h_7 fun r46 h_8=>∃ (v46_0:Value),∃ x46_1,r46=.tuple #[v46_0,zi x46_1] ∧
 ∃ J_2:Heap→Prop,(
 zB Zii #[v46_0,v16_0] h_8 fun b51 h_9=>
 bif !b51 then
 R (.bool false) h_9
 else
 bif x46_1 !=x16_1 then
 R (.bool false) h_9
 else
 J_2 h_9
 )∧∀ (_:Env) (h_10:Heap),J_2 h_10 →
 zI ZjP #[v21_0,zi 1] h_10 fun x60 h_11=>
 bif decide (x60<0) then
 R (.bool false) h_11
 else
 bif x60 !=x35 then
 R (.bool false) h_11
 else
 R (.bool true) h_11):CallsH P ZmP #[.string s0] h R:=zv ⟨[],[(7,[]),(18,[])],[]⟩ Tryz.func6 hv
end Go.Proofs.YtmmbnjijjdakmaaGreatDoor
