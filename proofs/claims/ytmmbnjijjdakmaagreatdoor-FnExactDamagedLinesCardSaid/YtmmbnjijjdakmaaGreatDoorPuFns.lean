import Derived.Test.YtmmbnjijjdakmaaGreatDoorPuTxt
namespace Go.Proofs.YtmmbnjijjdakmaaGreatDoor
set_option linter.unusedSimpArgs false
open Go Go.Vc
set_option linter.unusedVariables false
structure Zbv where
 Points:Int
 Blocks:List (List Int)
structure Zf where
 Kind:Int
 Size:Int
 Rows:List (List Int)
structure Zac where
 Levels:Int
 Columns:Int
 Rows:List (List Int)
structure Zd where
 Prime:Int
 Degree:Int
 Poly:List Int
structure Zbf where
 Field:Zd
 Rows:List (List Int)
structure ZL where
 A:Int
 B:Int
structure Z1 where
 Colors:List Int
 Edges:List ZL
structure ZaK where
 Degree:Int
 Elements:List (List Int)
structure ZaC where
 Name:ByteArray
 Object:Zf
 Key:ByteArray
structure Zai where
 qq:Int
 qadd:List (List Int)
 qsub:List (List Int)
 qmul:List (List Int)
 qinv:List Int
noncomputable section
def Zdr (s0:ByteArray) (by1:Int):List ByteArray×Int×Int→Option ((List ByteArray×Int×Int) ⊕ (List ByteArray))
 | (out5,from6,i7)=>
 bif decide (i7<(s0.size:Int)) then
 (gSt s0 i7).bind fun c17=>
 bif ((c17.toNat:Int):Int)==by1 then
 (gStSl s0 from6 i7).bind fun s24=>
 (gApp 16 out5 [s24]).bind fun l26=>
 some (.inl (l26,IntKind.i64.wrap (i7+1),IntKind.i64.wrap (i7+1)))
 else
 some (.inl (out5,from6,IntKind.i64.wrap (i7+1)))
 else
 (gStSl s0 from6 (s0.size)).bind fun s32=>
 (gApp 16 out5 [s32]).bind fun l34=>
 some (.inr (l34))
def Zaz (s0:ByteArray) (by1:Int):Option (List ByteArray):=
 loop (Zdr s0 by1) (([]:List ByteArray),0,0)
def ZaB (c0:Int):Option Bool:=
 bif decide (c0≥48) then
 some (decide (c0≤57))
 else
 some (false)
def Zej (out3:List Int) (k4 d5:Int):Option ((List Int×Int) ⊕ (ByteArray)):=
 (gApp 1 ([IntKind.u8.wrap (IntKind.i64.wrap (48+d5))]:List Int) out3).bind fun l23=>
 (gNz 10).bind fun _=>
 some (.inl (l23,IntKind.i64.wrap (Int.tdiv k4 10)))
def ZaS (n0:Int):List Int×Int→Option ((List Int×Int) ⊕ (ByteArray))
 | (out3,k4)=>
 bif k4 !=0 then
 (gNz 10).bind fun _=>
 bif decide ((Int.tmod k4 10:Int)<0) then
 Zej out3 k4 (IntKind.i64.wrap (0-(Int.tmod k4 10)))
 else
 Zej out3 k4 (Int.tmod k4 10)
 else
 bif ((out3.length:Int):Int)==0 then
 some (.inr (⟨#[48]⟩))
 else
 bif decide (n0<0) then
 (gByt out3).bind fun s30=>
 (gFit (⟨#[45]⟩:ByteArray) s30).bind fun _=>
 some (.inr ((⟨#[45]⟩:ByteArray)++s30))
 else
 (gByt out3).bind fun s33=>
 some (.inr (s33))
def Zcg (n0:Int):Option ByteArray:=
 loop (ZaS n0) (([]:List Int),n0)
def Zd6 (s0:ByteArray) (n5_2:Int):Option ((Int×Int) ⊕ (Int×Bool)):=
 (Zcg n5_2).bind fun r52=>
 bif !(r52.toList==s0.toList) then
 some (.inr ((0,false)))
 else
 some (.inr ((n5_2,true)))
def Zck (s0 t4:ByteArray):Int×Int→Option ((Int×Int) ⊕ (Int×Bool))
 | (n5,i6)=>
 bif decide (i6<(t4.size:Int)) then
 (gSt t4 i6).bind fun c33=>
 (ZaB (c33.toNat:Int)).bind fun r34=>
 bif !r34 then
 some (.inr ((0,false)))
 else
 (gSt t4 i6).bind fun c40=>
 some (.inl (IntKind.i64.wrap ((IntKind.i64.wrap (10*n5))+(IntKind.i64.wrap (IntKind.u8.wrap ((c40.toNat:Int)-48)))),IntKind.i64.wrap (i6+1)))
 else
 bif decide (((t4.size:Int):Int)<(s0.size:Int)) then
 Zd6 s0 (IntKind.i64.wrap (0-n5))
 else
 Zd6 s0 n5
def ZgX (s0 t4:ByteArray):Option (Int×Bool):=
 loop (Zck s0 t4) (0,0)
def ZcX (s0 t4:ByteArray):Option (Int×Bool):=
 bif decide (((t4.size:Int):Int)<1) then
 some ((0,false))
 else
 bif decide (((t4.size:Int):Int)>18) then
 some ((0,false))
 else
 ZgX s0 t4
def ZdD (s0:ByteArray):Option (Int×Bool):=
 bif !(s0.toList==(⟨#[]⟩:ByteArray).toList) then
 (gSt s0 0).bind fun c12=>
 bif ((c12.toNat:Int):Int)==45 then
 (gStSl s0 1 (s0.size)).bind fun s16=>
 ZcX s0 s16
 else
 ZcX s0 s0
 else
 ZcX s0 s0
def ZE (n0 low1 high2:Int):Option Bool:=
 bif decide (n0≥low1) then
 some (decide (n0≤high2))
 else
 some (false)
def ZhX (r10:List ByteArray) (r40:Int×Bool):Option ((List ByteArray)×Int):=
 bif decide ((IntKind.i64.wrap ((r10.length:Int)-2):Int)<r40.1) then
 some ((([]:List ByteArray),11))
 else
 bif decide ((IntKind.i64.wrap ((r10.length:Int)-2):Int)>r40.1) then
 some ((([]:List ByteArray),9))
 else
 (gSl r10 1 (IntKind.i64.wrap ((r10.length:Int)-1))).bind fun l61=>
 some ((l61,0))
def ZgS (r10 r26:List ByteArray):Option ((List ByteArray)×Int):=
 (gIdx r26 1).bind fun e38=>
 (ZdD e38).bind fun r40=>
 bif !r40.2 then
 some ((([]:List ByteArray),9))
 else
 (ZE r40.1 0 24).bind fun r47=>
 bif !r47 then
 some ((([]:List ByteArray),9))
 else
 ZhX r10 r40
def Zfc (r10:List ByteArray):Option ((List ByteArray)×Int):=
 (gIdx r10 0).bind fun e24=>
 (Zaz e24 32).bind fun r26=>
 bif ((r26.length:Int):Int) !=2 then
 some ((([]:List ByteArray),9))
 else
 (gIdx r26 0).bind fun e32=>
 bif !(e32.toList==(⟨#[99,97,116,97,108,111,103]⟩:ByteArray).toList) then
 some ((([]:List ByteArray),9))
 else
 ZgS r10 r26
def Zcb (s0:ByteArray):Option ((List ByteArray)×Int):=
 (Zaz s0 10).bind fun r10=>
 bif decide (((r10.length:Int):Int)<2) then
 some ((([]:List ByteArray),11))
 else
 (gIdx r10 (IntKind.i64.wrap ((r10.length:Int)-1))).bind fun e19=>
 bif !(e19.toList==(⟨#[]⟩:ByteArray).toList) then
 some ((([]:List ByteArray),11))
 else
 Zfc r10
def ZcU (i5:Int):Int×Int→Option ((Int×Int) ⊕ ((Int×Int) ⊕ (Int)))
 | (x1_3,k6)=>
 bif decide (k6<8) then
 (gNn 1).bind fun _=>
 bif decide (x1_3≥32768) then
 some (.inl (IntKind.i64.wrap ((BitVec.ofInt IntKind.i64.bits (IntKind.i64.wrap ((BitVec.ofInt IntKind.i64.bits (IntKind.i64.wrap (x1_3*2^min (1:Int).toNat IntKind.i64.bits))&&&BitVec.ofInt IntKind.i64.bits 65535).toNat:Int))^^^BitVec.ofInt IntKind.i64.bits 4129).toNat:Int),IntKind.i64.wrap (k6+1)))
 else
 some (.inl (IntKind.i64.wrap ((BitVec.ofInt IntKind.i64.bits (IntKind.i64.wrap (x1_3*2^min (1:Int).toNat IntKind.i64.bits))&&&BitVec.ofInt IntKind.i64.bits 65535).toNat:Int),IntKind.i64.wrap (k6+1)))
 else
 some (.inr (.inl (x1_3,IntKind.i64.wrap (i5+1))))
def Zhd (s0:ByteArray):Int×Int→Option ((Int×Int) ⊕ (Int))
 | (x1_2,i5)=>
 bif decide (i5<(s0.size:Int)) then
 (gSt s0 i5).bind fun c17=>
 (gNn 8).bind fun _=>
 loop (ZcU i5) (IntKind.i64.wrap ((BitVec.ofInt IntKind.i64.bits x1_2^^^BitVec.ofInt IntKind.i64.bits (IntKind.i64.wrap ((IntKind.i64.wrap (c17.toNat:Int))*2^min (8:Int).toNat IntKind.i64.bits))).toNat:Int),0)
 else
 some (.inr (x1_2))
def ZhB (s0:ByteArray) (x1:Int):Option Int:=
 loop (Zhd s0) (x1,0)
def Zb5 (line0:ByteArray) (at4:Int):Option (ByteArray×Bool):=
 bif decide (at4<0) then
 some ((⟨#[]⟩,false))
 else
 (gStSl line0 0 at4).bind fun s29=>
 (ZhB s29 65535).bind fun r30=>
 (Zcg r30).bind fun r31=>
 (gStSl line0 0 at4).bind fun s22=>
 (gStSl line0 (IntKind.i64.wrap (at4+1)) (line0.size)).bind fun s26=>
 some ((s22,s26.toList==r31.toList))
def ZcO (line0:ByteArray):Int→Option ((Int) ⊕ (ByteArray×Bool))
 | at4_2=>
 bif decide (at4_2≥0) then
 (gSt line0 at4_2).bind fun c13=>
 bif ((c13.toNat:Int):Int) !=32 then
 some (.inl (IntKind.i64.wrap (at4_2-1)))
 else
 (Zb5 line0 at4_2).map fun x=>.inr (x)
 else
 (Zb5 line0 at4_2).map fun x=>.inr (x)
def Zbp (line0:ByteArray):Option (ByteArray×Bool):=
 loop (ZcO line0) (IntKind.i64.wrap ((line0.size:Int)-1))
def ZdV:Option (List ByteArray):=
 some (([⟨#[]⟩,⟨#[115,113,117,97,114,101]⟩,⟨#[100,101,115,105,103,110]⟩,⟨#[104,97,100,97,109,97,114,100]⟩,⟨#[97,114,114,97,121]⟩,⟨#[99,111,100,101]⟩,⟨#[103,114,97,112,104]⟩,⟨#[103,114,111,117,112]⟩]:List ByteArray))
def Zbn (s0:ByteArray) (r6:List ByteArray):Int→Option ((Int) ⊕ (Int×Bool))
 | i5=>
 bif decide (i5<(r6.length:Int)) then
 (gIdx r6 i5).bind fun e15=>
 bif e15.toList==s0.toList then
 some (.inr ((i5,true)))
 else
 some (.inl (IntKind.i64.wrap (i5+1)))
 else
 some (.inr ((0,false)))
def ZfY (s0:ByteArray):Option (Int×Bool):=
 (ZdV).bind fun r6=>
 loop (Zbn s0 r6) (1)
def Zi9 (out5:List Int) (i6:Int) (r29:Int×Bool):Option ((List Int×Int) ⊕ ((List Int)×Bool)):=
 (gApp 8 out5 [r29.1]).bind fun l42=>
 some (.inl (l42,IntKind.i64.wrap (i6+1)))
def ZaO (r13:List ByteArray):List Int×Int→Option ((List Int×Int) ⊕ ((List Int)×Bool))
 | (out5,i6)=>
 bif decide (i6<(r13.length:Int)) then
 (gIdx r13 i6).bind fun e27=>
 (ZdD e27).bind fun r29=>
 bif !r29.2 then
 some (.inr ((([]:List Int),false)))
 else
 (ZE r29.1 (-999999999) 999999999).bind fun r36=>
 bif !r36 then
 some (.inr ((([]:List Int),false)))
 else
 Zi9 out5 i6 r29
 else
 some (.inr ((out5,true)))
def ZfI (s0:ByteArray):Option ((List Int)×Bool):=
 bif s0.toList==(⟨#[45]⟩:ByteArray).toList then
 some ((([]:List Int),true))
 else
 (Zaz s0 44).bind fun r13=>
 bif decide (((r13.length:Int):Int)>100) then
 some ((([]:List Int),false))
 else
 loop (ZaO r13) (([]:List Int),0)
def Zen (list0:List Int) (n1:Int):Int→Option ((Int) ⊕ (Bool))
 | i5=>
 bif decide (i5<(list0.length:Int)) then
 (gIdx list0 i5).bind fun e14=>
 bif e14==n1 then
 some (.inr (true))
 else
 some (.inl (IntKind.i64.wrap (i5+1)))
 else
 some (.inr (false))
def Zhb (list0:List Int) (n1:Int):Option Bool:=
 loop (Zen list0 n1) (0)
def Zfp (p0:List Int):Int→Option ((Int) ⊕ (Bool))
 | i3=>
 bif decide (i3<(p0.length:Int)) then
 (gIdx p0 i3).bind fun e15=>
 (ZE e15 0 (IntKind.i64.wrap ((p0.length:Int)-1))).bind fun r20=>
 bif !r20 then
 some (.inr (false))
 else
 (gSl p0 0 i3).bind fun l25=>
 (gIdx p0 i3).bind fun e28=>
 (Zhb l25 e28).bind fun r30=>
 bif r30 then
 some (.inr (false))
 else
 some (.inl (IntKind.i64.wrap (i3+1)))
 else
 some (.inr (true))
def ZdC (p0:List Int):Option Bool:=
 bif decide (((p0.length:Int):Int)>32) then
 some (false)
 else
 loop (Zfp p0) (0)
def Zc2 (a0:List (List Int)) (y5:Int):List Int×Int→Option ((List Int×Int) ⊕ ((Int) ⊕ ((Int) ⊕ (Bool))))
 | (col6,x7)=>
 bif decide (x7<(a0.length:Int)) then
 (gIdx a0 x7).bind fun e50=>
 (gIdx e50 y5).bind fun e53=>
 (gApp 8 col6 [e53]).bind fun l56=>
 some (.inl (l56,IntKind.i64.wrap (x7+1)))
 else
 (ZdC col6).bind fun r58=>
 bif !r58 then
 some (.inr (.inr (.inr (false))))
 else
 some (.inr (.inl (IntKind.i64.wrap (y5+1))))
def Zdp (a0:List (List Int)):Int→Option ((Int) ⊕ ((Int) ⊕ (Bool)))
 | y5=>
 bif decide (y5<(a0.length:Int)) then
 loop (Zc2 a0 y5) (([]:List Int),0)
 else
 some (.inr (.inr (true)))
def Zft (a0:List (List Int)):Int→Option ((Int) ⊕ (Bool))
 | x4=>
 bif decide (x4<(a0.length:Int)) then
 (gIdx a0 x4).bind fun e23=>
 bif ((e23.length:Int):Int) !=(a0.length:Int) then
 some (.inr (false))
 else
 (gIdx a0 x4).bind fun e31=>
 (ZdC e31).bind fun r33=>
 bif !r33 then
 some (.inr (false))
 else
 some (.inl (IntKind.i64.wrap (x4+1)))
 else
 loop (Zdp a0) (0)
def ZjL (a0:List (List Int)):Option (Bool):=
 loop (Zft a0) (0)
def Zhv (a0:List (List Int)):Option Bool:=
 bif decide (((a0.length:Int):Int)<1) then
 some (false)
 else
 bif decide (((a0.length:Int):Int)>10) then
 some (false)
 else
 ZjL a0
def Zdn (list0:List Int) (low1 high2:Int):Int→Option ((Int) ⊕ (Bool))
 | i7=>
 bif decide (i7<(list0.length:Int)) then
 (gIdx list0 i7).bind fun e16=>
 (ZE e16 low1 high2).bind fun r20=>
 bif !r20 then
 some (.inr (false))
 else
 bif decide (i7>0) then
 (gIdx list0 (IntKind.i64.wrap (i7-1))).bind fun e29=>
 (gIdx list0 i7).bind fun e33=>
 bif decide (e29≥e33) then
 some (.inr (false))
 else
 some (.inl (IntKind.i64.wrap (i7+1)))
 else
 some (.inl (IntKind.i64.wrap (i7+1)))
 else
 some (.inr (true))
def ZhO (list0:List Int) (low1 high2:Int):Option Bool:=
 loop (Zdn list0 low1 high2) (0)
def Zf8 (set0:List Int) (points1:Int):Option Bool:=
 bif decide (((set0.length:Int):Int)>0) then
 (ZhO set0 0 (IntKind.i64.wrap (points1-1))).bind fun r12=>
 some (r12)
 else
 some (false)
def ZdH (a0 b1:List Int):Option (Int):=
 bif decide (((a0.length:Int):Int)<(b1.length:Int)) then
 some ((-1))
 else
 bif decide (((a0.length:Int):Int)>(b1.length:Int)) then
 some (1)
 else
 some (0)
def Zfa (a0 b1:List Int) (i5:Int):Option ((Int) ⊕ (Int)):=
 (gIdx a0 i5).bind fun e20=>
 (gIdx b1 i5).bind fun e24=>
 bif decide (e20<e24) then
 some (.inr ((-1)))
 else
 (gIdx a0 i5).bind fun e29=>
 (gIdx b1 i5).bind fun e33=>
 bif decide (e29>e33) then
 some (.inr (1))
 else
 some (.inl (IntKind.i64.wrap (i5+1)))
def Zcd (a0 b1:List Int):Int→Option ((Int) ⊕ (Int))
 | i5=>
 bif decide (i5<(a0.length:Int)) then
 bif decide (i5<(b1.length:Int)) then
 Zfa a0 b1 i5
 else
 (ZdH a0 b1).map fun x=>.inr (x)
 else
 (ZdH a0 b1).map fun x=>.inr (x)
def ZdJ (a0 b1:List Int):Option Int:=
 loop (Zcd a0 b1) (0)
def ZdR (d0:Zbv):Int→Option ((Int) ⊕ (Bool))
 | i3=>
 bif decide (i3<(d0.Blocks.length:Int)) then
 (gIdx d0.Blocks i3).bind fun e32=>
 (Zf8 e32 d0.Points).bind fun r38=>
 bif !r38 then
 some (.inr (false))
 else
 bif decide (i3>0) then
 (gIdx d0.Blocks (IntKind.i64.wrap (i3-1))).bind fun e50=>
 (gIdx d0.Blocks i3).bind fun e57=>
 (ZdJ e50 e57).bind fun r59=>
 bif decide (r59>0) then
 some (.inr (false))
 else
 some (.inl (IntKind.i64.wrap (i3+1)))
 else
 some (.inl (IntKind.i64.wrap (i3+1)))
 else
 some (.inr (true))
def Zih (d0:Zbv):Option (Bool):=
 loop (ZdR d0) (0)
def ZhN (d0:Zbv):Option Bool:=
 (ZE d0.Points 1 32).bind fun r8=>
 bif !r8 then
 some (false)
 else
 bif decide (((d0.Blocks.length:Int):Int)>128) then
 some (false)
 else
 Zih d0
def ZfV (a0 b1:List Int):Int×Int→Option ((Int×Int) ⊕ (Int))
 | (sum5,i6)=>
 bif decide (i6<(a0.length:Int)) then
 (gIdx a0 i6).bind fun e16=>
 (gIdx b1 i6).bind fun e20=>
 some (.inl (IntKind.i64.wrap (sum5+(IntKind.i64.wrap (e16*e20))),IntKind.i64.wrap (i6+1)))
 else
 some (.inr (sum5))
def Zfg (a0 b1:List Int):Option Int:=
 loop (ZfV a0 b1) (0,0)
def ZaR (y0:List (List Int)) (y4:Int):Int→Option ((Int) ⊕ ((Int) ⊕ (Bool)))
 | y5=>
 bif decide (y5<(y0.length:Int)) then
 (gIdx y0 y4).bind fun e35=>
 (gIdx e35 y5).bind fun e38=>
 bif e38 !=1 then
 (gIdx y0 y4).bind fun e44=>
 (gIdx e44 y5).bind fun e47=>
 bif e47 !=(-1) then
 some (.inr (.inr (false)))
 else
 some (.inl (IntKind.i64.wrap (y5+1)))
 else
 some (.inl (IntKind.i64.wrap (y5+1)))
 else
 some (.inr (.inl (IntKind.i64.wrap (y4+1))))
def Zdv (y0:List (List Int)) (y6:Int):Int→Option ((Int) ⊕ ((Int) ⊕ ((Int) ⊕ (Bool))))
 | y7=>
 bif decide (y7<y6) then
 (gIdx y0 y6).bind fun e63=>
 (gIdx y0 y7).bind fun e67=>
 (Zfg e63 e67).bind fun r69=>
 bif r69 !=0 then
 some (.inr (.inr (.inr (false))))
 else
 some (.inl (IntKind.i64.wrap (y7+1)))
 else
 some (.inr (.inl (IntKind.i64.wrap (y6+1))))
def Zeg (y0:List (List Int)):Int→Option ((Int) ⊕ ((Int) ⊕ (Bool)))
 | y6=>
 bif decide (y6<(y0.length:Int)) then
 loop (Zdv y0 y6) (0)
 else
 some (.inr (.inr (true)))
def Zfi (y0:List (List Int)):Int→Option ((Int) ⊕ (Bool))
 | y4=>
 bif decide (y4<(y0.length:Int)) then
 (gIdx y0 y4).bind fun e23=>
 bif ((e23.length:Int):Int) !=(y0.length:Int) then
 some (.inr (false))
 else
 loop (ZaR y0 y4) (0)
 else
 loop (Zeg y0) (0)
def ZiL (y0:List (List Int)):Option (Bool):=
 loop (Zfi y0) (0)
def ZhP (y0:List (List Int)):Option Bool:=
 bif decide (((y0.length:Int):Int)<1) then
 some (false)
 else
 bif decide (((y0.length:Int):Int)>32) then
 some (false)
 else
 ZiL y0
def ZfB (o0:Zf):Option Zac:=
 bif decide (((o0.Rows.length:Int):Int)>0) then
 (gIdx o0.Rows 0).bind fun e23=>
 some ((Zac.mk o0.Size (e23.length:Int) o0.Rows))
 else
 some ((Zac.mk o0.Size 0 o0.Rows))
def ZiJ (levels0 column1:Int):Option Bool:=
 (ZE levels0 2 16).bind fun r6=>
 bif r6 then
 (ZE column1 1 8).bind fun r9=>
 some (r9)
 else
 some (false)
def Zdh (y0:Zac) (y3:Int):Int→Option ((Int) ⊕ ((Int) ⊕ (Bool)))
 | y4=>
 (gIdx y0.Rows y3).bind fun e51=>
 bif decide (y4<(e51.length:Int)) then
 (gIdx y0.Rows y3).bind fun e62=>
 (gIdx e62 y4).bind fun e65=>
 (ZE e65 0 (IntKind.i64.wrap (y0.Levels-1))).bind fun r72=>
 bif !r72 then
 some (.inr (.inr (false)))
 else
 some (.inl (IntKind.i64.wrap (y4+1)))
 else
 some (.inr (.inl (IntKind.i64.wrap (y3+1))))
def Zem (y0:Zac):Int→Option ((Int) ⊕ (Bool))
 | y3=>
 bif decide (y3<(y0.Rows.length:Int)) then
 (gIdx y0.Rows y3).bind fun e37=>
 bif ((e37.length:Int):Int) !=y0.Columns then
 some (.inr (false))
 else
 loop (Zdh y0 y3) (0)
 else
 some (.inr (true))
def ZjC (y0:Zac):Option (Bool):=
 loop (Zem y0) (0)
def ZfD (y0:Zac):Option Bool:=
 (ZiJ y0.Levels y0.Columns).bind fun r13=>
 bif !r13 then
 some (false)
 else
 bif decide (((y0.Rows.length:Int):Int)>256) then
 some (false)
 else
 ZjC y0
def ZiB (p4:Int):Int×Int→Option ((Int×Int) ⊕ ((Int) ⊕ (Int×Int)))
 | (k5,n6)=>
 bif decide (n6>1) then
 (gNz p4).bind fun _=>
 bif (Int.tmod n6 p4:Int) !=0 then
 some (.inr (.inr ((0,0))))
 else
 (gNz p4).bind fun _=>
 some (.inl (IntKind.i64.wrap (k5+1),IntKind.i64.wrap (Int.tdiv n6 p4)))
 else
 some (.inr (.inr ((p4,k5))))
def Ziy (q0:Int):Int→Option ((Int) ⊕ (Int×Int))
 | p4=>
 (gNz p4).bind fun _=>
 bif (Int.tmod q0 p4:Int) !=0 then
 some (.inl (IntKind.i64.wrap (p4+1)))
 else
 loop (ZiB p4) (0,q0)
def Zbu (q0:Int):Option (Int×Int):=
 (ZE q0 2 64).bind fun r8=>
 bif !r8 then
 some ((0,0))
 else
 loop (Ziy q0) (2)
def ZcG (p1:Int):Int×Int×List Int→Option ((Int×Int×List Int) ⊕ (List Int))
 | (a0_2,n2_2,out7)=>
 bif decide (n2_2>0) then
 (gNz p1).bind fun _=>
 (gApp 8 out7 [Int.tmod a0_2 p1]).bind fun l18=>
 (gNz p1).bind fun _=>
 some (.inl (IntKind.i64.wrap (Int.tdiv a0_2 p1),IntKind.i64.wrap (n2_2-1),l18))
 else
 some (.inr (out7))
def ZaI (a0 p1 n2:Int):Option (List Int):=
 loop (ZcG p1) (a0,n2,([]:List Int))
def ZjO (p0:Int):Int×Int→Option ((Int×Int) ⊕ (Int))
 | (k1_2,out5)=>
 bif decide (k1_2>0) then
 some (.inl (IntKind.i64.wrap (k1_2-1),IntKind.i64.wrap (out5*p0)))
 else
 some (.inr (out5))
def Zd0 (p0 k1:Int):Option Int:=
 loop (ZjO p0) (k1,1)
def Zbh (list0:List Int):Option (List Int):=
 (gApp 8 ([]:List Int) list0).bind fun l5=>
 some (l5)
def ZdB (y1:List Int) (y2 y9 e28:Int):Int×List Int→Option ((Int×List Int) ⊕ ((Int×List Int) ⊕ (List Int)))
 | (y11,xs_2)=>
 bif decide (y11<(y1.length:Int)) then
 (gIdx xs_2 (IntKind.i64.wrap ((IntKind.i64.wrap ((IntKind.i64.wrap (y9-(y1.length:Int)))+1))+y11))).bind fun e45=>
 (gIdx y1 y11).bind fun e52=>
 (gNz y2).bind fun _=>
 (gIdx xs_2 (IntKind.i64.wrap ((IntKind.i64.wrap ((IntKind.i64.wrap (y9-(y1.length:Int)))+1))+y11))).bind fun e58=>
 some (.inl (IntKind.i64.wrap (y11+1),(xs_2.set (IntKind.i64.wrap ((IntKind.i64.wrap ((IntKind.i64.wrap (y9-(y1.length:Int)))+1))+y11):Int).toNat (Int.tmod (IntKind.i64.wrap (e45+(IntKind.i64.wrap ((IntKind.i64.wrap (y2-e28))*e52)))) y2))))
 else
 some (.inr (.inl (IntKind.i64.wrap (y9-1),xs_2)))
def Zca (y1:List Int):List Int→Option ((List Int) ⊕ ((Int×List Int) ⊕ (List Int)))
 | y7=>
 bif decide (((y7.length:Int):Int)≥(y1.length:Int)) then
 (gSl y7 0 (IntKind.i64.wrap ((y7.length:Int)-1))).bind fun l67=>
 some (.inl (l67))
 else
 some (.inr (.inr (y7)))
def Zbc (y1:List Int) (y2:Int):Int×List Int→Option ((Int×List Int) ⊕ (List Int))
 | (y9,xs)=>
 bif decide (y9≥(IntKind.i64.wrap ((y1.length:Int)-1))) then
 (gIdx xs y9).bind fun e28=>
 loop (ZdB y1 y2 y9 e28) (0,xs)
 else
 loop (Zca y1) (xs)
def ZcF (y0 y1:List Int) (y2:Int):Option (List Int):=
 (Zbh y0).bind fun r14=>
 loop (Zbc y1 y2) (IntKind.i64.wrap ((r14.length:Int)-1),r14)
def Zdq (list0:List Int) (p1:Int):Int×Int→Option ((Int×Int) ⊕ (Int))
 | (out5,i6)=>
 bif decide (i6≥0) then
 (gIdx list0 i6).bind fun e19=>
 some (.inl (IntKind.i64.wrap ((IntKind.i64.wrap (out5*p1))+e19),IntKind.i64.wrap (i6-1)))
 else
 some (.inr (out5))
def ZaP (list0:List Int) (p1:Int):Option Int:=
 loop (Zdq list0 p1) (0,IntKind.i64.wrap ((list0.length:Int)-1))
def ZiA (poly0:List Int) (p1 d6:Int):Int→Option ((Int) ⊕ ((Int) ⊕ (Bool)))
 | n7=>
 (Zd0 p1 d6).bind fun r22=>
 bif decide (n7<r22) then
 (ZaI n7 p1 d6).bind fun r29=>
 (gApp 8 r29 [1]).bind fun l31=>
 (ZcF poly0 l31 p1).bind fun r35=>
 (ZaP r35 p1).bind fun r38=>
 bif r38==0 then
 some (.inr (.inr (false)))
 else
 some (.inl (IntKind.i64.wrap (n7+1)))
 else
 some (.inr (.inl (IntKind.i64.wrap (d6+1))))
def Zi6 (poly0:List Int) (p1:Int):Int→Option ((Int) ⊕ (Bool))
 | d6=>
 bif decide ((IntKind.i64.wrap (2*d6):Int)≤(IntKind.i64.wrap ((poly0.length:Int)-1))) then
 loop (ZiA poly0 p1 d6) (0)
 else
 some (.inr (true))
def ZeW (poly0:List Int) (p1:Int):Option Bool:=
 loop (Zi6 poly0 p1) (1)
def ZiQ (r9:Int×Int):Int→Option ((Int) ⊕ (Zd))
 | n5=>
 (ZaI n5 r9.1 r9.2).bind fun r17=>
 (gApp 8 r17 [1]).bind fun l19=>
 (ZeW l19 r9.1).bind fun r22=>
 bif r22 then
 some (.inr ((Zd.mk r9.1 r9.2 l19)))
 else
 some (.inl (IntKind.i64.wrap (n5+1)))
def Zfl (q0:Int):Option Zd:=
 (Zbu q0).bind fun r9=>
 loop (ZiQ r9) (0)
def Zfz (o0:Zf):Option Zbf:=
 (Zbu o0.Size).bind fun r10=>
 bif r10.1==0 then
 some ((Zbf.mk (Zd.mk 0 0 ([]:List Int)) ([]:List (List Int))))
 else
 (Zfl o0.Size).bind fun r20=>
 some ((Zbf.mk (Zd.mk r20.Prime r20.Degree r20.Poly) o0.Rows))
def Zja (y0:Zd) (r58:Int×Int):Int→Option ((Int) ⊕ (Bool))
 | y6=>
 bif decide (y6<(y0.Poly.length:Int)) then
 (gIdx y0.Poly y6).bind fun e81=>
 (ZE e81 0 (IntKind.i64.wrap (r58.1-1))).bind fun r85=>
 bif !r85 then
 some (.inr (false))
 else
 some (.inl (IntKind.i64.wrap (y6+1)))
 else
 (ZeW y0.Poly r58.1).bind fun r92=>
 some (.inr (r92))
def Zfw (y0:Zd):Option (Bool):=
 (Zd0 y0.Prime y0.Degree).bind fun r55=>
 (Zbu r55).bind fun r58=>
 bif r58.1 !=y0.Prime then
 some (false)
 else
 loop (Zja y0 r58) (0)
def ZeY (y0:Zd):Option Bool:=
 (ZE y0.Prime 2 64).bind fun r11=>
 bif !r11 then
 some (false)
 else
 (ZE y0.Degree 1 6).bind fun r18=>
 bif !r18 then
 some (false)
 else
 bif ((y0.Poly.length:Int):Int) !=(IntKind.i64.wrap (y0.Degree+1)) then
 some (false)
 else
 (gIdx y0.Poly y0.Degree).bind fun e43=>
 bif e43 !=1 then
 some (false)
 else
 Zfw y0
def Zcw (f0:Zd):Option Int:=
 (Zd0 f0.Prime f0.Degree).bind fun r11=>
 some (r11)
def ZcZ (v1:List Int) (r8:Int):Int→Option ((Int) ⊕ (Bool))
 | i6=>
 bif decide (i6<(v1.length:Int)) then
 (gIdx v1 i6).bind fun e17=>
 (ZE e17 0 (IntKind.i64.wrap (r8-1))).bind fun r21=>
 bif !r21 then
 some (.inr (false))
 else
 some (.inl (IntKind.i64.wrap (i6+1)))
 else
 some (.inr (true))
def Zgm (f0:Zd) (v1:List Int):Option Bool:=
 (Zcw f0).bind fun r8=>
 loop (ZcZ v1 r8) (0)
def Zd5 (f0:Zd) (m1:List (List Int)):Int→Option ((Int) ⊕ (Bool))
 | i5=>
 bif decide (i5<(m1.length:Int)) then
 (gIdx m1 i5).bind fun e41=>
 (gIdx m1 0).bind fun e45=>
 bif ((e41.length:Int):Int) !=(e45.length:Int) then
 some (.inr (false))
 else
 (gIdx m1 i5).bind fun e53=>
 (Zgm f0 e53).bind fun r55=>
 bif !r55 then
 some (.inr (false))
 else
 some (.inl (IntKind.i64.wrap (i5+1)))
 else
 some (.inr (true))
def ZiI (f0:Zd) (m1:List (List Int)):Option (Bool):=
 loop (Zd5 f0 m1) (0)
def ZgZ (f0:Zd) (m1:List (List Int)):Option Bool:=
 (ZeY f0).bind fun r7=>
 bif !r7 then
 some (false)
 else
 bif ((m1.length:Int):Int)==0 then
 some (false)
 else
 bif decide (((m1.length:Int):Int)>32) then
 some (false)
 else
 (gIdx m1 0).bind fun e21=>
 bif ((e21.length:Int):Int)==0 then
 some (false)
 else
 (gIdx m1 0).bind fun e28=>
 bif decide (((e28.length:Int):Int)>32) then
 some (false)
 else
 ZiI f0 m1
def Zd3 (q0:Int):Int×Int→Option ((Int×Int) ⊕ (Int))
 | (k1_2,n5)=>
 bif decide (k1_2>0) then
 bif decide ((IntKind.i64.wrap (n5*q0):Int)>4096) then
 some (.inr (0))
 else
 some (.inl (IntKind.i64.wrap (k1_2-1),IntKind.i64.wrap (n5*q0)))
 else
 some (.inr (n5))
def Zi8 (q0 k1:Int):Option Int:=
 loop (Zd3 q0) (k1,1)
def ZfS (a0 b1:List Int):Int→Option ((Int) ⊕ (Bool))
 | i5=>
 bif decide (i5<(a0.length:Int)) then
 (gIdx a0 i5).bind fun e19=>
 (gIdx b1 i5).bind fun e23=>
 bif e19 !=e23 then
 some (.inr (false))
 else
 some (.inl (IntKind.i64.wrap (i5+1)))
 else
 some (.inr (true))
def ZgI (a0 b1:List Int):Option Bool:=
 bif ((a0.length:Int):Int) !=(b1.length:Int) then
 some (false)
 else
 loop (ZfS a0 b1) (0)
def ZfQ (a0 b1:List (List Int)):Int→Option ((Int) ⊕ (Bool))
 | i5=>
 bif decide (i5<(a0.length:Int)) then
 (gIdx a0 i5).bind fun e19=>
 (gIdx b1 i5).bind fun e23=>
 (ZgI e19 e23).bind fun r25=>
 bif !r25 then
 some (.inr (false))
 else
 some (.inl (IntKind.i64.wrap (i5+1)))
 else
 some (.inr (true))
def ZeB (a0 b1:List (List Int)):Option Bool:=
 bif ((a0.length:Int):Int) !=(b1.length:Int) then
 some (false)
 else
 loop (ZfQ a0 b1) (0)
def Zha (y0:Zd) (r21 r31:List Int) (y10:Int):Int×List Int→Option ((Int×List Int) ⊕ ((Int×List Int) ⊕ (Int)))
 | (y11,xs_2)=>
 bif decide (y11<(r31.length:Int)) then
 (gIdx xs_2 (IntKind.i64.wrap (y10+y11))).bind fun e59=>
 (gIdx r21 y10).bind fun e63=>
 (gIdx r31 y11).bind fun e67=>
 (gNz y0.Prime).bind fun _=>
 (gIdx xs_2 (IntKind.i64.wrap (y10+y11))).bind fun e76=>
 some (.inl (IntKind.i64.wrap (y11+1),(xs_2.set (IntKind.i64.wrap (y10+y11):Int).toNat (Int.tmod (IntKind.i64.wrap (e59+(IntKind.i64.wrap (e63*e67)))) y0.Prime))))
 else
 some (.inr (.inl (IntKind.i64.wrap (y10+1),xs_2)))
def Zcv (y0:Zd) (r21 r31:List Int):Int×List Int→Option ((Int×List Int) ⊕ (Int))
 | (y10,xs)=>
 bif decide (y10<(r21.length:Int)) then
 loop (Zha y0 r21 r31 y10) (0,xs)
 else
 (ZcF xs y0.Poly y0.Prime).bind fun r86=>
 (ZaP r86 y0.Prime).bind fun r91=>
 some (.inr (r91))
def ZdP (y0:Zd) (y1 y2:Int):Option Int:=
 (ZaI y1 y0.Prime y0.Degree).bind fun r21=>
 (ZaI y2 y0.Prime y0.Degree).bind fun r31=>
 (gMake 8 (0:Int) (IntKind.i64.wrap ((IntKind.i64.wrap (2*y0.Degree))-1)) (IntKind.i64.wrap ((IntKind.i64.wrap (2*y0.Degree))-1))).bind fun l38=>
 loop (Zcv y0 r21 r31) (0,l38)
def ZeM (f0:Zd) (v1:List Int) (c2:Int):List Int×Int→Option ((List Int×Int) ⊕ (List Int))
 | (out7,i8)=>
 bif decide (i8<(v1.length:Int)) then
 (gIdx v1 i8).bind fun e20=>
 (ZdP f0 e20 c2).bind fun r23=>
 (gApp 8 out7 [r23]).bind fun l25=>
 some (.inl (l25,IntKind.i64.wrap (i8+1)))
 else
 some (.inr (out7))
def Zh9 (f0:Zd) (v1:List Int) (c2:Int):Option (List Int):=
 loop (ZeM f0 v1 c2) (([]:List Int),0)
def ZeV (m0:List (List Int)):List (List Int)×Int→Option ((List (List Int)×Int) ⊕ (List (List Int)))
 | (out3,i4)=>
 bif decide (i4<(m0.length:Int)) then
 (gIdx m0 i4).bind fun e15=>
 (Zbh e15).bind fun r17=>
 (gApp 24 out3 [r17]).bind fun l19=>
 some (.inl (l19,IntKind.i64.wrap (i4+1)))
 else
 some (.inr (out3))
def Zg6 (m0:List (List Int)):Option (List (List Int)):=
 loop (ZeV m0) (([]:List (List Int)),0)
def ZfP (f0:Zd) (a1:Int):Int→Option ((Int) ⊕ (Int))
 | b5=>
 (ZdP f0 a1 b5).bind fun r9=>
 bif r9 !=1 then
 some (.inl (IntKind.i64.wrap (b5+1)))
 else
 some (.inr (b5))
def Zhl (f0:Zd) (a1:Int):Option Int:=
 loop (ZfP f0 a1) (1)
def Zeu (f0:Zd) (k3:Int) (r31:List Int):Int×List Int→Option ((Int×List Int) ⊕ (Int))
 | (i11,xs)=>
 bif decide (i11<(xs.length:Int)) then
 (gIdx xs i11).bind fun e42=>
 (gIdx r31 i11).bind fun e47=>
 (gNz f0.Prime).bind fun _=>
 (gIdx xs i11).bind fun e56=>
 some (.inl (IntKind.i64.wrap (i11+1),(xs.set i11.toNat (Int.tmod (IntKind.i64.wrap (e42+(IntKind.i64.wrap (k3*e47)))) f0.Prime))))
 else
 (ZaP xs f0.Prime).bind fun r62=>
 some (.inr (r62))
def ZfG (f0:Zd) (a1 b2 k3:Int):Option Int:=
 (ZaI a1 f0.Prime f0.Degree).bind fun r21=>
 (ZaI b2 f0.Prime f0.Degree).bind fun r31=>
 loop (Zeu f0 k3 r31) (0,r21)
def Zd8 (f0:Zd) (v1 w2:List Int) (c3:Int):List Int×Int→Option ((List Int×Int) ⊕ (List Int))
 | (out9,i10)=>
 bif decide (i10<(v1.length:Int)) then
 (gIdx w2 i10).bind fun e27=>
 (ZdP f0 e27 c3).bind fun r30=>
 (gIdx v1 i10).bind fun e22=>
 (ZfG f0 e22 r30 (IntKind.i64.wrap (f0.Prime-1))).bind fun r36=>
 (gApp 8 out9 [r36]).bind fun l38=>
 some (.inl (l38,IntKind.i64.wrap (i10+1)))
 else
 some (.inr (out9))
def Zh2 (f0:Zd) (v1 w2:List Int) (c3:Int):Option (List Int):=
 loop (Zd8 f0 v1 w2 c3) (([]:List Int),0)
def Zc1 (y0:Zd) (y9:List Int) (y10:Int) (r67:List Int):Int×List (List Int)→Option ((Int×List (List Int)) ⊕ ((List Int×Int×List (List Int)) ⊕ ((List (List Int))×(List Int))))
 | (y14,xs_2)=>
 bif decide (y14<(xs_2.length:Int)) then
 bif y14 !=(y9.length:Int) then
 (gIdx xs_2 y14).bind fun e93=>
 (gIdx xs_2 y14).bind fun e98=>
 (gIdx e98 y10).bind fun e101=>
 (Zh2 y0 e93 r67 e101).bind fun r103=>
 (gIdx xs_2 y14).bind fun e104=>
 some (.inl (IntKind.i64.wrap (y14+1),(xs_2.set y14.toNat r103)))
 else
 some (.inl (IntKind.i64.wrap (y14+1),xs_2))
 else
 (gApp 8 y9 [y10]).bind fun l108=>
 some (.inr (.inl (l108,IntKind.i64.wrap (y10+1),xs_2)))
def Zan (y0:Zd) (y9:List Int) (y10:Int) (xs:List (List Int)) (y12:Int):Option ((List Int×Int×List (List Int)) ⊕ ((List (List Int))×(List Int))):=
 bif y12==(xs.length:Int) then
 some (.inl (y9,IntKind.i64.wrap (y10+1),xs))
 else
 (gIdx xs y12).bind fun e61=>
 (gIdx e61 y10).bind fun e64=>
 (Zhl y0 e64).bind fun r66=>
 (gIdx xs y12).bind fun e56=>
 (Zh9 y0 e56 r66).bind fun r67=>
 (gIdx xs (y9.length:Int)).bind fun e72=>
 (gIdx xs y12).bind fun e74=>
 (gIdx (xs.set y12.toNat e72) (y9.length:Int)).bind fun e78=>
 loop (Zc1 y0 y9 y10 r67) (0,((xs.set y12.toNat e72).set ((y9.length:Int):Int).toNat r67))
def ZbD (y0:Zd) (y9:List Int) (y10:Int) (xs:List (List Int)):Int→Option ((Int) ⊕ ((List Int×Int×List (List Int)) ⊕ ((List (List Int))×(List Int))))
 | y12_2=>
 bif decide (y12_2<(xs.length:Int)) then
 (gIdx xs y12_2).bind fun e40=>
 (gIdx e40 y10).bind fun e43=>
 bif e43==0 then
 some (.inl (IntKind.i64.wrap (y12_2+1)))
 else
 (Zan y0 y9 y10 xs y12_2).map fun x=>.inr (x)
 else
 (Zan y0 y9 y10 xs y12_2).map fun x=>.inr (x)
def ZfX (y0:Zd) (y9:List Int) (y10:Int) (xs:List (List Int)):Option ((List Int×Int×List (List Int)) ⊕ ((List (List Int))×(List Int))):=
 loop (ZbD y0 y9 y10 xs) ((y9.length:Int))
def ZbW (y0:Zd) (y2:Int):List Int×Int×List (List Int)→Option ((List Int×Int×List (List Int)) ⊕ ((List (List Int))×(List Int)))
 | (y9,y10,xs)=>
 bif decide (y10<y2) then
 bif decide (((y9.length:Int):Int)<(xs.length:Int)) then
 ZfX y0 y9 y10 xs
 else
 some (.inr ((xs,y9)))
 else
 some (.inr ((xs,y9)))
def ZjK (y0:Zd) (y1:List (List Int)) (y2:Int):Option ((List (List Int))×(List Int)):=
 (Zg6 y1).bind fun r16=>
 loop (ZbW y0 y2) (([]:List Int),0,r16)
def ZgM (f0:Zd) (m1:List (List Int)):Option (List (List Int)):=
 (gIdx m1 0).bind fun e11=>
 (ZjK f0 m1 (e11.length:Int)).bind fun r14=>
 (gSl r14.1 0 (r14.2.length:Int)).bind fun l20=>
 some (l20)
def Zis (c0:Zbf):Option (Bool):=
 (Zcw (Zd.mk c0.Field.Prime c0.Field.Degree c0.Field.Poly)).bind fun r33=>
 (Zi8 r33 (c0.Rows.length:Int)).bind fun r39=>
 bif r39==0 then
 some (false)
 else
 (ZgM (Zd.mk c0.Field.Prime c0.Field.Degree c0.Field.Poly) c0.Rows).bind fun r48=>
 (ZeB r48 c0.Rows).bind fun r53=>
 some (r53)
def Zfh (c0:Zbf):Option Bool:=
 (ZgZ (Zd.mk c0.Field.Prime c0.Field.Degree c0.Field.Poly) c0.Rows).bind fun r10=>
 bif !r10 then
 some (false)
 else
 (gIdx c0.Rows 0).bind fun e17=>
 bif decide (((e17.length:Int):Int)>32) then
 some (false)
 else
 bif decide (((c0.Rows.length:Int):Int)>8) then
 some (false)
 else
 Zis c0
def Zhq (list0:List Int):Int→Option ((Int) ⊕ (Bool))
 | i3=>
 bif decide (i3<(list0.length:Int)) then
 (gIdx list0 i3).bind fun e15=>
 (ZE e15 0 63).bind fun r17=>
 bif !r17 then
 some (.inr (false))
 else
 some (.inl (IntKind.i64.wrap (i3+1)))
 else
 some (.inr (true))
def Zhh (list0:List Int):Option Bool:=
 bif decide (((list0.length:Int):Int)>64) then
 some (false)
 else
 loop (Zhq list0) (0)
def ZgG (a0 b1:ZL):Option Bool:=
 bif decide (a0.A<b1.A) then
 some (true)
 else
 bif a0.A==b1.A then
 some (decide (a0.B<b1.B))
 else
 some (false)
def Zcr (g0:Z1):Int→Option ((Int) ⊕ (Bool))
 | i4=>
 bif decide (i4<(g0.Edges.length:Int)) then
 (gIdx g0.Edges i4).bind fun e29=>
 (ZE e29.A 0 (IntKind.i64.wrap ((g0.Colors.length:Int)-1))).bind fun r35=>
 bif !r35 then
 some (.inr (false))
 else
 (ZE e29.B (IntKind.i64.wrap (e29.A+1)) (IntKind.i64.wrap ((g0.Colors.length:Int)-1))).bind fun r45=>
 bif !r45 then
 some (.inr (false))
 else
 bif decide (i4>0) then
 (gIdx g0.Edges (IntKind.i64.wrap (i4-1))).bind fun e56=>
 (ZgG e56 (ZL.mk e29.A e29.B)).bind fun r59=>
 bif !r59 then
 some (.inr (false))
 else
 some (.inl (IntKind.i64.wrap (i4+1)))
 else
 some (.inl (IntKind.i64.wrap (i4+1)))
 else
 some (.inr (true))
def ZjW (g0:Z1):Option (Bool):=
 loop (Zcr g0) (0)
def ZfR (g0:Z1):Option Bool:=
 (Zhh g0.Colors).bind fun r8=>
 bif !r8 then
 some (false)
 else
 bif decide (((g0.Edges.length:Int):Int)>512) then
 some (false)
 else
 ZjW g0
def ZdE (y0:Zf) (l17:List Int):Int×List ZL→Option ((Int×List ZL) ⊕ (Z1×Bool))
 | (y5,xs)=>
 bif decide (y5<(y0.Rows.length:Int)) then
 (gIdx y0.Rows y5).bind fun e33=>
 bif ((e33.length:Int):Int) !=2 then
 some (.inr (((Z1.mk ([]:List Int) ([]:List ZL)),false)))
 else
 (gIdx y0.Rows y5).bind fun e45=>
 (gIdx e45 0).bind fun e47=>
 (gIdx y0.Rows y5).bind fun e54=>
 (gIdx e54 1).bind fun e56=>
 (gApp 16 xs [(ZL.mk e47 e56)]).bind fun l60=>
 some (.inl (IntKind.i64.wrap (y5+1),l60))
 else
 (ZfR (Z1.mk l17 xs)).bind fun r64=>
 some (.inr (((Z1.mk l17 xs),r64)))
def Zg4 (y0:Zf):Option (Z1×Bool):=
 (ZE y0.Size 0 64).bind fun r10=>
 bif !r10 then
 some (((Z1.mk ([]:List Int) ([]:List ZL)),false))
 else
 (gMake 8 (0:Int) y0.Size y0.Size).bind fun l17=>
 loop (ZdE y0 l17) (0,([]:List ZL))
def Zbe (list0:List (List Int)) (p1:List Int):Int×Int→Option ((Int×Int) ⊕ (Int×Bool))
 | (low6,high7)=>
 bif decide (low6<high7) then
 (gNz 2).bind fun _=>
 (gIdx list0 (IntKind.i64.wrap (Int.tdiv (IntKind.i64.wrap (low6+high7)) 2))).bind fun e21=>
 (ZdJ e21 p1).bind fun r24=>
 bif r24==0 then
 some (.inr ((IntKind.i64.wrap (Int.tdiv (IntKind.i64.wrap (low6+high7)) 2),true)))
 else
 bif decide (r24<0) then
 some (.inl (IntKind.i64.wrap ((IntKind.i64.wrap (Int.tdiv (IntKind.i64.wrap (low6+high7)) 2))+1),high7))
 else
 some (.inl (low6,IntKind.i64.wrap (Int.tdiv (IntKind.i64.wrap (low6+high7)) 2)))
 else
 some (.inr ((low6,false)))
def Zda (list0:List (List Int)) (p1:List Int):Option (Int×Bool):=
 loop (Zbe list0 p1) (0,(list0.length:Int))
def Zet (n0:Int):List Int×Int→Option ((List Int×Int) ⊕ (List Int))
 | (out3,i4)=>
 bif decide (i4<n0) then
 (gApp 8 out3 [i4]).bind fun l14=>
 some (.inl (l14,IntKind.i64.wrap (i4+1)))
 else
 some (.inr (out3))
def Zf3 (n0:Int):Option (List Int):=
 loop (Zet n0) (([]:List Int),0)
def Zfv (p0 q1:List Int):List Int×Int→Option ((List Int×Int) ⊕ (List Int))
 | (out5,i6)=>
 bif decide (i6<(p0.length:Int)) then
 (gIdx p0 i6).bind fun e18=>
 (gIdx q1 e18).bind fun e20=>
 (gApp 8 out5 [e20]).bind fun l23=>
 some (.inl (l23,IntKind.i64.wrap (i6+1)))
 else
 some (.inr (out5))
def Zhy (p0 q1:List Int):Option (List Int):=
 loop (Zfv p0 q1) (([]:List Int),0)
def ZhT (list0:List (List Int)) (at1:Int) (p2:List Int):Option (List (List Int)):=
 (gSl list0 0 at1).bind fun l11=>
 (gApp 24 ([]:List (List Int)) l11).bind fun l12=>
 (gApp 24 l12 [p2]).bind fun l16=>
 (gSl list0 at1 (list0.length:Int)).bind fun l20=>
 (gApp 24 l16 l20).bind fun l21=>
 some (l21)
def ZaG (genera1:List (List Int)) (most2 i11:Int):List (List Int)×List (List Int)×Int→Option ((List (List Int)×List (List Int)×Int) ⊕ ((List (List Int)×List (List Int)×Int) ⊕ ((List (List Int))×Bool)))
 | (list9_2,queue10_2,k12)=>
 bif decide (k12<(genera1.length:Int)) then
 (gIdx queue10_2 i11).bind fun e36=>
 (gIdx genera1 k12).bind fun e40=>
 (Zhy e36 e40).bind fun r42=>
 (Zda list9_2 r42).bind fun r46=>
 bif r46.2 then
 some (.inl (list9_2,queue10_2,IntKind.i64.wrap (k12+1)))
 else
 bif ((list9_2.length:Int):Int)==most2 then
 some (.inr (.inr ((([]:List (List Int)),false))))
 else
 (ZhT list9_2 r46.1 r42).bind fun r57=>
 (gApp 24 queue10_2 [r42]).bind fun l61=>
 some (.inl (r57,l61,IntKind.i64.wrap (k12+1)))
 else
 some (.inr (.inl (list9_2,queue10_2,IntKind.i64.wrap (i11+1))))
def ZbY (genera1:List (List Int)) (most2:Int):List (List Int)×List (List Int)×Int→Option ((List (List Int)×List (List Int)×Int) ⊕ ((List (List Int))×Bool))
 | (list9,queue10,i11)=>
 bif decide (i11<(queue10.length:Int)) then
 loop (ZaG genera1 most2 i11) (list9,queue10,0)
 else
 some (.inr ((list9,true)))
def Zcf (degree0:Int) (genera1:List (List Int)) (most2:Int):Option ((List (List Int))×Bool):=
 (Zf3 degree0).bind fun r17=>
 loop (ZbY genera1 most2) ([r17],[r17],0)
def Zbk (degree0:Int) (list1:List (List Int)):List (List Int)×List (List Int)×Int→Option ((List (List Int)×List (List Int)×Int) ⊕ ((List (List Int))×Bool))
 | (out6,have7,i9)=>
 bif decide (i9<(list1.length:Int)) then
 (gIdx list1 i9).bind fun e31=>
 (Zda have7 e31).bind fun r33=>
 bif r33.2 then
 some (.inl (out6,have7,IntKind.i64.wrap (i9+1)))
 else
 (gIdx list1 i9).bind fun e40=>
 (Zbh e40).bind fun r42=>
 (gApp 24 out6 [r42]).bind fun l44=>
 (Zcf degree0 l44 (list1.length:Int)).bind fun r50=>
 bif !r50.2 then
 some (.inr ((([]:List (List Int)),false)))
 else
 some (.inl (l44,r50.1,IntKind.i64.wrap (i9+1)))
 else
 (ZeB have7 list1).bind fun r59=>
 some (.inr ((out6,r59)))
def Zge (degree0:Int) (list1:List (List Int)):Option ((List (List Int))×Bool):=
 (Zcf degree0 ([]:List (List Int)) 1).bind fun r18=>
 loop (Zbk degree0 list1) (([]:List (List Int)),r18.1,0)
def ZcT (y0:ZaK):Int→Option ((Int) ⊕ (Bool))
 | y3=>
 bif decide (y3<(y0.Elements.length:Int)) then
 (gIdx y0.Elements y3).bind fun e42=>
 (ZdC e42).bind fun r44=>
 bif !r44 then
 some (.inr (false))
 else
 (gIdx y0.Elements y3).bind fun e52=>
 bif ((e52.length:Int):Int) !=y0.Degree then
 some (.inr (false))
 else
 bif decide (y3>0) then
 (gIdx y0.Elements (IntKind.i64.wrap (y3-1))).bind fun e71=>
 (gIdx y0.Elements y3).bind fun e78=>
 (ZdJ e71 e78).bind fun r80=>
 bif decide (r80≥0) then
 some (.inr (false))
 else
 some (.inl (IntKind.i64.wrap (y3+1)))
 else
 some (.inl (IntKind.i64.wrap (y3+1)))
 else
 (Zge y0.Degree y0.Elements).bind fun r93=>
 some (.inr (r93.2))
def ZiN (y0:ZaK):Option (Bool):=
 loop (ZcT y0) (0)
def ZhC (y0:ZaK):Option Bool:=
 (ZE y0.Degree 1 32).bind fun r10=>
 bif !r10 then
 some (false)
 else
 bif ((y0.Elements.length:Int):Int)==0 then
 some (false)
 else
 bif decide (((y0.Elements.length:Int):Int)>720) then
 some (false)
 else
 ZiN y0
def Zg9 (y0:Zf):Option Bool:=
 bif y0.Kind==1 then
 (Zhv y0.Rows).bind fun r17=>
 bif r17 then
 some (((y0.Rows.length:Int):Int)==y0.Size)
 else
 some (false)
 else
 bif y0.Kind==2 then
 (ZhN (Zbv.mk y0.Size y0.Rows)).bind fun r42=>
 some (r42)
 else
 bif y0.Kind==3 then
 (ZhP y0.Rows).bind fun r49=>
 bif r49 then
 some (((y0.Rows.length:Int):Int)==y0.Size)
 else
 some (false)
 else
 bif y0.Kind==4 then
 (ZfB y0).bind fun r65=>
 bif decide (((y0.Rows.length:Int):Int)>0) then
 (ZfD (Zac.mk r65.Levels r65.Columns r65.Rows)).bind fun r73=>
 some (r73)
 else
 some (false)
 else
 bif y0.Kind==5 then
 (Zfz y0).bind fun r78=>
 (Zfh (Zbf.mk (Zd.mk r78.Field.Prime r78.Field.Degree r78.Field.Poly) r78.Rows)).bind fun r79=>
 some (r79)
 else
 bif y0.Kind==6 then
 (Zg4 y0).bind fun r84=>
 some (r84.2)
 else
 bif y0.Kind==7 then
 (ZhC (ZaK.mk y0.Size y0.Rows)).bind fun r100=>
 some (r100)
 else
 some (false)
def ZeJ (list0:List Int) (i4:Int) (out3_2:ByteArray):Option ((ByteArray×Int) ⊕ (ByteArray)):=
 (gIdx list0 i4).bind fun e30=>
 (Zcg e30).bind fun r32=>
 (gFit out3_2 r32).bind fun _=>
 some (.inl (out3_2++r32,IntKind.i64.wrap (i4+1)))
def Zbj (list0:List Int):ByteArray×Int→Option ((ByteArray×Int) ⊕ (ByteArray))
 | (out3,i4)=>
 bif decide (i4<(list0.length:Int)) then
 (gIdx list0 i4).bind fun e19=>
 (ZE e19 (-999999999) 999999999).bind fun r21=>
 bif !r21 then
 some (.inr (⟨#[]⟩))
 else
 bif decide (i4>0) then
 (gFit out3 (⟨#[44]⟩:ByteArray)).bind fun _=>
 ZeJ list0 i4 (out3++(⟨#[44]⟩:ByteArray))
 else
 ZeJ list0 i4 out3
 else
 some (.inr (out3))
def Zhk (list0:List Int):Option ByteArray:=
 bif decide (((list0.length:Int):Int)>100) then
 some (⟨#[]⟩)
 else
 bif ((list0.length:Int):Int)==0 then
 some (⟨#[45]⟩)
 else
 loop (Zbj list0) (⟨#[]⟩,0)
def Zcm (o0:Zf) (i4:Int) (out3_2:ByteArray):Option ((ByteArray×Int) ⊕ (ByteArray)):=
 (gIdx o0.Rows i4).bind fun e47=>
 (Zhk e47).bind fun r49=>
 (gFit out3_2 r49).bind fun _=>
 some (.inl (out3_2++r49,IntKind.i64.wrap (i4+1)))
def Za4 (o0:Zf):ByteArray×Int→Option ((ByteArray×Int) ⊕ (ByteArray))
 | (out3,i4)=>
 bif decide (i4<(o0.Rows.length:Int)) then
 bif decide (i4>0) then
 (gFit out3 (⟨#[47]⟩:ByteArray)).bind fun _=>
 Zcm o0 i4 (out3++(⟨#[47]⟩:ByteArray))
 else
 Zcm o0 i4 out3
 else
 some (.inr (out3))
def Zhi (o0:Zf):Option ByteArray:=
 (ZdV).bind fun r5=>
 (gIdx r5 o0.Kind).bind fun e10=>
 (Zcg o0.Size).bind fun r17=>
 (gFit e10 (⟨#[32]⟩:ByteArray)).bind fun _=>
 (gFit (e10++(⟨#[32]⟩:ByteArray):ByteArray) r17).bind fun _=>
 (gFit ((e10++(⟨#[32]⟩:ByteArray):ByteArray)++r17:ByteArray) (⟨#[32]⟩:ByteArray)).bind fun _=>
 bif ((o0.Rows.length:Int):Int)==0 then
 (gFit (((e10++(⟨#[32]⟩:ByteArray):ByteArray)++r17:ByteArray)++(⟨#[32]⟩:ByteArray):ByteArray) (⟨#[110,111,110,101]⟩:ByteArray)).bind fun _=>
 some ((((e10++(⟨#[32]⟩:ByteArray):ByteArray)++r17:ByteArray)++(⟨#[32]⟩:ByteArray):ByteArray)++(⟨#[110,111,110,101]⟩:ByteArray))
 else
 loop (Za4 o0) (((e10++(⟨#[32]⟩:ByteArray):ByteArray)++r17:ByteArray)++(⟨#[32]⟩:ByteArray),0)
def Zep (y0:ByteArray) (r24 r31:Int×Bool) (xs:List (List Int)):Option (Zf×Bool):=
 (Zg9 (Zf.mk r24.1 r31.1 xs)).bind fun r79=>
 bif !r79 then
 some (((Zf.mk 0 0 ([]:List (List Int))),false))
 else
 (Zhi (Zf.mk r24.1 r31.1 xs)).bind fun r82=>
 bif !(r82.toList==y0.toList) then
 some (((Zf.mk 0 0 ([]:List (List Int))),false))
 else
 some (((Zf.mk r24.1 r31.1 xs),true))
def Zbd (y0:ByteArray) (r24 r31:Int×Bool) (r51:List ByteArray):Int×List (List Int)→Option ((Int×List (List Int)) ⊕ (Zf×Bool))
 | (y11,xs_2)=>
 bif decide (y11<(r51.length:Int)) then
 (gIdx r51 y11).bind fun e65=>
 (ZfI e65).bind fun r67=>
 bif !r67.2 then
 some (.inr (((Zf.mk 0 0 ([]:List (List Int))),false)))
 else
 (gApp 24 xs_2 [r67.1]).bind fun l77=>
 some (.inl (IntKind.i64.wrap (y11+1),l77))
 else
 (Zep y0 r24 r31 xs_2).map fun x=>.inr (x)
def ZfC (y0:ByteArray) (r15:List ByteArray) (r24 r31:Int×Bool):Option (Zf×Bool):=
 (gIdx r15 2).bind fun e45=>
 bif !(e45.toList==(⟨#[110,111,110,101]⟩:ByteArray).toList) then
 (gIdx r15 2).bind fun e49=>
 (Zaz e49 47).bind fun r51=>
 bif decide (((r51.length:Int):Int)>720) then
 some (((Zf.mk 0 0 ([]:List (List Int))),false))
 else
 loop (Zbd y0 r24 r31 r51) (0,([]:List (List Int)))
 else
 Zep y0 r24 r31 ([]:List (List Int))
def Zh5 (y0:ByteArray):Option (Zf×Bool):=
 (Zaz y0 32).bind fun r15=>
 bif ((r15.length:Int):Int) !=3 then
 some (((Zf.mk 0 0 ([]:List (List Int))),false))
 else
 (gIdx r15 0).bind fun e22=>
 (ZfY e22).bind fun r24=>
 (gIdx r15 1).bind fun e29=>
 (ZdD e29).bind fun r31=>
 bif !r24.2 then
 some (((Zf.mk 0 0 ([]:List (List Int))),false))
 else
 bif !r31.2 then
 some (((Zf.mk 0 0 ([]:List (List Int))),false))
 else
 ZfC y0 r15 r24 r31
def ZaN (c0:Int):Option Bool:=
 bif decide (c0≥97) then
 some (decide (c0≤122))
 else
 some (false)
def ZcL (s0:ByteArray):Int→Option ((Int) ⊕ (Bool))
 | i3=>
 bif decide (i3<(s0.size:Int)) then
 (gSt s0 i3).bind fun c25=>
 (ZaN (c25.toNat:Int)).bind fun r26=>
 bif !r26 then
 (gSt s0 i3).bind fun c31=>
 (ZaB (c31.toNat:Int)).bind fun r32=>
 bif !r32 then
 some (.inr (false))
 else
 some (.inl (IntKind.i64.wrap (i3+1)))
 else
 some (.inl (IntKind.i64.wrap (i3+1)))
 else
 some (.inr (true))
def ZjN (s0:ByteArray):Option (Bool):=
 loop (ZcL s0) (0)
def Zeh (s0:ByteArray):Option Bool:=
 bif s0.toList==(⟨#[]⟩:ByteArray).toList then
 some (false)
 else
 bif decide (((s0.size:Int):Int)>10) then
 some (false)
 else
 (gSt s0 0).bind fun c13=>
 (ZaN (c13.toNat:Int)).bind fun r14=>
 bif !r14 then
 some (false)
 else
 ZjN s0
def Zgt (body0:ByteArray) (at4:Int):Option (ZaC×Bool):=
 (gStSl body0 (IntKind.i64.wrap (at4+1)) (body0.size)).bind fun s35=>
 (Zh5 s35).bind fun r36=>
 (gStSl body0 0 at4).bind fun s41=>
 some (((ZaC.mk s41 (Zf.mk r36.1.Kind r36.1.Size r36.1.Rows) ⟨#[]⟩),r36.2))
def ZbS (body0:ByteArray) (at4:Int):Option (ZaC×Bool):=
 bif at4==(body0.size:Int) then
 some (((ZaC.mk ⟨#[]⟩ (Zf.mk 0 0 ([]:List (List Int))) ⟨#[]⟩),false))
 else
 (gStSl body0 0 at4).bind fun s26=>
 (Zeh s26).bind fun r27=>
 bif !r27 then
 some (((ZaC.mk ⟨#[]⟩ (Zf.mk 0 0 ([]:List (List Int))) ⟨#[]⟩),false))
 else
 Zgt body0 at4
def Zfn (body0:ByteArray):Int→Option ((Int) ⊕ (ZaC×Bool))
 | at4_2=>
 bif decide (at4_2<(body0.size:Int)) then
 (gSt body0 at4_2).bind fun c14=>
 bif ((c14.toNat:Int):Int) !=32 then
 some (.inl (IntKind.i64.wrap (at4_2+1)))
 else
 (ZbS body0 at4_2).map fun x=>.inr (x)
 else
 (ZbS body0 at4_2).map fun x=>.inr (x)
def Za3 (body0:ByteArray):Option (ZaC×Bool):=
 loop (Zfn body0) (0)
def Zaq (out6:List Int) (i7:Int) (ok9:Bool):Option ((List Int×Int) ⊕ ((List Int)×Int)):=
 bif !ok9 then
 (gApp 8 out6 [IntKind.i64.wrap (i7+1)]).bind fun l45=>
 some (.inl (l45,IntKind.i64.wrap (i7+1)))
 else
 some (.inl (out6,IntKind.i64.wrap (i7+1)))
def ZcI (r12:(List ByteArray)×Int):List Int×Int→Option ((List Int×Int) ⊕ ((List Int)×Int))
 | (out6,i7)=>
 bif decide (i7<(r12.1.length:Int)) then
 (gIdx r12.1 i7).bind fun e28=>
 (Zbp e28).bind fun r30=>
 bif r30.2 then
 (Za3 r30.1).bind fun r36=>
 Zaq out6 i7 r36.2
 else
 Zaq out6 i7 r30.2
 else
 some (.inr ((out6,0)))
def ZhA (s0:ByteArray):Option ((List Int)×Int):=
 (Zcb s0).bind fun r12=>
 bif r12.2 !=0 then
 some ((([]:List Int),r12.2))
 else
 loop (ZcI r12) (([]:List Int),0)
def Zba (s0 sep1:ByteArray):Option (List ByteArray):=if s0.size<4294967281∧1≤sep1.size then some (Go.Lib.splitB sep1 0 (Go.Lib.countB s0 sep1) s0) else none
def ZhW (s0 prefix1:ByteArray):Option Bool:=
 bif decide (((s0.size:Int):Int)≥(prefix1.size:Int)) then
 (gStSl s0 0 (prefix1.size:Int)).bind fun s14=>
 some (s14.toList==prefix1.toList)
 else
 some (false)
def ZfL (s0 prefix1:ByteArray):Option ByteArray:=
 (ZhW s0 prefix1).bind fun r7=>
 bif r7 then
 (gStSl s0 (prefix1.size:Int) (s0.size)).bind fun s11=>
 some (s11)
 else
 some (s0)
def ZbP (s0 prefix1:ByteArray):Option ByteArray:=
 (ZfL s0 prefix1).bind fun r7=>
 some (r7)
def ZjS (i0 base1:Int):Option ByteArray:=if base1=10∧-9223372036854775808≤i0∧i0≤9223372036854775807 then some (itoaB i0) else none
def ZbM (n0:Int):Option ByteArray:=
 (ZjS n0 10).bind fun r4=>
 some (r4)
def Zdd (s0:ByteArray):Option Int→Option (Int×Bool)
 | none=>some (0,false)
 | some n=>
 (ZbM n).bind fun r26=>
 bif !(r26.toList==s0.toList) then
 some (0,false)
 else
 some (n,true)
def ZcW (s0:ByteArray):Option (Int×Bool):=
 (ZbP s0 ⟨#[45]⟩).bind fun r8=>
 bif decide (((r8.size:Int):Int)<1) then
 some (0,false)
 else
 bif decide (((r8.size:Int):Int)>18) then
 some (0,false)
 else
 (gPars s0).bind fun q=>Zdd s0 q
def ZG (n0 low1 high2:Int):Option Bool:=
 bif decide (n0≥low1) then
 some (decide (n0≤high2))
 else
 some (false)
def Zb9 (s0 suffix1:ByteArray):Option Bool:=
 bif decide (((s0.size:Int):Int)≥(suffix1.size:Int)) then
 (gStSl s0 (IntKind.i64.wrap ((s0.size:Int)-(suffix1.size:Int))) (s0.size)).bind fun s17=>
 some (s17.toList==suffix1.toList)
 else
 some (false)
def ZdK (s0 suffix1:ByteArray):Option Bool:=
 (Zb9 s0 suffix1).bind fun r7=>
 some (r7)
def Zij (s0 suffix1:ByteArray):Option ByteArray:=
 (Zb9 s0 suffix1).bind fun r7=>
 bif r7 then
 (gStSl s0 0 (IntKind.i64.wrap ((s0.size:Int)-(suffix1.size:Int)))).bind fun s14=>
 some (s14)
 else
 some (s0)
def Zhm (s0 suffix1:ByteArray):Option ByteArray:=
 (Zij s0 suffix1).bind fun r7=>
 some (r7)
def ZeO (list0:List ByteArray):Option Int:=
 some ((list0.length:Int))
def ZbH (r12:List ByteArray) (r18:Int×Bool) (y21:Bool):Option ((List ByteArray)×Int):=
 bif y21 then
 some ((([]:List ByteArray),9))
 else
 (ZeO r12).bind fun r40=>
 bif decide ((IntKind.i64.wrap (r40-1):Int)<r18.1) then
 some ((([]:List ByteArray),11))
 else
 (ZeO r12).bind fun r46=>
 bif decide ((IntKind.i64.wrap (r46-1):Int)>r18.1) then
 some ((([]:List ByteArray),9))
 else
 (gSl r12 1 (r12.length:Int)).bind fun l51=>
 some ((l51,0))
def ZbX (s0:ByteArray):Option ((List ByteArray)×Int):=
 (ZdK s0 ⟨#[10]⟩).bind fun r8=>
 bif !r8 then
 some ((([]:List ByteArray),11))
 else
 (Zhm s0 ⟨#[10]⟩).bind fun r11=>
 (Zba r11 ⟨#[10]⟩).bind fun r12=>
 (gIdx r12 0).bind fun e15=>
 (ZbP e15 ⟨#[99,97,116,97,108,111,103,32]⟩).bind fun r17=>
 (ZcW r17).bind fun r18=>
 bif !r18.2 then
 ZbH r12 r18 true
 else
 (ZG r18.1 0 24).bind fun r26=>
 bif !r26 then
 ZbH r12 r18 true
 else
 (ZbM r18.1).bind fun r34=>
 (gIdx r12 0).bind fun e31=>
 (gFit (⟨#[99,97,116,97,108,111,103,32]⟩:ByteArray) r34).bind fun _=>
 ZbH r12 r18 (!(e31.toList==((⟨#[99,97,116,97,108,111,103,32]⟩:ByteArray)++r34:ByteArray).toList))
def Zct (s0:List ByteArray) (v1:ByteArray):Int→Option ((Int) ⊕ (Int))
 | y8=>
 bif decide (y8<(s0.length:Int)) then
 (gIdx s0 y8).bind fun e14=>
 bif v1.toList==e14.toList then
 some (.inr (y8))
 else
 some (.inl (IntKind.i64.wrap (y8+1)))
 else
 some (.inr ((-1)))
def Zjs (s0:List ByteArray) (v1:ByteArray):Option Int:=
 loop (Zct s0 v1) (0)
def ZeQ:Option (List ByteArray):=
 some (([⟨#[115,113,117,97,114,101]⟩,⟨#[100,101,115,105,103,110]⟩,⟨#[104,97,100,97,109,97,114,100]⟩,⟨#[97,114,114,97,121]⟩,⟨#[99,111,100,101]⟩,⟨#[103,114,97,112,104]⟩,⟨#[103,114,111,117,112]⟩]:List ByteArray))
def Zgn (s0:ByteArray):Option (Int×Bool):=
 (ZeQ).bind fun r5=>
 (Zjs r5 s0).bind fun r7=>
 some ((IntKind.i64.wrap (r7+1),decide (r7≥0)))
def Ze1 (x0:List ByteArray) (s1:ByteArray):Option ByteArray:=if x0.length≤140737488355328∧(joinB x0 s1).size≤140737488355328 then some (joinB x0 s1) else none
def Zc0 (s0:List Int) (fn1:Int→Option Bool):Int→Option ((Int) ⊕ (Int))
 | y8=>
 bif decide (y8<(s0.length:Int)) then
 (gIdx s0 y8).bind fun e14=>
 (fn1 e14).bind fun r16=>
 bif r16 then
 some (.inr (y8))
 else
 some (.inl (IntKind.i64.wrap (y8+1)))
 else
 some (.inr ((-1)))
def Zgg (s0:List Int) (fn1:Int→Option Bool):Option Int:=
 loop (Zc0 s0 fn1) (0)
def ZaA (s0:List Int) (fn1:Int→Option Bool):Option Bool:=
 (Zgg s0 fn1).bind fun r7=>
 some (decide (r7≥0))
def Zdc (n0:Int):Option Bool:=
 (ZG n0 (-999999999) 999999999).bind fun r4=>
 some (!r4)
def ZdN (list0:List Int):List ByteArray×Int→Option ((List ByteArray×Int) ⊕ (ByteArray))
 | (words3,y18)=>
 bif decide (y18<(list0.length:Int)) then
 (gIdx list0 y18).bind fun e20=>
 (ZbM e20).bind fun r24=>
 (gApp 16 words3 [r24]).bind fun l26=>
 some (.inl (l26,IntKind.i64.wrap (y18+1)))
 else
 (Ze1 words3 ⟨#[44]⟩).bind fun r29=>
 some (.inr (r29))
def Zg2 (list0:List Int):Option (ByteArray):=
 bif ((list0.length:Int):Int)==0 then
 some (⟨#[45]⟩)
 else
 loop (ZdN list0) (([]:List ByteArray),0)
def ZeL (list0:List Int):Option ByteArray:=
 bif decide (((list0.length:Int):Int)>100) then
 some (⟨#[]⟩)
 else
 (ZaA list0 (fun y0=>Zdc y0)).bind fun r11=>
 bif r11 then
 some (⟨#[]⟩)
 else
 Zg2 list0
def ZcV (s0:ByteArray) (r12:List ByteArray):List Int×Int→Option ((List Int×Int) ⊕ ((List Int)×Bool))
 | (list4,y14)=>
 bif decide (y14<(r12.length:Int)) then
 (gIdx r12 y14).bind fun e16=>
 (ZcW e16).bind fun r20=>
 (gApp 8 list4 [r20.1]).bind fun l26=>
 some (.inl (l26,IntKind.i64.wrap (y14+1)))
 else
 (ZeL list4).bind fun r29=>
 bif !(r29.toList==s0.toList) then
 some (.inr ((([]:List Int),false)))
 else
 some (.inr ((list4,true)))
def Zf0 (s0:ByteArray):Option ((List Int)×Bool):=
 bif s0.toList==(⟨#[45]⟩:ByteArray).toList then
 some ((([]:List Int),true))
 else
 (Zba s0 ⟨#[44]⟩).bind fun r12=>
 loop (ZcV s0 r12) (([]:List Int),0)
def Z0 (list0:List (List Int)):Option Int:=
 some ((list0.length:Int))
def ZbF (a0:List Int):Option (List Int):=gApp 8 [] a0
def ZeC (lists0:List (List Int)):List (List Int)×Int→Option ((List (List Int)×Int) ⊕ (List (List Int)))
 | (out3,y8)=>
 bif decide (y8<(lists0.length:Int)) then
 (gIdx lists0 y8).bind fun e10=>
 (ZbF e10).bind fun r14=>
 (gApp 24 out3 [r14]).bind fun l16=>
 some (.inl (l16,IntKind.i64.wrap (y8+1)))
 else
 some (.inr (out3))
def Zb7 (lists0:List (List Int)):Option (List (List Int)):=
 loop (ZeC lists0) (([]:List (List Int)),0)
def ZN (list0:List Int):Option Int:=
 some ((list0.length:Int))
def ZgW (o0:Zf):Option Zac:=
 (Zb7 o0.Rows).bind fun r8=>
 bif decide (((o0.Rows.length:Int):Int)>0) then
 (gIdx o0.Rows 0).bind fun e16=>
 (ZN e16).bind fun r18=>
 some ((Zac.mk o0.Size r18 r8))
 else
 some ((Zac.mk o0.Size 0 r8))
def Zb1 (s0:List (List Int)) (fn1:(List Int)→Option Bool):Int→Option ((Int) ⊕ (Int))
 | y8=>
 bif decide (y8<(s0.length:Int)) then
 (gIdx s0 y8).bind fun e14=>
 (fn1 e14).bind fun r16=>
 bif r16 then
 some (.inr (y8))
 else
 some (.inl (IntKind.i64.wrap (y8+1)))
 else
 some (.inr ((-1)))
def Zfu (s0:List (List Int)) (fn1:(List Int)→Option Bool):Option Int:=
 loop (Zb1 s0 fn1) (0)
def Zez (s0:List (List Int)) (fn1:(List Int)→Option Bool):Option Bool:=
 (Zfu s0 fn1).bind fun r7=>
 some (decide (r7≥0))
def Zgc (x0:List Int):Option (List Int):=if x0.length<4611686018427387904 then some (sortI x0) else none
def Zef (p0 r9:List Int):Int→Option ((Int) ⊕ (Bool))
 | y12=>
 bif decide (y12<(r9.length:Int)) then
 (gIdx r9 y12).bind fun e15=>
 bif e15 !=y12 then
 some (.inr (false))
 else
 some (.inl (IntKind.i64.wrap (y12+1)))
 else
 some (.inr (decide (((p0.length:Int):Int)≤32)))
def Ze7 (p0:List Int):Option Bool:=
 (ZbF p0).bind fun r7=>
 (Zgc r7).bind fun r9=>
 loop (Zef p0 r9) (0)
def Zio (p0:List Int) (y1:Int):Option Bool:=
 (ZN p0).bind fun r5=>
 bif r5 !=y1 then
 some (true)
 else
 (Ze7 p0).bind fun r10=>
 some (!r10)
def Zev (degree0:Int) (list1:List (List Int)):Option Bool:=
 (Zez list1 (fun y0=>Zio y0 degree0)).bind fun r7=>
 some (!r7)
def Zdb (a0:List (List Int)) (y20:Int):List Int×Int→Option ((List Int×Int) ⊕ ((Int) ⊕ (Bool)))
 | (column5,y25)=>
 bif decide (y25<(a0.length:Int)) then
 (gIdx a0 y25).bind fun e31=>
 (gIdx e31 y20).bind fun e34=>
 (gApp 8 column5 [e34]).bind fun l37=>
 some (.inl (l37,IntKind.i64.wrap (y25+1)))
 else
 (Ze7 column5).bind fun r40=>
 bif !r40 then
 some (.inr (.inr (false)))
 else
 some (.inr (.inl (IntKind.i64.wrap (y20+1))))
def ZhD (a0:List (List Int)):Int→Option ((Int) ⊕ (Bool))
 | y20=>
 bif decide (y20<(a0.length:Int)) then
 loop (Zdb a0 y20) (([]:List Int),0)
 else
 some (.inr (true))
def Zid (a0:List (List Int)):Option (Bool):=
 loop (ZhD a0) (0)
def ZgF (a0:List (List Int)):Option Bool:=
 (Z0 a0).bind fun r8=>
 (ZG r8 1 10).bind fun r10=>
 bif !r10 then
 some (false)
 else
 (Zev r8 a0).bind fun r15=>
 bif !r15 then
 some (false)
 else
 Zid a0
def ZbT (set0:List Int) (n1:Int):Int×Int→Option ((Int×Int) ⊕ (Bool))
 | (last5,y10)=>
 bif decide (y10<(set0.length:Int)) then
 (gIdx set0 y10).bind fun e12=>
 bif decide (e12≤last5) then
 some (.inr (false))
 else
 bif decide (e12≥n1) then
 some (.inr (false))
 else
 some (.inl (e12,IntKind.i64.wrap (y10+1)))
 else
 (ZG n1 0 32).bind fun r25=>
 some (.inr (r25))
def Zg7 (set0:List Int) (n1:Int):Option Bool:=
 loop (ZbT set0 n1) ((-1),0)
def Zgo (block0:List Int) (points1:Int):Option Bool:=
 bif decide (((block0.length:Int):Int)>0) then
 (Zg7 block0 points1).bind fun r11=>
 some (r11)
 else
 some (false)
def ZgE (b0:List Int) (y1:Int):Option Bool:=
 (Zgo b0 y1).bind fun r6=>
 some (!r6)
def Zjk (blocks0:List (List Int)) (points1:Int):Option Bool:=
 (ZG points1 1 32).bind fun r6=>
 bif r6 then
 (Zez blocks0 (fun y0=>ZgE y0 points1)).bind fun r10=>
 some (!r10)
 else
 some (false)
def ZdL (x0:List (List Int)) (fn1:(List Int)→(List Int)→Option Int):Int→Option ((Int) ⊕ (Bool))
 | i5=>
 bif decide (i5>0) then
 (gIdx x0 i5).bind fun e16=>
 (gIdx x0 (IntKind.i64.wrap (i5-1))).bind fun e21=>
 (fn1 e16 e21).bind fun r23=>
 bif decide (r23<0) then
 some (.inr (false))
 else
 some (.inl (IntKind.i64.wrap (i5-1)))
 else
 some (.inr (true))
def Zgz (x0:List (List Int)) (fn1:(List Int)→(List Int)→Option Int):Option Bool:=
 loop (ZdL x0 fn1) (IntKind.i64.wrap ((x0.length:Int)-1))
def Zb3 (x0:Int):Option Bool:=
 some (x0 !=x0)
def Za5 (x0 y1:Int):Option Int:=
 (Zb3 x0).bind fun r8=>
 (Zb3 y1).bind fun r10=>
 bif r8 then
 bif r10 then
 some (0)
 else
 some ((-1))
 else
 bif r10 then
 some (1)
 else
 bif decide (x0<y1) then
 some ((-1))
 else
 bif decide (x0>y1) then
 some (1)
 else
 some (0)
def ZaW (s0 s1:List Int):Int→Option ((Int) ⊕ (Int))
 | y11=>
 bif decide (y11<(s0.length:Int)) then
 (gIdx s0 y11).bind fun e14=>
 bif decide (y11≥(s1.length:Int)) then
 some (.inr (1))
 else
 (gIdx s1 y11).bind fun e22=>
 (Za5 e14 e22).bind fun r26=>
 bif r26 !=0 then
 some (.inr (r26))
 else
 some (.inl (IntKind.i64.wrap (y11+1)))
 else
 bif decide (((s0.length:Int):Int)<(s1.length:Int)) then
 some (.inr ((-1)))
 else
 some (.inr (0))
def Zal (s0 s1:List Int):Option Int:=
 loop (ZaW s0 s1) (0)
def ZgQ (d0:Zbv):Option Bool:=
 (Zjk d0.Blocks d0.Points).bind fun r7=>
 bif r7 then
 bif decide (((d0.Blocks.length:Int):Int)≤128) then
 (Zgz d0.Blocks (fun y0 y1=>Zal y0 y1)).bind fun r17=>
 some (r17)
 else
 some (false)
 else
 some (false)
def ZhV (o0:Zf):Option Zbv:=
 (Zb7 o0.Rows).bind fun r7=>
 some ((Zbv.mk o0.Size r7))
def ZhF (x0:Int):Option Bool:=
 bif x0 !=1 then
 some (x0 !=(-1))
 else
 some (false)
def ZcY (e17:List Int) (y31:Int) (e33:List Int):Int×Int→Option ((Int×Int) ⊕ ((Int) ⊕ ((Int) ⊕ (Bool))))
 | (sum8,y37)=>
 bif decide (y37<(e17.length:Int)) then
 (gIdx e17 y37).bind fun e43=>
 (gIdx e33 y37).bind fun e47=>
 some (.inl (IntKind.i64.wrap (sum8+(IntKind.i64.wrap (e43*e47))),IntKind.i64.wrap (y37+1)))
 else
 bif sum8 !=0 then
 some (.inr (.inr (.inr (false))))
 else
 some (.inr (.inl (IntKind.i64.wrap (y31+1))))
def Zfk (y14:Int) (e17:List Int) (l29:List (List Int)):Int→Option ((Int) ⊕ ((Int) ⊕ (Bool)))
 | y31=>
 bif decide (y31<(l29.length:Int)) then
 (gIdx l29 y31).bind fun e33=>
 loop (ZcY e17 y31 e33) (0,0)
 else
 some (.inr (.inl (IntKind.i64.wrap (y14+1))))
def Zg5 (h0:List (List Int)) (y14:Int) (e17:List Int):Option ((Int) ⊕ (Bool)):=
 (gSl h0 0 y14).bind fun l29=>
 loop (Zfk y14 e17 l29) (0)
def ZcR (h0:List (List Int)) (r11:Int):Int→Option ((Int) ⊕ (Bool))
 | y14=>
 bif decide (y14<(h0.length:Int)) then
 (gIdx h0 y14).bind fun e17=>
 (ZN e17).bind fun r20=>
 bif r20 !=r11 then
 some (.inr (false))
 else
 (ZaA e17 (fun y0=>ZhF y0)).bind fun r25=>
 bif r25 then
 some (.inr (false))
 else
 Zg5 h0 y14 e17
 else
 (ZG r11 1 32).bind fun r57=>
 some (.inr (r57))
def ZgC (h0:List (List Int)):Option Bool:=
 (Z0 h0).bind fun r11=>
 loop (ZcR h0 r11) (0)
def Zjq (levels0 column1:Int):Option Bool:=
 (ZG levels0 2 16).bind fun r6=>
 bif r6 then
 (ZG column1 1 8).bind fun r9=>
 some (r9)
 else
 some (false)
def Zg3 (x0:Int) (y1:Zac):Option Bool:=
 (ZG x0 0 (IntKind.i64.wrap (y1.Levels-1))).bind fun r8=>
 some (!r8)
def ZeU (a0:Zac):Int→Option ((Int) ⊕ (Bool))
 | y20=>
 bif decide (y20<(a0.Rows.length:Int)) then
 (gIdx a0.Rows y20).bind fun e22=>
 (ZN e22).bind fun r25=>
 bif r25 !=a0.Columns then
 some (.inr (false))
 else
 (ZaA e22 (fun y0=>Zg3 y0 (Zac.mk a0.Levels a0.Columns a0.Rows))).bind fun r32=>
 bif r32 then
 some (.inr (false))
 else
 some (.inl (IntKind.i64.wrap (y20+1)))
 else
 some (.inr (true))
def Zi5 (a0:Zac):Option (Bool):=
 loop (ZeU a0) (0)
def Zf6 (a0:Zac):Option Bool:=
 (Zjq a0.Levels a0.Columns).bind fun r9=>
 bif !r9 then
 some (false)
 else
 bif decide (((a0.Rows.length:Int):Int)>256) then
 some (false)
 else
 Zi5 a0
def ZeR (base0 e1_2 power7:Int):Option ((Int×Int) ⊕ (Int)):=
 some (.inl (IntKind.i64.wrap (e1_2-1),IntKind.i64.wrap (power7*base0)))
def Za9 (base0 limit2:Int):Int×Int→Option ((Int×Int) ⊕ (Int))
 | (e1_2,power7)=>
 bif decide (e1_2>0) then
 bif decide (power7≤limit2) then
 ZeR base0 e1_2 power7
 else
 some (.inr (power7))
 else
 some (.inr (power7))
def Zb4 (base0 e1 limit2:Int):Option Int:=
 loop (Za9 base0 limit2) (e1,1)
def ZbZ (f0:Zd):Option Int:=
 (Zb4 f0.Prime f0.Degree 64).bind fun r7=>
 some (r7)
def ZbN (base1:Int) (l10:List Int):Int×Int×List Int→Option ((Int×Int×List Int) ⊕ (List Int))
 | (n0_2,y13,xs)=>
 bif decide (y13<(l10.length:Int)) then
 (gNz base1).bind fun _=>
 (gIdx xs y13).bind fun e21=>
 (gNz base1).bind fun _=>
 some (.inl (IntKind.i64.wrap (Int.tdiv n0_2 base1),IntKind.i64.wrap (y13+1),(xs.set y13.toNat (Int.tmod n0_2 base1))))
 else
 some (.inr (xs))
def ZaH (n0 base1 count2:Int):Option (List Int):=
 (gMake 8 (0:Int) count2 count2).bind fun l10=>
 loop (ZbN base1 l10) (n0,0,l10)
def Zdi (y1:List Int) (y2 y9 e29:Int):Int×List Int→Option ((Int×List Int) ⊕ ((Int×List Int) ⊕ (List Int)))
 | (y33,xs_2)=>
 bif decide (y33<(y1.length:Int)) then
 (gIdx y1 y33).bind fun e36=>
 (gIdx xs_2 (IntKind.i64.wrap ((IntKind.i64.wrap (y9-(IntKind.i64.wrap ((y1.length:Int)-1))))+y33))).bind fun e47=>
 (gNz y2).bind fun _=>
 (gNz y2).bind fun _=>
 (gIdx xs_2 (IntKind.i64.wrap ((IntKind.i64.wrap (y9-(IntKind.i64.wrap ((y1.length:Int)-1))))+y33))).bind fun e59=>
 some (.inl (IntKind.i64.wrap (y33+1),(xs_2.set (IntKind.i64.wrap ((IntKind.i64.wrap (y9-(IntKind.i64.wrap ((y1.length:Int)-1))))+y33):Int).toNat (Int.tmod (IntKind.i64.wrap ((Int.tmod (IntKind.i64.wrap (e47-(IntKind.i64.wrap (e29*e36)))) y2)+y2)) y2))))
 else
 some (.inr (.inl (IntKind.i64.wrap (y9-1),xs_2)))
def Za1 (y1:List Int) (y2:Int):Int×List Int→Option ((Int×List Int) ⊕ (List Int))
 | (y9,xs)=>
 bif decide (y9≥(IntKind.i64.wrap ((y1.length:Int)-1))) then
 (gIdx xs y9).bind fun e29=>
 loop (Zdi y1 y2 y9 e29) (0,xs)
 else
 (gSl xs 0 (if ((xs.length:Int):Int)<(IntKind.i64.wrap ((y1.length:Int)-1)) then (xs.length:Int) else IntKind.i64.wrap ((y1.length:Int)-1))).bind fun l66=>
 some (.inr (l66))
def ZcH (y0 y1:List Int) (y2:Int):Option (List Int):=
 (ZbF y0).bind fun r15=>
 loop (Za1 y1 y2) (IntKind.i64.wrap ((r15.length:Int)-1),r15)
def Zhw (x0:Int):Option Bool:=
 some (x0 !=0)
def Zhg (list0:List Int):Option Bool:=
 (ZaA list0 (fun y0=>Zhw y0)).bind fun r4=>
 some (!r4)
def Zic (poly0:List Int) (p1 d6:Int):Int→Option ((Int) ⊕ ((Int) ⊕ (Bool)))
 | n7=>
 (Zb4 p1 d6 64).bind fun r20=>
 bif decide (n7<r20) then
 (ZaH n7 p1 d6).bind fun r28=>
 (gApp 8 r28 [1]).bind fun l30=>
 (ZcH poly0 l30 p1).bind fun r32=>
 (Zhg r32).bind fun r33=>
 bif r33 then
 some (.inr (.inr (false)))
 else
 some (.inl (IntKind.i64.wrap (n7+1)))
 else
 some (.inr (.inl (IntKind.i64.wrap (d6+1))))
def Ziq (poly0:List Int) (p1 r9:Int):Int→Option ((Int) ⊕ (Bool))
 | d6=>
 bif decide ((IntKind.i64.wrap (2*d6):Int)≤(IntKind.i64.wrap (r9-1))) then
 loop (Zic poly0 p1 d6) (0)
 else
 some (.inr (true))
def Zer (poly0:List Int) (p1:Int):Option Bool:=
 (ZN poly0).bind fun r9=>
 loop (Ziq poly0 p1 r9) (1)
def Zch (p4:Int):Int×List Int→Option ((Int×List Int) ⊕ ((Int×List Int×Int) ⊕ (List Int)))
 | (n0_3,factor3_2)=>
 (gNz p4).bind fun _=>
 bif (Int.tmod n0_3 p4:Int)==0 then
 (gApp 8 factor3_2 [p4]).bind fun l22=>
 (gNz p4).bind fun _=>
 some (.inl (IntKind.i64.wrap (Int.tdiv n0_3 p4),l22))
 else
 some (.inr (.inl (n0_3,factor3_2,IntKind.i64.wrap (p4+1))))
def Za0:Int×List Int×Int→Option ((Int×List Int×Int) ⊕ (List Int))
 | (n0_2,factor3,p4)=>
 bif decide ((IntKind.i64.wrap (p4*p4):Int)≤n0_2) then
 loop (Zch p4) (n0_2,factor3)
 else
 bif decide (n0_2>1) then
 (gApp 8 factor3 [n0_2]).bind fun l31=>
 some (.inr (l31))
 else
 some (.inr (factor3))
def Zb2 (n0:Int):Option (List Int):=
 (ZG n0 1 1000000).bind fun r6=>
 bif !r6 then
 some (([]:List Int))
 else
 loop (Za0) (n0,([]:List Int),2)
def ZfE (n0:Int):Option Bool:=
 (Zb2 n0).bind fun r4=>
 some (((r4.length:Int):Int)==1)
def Zi7 (f0:Zd):Int→Option ((Int) ⊕ (Bool))
 | y41=>
 bif decide (y41<(f0.Poly.length:Int)) then
 (gIdx f0.Poly y41).bind fun e43=>
 (ZG e43 0 (IntKind.i64.wrap (f0.Prime-1))).bind fun r49=>
 bif !r49 then
 some (.inr (false))
 else
 some (.inl (IntKind.i64.wrap (y41+1)))
 else
 (Zer f0.Poly f0.Prime).bind fun r56=>
 some (.inr (r56))
def ZhQ (f0:Zd):Option (Bool):=
 loop (Zi7 f0) (0)
def ZfA (f0:Zd):Option (Bool):=
 (ZN f0.Poly).bind fun r24=>
 bif r24 !=(IntKind.i64.wrap (f0.Degree+1)) then
 some (false)
 else
 (gIdx f0.Poly f0.Degree).bind fun e34=>
 bif e34 !=1 then
 some (false)
 else
 ZhQ f0
def Zey (f0:Zd):Option Bool:=
 (ZfE f0.Prime).bind fun r7=>
 bif !r7 then
 some (false)
 else
 bif decide (f0.Degree<1) then
 some (false)
 else
 (Zb4 f0.Prime f0.Degree 64).bind fun r19=>
 bif decide (r19>64) then
 some (false)
 else
 ZfA f0
def Zdm (x0 y1:Int):Option Bool:=
 (ZG x0 0 (IntKind.i64.wrap (y1-1))).bind fun r7=>
 some (!r7)
def Ziu (q0:Int) (list1:List Int):Option Bool:=
 (ZaA list1 (fun y0=>Zdm y0 q0)).bind fun r7=>
 some (!r7)
def Zff (row0:List Int) (y1:List (List Int)) (y2:Int):Option Bool:=
 (gIdx y1 0).bind fun e8=>
 bif ((row0.length:Int):Int) !=(e8.length:Int) then
 some (true)
 else
 (Ziu y2 row0).bind fun r15=>
 some (!r15)
def ZjH (f0:Zd) (m1:List (List Int)):Option (Bool):=
 (ZbZ (Zd.mk f0.Prime f0.Degree f0.Poly)).bind fun r24=>
 (Zez m1 (fun y0=>Zff y0 m1 r24)).bind fun r27=>
 some (!r27)
def Zfm (f0:Zd) (m1:List (List Int)):Option Bool:=
 (Zey (Zd.mk f0.Prime f0.Degree f0.Poly)).bind fun r7=>
 bif !r7 then
 some (false)
 else
 (Z0 m1).bind fun r11=>
 (ZG r11 1 32).bind fun r12=>
 bif !r12 then
 some (false)
 else
 (gIdx m1 0).bind fun e17=>
 (ZN e17).bind fun r19=>
 (ZG r19 1 32).bind fun r20=>
 bif !r20 then
 some (false)
 else
 ZjH f0 m1
def Zqx (digits0:List Int) (base1:Int):Int×Int→Option ((Int×Int) ⊕ (Int))
 | (n5,k6)=>
 bif decide (k6≥0) then
 (gIdx digits0 k6).bind fun e19=>
 some (.inl (IntKind.i64.wrap ((IntKind.i64.wrap (n5*base1))+e19),IntKind.i64.wrap (k6-1)))
 else
 some (.inr (n5))
def ZgT (digits0:List Int) (base1:Int):Option Int:=
 loop (Zqx digits0 base1) (0,IntKind.i64.wrap ((digits0.length:Int)-1))
def Zek (f0:Zd) (sign3:Int) (r17 r23:List Int):Int×List Int→Option ((Int×List Int) ⊕ (Int))
 | (y26,xs)=>
 bif decide (y26<(r17.length:Int)) then
 (gIdx xs y26).bind fun e33=>
 (gIdx r23 y26).bind fun e38=>
 (gNz f0.Prime).bind fun _=>
 (gIdx xs y26).bind fun e48=>
 some (.inl (IntKind.i64.wrap (y26+1),(xs.set y26.toNat (Int.tmod (IntKind.i64.wrap ((IntKind.i64.wrap (e33+(IntKind.i64.wrap (sign3*e38))))+f0.Prime)) f0.Prime))))
 else
 (ZgT xs f0.Prime).bind fun r53=>
 some (.inr (r53))
def Zec (f0:Zd) (a1 b2 sign3:Int):Option Int:=
 (ZaH a1 f0.Prime f0.Degree).bind fun r17=>
 (ZaH b2 f0.Prime f0.Degree).bind fun r23=>
 loop (Zek f0 sign3 r17 r23) (0,r17)
def ZgO (y0:Zd) (r17 r23:List Int) (y30:Int):Int×List Int→Option ((Int×List Int) ⊕ ((Int×List Int) ⊕ (Int)))
 | (y35,xs_2)=>
 bif decide (y35<(r23.length:Int)) then
 (gIdx xs_2 (IntKind.i64.wrap (y30+y35))).bind fun e46=>
 (gIdx r17 y30).bind fun e50=>
 (gIdx r23 y35).bind fun e54=>
 (gNz y0.Prime).bind fun _=>
 (gIdx xs_2 (IntKind.i64.wrap (y30+y35))).bind fun e61=>
 some (.inl (IntKind.i64.wrap (y35+1),(xs_2.set (IntKind.i64.wrap (y30+y35):Int).toNat (Int.tmod (IntKind.i64.wrap (e46+(IntKind.i64.wrap (e50*e54)))) y0.Prime))))
 else
 some (.inr (.inl (IntKind.i64.wrap (y30+1),xs_2)))
def ZcE (y0:Zd) (r17 r23:List Int):Int×List Int→Option ((Int×List Int) ⊕ (Int))
 | (y30,xs)=>
 bif decide (y30<(r17.length:Int)) then
 loop (ZgO y0 r17 r23 y30) (0,xs)
 else
 (ZcH xs y0.Poly y0.Prime).bind fun r69=>
 (ZgT r69 y0.Prime).bind fun r72=>
 some (.inr (r72))
def Zg0 (y0:Zd) (y1 y2:Int):Option Int:=
 (ZaH y1 y0.Prime y0.Degree).bind fun r17=>
 (ZaH y2 y0.Prime y0.Degree).bind fun r23=>
 (gMake 8 (0:Int) (IntKind.i64.wrap (2*y0.Degree)) (IntKind.i64.wrap (2*y0.Degree))).bind fun l27=>
 loop (ZcE y0 r17 r23) (0,l27)
def Zcu (y0:Zd) (r10 y4:Int) (xs xs_2 xs_3:List (List Int)):Int×List Int×List Int×List Int×List Int→Option ((Int×List Int×List Int×List Int×List Int) ⊕ ((Int×List (List Int)×List (List Int)×List (List Int)×List Int) ⊕ (Zai)))
 | (y8,xs_5,xs_6,xs_7,xs_8)=>
 bif decide (y8<r10) then
 (Zec (Zd.mk y0.Prime y0.Degree y0.Poly) y4 y8 1).bind fun r46=>
 (Zec (Zd.mk y0.Prime y0.Degree y0.Poly) y4 y8 (-1)).bind fun r50=>
 (Zg0 (Zd.mk y0.Prime y0.Degree y0.Poly) y4 y8).bind fun r54=>
 (gIdx xs_6 y8).bind fun e55=>
 (gIdx xs_7 y8).bind fun e56=>
 (gIdx xs_8 y8).bind fun e57=>
 (gIdx (xs_8.set y8.toNat r54) y8).bind fun e60=>
 bif e60==1 then
 (gIdx xs_5 y4).bind fun e67=>
 some (.inl (IntKind.i64.wrap (y8+1),(xs_5.set y4.toNat y8),(xs_6.set y8.toNat r46),(xs_7.set y8.toNat r50),(xs_8.set y8.toNat r54)))
 else
 some (.inl (IntKind.i64.wrap (y8+1),xs_5,(xs_6.set y8.toNat r46),(xs_7.set y8.toNat r50),(xs_8.set y8.toNat r54)))
 else
 (gApp 24 xs [xs_6]).bind fun l72=>
 (gApp 24 xs_2 [xs_7]).bind fun l77=>
 (gApp 24 xs_3 [xs_8]).bind fun l82=>
 some (.inr (.inl (IntKind.i64.wrap (y4+1),l72,l77,l82,xs_5)))
def ZeT (y0:Zd) (r10:Int):Int×List (List Int)×List (List Int)×List (List Int)×List Int→Option ((Int×List (List Int)×List (List Int)×List (List Int)×List Int) ⊕ (Zai))
 | (y4,xs,xs_2,xs_3,xs_4)=>
 bif decide (y4<r10) then
 (gMake 8 (0:Int) r10 r10).bind fun l24=>
 (gMake 8 (0:Int) r10 r10).bind fun l27=>
 (gMake 8 (0:Int) r10 r10).bind fun l30=>
 loop (Zcu y0 r10 y4 xs xs_2 xs_3) (0,xs_4,l24,l27,l30)
 else
 some (.inr ((Zai.mk r10 xs xs_2 xs_3 xs_4)))
def Zh3 (y0:Zd):Option Zai:=
 (ZbZ (Zd.mk y0.Prime y0.Degree y0.Poly)).bind fun r10=>
 (gMake 8 (0:Int) r10 r10).bind fun l14=>
 loop (ZeT y0 r10) (0,([]:List (List Int)),([]:List (List Int)),([]:List (List Int)),l14)
def ZdM (row0:List Int) (y1:Int):Option Bool:=
 (gIdx row0 y1).bind fun e6=>
 some (e6 !=0)
def Zd7 (t0:Zai) (row2:List Int) (factor3:Int):Int×List Int→Option ((Int×List Int) ⊕ (List Int))
 | (y12,xs)=>
 bif decide (y12<(row2.length:Int)) then
 (gIdx row2 y12).bind fun e15=>
 (gIdx xs y12).bind fun e23=>
 (gIdx t0.qadd e23).bind fun e25=>
 (gIdx t0.qmul factor3).bind fun e30=>
 (gIdx e30 e15).bind fun e33=>
 (gIdx e25 e33).bind fun e35=>
 (gIdx xs y12).bind fun e37=>
 some (.inl (IntKind.i64.wrap (y12+1),(xs.set y12.toNat e35)))
 else
 some (.inr (xs))
def Zgs (t0:Zai) (to1 row2:List Int) (factor3:Int):Option (List Int):=
 loop (Zd7 t0 row2 factor3) (0,to1)
def ZdY (y8:List Int) (y9:Int) (xs:List (List Int)):Option ((List (List Int))×(List Int)×Int):=
 (gSl xs 0 (y8.length:Int)).bind fun l161=>
 some ((l161,y8,y9))
def Ze5 (y10:Int) (y8_3:List Int) (y9_3:Int) (xs_3:List (List Int)):Option ((List Int×Int×Int×List (List Int)) ⊕ ((List (List Int))×(List Int)×Int)):=
 some (.inl (y8_3,y9_3,IntKind.i64.wrap (y10+1),xs_3))
def Zdx (y0:Zai) (y8_2:List Int) (y10 y115:Int) (xs_6:List (List Int)) (e118:List Int) (y129:Bool):Option ((Int×List (List Int)) ⊕ ((Int×List (List Int)) ⊕ ((List Int×Int×Int×List (List Int)) ⊕ ((List (List Int))×(List Int)×Int)))):=
 bif y129 then
 (gIdx xs_6 (y8_2.length:Int)).bind fun e134=>
 (gIdx y0.qsub 0).bind fun e138=>
 (gIdx e118 y10).bind fun e142=>
 (gIdx e138 e142).bind fun e144=>
 (gNe y115 (y8_2.length:Int)).bind fun ne146=>
 (Zgs (Zai.mk y0.qq y0.qadd y0.qsub y0.qmul y0.qinv) e118 e134 e144).bind fun r146=>
 some (.inl (IntKind.i64.wrap (y115+1),(xs_6.set y115.toNat r146)))
 else
 some (.inl (IntKind.i64.wrap (y115+1),xs_6))
def Zbr (y0:Zai) (y8_2:List Int) (y10 e82:Int) (xs_5:List (List Int)):Int×List (List Int)→Option ((Int×List (List Int)) ⊕ ((Int×List (List Int)) ⊕ ((List Int×Int×Int×List (List Int)) ⊕ ((List (List Int))×(List Int)×Int))))
 | (y115,xs_6)=>
 bif decide (y115<(xs_5.length:Int)) then
 (gIdx xs_6 y115).bind fun e118=>
 bif y115 !=(y8_2.length:Int) then
 (gIdx e118 y10).bind fun e126=>
 Zdx y0 y8_2 y10 y115 xs_6 e118 (e126 !=0)
 else
 Zdx y0 y8_2 y10 y115 xs_6 e118 false
 else
 (gApp 8 y8_2 [y10]).bind fun l151=>
 bif ((l151.length:Int):Int)==(xs_6.length:Int) then
 (ZdY l151 e82 xs_6).map fun x=>.inr (.inr (.inr (x)))
 else
 (Ze5 y10 l151 e82 xs_6).map fun x=>.inr (.inr (x))
def Zd2 (y0:Zai) (y8_2:List Int) (y10 e74 e82:Int) (e86:List Int):Int×List (List Int)→Option ((Int×List (List Int)) ⊕ ((List Int×Int×Int×List (List Int)) ⊕ ((List (List Int))×(List Int)×Int)))
 | (y89,xs_5)=>
 bif decide (y89<(e86.length:Int)) then
 (gIdx xs_5 (y8_2.length:Int)).bind fun e=>
 (gIdx e y89).bind fun e92=>
 (gIdx xs_5 (y8_2.length:Int)).bind fun e96=>
 (gIdx y0.qinv e74).bind fun e104=>
 (gIdx y0.qmul e104).bind fun e106=>
 (gIdx e106 e92).bind fun e109=>
 (gIdx e96 y89).bind fun e111=>
 some (.inl (IntKind.i64.wrap (y89+1),(xs_5.set ((y8_2.length:Int):Int).toNat (e96.set y89.toNat e109))))
 else
 loop (Zbr y0 y8_2 y10 e82 xs_5) (0,xs_5)
def Zfr (y0:Zai) (y8_2:List Int) (y10 y9_4:Int) (xs_4:List (List Int)):Option ((List Int×Int×Int×List (List Int)) ⊕ ((List (List Int))×(List Int)×Int)):=
 (gIdx xs_4 (y8_2.length:Int)).bind fun e71=>
 (gIdx e71 y10).bind fun e74=>
 (gIdx y0.qmul y9_4).bind fun e79=>
 (gIdx e79 e74).bind fun e82=>
 (gIdx xs_4 (y8_2.length:Int)).bind fun e86=>
 loop (Zd2 y0 y8_2 y10 e74 e82 e86) (0,xs_4)
def Zfj (y0:Zai) (y8_2:List Int) (y9_2 y10:Int) (xs_2:List (List Int)):Option ((List Int×Int×Int×List (List Int)) ⊕ ((List (List Int))×(List Int)×Int)):=
 (gSl xs_2 (y8_2.length:Int) (xs_2.length:Int)).bind fun l37=>
 (Zfu l37 (fun y0=>ZdM y0 y10)).bind fun r39=>
 bif decide (r39<0) then
 Ze5 y10 y8_2 0 xs_2
 else
 bif decide (r39>0) then
 (gIdx xs_2 (IntKind.i64.wrap ((y8_2.length:Int)+r39))).bind fun e54=>
 (gIdx xs_2 (y8_2.length:Int)).bind fun e58=>
 (gIdx xs_2 (y8_2.length:Int)).bind fun e60=>
 (gIdx (xs_2.set ((y8_2.length:Int):Int).toNat e54) (IntKind.i64.wrap ((y8_2.length:Int)+r39))).bind fun e61=>
 (gIdx y0.qsub 0).bind fun e64=>
 (gIdx e64 y9_2).bind fun e67=>
 Zfr y0 y8_2 y10 e67 ((xs_2.set ((y8_2.length:Int):Int).toNat e54).set (IntKind.i64.wrap ((y8_2.length:Int)+r39):Int).toNat e58)
 else
 Zfr y0 y8_2 y10 y9_2 xs_2
def Zby (y0:Zai):List Int×Int×Int×List (List Int)→Option ((List Int×Int×Int×List (List Int)) ⊕ ((List (List Int))×(List Int)×Int))
 | (y8_2,y9_2,y10,xs_2)=>
 bif decide (((xs_2.length:Int):Int)>0) then
 (gIdx xs_2 0).bind fun e26=>
 bif decide (y10<(e26.length:Int)) then
 Zfj y0 y8_2 y9_2 y10 xs_2
 else
 (ZdY y8_2 y9_2 xs_2).map fun x=>.inr (x)
 else
 (ZdY y8_2 y9_2 xs_2).map fun x=>.inr (x)
def Zhe (y0:Zai) (y1:List (List Int)):Option ((List (List Int))×(List Int)×Int):=
 (Zb7 y1).bind fun r19=>
 loop (Zby y0) (([]:List Int),1,0,r19)
def Zh1 (s0 s1:List (List Int)) (fn2:(List Int)→(List Int)→Option Bool):Int→Option ((Int) ⊕ (Bool))
 | y17=>
 bif decide (y17<(s0.length:Int)) then
 (gIdx s0 y17).bind fun e20=>
 (gIdx s1 y17).bind fun e24=>
 (fn2 e20 e24).bind fun r29=>
 bif !r29 then
 some (.inr (false))
 else
 some (.inl (IntKind.i64.wrap (y17+1)))
 else
 some (.inr (true))
def ZiR (s0 s1:List (List Int)) (fn2:(List Int)→(List Int)→Option Bool):Option Bool:=
 bif ((s0.length:Int):Int) !=(s1.length:Int) then
 some (false)
 else
 loop (Zh1 s0 s1 fn2) (0)
def Zh4 (s0 s1:List Int):Int→Option ((Int) ⊕ (Bool))
 | y13=>
 bif decide (y13<(s0.length:Int)) then
 (gIdx s0 y13).bind fun e18=>
 (gIdx s1 y13).bind fun e22=>
 bif e18 !=e22 then
 some (.inr (false))
 else
 some (.inl (IntKind.i64.wrap (y13+1)))
 else
 some (.inr (true))
def Zgi (s0 s1:List Int):Option Bool:=
 bif ((s0.length:Int):Int) !=(s1.length:Int) then
 some (false)
 else
 loop (Zh4 s0 s1) (0)
def Zgv (a0 b1:List (List Int)):Option Bool:=
 (ZiR a0 b1 (fun y0 y1=>Zgi y0 y1)).bind fun r7=>
 some (r7)
def Zje (c0:Zbf):Option (Bool):=
 (Zh3 (Zd.mk c0.Field.Prime c0.Field.Degree c0.Field.Poly)).bind fun r31=>
 (Zhe r31 c0.Rows).bind fun r34=>
 (Zgv r34.1 c0.Rows).bind fun r41=>
 some (r41)
def Zc6 (c0:Zbf):Option Bool:=
 (Zfm (Zd.mk c0.Field.Prime c0.Field.Degree c0.Field.Poly) c0.Rows).bind fun r10=>
 bif !r10 then
 some (false)
 else
 bif decide (((c0.Rows.length:Int):Int)>8) then
 some (false)
 else
 (ZbZ (Zd.mk c0.Field.Prime c0.Field.Degree c0.Field.Poly)).bind fun r21=>
 (Z0 c0.Rows).bind fun r24=>
 (Zb4 r21 r24 4096).bind fun r25=>
 bif decide (r25>4096) then
 some (false)
 else
 Zje c0
def Zbq (r8:List Int):Int→Option ((Int) ⊕ (Int×Int))
 | y11=>
 bif decide (y11<(r8.length:Int)) then
 (gIdx r8 y11).bind fun e13=>
 (gIdx r8 0).bind fun e17=>
 bif e13 !=e17 then
 some (.inr ((0,0)))
 else
 some (.inl (IntKind.i64.wrap (y11+1)))
 else
 bif ((r8.length:Int):Int)==0 then
 some (.inr ((0,0)))
 else
 (ZN r8).bind fun r28=>
 (gIdx r8 0).bind fun e25=>
 some (.inr ((e25,r28)))
def ZbL (n0:Int):Option (Int×Int):=
 (Zb2 n0).bind fun r8=>
 loop (Zbq r8) (0)
def Zi3 (r9:Int×Int):Int→Option ((Int) ⊕ (Zd×Int))
 | n6=>
 (ZaH n6 r9.1 r9.2).bind fun r22=>
 (gApp 8 r22 [1]).bind fun l24=>
 (Zer l24 r9.1).bind fun r26=>
 bif !r26 then
 some (.inl (IntKind.i64.wrap (n6+1)))
 else
 (ZaH n6 r9.1 r9.2).bind fun r35=>
 (gApp 8 r35 [1]).bind fun l37=>
 some (.inr (((Zd.mk r9.1 r9.2 l37),0)))
def Zf5 (r9:Int×Int):Option (Zd×Int):=
 loop (Zi3 r9) (0)
def ZaU (q0:Int):Option (Zd×Int):=
 (ZbL q0).bind fun r9=>
 bif r9.1==0 then
 some (((Zd.mk 0 0 ([]:List Int)),2))
 else
 bif decide (q0>64) then
 some (((Zd.mk 0 0 ([]:List Int)),2))
 else
 Zf5 r9
def Zew (o0:Zf):Option Zbf:=
 (ZaU o0.Size).bind fun r8=>
 (Zb7 o0.Rows).bind fun r14=>
 some ((Zbf.mk (Zd.mk r8.1.Prime r8.1.Degree r8.1.Poly) r14))
def Zc4 (vals0:List Int):Int→Option ((Int) ⊕ (Int))
 | y8=>
 bif decide (y8<(vals0.length:Int)) then
 (gIdx vals0 y8).bind fun e10=>
 bif e10 !=0 then
 some (.inr (e10))
 else
 some (.inl (IntKind.i64.wrap (y8+1)))
 else
 some (.inr (0))
def ZfZ (vals0:List Int):Option Int:=
 loop (Zc4 vals0) (0)
def Zhu (a0 b1:ZL):Option Int:=
 (Za5 a0.A b1.A).bind fun r9=>
 (Za5 a0.B b1.B).bind fun r14=>
 (ZfZ ([r9,r14]:List Int)).bind fun r16=>
 some (r16)
def Zjm (n0:Int):Option Bool:=
 (ZG n0 0 63).bind fun r4=>
 some (r4)
def ZjX (n0:Int):Option Bool:=
 (Zjm n0).bind fun r4=>
 some (!r4)
def Zh0 (colors0:List Int):Option Bool:=
 bif decide (((colors0.length:Int):Int)≤64) then
 (ZaA colors0 (fun y0=>ZjX y0)).bind fun r8=>
 some (!r8)
 else
 some (false)
def Za6 (g0:Z1):Int→Option ((Int) ⊕ (Bool))
 | y8=>
 bif decide (y8<(g0.Edges.length:Int)) then
 (gIdx g0.Edges y8).bind fun e11=>
 bif decide (e11.A<0) then
 some (.inr (false))
 else
 bif decide (e11.A≥e11.B) then
 some (.inr (false))
 else
 (ZN g0.Colors).bind fun r28=>
 bif decide (e11.B≥r28) then
 some (.inr (false))
 else
 bif decide (y8>0) then
 (gIdx g0.Edges (IntKind.i64.wrap (y8-1))).bind fun e39=>
 (Zhu e39 (ZL.mk e11.A e11.B)).bind fun r42=>
 bif decide (r42≥0) then
 some (.inr (false))
 else
 some (.inl (IntKind.i64.wrap (y8+1)))
 else
 some (.inl (IntKind.i64.wrap (y8+1)))
 else
 (Zh0 g0.Colors).bind fun r49=>
 bif r49 then
 some (.inr (decide (((g0.Edges.length:Int):Int)≤512)))
 else
 some (.inr (false))
def ZgV (g0:Z1):Option Bool:=
 loop (Za6 g0) (0)
def ZbJ (o0:Zf) (l14:List Int):Int×List ZL→Option ((Int×List ZL) ⊕ (Z1×Bool))
 | (y19,xs)=>
 bif decide (y19<(o0.Rows.length:Int)) then
 (gIdx o0.Rows y19).bind fun e21=>
 bif ((e21.length:Int):Int) !=2 then
 some (.inr (((Z1.mk ([]:List Int) ([]:List ZL)),false)))
 else
 (gIdx e21 0).bind fun e30=>
 (gIdx e21 1).bind fun e33=>
 (gApp 16 xs [(ZL.mk e30 e33)]).bind fun l37=>
 some (.inl (IntKind.i64.wrap (y19+1),l37))
 else
 (ZgV (Z1.mk l14 xs)).bind fun r42=>
 some (.inr (((Z1.mk l14 xs),r42)))
def Zhp (o0:Zf):Option (Z1×Bool):=
 (ZG o0.Size 0 64).bind fun r9=>
 bif !r9 then
 some (((Z1.mk ([]:List Int) ([]:List ZL)),false))
 else
 (gMake 8 (0:Int) o0.Size o0.Size).bind fun l14=>
 loop (ZbJ o0 l14) (0,([]:List ZL))
def ZeI (l6:List Int):Int×List Int→Option ((Int×List Int) ⊕ (List Int))
 | (y9,xs)=>
 bif decide (y9<(l6.length:Int)) then
 (gIdx xs y9).bind fun e15=>
 some (.inl (IntKind.i64.wrap (y9+1),(xs.set y9.toNat y9)))
 else
 some (.inr (xs))
def ZhY (n0:Int):Option (List Int):=
 (gMake 8 (0:Int) n0 n0).bind fun l6=>
 loop (ZeI l6) (0,l6)
def Ze8 (p0:List Int):Int×List Int→Option ((Int×List Int) ⊕ (ByteArray))
 | (y11,xs)=>
 bif decide (y11<(p0.length:Int)) then
 (gIdx p0 y11).bind fun e14=>
 (gIdx xs y11).bind fun e20=>
 some (.inl (IntKind.i64.wrap (y11+1),(xs.set y11.toNat (IntKind.u8.wrap e14))))
 else
 (gByt xs).bind fun s23=>
 some (.inr (s23))
def Zfs (p0:List Int):Option ByteArray:=
 (gMake 1 (0:Int) (p0.length:Int) (p0.length:Int)).bind fun l8=>
 loop (Ze8 p0) (0,l8)
def ZeK (p0 q1 l9:List Int):Int×List Int→Option ((Int×List Int) ⊕ (List Int))
 | (y12,xs)=>
 bif decide (y12<(l9.length:Int)) then
 (gIdx p0 y12).bind fun e20=>
 (gIdx q1 e20).bind fun e22=>
 (gIdx xs y12).bind fun e24=>
 some (.inl (IntKind.i64.wrap (y12+1),(xs.set y12.toNat e22)))
 else
 some (.inr (xs))
def Zho (p0 q1:List Int):Option (List Int):=
 (gMake 8 (0:Int) (p0.length:Int) (p0.length:Int)).bind fun l9=>
 loop (ZeK p0 q1 l9) (0,l9)
open Classical in
def ZfO (x0:List (List Int)) (fn1:(List Int)→(List Int)→Option Int):Option (List (List Int)):=if (∀ a∈x0,∀ c∈x0,fn1 a c=some (lexC a c))∧x0.length<4611686018427387904 then some (sortRows x0) else none
def Zbm (genera1:List (List Int)) (k8:Int):List (List Int)×Int×List (ByteArray×Bool)→Option ((List (List Int)×Int×List (ByteArray×Bool)) ⊕ ((List (List Int)×Int×List (ByteArray×Bool)) ⊕ ((List (List Int))×Bool)))
 | (elemen6_2,y30,mp_2)=>
 bif decide (y30<(genera1.length:Int)) then
 (gIdx genera1 y30).bind fun e32=>
 (gIdx elemen6_2 k8).bind fun e36=>
 (Zho e36 e32).bind fun r39=>
 (Zfs r39).bind fun r41=>
 bif !(mpGet mp_2 r41 false) then
 (gApp 24 elemen6_2 [r39]).bind fun l51=>
 some (.inl (l51,IntKind.i64.wrap (y30+1),(mpSet mp_2 r41 true)))
 else
 some (.inl (elemen6_2,IntKind.i64.wrap (y30+1),mp_2))
 else
 bif decide (((elemen6_2.length:Int):Int)>720) then
 some (.inr (.inr ((([]:List (List Int)),false))))
 else
 some (.inr (.inl (elemen6_2,IntKind.i64.wrap (k8+1),mp_2)))
def ZbQ (genera1:List (List Int)):List (List Int)×Int×List (ByteArray×Bool)→Option ((List (List Int)×Int×List (ByteArray×Bool)) ⊕ ((List (List Int))×Bool))
 | (elemen6,k8,mp)=>
 bif decide (k8<(elemen6.length:Int)) then
 loop (Zbm genera1 k8) (elemen6,0,mp)
 else
 (ZfO elemen6 (fun y0 y1=>Zal y0 y1)).bind fun r57=>
 some (.inr ((r57,true)))
def Zc8 (degree0:Int) (genera1:List (List Int)):Option ((List (List Int))×Bool):=
 (ZhY degree0).bind fun r14=>
 (gIdx ([r14]) 0).bind fun e18=>
 (Zfs e18).bind fun r20=>
 loop (ZbQ genera1) ([r14],0,(mpSet ([]:List (ByteArray×Bool)) r20 true))
def Zc5 (x0:List (List Int)) (target1:List Int) (fn2:(List Int)→(List Int)→Option Int):Int×Int→Option ((Int×Int) ⊕ (Int×Bool))
 | (i9,j10)=>
 bif decide (i9<j10) then
 (gNn 1).bind fun _=>
 (gIdx x0 (IntKind.i64.wrap (Int.fdiv (IntKind.u64.wrap (IntKind.i64.wrap (i9+j10))) (2^min (1:Int).toNat IntKind.u64.bits)))).bind fun e27=>
 (fn2 e27 target1).bind fun r30=>
 bif decide (r30<0) then
 some (.inl (IntKind.i64.wrap ((IntKind.i64.wrap (Int.fdiv (IntKind.u64.wrap (IntKind.i64.wrap (i9+j10))) (2^min (1:Int).toNat IntKind.u64.bits)))+1),j10))
 else
 some (.inl (i9,IntKind.i64.wrap (Int.fdiv (IntKind.u64.wrap (IntKind.i64.wrap (i9+j10))) (2^min (1:Int).toNat IntKind.u64.bits))))
 else
 bif decide (i9<(x0.length:Int)) then
 (gIdx x0 i9).bind fun e43=>
 (fn2 e43 target1).bind fun r46=>
 some (.inr ((i9,r46==0)))
 else
 some (.inr ((i9,false)))
def ZgK (x0:List (List Int)) (target1:List Int) (fn2:(List Int)→(List Int)→Option Int):Option (Int×Bool):=
 loop (Zc5 x0 target1 fn2) (0,(x0.length:Int))
def ZhZ (degree0:Int) (genera7:List (List Int)) (y21:Int) (e23:List Int):Option ((List (List Int)×List (List Int)×Bool×Int) ⊕ ((List (List Int))×(List (List Int))×Bool)):=
 (gApp 24 genera7 [e23]).bind fun l39=>
 (Zc8 degree0 l39).bind fun r43=>
 some (.inl (l39,r43.1,r43.2,IntKind.i64.wrap (y21+1)))
def Zat (degree0:Int) (elemen1:List (List Int)):List (List Int)×List (List Int)×Bool×Int→Option ((List (List Int)×List (List Int)×Bool×Int) ⊕ ((List (List Int))×(List (List Int))×Bool))
 | (genera7,all8,ok9,y21)=>
 bif decide (y21<(elemen1.length:Int)) then
 (gIdx elemen1 y21).bind fun e23=>
 (ZgK all8 e23 (fun y0 y1=>Zal y0 y1)).bind fun r28=>
 bif r28.2 then
 some (.inl (genera7,all8,ok9,IntKind.i64.wrap (y21+1)))
 else
 bif !ok9 then
 some (.inl (genera7,all8,ok9,IntKind.i64.wrap (y21+1)))
 else
 ZhZ degree0 genera7 y21 e23
 else
 some (.inr ((genera7,all8,ok9)))
def Zgr (degree0:Int) (elemen1:List (List Int)):Option ((List (List Int))×(List (List Int))×Bool):=
 (Zc8 degree0 ([]:List (List Int))).bind fun r16=>
 loop (Zat degree0 elemen1) (([]:List (List Int)),r16.1,r16.2,0)
def Zc9 (y0:ZaK):Int→Option ((Int) ⊕ (Bool))
 | y3=>
 bif decide (y3<(y0.Elements.length:Int)) then
 (gIdx y0.Elements (IntKind.i64.wrap (y3-1))).bind fun e42=>
 (gIdx y0.Elements y3).bind fun e47=>
 (Zal e42 e47).bind fun r49=>
 bif decide (r49≥0) then
 some (.inr (false))
 else
 some (.inl (IntKind.i64.wrap (y3+1)))
 else
 (Zgr y0.Degree y0.Elements).bind fun r56=>
 bif r56.2.2 then
 some (.inr (((r56.2.1.length:Int):Int)==(y0.Elements.length:Int)))
 else
 some (.inr (false))
def ZjE (y0:ZaK):Option (Bool):=
 loop (Zc9 y0) (1)
def ZfW (y0:ZaK):Option Bool:=
 (ZG y0.Degree 1 32).bind fun r9=>
 bif !r9 then
 some (false)
 else
 bif decide (((y0.Elements.length:Int):Int)<1) then
 some (false)
 else
 bif decide (((y0.Elements.length:Int):Int)>720) then
 some (false)
 else
 (Zev y0.Degree y0.Elements).bind fun r28=>
 bif !r28 then
 some (false)
 else
 ZjE y0
def Zg8 (o0:Zf):Option ZaK:=
 (Zb7 o0.Rows).bind fun r7=>
 some ((ZaK.mk o0.Size r7))
def ZaF (y0:Zf):Option Bool:=
 bif y0.Kind==1 then
 (Z0 y0.Rows).bind fun r11=>
 bif r11==y0.Size then
 (ZgF y0.Rows).bind fun r18=>
 some (r18)
 else
 some (false)
 else
 bif y0.Kind==2 then
 (ZhV (Zf.mk y0.Kind y0.Size y0.Rows)).bind fun r23=>
 (ZgQ r23).bind fun r24=>
 some (r24)
 else
 bif y0.Kind==3 then
 (Z0 y0.Rows).bind fun r29=>
 bif r29==y0.Size then
 (ZgC y0.Rows).bind fun r36=>
 some (r36)
 else
 some (false)
 else
 bif y0.Kind==4 then
 bif decide (((y0.Rows.length:Int):Int)>0) then
 (ZgW (Zf.mk y0.Kind y0.Size y0.Rows)).bind fun r46=>
 (Zf6 r46).bind fun r47=>
 some (r47)
 else
 some (false)
 else
 bif y0.Kind==5 then
 (Zew (Zf.mk y0.Kind y0.Size y0.Rows)).bind fun r52=>
 (Zc6 r52).bind fun r53=>
 some (r53)
 else
 bif y0.Kind==6 then
 (Zhp (Zf.mk y0.Kind y0.Size y0.Rows)).bind fun r58=>
 some (r58.2)
 else
 bif y0.Kind==7 then
 (Zg8 (Zf.mk y0.Kind y0.Size y0.Rows)).bind fun r65=>
 (ZfW r65).bind fun r66=>
 some (r66)
 else
 some (false)
def ZgP (kind0:Int):Option Bool:=
 (ZG kind0 1 7).bind fun r4=>
 some (r4)
def Zf4 (kind0:Int):Option ByteArray:=
 (ZgP kind0).bind fun r4=>
 bif !r4 then
 some (⟨#[]⟩)
 else
 (ZeQ).bind fun r6=>
 (gIdx r6 (IntKind.i64.wrap (kind0-1))).bind fun e9=>
 some (e9)
def Ze0 (o0:Zf) (rows3:ByteArray):Option (ByteArray):=
 (Zf4 o0.Kind).bind fun r31=>
 (ZbM o0.Size).bind fun r35=>
 (gFit r31 (⟨#[32]⟩:ByteArray)).bind fun _=>
 (gFit (r31++(⟨#[32]⟩:ByteArray):ByteArray) r35).bind fun _=>
 (gFit ((r31++(⟨#[32]⟩:ByteArray):ByteArray)++r35:ByteArray) (⟨#[32]⟩:ByteArray)).bind fun _=>
 (gFit (((r31++(⟨#[32]⟩:ByteArray):ByteArray)++r35:ByteArray)++(⟨#[32]⟩:ByteArray):ByteArray) rows3).bind fun _=>
 some ((((r31++(⟨#[32]⟩:ByteArray):ByteArray)++r35:ByteArray)++(⟨#[32]⟩:ByteArray):ByteArray)++rows3)
def Zdu (o0:Zf):List ByteArray×Int→Option ((List ByteArray×Int) ⊕ (ByteArray))
 | (words4,y17)=>
 bif decide (y17<(o0.Rows.length:Int)) then
 (gIdx o0.Rows y17).bind fun e19=>
 (ZeL e19).bind fun r23=>
 (gApp 16 words4 [r23]).bind fun l25=>
 some (.inl (l25,IntKind.i64.wrap (y17+1)))
 else
 (Ze1 words4 ⟨#[47]⟩).bind fun r28=>
 (Ze0 o0 r28).map fun x=>.inr (x)
def ZhH (o0:Zf):Option ByteArray:=
 (ZaF (Zf.mk o0.Kind o0.Size o0.Rows)).bind fun r8=>
 bif !r8 then
 some (⟨#[]⟩)
 else
 bif decide (((o0.Rows.length:Int):Int)>0) then
 loop (Zdu o0) (([]:List ByteArray),0)
 else
 Ze0 o0 ⟨#[110,111,110,101]⟩
def Zeo (y0:ByteArray) (r20 r28:Int×Bool) (xs:List (List Int)):Option (Zf×Bool):=
 (ZaF (Zf.mk r20.1 r28.1 xs)).bind fun r58=>
 bif !r58 then
 some (((Zf.mk 0 0 ([]:List (List Int))),false))
 else
 (ZhH (Zf.mk r20.1 r28.1 xs)).bind fun r62=>
 bif !(r62.toList==y0.toList) then
 some (((Zf.mk 0 0 ([]:List (List Int))),false))
 else
 some (((Zf.mk r20.1 r28.1 xs),true))
def Zdw (y0:ByteArray) (r20 r28:Int×Bool) (r39:List ByteArray):Int×List (List Int)→Option ((Int×List (List Int)) ⊕ (Zf×Bool))
 | (y41,xs_2)=>
 bif decide (y41<(r39.length:Int)) then
 (gIdx r39 y41).bind fun e43=>
 (Zf0 e43).bind fun r47=>
 (gApp 24 xs_2 [r47.1]).bind fun l54=>
 some (.inl (IntKind.i64.wrap (y41+1),l54))
 else
 (Zeo y0 r20 r28 xs_2).map fun x=>.inr (x)
def ZdA (y0:ByteArray):Option (Zf×Bool):=
 (Zba y0 ⟨#[32]⟩).bind fun r11=>
 bif ((r11.length:Int):Int) !=3 then
 some (((Zf.mk 0 0 ([]:List (List Int))),false))
 else
 (gIdx r11 0).bind fun e18=>
 (Zgn e18).bind fun r20=>
 (gIdx r11 1).bind fun e26=>
 (ZcW e26).bind fun r28=>
 (gIdx r11 2).bind fun e33=>
 bif !(e33.toList==(⟨#[110,111,110,101]⟩:ByteArray).toList) then
 (gIdx r11 2).bind fun e37=>
 (Zba e37 ⟨#[47]⟩).bind fun r39=>
 loop (Zdw y0 r20 r28 r39) (0,([]:List (List Int)))
 else
 Zeo y0 r20 r28 ([]:List (List Int))
def ZcN (s0:ByteArray) (c1:Int):Int→Option ((Int) ⊕ (Int))
 | i5=>
 bif decide (i5≥0) then
 (gSt s0 i5).bind fun c15=>
 bif ((c15.toNat:Int):Int)==c1 then
 some (.inr (i5))
 else
 some (.inl (IntKind.i64.wrap (i5-1)))
 else
 some (.inr ((-1)))
def ZhJ (s0:ByteArray) (c1:Int):Option Int:=
 loop (ZcN s0 c1) (IntKind.i64.wrap ((s0.size:Int)-1))
def ZdT (s0:ByteArray) (c1:Int):Option Int:=
 (ZhJ s0 c1).bind fun r7=>
 some (r7)
def ZcA (y15:Int):Int×Int→Option ((Int×Int) ⊕ ((Int×Int) ⊕ (Int)))
 | (sum5_2,y24)=>
 bif decide (y24<8) then
 (gNn 1).bind fun _=>
 bif decide ((IntKind.i64.wrap (sum5_2*2^min (1:Int).toNat IntKind.i64.bits):Int)≥65536) then
 some (.inl (IntKind.i64.wrap ((BitVec.ofInt IntKind.i64.bits (IntKind.i64.wrap ((BitVec.ofInt IntKind.i64.bits (IntKind.i64.wrap (sum5_2*2^min (1:Int).toNat IntKind.i64.bits))^^^BitVec.ofInt IntKind.i64.bits 4129).toNat:Int))&&&BitVec.ofInt IntKind.i64.bits 65535).toNat:Int),IntKind.i64.wrap (y24+1)))
 else
 some (.inl (IntKind.i64.wrap (sum5_2*2^min (1:Int).toNat IntKind.i64.bits),IntKind.i64.wrap (y24+1)))
 else
 some (.inr (.inl (sum5_2,IntKind.i64.wrap (y15+1))))
def Zgu (s0:ByteArray):Int×Int→Option ((Int×Int) ⊕ (Int))
 | (sum5,y15)=>
 bif decide (y15<((byts s0).length:Int)) then
 (gIdx (byts s0) y15).bind fun e17=>
 (gNn 8).bind fun _=>
 loop (ZcA y15) (IntKind.i64.wrap ((BitVec.ofInt IntKind.i64.bits sum5^^^BitVec.ofInt IntKind.i64.bits (IntKind.i64.wrap ((IntKind.i64.wrap e17)*2^min (8:Int).toNat IntKind.i64.bits))).toNat:Int),0)
 else
 some (.inr (sum5))
def ZgN (s0:ByteArray) (start1:Int):Option Int:=
 (ZG start1 0 65535).bind fun r9=>
 bif !r9 then
 some (0)
 else
 loop (Zgu s0) (start1,0)
def Zhc (s0 sep1:ByteArray):Option (ByteArray×ByteArray×Bool):=if s0.size<4294967281 then some (cut3 s0 sep1) else none
def ZaM (y18:Int) (letter5 digit6:Bool):Option ((Int) ⊕ (Bool)):=
 bif !letter5 then
 bif y18==0 then
 some (.inr (false))
 else
 bif !digit6 then
 some (.inr (false))
 else
 some (.inl (IntKind.i64.wrap (y18+1)))
 else
 some (.inl (IntKind.i64.wrap (y18+1)))
def ZaQ (y18 e21:Int) (letter5:Bool):Option ((Int) ⊕ (Bool)):=
 bif decide (e21≥48) then
 ZaM y18 letter5 (decide (e21≤57))
 else
 ZaM y18 letter5 false
def ZaY (s0:ByteArray):Int→Option ((Int) ⊕ (Bool))
 | y18=>
 bif decide (y18<((byts s0).length:Int)) then
 (gIdx (byts s0) y18).bind fun e21=>
 bif decide (e21≥97) then
 ZaQ y18 e21 (decide (e21≤122))
 else
 ZaQ y18 e21 false
 else
 some (.inr (true))
def ZjD (s0:ByteArray):Option (Bool):=
 loop (ZaY s0) (0)
def Zed (s0:ByteArray):Option Bool:=
 bif decide (((s0.size:Int):Int)<1) then
 some (false)
 else
 bif decide (((s0.size:Int):Int)>10) then
 some (false)
 else
 ZjD s0
def ZjZ (r32:ByteArray×ByteArray×Bool) (r38:Zf×Bool):Option (ByteArray×Zf×Int):=
 some ((r32.1,(Zf.mk r38.1.Kind r38.1.Size r38.1.Rows),0))
def Zdz (line0:ByteArray) (r12:Int):Option (ByteArray×Zf×Int):=
 (gStSl line0 0 r12).bind fun s31=>
 (Zhc s31 ⟨#[32]⟩).bind fun r32=>
 (ZdA r32.2.1).bind fun r38=>
 bif !r38.2 then
 some ((⟨#[]⟩,(Zf.mk 0 0 ([]:List (List Int))),9))
 else
 (Zed r32.1).bind fun r45=>
 bif !r45 then
 some ((⟨#[]⟩,(Zf.mk 0 0 ([]:List (List Int))),9))
 else
 ZjZ r32 r38
def Zbs (line0:ByteArray):Option (ByteArray×Zf×Int):=
 (ZdT line0 32).bind fun r12=>
 bif decide (r12<0) then
 some ((⟨#[]⟩,(Zf.mk 0 0 ([]:List (List Int))),10))
 else
 (gStSl line0 0 r12).bind fun s22=>
 (ZgN s22 65535).bind fun r23=>
 (ZbM r23).bind fun r24=>
 (gStSl line0 (IntKind.i64.wrap (r12+1)) (line0.size)).bind fun s19=>
 bif !(s19.toList==r24.toList) then
 some ((⟨#[]⟩,(Zf.mk 0 0 ([]:List (List Int))),10))
 else
 Zdz line0 r12
def ZcK (r14:(List ByteArray)×Int):List Int×Int→Option ((List Int×Int) ⊕ ((List Int)×Int))
 | (damage6,y22)=>
 bif decide (y22<(r14.1.length:Int)) then
 (gIdx r14.1 y22).bind fun e25=>
 (Zbs e25).bind fun r29=>
 bif r29.2.2 !=0 then
 (gApp 8 damage6 [IntKind.i64.wrap (y22+1)]).bind fun l39=>
 some (.inl (l39,IntKind.i64.wrap (y22+1)))
 else
 some (.inl (damage6,IntKind.i64.wrap (y22+1)))
 else
 some (.inr ((damage6,0)))
def Zeq (s0:ByteArray):Option ((List Int)×Int):=
 (ZbX s0).bind fun r14=>
 bif r14.2 !=0 then
 some ((([]:List Int),r14.2))
 else
 loop (ZcK r14) (([]:List Int),0)
def Zhf (a0 b1:List Int):Int→Option ((Int) ⊕ (Bool))
 | i5=>
 bif decide (i5<(a0.length:Int)) then
 (gIdx a0 i5).bind fun e19=>
 (gIdx b1 i5).bind fun e23=>
 bif e19 !=e23 then
 some (.inr (false))
 else
 some (.inl (IntKind.i64.wrap (i5+1)))
 else
 some (.inr (true))
def Zd9 (a0 b1:List Int):Option Bool:=
 bif ((a0.length:Int):Int) !=(b1.length:Int) then
 some (false)
 else
 loop (Zhf a0 b1) (0)
def ZhM:Int×Int×List Int→Option ((Int×Int×List Int) ⊕ (Int×(List Int)))
 | (k1_2,i5,xs)=>
 bif decide (i5<(xs.length:Int)) then
 (gIdx xs i5).bind fun e15=>
 some (.inl (IntKind.i64.wrap (k1_2+1),IntKind.i64.wrap (i5+1),(xs.set i5.toNat k1_2)))
 else
 some (.inr ((k1_2,xs)))
def Zgj (a0:List Int) (k1:Int):Option (Int×(List Int)):=
 loop (ZhM) (k1,0,a0)
def ZjY (a0:List Int):Int×Int→Option ((Int×Int) ⊕ (Int))
 | (k1_2,i5)=>
 bif decide (i5<(a0.length:Int)) then
 (gIdx a0 i5).bind fun e14=>
 bif e14 !=k1_2 then
 some (.inr ((-1)))
 else
 some (.inl (IntKind.i64.wrap (k1_2+1),IntKind.i64.wrap (i5+1)))
 else
 some (.inr (k1_2))
def Zfo (a0:List Int) (k1:Int):Option Int:=
 loop (ZjY a0) (k1,0)
def ZhK (r35:Int×(List Int)):Option (Bool):=
 (Zfo r35.2 1).bind fun r60=>
 bif decide (r60<0) then
 some (false)
 else
 bif r60 !=r35.1 then
 some (false)
 else
 some (true)
def Zgq (y0:ByteArray) (r16 r21:(List Int)×Int):Option (Bool):=
 (Zgj r21.1 1).bind fun r35=>
 (Zfo r35.2 1).bind fun r38=>
 bif decide (r38<0) then
 some (false)
 else
 bif r38 !=r35.1 then
 some (false)
 else
 (Zeq y0).bind fun r46=>
 (Zd9 r46.1 r16.1).bind fun r51=>
 bif !r51 then
 some (false)
 else
 bif r46.2 !=r16.2 then
 some (false)
 else
 ZhK r35
def Zji (y0:ByteArray):Option Bool:=
 bif decide (((y0.size:Int):Int)>1048576) then
 some (true)
 else
 (ZhA y0).bind fun r16=>
 (Zeq y0).bind fun r21=>
 (Zd9 r21.1 r16.1).bind fun r26=>
 bif !r26 then
 some (false)
 else
 bif r21.2 !=r16.2 then
 some (false)
 else
 Zgq y0 r16 r21
end
end Go.Proofs.YtmmbnjijjdakmaaGreatDoor
