/- Typed forms of functions, and their links. No claim is stated here. -/
import Derived.Test.YtlcgclmobfdbcaaGreatFT
import Derived.Test.YtlcgclmobfdbcaaGreatFG0
set_option linter.unusedVariables false
namespace Go.Proofs.YtlcgclmobfdbcaaGreat.Cl
open Go
def ym:Nat→List Nat:=fun i=>bif i==6 then [1,2,3,8,9,10,13,14,15,16,17,18,19,20,21,22] else bif i==4 then [1,2,3,8,9,10,13,14,15,16,17,18,19,20] else bif i==2 then [1,2,3,8,9,10,13,14,15] else bif i==0 then [1,2,3,7,8,9,10,11,41,42] else []
def zEi (S:SatT) (K:KT):Kont:=kSeq (cwp S tab ym [] (sq Tryz.f130 5 31) (kFun tab (Tryz.f130).results.toList K)) (kFun tab (Tryz.f130).results.toList K)
def VA (s1_ s2_:Sl) (p3_:Pt) (i7 i8:Int) (i9 i10:Int) (s11_:Sl) (i41 i42:Int):Frame:=(U :: .sl s1_ :: .sl s2_ :: .ptr p3_::U::U::U :: .int .i64 i7 :: .int .i64 i8 :: .int .i64 i9 :: .int .i64 i10 :: .sl s11_::uu 29 (.int .i64 i41 :: .int .i64 i42::uu 127 []))
def zyx (S:SatT) (K:KT):(XT)→XT:=fun X fr h=>cwp S tab ym (ym 0) (sq Tryz.f130 8 244) (kSeq (fun fr h=>X (mask (ym 0) fr) h) (kBlk 0 (zEi S K))) fr h
def zyD (S:SatT) (K:KT) (s1_ s2_:Sl) (p3_:Pt) (i7 i8:Int) (i9 i10:Int) (s11_:Sl) (i41 i42:Int) (h:H):Prop:=zs (zyx S K) (VA s1_ s2_ p3_ i7 i8 i9 i10 s11_ i41 i42) h
def Vx (S:SatT) (K:KT):Kont:=kSeq (cwp S tab ym [] (sq Tryz.f130 9 511) (kFun tab (Tryz.f130).results.toList K)) (kFun tab (Tryz.f130).results.toList K)
def Vz (s1_ s2_:Sl) (p3_:Pt) (i8 i9 i10:Int) (s13_:Sl) (i14 i15:Int):Frame:=(U :: .sl s1_ :: .sl s2_ :: .ptr p3_::uu 4 (.int .i64 i8 :: .int .i64 i9 :: .int .i64 i10::U::U :: .sl s13_ :: .int .i64 i14 :: .int .i64 i15::uu 154 []))
def zyw (S:SatT) (K:KT):(XT)→XT:=fun X fr h=>cwp S tab ym (ym 2) (sq Tryz.f130 12 4084) (kSeq (fun fr h=>X (mask (ym 2) fr) h) (kBlk 2 (Vx S K))) fr h
def zyC (S:SatT) (K:KT) (s1_ s2_:Sl) (p3_:Pt) (i8 i9 i10:Int) (s13_:Sl) (i14 i15:Int) (h:H):Prop:=zs (zyw S K) (Vz s1_ s2_ p3_ i8 i9 i10 s13_ i14 i15) h
def zii (S:SatT) (K:KT) (X2:XT):Kont:=kSeq (cwp S tab ym (ym 2) (sq Tryz.f130 14 16339) (kSeq (fun fr h=>X2 (mask (ym 2) fr) h) (kBlk 2 (Vx S K)))) (kSeq (fun fr h=>X2 (mask (ym 2) fr) h) (kBlk 2 (Vx S K)))
def Vw (S:SatT) (K:KT) (X2:XT):Kont:=kSeq (cwp S tab ym (ym 3) (sq Tryz.f130 18 261415) (kBlk 3 (zii S K X2))) (kBlk 3 (zii S K X2))
def Vy (s1_ s2_:Sl) (p3_:Pt) (i8 i9 i10:Int) (s13_:Sl) (i14 i15:Int) (i16 i17:Int) (s18_:Sl) (i19 i20:Int):Frame:=(U :: .sl s1_ :: .sl s2_ :: .ptr p3_::uu 4 (.int .i64 i8 :: .int .i64 i9 :: .int .i64 i10::U::U :: .sl s13_ :: .int .i64 i14 :: .int .i64 i15 :: .int .i64 i16 :: .int .i64 i17 :: .sl s18_ :: .int .i64 i19 :: .int .i64 i20::uu 149 []))
def zyv (S:SatT) (K:KT) (X2:XT):(XT)→XT:=fun X fr h=>cwp S tab ym (ym 4) (sq Tryz.f130 21 2091316) (kSeq (fun fr h=>X (mask (ym 4) fr) h) (kBlk 4 (Vw S K X2))) fr h
def zyB (S:SatT) (K:KT) (X2:XT) (s1_ s2_:Sl) (p3_:Pt) (i8 i9 i10:Int) (s13_:Sl) (i14 i15:Int) (i16 i17:Int) (s18_:Sl) (i19 i20:Int) (h:H):Prop:=zs (zyv S K X2) (Vy s1_ s2_ p3_ i8 i9 i10 s13_ i14 i15 i16 i17 s18_ i19 i20) h
def zfZ (S:SatT) (K:KT) (X2 X4:XT) (s1_ s2_:Sl) (p3_:Pt) (i8 i9 i10:Int) (s13_:Sl) (i14 i15:Int) (i16 i17:Int) (s18_:Sl) (i19 i20:Int) (h:H):Prop:=
 X4 (Vy s1_ s2_ p3_ i8 i9 i10 s13_ i14 i15 i16 i17 s18_ i19 (w64 (i20+(1)))) h
def zyy (S:SatT) (K:KT) (X2 X4:XT):Kont:=kSeq (cwp S tab ym (ym 4) (sq Tryz.f130 23 8365267) (kSeq (fun fr h=>X4 (mask (ym 4) fr) h) (kBlk 4 (Vw S K X2)))) (kSeq (fun fr h=>X4 (mask (ym 4) fr) h) (kBlk 4 (Vw S K X2)))
def xt (s1_ s2_:Sl) (p3_:Pt) (i8 i9 i10:Int) (s13_:Sl) (i14 i15:Int) (i16 i17:Int) (s18_:Sl) (i19 i20:Int) (p21_:Pt) (i22:Int):Frame:=(U :: .sl s1_ :: .sl s2_ :: .ptr p3_::uu 4 (.int .i64 i8 :: .int .i64 i9 :: .int .i64 i10::U::U :: .sl s13_ :: .int .i64 i14 :: .int .i64 i15 :: .int .i64 i16 :: .int .i64 i17 :: .sl s18_ :: .int .i64 i19 :: .int .i64 i20 :: .ptr p21_ :: .int .i64 i22::uu 147 []))
def zyu (S:SatT) (K:KT) (X2 X4:XT):(XT)→XT:=fun X fr h=>cwp S tab ym (ym 6) (sq Tryz.f130 29 535377052) (kSeq (fun fr h=>X (mask (ym 6) fr) h) (kBlk 6 (kBlk 5 (zyy S K X2 X4)))) fr h
def zyA (S:SatT) (K:KT) (X2 X4:XT) (s1_ s2_:Sl) (p3_:Pt) (i8 i9 i10:Int) (s13_:Sl) (i14 i15:Int) (i16 i17:Int) (s18_:Sl) (i19 i20:Int) (p21_:Pt) (i22:Int) (h:H):Prop:=zs (zyu S K X2 X4) (xt s1_ s2_ p3_ i8 i9 i10 s13_ i14 i15 i16 i17 s18_ i19 i20 p21_ i22) h
def zyE (S:SatT) (K:KT) (X2 X4:XT) (s1_ s2_:Sl) (p3_:Pt) (i8 i9 i10:Int) (s13_:Sl) (i14 i15:Int) (i16 i17:Int) (s18_:Sl) (i19 i20:Int) (h:H):Prop:=
 zfZ S K X2 X4 s1_ s2_ p3_ i8 i9 i10 s13_ i14 i15 i16 i17 s18_ i19 i20 h
def zkp (S:SatT) (K:KT) (X2 X4 X6:XT) (s1_ s2_:Sl) (p3_:Pt) (i8 i9 i10:Int) (s13_:Sl) (i14 i15:Int) (i16 i17:Int) (s18_:Sl) (i19 i20:Int) (p21_:Pt) (i22:Int) (h:H):Prop:=
 bif (decide (i22<i10)) then
 nz i19 (
 nz i9 (
 nz i14 (
 bif (decide (i16>(0))) then
 ixA p21_ 4 1 (1) fun p0=>
 ldI .i64 p0 h fun n1=>
 bif ((Int.tmod (w64 (Int.tdiv i22 i19)) i9) != n1) then
 X6 (xt s1_ s2_ p3_ i8 i9 i10 s13_ i14 i15 i16 i17 s18_ i19 i20 p21_ (w64 (i22+(1)))) h
 else
 bif (decide (i17>(0))) then
 ixA p21_ 4 1 (0) fun p2=>
 ldI .i64 p2 h fun n3=>
 bif ((w64 (Int.tdiv i22 i14)) != n3) then
 X6 (xt s1_ s2_ p3_ i8 i9 i10 s13_ i14 i15 i16 i17 s18_ i19 i20 p21_ (w64 (i22+(1)))) h
 else
 ixA p21_ 4 1 (3) fun p4=>
 ldI .i64 p4 h fun n5=>
 ixA p21_ 4 1 (2) fun p6=>
 ldI .i64 p6 h fun n7=>
 ixS s18_ 1 i22 fun p8=>
 ldI .i64 p8 h fun n9=>
 ixS s13_ 1 (w64 (i15+(1))) fun p10=>
 ldS p10 h fun s11=>
 ixS s11 1 (w64 ((w64 (i22+(w64 ((w64 (n5-(Int.tmod (w64 (Int.tdiv i22 i19)) i9)))*i19))))+(w64 ((w64 (n7-(w64 (Int.tdiv i22 i14))))*i14)))) fun p12=>
 ldI .i64 p12 h fun n13=>
 ixS s18_ 1 i22 fun p14=>
 st1 p14 (.int .i64 (mnI (w64 (n9+n13)) (1000000000000001))) h fun h15=>
 X6 (xt s1_ s2_ p3_ i8 i9 i10 s13_ i14 i15 i16 i17 s18_ i19 i20 p21_ (w64 (i22+(1)))) h15
 else
 ixA p21_ 4 1 (3) fun p16=>
 ldI .i64 p16 h fun n17=>
 ixA p21_ 4 1 (2) fun p18=>
 ldI .i64 p18 h fun n19=>
 ixS s18_ 1 i22 fun p20=>
 ldI .i64 p20 h fun n21=>
 ixS s13_ 1 (w64 (i15+(1))) fun p22=>
 ldS p22 h fun s23=>
 ixS s23 1 (w64 ((w64 (i22+(w64 ((w64 (n17-(Int.tmod (w64 (Int.tdiv i22 i19)) i9)))*i19))))+(w64 ((w64 (n19-(w64 (Int.tdiv i22 i14))))*i14)))) fun p24=>
 ldI .i64 p24 h fun n25=>
 ixS s18_ 1 i22 fun p26=>
 st1 p26 (.int .i64 (mnI (w64 (n21+n25)) (1000000000000001))) h fun h27=>
 X6 (xt s1_ s2_ p3_ i8 i9 i10 s13_ i14 i15 i16 i17 s18_ i19 i20 p21_ (w64 (i22+(1)))) h27
 else
 bif (decide (i17>(0))) then
 ixA p21_ 4 1 (0) fun p28=>
 ldI .i64 p28 h fun n29=>
 bif ((w64 (Int.tdiv i22 i14)) != n29) then
 X6 (xt s1_ s2_ p3_ i8 i9 i10 s13_ i14 i15 i16 i17 s18_ i19 i20 p21_ (w64 (i22+(1)))) h
 else
 ixA p21_ 4 1 (3) fun p30=>
 ldI .i64 p30 h fun n31=>
 ixA p21_ 4 1 (2) fun p32=>
 ldI .i64 p32 h fun n33=>
 ixS s18_ 1 i22 fun p34=>
 ldI .i64 p34 h fun n35=>
 ixS s13_ 1 (w64 (i15+(1))) fun p36=>
 ldS p36 h fun s37=>
 ixS s37 1 (w64 ((w64 (i22+(w64 ((w64 (n31-(Int.tmod (w64 (Int.tdiv i22 i19)) i9)))*i19))))+(w64 ((w64 (n33-(w64 (Int.tdiv i22 i14))))*i14)))) fun p38=>
 ldI .i64 p38 h fun n39=>
 ixS s18_ 1 i22 fun p40=>
 st1 p40 (.int .i64 (mnI (w64 (n35+n39)) (1000000000000001))) h fun h41=>
 X6 (xt s1_ s2_ p3_ i8 i9 i10 s13_ i14 i15 i16 i17 s18_ i19 i20 p21_ (w64 (i22+(1)))) h41
 else
 ixA p21_ 4 1 (3) fun p42=>
 ldI .i64 p42 h fun n43=>
 ixA p21_ 4 1 (2) fun p44=>
 ldI .i64 p44 h fun n45=>
 ixS s18_ 1 i22 fun p46=>
 ldI .i64 p46 h fun n47=>
 ixS s13_ 1 (w64 (i15+(1))) fun p48=>
 ldS p48 h fun s49=>
 ixS s49 1 (w64 ((w64 (i22+(w64 ((w64 (n43-(Int.tmod (w64 (Int.tdiv i22 i19)) i9)))*i19))))+(w64 ((w64 (n45-(w64 (Int.tdiv i22 i14))))*i14)))) fun p50=>
 ldI .i64 p50 h fun n51=>
 ixS s18_ 1 i22 fun p52=>
 st1 p52 (.int .i64 (mnI (w64 (n47+n51)) (1000000000000001))) h fun h53=>
 X6 (xt s1_ s2_ p3_ i8 i9 i10 s13_ i14 i15 i16 i17 s18_ i19 i20 p21_ (w64 (i22+(1)))) h53)))
 else
 zyE S K X2 X4 s1_ s2_ p3_ i8 i9 i10 s13_ i14 i15 i16 i17 s18_ i19 i20 h
theorem zoJ (S:SatT) (K:KT) (X2 X4 X6:XT) (s1_ s2_:Sl) (p3_:Pt) (i8 i9 i10:Int) (s13_:Sl) (i14 i15:Int) (i16 i17:Int) (s18_:Sl) (i19 i20:Int) (p21_:Pt) (i22:Int) (h:H):zyu S K X2 X4 X6 (xt s1_ s2_ p3_ i8 i9 i10 s13_ i14 i15 i16 i17 s18_ i19 i20 p21_ i22) h=zkp S K X2 X4 X6 s1_ s2_ p3_ i8 i9 i10 s13_ i14 i15 i16 i17 s18_ i19 i20 p21_ i22 h:=by kernel_rfl
theorem zoF (S:SatT) (K:KT) (X2 X4:XT) (s1_ s2_:Sl) (p3_:Pt) (i8 i9 i10:Int) (s13_:Sl) (i14 i15:Int) (i16 i17:Int) (s18_:Sl) (i19 i20:Int) (p21_:Pt) (I_:Int→H→Prop) (m_:Int→H→Nat)
  (hs:∀(X6:XT) (i22:Int) (h:H),I_ i22 h→(∀(i22':Int) (h':H),I_ i22' h'→m_ i22' h'<m_ i22 h→X6 (xt s1_ s2_ p3_ i8 i9 i10 s13_ i14 i15 i16 i17 s18_ i19 i20 p21_ i22') h')→zkp S K X2 X4 X6 s1_ s2_ p3_ i8 i9 i10 s13_ i14 i15 i16 i17 s18_ i19 i20 p21_ i22 h) (i22:Int) {h:H} (h0:I_ i22 h):zyA S K X2 X4 s1_ s2_ p3_ i8 i9 i10 s13_ i14 i15 i16 i17 s18_ i19 i20 p21_ i22 h:=
 zg (σ :=(Int)) (fun s_=>xt s1_ s2_ p3_ i8 i9 i10 s13_ i14 i15 i16 i17 s18_ i19 i20 p21_ (s_)) (fun s_ h=>I_ (s_) h) (fun s_ h=>m_ (s_) h)
  (fun X s_ h hi hx=>(zoJ S K X2 X4 X s1_ s2_ p3_ i8 i9 i10 s13_ i14 i15 i16 i17 s18_ i19 i20 p21_ (s_) h).mpr (hs X (s_) h hi fun i22' h' hi' hm'=>hx (i22') h' hi' hm')) (i22) h0
def zyG (S:SatT) (K:KT) (X2:XT) (s1_ s2_:Sl) (p3_:Pt) (i8 i9 i10:Int) (s13_:Sl) (i14 i15:Int) (h:H):Prop:=
 X2 (Vz s1_ s2_ p3_ i8 i9 i10 s13_ i14 (w64 (i15-(1)))) h
def zyF (S:SatT) (K:KT) (X2:XT) (s1_ s2_:Sl) (p3_:Pt) (i8 i9 i10:Int) (s13_:Sl) (i14 i15:Int) (s18_:Sl) (h:H):Prop:=
 ixS s13_ 1 i15 fun p0=>
 st1 p0 (.sl s18_) h fun h1=>
 zyG S K X2 s1_ s2_ p3_ i8 i9 i10 s13_ i14 i15 h1
def zkq (S:SatT) (K:KT) (X2 X4:XT) (s1_ s2_:Sl) (p3_:Pt) (i8 i9 i10:Int) (s13_:Sl) (i14 i15:Int) (i16 i17:Int) (s18_:Sl) (i19 i20:Int) (h:H):Prop:=
 isPt p3_ (
 ldS (Pt.add p3_ 1) h fun s0=>
 bif (decide (i20<(s0.len:Int))) then
 ldA p3_ 2 h fun cs1=>
 callB S zlP [.agg cs1,.sl s1_,.sl s2_,.int .i64 i16,.int .i64 i17,.int .i64 i20] h fun b3 h2=>
 bif (!b3) then
 zfZ S K X2 X4 s1_ s2_ p3_ i8 i9 i10 s13_ i14 i15 i16 i17 s18_ i19 i20 h2
 else
 isPt p3_ (
 ldS (Pt.add p3_ 1) h2 fun s4=>
 ixS s4 4 i20 fun p5=>
 ldA p5 4 h2 fun cs6=>
 newO [.int .i64 (0),.int .i64 (0),.int .i64 (0),.int .i64 (0)] h2 fun p7 h8=>
 stN p7 4 cs6 h8 fun h9=>
 zyA S K X2 X4 s1_ s2_ p3_ i8 i9 i10 s13_ i14 i15 i16 i17 s18_ i19 i20 p7 (0) h9)
 else
 zyF S K X2 s1_ s2_ p3_ i8 i9 i10 s13_ i14 i15 s18_ h)
theorem zoK (S:SatT) (K:KT) (X2 X4:XT) (s1_ s2_:Sl) (p3_:Pt) (i8 i9 i10:Int) (s13_:Sl) (i14 i15:Int) (i16 i17:Int) (s18_:Sl) (i19 i20:Int) (h:H):zyv S K X2 X4 (Vy s1_ s2_ p3_ i8 i9 i10 s13_ i14 i15 i16 i17 s18_ i19 i20) h=zkq S K X2 X4 s1_ s2_ p3_ i8 i9 i10 s13_ i14 i15 i16 i17 s18_ i19 i20 h:=by kernel_rfl
theorem zoG (S:SatT) (K:KT) (X2:XT) (s1_ s2_:Sl) (p3_:Pt) (i8 i9 i10:Int) (s13_:Sl) (i14 i15:Int) (i16 i17:Int) (s18_:Sl) (i19:Int) (I_:Int→H→Prop) (m_:Int→H→Nat)
  (hs:∀(X4:XT) (i20:Int) (h:H),I_ i20 h→(∀(i20':Int) (h':H),I_ i20' h'→m_ i20' h'<m_ i20 h→X4 (Vy s1_ s2_ p3_ i8 i9 i10 s13_ i14 i15 i16 i17 s18_ i19 i20') h')→zkq S K X2 X4 s1_ s2_ p3_ i8 i9 i10 s13_ i14 i15 i16 i17 s18_ i19 i20 h) (i20:Int) {h:H} (h0:I_ i20 h):zyB S K X2 s1_ s2_ p3_ i8 i9 i10 s13_ i14 i15 i16 i17 s18_ i19 i20 h:=
 zg (σ :=(Int)) (fun s_=>Vy s1_ s2_ p3_ i8 i9 i10 s13_ i14 i15 i16 i17 s18_ i19 (s_)) (fun s_ h=>I_ (s_) h) (fun s_ h=>m_ (s_) h)
  (fun X s_ h hi hx=>(zoK S K X2 X s1_ s2_ p3_ i8 i9 i10 s13_ i14 i15 i16 i17 s18_ i19 (s_) h).mpr (hs X (s_) h hi fun i20' h' hi' hm'=>hx (i20') h' hi' hm')) (i20) h0
def zyH (S:SatT) (K:KT) (s13_:Sl) (h:H):Prop:=
 K (.sl s13_) h
def zkr (S:SatT) (K:KT) (X2:XT) (s1_ s2_:Sl) (p3_:Pt) (i8 i9 i10:Int) (s13_:Sl) (i14 i15:Int) (h:H):Prop:=
 bif (decide (i15≥(0))) then
 nz i8 (
 nz i8 (
 mkS i10 [.int .i64 (0)] h fun s0 h1=>
 callI S .i64 zcx [.int .i64 i9,.int .i64 (Int.tmod i15 i8)] h1 fun n3 h2=>
 zyB S K X2 s1_ s2_ p3_ i8 i9 i10 s13_ i14 i15 (w64 (Int.tdiv i15 i8)) (Int.tmod i15 i8) s0 n3 (0) h2))
 else
 zyH S K s13_ h
theorem zoL (S:SatT) (K:KT) (X2:XT) (s1_ s2_:Sl) (p3_:Pt) (i8 i9 i10:Int) (s13_:Sl) (i14 i15:Int) (h:H):zyw S K X2 (Vz s1_ s2_ p3_ i8 i9 i10 s13_ i14 i15) h=zkr S K X2 s1_ s2_ p3_ i8 i9 i10 s13_ i14 i15 h:=by kernel_rfl
theorem zoH (S:SatT) (K:KT) (s1_ s2_:Sl) (p3_:Pt) (i8 i9 i10:Int) (s13_:Sl) (i14:Int) (I_:Int→H→Prop) (m_:Int→H→Nat)
  (hs:∀(X2:XT) (i15:Int) (h:H),I_ i15 h→(∀(i15':Int) (h':H),I_ i15' h'→m_ i15' h'<m_ i15 h→X2 (Vz s1_ s2_ p3_ i8 i9 i10 s13_ i14 i15') h')→zkr S K X2 s1_ s2_ p3_ i8 i9 i10 s13_ i14 i15 h) (i15:Int) {h:H} (h0:I_ i15 h):zyC S K s1_ s2_ p3_ i8 i9 i10 s13_ i14 i15 h:=
 zg (σ :=(Int)) (fun s_=>Vz s1_ s2_ p3_ i8 i9 i10 s13_ i14 (s_)) (fun s_ h=>I_ (s_) h) (fun s_ h=>m_ (s_) h)
  (fun X s_ h hi hx=>(zoL S K X s1_ s2_ p3_ i8 i9 i10 s13_ i14 (s_) h).mpr (hs X (s_) h hi fun i15' h' hi' hm'=>hx (i15') h' hi' hm')) (i15) h0
def zyI (S:SatT) (K:KT) (s1_ s2_:Sl) (p3_:Pt) (i7 i8:Int) (i9 i10:Int) (s11_:Sl) (h:H):Prop:=
 mkS (w64 ((w64 (i7*i8))+(1))) [.sl Sl.nil] h fun s0 h1=>
 ixS s0 1 (w64 (i7*i8)) fun p2=>
 st1 p2 (.sl s11_) h1 fun h3=>
 callI S .i64 zcx [.int .i64 i9,.int .i64 i8] h3 fun n5 h4=>
 zyC S K s1_ s2_ p3_ i8 i9 i10 s0 n5 (w64 ((w64 (i7*i8))-(1))) h4
def zks (S:SatT) (K:KT) (X0:XT) (s1_ s2_:Sl) (p3_:Pt) (i7 i8:Int) (i9 i10:Int) (s11_:Sl) (i41 i42:Int) (h:H):Prop:=
 bif (decide (i42<i41)) then
 ixS s11_ 1 i42 fun p0=>
 st1 p0 (.int .i64 (1)) h fun h1=>
 X0 (VA s1_ s2_ p3_ i7 i8 i9 i10 s11_ i41 (w64 (i42+(1)))) h1
 else
 zyI S K s1_ s2_ p3_ i7 i8 i9 i10 s11_ h
theorem zoM (S:SatT) (K:KT) (X0:XT) (s1_ s2_:Sl) (p3_:Pt) (i7 i8:Int) (i9 i10:Int) (s11_:Sl) (i41 i42:Int) (h:H):zyx S K X0 (VA s1_ s2_ p3_ i7 i8 i9 i10 s11_ i41 i42) h=zks S K X0 s1_ s2_ p3_ i7 i8 i9 i10 s11_ i41 i42 h:=by kernel_rfl
theorem zoI (S:SatT) (K:KT) (s1_ s2_:Sl) (p3_:Pt) (i7 i8:Int) (i9 i10:Int) (s11_:Sl) (i41:Int) (I_:Int→H→Prop) (m_:Int→H→Nat)
  (hs:∀(X0:XT) (i42:Int) (h:H),I_ i42 h→(∀(i42':Int) (h':H),I_ i42' h'→m_ i42' h'<m_ i42 h→X0 (VA s1_ s2_ p3_ i7 i8 i9 i10 s11_ i41 i42') h')→zks S K X0 s1_ s2_ p3_ i7 i8 i9 i10 s11_ i41 i42 h) (i42:Int) {h:H} (h0:I_ i42 h):zyD S K s1_ s2_ p3_ i7 i8 i9 i10 s11_ i41 i42 h:=
 zg (σ :=(Int)) (fun s_=>VA s1_ s2_ p3_ i7 i8 i9 i10 s11_ i41 (s_)) (fun s_ h=>I_ (s_) h) (fun s_ h=>m_ (s_) h)
  (fun X s_ h hi hx=>(zoM S K X s1_ s2_ p3_ i7 i8 i9 i10 s11_ i41 (s_) h).mpr (hs X (s_) h hi fun i42' h' hi' hm'=>hx (i42') h' hi' hm')) (i42) h0
def Vv (S:SatT) (K:KT) (x0:List AVal) (x1 x2:Sl) (h:H):Prop:=
 newK 2 x0 h fun p0 h1=>
 ixS x1 1 (0) fun p2=>
 ldS p2 h1 fun s3=>
 isPt p0 (
 ldI .i64 (Pt.add p0 0) h1 fun n4=>
 callI S .i64 zcx [.int .i64 n4,.int .i64 (w64 ((s3.len:Int)+(1)))] h1 fun n6 h5=>
 mkS n6 [.int .i64 (0)] h5 fun s7 h8=>
 zyD S K x1 x2 p0 (x1.len:Int) (s3.len:Int) n4 n6 s7 (s7.len:Int) (0) h8)
theorem zaj (S:SatT) (K:KT) (x0:List AVal) (x1 x2:Sl) (h:H):cwp S tab ym [] (za Tryz.f130) (kFun tab Tryz.f130.results.toList K) (fr0 Tryz.f130 [.agg x0,.sl x1,.sl x2]) h=Vv S K x0 x1 x2 h:=by kernel_rfl
theorem zyz (x0:List AVal) (x1 x2:Sl) (h:H) (K:Sl→H→Prop) (hm:Vv (Sat Tryz.prog) (fun v h'=>∃r,v = .sl r∧K r h') x0 x1 x2 h):callS (Sat Tryz.prog) zlS [.agg x0,.sl x1,.sl x2] h K:=by
 have:=Sat.ex tok mixed ym Tryz.func130 (c:=za Tryz.f130) (by kernel_rfl) (zd Tryz.func130 (c:=za Tryz.f130) (by kernel_rfl) (by decide)) ((zaj _ _ x0 x1 x2 h).mpr hm)
 obtain ⟨v,h2,h3,r,rfl,h4⟩:=this;exact ⟨r,h2,h3,h4⟩
def xW:Nat→List Nat:=fun i=>bif i==2 then [0,3,4,5] else bif i==0 then [0,3] else []
def zfW (S:SatT) (K:KT):Kont:=kSeq (cwp S tab xW [] (sq Tryz.f159 3 7) (kFun tab (Tryz.f159).results.toList K)) (kFun tab (Tryz.f159).results.toList K)
def WI (s0_:Sl) (i3:Int):Frame:=(.sl s0_::U::U :: .int .i64 i3::uu 57 [])
def zwx (S:SatT) (K:KT):(XT)→XT:=fun X fr h=>cwp S tab xW (xW 0) (sq Tryz.f159 6 52) (kSeq (fun fr h=>X (mask (xW 0) fr) h) (kBlk 0 (zfW S K))) fr h
def zwB (S:SatT) (K:KT) (s0_:Sl) (i3:Int) (h:H):Prop:=zs (zwx S K) (WI s0_ i3) h
def zms (S:SatT) (K:KT) (X0:XT):Kont:=kSeq (cwp S tab xW (xW 0) (sq Tryz.f159 8 211) (kSeq (fun fr h=>X0 (mask (xW 0) fr) h) (kBlk 0 (zfW S K)))) (kSeq (fun fr h=>X0 (mask (xW 0) fr) h) (kBlk 0 (zfW S K)))
def zwy (S:SatT) (K:KT) (X0:XT):Kont:=kSeq (cwp S tab xW (xW 1) (sq Tryz.f159 13 6731) (kBlk 1 (zms S K X0))) (kBlk 1 (zms S K X0))
def YB (s0_:Sl) (i3:Int) (s4_:Sl) (i5:Int):Frame:=(.sl s0_::U::U :: .int .i64 i3 :: .sl s4_ :: .int .i64 i5::uu 55 [])
def zww (S:SatT) (K:KT) (X0:XT):(XT)→XT:=fun X fr h=>cwp S tab xW (xW 2) (sq Tryz.f159 16 53844) (kSeq (fun fr h=>X (mask (xW 2) fr) h) (kBlk 2 (zwy S K X0))) fr h
def zwA (S:SatT) (K:KT) (X0:XT) (s0_:Sl) (i3:Int) (s4_:Sl) (i5:Int) (h:H):Prop:=zs (zww S K X0) (YB s0_ i3 s4_ i5) h
def zwC (S:SatT) (K:KT) (X0:XT) (s0_:Sl) (i3:Int) (h:H):Prop:=
 cut s0_ 4 i3 (s0_.len:Int) h fun s0=>
 qY s0 [.int .i64 (0),.int .i64 (0),.int .i64 (0),.int .i64 (0)] h fun h1=>
 cut s0_ 4 (0) i3 h1 fun s2=>
 K (.sl s2) h1
def zjT (S:SatT) (K:KT) (X0 X2:XT) (s0_:Sl) (i3:Int) (s4_:Sl) (i5:Int) (h:H):Prop:=
 bif (decide (i5<(s4_.len:Int))) then
 ixS s4_ 4 i5 fun p0=>
 ldA p0 4 h fun cs1=>
 ixS s4_ 4 (w64 (i5-(1))) fun p2=>
 ldA p2 4 h fun cs3=>
 eqA .i64 4 cs1 cs3 fun b4=>
 bif (!b4) then
 ixS s4_ 4 i5 fun p5=>
 ldA p5 4 h fun cs6=>
 ixS s0_ 4 i3 fun p7=>
 stN p7 4 cs6 h fun h8=>
 X2 (YB s0_ (w64 (i3+(1))) s4_ (w64 (i5+(1)))) h8
 else
 X2 (YB s0_ i3 s4_ (w64 (i5+(1)))) h
 else
 zwC S K X0 s0_ i3 h
theorem zoa (S:SatT) (K:KT) (X0 X2:XT) (s0_:Sl) (i3:Int) (s4_:Sl) (i5:Int) (h:H):zww S K X0 X2 (YB s0_ i3 s4_ i5) h=zjT S K X0 X2 s0_ i3 s4_ i5 h:=by kernel_rfl
theorem znY (S:SatT) (K:KT) (X0:XT) (s0_ s4_:Sl) (I_:Int→Int→H→Prop) (m_:Int→Int→H→Nat)
  (hs:∀(X2:XT) (i3 i5:Int) (h:H),I_ i3 i5 h→(∀(i3' i5':Int) (h':H),I_ i3' i5' h'→m_ i3' i5' h'<m_ i3 i5 h→X2 (YB s0_ i3' s4_ i5') h')→zjT S K X0 X2 s0_ i3 s4_ i5 h) (i3 i5:Int) {h:H} (h0:I_ i3 i5 h):zwA S K X0 s0_ i3 s4_ i5 h:=
 zg (σ :=(Int)×(Int)) (fun s_=>YB s0_ (s_.1) s4_ (s_.2)) (fun s_ h=>I_ (s_.1) (s_.2) h) (fun s_ h=>m_ (s_.1) (s_.2) h)
  (fun X s_ h hi hx=>(zoa S K X0 X s0_ (s_.1) s4_ (s_.2) h).mpr (hs X (s_.1) (s_.2) h hi fun i3' i5' h' hi' hm'=>hx (i3',i5') h' hi' hm')) (i3,i5) h0
def zwD (S:SatT) (K:KT) (X0:XT) (s0_:Sl) (i3:Int) (h:H):Prop:=
 X0 (WI s0_ (w64 (i3+(1)))) h
def zwE (S:SatT) (K:KT) (s0_:Sl) (h:H):Prop:=
 K (.sl s0_) h
def zjU (S:SatT) (K:KT) (X0:XT) (s0_:Sl) (i3:Int) (h:H):Prop:=
 bif (decide (i3<(s0_.len:Int))) then
 ixS s0_ 4 i3 fun p0=>
 ldA p0 4 h fun cs1=>
 ixS s0_ 4 (w64 (i3-(1))) fun p2=>
 ldA p2 4 h fun cs3=>
 eqA .i64 4 cs1 cs3 fun b4=>
 bif b4 then
 cut s0_ 4 i3 (s0_.len:Int) h fun s5=>
 zwA S K X0 s0_ i3 s5 (1) h
 else
 zwD S K X0 s0_ i3 h
 else
 zwE S K s0_ h
theorem zob (S:SatT) (K:KT) (X0:XT) (s0_:Sl) (i3:Int) (h:H):zwx S K X0 (WI s0_ i3) h=zjU S K X0 s0_ i3 h:=by kernel_rfl
theorem znZ (S:SatT) (K:KT) (s0_:Sl) (I_:Int→H→Prop) (m_:Int→H→Nat)
  (hs:∀(X0:XT) (i3:Int) (h:H),I_ i3 h→(∀(i3':Int) (h':H),I_ i3' h'→m_ i3' h'<m_ i3 h→X0 (WI s0_ i3') h')→zjU S K X0 s0_ i3 h) (i3:Int) {h:H} (h0:I_ i3 h):zwB S K s0_ i3 h:=
 zg (σ :=(Int)) (fun s_=>WI s0_ (s_)) (fun s_ h=>I_ (s_) h) (fun s_ h=>m_ (s_) h)
  (fun X s_ h hi hx=>(zob S K X s0_ (s_) h).mpr (hs X (s_) h hi fun i3' h' hi' hm'=>hx (i3') h' hi' hm')) (i3) h0
def WH (S:SatT) (K:KT) (x0:Sl) (h:H):Prop:=
 bif (decide ((x0.len:Int)<(2))) then
 K (.sl x0) h
 else
 zwB S K x0 (1) h
theorem QJ (S:SatT) (K:KT) (x0:Sl) (h:H):cwp S tab xW [] (za Tryz.f159) (kFun tab Tryz.f159.results.toList K) (fr0 Tryz.f159 [.sl x0]) h=WH S K x0 h:=by kernel_rfl
theorem zwz (x0:Sl) (h:H) (K:Sl→H→Prop) (hm:WH (Sat Tryz.prog) (fun v h'=>∃r,v = .sl r∧K r h') x0 h):callS (Sat Tryz.prog) zrA [.sl x0] h K:=by
 have:=Sat.ex tok mixed xW Tryz.func159 (c:=za Tryz.f159) (by kernel_rfl) (zd Tryz.func159 (c:=za Tryz.f159) (by kernel_rfl) (by decide)) ((QJ _ _ x0 h).mpr hm)
 obtain ⟨v,h2,h3,r,rfl,h4⟩:=this;exact ⟨r,h2,h3,h4⟩
def Yv:Nat→List Nat:=fun i=>bif i==2 then [0,1,5,6,16,17,27,28] else bif i==0 then [0,1,5,16,17] else []
def zjs (S:SatT) (K:KT):Kont:=kSeq (cwp S tab Yv [] (sq Tryz.f89 3 7) (kFun tab (Tryz.f89).results.toList K)) (kFun tab (Tryz.f89).results.toList K)
def zbx (p0_:Pt) (i1:Int) (s5_:Sl) (i16 i17:Int):Frame:=(.ptr p0_ :: .int .i64 i1::U::U::U :: .sl s5_::uu 10 (.int .i64 i16 :: .int .i64 i17::uu 53 []))
def zFw (S:SatT) (K:KT):(XT)→XT:=fun X fr h=>cwp S tab Yv (Yv 0) (sq Tryz.f89 6 52) (kSeq (fun fr h=>X (mask (Yv 0) fr) h) (kBlk 0 (zjs S K))) fr h
def zFy (S:SatT) (K:KT) (p0_:Pt) (i1:Int) (s5_:Sl) (i16 i17:Int) (h:H):Prop:=zs (zFw S K) (zbx p0_ i1 s5_ i16 i17) h
def zJi (S:SatT) (K:KT) (X0:XT):Kont:=kSeq (cwp S tab Yv (Yv 0) (sq Tryz.f89 9 423) (kSeq (fun fr h=>X0 (mask (Yv 0) fr) h) (kBlk 0 (zjs S K)))) (kSeq (fun fr h=>X0 (mask (Yv 0) fr) h) (kBlk 0 (zjs S K)))
def YY (p0_:Pt) (i1:Int) (s5_:Sl) (i6 i16:Int) (i17 i27 i28:Int):Frame:=(.ptr p0_ :: .int .i64 i1::U::U::U :: .sl s5_ :: .int .i64 i6::uu 9 (.int .i64 i16 :: .int .i64 i17::uu 9 (.int .i64 i27 :: .int .i64 i28::uu 42 [])))
def zFv (S:SatT) (K:KT) (X0:XT):(XT)→XT:=fun X fr h=>cwp S tab Yv (Yv 2) (sq Tryz.f89 14 13516) (kSeq (fun fr h=>X (mask (Yv 2) fr) h) (kBlk 2 (kBlk 1 (zJi S K X0)))) fr h
def zFx (S:SatT) (K:KT) (X0:XT) (p0_:Pt) (i1:Int) (s5_:Sl) (i6 i16:Int) (i17 i27 i28:Int) (h:H):Prop:=zs (zFv S K X0) (YY p0_ i1 s5_ i6 i16 i17 i27 i28) h
def zFz (S:SatT) (K:KT) (X0:XT) (p0_:Pt) (i1:Int) (s5_:Sl) (i16 i17:Int) (h:H):Prop:=
 X0 (zbx p0_ i1 s5_ i16 (w64 (i17+(1)))) h
def zsO (S:SatT) (K:KT) (X0:XT) (p0_:Pt) (i1:Int) (s5_:Sl) (i16 i17:Int) (h:H):Prop:=
 zFz S K X0 p0_ i1 s5_ i16 i17 h
def zsM (S:SatT) (K:KT) (X0 X2:XT) (p0_:Pt) (i1:Int) (s5_:Sl) (i6 i16:Int) (i17 i27 i28:Int) (h:H):Prop:=
 bif (decide (i28<i27)) then
 nilC (.ptr p0_) (
 isPt p0_ (
 ldS (Pt.add p0_ 6) h fun s0=>
 ixS s0 1 i1 fun p1=>
 ldS p1 h fun s2=>
 ixS s2 1 i28 fun p3=>
 ldB p3 h fun b4=>
 bif (!b4) then
 X2 (YY p0_ i1 s5_ i6 i16 i17 i27 (w64 (i28+(1)))) h
 else
 callV S Wg [.ptr p0_,.int .i64 i1,.int .i64 i28,.int .i64 i6] h fun v6 h5=>
 viaT v6 fun vs7=>
 exI .i64 vs7 0 fun n8=>
 viaT v6 fun vs9=>
 exB vs9 1 fun b10=>
 bif b10 then
 nilC (.ptr p0_) (
 isPt p0_ (
 ldS (Pt.add p0_ 6) h5 fun s11=>
 ixS s11 1 (w64 (i1+(1))) fun p12=>
 ldS p12 h5 fun s13=>
 ixS s13 1 n8 fun p14=>
 ldB p14 h5 fun b15=>
 bif b15 then
 newS 1 1 [.int .i64 i6] h5 fun s16 h17=>
 app s5_ s16 1 h17 fun s18 h19=>
 zsO S K X0 p0_ i1 s18 i16 i17 h19
 else
 X2 (YY p0_ i1 s5_ i6 i16 i17 i27 (w64 (i28+(1)))) h5))
 else
 X2 (YY p0_ i1 s5_ i6 i16 i17 i27 (w64 (i28+(1)))) h5))
 else
 zsO S K X0 p0_ i1 s5_ i16 i17 h
theorem zsK (S:SatT) (K:KT) (X0 X2:XT) (p0_:Pt) (i1:Int) (s5_:Sl) (i6 i16:Int) (i17 i27 i28:Int) (h:H):zFv S K X0 X2 (YY p0_ i1 s5_ i6 i16 i17 i27 i28) h=zsM S K X0 X2 p0_ i1 s5_ i6 i16 i17 i27 i28 h:=by kernel_rfl
theorem zsI (S:SatT) (K:KT) (X0:XT) (p0_:Pt) (i1 i6:Int) (i16 i17 i27:Int) (I_:Sl→Int→H→Prop) (m_:Sl→Int→H→Nat)
  (hs:∀(X2:XT) (s5_:Sl) (i28:Int) (h:H),I_ s5_ i28 h→(∀(s5_':Sl) (i28':Int) (h':H),I_ s5_' i28' h'→m_ s5_' i28' h'<m_ s5_ i28 h→X2 (YY p0_ i1 s5_' i6 i16 i17 i27 i28') h')→zsM S K X0 X2 p0_ i1 s5_ i6 i16 i17 i27 i28 h) (s5_:Sl) (i28:Int) {h:H} (h0:I_ s5_ i28 h):zFx S K X0 p0_ i1 s5_ i6 i16 i17 i27 i28 h:=
 zg (σ :=(Sl)×(Int)) (fun s_=>YY p0_ i1 (s_.1) i6 i16 i17 i27 (s_.2)) (fun s_ h=>I_ (s_.1) (s_.2) h) (fun s_ h=>m_ (s_.1) (s_.2) h)
  (fun X s_ h hi hx=>(zsK S K X0 X p0_ i1 (s_.1) i6 i16 i17 i27 (s_.2) h).mpr (hs X (s_.1) (s_.2) h hi fun s5_' i28' h' hi' hm'=>hx (s5_',i28') h' hi' hm')) (s5_,i28) h0
def zFA (S:SatT) (K:KT) (s5_:Sl) (h:H):Prop:=
 K (.sl s5_) h
def zsN (S:SatT) (K:KT) (X0:XT) (p0_:Pt) (i1:Int) (s5_:Sl) (i16 i17:Int) (h:H):Prop:=
 bif (decide (i17<i16)) then
 nilC (.ptr p0_) (
 isPt p0_ (
 ldS (Pt.add p0_ 6) h fun s0=>
 ixS s0 1 i1 fun p1=>
 ldS p1 h fun s2=>
 zFx S K X0 p0_ i1 s5_ i17 i16 i17 (s2.len:Int) (0) h))
 else
 zFA S K s5_ h
theorem zsL (S:SatT) (K:KT) (X0:XT) (p0_:Pt) (i1:Int) (s5_:Sl) (i16 i17:Int) (h:H):zFw S K X0 (zbx p0_ i1 s5_ i16 i17) h=zsN S K X0 p0_ i1 s5_ i16 i17 h:=by kernel_rfl
theorem zsJ (S:SatT) (K:KT) (p0_:Pt) (i1 i16:Int) (I_:Sl→Int→H→Prop) (m_:Sl→Int→H→Nat)
  (hs:∀(X0:XT) (s5_:Sl) (i17:Int) (h:H),I_ s5_ i17 h→(∀(s5_':Sl) (i17':Int) (h':H),I_ s5_' i17' h'→m_ s5_' i17' h'<m_ s5_ i17 h→X0 (zbx p0_ i1 s5_' i16 i17') h')→zsN S K X0 p0_ i1 s5_ i16 i17 h) (s5_:Sl) (i17:Int) {h:H} (h0:I_ s5_ i17 h):zFy S K p0_ i1 s5_ i16 i17 h:=
 zg (σ :=(Sl)×(Int)) (fun s_=>zbx p0_ i1 (s_.1) i16 (s_.2)) (fun s_ h=>I_ (s_.1) (s_.2) h) (fun s_ h=>m_ (s_.1) (s_.2) h)
  (fun X s_ h hi hx=>(zsL S K X p0_ i1 (s_.1) i16 (s_.2) h).mpr (hs X (s_.1) (s_.2) h hi fun s5_' i17' h' hi' hm'=>hx (s5_',i17') h' hi' hm')) (s5_,i17) h0
def zdd (S:SatT) (K:KT) (x0:Pt) (x1:Int) (h:H):Prop:=
 newS 0 1 [] h fun s0 h1=>
 nilC (.ptr x0) (
 isPt x0 (
 isPt (Pt.add x0 0) (
 ldS (Pt.add (Pt.add x0 0) 1) h1 fun s2=>
 zFy S K x0 x1 s0 (s2.len:Int) (0) h1)))
theorem zdc (S:SatT) (K:KT) (x0:Pt) (x1:Int) (h:H):cwp S tab Yv [] (za Tryz.f89) (kFun tab Tryz.f89.results.toList K) (fr0 Tryz.f89 [.ptr x0,.int .i64 x1]) h=zdd S K x0 x1 h:=by kernel_rfl
theorem zCt (x0:Pt) (x1:Int) (h:H) (K:Sl→H→Prop) (hm:zdd (Sat Tryz.prog) (fun v h'=>∃r,v = .sl r∧K r h') x0 x1 h):callS (Sat Tryz.prog) zBO [.ptr x0,.int .i64 x1] h K:=by
 have:=Sat.ex tok mixed Yv Tryz.func89 (c:=za Tryz.f89) (by kernel_rfl) (zd Tryz.func89 (c:=za Tryz.f89) (by kernel_rfl) (by decide)) ((zdc _ _ x0 x1 h).mpr hm)
 obtain ⟨v,h2,h3,r,rfl,h4⟩:=this;exact ⟨r,h2,h3,h4⟩
def Zn:Nat→List Nat:=fun i=>bif i==2 then [1,4,5,6,7] else bif i==0 then [1,4,5] else []
def zjx (S:SatT) (K:KT):Kont:=kSeq (cwp S tab Zn [] (sq Tryz.f45 4 15) (kFun tab (Tryz.f45).results.toList K)) (kFun tab (Tryz.f45).results.toList K)
def zhL (p1_:Pt) (s4_:Sl) (i5:Int):Frame:=(U :: .ptr p1_::U::U :: .sl s4_ :: .int .i64 i5::uu 36 [])
def zGz (S:SatT) (K:KT):(XT)→XT:=fun X fr h=>cwp S tab Zn (Zn 0) (sq Tryz.f45 7 116) (kSeq (fun fr h=>X (mask (Zn 0) fr) h) (kBlk 0 (zjx S K))) fr h
def zGB (S:SatT) (K:KT) (p1_:Pt) (s4_:Sl) (i5:Int) (h:H):Prop:=zs (zGz S K) (zhL p1_ s4_ i5) h
def zua (S:SatT) (K:KT) (X0:XT):Kont:=kSeq (cwp S tab Zn (Zn 0) (sq Tryz.f45 9 467) (kSeq (fun fr h=>X0 (mask (Zn 0) fr) h) (kBlk 0 (zjx S K)))) (kSeq (fun fr h=>X0 (mask (Zn 0) fr) h) (kBlk 0 (zjx S K)))
def zCQ (S:SatT) (K:KT) (X0:XT):Kont:=kSeq (cwp S tab Zn (Zn 1) (sq Tryz.f45 12 3731) (kBlk 1 (zua S K X0))) (kBlk 1 (zua S K X0))
def Wo (p1_:Pt) (s4_:Sl) (i5:Int) (s6_:Sl) (i7:Int):Frame:=(U :: .ptr p1_::U::U :: .sl s4_ :: .int .i64 i5 :: .sl s6_ :: .int .i64 i7::uu 34 [])
def zGy (S:SatT) (K:KT) (X0:XT):(XT)→XT:=fun X fr h=>cwp S tab Zn (Zn 2) (sq Tryz.f45 15 29844) (kSeq (fun fr h=>X (mask (Zn 2) fr) h) (kBlk 2 (zCQ S K X0))) fr h
def zGA (S:SatT) (K:KT) (X0:XT) (p1_:Pt) (s4_:Sl) (i5:Int) (s6_:Sl) (i7:Int) (h:H):Prop:=zs (zGy S K X0) (Wo p1_ s4_ i5 s6_ i7) h
def zGD (S:SatT) (K:KT) (X0:XT) (p1_:Pt) (s4_:Sl) (i5:Int) (h:H):Prop:=
 X0 (zhL p1_ s4_ (w64 (i5+(1)))) h
def zGC (S:SatT) (K:KT) (X0:XT) (p1_:Pt) (s4_:Sl) (i5:Int) (s6_:Sl) (h:H):Prop:=
 newS 1 1 [.sl s6_] h fun s0 h1=>
 app s4_ s0 1 h1 fun s2 h3=>
 zGD S K X0 p1_ s2 i5 h3
def zub (S:SatT) (K:KT) (X0 X2:XT) (p1_:Pt) (s4_:Sl) (i5:Int) (s6_:Sl) (i7:Int) (h:H):Prop:=
 bif (decide (i7≤(3))) then
 ldA p1_ 2 h fun cs0=>
 callP S zrr [.agg cs0,.int .i64 i5,.int .i64 i7] h fun p2 h1=>
 nilC (.ptr p2) (
 isPt p2 (
 ldS (Pt.add p2 6) h1 fun s3=>
 ixS s3 1 (0) fun p4=>
 ldS p4 h1 fun s5=>
 ixS s5 1 (0) fun p6=>
 ldB p6 h1 fun b7=>
 bif b7 then
 newS 1 1 [.int .i64 (1)] h1 fun s8 h9=>
 app s6_ s8 1 h9 fun s10 h11=>
 X2 (Wo p1_ s4_ i5 s10 (w64 (i7+(1)))) h11
 else
 newS 1 1 [.int .i64 (0)] h1 fun s12 h13=>
 app s6_ s12 1 h13 fun s14 h15=>
 X2 (Wo p1_ s4_ i5 s14 (w64 (i7+(1)))) h15))
 else
 zGC S K X0 p1_ s4_ i5 s6_ h
theorem ztY (S:SatT) (K:KT) (X0 X2:XT) (p1_:Pt) (s4_:Sl) (i5:Int) (s6_:Sl) (i7:Int) (h:H):zGy S K X0 X2 (Wo p1_ s4_ i5 s6_ i7) h=zub S K X0 X2 p1_ s4_ i5 s6_ i7 h:=by kernel_rfl
theorem ztW (S:SatT) (K:KT) (X0:XT) (p1_:Pt) (s4_:Sl) (i5:Int) (I_:Sl→Int→H→Prop) (m_:Sl→Int→H→Nat)
  (hs:∀(X2:XT) (s6_:Sl) (i7:Int) (h:H),I_ s6_ i7 h→(∀(s6_':Sl) (i7':Int) (h':H),I_ s6_' i7' h'→m_ s6_' i7' h'<m_ s6_ i7 h→X2 (Wo p1_ s4_ i5 s6_' i7') h')→zub S K X0 X2 p1_ s4_ i5 s6_ i7 h) (s6_:Sl) (i7:Int) {h:H} (h0:I_ s6_ i7 h):zGA S K X0 p1_ s4_ i5 s6_ i7 h:=
 zg (σ :=(Sl)×(Int)) (fun s_=>Wo p1_ s4_ i5 (s_.1) (s_.2)) (fun s_ h=>I_ (s_.1) (s_.2) h) (fun s_ h=>m_ (s_.1) (s_.2) h)
  (fun X s_ h hi hx=>(ztY S K X0 X p1_ s4_ i5 (s_.1) (s_.2) h).mpr (hs X (s_.1) (s_.2) h hi fun s6_' i7' h' hi' hm'=>hx (s6_',i7') h' hi' hm')) (s6_,i7) h0
def zGE (S:SatT) (K:KT) (s4_:Sl) (h:H):Prop:=
 K (.tuple [.sl s4_,.int .i64 (0)]) h
def zuc (S:SatT) (K:KT) (X0:XT) (p1_:Pt) (s4_:Sl) (i5:Int) (h:H):Prop:=
 bif (decide (i5≤(3))) then
 newS 0 1 [] h fun s0 h1=>
 zGA S K X0 p1_ s4_ i5 s0 (1) h1
 else
 zGE S K s4_ h
theorem ztZ (S:SatT) (K:KT) (X0:XT) (p1_:Pt) (s4_:Sl) (i5:Int) (h:H):zGz S K X0 (zhL p1_ s4_ i5) h=zuc S K X0 p1_ s4_ i5 h:=by kernel_rfl
theorem ztX (S:SatT) (K:KT) (p1_:Pt) (I_:Sl→Int→H→Prop) (m_:Sl→Int→H→Nat)
  (hs:∀(X0:XT) (s4_:Sl) (i5:Int) (h:H),I_ s4_ i5 h→(∀(s4_':Sl) (i5':Int) (h':H),I_ s4_' i5' h'→m_ s4_' i5' h'<m_ s4_ i5 h→X0 (zhL p1_ s4_' i5') h')→zuc S K X0 p1_ s4_ i5 h) (s4_:Sl) (i5:Int) {h:H} (h0:I_ s4_ i5 h):zGB S K p1_ s4_ i5 h:=
 zg (σ :=(Sl)×(Int)) (fun s_=>zhL p1_ (s_.1) (s_.2)) (fun s_ h=>I_ (s_.1) (s_.2) h) (fun s_ h=>m_ (s_.1) (s_.2) h)
  (fun X s_ h hi hx=>(ztZ S K X p1_ (s_.1) (s_.2) h).mpr (hs X (s_.1) (s_.2) h hi fun s4_' i5' h' hi' hm'=>hx (s4_',i5') h' hi' hm')) (s4_,i5) h0
def zdW (S:SatT) (K:KT) (x0:List AVal) (h:H):Prop:=
 newK 2 x0 h fun p0 h1=>
 ldA p0 2 h1 fun cs2=>
 callB S zns [.agg cs2] h1 fun b4 h3=>
 bif (!b4) then
 K (.tuple [.sl Sl.nil,.int .i64 (1)]) h3
 else
 newS 0 1 [] h3 fun s5 h6=>
 zGB S K p0 s5 (1) h6
theorem zdV (S:SatT) (K:KT) (x0:List AVal) (h:H):cwp S tab Zn [] (za Tryz.f45) (kFun tab Tryz.f45.results.toList K) (fr0 Tryz.f45 [.agg x0]) h=zdW S K x0 h:=by kernel_rfl
theorem zCR (x0:List AVal) (h:H) (K:KT) (hm:zdW (Sat Tryz.prog) (fun v h'=>K v h') x0 h):callV (Sat Tryz.prog) zIM [.agg x0] h K:=by
 have:=Sat.ex tok mixed Zn Tryz.func45 (c:=za Tryz.f45) (by kernel_rfl) (zd Tryz.func45 (c:=za Tryz.f45) (by kernel_rfl) (by decide)) ((zdV _ _ x0 h).mpr hm)
 exact this
def Yy:Nat→List Nat:=fun i=>bif i==2 then [1,2,5,6] else bif i==0 then [1,2,5] else []
def zdu (S:SatT) (K:KT):Kont:=kSeq (cwp S tab Yy [] (sq Tryz.f82 4 15) (kFun tab (Tryz.f82).results.toList K)) (kFun tab (Tryz.f82).results.toList K)
def zhF (s1_:Sl) (p2_:Pt) (i5:Int):Frame:=(U :: .sl s1_ :: .ptr p2_::U::U :: .int .i64 i5::uu 64 [])
def zFX (S:SatT) (K:KT):(XT)→XT:=fun X fr h=>cwp S tab Yy (Yy 0) (sq Tryz.f82 7 116) (kSeq (fun fr h=>X (mask (Yy 0) fr) h) (kBlk 0 (zdu S K))) fr h
def zFZ (S:SatT) (K:KT) (s1_:Sl) (p2_:Pt) (i5:Int) (h:H):Prop:=zs (zFX S K) (zhF s1_ p2_ i5) h
def zCA (S:SatT) (K:KT) (X0:XT):Kont:=kSeq (cwp S tab Yy (Yy 0) (sq Tryz.f82 9 467) (kSeq (fun fr h=>X0 (mask (Yy 0) fr) h) (kBlk 0 (zdu S K)))) (kSeq (fun fr h=>X0 (mask (Yy 0) fr) h) (kBlk 0 (zdu S K)))
def zhE (s1_:Sl) (p2_:Pt) (i5 i6:Int):Frame:=(U :: .sl s1_ :: .ptr p2_::U::U :: .int .i64 i5 :: .int .i64 i6::uu 63 [])
def zFW (S:SatT) (K:KT) (X0:XT):(XT)→XT:=fun X fr h=>cwp S tab Yy (Yy 2) (sq Tryz.f82 14 14924) (kSeq (fun fr h=>X (mask (Yy 2) fr) h) (kBlk 2 (kBlk 1 (zCA S K X0)))) fr h
def zFY (S:SatT) (K:KT) (X0:XT) (s1_:Sl) (p2_:Pt) (i5 i6:Int) (h:H):Prop:=zs (zFW S K X0) (zhE s1_ p2_ i5 i6) h
def zGb (S:SatT) (K:KT) (X0:XT) (s1_:Sl) (p2_:Pt) (i5:Int) (h:H):Prop:=
 X0 (zhF s1_ p2_ (w64 (i5+(1)))) h
def zGa (S:SatT) (K:KT) (X0:XT) (s1_:Sl) (p2_:Pt) (i5:Int) (h:H):Prop:=
 zGb S K X0 s1_ p2_ i5 h
def ztx (S:SatT) (K:KT) (X0 X2:XT) (s1_:Sl) (p2_:Pt) (i5 i6:Int) (h:H):Prop:=
 ixS s1_ 1 i5 fun p0=>
 ldS p0 h fun s1=>
 bif (decide (i6<(s1.len:Int))) then
 ixS s1_ 1 i5 fun p2=>
 ldS p2 h fun s3=>
 ixS s3 1 i6 fun p4=>
 ldI .i64 p4 h fun n5=>
 isPt p2_ (
 ldS (Pt.add p2_ 1) h fun s6=>
 callB S We [.int .i64 n5,.int .i64 (0),.int .i64 (w64 ((s6.len:Int)-(1)))] h fun b8 h7=>
 bif (!b8) then
 K (.int .i64 (2)) h7
 else
 X2 (zhE s1_ p2_ i5 (w64 (i6+(1)))) h7)
 else
 zGa S K X0 s1_ p2_ i5 h
theorem ztv (S:SatT) (K:KT) (X0 X2:XT) (s1_:Sl) (p2_:Pt) (i5 i6:Int) (h:H):zFW S K X0 X2 (zhE s1_ p2_ i5 i6) h=ztx S K X0 X2 s1_ p2_ i5 i6 h:=by kernel_rfl
theorem ztt (S:SatT) (K:KT) (X0:XT) (s1_:Sl) (p2_:Pt) (i5:Int) (I_:Int→H→Prop) (m_:Int→H→Nat)
  (hs:∀(X2:XT) (i6:Int) (h:H),I_ i6 h→(∀(i6':Int) (h':H),I_ i6' h'→m_ i6' h'<m_ i6 h→X2 (zhE s1_ p2_ i5 i6') h')→ztx S K X0 X2 s1_ p2_ i5 i6 h) (i6:Int) {h:H} (h0:I_ i6 h):zFY S K X0 s1_ p2_ i5 i6 h:=
 zg (σ :=(Int)) (fun s_=>zhE s1_ p2_ i5 (s_)) (fun s_ h=>I_ (s_) h) (fun s_ h=>m_ (s_) h)
  (fun X s_ h hi hx=>(ztv S K X0 X s1_ p2_ i5 (s_) h).mpr (hs X (s_) h hi fun i6' h' hi' hm'=>hx (i6') h' hi' hm')) (i6) h0
def zGc (S:SatT) (K:KT) (h:H):Prop:=
 K (.int .i64 (0)) h
def zty (S:SatT) (K:KT) (X0:XT) (s1_:Sl) (p2_:Pt) (i5:Int) (h:H):Prop:=
 bif (decide (i5<(s1_.len:Int))) then
 ixS s1_ 1 i5 fun p0=>
 ldS p0 h fun s1=>
 ixS s1_ 1 (0) fun p2=>
 ldS p2 h fun s3=>
 bif ((s1.len:Int) != (s3.len:Int)) then
 K (.int .i64 (2)) h
 else
 zFY S K X0 s1_ p2_ i5 (0) h
 else
 zGc S K h
theorem ztw (S:SatT) (K:KT) (X0:XT) (s1_:Sl) (p2_:Pt) (i5:Int) (h:H):zFX S K X0 (zhF s1_ p2_ i5) h=zty S K X0 s1_ p2_ i5 h:=by kernel_rfl
theorem ztu (S:SatT) (K:KT) (s1_:Sl) (p2_:Pt) (I_:Int→H→Prop) (m_:Int→H→Nat)
  (hs:∀(X0:XT) (i5:Int) (h:H),I_ i5 h→(∀(i5':Int) (h':H),I_ i5' h'→m_ i5' h'<m_ i5 h→X0 (zhF s1_ p2_ i5') h')→zty S K X0 s1_ p2_ i5 h) (i5:Int) {h:H} (h0:I_ i5 h):zFZ S K s1_ p2_ i5 h:=
 zg (σ :=(Int)) (fun s_=>zhF s1_ p2_ (s_)) (fun s_ h=>I_ (s_) h) (fun s_ h=>m_ (s_) h)
  (fun X s_ h hi hx=>(ztw S K X s1_ p2_ (s_) h).mpr (hs X (s_) h hi fun i5' h' hi' hm'=>hx (i5') h' hi' hm')) (i5) h0
def zdt (S:SatT) (K:KT) (x0:List AVal) (x1:Sl) (h:H):Prop:=
 newK 2 x0 h fun p0 h1=>
 ldA p0 2 h1 fun cs2=>
 callB S zcy [.agg cs2] h1 fun b4 h3=>
 bif (!b4) then
 K (.int .i64 (1)) h3
 else
 bif (decide ((x1.len:Int)<(1))) then
 K (.int .i64 (2)) h3
 else
 bif (decide ((x1.len:Int)>(8))) then
 K (.int .i64 (2)) h3
 else
 ixS x1 1 (0) fun p5=>
 ldS p5 h3 fun s6=>
 bif (decide ((s6.len:Int)<(1))) then
 K (.int .i64 (2)) h3
 else
 ixS x1 1 (0) fun p7=>
 ldS p7 h3 fun s8=>
 bif (decide ((s8.len:Int)>(8))) then
 K (.int .i64 (2)) h3
 else
 zFZ S K x1 p0 (0) h3
theorem zds (S:SatT) (K:KT) (x0:List AVal) (x1:Sl) (h:H):cwp S tab Yy [] (za Tryz.f82) (kFun tab Tryz.f82.results.toList K) (fr0 Tryz.f82 [.agg x0,.sl x1]) h=zdt S K x0 x1 h:=by kernel_rfl
theorem zCB (x0:List AVal) (x1:Sl) (h:H) (K:Int→H→Prop) (hm:zdt (Sat Tryz.prog) (fun v h'=>∃r,v = .int .i64 r∧K r h') x0 x1 h):callI (Sat Tryz.prog) .i64 zIK [.agg x0,.sl x1] h K:=by
 have:=Sat.ex tok mixed Yy Tryz.func82 (c:=za Tryz.f82) (by kernel_rfl) (zd Tryz.func82 (c:=za Tryz.f82) (by kernel_rfl) (by decide)) ((zds _ _ x0 x1 h).mpr hm)
 obtain ⟨v,h2,h3,r,rfl,h4⟩:=this;exact ⟨r,h2,h3,h4⟩
def zHK:Nat→List Nat:=fun i=>[]
def Ql (S:SatT) (K:KT) (x0:Pt) (h:H):Prop:=
 newO [.int .i64 (0),.sl Sl.nil] h fun p0 h1=>
 callI S .i64 zZ [.ptr x0,.int .i64 (4)] h1 fun n3 h2=>
 bif (n3==(0)) then
 bif (n3==(0)) then
 callA S Wh [.ptr x0] h2 fun cs5 h4=>
 stN p0 2 cs5 h4 fun h6=>
 ldA p0 2 h6 fun cs7=>
 K (.agg cs7) h6
 else
 bif (n3==(2)) then
 newS 3 1 [.int .i64 (2),.int .i64 (3),.int .i64 (4)] h2 fun s8 h9=>
 callI S .i64 Zi [.ptr x0,.sl s8] h9 fun n11 h10=>
 callI S .i64 zZ [.ptr x0,.int .i64 (10)] h10 fun n13 h12=>
 callA S YX [.ptr x0,.int .i64 n11,.int .i64 n13] h12 fun cs15 h14=>
 newO [.int .i64 (0),.sl Sl.nil] h14 fun p16 h17=>
 stN p16 2 cs15 h17 fun h18=>
 isPt p16 (
 ldI .i64 (Pt.add p16 0) h18 fun n19=>
 callI S .i64 zZ [.ptr x0,.int .i64 n19] h18 fun n21 h20=>
 isPt p16 (
 ldI .i64 (Pt.add p16 0) h20 fun n22=>
(cell h18 (Pt.add p16 0)=cell h20 (Pt.add p16 0))∧(
 callI S .i64 zZ [.ptr x0,.int .i64 n22] h20 fun n24 h23=>
 vp 15 h23 fun h25=>
 isPt p16 (
 ldI .i64 (Pt.add p16 0) h25 fun n26=>
 isPt p16 (
 ldS (Pt.add p16 1) h25 fun s27=>
 vj 0 4 [] h25 (h23.length+2) fun s28 h29=>
(cell h29 (Pt.add p16 1)=cell h25 (Pt.add p16 1))∧(
(cell h29 (Pt.add p16 0)=cell h25 (Pt.add p16 0))∧(
 app s28 s27 4 h29 fun s30 h31=>
(cell h31 (Pt.add p16 0)=cell h25 (Pt.add p16 0))∧(
 lenA [.int .i64 n21,.int .i64 n24,.int .i64 n21,.int .i64 n24] 4 (
 vj 1 4 (spl [.int .i64 (0),.int .i64 (0),.int .i64 (0),.int .i64 (0)] 0 4 [.int .i64 n21,.int .i64 n24,.int .i64 n21,.int .i64 n24]) h31 (h23.length+11) fun s32 h33=>
(cell h31 (Pt.add p16 1)=cell h25 (Pt.add p16 1))∧(
(cell h33 (Pt.add p16 1)=cell h25 (Pt.add p16 1))∧(
(cell h33 (Pt.add p16 0)=cell h25 (Pt.add p16 0))∧(
 app s30 s32 4 h33 fun s34 h35=>
(cell h35 (Pt.add p16 0)=cell h25 (Pt.add p16 0))∧(
 callA S zbu [.int .i64 n26,.sl s34] h35 fun cs37 h36=>
 stN p0 2 cs37 h36 fun h38=>
 ldA p0 2 h38 fun cs39=>
 K (.agg cs39) h38)))))))))))))
 else
 callI S .i64 zZ [.ptr x0,.int .i64 (6)] h2 fun n41 h40=>
 callI S .i64 zZ [.ptr x0,.int .i64 (17)] h40 fun n43 h42=>
 callA S YX [.ptr x0,.int .i64 (w64 ((1)+n41)),.int .i64 n43] h42 fun cs45 h44=>
 stN p0 2 cs45 h44 fun h46=>
 ldA p0 2 h46 fun cs47=>
 K (.agg cs47) h46
 else
 bif (n3==(1)) then
 callA S Wh [.ptr x0] h2 fun cs49 h48=>
 stN p0 2 cs49 h48 fun h50=>
 ldA p0 2 h50 fun cs51=>
 K (.agg cs51) h50
 else
 bif (n3==(2)) then
 newS 3 1 [.int .i64 (2),.int .i64 (3),.int .i64 (4)] h2 fun s52 h53=>
 callI S .i64 Zi [.ptr x0,.sl s52] h53 fun n55 h54=>
 callI S .i64 zZ [.ptr x0,.int .i64 (10)] h54 fun n57 h56=>
 callA S YX [.ptr x0,.int .i64 n55,.int .i64 n57] h56 fun cs59 h58=>
 newO [.int .i64 (0),.sl Sl.nil] h58 fun p60 h61=>
 stN p60 2 cs59 h61 fun h62=>
 isPt p60 (
 ldI .i64 (Pt.add p60 0) h62 fun n63=>
 callI S .i64 zZ [.ptr x0,.int .i64 n63] h62 fun n65 h64=>
 isPt p60 (
 ldI .i64 (Pt.add p60 0) h64 fun n66=>
(cell h62 (Pt.add p60 0)=cell h64 (Pt.add p60 0))∧(
 callI S .i64 zZ [.ptr x0,.int .i64 n66] h64 fun n68 h67=>
 vp 15 h67 fun h69=>
 isPt p60 (
 ldI .i64 (Pt.add p60 0) h69 fun n70=>
 isPt p60 (
 ldS (Pt.add p60 1) h69 fun s71=>
 vj 0 4 [] h69 (h67.length+2) fun s72 h73=>
(cell h73 (Pt.add p60 1)=cell h69 (Pt.add p60 1))∧(
(cell h73 (Pt.add p60 0)=cell h69 (Pt.add p60 0))∧(
 app s72 s71 4 h73 fun s74 h75=>
(cell h75 (Pt.add p60 0)=cell h69 (Pt.add p60 0))∧(
 lenA [.int .i64 n65,.int .i64 n68,.int .i64 n65,.int .i64 n68] 4 (
 vj 1 4 (spl [.int .i64 (0),.int .i64 (0),.int .i64 (0),.int .i64 (0)] 0 4 [.int .i64 n65,.int .i64 n68,.int .i64 n65,.int .i64 n68]) h75 (h67.length+11) fun s76 h77=>
(cell h75 (Pt.add p60 1)=cell h69 (Pt.add p60 1))∧(
(cell h77 (Pt.add p60 1)=cell h69 (Pt.add p60 1))∧(
(cell h77 (Pt.add p60 0)=cell h69 (Pt.add p60 0))∧(
 app s74 s76 4 h77 fun s78 h79=>
(cell h79 (Pt.add p60 0)=cell h69 (Pt.add p60 0))∧(
 callA S zbu [.int .i64 n70,.sl s78] h79 fun cs81 h80=>
 stN p0 2 cs81 h80 fun h82=>
 ldA p0 2 h82 fun cs83=>
 K (.agg cs83) h82)))))))))))))
 else
 callI S .i64 zZ [.ptr x0,.int .i64 (6)] h2 fun n85 h84=>
 callI S .i64 zZ [.ptr x0,.int .i64 (17)] h84 fun n87 h86=>
 callA S YX [.ptr x0,.int .i64 (w64 ((1)+n85)),.int .i64 n87] h86 fun cs89 h88=>
 stN p0 2 cs89 h88 fun h90=>
 ldA p0 2 h90 fun cs91=>
 K (.agg cs91) h90
theorem zaG (S:SatT) (K:KT) (x0:Pt) (h:H):cwp S tab zHK [] (za Tryz.f114) (kFun tab Tryz.f114.results.toList K) (fr0 Tryz.f114 [.ptr x0]) h=Ql S K x0 h:=by kernel_rfl
theorem zAf (x0:Pt) (h:H) (K:List AVal→H→Prop) (hm:Ql (Sat Tryz.prog) (fun v h'=>∃r,v = .agg r∧K r h') x0 h):callA (Sat Tryz.prog) zlU [.ptr x0] h K:=by
 have:=Sat.ex tok mixed zHK Tryz.func114 (c:=za Tryz.f114) (by kernel_rfl) (zd Tryz.func114 (c:=za Tryz.f114) (by kernel_rfl) (by decide)) ((zaG _ _ x0 h).mpr hm)
 obtain ⟨v,h2,h3,r,rfl,h4⟩:=this;exact ⟨r,h2,h3,h4⟩
def zbG:Nat→List Nat:=fun i=>bif i==0 then [0,1,7,8] else []
def zDT (S:SatT) (K:KT):Kont:=kSeq (cwp S tab zbG [] (sq Tryz.f162 2 3) (kFun tab (Tryz.f162).results.toList K)) (kFun tab (Tryz.f162).results.toList K)
def WC (s0_:Sl) (f1_:AVal) (i7 i8:Int):Frame:=(.sl s0_::f1_::uu 5 (.int .i64 i7 :: .int .i64 i8::uu 10 []))
def zwk (S:SatT) (K:KT):(XT)→XT:=fun X fr h=>cwp S tab zbG (zbG 0) (sq Tryz.f162 5 20) (kSeq (fun fr h=>X (mask (zbG 0) fr) h) (kBlk 0 (zDT S K))) fr h
def zwm (S:SatT) (K:KT) (s0_:Sl) (f1_:AVal) (i7 i8:Int) (h:H):Prop:=zs (zwk S K) (WC s0_ f1_ i7 i8) h
def zLk (S:SatT) (K:KT) (h:H):Prop:=
 K (.int .i64 (-1)) h
def zjO (S:SatT) (K:KT) (X0:XT) (s0_:Sl) (f1_:AVal) (i7 i8:Int) (h:H):Prop:=
 bif (decide (i8<i7)) then
 ixS s0_ 1 i8 fun p0=>
 ldI .i64 p0 h fun n1=>
 viaF f1_ [.int .i64 n1] fun g2 ys3=>
 callB S g2 ys3 h fun b5 h4=>
 bif b5 then
 K (.int .i64 i8) h4
 else
 X0 (WC s0_ f1_ i7 (w64 (i8+(1)))) h4
 else
 zLk S K h
theorem znR (S:SatT) (K:KT) (X0:XT) (s0_:Sl) (f1_:AVal) (i7 i8:Int) (h:H):zwk S K X0 (WC s0_ f1_ i7 i8) h=zjO S K X0 s0_ f1_ i7 i8 h:=by kernel_rfl
theorem znQ (S:SatT) (K:KT) (s0_:Sl) (f1_:AVal) (i7:Int) (I_:Int→H→Prop) (m_:Int→H→Nat)
  (hs:∀(X0:XT) (i8:Int) (h:H),I_ i8 h→(∀(i8':Int) (h':H),I_ i8' h'→m_ i8' h'<m_ i8 h→X0 (WC s0_ f1_ i7 i8') h')→zjO S K X0 s0_ f1_ i7 i8 h) (i8:Int) {h:H} (h0:I_ i8 h):zwm S K s0_ f1_ i7 i8 h:=
 zg (σ :=(Int)) (fun s_=>WC s0_ f1_ i7 (s_)) (fun s_ h=>I_ (s_) h) (fun s_ h=>m_ (s_) h)
  (fun X s_ h hi hx=>(znR S K X s0_ f1_ i7 (s_) h).mpr (hs X (s_) h hi fun i8' h' hi' hm'=>hx (i8') h' hi' hm')) (i8) h0
def WB (S:SatT) (K:KT) (x0:Sl) (x1:AVal) (h:H):Prop:=
 zwm S K x0 x1 (x0.len:Int) (0) h
theorem QG (S:SatT) (K:KT) (x0:Sl) (x1:AVal) (h:H):cwp S tab zbG [] (za Tryz.f162) (kFun tab Tryz.f162.results.toList K) (fr0 Tryz.f162 [.sl x0,x1]) h=WB S K x0 x1 h:=by kernel_rfl
theorem zwl (x0:Sl) (x1:AVal) (h:H) (K:Int→H→Prop) (hm:WB (Sat Tryz.prog) (fun v h'=>∃r,v = .int .i64 r∧K r h') x0 x1 h):callI (Sat Tryz.prog) .i64 zrx [.sl x0,x1] h K:=by
 have:=Sat.ex tok mixed zbG Tryz.func162 (c:=za Tryz.f162) (by kernel_rfl) (zd Tryz.func162 (c:=za Tryz.f162) (by kernel_rfl) (by decide)) ((QG _ _ x0 x1 h).mpr hm)
 obtain ⟨v,h2,h3,r,rfl,h4⟩:=this;exact ⟨r,h2,h3,h4⟩
def znF:Nat→List Nat:=fun i=>bif i==0 then [1,6,7,8] else []
def zJn (S:SatT) (K:KT):Kont:=kSeq (cwp S tab znF [] (sq Tryz.f74 2 3) (kFun tab (Tryz.f74).results.toList K)) (kFun tab (Tryz.f74).results.toList K)
def zbB (p1_:Pt) (s6_:Sl) (i7 i8:Int):Frame:=(U :: .ptr p1_::uu 4 (.sl s6_ :: .int .i64 i7 :: .int .i64 i8::uu 34 []))
def zGj (S:SatT) (K:KT):(XT)→XT:=fun X fr h=>cwp S tab znF (znF 0) (sq Tryz.f74 5 20) (kSeq (fun fr h=>X (mask (znF 0) fr) h) (kBlk 0 (zJn S K))) fr h
def zGk (S:SatT) (K:KT) (p1_:Pt) (s6_:Sl) (i7 i8:Int) (h:H):Prop:=zs (zGj S K) (zbB p1_ s6_ i7 i8) h
def zGl (S:SatT) (K:KT) (p1_:Pt) (h:H):Prop:=
 isPt p1_ (
 ldI .i64 (Pt.add p1_ 0) h fun n0=>
 callB S Wf [.int .i64 n0,.int .i64 (1),.int .i64 (6)] h fun b2 h1=>
 bif b2 then
 isPt p1_ (
 ldS (Pt.add p1_ 1) h1 fun s3=>
 K (.bool (decide ((s3.len:Int)≤(16)))) h1)
 else
 K (.bool false) h1)
def ztH (S:SatT) (K:KT) (X0:XT) (p1_:Pt) (s6_:Sl) (i7 i8:Int) (h:H):Prop:=
 bif (decide (i8<i7)) then
 ixS s6_ 4 i8 fun p0=>
 ldA p0 4 h fun cs1=>
 newO [.int .i64 (0),.int .i64 (0),.int .i64 (0),.int .i64 (0)] h fun p2 h3=>
 stN p2 4 cs1 h3 fun h4=>
 ldA p2 4 h4 fun cs5=>
 isPt p1_ (
 ldI .i64 (Pt.add p1_ 0) h4 fun n6=>
 callB S zrW [.agg cs5,.int .i64 n6] h4 fun b8 h7=>
 bif (!b8) then
 K (.bool false) h7
 else
 bif (decide (i8>(0))) then
 isPt p1_ (
 ldS (Pt.add p1_ 1) h7 fun s9=>
 ixS s9 4 (w64 (i8-(1))) fun p10=>
 ldA p10 4 h7 fun cs11=>
 ldA p2 4 h7 fun cs12=>
 callI S .i64 qV [.agg cs11,.agg cs12] h7 fun n14 h13=>
 bif (decide (n14≥(0))) then
 K (.bool false) h13
 else
 X0 (zbB p1_ s6_ i7 (w64 (i8+(1)))) h13)
 else
 X0 (zbB p1_ s6_ i7 (w64 (i8+(1)))) h7)
 else
 zGl S K p1_ h
theorem ztG (S:SatT) (K:KT) (X0:XT) (p1_:Pt) (s6_:Sl) (i7 i8:Int) (h:H):zGj S K X0 (zbB p1_ s6_ i7 i8) h=ztH S K X0 p1_ s6_ i7 i8 h:=by kernel_rfl
theorem ztF (S:SatT) (K:KT) (p1_:Pt) (s6_:Sl) (i7:Int) (I_:Int→H→Prop) (m_:Int→H→Nat)
  (hs:∀(X0:XT) (i8:Int) (h:H),I_ i8 h→(∀(i8':Int) (h':H),I_ i8' h'→m_ i8' h'<m_ i8 h→X0 (zbB p1_ s6_ i7 i8') h')→ztH S K X0 p1_ s6_ i7 i8 h) (i8:Int) {h:H} (h0:I_ i8 h):zGk S K p1_ s6_ i7 i8 h:=
 zg (σ :=(Int)) (fun s_=>zbB p1_ s6_ i7 (s_)) (fun s_ h=>I_ (s_) h) (fun s_ h=>m_ (s_) h)
  (fun X s_ h hi hx=>(ztG S K X p1_ s6_ i7 (s_) h).mpr (hs X (s_) h hi fun i8' h' hi' hm'=>hx (i8') h' hi' hm')) (i8) h0
def zdE (S:SatT) (K:KT) (x0:List AVal) (h:H):Prop:=
 newK 2 x0 h fun p0 h1=>
 isPt p0 (
 ldS (Pt.add p0 1) h1 fun s2=>
 zGk S K p0 s2 (s2.len:Int) (0) h1)
theorem zdD (S:SatT) (K:KT) (x0:List AVal) (h:H):cwp S tab znF [] (za Tryz.f74) (kFun tab Tryz.f74.results.toList K) (fr0 Tryz.f74 [.agg x0]) h=zdE S K x0 h:=by kernel_rfl
theorem zCG (x0:List AVal) (h:H) (K:Bool→H→Prop) (hm:zdE (Sat Tryz.prog) (fun v h'=>∃r,v = .bool r∧K r h') x0 h):callB (Sat Tryz.prog) zns [.agg x0] h K:=by
 have:=Sat.ex tok mixed znF Tryz.func74 (c:=za Tryz.f74) (by kernel_rfl) (zd Tryz.func74 (c:=za Tryz.f74) (by kernel_rfl) (by decide)) ((zdD _ _ x0 h).mpr hm)
 obtain ⟨v,h2,h3,r,rfl,h4⟩:=this;exact ⟨r,h2,h3,h4⟩
def znx:Nat→List Nat:=fun i=>bif i==0 then [3,13,14,15] else []
def zJg (S:SatT) (K:KT):Kont:=kSeq (cwp S tab znx [] (sq Tryz.f95 3 7) (kFun tab (Tryz.f95).results.toList K)) (kFun tab (Tryz.f95).results.toList K)
def zhv (i3:Int) (s13_:Sl) (i14 i15:Int):Frame:=(U::U::U :: .int .i64 i3::uu 9 (.sl s13_ :: .int .i64 i14 :: .int .i64 i15::uu 9 []))
def zEV (S:SatT) (K:KT):(XT)→XT:=fun X fr h=>cwp S tab znx (znx 0) (sq Tryz.f95 6 52) (kSeq (fun fr h=>X (mask (znx 0) fr) h) (kBlk 0 (zJg S K))) fr h
def zEW (S:SatT) (K:KT) (i3:Int) (s13_:Sl) (i14 i15:Int) (h:H):Prop:=zs (zEV S K) (zhv i3 s13_ i14 i15) h
def zEX (S:SatT) (K:KT) (i3:Int) (h:H):Prop:=
 K (.int .i64 i3) h
def zsk (S:SatT) (K:KT) (X0:XT) (i3:Int) (s13_:Sl) (i14 i15:Int) (h:H):Prop:=
 bif (decide (i15<i14)) then
 ixS s13_ 1 i15 fun p0=>
 ldI .i64 p0 h fun n1=>
 X0 (zhv (mnI (1000000000000001) (w64 (i3+n1))) s13_ i14 (w64 (i15+(1)))) h
 else
 zEX S K i3 h
theorem zsj (S:SatT) (K:KT) (X0:XT) (i3:Int) (s13_:Sl) (i14 i15:Int) (h:H):zEV S K X0 (zhv i3 s13_ i14 i15) h=zsk S K X0 i3 s13_ i14 i15 h:=by kernel_rfl
theorem zsi (S:SatT) (K:KT) (s13_:Sl) (i14:Int) (I_:Int→Int→H→Prop) (m_:Int→Int→H→Nat)
  (hs:∀(X0:XT) (i3 i15:Int) (h:H),I_ i3 i15 h→(∀(i3' i15':Int) (h':H),I_ i3' i15' h'→m_ i3' i15' h'<m_ i3 i15 h→X0 (zhv i3' s13_ i14 i15') h')→zsk S K X0 i3 s13_ i14 i15 h) (i3 i15:Int) {h:H} (h0:I_ i3 i15 h):zEW S K i3 s13_ i14 i15 h:=
 zg (σ :=(Int)×(Int)) (fun s_=>zhv (s_.1) s13_ i14 (s_.2)) (fun s_ h=>I_ (s_.1) (s_.2) h) (fun s_ h=>m_ (s_.1) (s_.2) h)
  (fun X s_ h hi hx=>(zsj S K X (s_.1) s13_ i14 (s_.2) h).mpr (hs X (s_.1) (s_.2) h hi fun i3' i15' h' hi' hm'=>hx (i3',i15') h' hi' hm')) (i3,i15) h0
def zcP (S:SatT) (K:KT) (x0:Pt) (h:H):Prop:=
 nilC (.ptr x0) (
 isPt x0 (
 ldS (Pt.add x0 5) h fun s0=>
 callI S .i64 qU [.ptr x0] h fun n2 h1=>
(cell h1 (Pt.add x0 5)=cell h (Pt.add x0 5))∧(
 ixS s0 1 n2 fun p3=>
 ldS p3 h1 fun s4=>
 zEW S K (0) s4 (s4.len:Int) (0) h1)))
theorem zcO (S:SatT) (K:KT) (x0:Pt) (h:H):cwp S tab znx [] (za Tryz.f95) (kFun tab Tryz.f95.results.toList K) (fr0 Tryz.f95 [.ptr x0]) h=zcP S K x0 h:=by kernel_rfl
theorem zCk (x0:Pt) (h:H) (K:Int→H→Prop) (hm:zcP (Sat Tryz.prog) (fun v h'=>∃r,v = .int .i64 r∧K r h') x0 h):callI (Sat Tryz.prog) .i64 zBM [.ptr x0] h K:=by
 have:=Sat.ex tok mixed znx Tryz.func95 (c:=za Tryz.f95) (by kernel_rfl) (zd Tryz.func95 (c:=za Tryz.f95) (by kernel_rfl) (by decide)) ((zcO _ _ x0 h).mpr hm)
 obtain ⟨v,h2,h3,r,rfl,h4⟩:=this;exact ⟨r,h2,h3,h4⟩
def znJ:Nat→List Nat:=fun i=>bif i==0 then [1,4] else []
def zJr (S:SatT) (K:KT):Kont:=kSeq (cwp S tab znJ [] (sq Tryz.f43 4 15) (kFun tab (Tryz.f43).results.toList K)) (kFun tab (Tryz.f43).results.toList K)
def zhN (p1_:Pt) (i4:Int):Frame:=(U :: .ptr p1_::U::U :: .int .i64 i4::uu 23 [])
def zGH (S:SatT) (K:KT):(XT)→XT:=fun X fr h=>cwp S tab znJ (znJ 0) (sq Tryz.f43 6 56) (kSeq (fun fr h=>X (mask (znJ 0) fr) h) (kBlk 0 (zJr S K))) fr h
def zGI (S:SatT) (K:KT) (p1_:Pt) (i4:Int) (h:H):Prop:=zs (zGH S K) (zhN p1_ i4) h
def zuk (S:SatT) (K:KT) (i4:Int) (h:H):Prop:=
 K (.tuple [.int .i64 i4,.int .i64 (0)]) h
def zuj (S:SatT) (K:KT) (X0:XT) (p1_:Pt) (i4:Int) (h:H):Prop:=
 bif (decide (i4<(5))) then
 ldA p1_ 2 h fun cs0=>
 callP S zrr [.agg cs0,.int .i64 (w64 (i4+(1))),.int .i64 (w64 (i4+(1)))] h fun p2 h1=>
 nilC (.ptr p2) (
 isPt p2 (
 ldS (Pt.add p2 6) h1 fun s3=>
 ixS s3 1 (0) fun p4=>
 ldS p4 h1 fun s5=>
 ixS s5 1 (0) fun p6=>
 ldB p6 h1 fun b7=>
 bif b7 then
 X0 (zhN p1_ (w64 (i4+(1)))) h1
 else
 zuk S K i4 h1))
 else
 zuk S K i4 h
theorem zui (S:SatT) (K:KT) (X0:XT) (p1_:Pt) (i4:Int) (h:H):zGH S K X0 (zhN p1_ i4) h=zuj S K X0 p1_ i4 h:=by kernel_rfl
theorem zuh (S:SatT) (K:KT) (p1_:Pt) (I_:Int→H→Prop) (m_:Int→H→Nat)
  (hs:∀(X0:XT) (i4:Int) (h:H),I_ i4 h→(∀(i4':Int) (h':H),I_ i4' h'→m_ i4' h'<m_ i4 h→X0 (zhN p1_ i4') h')→zuj S K X0 p1_ i4 h) (i4:Int) {h:H} (h0:I_ i4 h):zGI S K p1_ i4 h:=
 zg (σ :=(Int)) (fun s_=>zhN p1_ (s_)) (fun s_ h=>I_ (s_) h) (fun s_ h=>m_ (s_) h)
  (fun X s_ h hi hx=>(zui S K X p1_ (s_) h).mpr (hs X (s_) h hi fun i4' h' hi' hm'=>hx (i4') h' hi' hm')) (i4) h0
def zea (S:SatT) (K:KT) (x0:List AVal) (h:H):Prop:=
 newK 2 x0 h fun p0 h1=>
 ldA p0 2 h1 fun cs2=>
 callB S zns [.agg cs2] h1 fun b4 h3=>
 bif (!b4) then
 K (.tuple [.int .i64 (0),.int .i64 (1)]) h3
 else
 zGI S K p0 (0) h3
theorem zdZ (S:SatT) (K:KT) (x0:List AVal) (h:H):cwp S tab znJ [] (za Tryz.f43) (kFun tab Tryz.f43.results.toList K) (fr0 Tryz.f43 [.agg x0]) h=zea S K x0 h:=by kernel_rfl
theorem zCT (x0:List AVal) (h:H) (K:KT) (hm:zea (Sat Tryz.prog) (fun v h'=>K v h') x0 h):callV (Sat Tryz.prog) zIO [.agg x0] h K:=by
 have:=Sat.ex tok mixed znJ Tryz.func43 (c:=za Tryz.f43) (by kernel_rfl) (zd Tryz.func43 (c:=za Tryz.f43) (by kernel_rfl) (by decide)) ((zdZ _ _ x0 h).mpr hm)
 exact this
def zbU:Nat→List Nat:=fun i=>bif i==0 then [2,3,5] else []
def zEn (S:SatT) (K:KT):Kont:=kSeq (cwp S tab zbU [] (sq Tryz.f118 2 3) (kFun tab (Tryz.f118).results.toList K)) (kFun tab (Tryz.f118).results.toList K)
def Qg (p2_ p3_:Pt) (i5:Int):Frame:=(U::U :: .ptr p2_ :: .ptr p3_::U :: .int .i64 i5::uu 18 [])
def zzV (S:SatT) (K:KT):(XT)→XT:=fun X fr h=>cwp S tab zbU (zbU 0) (sq Tryz.f118 5 20) (kSeq (fun fr h=>X (mask (zbU 0) fr) h) (kBlk 0 (zEn S K))) fr h
def zzX (S:SatT) (K:KT) (p2_ p3_:Pt) (i5:Int) (h:H):Prop:=zs (zzV S K) (Qg p2_ p3_ i5) h
def zzY (S:SatT) (K:KT) (h:H):Prop:=
 K (.bool false) h
def zkS (S:SatT) (K:KT) (X0:XT) (p2_ p3_:Pt) (i5:Int) (h:H):Prop:=
 bif (decide (i5<(4))) then
 ixA p2_ 4 1 i5 fun p0=>
 ldI .i64 p0 h fun n1=>
 ixA p3_ 4 1 i5 fun p2=>
 ldI .i64 p2 h fun n3=>
 bif (n1 != n3) then
 ixA p2_ 4 1 i5 fun p4=>
 ldI .i64 p4 h fun n5=>
 ixA p3_ 4 1 i5 fun p6=>
 ldI .i64 p6 h fun n7=>
 K (.bool (decide (n5<n7))) h
 else
 X0 (Qg p2_ p3_ (w64 (i5+(1)))) h
 else
 zzY S K h
theorem zpK (S:SatT) (K:KT) (X0:XT) (p2_ p3_:Pt) (i5:Int) (h:H):zzV S K X0 (Qg p2_ p3_ i5) h=zkS S K X0 p2_ p3_ i5 h:=by kernel_rfl
theorem zpJ (S:SatT) (K:KT) (p2_ p3_:Pt) (I_:Int→H→Prop) (m_:Int→H→Nat)
  (hs:∀(X0:XT) (i5:Int) (h:H),I_ i5 h→(∀(i5':Int) (h':H),I_ i5' h'→m_ i5' h'<m_ i5 h→X0 (Qg p2_ p3_ i5') h')→zkS S K X0 p2_ p3_ i5 h) (i5:Int) {h:H} (h0:I_ i5 h):zzX S K p2_ p3_ i5 h:=
 zg (σ :=(Int)) (fun s_=>Qg p2_ p3_ (s_)) (fun s_ h=>I_ (s_) h) (fun s_ h=>m_ (s_) h)
  (fun X s_ h hi hx=>(zpK S K X p2_ p3_ (s_) h).mpr (hs X (s_) h hi fun i5' h' hi' hm'=>hx (i5') h' hi' hm')) (i5) h0
def Qf (S:SatT) (K:KT) (x0 x1:List AVal) (h:H):Prop:=
 newK 4 x0 h fun p0 h1=>
 newK 4 x1 h1 fun p2 h3=>
 zzX S K p0 p2 (0) h3
theorem zaC (S:SatT) (K:KT) (x0 x1:List AVal) (h:H):cwp S tab zbU [] (za Tryz.f118) (kFun tab Tryz.f118.results.toList K) (fr0 Tryz.f118 [.agg x0,.agg x1]) h=Qf S K x0 x1 h:=by kernel_rfl
theorem zzW (x0 x1:List AVal) (h:H) (K:Bool→H→Prop) (hm:Qf (Sat Tryz.prog) (fun v h'=>∃r,v = .bool r∧K r h') x0 x1 h):callB (Sat Tryz.prog) zlT [.agg x0,.agg x1] h K:=by
 have:=Sat.ex tok mixed zbU Tryz.func118 (c:=za Tryz.f118) (by kernel_rfl) (zd Tryz.func118 (c:=za Tryz.f118) (by kernel_rfl) (by decide)) ((zaC _ _ x0 x1 h).mpr hm)
 obtain ⟨v,h2,h3,r,rfl,h4⟩:=this;exact ⟨r,h2,h3,h4⟩
def zbV:Nat→List Nat:=fun i=>bif i==0 then [0,3,5] else []
def zEo (S:SatT) (K:KT):Kont:=kSeq (cwp S tab zbV [] (sq Tryz.f117 2 3) (kFun tab (Tryz.f117).results.toList K)) (kFun tab (Tryz.f117).results.toList K)
def Qi (i0:Int) (p3_:Pt) (i5:Int):Frame:=(.int .i64 i0::U::U :: .ptr p3_::U :: .int .i64 i5::uu 11 [])
def zzZ (S:SatT) (K:KT):(XT)→XT:=fun X fr h=>cwp S tab zbV (zbV 0) (sq Tryz.f117 5 20) (kSeq (fun fr h=>X (mask (zbV 0) fr) h) (kBlk 0 (zEo S K))) fr h
def zAb (S:SatT) (K:KT) (i0:Int) (p3_:Pt) (i5:Int) (h:H):Prop:=zs (zzZ S K) (Qi i0 p3_ i5) h
def zAc (S:SatT) (K:KT) (h:H):Prop:=
 K (.bool true) h
def zkT (S:SatT) (K:KT) (X0:XT) (i0:Int) (p3_:Pt) (i5:Int) (h:H):Prop:=
 bif (decide (i5<(4))) then
 ixA p3_ 4 1 i5 fun p0=>
 ldI .i64 p0 h fun n1=>
 callB S We [.int .i64 n1,.int .i64 (0),.int .i64 (w64 (i0-(1)))] h fun b3 h2=>
 bif (!b3) then
 K (.bool false) h2
 else
 X0 (Qi i0 p3_ (w64 (i5+(1)))) h2
 else
 zAc S K h
theorem zpM (S:SatT) (K:KT) (X0:XT) (i0:Int) (p3_:Pt) (i5:Int) (h:H):zzZ S K X0 (Qi i0 p3_ i5) h=zkT S K X0 i0 p3_ i5 h:=by kernel_rfl
theorem zpL (S:SatT) (K:KT) (i0:Int) (p3_:Pt) (I_:Int→H→Prop) (m_:Int→H→Nat)
  (hs:∀(X0:XT) (i5:Int) (h:H),I_ i5 h→(∀(i5':Int) (h':H),I_ i5' h'→m_ i5' h'<m_ i5 h→X0 (Qi i0 p3_ i5') h')→zkT S K X0 i0 p3_ i5 h) (i5:Int) {h:H} (h0:I_ i5 h):zAb S K i0 p3_ i5 h:=
 zg (σ :=(Int)) (fun s_=>Qi i0 p3_ (s_)) (fun s_ h=>I_ (s_) h) (fun s_ h=>m_ (s_) h)
  (fun X s_ h hi hx=>(zpM S K X i0 p3_ (s_) h).mpr (hs X (s_) h hi fun i5' h' hi' hm'=>hx (i5') h' hi' hm')) (i5) h0
def Qh (S:SatT) (K:KT) (x0:Int) (x1:List AVal) (h:H):Prop:=
 newK 4 x1 h fun p0 h1=>
 zAb S K x0 p0 (0) h1
theorem zaD (S:SatT) (K:KT) (x0:Int) (x1:List AVal) (h:H):cwp S tab zbV [] (za Tryz.f117) (kFun tab Tryz.f117.results.toList K) (fr0 Tryz.f117 [.int .i64 x0,.agg x1]) h=Qh S K x0 x1 h:=by kernel_rfl
theorem zAa (x0:Int) (x1:List AVal) (h:H) (K:Bool→H→Prop) (hm:Qh (Sat Tryz.prog) (fun v h'=>∃r,v = .bool r∧K r h') x0 x1 h):callB (Sat Tryz.prog) zrV [.int .i64 x0,.agg x1] h K:=by
 have:=Sat.ex tok mixed zbV Tryz.func117 (c:=za Tryz.f117) (by kernel_rfl) (zd Tryz.func117 (c:=za Tryz.f117) (by kernel_rfl) (by decide)) ((zaD _ _ x0 x1 h).mpr hm)
 obtain ⟨v,h2,h3,r,rfl,h4⟩:=this;exact ⟨r,h2,h3,h4⟩
def zHF:Nat→List Nat:=fun i=>[]
def Vu (S:SatT) (K:KT) (x0:List AVal) (x1 x2:Sl) (x3 x4 x5:Int) (h:H):Prop:=
 newK 2 x0 h fun p0 h1=>
 ixS x1 1 (0) fun p2=>
 ldS p2 h1 fun s3=>
 isPt p0 (
 ldI .i64 (Pt.add p0 0) h1 fun n4=>
 isPt p0 (
 ldS (Pt.add p0 1) h1 fun s5=>
 ixS s5 4 x5 fun p6=>
 ldA p6 4 h1 fun cs7=>
 newO [.int .i64 (0),.int .i64 (0),.int .i64 (0),.int .i64 (0)] h1 fun p8 h9=>
(range h9 p6.o p6.n p6.off 4=range h1 p6.o p6.n p6.off 4)∧(
(cell h9 (Pt.add p0 1)=cell h1 (Pt.add p0 1))∧(
(cell h9 (Pt.add p0 0)=cell h1 (Pt.add p0 0))∧(
(cell h9 p2=cell h1 p2)∧(
 stN p8 4 cs7 h9 fun h10=>
 nz (s3.len:Int) (
 nz (s3.len:Int) (
 ldA p0 2 h10 fun cs11=>
 callB S zlP [.agg cs11,.sl x1,.sl x2,.int .i64 (w64 (Int.tdiv x4 (s3.len:Int))),.int .i64 (Int.tmod x4 (s3.len:Int)),.int .i64 x5] h10 fun b13 h12=>
 bif b13 then
 bif ((w64 (Int.tdiv x4 (s3.len:Int)))==(0)) then
 bif ((Int.tmod x4 (s3.len:Int))==(0)) then
 K (.bool true) h12
 else
 callI S .i64 zbs [.int .i64 x3,.int .i64 n4,.int .i64 (s3.len:Int)] h12 fun n15 h14=>
 ixA p8 4 1 (0) fun p16=>
 ldI .i64 p16 h14 fun n17=>
(cell h12 p16=cell h14 p16)∧(
 K (.bool (n15==n17)) h14)
 else
 callI S .i64 zbs [.int .i64 x3,.int .i64 n4,.int .i64 (Int.tmod x4 (s3.len:Int))] h12 fun n19 h18=>
 ixA p8 4 1 (1) fun p20=>
 ldI .i64 p20 h18 fun n21=>
(cell h12 p20=cell h18 p20)∧(
 bif (n19==n21) then
 bif ((Int.tmod x4 (s3.len:Int))==(0)) then
 K (.bool true) h18
 else
 callI S .i64 zbs [.int .i64 x3,.int .i64 n4,.int .i64 (s3.len:Int)] h18 fun n23 h22=>
 ixA p8 4 1 (0) fun p24=>
 ldI .i64 p24 h22 fun n25=>
(cell h18 p24=cell h22 p24)∧(
 K (.bool (n23==n25)) h22)
 else
 K (.bool false) h18)
 else
 K (.bool false) h12))))))))
theorem zai (S:SatT) (K:KT) (x0:List AVal) (x1 x2:Sl) (x3 x4 x5:Int) (h:H):cwp S tab zHF [] (za Tryz.f131) (kFun tab Tryz.f131.results.toList K) (fr0 Tryz.f131 [.agg x0,.sl x1,.sl x2,.int .i64 x3,.int .i64 x4,.int .i64 x5]) h=Vu S K x0 x1 x2 x3 x4 x5 h:=by kernel_rfl
theorem zyt (x0:List AVal) (x1 x2:Sl) (x3 x4 x5:Int) (h:H) (K:Bool→H→Prop) (hm:Vu (Sat Tryz.prog) (fun v h'=>∃r,v = .bool r∧K r h') x0 x1 x2 x3 x4 x5 h):callB (Sat Tryz.prog) zrQ [.agg x0,.sl x1,.sl x2,.int .i64 x3,.int .i64 x4,.int .i64 x5] h K:=by
 have:=Sat.ex tok mixed zHF Tryz.func131 (c:=za Tryz.f131) (by kernel_rfl) (zd Tryz.func131 (c:=za Tryz.f131) (by kernel_rfl) (by decide)) ((zai _ _ x0 x1 x2 x3 x4 x5 h).mpr hm)
 obtain ⟨v,h2,h3,r,rfl,h4⟩:=this;exact ⟨r,h2,h3,h4⟩
def zHl:Nat→List Nat:=fun i=>[]
def Ws (S:SatT) (K:KT) (x0 x1:Int) (h:H):Prop:=
 nn (32) (
 nn (32) (
 nn (32) (
 nn (32) (
 nn (32) (
 K (.tuple [.int .u64 (IntKind.wrap .u64 ((IntKind.wrap .u64 ((IntKind.wrap .u64 ((shrI .u64 x0 (32))*(shrI .u64 x1 (32))))+(shrI .u64 (IntKind.wrap .u64 ((IntKind.wrap .u64 ((shrI .u64 x0 (32))*(yj .and .u64 x1 (4294967295))))+(shrI .u64 (IntKind.wrap .u64 ((yj .and .u64 x0 (4294967295))*(yj .and .u64 x1 (4294967295)))) (32)))) (32))))+(shrI .u64 (IntKind.wrap .u64 ((yj .and .u64 (IntKind.wrap .u64 ((IntKind.wrap .u64 ((shrI .u64 x0 (32))*(yj .and .u64 x1 (4294967295))))+(shrI .u64 (IntKind.wrap .u64 ((yj .and .u64 x0 (4294967295))*(yj .and .u64 x1 (4294967295)))) (32)))) (4294967295))+(IntKind.wrap .u64 ((yj .and .u64 x0 (4294967295))*(shrI .u64 x1 (32)))))) (32)))),.int .u64 (IntKind.wrap .u64 (x0*x1))]) h)))))
theorem Qy (S:SatT) (K:KT) (x0 x1:Int) (h:H):cwp S tab zHl [] (za Tryz.f173) (kFun tab Tryz.f173.results.toList K) (fr0 Tryz.f173 [.int .u64 x0,.int .u64 x1]) h=Ws S K x0 x1 h:=by kernel_rfl
theorem zvY (x0 x1:Int) (h:H) (K:KT) (hm:Ws (Sat Tryz.prog) (fun v h'=>K v h') x0 x1 h):callV (Sat Tryz.prog) zlL [.int .u64 x0,.int .u64 x1] h K:=by
 have:=Sat.ex tok mixed zHl Tryz.func173 (c:=za Tryz.f173) (by kernel_rfl) (zd Tryz.func173 (c:=za Tryz.f173) (by kernel_rfl) (by decide)) ((Qy _ _ x0 x1 h).mpr hm)
 exact this
def zMD:Nat→List Nat:=fun i=>[]
def zek (S:SatT) (K:KT) (x0:List AVal) (x1:Int) (h:H):Prop:=
 newK 2 x0 h fun p0 h1=>
 newO [.int .i64 x1] h1 fun p2 h3=>
 ldA p0 2 h3 fun cs4=>
 callI S .i64 zBU [.agg cs4,.func 99 [.ptr p2]] h3 fun n6 h5=>
 bif (n6 != (0)) then
 K (.tuple [.int .i64 (0),.int .i64 n6]) h5
 else
 ldA p0 2 h5 fun cs7=>
 ldI .i64 p2 h5 fun n8=>
 ldI .i64 p2 h5 fun n9=>
 callP S zrr [.agg cs7,.int .i64 n8,.int .i64 n9] h5 fun p11 h10=>
 callI S .i64 zBM [.ptr p11] h10 fun n13 h12=>
 callV S zBT [.int .i64 n13] h12 fun v15 h14=>
 viaT v15 fun vs16=>
 exI .i64 vs16 0 fun n17=>
 viaT v15 fun vs18=>
 exI .i64 vs18 1 fun n19=>
 K (.tuple [.int .i64 n17,.int .i64 n19]) h14
theorem zej (S:SatT) (K:KT) (x0:List AVal) (x1:Int) (h:H):cwp S tab zMD [] (za Tryz.f38) (kFun tab Tryz.f38.results.toList K) (fr0 Tryz.f38 [.agg x0,.int .i64 x1]) h=zek S K x0 x1 h:=by kernel_rfl
theorem zCY (x0:List AVal) (x1:Int) (h:H) (K:KT) (hm:zek (Sat Tryz.prog) (fun v h'=>K v h') x0 x1 h):callV (Sat Tryz.prog) zrs [.agg x0,.int .i64 x1] h K:=by
 have:=Sat.ex tok mixed zMD Tryz.func38 (c:=za Tryz.f38) (by kernel_rfl) (zd Tryz.func38 (c:=za Tryz.f38) (by kernel_rfl) (by decide)) ((zej _ _ x0 x1 h).mpr hm)
 exact this
def zMi:Nat→List Nat:=fun i=>[]
def zcD (S:SatT) (K:KT) (x0:List AVal) (x1 x2:Int) (h:H):Prop:=
 newK 2 x0 h fun p0 h1=>
 ldA p0 2 h1 fun cs2=>
 callS S zhk [.int .i64 x1,.int .i64 x2] h1 fun s4 h3=>
(range h3 p0.o p0.n p0.off 2=range h1 p0.o p0.n p0.off 2)∧(
 callS S zhj [] h3 fun s6 h5=>
(range h5 p0.o p0.n p0.off 2=range h1 p0.o p0.n p0.off 2)∧(
 callS S zlS [.agg cs2,.sl s4,.sl s6] h5 fun s8 h7=>
 ixS s8 1 (0) fun p9=>
 ldS p9 h7 fun s10=>
 ixS s10 1 (0) fun p11=>
 ldI .i64 p11 h7 fun n12=>
 K (.int .i64 n12) h7))
theorem zcC (S:SatT) (K:KT) (x0:List AVal) (x1 x2:Int) (h:H):cwp S tab zMi [] (za Tryz.f101) (kFun tab Tryz.f101.results.toList K) (fr0 Tryz.f101 [.agg x0,.int .i64 x1,.int .i64 x2]) h=zcD S K x0 x1 x2 h:=by kernel_rfl
theorem zCe (x0:List AVal) (x1 x2:Int) (h:H) (K:Int→H→Prop) (hm:zcD (Sat Tryz.prog) (fun v h'=>∃r,v = .int .i64 r∧K r h') x0 x1 x2 h):callI (Sat Tryz.prog) .i64 zrq [.agg x0,.int .i64 x1,.int .i64 x2] h K:=by
 have:=Sat.ex tok mixed zMi Tryz.func101 (c:=za Tryz.f101) (by kernel_rfl) (zd Tryz.func101 (c:=za Tryz.f101) (by kernel_rfl) (by decide)) ((zcC _ _ x0 x1 x2 h).mpr hm)
 obtain ⟨v,h2,h3,r,rfl,h4⟩:=this;exact ⟨r,h2,h3,h4⟩
def zHu:Nat→List Nat:=fun i=>[]
def WW (S:SatT) (K:KT) (x0:Int) (x1 x2 x3:Pt) (h:H):Prop:=
 ldI .i64 x1 h fun n0=>
 ldP x2 h fun p1=>
 nilC (.ptr p1) (
 isPt p1 (
 ldS (Pt.add p1 4) h fun s2=>
 ixS s2 1 x0 fun p3=>
 ldI .i64 p3 h fun n4=>
 nz n4 (
 ldI .i64 x3 h fun n5=>
 nz n5 (
 K (.int .i64 (Int.tmod (w64 (Int.tdiv n0 n4)) n5)) h))))
theorem QW (S:SatT) (K:KT) (x0:Int) (x1 x2 x3:Pt) (h:H):cwp S tab zHu [] (za Tryz.f153) (kFun tab Tryz.f153.results.toList K) (fr0 Tryz.f153 [.int .i64 x0,.ptr x1,.ptr x2,.ptr x3]) h=WW S K x0 x1 x2 x3 h:=by kernel_rfl
theorem zxn (x0:Int) (x1 x2 x3:Pt) (h:H) (K:Int→H→Prop) (hm:WW (Sat Tryz.prog) (fun v h'=>∃r,v = .int .i64 r∧K r h') x0 x1 x2 x3 h):callI (Sat Tryz.prog) .i64 wJ [.int .i64 x0,.ptr x1,.ptr x2,.ptr x3] h K:=by
 have:=Sat.ex tok mixed zHu Tryz.func153 (c:=za Tryz.f153) (by kernel_rfl) (zd Tryz.func153 (c:=za Tryz.f153) (by kernel_rfl) (by decide)) ((QW _ _ x0 x1 x2 x3 h).mpr hm)
 obtain ⟨v,h2,h3,r,rfl,h4⟩:=this;exact ⟨r,h2,h3,h4⟩
def zME:Nat→List Nat:=fun i=>[]
def zem (S:SatT) (K:KT) (x0:Sl) (h:H):Prop:=
 newO [.int .i64 (0),.sl Sl.nil] h fun p0 h1=>
 callA S zBK [.sl x0] h1 fun cs3 h2=>
 callP S zjn [.sl x0] h2 fun p5 h4=>
 newS 8 1 [.int .i64 (1),.int .i64 (2),.int .i64 (2),.int .i64 (3),.int .i64 (3),.int .i64 (4),.int .i64 (0),.int .i64 (5)] h4 fun s6 h7=>
 callI S .i64 Zi [.ptr p5,.sl s6] h7 fun n9 h8=>
 stN p0 2 cs3 h8 fun h10=>
 ldA p0 2 h10 fun cs11=>
 K (.tuple [.agg cs11,.int .i64 n9]) h10
theorem zel (S:SatT) (K:KT) (x0:Sl) (h:H):cwp S tab zME [] (za Tryz.f37) (kFun tab Tryz.f37.results.toList K) (fr0 Tryz.f37 [.sl x0]) h=zem S K x0 h:=by kernel_rfl
theorem zCZ (x0:Sl) (h:H) (K:KT) (hm:zem (Sat Tryz.prog) (fun v h'=>K v h') x0 h):callV (Sat Tryz.prog) zIS [.sl x0] h K:=by
 have:=Sat.ex tok mixed zME Tryz.func37 (c:=za Tryz.f37) (by kernel_rfl) (zd Tryz.func37 (c:=za Tryz.f37) (by kernel_rfl) (by decide)) ((zel _ _ x0 h).mpr hm)
 exact this
def zHR:Nat→List Nat:=fun i=>[]
def Qt (S:SatT) (K:KT) (x0:List AVal) (h:H):Prop:=
 newK 4 x0 h fun p0 h1=>
 newO [.int .i64 (0),.int .i64 (0),.int .i64 (0),.int .i64 (0)] h1 fun p2 h3=>
 ldA p0 4 h3 fun cs4=>
 callA S zBR [.agg cs4,.int .i64 (3),.int .i64 (0),.int .i64 (1),.int .i64 (2)] h3 fun cs6 h5=>
 stN p2 4 cs6 h5 fun h7=>
 ldA p2 4 h7 fun cs8=>
 K (.agg cs8) h7
theorem zaO (S:SatT) (K:KT) (x0:List AVal) (h:H):cwp S tab zHR [] (za Tryz.f102) (kFun tab Tryz.f102.results.toList K) (fr0 Tryz.f102 [.agg x0]) h=Qt S K x0 h:=by kernel_rfl
theorem zAp (x0:List AVal) (h:H) (K:List AVal→H→Prop) (hm:Qt (Sat Tryz.prog) (fun v h'=>∃r,v = .agg r∧K r h') x0 h):callA (Sat Tryz.prog) zsb [.agg x0] h K:=by
 have:=Sat.ex tok mixed zHR Tryz.func102 (c:=za Tryz.f102) (by kernel_rfl) (zd Tryz.func102 (c:=za Tryz.f102) (by kernel_rfl) (by decide)) ((zaO _ _ x0 h).mpr hm)
 obtain ⟨v,h2,h3,r,rfl,h4⟩:=this;exact ⟨r,h2,h3,h4⟩
def zHs:Nat→List Nat:=fun i=>[]
def WK (S:SatT) (K:KT) (x0 x1:AVal) (h:H):Prop:=
 callS S zrv [x0] h fun s1 h0=>
 callV S zhi [.sl s1,x1] h0 fun v3 h2=>
 K (.sl s1) h2
theorem QL (S:SatT) (K:KT) (x0 x1:AVal) (h:H):cwp S tab zHs [] (za Tryz.f157) (kFun tab Tryz.f157.results.toList K) (fr0 Tryz.f157 [x0,x1]) h=WK S K x0 x1 h:=by kernel_rfl
theorem zwG (x0 x1:AVal) (h:H) (K:Sl→H→Prop) (hm:WK (Sat Tryz.prog) (fun v h'=>∃r,v = .sl r∧K r h') x0 x1 h):callS (Sat Tryz.prog) zrC [x0,x1] h K:=by
 have:=Sat.ex tok mixed zHs Tryz.func157 (c:=za Tryz.f157) (by kernel_rfl) (zd Tryz.func157 (c:=za Tryz.f157) (by kernel_rfl) (by decide)) ((QL _ _ x0 x1 h).mpr hm)
 obtain ⟨v,h2,h3,r,rfl,h4⟩:=this;exact ⟨r,h2,h3,h4⟩
def zHO:Nat→List Nat:=fun i=>[]
def Qr (S:SatT) (K:KT) (x0:List AVal) (x1:Int) (h:H):Prop:=
 newK 2 x0 h fun p0 h1=>
 isPt p0 (
 ldS (Pt.add p0 1) h1 fun s2=>
 callB S Wf [.int .i64 x1,.int .i64 (0),.int .i64 (w64 ((s2.len:Int)-(1)))] h1 fun b4 h3=>
 K (.bool b4) h3)
theorem zaL (S:SatT) (K:KT) (x0:List AVal) (x1:Int) (h:H):cwp S tab zHO [] (za Tryz.f108) (kFun tab Tryz.f108.results.toList K) (fr0 Tryz.f108 [.agg x0,.int .i64 x1]) h=Qr S K x0 x1 h:=by kernel_rfl
theorem zAn (x0:List AVal) (x1:Int) (h:H) (K:Bool→H→Prop) (hm:Qr (Sat Tryz.prog) (fun v h'=>∃r,v = .bool r∧K r h') x0 x1 h):callB (Sat Tryz.prog) zrZ [.agg x0,.int .i64 x1] h K:=by
 have:=Sat.ex tok mixed zHO Tryz.func108 (c:=za Tryz.f108) (by kernel_rfl) (zd Tryz.func108 (c:=za Tryz.f108) (by kernel_rfl) (by decide)) ((zaL _ _ x0 x1 h).mpr hm)
 obtain ⟨v,h2,h3,r,rfl,h4⟩:=this;exact ⟨r,h2,h3,h4⟩
def zHt:Nat→List Nat:=fun i=>[]
def WN (S:SatT) (K:KT) (x0 x1 x2:Int) (h:H):Prop:=
 callI S .i64 zcx [.int .i64 x1,.int .i64 x2] h fun n1 h0=>
 nz n1 (
 nz x1 (
 K (.int .i64 (Int.tmod (w64 (Int.tdiv x0 n1)) x1)) h0))
theorem QN (S:SatT) (K:KT) (x0 x1 x2:Int) (h:H):cwp S tab zHt [] (za Tryz.f155) (kFun tab Tryz.f155.results.toList K) (fr0 Tryz.f155 [.int .i64 x0,.int .i64 x1,.int .i64 x2]) h=WN S K x0 x1 x2 h:=by kernel_rfl
theorem zwK (x0 x1 x2:Int) (h:H) (K:Int→H→Prop) (hm:WN (Sat Tryz.prog) (fun v h'=>∃r,v = .int .i64 r∧K r h') x0 x1 x2 h):callI (Sat Tryz.prog) .i64 zbs [.int .i64 x0,.int .i64 x1,.int .i64 x2] h K:=by
 have:=Sat.ex tok mixed zHt Tryz.func155 (c:=za Tryz.f155) (by kernel_rfl) (zd Tryz.func155 (c:=za Tryz.f155) (by kernel_rfl) (by decide)) ((QN _ _ x0 x1 x2 h).mpr hm)
 obtain ⟨v,h2,h3,r,rfl,h4⟩:=this;exact ⟨r,h2,h3,h4⟩
def zHJ:Nat→List Nat:=fun i=>[]
def Qk (S:SatT) (K:KT) (x0:List AVal) (x1:Int) (h:H):Prop:=
 newK 4 x0 h fun p0 h1=>
 newO [.int .i64 x1] h1 fun p2 h3=>
 cutA p0 4 1 (0) ((4:Nat):Int) fun s4=>
 callB S zlQ [.sl s4,.func 147 [.ptr p2]] h3 fun b6 h5=>
 K (.bool (!b6)) h5
theorem zaF (S:SatT) (K:KT) (x0:List AVal) (x1:Int) (h:H):cwp S tab zHJ [] (za Tryz.f115) (kFun tab Tryz.f115.results.toList K) (fr0 Tryz.f115 [.agg x0,.int .i64 x1]) h=Qk S K x0 x1 h:=by kernel_rfl
theorem zAe (x0:List AVal) (x1:Int) (h:H) (K:Bool→H→Prop) (hm:Qk (Sat Tryz.prog) (fun v h'=>∃r,v = .bool r∧K r h') x0 x1 h):callB (Sat Tryz.prog) zrW [.agg x0,.int .i64 x1] h K:=by
 have:=Sat.ex tok mixed zHJ Tryz.func115 (c:=za Tryz.f115) (by kernel_rfl) (zd Tryz.func115 (c:=za Tryz.f115) (by kernel_rfl) (by decide)) ((zaF _ _ x0 x1 h).mpr hm)
 obtain ⟨v,h2,h3,r,rfl,h4⟩:=this;exact ⟨r,h2,h3,h4⟩
def zHG:Nat→List Nat:=fun i=>[]
def VY (S:SatT) (K:KT) (x0:Pt) (h:H):Prop:=
 nilC (.ptr x0) (
 isPt x0 (
 ldS (Pt.add x0 2) h fun s0=>
 nilC (.ptr x0) (
 isPt x0 (
 ldS (Pt.add x0 2) h fun s1=>
 ixS s1 1 (0) fun p2=>
 ldS p2 h fun s3=>
 K (.int .i64 (w64 ((s0.len:Int)*(s3.len:Int)))) h))))
theorem zaw (S:SatT) (K:KT) (x0:Pt) (h:H):cwp S tab zHG [] (za Tryz.f127) (kFun tab Tryz.f127.results.toList K) (fr0 Tryz.f127 [.ptr x0]) h=VY S K x0 h:=by kernel_rfl
theorem zzn (x0:Pt) (h:H) (K:Int→H→Prop) (hm:VY (Sat Tryz.prog) (fun v h'=>∃r,v = .int .i64 r∧K r h') x0 h):callI (Sat Tryz.prog) .i64 qU [.ptr x0] h K:=by
 have:=Sat.ex tok mixed zHG Tryz.func127 (c:=za Tryz.f127) (by kernel_rfl) (zd Tryz.func127 (c:=za Tryz.f127) (by kernel_rfl) (by decide)) ((zaw _ _ x0 h).mpr hm)
 obtain ⟨v,h2,h3,r,rfl,h4⟩:=this;exact ⟨r,h2,h3,h4⟩
def zMs:Nat→List Nat:=fun i=>[]
def zdy (S:SatT) (K:KT) (x0:Pt) (x1:Sl) (h:H):Prop:=
 callI S .i64 zZ [.ptr x0,.int .i64 (x1.len:Int)] h fun n1 h0=>
 ixS x1 1 n1 fun p2=>
 ldI .i64 p2 h0 fun n3=>
 K (.int .i64 n3) h0
theorem zdx (S:SatT) (K:KT) (x0:Pt) (x1:Sl) (h:H):cwp S tab zMs [] (za Tryz.f77) (kFun tab Tryz.f77.results.toList K) (fr0 Tryz.f77 [.ptr x0,.sl x1]) h=zdy S K x0 x1 h:=by kernel_rfl
theorem zCD (x0:Pt) (x1:Sl) (h:H) (K:Int→H→Prop) (hm:zdy (Sat Tryz.prog) (fun v h'=>∃r,v = .int .i64 r∧K r h') x0 x1 h):callI (Sat Tryz.prog) .i64 Zi [.ptr x0,.sl x1] h K:=by
 have:=Sat.ex tok mixed zMs Tryz.func77 (c:=za Tryz.f77) (by kernel_rfl) (zd Tryz.func77 (c:=za Tryz.f77) (by kernel_rfl) (by decide)) ((zdx _ _ x0 x1 h).mpr hm)
 obtain ⟨v,h2,h3,r,rfl,h4⟩:=this;exact ⟨r,h2,h3,h4⟩
def zHC:Nat→List Nat:=fun i=>[]
def Vj (S:SatT) (K:KT) (h:H):Prop:=
 newS 0 1 [] h fun s0 h1=>
 newS 0 1 [] h1 fun s2 h3=>
 newS 0 1 [] h3 fun s4 h5=>
 newS 0 1 [] h5 fun s6 h7=>
 newS 4 1 [.sl s0,.sl s2,.sl s4,.sl s6] h7 fun s8 h9=>
 K (.sl s8) h9
theorem zab (S:SatT) (K:KT) (h:H):cwp S tab zHC [] (za Tryz.f138) (kFun tab Tryz.f138.results.toList K) (fr0 Tryz.f138 []) h=Vj S K h:=by kernel_rfl
theorem zxU (h:H) (K:Sl→H→Prop) (hm:Vj (Sat Tryz.prog) (fun v h'=>∃r,v = .sl r∧K r h') h):callS (Sat Tryz.prog) zhj [] h K:=by
 have:=Sat.ex tok mixed zHC Tryz.func138 (c:=za Tryz.f138) (by kernel_rfl) (zd Tryz.func138 (c:=za Tryz.f138) (by kernel_rfl) (by decide)) ((zab _ _ h).mpr hm)
 obtain ⟨v,h2,h3,r,rfl,h4⟩:=this;exact ⟨r,h2,h3,h4⟩
def zHP:Nat→List Nat:=fun i=>[]
def Z1 (S:SatT) (K:KT) (x0:Sl) (h:H):Prop:=
 newS 0 1 [] h fun s0 h1=>
 app s0 x0 1 h1 fun s2 h3=>
 K (.sl s2) h3
theorem zaM (S:SatT) (K:KT) (x0:Sl) (h:H):cwp S tab zHP [] (za Tryz.f106) (kFun tab Tryz.f106.results.toList K) (fr0 Tryz.f106 [.sl x0]) h=Z1 S K x0 h:=by kernel_rfl
theorem zio (x0:Sl) (h:H) (K:Sl→H→Prop) (hm:Z1 (Sat Tryz.prog) (fun v h'=>∃r,v = .sl r∧K r h') x0 h):callS (Sat Tryz.prog) zhl [.sl x0] h K:=by
 have:=Sat.ex tok mixed zHP Tryz.func106 (c:=za Tryz.f106) (by kernel_rfl) (zd Tryz.func106 (c:=za Tryz.f106) (by kernel_rfl) (by decide)) ((zaM _ _ x0 h).mpr hm)
 obtain ⟨v,h2,h3,r,rfl,h4⟩:=this;exact ⟨r,h2,h3,h4⟩
def qX:Nat→List Nat:=fun i=>bif i==2 then [1,2,5,6,7,8,9,10,12] else bif i==0 then [1,2,5,6,7,8,9,10,11] else []
def zDY (S:SatT) (K:KT):Kont:=kSeq (cwp S tab qX [] (sq Tryz.f150 4 15) (kFun tab (Tryz.f150).results.toList K)) (kFun tab (Tryz.f150).results.toList K)
def W3 (s1_:Sl) (p2_:Pt) (s5_ s6_:Sl) (s7_ s8_:Sl) (i9 i10 i11:Int):Frame:=(U :: .sl s1_ :: .ptr p2_::U::U :: .sl s5_ :: .sl s6_ :: .sl s7_ :: .sl s8_ :: .int .i64 i9 :: .int .i64 i10 :: .int .i64 i11::uu 86 [])
def zxr (S:SatT) (K:KT):(XT)→XT:=fun X fr h=>cwp S tab qX (qX 0) (sq Tryz.f150 7 116) (kSeq (fun fr h=>X (mask (qX 0) fr) h) (kBlk 0 (zDY S K))) fr h
def zxu (S:SatT) (K:KT) (s1_:Sl) (p2_:Pt) (s5_ s6_:Sl) (s7_ s8_:Sl) (i9 i10 i11:Int) (h:H):Prop:=zs (zxr S K) (W3 s1_ p2_ s5_ s6_ s7_ s8_ i9 i10 i11) h
def zDX (S:SatT) (K:KT):Kont:=kSeq (cwp S tab qX [] (sq Tryz.f150 5 31) (kFun tab (Tryz.f150).results.toList K)) (kFun tab (Tryz.f150).results.toList K)
def W2 (s1_:Sl) (p2_:Pt) (s5_ s6_:Sl) (s7_ s8_:Sl) (i9 i10 i12:Int):Frame:=(U :: .sl s1_ :: .ptr p2_::U::U :: .sl s5_ :: .sl s6_ :: .sl s7_ :: .sl s8_ :: .int .i64 i9 :: .int .i64 i10::U :: .int .i64 i12::uu 85 [])
def zxq (S:SatT) (K:KT):(XT)→XT:=fun X fr h=>cwp S tab qX (qX 2) (sq Tryz.f150 8 244) (kSeq (fun fr h=>X (mask (qX 2) fr) h) (kBlk 2 (zDX S K))) fr h
def zxt (S:SatT) (K:KT) (s1_:Sl) (p2_:Pt) (s5_ s6_:Sl) (s7_ s8_:Sl) (i9 i10 i12:Int) (h:H):Prop:=zs (zxq S K) (W2 s1_ p2_ s5_ s6_ s7_ s8_ i9 i10 i12) h
def zxv (S:SatT) (K:KT) (s5_ s6_:Sl) (s7_ s8_:Sl) (h:H):Prop:=
 newS 4 1 [.sl s5_,.sl s6_,.sl s7_,.sl s8_] h fun s0 h1=>
 K (.sl s0) h1
def zkc (S:SatT) (K:KT) (X2:XT) (s1_:Sl) (p2_:Pt) (s5_ s6_:Sl) (s7_ s8_:Sl) (i9 i10 i12:Int) (h:H):Prop:=
 bif (decide (i12<i10)) then
 isPt p2_ (
 ldS (Pt.add p2_ 1) h fun s0=>
 ixS s1_ 1 (0) fun p1=>
 ldS p1 h fun s2=>
 ixS s2 1 i12 fun p3=>
 ldI .i64 p3 h fun n4=>
 ixS s0 4 n4 fun p5=>
 ixA p5 4 1 (1) fun p6=>
 ldI .i64 p6 h fun n7=>
 newS 1 1 [.int .i64 n7] h fun s8 h9=>
 app s6_ s8 1 h9 fun s10 h11=>
 isPt p2_ (
 ldS (Pt.add p2_ 1) h11 fun s12=>
 ixS s1_ 1 (w64 (i9-(1))) fun p13=>
 ldS p13 h11 fun s14=>
 ixS s14 1 i12 fun p15=>
 ldI .i64 p15 h11 fun n16=>
 ixS s12 4 n16 fun p17=>
 ixA p17 4 1 (3) fun p18=>
 ldI .i64 p18 h11 fun n19=>
 newS 1 1 [.int .i64 n19] h11 fun s20 h21=>
 app s8_ s20 1 h21 fun s22 h23=>
 X2 (W2 s1_ p2_ s5_ s10 s7_ s22 i9 i10 (w64 (i12+(1)))) h23))
 else
 zxv S K s5_ s6_ s7_ s8_ h
theorem zog (S:SatT) (K:KT) (X2:XT) (s1_:Sl) (p2_:Pt) (s5_ s6_:Sl) (s7_ s8_:Sl) (i9 i10 i12:Int) (h:H):zxq S K X2 (W2 s1_ p2_ s5_ s6_ s7_ s8_ i9 i10 i12) h=zkc S K X2 s1_ p2_ s5_ s6_ s7_ s8_ i9 i10 i12 h:=by kernel_rfl
theorem zoe (S:SatT) (K:KT) (s1_:Sl) (p2_:Pt) (s5_ s7_:Sl) (i9 i10:Int) (I_:Sl→Sl→Int→H→Prop) (m_:Sl→Sl→Int→H→Nat)
  (hs:∀(X2:XT) (s6_ s8_:Sl) (i12:Int) (h:H),I_ s6_ s8_ i12 h→(∀(s6_' s8_':Sl) (i12':Int) (h':H),I_ s6_' s8_' i12' h'→m_ s6_' s8_' i12' h'<m_ s6_ s8_ i12 h→X2 (W2 s1_ p2_ s5_ s6_' s7_ s8_' i9 i10 i12') h')→zkc S K X2 s1_ p2_ s5_ s6_ s7_ s8_ i9 i10 i12 h) (s6_ s8_:Sl) (i12:Int) {h:H} (h0:I_ s6_ s8_ i12 h):zxt S K s1_ p2_ s5_ s6_ s7_ s8_ i9 i10 i12 h:=
 zg (σ :=(Sl)×(Sl)×(Int)) (fun s_=>W2 s1_ p2_ s5_ (s_.1) s7_ (s_.2.1) i9 i10 (s_.2.2)) (fun s_ h=>I_ (s_.1) (s_.2.1) (s_.2.2) h) (fun s_ h=>m_ (s_.1) (s_.2.1) (s_.2.2) h)
  (fun X s_ h hi hx=>(zog S K X s1_ p2_ s5_ (s_.1) s7_ (s_.2.1) i9 i10 (s_.2.2) h).mpr (hs X (s_.1) (s_.2.1) (s_.2.2) h hi fun s6_' s8_' i12' h' hi' hm'=>hx (s6_',s8_',i12') h' hi' hm')) (s6_,s8_,i12) h0
def zxw (S:SatT) (K:KT) (s1_:Sl) (p2_:Pt) (s5_ s6_:Sl) (s7_ s8_:Sl) (i9 i10:Int) (h:H):Prop:=
 zxt S K s1_ p2_ s5_ s6_ s7_ s8_ i9 i10 (0) h
def zkd (S:SatT) (K:KT) (X0:XT) (s1_:Sl) (p2_:Pt) (s5_ s6_:Sl) (s7_ s8_:Sl) (i9 i10 i11:Int) (h:H):Prop:=
 bif (decide (i11<i9)) then
 isPt p2_ (
 ldS (Pt.add p2_ 1) h fun s0=>
 ixS s1_ 1 i11 fun p1=>
 ldS p1 h fun s2=>
 ixS s2 1 (0) fun p3=>
 ldI .i64 p3 h fun n4=>
 ixS s0 4 n4 fun p5=>
 ixA p5 4 1 (0) fun p6=>
 ldI .i64 p6 h fun n7=>
 newS 1 1 [.int .i64 n7] h fun s8 h9=>
 app s5_ s8 1 h9 fun s10 h11=>
 isPt p2_ (
 ldS (Pt.add p2_ 1) h11 fun s12=>
 ixS s1_ 1 i11 fun p13=>
 ldS p13 h11 fun s14=>
 ixS s14 1 (w64 (i10-(1))) fun p15=>
 ldI .i64 p15 h11 fun n16=>
 ixS s12 4 n16 fun p17=>
 ixA p17 4 1 (2) fun p18=>
 ldI .i64 p18 h11 fun n19=>
 newS 1 1 [.int .i64 n19] h11 fun s20 h21=>
 app s7_ s20 1 h21 fun s22 h23=>
 X0 (W3 s1_ p2_ s10 s6_ s22 s8_ i9 i10 (w64 (i11+(1)))) h23))
 else
 zxw S K s1_ p2_ s5_ s6_ s7_ s8_ i9 i10 h
theorem zoh (S:SatT) (K:KT) (X0:XT) (s1_:Sl) (p2_:Pt) (s5_ s6_:Sl) (s7_ s8_:Sl) (i9 i10 i11:Int) (h:H):zxr S K X0 (W3 s1_ p2_ s5_ s6_ s7_ s8_ i9 i10 i11) h=zkd S K X0 s1_ p2_ s5_ s6_ s7_ s8_ i9 i10 i11 h:=by kernel_rfl
theorem zof (S:SatT) (K:KT) (s1_:Sl) (p2_:Pt) (s6_ s8_:Sl) (i9 i10:Int) (I_:Sl→Sl→Int→H→Prop) (m_:Sl→Sl→Int→H→Nat)
  (hs:∀(X0:XT) (s5_ s7_:Sl) (i11:Int) (h:H),I_ s5_ s7_ i11 h→(∀(s5_' s7_':Sl) (i11':Int) (h':H),I_ s5_' s7_' i11' h'→m_ s5_' s7_' i11' h'<m_ s5_ s7_ i11 h→X0 (W3 s1_ p2_ s5_' s6_ s7_' s8_ i9 i10 i11') h')→zkd S K X0 s1_ p2_ s5_ s6_ s7_ s8_ i9 i10 i11 h) (s5_ s7_:Sl) (i11:Int) {h:H} (h0:I_ s5_ s7_ i11 h):zxu S K s1_ p2_ s5_ s6_ s7_ s8_ i9 i10 i11 h:=
 zg (σ :=(Sl)×(Sl)×(Int)) (fun s_=>W3 s1_ p2_ (s_.1) s6_ (s_.2.1) s8_ i9 i10 (s_.2.2)) (fun s_ h=>I_ (s_.1) (s_.2.1) (s_.2.2) h) (fun s_ h=>m_ (s_.1) (s_.2.1) (s_.2.2) h)
  (fun X s_ h hi hx=>(zoh S K X s1_ p2_ (s_.1) s6_ (s_.2.1) s8_ i9 i10 (s_.2.2) h).mpr (hs X (s_.1) (s_.2.1) (s_.2.2) h hi fun s5_' s7_' i11' h' hi' hm'=>hx (s5_',s7_',i11') h' hi' hm')) (s5_,s7_,i11) h0
def WZ (S:SatT) (K:KT) (x0:List AVal) (x1:Sl) (h:H):Prop:=
 newK 2 x0 h fun p0 h1=>
 newS 0 1 [] h1 fun s2 h3=>
 newS 0 1 [] h3 fun s4 h5=>
 newS 0 1 [] h5 fun s6 h7=>
 newS 0 1 [] h7 fun s8 h9=>
 ixS x1 1 (0) fun p10=>
 ldS p10 h9 fun s11=>
 zxu S K x1 p0 s2 s4 s6 s8 (x1.len:Int) (s11.len:Int) (0) h9
theorem QZ (S:SatT) (K:KT) (x0:List AVal) (x1:Sl) (h:H):cwp S tab qX [] (za Tryz.f150) (kFun tab Tryz.f150.results.toList K) (fr0 Tryz.f150 [.agg x0,.sl x1]) h=WZ S K x0 x1 h:=by kernel_rfl
theorem zxs (x0:List AVal) (x1:Sl) (h:H) (K:Sl→H→Prop) (hm:WZ (Sat Tryz.prog) (fun v h'=>∃r,v = .sl r∧K r h') x0 x1 h):callS (Sat Tryz.prog) zrE [.agg x0,.sl x1] h K:=by
 have:=Sat.ex tok mixed qX Tryz.func150 (c:=za Tryz.f150) (by kernel_rfl) (zd Tryz.func150 (c:=za Tryz.f150) (by kernel_rfl) (by decide)) ((QZ _ _ x0 x1 h).mpr hm)
 obtain ⟨v,h2,h3,r,rfl,h4⟩:=this;exact ⟨r,h2,h3,h4⟩
def xV:Nat→List Nat:=fun i=>bif i==2 then [0,3,4,5] else bif i==0 then [0,3,4] else []
def zfT (S:SatT) (K:KT):Kont:=kSeq (cwp S tab xV [] (sq Tryz.f161 3 7) (kFun tab (Tryz.f161).results.toList K)) (kFun tab (Tryz.f161).results.toList K)
def YA (s0_ s3_:Sl) (i4:Int):Frame:=(.sl s0_::U::U :: .sl s3_ :: .int .i64 i4::uu 58 [])
def zwo (S:SatT) (K:KT):(XT)→XT:=fun X fr h=>cwp S tab xV (xV 0) (sq Tryz.f161 6 52) (kSeq (fun fr h=>X (mask (xV 0) fr) h) (kBlk 0 (zfT S K))) fr h
def zwr (S:SatT) (K:KT) (s0_ s3_:Sl) (i4:Int) (h:H):Prop:=zs (zwo S K) (YA s0_ s3_ i4) h
def zmr (S:SatT) (K:KT) (X0:XT):Kont:=kSeq (cwp S tab xV (xV 0) (sq Tryz.f161 8 211) (kSeq (fun fr h=>X0 (mask (xV 0) fr) h) (kBlk 0 (zfT S K)))) (kSeq (fun fr h=>X0 (mask (xV 0) fr) h) (kBlk 0 (zfT S K)))
def zDU (S:SatT) (K:KT) (X0:XT):Kont:=kSeq (cwp S tab xV (xV 1) (sq Tryz.f161 11 1683) (kBlk 1 (zmr S K X0))) (kBlk 1 (zmr S K X0))
def WE (s0_ s3_:Sl) (i4 i5:Int):Frame:=(.sl s0_::U::U :: .sl s3_ :: .int .i64 i4 :: .int .i64 i5::uu 57 [])
def zwn (S:SatT) (K:KT) (X0:XT):(XT)→XT:=fun X fr h=>cwp S tab xV (xV 2) (sq Tryz.f161 13 6728) (kSeq (fun fr h=>X (mask (xV 2) fr) h) (kBlk 2 (zDU S K X0))) fr h
def zwq (S:SatT) (K:KT) (X0:XT) (s0_ s3_:Sl) (i4 i5:Int) (h:H):Prop:=zs (zwn S K X0) (WE s0_ s3_ i4 i5) h
def zfV (S:SatT) (K:KT) (X0:XT) (s0_ s3_:Sl) (i4:Int) (h:H):Prop:=
 X0 (YA s0_ s3_ (w64 (i4+(1)))) h
def zfU (S:SatT) (K:KT) (X0:XT) (s0_ s3_:Sl) (i4 i5:Int) (h:H):Prop:=
 bif (decide (i5>(0))) then
 ixS s3_ 4 (w64 (i5-(1))) fun p0=>
 ldA p0 4 h fun cs1=>
 ixS s0_ 4 i4 fun p2=>
 ldA p2 4 h fun cs3=>
 eqA .i64 4 cs1 cs3 fun b4=>
 bif b4 then
 zfV S K X0 s0_ s3_ i4 h
 else
 ixS s0_ 4 i4 fun p5=>
 ldA p5 4 h fun cs6=>
 lenA cs6 4 (
 newS 1 4 (spl [.int .i64 (0),.int .i64 (0),.int .i64 (0),.int .i64 (0)] 0 4 cs6) h fun s7 h8=>
 cut s3_ 4 i5 (s3_.len:Int) h8 fun s9=>
 okS h s3_∧(
 app s7 s9 4 h8 fun s10 h11=>
 newS 0 4 [] h11 fun s12 h13=>
 cut s3_ 4 (0) i5 h13 fun s14=>
 app s12 s14 4 h13 fun s15 h16=>
 app s15 s10 4 h16 fun s17 h18=>
 zfV S K X0 s0_ s17 i4 h18))
 else
 ixS s0_ 4 i4 fun p19=>
 ldA p19 4 h fun cs20=>
 lenA cs20 4 (
 newS 1 4 (spl [.int .i64 (0),.int .i64 (0),.int .i64 (0),.int .i64 (0)] 0 4 cs20) h fun s21 h22=>
 cut s3_ 4 i5 (s3_.len:Int) h22 fun s23=>
 okS h s3_∧(
 app s21 s23 4 h22 fun s24 h25=>
 newS 0 4 [] h25 fun s26 h27=>
 cut s3_ 4 (0) i5 h27 fun s28=>
 app s26 s28 4 h27 fun s29 h30=>
 app s29 s24 4 h30 fun s31 h32=>
 zfV S K X0 s0_ s31 i4 h32))
def zjP (S:SatT) (K:KT) (X0 X2:XT) (s0_ s3_:Sl) (i4 i5:Int) (h:H):Prop:=
 bif (decide (i5>(0))) then
 ixS s0_ 4 i4 fun p0=>
 ldA p0 4 h fun cs1=>
 ixS s3_ 4 (w64 (i5-(1))) fun p2=>
 ldA p2 4 h fun cs3=>
 callB S zlT [.agg cs1,.agg cs3] h fun b5 h4=>
 bif b5 then
 X2 (WE s0_ s3_ i4 (w64 (i5-(1)))) h4
 else
 zfU S K X0 s0_ s3_ i4 i5 h4
 else
 zfU S K X0 s0_ s3_ i4 i5 h
theorem znU (S:SatT) (K:KT) (X0 X2:XT) (s0_ s3_:Sl) (i4 i5:Int) (h:H):zwn S K X0 X2 (WE s0_ s3_ i4 i5) h=zjP S K X0 X2 s0_ s3_ i4 i5 h:=by kernel_rfl
theorem znS (S:SatT) (K:KT) (X0:XT) (s0_ s3_:Sl) (i4:Int) (I_:Int→H→Prop) (m_:Int→H→Nat)
  (hs:∀(X2:XT) (i5:Int) (h:H),I_ i5 h→(∀(i5':Int) (h':H),I_ i5' h'→m_ i5' h'<m_ i5 h→X2 (WE s0_ s3_ i4 i5') h')→zjP S K X0 X2 s0_ s3_ i4 i5 h) (i5:Int) {h:H} (h0:I_ i5 h):zwq S K X0 s0_ s3_ i4 i5 h:=
 zg (σ :=(Int)) (fun s_=>WE s0_ s3_ i4 (s_)) (fun s_ h=>I_ (s_) h) (fun s_ h=>m_ (s_) h)
  (fun X s_ h hi hx=>(znU S K X0 X s0_ s3_ i4 (s_) h).mpr (hs X (s_) h hi fun i5' h' hi' hm'=>hx (i5') h' hi' hm')) (i5) h0
def zws (S:SatT) (K:KT) (s3_:Sl) (h:H):Prop:=
 K (.sl s3_) h
def zjQ (S:SatT) (K:KT) (X0:XT) (s0_ s3_:Sl) (i4:Int) (h:H):Prop:=
 bif (decide (i4<(s0_.len:Int))) then
 zwq S K X0 s0_ s3_ i4 (s3_.len:Int) h
 else
 zws S K s3_ h
theorem znV (S:SatT) (K:KT) (X0:XT) (s0_ s3_:Sl) (i4:Int) (h:H):zwo S K X0 (YA s0_ s3_ i4) h=zjQ S K X0 s0_ s3_ i4 h:=by kernel_rfl
theorem znT (S:SatT) (K:KT) (s0_:Sl) (I_:Sl→Int→H→Prop) (m_:Sl→Int→H→Nat)
  (hs:∀(X0:XT) (s3_:Sl) (i4:Int) (h:H),I_ s3_ i4 h→(∀(s3_':Sl) (i4':Int) (h':H),I_ s3_' i4' h'→m_ s3_' i4' h'<m_ s3_ i4 h→X0 (YA s0_ s3_' i4') h')→zjQ S K X0 s0_ s3_ i4 h) (s3_:Sl) (i4:Int) {h:H} (h0:I_ s3_ i4 h):zwr S K s0_ s3_ i4 h:=
 zg (σ :=(Sl)×(Int)) (fun s_=>YA s0_ (s_.1) (s_.2)) (fun s_ h=>I_ (s_.1) (s_.2) h) (fun s_ h=>m_ (s_.1) (s_.2) h)
  (fun X s_ h hi hx=>(znV S K X s0_ (s_.1) (s_.2) h).mpr (hs X (s_.1) (s_.2) h hi fun s3_' i4' h' hi' hm'=>hx (s3_',i4') h' hi' hm')) (s3_,i4) h0
def WD (S:SatT) (K:KT) (x0:Sl) (h:H):Prop:=
 newS 0 4 [] h fun s0 h1=>
 zwr S K x0 s0 (0) h1
theorem QH (S:SatT) (K:KT) (x0:Sl) (h:H):cwp S tab xV [] (za Tryz.f161) (kFun tab Tryz.f161.results.toList K) (fr0 Tryz.f161 [.sl x0]) h=WD S K x0 h:=by kernel_rfl
theorem zwp (x0:Sl) (h:H) (K:Sl→H→Prop) (hm:WD (Sat Tryz.prog) (fun v h'=>∃r,v = .sl r∧K r h') x0 h):callS (Sat Tryz.prog) zry [.sl x0] h K:=by
 have:=Sat.ex tok mixed xV Tryz.func161 (c:=za Tryz.f161) (by kernel_rfl) (zd Tryz.func161 (c:=za Tryz.f161) (by kernel_rfl) (by decide)) ((QH _ _ x0 h).mpr hm)
 obtain ⟨v,h2,h3,r,rfl,h4⟩:=this;exact ⟨r,h2,h3,h4⟩
def znL:Nat→List Nat:=fun i=>bif i==0 then [5,13,14,15] else []
def zJu (S:SatT) (K:KT):Kont:=kSeq (cwp S tab znL [] (sq Tryz.f35 6 63) (kFun tab (Tryz.f35).results.toList K)) (kFun tab (Tryz.f35).results.toList K)
def zbC (p5_:Pt) (i13:Int) (s14_:Sl) (i15:Int):Frame:=(uu 5 (.ptr p5_::uu 7 (.int .i64 i13 :: .sl s14_ :: .int .i64 i15::uu 60 [])))
def zGM (S:SatT) (K:KT):(XT)→XT:=fun X fr h=>cwp S tab znL (znL 0) (sq Tryz.f35 9 500) (kSeq (fun fr h=>X (mask (znL 0) fr) h) (kBlk 0 (zJu S K))) fr h
def zhQ (S:SatT) (K:KT) (p5_:Pt) (i13:Int) (s14_:Sl) (i15:Int) (h:H):Prop:=zs (zGM S K) (zbC p5_ i13 s14_ i15) h
def zGN (S:SatT) (K:KT) (s14_:Sl) (h:H):Prop:=
 K (.tuple [.sl s14_,.int .i64 (0)]) h
def zuq (S:SatT) (K:KT) (X0:XT) (p5_:Pt) (i13:Int) (s14_:Sl) (i15:Int) (h:H):Prop:=
 isPt p5_ (
 ldS (Pt.add p5_ 1) h fun s0=>
 bif (decide (i15<(s0.len:Int))) then
 nn (IntKind.wrap .u64 (i15)) (
 bif ((yj .and .i64 (shrI .i64 i13 (IntKind.wrap .u64 (i15))) (1))==(1)) then
 newS 1 1 [.int .i64 i15] h fun s1 h2=>
 app s14_ s1 1 h2 fun s3 h4=>
 X0 (zbC p5_ i13 s3 (w64 (i15+(1)))) h4
 else
 X0 (zbC p5_ i13 s14_ (w64 (i15+(1)))) h)
 else
 zGN S K s14_ h)
theorem zup (S:SatT) (K:KT) (X0:XT) (p5_:Pt) (i13:Int) (s14_:Sl) (i15:Int) (h:H):zGM S K X0 (zbC p5_ i13 s14_ i15) h=zuq S K X0 p5_ i13 s14_ i15 h:=by kernel_rfl
theorem zuo (S:SatT) (K:KT) (p5_:Pt) (i13:Int) (I_:Sl→Int→H→Prop) (m_:Sl→Int→H→Nat)
  (hs:∀(X0:XT) (s14_:Sl) (i15:Int) (h:H),I_ s14_ i15 h→(∀(s14_':Sl) (i15':Int) (h':H),I_ s14_' i15' h'→m_ s14_' i15' h'<m_ s14_ i15 h→X0 (zbC p5_ i13 s14_' i15') h')→zuq S K X0 p5_ i13 s14_ i15 h) (s14_:Sl) (i15:Int) {h:H} (h0:I_ s14_ i15 h):zhQ S K p5_ i13 s14_ i15 h:=
 zg (σ :=(Sl)×(Int)) (fun s_=>zbC p5_ i13 (s_.1) (s_.2)) (fun s_ h=>I_ (s_.1) (s_.2) h) (fun s_ h=>m_ (s_.1) (s_.2) h)
  (fun X s_ h hi hx=>(zup S K X p5_ i13 (s_.1) (s_.2) h).mpr (hs X (s_.1) (s_.2) h hi fun s14_' i15' h' hi' hm'=>hx (s14_',i15') h' hi' hm')) (s14_,i15) h0
def zeq (S:SatT) (K:KT) (x0:List AVal) (x1 x2:Sl) (x3 x4:Int) (h:H):Prop:=
 newK 2 x0 h fun p0 h1=>
 ldA p0 2 h1 fun cs2=>
 callI S .i64 zBN [.agg cs2,.sl x1,.sl x2] h1 fun n4 h3=>
 bif (n4==(0)) then
 callB S We [.int .i64 x3,.int .i64 (0),.int .i64 (w64 ((x1.len:Int)-(1)))] h3 fun b6 h5=>
 bif (!b6) then
 bif ((2) != (0)) then
 K (.tuple [.sl Sl.nil,.int .i64 (2)]) h5
 else
 vp 17 h5 fun h7=>
 ldA p0 2 h7 fun cs8=>
 callS S zjm [.agg cs8,.sl x1,.sl x2] h7 fun s10 h9=>
 ixS x1 1 (0) fun p11=>
 ldS p11 h9 fun s12=>
(cell h7 p11=cell h9 p11)∧(
 ixS s10 1 (w64 ((w64 (x3*(s12.len:Int)))+x4)) fun p13=>
 ldI .i64 p13 h9 fun n14=>
 vj 0 1 [] h9 (h5.length+14) fun s15 h16=>
(range h9 p0.o p0.n p0.off 2=range h7 p0.o p0.n p0.off 2)∧(
(cell h16 p13=cell h9 p13)∧(
(cell h16 p11=cell h9 p11)∧(
(range h16 p0.o p0.n p0.off 2=range h7 p0.o p0.n p0.off 2)∧(
 zhQ S K p0 n14 s15 (0) h16)))))
 else
 ixS x1 1 (0) fun p17=>
 ldS p17 h5 fun s18=>
 callB S We [.int .i64 x4,.int .i64 (0),.int .i64 (w64 ((s18.len:Int)-(1)))] h5 fun b20 h19=>
 bif (!b20) then
 bif ((2) != (0)) then
 K (.tuple [.sl Sl.nil,.int .i64 (2)]) h19
 else
 vp 17 h19 fun h21=>
 ldA p0 2 h21 fun cs22=>
 callS S zjm [.agg cs22,.sl x1,.sl x2] h21 fun s24 h23=>
 ixS x1 1 (0) fun p25=>
 ldS p25 h23 fun s26=>
(cell h21 p25=cell h23 p25)∧(
 ixS s24 1 (w64 ((w64 (x3*(s26.len:Int)))+x4)) fun p27=>
 ldI .i64 p27 h23 fun n28=>
 vj 0 1 [] h23 (h19.length+14) fun s29 h30=>
(range h23 p0.o p0.n p0.off 2=range h21 p0.o p0.n p0.off 2)∧(
(cell h30 p27=cell h23 p27)∧(
(cell h30 p25=cell h23 p25)∧(
(range h30 p0.o p0.n p0.off 2=range h21 p0.o p0.n p0.off 2)∧(
 zhQ S K p0 n28 s29 (0) h30)))))
 else
 bif (n4 != (0)) then
 K (.tuple [.sl Sl.nil,.int .i64 n4]) h19
 else
 vp 17 h19 fun h31=>
 ldA p0 2 h31 fun cs32=>
 callS S zjm [.agg cs32,.sl x1,.sl x2] h31 fun s34 h33=>
 ixS x1 1 (0) fun p35=>
 ldS p35 h33 fun s36=>
(cell h31 p35=cell h33 p35)∧(
 ixS s34 1 (w64 ((w64 (x3*(s36.len:Int)))+x4)) fun p37=>
 ldI .i64 p37 h33 fun n38=>
 vj 0 1 [] h33 (h19.length+14) fun s39 h40=>
(range h33 p0.o p0.n p0.off 2=range h31 p0.o p0.n p0.off 2)∧(
(cell h40 p37=cell h33 p37)∧(
(cell h40 p35=cell h33 p35)∧(
(range h40 p0.o p0.n p0.off 2=range h31 p0.o p0.n p0.off 2)∧(
 zhQ S K p0 n38 s39 (0) h40)))))
 else
 bif (n4 != (0)) then
 K (.tuple [.sl Sl.nil,.int .i64 n4]) h3
 else
 vp 17 h3 fun h41=>
 ldA p0 2 h41 fun cs42=>
 callS S zjm [.agg cs42,.sl x1,.sl x2] h41 fun s44 h43=>
 ixS x1 1 (0) fun p45=>
 ldS p45 h43 fun s46=>
(cell h41 p45=cell h43 p45)∧(
 ixS s44 1 (w64 ((w64 (x3*(s46.len:Int)))+x4)) fun p47=>
 ldI .i64 p47 h43 fun n48=>
 vj 0 1 [] h43 (h3.length+14) fun s49 h50=>
(range h43 p0.o p0.n p0.off 2=range h41 p0.o p0.n p0.off 2)∧(
(cell h50 p47=cell h43 p47)∧(
(cell h50 p45=cell h43 p45)∧(
(range h50 p0.o p0.n p0.off 2=range h41 p0.o p0.n p0.off 2)∧(
 zhQ S K p0 n48 s49 (0) h50)))))
theorem zep (S:SatT) (K:KT) (x0:List AVal) (x1 x2:Sl) (x3 x4:Int) (h:H):cwp S tab znL [] (za Tryz.f35) (kFun tab Tryz.f35.results.toList K) (fr0 Tryz.f35 [.agg x0,.sl x1,.sl x2,.int .i64 x3,.int .i64 x4]) h=zeq S K x0 x1 x2 x3 x4 h:=by kernel_rfl
theorem zDb (x0:List AVal) (x1 x2:Sl) (x3 x4:Int) (h:H) (K:KT) (hm:zeq (Sat Tryz.prog) (fun v h'=>K v h') x0 x1 x2 x3 x4 h):callV (Sat Tryz.prog) zIT [.agg x0,.sl x1,.sl x2,.int .i64 x3,.int .i64 x4] h K:=by
 have:=Sat.ex tok mixed znL Tryz.func35 (c:=za Tryz.f35) (by kernel_rfl) (zd Tryz.func35 (c:=za Tryz.f35) (by kernel_rfl) (by decide)) ((zep _ _ x0 x1 x2 x3 x4 h).mpr hm)
 exact this
def zbT:Nat→List Nat:=fun i=>bif i==0 then [1,3,13,14,15] else []
def zEk (S:SatT) (K:KT):Kont:=kSeq (cwp S tab zbT [] (sq Tryz.f126 3 7) (kFun tab (Tryz.f126).results.toList K)) (kFun tab (Tryz.f126).results.toList K)
def xu (s1_:Sl) (p3_:Pt) (s13_:Sl) (i14 i15:Int):Frame:=(U :: .sl s1_::U :: .ptr p3_::uu 9 (.sl s13_ :: .int .i64 i14 :: .int .i64 i15::uu 32 []))
def zzo (S:SatT) (K:KT):(XT)→XT:=fun X fr h=>cwp S tab zbT (zbT 0) (sq Tryz.f126 6 52) (kSeq (fun fr h=>X (mask (zbT 0) fr) h) (kBlk 0 (zEk S K))) fr h
def zzq (S:SatT) (K:KT) (s1_:Sl) (p3_:Pt) (s13_:Sl) (i14 i15:Int) (h:H):Prop:=zs (zzo S K) (xu s1_ p3_ s13_ i14 i15) h
def zzr (S:SatT) (K:KT) (h:H):Prop:=
 K (.bool true) h
def zkI (S:SatT) (K:KT) (X0:XT) (s1_:Sl) (p3_:Pt) (s13_:Sl) (i14 i15:Int) (h:H):Prop:=
 bif (decide (i15<i14)) then
 ixS s13_ 1 i15 fun p0=>
 ldS p0 h fun s1=>
 bif (i15==(1)) then
 ixS s1_ 1 (0) fun p2=>
 ldS p2 h fun s3=>
 bif (decide ((s1.len:Int)>(0))) then
 bif ((s1.len:Int) != (s3.len:Int)) then
 K (.bool false) h
 else
 ldA p3_ 2 h fun cs4=>
 callB S zbt [.agg cs4,.sl s1] h fun b6 h5=>
 bif (!b6) then
 K (.bool false) h5
 else
 X0 (xu s1_ p3_ s13_ i14 (w64 (i15+(1)))) h5
 else
 X0 (xu s1_ p3_ s13_ i14 (w64 (i15+(1)))) h
 else
 bif (i15==(3)) then
 ixS s1_ 1 (0) fun p7=>
 ldS p7 h fun s8=>
 bif (decide ((s1.len:Int)>(0))) then
 bif ((s1.len:Int) != (s8.len:Int)) then
 K (.bool false) h
 else
 ldA p3_ 2 h fun cs9=>
 callB S zbt [.agg cs9,.sl s1] h fun b11 h10=>
 bif (!b11) then
 K (.bool false) h10
 else
 X0 (xu s1_ p3_ s13_ i14 (w64 (i15+(1)))) h10
 else
 X0 (xu s1_ p3_ s13_ i14 (w64 (i15+(1)))) h
 else
 bif (decide ((s1.len:Int)>(0))) then
 bif ((s1.len:Int) != (s1_.len:Int)) then
 K (.bool false) h
 else
 ldA p3_ 2 h fun cs12=>
 callB S zbt [.agg cs12,.sl s1] h fun b14 h13=>
 bif (!b14) then
 K (.bool false) h13
 else
 X0 (xu s1_ p3_ s13_ i14 (w64 (i15+(1)))) h13
 else
 X0 (xu s1_ p3_ s13_ i14 (w64 (i15+(1)))) h
 else
 zzr S K h
theorem zps (S:SatT) (K:KT) (X0:XT) (s1_:Sl) (p3_:Pt) (s13_:Sl) (i14 i15:Int) (h:H):zzo S K X0 (xu s1_ p3_ s13_ i14 i15) h=zkI S K X0 s1_ p3_ s13_ i14 i15 h:=by kernel_rfl
theorem zpr (S:SatT) (K:KT) (s1_:Sl) (p3_:Pt) (s13_:Sl) (i14:Int) (I_:Int→H→Prop) (m_:Int→H→Nat)
  (hs:∀(X0:XT) (i15:Int) (h:H),I_ i15 h→(∀(i15':Int) (h':H),I_ i15' h'→m_ i15' h'<m_ i15 h→X0 (xu s1_ p3_ s13_ i14 i15') h')→zkI S K X0 s1_ p3_ s13_ i14 i15 h) (i15:Int) {h:H} (h0:I_ i15 h):zzq S K s1_ p3_ s13_ i14 i15 h:=
 zg (σ :=(Int)) (fun s_=>xu s1_ p3_ s13_ i14 (s_)) (fun s_ h=>I_ (s_) h) (fun s_ h=>m_ (s_) h)
  (fun X s_ h hi hx=>(zps S K X s1_ p3_ s13_ i14 (s_) h).mpr (hs X (s_) h hi fun i15' h' hi' hm'=>hx (i15') h' hi' hm')) (i15) h0
def VZ (S:SatT) (K:KT) (x0:List AVal) (x1 x2:Sl) (h:H):Prop:=
 newK 2 x0 h fun p0 h1=>
 bif ((x2.len:Int) != (4)) then
 K (.bool false) h1
 else
 zzq S K x1 p0 x2 (x2.len:Int) (0) h1
theorem zax (S:SatT) (K:KT) (x0:List AVal) (x1 x2:Sl) (h:H):cwp S tab zbT [] (za Tryz.f126) (kFun tab Tryz.f126.results.toList K) (fr0 Tryz.f126 [.agg x0,.sl x1,.sl x2]) h=VZ S K x0 x1 x2 h:=by kernel_rfl
theorem zzp (x0:List AVal) (x1 x2:Sl) (h:H) (K:Bool→H→Prop) (hm:VZ (Sat Tryz.prog) (fun v h'=>∃r,v = .bool r∧K r h') x0 x1 x2 h):callB (Sat Tryz.prog) zrR [.agg x0,.sl x1,.sl x2] h K:=by
 have:=Sat.ex tok mixed zbT Tryz.func126 (c:=za Tryz.f126) (by kernel_rfl) (zd Tryz.func126 (c:=za Tryz.f126) (by kernel_rfl) (by decide)) ((zax _ _ x0 x1 x2 h).mpr hm)
 obtain ⟨v,h2,h3,r,rfl,h4⟩:=this;exact ⟨r,h2,h3,h4⟩
def znH:Nat→List Nat:=fun i=>bif i==0 then [1,2,4,6,15,16,17] else []
def zJp (S:SatT) (K:KT):Kont:=kSeq (cwp S tab znH [] (sq Tryz.f68 4 15) (kFun tab (Tryz.f68).results.toList K)) (kFun tab (Tryz.f68).results.toList K)
def zhI (f1_:AVal) (p2_ p4_:Pt) (s6_ s15_:Sl) (i16 i17:Int):Frame:=(U::f1_ :: .ptr p2_::U :: .ptr p4_::U :: .sl s6_::uu 8 (.sl s15_ :: .int .i64 i16 :: .int .i64 i17::uu 16 []))
def zGo (S:SatT) (K:KT):(XT)→XT:=fun X fr h=>cwp S tab znH (znH 0) (sq Tryz.f68 7 116) (kSeq (fun fr h=>X (mask (znH 0) fr) h) (kBlk 0 (zJp S K))) fr h
def zGp (S:SatT) (K:KT) (f1_:AVal) (p2_ p4_:Pt) (s6_ s15_:Sl) (i16 i17:Int) (h:H):Prop:=zs (zGo S K) (zhI f1_ p2_ p4_ s6_ s15_ i16 i17) h
def zGq (S:SatT) (K:KT) (p2_ p4_:Pt) (s6_:Sl) (h:H):Prop:=
 isPt p2_ (
 ldI .i64 (Pt.add p2_ 0) h fun n0=>
 callV S zrX [.int .i64 n0,.sl s6_] h fun v2 h1=>
 viaT v2 fun vs3=>
 exA vs3 0 fun cs4=>
 viaT v2 fun vs5=>
 exI .i64 vs5 1 fun n6=>
 stN p4_ 2 cs4 h1 fun h7=>
 ldA p4_ 2 h7 fun cs8=>
 K (.tuple [.agg cs8,.int .i64 n6]) h7)
def ztO (S:SatT) (K:KT) (X0:XT) (f1_:AVal) (p2_ p4_:Pt) (s6_ s15_:Sl) (i16 i17:Int) (h:H):Prop:=
 bif (decide (i17<i16)) then
 ixS s15_ 4 i17 fun p0=>
 ldA p0 4 h fun cs1=>
 newO [.int .i64 (0),.int .i64 (0),.int .i64 (0),.int .i64 (0)] h fun p2 h3=>
 stN p2 4 cs1 h3 fun h4=>
 ldA p2 4 h4 fun cs5=>
 viaF f1_ [.agg cs5] fun g6 ys7=>
 callA S g6 ys7 h4 fun cs9 h8=>
 lenA cs9 4 (
 newS 1 4 (spl [.int .i64 (0),.int .i64 (0),.int .i64 (0),.int .i64 (0)] 0 4 cs9) h8 fun s10 h11=>
 app s6_ s10 4 h11 fun s12 h13=>
 X0 (zhI f1_ p2_ p4_ s12 s15_ i16 (w64 (i17+(1)))) h13)
 else
 zGq S K p2_ p4_ s6_ h
theorem ztN (S:SatT) (K:KT) (X0:XT) (f1_:AVal) (p2_ p4_:Pt) (s6_ s15_:Sl) (i16 i17:Int) (h:H):zGo S K X0 (zhI f1_ p2_ p4_ s6_ s15_ i16 i17) h=ztO S K X0 f1_ p2_ p4_ s6_ s15_ i16 i17 h:=by kernel_rfl
theorem ztM (S:SatT) (K:KT) (f1_:AVal) (p2_ p4_:Pt) (s15_:Sl) (i16:Int) (I_:Sl→Int→H→Prop) (m_:Sl→Int→H→Nat)
  (hs:∀(X0:XT) (s6_:Sl) (i17:Int) (h:H),I_ s6_ i17 h→(∀(s6_':Sl) (i17':Int) (h':H),I_ s6_' i17' h'→m_ s6_' i17' h'<m_ s6_ i17 h→X0 (zhI f1_ p2_ p4_ s6_' s15_ i16 i17') h')→ztO S K X0 f1_ p2_ p4_ s6_ s15_ i16 i17 h) (s6_:Sl) (i17:Int) {h:H} (h0:I_ s6_ i17 h):zGp S K f1_ p2_ p4_ s6_ s15_ i16 i17 h:=
 zg (σ :=(Sl)×(Int)) (fun s_=>zhI f1_ p2_ p4_ (s_.1) s15_ i16 (s_.2)) (fun s_ h=>I_ (s_.1) (s_.2) h) (fun s_ h=>m_ (s_.1) (s_.2) h)
  (fun X s_ h hi hx=>(ztN S K X f1_ p2_ p4_ (s_.1) s15_ i16 (s_.2) h).mpr (hs X (s_.1) (s_.2) h hi fun s6_' i17' h' hi' hm'=>hx (s6_',i17') h' hi' hm')) (s6_,i17) h0
def zdM (S:SatT) (K:KT) (x0:List AVal) (x1:AVal) (h:H):Prop:=
 newK 2 x0 h fun p0 h1=>
 newO [.int .i64 (0),.sl Sl.nil] h1 fun p2 h3=>
 ldA p0 2 h3 fun cs4=>
 callB S zns [.agg cs4] h3 fun b6 h5=>
 bif (!b6) then
 stN p2 2 [.int .i64 (0),.sl Sl.nil] h5 fun h7=>
 ldA p2 2 h7 fun cs8=>
 K (.tuple [.agg cs8,.int .i64 (1)]) h7
 else
 newS 0 4 [] h5 fun s9 h10=>
 isPt p0 (
 ldS (Pt.add p0 1) h10 fun s11=>
 zGp S K x1 p0 p2 s9 s11 (s11.len:Int) (0) h10)
theorem zdL (S:SatT) (K:KT) (x0:List AVal) (x1:AVal) (h:H):cwp S tab znH [] (za Tryz.f68) (kFun tab Tryz.f68.results.toList K) (fr0 Tryz.f68 [.agg x0,x1]) h=zdM S K x0 x1 h:=by kernel_rfl
theorem zCK (x0:List AVal) (x1:AVal) (h:H) (K:KT) (hm:zdM (Sat Tryz.prog) (fun v h'=>K v h') x0 x1 h):callV (Sat Tryz.prog) zBS [.agg x0,x1] h K:=by
 have:=Sat.ex tok mixed znH Tryz.func68 (c:=za Tryz.f68) (by kernel_rfl) (zd Tryz.func68 (c:=za Tryz.f68) (by kernel_rfl) (by decide)) ((zdL _ _ x0 x1 h).mpr hm)
 exact this
def zbF:Nat→List Nat:=fun i=>bif i==0 then [0,1,5,6,7] else []
def zDS (S:SatT) (K:KT):Kont:=kSeq (cwp S tab zbF [] (sq Tryz.f169 4 15) (kFun tab (Tryz.f169).results.toList K)) (kFun tab (Tryz.f169).results.toList K)
def Yz (f0_:AVal) (i1:Int) (s5_:Sl) (i6 i7:Int):Frame:=(f0_ :: .int .u8 i1::U::U::U :: .sl s5_ :: .int .i64 i6 :: .int .i64 i7::uu 27 [])
def zwc (S:SatT) (K:KT):(XT)→XT:=fun X fr h=>cwp S tab zbF (zbF 0) (sq Tryz.f169 7 116) (kSeq (fun fr h=>X (mask (zbF 0) fr) h) (kBlk 0 (zDS S K))) fr h
def zwe (S:SatT) (K:KT) (f0_:AVal) (i1:Int) (s5_:Sl) (i6 i7:Int) (h:H):Prop:=zs (zwc S K) (Yz f0_ i1 s5_ i6 i7) h
def zwf (S:SatT) (K:KT) (f0_:AVal) (s5_:Sl) (i6:Int) (h:H):Prop:=
 yi f0_ fun t0=>
 zbY t0 i6 (t0.size:Int) fun t1=>
 newS 1 1 [.str t1] h fun s2 h3=>
 app s5_ s2 1 h3 fun s4 h5=>
 K (.sl s4) h5
def zjN (S:SatT) (K:KT) (X0:XT) (f0_:AVal) (i1:Int) (s5_:Sl) (i6 i7:Int) (h:H):Prop:=
 yi f0_ fun t0=>
 bif (decide (i7<(t0.size:Int))) then
 yi f0_ fun t1=>
 Y7 t1 i7 fun n2=>
 bif (n2==i1) then
 yi f0_ fun t3=>
 zbY t3 i6 i7 fun t4=>
 newS 1 1 [.str t4] h fun s5 h6=>
 app s5_ s5 1 h6 fun s7 h8=>
 X0 (Yz f0_ i1 s7 (w64 (i7+(1))) (w64 (i7+(1)))) h8
 else
 X0 (Yz f0_ i1 s5_ i6 (w64 (i7+(1)))) h
 else
 zwf S K f0_ s5_ i6 h
theorem znP (S:SatT) (K:KT) (X0:XT) (f0_:AVal) (i1:Int) (s5_:Sl) (i6 i7:Int) (h:H):zwc S K X0 (Yz f0_ i1 s5_ i6 i7) h=zjN S K X0 f0_ i1 s5_ i6 i7 h:=by kernel_rfl
theorem znO (S:SatT) (K:KT) (f0_:AVal) (i1:Int) (I_:Sl→Int→Int→H→Prop) (m_:Sl→Int→Int→H→Nat)
  (hs:∀(X0:XT) (s5_:Sl) (i6 i7:Int) (h:H),I_ s5_ i6 i7 h→(∀(s5_':Sl) (i6' i7':Int) (h':H),I_ s5_' i6' i7' h'→m_ s5_' i6' i7' h'<m_ s5_ i6 i7 h→X0 (Yz f0_ i1 s5_' i6' i7') h')→zjN S K X0 f0_ i1 s5_ i6 i7 h) (s5_:Sl) (i6 i7:Int) {h:H} (h0:I_ s5_ i6 i7 h):zwe S K f0_ i1 s5_ i6 i7 h:=
 zg (σ :=(Sl)×(Int)×(Int)) (fun s_=>Yz f0_ i1 (s_.1) (s_.2.1) (s_.2.2)) (fun s_ h=>I_ (s_.1) (s_.2.1) (s_.2.2) h) (fun s_ h=>m_ (s_.1) (s_.2.1) (s_.2.2) h)
  (fun X s_ h hi hx=>(znP S K X f0_ i1 (s_.1) (s_.2.1) (s_.2.2) h).mpr (hs X (s_.1) (s_.2.1) (s_.2.2) h hi fun s5_' i6' i7' h' hi' hm'=>hx (s5_',i6',i7') h' hi' hm')) (s5_,i6,i7) h0
def Ww (S:SatT) (K:KT) (x0:AVal) (x1:Int) (h:H):Prop:=
 newS 0 1 [] h fun s0 h1=>
 zwe S K x0 x1 s0 (0) (0) h1
theorem QB (S:SatT) (K:KT) (x0:AVal) (x1:Int) (h:H):cwp S tab zbF [] (za Tryz.f169) (kFun tab Tryz.f169.results.toList K) (fr0 Tryz.f169 [x0,.int .u8 x1]) h=Ww S K x0 x1 h:=by kernel_rfl
theorem zwd (x0:AVal) (x1:Int) (h:H) (K:Sl→H→Prop) (hm:Ww (Sat Tryz.prog) (fun v h'=>∃r,v = .sl r∧K r h') x0 x1 h):callS (Sat Tryz.prog) zlN [x0,.int .u8 x1] h K:=by
 have:=Sat.ex tok mixed zbF Tryz.func169 (c:=za Tryz.f169) (by kernel_rfl) (zd Tryz.func169 (c:=za Tryz.f169) (by kernel_rfl) (by decide)) ((QB _ _ x0 x1 h).mpr hm)
 obtain ⟨v,h2,h3,r,rfl,h4⟩:=this;exact ⟨r,h2,h3,h4⟩
def zbW:Nat→List Nat:=fun i=>bif i==0 then [0,1,16,17,18] else []
def zEp (S:SatT) (K:KT):Kont:=kSeq (cwp S tab zbW [] (sq Tryz.f109 3 7) (kFun tab (Tryz.f109).results.toList K)) (kFun tab (Tryz.f109).results.toList K)
def Qq (s0_:Sl) (i1:Int) (s16_:Sl) (i17 i18:Int):Frame:=(.sl s0_ :: .int .i64 i1::uu 14 (.sl s16_ :: .int .i64 i17 :: .int .i64 i18::uu 22 []))
def zAj (S:SatT) (K:KT):(XT)→XT:=fun X fr h=>cwp S tab zbW (zbW 0) (sq Tryz.f109 6 52) (kSeq (fun fr h=>X (mask (zbW 0) fr) h) (kBlk 0 (zEp S K))) fr h
def zAl (S:SatT) (K:KT) (s0_:Sl) (i1:Int) (s16_:Sl) (i17 i18:Int) (h:H):Prop:=zs (zAj S K) (Qq s0_ i1 s16_ i17 i18) h
def zAm (S:SatT) (K:KT) (h:H):Prop:=
 K (.bool true) h
def zkU (S:SatT) (K:KT) (X0:XT) (s0_:Sl) (i1:Int) (s16_:Sl) (i17 i18:Int) (h:H):Prop:=
 bif (decide (i18<i17)) then
 ixS s16_ 1 i18 fun p0=>
 ldS p0 h fun s1=>
 ixS s0_ 1 (0) fun p2=>
 ldS p2 h fun s3=>
 bif ((s1.len:Int) != (s3.len:Int)) then
 K (.bool false) h
 else
 bif (decide ((s1.len:Int)<(1))) then
 K (.bool false) h
 else
 bif (decide ((s1.len:Int)>i1)) then
 K (.bool false) h
 else
 X0 (Qq s0_ i1 s16_ i17 (w64 (i18+(1)))) h
 else
 zAm S K h
theorem zpO (S:SatT) (K:KT) (X0:XT) (s0_:Sl) (i1:Int) (s16_:Sl) (i17 i18:Int) (h:H):zAj S K X0 (Qq s0_ i1 s16_ i17 i18) h=zkU S K X0 s0_ i1 s16_ i17 i18 h:=by kernel_rfl
theorem zpN (S:SatT) (K:KT) (s0_:Sl) (i1:Int) (s16_:Sl) (i17:Int) (I_:Int→H→Prop) (m_:Int→H→Nat)
  (hs:∀(X0:XT) (i18:Int) (h:H),I_ i18 h→(∀(i18':Int) (h':H),I_ i18' h'→m_ i18' h'<m_ i18 h→X0 (Qq s0_ i1 s16_ i17 i18') h')→zkU S K X0 s0_ i1 s16_ i17 i18 h) (i18:Int) {h:H} (h0:I_ i18 h):zAl S K s0_ i1 s16_ i17 i18 h:=
 zg (σ :=(Int)) (fun s_=>Qq s0_ i1 s16_ i17 (s_)) (fun s_ h=>I_ (s_) h) (fun s_ h=>m_ (s_) h)
  (fun X s_ h hi hx=>(zpO S K X s0_ i1 s16_ i17 (s_) h).mpr (hs X (s_) h hi fun i18' h' hi' hm'=>hx (i18') h' hi' hm')) (i18) h0
def Qp (S:SatT) (K:KT) (x0:Sl) (x1:Int) (h:H):Prop:=
 bif (decide ((x0.len:Int)<(1))) then
 K (.bool false) h
 else
 bif (decide ((x0.len:Int)>x1)) then
 K (.bool false) h
 else
 zAl S K x0 x1 x0 (x0.len:Int) (0) h
theorem zaK (S:SatT) (K:KT) (x0:Sl) (x1:Int) (h:H):cwp S tab zbW [] (za Tryz.f109) (kFun tab Tryz.f109.results.toList K) (fr0 Tryz.f109 [.sl x0,.int .i64 x1]) h=Qp S K x0 x1 h:=by kernel_rfl
theorem zAk (x0:Sl) (x1:Int) (h:H) (K:Bool→H→Prop) (hm:Qp (Sat Tryz.prog) (fun v h'=>∃r,v = .bool r∧K r h') x0 x1 h):callB (Sat Tryz.prog) zrY [.sl x0,.int .i64 x1] h K:=by
 have:=Sat.ex tok mixed zbW Tryz.func109 (c:=za Tryz.f109) (by kernel_rfl) (zd Tryz.func109 (c:=za Tryz.f109) (by kernel_rfl) (by decide)) ((zaK _ _ x0 x1 h).mpr hm)
 obtain ⟨v,h2,h3,r,rfl,h4⟩:=this;exact ⟨r,h2,h3,h4⟩
def zny:Nat→List Nat:=fun i=>bif i==0 then [0,1,5,6] else []
def zJh (S:SatT) (K:KT):Kont:=kSeq (cwp S tab zny [] (sq Tryz.f92 3 7) (kFun tab (Tryz.f92).results.toList K)) (kFun tab (Tryz.f92).results.toList K)
def zhw (s0_:Sl) (i1:Int) (s5_:Sl) (i6:Int):Frame:=(.sl s0_ :: .int .i64 i1::U::U::U :: .sl s5_ :: .int .i64 i6::uu 19 [])
def zEY (S:SatT) (K:KT):(XT)→XT:=fun X fr h=>cwp S tab zny (zny 0) (sq Tryz.f92 6 52) (kSeq (fun fr h=>X (mask (zny 0) fr) h) (kBlk 0 (zJh S K))) fr h
def zEZ (S:SatT) (K:KT) (s0_:Sl) (i1:Int) (s5_:Sl) (i6:Int) (h:H):Prop:=zs (zEY S K) (zhw s0_ i1 s5_ i6) h
def zFa (S:SatT) (K:KT) (s5_:Sl) (h:H):Prop:=
 K (.sl s5_) h
def zsn (S:SatT) (K:KT) (X0:XT) (s0_:Sl) (i1:Int) (s5_:Sl) (i6:Int) (h:H):Prop:=
 bif (decide (i6<(s0_.len:Int))) then
 cut s0_ 1 i6 (w64 (i6+i1)) h fun s0=>
 callS S zhl [.sl s0] h fun s2 h1=>
 newS 1 1 [.sl s2] h1 fun s3 h4=>
 app s5_ s3 1 h4 fun s5 h6=>
 X0 (zhw s0_ i1 s5 (w64 (i6+i1))) h6
 else
 zFa S K s5_ h
theorem zsm (S:SatT) (K:KT) (X0:XT) (s0_:Sl) (i1:Int) (s5_:Sl) (i6:Int) (h:H):zEY S K X0 (zhw s0_ i1 s5_ i6) h=zsn S K X0 s0_ i1 s5_ i6 h:=by kernel_rfl
theorem zsl (S:SatT) (K:KT) (s0_:Sl) (i1:Int) (I_:Sl→Int→H→Prop) (m_:Sl→Int→H→Nat)
  (hs:∀(X0:XT) (s5_:Sl) (i6:Int) (h:H),I_ s5_ i6 h→(∀(s5_':Sl) (i6':Int) (h':H),I_ s5_' i6' h'→m_ s5_' i6' h'<m_ s5_ i6 h→X0 (zhw s0_ i1 s5_' i6') h')→zsn S K X0 s0_ i1 s5_ i6 h) (s5_:Sl) (i6:Int) {h:H} (h0:I_ s5_ i6 h):zEZ S K s0_ i1 s5_ i6 h:=
 zg (σ :=(Sl)×(Int)) (fun s_=>zhw s0_ i1 (s_.1) (s_.2)) (fun s_ h=>I_ (s_.1) (s_.2) h) (fun s_ h=>m_ (s_.1) (s_.2) h)
  (fun X s_ h hi hx=>(zsm S K X s0_ i1 (s_.1) (s_.2) h).mpr (hs X (s_.1) (s_.2) h hi fun s5_' i6' h' hi' hm'=>hx (s5_',i6') h' hi' hm')) (s5_,i6) h0
def zcV (S:SatT) (K:KT) (x0:Sl) (x1:Int) (h:H):Prop:=
 newS 0 1 [] h fun s0 h1=>
 zEZ S K x0 x1 s0 (0) h1
theorem zcU (S:SatT) (K:KT) (x0:Sl) (x1:Int) (h:H):cwp S tab zny [] (za Tryz.f92) (kFun tab Tryz.f92.results.toList K) (fr0 Tryz.f92 [.sl x0,.int .i64 x1]) h=zcV S K x0 x1 h:=by kernel_rfl
theorem zCn (x0:Sl) (x1:Int) (h:H) (K:Sl→H→Prop) (hm:zcV (Sat Tryz.prog) (fun v h'=>∃r,v = .sl r∧K r h') x0 x1 h):callS (Sat Tryz.prog) zII [.sl x0,.int .i64 x1] h K:=by
 have:=Sat.ex tok mixed zny Tryz.func92 (c:=za Tryz.f92) (by kernel_rfl) (zd Tryz.func92 (c:=za Tryz.f92) (by kernel_rfl) (by decide)) ((zcU _ _ x0 x1 h).mpr hm)
 obtain ⟨v,h2,h3,r,rfl,h4⟩:=this;exact ⟨r,h2,h3,h4⟩
def znD:Nat→List Nat:=fun i=>bif i==0 then [0,1,5] else []
def zJl (S:SatT) (K:KT):Kont:=kSeq (cwp S tab znD [] (sq Tryz.f80 3 7) (kFun tab (Tryz.f80).results.toList K)) (kFun tab (Tryz.f80).results.toList K)
def zhG (i0 i1 i5:Int):Frame:=(.int .i64 i0 :: .int .i64 i1::U::U::U :: .int .i64 i5::uu 8 [])
def zGd (S:SatT) (K:KT):(XT)→XT:=fun X fr h=>cwp S tab znD (znD 0) (sq Tryz.f80 5 24) (kSeq (fun fr h=>X (mask (znD 0) fr) h) (kBlk 0 (zJl S K))) fr h
def zGe (S:SatT) (K:KT) (i0 i1 i5:Int) (h:H):Prop:=zs (zGd S K) (zhG i0 i1 i5) h
def zGf (S:SatT) (K:KT) (i5:Int) (h:H):Prop:=
 K (.int .i64 i5) h
def ztB (S:SatT) (K:KT) (X0:XT) (i0 i1 i5:Int) (h:H):Prop:=
 bif (decide (i1>(0))) then
 X0 (zhG i0 (w64 (i1-(1))) (w64 (i5*i0))) h
 else
 zGf S K i5 h
theorem ztA (S:SatT) (K:KT) (X0:XT) (i0 i1 i5:Int) (h:H):zGd S K X0 (zhG i0 i1 i5) h=ztB S K X0 i0 i1 i5 h:=by kernel_rfl
theorem ztz (S:SatT) (K:KT) (i0:Int) (I_:Int→Int→H→Prop) (m_:Int→Int→H→Nat)
  (hs:∀(X0:XT) (i1 i5:Int) (h:H),I_ i1 i5 h→(∀(i1' i5':Int) (h':H),I_ i1' i5' h'→m_ i1' i5' h'<m_ i1 i5 h→X0 (zhG i0 i1' i5') h')→ztB S K X0 i0 i1 i5 h) (i1 i5:Int) {h:H} (h0:I_ i1 i5 h):zGe S K i0 i1 i5 h:=
 zg (σ :=(Int)×(Int)) (fun s_=>zhG i0 (s_.1) (s_.2)) (fun s_ h=>I_ (s_.1) (s_.2) h) (fun s_ h=>m_ (s_.1) (s_.2) h)
  (fun X s_ h hi hx=>(ztA S K X i0 (s_.1) (s_.2) h).mpr (hs X (s_.1) (s_.2) h hi fun i1' i5' h' hi' hm'=>hx (i1',i5') h' hi' hm')) (i1,i5) h0
def zdw (S:SatT) (K:KT) (x0 x1:Int) (h:H):Prop:=
 zGe S K x0 x1 (1) h
theorem zdv (S:SatT) (K:KT) (x0 x1:Int) (h:H):cwp S tab znD [] (za Tryz.f80) (kFun tab Tryz.f80.results.toList K) (fr0 Tryz.f80 [.int .i64 x0,.int .i64 x1]) h=zdw S K x0 x1 h:=by kernel_rfl
theorem zCC (x0 x1:Int) (h:H) (K:Int→H→Prop) (hm:zdw (Sat Tryz.prog) (fun v h'=>∃r,v = .int .i64 r∧K r h') x0 x1 h):callI (Sat Tryz.prog) .i64 zcx [.int .i64 x0,.int .i64 x1] h K:=by
 have:=Sat.ex tok mixed znD Tryz.func80 (c:=za Tryz.f80) (by kernel_rfl) (zd Tryz.func80 (c:=za Tryz.f80) (by kernel_rfl) (by decide)) ((zdv _ _ x0 x1 h).mpr hm)
 obtain ⟨v,h2,h3,r,rfl,h4⟩:=this;exact ⟨r,h2,h3,h4⟩
def zHL:Nat→List Nat:=fun i=>[]
def Qm (S:SatT) (K:KT) (x0:Pt) (h:H):Prop:=
 newO [.int .i64 (0),.sl Sl.nil] h fun p0 h1=>
 callI S .i64 zZ [.ptr x0,.int .i64 (3)] h1 fun n3 h2=>
 bif (n3==(0)) then
 callS S zlR [] h2 fun s5 h4=>
 callI S .i64 zZ [.ptr x0,.int .i64 (s5.len:Int)] h4 fun n7 h6=>
 ixS s5 1 n7 fun p8=>
 ldV p8 h6 fun v9=>
 callV S zrK [v9] h6 fun v11 h10=>
 viaT v11 fun vs12=>
 exA vs12 0 fun cs13=>
 viaT v11 fun vs14=>
 exB vs14 1 fun b15=>
 newO [.int .i64 (0),.sl Sl.nil] h10 fun p16 h17=>
 stN p16 2 cs13 h17 fun h18=>
 ldA p16 2 h18 fun cs19=>
 isPt p16 (
 ldI .i64 (Pt.add p16 0) h18 fun n20=>
 callS S zrI [.ptr x0,.int .i64 n20] h18 fun s22 h21=>
(range h21 p16.o p16.n p16.off 2=range h18 p16.o p16.n p16.off 2)∧(
 callA S zrJ [.agg cs19,.sl s22] h21 fun cs24 h23=>
 stN p0 2 cs24 h23 fun h25=>
 ldA p0 2 h25 fun cs26=>
 K (.agg cs26) h25))
 else
 newS 5 1 [.int .i64 (1),.int .i64 (2),.int .i64 (2),.int .i64 (2),.int .i64 (3)] h2 fun s27 h28=>
 callI S .i64 Zi [.ptr x0,.sl s27] h28 fun n30 h29=>
 newS 3 1 [.int .i64 (3),.int .i64 (6),.int .i64 (9)] h29 fun s31 h32=>
 callI S .i64 Zi [.ptr x0,.sl s31] h32 fun n34 h33=>
 callI S .i64 zZ [.ptr x0,.int .i64 n34] h33 fun n36 h35=>
 callA S YX [.ptr x0,.int .i64 n30,.int .i64 n36] h35 fun cs38 h37=>
 stN p0 2 cs38 h37 fun h39=>
 ldA p0 2 h39 fun cs40=>
 K (.agg cs40) h39
theorem zaH (S:SatT) (K:KT) (x0:Pt) (h:H):cwp S tab zHL [] (za Tryz.f113) (kFun tab Tryz.f113.results.toList K) (fr0 Tryz.f113 [.ptr x0]) h=Qm S K x0 h:=by kernel_rfl
theorem zAg (x0:Pt) (h:H) (K:List AVal→H→Prop) (hm:Qm (Sat Tryz.prog) (fun v h'=>∃r,v = .agg r∧K r h') x0 h):callA (Sat Tryz.prog) Wh [.ptr x0] h K:=by
 have:=Sat.ex tok mixed zHL Tryz.func113 (c:=za Tryz.f113) (by kernel_rfl) (zd Tryz.func113 (c:=za Tryz.f113) (by kernel_rfl) (by decide)) ((zaH _ _ x0 h).mpr hm)
 obtain ⟨v,h2,h3,r,rfl,h4⟩:=this;exact ⟨r,h2,h3,h4⟩
def zMv:Nat→List Nat:=fun i=>[]
def zdK (S:SatT) (K:KT) (x0:List AVal) (x1 x2:Int) (x3 x4:Int) (h:H):Prop:=
 newK 4 x0 h fun p0 h1=>
 newO [.int .i64 (0),.int .i64 (0),.int .i64 (0),.int .i64 (0)] h1 fun p2 h3=>
 ixA p0 4 1 x1 fun p4=>
 ldI .i64 p4 h3 fun n5=>
 ixA p0 4 1 x2 fun p6=>
 ldI .i64 p6 h3 fun n7=>
 ixA p0 4 1 x3 fun p8=>
 ldI .i64 p8 h3 fun n9=>
 ixA p0 4 1 x4 fun p10=>
 ldI .i64 p10 h3 fun n11=>
 stN p2 4 [.int .i64 n5,.int .i64 n7,.int .i64 n9,.int .i64 n11] h3 fun h12=>
 ldA p2 4 h12 fun cs13=>
 K (.agg cs13) h12
theorem zdJ (S:SatT) (K:KT) (x0:List AVal) (x1 x2:Int) (x3 x4:Int) (h:H):cwp S tab zMv [] (za Tryz.f70) (kFun tab Tryz.f70.results.toList K) (fr0 Tryz.f70 [.agg x0,.int .i64 x1,.int .i64 x2,.int .i64 x3,.int .i64 x4]) h=zdK S K x0 x1 x2 x3 x4 h:=by kernel_rfl
theorem zCJ (x0:List AVal) (x1 x2:Int) (x3 x4:Int) (h:H) (K:List AVal→H→Prop) (hm:zdK (Sat Tryz.prog) (fun v h'=>∃r,v = .agg r∧K r h') x0 x1 x2 x3 x4 h):callA (Sat Tryz.prog) zBR [.agg x0,.int .i64 x1,.int .i64 x2,.int .i64 x3,.int .i64 x4] h K:=by
 have:=Sat.ex tok mixed zMv Tryz.func70 (c:=za Tryz.f70) (by kernel_rfl) (zd Tryz.func70 (c:=za Tryz.f70) (by kernel_rfl) (by decide)) ((zdJ _ _ x0 x1 x2 x3 x4 h).mpr hm)
 obtain ⟨v,h2,h3,r,rfl,h4⟩:=this;exact ⟨r,h2,h3,h4⟩
def zHM:Nat→List Nat:=fun i=>[]
def Qn (S:SatT) (K:KT) (x0:Pt) (x1:Int) (h:H):Prop:=
 newO [.int .i64 (0),.int .i64 (0),.int .i64 (0),.int .i64 (0)] h fun p0 h1=>
 callI S .i64 zZ [.ptr x0,.int .i64 x1] h1 fun n3 h2=>
 callI S .i64 zZ [.ptr x0,.int .i64 x1] h2 fun n5 h4=>
 callI S .i64 zZ [.ptr x0,.int .i64 x1] h4 fun n7 h6=>
 callI S .i64 zZ [.ptr x0,.int .i64 x1] h6 fun n9 h8=>
 stN p0 4 [.int .i64 n3,.int .i64 n5,.int .i64 n7,.int .i64 n9] h8 fun h10=>
 ldA p0 4 h10 fun cs11=>
 K (.agg cs11) h10
theorem zaI (S:SatT) (K:KT) (x0:Pt) (x1:Int) (h:H):cwp S tab zHM [] (za Tryz.f112) (kFun tab Tryz.f112.results.toList K) (fr0 Tryz.f112 [.ptr x0,.int .i64 x1]) h=Qn S K x0 x1 h:=by kernel_rfl
theorem zAh (x0:Pt) (x1:Int) (h:H) (K:List AVal→H→Prop) (hm:Qn (Sat Tryz.prog) (fun v h'=>∃r,v = .agg r∧K r h') x0 x1 h):callA (Sat Tryz.prog) zlV [.ptr x0,.int .i64 x1] h K:=by
 have:=Sat.ex tok mixed zHM Tryz.func112 (c:=za Tryz.f112) (by kernel_rfl) (zd Tryz.func112 (c:=za Tryz.f112) (by kernel_rfl) (by decide)) ((zaI _ _ x0 x1 h).mpr hm)
 obtain ⟨v,h2,h3,r,rfl,h4⟩:=this;exact ⟨r,h2,h3,h4⟩
def zMj:Nat→List Nat:=fun i=>[]
def zcF (S:SatT) (K:KT) (x0:List AVal) (x1 x2:Int) (h:H):Prop:=
 newK 2 x0 h fun p0 h1=>
 vp 7 h1 fun h2=>
 ldA p0 2 h2 fun cs3=>
 callS S zrM [.int .i64 x1,.int .i64 x2] h2 fun s5 h4=>
(range h4 p0.o p0.n p0.off 2=range h2 p0.o p0.n p0.off 2)∧(
 zLU (4) [.sl Sl.nil] h4 (h1.length+4) fun s6 h7=>
(range h7 p0.o p0.n p0.off 2=range h2 p0.o p0.n p0.off 2)∧(
 callP S zhh [.agg cs3,.sl s5,.sl s6] h7 fun p9 h8=>
 K (.ptr p9) h8))
theorem zcE (S:SatT) (K:KT) (x0:List AVal) (x1 x2:Int) (h:H):cwp S tab zMj [] (za Tryz.f100) (kFun tab Tryz.f100.results.toList K) (fr0 Tryz.f100 [.agg x0,.int .i64 x1,.int .i64 x2]) h=zcF S K x0 x1 x2 h:=by kernel_rfl
theorem zCf (x0:List AVal) (x1 x2:Int) (h:H) (K:Pt→H→Prop) (hm:zcF (Sat Tryz.prog) (fun v h'=>∃r,v = .ptr r∧K r h') x0 x1 x2 h):callP (Sat Tryz.prog) zrr [.agg x0,.int .i64 x1,.int .i64 x2] h K:=by
 have:=Sat.ex tok mixed zMj Tryz.func100 (c:=za Tryz.f100) (by kernel_rfl) (zd Tryz.func100 (c:=za Tryz.f100) (by kernel_rfl) (by decide)) ((zcE _ _ x0 x1 x2 h).mpr hm)
 obtain ⟨v,h2,h3,r,rfl,h4⟩:=this;exact ⟨r,h2,h3,h4⟩
def zMn:Nat→List Nat:=fun i=>[]
def zcN (S:SatT) (K:KT) (x0:Pt) (x1:Int) (h:H):Prop:=
 callI S .i64 zZ [.ptr x0,.int .i64 (14)] h fun n1 h0=>
 bif (n1==(0)) then
 newS 4 1 [.int .i64 (-1),.int .i64 (w64 (x1+(1))),.int .i64 (1099511627776),.int .i64 (-4611686018427387904)] h0 fun s2 h3=>
 callI S .i64 Zi [.ptr x0,.sl s2] h3 fun n5 h4=>
 K (.int .i64 n5) h4
 else
 callI S .i64 zZ [.ptr x0,.int .i64 (w64 (x1+(1)))] h0 fun n7 h6=>
 K (.int .i64 n7) h6
theorem zcM (S:SatT) (K:KT) (x0:Pt) (x1:Int) (h:H):cwp S tab zMn [] (za Tryz.f96) (kFun tab Tryz.f96.results.toList K) (fr0 Tryz.f96 [.ptr x0,.int .i64 x1]) h=zcN S K x0 x1 h:=by kernel_rfl
theorem zCj (x0:Pt) (x1:Int) (h:H) (K:Int→H→Prop) (hm:zcN (Sat Tryz.prog) (fun v h'=>∃r,v = .int .i64 r∧K r h') x0 x1 h):callI (Sat Tryz.prog) .i64 zBL [.ptr x0,.int .i64 x1] h K:=by
 have:=Sat.ex tok mixed zMn Tryz.func96 (c:=za Tryz.f96) (by kernel_rfl) (zd Tryz.func96 (c:=za Tryz.f96) (by kernel_rfl) (by decide)) ((zcM _ _ x0 x1 h).mpr hm)
 obtain ⟨v,h2,h3,r,rfl,h4⟩:=this;exact ⟨r,h2,h3,h4⟩
def zNd:Nat→List Nat:=fun i=>[]
def zfR (S:SatT) (K:KT) (x0:Sl) (h:H):Prop:=
 newO [.int .i64 (0),.sl Sl.nil] h fun p0 h1=>
 callP S zjn [.sl x0] h1 fun p3 h2=>
 callV S zBP [.ptr p3] h2 fun v5 h4=>
 viaT v5 fun vs6=>
 exA vs6 0 fun cs7=>
 viaT v5 fun vs8=>
 exS vs8 1 fun s9=>
 viaT v5 fun vs10=>
 exS vs10 2 fun s11=>
 newO [.int .i64 (0),.sl Sl.nil] h4 fun p12 h13=>
 stN p12 2 cs7 h13 fun h14=>
 ldA p12 2 h14 fun cs15=>
 stN p0 2 cs15 h14 fun h16=>
 ldA p0 2 h16 fun cs17=>
 K (.tuple [.agg cs17,.sl s9,.sl s11]) h16
theorem zfQ (S:SatT) (K:KT) (x0:Sl) (h:H):cwp S tab zNd [] (za Tryz.f28) (kFun tab Tryz.f28.results.toList K) (fr0 Tryz.f28 [.sl x0]) h=zfR S K x0 h:=by kernel_rfl
theorem zDQ (x0:Sl) (h:H) (K:KT) (hm:zfR (Sat Tryz.prog) (fun v h'=>K v h') x0 h):callV (Sat Tryz.prog) zIX [.sl x0] h K:=by
 have:=Sat.ex tok mixed zNd Tryz.func28 (c:=za Tryz.f28) (by kernel_rfl) (zd Tryz.func28 (c:=za Tryz.f28) (by kernel_rfl) (by decide)) ((zfQ _ _ x0 h).mpr hm)
 exact this
def zHw:Nat→List Nat:=fun i=>[]
def WY (S:SatT) (K:KT) (x0:List AVal) (x1:Sl) (h:H):Prop:=
 newK 2 x0 h fun p0 h1=>
 callB S Wf [.int .i64 (x1.len:Int),.int .i64 (1),.int .i64 (20)] h1 fun b3 h2=>
 bif b3 then
 callB S zlQ [.sl x1,.func 164 [.ptr p0]] h2 fun b5 h4=>
 K (.bool (!b5)) h4
 else
 K (.bool false) h2
theorem QY (S:SatT) (K:KT) (x0:List AVal) (x1:Sl) (h:H):cwp S tab zHw [] (za Tryz.f151) (kFun tab Tryz.f151.results.toList K) (fr0 Tryz.f151 [.agg x0,.sl x1]) h=WY S K x0 x1 h:=by kernel_rfl
theorem zxp (x0:List AVal) (x1:Sl) (h:H) (K:Bool→H→Prop) (hm:WY (Sat Tryz.prog) (fun v h'=>∃r,v = .bool r∧K r h') x0 x1 h):callB (Sat Tryz.prog) zbt [.agg x0,.sl x1] h K:=by
 have:=Sat.ex tok mixed zHw Tryz.func151 (c:=za Tryz.f151) (by kernel_rfl) (zd Tryz.func151 (c:=za Tryz.f151) (by kernel_rfl) (by decide)) ((QY _ _ x0 x1 h).mpr hm)
 obtain ⟨v,h2,h3,r,rfl,h4⟩:=this;exact ⟨r,h2,h3,h4⟩
def zHI:Nat→List Nat:=fun i=>[]
def Qj (S:SatT) (K:KT) (x0 x1:List AVal) (h:H):Prop:=
 newK 4 x0 h fun p0 h1=>
 newK 4 x1 h1 fun p2 h3=>
 cutA p0 4 1 (0) ((4:Nat):Int) fun s4=>
 cutA p2 4 1 (0) ((4:Nat):Int) fun s5=>
 callI S .i64 zrG [.sl s4,.sl s5] h3 fun n7 h6=>
 K (.int .i64 n7) h6
theorem zaE (S:SatT) (K:KT) (x0 x1:List AVal) (h:H):cwp S tab zHI [] (za Tryz.f116) (kFun tab Tryz.f116.results.toList K) (fr0 Tryz.f116 [.agg x0,.agg x1]) h=Qj S K x0 x1 h:=by kernel_rfl
theorem zAd (x0 x1:List AVal) (h:H) (K:Int→H→Prop) (hm:Qj (Sat Tryz.prog) (fun v h'=>∃r,v = .int .i64 r∧K r h') x0 x1 h):callI (Sat Tryz.prog) .i64 qV [.agg x0,.agg x1] h K:=by
 have:=Sat.ex tok mixed zHI Tryz.func116 (c:=za Tryz.f116) (by kernel_rfl) (zd Tryz.func116 (c:=za Tryz.f116) (by kernel_rfl) (by decide)) ((zaE _ _ x0 x1 h).mpr hm)
 obtain ⟨v,h2,h3,r,rfl,h4⟩:=this;exact ⟨r,h2,h3,h4⟩
def zMy:Nat→List Nat:=fun i=>[]
def zdS (S:SatT) (K:KT) (x0:List AVal) (x1:AVal) (h:H):Prop:=
 newK 2 x0 h fun p0 h1=>
 ldA p0 2 h1 fun cs2=>
 callB S zns [.agg cs2] h1 fun b4 h3=>
 bif (!b4) then
 K (.int .i64 (1)) h3
 else
 viaF x1 [] fun g5 ys6=>
 callB S g5 ys6 h3 fun b8 h7=>
 bif (!b8) then
 K (.int .i64 (2)) h7
 else
 K (.int .i64 (0)) h7
theorem zdR (S:SatT) (K:KT) (x0:List AVal) (x1:AVal) (h:H):cwp S tab zMy [] (za Tryz.f48) (kFun tab Tryz.f48.results.toList K) (fr0 Tryz.f48 [.agg x0,x1]) h=zdS S K x0 x1 h:=by kernel_rfl
theorem zCN (x0:List AVal) (x1:AVal) (h:H) (K:Int→H→Prop) (hm:zdS (Sat Tryz.prog) (fun v h'=>∃r,v = .int .i64 r∧K r h') x0 x1 h):callI (Sat Tryz.prog) .i64 zBU [.agg x0,x1] h K:=by
 have:=Sat.ex tok mixed zMy Tryz.func48 (c:=za Tryz.f48) (by kernel_rfl) (zd Tryz.func48 (c:=za Tryz.f48) (by kernel_rfl) (by decide)) ((zdR _ _ x0 x1 h).mpr hm)
 obtain ⟨v,h2,h3,r,rfl,h4⟩:=this;exact ⟨r,h2,h3,h4⟩
def zHz:Nat→List Nat:=fun i=>[]
def Va (S:SatT) (K:KT) (x0:Int) (x1:Sl) (h:H):Prop:=
 newO [.int .i64 (0),.sl Sl.nil] h fun p0 h1=>
 callS S zry [.sl x1] h1 fun s3 h2=>
 stN p0 2 [.int .i64 x0,.sl s3] h2 fun h4=>
 ldA p0 2 h4 fun cs5=>
 K (.agg cs5) h4
theorem Q5 (S:SatT) (K:KT) (x0:Int) (x1:Sl) (h:H):cwp S tab zHz [] (za Tryz.f145) (kFun tab Tryz.f145.results.toList K) (fr0 Tryz.f145 [.int .i64 x0,.sl x1]) h=Va S K x0 x1 h:=by kernel_rfl
theorem zxH (x0:Int) (x1:Sl) (h:H) (K:List AVal→H→Prop) (hm:Va (Sat Tryz.prog) (fun v h'=>∃r,v = .agg r∧K r h') x0 x1 h):callA (Sat Tryz.prog) zbu [.int .i64 x0,.sl x1] h K:=by
 have:=Sat.ex tok mixed zHz Tryz.func145 (c:=za Tryz.f145) (by kernel_rfl) (zd Tryz.func145 (c:=za Tryz.f145) (by kernel_rfl) (by decide)) ((Q5 _ _ x0 x1 h).mpr hm)
 obtain ⟨v,h2,h3,r,rfl,h4⟩:=this;exact ⟨r,h2,h3,h4⟩
def zHx:Nat→List Nat:=fun i=>[]
def W8 (S:SatT) (K:KT) (x0:Int) (x1:Pt) (h:H):Prop:=
 ldI .i64 x1 h fun n0=>
 callB S Wf [.int .i64 x0,.int .i64 (0),.int .i64 (w64 (n0-(1)))] h fun b2 h1=>
 K (.bool (!b2)) h1
theorem Q3 (S:SatT) (K:KT) (x0:Int) (x1:Pt) (h:H):cwp S tab zHx [] (za Tryz.f147) (kFun tab Tryz.f147.results.toList K) (fr0 Tryz.f147 [.int .i64 x0,.ptr x1]) h=W8 S K x0 x1 h:=by kernel_rfl
theorem zxF (x0:Int) (x1:Pt) (h:H) (K:Bool→H→Prop) (hm:W8 (Sat Tryz.prog) (fun v h'=>∃r,v = .bool r∧K r h') x0 x1 h):callB (Sat Tryz.prog) zrH [.int .i64 x0,.ptr x1] h K:=by
 have:=Sat.ex tok mixed zHx Tryz.func147 (c:=za Tryz.f147) (by kernel_rfl) (zd Tryz.func147 (c:=za Tryz.f147) (by kernel_rfl) (by decide)) ((Q3 _ _ x0 x1 h).mpr hm)
 obtain ⟨v,h2,h3,r,rfl,h4⟩:=this;exact ⟨r,h2,h3,h4⟩
def zMm:Nat→List Nat:=fun i=>[]
def zcL (S:SatT) (K:KT) (x0 x1 x2:Int) (h:H):Prop:=
 bif (decide (x0≥x1)) then
 K (.bool (decide (x0≤x2))) h
 else
 K (.bool false) h
theorem zcK (S:SatT) (K:KT) (x0 x1 x2:Int) (h:H):cwp S tab zMm [] (za Tryz.f97) (kFun tab Tryz.f97.results.toList K) (fr0 Tryz.f97 [.int .i64 x0,.int .i64 x1,.int .i64 x2]) h=zcL S K x0 x1 x2 h:=by kernel_rfl
theorem zCi (x0 x1 x2:Int) (h:H) (K:Bool→H→Prop) (hm:zcL (Sat Tryz.prog) (fun v h'=>∃r,v = .bool r∧K r h') x0 x1 x2 h):callB (Sat Tryz.prog) We [.int .i64 x0,.int .i64 x1,.int .i64 x2] h K:=by
 have:=Sat.ex tok mixed zMm Tryz.func97 (c:=za Tryz.f97) (by kernel_rfl) (zd Tryz.func97 (c:=za Tryz.f97) (by kernel_rfl) (by decide)) ((zcK _ _ x0 x1 x2 h).mpr hm)
 obtain ⟨v,h2,h3,r,rfl,h4⟩:=this;exact ⟨r,h2,h3,h4⟩
def zMw:Nat→List Nat:=fun i=>[]
def zdO (S:SatT) (K:KT) (x0:Int) (h:H):Prop:=
 bif (decide (x0>(1000000000000000))) then
 K (.tuple [.int .i64 (0),.int .i64 (3)]) h
 else
 K (.tuple [.int .i64 x0,.int .i64 (0)]) h
theorem zdN (S:SatT) (K:KT) (x0:Int) (h:H):cwp S tab zMw [] (za Tryz.f67) (kFun tab Tryz.f67.results.toList K) (fr0 Tryz.f67 [.int .i64 x0]) h=zdO S K x0 h:=by kernel_rfl
theorem zCL (x0:Int) (h:H) (K:KT) (hm:zdO (Sat Tryz.prog) (fun v h'=>K v h') x0 h):callV (Sat Tryz.prog) zBT [.int .i64 x0] h K:=by
 have:=Sat.ex tok mixed zMw Tryz.func67 (c:=za Tryz.f67) (by kernel_rfl) (zd Tryz.func67 (c:=za Tryz.f67) (by kernel_rfl) (by decide)) ((zdN _ _ x0 h).mpr hm)
 exact this
end Go.Proofs.YtlcgclmobfdbcaaGreat.Cl
