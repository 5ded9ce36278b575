/- Typed forms of functions, and their links. No claim is stated here. -/
import Derived.Test.YtlcgclmobfdbcaaGreatFT
import Derived.Test.YtlcgclmobfdbcaaGreatFG0
set_option linter.unusedVariables false
namespace Go.Proofs.YtlcgclmobfdbcaaGreat.Cl
open Go
def Qr : Nat → List Nat := fun i => bif i == 0 then [0, 1, 5, 6, 7] else []
def zyf (S : SatT) (K : KT) : Kont := kSeq (cwp S tab Qr [] (sq Tryz.f169 4 15) (kFun tab (Tryz.f169).results.toList K)) (kFun tab (Tryz.f169).results.toList K)
def Z5 (f0_ : AVal) (i1 : Int) (s5_ : Sl) (i6 i7 : Int) : Frame := (f0_ :: .int .u8 i1 :: U :: U :: U :: .sl s5_ :: .int .i64 i6 :: .int .i64 i7 :: uu 27 [])
def zsz (S : SatT) (K : KT) : (XT) → XT := fun X fr h => cwp S tab Qr (Qr 0) (sq Tryz.f169 7 116) (kSeq (fun fr h => X (mask (Qr 0) fr) h) (kBlk 0 (zyf S K))) fr h
def zsB (S : SatT) (K : KT) (f0_ : AVal) (i1 : Int) (s5_ : Sl) (i6 i7 : Int) (h : H) : Prop := zA (zsz S K) (Z5 f0_ i1 s5_ i6 i7) h
def zsC (S : SatT) (K : KT) (f0_ : AVal) (s5_ : Sl) (i6 : Int) (h : H) : Prop :=
 yf f0_ fun t0 =>
 QG t0 i6 (t0.size : Int) fun t1 =>
 newS 1 1 [.str t1] h fun s2 h3 =>
 app s5_ s2 1 h3 fun s4 h5 =>
 K (.sl s4) h5
def zhR (S : SatT) (K : KT) (X0 : XT) (f0_ : AVal) (i1 : Int) (s5_ : Sl) (i6 i7 : Int) (h : H) : Prop :=
 yf f0_ fun t0 =>
 bif (decide (i7 < (t0.size : Int))) then
 yf f0_ fun t1 =>
 Yx t1 i7 fun n2 =>
 bif (n2 == i1) then
 yf f0_ fun t3 =>
 QG t3 i6 i7 fun t4 =>
 newS 1 1 [.str t4] h fun s5 h6 =>
 app s5_ s5 1 h6 fun s7 h8 =>
 X0 (Z5 f0_ i1 s7 (w64 (i7 + (1))) (w64 (i7 + (1)))) h8
 else
 X0 (Z5 f0_ i1 s5_ i6 (w64 (i7 + (1)))) h
 else
 zsC S K f0_ s5_ i6 h
theorem zlj (S : SatT) (K : KT) (X0 : XT) (f0_ : AVal) (i1 : Int) (s5_ : Sl) (i6 i7 : Int) (h : H) : zsz S K X0 (Z5 f0_ i1 s5_ i6 i7) h = zhR S K X0 f0_ i1 s5_ i6 i7 h := by kernel_rfl
theorem zli (S : SatT) (K : KT) (f0_ : AVal) (i1 : Int) (I_ : Sl → Int → Int → H → Prop) (m_ : Sl → Int → Int → H → Nat)
  (hs : ∀ (X0 : XT) (s5_ : Sl) (i6 i7 : Int) (h : H), I_ s5_ i6 i7 h → (∀ (s5_' : Sl) (i6' i7' : Int) (h' : H), I_ s5_' i6' i7' h' → m_ s5_' i6' i7' h' < m_ s5_ i6 i7 h → X0 (Z5 f0_ i1 s5_' i6' i7') h') → zhR S K X0 f0_ i1 s5_ i6 i7 h) (s5_ : Sl) (i6 i7 : Int) {h : H} (h0 : I_ s5_ i6 i7 h) : zsB S K f0_ i1 s5_ i6 i7 h :=
 ze (σ := (Sl) × (Int) × (Int)) (fun s_ => Z5 f0_ i1 (s_.1) (s_.2.1) (s_.2.2)) (fun s_ h => I_ (s_.1) (s_.2.1) (s_.2.2) h) (fun s_ h => m_ (s_.1) (s_.2.1) (s_.2.2) h)
  (fun X s_ h hi hx => (zlj S K X f0_ i1 (s_.1) (s_.2.1) (s_.2.2) h).mpr (hs X (s_.1) (s_.2.1) (s_.2.2) h hi fun s5_' i6' i7' h' hi' hm' => hx (s5_', i6', i7') h' hi' hm')) (s5_, i6, i7) h0
def XL (S : SatT) (K : KT) (x0 : AVal) (x1 : Int) (h : H) : Prop :=
 newS 0 1 [] h fun s0 h1 =>
 zsB S K x0 x1 s0 (0) (0) h1
theorem W2 (S : SatT) (K : KT) (x0 : AVal) (x1 : Int) (h : H) : cwp S tab Qr [] (za Tryz.f169) (kFun tab Tryz.f169.results.toList K) (fr0 Tryz.f169 [x0, .int .u8 x1]) h = XL S K x0 x1 h := by kernel_rfl
theorem zsA (x0 : AVal) (x1 : Int) (h : H) (K : Sl → H → Prop) (hm : XL (Sat Tryz.prog) (fun v h' => ∃ r, v = .sl r ∧ K r h') x0 x1 h) : callS (Sat Tryz.prog) zjn [x0, .int .u8 x1] h K := by
 have := Sat.ex tok mixed Qr Tryz.func169 (c := za Tryz.f169) (by kernel_rfl) (zb Tryz.func169 (c := za Tryz.f169) (by kernel_rfl) (by decide)) ((W2 _ _ x0 x1 h).mpr hm)
 obtain ⟨v, h2, h3, r, rfl, h4⟩ := this; exact ⟨r, h2, h3, h4⟩
def Qq : Nat → List Nat := fun i => bif i == 0 then [0, 3, 4] else []
def zye (S : SatT) (K : KT) : Kont := kSeq (cwp S tab Qq [] (sq Tryz.f170 4 15) (kFun tab (Tryz.f170).results.toList K)) (kFun tab (Tryz.f170).results.toList K)
def XK (f0_ : AVal) (i3 i4 : Int) : Frame := (f0_ :: U :: U :: .int .i64 i3 :: .int .i64 i4 :: uu 43 [])
def zsx (S : SatT) (K : KT) : (XT) → XT := fun X fr h => cwp S tab Qq (Qq 0) (sq Tryz.f170 7 116) (kSeq (fun fr h => X (mask (Qq 0) fr) h) (kBlk 0 (zye S K))) fr h
def zdy (S : SatT) (K : KT) (f0_ : AVal) (i3 i4 : Int) (h : H) : Prop := zA (zsx S K) (XK f0_ i3 i4) h
def zFw (S : SatT) (K : KT) (i3 : Int) (h : H) : Prop :=
 K (.int .i64 i3) h
def zhQ (S : SatT) (K : KT) (X0 : XT) (f0_ : AVal) (i3 i4 : Int) (h : H) : Prop :=
 yf f0_ fun t0 =>
 bif (decide (i4 < (t0.size : Int))) then
 yf f0_ fun t1 =>
 Yx t1 i4 fun n2 =>
 bif (decide (n2 < (48))) then
 K (.int .i64 (-1)) h
 else
 yf f0_ fun t3 =>
 Yx t3 i4 fun n4 =>
 bif (decide (n4 > (57))) then
 K (.int .i64 (-1)) h
 else
 yf f0_ fun t5 =>
 Yx t5 i4 fun n6 =>
 X0 (XK f0_ (w64 ((w64 (i3 * (10))) + (w64 ((IntKind.wrap .u8 (n6 - (48))))))) (w64 (i4 + (1)))) h
 else
 zFw S K i3 h
theorem zlh (S : SatT) (K : KT) (X0 : XT) (f0_ : AVal) (i3 i4 : Int) (h : H) : zsx S K X0 (XK f0_ i3 i4) h = zhQ S K X0 f0_ i3 i4 h := by kernel_rfl
theorem zlg (S : SatT) (K : KT) (f0_ : AVal) (I_ : Int → Int → H → Prop) (m_ : Int → Int → H → Nat)
  (hs : ∀ (X0 : XT) (i3 i4 : Int) (h : H), I_ i3 i4 h → (∀ (i3' i4' : Int) (h' : H), I_ i3' i4' h' → m_ i3' i4' h' < m_ i3 i4 h → X0 (XK f0_ i3' i4') h') → zhQ S K X0 f0_ i3 i4 h) (i3 i4 : Int) {h : H} (h0 : I_ i3 i4 h) : zdy S K f0_ i3 i4 h :=
 ze (σ := (Int) × (Int)) (fun s_ => XK f0_ (s_.1) (s_.2)) (fun s_ h => I_ (s_.1) (s_.2) h) (fun s_ h => m_ (s_.1) (s_.2) h)
  (fun X s_ h hi hx => (zlh S K X f0_ (s_.1) (s_.2) h).mpr (hs X (s_.1) (s_.2) h hi fun i3' i4' h' hi' hm' => hx (i3', i4') h' hi' hm')) (i3, i4) h0
def XJ (S : SatT) (K : KT) (x0 : AVal) (h : H) : Prop :=
 yf x0 fun t0 =>
 bif ((t0.size : Int) == (0)) then
 K (.int .i64 (-1)) h
 else
 yf x0 fun t1 =>
 bif (decide ((t1.size : Int) > (9))) then
 K (.int .i64 (-1)) h
 else
 yf x0 fun t2 =>
 bif (decide ((t2.size : Int) > (1))) then
 yf x0 fun t3 =>
 Yx t3 (0) fun n4 =>
 bif (n4 == (48)) then
 K (.int .i64 (-1)) h
 else
 zdy S K x0 (0) (0) h
 else
 zdy S K x0 (0) (0) h
theorem WZ (S : SatT) (K : KT) (x0 : AVal) (h : H) : cwp S tab Qq [] (za Tryz.f170) (kFun tab Tryz.f170.results.toList K) (fr0 Tryz.f170 [x0]) h = XJ S K x0 h := by kernel_rfl
theorem zsy (x0 : AVal) (h : H) (K : Int → H → Prop) (hm : XJ (Sat Tryz.prog) (fun v h' => ∃ r, v = .int .i64 r ∧ K r h') x0 h) : callI (Sat Tryz.prog) .i64 znW [x0] h K := by
 have := Sat.ex tok mixed Qq Tryz.func170 (c := za Tryz.f170) (by kernel_rfl) (zb Tryz.func170 (c := za Tryz.f170) (by kernel_rfl) (by decide)) ((WZ _ _ x0 h).mpr hm)
 obtain ⟨v, h2, h3, r, rfl, h4⟩ := this; exact ⟨r, h2, h3, h4⟩
def QD : Nat → List Nat := fun i => bif i == 0 then [0, 1, 16, 17, 18] else []
def zyB (S : SatT) (K : KT) : Kont := kSeq (cwp S tab QD [] (sq Tryz.f109 3 7) (kFun tab (Tryz.f109).results.toList K)) (kFun tab (Tryz.f109).results.toList K)
def WI (s0_ : Sl) (i1 : Int) (s16_ : Sl) (i17 i18 : Int) : Frame := (.sl s0_ :: .int .i64 i1 :: uu 14 (.sl s16_ :: .int .i64 i17 :: .int .i64 i18 :: uu 22 []))
def zuG (S : SatT) (K : KT) : (XT) → XT := fun X fr h => cwp S tab QD (QD 0) (sq Tryz.f109 6 52) (kSeq (fun fr h => X (mask (QD 0) fr) h) (kBlk 0 (zyB S K))) fr h
def zuI (S : SatT) (K : KT) (s0_ : Sl) (i1 : Int) (s16_ : Sl) (i17 i18 : Int) (h : H) : Prop := zA (zuG S K) (WI s0_ i1 s16_ i17 i18) h
def zuJ (S : SatT) (K : KT) (h : H) : Prop :=
 K (.bool true) h
def zis (S : SatT) (K : KT) (X0 : XT) (s0_ : Sl) (i1 : Int) (s16_ : Sl) (i17 i18 : Int) (h : H) : Prop :=
 bif (decide (i18 < i17)) then
 ixS s16_ 1 i18 fun p0 =>
 ldS p0 h fun s1 =>
 ixS s0_ 1 (0) fun p2 =>
 ldS p2 h fun s3 =>
 bif ((s1.len : Int) != (s3.len : Int)) then
 K (.bool false) h
 else
 bif (decide ((s1.len : Int) < (1))) then
 K (.bool false) h
 else
 bif (decide ((s1.len : Int) > i1)) then
 K (.bool false) h
 else
 X0 (WI s0_ i1 s16_ i17 (w64 (i18 + (1)))) h
 else
 zuJ S K h
theorem zmf (S : SatT) (K : KT) (X0 : XT) (s0_ : Sl) (i1 : Int) (s16_ : Sl) (i17 i18 : Int) (h : H) : zuG S K X0 (WI s0_ i1 s16_ i17 i18) h = zis S K X0 s0_ i1 s16_ i17 i18 h := by kernel_rfl
theorem zme (S : SatT) (K : KT) (s0_ : Sl) (i1 : Int) (s16_ : Sl) (i17 : Int) (I_ : Int → H → Prop) (m_ : Int → H → Nat)
  (hs : ∀ (X0 : XT) (i18 : Int) (h : H), I_ i18 h → (∀ (i18' : Int) (h' : H), I_ i18' h' → m_ i18' h' < m_ i18 h → X0 (WI s0_ i1 s16_ i17 i18') h') → zis S K X0 s0_ i1 s16_ i17 i18 h) (i18 : Int) {h : H} (h0 : I_ i18 h) : zuI S K s0_ i1 s16_ i17 i18 h :=
 ze (σ := (Int)) (fun s_ => WI s0_ i1 s16_ i17 (s_)) (fun s_ h => I_ (s_) h) (fun s_ h => m_ (s_) h)
  (fun X s_ h hi hx => (zmf S K X s0_ i1 s16_ i17 (s_) h).mpr (hs X (s_) h hi fun i18' h' hi' hm' => hx (i18') h' hi' hm')) (i18) h0
def WH (S : SatT) (K : KT) (x0 : Sl) (x1 : Int) (h : H) : Prop :=
 bif (decide ((x0.len : Int) < (1))) then
 K (.bool false) h
 else
 bif (decide ((x0.len : Int) > x1)) then
 K (.bool false) h
 else
 zuI S K x0 x1 x0 (x0.len : Int) (0) h
theorem VA (S : SatT) (K : KT) (x0 : Sl) (x1 : Int) (h : H) : cwp S tab QD [] (za Tryz.f109) (kFun tab Tryz.f109.results.toList K) (fr0 Tryz.f109 [.sl x0, .int .i64 x1]) h = WH S K x0 x1 h := by kernel_rfl
theorem zuH (x0 : Sl) (x1 : Int) (h : H) (K : Bool → H → Prop) (hm : WH (Sat Tryz.prog) (fun v h' => ∃ r, v = .bool r ∧ K r h') x0 x1 h) : callB (Sat Tryz.prog) zov [.sl x0, .int .i64 x1] h K := by
 have := Sat.ex tok mixed QD Tryz.func109 (c := za Tryz.f109) (by kernel_rfl) (zb Tryz.func109 (c := za Tryz.f109) (by kernel_rfl) (by decide)) ((VA _ _ x0 x1 h).mpr hm)
 obtain ⟨v, h2, h3, r, rfl, h4⟩ := this; exact ⟨r, h2, h3, h4⟩
def zkX : Nat → List Nat := fun i => bif i == 0 then [1, 3] else []
def zDn (S : SatT) (K : KT) : Kont := kSeq (cwp S tab zkX [] (sq Tryz.f75 3 7) (kFun tab (Tryz.f75).results.toList K)) (kFun tab (Tryz.f75).results.toList K)
def Qi (p1_ : Pt) (i3 : Int) : Frame := (U :: .ptr p1_ :: U :: .int .i64 i3 :: uu 45 [])
def zzM (S : SatT) (K : KT) : (XT) → XT := fun X fr h => cwp S tab zkX (zkX 0) (sq Tryz.f75 6 52) (kSeq (fun fr h => X (mask (zkX 0) fr) h) (kBlk 0 (zDn S K))) fr h
def zzN (S : SatT) (K : KT) (p1_ : Pt) (i3 : Int) (h : H) : Prop := zA (zzM S K) (Qi p1_ i3) h
def zzO (S : SatT) (K : KT) (h : H) : Prop :=
 K (.bool true) h
def zpo (S : SatT) (K : KT) (X0 : XT) (p1_ : Pt) (i3 : Int) (h : H) : Prop :=
 isPt p1_ (
 ldS (Pt.add p1_ 1) h fun s0 =>
 bif (decide (i3 < (s0.len : Int))) then
 isPt p1_ (
 ldI .i64 (Pt.add p1_ 0) h fun n1 =>
 isPt p1_ (
 ldS (Pt.add p1_ 1) h fun s2 =>
 ixS s2 4 i3 fun p3 =>
 ldA p3 4 h fun cs4 =>
 callB S zoq [.int .i64 n1, .agg cs4] h fun b6 h5 =>
 bif (!b6) then
 K (.bool false) h5
 else
 bif (decide (i3 > (0))) then
 isPt p1_ (
 ldS (Pt.add p1_ 1) h5 fun s7 =>
 ixS s7 4 (w64 (i3 - (1))) fun p8 =>
 ldA p8 4 h5 fun cs9 =>
 isPt p1_ (
 ldS (Pt.add p1_ 1) h5 fun s10 =>
 ixS s10 4 i3 fun p11 =>
 ldA p11 4 h5 fun cs12 =>
 callB S zjq [.agg cs9, .agg cs12] h5 fun b14 h13 =>
 bif (!b14) then
 K (.bool false) h13
 else
 X0 (Qi p1_ (w64 (i3 + (1)))) h13))
 else
 X0 (Qi p1_ (w64 (i3 + (1)))) h5))
 else
 zzO S K h)
theorem zpn (S : SatT) (K : KT) (X0 : XT) (p1_ : Pt) (i3 : Int) (h : H) : zzM S K X0 (Qi p1_ i3) h = zpo S K X0 p1_ i3 h := by kernel_rfl
theorem zpm (S : SatT) (K : KT) (p1_ : Pt) (I_ : Int → H → Prop) (m_ : Int → H → Nat)
  (hs : ∀ (X0 : XT) (i3 : Int) (h : H), I_ i3 h → (∀ (i3' : Int) (h' : H), I_ i3' h' → m_ i3' h' < m_ i3 h → X0 (Qi p1_ i3') h') → zpo S K X0 p1_ i3 h) (i3 : Int) {h : H} (h0 : I_ i3 h) : zzN S K p1_ i3 h :=
 ze (σ := (Int)) (fun s_ => Qi p1_ (s_)) (fun s_ h => I_ (s_) h) (fun s_ h => m_ (s_) h)
  (fun X s_ h hi hx => (zpn S K X p1_ (s_) h).mpr (hs X (s_) h hi fun i3' h' hi' hm' => hx (i3') h' hi' hm')) (i3) h0
def zaD (S : SatT) (K : KT) (x0 : List AVal) (h : H) : Prop :=
 newK 2 x0 h fun p0 h1 =>
 isPt p0 (
 ldI .i64 (Pt.add p0 0) h1 fun n2 =>
 callB S zeU [.int .i64 n2, .int .i64 (1), .int .i64 (6)] h1 fun b4 h3 =>
 bif (!b4) then
 K (.bool false) h3
 else
 isPt p0 (
 ldS (Pt.add p0 1) h3 fun s5 =>
 bif (decide ((s5.len : Int) > (16))) then
 K (.bool false) h3
 else
 zzN S K p0 (0) h3))
theorem zaC (S : SatT) (K : KT) (x0 : List AVal) (h : H) : cwp S tab zkX [] (za Tryz.f75) (kFun tab Tryz.f75.results.toList K) (fr0 Tryz.f75 [.agg x0]) h = zaD S K x0 h := by kernel_rfl
theorem zwH (x0 : List AVal) (h : H) (K : Bool → H → Prop) (hm : zaD (Sat Tryz.prog) (fun v h' => ∃ r, v = .bool r ∧ K r h') x0 h) : callB (Sat Tryz.prog) zeV [.agg x0] h K := by
 have := Sat.ex tok mixed zkX Tryz.func75 (c := za Tryz.f75) (by kernel_rfl) (zb Tryz.func75 (c := za Tryz.f75) (by kernel_rfl) (by decide)) ((zaC _ _ x0 h).mpr hm)
 obtain ⟨v, h2, h3, r, rfl, h4⟩ := this; exact ⟨r, h2, h3, h4⟩
def QB : Nat → List Nat := fun i => bif i == 0 then [2, 3, 5] else []
def zyy (S : SatT) (K : KT) : Kont := kSeq (cwp S tab QB [] (sq Tryz.f118 2 3) (kFun tab (Tryz.f118).results.toList K)) (kFun tab (Tryz.f118).results.toList K)
def Wy (p2_ p3_ : Pt) (i5 : Int) : Frame := (U :: U :: .ptr p2_ :: .ptr p3_ :: U :: .int .i64 i5 :: uu 18 [])
def zuq (S : SatT) (K : KT) : (XT) → XT := fun X fr h => cwp S tab QB (QB 0) (sq Tryz.f118 5 20) (kSeq (fun fr h => X (mask (QB 0) fr) h) (kBlk 0 (zyy S K))) fr h
def zus (S : SatT) (K : KT) (p2_ p3_ : Pt) (i5 : Int) (h : H) : Prop := zA (zuq S K) (Wy p2_ p3_ i5) h
def zut (S : SatT) (K : KT) (h : H) : Prop :=
 K (.bool false) h
def zio (S : SatT) (K : KT) (X0 : XT) (p2_ p3_ : Pt) (i5 : Int) (h : H) : Prop :=
 bif (decide (i5 < (4))) then
 ixA p2_ 4 1 i5 fun p0 =>
 ldI .i64 p0 h fun n1 =>
 ixA p3_ 4 1 i5 fun p2 =>
 ldI .i64 p2 h fun n3 =>
 bif (n1 != n3) then
 ixA p2_ 4 1 i5 fun p4 =>
 ldI .i64 p4 h fun n5 =>
 ixA p3_ 4 1 i5 fun p6 =>
 ldI .i64 p6 h fun n7 =>
 K (.bool (decide (n5 < n7))) h
 else
 X0 (Wy p2_ p3_ (w64 (i5 + (1)))) h
 else
 zut S K h
theorem zlZ (S : SatT) (K : KT) (X0 : XT) (p2_ p3_ : Pt) (i5 : Int) (h : H) : zuq S K X0 (Wy p2_ p3_ i5) h = zio S K X0 p2_ p3_ i5 h := by kernel_rfl
theorem zlY (S : SatT) (K : KT) (p2_ p3_ : Pt) (I_ : Int → H → Prop) (m_ : Int → H → Nat)
  (hs : ∀ (X0 : XT) (i5 : Int) (h : H), I_ i5 h → (∀ (i5' : Int) (h' : H), I_ i5' h' → m_ i5' h' < m_ i5 h → X0 (Wy p2_ p3_ i5') h') → zio S K X0 p2_ p3_ i5 h) (i5 : Int) {h : H} (h0 : I_ i5 h) : zus S K p2_ p3_ i5 h :=
 ze (σ := (Int)) (fun s_ => Wy p2_ p3_ (s_)) (fun s_ h => I_ (s_) h) (fun s_ h => m_ (s_) h)
  (fun X s_ h hi hx => (zlZ S K X p2_ p3_ (s_) h).mpr (hs X (s_) h hi fun i5' h' hi' hm' => hx (i5') h' hi' hm')) (i5) h0
def Wx (S : SatT) (K : KT) (x0 x1 : List AVal) (h : H) : Prop :=
 newK 4 x0 h fun p0 h1 =>
 newK 4 x1 h1 fun p2 h3 =>
 zus S K p0 p2 (0) h3
theorem Vr (S : SatT) (K : KT) (x0 x1 : List AVal) (h : H) : cwp S tab QB [] (za Tryz.f118) (kFun tab Tryz.f118.results.toList K) (fr0 Tryz.f118 [.agg x0, .agg x1]) h = Wx S K x0 x1 h := by kernel_rfl
theorem zur (x0 x1 : List AVal) (h : H) (K : Bool → H → Prop) (hm : Wx (Sat Tryz.prog) (fun v h' => ∃ r, v = .bool r ∧ K r h') x0 x1 h) : callB (Sat Tryz.prog) zjq [.agg x0, .agg x1] h K := by
 have := Sat.ex tok mixed QB Tryz.func118 (c := za Tryz.f118) (by kernel_rfl) (zb Tryz.func118 (c := za Tryz.f118) (by kernel_rfl) (by decide)) ((Vr _ _ x0 x1 h).mpr hm)
 obtain ⟨v, h2, h3, r, rfl, h4⟩ := this; exact ⟨r, h2, h3, h4⟩
def zle : Nat → List Nat := fun i => bif i == 0 then [0, 1, 5] else []
def zDB (S : SatT) (K : KT) : Kont := kSeq (cwp S tab zle [] (sq Tryz.f36 3 7) (kFun tab (Tryz.f36).results.toList K)) (kFun tab (Tryz.f36).results.toList K)
def zfJ (s0_ s1_ : Sl) (i5 : Int) : Frame := (.sl s0_ :: .sl s1_ :: U :: U :: U :: .int .i64 i5 :: uu 20 [])
def zAK (S : SatT) (K : KT) : (XT) → XT := fun X fr h => cwp S tab zle (zle 0) (sq Tryz.f36 6 52) (kSeq (fun fr h => X (mask (zle 0) fr) h) (kBlk 0 (zDB S K))) fr h
def zAL (S : SatT) (K : KT) (s0_ s1_ : Sl) (i5 : Int) (h : H) : Prop := zA (zAK S K) (zfJ s0_ s1_ i5) h
def zAM (S : SatT) (K : KT) (h : H) : Prop :=
 K (.bool true) h
def zqp (S : SatT) (K : KT) (X0 : XT) (s0_ s1_ : Sl) (i5 : Int) (h : H) : Prop :=
 bif (decide (i5 < (s0_.len : Int))) then
 ixS s0_ 1 i5 fun p0 =>
 ldI .i64 p0 h fun n1 =>
 ixS s1_ 1 i5 fun p2 =>
 ldI .i64 p2 h fun n3 =>
 bif (n1 != n3) then
 K (.bool false) h
 else
 X0 (zfJ s0_ s1_ (w64 (i5 + (1)))) h
 else
 zAM S K h
theorem zqo (S : SatT) (K : KT) (X0 : XT) (s0_ s1_ : Sl) (i5 : Int) (h : H) : zAK S K X0 (zfJ s0_ s1_ i5) h = zqp S K X0 s0_ s1_ i5 h := by kernel_rfl
theorem zqn (S : SatT) (K : KT) (s0_ s1_ : Sl) (I_ : Int → H → Prop) (m_ : Int → H → Nat)
  (hs : ∀ (X0 : XT) (i5 : Int) (h : H), I_ i5 h → (∀ (i5' : Int) (h' : H), I_ i5' h' → m_ i5' h' < m_ i5 h → X0 (zfJ s0_ s1_ i5') h') → zqp S K X0 s0_ s1_ i5 h) (i5 : Int) {h : H} (h0 : I_ i5 h) : zAL S K s0_ s1_ i5 h :=
 ze (σ := (Int)) (fun s_ => zfJ s0_ s1_ (s_)) (fun s_ h => I_ (s_) h) (fun s_ h => m_ (s_) h)
  (fun X s_ h hi hx => (zqo S K X s0_ s1_ (s_) h).mpr (hs X (s_) h hi fun i5' h' hi' hm' => hx (i5') h' hi' hm')) (i5) h0
def zbJ (S : SatT) (K : KT) (x0 x1 : Sl) (h : H) : Prop :=
 bif ((x0.len : Int) != (x1.len : Int)) then
 K (.bool false) h
 else
 zAL S K x0 x1 (0) h
theorem zbI (S : SatT) (K : KT) (x0 x1 : Sl) (h : H) : cwp S tab zle [] (za Tryz.f36) (kFun tab Tryz.f36.results.toList K) (fr0 Tryz.f36 [.sl x0, .sl x1]) h = zbJ S K x0 x1 h := by kernel_rfl
theorem zxk (x0 x1 : Sl) (h : H) (K : Bool → H → Prop) (hm : zbJ (Sat Tryz.prog) (fun v h' => ∃ r, v = .bool r ∧ K r h') x0 x1 h) : callB (Sat Tryz.prog) zCS [.sl x0, .sl x1] h K := by
 have := Sat.ex tok mixed zle Tryz.func36 (c := za Tryz.f36) (by kernel_rfl) (zb Tryz.func36 (c := za Tryz.f36) (by kernel_rfl) (by decide)) ((zbI _ _ x0 x1 h).mpr hm)
 obtain ⟨v, h2, h3, r, rfl, h4⟩ := this; exact ⟨r, h2, h3, h4⟩
def zGs : Nat → List Nat := fun i => []
def zaJ (S : SatT) (K : KT) (x0 : Pt) (x1 : List AVal) (h : H) : Prop :=
 newK 2 x1 h fun p0 h1 =>
 newO [.int .i64 (0), .sl Sl.nil] h1 fun p2 h3 =>
 newS 0 4 [] h3 fun s4 h5 =>
 isPt p0 (
 ldS (Pt.add p0 1) h5 fun s6 =>
 app s4 s6 4 h5 fun s7 h8 =>
 callI S .i64 ym [.ptr x0, .int .i64 (50)] h8 fun n10 h9 =>
 bif (n10 == (0)) then
 newS 3 1 [.int .i64 (0), .int .i64 (7), .int .i64 (-1)] h9 fun s11 h12 =>
 callI S .i64 qv [.ptr x0, .sl s11] h12 fun n14 h13 =>
 stN p2 2 [.int .i64 n14, .sl s7] h13 fun h15 =>
 ldA p2 2 h15 fun cs16 =>
 K (.agg cs16) h15
 else
 bif (n10 == (1)) then
 isPt p0 (
 ldI .i64 (Pt.add p0 0) h9 fun n17 =>
 newS 2 1 [.int .i64 (0), .int .i64 (-1)] h9 fun s18 h19 =>
(cell h19 (Pt.add p0 0) = cell h9 (Pt.add p0 0)) ∧ (
 callI S .i64 qv [.ptr x0, .sl s18] h19 fun n21 h20 =>
(cell h20 (Pt.add p0 0) = cell h9 (Pt.add p0 0)) ∧ (
 lenA [.int .i64 n17, .int .i64 (0), .int .i64 (0), .int .i64 n21] 4 (
 newS 1 4 (spl [.int .i64 (0), .int .i64 (0), .int .i64 (0), .int .i64 (0)] 0 4 [.int .i64 n17, .int .i64 (0), .int .i64 (0), .int .i64 n21]) h20 fun s22 h23 =>
 app s7 s22 4 h23 fun s24 h25 =>
 isPt p0 (
 ldI .i64 (Pt.add p0 0) h25 fun n26 =>
 stN p2 2 [.int .i64 n26, .sl s24] h25 fun h27 =>
 ldA p2 2 h27 fun cs28 =>
 K (.agg cs28) h27)))))
 else
 bif (n10 == (2)) then
 isPt p0 (
 ldI .i64 (Pt.add p0 0) h9 fun n29 =>
 callA S zjr [.ptr x0, .int .i64 n29] h9 fun cs31 h30 =>
 lenA cs31 4 (
 newS 1 4 (spl [.int .i64 (0), .int .i64 (0), .int .i64 (0), .int .i64 (0)] 0 4 cs31) h30 fun s32 h33 =>
 app s7 s32 4 h33 fun s34 h35 =>
 isPt p0 (
 ldI .i64 (Pt.add p0 0) h35 fun n36 =>
 stN p2 2 [.int .i64 n36, .sl s34] h35 fun h37 =>
 ldA p2 2 h37 fun cs38 =>
 K (.agg cs38) h37)))
 else
 bif (n10 == (3)) then
 bif (decide ((s7.len : Int) > (1))) then
 ixS s7 4 (0) fun p39 =>
 ldA p39 4 h9 fun cs40 =>
 newO [.int .i64 (0), .int .i64 (0), .int .i64 (0), .int .i64 (0)] h9 fun p41 h42 =>
 stN p41 4 cs40 h42 fun h43 =>
 ixS s7 4 (1) fun p44 =>
 ldA p44 4 h43 fun cs45 =>
 ixS s7 4 (0) fun p46 =>
 stN p46 4 cs45 h43 fun h47 =>
 ldA p41 4 h47 fun cs48 =>
 ixS s7 4 (1) fun p49 =>
 stN p49 4 cs48 h47 fun h50 =>
 isPt p0 (
 ldI .i64 (Pt.add p0 0) h50 fun n51 =>
 stN p2 2 [.int .i64 n51, .sl s7] h50 fun h52 =>
 ldA p2 2 h52 fun cs53 =>
 K (.agg cs53) h52)
 else
 isPt p0 (
 ldI .i64 (Pt.add p0 0) h9 fun n54 =>
 stN p2 2 [.int .i64 n54, .sl s7] h9 fun h55 =>
 ldA p2 2 h55 fun cs56 =>
 K (.agg cs56) h55)
 else
 ldA p0 2 h9 fun cs57 =>
 stN p2 2 cs57 h9 fun h58 =>
 ldA p2 2 h58 fun cs59 =>
 K (.agg cs59) h58)
theorem zaI (S : SatT) (K : KT) (x0 : Pt) (x1 : List AVal) (h : H) : cwp S tab zGs [] (za Tryz.f72) (kFun tab Tryz.f72.results.toList K) (fr0 Tryz.f72 [.ptr x0, .agg x1]) h = zaJ S K x0 x1 h := by kernel_rfl
theorem zwK (x0 : Pt) (x1 : List AVal) (h : H) (K : List AVal → H → Prop) (hm : zaJ (Sat Tryz.prog) (fun v h' => ∃ r, v = .agg r ∧ K r h') x0 x1 h) : callA (Sat Tryz.prog) Q9 [.ptr x0, .agg x1] h K := by
 have := Sat.ex tok mixed zGs Tryz.func72 (c := za Tryz.f72) (by kernel_rfl) (zb Tryz.func72 (c := za Tryz.f72) (by kernel_rfl) (by decide)) ((zaI _ _ x0 x1 h).mpr hm)
 obtain ⟨v, h2, h3, r, rfl, h4⟩ := this; exact ⟨r, h2, h3, h4⟩
def zGI : Nat → List Nat := fun i => []
def zbH (S : SatT) (K : KT) (x0 : Sl) (h : H) : Prop :=
 newO [.int .i64 (0), .sl Sl.nil] h fun p0 h1 =>
 callP S zeW [.sl x0] h1 fun p3 h2 =>
 callA S znM [.ptr p3] h2 fun cs5 h4 =>
 callA S Q9 [.ptr p3, .agg cs5] h4 fun cs7 h6 =>
 newO [.int .i64 (0), .sl Sl.nil] h6 fun p8 h9 =>
 stN p8 2 cs7 h9 fun h10 =>
 callI S .i64 zwd [.ptr p3, .int .i64 (3)] h10 fun n12 h11 =>
 newS 6 1 [.int .i64 (1), .int .i64 (2), .int .i64 (2), .int .i64 (3), .int .i64 (3), .int .i64 n12] h11 fun s13 h14 =>
 callI S .i64 qv [.ptr p3, .sl s13] h14 fun n16 h15 =>
 callI S .i64 zwd [.ptr p3, .int .i64 (3)] h15 fun n18 h17 =>
 newS 5 1 [.int .i64 (1), .int .i64 (2), .int .i64 (2), .int .i64 (3), .int .i64 n18] h17 fun s19 h20 =>
 callI S .i64 qv [.ptr p3, .sl s19] h20 fun n22 h21 =>
 ldA p8 2 h21 fun cs23 =>
 stN p0 2 cs23 h21 fun h24 =>
 ldA p0 2 h24 fun cs25 =>
 K (.tuple [.agg cs25, .int .i64 n16, .int .i64 n22]) h24
theorem zbG (S : SatT) (K : KT) (x0 : Sl) (h : H) : cwp S tab zGI [] (za Tryz.f47) (kFun tab Tryz.f47.results.toList K) (fr0 Tryz.f47 [.sl x0]) h = zbH S K x0 h := by kernel_rfl
theorem zxj (x0 : Sl) (h : H) (K : KT) (hm : zbH (Sat Tryz.prog) (fun v h' => K v h') x0 h) : callV (Sat Tryz.prog) zwn [.sl x0] h K := by
 have := Sat.ex tok mixed zGI Tryz.func47 (c := za Tryz.f47) (by kernel_rfl) (zb Tryz.func47 (c := za Tryz.f47) (by kernel_rfl) (by decide)) ((zbG _ _ x0 h).mpr hm)
 exact this
def zGt : Nat → List Nat := fun i => []
def zaN (S : SatT) (K : KT) (x0 : List AVal) (x1 x2 : Int) (x3 x4 : Int) (h : H) : Prop :=
 newK 4 x0 h fun p0 h1 =>
 newO [.int .i64 (0), .int .i64 (0), .int .i64 (0), .int .i64 (0)] h1 fun p2 h3 =>
 ixA p0 4 1 x1 fun p4 =>
 ldI .i64 p4 h3 fun n5 =>
 ixA p0 4 1 x2 fun p6 =>
 ldI .i64 p6 h3 fun n7 =>
 ixA p0 4 1 x3 fun p8 =>
 ldI .i64 p8 h3 fun n9 =>
 ixA p0 4 1 x4 fun p10 =>
 ldI .i64 p10 h3 fun n11 =>
 stN p2 4 [.int .i64 n5, .int .i64 n7, .int .i64 n9, .int .i64 n11] h3 fun h12 =>
 ldA p2 4 h12 fun cs13 =>
 K (.agg cs13) h12
theorem zaM (S : SatT) (K : KT) (x0 : List AVal) (x1 x2 : Int) (x3 x4 : Int) (h : H) : cwp S tab zGt [] (za Tryz.f70) (kFun tab Tryz.f70.results.toList K) (fr0 Tryz.f70 [.agg x0, .int .i64 x1, .int .i64 x2, .int .i64 x3, .int .i64 x4]) h = zaN S K x0 x1 x2 x3 x4 h := by kernel_rfl
theorem zwM (x0 : List AVal) (x1 x2 : Int) (x3 x4 : Int) (h : H) (K : List AVal → H → Prop) (hm : zaN (Sat Tryz.prog) (fun v h' => ∃ r, v = .agg r ∧ K r h') x0 x1 x2 x3 x4 h) : callA (Sat Tryz.prog) zCN [.agg x0, .int .i64 x1, .int .i64 x2, .int .i64 x3, .int .i64 x4] h K := by
 have := Sat.ex tok mixed zGt Tryz.func70 (c := za Tryz.f70) (by kernel_rfl) (zb Tryz.func70 (c := za Tryz.f70) (by kernel_rfl) (by decide)) ((zaM _ _ x0 x1 x2 x3 x4 h).mpr hm)
 obtain ⟨v, h2, h3, r, rfl, h4⟩ := this; exact ⟨r, h2, h3, h4⟩
def zBD : Nat → List Nat := fun i => []
def XN (S : SatT) (K : KT) (x0 x1 : Int) (h : H) : Prop :=
 callB S zjm [.int .i64 x0] h fun b1 h0 =>
 callB S zjm [.int .i64 x1] h0 fun b3 h2 =>
 bif b1 then
 bif b3 then
 K (.int .i64 (0)) h2
 else
 K (.int .i64 (-1)) h2
 else
 bif b3 then
 K (.int .i64 (1)) h2
 else
 bif (decide (x0 < x1)) then
 K (.int .i64 (-1)) h2
 else
 bif (decide (x0 > x1)) then
 K (.int .i64 (1)) h2
 else
 K (.int .i64 (0)) h2
theorem W4 (S : SatT) (K : KT) (x0 x1 : Int) (h : H) : cwp S tab zBD [] (za Tryz.f163) (kFun tab Tryz.f163.results.toList K) (fr0 Tryz.f163 [.int .i64 x0, .int .i64 x1]) h = XN S K x0 x1 h := by kernel_rfl
theorem zsE (x0 x1 : Int) (h : H) (K : Int → H → Prop) (hm : XN (Sat Tryz.prog) (fun v h' => ∃ r, v = .int .i64 r ∧ K r h') x0 x1 h) : callI (Sat Tryz.prog) .i64 znY [.int .i64 x0, .int .i64 x1] h K := by
 have := Sat.ex tok mixed zBD Tryz.func163 (c := za Tryz.f163) (by kernel_rfl) (zb Tryz.func163 (c := za Tryz.f163) (by kernel_rfl) (by decide)) ((W4 _ _ x0 x1 h).mpr hm)
 obtain ⟨v, h2, h3, r, rfl, h4⟩ := this; exact ⟨r, h2, h3, h4⟩
def zGE : Nat → List Nat := fun i => []
def zbz (S : SatT) (K : KT) (x0 : List AVal) (x1 x2 : Int) (h : H) : Prop :=
 newK 2 x0 h fun p0 h1 =>
 newO [.sl Sl.nil] h1 fun p2 h3 =>
 st1 p2 (.sl Sl.nil) h3 fun h4 =>
 ldA p0 2 h4 fun cs5 =>
 callV S zjs [.agg cs5, .int .i64 x1, .int .i64 x2, .func 105 [.ptr p2]] h4 fun v7 h6 =>
 ldS p2 h6 fun s8 =>
 K (.sl s8) h6
theorem zby (S : SatT) (K : KT) (x0 : List AVal) (x1 x2 : Int) (h : H) : cwp S tab zGE [] (za Tryz.f51) (kFun tab Tryz.f51.results.toList K) (fr0 Tryz.f51 [.agg x0, .int .i64 x1, .int .i64 x2]) h = zbz S K x0 x1 x2 h := by kernel_rfl
theorem zxf (x0 : List AVal) (x1 x2 : Int) (h : H) (K : Sl → H → Prop) (hm : zbz (Sat Tryz.prog) (fun v h' => ∃ r, v = .sl r ∧ K r h') x0 x1 x2 h) : callS (Sat Tryz.prog) zwl [.agg x0, .int .i64 x1, .int .i64 x2] h K := by
 have := Sat.ex tok mixed zGE Tryz.func51 (c := za Tryz.f51) (by kernel_rfl) (zb Tryz.func51 (c := za Tryz.f51) (by kernel_rfl) (by decide)) ((zby _ _ x0 x1 x2 h).mpr hm)
 obtain ⟨v, h2, h3, r, rfl, h4⟩ := this; exact ⟨r, h2, h3, h4⟩
def zHn : Nat → List Nat := fun i => []
def zdP (S : SatT) (K : KT) (x0 : List AVal) (x1 : Sl) (h : H) : Prop :=
 newK 2 x0 h fun p0 h1 =>
 newO [.sl x1] h1 fun p2 h3 =>
 ldA p0 2 h3 fun cs4 =>
 callI S .i64 zeX [.agg cs4, .func 60 [.ptr p0, .ptr p2]] h3 fun n6 h5 =>
 bif (n6 != (0)) then
 K (.tuple [.bool false, .int .i64 n6]) h5
 else
 ldA p0 2 h5 fun cs7 =>
 ldS p2 h5 fun s8 =>
 callB S zwj [.agg cs7, .sl s8] h5 fun b10 h9 =>
 K (.tuple [.bool b10, .int .i64 (0)]) h9
theorem zdO (S : SatT) (K : KT) (x0 : List AVal) (x1 : Sl) (h : H) : cwp S tab zHn [] (za Tryz.f13) (kFun tab Tryz.f13.results.toList K) (fr0 Tryz.f13 [.agg x0, .sl x1]) h = zdP S K x0 x1 h := by kernel_rfl
theorem zyu (x0 : List AVal) (x1 : Sl) (h : H) (K : KT) (hm : zdP (Sat Tryz.prog) (fun v h' => K v h') x0 x1 h) : callV (Sat Tryz.prog) zkP [.agg x0, .sl x1] h K := by
 have := Sat.ex tok mixed zHn Tryz.func13 (c := za Tryz.f13) (by kernel_rfl) (zb Tryz.func13 (c := za Tryz.f13) (by kernel_rfl) (by decide)) ((zdO _ _ x0 x1 h).mpr hm)
 exact this
def zGH : Nat → List Nat := fun i => []
def zbF (S : SatT) (K : KT) (x0 : List AVal) (x1 : AVal) (h : H) : Prop :=
 newK 2 x0 h fun p0 h1 =>
 ldA p0 2 h1 fun cs2 =>
 callB S zkL [.agg cs2] h1 fun b4 h3 =>
 bif (!b4) then
 K (.int .i64 (1)) h3
 else
 viaF x1 [] fun g5 ys6 =>
 callB S g5 ys6 h3 fun b8 h7 =>
 bif (!b8) then
 K (.int .i64 (2)) h7
 else
 K (.int .i64 (0)) h7
theorem zbE (S : SatT) (K : KT) (x0 : List AVal) (x1 : AVal) (h : H) : cwp S tab zGH [] (za Tryz.f48) (kFun tab Tryz.f48.results.toList K) (fr0 Tryz.f48 [.agg x0, x1]) h = zbF S K x0 x1 h := by kernel_rfl
theorem zxi (x0 : List AVal) (x1 : AVal) (h : H) (K : Int → H → Prop) (hm : zbF (Sat Tryz.prog) (fun v h' => ∃ r, v = .int .i64 r ∧ K r h') x0 x1 h) : callI (Sat Tryz.prog) .i64 zeX [.agg x0, x1] h K := by
 have := Sat.ex tok mixed zGH Tryz.func48 (c := za Tryz.f48) (by kernel_rfl) (zb Tryz.func48 (c := za Tryz.f48) (by kernel_rfl) (by decide)) ((zbE _ _ x0 x1 h).mpr hm)
 obtain ⟨v, h2, h3, r, rfl, h4⟩ := this; exact ⟨r, h2, h3, h4⟩
def zBX : Nat → List Nat := fun i => []
def WC (S : SatT) (K : KT) (x0 : List AVal) (x1 : Int) (h : H) : Prop :=
 newK 4 x0 h fun p0 h1 =>
 newO [.int .i64 x1] h1 fun p2 h3 =>
 cutA p0 4 1 (0) ((4 : Nat) : Int) fun s4 =>
 callB S zoh [.sl s4, .func 147 [.ptr p2]] h3 fun b6 h5 =>
 K (.bool (!b6)) h5
theorem Vu (S : SatT) (K : KT) (x0 : List AVal) (x1 : Int) (h : H) : cwp S tab zBX [] (za Tryz.f115) (kFun tab Tryz.f115.results.toList K) (fr0 Tryz.f115 [.agg x0, .int .i64 x1]) h = WC S K x0 x1 h := by kernel_rfl
theorem zuz (x0 : List AVal) (x1 : Int) (h : H) (K : Bool → H → Prop) (hm : WC (Sat Tryz.prog) (fun v h' => ∃ r, v = .bool r ∧ K r h') x0 x1 h) : callB (Sat Tryz.prog) zor [.agg x0, .int .i64 x1] h K := by
 have := Sat.ex tok mixed zBX Tryz.func115 (c := za Tryz.f115) (by kernel_rfl) (zb Tryz.func115 (c := za Tryz.f115) (by kernel_rfl) (by decide)) ((Vu _ _ x0 x1 h).mpr hm)
 obtain ⟨v, h2, h3, r, rfl, h4⟩ := this; exact ⟨r, h2, h3, h4⟩
def zBE : Nat → List Nat := fun i => []
def XY (S : SatT) (K : KT) (x0 : Sl) (h : H) : Prop :=
 newO [.sl x0] h fun p0 h1 =>
 K (.func 168 [.ptr p0]) h1
theorem W9 (S : SatT) (K : KT) (x0 : Sl) (h : H) : cwp S tab zBE [] (za Tryz.f158) (kFun tab Tryz.f158.results.toList K) (fr0 Tryz.f158 [.sl x0]) h = XY S K x0 h := by kernel_rfl
theorem zta (x0 : Sl) (h : H) (K : KT) (hm : XY (Sat Tryz.prog) (fun v h' => K v h') x0 h) : callV (Sat Tryz.prog) zod [.sl x0] h K := by
 have := Sat.ex tok mixed zBE Tryz.func158 (c := za Tryz.f158) (by kernel_rfl) (zb Tryz.func158 (c := za Tryz.f158) (by kernel_rfl) (by decide)) ((W9 _ _ x0 h).mpr hm)
 exact this
def zCd : Nat → List Nat := fun i => []
def WK (S : SatT) (K : KT) (x0 : Sl) (x1 : Pt) (h : H) : Prop :=
 ldI .i64 x1 h fun n0 =>
 st1 x1 (.int .i64 (w64 (n0 + (1)))) h fun h1 =>
 K (.bool true) h1
theorem VC (S : SatT) (K : KT) (x0 : Sl) (x1 : Pt) (h : H) : cwp S tab zCd [] (za Tryz.f107) (kFun tab Tryz.f107.results.toList K) (fr0 Tryz.f107 [.sl x0, .ptr x1]) h = WK S K x0 x1 h := by kernel_rfl
theorem zuL (x0 : Sl) (x1 : Pt) (h : H) (K : Bool → H → Prop) (hm : WK (Sat Tryz.prog) (fun v h' => ∃ r, v = .bool r ∧ K r h') x0 x1 h) : callB (Sat Tryz.prog) zGd [.sl x0, .ptr x1] h K := by
 have := Sat.ex tok mixed zCd Tryz.func107 (c := za Tryz.f107) (by kernel_rfl) (zb Tryz.func107 (c := za Tryz.f107) (by kernel_rfl) (by decide)) ((VC _ _ x0 x1 h).mpr hm)
 obtain ⟨v, h2, h3, r, rfl, h4⟩ := this; exact ⟨r, h2, h3, h4⟩
def zGz : Nat → List Nat := fun i => []
def zbh (S : SatT) (K : KT) (x0 x1 : Pt) (h : H) : Prop :=
 ldA x0 2 h fun cs0 =>
 ldS x1 h fun s1 =>
 callB S zkM [.agg cs0, .sl s1] h fun b3 h2 =>
 K (.bool b3) h2
theorem zbg (S : SatT) (K : KT) (x0 x1 : Pt) (h : H) : cwp S tab zGz [] (za Tryz.f60) (kFun tab Tryz.f60.results.toList K) (fr0 Tryz.f60 [.ptr x0, .ptr x1]) h = zbh S K x0 x1 h := by kernel_rfl
theorem zwW (x0 x1 : Pt) (h : H) (K : Bool → H → Prop) (hm : zbh (Sat Tryz.prog) (fun v h' => ∃ r, v = .bool r ∧ K r h') x0 x1 h) : callB (Sat Tryz.prog) zHT [.ptr x0, .ptr x1] h K := by
 have := Sat.ex tok mixed zGz Tryz.func60 (c := za Tryz.f60) (by kernel_rfl) (zb Tryz.func60 (c := za Tryz.f60) (by kernel_rfl) (by decide)) ((zbg _ _ x0 x1 h).mpr hm)
 obtain ⟨v, h2, h3, r, rfl, h4⟩ := this; exact ⟨r, h2, h3, h4⟩
def zGy : Nat → List Nat := fun i => []
def zbd (S : SatT) (K : KT) (x0 x1 : Pt) (h : H) : Prop :=
 ldA x0 2 h fun cs0 =>
 ldS x1 h fun s1 =>
 callB S zkM [.agg cs0, .sl s1] h fun b3 h2 =>
 K (.bool b3) h2
theorem zbc (S : SatT) (K : KT) (x0 x1 : Pt) (h : H) : cwp S tab zGy [] (za Tryz.f62) (kFun tab Tryz.f62.results.toList K) (fr0 Tryz.f62 [.ptr x0, .ptr x1]) h = zbd S K x0 x1 h := by kernel_rfl
theorem zwU (x0 x1 : Pt) (h : H) (K : Bool → H → Prop) (hm : zbd (Sat Tryz.prog) (fun v h' => ∃ r, v = .bool r ∧ K r h') x0 x1 h) : callB (Sat Tryz.prog) zHS [.ptr x0, .ptr x1] h K := by
 have := Sat.ex tok mixed zGy Tryz.func62 (c := za Tryz.f62) (by kernel_rfl) (zb Tryz.func62 (c := za Tryz.f62) (by kernel_rfl) (by decide)) ((zbc _ _ x0 x1 h).mpr hm)
 obtain ⟨v, h2, h3, r, rfl, h4⟩ := this; exact ⟨r, h2, h3, h4⟩
def zGA : Nat → List Nat := fun i => []
def zbn (S : SatT) (K : KT) (x0 x1 : Pt) (h : H) : Prop :=
 ldA x0 2 h fun cs0 =>
 ldS x1 h fun s1 =>
 callB S zkM [.agg cs0, .sl s1] h fun b3 h2 =>
 K (.bool b3) h2
theorem zbm (S : SatT) (K : KT) (x0 x1 : Pt) (h : H) : cwp S tab zGA [] (za Tryz.f57) (kFun tab Tryz.f57.results.toList K) (fr0 Tryz.f57 [.ptr x0, .ptr x1]) h = zbn S K x0 x1 h := by kernel_rfl
theorem zwZ (x0 x1 : Pt) (h : H) (K : Bool → H → Prop) (hm : zbn (Sat Tryz.prog) (fun v h' => ∃ r, v = .bool r ∧ K r h') x0 x1 h) : callB (Sat Tryz.prog) zHU [.ptr x0, .ptr x1] h K := by
 have := Sat.ex tok mixed zGA Tryz.func57 (c := za Tryz.f57) (by kernel_rfl) (zb Tryz.func57 (c := za Tryz.f57) (by kernel_rfl) (by decide)) ((zbm _ _ x0 x1 h).mpr hm)
 obtain ⟨v, h2, h3, r, rfl, h4⟩ := this; exact ⟨r, h2, h3, h4⟩
def f3_M : Nat → List Nat := fun i => []
def zhA (S : SatT) (K : KT) (x0 : Sl) (h : H) : Prop :=
 K (.bool (decide ((x0.len : Int) > (4096)))) h
theorem zfI (S : SatT) (K : KT) (x0 : Sl) (h : H) : cwp S tab f3_M [] (za Tryz.f5) (kFun tab Tryz.f5.results.toList K) (fr0 Tryz.f5 [.sl x0]) h = zhA S K x0 h := by kernel_rfl
theorem zDA (x0 : Sl) (h : H) (K : Bool → H → Prop) (hm : zhA (Sat Tryz.prog) (fun v h' => ∃ r, v = .bool r ∧ K r h') x0 h) : callB (Sat Tryz.prog) i_f3 [.sl x0] h K := by
 have := Sat.ex tok mixed f3_M Tryz.func5 (c := za Tryz.f5) (by kernel_rfl) (zb Tryz.func5 (c := za Tryz.f5) (by kernel_rfl) (by decide)) ((zfI _ _ x0 h).mpr hm)
 obtain ⟨v, h2, h3, r, rfl, h4⟩ := this; exact ⟨r, h2, h3, h4⟩
def w7 : Nat → List Nat := fun i => bif i == 4 then [1, 2, 3, 4, 13, 15, 16] else bif i == 2 then [1, 2, 3, 4, 13] else bif i == 0 then [1, 2, 3, 4, 5, 13, 14] else []
def zDl (S : SatT) (K : KT) : Kont := kSeq (cwp S tab w7 [] (sq Tryz.f79 3 7) (kFun tab (Tryz.f79).results.toList K)) (kFun tab (Tryz.f79).results.toList K)
def XC (s1_ s2_ : Sl) (i3 i4 i5 : Int) (s13_ : Sl) (i14 : Int) : Frame := (U :: .sl s1_ :: .sl s2_ :: .int .i64 i3 :: .int .i64 i4 :: .int .i64 i5 :: uu 7 (.sl s13_ :: .int .i64 i14 :: uu 55 []))
def zzF (S : SatT) (K : KT) : (XT) → XT := fun X fr h => cwp S tab w7 (w7 0) (sq Tryz.f79 6 52) (kSeq (fun fr h => X (mask (w7 0) fr) h) (kBlk 0 (zDl S K))) fr h
def zzI (S : SatT) (K : KT) (s1_ s2_ : Sl) (i3 i4 i5 : Int) (s13_ : Sl) (i14 : Int) (h : H) : Prop := zA (zzF S K) (XC s1_ s2_ i3 i4 i5 s13_ i14) h
def zhs (S : SatT) (K : KT) : Kont := kSeq (cwp S tab w7 [] (sq Tryz.f79 4 15) (kFun tab (Tryz.f79).results.toList K)) (kFun tab (Tryz.f79).results.toList K)
def zft (s1_ s2_ : Sl) (i3 i4 : Int) (s13_ : Sl) : Frame := (U :: .sl s1_ :: .sl s2_ :: .int .i64 i3 :: .int .i64 i4 :: uu 8 (.sl s13_ :: uu 56 []))
def zzE (S : SatT) (K : KT) : (XT) → XT := fun X fr h => cwp S tab w7 (w7 2) (sq Tryz.f79 6 56) (kSeq (fun fr h => X (mask (w7 2) fr) h) (kBlk 2 (zhs S K))) fr h
def zzH (S : SatT) (K : KT) (s1_ s2_ : Sl) (i3 i4 : Int) (s13_ : Sl) (h : H) : Prop := zA (zzE S K) (zft s1_ s2_ i3 i4 s13_) h
def zjB (S : SatT) (K : KT) (X2 : XT) : Kont := kSeq (cwp S tab w7 (w7 2) (sq Tryz.f79 8 227) (kSeq (fun fr h => X2 (mask (w7 2) fr) h) (kBlk 2 (zhs S K)))) (kSeq (fun fr h => X2 (mask (w7 2) fr) h) (kBlk 2 (zhs S K)))
def zwD (S : SatT) (K : KT) (X2 : XT) : Kont := kSeq (cwp S tab w7 (w7 3) (sq Tryz.f79 11 1811) (kBlk 3 (zjB S K X2))) (kBlk 3 (zjB S K X2))
def zfs (s1_ s2_ : Sl) (i3 i4 : Int) (s13_ s15_ : Sl) (i16 : Int) : Frame := (U :: .sl s1_ :: .sl s2_ :: .int .i64 i3 :: .int .i64 i4 :: uu 8 (.sl s13_ :: U :: .sl s15_ :: .int .i64 i16 :: uu 53 []))
def zzD (S : SatT) (K : KT) (X2 : XT) : (XT) → XT := fun X fr h => cwp S tab w7 (w7 4) (sq Tryz.f79 14 14484) (kSeq (fun fr h => X (mask (w7 4) fr) h) (kBlk 4 (zwD S K X2))) fr h
def zzG (S : SatT) (K : KT) (X2 : XT) (s1_ s2_ : Sl) (i3 i4 : Int) (s13_ s15_ : Sl) (i16 : Int) (h : H) : Prop := zA (zzD S K X2) (zfs s1_ s2_ i3 i4 s13_ s15_ i16) h
def zpg (S : SatT) (K : KT) (X2 : XT) (s1_ s2_ : Sl) (i3 i4 : Int) (s13_ : Sl) (h : H) : Prop :=
 X2 (zft s1_ s2_ i3 (w64 (i4 - (1))) s13_) h
def zpf (S : SatT) (K : KT) (X2 : XT) (s1_ s2_ : Sl) (i3 i4 : Int) (s15_ : Sl) (h : H) : Prop :=
 zpg S K X2 s1_ s2_ i3 i4 s15_ h
def zjD (S : SatT) (K : KT) (X2 X4 : XT) (s1_ s2_ : Sl) (i3 i4 : Int) (s13_ s15_ : Sl) (i16 : Int) (h : H) : Prop :=
 bif (decide (i16 < (s1_.len : Int))) then
 ixS s1_ 1 i16 fun p0 =>
 ldI .i64 p0 h fun n1 =>
 ixS s1_ 1 i16 fun p2 =>
 ldI .i64 p2 h fun n3 =>
 ixS s15_ 1 n3 fun p4 =>
 ldI .i64 p4 h fun n5 =>
 ixS s2_ 1 i16 fun p6 =>
 ldI .i64 p6 h fun n7 =>
 ixS s13_ 1 n7 fun p8 =>
 ldI .i64 p8 h fun n9 =>
 ixS s15_ 1 n1 fun p10 =>
 st1 p10 (.int .i64 (mnI (w64 (n5 + n9)) (1000000000000001))) h fun h11 =>
 X4 (zfs s1_ s2_ i3 i4 s13_ s15_ (w64 (i16 + (1)))) h11
 else
 zpf S K X2 s1_ s2_ i3 i4 s15_ h
theorem zpc (S : SatT) (K : KT) (X2 X4 : XT) (s1_ s2_ : Sl) (i3 i4 : Int) (s13_ s15_ : Sl) (i16 : Int) (h : H) : zzD S K X2 X4 (zfs s1_ s2_ i3 i4 s13_ s15_ i16) h = zjD S K X2 X4 s1_ s2_ i3 i4 s13_ s15_ i16 h := by kernel_rfl
theorem zfp (S : SatT) (K : KT) (X2 : XT) (s1_ s2_ : Sl) (i3 i4 : Int) (s13_ s15_ : Sl) (I_ : Int → H → Prop) (m_ : Int → H → Nat)
  (hs : ∀ (X4 : XT) (i16 : Int) (h : H), I_ i16 h → (∀ (i16' : Int) (h' : H), I_ i16' h' → m_ i16' h' < m_ i16 h → X4 (zfs s1_ s2_ i3 i4 s13_ s15_ i16') h') → zjD S K X2 X4 s1_ s2_ i3 i4 s13_ s15_ i16 h) (i16 : Int) {h : H} (h0 : I_ i16 h) : zzG S K X2 s1_ s2_ i3 i4 s13_ s15_ i16 h :=
 ze (σ := (Int)) (fun s_ => zfs s1_ s2_ i3 i4 s13_ s15_ (s_)) (fun s_ h => I_ (s_) h) (fun s_ h => m_ (s_) h)
  (fun X s_ h hi hx => (zpc S K X2 X s1_ s2_ i3 i4 s13_ s15_ (s_) h).mpr (hs X (s_) h hi fun i16' h' hi' hm' => hx (i16') h' hi' hm')) (i16) h0
def zph (S : SatT) (K : KT) (s13_ : Sl) (h : H) : Prop :=
 K (.sl s13_) h
def zjE (S : SatT) (K : KT) (X2 : XT) (s1_ s2_ : Sl) (i3 i4 : Int) (s13_ : Sl) (h : H) : Prop :=
 bif (decide (i4 > (0))) then
 mkS i3 [.int .i64 (0)] h fun s0 h1 =>
 zzG S K X2 s1_ s2_ i3 i4 s13_ s0 (0) h1
 else
 zph S K s13_ h
theorem zpd (S : SatT) (K : KT) (X2 : XT) (s1_ s2_ : Sl) (i3 i4 : Int) (s13_ : Sl) (h : H) : zzE S K X2 (zft s1_ s2_ i3 i4 s13_) h = zjE S K X2 s1_ s2_ i3 i4 s13_ h := by kernel_rfl
theorem zfq (S : SatT) (K : KT) (s1_ s2_ : Sl) (i3 : Int) (I_ : Int → Sl → H → Prop) (m_ : Int → Sl → H → Nat)
  (hs : ∀ (X2 : XT) (i4 : Int) (s13_ : Sl) (h : H), I_ i4 s13_ h → (∀ (i4' : Int) (s13_' : Sl) (h' : H), I_ i4' s13_' h' → m_ i4' s13_' h' < m_ i4 s13_ h → X2 (zft s1_ s2_ i3 i4' s13_') h') → zjE S K X2 s1_ s2_ i3 i4 s13_ h) (i4 : Int) (s13_ : Sl) {h : H} (h0 : I_ i4 s13_ h) : zzH S K s1_ s2_ i3 i4 s13_ h :=
 ze (σ := (Int) × (Sl)) (fun s_ => zft s1_ s2_ i3 (s_.1) (s_.2)) (fun s_ h => I_ (s_.1) (s_.2) h) (fun s_ h => m_ (s_.1) (s_.2) h)
  (fun X s_ h hi hx => (zpd S K X s1_ s2_ i3 (s_.1) (s_.2) h).mpr (hs X (s_.1) (s_.2) h hi fun i4' s13_' h' hi' hm' => hx (i4', s13_') h' hi' hm')) (i4, s13_) h0
def zpi (S : SatT) (K : KT) (s1_ s2_ : Sl) (i3 i4 : Int) (s13_ : Sl) (h : H) : Prop :=
 zzH S K s1_ s2_ i3 i4 s13_ h
def zjF (S : SatT) (K : KT) (X0 : XT) (s1_ s2_ : Sl) (i3 i4 i5 : Int) (s13_ : Sl) (i14 : Int) (h : H) : Prop :=
 bif (decide (i14 < i3)) then
 bif (decide (i5 < (0))) then
 ixS s13_ 1 i14 fun p0 =>
 st1 p0 (.int .i64 (1)) h fun h1 =>
 X0 (XC s1_ s2_ i3 i4 i5 s13_ (w64 (i14 + (1)))) h1
 else
 bif (i14 == i5) then
 ixS s13_ 1 i14 fun p2 =>
 st1 p2 (.int .i64 (1)) h fun h3 =>
 X0 (XC s1_ s2_ i3 i4 i5 s13_ (w64 (i14 + (1)))) h3
 else
 X0 (XC s1_ s2_ i3 i4 i5 s13_ (w64 (i14 + (1)))) h
 else
 zpi S K s1_ s2_ i3 i4 s13_ h
theorem zpe (S : SatT) (K : KT) (X0 : XT) (s1_ s2_ : Sl) (i3 i4 i5 : Int) (s13_ : Sl) (i14 : Int) (h : H) : zzF S K X0 (XC s1_ s2_ i3 i4 i5 s13_ i14) h = zjF S K X0 s1_ s2_ i3 i4 i5 s13_ i14 h := by kernel_rfl
theorem zfr (S : SatT) (K : KT) (s1_ s2_ : Sl) (i3 i4 i5 : Int) (s13_ : Sl) (I_ : Int → H → Prop) (m_ : Int → H → Nat)
  (hs : ∀ (X0 : XT) (i14 : Int) (h : H), I_ i14 h → (∀ (i14' : Int) (h' : H), I_ i14' h' → m_ i14' h' < m_ i14 h → X0 (XC s1_ s2_ i3 i4 i5 s13_ i14') h') → zjF S K X0 s1_ s2_ i3 i4 i5 s13_ i14 h) (i14 : Int) {h : H} (h0 : I_ i14 h) : zzI S K s1_ s2_ i3 i4 i5 s13_ i14 h :=
 ze (σ := (Int)) (fun s_ => XC s1_ s2_ i3 i4 i5 s13_ (s_)) (fun s_ h => I_ (s_) h) (fun s_ h => m_ (s_) h)
  (fun X s_ h hi hx => (zpe S K X s1_ s2_ i3 i4 i5 s13_ (s_) h).mpr (hs X (s_) h hi fun i14' h' hi' hm' => hx (i14') h' hi' hm')) (i14) h0
def YN (S : SatT) (K : KT) (x0 : List AVal) (x1 x2 : Sl) (x3 x4 x5 : Int) (h : H) : Prop :=
 newK 2 x0 h fun p0 h1 =>
 mkS x3 [.int .i64 (0)] h1 fun s2 h3 =>
 zzI S K x1 x2 x3 x4 x5 s2 (0) h3
theorem zav (S : SatT) (K : KT) (x0 : List AVal) (x1 x2 : Sl) (x3 x4 x5 : Int) (h : H) : cwp S tab w7 [] (za Tryz.f79) (kFun tab Tryz.f79.results.toList K) (fr0 Tryz.f79 [.agg x0, .sl x1, .sl x2, .int .i64 x3, .int .i64 x4, .int .i64 x5]) h = YN S K x0 x1 x2 x3 x4 x5 h := by kernel_rfl
theorem zjC (x0 : List AVal) (x1 x2 : Sl) (x3 x4 x5 : Int) (h : H) (K : Sl → H → Prop) (hm : YN (Sat Tryz.prog) (fun v h' => ∃ r, v = .sl r ∧ K r h') x0 x1 x2 x3 x4 x5 h) : callS (Sat Tryz.prog) zhk [.agg x0, .sl x1, .sl x2, .int .i64 x3, .int .i64 x4, .int .i64 x5] h K := by
 have := Sat.ex tok mixed w7 Tryz.func79 (c := za Tryz.f79) (by kernel_rfl) (zb Tryz.func79 (c := za Tryz.f79) (by kernel_rfl) (by decide)) ((zav _ _ x0 x1 x2 x3 x4 x5 h).mpr hm)
 obtain ⟨v, h2, h3, r, rfl, h4⟩ := this; exact ⟨r, h2, h3, h4⟩
def Z0 : Nat → List Nat := fun i => bif i == 2 then [1, 2, 5, 6, 9, 10, 11, 16, 17, 18] else bif i == 0 then [1, 2, 9, 10, 11] else []
def zhu (S : SatT) (K : KT) : Kont := kSeq (cwp S tab Z0 [] (sq Tryz.f63 2 3) (kFun tab (Tryz.f63).results.toList K)) (kFun tab (Tryz.f63).results.toList K)
def zfz (s1_ : Sl) (p2_ : Pt) (s9_ : Sl) (i10 i11 : Int) : Frame := (U :: .sl s1_ :: .ptr p2_ :: uu 6 (.sl s9_ :: .int .i64 i10 :: .int .i64 i11 :: uu 60 []))
def zAb (S : SatT) (K : KT) : (XT) → XT := fun X fr h => cwp S tab Z0 (Z0 0) (sq Tryz.f63 5 20) (kSeq (fun fr h => X (mask (Z0 0) fr) h) (kBlk 0 (zhu S K))) fr h
def zAd (S : SatT) (K : KT) (s1_ : Sl) (p2_ : Pt) (s9_ : Sl) (i10 i11 : Int) (h : H) : Prop := zA (zAb S K) (zfz s1_ p2_ s9_ i10 i11) h
def zDt (S : SatT) (K : KT) (X0 : XT) : Kont := kSeq (cwp S tab Z0 (Z0 0) (sq Tryz.f63 8 167) (kSeq (fun fr h => X0 (mask (Z0 0) fr) h) (kBlk 0 (zhu S K)))) (kSeq (fun fr h => X0 (mask (Z0 0) fr) h) (kBlk 0 (zhu S K)))
def vL (s1_ : Sl) (p2_ : Pt) (i5 : Int) (s6_ s9_ : Sl) (i10 i11 : Int) (s16_ : Sl) (i17 i18 : Int) : Frame := (U :: .sl s1_ :: .ptr p2_ :: U :: U :: .int .i64 i5 :: .sl s6_ :: U :: U :: .sl s9_ :: .int .i64 i10 :: .int .i64 i11 :: uu 4 (.sl s16_ :: .int .i64 i17 :: .int .i64 i18 :: uu 53 []))
def zAa (S : SatT) (K : KT) (X0 : XT) : (XT) → XT := fun X fr h => cwp S tab Z0 (Z0 2) (sq Tryz.f63 13 5324) (kSeq (fun fr h => X (mask (Z0 2) fr) h) (kBlk 2 (kBlk 1 (zDt S K X0)))) fr h
def zAc (S : SatT) (K : KT) (X0 : XT) (s1_ : Sl) (p2_ : Pt) (i5 : Int) (s6_ s9_ : Sl) (i10 i11 : Int) (s16_ : Sl) (i17 i18 : Int) (h : H) : Prop := zA (zAa S K X0) (vL s1_ p2_ i5 s6_ s9_ i10 i11 s16_ i17 i18) h
def zAf (S : SatT) (K : KT) (X0 : XT) (s1_ : Sl) (p2_ : Pt) (s9_ : Sl) (i10 i11 : Int) (h : H) : Prop :=
 X0 (zfz s1_ p2_ s9_ i10 (w64 (i11 + (1)))) h
def zAe (S : SatT) (K : KT) (X0 : XT) (s1_ : Sl) (p2_ : Pt) (s9_ : Sl) (i10 i11 : Int) (h : H) : Prop :=
 zAf S K X0 s1_ p2_ s9_ i10 i11 h
def zpG (S : SatT) (K : KT) (X0 X2 : XT) (s1_ : Sl) (p2_ : Pt) (i5 : Int) (s6_ s9_ : Sl) (i10 i11 : Int) (s16_ : Sl) (i17 i18 : Int) (h : H) : Prop :=
 bif (decide (i18 < i17)) then
 ixS s16_ 1 i18 fun p0 =>
 ldI .i64 p0 h fun n1 =>
 bif (decide (i18 > (0))) then
 isPt p2_ (
 ldS (Pt.add p2_ 1) h fun s2 =>
 ixS s6_ 1 (w64 (i18 - (1))) fun p3 =>
 ldI .i64 p3 h fun n4 =>
 ixS s2 4 n4 fun p5 =>
 ixA p5 4 1 (2) fun p6 =>
 ldI .i64 p6 h fun n7 =>
 isPt p2_ (
 ldS (Pt.add p2_ 1) h fun s8 =>
 ixS s8 4 n1 fun p9 =>
 ixA p9 4 1 (0) fun p10 =>
 ldI .i64 p10 h fun n11 =>
 bif (n7 != n11) then
 K (.bool false) h
 else
 bif (decide (i5 > (0))) then
 isPt p2_ (
 ldS (Pt.add p2_ 1) h fun s12 =>
 ixS s1_ 1 (w64 (i5 - (1))) fun p13 =>
 ldS p13 h fun s14 =>
 ixS s14 1 i18 fun p15 =>
 ldI .i64 p15 h fun n16 =>
 ixS s12 4 n16 fun p17 =>
 ixA p17 4 1 (3) fun p18 =>
 ldI .i64 p18 h fun n19 =>
 isPt p2_ (
 ldS (Pt.add p2_ 1) h fun s20 =>
 ixS s20 4 n1 fun p21 =>
 ixA p21 4 1 (1) fun p22 =>
 ldI .i64 p22 h fun n23 =>
 bif (n19 != n23) then
 K (.bool false) h
 else
 X2 (vL s1_ p2_ i5 s6_ s9_ i10 i11 s16_ i17 (w64 (i18 + (1)))) h))
 else
 X2 (vL s1_ p2_ i5 s6_ s9_ i10 i11 s16_ i17 (w64 (i18 + (1)))) h))
 else
 bif (decide (i5 > (0))) then
 isPt p2_ (
 ldS (Pt.add p2_ 1) h fun s24 =>
 ixS s1_ 1 (w64 (i5 - (1))) fun p25 =>
 ldS p25 h fun s26 =>
 ixS s26 1 i18 fun p27 =>
 ldI .i64 p27 h fun n28 =>
 ixS s24 4 n28 fun p29 =>
 ixA p29 4 1 (3) fun p30 =>
 ldI .i64 p30 h fun n31 =>
 isPt p2_ (
 ldS (Pt.add p2_ 1) h fun s32 =>
 ixS s32 4 n1 fun p33 =>
 ixA p33 4 1 (1) fun p34 =>
 ldI .i64 p34 h fun n35 =>
 bif (n31 != n35) then
 K (.bool false) h
 else
 X2 (vL s1_ p2_ i5 s6_ s9_ i10 i11 s16_ i17 (w64 (i18 + (1)))) h))
 else
 X2 (vL s1_ p2_ i5 s6_ s9_ i10 i11 s16_ i17 (w64 (i18 + (1)))) h
 else
 zAe S K X0 s1_ p2_ s9_ i10 i11 h
theorem zpE (S : SatT) (K : KT) (X0 X2 : XT) (s1_ : Sl) (p2_ : Pt) (i5 : Int) (s6_ s9_ : Sl) (i10 i11 : Int) (s16_ : Sl) (i17 i18 : Int) (h : H) : zAa S K X0 X2 (vL s1_ p2_ i5 s6_ s9_ i10 i11 s16_ i17 i18) h = zpG S K X0 X2 s1_ p2_ i5 s6_ s9_ i10 i11 s16_ i17 i18 h := by kernel_rfl
theorem zpC (S : SatT) (K : KT) (X0 : XT) (s1_ : Sl) (p2_ : Pt) (i5 : Int) (s6_ s9_ : Sl) (i10 i11 : Int) (s16_ : Sl) (i17 : Int) (I_ : Int → H → Prop) (m_ : Int → H → Nat)
  (hs : ∀ (X2 : XT) (i18 : Int) (h : H), I_ i18 h → (∀ (i18' : Int) (h' : H), I_ i18' h' → m_ i18' h' < m_ i18 h → X2 (vL s1_ p2_ i5 s6_ s9_ i10 i11 s16_ i17 i18') h') → zpG S K X0 X2 s1_ p2_ i5 s6_ s9_ i10 i11 s16_ i17 i18 h) (i18 : Int) {h : H} (h0 : I_ i18 h) : zAc S K X0 s1_ p2_ i5 s6_ s9_ i10 i11 s16_ i17 i18 h :=
 ze (σ := (Int)) (fun s_ => vL s1_ p2_ i5 s6_ s9_ i10 i11 s16_ i17 (s_)) (fun s_ h => I_ (s_) h) (fun s_ h => m_ (s_) h)
  (fun X s_ h hi hx => (zpE S K X0 X s1_ p2_ i5 s6_ s9_ i10 i11 s16_ i17 (s_) h).mpr (hs X (s_) h hi fun i18' h' hi' hm' => hx (i18') h' hi' hm')) (i18) h0
def zAg (S : SatT) (K : KT) (h : H) : Prop :=
 K (.bool true) h
def zpH (S : SatT) (K : KT) (X0 : XT) (s1_ : Sl) (p2_ : Pt) (s9_ : Sl) (i10 i11 : Int) (h : H) : Prop :=
 bif (decide (i11 < i10)) then
 ixS s9_ 1 i11 fun p0 =>
 ldS p0 h fun s1 =>
 zAc S K X0 s1_ p2_ i11 s1 s9_ i10 i11 s1 (s1.len : Int) (0) h
 else
 zAg S K h
theorem zpF (S : SatT) (K : KT) (X0 : XT) (s1_ : Sl) (p2_ : Pt) (s9_ : Sl) (i10 i11 : Int) (h : H) : zAb S K X0 (zfz s1_ p2_ s9_ i10 i11) h = zpH S K X0 s1_ p2_ s9_ i10 i11 h := by kernel_rfl
theorem zpD (S : SatT) (K : KT) (s1_ : Sl) (p2_ : Pt) (s9_ : Sl) (i10 : Int) (I_ : Int → H → Prop) (m_ : Int → H → Nat)
  (hs : ∀ (X0 : XT) (i11 : Int) (h : H), I_ i11 h → (∀ (i11' : Int) (h' : H), I_ i11' h' → m_ i11' h' < m_ i11 h → X0 (zfz s1_ p2_ s9_ i10 i11') h') → zpH S K X0 s1_ p2_ s9_ i10 i11 h) (i11 : Int) {h : H} (h0 : I_ i11 h) : zAd S K s1_ p2_ s9_ i10 i11 h :=
 ze (σ := (Int)) (fun s_ => zfz s1_ p2_ s9_ i10 (s_)) (fun s_ h => I_ (s_) h) (fun s_ h => m_ (s_) h)
  (fun X s_ h hi hx => (zpF S K X s1_ p2_ s9_ i10 (s_) h).mpr (hs X (s_) h hi fun i11' h' hi' hm' => hx (i11') h' hi' hm')) (i11) h0
def zbb (S : SatT) (K : KT) (x0 : List AVal) (x1 : Sl) (h : H) : Prop :=
 newK 2 x0 h fun p0 h1 =>
 zAd S K x1 p0 x1 (x1.len : Int) (0) h1
theorem zba (S : SatT) (K : KT) (x0 : List AVal) (x1 : Sl) (h : H) : cwp S tab Z0 [] (za Tryz.f63) (kFun tab Tryz.f63.results.toList K) (fr0 Tryz.f63 [.agg x0, .sl x1]) h = zbb S K x0 x1 h := by kernel_rfl
theorem zwT (x0 : List AVal) (x1 : Sl) (h : H) (K : Bool → H → Prop) (hm : zbb (Sat Tryz.prog) (fun v h' => ∃ r, v = .bool r ∧ K r h') x0 x1 h) : callB (Sat Tryz.prog) zwi [.agg x0, .sl x1] h K := by
 have := Sat.ex tok mixed Z0 Tryz.func63 (c := za Tryz.f63) (by kernel_rfl) (zb Tryz.func63 (c := za Tryz.f63) (by kernel_rfl) (by decide)) ((zba _ _ x0 x1 h).mpr hm)
 obtain ⟨v, h2, h3, r, rfl, h4⟩ := this; exact ⟨r, h2, h3, h4⟩
def qO : Nat → List Nat := fun i => bif i == 2 then [1, 4, 5, 6, 7] else bif i == 0 then [1, 4, 5] else []
def zhO (S : SatT) (K : KT) : Kont := kSeq (cwp S tab qO [] (sq Tryz.f19 4 15) (kFun tab (Tryz.f19).results.toList K)) (kFun tab (Tryz.f19).results.toList K)
def zga (p1_ : Pt) (s4_ : Sl) (i5 : Int) : Frame := (U :: .ptr p1_ :: U :: U :: .sl s4_ :: .int .i64 i5 :: uu 27 [])
def zBo (S : SatT) (K : KT) : (XT) → XT := fun X fr h => cwp S tab qO (qO 0) (sq Tryz.f19 7 116) (kSeq (fun fr h => X (mask (qO 0) fr) h) (kBlk 0 (zhO S K))) fr h
def zBq (S : SatT) (K : KT) (p1_ : Pt) (s4_ : Sl) (i5 : Int) (h : H) : Prop := zA (zBo S K) (zga p1_ s4_ i5) h
def zsm (S : SatT) (K : KT) (X0 : XT) : Kont := kSeq (cwp S tab qO (qO 0) (sq Tryz.f19 9 467) (kSeq (fun fr h => X0 (mask (qO 0) fr) h) (kBlk 0 (zhO S K)))) (kSeq (fun fr h => X0 (mask (qO 0) fr) h) (kBlk 0 (zhO S K)))
def zya (S : SatT) (K : KT) (X0 : XT) : Kont := kSeq (cwp S tab qO (qO 1) (sq Tryz.f19 12 3731) (kBlk 1 (zsm S K X0))) (kBlk 1 (zsm S K X0))
def zfZ (p1_ : Pt) (s4_ : Sl) (i5 : Int) (s6_ : Sl) (i7 : Int) : Frame := (U :: .ptr p1_ :: U :: U :: .sl s4_ :: .int .i64 i5 :: .sl s6_ :: .int .i64 i7 :: uu 25 [])
def zBn (S : SatT) (K : KT) (X0 : XT) : (XT) → XT := fun X fr h => cwp S tab qO (qO 2) (sq Tryz.f19 15 29844) (kSeq (fun fr h => X (mask (qO 2) fr) h) (kBlk 2 (zya S K X0))) fr h
def zBp (S : SatT) (K : KT) (X0 : XT) (p1_ : Pt) (s4_ : Sl) (i5 : Int) (s6_ : Sl) (i7 : Int) (h : H) : Prop := zA (zBn S K X0) (zfZ p1_ s4_ i5 s6_ i7) h
def zBs (S : SatT) (K : KT) (X0 : XT) (p1_ : Pt) (s4_ : Sl) (i5 : Int) (h : H) : Prop :=
 X0 (zga p1_ s4_ (w64 (i5 + (1)))) h
def zBr (S : SatT) (K : KT) (X0 : XT) (p1_ : Pt) (s4_ : Sl) (i5 : Int) (s6_ : Sl) (h : H) : Prop :=
 newS 1 1 [.sl s6_] h fun s0 h1 =>
 app s4_ s0 1 h1 fun s2 h3 =>
 zBs S K X0 p1_ s2 i5 h3
def zsn (S : SatT) (K : KT) (X0 X2 : XT) (p1_ : Pt) (s4_ : Sl) (i5 : Int) (s6_ : Sl) (i7 : Int) (h : H) : Prop :=
 bif (decide (i7 ≤ (3))) then
 ldA p1_ 2 h fun cs0 =>
 callI S .i64 zwk [.agg cs0, .int .i64 i5, .int .i64 i7] h fun n2 h1 =>
 newS 1 1 [.int .i64 n2] h1 fun s3 h4 =>
 app s6_ s3 1 h4 fun s5 h6 =>
 X2 (zfZ p1_ s4_ i5 s5 (w64 (i7 + (1)))) h6
 else
 zBr S K X0 p1_ s4_ i5 s6_ h
theorem zsk (S : SatT) (K : KT) (X0 X2 : XT) (p1_ : Pt) (s4_ : Sl) (i5 : Int) (s6_ : Sl) (i7 : Int) (h : H) : zBn S K X0 X2 (zfZ p1_ s4_ i5 s6_ i7) h = zsn S K X0 X2 p1_ s4_ i5 s6_ i7 h := by kernel_rfl
theorem zsi (S : SatT) (K : KT) (X0 : XT) (p1_ : Pt) (s4_ : Sl) (i5 : Int) (I_ : Sl → Int → H → Prop) (m_ : Sl → Int → H → Nat)
  (hs : ∀ (X2 : XT) (s6_ : Sl) (i7 : Int) (h : H), I_ s6_ i7 h → (∀ (s6_' : Sl) (i7' : Int) (h' : H), I_ s6_' i7' h' → m_ s6_' i7' h' < m_ s6_ i7 h → X2 (zfZ p1_ s4_ i5 s6_' i7') h') → zsn S K X0 X2 p1_ s4_ i5 s6_ i7 h) (s6_ : Sl) (i7 : Int) {h : H} (h0 : I_ s6_ i7 h) : zBp S K X0 p1_ s4_ i5 s6_ i7 h :=
 ze (σ := (Sl) × (Int)) (fun s_ => zfZ p1_ s4_ i5 (s_.1) (s_.2)) (fun s_ h => I_ (s_.1) (s_.2) h) (fun s_ h => m_ (s_.1) (s_.2) h)
  (fun X s_ h hi hx => (zsk S K X0 X p1_ s4_ i5 (s_.1) (s_.2) h).mpr (hs X (s_.1) (s_.2) h hi fun s6_' i7' h' hi' hm' => hx (s6_', i7') h' hi' hm')) (s6_, i7) h0
def zBt (S : SatT) (K : KT) (s4_ : Sl) (h : H) : Prop :=
 K (.tuple [.sl s4_, .int .i64 (0)]) h
def zso (S : SatT) (K : KT) (X0 : XT) (p1_ : Pt) (s4_ : Sl) (i5 : Int) (h : H) : Prop :=
 bif (decide (i5 ≤ (3))) then
 newS 0 1 [] h fun s0 h1 =>
 zBp S K X0 p1_ s4_ i5 s0 (1) h1
 else
 zBt S K s4_ h
theorem zsl (S : SatT) (K : KT) (X0 : XT) (p1_ : Pt) (s4_ : Sl) (i5 : Int) (h : H) : zBo S K X0 (zga p1_ s4_ i5) h = zso S K X0 p1_ s4_ i5 h := by kernel_rfl
theorem zsj (S : SatT) (K : KT) (p1_ : Pt) (I_ : Sl → Int → H → Prop) (m_ : Sl → Int → H → Nat)
  (hs : ∀ (X0 : XT) (s4_ : Sl) (i5 : Int) (h : H), I_ s4_ i5 h → (∀ (s4_' : Sl) (i5' : Int) (h' : H), I_ s4_' i5' h' → m_ s4_' i5' h' < m_ s4_ i5 h → X0 (zga p1_ s4_' i5') h') → zso S K X0 p1_ s4_ i5 h) (s4_ : Sl) (i5 : Int) {h : H} (h0 : I_ s4_ i5 h) : zBq S K p1_ s4_ i5 h :=
 ze (σ := (Sl) × (Int)) (fun s_ => zga p1_ (s_.1) (s_.2)) (fun s_ h => I_ (s_.1) (s_.2) h) (fun s_ h => m_ (s_.1) (s_.2) h)
  (fun X s_ h hi hx => (zsl S K X p1_ (s_.1) (s_.2) h).mpr (hs X (s_.1) (s_.2) h hi fun s4_' i5' h' hi' hm' => hx (s4_', i5') h' hi' hm')) (s4_, i5) h0
def zdv (S : SatT) (K : KT) (x0 : List AVal) (h : H) : Prop :=
 newK 2 x0 h fun p0 h1 =>
 ldA p0 2 h1 fun cs2 =>
 callB S zeV [.agg cs2] h1 fun b4 h3 =>
 bif (!b4) then
 K (.tuple [.sl Sl.nil, .int .i64 (1)]) h3
 else
 newS 0 1 [] h3 fun s5 h6 =>
 zBq S K p0 s5 (1) h6
theorem zdu (S : SatT) (K : KT) (x0 : List AVal) (h : H) : cwp S tab qO [] (za Tryz.f19) (kFun tab Tryz.f19.results.toList K) (fr0 Tryz.f19 [.agg x0]) h = zdv S K x0 h := by kernel_rfl
theorem zyb (x0 : List AVal) (h : H) (K : KT) (hm : zdv (Sat Tryz.prog) (fun v h' => K v h') x0 h) : callV (Sat Tryz.prog) zCV [.agg x0] h K := by
 have := Sat.ex tok mixed qO Tryz.func19 (c := za Tryz.f19) (by kernel_rfl) (zb Tryz.func19 (c := za Tryz.f19) (by kernel_rfl) (by decide)) ((zdu _ _ x0 h).mpr hm)
 exact this
def Z3 : Nat → List Nat := fun i => bif i == 2 then [1, 4, 5] else bif i == 0 then [1, 4] else []
def zhM (S : SatT) (K : KT) : Kont := kSeq (cwp S tab Z3 [] (sq Tryz.f21 3 7) (kFun tab (Tryz.f21).results.toList K)) (kFun tab (Tryz.f21).results.toList K)
def zfX (p1_ : Pt) (i4 : Int) : Frame := (U :: .ptr p1_ :: U :: U :: .int .i64 i4 :: uu 35 [])
def zBa (S : SatT) (K : KT) : (XT) → XT := fun X fr h => cwp S tab Z3 (Z3 0) (sq Tryz.f21 6 52) (kSeq (fun fr h => X (mask (Z3 0) fr) h) (kBlk 0 (zhM S K))) fr h
def zBc (S : SatT) (K : KT) (p1_ : Pt) (i4 : Int) (h : H) : Prop := zA (zBa S K) (zfX p1_ i4) h
def zFu (S : SatT) (K : KT) (X0 : XT) : Kont := kSeq (cwp S tab Z3 (Z3 0) (sq Tryz.f21 8 211) (kSeq (fun fr h => X0 (mask (Z3 0) fr) h) (kBlk 0 (zhM S K)))) (kSeq (fun fr h => X0 (mask (Z3 0) fr) h) (kBlk 0 (zhM S K)))
def Yp (p1_ : Pt) (i4 i5 : Int) : Frame := (U :: .ptr p1_ :: U :: U :: .int .i64 i4 :: .int .i64 i5 :: uu 34 [])
def zAZ (S : SatT) (K : KT) (X0 : XT) : (XT) → XT := fun X fr h => cwp S tab Z3 (Z3 2) (sq Tryz.f21 12 3364) (kSeq (fun fr h => X (mask (Z3 2) fr) h) (kBlk 2 (kBlk 1 (zFu S K X0)))) fr h
def zBb (S : SatT) (K : KT) (X0 : XT) (p1_ : Pt) (i4 i5 : Int) (h : H) : Prop := zA (zAZ S K X0) (Yp p1_ i4 i5) h
def zBe (S : SatT) (K : KT) (X0 : XT) (p1_ : Pt) (i4 : Int) (h : H) : Prop :=
 X0 (zfX p1_ (w64 (i4 + (1)))) h
def zBd (S : SatT) (K : KT) (X0 : XT) (p1_ : Pt) (i4 : Int) (h : H) : Prop :=
 zBe S K X0 p1_ i4 h
def zsa (S : SatT) (K : KT) (X0 X2 : XT) (p1_ : Pt) (i4 i5 : Int) (h : H) : Prop :=
 bif (decide (i5 ≤ (3))) then
 nz i5 (
 bif ((Int.tmod i4 i5) != (0)) then
 X2 (Yp p1_ i4 (w64 (i5 + (1)))) h
 else
 nz i5 (
 bif (decide ((w64 (Int.tdiv i4 i5)) > (3))) then
 X2 (Yp p1_ i4 (w64 (i5 + (1)))) h
 else
 ldA p1_ 2 h fun cs0 =>
 nz i5 (
 callV S znO [.agg cs0, .int .i64 i5, .int .i64 (w64 (Int.tdiv i4 i5))] h fun v2 h1 =>
 viaT v2 fun vs3 =>
 exS vs3 0 fun s4 =>
 viaT v2 fun vs5 =>
 exB vs5 1 fun b6 =>
 bif b6 then
 K (.tuple [.sl s4, .int .i64 (0)]) h1
 else
 X2 (Yp p1_ i4 (w64 (i5 + (1)))) h1)))
 else
 zBd S K X0 p1_ i4 h
theorem zrY (S : SatT) (K : KT) (X0 X2 : XT) (p1_ : Pt) (i4 i5 : Int) (h : H) : zAZ S K X0 X2 (Yp p1_ i4 i5) h = zsa S K X0 X2 p1_ i4 i5 h := by kernel_rfl
theorem zrW (S : SatT) (K : KT) (X0 : XT) (p1_ : Pt) (i4 : Int) (I_ : Int → H → Prop) (m_ : Int → H → Nat)
  (hs : ∀ (X2 : XT) (i5 : Int) (h : H), I_ i5 h → (∀ (i5' : Int) (h' : H), I_ i5' h' → m_ i5' h' < m_ i5 h → X2 (Yp p1_ i4 i5') h') → zsa S K X0 X2 p1_ i4 i5 h) (i5 : Int) {h : H} (h0 : I_ i5 h) : zBb S K X0 p1_ i4 i5 h :=
 ze (σ := (Int)) (fun s_ => Yp p1_ i4 (s_)) (fun s_ h => I_ (s_) h) (fun s_ h => m_ (s_) h)
  (fun X s_ h hi hx => (zrY S K X0 X p1_ i4 (s_) h).mpr (hs X (s_) h hi fun i5' h' hi' hm' => hx (i5') h' hi' hm')) (i5) h0
def zBf (S : SatT) (K : KT) (h : H) : Prop :=
 K (.tuple [.sl Sl.nil, .int .i64 (4)]) h
def zsb (S : SatT) (K : KT) (X0 : XT) (p1_ : Pt) (i4 : Int) (h : H) : Prop :=
 bif (decide (i4 ≤ (9))) then
 zBb S K X0 p1_ i4 (1) h
 else
 zBf S K h
theorem zrZ (S : SatT) (K : KT) (X0 : XT) (p1_ : Pt) (i4 : Int) (h : H) : zBa S K X0 (zfX p1_ i4) h = zsb S K X0 p1_ i4 h := by kernel_rfl
theorem zrX (S : SatT) (K : KT) (p1_ : Pt) (I_ : Int → H → Prop) (m_ : Int → H → Nat)
  (hs : ∀ (X0 : XT) (i4 : Int) (h : H), I_ i4 h → (∀ (i4' : Int) (h' : H), I_ i4' h' → m_ i4' h' < m_ i4 h → X0 (zfX p1_ i4') h') → zsb S K X0 p1_ i4 h) (i4 : Int) {h : H} (h0 : I_ i4 h) : zBc S K p1_ i4 h :=
 ze (σ := (Int)) (fun s_ => zfX p1_ (s_)) (fun s_ h => I_ (s_) h) (fun s_ h => m_ (s_) h)
  (fun X s_ h hi hx => (zrZ S K X p1_ (s_) h).mpr (hs X (s_) h hi fun i4' h' hi' hm' => hx (i4') h' hi' hm')) (i4) h0
def zdr (S : SatT) (K : KT) (x0 : List AVal) (h : H) : Prop :=
 newK 2 x0 h fun p0 h1 =>
 ldA p0 2 h1 fun cs2 =>
 callB S zeV [.agg cs2] h1 fun b4 h3 =>
 bif (!b4) then
 K (.tuple [.sl Sl.nil, .int .i64 (1)]) h3
 else
 zBc S K p0 (1) h3
theorem zdq (S : SatT) (K : KT) (x0 : List AVal) (h : H) : cwp S tab Z3 [] (za Tryz.f21) (kFun tab Tryz.f21.results.toList K) (fr0 Tryz.f21 [.agg x0]) h = zdr S K x0 h := by kernel_rfl
theorem zxY (x0 : List AVal) (h : H) (K : KT) (hm : zdr (Sat Tryz.prog) (fun v h' => K v h') x0 h) : callV (Sat Tryz.prog) zCT [.agg x0] h K := by
 have := Sat.ex tok mixed Z3 Tryz.func21 (c := za Tryz.f21) (by kernel_rfl) (zb Tryz.func21 (c := za Tryz.f21) (by kernel_rfl) (by decide)) ((zdq _ _ x0 h).mpr hm)
 exact this
def Qw : Nat → List Nat := fun i => bif i == 0 then [1, 2, 4, 5, 6] else []
def zyn (S : SatT) (K : KT) : Kont := kSeq (cwp S tab Qw [] (sq Tryz.f143 3 7) (kFun tab (Tryz.f143).results.toList K)) (kFun tab (Tryz.f143).results.toList K)
def Wg (s1_ : Sl) (p2_ p4_ : Pt) (s5_ : Sl) (i6 : Int) : Frame := (U :: .sl s1_ :: .ptr p2_ :: U :: .ptr p4_ :: .sl s5_ :: .int .i64 i6 :: uu 42 [])
def ztm (S : SatT) (K : KT) : (XT) → XT := fun X fr h => cwp S tab Qw (Qw 0) (sq Tryz.f143 6 52) (kSeq (fun fr h => X (mask (Qw 0) fr) h) (kBlk 0 (zyn S K))) fr h
def zto (S : SatT) (K : KT) (s1_ : Sl) (p2_ p4_ : Pt) (s5_ : Sl) (i6 : Int) (h : H) : Prop := zA (ztm S K) (Wg s1_ p2_ p4_ s5_ i6) h
def ztp (S : SatT) (K : KT) (p2_ p4_ : Pt) (s5_ : Sl) (h : H) : Prop :=
 isPt p2_ (
 ldI .i64 (Pt.add p2_ 0) h fun n0 =>
 callA S Qc [.int .i64 n0, .sl s5_] h fun cs2 h1 =>
 stN p4_ 2 cs2 h1 fun h3 =>
 ldA p4_ 2 h3 fun cs4 =>
 K (.agg cs4) h3)
def zib (S : SatT) (K : KT) (X0 : XT) (s1_ : Sl) (p2_ p4_ : Pt) (s5_ : Sl) (i6 : Int) (h : H) : Prop :=
 isPt p2_ (
 ldS (Pt.add p2_ 1) h fun s0 =>
 bif (decide (i6 < (s0.len : Int))) then
 isPt p2_ (
 ldS (Pt.add p2_ 1) h fun s1 =>
 ixS s1 4 i6 fun p2 =>
 ldA p2 4 h fun cs3 =>
 newO [.int .i64 (0), .int .i64 (0), .int .i64 (0), .int .i64 (0)] h fun p4 h5 =>
 stN p4 4 cs3 h5 fun h6 =>
 ixA p4 4 1 (0) fun p7 =>
 ldI .i64 p7 h6 fun n8 =>
 ixS s1_ 1 n8 fun p9 =>
 ldI .i64 p9 h6 fun n10 =>
 ixA p4 4 1 (1) fun p11 =>
 ldI .i64 p11 h6 fun n12 =>
 ixS s1_ 1 n12 fun p13 =>
 ldI .i64 p13 h6 fun n14 =>
 ixA p4 4 1 (2) fun p15 =>
 ldI .i64 p15 h6 fun n16 =>
 ixS s1_ 1 n16 fun p17 =>
 ldI .i64 p17 h6 fun n18 =>
 ixA p4 4 1 (3) fun p19 =>
 ldI .i64 p19 h6 fun n20 =>
 ixS s1_ 1 n20 fun p21 =>
 ldI .i64 p21 h6 fun n22 =>
 lenA [.int .i64 n10, .int .i64 n14, .int .i64 n18, .int .i64 n22] 4 (
 newS 1 4 (spl [.int .i64 (0), .int .i64 (0), .int .i64 (0), .int .i64 (0)] 0 4 [.int .i64 n10, .int .i64 n14, .int .i64 n18, .int .i64 n22]) h6 fun s23 h24 =>
 app s5_ s23 4 h24 fun s25 h26 =>
 X0 (Wg s1_ p2_ p4_ s25 (w64 (i6 + (1)))) h26))
 else
 ztp S K p2_ p4_ s5_ h)
theorem zlB (S : SatT) (K : KT) (X0 : XT) (s1_ : Sl) (p2_ p4_ : Pt) (s5_ : Sl) (i6 : Int) (h : H) : ztm S K X0 (Wg s1_ p2_ p4_ s5_ i6) h = zib S K X0 s1_ p2_ p4_ s5_ i6 h := by kernel_rfl
theorem zlA (S : SatT) (K : KT) (s1_ : Sl) (p2_ p4_ : Pt) (I_ : Sl → Int → H → Prop) (m_ : Sl → Int → H → Nat)
  (hs : ∀ (X0 : XT) (s5_ : Sl) (i6 : Int) (h : H), I_ s5_ i6 h → (∀ (s5_' : Sl) (i6' : Int) (h' : H), I_ s5_' i6' h' → m_ s5_' i6' h' < m_ s5_ i6 h → X0 (Wg s1_ p2_ p4_ s5_' i6') h') → zib S K X0 s1_ p2_ p4_ s5_ i6 h) (s5_ : Sl) (i6 : Int) {h : H} (h0 : I_ s5_ i6 h) : zto S K s1_ p2_ p4_ s5_ i6 h :=
 ze (σ := (Sl) × (Int)) (fun s_ => Wg s1_ p2_ p4_ (s_.1) (s_.2)) (fun s_ h => I_ (s_.1) (s_.2) h) (fun s_ h => m_ (s_.1) (s_.2) h)
  (fun X s_ h hi hx => (zlB S K X s1_ p2_ p4_ (s_.1) (s_.2) h).mpr (hs X (s_.1) (s_.2) h hi fun s5_' i6' h' hi' hm' => hx (s5_', i6') h' hi' hm')) (s5_, i6) h0
def Wf (S : SatT) (K : KT) (x0 : List AVal) (x1 : Sl) (h : H) : Prop :=
 newK 2 x0 h fun p0 h1 =>
 newO [.int .i64 (0), .sl Sl.nil] h1 fun p2 h3 =>
 newS 0 4 [] h3 fun s4 h5 =>
 zto S K x1 p0 p2 s4 (0) h5
theorem Vg (S : SatT) (K : KT) (x0 : List AVal) (x1 : Sl) (h : H) : cwp S tab Qw [] (za Tryz.f143) (kFun tab Tryz.f143.results.toList K) (fr0 Tryz.f143 [.agg x0, .sl x1]) h = Wf S K x0 x1 h := by kernel_rfl
theorem ztn (x0 : List AVal) (x1 : Sl) (h : H) (K : List AVal → H → Prop) (hm : Wf (Sat Tryz.prog) (fun v h' => ∃ r, v = .agg r ∧ K r h') x0 x1 h) : callA (Sat Tryz.prog) zoj [.agg x0, .sl x1] h K := by
 have := Sat.ex tok mixed Qw Tryz.func143 (c := za Tryz.f143) (by kernel_rfl) (zb Tryz.func143 (c := za Tryz.f143) (by kernel_rfl) (by decide)) ((Vg _ _ x0 x1 h).mpr hm)
 obtain ⟨v, h2, h3, r, rfl, h4⟩ := this; exact ⟨r, h2, h3, h4⟩
def zld : Nat → List Nat := fun i => bif i == 0 then [1, 2, 9, 10, 11] else []
def zDw (S : SatT) (K : KT) : Kont := kSeq (cwp S tab zld [] (sq Tryz.f59 2 3) (kFun tab (Tryz.f59).results.toList K)) (kFun tab (Tryz.f59).results.toList K)
def zfC (s1_ : Sl) (p2_ : Pt) (s9_ : Sl) (i10 i11 : Int) : Frame := (U :: .sl s1_ :: .ptr p2_ :: uu 6 (.sl s9_ :: .int .i64 i10 :: .int .i64 i11 :: uu 29 []))
def zAk (S : SatT) (K : KT) : (XT) → XT := fun X fr h => cwp S tab zld (zld 0) (sq Tryz.f59 5 20) (kSeq (fun fr h => X (mask (zld 0) fr) h) (kBlk 0 (zDw S K))) fr h
def zAl (S : SatT) (K : KT) (s1_ : Sl) (p2_ : Pt) (s9_ : Sl) (i10 i11 : Int) (h : H) : Prop := zA (zAk S K) (zfC s1_ p2_ s9_ i10 i11) h
def zAm (S : SatT) (K : KT) (s1_ : Sl) (p2_ : Pt) (h : H) : Prop :=
 ldA p2_ 2 h fun cs0 =>
 callB S zwj [.agg cs0, .sl s1_] h fun b2 h1 =>
 K (.bool b2) h1
def zpN (S : SatT) (K : KT) (X0 : XT) (s1_ : Sl) (p2_ : Pt) (s9_ : Sl) (i10 i11 : Int) (h : H) : Prop :=
 bif (decide (i11 < i10)) then
 ixS s9_ 1 i11 fun p0 =>
 ldI .i64 p0 h fun n1 =>
 isPt p2_ (
 ldS (Pt.add p2_ 1) h fun s2 =>
 ixS s1_ 1 (w64 ((s1_.len : Int) - (1))) fun p3 =>
 ldS p3 h fun s4 =>
 ixS s4 1 i11 fun p5 =>
 ldI .i64 p5 h fun n6 =>
 ixS s2 4 n6 fun p7 =>
 ixA p7 4 1 (3) fun p8 =>
 ldI .i64 p8 h fun n9 =>
 isPt p2_ (
 ldS (Pt.add p2_ 1) h fun s10 =>
 ixS s10 4 n1 fun p11 =>
 ixA p11 4 1 (1) fun p12 =>
 ldI .i64 p12 h fun n13 =>
 bif (n9 != n13) then
 K (.bool false) h
 else
 X0 (zfC s1_ p2_ s9_ i10 (w64 (i11 + (1)))) h))
 else
 zAm S K s1_ p2_ h
theorem zpM (S : SatT) (K : KT) (X0 : XT) (s1_ : Sl) (p2_ : Pt) (s9_ : Sl) (i10 i11 : Int) (h : H) : zAk S K X0 (zfC s1_ p2_ s9_ i10 i11) h = zpN S K X0 s1_ p2_ s9_ i10 i11 h := by kernel_rfl
theorem zpL (S : SatT) (K : KT) (s1_ : Sl) (p2_ : Pt) (s9_ : Sl) (i10 : Int) (I_ : Int → H → Prop) (m_ : Int → H → Nat)
  (hs : ∀ (X0 : XT) (i11 : Int) (h : H), I_ i11 h → (∀ (i11' : Int) (h' : H), I_ i11' h' → m_ i11' h' < m_ i11 h → X0 (zfC s1_ p2_ s9_ i10 i11') h') → zpN S K X0 s1_ p2_ s9_ i10 i11 h) (i11 : Int) {h : H} (h0 : I_ i11 h) : zAl S K s1_ p2_ s9_ i10 i11 h :=
 ze (σ := (Int)) (fun s_ => zfC s1_ p2_ s9_ i10 (s_)) (fun s_ h => I_ (s_) h) (fun s_ h => m_ (s_) h)
  (fun X s_ h hi hx => (zpM S K X s1_ p2_ s9_ i10 (s_) h).mpr (hs X (s_) h hi fun i11' h' hi' hm' => hx (i11') h' hi' hm')) (i11) h0
def zbj (S : SatT) (K : KT) (x0 : List AVal) (x1 : Sl) (h : H) : Prop :=
 newK 2 x0 h fun p0 h1 =>
 ixS x1 1 (0) fun p2 =>
 ldS p2 h1 fun s3 =>
 zAl S K x1 p0 s3 (s3.len : Int) (0) h1
theorem zbi (S : SatT) (K : KT) (x0 : List AVal) (x1 : Sl) (h : H) : cwp S tab zld [] (za Tryz.f59) (kFun tab Tryz.f59.results.toList K) (fr0 Tryz.f59 [.agg x0, .sl x1]) h = zbj S K x0 x1 h := by kernel_rfl
theorem zwX (x0 : List AVal) (x1 : Sl) (h : H) (K : Bool → H → Prop) (hm : zbj (Sat Tryz.prog) (fun v h' => ∃ r, v = .bool r ∧ K r h') x0 x1 h) : callB (Sat Tryz.prog) zCR [.agg x0, .sl x1] h K := by
 have := Sat.ex tok mixed zld Tryz.func59 (c := za Tryz.f59) (by kernel_rfl) (zb Tryz.func59 (c := za Tryz.f59) (by kernel_rfl) (by decide)) ((zbi _ _ x0 x1 h).mpr hm)
 obtain ⟨v, h2, h3, r, rfl, h4⟩ := this; exact ⟨r, h2, h3, h4⟩
def zkY : Nat → List Nat := fun i => bif i == 0 then [1, 6, 7, 8] else []
def zDo (S : SatT) (K : KT) : Kont := kSeq (cwp S tab zkY [] (sq Tryz.f74 2 3) (kFun tab (Tryz.f74).results.toList K)) (kFun tab (Tryz.f74).results.toList K)
def Qj (p1_ : Pt) (s6_ : Sl) (i7 i8 : Int) : Frame := (U :: .ptr p1_ :: uu 4 (.sl s6_ :: .int .i64 i7 :: .int .i64 i8 :: uu 34 []))
def zzP (S : SatT) (K : KT) : (XT) → XT := fun X fr h => cwp S tab zkY (zkY 0) (sq Tryz.f74 5 20) (kSeq (fun fr h => X (mask (zkY 0) fr) h) (kBlk 0 (zDo S K))) fr h
def zzQ (S : SatT) (K : KT) (p1_ : Pt) (s6_ : Sl) (i7 i8 : Int) (h : H) : Prop := zA (zzP S K) (Qj p1_ s6_ i7 i8) h
def zzR (S : SatT) (K : KT) (p1_ : Pt) (h : H) : Prop :=
 isPt p1_ (
 ldI .i64 (Pt.add p1_ 0) h fun n0 =>
 callB S WX [.int .i64 n0, .int .i64 (1), .int .i64 (6)] h fun b2 h1 =>
 bif b2 then
 isPt p1_ (
 ldS (Pt.add p1_ 1) h1 fun s3 =>
 K (.bool (decide ((s3.len : Int) ≤ (16)))) h1)
 else
 K (.bool false) h1)
def zpr (S : SatT) (K : KT) (X0 : XT) (p1_ : Pt) (s6_ : Sl) (i7 i8 : Int) (h : H) : Prop :=
 bif (decide (i8 < i7)) then
 ixS s6_ 4 i8 fun p0 =>
 ldA p0 4 h fun cs1 =>
 newO [.int .i64 (0), .int .i64 (0), .int .i64 (0), .int .i64 (0)] h fun p2 h3 =>
 stN p2 4 cs1 h3 fun h4 =>
 ldA p2 4 h4 fun cs5 =>
 isPt p1_ (
 ldI .i64 (Pt.add p1_ 0) h4 fun n6 =>
 callB S zor [.agg cs5, .int .i64 n6] h4 fun b8 h7 =>
 bif (!b8) then
 K (.bool false) h7
 else
 bif (decide (i8 > (0))) then
 isPt p1_ (
 ldS (Pt.add p1_ 1) h7 fun s9 =>
 ixS s9 4 (w64 (i8 - (1))) fun p10 =>
 ldA p10 4 h7 fun cs11 =>
 ldA p2 4 h7 fun cs12 =>
 callI S .i64 qB [.agg cs11, .agg cs12] h7 fun n14 h13 =>
 bif (decide (n14 ≥ (0))) then
 K (.bool false) h13
 else
 X0 (Qj p1_ s6_ i7 (w64 (i8 + (1)))) h13)
 else
 X0 (Qj p1_ s6_ i7 (w64 (i8 + (1)))) h7)
 else
 zzR S K p1_ h
theorem zpq (S : SatT) (K : KT) (X0 : XT) (p1_ : Pt) (s6_ : Sl) (i7 i8 : Int) (h : H) : zzP S K X0 (Qj p1_ s6_ i7 i8) h = zpr S K X0 p1_ s6_ i7 i8 h := by kernel_rfl
theorem zpp (S : SatT) (K : KT) (p1_ : Pt) (s6_ : Sl) (i7 : Int) (I_ : Int → H → Prop) (m_ : Int → H → Nat)
  (hs : ∀ (X0 : XT) (i8 : Int) (h : H), I_ i8 h → (∀ (i8' : Int) (h' : H), I_ i8' h' → m_ i8' h' < m_ i8 h → X0 (Qj p1_ s6_ i7 i8') h') → zpr S K X0 p1_ s6_ i7 i8 h) (i8 : Int) {h : H} (h0 : I_ i8 h) : zzQ S K p1_ s6_ i7 i8 h :=
 ze (σ := (Int)) (fun s_ => Qj p1_ s6_ i7 (s_)) (fun s_ h => I_ (s_) h) (fun s_ h => m_ (s_) h)
  (fun X s_ h hi hx => (zpq S K X p1_ s6_ i7 (s_) h).mpr (hs X (s_) h hi fun i8' h' hi' hm' => hx (i8') h' hi' hm')) (i8) h0
def zaF (S : SatT) (K : KT) (x0 : List AVal) (h : H) : Prop :=
 newK 2 x0 h fun p0 h1 =>
 isPt p0 (
 ldS (Pt.add p0 1) h1 fun s2 =>
 zzQ S K p0 s2 (s2.len : Int) (0) h1)
theorem zaE (S : SatT) (K : KT) (x0 : List AVal) (h : H) : cwp S tab zkY [] (za Tryz.f74) (kFun tab Tryz.f74.results.toList K) (fr0 Tryz.f74 [.agg x0]) h = zaF S K x0 h := by kernel_rfl
theorem zwI (x0 : List AVal) (h : H) (K : Bool → H → Prop) (hm : zaF (Sat Tryz.prog) (fun v h' => ∃ r, v = .bool r ∧ K r h') x0 h) : callB (Sat Tryz.prog) zkL [.agg x0] h K := by
 have := Sat.ex tok mixed zkY Tryz.func74 (c := za Tryz.f74) (by kernel_rfl) (zb Tryz.func74 (c := za Tryz.f74) (by kernel_rfl) (by decide)) ((zaE _ _ x0 h).mpr hm)
 obtain ⟨v, h2, h3, r, rfl, h4⟩ := this; exact ⟨r, h2, h3, h4⟩
def zkT : Nat → List Nat := fun i => bif i == 0 then [1, 2, 5] else []
def zDh (S : SatT) (K : KT) : Kont := kSeq (cwp S tab zkT [] (sq Tryz.f83 2 3) (kFun tab (Tryz.f83).results.toList K)) (kFun tab (Tryz.f83).results.toList K)
def zfj (s1_ : Sl) (p2_ : Pt) (i5 : Int) : Frame := (U :: .sl s1_ :: .ptr p2_ :: U :: U :: .int .i64 i5 :: uu 42 [])
def zzo (S : SatT) (K : KT) : (XT) → XT := fun X fr h => cwp S tab zkT (zkT 0) (sq Tryz.f83 5 20) (kSeq (fun fr h => X (mask (zkT 0) fr) h) (kBlk 0 (zDh S K))) fr h
def zzp (S : SatT) (K : KT) (s1_ : Sl) (p2_ : Pt) (i5 : Int) (h : H) : Prop := zA (zzo S K) (zfj s1_ p2_ i5) h
def zzq (S : SatT) (K : KT) (s1_ : Sl) (p2_ : Pt) (h : H) : Prop :=
 ldA p2_ 2 h fun cs0 =>
 callB S zwf [.agg cs0, .sl s1_] h fun b2 h1 =>
 bif b2 then
 ldA p2_ 2 h1 fun cs3 =>
 callB S zwe [.agg cs3, .sl s1_] h1 fun b5 h4 =>
 K (.bool b5) h4
 else
 K (.bool false) h1
def zoP (S : SatT) (K : KT) (X0 : XT) (s1_ : Sl) (p2_ : Pt) (i5 : Int) (h : H) : Prop :=
 ixS s1_ 1 (0) fun p0 =>
 ldS p0 h fun s1 =>
 bif (decide (i5 < (s1.len : Int))) then
 isPt p2_ (
 ldS (Pt.add p2_ 1) h fun s2 =>
 ixS s1_ 1 (w64 ((s1_.len : Int) - (1))) fun p3 =>
 ldS p3 h fun s4 =>
 ixS s4 1 i5 fun p5 =>
 ldI .i64 p5 h fun n6 =>
 ixS s2 4 n6 fun p7 =>
 ixA p7 4 1 (3) fun p8 =>
 ldI .i64 p8 h fun n9 =>
 isPt p2_ (
 ldS (Pt.add p2_ 1) h fun s10 =>
 ixS s1_ 1 (0) fun p11 =>
 ldS p11 h fun s12 =>
 ixS s12 1 i5 fun p13 =>
 ldI .i64 p13 h fun n14 =>
 ixS s10 4 n14 fun p15 =>
 ixA p15 4 1 (1) fun p16 =>
 ldI .i64 p16 h fun n17 =>
 bif (n9 != n17) then
 K (.bool false) h
 else
 X0 (zfj s1_ p2_ (w64 (i5 + (1)))) h))
 else
 zzq S K s1_ p2_ h
theorem zoO (S : SatT) (K : KT) (X0 : XT) (s1_ : Sl) (p2_ : Pt) (i5 : Int) (h : H) : zzo S K X0 (zfj s1_ p2_ i5) h = zoP S K X0 s1_ p2_ i5 h := by kernel_rfl
theorem zoN (S : SatT) (K : KT) (s1_ : Sl) (p2_ : Pt) (I_ : Int → H → Prop) (m_ : Int → H → Nat)
  (hs : ∀ (X0 : XT) (i5 : Int) (h : H), I_ i5 h → (∀ (i5' : Int) (h' : H), I_ i5' h' → m_ i5' h' < m_ i5 h → X0 (zfj s1_ p2_ i5') h') → zoP S K X0 s1_ p2_ i5 h) (i5 : Int) {h : H} (h0 : I_ i5 h) : zzp S K s1_ p2_ i5 h :=
 ze (σ := (Int)) (fun s_ => zfj s1_ p2_ (s_)) (fun s_ h => I_ (s_) h) (fun s_ h => m_ (s_) h)
  (fun X s_ h hi hx => (zoO S K X s1_ p2_ (s_) h).mpr (hs X (s_) h hi fun i5' h' hi' hm' => hx (i5') h' hi' hm')) (i5) h0
def zan (S : SatT) (K : KT) (x0 : List AVal) (x1 : Sl) (h : H) : Prop :=
 newK 2 x0 h fun p0 h1 =>
 zzp S K x1 p0 (0) h1
theorem zam (S : SatT) (K : KT) (x0 : List AVal) (x1 : Sl) (h : H) : cwp S tab zkT [] (za Tryz.f83) (kFun tab Tryz.f83.results.toList K) (fr0 Tryz.f83 [.agg x0, .sl x1]) h = zan S K x0 x1 h := by kernel_rfl
theorem zwy (x0 : List AVal) (x1 : Sl) (h : H) (K : Bool → H → Prop) (hm : zan (Sat Tryz.prog) (fun v h' => ∃ r, v = .bool r ∧ K r h') x0 x1 h) : callB (Sat Tryz.prog) zCM [.agg x0, .sl x1] h K := by
 have := Sat.ex tok mixed zkT Tryz.func83 (c := za Tryz.f83) (by kernel_rfl) (zb Tryz.func83 (c := za Tryz.f83) (by kernel_rfl) (by decide)) ((zam _ _ x0 x1 h).mpr hm)
 obtain ⟨v, h2, h3, r, rfl, h4⟩ := this; exact ⟨r, h2, h3, h4⟩
def zkZ : Nat → List Nat := fun i => bif i == 0 then [0, 3, 4] else []
def zDq (S : SatT) (K : KT) : Kont := kSeq (cwp S tab zkZ [] (sq Tryz.f71 3 7) (kFun tab (Tryz.f71).results.toList K)) (kFun tab (Tryz.f71).results.toList K)
def zfw (s0_ : Sl) (p3_ : Pt) (i4 : Int) : Frame := (.sl s0_ :: U :: U :: .ptr p3_ :: .int .i64 i4 :: uu 33 [])
def zzS (S : SatT) (K : KT) : (XT) → XT := fun X fr h => cwp S tab zkZ (zkZ 0) (sq Tryz.f71 6 52) (kSeq (fun fr h => X (mask (zkZ 0) fr) h) (kBlk 0 (zDq S K))) fr h
def zzT (S : SatT) (K : KT) (s0_ : Sl) (p3_ : Pt) (i4 : Int) (h : H) : Prop := zA (zzS S K) (zfw s0_ p3_ i4) h
def zpv (S : SatT) (K : KT) (p3_ : Pt) (h : H) : Prop :=
 K (.ptr p3_) h
def zpu (S : SatT) (K : KT) (X0 : XT) (s0_ : Sl) (p3_ : Pt) (i4 : Int) (h : H) : Prop :=
 bif (decide (i4 < (s0_.len : Int))) then
 bif (decide (i4 < (4096))) then
 nilC (.ptr p3_) (
 isPt p3_ (
 ldI .u64 (Pt.add p3_ 2) h fun n0 =>
 ixS s0_ 1 i4 fun p1 =>
 ldI .u8 p1 h fun n2 =>
 nilC (.ptr p3_) (
 isPt p3_ (
 st1 (Pt.add p3_ 2) (.int .u64 (IntKind.wrap .u64 ((IntKind.wrap .u64 ((IntKind.wrap .u64 (n0 * (1099511628211))) + (IntKind.wrap .u64 (n2)))) + (191)))) h fun h3 =>
 X0 (zfw s0_ p3_ (w64 (i4 + (1)))) h3))))
 else
 zpv S K p3_ h
 else
 zpv S K p3_ h
theorem zpt (S : SatT) (K : KT) (X0 : XT) (s0_ : Sl) (p3_ : Pt) (i4 : Int) (h : H) : zzS S K X0 (zfw s0_ p3_ i4) h = zpu S K X0 s0_ p3_ i4 h := by kernel_rfl
theorem zps (S : SatT) (K : KT) (s0_ : Sl) (p3_ : Pt) (I_ : Int → H → Prop) (m_ : Int → H → Nat)
  (hs : ∀ (X0 : XT) (i4 : Int) (h : H), I_ i4 h → (∀ (i4' : Int) (h' : H), I_ i4' h' → m_ i4' h' < m_ i4 h → X0 (zfw s0_ p3_ i4') h') → zpu S K X0 s0_ p3_ i4 h) (i4 : Int) {h : H} (h0 : I_ i4 h) : zzT S K s0_ p3_ i4 h :=
 ze (σ := (Int)) (fun s_ => zfw s0_ p3_ (s_)) (fun s_ h => I_ (s_) h) (fun s_ h => m_ (s_) h)
  (fun X s_ h hi hx => (zpt S K X s0_ p3_ (s_) h).mpr (hs X (s_) h hi fun i4' h' hi' hm' => hx (i4') h' hi' hm')) (i4) h0
def zaL (S : SatT) (K : KT) (x0 : Sl) (h : H) : Prop :=
 newK 3 [.sl x0, .int .i64 (0), .int .u64 (IntKind.wrap .u64 ((13541) + (IntKind.wrap .u64 ((x0.len : Int)))))] h fun p0 h1 =>
 zzT S K x0 p0 (0) h1
theorem zaK (S : SatT) (K : KT) (x0 : Sl) (h : H) : cwp S tab zkZ [] (za Tryz.f71) (kFun tab Tryz.f71.results.toList K) (fr0 Tryz.f71 [.sl x0]) h = zaL S K x0 h := by kernel_rfl
theorem zwL (x0 : Sl) (h : H) (K : Pt → H → Prop) (hm : zaL (Sat Tryz.prog) (fun v h' => ∃ r, v = .ptr r ∧ K r h') x0 h) : callP (Sat Tryz.prog) zeW [.sl x0] h K := by
 have := Sat.ex tok mixed zkZ Tryz.func71 (c := za Tryz.f71) (by kernel_rfl) (zb Tryz.func71 (c := za Tryz.f71) (by kernel_rfl) (by decide)) ((zaK _ _ x0 h).mpr hm)
 obtain ⟨v, h2, h3, r, rfl, h4⟩ := this; exact ⟨r, h2, h3, h4⟩
def f9_M : Nat → List Nat := fun i => bif i == 0 then [0, 1, 5] else []
def zGk (S : SatT) (K : KT) : Kont := kSeq (cwp S tab f9_M [] (sq Tryz.f11 3 7) (kFun tab (Tryz.f11).results.toList K)) (kFun tab (Tryz.f11).results.toList K)
def zoD (s0_ s1_ : Sl) (i5 : Int) : Frame := (.sl s0_ :: .sl s1_ :: U :: U :: U :: .int .i64 i5 :: uu 21 [])
def zGj (S : SatT) (K : KT) : (XT) → XT := fun X fr h => cwp S tab f9_M (f9_M 0) (sq Tryz.f11 6 52) (kSeq (fun fr h => X (mask (f9_M 0) fr) h) (kBlk 0 (zGk S K))) fr h
def zGl (S : SatT) (K : KT) (s0_ s1_ : Sl) (i5 : Int) (h : H) : Prop := zA (zGj S K) (zoD s0_ s1_ i5) h
def zGm (S : SatT) (K : KT) (h : H) : Prop :=
 K (.bool true) h
def zDd (S : SatT) (K : KT) (X0 : XT) (s0_ s1_ : Sl) (i5 : Int) (h : H) : Prop :=
 bif (decide (i5 < (s0_.len : Int))) then
 ixS s0_ 1 i5 fun p0 =>
 ldS p0 h fun s1 =>
 ixS s1_ 1 i5 fun p2 =>
 ldS p2 h fun s3 =>
 callB S zCS [.sl s1, .sl s3] h fun b5 h4 =>
 bif (!b5) then
 K (.bool false) h4
 else
 X0 (zoD s0_ s1_ (w64 (i5 + (1)))) h4
 else
 zGm S K h
theorem zwt (S : SatT) (K : KT) (X0 : XT) (s0_ s1_ : Sl) (i5 : Int) (h : H) : zGj S K X0 (zoD s0_ s1_ i5) h = zDd S K X0 s0_ s1_ i5 h := by kernel_rfl
theorem zws (S : SatT) (K : KT) (s0_ s1_ : Sl) (I_ : Int → H → Prop) (m_ : Int → H → Nat)
  (hs : ∀ (X0 : XT) (i5 : Int) (h : H), I_ i5 h → (∀ (i5' : Int) (h' : H), I_ i5' h' → m_ i5' h' < m_ i5 h → X0 (zoD s0_ s1_ i5') h') → zDd S K X0 s0_ s1_ i5 h) (i5 : Int) {h : H} (h0 : I_ i5 h) : zGl S K s0_ s1_ i5 h :=
 ze (σ := (Int)) (fun s_ => zoD s0_ s1_ (s_)) (fun s_ h => I_ (s_) h) (fun s_ h => m_ (s_) h)
  (fun X s_ h hi hx => (zwt S K X s0_ s1_ (s_) h).mpr (hs X (s_) h hi fun i5' h' hi' hm' => hx (i5') h' hi' hm')) (i5) h0
def zho (S : SatT) (K : KT) (x0 x1 : Sl) (h : H) : Prop :=
 bif ((x0.len : Int) != (x1.len : Int)) then
 K (.bool false) h
 else
 zGl S K x0 x1 (0) h
theorem zff (S : SatT) (K : KT) (x0 x1 : Sl) (h : H) : cwp S tab f9_M [] (za Tryz.f11) (kFun tab Tryz.f11.results.toList K) (fr0 Tryz.f11 [.sl x0, .sl x1]) h = zho S K x0 x1 h := by kernel_rfl
theorem zDc (x0 x1 : Sl) (h : H) (K : Bool → H → Prop) (hm : zho (Sat Tryz.prog) (fun v h' => ∃ r, v = .bool r ∧ K r h') x0 x1 h) : callB (Sat Tryz.prog) i_f9 [.sl x0, .sl x1] h K := by
 have := Sat.ex tok mixed f9_M Tryz.func11 (c := za Tryz.f11) (by kernel_rfl) (zb Tryz.func11 (c := za Tryz.f11) (by kernel_rfl) (by decide)) ((zff _ _ x0 x1 h).mpr hm)
 obtain ⟨v, h2, h3, r, rfl, h4⟩ := this; exact ⟨r, h2, h3, h4⟩
def zBZ : Nat → List Nat := fun i => []
def WE (S : SatT) (K : KT) (x0 : Pt) (h : H) : Prop :=
 newO [.int .i64 (0), .sl Sl.nil] h fun p0 h1 =>
 callI S .i64 ym [.ptr x0, .int .i64 (3)] h1 fun n3 h2 =>
 bif (n3 == (0)) then
 callS S zjo [] h2 fun s5 h4 =>
 callI S .i64 ym [.ptr x0, .int .i64 (s5.len : Int)] h4 fun n7 h6 =>
 ixS s5 1 n7 fun p8 =>
 ldV p8 h6 fun v9 =>
 callV S zol [v9] h6 fun v11 h10 =>
 viaT v11 fun vs12 =>
 exA vs12 0 fun cs13 =>
 viaT v11 fun vs14 =>
 exB vs14 1 fun b15 =>
 newO [.int .i64 (0), .sl Sl.nil] h10 fun p16 h17 =>
 stN p16 2 cs13 h17 fun h18 =>
 ldA p16 2 h18 fun cs19 =>
 isPt p16 (
 ldI .i64 (Pt.add p16 0) h18 fun n20 =>
 callS S zoi [.ptr x0, .int .i64 n20] h18 fun s22 h21 =>
(range h21 p16.o p16.n p16.off 2 = range h18 p16.o p16.n p16.off 2) ∧ (
 callA S zoj [.agg cs19, .sl s22] h21 fun cs24 h23 =>
 stN p0 2 cs24 h23 fun h25 =>
 ldA p0 2 h25 fun cs26 =>
 K (.agg cs26) h25))
 else
 newS 5 1 [.int .i64 (1), .int .i64 (2), .int .i64 (2), .int .i64 (2), .int .i64 (3)] h2 fun s27 h28 =>
 callI S .i64 qv [.ptr x0, .sl s27] h28 fun n30 h29 =>
 newS 3 1 [.int .i64 (3), .int .i64 (6), .int .i64 (9)] h29 fun s31 h32 =>
 callI S .i64 qv [.ptr x0, .sl s31] h32 fun n34 h33 =>
 callI S .i64 ym [.ptr x0, .int .i64 n34] h33 fun n36 h35 =>
 callA S Xv [.ptr x0, .int .i64 n30, .int .i64 n36] h35 fun cs38 h37 =>
 stN p0 2 cs38 h37 fun h39 =>
 ldA p0 2 h39 fun cs40 =>
 K (.agg cs40) h39
theorem Vw (S : SatT) (K : KT) (x0 : Pt) (h : H) : cwp S tab zBZ [] (za Tryz.f113) (kFun tab Tryz.f113.results.toList K) (fr0 Tryz.f113 [.ptr x0]) h = WE S K x0 h := by kernel_rfl
theorem zuB (x0 : Pt) (h : H) (K : List AVal → H → Prop) (hm : WE (Sat Tryz.prog) (fun v h' => ∃ r, v = .agg r ∧ K r h') x0 h) : callA (Sat Tryz.prog) Qe [.ptr x0] h K := by
 have := Sat.ex tok mixed zBZ Tryz.func113 (c := za Tryz.f113) (by kernel_rfl) (zb Tryz.func113 (c := za Tryz.f113) (by kernel_rfl) (by decide)) ((Vw _ _ x0 h).mpr hm)
 obtain ⟨v, h2, h3, r, rfl, h4⟩ := this; exact ⟨r, h2, h3, h4⟩
def zGN : Nat → List Nat := fun i => []
def zbV (S : SatT) (K : KT) (x0 : Sl) (h : H) : Prop :=
 newO [.int .i64 (0), .sl Sl.nil] h fun p0 h1 =>
 callP S zeW [.sl x0] h1 fun p3 h2 =>
 callV S zwn [.sl x0] h2 fun v5 h4 =>
 viaT v5 fun vs6 =>
 exA vs6 0 fun cs7 =>
 viaT v5 fun vs8 =>
 exI .i64 vs8 1 fun n9 =>
 viaT v5 fun vs10 =>
 exI .i64 vs10 2 fun n11 =>
 newO [.int .i64 (0), .sl Sl.nil] h4 fun p12 h13 =>
 stN p12 2 cs7 h13 fun h14 =>
 callI S .i64 ym [.ptr p3, .int .i64 (3)] h14 fun n16 h15 =>
 bif (n16 == (0)) then
 newS 3 1 [.int .i64 (4), .int .i64 (5), .int .i64 (6)] h15 fun s17 h18 =>
 callI S .i64 qv [.ptr p3, .sl s17] h18 fun n20 h19 =>
 ldA p12 2 h19 fun cs21 =>
 stN p0 2 cs21 h19 fun h22 =>
 ldA p0 2 h22 fun cs23 =>
 K (.tuple [.agg cs23, .int .i64 n20, .int .i64 n11]) h22
 else
 ldA p12 2 h15 fun cs24 =>
 stN p0 2 cs24 h15 fun h25 =>
 ldA p0 2 h25 fun cs26 =>
 K (.tuple [.agg cs26, .int .i64 n9, .int .i64 n11]) h25
theorem zbU (S : SatT) (K : KT) (x0 : Sl) (h : H) : cwp S tab zGN [] (za Tryz.f22) (kFun tab Tryz.f22.results.toList K) (fr0 Tryz.f22 [.sl x0]) h = zbV S K x0 h := by kernel_rfl
theorem zxq (x0 : Sl) (h : H) (K : KT) (hm : zbV (Sat Tryz.prog) (fun v h' => K v h') x0 h) : callV (Sat Tryz.prog) znU [.sl x0] h K := by
 have := Sat.ex tok mixed zGN Tryz.func22 (c := za Tryz.f22) (by kernel_rfl) (zb Tryz.func22 (c := za Tryz.f22) (by kernel_rfl) (by decide)) ((zbU _ _ x0 h).mpr hm)
 exact this
def f5_M : Nat → List Nat := fun i => []
def zhv (S : SatT) (K : KT) (x0 : List AVal) (x1 x2 : Int) (h : H) : Prop :=
 newK 2 x0 h fun p0 h1 =>
 newO [.int .i64 x1] h1 fun p2 h3 =>
 newO [.int .i64 x2] h3 fun p4 h5 =>
 ldA p0 2 h5 fun cs6 =>
 callI S .i64 zeX [.agg cs6, .func 49 [.ptr p2, .ptr p4]] h5 fun n8 h7 =>
 bif (n8 != (0)) then
 K (.tuple [.sl Sl.nil, .int .i64 n8]) h7
 else
 ldA p0 2 h7 fun cs9 =>
 ldI .i64 p2 h7 fun n10 =>
 ldI .i64 p4 h7 fun n11 =>
 callS S zwl [.agg cs9, .int .i64 n10, .int .i64 n11] h7 fun s13 h12 =>
 bif (vG s13) then
 K (.tuple [.sl Sl.nil, .int .i64 (4)]) h12
 else
 K (.tuple [.sl s13, .int .i64 (0)]) h12
theorem zfA (S : SatT) (K : KT) (x0 : List AVal) (x1 x2 : Int) (h : H) : cwp S tab f5_M [] (za Tryz.f7) (kFun tab Tryz.f7.results.toList K) (fr0 Tryz.f7 [.agg x0, .int .i64 x1, .int .i64 x2]) h = zhv S K x0 x1 x2 h := by kernel_rfl
theorem zDu (x0 : List AVal) (x1 x2 : Int) (h : H) (K : KT) (hm : zhv (Sat Tryz.prog) (fun v h' => K v h') x0 x1 x2 h) : callV (Sat Tryz.prog) i_f5 [.agg x0, .int .i64 x1, .int .i64 x2] h K := by
 have := Sat.ex tok mixed f5_M Tryz.func7 (c := za Tryz.f7) (by kernel_rfl) (zb Tryz.func7 (c := za Tryz.f7) (by kernel_rfl) (by decide)) ((zfA _ _ x0 x1 x2 h).mpr hm)
 exact this
def zCa : Nat → List Nat := fun i => []
def WF (S : SatT) (K : KT) (x0 : Pt) (x1 : Int) (h : H) : Prop :=
 newO [.int .i64 (0), .int .i64 (0), .int .i64 (0), .int .i64 (0)] h fun p0 h1 =>
 callI S .i64 ym [.ptr x0, .int .i64 x1] h1 fun n3 h2 =>
 callI S .i64 ym [.ptr x0, .int .i64 x1] h2 fun n5 h4 =>
 callI S .i64 ym [.ptr x0, .int .i64 x1] h4 fun n7 h6 =>
 callI S .i64 ym [.ptr x0, .int .i64 x1] h6 fun n9 h8 =>
 stN p0 4 [.int .i64 n3, .int .i64 n5, .int .i64 n7, .int .i64 n9] h8 fun h10 =>
 ldA p0 4 h10 fun cs11 =>
 K (.agg cs11) h10
theorem Vx (S : SatT) (K : KT) (x0 : Pt) (x1 : Int) (h : H) : cwp S tab zCa [] (za Tryz.f112) (kFun tab Tryz.f112.results.toList K) (fr0 Tryz.f112 [.ptr x0, .int .i64 x1]) h = WF S K x0 x1 h := by kernel_rfl
theorem zuC (x0 : Pt) (x1 : Int) (h : H) (K : List AVal → H → Prop) (hm : WF (Sat Tryz.prog) (fun v h' => ∃ r, v = .agg r ∧ K r h') x0 x1 h) : callA (Sat Tryz.prog) zjr [.ptr x0, .int .i64 x1] h K := by
 have := Sat.ex tok mixed zCa Tryz.func112 (c := za Tryz.f112) (by kernel_rfl) (zb Tryz.func112 (c := za Tryz.f112) (by kernel_rfl) (by decide)) ((Vx _ _ x0 x1 h).mpr hm)
 obtain ⟨v, h2, h3, r, rfl, h4⟩ := this; exact ⟨r, h2, h3, h4⟩
def zCb : Nat → List Nat := fun i => []
def WG (S : SatT) (K : KT) (x0 : Int) (x1 : Sl) (h : H) : Prop :=
 newO [.int .i64 (0), .sl Sl.nil] h fun p0 h1 =>
 callV S zom [.int .i64 x0, .sl x1] h1 fun v3 h2 =>
 viaT v3 fun vs4 =>
 exA vs4 0 fun cs5 =>
 viaT v3 fun vs6 =>
 exB vs6 1 fun b7 =>
 newO [.int .i64 (0), .sl Sl.nil] h2 fun p8 h9 =>
 stN p8 2 cs5 h9 fun h10 =>
 bif (!b7) then
 stN p0 2 [.int .i64 (0), .sl Sl.nil] h10 fun h11 =>
 ldA p0 2 h11 fun cs12 =>
 K (.tuple [.agg cs12, .int .i64 (3)]) h11
 else
 ldA p8 2 h10 fun cs13 =>
 stN p0 2 cs13 h10 fun h14 =>
 ldA p0 2 h14 fun cs15 =>
 K (.tuple [.agg cs15, .int .i64 (0)]) h14
theorem Vy (S : SatT) (K : KT) (x0 : Int) (x1 : Sl) (h : H) : cwp S tab zCb [] (za Tryz.f111) (kFun tab Tryz.f111.results.toList K) (fr0 Tryz.f111 [.int .i64 x0, .sl x1]) h = WG S K x0 x1 h := by kernel_rfl
theorem zuD (x0 : Int) (x1 : Sl) (h : H) (K : KT) (hm : WG (Sat Tryz.prog) (fun v h' => K v h') x0 x1 h) : callV (Sat Tryz.prog) zot [.int .i64 x0, .sl x1] h K := by
 have := Sat.ex tok mixed zCb Tryz.func111 (c := za Tryz.f111) (by kernel_rfl) (zb Tryz.func111 (c := za Tryz.f111) (by kernel_rfl) (by decide)) ((Vy _ _ x0 x1 h).mpr hm)
 exact this
def zGo : Nat → List Nat := fun i => []
def zah (S : SatT) (K : KT) (x0 : Pt) (x1 : Int) (h : H) : Prop :=
 callI S .i64 ym [.ptr x0, .int .i64 (14)] h fun n1 h0 =>
 bif (n1 == (0)) then
 newS 4 1 [.int .i64 (-1), .int .i64 (w64 (x1 + (1))), .int .i64 (1099511627776), .int .i64 (-4611686018427387904)] h0 fun s2 h3 =>
 callI S .i64 qv [.ptr x0, .sl s2] h3 fun n5 h4 =>
 K (.int .i64 n5) h4
 else
 callI S .i64 ym [.ptr x0, .int .i64 (w64 (x1 + (1)))] h0 fun n7 h6 =>
 K (.int .i64 n7) h6
theorem zag (S : SatT) (K : KT) (x0 : Pt) (x1 : Int) (h : H) : cwp S tab zGo [] (za Tryz.f96) (kFun tab Tryz.f96.results.toList K) (fr0 Tryz.f96 [.ptr x0, .int .i64 x1]) h = zah S K x0 x1 h := by kernel_rfl
theorem zwv (x0 : Pt) (x1 : Int) (h : H) (K : Int → H → Prop) (hm : zah (Sat Tryz.prog) (fun v h' => ∃ r, v = .int .i64 r ∧ K r h') x0 x1 h) : callI (Sat Tryz.prog) .i64 zwd [.ptr x0, .int .i64 x1] h K := by
 have := Sat.ex tok mixed zGo Tryz.func96 (c := za Tryz.f96) (by kernel_rfl) (zb Tryz.func96 (c := za Tryz.f96) (by kernel_rfl) (by decide)) ((zag _ _ x0 x1 h).mpr hm)
 obtain ⟨v, h2, h3, r, rfl, h4⟩ := this; exact ⟨r, h2, h3, h4⟩
def zGK : Nat → List Nat := fun i => []
def zbN (S : SatT) (K : KT) (x0 : Sl) (h : H) : Prop :=
 newO [.int .i64 (0), .sl Sl.nil] h fun p0 h1 =>
 callP S zeW [.sl x0] h1 fun p3 h2 =>
 callV S zwh [.ptr p3] h2 fun v5 h4 =>
 viaT v5 fun vs6 =>
 exA vs6 0 fun cs7 =>
 viaT v5 fun vs8 =>
 exS vs8 1 fun s9 =>
 newO [.int .i64 (0), .sl Sl.nil] h4 fun p10 h11 =>
 stN p10 2 cs7 h11 fun h12 =>
 ldA p10 2 h12 fun cs13 =>
 stN p0 2 cs13 h12 fun h14 =>
 ldA p0 2 h14 fun cs15 =>
 K (.tuple [.agg cs15, .sl s9]) h14
theorem zbM (S : SatT) (K : KT) (x0 : Sl) (h : H) : cwp S tab zGK [] (za Tryz.f26) (kFun tab Tryz.f26.results.toList K) (fr0 Tryz.f26 [.sl x0]) h = zbN S K x0 h := by kernel_rfl
theorem zxm (x0 : Sl) (h : H) (K : KT) (hm : zbN (Sat Tryz.prog) (fun v h' => K v h') x0 h) : callV (Sat Tryz.prog) znQ [.sl x0] h K := by
 have := Sat.ex tok mixed zGK Tryz.func26 (c := za Tryz.f26) (by kernel_rfl) (zb Tryz.func26 (c := za Tryz.f26) (by kernel_rfl) (by decide)) ((zbM _ _ x0 h).mpr hm)
 exact this
def zBH : Nat → List Nat := fun i => []
def Wa (S : SatT) (K : KT) (x0 : Sl) (x1 : AVal) (h : H) : Prop :=
 callI S .i64 znZ [.sl x0, x1] h fun n1 h0 =>
 K (.bool (decide (n1 ≥ (0)))) h0
theorem Vd (S : SatT) (K : KT) (x0 : Sl) (x1 : AVal) (h : H) : cwp S tab zBH [] (za Tryz.f146) (kFun tab Tryz.f146.results.toList K) (fr0 Tryz.f146 [.sl x0, x1]) h = Wa S K x0 x1 h := by kernel_rfl
theorem zth (x0 : Sl) (x1 : AVal) (h : H) (K : Bool → H → Prop) (hm : Wa (Sat Tryz.prog) (fun v h' => ∃ r, v = .bool r ∧ K r h') x0 x1 h) : callB (Sat Tryz.prog) zoh [.sl x0, x1] h K := by
 have := Sat.ex tok mixed zBH Tryz.func146 (c := za Tryz.f146) (by kernel_rfl) (zb Tryz.func146 (c := za Tryz.f146) (by kernel_rfl) (by decide)) ((Vd _ _ x0 x1 h).mpr hm)
 obtain ⟨v, h2, h3, r, rfl, h4⟩ := this; exact ⟨r, h2, h3, h4⟩
def zBT : Nat → List Nat := fun i => []
def Wj (S : SatT) (K : KT) (h : H) : Prop :=
 newS 8 1 [.str (⟨#[112, 108, 97, 105, 110]⟩ : ByteArray), .str (⟨#[99, 104, 101, 115, 115]⟩ : ByteArray), .str (⟨#[119, 105, 114, 101, 115]⟩ : ByteArray), .str (⟨#[98, 101, 110, 100, 115]⟩ : ByteArray), .str (⟨#[115, 117, 109, 115]⟩ : ByteArray), .str (⟨#[99, 97, 114, 114, 121]⟩ : ByteArray), .str (⟨#[119, 97, 108, 108]⟩ : ByteArray), .str (⟨#[119, 104, 101, 101, 108]⟩ : ByteArray)] h fun s0 h1 =>
 K (.sl s0) h1
theorem Vi (S : SatT) (K : KT) (h : H) : cwp S tab zBT [] (za Tryz.f141) (kFun tab Tryz.f141.results.toList K) (fr0 Tryz.f141 []) h = Wj S K h := by kernel_rfl
theorem ztC (h : H) (K : Sl → H → Prop) (hm : Wj (Sat Tryz.prog) (fun v h' => ∃ r, v = .sl r ∧ K r h') h) : callS (Sat Tryz.prog) zjo [] h K := by
 have := Sat.ex tok mixed zBT Tryz.func141 (c := za Tryz.f141) (by kernel_rfl) (zb Tryz.func141 (c := za Tryz.f141) (by kernel_rfl) (by decide)) ((Vi _ _ h).mpr hm)
 obtain ⟨v, h2, h3, r, rfl, h4⟩ := this; exact ⟨r, h2, h3, h4⟩
def zHk : Nat → List Nat := fun i => []
def zdA (S : SatT) (K : KT) (x0 : Sl) (h : H) : Prop :=
 newO [.int .i64 (0), .sl Sl.nil] h fun p0 h1 =>
 callP S zeW [.sl x0] h1 fun p3 h2 =>
 callA S znM [.ptr p3] h2 fun cs5 h4 =>
 callA S Q9 [.ptr p3, .agg cs5] h4 fun cs7 h6 =>
 stN p0 2 cs7 h6 fun h8 =>
 ldA p0 2 h8 fun cs9 =>
 K (.agg cs9) h8
theorem zdz (S : SatT) (K : KT) (x0 : Sl) (h : H) : cwp S tab zHk [] (za Tryz.f17) (kFun tab Tryz.f17.results.toList K) (fr0 Tryz.f17 [.sl x0]) h = zdA S K x0 h := by kernel_rfl
theorem zyh (x0 : Sl) (h : H) (K : List AVal → H → Prop) (hm : zdA (Sat Tryz.prog) (fun v h' => ∃ r, v = .agg r ∧ K r h') x0 h) : callA (Sat Tryz.prog) zwo [.sl x0] h K := by
 have := Sat.ex tok mixed zHk Tryz.func17 (c := za Tryz.f17) (by kernel_rfl) (zb Tryz.func17 (c := za Tryz.f17) (by kernel_rfl) (by decide)) ((zdz _ _ x0 h).mpr hm)
 obtain ⟨v, h2, h3, r, rfl, h4⟩ := this; exact ⟨r, h2, h3, h4⟩
def zGL : Nat → List Nat := fun i => []
def zbP (S : SatT) (K : KT) (x0 : List AVal) (x1 : Sl) (h : H) : Prop :=
 newK 2 x0 h fun p0 h1 =>
 ldA p0 2 h1 fun cs2 =>
 callI S .i64 zwg [.agg cs2, .sl x1] h1 fun n4 h3 =>
 bif (n4 != (0)) then
 K (.tuple [.bool false, .int .i64 n4]) h3
 else
 ldA p0 2 h3 fun cs5 =>
 callB S zCM [.agg cs5, .sl x1] h3 fun b7 h6 =>
 K (.tuple [.bool b7, .int .i64 (0)]) h6
theorem zbO (S : SatT) (K : KT) (x0 : List AVal) (x1 : Sl) (h : H) : cwp S tab zGL [] (za Tryz.f25) (kFun tab Tryz.f25.results.toList K) (fr0 Tryz.f25 [.agg x0, .sl x1]) h = zbP S K x0 x1 h := by kernel_rfl
theorem zxn (x0 : List AVal) (x1 : Sl) (h : H) (K : KT) (hm : zbP (Sat Tryz.prog) (fun v h' => K v h') x0 x1 h) : callV (Sat Tryz.prog) znR [.agg x0, .sl x1] h K := by
 have := Sat.ex tok mixed zGL Tryz.func25 (c := za Tryz.f25) (by kernel_rfl) (zb Tryz.func25 (c := za Tryz.f25) (by kernel_rfl) (by decide)) ((zbO _ _ x0 x1 h).mpr hm)
 exact this
def zBV : Nat → List Nat := fun i => []
def Wo (S : SatT) (K : KT) (x0 : Sl) (h : H) : Prop :=
 bif (vG x0) then
 K (.sl Sl.nil) h
 else
 newS 0 1 [] h fun s0 h1 =>
 app s0 x0 1 h1 fun s2 h3 =>
 K (.sl s2) h3
theorem Vm (S : SatT) (K : KT) (x0 : Sl) (h : H) : cwp S tab zBV [] (za Tryz.f134) (kFun tab Tryz.f134.results.toList K) (fr0 Tryz.f134 [.sl x0]) h = Wo S K x0 h := by kernel_rfl
theorem ztP (x0 : Sl) (h : H) (K : Sl → H → Prop) (hm : Wo (Sat Tryz.prog) (fun v h' => ∃ r, v = .sl r ∧ K r h') x0 h) : callS (Sat Tryz.prog) zoo [.sl x0] h K := by
 have := Sat.ex tok mixed zBV Tryz.func134 (c := za Tryz.f134) (by kernel_rfl) (zb Tryz.func134 (c := za Tryz.f134) (by kernel_rfl) (by decide)) ((Vm _ _ x0 h).mpr hm)
 obtain ⟨v, h2, h3, r, rfl, h4⟩ := this; exact ⟨r, h2, h3, h4⟩
def zGC : Nat → List Nat := fun i => []
def zbt (S : SatT) (K : KT) (x0 x1 : Pt) (h : H) : Prop :=
 ldI .i64 x0 h fun n0 =>
 ldI .i64 x1 h fun n1 =>
 callB S zwm [.int .i64 n0, .int .i64 n1] h fun b3 h2 =>
 K (.bool b3) h2
theorem zbs (S : SatT) (K : KT) (x0 x1 : Pt) (h : H) : cwp S tab zGC [] (za Tryz.f54) (kFun tab Tryz.f54.results.toList K) (fr0 Tryz.f54 [.ptr x0, .ptr x1]) h = zbt S K x0 x1 h := by kernel_rfl
theorem zxc (x0 x1 : Pt) (h : H) (K : Bool → H → Prop) (hm : zbt (Sat Tryz.prog) (fun v h' => ∃ r, v = .bool r ∧ K r h') x0 x1 h) : callB (Sat Tryz.prog) zHV [.ptr x0, .ptr x1] h K := by
 have := Sat.ex tok mixed zGC Tryz.func54 (c := za Tryz.f54) (by kernel_rfl) (zb Tryz.func54 (c := za Tryz.f54) (by kernel_rfl) (by decide)) ((zbs _ _ x0 x1 h).mpr hm)
 obtain ⟨v, h2, h3, r, rfl, h4⟩ := this; exact ⟨r, h2, h3, h4⟩
def zGw : Nat → List Nat := fun i => []
def zaX (S : SatT) (K : KT) (x0 x1 x2 : Int) (h : H) : Prop :=
 bif (decide (x0 ≥ x1)) then
 K (.bool (decide (x0 ≤ x2))) h
 else
 K (.bool false) h
theorem zaW (S : SatT) (K : KT) (x0 x1 x2 : Int) (h : H) : cwp S tab zGw [] (za Tryz.f65) (kFun tab Tryz.f65.results.toList K) (fr0 Tryz.f65 [.int .i64 x0, .int .i64 x1, .int .i64 x2]) h = zaX S K x0 x1 x2 h := by kernel_rfl
theorem zwR (x0 x1 x2 : Int) (h : H) (K : Bool → H → Prop) (hm : zaX (Sat Tryz.prog) (fun v h' => ∃ r, v = .bool r ∧ K r h') x0 x1 x2 h) : callB (Sat Tryz.prog) WX [.int .i64 x0, .int .i64 x1, .int .i64 x2] h K := by
 have := Sat.ex tok mixed zGw Tryz.func65 (c := za Tryz.f65) (by kernel_rfl) (zb Tryz.func65 (c := za Tryz.f65) (by kernel_rfl) (by decide)) ((zaW _ _ x0 x1 x2 h).mpr hm)
 obtain ⟨v, h2, h3, r, rfl, h4⟩ := this; exact ⟨r, h2, h3, h4⟩
def zCf : Nat → List Nat := fun i => []
def WL (S : SatT) (K : KT) (x0 : Sl) (x1 : Pt) (h : H) : Prop :=
 st1 x1 (.sl x0) h fun h0 =>
 K (.bool false) h0
theorem VF (S : SatT) (K : KT) (x0 : Sl) (x1 : Pt) (h : H) : cwp S tab zCf [] (za Tryz.f105) (kFun tab Tryz.f105.results.toList K) (fr0 Tryz.f105 [.sl x0, .ptr x1]) h = WL S K x0 x1 h := by kernel_rfl
theorem zuM (x0 : Sl) (x1 : Pt) (h : H) (K : Bool → H → Prop) (hm : WL (Sat Tryz.prog) (fun v h' => ∃ r, v = .bool r ∧ K r h') x0 x1 h) : callB (Sat Tryz.prog) zGe [.sl x0, .ptr x1] h K := by
 have := Sat.ex tok mixed zCf Tryz.func105 (c := za Tryz.f105) (by kernel_rfl) (zb Tryz.func105 (c := za Tryz.f105) (by kernel_rfl) (by decide)) ((VF _ _ x0 x1 h).mpr hm)
 obtain ⟨v, h2, h3, r, rfl, h4⟩ := this; exact ⟨r, h2, h3, h4⟩
def zCe : Nat → List Nat := fun i => []
def Zr (S : SatT) (K : KT) (x0 : Sl) (h : H) : Prop :=
 newS 0 1 [] h fun s0 h1 =>
 app s0 x0 1 h1 fun s2 h3 =>
 K (.sl s2) h3
theorem VE (S : SatT) (K : KT) (x0 : Sl) (h : H) : cwp S tab zCe [] (za Tryz.f106) (kFun tab Tryz.f106.results.toList K) (fr0 Tryz.f106 [.sl x0]) h = Zr S K x0 h := by kernel_rfl
theorem zgl (x0 : Sl) (h : H) (K : Sl → H → Prop) (hm : Zr (Sat Tryz.prog) (fun v h' => ∃ r, v = .sl r ∧ K r h') x0 h) : callS (Sat Tryz.prog) Zl [.sl x0] h K := by
 have := Sat.ex tok mixed zCe Tryz.func106 (c := za Tryz.f106) (by kernel_rfl) (zb Tryz.func106 (c := za Tryz.f106) (by kernel_rfl) (by decide)) ((VE _ _ x0 h).mpr hm)
 obtain ⟨v, h2, h3, r, rfl, h4⟩ := this; exact ⟨r, h2, h3, h4⟩
end Go.Proofs.YtlcgclmobfdbcaaGreat.Cl
