/- Typed forms of functions, and their links. No claim is stated here. -/
import Derived.Test.YtlcgclmobfdbcaaGreatFT
set_option linter.unusedVariables false
namespace Go.Proofs.YtlcgclmobfdbcaaGreat.Cl
open Go
def yu : Nat → List Nat := fun i => bif i == 4 then [0, 3, 5, 6, 7, 8, 9, 10, 11, 12, 13] else bif i == 2 then [0, 3, 5, 6, 7, 8, 9, 10, 11] else bif i == 0 then [0, 3, 5, 6, 7, 8, 9] else []
def zdN (S : SatT) (K : KT) : Kont := kSeq (cwp S tab yu [] (sq Tryz.f122 4 15) (kFun tab (Tryz.f122).results.toList K)) (kFun tab (Tryz.f122).results.toList K)
def Wr (p0_ p3_ : Pt) (i5 i6 : Int) (s7_ : Sl) (i8 i9 : Int) : Frame := (.ptr p0_ :: U :: U :: .ptr p3_ :: U :: .int .i64 i5 :: .int .i64 i6 :: .sl s7_ :: .int .i64 i8 :: .int .i64 i9 :: uu 119 [])
def ztS (S : SatT) (K : KT) : (XT) → XT := fun X fr h => cwp S tab yu (yu 0) (sq Tryz.f122 7 116) (kSeq (fun fr h => X (mask (yu 0) fr) h) (kBlk 0 (zdN S K))) fr h
def ztX (S : SatT) (K : KT) (p0_ p3_ : Pt) (i5 i6 : Int) (s7_ : Sl) (i8 i9 : Int) (h : H) : Prop := zA (ztS S K) (Wr p0_ p3_ i5 i6 s7_ i8 i9) h
def zjY (S : SatT) (K : KT) (X0 : XT) : Kont := kSeq (cwp S tab yu (yu 0) (sq Tryz.f122 9 467) (kSeq (fun fr h => X0 (mask (yu 0) fr) h) (kBlk 0 (zdN S K)))) (kSeq (fun fr h => X0 (mask (yu 0) fr) h) (kBlk 0 (zdN S K)))
def zdM (S : SatT) (K : KT) (X0 : XT) : Kont := kSeq (cwp S tab yu (yu 1) (sq Tryz.f122 12 3731) (kBlk 1 (zjY S K X0))) (kBlk 1 (zjY S K X0))
def Wq (p0_ p3_ : Pt) (i5 i6 : Int) (s7_ : Sl) (i8 i9 : Int) (s10_ : Sl) (i11 : Int) : Frame := (.ptr p0_ :: U :: U :: .ptr p3_ :: U :: .int .i64 i5 :: .int .i64 i6 :: .sl s7_ :: .int .i64 i8 :: .int .i64 i9 :: .sl s10_ :: .int .i64 i11 :: uu 117 [])
def ztR (S : SatT) (K : KT) (X0 : XT) : (XT) → XT := fun X fr h => cwp S tab yu (yu 2) (sq Tryz.f122 15 29844) (kSeq (fun fr h => X (mask (yu 2) fr) h) (kBlk 2 (zdM S K X0))) fr h
def ztW (S : SatT) (K : KT) (X0 : XT) (p0_ p3_ : Pt) (i5 i6 : Int) (s7_ : Sl) (i8 i9 : Int) (s10_ : Sl) (i11 : Int) (h : H) : Prop := zA (ztR S K X0) (Wq p0_ p3_ i5 i6 s7_ i8 i9 s10_ i11) h
def zgh (S : SatT) (K : KT) (X0 X2 : XT) : Kont := kSeq (cwp S tab yu (yu 2) (sq Tryz.f122 17 119379) (kSeq (fun fr h => X2 (mask (yu 2) fr) h) (kBlk 2 (zdM S K X0)))) (kSeq (fun fr h => X2 (mask (yu 2) fr) h) (kBlk 2 (zdM S K X0)))
def ztT (S : SatT) (K : KT) (X0 X2 : XT) : Kont := kSeq (cwp S tab yu (yu 3) (sq Tryz.f122 20 955027) (kBlk 3 (zgh S K X0 X2))) (kBlk 3 (zgh S K X0 X2))
def vO (p0_ p3_ : Pt) (i5 i6 : Int) (s7_ : Sl) (i8 i9 : Int) (s10_ : Sl) (i11 i12 i13 : Int) : Frame := (.ptr p0_ :: U :: U :: .ptr p3_ :: U :: .int .i64 i5 :: .int .i64 i6 :: .sl s7_ :: .int .i64 i8 :: .int .i64 i9 :: .sl s10_ :: .int .i64 i11 :: .int .i64 i12 :: .int .i64 i13 :: uu 115 [])
def ztQ (S : SatT) (K : KT) (X0 X2 : XT) : (XT) → XT := fun X fr h => cwp S tab yu (yu 4) (sq Tryz.f122 23 7640212) (kSeq (fun fr h => X (mask (yu 4) fr) h) (kBlk 4 (ztT S K X0 X2))) fr h
def ztV (S : SatT) (K : KT) (X0 X2 : XT) (p0_ p3_ : Pt) (i5 i6 : Int) (s7_ : Sl) (i8 i9 : Int) (s10_ : Sl) (i11 i12 i13 : Int) (h : H) : Prop := zA (ztQ S K X0 X2) (vO p0_ p3_ i5 i6 s7_ i8 i9 s10_ i11 i12 i13) h
def ztY (S : SatT) (K : KT) (X0 X2 : XT) (p0_ p3_ : Pt) (i5 i6 : Int) (s7_ : Sl) (i8 i9 : Int) (s10_ : Sl) (i11 : Int) (h : H) : Prop :=
 X2 (Wq p0_ p3_ i5 i6 s7_ i8 i9 s10_ (w64 (i11 + (1)))) h
def qQ (S : SatT) (K : KT) (X0 X2 : XT) (p0_ p3_ : Pt) (i5 i6 : Int) (s7_ : Sl) (i8 i9 : Int) (s10_ : Sl) (i11 i12 : Int) (h : H) : Prop :=
 newS 1 1 [.int .i64 i12] h fun s0 h1 =>
 app s10_ s0 1 h1 fun s2 h3 =>
 ztY S K X0 X2 p0_ p3_ i5 i6 s7_ i8 i9 s2 i11 h3
def zig (S : SatT) (K : KT) (X0 X2 X4 : XT) (p0_ p3_ : Pt) (i5 i6 : Int) (s7_ : Sl) (i8 i9 : Int) (s10_ : Sl) (i11 i12 i13 : Int) (h : H) : Prop :=
 bif (decide (i13 < i8)) then
 nz i8 (
 bif (i11 == (0)) then
 bif (i9 == (0)) then
 qQ S K X0 X2 p0_ p3_ i5 i6 s7_ i8 i9 s10_ i11 (Int.tmod (w64 (i12 + i13)) i8) h
 else
 isPt p3_ (
 ldS (Pt.add p3_ 1) h fun s0 =>
 ixS s7_ 1 (w64 (i9 - (1))) fun p1 =>
 ldS p1 h fun s2 =>
 ixS s2 1 i11 fun p3 =>
 ldI .i64 p3 h fun n4 =>
 ixS s0 4 n4 fun p5 =>
 ixA p5 4 1 (3) fun p6 =>
 ldI .i64 p6 h fun n7 =>
 isPt p3_ (
 ldS (Pt.add p3_ 1) h fun s8 =>
 ixS s8 4 (Int.tmod (w64 (i12 + i13)) i8) fun p9 =>
 ixA p9 4 1 (1) fun p10 =>
 ldI .i64 p10 h fun n11 =>
 bif (n7 == n11) then
 qQ S K X0 X2 p0_ p3_ i5 i6 s7_ i8 i9 s10_ i11 (Int.tmod (w64 (i12 + i13)) i8) h
 else
 X4 (vO p0_ p3_ i5 i6 s7_ i8 i9 s10_ i11 i12 (w64 (i13 + (1)))) h))
 else
 isPt p3_ (
 ldS (Pt.add p3_ 1) h fun s12 =>
 ixS s10_ 1 (w64 (i11 - (1))) fun p13 =>
 ldI .i64 p13 h fun n14 =>
 ixS s12 4 n14 fun p15 =>
 ixA p15 4 1 (2) fun p16 =>
 ldI .i64 p16 h fun n17 =>
 isPt p3_ (
 ldS (Pt.add p3_ 1) h fun s18 =>
 ixS s18 4 (Int.tmod (w64 (i12 + i13)) i8) fun p19 =>
 ixA p19 4 1 (0) fun p20 =>
 ldI .i64 p20 h fun n21 =>
 bif (n17 == n21) then
 bif (i9 == (0)) then
 qQ S K X0 X2 p0_ p3_ i5 i6 s7_ i8 i9 s10_ i11 (Int.tmod (w64 (i12 + i13)) i8) h
 else
 isPt p3_ (
 ldS (Pt.add p3_ 1) h fun s22 =>
 ixS s7_ 1 (w64 (i9 - (1))) fun p23 =>
 ldS p23 h fun s24 =>
 ixS s24 1 i11 fun p25 =>
 ldI .i64 p25 h fun n26 =>
 ixS s22 4 n26 fun p27 =>
 ixA p27 4 1 (3) fun p28 =>
 ldI .i64 p28 h fun n29 =>
 isPt p3_ (
 ldS (Pt.add p3_ 1) h fun s30 =>
 ixS s30 4 (Int.tmod (w64 (i12 + i13)) i8) fun p31 =>
 ixA p31 4 1 (1) fun p32 =>
 ldI .i64 p32 h fun n33 =>
 bif (n29 == n33) then
 qQ S K X0 X2 p0_ p3_ i5 i6 s7_ i8 i9 s10_ i11 (Int.tmod (w64 (i12 + i13)) i8) h
 else
 X4 (vO p0_ p3_ i5 i6 s7_ i8 i9 s10_ i11 i12 (w64 (i13 + (1)))) h))
 else
 X4 (vO p0_ p3_ i5 i6 s7_ i8 i9 s10_ i11 i12 (w64 (i13 + (1)))) h)))
 else
 qQ S K X0 X2 p0_ p3_ i5 i6 s7_ i8 i9 s10_ i11 i12 h
theorem zlN (S : SatT) (K : KT) (X0 X2 X4 : XT) (p0_ p3_ : Pt) (i5 i6 : Int) (s7_ : Sl) (i8 i9 : Int) (s10_ : Sl) (i11 i12 i13 : Int) (h : H) : ztQ S K X0 X2 X4 (vO p0_ p3_ i5 i6 s7_ i8 i9 s10_ i11 i12 i13) h = zig S K X0 X2 X4 p0_ p3_ i5 i6 s7_ i8 i9 s10_ i11 i12 i13 h := by kernel_rfl
theorem zlK (S : SatT) (K : KT) (X0 X2 : XT) (p0_ p3_ : Pt) (i5 i6 : Int) (s7_ : Sl) (i8 i9 : Int) (s10_ : Sl) (i11 : Int) (I_ : Int → Int → H → Prop) (m_ : Int → Int → H → Nat)
  (hs : ∀ (X4 : XT) (i12 i13 : Int) (h : H), I_ i12 i13 h → (∀ (i12' i13' : Int) (h' : H), I_ i12' i13' h' → m_ i12' i13' h' < m_ i12 i13 h → X4 (vO p0_ p3_ i5 i6 s7_ i8 i9 s10_ i11 i12' i13') h') → zig S K X0 X2 X4 p0_ p3_ i5 i6 s7_ i8 i9 s10_ i11 i12 i13 h) (i12 i13 : Int) {h : H} (h0 : I_ i12 i13 h) : ztV S K X0 X2 p0_ p3_ i5 i6 s7_ i8 i9 s10_ i11 i12 i13 h :=
 ze (σ := (Int) × (Int)) (fun s_ => vO p0_ p3_ i5 i6 s7_ i8 i9 s10_ i11 (s_.1) (s_.2)) (fun s_ h => I_ (s_.1) (s_.2) h) (fun s_ h => m_ (s_.1) (s_.2) h)
  (fun X s_ h hi hx => (zlN S K X0 X2 X p0_ p3_ i5 i6 s7_ i8 i9 s10_ i11 (s_.1) (s_.2) h).mpr (hs X (s_.1) (s_.2) h hi fun i12' i13' h' hi' hm' => hx (i12', i13') h' hi' hm')) (i12, i13) h0
def zua (S : SatT) (K : KT) (X0 : XT) (p0_ p3_ : Pt) (i5 i6 : Int) (s7_ : Sl) (i8 i9 : Int) (h : H) : Prop :=
 X0 (Wr p0_ p3_ i5 i6 s7_ i8 (w64 (i9 + (1)))) h
def ztZ (S : SatT) (K : KT) (X0 : XT) (p0_ p3_ : Pt) (i5 i6 : Int) (s7_ : Sl) (i8 i9 : Int) (s10_ : Sl) (h : H) : Prop :=
 newS 1 1 [.sl s10_] h fun s0 h1 =>
 app s7_ s0 1 h1 fun s2 h3 =>
 zua S K X0 p0_ p3_ i5 i6 s2 i8 i9 h3
def zih (S : SatT) (K : KT) (X0 X2 : XT) (p0_ p3_ : Pt) (i5 i6 : Int) (s7_ : Sl) (i8 i9 : Int) (s10_ : Sl) (i11 : Int) (h : H) : Prop :=
 bif (decide (i11 < i6)) then
 callI S .i64 ym [.ptr p0_, .int .i64 i8] h fun n1 h0 =>
 ztV S K X0 X2 p0_ p3_ i5 i6 s7_ i8 i9 s10_ i11 n1 (0) h0
 else
 ztZ S K X0 p0_ p3_ i5 i6 s7_ i8 i9 s10_ h
theorem zlO (S : SatT) (K : KT) (X0 X2 : XT) (p0_ p3_ : Pt) (i5 i6 : Int) (s7_ : Sl) (i8 i9 : Int) (s10_ : Sl) (i11 : Int) (h : H) : ztR S K X0 X2 (Wq p0_ p3_ i5 i6 s7_ i8 i9 s10_ i11) h = zih S K X0 X2 p0_ p3_ i5 i6 s7_ i8 i9 s10_ i11 h := by kernel_rfl
theorem zlL (S : SatT) (K : KT) (X0 : XT) (p0_ p3_ : Pt) (i5 i6 : Int) (s7_ : Sl) (i8 i9 : Int) (I_ : Sl → Int → H → Prop) (m_ : Sl → Int → H → Nat)
  (hs : ∀ (X2 : XT) (s10_ : Sl) (i11 : Int) (h : H), I_ s10_ i11 h → (∀ (s10_' : Sl) (i11' : Int) (h' : H), I_ s10_' i11' h' → m_ s10_' i11' h' < m_ s10_ i11 h → X2 (Wq p0_ p3_ i5 i6 s7_ i8 i9 s10_' i11') h') → zih S K X0 X2 p0_ p3_ i5 i6 s7_ i8 i9 s10_ i11 h) (s10_ : Sl) (i11 : Int) {h : H} (h0 : I_ s10_ i11 h) : ztW S K X0 p0_ p3_ i5 i6 s7_ i8 i9 s10_ i11 h :=
 ze (σ := (Sl) × (Int)) (fun s_ => Wq p0_ p3_ i5 i6 s7_ i8 i9 (s_.1) (s_.2)) (fun s_ h => I_ (s_.1) (s_.2) h) (fun s_ h => m_ (s_.1) (s_.2) h)
  (fun X s_ h hi hx => (zlO S K X0 X p0_ p3_ i5 i6 s7_ i8 i9 (s_.1) (s_.2) h).mpr (hs X (s_.1) (s_.2) h hi fun s10_' i11' h' hi' hm' => hx (s10_', i11') h' hi' hm')) (s10_, i11) h0
def zij (S : SatT) (K : KT) (p0_ : Pt) (s7_ : Sl) (i8 : Int) (h : H) : Prop :=
 callI S .i64 ym [.ptr p0_, .int .i64 (24)] h fun n1 h0 =>
 bif (n1 == (0)) then
 newS 0 1 [] h0 fun s2 h3 =>
 newS 1 1 [.sl s2] h3 fun s4 h5 =>
 app s7_ s4 1 h5 fun s6 h7 =>
 K (.sl s6) h7
 else
 bif (n1 == (1)) then
 ixS s7_ 1 (0) fun p8 =>
 ldS p8 h0 fun s9 =>
 newS 2 1 [.int .i64 (-1), .int .i64 i8] h0 fun s10 h11 =>
 callI S .i64 qv [.ptr p0_, .sl s10] h11 fun n13 h12 =>
 ixS s9 1 (0) fun p14 =>
 st1 p14 (.int .i64 n13) h12 fun h15 =>
 K (.sl s7_) h15
 else
 bif (n1 == (2)) then
 newS 0 1 [] h0 fun s16 h17 =>
 K (.sl s16) h17
 else
 K (.sl s7_) h0
def zii (S : SatT) (K : KT) (X0 : XT) (p0_ p3_ : Pt) (i5 i6 : Int) (s7_ : Sl) (i8 i9 : Int) (h : H) : Prop :=
 bif (decide (i9 < i5)) then
 newS 0 1 [] h fun s0 h1 =>
 ztW S K X0 p0_ p3_ i5 i6 s7_ i8 i9 s0 (0) h1
 else
 zij S K p0_ s7_ i8 h
theorem zlP (S : SatT) (K : KT) (X0 : XT) (p0_ p3_ : Pt) (i5 i6 : Int) (s7_ : Sl) (i8 i9 : Int) (h : H) : ztS S K X0 (Wr p0_ p3_ i5 i6 s7_ i8 i9) h = zii S K X0 p0_ p3_ i5 i6 s7_ i8 i9 h := by kernel_rfl
theorem zlM (S : SatT) (K : KT) (p0_ p3_ : Pt) (i5 i6 i8 : Int) (I_ : Sl → Int → H → Prop) (m_ : Sl → Int → H → Nat)
  (hs : ∀ (X0 : XT) (s7_ : Sl) (i9 : Int) (h : H), I_ s7_ i9 h → (∀ (s7_' : Sl) (i9' : Int) (h' : H), I_ s7_' i9' h' → m_ s7_' i9' h' < m_ s7_ i9 h → X0 (Wr p0_ p3_ i5 i6 s7_' i8 i9') h') → zii S K X0 p0_ p3_ i5 i6 s7_ i8 i9 h) (s7_ : Sl) (i9 : Int) {h : H} (h0 : I_ s7_ i9 h) : ztX S K p0_ p3_ i5 i6 s7_ i8 i9 h :=
 ze (σ := (Sl) × (Int)) (fun s_ => Wr p0_ p3_ i5 i6 (s_.1) i8 (s_.2)) (fun s_ h => I_ (s_.1) (s_.2) h) (fun s_ h => m_ (s_.1) (s_.2) h)
  (fun X s_ h hi hx => (zlP S K X p0_ p3_ i5 i6 (s_.1) i8 (s_.2) h).mpr (hs X (s_.1) (s_.2) h hi fun s7_' i9' h' hi' hm' => hx (s7_', i9') h' hi' hm')) (s7_, i9) h0
def Wp (S : SatT) (K : KT) (x0 : Pt) (x1 : List AVal) (h : H) : Prop :=
 newK 2 x1 h fun p0 h1 =>
 callI S .i64 ym [.ptr x0, .int .i64 (4)] h1 fun n3 h2 =>
 callI S .i64 ym [.ptr x0, .int .i64 (4)] h2 fun n5 h4 =>
 newS 0 1 [] h4 fun s6 h7 =>
 isPt p0 (
 ldS (Pt.add p0 1) h7 fun s8 =>
(cell h4 (Pt.add p0 1) = cell h7 (Pt.add p0 1)) ∧ (
 ztX S K x0 p0 (w64 ((1) + n3)) (w64 ((1) + n5)) s6 (s8.len : Int) (0) h7))
theorem Vn (S : SatT) (K : KT) (x0 : Pt) (x1 : List AVal) (h : H) : cwp S tab yu [] (za Tryz.f122) (kFun tab Tryz.f122.results.toList K) (fr0 Tryz.f122 [.ptr x0, .agg x1]) h = Wp S K x0 x1 h := by kernel_rfl
theorem ztU (x0 : Pt) (x1 : List AVal) (h : H) (K : Sl → H → Prop) (hm : Wp (Sat Tryz.prog) (fun v h' => ∃ r, v = .sl r ∧ K r h') x0 x1 h) : callS (Sat Tryz.prog) zeZ [.ptr x0, .agg x1] h K := by
 have := Sat.ex tok mixed yu Tryz.func122 (c := za Tryz.f122) (by kernel_rfl) (zb Tryz.func122 (c := za Tryz.f122) (by kernel_rfl) (by decide)) ((Vn _ _ x0 x1 h).mpr hm)
 obtain ⟨v, h2, h3, r, rfl, h4⟩ := this; exact ⟨r, h2, h3, h4⟩
def w8 : Nat → List Nat := fun i => bif i == 4021 then [10, 16] else bif i == 3021 then [16, 16] else bif i == 4 then [9, 10, 13, 42, 43, 46, 47, 48] else bif i == 2 then [9, 10, 42, 43] else bif i == 0 then [4, 9, 10, 29, 30, 31] else []
def zFA (S : SatT) (K : KT) : Kont := kSeq (cwp S tab w8 [] (sq Tryz.f15 4 15) (kFun tab (Tryz.f15).results.toList K)) (kFun tab (Tryz.f15).results.toList K)
def zgf (p4_ : Pt) (s9_ : Sl) (f10_ : AVal) (s29_ : Sl) (i30 i31 : Int) : Frame := (uu 4 (.ptr p4_ :: uu 4 (.sl s9_ :: f10_ :: uu 18 (.sl s29_ :: .int .i64 i30 :: .int .i64 i31 :: uu 50 []))))
def zBL (S : SatT) (K : KT) : (XT) → XT := fun X fr h => cwp S tab w8 (w8 0) (sq Tryz.f15 7 116) (kSeq (fun fr h => X (mask (w8 0) fr) h) (kBlk 0 (zFA S K))) fr h
def zBO (S : SatT) (K : KT) (p4_ : Pt) (s9_ : Sl) (f10_ : AVal) (s29_ : Sl) (i30 i31 : Int) (h : H) : Prop := zA (zBL S K) (zgf p4_ s9_ f10_ s29_ i30 i31) h
def zdJ (S : SatT) (K : KT) : Kont := kSeq (cwp S tab w8 [] (sq Tryz.f15 5 31) (kFun tab (Tryz.f15).results.toList K)) (kFun tab (Tryz.f15).results.toList K)
def zge (s9_ : Sl) (f10_ : AVal) (i42 i43 : Int) : Frame := (uu 9 (.sl s9_ :: f10_ :: uu 31 (.int .i64 i42 :: .int .i64 i43 :: uu 38 [])))
def zBK (S : SatT) (K : KT) : (XT) → XT := fun X fr h => cwp S tab w8 (w8 2) (sq Tryz.f15 8 244) (kSeq (fun fr h => X (mask (w8 2) fr) h) (kBlk 2 (zdJ S K))) fr h
def zBN (S : SatT) (K : KT) (s9_ : Sl) (f10_ : AVal) (i42 i43 : Int) (h : H) : Prop := zA (zBK S K) (zge s9_ f10_ i42 i43) h
def zjW (S : SatT) (K : KT) (X2 : XT) : Kont := kSeq (cwp S tab w8 (w8 2) (sq Tryz.f15 11 1959) (kSeq (fun fr h => X2 (mask (w8 2) fr) h) (kBlk 2 (zdJ S K)))) (kSeq (fun fr h => X2 (mask (w8 2) fr) h) (kBlk 2 (zdJ S K)))
def zyp (S : SatT) (K : KT) (X2 : XT) : Kont := kSeq (cwp S tab w8 (w8 3) (sq Tryz.f15 14 15667) (kBlk 3 (zjW S K X2))) (kBlk 3 (zjW S K X2))
def zgd (s9_ : Sl) (f10_ f13_ : AVal) (i42 i43 : Int) (s46_ : Sl) (i47 i48 : Int) : Frame := (uu 9 (.sl s9_ :: f10_ :: U :: U :: f13_ :: uu 28 (.int .i64 i42 :: .int .i64 i43 :: U :: U :: .sl s46_ :: .int .i64 i47 :: .int .i64 i48 :: uu 33 [])))
def zBJ (S : SatT) (K : KT) (X2 : XT) : (XT) → XT := fun X fr h => cwp S tab w8 (w8 4) (sq Tryz.f15 17 125332) (kSeq (fun fr h => X (mask (w8 4) fr) h) (kBlk 4 (zyp S K X2))) fr h
def zBM (S : SatT) (K : KT) (X2 : XT) (s9_ : Sl) (f10_ f13_ : AVal) (i42 i43 : Int) (s46_ : Sl) (i47 i48 : Int) (h : H) : Prop := zA (zBJ S K X2) (zgd s9_ f10_ f13_ i42 i43 s46_ i47 i48) h
def zBQ (S : SatT) (K : KT) (X2 : XT) (s9_ : Sl) (f10_ : AVal) (i42 i43 : Int) (h : H) : Prop :=
 X2 (zge s9_ f10_ i42 (w64 (i43 + (1)))) h
def zBP (S : SatT) (K : KT) (X2 : XT) (s9_ : Sl) (f13_ : AVal) (i42 i43 : Int) (h : H) : Prop :=
 zBQ S K X2 s9_ f13_ i42 i43 h
def ztz (S : SatT) (K : KT) (X2 X4 : XT) (s9_ : Sl) (f10_ f13_ : AVal) (i42 i43 : Int) (s46_ : Sl) (i47 i48 : Int) (h : H) : Prop :=
 bif (decide (i48 < i47)) then
 ixS s46_ 2 i48 fun p0 =>
 ldA p0 2 h fun cs1 =>
 newO [.int .i64 (0), .int .i64 (0)] h fun p2 h3 =>
 stN p2 2 cs1 h3 fun h4 =>
 ixA p2 2 1 (1) fun p5 =>
 ldI .i64 p5 h4 fun n6 =>
 ixA p2 2 1 (1) fun p7 =>
 ldI .i64 p7 h4 fun n8 =>
 WW .i64 f13_ (.int .i64 n8) h4 fun n9 =>
 ixA p2 2 1 (0) fun p10 =>
 ldI .i64 p10 h4 fun n11 =>
 WW .i64 f10_ (.int .i64 n11) h4 fun n12 =>
 mput f13_ (.int .i64 n6) (.int .i64 (mnI (1000000000000001) (w64 (n9 + n12)))) h4 fun h13 =>
 X4 (zgd s9_ f10_ f13_ i42 i43 s46_ i47 (w64 (i48 + (1)))) h13
 else
 zBP S K X2 s9_ f13_ i42 i43 h
theorem ztw (S : SatT) (K : KT) (X2 X4 : XT) (s9_ : Sl) (f10_ f13_ : AVal) (i42 i43 : Int) (s46_ : Sl) (i47 i48 : Int) (h : H) : zBJ S K X2 X4 (zgd s9_ f10_ f13_ i42 i43 s46_ i47 i48) h = ztz S K X2 X4 s9_ f10_ f13_ i42 i43 s46_ i47 i48 h := by kernel_rfl
theorem ztt (S : SatT) (K : KT) (X2 : XT) (s9_ : Sl) (f10_ f13_ : AVal) (i42 i43 : Int) (s46_ : Sl) (i47 : Int) (I_ : Int → H → Prop) (m_ : Int → H → Nat)
  (hs : ∀ (X4 : XT) (i48 : Int) (h : H), I_ i48 h → (∀ (i48' : Int) (h' : H), I_ i48' h' → m_ i48' h' < m_ i48 h → X4 (zgd s9_ f10_ f13_ i42 i43 s46_ i47 i48') h') → ztz S K X2 X4 s9_ f10_ f13_ i42 i43 s46_ i47 i48 h) (i48 : Int) {h : H} (h0 : I_ i48 h) : zBM S K X2 s9_ f10_ f13_ i42 i43 s46_ i47 i48 h :=
 ze (σ := (Int)) (fun s_ => zgd s9_ f10_ f13_ i42 i43 s46_ i47 (s_)) (fun s_ h => I_ (s_) h) (fun s_ h => m_ (s_) h)
  (fun X s_ h hi hx => (ztw S K X2 X s9_ f10_ f13_ i42 i43 s46_ i47 (s_) h).mpr (hs X (s_) h hi fun i48' h' hi' hm' => hx (i48') h' hi' hm')) (i48) h0
def zBR (S : SatT) (K : KT) (f10_ : AVal) (h : H) : Prop :=
 zev S tab [16, 16] (sq Tryz.f15 8 252) (sq Tryz.f15 8 253) (fun i16 h0 =>
 callV S zGc [.int .i64 i16] h0 fun v2 h1 =>
 viaT v2 fun vs3 =>
 exI .i64 vs3 0 fun n4 =>
 viaT v2 fun vs5 =>
 exI .i64 vs5 1 fun n6 =>
 K (.tuple [.int .i64 n4, .int .i64 n6]) h1) (uu 10 (f10_ :: uu 5 (.int .i64 (0) :: uu 65 []))) h
def ztA (S : SatT) (K : KT) (X2 : XT) (s9_ : Sl) (f10_ : AVal) (i42 i43 : Int) (h : H) : Prop :=
 bif (decide (i43 < i42)) then
 newM h fun v0 h1 =>
 zBM S K X2 s9_ f10_ v0 i42 i43 s9_ (s9_.len : Int) (0) h1
 else
 zBR S K f10_ h
theorem ztx (S : SatT) (K : KT) (X2 : XT) (s9_ : Sl) (f10_ : AVal) (i42 i43 : Int) (h : H) : zBK S K X2 (zge s9_ f10_ i42 i43) h = ztA S K X2 s9_ f10_ i42 i43 h := by kernel_rfl
theorem ztu (S : SatT) (K : KT) (s9_ : Sl) (i42 : Int) (I_ : AVal → Int → H → Prop) (m_ : AVal → Int → H → Nat)
  (hs : ∀ (X2 : XT) (f10_ : AVal) (i43 : Int) (h : H), I_ f10_ i43 h → (∀ (f10_' : AVal) (i43' : Int) (h' : H), I_ f10_' i43' h' → m_ f10_' i43' h' < m_ f10_ i43 h → X2 (zge s9_ f10_' i42 i43') h') → ztA S K X2 s9_ f10_ i42 i43 h) (f10_ : AVal) (i43 : Int) {h : H} (h0 : I_ f10_ i43 h) : zBN S K s9_ f10_ i42 i43 h :=
 ze (σ := (AVal) × (Int)) (fun s_ => zge s9_ (s_.1) i42 (s_.2)) (fun s_ h => I_ (s_.1) (s_.2) h) (fun s_ h => m_ (s_.1) (s_.2) h)
  (fun X s_ h hi hx => (ztx S K X s9_ (s_.1) i42 (s_.2) h).mpr (hs X (s_.1) (s_.2) h hi fun f10_' i43' h' hi' hm' => hx (f10_', i43') h' hi' hm')) (f10_, i43) h0
def zBS (S : SatT) (K : KT) (p4_ : Pt) (s9_ : Sl) (f10_ : AVal) (h : H) : Prop :=
 ldI .i64 p4_ h fun n0 =>
 zBN S K s9_ f10_ (w64 (n0 - (1))) (0) h
def ztB (S : SatT) (K : KT) (X0 : XT) (p4_ : Pt) (s9_ : Sl) (f10_ : AVal) (s29_ : Sl) (i30 i31 : Int) (h : H) : Prop :=
 bif (decide (i31 < i30)) then
 ixS s29_ 2 i31 fun p0 =>
 ldA p0 2 h fun cs1 =>
 newO [.int .i64 (0), .int .i64 (0)] h fun p2 h3 =>
 stN p2 2 cs1 h3 fun h4 =>
 ixA p2 2 1 (1) fun p5 =>
 ldI .i64 p5 h4 fun n6 =>
 WW .i64 f10_ (.int .i64 n6) h4 fun n7 =>
 mput f10_ (.int .i64 n6) (.int .i64 (w64 (n7 + (1)))) h4 fun h8 =>
 X0 (zgf p4_ s9_ f10_ s29_ i30 (w64 (i31 + (1)))) h8
 else
 zBS S K p4_ s9_ f10_ h
theorem zty (S : SatT) (K : KT) (X0 : XT) (p4_ : Pt) (s9_ : Sl) (f10_ : AVal) (s29_ : Sl) (i30 i31 : Int) (h : H) : zBL S K X0 (zgf p4_ s9_ f10_ s29_ i30 i31) h = ztB S K X0 p4_ s9_ f10_ s29_ i30 i31 h := by kernel_rfl
theorem ztv (S : SatT) (K : KT) (p4_ : Pt) (s9_ : Sl) (f10_ : AVal) (s29_ : Sl) (i30 : Int) (I_ : Int → H → Prop) (m_ : Int → H → Nat)
  (hs : ∀ (X0 : XT) (i31 : Int) (h : H), I_ i31 h → (∀ (i31' : Int) (h' : H), I_ i31' h' → m_ i31' h' < m_ i31 h → X0 (zgf p4_ s9_ f10_ s29_ i30 i31') h') → ztB S K X0 p4_ s9_ f10_ s29_ i30 i31 h) (i31 : Int) {h : H} (h0 : I_ i31 h) : zBO S K p4_ s9_ f10_ s29_ i30 i31 h :=
 ze (σ := (Int)) (fun s_ => zgf p4_ s9_ f10_ s29_ i30 (s_)) (fun s_ h => I_ (s_) h) (fun s_ h => m_ (s_) h)
  (fun X s_ h hi hx => (zty S K X p4_ s9_ f10_ s29_ i30 (s_) h).mpr (hs X (s_) h hi fun i31' h' hi' hm' => hx (i31') h' hi' hm')) (i31) h0
def zdI (S : SatT) (K : KT) (x0 : List AVal) (x1 x2 : Int) (h : H) : Prop :=
 newK 2 x0 h fun p0 h1 =>
 newO [.int .i64 x1] h1 fun p2 h3 =>
 newO [.int .i64 x2] h3 fun p4 h5 =>
 ldA p0 2 h5 fun cs6 =>
 callI S .i64 zeX [.agg cs6, .func 64 [.ptr p2, .ptr p4]] h5 fun n8 h7 =>
 bif (n8 != (0)) then
 K (.tuple [.int .i64 (0), .int .i64 n8]) h7
 else
 ldA p0 2 h7 fun cs9 =>
 ldI .i64 p4 h7 fun n10 =>
 callS S zCQ [.agg cs9, .int .i64 n10] h7 fun s12 h11 =>
 newM h11 fun v13 h14 =>
 zBO S K p2 s12 v13 s12 (s12.len : Int) (0) h14
theorem zdH (S : SatT) (K : KT) (x0 : List AVal) (x1 x2 : Int) (h : H) : cwp S tab w8 [] (za Tryz.f15) (kFun tab Tryz.f15.results.toList K) (fr0 Tryz.f15 [.agg x0, .int .i64 x1, .int .i64 x2]) h = zdI S K x0 x1 x2 h := by kernel_rfl
theorem zyq (x0 : List AVal) (x1 x2 : Int) (h : H) (K : KT) (hm : zdI (Sat Tryz.prog) (fun v h' => K v h') x0 x1 x2 h) : callV (Sat Tryz.prog) zkO [.agg x0, .int .i64 x1, .int .i64 x2] h K := by
 have := Sat.ex tok mixed w8 Tryz.func15 (c := za Tryz.f15) (by kernel_rfl) (zb Tryz.func15 (c := za Tryz.f15) (by kernel_rfl) (by decide)) ((zdH _ _ x0 x1 x2 h).mpr hm)
 exact this
def qN : Nat → List Nat := fun i => bif i == 2 then [1, 3, 8, 9, 10, 11, 12, 13, 14] else bif i == 0 then [1, 3, 8, 9, 10, 11, 12] else []
def zhx (S : SatT) (K : KT) : Kont := kSeq (cwp S tab qN [] (sq Tryz.f56 4 15) (kFun tab (Tryz.f56).results.toList K)) (kFun tab (Tryz.f56).results.toList K)
def Ql (i1 : Int) (p3_ : Pt) (s8_ s9_ : Sl) (i10 i11 i12 : Int) : Frame := (U :: .int .i64 i1 :: U :: .ptr p3_ :: uu 4 (.sl s8_ :: .sl s9_ :: .int .i64 i10 :: .int .i64 i11 :: .int .i64 i12 :: uu 47 []))
def zAv (S : SatT) (K : KT) : (XT) → XT := fun X fr h => cwp S tab qN (qN 0) (sq Tryz.f56 7 116) (kSeq (fun fr h => X (mask (qN 0) fr) h) (kBlk 0 (zhx S K))) fr h
def zAx (S : SatT) (K : KT) (i1 : Int) (p3_ : Pt) (s8_ s9_ : Sl) (i10 i11 i12 : Int) (h : H) : Prop := zA (zAv S K) (Ql i1 p3_ s8_ s9_ i10 i11 i12) h
def zpY (S : SatT) (K : KT) (X0 : XT) : Kont := kSeq (cwp S tab qN (qN 0) (sq Tryz.f56 9 467) (kSeq (fun fr h => X0 (mask (qN 0) fr) h) (kBlk 0 (zhx S K)))) (kSeq (fun fr h => X0 (mask (qN 0) fr) h) (kBlk 0 (zhx S K)))
def zDy (S : SatT) (K : KT) (X0 : XT) : Kont := kSeq (cwp S tab qN (qN 1) (sq Tryz.f56 12 3731) (kBlk 1 (zpY S K X0))) (kBlk 1 (zpY S K X0))
def Qk (i1 : Int) (p3_ : Pt) (s8_ s9_ : Sl) (i10 i11 i12 : Int) (b13_ : Bool) (i14 : Int) : Frame := (U :: .int .i64 i1 :: U :: .ptr p3_ :: uu 4 (.sl s8_ :: .sl s9_ :: .int .i64 i10 :: .int .i64 i11 :: .int .i64 i12 :: .bool b13_ :: .int .i64 i14 :: uu 45 []))
def zAu (S : SatT) (K : KT) (X0 : XT) : (XT) → XT := fun X fr h => cwp S tab qN (qN 2) (sq Tryz.f56 15 29844) (kSeq (fun fr h => X (mask (qN 2) fr) h) (kBlk 2 (zDy S K X0))) fr h
def zAw (S : SatT) (K : KT) (X0 : XT) (i1 : Int) (p3_ : Pt) (s8_ s9_ : Sl) (i10 i11 i12 : Int) (b13_ : Bool) (i14 : Int) (h : H) : Prop := zA (zAu S K X0) (Qk i1 p3_ s8_ s9_ i10 i11 i12 b13_ i14) h
def zqb (S : SatT) (K : KT) (X0 : XT) (i1 : Int) (p3_ : Pt) (s8_ s9_ : Sl) (i10 i11 i12 : Int) (h : H) : Prop :=
 X0 (Ql i1 p3_ s8_ s9_ i10 i11 (w64 (i12 + (1)))) h
def zAy (S : SatT) (K : KT) (X0 : XT) (i1 : Int) (p3_ : Pt) (s8_ s9_ : Sl) (i10 i11 i12 : Int) (b13_ : Bool) (h : H) : Prop :=
 bif b13_ then
 ldA p3_ 2 h fun cs0 =>
 callS S zhk [.agg cs0, .sl s8_, .sl s9_, .int .i64 i10, .int .i64 i1, .int .i64 i12] h fun s2 h1 =>
 ixS s2 1 i12 fun p3 =>
 ldI .i64 p3 h1 fun n4 =>
 zqb S K X0 i1 p3_ s8_ s9_ i10 (w64 (i11 + n4)) i12 h1
 else
 zqb S K X0 i1 p3_ s8_ s9_ i10 i11 i12 h
def zpZ (S : SatT) (K : KT) (X0 X2 : XT) (i1 : Int) (p3_ : Pt) (s8_ s9_ : Sl) (i10 i11 i12 : Int) (b13_ : Bool) (i14 : Int) (h : H) : Prop :=
 bif (decide (i14 < (s8_.len : Int))) then
 bif b13_ then
 X2 (Qk i1 p3_ s8_ s9_ i10 i11 i12 true (w64 (i14 + (1)))) h
 else
 ixS s8_ 1 i14 fun p0 =>
 ldI .i64 p0 h fun n1 =>
 X2 (Qk i1 p3_ s8_ s9_ i10 i11 i12 (n1 == i12) (w64 (i14 + (1)))) h
 else
 zAy S K X0 i1 p3_ s8_ s9_ i10 i11 i12 b13_ h
theorem zpW (S : SatT) (K : KT) (X0 X2 : XT) (i1 : Int) (p3_ : Pt) (s8_ s9_ : Sl) (i10 i11 i12 : Int) (b13_ : Bool) (i14 : Int) (h : H) : zAu S K X0 X2 (Qk i1 p3_ s8_ s9_ i10 i11 i12 b13_ i14) h = zpZ S K X0 X2 i1 p3_ s8_ s9_ i10 i11 i12 b13_ i14 h := by kernel_rfl
theorem zpU (S : SatT) (K : KT) (X0 : XT) (i1 : Int) (p3_ : Pt) (s8_ s9_ : Sl) (i10 i11 i12 : Int) (I_ : Bool → Int → H → Prop) (m_ : Bool → Int → H → Nat)
  (hs : ∀ (X2 : XT) (b13_ : Bool) (i14 : Int) (h : H), I_ b13_ i14 h → (∀ (b13_' : Bool) (i14' : Int) (h' : H), I_ b13_' i14' h' → m_ b13_' i14' h' < m_ b13_ i14 h → X2 (Qk i1 p3_ s8_ s9_ i10 i11 i12 b13_' i14') h') → zpZ S K X0 X2 i1 p3_ s8_ s9_ i10 i11 i12 b13_ i14 h) (b13_ : Bool) (i14 : Int) {h : H} (h0 : I_ b13_ i14 h) : zAw S K X0 i1 p3_ s8_ s9_ i10 i11 i12 b13_ i14 h :=
 ze (σ := (Bool) × (Int)) (fun s_ => Qk i1 p3_ s8_ s9_ i10 i11 i12 (s_.1) (s_.2)) (fun s_ h => I_ (s_.1) (s_.2) h) (fun s_ h => m_ (s_.1) (s_.2) h)
  (fun X s_ h hi hx => (zpW S K X0 X i1 p3_ s8_ s9_ i10 i11 i12 (s_.1) (s_.2) h).mpr (hs X (s_.1) (s_.2) h hi fun b13_' i14' h' hi' hm' => hx (b13_', i14') h' hi' hm')) (b13_, i14) h0
def zAz (S : SatT) (K : KT) (i11 : Int) (h : H) : Prop :=
 K (.int .i64 i11) h
def zqa (S : SatT) (K : KT) (X0 : XT) (i1 : Int) (p3_ : Pt) (s8_ s9_ : Sl) (i10 i11 i12 : Int) (h : H) : Prop :=
 bif (decide (i12 < i10)) then
 zAw S K X0 i1 p3_ s8_ s9_ i10 i11 i12 false (0) h
 else
 zAz S K i11 h
theorem zpX (S : SatT) (K : KT) (X0 : XT) (i1 : Int) (p3_ : Pt) (s8_ s9_ : Sl) (i10 i11 i12 : Int) (h : H) : zAv S K X0 (Ql i1 p3_ s8_ s9_ i10 i11 i12) h = zqa S K X0 i1 p3_ s8_ s9_ i10 i11 i12 h := by kernel_rfl
theorem zpV (S : SatT) (K : KT) (i1 : Int) (p3_ : Pt) (s8_ s9_ : Sl) (i10 : Int) (I_ : Int → Int → H → Prop) (m_ : Int → Int → H → Nat)
  (hs : ∀ (X0 : XT) (i11 i12 : Int) (h : H), I_ i11 i12 h → (∀ (i11' i12' : Int) (h' : H), I_ i11' i12' h' → m_ i11' i12' h' < m_ i11 i12 h → X0 (Ql i1 p3_ s8_ s9_ i10 i11' i12') h') → zqa S K X0 i1 p3_ s8_ s9_ i10 i11 i12 h) (i11 i12 : Int) {h : H} (h0 : I_ i11 i12 h) : zAx S K i1 p3_ s8_ s9_ i10 i11 i12 h :=
 ze (σ := (Int) × (Int)) (fun s_ => Ql i1 p3_ s8_ s9_ i10 (s_.1) (s_.2)) (fun s_ h => I_ (s_.1) (s_.2) h) (fun s_ h => m_ (s_.1) (s_.2) h)
  (fun X s_ h hi hx => (zpX S K X i1 p3_ s8_ s9_ i10 (s_.1) (s_.2) h).mpr (hs X (s_.1) (s_.2) h hi fun i11' i12' h' hi' hm' => hx (i11', i12') h' hi' hm')) (i11, i12) h0
def zbp (S : SatT) (K : KT) (x0 : List AVal) (x1 x2 : Int) (h : H) : Prop :=
 newK 2 x0 h fun p0 h1 =>
 ldA p0 2 h1 fun cs2 =>
 callV S znL [.agg cs2, .int .i64 x2] h1 fun v4 h3 =>
 viaT v4 fun vs5 =>
 exS vs5 0 fun s6 =>
 viaT v4 fun vs7 =>
 exS vs7 1 fun s8 =>
 viaT v4 fun vs9 =>
 exS vs9 2 fun s10 =>
 isPt p0 (
 ldI .i64 (Pt.add p0 0) h3 fun n11 =>
 callI S .i64 znK [.int .i64 n11, .int .i64 x2] h3 fun n13 h12 =>
 zAx S K x1 p0 s8 s10 n13 (0) (0) h12)
theorem zbo (S : SatT) (K : KT) (x0 : List AVal) (x1 x2 : Int) (h : H) : cwp S tab qN [] (za Tryz.f56) (kFun tab Tryz.f56.results.toList K) (fr0 Tryz.f56 [.agg x0, .int .i64 x1, .int .i64 x2]) h = zbp S K x0 x1 x2 h := by kernel_rfl
theorem zxa (x0 : List AVal) (x1 x2 : Int) (h : H) (K : Int → H → Prop) (hm : zbp (Sat Tryz.prog) (fun v h' => ∃ r, v = .int .i64 r ∧ K r h') x0 x1 x2 h) : callI (Sat Tryz.prog) .i64 zwk [.agg x0, .int .i64 x1, .int .i64 x2] h K := by
 have := Sat.ex tok mixed qN Tryz.func56 (c := za Tryz.f56) (by kernel_rfl) (zb Tryz.func56 (c := za Tryz.f56) (by kernel_rfl) (by decide)) ((zbo _ _ x0 x1 x2 h).mpr hm)
 obtain ⟨v, h2, h3, r, rfl, h4⟩ := this; exact ⟨r, h2, h3, h4⟩
def xT : Nat → List Nat := fun i => bif i == 2 then [0, 1, 2, 7, 8, 9, 10, 11, 12] else bif i == 0 then [0, 1, 2, 7, 8, 9, 10] else []
def zdQ (S : SatT) (K : KT) : Kont := kSeq (cwp S tab xT [] (sq Tryz.f121 3 7) (kFun tab (Tryz.f121).results.toList K)) (kFun tab (Tryz.f121).results.toList K)
def Wu (s0_ : Sl) (i1 i2 : Int) (i7 i8 : Int) (s9_ : Sl) (i10 : Int) : Frame := (.sl s0_ :: .int .i64 i1 :: .int .i64 i2 :: uu 4 (.int .i64 i7 :: .int .i64 i8 :: .sl s9_ :: .int .i64 i10 :: uu 43 []))
def zuc (S : SatT) (K : KT) : (XT) → XT := fun X fr h => cwp S tab xT (xT 0) (sq Tryz.f121 6 52) (kSeq (fun fr h => X (mask (xT 0) fr) h) (kBlk 0 (zdQ S K))) fr h
def zuf (S : SatT) (K : KT) (s0_ : Sl) (i1 i2 : Int) (i7 i8 : Int) (s9_ : Sl) (i10 : Int) (h : H) : Prop := zA (zuc S K) (Wu s0_ i1 i2 i7 i8 s9_ i10) h
def zjZ (S : SatT) (K : KT) (X0 : XT) : Kont := kSeq (cwp S tab xT (xT 0) (sq Tryz.f121 8 211) (kSeq (fun fr h => X0 (mask (xT 0) fr) h) (kBlk 0 (zdQ S K)))) (kSeq (fun fr h => X0 (mask (xT 0) fr) h) (kBlk 0 (zdQ S K)))
def zyv (S : SatT) (K : KT) (X0 : XT) : Kont := kSeq (cwp S tab xT (xT 1) (sq Tryz.f121 11 1683) (kBlk 1 (zjZ S K X0))) (kBlk 1 (zjZ S K X0))
def Wt (s0_ : Sl) (i1 i2 : Int) (i7 i8 : Int) (s9_ : Sl) (i10 : Int) (s11_ : Sl) (i12 : Int) : Frame := (.sl s0_ :: .int .i64 i1 :: .int .i64 i2 :: uu 4 (.int .i64 i7 :: .int .i64 i8 :: .sl s9_ :: .int .i64 i10 :: .sl s11_ :: .int .i64 i12 :: uu 41 []))
def zub (S : SatT) (K : KT) (X0 : XT) : (XT) → XT := fun X fr h => cwp S tab xT (xT 2) (sq Tryz.f121 14 13460) (kSeq (fun fr h => X (mask (xT 2) fr) h) (kBlk 2 (zyv S K X0))) fr h
def zue (S : SatT) (K : KT) (X0 : XT) (s0_ : Sl) (i1 i2 : Int) (i7 i8 : Int) (s9_ : Sl) (i10 : Int) (s11_ : Sl) (i12 : Int) (h : H) : Prop := zA (zub S K X0) (Wt s0_ i1 i2 i7 i8 s9_ i10 s11_ i12) h
def zuh (S : SatT) (K : KT) (X0 : XT) (s0_ : Sl) (i1 i2 : Int) (i7 i8 : Int) (s9_ : Sl) (i10 : Int) (h : H) : Prop :=
 X0 (Wu s0_ i1 i2 i7 i8 s9_ (w64 (i10 + (1)))) h
def zug (S : SatT) (K : KT) (X0 : XT) (s0_ : Sl) (i1 i2 : Int) (i7 i8 : Int) (s9_ : Sl) (i10 : Int) (s11_ : Sl) (h : H) : Prop :=
 newS 1 1 [.sl s11_] h fun s0 h1 =>
 app s9_ s0 1 h1 fun s2 h3 =>
 zuh S K X0 s0_ i1 i2 i7 i8 s2 i10 h3
def zik (S : SatT) (K : KT) (X0 X2 : XT) (s0_ : Sl) (i1 i2 : Int) (i7 i8 : Int) (s9_ : Sl) (i10 : Int) (s11_ : Sl) (i12 : Int) (h : H) : Prop :=
 bif (decide (i12 < i8)) then
 nz i7 (
 ixS s0_ 1 (Int.tmod (w64 (i10 + i1)) i7) fun p0 =>
 ldS p0 h fun s1 =>
 nz i8 (
 ixS s1 1 (Int.tmod (w64 (i12 + i2)) i8) fun p2 =>
 ldI .i64 p2 h fun n3 =>
 newS 1 1 [.int .i64 n3] h fun s4 h5 =>
 app s11_ s4 1 h5 fun s6 h7 =>
 X2 (Wt s0_ i1 i2 i7 i8 s9_ i10 s6 (w64 (i12 + (1)))) h7))
 else
 zug S K X0 s0_ i1 i2 i7 i8 s9_ i10 s11_ h
theorem zlS (S : SatT) (K : KT) (X0 X2 : XT) (s0_ : Sl) (i1 i2 : Int) (i7 i8 : Int) (s9_ : Sl) (i10 : Int) (s11_ : Sl) (i12 : Int) (h : H) : zub S K X0 X2 (Wt s0_ i1 i2 i7 i8 s9_ i10 s11_ i12) h = zik S K X0 X2 s0_ i1 i2 i7 i8 s9_ i10 s11_ i12 h := by kernel_rfl
theorem zlQ (S : SatT) (K : KT) (X0 : XT) (s0_ : Sl) (i1 i2 : Int) (i7 i8 : Int) (s9_ : Sl) (i10 : Int) (I_ : Sl → Int → H → Prop) (m_ : Sl → Int → H → Nat)
  (hs : ∀ (X2 : XT) (s11_ : Sl) (i12 : Int) (h : H), I_ s11_ i12 h → (∀ (s11_' : Sl) (i12' : Int) (h' : H), I_ s11_' i12' h' → m_ s11_' i12' h' < m_ s11_ i12 h → X2 (Wt s0_ i1 i2 i7 i8 s9_ i10 s11_' i12') h') → zik S K X0 X2 s0_ i1 i2 i7 i8 s9_ i10 s11_ i12 h) (s11_ : Sl) (i12 : Int) {h : H} (h0 : I_ s11_ i12 h) : zue S K X0 s0_ i1 i2 i7 i8 s9_ i10 s11_ i12 h :=
 ze (σ := (Sl) × (Int)) (fun s_ => Wt s0_ i1 i2 i7 i8 s9_ i10 (s_.1) (s_.2)) (fun s_ h => I_ (s_.1) (s_.2) h) (fun s_ h => m_ (s_.1) (s_.2) h)
  (fun X s_ h hi hx => (zlS S K X0 X s0_ i1 i2 i7 i8 s9_ i10 (s_.1) (s_.2) h).mpr (hs X (s_.1) (s_.2) h hi fun s11_' i12' h' hi' hm' => hx (s11_', i12') h' hi' hm')) (s11_, i12) h0
def zui (S : SatT) (K : KT) (s9_ : Sl) (h : H) : Prop :=
 K (.sl s9_) h
def zil (S : SatT) (K : KT) (X0 : XT) (s0_ : Sl) (i1 i2 : Int) (i7 i8 : Int) (s9_ : Sl) (i10 : Int) (h : H) : Prop :=
 bif (decide (i10 < i7)) then
 newS 0 1 [] h fun s0 h1 =>
 zue S K X0 s0_ i1 i2 i7 i8 s9_ i10 s0 (0) h1
 else
 zui S K s9_ h
theorem zlT (S : SatT) (K : KT) (X0 : XT) (s0_ : Sl) (i1 i2 : Int) (i7 i8 : Int) (s9_ : Sl) (i10 : Int) (h : H) : zuc S K X0 (Wu s0_ i1 i2 i7 i8 s9_ i10) h = zil S K X0 s0_ i1 i2 i7 i8 s9_ i10 h := by kernel_rfl
theorem zlR (S : SatT) (K : KT) (s0_ : Sl) (i1 i2 : Int) (i7 i8 : Int) (I_ : Sl → Int → H → Prop) (m_ : Sl → Int → H → Nat)
  (hs : ∀ (X0 : XT) (s9_ : Sl) (i10 : Int) (h : H), I_ s9_ i10 h → (∀ (s9_' : Sl) (i10' : Int) (h' : H), I_ s9_' i10' h' → m_ s9_' i10' h' < m_ s9_ i10 h → X0 (Wu s0_ i1 i2 i7 i8 s9_' i10') h') → zil S K X0 s0_ i1 i2 i7 i8 s9_ i10 h) (s9_ : Sl) (i10 : Int) {h : H} (h0 : I_ s9_ i10 h) : zuf S K s0_ i1 i2 i7 i8 s9_ i10 h :=
 ze (σ := (Sl) × (Int)) (fun s_ => Wu s0_ i1 i2 i7 i8 (s_.1) (s_.2)) (fun s_ h => I_ (s_.1) (s_.2) h) (fun s_ h => m_ (s_.1) (s_.2) h)
  (fun X s_ h hi hx => (zlT S K X s0_ i1 i2 i7 i8 (s_.1) (s_.2) h).mpr (hs X (s_.1) (s_.2) h hi fun s9_' i10' h' hi' hm' => hx (s9_', i10') h' hi' hm')) (s9_, i10) h0
def Ws (S : SatT) (K : KT) (x0 : Sl) (x1 x2 : Int) (h : H) : Prop :=
 ixS x0 1 (0) fun p0 =>
 ldS p0 h fun s1 =>
 newS 0 1 [] h fun s2 h3 =>
(cell h3 p0 = cell h p0) ∧ (
 zuf S K x0 x1 x2 (x0.len : Int) (s1.len : Int) s2 (0) h3)
theorem Vo (S : SatT) (K : KT) (x0 : Sl) (x1 x2 : Int) (h : H) : cwp S tab xT [] (za Tryz.f121) (kFun tab Tryz.f121.results.toList K) (fr0 Tryz.f121 [.sl x0, .int .i64 x1, .int .i64 x2]) h = Ws S K x0 x1 x2 h := by kernel_rfl
theorem zud (x0 : Sl) (x1 x2 : Int) (h : H) (K : Sl → H → Prop) (hm : Ws (Sat Tryz.prog) (fun v h' => ∃ r, v = .sl r ∧ K r h') x0 x1 x2 h) : callS (Sat Tryz.prog) zop [.sl x0, .int .i64 x1, .int .i64 x2] h K := by
 have := Sat.ex tok mixed xT Tryz.func121 (c := za Tryz.f121) (by kernel_rfl) (zb Tryz.func121 (c := za Tryz.f121) (by kernel_rfl) (by decide)) ((Vo _ _ x0 x1 x2 h).mpr hm)
 obtain ⟨v, h2, h3, r, rfl, h4⟩ := this; exact ⟨r, h2, h3, h4⟩
def Z1 : Nat → List Nat := fun i => bif i == 2 then [1, 2, 9, 10, 11, 15, 16, 17] else bif i == 0 then [1, 2, 9, 10, 11] else []
def zhw (S : SatT) (K : KT) : Kont := kSeq (cwp S tab Z1 [] (sq Tryz.f58 2 3) (kFun tab (Tryz.f58).results.toList K)) (kFun tab (Tryz.f58).results.toList K)
def zfE (s1_ : Sl) (p2_ : Pt) (s9_ : Sl) (i10 i11 : Int) : Frame := (U :: .sl s1_ :: .ptr p2_ :: uu 6 (.sl s9_ :: .int .i64 i10 :: .int .i64 i11 :: uu 17 []))
def zAo (S : SatT) (K : KT) : (XT) → XT := fun X fr h => cwp S tab Z1 (Z1 0) (sq Tryz.f58 5 20) (kSeq (fun fr h => X (mask (Z1 0) fr) h) (kBlk 0 (zhw S K))) fr h
def zAq (S : SatT) (K : KT) (s1_ : Sl) (p2_ : Pt) (s9_ : Sl) (i10 i11 : Int) (h : H) : Prop := zA (zAo S K) (zfE s1_ p2_ s9_ i10 i11) h
def zDx (S : SatT) (K : KT) (X0 : XT) : Kont := kSeq (cwp S tab Z1 (Z1 0) (sq Tryz.f58 8 167) (kSeq (fun fr h => X0 (mask (Z1 0) fr) h) (kBlk 0 (zhw S K)))) (kSeq (fun fr h => X0 (mask (Z1 0) fr) h) (kBlk 0 (zhw S K)))
def zfD (s1_ : Sl) (p2_ : Pt) (s9_ : Sl) (i10 i11 : Int) (s15_ : Sl) (i16 i17 : Int) : Frame := (U :: .sl s1_ :: .ptr p2_ :: uu 6 (.sl s9_ :: .int .i64 i10 :: .int .i64 i11 :: U :: U :: U :: .sl s15_ :: .int .i64 i16 :: .int .i64 i17 :: uu 11 []))
def zAn (S : SatT) (K : KT) (X0 : XT) : (XT) → XT := fun X fr h => cwp S tab Z1 (Z1 2) (sq Tryz.f58 13 5324) (kSeq (fun fr h => X (mask (Z1 2) fr) h) (kBlk 2 (kBlk 1 (zDx S K X0)))) fr h
def zAp (S : SatT) (K : KT) (X0 : XT) (s1_ : Sl) (p2_ : Pt) (s9_ : Sl) (i10 i11 : Int) (s15_ : Sl) (i16 i17 : Int) (h : H) : Prop := zA (zAn S K X0) (zfD s1_ p2_ s9_ i10 i11 s15_ i16 i17) h
def zAs (S : SatT) (K : KT) (X0 : XT) (s1_ : Sl) (p2_ : Pt) (s9_ : Sl) (i10 i11 : Int) (h : H) : Prop :=
 X0 (zfE s1_ p2_ s9_ i10 (w64 (i11 + (1)))) h
def zAr (S : SatT) (K : KT) (X0 : XT) (s1_ : Sl) (p2_ : Pt) (s9_ : Sl) (i10 i11 : Int) (h : H) : Prop :=
 zAs S K X0 s1_ p2_ s9_ i10 i11 h
def zpS (S : SatT) (K : KT) (X0 X2 : XT) (s1_ : Sl) (p2_ : Pt) (s9_ : Sl) (i10 i11 : Int) (s15_ : Sl) (i16 i17 : Int) (h : H) : Prop :=
 bif (decide (i17 < i16)) then
 ixS s15_ 1 i17 fun p0 =>
 ldI .i64 p0 h fun n1 =>
 ldA p2_ 2 h fun cs2 =>
 callB S zow [.agg cs2, .int .i64 n1] h fun b4 h3 =>
 bif (!b4) then
 K (.bool false) h3
 else
 X2 (zfD s1_ p2_ s9_ i10 i11 s15_ i16 (w64 (i17 + (1)))) h3
 else
 zAr S K X0 s1_ p2_ s9_ i10 i11 h
theorem zpQ (S : SatT) (K : KT) (X0 X2 : XT) (s1_ : Sl) (p2_ : Pt) (s9_ : Sl) (i10 i11 : Int) (s15_ : Sl) (i16 i17 : Int) (h : H) : zAn S K X0 X2 (zfD s1_ p2_ s9_ i10 i11 s15_ i16 i17) h = zpS S K X0 X2 s1_ p2_ s9_ i10 i11 s15_ i16 i17 h := by kernel_rfl
theorem zpO (S : SatT) (K : KT) (X0 : XT) (s1_ : Sl) (p2_ : Pt) (s9_ : Sl) (i10 i11 : Int) (s15_ : Sl) (i16 : Int) (I_ : Int → H → Prop) (m_ : Int → H → Nat)
  (hs : ∀ (X2 : XT) (i17 : Int) (h : H), I_ i17 h → (∀ (i17' : Int) (h' : H), I_ i17' h' → m_ i17' h' < m_ i17 h → X2 (zfD s1_ p2_ s9_ i10 i11 s15_ i16 i17') h') → zpS S K X0 X2 s1_ p2_ s9_ i10 i11 s15_ i16 i17 h) (i17 : Int) {h : H} (h0 : I_ i17 h) : zAp S K X0 s1_ p2_ s9_ i10 i11 s15_ i16 i17 h :=
 ze (σ := (Int)) (fun s_ => zfD s1_ p2_ s9_ i10 i11 s15_ i16 (s_)) (fun s_ h => I_ (s_) h) (fun s_ h => m_ (s_) h)
  (fun X s_ h hi hx => (zpQ S K X0 X s1_ p2_ s9_ i10 i11 s15_ i16 (s_) h).mpr (hs X (s_) h hi fun i17' h' hi' hm' => hx (i17') h' hi' hm')) (i17) h0
def zAt (S : SatT) (K : KT) (s1_ : Sl) (h : H) : Prop :=
 callB S zov [.sl s1_, .int .i64 (8)] h fun b1 h0 =>
 K (.bool b1) h0
def zpT (S : SatT) (K : KT) (X0 : XT) (s1_ : Sl) (p2_ : Pt) (s9_ : Sl) (i10 i11 : Int) (h : H) : Prop :=
 bif (decide (i11 < i10)) then
 ixS s9_ 1 i11 fun p0 =>
 ldS p0 h fun s1 =>
 zAp S K X0 s1_ p2_ s9_ i10 i11 s1 (s1.len : Int) (0) h
 else
 zAt S K s1_ h
theorem zpR (S : SatT) (K : KT) (X0 : XT) (s1_ : Sl) (p2_ : Pt) (s9_ : Sl) (i10 i11 : Int) (h : H) : zAo S K X0 (zfE s1_ p2_ s9_ i10 i11) h = zpT S K X0 s1_ p2_ s9_ i10 i11 h := by kernel_rfl
theorem zpP (S : SatT) (K : KT) (s1_ : Sl) (p2_ : Pt) (s9_ : Sl) (i10 : Int) (I_ : Int → H → Prop) (m_ : Int → H → Nat)
  (hs : ∀ (X0 : XT) (i11 : Int) (h : H), I_ i11 h → (∀ (i11' : Int) (h' : H), I_ i11' h' → m_ i11' h' < m_ i11 h → X0 (zfE s1_ p2_ s9_ i10 i11') h') → zpT S K X0 s1_ p2_ s9_ i10 i11 h) (i11 : Int) {h : H} (h0 : I_ i11 h) : zAq S K s1_ p2_ s9_ i10 i11 h :=
 ze (σ := (Int)) (fun s_ => zfE s1_ p2_ s9_ i10 (s_)) (fun s_ h => I_ (s_) h) (fun s_ h => m_ (s_) h)
  (fun X s_ h hi hx => (zpR S K X s1_ p2_ s9_ i10 (s_) h).mpr (hs X (s_) h hi fun i11' h' hi' hm' => hx (i11') h' hi' hm')) (i11) h0
def zbl (S : SatT) (K : KT) (x0 : List AVal) (x1 : Sl) (h : H) : Prop :=
 newK 2 x0 h fun p0 h1 =>
 zAq S K x1 p0 x1 (x1.len : Int) (0) h1
theorem zbk (S : SatT) (K : KT) (x0 : List AVal) (x1 : Sl) (h : H) : cwp S tab Z1 [] (za Tryz.f58) (kFun tab Tryz.f58.results.toList K) (fr0 Tryz.f58 [.agg x0, .sl x1]) h = zbl S K x0 x1 h := by kernel_rfl
theorem zwY (x0 : List AVal) (x1 : Sl) (h : H) (K : Bool → H → Prop) (hm : zbl (Sat Tryz.prog) (fun v h' => ∃ r, v = .bool r ∧ K r h') x0 x1 h) : callB (Sat Tryz.prog) zkM [.agg x0, .sl x1] h K := by
 have := Sat.ex tok mixed Z1 Tryz.func58 (c := za Tryz.f58) (by kernel_rfl) (zb Tryz.func58 (c := za Tryz.f58) (by kernel_rfl) (by decide)) ((zbk _ _ x0 x1 h).mpr hm)
 obtain ⟨v, h2, h3, r, rfl, h4⟩ := this; exact ⟨r, h2, h3, h4⟩
def qP : Nat → List Nat := fun i => bif i == 2 then [1, 4, 5, 6, 7] else bif i == 0 then [1, 4, 5] else []
def zhP (S : SatT) (K : KT) : Kont := kSeq (cwp S tab qP [] (sq Tryz.f18 4 15) (kFun tab (Tryz.f18).results.toList K)) (kFun tab (Tryz.f18).results.toList K)
def zgc (p1_ : Pt) (s4_ : Sl) (i5 : Int) : Frame := (U :: .ptr p1_ :: U :: U :: .sl s4_ :: .int .i64 i5 :: uu 27 [])
def zBv (S : SatT) (K : KT) : (XT) → XT := fun X fr h => cwp S tab qP (qP 0) (sq Tryz.f18 7 116) (kSeq (fun fr h => X (mask (qP 0) fr) h) (kBlk 0 (zhP S K))) fr h
def zBx (S : SatT) (K : KT) (p1_ : Pt) (s4_ : Sl) (i5 : Int) (h : H) : Prop := zA (zBv S K) (zgc p1_ s4_ i5) h
def zst (S : SatT) (K : KT) (X0 : XT) : Kont := kSeq (cwp S tab qP (qP 0) (sq Tryz.f18 9 467) (kSeq (fun fr h => X0 (mask (qP 0) fr) h) (kBlk 0 (zhP S K)))) (kSeq (fun fr h => X0 (mask (qP 0) fr) h) (kBlk 0 (zhP S K)))
def zyc (S : SatT) (K : KT) (X0 : XT) : Kont := kSeq (cwp S tab qP (qP 1) (sq Tryz.f18 12 3731) (kBlk 1 (zst S K X0))) (kBlk 1 (zst S K X0))
def zgb (p1_ : Pt) (s4_ : Sl) (i5 : Int) (s6_ : Sl) (i7 : Int) : Frame := (U :: .ptr p1_ :: U :: U :: .sl s4_ :: .int .i64 i5 :: .sl s6_ :: .int .i64 i7 :: uu 25 [])
def zBu (S : SatT) (K : KT) (X0 : XT) : (XT) → XT := fun X fr h => cwp S tab qP (qP 2) (sq Tryz.f18 15 29844) (kSeq (fun fr h => X (mask (qP 2) fr) h) (kBlk 2 (zyc S K X0))) fr h
def zBw (S : SatT) (K : KT) (X0 : XT) (p1_ : Pt) (s4_ : Sl) (i5 : Int) (s6_ : Sl) (i7 : Int) (h : H) : Prop := zA (zBu S K X0) (zgb p1_ s4_ i5 s6_ i7) h
def zBz (S : SatT) (K : KT) (X0 : XT) (p1_ : Pt) (s4_ : Sl) (i5 : Int) (h : H) : Prop :=
 X0 (zgc p1_ s4_ (w64 (i5 + (1)))) h
def zBy (S : SatT) (K : KT) (X0 : XT) (p1_ : Pt) (s4_ : Sl) (i5 : Int) (s6_ : Sl) (h : H) : Prop :=
 newS 1 1 [.sl s6_] h fun s0 h1 =>
 app s4_ s0 1 h1 fun s2 h3 =>
 zBz S K X0 p1_ s2 i5 h3
def zsu (S : SatT) (K : KT) (X0 X2 : XT) (p1_ : Pt) (s4_ : Sl) (i5 : Int) (s6_ : Sl) (i7 : Int) (h : H) : Prop :=
 bif (decide (i7 ≤ (3))) then
 ldA p1_ 2 h fun cs0 =>
 callI S .i64 znN [.agg cs0, .int .i64 i5, .int .i64 i7] h fun n2 h1 =>
 newS 1 1 [.int .i64 n2] h1 fun s3 h4 =>
 app s6_ s3 1 h4 fun s5 h6 =>
 X2 (zgb p1_ s4_ i5 s5 (w64 (i7 + (1)))) h6
 else
 zBy S K X0 p1_ s4_ i5 s6_ h
theorem zsr (S : SatT) (K : KT) (X0 X2 : XT) (p1_ : Pt) (s4_ : Sl) (i5 : Int) (s6_ : Sl) (i7 : Int) (h : H) : zBu S K X0 X2 (zgb p1_ s4_ i5 s6_ i7) h = zsu S K X0 X2 p1_ s4_ i5 s6_ i7 h := by kernel_rfl
theorem zsp (S : SatT) (K : KT) (X0 : XT) (p1_ : Pt) (s4_ : Sl) (i5 : Int) (I_ : Sl → Int → H → Prop) (m_ : Sl → Int → H → Nat)
  (hs : ∀ (X2 : XT) (s6_ : Sl) (i7 : Int) (h : H), I_ s6_ i7 h → (∀ (s6_' : Sl) (i7' : Int) (h' : H), I_ s6_' i7' h' → m_ s6_' i7' h' < m_ s6_ i7 h → X2 (zgb p1_ s4_ i5 s6_' i7') h') → zsu S K X0 X2 p1_ s4_ i5 s6_ i7 h) (s6_ : Sl) (i7 : Int) {h : H} (h0 : I_ s6_ i7 h) : zBw S K X0 p1_ s4_ i5 s6_ i7 h :=
 ze (σ := (Sl) × (Int)) (fun s_ => zgb p1_ s4_ i5 (s_.1) (s_.2)) (fun s_ h => I_ (s_.1) (s_.2) h) (fun s_ h => m_ (s_.1) (s_.2) h)
  (fun X s_ h hi hx => (zsr S K X0 X p1_ s4_ i5 (s_.1) (s_.2) h).mpr (hs X (s_.1) (s_.2) h hi fun s6_' i7' h' hi' hm' => hx (s6_', i7') h' hi' hm')) (s6_, i7) h0
def zBA (S : SatT) (K : KT) (s4_ : Sl) (h : H) : Prop :=
 K (.tuple [.sl s4_, .int .i64 (0)]) h
def zsv (S : SatT) (K : KT) (X0 : XT) (p1_ : Pt) (s4_ : Sl) (i5 : Int) (h : H) : Prop :=
 bif (decide (i5 ≤ (3))) then
 newS 0 1 [] h fun s0 h1 =>
 zBw S K X0 p1_ s4_ i5 s0 (1) h1
 else
 zBA S K s4_ h
theorem zss (S : SatT) (K : KT) (X0 : XT) (p1_ : Pt) (s4_ : Sl) (i5 : Int) (h : H) : zBv S K X0 (zgc p1_ s4_ i5) h = zsv S K X0 p1_ s4_ i5 h := by kernel_rfl
theorem zsq (S : SatT) (K : KT) (p1_ : Pt) (I_ : Sl → Int → H → Prop) (m_ : Sl → Int → H → Nat)
  (hs : ∀ (X0 : XT) (s4_ : Sl) (i5 : Int) (h : H), I_ s4_ i5 h → (∀ (s4_' : Sl) (i5' : Int) (h' : H), I_ s4_' i5' h' → m_ s4_' i5' h' < m_ s4_ i5 h → X0 (zgc p1_ s4_' i5') h') → zsv S K X0 p1_ s4_ i5 h) (s4_ : Sl) (i5 : Int) {h : H} (h0 : I_ s4_ i5 h) : zBx S K p1_ s4_ i5 h :=
 ze (σ := (Sl) × (Int)) (fun s_ => zgc p1_ (s_.1) (s_.2)) (fun s_ h => I_ (s_.1) (s_.2) h) (fun s_ h => m_ (s_.1) (s_.2) h)
  (fun X s_ h hi hx => (zss S K X p1_ (s_.1) (s_.2) h).mpr (hs X (s_.1) (s_.2) h hi fun s4_' i5' h' hi' hm' => hx (s4_', i5') h' hi' hm')) (s4_, i5) h0
def zdx (S : SatT) (K : KT) (x0 : List AVal) (h : H) : Prop :=
 newK 2 x0 h fun p0 h1 =>
 ldA p0 2 h1 fun cs2 =>
 callB S zkL [.agg cs2] h1 fun b4 h3 =>
 bif (!b4) then
 K (.tuple [.sl Sl.nil, .int .i64 (1)]) h3
 else
 newS 0 1 [] h3 fun s5 h6 =>
 zBx S K p0 s5 (1) h6
theorem zdw (S : SatT) (K : KT) (x0 : List AVal) (h : H) : cwp S tab qP [] (za Tryz.f18) (kFun tab Tryz.f18.results.toList K) (fr0 Tryz.f18 [.agg x0]) h = zdx S K x0 h := by kernel_rfl
theorem zyd (x0 : List AVal) (h : H) (K : KT) (hm : zdx (Sat Tryz.prog) (fun v h' => K v h') x0 h) : callV (Sat Tryz.prog) zCW [.agg x0] h K := by
 have := Sat.ex tok mixed qP Tryz.func18 (c := za Tryz.f18) (by kernel_rfl) (zb Tryz.func18 (c := za Tryz.f18) (by kernel_rfl) (by decide)) ((zdw _ _ x0 h).mpr hm)
 exact this
def QA : Nat → List Nat := fun i => bif i == 0 then [1, 2, 3, 7, 8, 9] else []
def zyx (S : SatT) (K : KT) : Kont := kSeq (cwp S tab QA [] (sq Tryz.f119 5 31) (kFun tab (Tryz.f119).results.toList K)) (kFun tab (Tryz.f119).results.toList K)
def vP (s1_ : Sl) (i2 : Int) (p3_ : Pt) (i7 : Int) (s8_ : Sl) (i9 : Int) : Frame := (U :: .sl s1_ :: .int .i64 i2 :: .ptr p3_ :: U :: U :: U :: .int .i64 i7 :: .sl s8_ :: .int .i64 i9 :: uu 67 [])
def zun (S : SatT) (K : KT) : (XT) → XT := fun X fr h => cwp S tab QA (QA 0) (sq Tryz.f119 8 244) (kSeq (fun fr h => X (mask (QA 0) fr) h) (kBlk 0 (zyx S K))) fr h
def zuo (S : SatT) (K : KT) (s1_ : Sl) (i2 : Int) (p3_ : Pt) (i7 : Int) (s8_ : Sl) (i9 : Int) (h : H) : Prop := zA (zun S K) (vP s1_ i2 p3_ i7 s8_ i9) h
def zup (S : SatT) (K : KT) (s8_ : Sl) (h : H) : Prop :=
 K (.sl s8_) h
def zin (S : SatT) (K : KT) (X0 : XT) (s1_ : Sl) (i2 : Int) (p3_ : Pt) (i7 : Int) (s8_ : Sl) (i9 : Int) (h : H) : Prop :=
 isPt p3_ (
 ldS (Pt.add p3_ 1) h fun s0 =>
 bif (decide (i9 < (s0.len : Int))) then
 bif (i7 == (0)) then
 qE 11 h fun h1 =>
 ldA p3_ 2 h1 fun cs2 =>
 callS S Zl [.sl s1_] h1 fun s4 h3 =>
(range h3 p3_.o p3_.n p3_.off 2 = range h1 p3_.o p3_.n p3_.off 2) ∧ (
 vE 1 1 [.int .i64 i9] h3 (h.length + 5) fun s5 h6 =>
(range h6 p3_.o p3_.n p3_.off 2 = range h1 p3_.o p3_.n p3_.off 2) ∧ (
 app s4 s5 1 h6 fun s7 h8 =>
(range h8 p3_.o p3_.n p3_.off 2 = range h1 p3_.o p3_.n p3_.off 2) ∧ (
 callS S Qd [.agg cs2, .sl s7, .int .i64 i2] h8 fun s10 h9 =>
 app s8_ s10 1 h9 fun s11 h12 =>
 X0 (vP s1_ i2 p3_ i7 s11 (w64 (i9 + (1)))) h12)))
 else
 isPt p3_ (
 ldS (Pt.add p3_ 1) h fun s13 =>
 ixS s1_ 1 (w64 (i7 - (1))) fun p14 =>
 ldI .i64 p14 h fun n15 =>
 ixS s13 4 n15 fun p16 =>
 ixA p16 4 1 (2) fun p17 =>
 ldI .i64 p17 h fun n18 =>
 isPt p3_ (
 ldS (Pt.add p3_ 1) h fun s19 =>
 ixS s19 4 i9 fun p20 =>
 ixA p20 4 1 (0) fun p21 =>
 ldI .i64 p21 h fun n22 =>
 bif (n18 == n22) then
 qE 11 h fun h23 =>
 ldA p3_ 2 h23 fun cs24 =>
 callS S Zl [.sl s1_] h23 fun s26 h25 =>
(range h25 p3_.o p3_.n p3_.off 2 = range h23 p3_.o p3_.n p3_.off 2) ∧ (
 vE 1 1 [.int .i64 i9] h25 (h.length + 5) fun s27 h28 =>
(range h28 p3_.o p3_.n p3_.off 2 = range h23 p3_.o p3_.n p3_.off 2) ∧ (
 app s26 s27 1 h28 fun s29 h30 =>
(range h30 p3_.o p3_.n p3_.off 2 = range h23 p3_.o p3_.n p3_.off 2) ∧ (
 callS S Qd [.agg cs24, .sl s29, .int .i64 i2] h30 fun s32 h31 =>
 app s8_ s32 1 h31 fun s33 h34 =>
 X0 (vP s1_ i2 p3_ i7 s33 (w64 (i9 + (1)))) h34)))
 else
 X0 (vP s1_ i2 p3_ i7 s8_ (w64 (i9 + (1)))) h))
 else
 zup S K s8_ h)
theorem zlX (S : SatT) (K : KT) (X0 : XT) (s1_ : Sl) (i2 : Int) (p3_ : Pt) (i7 : Int) (s8_ : Sl) (i9 : Int) (h : H) : zun S K X0 (vP s1_ i2 p3_ i7 s8_ i9) h = zin S K X0 s1_ i2 p3_ i7 s8_ i9 h := by kernel_rfl
theorem zlW (S : SatT) (K : KT) (s1_ : Sl) (i2 : Int) (p3_ : Pt) (i7 : Int) (I_ : Sl → Int → H → Prop) (m_ : Sl → Int → H → Nat)
  (hs : ∀ (X0 : XT) (s8_ : Sl) (i9 : Int) (h : H), I_ s8_ i9 h → (∀ (s8_' : Sl) (i9' : Int) (h' : H), I_ s8_' i9' h' → m_ s8_' i9' h' < m_ s8_ i9 h → X0 (vP s1_ i2 p3_ i7 s8_' i9') h') → zin S K X0 s1_ i2 p3_ i7 s8_ i9 h) (s8_ : Sl) (i9 : Int) {h : H} (h0 : I_ s8_ i9 h) : zuo S K s1_ i2 p3_ i7 s8_ i9 h :=
 ze (σ := (Sl) × (Int)) (fun s_ => vP s1_ i2 p3_ i7 (s_.1) (s_.2)) (fun s_ h => I_ (s_.1) (s_.2) h) (fun s_ h => m_ (s_.1) (s_.2) h)
  (fun X s_ h hi hx => (zlX S K X s1_ i2 p3_ i7 (s_.1) (s_.2) h).mpr (hs X (s_.1) (s_.2) h hi fun s8_' i9' h' hi' hm' => hx (s8_', i9') h' hi' hm')) (s8_, i9) h0
def Zp (S : SatT) (K : KT) (x0 : List AVal) (x1 : Sl) (x2 : Int) (h : H) : Prop :=
 newK 2 x0 h fun p0 h1 =>
 bif ((x1.len : Int) == x2) then
 isPt p0 (
 ldS (Pt.add p0 1) h1 fun s2 =>
 ixS x1 1 (w64 ((x1.len : Int) - (1))) fun p3 =>
 ldI .i64 p3 h1 fun n4 =>
 ixS s2 4 n4 fun p5 =>
 ixA p5 4 1 (2) fun p6 =>
 ldI .i64 p6 h1 fun n7 =>
 isPt p0 (
 ldS (Pt.add p0 1) h1 fun s8 =>
 ixS x1 1 (0) fun p9 =>
 ldI .i64 p9 h1 fun n10 =>
 ixS s8 4 n10 fun p11 =>
 ixA p11 4 1 (0) fun p12 =>
 ldI .i64 p12 h1 fun n13 =>
 bif (n7 == n13) then
 newS 1 1 [.sl x1] h1 fun s14 h15 =>
 K (.sl s14) h15
 else
 newS 0 1 [] h1 fun s16 h17 =>
 K (.sl s16) h17))
 else
 newS 0 1 [] h1 fun s18 h19 =>
 zuo S K x1 x2 p0 (x1.len : Int) s18 (0) h19
theorem Vq (S : SatT) (K : KT) (x0 : List AVal) (x1 : Sl) (x2 : Int) (h : H) : cwp S tab QA [] (za Tryz.f119) (kFun tab Tryz.f119.results.toList K) (fr0 Tryz.f119 [.agg x0, .sl x1, .int .i64 x2]) h = Zp S K x0 x1 x2 h := by kernel_rfl
theorem zgi (x0 : List AVal) (x1 : Sl) (x2 : Int) (h : H) (K : Sl → H → Prop) (hm : Zp (Sat Tryz.prog) (fun v h' => ∃ r, v = .sl r ∧ K r h') x0 x1 x2 h) : callS (Sat Tryz.prog) Qd [.agg x0, .sl x1, .int .i64 x2] h K := by
 have := Sat.ex tok mixed QA Tryz.func119 (c := za Tryz.f119) (by kernel_rfl) (zb Tryz.func119 (c := za Tryz.f119) (by kernel_rfl) (by decide)) ((Vq _ _ x0 x1 x2 h).mpr hm)
 obtain ⟨v, h2, h3, r, rfl, h4⟩ := this; exact ⟨r, h2, h3, h4⟩
def Qt : Nat → List Nat := fun i => bif i == 0 then [2, 5, 6, 7] else []
def zyj (S : SatT) (K : KT) : Kont := kSeq (cwp S tab Qt [] (sq Tryz.f160 5 31) (kFun tab (Tryz.f160).results.toList K)) (kFun tab (Tryz.f160).results.toList K)
def XU (p2_ p5_ : Pt) (s6_ : Sl) (i7 : Int) : Frame := (U :: U :: .ptr p2_ :: U :: U :: .ptr p5_ :: .sl s6_ :: .int .i64 i7 :: uu 62 [])
def zsO (S : SatT) (K : KT) : (XT) → XT := fun X fr h => cwp S tab Qt (Qt 0) (sq Tryz.f160 11 1964) (kSeq (fun fr h => X (mask (Qt 0) fr) h) (kBlk 0 (zyj S K))) fr h
def zsQ (S : SatT) (K : KT) (p2_ p5_ : Pt) (s6_ : Sl) (i7 : Int) (h : H) : Prop := zA (zsO S K) (XU p2_ p5_ s6_ i7) h
def zhW (S : SatT) (K : KT) (p2_ p5_ : Pt) (h : H) : Prop :=
 ldA p5_ 2 h fun cs0 =>
 callB S zeV [.agg cs0] h fun b2 h1 =>
 bif (!b2) then
 stN p2_ 2 [.int .i64 (0), .sl Sl.nil] h1 fun h3 =>
 ldA p2_ 2 h3 fun cs4 =>
 K (.tuple [.agg cs4, .bool false]) h3
 else
 ldA p5_ 2 h1 fun cs5 =>
 stN p2_ 2 cs5 h1 fun h6 =>
 ldA p2_ 2 h6 fun cs7 =>
 K (.tuple [.agg cs7, .bool true]) h6
def zhV (S : SatT) (K : KT) (X0 : XT) (p2_ p5_ : Pt) (s6_ : Sl) (i7 : Int) (h : H) : Prop :=
 bif (decide (i7 < (s6_.len : Int))) then
 ixS s6_ 1 i7 fun p0 =>
 ldV p0 h fun v1 =>
 yf v1 fun t2 =>
 bif ((t2.size : Int) != (4)) then
 stN p2_ 2 [.int .i64 (0), .sl Sl.nil] h fun h3 =>
 ldA p2_ 2 h3 fun cs4 =>
 K (.tuple [.agg cs4, .bool false]) h3
 else
 isPt p5_ (
 ldS (Pt.add p5_ 1) h fun s5 =>
 yf v1 fun t6 =>
 Yx t6 (0) fun n7 =>
 yf v1 fun t8 =>
 Yx t8 (1) fun n9 =>
 yf v1 fun t10 =>
 Yx t10 (2) fun n11 =>
 yf v1 fun t12 =>
 Yx t12 (3) fun n13 =>
 lenA [.int .i64 (w64 ((w64 (n7)) - (48))), .int .i64 (w64 ((w64 (n9)) - (48))), .int .i64 (w64 ((w64 (n11)) - (48))), .int .i64 (w64 ((w64 (n13)) - (48)))] 4 (
 newS 1 4 (spl [.int .i64 (0), .int .i64 (0), .int .i64 (0), .int .i64 (0)] 0 4 [.int .i64 (w64 ((w64 (n7)) - (48))), .int .i64 (w64 ((w64 (n9)) - (48))), .int .i64 (w64 ((w64 (n11)) - (48))), .int .i64 (w64 ((w64 (n13)) - (48)))]) h fun s14 h15 =>
(cell h15 (Pt.add p5_ 1) = cell h (Pt.add p5_ 1)) ∧ (
 app s5 s14 4 h15 fun s16 h17 =>
 isPt p5_ (
 st1 (Pt.add p5_ 1) (.sl s16) h17 fun h18 =>
 X0 (XU p2_ p5_ s6_ (w64 (i7 + (1)))) h18))))
 else
 zhW S K p2_ p5_ h
theorem zlr (S : SatT) (K : KT) (X0 : XT) (p2_ p5_ : Pt) (s6_ : Sl) (i7 : Int) (h : H) : zsO S K X0 (XU p2_ p5_ s6_ i7) h = zhV S K X0 p2_ p5_ s6_ i7 h := by kernel_rfl
theorem zlq (S : SatT) (K : KT) (p2_ p5_ : Pt) (s6_ : Sl) (I_ : Int → H → Prop) (m_ : Int → H → Nat)
  (hs : ∀ (X0 : XT) (i7 : Int) (h : H), I_ i7 h → (∀ (i7' : Int) (h' : H), I_ i7' h' → m_ i7' h' < m_ i7 h → X0 (XU p2_ p5_ s6_ i7') h') → zhV S K X0 p2_ p5_ s6_ i7 h) (i7 : Int) {h : H} (h0 : I_ i7 h) : zsQ S K p2_ p5_ s6_ i7 h :=
 ze (σ := (Int)) (fun s_ => XU p2_ p5_ s6_ (s_)) (fun s_ h => I_ (s_) h) (fun s_ h => m_ (s_) h)
  (fun X s_ h hi hx => (zlr S K X p2_ p5_ s6_ (s_) h).mpr (hs X (s_) h hi fun i7' h' hi' hm' => hx (i7') h' hi' hm')) (i7) h0
def XS (S : SatT) (K : KT) (x0 : AVal) (h : H) : Prop :=
 newO [.int .i64 (0), .sl Sl.nil] h fun p0 h1 =>
 callS S zjn [x0, .int .u8 (58)] h1 fun s3 h2 =>
 bif ((s3.len : Int) != (2)) then
 stN p0 2 [.int .i64 (0), .sl Sl.nil] h2 fun h4 =>
 ldA p0 2 h4 fun cs5 =>
 K (.tuple [.agg cs5, .bool false]) h4
 else
 ixS s3 1 (0) fun p6 =>
 ldV p6 h2 fun v7 =>
 callI S .i64 znW [v7] h2 fun n9 h8 =>
 newS 0 4 [] h8 fun s10 h11 =>
 newO [.int .i64 (0), .sl Sl.nil] h11 fun p12 h13 =>
 stN p12 2 [.int .i64 n9, .sl s10] h13 fun h14 =>
 ixS s3 1 (1) fun p15 =>
 ldV p15 h14 fun v16 =>
 zmK v16 (.str ByteArray.empty) fun b17 =>
 bif (!b17) then
 ixS s3 1 (1) fun p18 =>
 ldV p18 h14 fun v19 =>
 callS S zjn [v19, .int .u8 (44)] h14 fun s21 h20 =>
 zsQ S K p0 p12 s21 (0) h20
 else
 ldA p12 2 h14 fun cs22 =>
 callB S zeV [.agg cs22] h14 fun b24 h23 =>
 bif (!b24) then
 stN p0 2 [.int .i64 (0), .sl Sl.nil] h23 fun h25 =>
 ldA p0 2 h25 fun cs26 =>
 K (.tuple [.agg cs26, .bool false]) h25
 else
 ldA p12 2 h23 fun cs27 =>
 stN p0 2 cs27 h23 fun h28 =>
 ldA p0 2 h28 fun cs29 =>
 K (.tuple [.agg cs29, .bool true]) h28
theorem W7 (S : SatT) (K : KT) (x0 : AVal) (h : H) : cwp S tab Qt [] (za Tryz.f160) (kFun tab Tryz.f160.results.toList K) (fr0 Tryz.f160 [x0]) h = XS S K x0 h := by kernel_rfl
theorem zsP (x0 : AVal) (h : H) (K : KT) (hm : XS (Sat Tryz.prog) (fun v h' => K v h') x0 h) : callV (Sat Tryz.prog) zob [x0] h K := by
 have := Sat.ex tok mixed Qt Tryz.func160 (c := za Tryz.f160) (by kernel_rfl) (zb Tryz.func160 (c := za Tryz.f160) (by kernel_rfl) (by decide)) ((W7 _ _ x0 h).mpr hm)
 exact this
def zla : Nat → List Nat := fun i => bif i == 0 then [1, 2, 4, 6, 15, 16, 17] else []
def zDr (S : SatT) (K : KT) : Kont := kSeq (cwp S tab zla [] (sq Tryz.f68 4 15) (kFun tab (Tryz.f68).results.toList K)) (kFun tab (Tryz.f68).results.toList K)
def zfx (f1_ : AVal) (p2_ p4_ : Pt) (s6_ s15_ : Sl) (i16 i17 : Int) : Frame := (U :: f1_ :: .ptr p2_ :: U :: .ptr p4_ :: U :: .sl s6_ :: uu 8 (.sl s15_ :: .int .i64 i16 :: .int .i64 i17 :: uu 16 []))
def zzU (S : SatT) (K : KT) : (XT) → XT := fun X fr h => cwp S tab zla (zla 0) (sq Tryz.f68 7 116) (kSeq (fun fr h => X (mask (zla 0) fr) h) (kBlk 0 (zDr S K))) fr h
def zzV (S : SatT) (K : KT) (f1_ : AVal) (p2_ p4_ : Pt) (s6_ s15_ : Sl) (i16 i17 : Int) (h : H) : Prop := zA (zzU S K) (zfx f1_ p2_ p4_ s6_ s15_ i16 i17) h
def zzW (S : SatT) (K : KT) (p2_ p4_ : Pt) (s6_ : Sl) (h : H) : Prop :=
 isPt p2_ (
 ldI .i64 (Pt.add p2_ 0) h fun n0 =>
 callV S zot [.int .i64 n0, .sl s6_] h fun v2 h1 =>
 viaT v2 fun vs3 =>
 exA vs3 0 fun cs4 =>
 viaT v2 fun vs5 =>
 exI .i64 vs5 1 fun n6 =>
 stN p4_ 2 cs4 h1 fun h7 =>
 ldA p4_ 2 h7 fun cs8 =>
 K (.tuple [.agg cs8, .int .i64 n6]) h7)
def zpy (S : SatT) (K : KT) (X0 : XT) (f1_ : AVal) (p2_ p4_ : Pt) (s6_ s15_ : Sl) (i16 i17 : Int) (h : H) : Prop :=
 bif (decide (i17 < i16)) then
 ixS s15_ 4 i17 fun p0 =>
 ldA p0 4 h fun cs1 =>
 newO [.int .i64 (0), .int .i64 (0), .int .i64 (0), .int .i64 (0)] h fun p2 h3 =>
 stN p2 4 cs1 h3 fun h4 =>
 ldA p2 4 h4 fun cs5 =>
 viaF f1_ [.agg cs5] fun g6 ys7 =>
 callA S g6 ys7 h4 fun cs9 h8 =>
 lenA cs9 4 (
 newS 1 4 (spl [.int .i64 (0), .int .i64 (0), .int .i64 (0), .int .i64 (0)] 0 4 cs9) h8 fun s10 h11 =>
 app s6_ s10 4 h11 fun s12 h13 =>
 X0 (zfx f1_ p2_ p4_ s12 s15_ i16 (w64 (i17 + (1)))) h13)
 else
 zzW S K p2_ p4_ s6_ h
theorem zpx (S : SatT) (K : KT) (X0 : XT) (f1_ : AVal) (p2_ p4_ : Pt) (s6_ s15_ : Sl) (i16 i17 : Int) (h : H) : zzU S K X0 (zfx f1_ p2_ p4_ s6_ s15_ i16 i17) h = zpy S K X0 f1_ p2_ p4_ s6_ s15_ i16 i17 h := by kernel_rfl
theorem zpw (S : SatT) (K : KT) (f1_ : AVal) (p2_ p4_ : Pt) (s15_ : Sl) (i16 : Int) (I_ : Sl → Int → H → Prop) (m_ : Sl → Int → H → Nat)
  (hs : ∀ (X0 : XT) (s6_ : Sl) (i17 : Int) (h : H), I_ s6_ i17 h → (∀ (s6_' : Sl) (i17' : Int) (h' : H), I_ s6_' i17' h' → m_ s6_' i17' h' < m_ s6_ i17 h → X0 (zfx f1_ p2_ p4_ s6_' s15_ i16 i17') h') → zpy S K X0 f1_ p2_ p4_ s6_ s15_ i16 i17 h) (s6_ : Sl) (i17 : Int) {h : H} (h0 : I_ s6_ i17 h) : zzV S K f1_ p2_ p4_ s6_ s15_ i16 i17 h :=
 ze (σ := (Sl) × (Int)) (fun s_ => zfx f1_ p2_ p4_ (s_.1) s15_ i16 (s_.2)) (fun s_ h => I_ (s_.1) (s_.2) h) (fun s_ h => m_ (s_.1) (s_.2) h)
  (fun X s_ h hi hx => (zpx S K X f1_ p2_ p4_ (s_.1) s15_ i16 (s_.2) h).mpr (hs X (s_.1) (s_.2) h hi fun s6_' i17' h' hi' hm' => hx (s6_', i17') h' hi' hm')) (s6_, i17) h0
def zaR (S : SatT) (K : KT) (x0 : List AVal) (x1 : AVal) (h : H) : Prop :=
 newK 2 x0 h fun p0 h1 =>
 newO [.int .i64 (0), .sl Sl.nil] h1 fun p2 h3 =>
 ldA p0 2 h3 fun cs4 =>
 callB S zkL [.agg cs4] h3 fun b6 h5 =>
 bif (!b6) then
 stN p2 2 [.int .i64 (0), .sl Sl.nil] h5 fun h7 =>
 ldA p2 2 h7 fun cs8 =>
 K (.tuple [.agg cs8, .int .i64 (1)]) h7
 else
 newS 0 4 [] h5 fun s9 h10 =>
 isPt p0 (
 ldS (Pt.add p0 1) h10 fun s11 =>
 zzV S K x1 p0 p2 s9 s11 (s11.len : Int) (0) h10)
theorem zaQ (S : SatT) (K : KT) (x0 : List AVal) (x1 : AVal) (h : H) : cwp S tab zla [] (za Tryz.f68) (kFun tab Tryz.f68.results.toList K) (fr0 Tryz.f68 [.agg x0, x1]) h = zaR S K x0 x1 h := by kernel_rfl
theorem zwO (x0 : List AVal) (x1 : AVal) (h : H) (K : KT) (hm : zaR (Sat Tryz.prog) (fun v h' => K v h') x0 x1 h) : callV (Sat Tryz.prog) zCP [.agg x0, x1] h K := by
 have := Sat.ex tok mixed zla Tryz.func68 (c := za Tryz.f68) (by kernel_rfl) (zb Tryz.func68 (c := za Tryz.f68) (by kernel_rfl) (by decide)) ((zaQ _ _ x0 x1 h).mpr hm)
 exact this
def Qu : Nat → List Nat := fun i => bif i == 0 then [0, 1, 9, 10, 11] else []
def zyl (S : SatT) (K : KT) : Kont := kSeq (cwp S tab Qu [] (sq Tryz.f148 2 3) (kFun tab (Tryz.f148).results.toList K)) (kFun tab (Tryz.f148).results.toList K)
def X8 (s0_ s1_ s9_ : Sl) (i10 i11 : Int) : Frame := (.sl s0_ :: .sl s1_ :: uu 7 (.sl s9_ :: .int .i64 i10 :: .int .i64 i11 :: uu 24 []))
def ztc (S : SatT) (K : KT) : (XT) → XT := fun X fr h => cwp S tab Qu (Qu 0) (sq Tryz.f148 5 20) (kSeq (fun fr h => X (mask (Qu 0) fr) h) (kBlk 0 (zyl S K))) fr h
def zte (S : SatT) (K : KT) (s0_ s1_ s9_ : Sl) (i10 i11 : Int) (h : H) : Prop := zA (ztc S K) (X8 s0_ s1_ s9_ i10 i11) h
def ztf (S : SatT) (K : KT) (s0_ s1_ : Sl) (h : H) : Prop :=
 bif (decide ((s0_.len : Int) < (s1_.len : Int))) then
 K (.int .i64 (-1)) h
 else
 K (.int .i64 (0)) h
def zhZ (S : SatT) (K : KT) (X0 : XT) (s0_ s1_ s9_ : Sl) (i10 i11 : Int) (h : H) : Prop :=
 bif (decide (i11 < i10)) then
 ixS s9_ 1 i11 fun p0 =>
 ldI .i64 p0 h fun n1 =>
 bif (decide (i11 ≥ (s1_.len : Int))) then
 K (.int .i64 (1)) h
 else
 ixS s1_ 1 i11 fun p2 =>
 ldI .i64 p2 h fun n3 =>
 callI S .i64 znY [.int .i64 n1, .int .i64 n3] h fun n5 h4 =>
 bif (n5 != (0)) then
 K (.int .i64 n5) h4
 else
 X0 (X8 s0_ s1_ s9_ i10 (w64 (i11 + (1)))) h4
 else
 ztf S K s0_ s1_ h
theorem zlx (S : SatT) (K : KT) (X0 : XT) (s0_ s1_ s9_ : Sl) (i10 i11 : Int) (h : H) : ztc S K X0 (X8 s0_ s1_ s9_ i10 i11) h = zhZ S K X0 s0_ s1_ s9_ i10 i11 h := by kernel_rfl
theorem zlw (S : SatT) (K : KT) (s0_ s1_ s9_ : Sl) (i10 : Int) (I_ : Int → H → Prop) (m_ : Int → H → Nat)
  (hs : ∀ (X0 : XT) (i11 : Int) (h : H), I_ i11 h → (∀ (i11' : Int) (h' : H), I_ i11' h' → m_ i11' h' < m_ i11 h → X0 (X8 s0_ s1_ s9_ i10 i11') h') → zhZ S K X0 s0_ s1_ s9_ i10 i11 h) (i11 : Int) {h : H} (h0 : I_ i11 h) : zte S K s0_ s1_ s9_ i10 i11 h :=
 ze (σ := (Int)) (fun s_ => X8 s0_ s1_ s9_ i10 (s_)) (fun s_ h => I_ (s_) h) (fun s_ h => m_ (s_) h)
  (fun X s_ h hi hx => (zlx S K X s0_ s1_ s9_ i10 (s_) h).mpr (hs X (s_) h hi fun i11' h' hi' hm' => hx (i11') h' hi' hm')) (i11) h0
def X1 (S : SatT) (K : KT) (x0 x1 : Sl) (h : H) : Prop :=
 zte S K x0 x1 x0 (x0.len : Int) (0) h
theorem Vb (S : SatT) (K : KT) (x0 x1 : Sl) (h : H) : cwp S tab Qu [] (za Tryz.f148) (kFun tab Tryz.f148.results.toList K) (fr0 Tryz.f148 [.sl x0, .sl x1]) h = X1 S K x0 x1 h := by kernel_rfl
theorem ztd (x0 x1 : Sl) (h : H) (K : Int → H → Prop) (hm : X1 (Sat Tryz.prog) (fun v h' => ∃ r, v = .int .i64 r ∧ K r h') x0 x1 h) : callI (Sat Tryz.prog) .i64 zof [.sl x0, .sl x1] h K := by
 have := Sat.ex tok mixed Qu Tryz.func148 (c := za Tryz.f148) (by kernel_rfl) (zb Tryz.func148 (c := za Tryz.f148) (by kernel_rfl) (by decide)) ((Vb _ _ x0 x1 h).mpr hm)
 obtain ⟨v, h2, h3, r, rfl, h4⟩ := this; exact ⟨r, h2, h3, h4⟩
def Qv : Nat → List Nat := fun i => bif i == 0 then [0, 1, 5, 6] else []
def zym (S : SatT) (K : KT) : Kont := kSeq (cwp S tab Qv [] (sq Tryz.f144 3 7) (kFun tab (Tryz.f144).results.toList K)) (kFun tab (Tryz.f144).results.toList K)
def We (p0_ : Pt) (i1 : Int) (s5_ : Sl) (i6 : Int) : Frame := (.ptr p0_ :: .int .i64 i1 :: U :: U :: U :: .sl s5_ :: .int .i64 i6 :: uu 23 [])
def ztj (S : SatT) (K : KT) : (XT) → XT := fun X fr h => cwp S tab Qv (Qv 0) (sq Tryz.f144 6 52) (kSeq (fun fr h => X (mask (Qv 0) fr) h) (kBlk 0 (zym S K))) fr h
def ztl (S : SatT) (K : KT) (p0_ : Pt) (i1 : Int) (s5_ : Sl) (i6 : Int) (h : H) : Prop := zA (ztj S K) (We p0_ i1 s5_ i6) h
def zFy (S : SatT) (K : KT) (s5_ : Sl) (h : H) : Prop :=
 K (.sl s5_) h
def zia (S : SatT) (K : KT) (X0 : XT) (p0_ : Pt) (i1 : Int) (s5_ : Sl) (i6 : Int) (h : H) : Prop :=
 bif (decide (i6 < i1)) then
 callI S .i64 ym [.ptr p0_, .int .i64 (w64 (i6 + (1)))] h fun n1 h0 =>
 qE 12 h0 fun h2 =>
 cut s5_ 1 (0) n1 h2 fun s3 =>
 callS S Zl [.sl s3] h2 fun s5 h4 =>
 cut s5_ 1 n1 (s5_.len : Int) h4 fun s6 =>
 okS h2 s5_ ∧ (
 vE 1 1 [.int .i64 i6] h4 (h0.length + 5) fun s7 h8 =>
 okS h4 s5_ ∧ (
 okS h8 s5_ ∧ (
 okS h8 s5_ ∧ (
 app s5 s7 1 h8 fun s9 h10 =>
 okS h10 s5_ ∧ (
 app s9 s6 1 h10 fun s11 h12 =>
 X0 (We p0_ i1 s11 (w64 (i6 + (1)))) h12)))))
 else
 zFy S K s5_ h
theorem zlz (S : SatT) (K : KT) (X0 : XT) (p0_ : Pt) (i1 : Int) (s5_ : Sl) (i6 : Int) (h : H) : ztj S K X0 (We p0_ i1 s5_ i6) h = zia S K X0 p0_ i1 s5_ i6 h := by kernel_rfl
theorem zly (S : SatT) (K : KT) (p0_ : Pt) (i1 : Int) (I_ : Sl → Int → H → Prop) (m_ : Sl → Int → H → Nat)
  (hs : ∀ (X0 : XT) (s5_ : Sl) (i6 : Int) (h : H), I_ s5_ i6 h → (∀ (s5_' : Sl) (i6' : Int) (h' : H), I_ s5_' i6' h' → m_ s5_' i6' h' < m_ s5_ i6 h → X0 (We p0_ i1 s5_' i6') h') → zia S K X0 p0_ i1 s5_ i6 h) (s5_ : Sl) (i6 : Int) {h : H} (h0 : I_ s5_ i6 h) : ztl S K p0_ i1 s5_ i6 h :=
 ze (σ := (Sl) × (Int)) (fun s_ => We p0_ i1 (s_.1) (s_.2)) (fun s_ h => I_ (s_.1) (s_.2) h) (fun s_ h => m_ (s_.1) (s_.2) h)
  (fun X s_ h hi hx => (zlz S K X p0_ i1 (s_.1) (s_.2) h).mpr (hs X (s_.1) (s_.2) h hi fun s5_' i6' h' hi' hm' => hx (s5_', i6') h' hi' hm')) (s5_, i6) h0
def Wc (S : SatT) (K : KT) (x0 : Pt) (x1 : Int) (h : H) : Prop :=
 newS 0 1 [] h fun s0 h1 =>
 ztl S K x0 x1 s0 (0) h1
theorem Vf (S : SatT) (K : KT) (x0 : Pt) (x1 : Int) (h : H) : cwp S tab Qv [] (za Tryz.f144) (kFun tab Tryz.f144.results.toList K) (fr0 Tryz.f144 [.ptr x0, .int .i64 x1]) h = Wc S K x0 x1 h := by kernel_rfl
theorem ztk (x0 : Pt) (x1 : Int) (h : H) (K : Sl → H → Prop) (hm : Wc (Sat Tryz.prog) (fun v h' => ∃ r, v = .sl r ∧ K r h') x0 x1 h) : callS (Sat Tryz.prog) zoi [.ptr x0, .int .i64 x1] h K := by
 have := Sat.ex tok mixed Qv Tryz.func144 (c := za Tryz.f144) (by kernel_rfl) (zb Tryz.func144 (c := za Tryz.f144) (by kernel_rfl) (by decide)) ((Vf _ _ x0 x1 h).mpr hm)
 obtain ⟨v, h2, h3, r, rfl, h4⟩ := this; exact ⟨r, h2, h3, h4⟩
def zkS : Nat → List Nat := fun i => bif i == 0 then [1, 2, 5] else []
def zDf (S : SatT) (K : KT) : Kont := kSeq (cwp S tab zkS [] (sq Tryz.f85 2 3) (kFun tab (Tryz.f85).results.toList K)) (kFun tab (Tryz.f85).results.toList K)
def zfh (s1_ : Sl) (p2_ : Pt) (i5 : Int) : Frame := (U :: .sl s1_ :: .ptr p2_ :: U :: U :: .int .i64 i5 :: uu 35 [])
def zze (S : SatT) (K : KT) : (XT) → XT := fun X fr h => cwp S tab zkS (zkS 0) (sq Tryz.f85 5 20) (kSeq (fun fr h => X (mask (zkS 0) fr) h) (kBlk 0 (zDf S K))) fr h
def zzf (S : SatT) (K : KT) (s1_ : Sl) (p2_ : Pt) (i5 : Int) (h : H) : Prop := zA (zze S K) (zfh s1_ p2_ i5) h
def zzg (S : SatT) (K : KT) (h : H) : Prop :=
 K (.bool true) h
def zoG (S : SatT) (K : KT) (X0 : XT) (s1_ : Sl) (p2_ : Pt) (i5 : Int) (h : H) : Prop :=
 bif (decide (i5 < (s1_.len : Int))) then
 isPt p2_ (
 ldS (Pt.add p2_ 1) h fun s0 =>
 ixS s1_ 1 i5 fun p1 =>
 ldS p1 h fun s2 =>
 ixS s1_ 1 i5 fun p3 =>
 ldS p3 h fun s4 =>
 ixS s2 1 (w64 ((s4.len : Int) - (1))) fun p5 =>
 ldI .i64 p5 h fun n6 =>
 ixS s0 4 n6 fun p7 =>
 ixA p7 4 1 (2) fun p8 =>
 ldI .i64 p8 h fun n9 =>
 isPt p2_ (
 ldS (Pt.add p2_ 1) h fun s10 =>
 ixS s1_ 1 i5 fun p11 =>
 ldS p11 h fun s12 =>
 ixS s12 1 (0) fun p13 =>
 ldI .i64 p13 h fun n14 =>
 ixS s10 4 n14 fun p15 =>
 ixA p15 4 1 (0) fun p16 =>
 ldI .i64 p16 h fun n17 =>
 bif (n9 != n17) then
 K (.bool false) h
 else
 X0 (zfh s1_ p2_ (w64 (i5 + (1)))) h))
 else
 zzg S K h
theorem zoF (S : SatT) (K : KT) (X0 : XT) (s1_ : Sl) (p2_ : Pt) (i5 : Int) (h : H) : zze S K X0 (zfh s1_ p2_ i5) h = zoG S K X0 s1_ p2_ i5 h := by kernel_rfl
theorem zoE (S : SatT) (K : KT) (s1_ : Sl) (p2_ : Pt) (I_ : Int → H → Prop) (m_ : Int → H → Nat)
  (hs : ∀ (X0 : XT) (i5 : Int) (h : H), I_ i5 h → (∀ (i5' : Int) (h' : H), I_ i5' h' → m_ i5' h' < m_ i5 h → X0 (zfh s1_ p2_ i5') h') → zoG S K X0 s1_ p2_ i5 h) (i5 : Int) {h : H} (h0 : I_ i5 h) : zzf S K s1_ p2_ i5 h :=
 ze (σ := (Int)) (fun s_ => zfh s1_ p2_ (s_)) (fun s_ h => I_ (s_) h) (fun s_ h => m_ (s_) h)
  (fun X s_ h hi hx => (zoF S K X s1_ p2_ (s_) h).mpr (hs X (s_) h hi fun i5' h' hi' hm' => hx (i5') h' hi' hm')) (i5) h0
def zaj (S : SatT) (K : KT) (x0 : List AVal) (x1 : Sl) (h : H) : Prop :=
 newK 2 x0 h fun p0 h1 =>
 zzf S K x1 p0 (0) h1
theorem zai (S : SatT) (K : KT) (x0 : List AVal) (x1 : Sl) (h : H) : cwp S tab zkS [] (za Tryz.f85) (kFun tab Tryz.f85.results.toList K) (fr0 Tryz.f85 [.agg x0, .sl x1]) h = zaj S K x0 x1 h := by kernel_rfl
theorem zww (x0 : List AVal) (x1 : Sl) (h : H) (K : Bool → H → Prop) (hm : zaj (Sat Tryz.prog) (fun v h' => ∃ r, v = .bool r ∧ K r h') x0 x1 h) : callB (Sat Tryz.prog) zwe [.agg x0, .sl x1] h K := by
 have := Sat.ex tok mixed zkS Tryz.func85 (c := za Tryz.f85) (by kernel_rfl) (zb Tryz.func85 (c := za Tryz.f85) (by kernel_rfl) (by decide)) ((zai _ _ x0 x1 h).mpr hm)
 obtain ⟨v, h2, h3, r, rfl, h4⟩ := this; exact ⟨r, h2, h3, h4⟩
def QC : Nat → List Nat := fun i => bif i == 0 then [0, 3, 5] else []
def zyz (S : SatT) (K : KT) : Kont := kSeq (cwp S tab QC [] (sq Tryz.f117 2 3) (kFun tab (Tryz.f117).results.toList K)) (kFun tab (Tryz.f117).results.toList K)
def WA (i0 : Int) (p3_ : Pt) (i5 : Int) : Frame := (.int .i64 i0 :: U :: U :: .ptr p3_ :: U :: .int .i64 i5 :: uu 11 [])
def zuu (S : SatT) (K : KT) : (XT) → XT := fun X fr h => cwp S tab QC (QC 0) (sq Tryz.f117 5 20) (kSeq (fun fr h => X (mask (QC 0) fr) h) (kBlk 0 (zyz S K))) fr h
def zuw (S : SatT) (K : KT) (i0 : Int) (p3_ : Pt) (i5 : Int) (h : H) : Prop := zA (zuu S K) (WA i0 p3_ i5) h
def zux (S : SatT) (K : KT) (h : H) : Prop :=
 K (.bool true) h
def ziq (S : SatT) (K : KT) (X0 : XT) (i0 : Int) (p3_ : Pt) (i5 : Int) (h : H) : Prop :=
 bif (decide (i5 < (4))) then
 ixA p3_ 4 1 i5 fun p0 =>
 ldI .i64 p0 h fun n1 =>
 callB S zeU [.int .i64 n1, .int .i64 (0), .int .i64 (w64 (i0 - (1)))] h fun b3 h2 =>
 bif (!b3) then
 K (.bool false) h2
 else
 X0 (WA i0 p3_ (w64 (i5 + (1)))) h2
 else
 zux S K h
theorem zmb (S : SatT) (K : KT) (X0 : XT) (i0 : Int) (p3_ : Pt) (i5 : Int) (h : H) : zuu S K X0 (WA i0 p3_ i5) h = ziq S K X0 i0 p3_ i5 h := by kernel_rfl
theorem zma (S : SatT) (K : KT) (i0 : Int) (p3_ : Pt) (I_ : Int → H → Prop) (m_ : Int → H → Nat)
  (hs : ∀ (X0 : XT) (i5 : Int) (h : H), I_ i5 h → (∀ (i5' : Int) (h' : H), I_ i5' h' → m_ i5' h' < m_ i5 h → X0 (WA i0 p3_ i5') h') → ziq S K X0 i0 p3_ i5 h) (i5 : Int) {h : H} (h0 : I_ i5 h) : zuw S K i0 p3_ i5 h :=
 ze (σ := (Int)) (fun s_ => WA i0 p3_ (s_)) (fun s_ h => I_ (s_) h) (fun s_ h => m_ (s_) h)
  (fun X s_ h hi hx => (zmb S K X i0 p3_ (s_) h).mpr (hs X (s_) h hi fun i5' h' hi' hm' => hx (i5') h' hi' hm')) (i5) h0
def Wz (S : SatT) (K : KT) (x0 : Int) (x1 : List AVal) (h : H) : Prop :=
 newK 4 x1 h fun p0 h1 =>
 zuw S K x0 p0 (0) h1
theorem Vs (S : SatT) (K : KT) (x0 : Int) (x1 : List AVal) (h : H) : cwp S tab QC [] (za Tryz.f117) (kFun tab Tryz.f117.results.toList K) (fr0 Tryz.f117 [.int .i64 x0, .agg x1]) h = Wz S K x0 x1 h := by kernel_rfl
theorem zuv (x0 : Int) (x1 : List AVal) (h : H) (K : Bool → H → Prop) (hm : Wz (Sat Tryz.prog) (fun v h' => ∃ r, v = .bool r ∧ K r h') x0 x1 h) : callB (Sat Tryz.prog) zoq [.int .i64 x0, .agg x1] h K := by
 have := Sat.ex tok mixed QC Tryz.func117 (c := za Tryz.f117) (by kernel_rfl) (zb Tryz.func117 (c := za Tryz.f117) (by kernel_rfl) (by decide)) ((Vs _ _ x0 x1 h).mpr hm)
 obtain ⟨v, h2, h3, r, rfl, h4⟩ := this; exact ⟨r, h2, h3, h4⟩
def zGq : Nat → List Nat := fun i => []
def zaB (S : SatT) (K : KT) (x0 : Pt) (x1 : Int) (h : H) : Prop :=
 bif (decide (x1 < (1))) then
 K (.int .i64 (0)) h
 else
 nilC (.ptr x0) (
 isPt x0 (
 ldI .u64 (Pt.add x0 2) h fun n0 =>
 nilC (.ptr x0) (
 isPt x0 (
 st1 (Pt.add x0 2) (.int .u64 (IntKind.wrap .u64 ((IntKind.wrap .u64 (n0 * (6364136223846793005))) + (1442695040888963407)))) h fun h1 =>
 nilC (.ptr x0) (
 isPt x0 (
 ldI .u64 (Pt.add x0 2) h1 fun n2 =>
 nn (33) (
 nilC (.ptr x0) (
 isPt x0 (
 ldI .i64 (Pt.add x0 1) h1 fun n3 =>
 nilC (.ptr x0) (
 isPt x0 (
 ldS (Pt.add x0 0) h1 fun s4 =>
 bif (decide (n3 < (s4.len : Int))) then
 nilC (.ptr x0) (
 isPt x0 (
 ldS (Pt.add x0 0) h1 fun s5 =>
 nilC (.ptr x0) (
 isPt x0 (
 ldI .i64 (Pt.add x0 1) h1 fun n6 =>
 ixS s5 1 n6 fun p7 =>
 ldI .u8 p7 h1 fun n8 =>
 nilC (.ptr x0) (
 isPt x0 (
 ldI .i64 (Pt.add x0 1) h1 fun n9 =>
 nilC (.ptr x0) (
 isPt x0 (
 st1 (Pt.add x0 1) (.int .i64 (w64 (n9 + (1)))) h1 fun h10 =>
 nz x1 (
 K (.int .i64 (Int.tmod (w64 ((w64 ((vm .and .u64 (shrI .u64 n2 (33)) (16777215)))) + (w64 (n8)))) x1)) h10)))))))))
 else
 nz x1 (
 K (.int .i64 (Int.tmod (w64 ((vm .and .u64 (shrI .u64 n2 (33)) (16777215)))) x1)) h1))))))))))))
theorem zaA (S : SatT) (K : KT) (x0 : Pt) (x1 : Int) (h : H) : cwp S tab zGq [] (za Tryz.f76) (kFun tab Tryz.f76.results.toList K) (fr0 Tryz.f76 [.ptr x0, .int .i64 x1]) h = zaB S K x0 x1 h := by kernel_rfl
theorem zwG (x0 : Pt) (x1 : Int) (h : H) (K : Int → H → Prop) (hm : zaB (Sat Tryz.prog) (fun v h' => ∃ r, v = .int .i64 r ∧ K r h') x0 x1 h) : callI (Sat Tryz.prog) .i64 ym [.ptr x0, .int .i64 x1] h K := by
 have := Sat.ex tok mixed zGq Tryz.func76 (c := za Tryz.f76) (by kernel_rfl) (zb Tryz.func76 (c := za Tryz.f76) (by kernel_rfl) (by decide)) ((zaA _ _ x0 x1 h).mpr hm)
 obtain ⟨v, h2, h3, r, rfl, h4⟩ := this; exact ⟨r, h2, h3, h4⟩
def zCg : Nat → List Nat := fun i => []
def WM (S : SatT) (K : KT) (x0 : List AVal) (x1 x2 : Int) (x3 : AVal) (h : H) : Prop :=
 newK 2 x0 h fun p0 h1 =>
 bif (AVal.isCell x3 && true) then
 newO [x3] h1 fun p2 h3 =>
 mkS (w64 (x1 * x2)) [.int .i64 (0)] h3 fun s4 h5 =>
 newO [.sl Sl.nil] h5 fun p6 h7 =>
 newO [.int .i64 (0)] h7 fun p8 h9 =>
 newO [.int .i64 (0)] h9 fun p10 h11 =>
 st1 p6 (.sl s4) h11 fun h12 =>
 st1 p8 (.int .i64 x1) h12 fun h13 =>
 st1 p10 (.int .i64 x2) h13 fun h14 =>
 newO [.nilFunc] h14 fun p15 h16 =>
 st1 p15 (.func 139 [.ptr p6, .ptr p8, .ptr p10, .ptr p2, .ptr p0, .ptr p15]) h16 fun h17 =>
 ldV p15 h17 fun v18 =>
 viaF v18 [.int .i64 (0)] fun g19 ys20 =>
 callB S g19 ys20 h17 fun b22 h21 =>
 K (.tuple []) h21
 else False
theorem VG (S : SatT) (K : KT) (x0 : List AVal) (x1 x2 : Int) (x3 : AVal) (h : H) : cwp S tab zCg [] (za Tryz.f104) (kFun tab Tryz.f104.results.toList K) (fr0 Tryz.f104 [.agg x0, .int .i64 x1, .int .i64 x2, x3]) h = WM S K x0 x1 x2 x3 h := by kernel_rfl
theorem zuN (x0 : List AVal) (x1 x2 : Int) (x3 : AVal) (h : H) (K : KT) (hm : WM (Sat Tryz.prog) (fun v h' => K v h') x0 x1 x2 x3 h) : callV (Sat Tryz.prog) zjs [.agg x0, .int .i64 x1, .int .i64 x2, x3] h K := by
 have := Sat.ex tok mixed zCg Tryz.func104 (c := za Tryz.f104) (by kernel_rfl) (zb Tryz.func104 (c := za Tryz.f104) (by kernel_rfl) (by decide)) ((VG _ _ x0 x1 x2 x3 h).mpr hm)
 exact this
def zGD : Nat → List Nat := fun i => []
def YO (S : SatT) (K : KT) (x0 : List AVal) (x1 x2 x3 : Int) (h : H) : Prop :=
 newK 2 x0 h fun p0 h1 =>
 ldA p0 2 h1 fun cs2 =>
 callB S zeV [.agg cs2] h1 fun b4 h3 =>
 bif (!b4) then
 K (.int .i64 (1)) h3
 else
 callB S zeU [.int .i64 x1, .int .i64 (1), .int .i64 x3] h3 fun b6 h5 =>
 bif (!b6) then
 K (.int .i64 (2)) h5
 else
 callB S zeU [.int .i64 x2, .int .i64 (1), .int .i64 (3)] h5 fun b8 h7 =>
 bif (!b8) then
 K (.int .i64 (2)) h7
 else
 K (.int .i64 (0)) h7
theorem zbx (S : SatT) (K : KT) (x0 : List AVal) (x1 x2 x3 : Int) (h : H) : cwp S tab zGD [] (za Tryz.f52) (kFun tab Tryz.f52.results.toList K) (fr0 Tryz.f52 [.agg x0, .int .i64 x1, .int .i64 x2, .int .i64 x3]) h = YO S K x0 x1 x2 x3 h := by kernel_rfl
theorem zjG (x0 : List AVal) (x1 x2 x3 : Int) (h : H) (K : Int → H → Prop) (hm : YO (Sat Tryz.prog) (fun v h' => ∃ r, v = .int .i64 r ∧ K r h') x0 x1 x2 x3 h) : callI (Sat Tryz.prog) .i64 zkN [.agg x0, .int .i64 x1, .int .i64 x2, .int .i64 x3] h K := by
 have := Sat.ex tok mixed zGD Tryz.func52 (c := za Tryz.f52) (by kernel_rfl) (zb Tryz.func52 (c := za Tryz.f52) (by kernel_rfl) (by decide)) ((zbx _ _ x0 x1 x2 x3 h).mpr hm)
 obtain ⟨v, h2, h3, r, rfl, h4⟩ := this; exact ⟨r, h2, h3, h4⟩
def f7_M : Nat → List Nat := fun i => []
def zhr (S : SatT) (K : KT) (x0 : List AVal) (x1 x2 : Int) (h : H) : Prop :=
 newK 2 x0 h fun p0 h1 =>
 newO [.int .i64 x1] h1 fun p2 h3 =>
 newO [.int .i64 x2] h3 fun p4 h5 =>
 ldA p0 2 h5 fun cs6 =>
 callI S .i64 zeX [.agg cs6, .func 54 [.ptr p2, .ptr p4]] h5 fun n8 h7 =>
 bif (n8 != (0)) then
 K (.tuple [.int .i64 (0), .int .i64 n8]) h7
 else
 ldA p0 2 h7 fun cs9 =>
 ldI .i64 p2 h7 fun n10 =>
 ldI .i64 p4 h7 fun n11 =>
 callI S .i64 znN [.agg cs9, .int .i64 n10, .int .i64 n11] h7 fun n13 h12 =>
 K (.tuple [.int .i64 n13, .int .i64 (0)]) h12
theorem zfm (S : SatT) (K : KT) (x0 : List AVal) (x1 x2 : Int) (h : H) : cwp S tab f7_M [] (za Tryz.f9) (kFun tab Tryz.f9.results.toList K) (fr0 Tryz.f9 [.agg x0, .int .i64 x1, .int .i64 x2]) h = zhr S K x0 x1 x2 h := by kernel_rfl
theorem zDi (x0 : List AVal) (x1 x2 : Int) (h : H) (K : KT) (hm : zhr (Sat Tryz.prog) (fun v h' => K v h') x0 x1 x2 h) : callV (Sat Tryz.prog) i_f7 [.agg x0, .int .i64 x1, .int .i64 x2] h K := by
 have := Sat.ex tok mixed f7_M Tryz.func9 (c := za Tryz.f9) (by kernel_rfl) (zb Tryz.func9 (c := za Tryz.f9) (by kernel_rfl) (by decide)) ((zfm _ _ x0 x1 x2 h).mpr hm)
 exact this
def zGJ : Nat → List Nat := fun i => []
def zbL (S : SatT) (K : KT) (x0 : List AVal) (x1 : Sl) (h : H) : Prop :=
 newK 2 x0 h fun p0 h1 =>
 ldA p0 2 h1 fun cs2 =>
 callI S .i64 zwg [.agg cs2, .sl x1] h1 fun n4 h3 =>
 bif (n4 != (0)) then
 K (.tuple [.bool false, .int .i64 n4]) h3
 else
 ldA p0 2 h3 fun cs5 =>
 callB S zwf [.agg cs5, .sl x1] h3 fun b7 h6 =>
 bif b7 then
 ldA p0 2 h6 fun cs8 =>
 callB S zwe [.agg cs8, .sl x1] h6 fun b10 h9 =>
 K (.tuple [.bool b10, .int .i64 (0)]) h9
 else
 K (.tuple [.bool false, .int .i64 (0)]) h6
theorem zbK (S : SatT) (K : KT) (x0 : List AVal) (x1 : Sl) (h : H) : cwp S tab zGJ [] (za Tryz.f27) (kFun tab Tryz.f27.results.toList K) (fr0 Tryz.f27 [.agg x0, .sl x1]) h = zbL S K x0 x1 h := by kernel_rfl
theorem zxl (x0 : List AVal) (x1 : Sl) (h : H) (K : KT) (hm : zbL (Sat Tryz.prog) (fun v h' => K v h') x0 x1 h) : callV (Sat Tryz.prog) znP [.agg x0, .sl x1] h K := by
 have := Sat.ex tok mixed zGJ Tryz.func27 (c := za Tryz.f27) (by kernel_rfl) (zb Tryz.func27 (c := za Tryz.f27) (by kernel_rfl) (by decide)) ((zbK _ _ x0 x1 h).mpr hm)
 exact this
def zGx : Nat → List Nat := fun i => []
def zaZ (S : SatT) (K : KT) (x0 x1 : Pt) (h : H) : Prop :=
 ldI .i64 x0 h fun n0 =>
 callB S WX [.int .i64 n0, .int .i64 (1), .int .i64 (5)] h fun b2 h1 =>
 bif b2 then
 ldI .i64 x1 h1 fun n3 =>
 callB S WX [.int .i64 n3, .int .i64 (1), .int .i64 (3)] h1 fun b5 h4 =>
 K (.bool b5) h4
 else
 K (.bool false) h1
theorem zaY (S : SatT) (K : KT) (x0 x1 : Pt) (h : H) : cwp S tab zGx [] (za Tryz.f64) (kFun tab Tryz.f64.results.toList K) (fr0 Tryz.f64 [.ptr x0, .ptr x1]) h = zaZ S K x0 x1 h := by kernel_rfl
theorem zwS (x0 x1 : Pt) (h : H) (K : Bool → H → Prop) (hm : zaZ (Sat Tryz.prog) (fun v h' => ∃ r, v = .bool r ∧ K r h') x0 x1 h) : callB (Sat Tryz.prog) zHR [.ptr x0, .ptr x1] h K := by
 have := Sat.ex tok mixed zGx Tryz.func64 (c := za Tryz.f64) (by kernel_rfl) (zb Tryz.func64 (c := za Tryz.f64) (by kernel_rfl) (by decide)) ((zaY _ _ x0 x1 h).mpr hm)
 obtain ⟨v, h2, h3, r, rfl, h4⟩ := this; exact ⟨r, h2, h3, h4⟩
def zGu : Nat → List Nat := fun i => []
def zaP (S : SatT) (K : KT) (x0 : List AVal) (h : H) : Prop :=
 newK 4 x0 h fun p0 h1 =>
 newO [.int .i64 (0), .int .i64 (0), .int .i64 (0), .int .i64 (0)] h1 fun p2 h3 =>
 ldA p0 4 h3 fun cs4 =>
 callA S zCN [.agg cs4, .int .i64 (2), .int .i64 (1), .int .i64 (0), .int .i64 (3)] h3 fun cs6 h5 =>
 stN p2 4 cs6 h5 fun h7 =>
 ldA p2 4 h7 fun cs8 =>
 K (.agg cs8) h7
theorem zaO (S : SatT) (K : KT) (x0 : List AVal) (h : H) : cwp S tab zGu [] (za Tryz.f69) (kFun tab Tryz.f69.results.toList K) (fr0 Tryz.f69 [.agg x0]) h = zaP S K x0 h := by kernel_rfl
theorem zwN (x0 : List AVal) (h : H) (K : List AVal → H → Prop) (hm : zaP (Sat Tryz.prog) (fun v h' => ∃ r, v = .agg r ∧ K r h') x0 h) : callA (Sat Tryz.prog) zCO [.agg x0] h K := by
 have := Sat.ex tok mixed zGu Tryz.func69 (c := za Tryz.f69) (by kernel_rfl) (zb Tryz.func69 (c := za Tryz.f69) (by kernel_rfl) (by decide)) ((zaO _ _ x0 h).mpr hm)
 obtain ⟨v, h2, h3, r, rfl, h4⟩ := this; exact ⟨r, h2, h3, h4⟩
def zBF : Nat → List Nat := fun i => []
def XZ (S : SatT) (K : KT) (x0 x1 : AVal) (h : H) : Prop :=
 callS S znX [x0] h fun s1 h0 =>
 callV S zeY [.sl s1, x1] h0 fun v3 h2 =>
 K (.sl s1) h2
theorem Va (S : SatT) (K : KT) (x0 x1 : AVal) (h : H) : cwp S tab zBF [] (za Tryz.f157) (kFun tab Tryz.f157.results.toList K) (fr0 Tryz.f157 [x0, x1]) h = XZ S K x0 x1 h := by kernel_rfl
theorem ztb (x0 x1 : AVal) (h : H) (K : Sl → H → Prop) (hm : XZ (Sat Tryz.prog) (fun v h' => ∃ r, v = .sl r ∧ K r h') x0 x1 h) : callS (Sat Tryz.prog) zoe [x0, x1] h K := by
 have := Sat.ex tok mixed zBF Tryz.func157 (c := za Tryz.f157) (by kernel_rfl) (zb Tryz.func157 (c := za Tryz.f157) (by kernel_rfl) (by decide)) ((Va _ _ x0 x1 h).mpr hm)
 obtain ⟨v, h2, h3, r, rfl, h4⟩ := this; exact ⟨r, h2, h3, h4⟩
def zCc : Nat → List Nat := fun i => []
def WJ (S : SatT) (K : KT) (x0 : List AVal) (x1 : Int) (h : H) : Prop :=
 newK 2 x0 h fun p0 h1 =>
 isPt p0 (
 ldS (Pt.add p0 1) h1 fun s2 =>
 callB S WX [.int .i64 x1, .int .i64 (0), .int .i64 (w64 ((s2.len : Int) - (1)))] h1 fun b4 h3 =>
 K (.bool b4) h3)
theorem VB (S : SatT) (K : KT) (x0 : List AVal) (x1 : Int) (h : H) : cwp S tab zCc [] (za Tryz.f108) (kFun tab Tryz.f108.results.toList K) (fr0 Tryz.f108 [.agg x0, .int .i64 x1]) h = WJ S K x0 x1 h := by kernel_rfl
theorem zuK (x0 : List AVal) (x1 : Int) (h : H) (K : Bool → H → Prop) (hm : WJ (Sat Tryz.prog) (fun v h' => ∃ r, v = .bool r ∧ K r h') x0 x1 h) : callB (Sat Tryz.prog) zow [.agg x0, .int .i64 x1] h K := by
 have := Sat.ex tok mixed zCc Tryz.func108 (c := za Tryz.f108) (by kernel_rfl) (zb Tryz.func108 (c := za Tryz.f108) (by kernel_rfl) (by decide)) ((VB _ _ x0 x1 h).mpr hm)
 obtain ⟨v, h2, h3, r, rfl, h4⟩ := this; exact ⟨r, h2, h3, h4⟩
def zGG : Nat → List Nat := fun i => []
def zbD (S : SatT) (K : KT) (x0 x1 : Pt) (h : H) : Prop :=
 ldI .i64 x0 h fun n0 =>
 ldI .i64 x1 h fun n1 =>
 callB S zwm [.int .i64 n0, .int .i64 n1] h fun b3 h2 =>
 K (.bool b3) h2
theorem zbC (S : SatT) (K : KT) (x0 x1 : Pt) (h : H) : cwp S tab zGG [] (za Tryz.f49) (kFun tab Tryz.f49.results.toList K) (fr0 Tryz.f49 [.ptr x0, .ptr x1]) h = zbD S K x0 x1 h := by kernel_rfl
theorem zxh (x0 x1 : Pt) (h : H) (K : Bool → H → Prop) (hm : zbD (Sat Tryz.prog) (fun v h' => ∃ r, v = .bool r ∧ K r h') x0 x1 h) : callB (Sat Tryz.prog) zHW [.ptr x0, .ptr x1] h K := by
 have := Sat.ex tok mixed zGG Tryz.func49 (c := za Tryz.f49) (by kernel_rfl) (zb Tryz.func49 (c := za Tryz.f49) (by kernel_rfl) (by decide)) ((zbC _ _ x0 x1 h).mpr hm)
 obtain ⟨v, h2, h3, r, rfl, h4⟩ := this; exact ⟨r, h2, h3, h4⟩
def zGn : Nat → List Nat := fun i => []
def zaf (S : SatT) (K : KT) (x0 x1 x2 : Int) (h : H) : Prop :=
 bif (decide (x0 ≥ x1)) then
 K (.bool (decide (x0 ≤ x2))) h
 else
 K (.bool false) h
theorem zae (S : SatT) (K : KT) (x0 x1 x2 : Int) (h : H) : cwp S tab zGn [] (za Tryz.f97) (kFun tab Tryz.f97.results.toList K) (fr0 Tryz.f97 [.int .i64 x0, .int .i64 x1, .int .i64 x2]) h = zaf S K x0 x1 x2 h := by kernel_rfl
theorem zwu (x0 x1 x2 : Int) (h : H) (K : Bool → H → Prop) (hm : zaf (Sat Tryz.prog) (fun v h' => ∃ r, v = .bool r ∧ K r h') x0 x1 x2 h) : callB (Sat Tryz.prog) zeU [.int .i64 x0, .int .i64 x1, .int .i64 x2] h K := by
 have := Sat.ex tok mixed zGn Tryz.func97 (c := za Tryz.f97) (by kernel_rfl) (zb Tryz.func97 (c := za Tryz.f97) (by kernel_rfl) (by decide)) ((zae _ _ x0 x1 x2 h).mpr hm)
 obtain ⟨v, h2, h3, r, rfl, h4⟩ := this; exact ⟨r, h2, h3, h4⟩
def zGp : Nat → List Nat := fun i => []
def zaz (S : SatT) (K : KT) (x0 : Pt) (x1 : Sl) (h : H) : Prop :=
 callI S .i64 ym [.ptr x0, .int .i64 (x1.len : Int)] h fun n1 h0 =>
 ixS x1 1 n1 fun p2 =>
 ldI .i64 p2 h0 fun n3 =>
 K (.int .i64 n3) h0
theorem zay (S : SatT) (K : KT) (x0 : Pt) (x1 : Sl) (h : H) : cwp S tab zGp [] (za Tryz.f77) (kFun tab Tryz.f77.results.toList K) (fr0 Tryz.f77 [.ptr x0, .sl x1]) h = zaz S K x0 x1 h := by kernel_rfl
theorem zwF (x0 : Pt) (x1 : Sl) (h : H) (K : Int → H → Prop) (hm : zaz (Sat Tryz.prog) (fun v h' => ∃ r, v = .int .i64 r ∧ K r h') x0 x1 h) : callI (Sat Tryz.prog) .i64 qv [.ptr x0, .sl x1] h K := by
 have := Sat.ex tok mixed zGp Tryz.func77 (c := za Tryz.f77) (by kernel_rfl) (zb Tryz.func77 (c := za Tryz.f77) (by kernel_rfl) (by decide)) ((zay _ _ x0 x1 h).mpr hm)
 obtain ⟨v, h2, h3, r, rfl, h4⟩ := this; exact ⟨r, h2, h3, h4⟩
def zBB : Nat → List Nat := fun i => []
def XI (S : SatT) (K : KT) (x0 : Int) (h : H) : Prop :=
 K (.bool (x0 != x0)) h
theorem WY (S : SatT) (K : KT) (x0 : Int) (h : H) : cwp S tab zBB [] (za Tryz.f171) (kFun tab Tryz.f171.results.toList K) (fr0 Tryz.f171 [.int .i64 x0]) h = XI S K x0 h := by kernel_rfl
theorem zsw (x0 : Int) (h : H) (K : Bool → H → Prop) (hm : XI (Sat Tryz.prog) (fun v h' => ∃ r, v = .bool r ∧ K r h') x0 h) : callB (Sat Tryz.prog) zjm [.int .i64 x0] h K := by
 have := Sat.ex tok mixed zBB Tryz.func171 (c := za Tryz.f171) (by kernel_rfl) (zb Tryz.func171 (c := za Tryz.f171) (by kernel_rfl) (by decide)) ((WY _ _ x0 h).mpr hm)
 obtain ⟨v, h2, h3, r, rfl, h4⟩ := this; exact ⟨r, h2, h3, h4⟩
def vN : Nat → List Nat := fun i => bif i == 2 then [0, 1, 2, 3, 5, 6, 11, 12, 48, 49, 50] else bif i == 0 then [1, 3, 4, 9, 20, 21] else []
def zjX (S : SatT) (K : KT) : Kont := kSeq (cwp S tab vN [] (sq Tryz.f139 2 3) (kFun tab (Tryz.f139).results.toList K)) (kFun tab (Tryz.f139).results.toList K)
def zyr (S : SatT) (K : KT) : Kont := kSeq (cwp S tab vN [] (sq Tryz.f139 6 43) (zjX S K)) (zjX S K)
def Wl (p1_ p3_ p4_ : Pt) (s9_ : Sl) (i20 i21 : Int) : Frame := (U :: .ptr p1_ :: U :: .ptr p3_ :: .ptr p4_ :: uu 4 (.sl s9_ :: uu 10 (.int .i64 i20 :: .int .i64 i21 :: uu 120 [])))
def ztF (S : SatT) (K : KT) : (XT) → XT := fun X fr h => cwp S tab vN (vN 0) (sq Tryz.f139 9 340) (kSeq (fun fr h => X (mask (vN 0) fr) h) (kBlk 0 (zyr S K))) fr h
def ztI (S : SatT) (K : KT) (p1_ p3_ p4_ : Pt) (s9_ : Sl) (i20 i21 : Int) (h : H) : Prop := zA (ztF S K) (Wl p1_ p3_ p4_ s9_ i20 i21) h
def ztK (S : SatT) (K : KT) (p4_ : Pt) (s9_ : Sl) (h : H) : Prop :=
 ldV p4_ h fun v0 =>
 viaF v0 [.sl s9_] fun g1 ys2 =>
 callB S g1 ys2 h fun b4 h3 =>
 K (.bool b4) h3
def zie (S : SatT) (K : KT) (X0 : XT) (p1_ p3_ p4_ : Pt) (s9_ : Sl) (i20 i21 : Int) (h : H) : Prop :=
 bif (decide (i21 < i20)) then
 ldS p1_ h fun s0 =>
 ldI .i64 p3_ h fun n1 =>
 ldI .i64 p3_ h fun n2 =>
 cut s0 1 (w64 (i21 * n1)) (w64 ((w64 (i21 + (1))) * n2)) h fun s3 =>
 callS S zoo [.sl s3] h fun s5 h4 =>
 newS 1 1 [.sl s5] h4 fun s6 h7 =>
 app s9_ s6 1 h7 fun s8 h9 =>
 X0 (Wl p1_ p3_ p4_ s8 i20 (w64 (i21 + (1)))) h9
 else
 ztK S K p4_ s9_ h
theorem zlH (S : SatT) (K : KT) (X0 : XT) (p1_ p3_ p4_ : Pt) (s9_ : Sl) (i20 i21 : Int) (h : H) : ztF S K X0 (Wl p1_ p3_ p4_ s9_ i20 i21) h = zie S K X0 p1_ p3_ p4_ s9_ i20 i21 h := by kernel_rfl
theorem zlF (S : SatT) (K : KT) (p1_ p3_ p4_ : Pt) (i20 : Int) (I_ : Sl → Int → H → Prop) (m_ : Sl → Int → H → Nat)
  (hs : ∀ (X0 : XT) (s9_ : Sl) (i21 : Int) (h : H), I_ s9_ i21 h → (∀ (s9_' : Sl) (i21' : Int) (h' : H), I_ s9_' i21' h' → m_ s9_' i21' h' < m_ s9_ i21 h → X0 (Wl p1_ p3_ p4_ s9_' i20 i21') h') → zie S K X0 p1_ p3_ p4_ s9_ i20 i21 h) (s9_ : Sl) (i21 : Int) {h : H} (h0 : I_ s9_ i21 h) : ztI S K p1_ p3_ p4_ s9_ i20 i21 h :=
 ze (σ := (Sl) × (Int)) (fun s_ => Wl p1_ p3_ p4_ (s_.1) i20 (s_.2)) (fun s_ h => I_ (s_.1) (s_.2) h) (fun s_ h => m_ (s_.1) (s_.2) h)
  (fun X s_ h hi hx => (zlH S K X p1_ p3_ p4_ (s_.1) i20 (s_.2) h).mpr (hs X (s_.1) (s_.2) h hi fun s9_' i21' h' hi' hm' => hx (s9_', i21') h' hi' hm')) (s9_, i21) h0
def ztG (S : SatT) (K : KT) : Kont := kSeq (cwp S tab vN [] (sq Tryz.f139 4 15) (kFun tab (Tryz.f139).results.toList K)) (kFun tab (Tryz.f139).results.toList K)
def zB (i0 : Int) (p1_ p2_ : Pt) (p3_ p5_ p6_ : Pt) (i11 i12 : Int) (s48_ : Sl) (i49 i50 : Int) : Frame := (.int .i64 i0 :: .ptr p1_ :: .ptr p2_ :: .ptr p3_ :: U :: .ptr p5_ :: .ptr p6_ :: uu 4 (.int .i64 i11 :: .int .i64 i12 :: uu 35 (.sl s48_ :: .int .i64 i49 :: .int .i64 i50 :: uu 91 [])))
def ztE (S : SatT) (K : KT) : (XT) → XT := fun X fr h => cwp S tab vN (vN 2) (sq Tryz.f139 7 116) (kSeq (fun fr h => X (mask (vN 2) fr) h) (kBlk 2 (ztG S K))) fr h
def ztH (S : SatT) (K : KT) (i0 : Int) (p1_ p2_ : Pt) (p3_ p5_ p6_ : Pt) (i11 i12 : Int) (s48_ : Sl) (i49 i50 : Int) (h : H) : Prop := zA (ztE S K) (zB i0 p1_ p2_ p3_ p5_ p6_ i11 i12 s48_ i49 i50) h
def ztJ (S : SatT) (K : KT) (h : H) : Prop :=
 K (.bool true) h
def zid (S : SatT) (K : KT) (X2 : XT) (i0 : Int) (p1_ p2_ : Pt) (p3_ p5_ p6_ : Pt) (i11 i12 : Int) (s48_ : Sl) (i49 i50 : Int) (h : H) : Prop :=
 bif (decide (i50 < i49)) then
 ixS s48_ 4 i50 fun p0 =>
 ldA p0 4 h fun cs1 =>
 newO [.int .i64 (0), .int .i64 (0), .int .i64 (0), .int .i64 (0)] h fun p2 h3 =>
 stN p2 4 cs1 h3 fun h4 =>
 ldS p1_ h4 fun s5 =>
 ixS s5 1 i0 fun p6 =>
 st1 p6 (.int .i64 i50) h4 fun h7 =>
 bif (decide (i12 > (0))) then
 isPt p5_ (
 ldS (Pt.add p5_ 1) h7 fun s8 =>
 ldS p1_ h7 fun s9 =>
 ixS s9 1 (w64 (i0 - (1))) fun p10 =>
 ldI .i64 p10 h7 fun n11 =>
 ixS s8 4 n11 fun p12 =>
 ixA p12 4 1 (2) fun p13 =>
 ldI .i64 p13 h7 fun n14 =>
 ixA p2 4 1 (0) fun p15 =>
 ldI .i64 p15 h7 fun n16 =>
 bif (n14 != n16) then
 X2 (zB i0 p1_ p2_ p3_ p5_ p6_ i11 i12 s48_ i49 (w64 (i50 + (1)))) h7
 else
 ldI .i64 p3_ h7 fun n17 =>
 bif (i12 == (w64 (n17 - (1)))) then
 isPt p5_ (
 ldS (Pt.add p5_ 1) h7 fun s18 =>
 ldS p1_ h7 fun s19 =>
 ldI .i64 p3_ h7 fun n20 =>
 ixS s19 1 (w64 (i11 * n20)) fun p21 =>
 ldI .i64 p21 h7 fun n22 =>
 ixS s18 4 n22 fun p23 =>
 ixA p23 4 1 (0) fun p24 =>
 ldI .i64 p24 h7 fun n25 =>
 ixA p2 4 1 (2) fun p26 =>
 ldI .i64 p26 h7 fun n27 =>
 bif (n25 != n27) then
 X2 (zB i0 p1_ p2_ p3_ p5_ p6_ i11 i12 s48_ i49 (w64 (i50 + (1)))) h7
 else
 bif (decide (i11 > (0))) then
 isPt p5_ (
 ldS (Pt.add p5_ 1) h7 fun s28 =>
 ldS p1_ h7 fun s29 =>
 ldI .i64 p3_ h7 fun n30 =>
 ixS s29 1 (w64 (i0 - n30)) fun p31 =>
 ldI .i64 p31 h7 fun n32 =>
 ixS s28 4 n32 fun p33 =>
 ixA p33 4 1 (3) fun p34 =>
 ldI .i64 p34 h7 fun n35 =>
 ixA p2 4 1 (1) fun p36 =>
 ldI .i64 p36 h7 fun n37 =>
 bif (n35 != n37) then
 X2 (zB i0 p1_ p2_ p3_ p5_ p6_ i11 i12 s48_ i49 (w64 (i50 + (1)))) h7
 else
 ldI .i64 p2_ h7 fun n38 =>
 bif (i11 == (w64 (n38 - (1)))) then
 isPt p5_ (
 ldS (Pt.add p5_ 1) h7 fun s39 =>
 ldS p1_ h7 fun s40 =>
 ixS s40 1 i12 fun p41 =>
 ldI .i64 p41 h7 fun n42 =>
 ixS s39 4 n42 fun p43 =>
 ixA p43 4 1 (1) fun p44 =>
 ldI .i64 p44 h7 fun n45 =>
 ixA p2 4 1 (3) fun p46 =>
 ldI .i64 p46 h7 fun n47 =>
 bif (n45 != n47) then
 X2 (zB i0 p1_ p2_ p3_ p5_ p6_ i11 i12 s48_ i49 (w64 (i50 + (1)))) h7
 else
 ldV p6_ h7 fun v48 =>
 viaF v48 [.int .i64 (w64 (i0 + (1)))] fun g49 ys50 =>
 callB S g49 ys50 h7 fun b52 h51 =>
 bif (!b52) then
 K (.bool false) h51
 else
 X2 (zB i0 p1_ p2_ p3_ p5_ p6_ i11 i12 s48_ i49 (w64 (i50 + (1)))) h51)
 else
 ldV p6_ h7 fun v53 =>
 viaF v53 [.int .i64 (w64 (i0 + (1)))] fun g54 ys55 =>
 callB S g54 ys55 h7 fun b57 h56 =>
 bif (!b57) then
 K (.bool false) h56
 else
 X2 (zB i0 p1_ p2_ p3_ p5_ p6_ i11 i12 s48_ i49 (w64 (i50 + (1)))) h56)
 else
 ldI .i64 p2_ h7 fun n58 =>
 bif (i11 == (w64 (n58 - (1)))) then
 isPt p5_ (
 ldS (Pt.add p5_ 1) h7 fun s59 =>
 ldS p1_ h7 fun s60 =>
 ixS s60 1 i12 fun p61 =>
 ldI .i64 p61 h7 fun n62 =>
 ixS s59 4 n62 fun p63 =>
 ixA p63 4 1 (1) fun p64 =>
 ldI .i64 p64 h7 fun n65 =>
 ixA p2 4 1 (3) fun p66 =>
 ldI .i64 p66 h7 fun n67 =>
 bif (n65 != n67) then
 X2 (zB i0 p1_ p2_ p3_ p5_ p6_ i11 i12 s48_ i49 (w64 (i50 + (1)))) h7
 else
 ldV p6_ h7 fun v68 =>
 viaF v68 [.int .i64 (w64 (i0 + (1)))] fun g69 ys70 =>
 callB S g69 ys70 h7 fun b72 h71 =>
 bif (!b72) then
 K (.bool false) h71
 else
 X2 (zB i0 p1_ p2_ p3_ p5_ p6_ i11 i12 s48_ i49 (w64 (i50 + (1)))) h71)
 else
 ldV p6_ h7 fun v73 =>
 viaF v73 [.int .i64 (w64 (i0 + (1)))] fun g74 ys75 =>
 callB S g74 ys75 h7 fun b77 h76 =>
 bif (!b77) then
 K (.bool false) h76
 else
 X2 (zB i0 p1_ p2_ p3_ p5_ p6_ i11 i12 s48_ i49 (w64 (i50 + (1)))) h76)
 else
 bif (decide (i11 > (0))) then
 isPt p5_ (
 ldS (Pt.add p5_ 1) h7 fun s78 =>
 ldS p1_ h7 fun s79 =>
 ldI .i64 p3_ h7 fun n80 =>
 ixS s79 1 (w64 (i0 - n80)) fun p81 =>
 ldI .i64 p81 h7 fun n82 =>
 ixS s78 4 n82 fun p83 =>
 ixA p83 4 1 (3) fun p84 =>
 ldI .i64 p84 h7 fun n85 =>
 ixA p2 4 1 (1) fun p86 =>
 ldI .i64 p86 h7 fun n87 =>
 bif (n85 != n87) then
 X2 (zB i0 p1_ p2_ p3_ p5_ p6_ i11 i12 s48_ i49 (w64 (i50 + (1)))) h7
 else
 ldI .i64 p2_ h7 fun n88 =>
 bif (i11 == (w64 (n88 - (1)))) then
 isPt p5_ (
 ldS (Pt.add p5_ 1) h7 fun s89 =>
 ldS p1_ h7 fun s90 =>
 ixS s90 1 i12 fun p91 =>
 ldI .i64 p91 h7 fun n92 =>
 ixS s89 4 n92 fun p93 =>
 ixA p93 4 1 (1) fun p94 =>
 ldI .i64 p94 h7 fun n95 =>
 ixA p2 4 1 (3) fun p96 =>
 ldI .i64 p96 h7 fun n97 =>
 bif (n95 != n97) then
 X2 (zB i0 p1_ p2_ p3_ p5_ p6_ i11 i12 s48_ i49 (w64 (i50 + (1)))) h7
 else
 ldV p6_ h7 fun v98 =>
 viaF v98 [.int .i64 (w64 (i0 + (1)))] fun g99 ys100 =>
 callB S g99 ys100 h7 fun b102 h101 =>
 bif (!b102) then
 K (.bool false) h101
 else
 X2 (zB i0 p1_ p2_ p3_ p5_ p6_ i11 i12 s48_ i49 (w64 (i50 + (1)))) h101)
 else
 ldV p6_ h7 fun v103 =>
 viaF v103 [.int .i64 (w64 (i0 + (1)))] fun g104 ys105 =>
 callB S g104 ys105 h7 fun b107 h106 =>
 bif (!b107) then
 K (.bool false) h106
 else
 X2 (zB i0 p1_ p2_ p3_ p5_ p6_ i11 i12 s48_ i49 (w64 (i50 + (1)))) h106)
 else
 ldI .i64 p2_ h7 fun n108 =>
 bif (i11 == (w64 (n108 - (1)))) then
 isPt p5_ (
 ldS (Pt.add p5_ 1) h7 fun s109 =>
 ldS p1_ h7 fun s110 =>
 ixS s110 1 i12 fun p111 =>
 ldI .i64 p111 h7 fun n112 =>
 ixS s109 4 n112 fun p113 =>
 ixA p113 4 1 (1) fun p114 =>
 ldI .i64 p114 h7 fun n115 =>
 ixA p2 4 1 (3) fun p116 =>
 ldI .i64 p116 h7 fun n117 =>
 bif (n115 != n117) then
 X2 (zB i0 p1_ p2_ p3_ p5_ p6_ i11 i12 s48_ i49 (w64 (i50 + (1)))) h7
 else
 ldV p6_ h7 fun v118 =>
 viaF v118 [.int .i64 (w64 (i0 + (1)))] fun g119 ys120 =>
 callB S g119 ys120 h7 fun b122 h121 =>
 bif (!b122) then
 K (.bool false) h121
 else
 X2 (zB i0 p1_ p2_ p3_ p5_ p6_ i11 i12 s48_ i49 (w64 (i50 + (1)))) h121)
 else
 ldV p6_ h7 fun v123 =>
 viaF v123 [.int .i64 (w64 (i0 + (1)))] fun g124 ys125 =>
 callB S g124 ys125 h7 fun b127 h126 =>
 bif (!b127) then
 K (.bool false) h126
 else
 X2 (zB i0 p1_ p2_ p3_ p5_ p6_ i11 i12 s48_ i49 (w64 (i50 + (1)))) h126)
 else
 ldI .i64 p3_ h7 fun n128 =>
 bif (i12 == (w64 (n128 - (1)))) then
 isPt p5_ (
 ldS (Pt.add p5_ 1) h7 fun s129 =>
 ldS p1_ h7 fun s130 =>
 ldI .i64 p3_ h7 fun n131 =>
 ixS s130 1 (w64 (i11 * n131)) fun p132 =>
 ldI .i64 p132 h7 fun n133 =>
 ixS s129 4 n133 fun p134 =>
 ixA p134 4 1 (0) fun p135 =>
 ldI .i64 p135 h7 fun n136 =>
 ixA p2 4 1 (2) fun p137 =>
 ldI .i64 p137 h7 fun n138 =>
 bif (n136 != n138) then
 X2 (zB i0 p1_ p2_ p3_ p5_ p6_ i11 i12 s48_ i49 (w64 (i50 + (1)))) h7
 else
 bif (decide (i11 > (0))) then
 isPt p5_ (
 ldS (Pt.add p5_ 1) h7 fun s139 =>
 ldS p1_ h7 fun s140 =>
 ldI .i64 p3_ h7 fun n141 =>
 ixS s140 1 (w64 (i0 - n141)) fun p142 =>
 ldI .i64 p142 h7 fun n143 =>
 ixS s139 4 n143 fun p144 =>
 ixA p144 4 1 (3) fun p145 =>
 ldI .i64 p145 h7 fun n146 =>
 ixA p2 4 1 (1) fun p147 =>
 ldI .i64 p147 h7 fun n148 =>
 bif (n146 != n148) then
 X2 (zB i0 p1_ p2_ p3_ p5_ p6_ i11 i12 s48_ i49 (w64 (i50 + (1)))) h7
 else
 ldI .i64 p2_ h7 fun n149 =>
 bif (i11 == (w64 (n149 - (1)))) then
 isPt p5_ (
 ldS (Pt.add p5_ 1) h7 fun s150 =>
 ldS p1_ h7 fun s151 =>
 ixS s151 1 i12 fun p152 =>
 ldI .i64 p152 h7 fun n153 =>
 ixS s150 4 n153 fun p154 =>
 ixA p154 4 1 (1) fun p155 =>
 ldI .i64 p155 h7 fun n156 =>
 ixA p2 4 1 (3) fun p157 =>
 ldI .i64 p157 h7 fun n158 =>
 bif (n156 != n158) then
 X2 (zB i0 p1_ p2_ p3_ p5_ p6_ i11 i12 s48_ i49 (w64 (i50 + (1)))) h7
 else
 ldV p6_ h7 fun v159 =>
 viaF v159 [.int .i64 (w64 (i0 + (1)))] fun g160 ys161 =>
 callB S g160 ys161 h7 fun b163 h162 =>
 bif (!b163) then
 K (.bool false) h162
 else
 X2 (zB i0 p1_ p2_ p3_ p5_ p6_ i11 i12 s48_ i49 (w64 (i50 + (1)))) h162)
 else
 ldV p6_ h7 fun v164 =>
 viaF v164 [.int .i64 (w64 (i0 + (1)))] fun g165 ys166 =>
 callB S g165 ys166 h7 fun b168 h167 =>
 bif (!b168) then
 K (.bool false) h167
 else
 X2 (zB i0 p1_ p2_ p3_ p5_ p6_ i11 i12 s48_ i49 (w64 (i50 + (1)))) h167)
 else
 ldI .i64 p2_ h7 fun n169 =>
 bif (i11 == (w64 (n169 - (1)))) then
 isPt p5_ (
 ldS (Pt.add p5_ 1) h7 fun s170 =>
 ldS p1_ h7 fun s171 =>
 ixS s171 1 i12 fun p172 =>
 ldI .i64 p172 h7 fun n173 =>
 ixS s170 4 n173 fun p174 =>
 ixA p174 4 1 (1) fun p175 =>
 ldI .i64 p175 h7 fun n176 =>
 ixA p2 4 1 (3) fun p177 =>
 ldI .i64 p177 h7 fun n178 =>
 bif (n176 != n178) then
 X2 (zB i0 p1_ p2_ p3_ p5_ p6_ i11 i12 s48_ i49 (w64 (i50 + (1)))) h7
 else
 ldV p6_ h7 fun v179 =>
 viaF v179 [.int .i64 (w64 (i0 + (1)))] fun g180 ys181 =>
 callB S g180 ys181 h7 fun b183 h182 =>
 bif (!b183) then
 K (.bool false) h182
 else
 X2 (zB i0 p1_ p2_ p3_ p5_ p6_ i11 i12 s48_ i49 (w64 (i50 + (1)))) h182)
 else
 ldV p6_ h7 fun v184 =>
 viaF v184 [.int .i64 (w64 (i0 + (1)))] fun g185 ys186 =>
 callB S g185 ys186 h7 fun b188 h187 =>
 bif (!b188) then
 K (.bool false) h187
 else
 X2 (zB i0 p1_ p2_ p3_ p5_ p6_ i11 i12 s48_ i49 (w64 (i50 + (1)))) h187)
 else
 bif (decide (i11 > (0))) then
 isPt p5_ (
 ldS (Pt.add p5_ 1) h7 fun s189 =>
 ldS p1_ h7 fun s190 =>
 ldI .i64 p3_ h7 fun n191 =>
 ixS s190 1 (w64 (i0 - n191)) fun p192 =>
 ldI .i64 p192 h7 fun n193 =>
 ixS s189 4 n193 fun p194 =>
 ixA p194 4 1 (3) fun p195 =>
 ldI .i64 p195 h7 fun n196 =>
 ixA p2 4 1 (1) fun p197 =>
 ldI .i64 p197 h7 fun n198 =>
 bif (n196 != n198) then
 X2 (zB i0 p1_ p2_ p3_ p5_ p6_ i11 i12 s48_ i49 (w64 (i50 + (1)))) h7
 else
 ldI .i64 p2_ h7 fun n199 =>
 bif (i11 == (w64 (n199 - (1)))) then
 isPt p5_ (
 ldS (Pt.add p5_ 1) h7 fun s200 =>
 ldS p1_ h7 fun s201 =>
 ixS s201 1 i12 fun p202 =>
 ldI .i64 p202 h7 fun n203 =>
 ixS s200 4 n203 fun p204 =>
 ixA p204 4 1 (1) fun p205 =>
 ldI .i64 p205 h7 fun n206 =>
 ixA p2 4 1 (3) fun p207 =>
 ldI .i64 p207 h7 fun n208 =>
 bif (n206 != n208) then
 X2 (zB i0 p1_ p2_ p3_ p5_ p6_ i11 i12 s48_ i49 (w64 (i50 + (1)))) h7
 else
 ldV p6_ h7 fun v209 =>
 viaF v209 [.int .i64 (w64 (i0 + (1)))] fun g210 ys211 =>
 callB S g210 ys211 h7 fun b213 h212 =>
 bif (!b213) then
 K (.bool false) h212
 else
 X2 (zB i0 p1_ p2_ p3_ p5_ p6_ i11 i12 s48_ i49 (w64 (i50 + (1)))) h212)
 else
 ldV p6_ h7 fun v214 =>
 viaF v214 [.int .i64 (w64 (i0 + (1)))] fun g215 ys216 =>
 callB S g215 ys216 h7 fun b218 h217 =>
 bif (!b218) then
 K (.bool false) h217
 else
 X2 (zB i0 p1_ p2_ p3_ p5_ p6_ i11 i12 s48_ i49 (w64 (i50 + (1)))) h217)
 else
 ldI .i64 p2_ h7 fun n219 =>
 bif (i11 == (w64 (n219 - (1)))) then
 isPt p5_ (
 ldS (Pt.add p5_ 1) h7 fun s220 =>
 ldS p1_ h7 fun s221 =>
 ixS s221 1 i12 fun p222 =>
 ldI .i64 p222 h7 fun n223 =>
 ixS s220 4 n223 fun p224 =>
 ixA p224 4 1 (1) fun p225 =>
 ldI .i64 p225 h7 fun n226 =>
 ixA p2 4 1 (3) fun p227 =>
 ldI .i64 p227 h7 fun n228 =>
 bif (n226 != n228) then
 X2 (zB i0 p1_ p2_ p3_ p5_ p6_ i11 i12 s48_ i49 (w64 (i50 + (1)))) h7
 else
 ldV p6_ h7 fun v229 =>
 viaF v229 [.int .i64 (w64 (i0 + (1)))] fun g230 ys231 =>
 callB S g230 ys231 h7 fun b233 h232 =>
 bif (!b233) then
 K (.bool false) h232
 else
 X2 (zB i0 p1_ p2_ p3_ p5_ p6_ i11 i12 s48_ i49 (w64 (i50 + (1)))) h232)
 else
 ldV p6_ h7 fun v234 =>
 viaF v234 [.int .i64 (w64 (i0 + (1)))] fun g235 ys236 =>
 callB S g235 ys236 h7 fun b238 h237 =>
 bif (!b238) then
 K (.bool false) h237
 else
 X2 (zB i0 p1_ p2_ p3_ p5_ p6_ i11 i12 s48_ i49 (w64 (i50 + (1)))) h237
 else
 ztJ S K h
theorem zlG (S : SatT) (K : KT) (X2 : XT) (i0 : Int) (p1_ p2_ : Pt) (p3_ p5_ p6_ : Pt) (i11 i12 : Int) (s48_ : Sl) (i49 i50 : Int) (h : H) : ztE S K X2 (zB i0 p1_ p2_ p3_ p5_ p6_ i11 i12 s48_ i49 i50) h = zid S K X2 i0 p1_ p2_ p3_ p5_ p6_ i11 i12 s48_ i49 i50 h := by kernel_rfl
theorem zlE (S : SatT) (K : KT) (i0 : Int) (p1_ p2_ : Pt) (p3_ p5_ p6_ : Pt) (i11 i12 : Int) (s48_ : Sl) (i49 : Int) (I_ : Int → H → Prop) (m_ : Int → H → Nat)
  (hs : ∀ (X2 : XT) (i50 : Int) (h : H), I_ i50 h → (∀ (i50' : Int) (h' : H), I_ i50' h' → m_ i50' h' < m_ i50 h → X2 (zB i0 p1_ p2_ p3_ p5_ p6_ i11 i12 s48_ i49 i50') h') → zid S K X2 i0 p1_ p2_ p3_ p5_ p6_ i11 i12 s48_ i49 i50 h) (i50 : Int) {h : H} (h0 : I_ i50 h) : ztH S K i0 p1_ p2_ p3_ p5_ p6_ i11 i12 s48_ i49 i50 h :=
 ze (σ := (Int)) (fun s_ => zB i0 p1_ p2_ p3_ p5_ p6_ i11 i12 s48_ i49 (s_)) (fun s_ h => I_ (s_) h) (fun s_ h => m_ (s_) h)
  (fun X s_ h hi hx => (zlG S K X i0 p1_ p2_ p3_ p5_ p6_ i11 i12 s48_ i49 (s_) h).mpr (hs X (s_) h hi fun i50' h' hi' hm' => hx (i50') h' hi' hm')) (i50) h0
def Zo (S : SatT) (K : KT) (x0 : Int) (x1 x2 : Pt) (x3 x4 : Pt) (x5 x6 : Pt) (h : H) : Prop :=
 ldS x1 h fun s0 =>
 bif (x0 == (s0.len : Int)) then
 newS 0 1 [] h fun s1 h2 =>
 ldI .i64 x2 h2 fun n3 =>
 ztI S K x1 x3 x4 s1 n3 (0) h2
 else
 ldI .i64 x3 h fun n4 =>
 nz n4 (
 ldI .i64 x3 h fun n5 =>
 nz n5 (
 isPt x5 (
 ldS (Pt.add x5 1) h fun s6 =>
 ztH S K x0 x1 x2 x3 x5 x6 (w64 (Int.tdiv x0 n4)) (Int.tmod x0 n5) s6 (s6.len : Int) (0) h)))
theorem Vk (S : SatT) (K : KT) (x0 : Int) (x1 x2 : Pt) (x3 x4 : Pt) (x5 x6 : Pt) (h : H) : cwp S tab vN [] (za Tryz.f139) (kFun tab Tryz.f139.results.toList K) (fr0 Tryz.f139 [.int .i64 x0, .ptr x1, .ptr x2, .ptr x3, .ptr x4, .ptr x5, .ptr x6]) h = Zo S K x0 x1 x2 x3 x4 x5 x6 h := by kernel_rfl
theorem zgg (x0 : Int) (x1 x2 : Pt) (x3 x4 : Pt) (x5 x6 : Pt) (h : H) (K : Bool → H → Prop) (hm : Zo (Sat Tryz.prog) (fun v h' => ∃ r, v = .bool r ∧ K r h') x0 x1 x2 x3 x4 x5 x6 h) : callB (Sat Tryz.prog) zon [.int .i64 x0, .ptr x1, .ptr x2, .ptr x3, .ptr x4, .ptr x5, .ptr x6] h K := by
 have := Sat.ex tok mixed vN Tryz.func139 (c := za Tryz.f139) (by kernel_rfl) (zb Tryz.func139 (c := za Tryz.f139) (by kernel_rfl) (by decide)) ((Vk _ _ x0 x1 x2 x3 x4 x5 x6 h).mpr hm)
 obtain ⟨v, h2, h3, r, rfl, h4⟩ := this; exact ⟨r, h2, h3, h4⟩
def xS : Nat → List Nat := fun i => bif i == 2 then [0, 3, 4, 5] else bif i == 0 then [0, 3] else []
def zdE (S : SatT) (K : KT) : Kont := kSeq (cwp S tab xS [] (sq Tryz.f159 3 7) (kFun tab (Tryz.f159).results.toList K)) (kFun tab (Tryz.f159).results.toList K)
def XW (s0_ : Sl) (i3 : Int) : Frame := (.sl s0_ :: U :: U :: .int .i64 i3 :: uu 57 [])
def zsS (S : SatT) (K : KT) : (XT) → XT := fun X fr h => cwp S tab xS (xS 0) (sq Tryz.f159 6 52) (kSeq (fun fr h => X (mask (xS 0) fr) h) (kBlk 0 (zdE S K))) fr h
def zsW (S : SatT) (K : KT) (s0_ : Sl) (i3 : Int) (h : H) : Prop := zA (zsS S K) (XW s0_ i3) h
def zjV (S : SatT) (K : KT) (X0 : XT) : Kont := kSeq (cwp S tab xS (xS 0) (sq Tryz.f159 8 211) (kSeq (fun fr h => X0 (mask (xS 0) fr) h) (kBlk 0 (zdE S K)))) (kSeq (fun fr h => X0 (mask (xS 0) fr) h) (kBlk 0 (zdE S K)))
def zsT (S : SatT) (K : KT) (X0 : XT) : Kont := kSeq (cwp S tab xS (xS 1) (sq Tryz.f159 13 6731) (kBlk 1 (zjV S K X0))) (kBlk 1 (zjV S K X0))
def Z7 (s0_ : Sl) (i3 : Int) (s4_ : Sl) (i5 : Int) : Frame := (.sl s0_ :: U :: U :: .int .i64 i3 :: .sl s4_ :: .int .i64 i5 :: uu 55 [])
def zsR (S : SatT) (K : KT) (X0 : XT) : (XT) → XT := fun X fr h => cwp S tab xS (xS 2) (sq Tryz.f159 16 53844) (kSeq (fun fr h => X (mask (xS 2) fr) h) (kBlk 2 (zsT S K X0))) fr h
def zsV (S : SatT) (K : KT) (X0 : XT) (s0_ : Sl) (i3 : Int) (s4_ : Sl) (i5 : Int) (h : H) : Prop := zA (zsR S K X0) (Z7 s0_ i3 s4_ i5) h
def zsX (S : SatT) (K : KT) (X0 : XT) (s0_ : Sl) (i3 : Int) (h : H) : Prop :=
 cut s0_ 4 i3 (s0_.len : Int) h fun s0 =>
 qC s0 [.int .i64 (0), .int .i64 (0), .int .i64 (0), .int .i64 (0)] h fun h1 =>
 cut s0_ 4 (0) i3 h1 fun s2 =>
 K (.sl s2) h1
def zhX (S : SatT) (K : KT) (X0 X2 : XT) (s0_ : Sl) (i3 : Int) (s4_ : Sl) (i5 : Int) (h : H) : Prop :=
 bif (decide (i5 < (s4_.len : Int))) then
 ixS s4_ 4 i5 fun p0 =>
 ldA p0 4 h fun cs1 =>
 ixS s4_ 4 (w64 (i5 - (1))) fun p2 =>
 ldA p2 4 h fun cs3 =>
 eqA .i64 4 cs1 cs3 fun b4 =>
 bif (!b4) then
 ixS s4_ 4 i5 fun p5 =>
 ldA p5 4 h fun cs6 =>
 ixS s0_ 4 i3 fun p7 =>
 stN p7 4 cs6 h fun h8 =>
 X2 (Z7 s0_ (w64 (i3 + (1))) s4_ (w64 (i5 + (1)))) h8
 else
 X2 (Z7 s0_ i3 s4_ (w64 (i5 + (1)))) h
 else
 zsX S K X0 s0_ i3 h
theorem zlu (S : SatT) (K : KT) (X0 X2 : XT) (s0_ : Sl) (i3 : Int) (s4_ : Sl) (i5 : Int) (h : H) : zsR S K X0 X2 (Z7 s0_ i3 s4_ i5) h = zhX S K X0 X2 s0_ i3 s4_ i5 h := by kernel_rfl
theorem zls (S : SatT) (K : KT) (X0 : XT) (s0_ s4_ : Sl) (I_ : Int → Int → H → Prop) (m_ : Int → Int → H → Nat)
  (hs : ∀ (X2 : XT) (i3 i5 : Int) (h : H), I_ i3 i5 h → (∀ (i3' i5' : Int) (h' : H), I_ i3' i5' h' → m_ i3' i5' h' < m_ i3 i5 h → X2 (Z7 s0_ i3' s4_ i5') h') → zhX S K X0 X2 s0_ i3 s4_ i5 h) (i3 i5 : Int) {h : H} (h0 : I_ i3 i5 h) : zsV S K X0 s0_ i3 s4_ i5 h :=
 ze (σ := (Int) × (Int)) (fun s_ => Z7 s0_ (s_.1) s4_ (s_.2)) (fun s_ h => I_ (s_.1) (s_.2) h) (fun s_ h => m_ (s_.1) (s_.2) h)
  (fun X s_ h hi hx => (zlu S K X0 X s0_ (s_.1) s4_ (s_.2) h).mpr (hs X (s_.1) (s_.2) h hi fun i3' i5' h' hi' hm' => hx (i3', i5') h' hi' hm')) (i3, i5) h0
def zsY (S : SatT) (K : KT) (X0 : XT) (s0_ : Sl) (i3 : Int) (h : H) : Prop :=
 X0 (XW s0_ (w64 (i3 + (1)))) h
def zsZ (S : SatT) (K : KT) (s0_ : Sl) (h : H) : Prop :=
 K (.sl s0_) h
def zhY (S : SatT) (K : KT) (X0 : XT) (s0_ : Sl) (i3 : Int) (h : H) : Prop :=
 bif (decide (i3 < (s0_.len : Int))) then
 ixS s0_ 4 i3 fun p0 =>
 ldA p0 4 h fun cs1 =>
 ixS s0_ 4 (w64 (i3 - (1))) fun p2 =>
 ldA p2 4 h fun cs3 =>
 eqA .i64 4 cs1 cs3 fun b4 =>
 bif b4 then
 cut s0_ 4 i3 (s0_.len : Int) h fun s5 =>
 zsV S K X0 s0_ i3 s5 (1) h
 else
 zsY S K X0 s0_ i3 h
 else
 zsZ S K s0_ h
theorem zlv (S : SatT) (K : KT) (X0 : XT) (s0_ : Sl) (i3 : Int) (h : H) : zsS S K X0 (XW s0_ i3) h = zhY S K X0 s0_ i3 h := by kernel_rfl
theorem zlt (S : SatT) (K : KT) (s0_ : Sl) (I_ : Int → H → Prop) (m_ : Int → H → Nat)
  (hs : ∀ (X0 : XT) (i3 : Int) (h : H), I_ i3 h → (∀ (i3' : Int) (h' : H), I_ i3' h' → m_ i3' h' < m_ i3 h → X0 (XW s0_ i3') h') → zhY S K X0 s0_ i3 h) (i3 : Int) {h : H} (h0 : I_ i3 h) : zsW S K s0_ i3 h :=
 ze (σ := (Int)) (fun s_ => XW s0_ (s_)) (fun s_ h => I_ (s_) h) (fun s_ h => m_ (s_) h)
  (fun X s_ h hi hx => (zlv S K X s0_ (s_) h).mpr (hs X (s_) h hi fun i3' h' hi' hm' => hx (i3') h' hi' hm')) (i3) h0
def XV (S : SatT) (K : KT) (x0 : Sl) (h : H) : Prop :=
 bif (decide ((x0.len : Int) < (2))) then
 K (.sl x0) h
 else
 zsW S K x0 (1) h
theorem W8 (S : SatT) (K : KT) (x0 : Sl) (h : H) : cwp S tab xS [] (za Tryz.f159) (kFun tab Tryz.f159.results.toList K) (fr0 Tryz.f159 [.sl x0]) h = XV S K x0 h := by kernel_rfl
theorem zsU (x0 : Sl) (h : H) (K : Sl → H → Prop) (hm : XV (Sat Tryz.prog) (fun v h' => ∃ r, v = .sl r ∧ K r h') x0 h) : callS (Sat Tryz.prog) zoc [.sl x0] h K := by
 have := Sat.ex tok mixed xS Tryz.func159 (c := za Tryz.f159) (by kernel_rfl) (zb Tryz.func159 (c := za Tryz.f159) (by kernel_rfl) (by decide)) ((W8 _ _ x0 h).mpr hm)
 obtain ⟨v, h2, h3, r, rfl, h4⟩ := this; exact ⟨r, h2, h3, h4⟩
def Z4 : Nat → List Nat := fun i => bif i == 2 then [1, 4, 5] else bif i == 0 then [1, 4] else []
def zhN (S : SatT) (K : KT) : Kont := kSeq (cwp S tab Z4 [] (sq Tryz.f20 3 7) (kFun tab (Tryz.f20).results.toList K)) (kFun tab (Tryz.f20).results.toList K)
def zfY (p1_ : Pt) (i4 : Int) : Frame := (U :: .ptr p1_ :: U :: U :: .int .i64 i4 :: uu 32 [])
def zBh (S : SatT) (K : KT) : (XT) → XT := fun X fr h => cwp S tab Z4 (Z4 0) (sq Tryz.f20 6 52) (kSeq (fun fr h => X (mask (Z4 0) fr) h) (kBlk 0 (zhN S K))) fr h
def zBj (S : SatT) (K : KT) (p1_ : Pt) (i4 : Int) (h : H) : Prop := zA (zBh S K) (zfY p1_ i4) h
def zFv (S : SatT) (K : KT) (X0 : XT) : Kont := kSeq (cwp S tab Z4 (Z4 0) (sq Tryz.f20 8 211) (kSeq (fun fr h => X0 (mask (Z4 0) fr) h) (kBlk 0 (zhN S K)))) (kSeq (fun fr h => X0 (mask (Z4 0) fr) h) (kBlk 0 (zhN S K)))
def Yq (p1_ : Pt) (i4 i5 : Int) : Frame := (U :: .ptr p1_ :: U :: U :: .int .i64 i4 :: .int .i64 i5 :: uu 31 [])
def zBg (S : SatT) (K : KT) (X0 : XT) : (XT) → XT := fun X fr h => cwp S tab Z4 (Z4 2) (sq Tryz.f20 12 3364) (kSeq (fun fr h => X (mask (Z4 2) fr) h) (kBlk 2 (kBlk 1 (zFv S K X0)))) fr h
def zBi (S : SatT) (K : KT) (X0 : XT) (p1_ : Pt) (i4 i5 : Int) (h : H) : Prop := zA (zBg S K X0) (Yq p1_ i4 i5) h
def zBl (S : SatT) (K : KT) (X0 : XT) (p1_ : Pt) (i4 : Int) (h : H) : Prop :=
 X0 (zfY p1_ (w64 (i4 + (1)))) h
def zBk (S : SatT) (K : KT) (X0 : XT) (p1_ : Pt) (i4 : Int) (h : H) : Prop :=
 zBl S K X0 p1_ i4 h
def zsg (S : SatT) (K : KT) (X0 X2 : XT) (p1_ : Pt) (i4 i5 : Int) (h : H) : Prop :=
 bif (decide (i5 ≤ (3))) then
 nz i5 (
 bif ((Int.tmod i4 i5) != (0)) then
 X2 (Yq p1_ i4 (w64 (i5 + (1)))) h
 else
 nz i5 (
 bif (decide ((w64 (Int.tdiv i4 i5)) > (3))) then
 X2 (Yq p1_ i4 (w64 (i5 + (1)))) h
 else
 ldA p1_ 2 h fun cs0 =>
 nz i5 (
 callS S zwl [.agg cs0, .int .i64 i5, .int .i64 (w64 (Int.tdiv i4 i5))] h fun s2 h1 =>
 bif (!vG s2) then
 K (.tuple [.sl s2, .int .i64 (0)]) h1
 else
 X2 (Yq p1_ i4 (w64 (i5 + (1)))) h1)))
 else
 zBk S K X0 p1_ i4 h
theorem zse (S : SatT) (K : KT) (X0 X2 : XT) (p1_ : Pt) (i4 i5 : Int) (h : H) : zBg S K X0 X2 (Yq p1_ i4 i5) h = zsg S K X0 X2 p1_ i4 i5 h := by kernel_rfl
theorem zsc (S : SatT) (K : KT) (X0 : XT) (p1_ : Pt) (i4 : Int) (I_ : Int → H → Prop) (m_ : Int → H → Nat)
  (hs : ∀ (X2 : XT) (i5 : Int) (h : H), I_ i5 h → (∀ (i5' : Int) (h' : H), I_ i5' h' → m_ i5' h' < m_ i5 h → X2 (Yq p1_ i4 i5') h') → zsg S K X0 X2 p1_ i4 i5 h) (i5 : Int) {h : H} (h0 : I_ i5 h) : zBi S K X0 p1_ i4 i5 h :=
 ze (σ := (Int)) (fun s_ => Yq p1_ i4 (s_)) (fun s_ h => I_ (s_) h) (fun s_ h => m_ (s_) h)
  (fun X s_ h hi hx => (zse S K X0 X p1_ i4 (s_) h).mpr (hs X (s_) h hi fun i5' h' hi' hm' => hx (i5') h' hi' hm')) (i5) h0
def zBm (S : SatT) (K : KT) (h : H) : Prop :=
 K (.tuple [.sl Sl.nil, .int .i64 (4)]) h
def zsh (S : SatT) (K : KT) (X0 : XT) (p1_ : Pt) (i4 : Int) (h : H) : Prop :=
 bif (decide (i4 ≤ (9))) then
 zBi S K X0 p1_ i4 (1) h
 else
 zBm S K h
theorem zsf (S : SatT) (K : KT) (X0 : XT) (p1_ : Pt) (i4 : Int) (h : H) : zBh S K X0 (zfY p1_ i4) h = zsh S K X0 p1_ i4 h := by kernel_rfl
theorem zsd (S : SatT) (K : KT) (p1_ : Pt) (I_ : Int → H → Prop) (m_ : Int → H → Nat)
  (hs : ∀ (X0 : XT) (i4 : Int) (h : H), I_ i4 h → (∀ (i4' : Int) (h' : H), I_ i4' h' → m_ i4' h' < m_ i4 h → X0 (zfY p1_ i4') h') → zsh S K X0 p1_ i4 h) (i4 : Int) {h : H} (h0 : I_ i4 h) : zBj S K p1_ i4 h :=
 ze (σ := (Int)) (fun s_ => zfY p1_ (s_)) (fun s_ h => I_ (s_) h) (fun s_ h => m_ (s_) h)
  (fun X s_ h hi hx => (zsf S K X p1_ (s_) h).mpr (hs X (s_) h hi fun i4' h' hi' hm' => hx (i4') h' hi' hm')) (i4) h0
def zdt (S : SatT) (K : KT) (x0 : List AVal) (h : H) : Prop :=
 newK 2 x0 h fun p0 h1 =>
 ldA p0 2 h1 fun cs2 =>
 callB S zkL [.agg cs2] h1 fun b4 h3 =>
 bif (!b4) then
 K (.tuple [.sl Sl.nil, .int .i64 (1)]) h3
 else
 zBj S K p0 (1) h3
theorem zds (S : SatT) (K : KT) (x0 : List AVal) (h : H) : cwp S tab Z4 [] (za Tryz.f20) (kFun tab Tryz.f20.results.toList K) (fr0 Tryz.f20 [.agg x0]) h = zdt S K x0 h := by kernel_rfl
theorem zxZ (x0 : List AVal) (h : H) (K : KT) (hm : zdt (Sat Tryz.prog) (fun v h' => K v h') x0 h) : callV (Sat Tryz.prog) zCU [.agg x0] h K := by
 have := Sat.ex tok mixed Z4 Tryz.func20 (c := za Tryz.f20) (by kernel_rfl) (zb Tryz.func20 (c := za Tryz.f20) (by kernel_rfl) (by decide)) ((zds _ _ x0 h).mpr hm)
 exact this
def zBY : Nat → List Nat := fun i => []
def WD (S : SatT) (K : KT) (x0 : Pt) (h : H) : Prop :=
 newO [.int .i64 (0), .sl Sl.nil] h fun p0 h1 =>
 callI S .i64 ym [.ptr x0, .int .i64 (4)] h1 fun n3 h2 =>
 bif (n3 == (0)) then
 bif (n3 == (0)) then
 callA S Qe [.ptr x0] h2 fun cs5 h4 =>
 stN p0 2 cs5 h4 fun h6 =>
 ldA p0 2 h6 fun cs7 =>
 K (.agg cs7) h6
 else
 bif (n3 == (2)) then
 newS 3 1 [.int .i64 (2), .int .i64 (3), .int .i64 (4)] h2 fun s8 h9 =>
 callI S .i64 qv [.ptr x0, .sl s8] h9 fun n11 h10 =>
 callI S .i64 ym [.ptr x0, .int .i64 (10)] h10 fun n13 h12 =>
 callA S Xv [.ptr x0, .int .i64 n11, .int .i64 n13] h12 fun cs15 h14 =>
 newO [.int .i64 (0), .sl Sl.nil] h14 fun p16 h17 =>
 stN p16 2 cs15 h17 fun h18 =>
 isPt p16 (
 ldI .i64 (Pt.add p16 0) h18 fun n19 =>
 callI S .i64 ym [.ptr x0, .int .i64 n19] h18 fun n21 h20 =>
 isPt p16 (
 ldI .i64 (Pt.add p16 0) h20 fun n22 =>
(cell h18 (Pt.add p16 0) = cell h20 (Pt.add p16 0)) ∧ (
 callI S .i64 ym [.ptr x0, .int .i64 n22] h20 fun n24 h23 =>
 qE 15 h23 fun h25 =>
 isPt p16 (
 ldI .i64 (Pt.add p16 0) h25 fun n26 =>
 isPt p16 (
 ldS (Pt.add p16 1) h25 fun s27 =>
 vE 0 4 [] h25 (h23.length + 2) fun s28 h29 =>
(cell h29 (Pt.add p16 1) = cell h25 (Pt.add p16 1)) ∧ (
(cell h29 (Pt.add p16 0) = cell h25 (Pt.add p16 0)) ∧ (
 app s28 s27 4 h29 fun s30 h31 =>
(cell h31 (Pt.add p16 0) = cell h25 (Pt.add p16 0)) ∧ (
 lenA [.int .i64 n21, .int .i64 n24, .int .i64 n21, .int .i64 n24] 4 (
 vE 1 4 (spl [.int .i64 (0), .int .i64 (0), .int .i64 (0), .int .i64 (0)] 0 4 [.int .i64 n21, .int .i64 n24, .int .i64 n21, .int .i64 n24]) h31 (h23.length + 11) fun s32 h33 =>
(cell h31 (Pt.add p16 1) = cell h25 (Pt.add p16 1)) ∧ (
(cell h33 (Pt.add p16 1) = cell h25 (Pt.add p16 1)) ∧ (
(cell h33 (Pt.add p16 0) = cell h25 (Pt.add p16 0)) ∧ (
 app s30 s32 4 h33 fun s34 h35 =>
(cell h35 (Pt.add p16 0) = cell h25 (Pt.add p16 0)) ∧ (
 callA S Qc [.int .i64 n26, .sl s34] h35 fun cs37 h36 =>
 stN p0 2 cs37 h36 fun h38 =>
 ldA p0 2 h38 fun cs39 =>
 K (.agg cs39) h38)))))))))))))
 else
 callI S .i64 ym [.ptr x0, .int .i64 (6)] h2 fun n41 h40 =>
 callI S .i64 ym [.ptr x0, .int .i64 (17)] h40 fun n43 h42 =>
 callA S Xv [.ptr x0, .int .i64 (w64 ((1) + n41)), .int .i64 n43] h42 fun cs45 h44 =>
 stN p0 2 cs45 h44 fun h46 =>
 ldA p0 2 h46 fun cs47 =>
 K (.agg cs47) h46
 else
 bif (n3 == (1)) then
 callA S Qe [.ptr x0] h2 fun cs49 h48 =>
 stN p0 2 cs49 h48 fun h50 =>
 ldA p0 2 h50 fun cs51 =>
 K (.agg cs51) h50
 else
 bif (n3 == (2)) then
 newS 3 1 [.int .i64 (2), .int .i64 (3), .int .i64 (4)] h2 fun s52 h53 =>
 callI S .i64 qv [.ptr x0, .sl s52] h53 fun n55 h54 =>
 callI S .i64 ym [.ptr x0, .int .i64 (10)] h54 fun n57 h56 =>
 callA S Xv [.ptr x0, .int .i64 n55, .int .i64 n57] h56 fun cs59 h58 =>
 newO [.int .i64 (0), .sl Sl.nil] h58 fun p60 h61 =>
 stN p60 2 cs59 h61 fun h62 =>
 isPt p60 (
 ldI .i64 (Pt.add p60 0) h62 fun n63 =>
 callI S .i64 ym [.ptr x0, .int .i64 n63] h62 fun n65 h64 =>
 isPt p60 (
 ldI .i64 (Pt.add p60 0) h64 fun n66 =>
(cell h62 (Pt.add p60 0) = cell h64 (Pt.add p60 0)) ∧ (
 callI S .i64 ym [.ptr x0, .int .i64 n66] h64 fun n68 h67 =>
 qE 15 h67 fun h69 =>
 isPt p60 (
 ldI .i64 (Pt.add p60 0) h69 fun n70 =>
 isPt p60 (
 ldS (Pt.add p60 1) h69 fun s71 =>
 vE 0 4 [] h69 (h67.length + 2) fun s72 h73 =>
(cell h73 (Pt.add p60 1) = cell h69 (Pt.add p60 1)) ∧ (
(cell h73 (Pt.add p60 0) = cell h69 (Pt.add p60 0)) ∧ (
 app s72 s71 4 h73 fun s74 h75 =>
(cell h75 (Pt.add p60 0) = cell h69 (Pt.add p60 0)) ∧ (
 lenA [.int .i64 n65, .int .i64 n68, .int .i64 n65, .int .i64 n68] 4 (
 vE 1 4 (spl [.int .i64 (0), .int .i64 (0), .int .i64 (0), .int .i64 (0)] 0 4 [.int .i64 n65, .int .i64 n68, .int .i64 n65, .int .i64 n68]) h75 (h67.length + 11) fun s76 h77 =>
(cell h75 (Pt.add p60 1) = cell h69 (Pt.add p60 1)) ∧ (
(cell h77 (Pt.add p60 1) = cell h69 (Pt.add p60 1)) ∧ (
(cell h77 (Pt.add p60 0) = cell h69 (Pt.add p60 0)) ∧ (
 app s74 s76 4 h77 fun s78 h79 =>
(cell h79 (Pt.add p60 0) = cell h69 (Pt.add p60 0)) ∧ (
 callA S Qc [.int .i64 n70, .sl s78] h79 fun cs81 h80 =>
 stN p0 2 cs81 h80 fun h82 =>
 ldA p0 2 h82 fun cs83 =>
 K (.agg cs83) h82)))))))))))))
 else
 callI S .i64 ym [.ptr x0, .int .i64 (6)] h2 fun n85 h84 =>
 callI S .i64 ym [.ptr x0, .int .i64 (17)] h84 fun n87 h86 =>
 callA S Xv [.ptr x0, .int .i64 (w64 ((1) + n85)), .int .i64 n87] h86 fun cs89 h88 =>
 stN p0 2 cs89 h88 fun h90 =>
 ldA p0 2 h90 fun cs91 =>
 K (.agg cs91) h90
theorem Vv (S : SatT) (K : KT) (x0 : Pt) (h : H) : cwp S tab zBY [] (za Tryz.f114) (kFun tab Tryz.f114.results.toList K) (fr0 Tryz.f114 [.ptr x0]) h = WD S K x0 h := by kernel_rfl
theorem zuA (x0 : Pt) (h : H) (K : List AVal → H → Prop) (hm : WD (Sat Tryz.prog) (fun v h' => ∃ r, v = .agg r ∧ K r h') x0 h) : callA (Sat Tryz.prog) zos [.ptr x0] h K := by
 have := Sat.ex tok mixed zBY Tryz.func114 (c := za Tryz.f114) (by kernel_rfl) (zb Tryz.func114 (c := za Tryz.f114) (by kernel_rfl) (by decide)) ((Vv _ _ x0 h).mpr hm)
 obtain ⟨v, h2, h3, r, rfl, h4⟩ := this; exact ⟨r, h2, h3, h4⟩
def Qx : Nat → List Nat := fun i => bif i == 0 then [0, 2, 4, 5, 6] else []
def zyo (S : SatT) (K : KT) : Kont := kSeq (cwp S tab Qx [] (sq Tryz.f142 4 15) (kFun tab (Tryz.f142).results.toList K)) (kFun tab (Tryz.f142).results.toList K)
def Wi (f0_ : AVal) (p2_ : Pt) (s4_ s5_ : Sl) (i6 : Int) : Frame := (f0_ :: U :: .ptr p2_ :: U :: .sl s4_ :: .sl s5_ :: .int .i64 i6 :: uu 26 [])
def ztq (S : SatT) (K : KT) : (XT) → XT := fun X fr h => cwp S tab Qx (Qx 0) (sq Tryz.f142 7 116) (kSeq (fun fr h => X (mask (Qx 0) fr) h) (kBlk 0 (zyo S K))) fr h
def zts (S : SatT) (K : KT) (f0_ : AVal) (p2_ : Pt) (s4_ s5_ : Sl) (i6 : Int) (h : H) : Prop := zA (ztq S K) (Wi f0_ p2_ s4_ s5_ i6) h
def zFz (S : SatT) (K : KT) (p2_ : Pt) (h : H) : Prop :=
 stN p2_ 2 [.int .i64 (0), .sl Sl.nil] h fun h0 =>
 ldA p2_ 2 h0 fun cs1 =>
 K (.tuple [.agg cs1, .bool false]) h0
def zic (S : SatT) (K : KT) (X0 : XT) (f0_ : AVal) (p2_ : Pt) (s4_ s5_ : Sl) (i6 : Int) (h : H) : Prop :=
 bif (decide (i6 < (s4_.len : Int))) then
 ixS s4_ 1 i6 fun p0 =>
 ldV p0 h fun v1 =>
 zmK v1 f0_ fun b2 =>
 bif b2 then
 ixS s5_ 1 i6 fun p3 =>
 ldV p3 h fun v4 =>
 callV S zob [v4] h fun v6 h5 =>
 viaT v6 fun vs7 =>
 exA vs7 0 fun cs8 =>
 viaT v6 fun vs9 =>
 exB vs9 1 fun b10 =>
 newO [.int .i64 (0), .sl Sl.nil] h5 fun p11 h12 =>
 stN p11 2 cs8 h12 fun h13 =>
 ldA p11 2 h13 fun cs14 =>
 stN p2_ 2 cs14 h13 fun h15 =>
 ldA p2_ 2 h15 fun cs16 =>
 K (.tuple [.agg cs16, .bool true]) h15
 else
 X0 (Wi f0_ p2_ s4_ s5_ (w64 (i6 + (1)))) h
 else
 zFz S K p2_ h
theorem zlD (S : SatT) (K : KT) (X0 : XT) (f0_ : AVal) (p2_ : Pt) (s4_ s5_ : Sl) (i6 : Int) (h : H) : ztq S K X0 (Wi f0_ p2_ s4_ s5_ i6) h = zic S K X0 f0_ p2_ s4_ s5_ i6 h := by kernel_rfl
theorem zlC (S : SatT) (K : KT) (f0_ : AVal) (p2_ : Pt) (s4_ s5_ : Sl) (I_ : Int → H → Prop) (m_ : Int → H → Nat)
  (hs : ∀ (X0 : XT) (i6 : Int) (h : H), I_ i6 h → (∀ (i6' : Int) (h' : H), I_ i6' h' → m_ i6' h' < m_ i6 h → X0 (Wi f0_ p2_ s4_ s5_ i6') h') → zic S K X0 f0_ p2_ s4_ s5_ i6 h) (i6 : Int) {h : H} (h0 : I_ i6 h) : zts S K f0_ p2_ s4_ s5_ i6 h :=
 ze (σ := (Int)) (fun s_ => Wi f0_ p2_ s4_ s5_ (s_)) (fun s_ h => I_ (s_) h) (fun s_ h => m_ (s_) h)
  (fun X s_ h hi hx => (zlD S K X f0_ p2_ s4_ s5_ (s_) h).mpr (hs X (s_) h hi fun i6' h' hi' hm' => hx (i6') h' hi' hm')) (i6) h0
def Wh (S : SatT) (K : KT) (x0 : AVal) (h : H) : Prop :=
 newO [.int .i64 (0), .sl Sl.nil] h fun p0 h1 =>
 callS S zjo [] h1 fun s3 h2 =>
 newS 8 1 [.str (⟨#[49, 58, 48, 48, 48, 48]⟩ : ByteArray), .str (⟨#[50, 58, 48, 48, 49, 49, 44, 49, 49, 48, 48]⟩ : ByteArray), .str (⟨#[50, 58, 48, 48, 48, 48, 44, 48, 49, 48, 49, 44, 49, 48, 49, 48, 44, 49, 49, 49, 49]⟩ : ByteArray), .str (⟨#[50, 58, 48, 48, 48, 48, 44, 48, 49, 49, 48, 44, 49, 48, 48, 49, 44, 49, 49, 49, 49]⟩ : ByteArray), .str (⟨#[50, 58, 48, 48, 48, 48, 44, 48, 49, 49, 49, 44, 49, 48, 49, 49, 44, 49, 49, 48, 48]⟩ : ByteArray), .str (⟨#[50, 58, 48, 48, 48, 48, 44, 48, 48, 49, 49, 44, 48, 49, 48, 49, 44, 49, 49, 49, 48]⟩ : ByteArray), .str (⟨#[50, 58, 48, 48, 48, 49]⟩ : ByteArray), .str (⟨#[51, 58, 48, 49, 50, 48, 44, 49, 50, 48, 49, 44, 50, 48, 49, 50]⟩ : ByteArray)] h2 fun s4 h5 =>
 zts S K x0 p0 s3 s4 (0) h5
theorem Vh (S : SatT) (K : KT) (x0 : AVal) (h : H) : cwp S tab Qx [] (za Tryz.f142) (kFun tab Tryz.f142.results.toList K) (fr0 Tryz.f142 [x0]) h = Wh S K x0 h := by kernel_rfl
theorem ztr (x0 : AVal) (h : H) (K : KT) (hm : Wh (Sat Tryz.prog) (fun v h' => K v h') x0 h) : callV (Sat Tryz.prog) zol [x0] h K := by
 have := Sat.ex tok mixed Qx Tryz.func142 (c := za Tryz.f142) (by kernel_rfl) (zb Tryz.func142 (c := za Tryz.f142) (by kernel_rfl) (by decide)) ((Vh _ _ x0 h).mpr hm)
 exact this
def zlc : Nat → List Nat := fun i => bif i == 0 then [1, 2, 7, 8, 9] else []
def zDv (S : SatT) (K : KT) : Kont := kSeq (cwp S tab zlc [] (sq Tryz.f61 2 3) (kFun tab (Tryz.f61).results.toList K)) (kFun tab (Tryz.f61).results.toList K)
def zfB (s1_ : Sl) (p2_ : Pt) (s7_ : Sl) (i8 i9 : Int) : Frame := (U :: .sl s1_ :: .ptr p2_ :: uu 4 (.sl s7_ :: .int .i64 i8 :: .int .i64 i9 :: uu 27 []))
def zAh (S : SatT) (K : KT) : (XT) → XT := fun X fr h => cwp S tab zlc (zlc 0) (sq Tryz.f61 5 20) (kSeq (fun fr h => X (mask (zlc 0) fr) h) (kBlk 0 (zDv S K))) fr h
def zAi (S : SatT) (K : KT) (s1_ : Sl) (p2_ : Pt) (s7_ : Sl) (i8 i9 : Int) (h : H) : Prop := zA (zAh S K) (zfB s1_ p2_ s7_ i8 i9) h
def zAj (S : SatT) (K : KT) (s1_ : Sl) (p2_ : Pt) (h : H) : Prop :=
 ldA p2_ 2 h fun cs0 =>
 callB S zwi [.agg cs0, .sl s1_] h fun b2 h1 =>
 K (.bool b2) h1
def zpK (S : SatT) (K : KT) (X0 : XT) (s1_ : Sl) (p2_ : Pt) (s7_ : Sl) (i8 i9 : Int) (h : H) : Prop :=
 bif (decide (i9 < i8)) then
 ixS s7_ 1 i9 fun p0 =>
 ldS p0 h fun s1 =>
 isPt p2_ (
 ldS (Pt.add p2_ 1) h fun s2 =>
 ixS s1 1 (w64 ((s1.len : Int) - (1))) fun p3 =>
 ldI .i64 p3 h fun n4 =>
 ixS s2 4 n4 fun p5 =>
 ixA p5 4 1 (2) fun p6 =>
 ldI .i64 p6 h fun n7 =>
 isPt p2_ (
 ldS (Pt.add p2_ 1) h fun s8 =>
 ixS s1 1 (0) fun p9 =>
 ldI .i64 p9 h fun n10 =>
 ixS s8 4 n10 fun p11 =>
 ixA p11 4 1 (0) fun p12 =>
 ldI .i64 p12 h fun n13 =>
 bif (n7 != n13) then
 K (.bool false) h
 else
 X0 (zfB s1_ p2_ s7_ i8 (w64 (i9 + (1)))) h))
 else
 zAj S K s1_ p2_ h
theorem zpJ (S : SatT) (K : KT) (X0 : XT) (s1_ : Sl) (p2_ : Pt) (s7_ : Sl) (i8 i9 : Int) (h : H) : zAh S K X0 (zfB s1_ p2_ s7_ i8 i9) h = zpK S K X0 s1_ p2_ s7_ i8 i9 h := by kernel_rfl
theorem zpI (S : SatT) (K : KT) (s1_ : Sl) (p2_ : Pt) (s7_ : Sl) (i8 : Int) (I_ : Int → H → Prop) (m_ : Int → H → Nat)
  (hs : ∀ (X0 : XT) (i9 : Int) (h : H), I_ i9 h → (∀ (i9' : Int) (h' : H), I_ i9' h' → m_ i9' h' < m_ i9 h → X0 (zfB s1_ p2_ s7_ i8 i9') h') → zpK S K X0 s1_ p2_ s7_ i8 i9 h) (i9 : Int) {h : H} (h0 : I_ i9 h) : zAi S K s1_ p2_ s7_ i8 i9 h :=
 ze (σ := (Int)) (fun s_ => zfB s1_ p2_ s7_ i8 (s_)) (fun s_ h => I_ (s_) h) (fun s_ h => m_ (s_) h)
  (fun X s_ h hi hx => (zpJ S K X s1_ p2_ s7_ i8 (s_) h).mpr (hs X (s_) h hi fun i9' h' hi' hm' => hx (i9') h' hi' hm')) (i9) h0
def zbf (S : SatT) (K : KT) (x0 : List AVal) (x1 : Sl) (h : H) : Prop :=
 newK 2 x0 h fun p0 h1 =>
 zAi S K x1 p0 x1 (x1.len : Int) (0) h1
theorem zbe (S : SatT) (K : KT) (x0 : List AVal) (x1 : Sl) (h : H) : cwp S tab zlc [] (za Tryz.f61) (kFun tab Tryz.f61.results.toList K) (fr0 Tryz.f61 [.agg x0, .sl x1]) h = zbf S K x0 x1 h := by kernel_rfl
theorem zwV (x0 : List AVal) (x1 : Sl) (h : H) (K : Bool → H → Prop) (hm : zbf (Sat Tryz.prog) (fun v h' => ∃ r, v = .bool r ∧ K r h') x0 x1 h) : callB (Sat Tryz.prog) zwj [.agg x0, .sl x1] h K := by
 have := Sat.ex tok mixed zlc Tryz.func61 (c := za Tryz.f61) (by kernel_rfl) (zb Tryz.func61 (c := za Tryz.f61) (by kernel_rfl) (by decide)) ((zbe _ _ x0 x1 h).mpr hm)
 obtain ⟨v, h2, h3, r, rfl, h4⟩ := this; exact ⟨r, h2, h3, h4⟩
def Qs : Nat → List Nat := fun i => bif i == 0 then [0, 1, 7, 8] else []
def zyg (S : SatT) (K : KT) : Kont := kSeq (cwp S tab Qs [] (sq Tryz.f162 2 3) (kFun tab (Tryz.f162).results.toList K)) (kFun tab (Tryz.f162).results.toList K)
def XP (s0_ : Sl) (f1_ : AVal) (i7 i8 : Int) : Frame := (.sl s0_ :: f1_ :: uu 5 (.int .i64 i7 :: .int .i64 i8 :: uu 10 []))
def zsF (S : SatT) (K : KT) : (XT) → XT := fun X fr h => cwp S tab Qs (Qs 0) (sq Tryz.f162 5 20) (kSeq (fun fr h => X (mask (Qs 0) fr) h) (kBlk 0 (zyg S K))) fr h
def zsH (S : SatT) (K : KT) (s0_ : Sl) (f1_ : AVal) (i7 i8 : Int) (h : H) : Prop := zA (zsF S K) (XP s0_ f1_ i7 i8) h
def zFx (S : SatT) (K : KT) (h : H) : Prop :=
 K (.int .i64 (-1)) h
def zhS (S : SatT) (K : KT) (X0 : XT) (s0_ : Sl) (f1_ : AVal) (i7 i8 : Int) (h : H) : Prop :=
 bif (decide (i8 < i7)) then
 ixS s0_ 1 i8 fun p0 =>
 ldI .i64 p0 h fun n1 =>
 viaF f1_ [.int .i64 n1] fun g2 ys3 =>
 callB S g2 ys3 h fun b5 h4 =>
 bif b5 then
 K (.int .i64 i8) h4
 else
 X0 (XP s0_ f1_ i7 (w64 (i8 + (1)))) h4
 else
 zFx S K h
theorem zll (S : SatT) (K : KT) (X0 : XT) (s0_ : Sl) (f1_ : AVal) (i7 i8 : Int) (h : H) : zsF S K X0 (XP s0_ f1_ i7 i8) h = zhS S K X0 s0_ f1_ i7 i8 h := by kernel_rfl
theorem zlk (S : SatT) (K : KT) (s0_ : Sl) (f1_ : AVal) (i7 : Int) (I_ : Int → H → Prop) (m_ : Int → H → Nat)
  (hs : ∀ (X0 : XT) (i8 : Int) (h : H), I_ i8 h → (∀ (i8' : Int) (h' : H), I_ i8' h' → m_ i8' h' < m_ i8 h → X0 (XP s0_ f1_ i7 i8') h') → zhS S K X0 s0_ f1_ i7 i8 h) (i8 : Int) {h : H} (h0 : I_ i8 h) : zsH S K s0_ f1_ i7 i8 h :=
 ze (σ := (Int)) (fun s_ => XP s0_ f1_ i7 (s_)) (fun s_ h => I_ (s_) h) (fun s_ h => m_ (s_) h)
  (fun X s_ h hi hx => (zll S K X s0_ f1_ i7 (s_) h).mpr (hs X (s_) h hi fun i8' h' hi' hm' => hx (i8') h' hi' hm')) (i8) h0
def XO (S : SatT) (K : KT) (x0 : Sl) (x1 : AVal) (h : H) : Prop :=
 zsH S K x0 x1 (x0.len : Int) (0) h
theorem W5 (S : SatT) (K : KT) (x0 : Sl) (x1 : AVal) (h : H) : cwp S tab Qs [] (za Tryz.f162) (kFun tab Tryz.f162.results.toList K) (fr0 Tryz.f162 [.sl x0, x1]) h = XO S K x0 x1 h := by kernel_rfl
theorem zsG (x0 : Sl) (x1 : AVal) (h : H) (K : Int → H → Prop) (hm : XO (Sat Tryz.prog) (fun v h' => ∃ r, v = .int .i64 r ∧ K r h') x0 x1 h) : callI (Sat Tryz.prog) .i64 znZ [.sl x0, x1] h K := by
 have := Sat.ex tok mixed Qs Tryz.func162 (c := za Tryz.f162) (by kernel_rfl) (zb Tryz.func162 (c := za Tryz.f162) (by kernel_rfl) (by decide)) ((W5 _ _ x0 x1 h).mpr hm)
 obtain ⟨v, h2, h3, r, rfl, h4⟩ := this; exact ⟨r, h2, h3, h4⟩
def Qy : Nat → List Nat := fun i => bif i == 0 then [0, 1, 6, 7, 8] else []
def zys (S : SatT) (K : KT) : Kont := kSeq (cwp S tab Qy [] (sq Tryz.f135 3 7) (kFun tab (Tryz.f135).results.toList K)) (kFun tab (Tryz.f135).results.toList K)
def Wn (p0_ : Pt) (i1 : Int) (p6_ : Pt) (s7_ : Sl) (i8 : Int) : Frame := (.ptr p0_ :: .int .i64 i1 :: uu 4 (.ptr p6_ :: .sl s7_ :: .int .i64 i8 :: uu 15 []))
def ztL (S : SatT) (K : KT) : (XT) → XT := fun X fr h => cwp S tab Qy (Qy 0) (sq Tryz.f135 6 52) (kSeq (fun fr h => X (mask (Qy 0) fr) h) (kBlk 0 (zys S K))) fr h
def ztN (S : SatT) (K : KT) (p0_ : Pt) (i1 : Int) (p6_ : Pt) (s7_ : Sl) (i8 : Int) (h : H) : Prop := zA (ztL S K) (Wn p0_ i1 p6_ s7_ i8) h
def ztO (S : SatT) (K : KT) (i1 : Int) (p6_ : Pt) (s7_ : Sl) (h : H) : Prop :=
 callA S Qc [.int .i64 i1, .sl s7_] h fun cs1 h0 =>
 stN p6_ 2 cs1 h0 fun h2 =>
 ldA p6_ 2 h2 fun cs3 =>
 K (.agg cs3) h2
def zif (S : SatT) (K : KT) (X0 : XT) (p0_ : Pt) (i1 : Int) (p6_ : Pt) (s7_ : Sl) (i8 : Int) (h : H) : Prop :=
 bif (decide (i8 > (0))) then
 callA S zjr [.ptr p0_, .int .i64 i1] h fun cs1 h0 =>
 lenA cs1 4 (
 newS 1 4 (spl [.int .i64 (0), .int .i64 (0), .int .i64 (0), .int .i64 (0)] 0 4 cs1) h0 fun s2 h3 =>
 app s7_ s2 4 h3 fun s4 h5 =>
 X0 (Wn p0_ i1 p6_ s4 (w64 (i8 - (1)))) h5)
 else
 ztO S K i1 p6_ s7_ h
theorem zlJ (S : SatT) (K : KT) (X0 : XT) (p0_ : Pt) (i1 : Int) (p6_ : Pt) (s7_ : Sl) (i8 : Int) (h : H) : ztL S K X0 (Wn p0_ i1 p6_ s7_ i8) h = zif S K X0 p0_ i1 p6_ s7_ i8 h := by kernel_rfl
theorem zlI (S : SatT) (K : KT) (p0_ : Pt) (i1 : Int) (p6_ : Pt) (I_ : Sl → Int → H → Prop) (m_ : Sl → Int → H → Nat)
  (hs : ∀ (X0 : XT) (s7_ : Sl) (i8 : Int) (h : H), I_ s7_ i8 h → (∀ (s7_' : Sl) (i8' : Int) (h' : H), I_ s7_' i8' h' → m_ s7_' i8' h' < m_ s7_ i8 h → X0 (Wn p0_ i1 p6_ s7_' i8') h') → zif S K X0 p0_ i1 p6_ s7_ i8 h) (s7_ : Sl) (i8 : Int) {h : H} (h0 : I_ s7_ i8 h) : ztN S K p0_ i1 p6_ s7_ i8 h :=
 ze (σ := (Sl) × (Int)) (fun s_ => Wn p0_ i1 p6_ (s_.1) (s_.2)) (fun s_ h => I_ (s_.1) (s_.2) h) (fun s_ h => m_ (s_.1) (s_.2) h)
  (fun X s_ h hi hx => (zlJ S K X p0_ i1 p6_ (s_.1) (s_.2) h).mpr (hs X (s_.1) (s_.2) h hi fun s7_' i8' h' hi' hm' => hx (s7_', i8') h' hi' hm')) (s7_, i8) h0
def Wm (S : SatT) (K : KT) (x0 : Pt) (x1 x2 : Int) (h : H) : Prop :=
 newO [.int .i64 (0), .sl Sl.nil] h fun p0 h1 =>
 newS 0 4 [] h1 fun s2 h3 =>
 ztN S K x0 x1 p0 s2 x2 h3
theorem Vl (S : SatT) (K : KT) (x0 : Pt) (x1 x2 : Int) (h : H) : cwp S tab Qy [] (za Tryz.f135) (kFun tab Tryz.f135.results.toList K) (fr0 Tryz.f135 [.ptr x0, .int .i64 x1, .int .i64 x2]) h = Wm S K x0 x1 x2 h := by kernel_rfl
theorem ztM (x0 : Pt) (x1 x2 : Int) (h : H) (K : List AVal → H → Prop) (hm : Wm (Sat Tryz.prog) (fun v h' => ∃ r, v = .agg r ∧ K r h') x0 x1 x2 h) : callA (Sat Tryz.prog) Xv [.ptr x0, .int .i64 x1, .int .i64 x2] h K := by
 have := Sat.ex tok mixed Qy Tryz.func135 (c := za Tryz.f135) (by kernel_rfl) (zb Tryz.func135 (c := za Tryz.f135) (by kernel_rfl) (by decide)) ((Vl _ _ x0 x1 x2 h).mpr hm)
 obtain ⟨v, h2, h3, r, rfl, h4⟩ := this; exact ⟨r, h2, h3, h4⟩
def zlb : Nat → List Nat := fun i => bif i == 0 then [1, 5, 6, 11, 12] else []
def zDs (S : SatT) (K : KT) : Kont := kSeq (cwp S tab zlb [] (sq Tryz.f66 5 31) (kFun tab (Tryz.f66).results.toList K)) (kFun tab (Tryz.f66).results.toList K)
def zfy (i1 : Int) (p5_ p6_ : Pt) (i11 i12 : Int) : Frame := (U :: .int .i64 i1 :: U :: U :: U :: .ptr p5_ :: .ptr p6_ :: uu 4 (.int .i64 i11 :: .int .i64 i12 :: uu 9 []))
def zzX (S : SatT) (K : KT) : (XT) → XT := fun X fr h => cwp S tab zlb (zlb 0) (sq Tryz.f66 8 244) (kSeq (fun fr h => X (mask (zlb 0) fr) h) (kBlk 0 (zDs S K))) fr h
def zzY (S : SatT) (K : KT) (i1 : Int) (p5_ p6_ : Pt) (i11 i12 : Int) (h : H) : Prop := zA (zzX S K) (zfy i1 p5_ p6_ i11 i12) h
def zzZ (S : SatT) (K : KT) (p5_ : Pt) (h : H) : Prop :=
 ldS p5_ h fun s0 =>
 K (.sl s0) h
def zpB (S : SatT) (K : KT) (X0 : XT) (i1 : Int) (p5_ p6_ : Pt) (i11 i12 : Int) (h : H) : Prop :=
 bif (decide (i12 < i11)) then
 ldV p6_ h fun v0 =>
 viaF v0 [.int .i64 i12, .int .i64 i12, .int .i64 (0), .int .i64 (0), .int .i64 i1] fun g1 ys2 =>
 callV S g1 ys2 h fun v4 h3 =>
 X0 (zfy i1 p5_ p6_ i11 (w64 (i12 + (1)))) h3
 else
 zzZ S K p5_ h
theorem zpA (S : SatT) (K : KT) (X0 : XT) (i1 : Int) (p5_ p6_ : Pt) (i11 i12 : Int) (h : H) : zzX S K X0 (zfy i1 p5_ p6_ i11 i12) h = zpB S K X0 i1 p5_ p6_ i11 i12 h := by kernel_rfl
theorem zpz (S : SatT) (K : KT) (i1 : Int) (p5_ p6_ : Pt) (i11 : Int) (I_ : Int → H → Prop) (m_ : Int → H → Nat)
  (hs : ∀ (X0 : XT) (i12 : Int) (h : H), I_ i12 h → (∀ (i12' : Int) (h' : H), I_ i12' h' → m_ i12' h' < m_ i12 h → X0 (zfy i1 p5_ p6_ i11 i12') h') → zpB S K X0 i1 p5_ p6_ i11 i12 h) (i12 : Int) {h : H} (h0 : I_ i12 h) : zzY S K i1 p5_ p6_ i11 i12 h :=
 ze (σ := (Int)) (fun s_ => zfy i1 p5_ p6_ i11 (s_)) (fun s_ h => I_ (s_) h) (fun s_ h => m_ (s_) h)
  (fun X s_ h hi hx => (zpA S K X i1 p5_ p6_ i11 (s_) h).mpr (hs X (s_) h hi fun i12' h' hi' hm' => hx (i12') h' hi' hm')) (i12) h0
def zaV (S : SatT) (K : KT) (x0 : List AVal) (x1 : Int) (h : H) : Prop :=
 newK 2 x0 h fun p0 h1 =>
 newS 0 2 [] h1 fun s2 h3 =>
 newO [.sl Sl.nil] h3 fun p4 h5 =>
 st1 p4 (.sl s2) h5 fun h6 =>
 newO [.nilFunc] h6 fun p7 h8 =>
 st1 p7 (.func 110 [.ptr p4, .ptr p0, .ptr p7]) h8 fun h9 =>
 isPt p0 (
 ldI .i64 (Pt.add p0 0) h9 fun n10 =>
 zzY S K x1 p4 p7 n10 (0) h9)
theorem zaU (S : SatT) (K : KT) (x0 : List AVal) (x1 : Int) (h : H) : cwp S tab zlb [] (za Tryz.f66) (kFun tab Tryz.f66.results.toList K) (fr0 Tryz.f66 [.agg x0, .int .i64 x1]) h = zaV S K x0 x1 h := by kernel_rfl
theorem zwQ (x0 : List AVal) (x1 : Int) (h : H) (K : Sl → H → Prop) (hm : zaV (Sat Tryz.prog) (fun v h' => ∃ r, v = .sl r ∧ K r h') x0 x1 h) : callS (Sat Tryz.prog) zCQ [.agg x0, .int .i64 x1] h K := by
 have := Sat.ex tok mixed zlb Tryz.func66 (c := za Tryz.f66) (by kernel_rfl) (zb Tryz.func66 (c := za Tryz.f66) (by kernel_rfl) (by decide)) ((zaU _ _ x0 x1 h).mpr hm)
 obtain ⟨v, h2, h3, r, rfl, h4⟩ := this; exact ⟨r, h2, h3, h4⟩
def Qz : Nat → List Nat := fun i => bif i == 0 then [1, 2, 3, 7, 8] else []
def zyw (S : SatT) (K : KT) : Kont := kSeq (cwp S tab Qz [] (sq Tryz.f120 3 7) (kFun tab (Tryz.f120).results.toList K)) (kFun tab (Tryz.f120).results.toList K)
def Ww (s1_ : Sl) (i2 : Int) (p3_ : Pt) (i7 i8 : Int) : Frame := (U :: .sl s1_ :: .int .i64 i2 :: .ptr p3_ :: U :: U :: U :: .int .i64 i7 :: .int .i64 i8 :: uu 22 [])
def zuj (S : SatT) (K : KT) : (XT) → XT := fun X fr h => cwp S tab Qz (Qz 0) (sq Tryz.f120 6 52) (kSeq (fun fr h => X (mask (Qz 0) fr) h) (kBlk 0 (zyw S K))) fr h
def zul (S : SatT) (K : KT) (s1_ : Sl) (i2 : Int) (p3_ : Pt) (i7 i8 : Int) (h : H) : Prop := zA (zuj S K) (Ww s1_ i2 p3_ i7 i8) h
def zum (S : SatT) (K : KT) (i7 : Int) (h : H) : Prop :=
 K (.int .i64 i7) h
def zim (S : SatT) (K : KT) (X0 : XT) (s1_ : Sl) (i2 : Int) (p3_ : Pt) (i7 i8 : Int) (h : H) : Prop :=
 bif (decide (i8 < (s1_.len : Int))) then
 isPt p3_ (
 ldI .i64 (Pt.add p3_ 0) h fun n0 =>
 isPt p3_ (
 ldS (Pt.add p3_ 1) h fun s1 =>
 ixS s1_ 1 i8 fun p2 =>
 ldI .i64 p2 h fun n3 =>
 ixS s1 4 n3 fun p4 =>
 ixA p4 4 1 i2 fun p5 =>
 ldI .i64 p5 h fun n6 =>
 X0 (Ww s1_ i2 p3_ (w64 ((w64 (i7 * n0)) + n6)) (w64 (i8 + (1)))) h))
 else
 zum S K i7 h
theorem zlV (S : SatT) (K : KT) (X0 : XT) (s1_ : Sl) (i2 : Int) (p3_ : Pt) (i7 i8 : Int) (h : H) : zuj S K X0 (Ww s1_ i2 p3_ i7 i8) h = zim S K X0 s1_ i2 p3_ i7 i8 h := by kernel_rfl
theorem zlU (S : SatT) (K : KT) (s1_ : Sl) (i2 : Int) (p3_ : Pt) (I_ : Int → Int → H → Prop) (m_ : Int → Int → H → Nat)
  (hs : ∀ (X0 : XT) (i7 i8 : Int) (h : H), I_ i7 i8 h → (∀ (i7' i8' : Int) (h' : H), I_ i7' i8' h' → m_ i7' i8' h' < m_ i7 i8 h → X0 (Ww s1_ i2 p3_ i7' i8') h') → zim S K X0 s1_ i2 p3_ i7 i8 h) (i7 i8 : Int) {h : H} (h0 : I_ i7 i8 h) : zul S K s1_ i2 p3_ i7 i8 h :=
 ze (σ := (Int) × (Int)) (fun s_ => Ww s1_ i2 p3_ (s_.1) (s_.2)) (fun s_ h => I_ (s_.1) (s_.2) h) (fun s_ h => m_ (s_.1) (s_.2) h)
  (fun X s_ h hi hx => (zlV S K X s1_ i2 p3_ (s_.1) (s_.2) h).mpr (hs X (s_.1) (s_.2) h hi fun i7' i8' h' hi' hm' => hx (i7', i8') h' hi' hm')) (i7, i8) h0
def Wv (S : SatT) (K : KT) (x0 : List AVal) (x1 : Sl) (x2 : Int) (h : H) : Prop :=
 newK 2 x0 h fun p0 h1 =>
 zul S K x1 x2 p0 (0) (0) h1
theorem Vp (S : SatT) (K : KT) (x0 : List AVal) (x1 : Sl) (x2 : Int) (h : H) : cwp S tab Qz [] (za Tryz.f120) (kFun tab Tryz.f120.results.toList K) (fr0 Tryz.f120 [.agg x0, .sl x1, .int .i64 x2]) h = Wv S K x0 x1 x2 h := by kernel_rfl
theorem zuk (x0 : List AVal) (x1 : Sl) (x2 : Int) (h : H) (K : Int → H → Prop) (hm : Wv (Sat Tryz.prog) (fun v h' => ∃ r, v = .int .i64 r ∧ K r h') x0 x1 x2 h) : callI (Sat Tryz.prog) .i64 zjp [.agg x0, .sl x1, .int .i64 x2] h K := by
 have := Sat.ex tok mixed Qz Tryz.func120 (c := za Tryz.f120) (by kernel_rfl) (zb Tryz.func120 (c := za Tryz.f120) (by kernel_rfl) (by decide)) ((Vp _ _ x0 x1 x2 h).mpr hm)
 obtain ⟨v, h2, h3, r, rfl, h4⟩ := this; exact ⟨r, h2, h3, h4⟩
def zkV : Nat → List Nat := fun i => bif i == 0 then [0, 1, 5] else []
def zDk (S : SatT) (K : KT) : Kont := kSeq (cwp S tab zkV [] (sq Tryz.f80 3 7) (kFun tab (Tryz.f80).results.toList K)) (kFun tab (Tryz.f80).results.toList K)
def zfo (i0 i1 i5 : Int) : Frame := (.int .i64 i0 :: .int .i64 i1 :: U :: U :: U :: .int .i64 i5 :: uu 8 [])
def zzA (S : SatT) (K : KT) : (XT) → XT := fun X fr h => cwp S tab zkV (zkV 0) (sq Tryz.f80 5 24) (kSeq (fun fr h => X (mask (zkV 0) fr) h) (kBlk 0 (zDk S K))) fr h
def zzB (S : SatT) (K : KT) (i0 i1 i5 : Int) (h : H) : Prop := zA (zzA S K) (zfo i0 i1 i5) h
def zzC (S : SatT) (K : KT) (i5 : Int) (h : H) : Prop :=
 K (.int .i64 i5) h
def zpb (S : SatT) (K : KT) (X0 : XT) (i0 i1 i5 : Int) (h : H) : Prop :=
 bif (decide (i1 > (0))) then
 X0 (zfo i0 (w64 (i1 - (1))) (w64 (i5 * i0))) h
 else
 zzC S K i5 h
theorem zpa (S : SatT) (K : KT) (X0 : XT) (i0 i1 i5 : Int) (h : H) : zzA S K X0 (zfo i0 i1 i5) h = zpb S K X0 i0 i1 i5 h := by kernel_rfl
theorem zoZ (S : SatT) (K : KT) (i0 : Int) (I_ : Int → Int → H → Prop) (m_ : Int → Int → H → Nat)
  (hs : ∀ (X0 : XT) (i1 i5 : Int) (h : H), I_ i1 i5 h → (∀ (i1' i5' : Int) (h' : H), I_ i1' i5' h' → m_ i1' i5' h' < m_ i1 i5 h → X0 (zfo i0 i1' i5') h') → zpb S K X0 i0 i1 i5 h) (i1 i5 : Int) {h : H} (h0 : I_ i1 i5 h) : zzB S K i0 i1 i5 h :=
 ze (σ := (Int) × (Int)) (fun s_ => zfo i0 (s_.1) (s_.2)) (fun s_ h => I_ (s_.1) (s_.2) h) (fun s_ h => m_ (s_.1) (s_.2) h)
  (fun X s_ h hi hx => (zpa S K X i0 (s_.1) (s_.2) h).mpr (hs X (s_.1) (s_.2) h hi fun i1' i5' h' hi' hm' => hx (i1', i5') h' hi' hm')) (i1, i5) h0
def zau (S : SatT) (K : KT) (x0 x1 : Int) (h : H) : Prop :=
 zzB S K x0 x1 (1) h
theorem zat (S : SatT) (K : KT) (x0 x1 : Int) (h : H) : cwp S tab zkV [] (za Tryz.f80) (kFun tab Tryz.f80.results.toList K) (fr0 Tryz.f80 [.int .i64 x0, .int .i64 x1]) h = zau S K x0 x1 h := by kernel_rfl
theorem zwC (x0 x1 : Int) (h : H) (K : Int → H → Prop) (hm : zau (Sat Tryz.prog) (fun v h' => ∃ r, v = .int .i64 r ∧ K r h') x0 x1 h) : callI (Sat Tryz.prog) .i64 znK [.int .i64 x0, .int .i64 x1] h K := by
 have := Sat.ex tok mixed zkV Tryz.func80 (c := za Tryz.f80) (by kernel_rfl) (zb Tryz.func80 (c := za Tryz.f80) (by kernel_rfl) (by decide)) ((zat _ _ x0 x1 h).mpr hm)
 obtain ⟨v, h2, h3, r, rfl, h4⟩ := this; exact ⟨r, h2, h3, h4⟩
def zGr : Nat → List Nat := fun i => []
def zaH (S : SatT) (K : KT) (x0 : Pt) (h : H) : Prop :=
 newO [.int .i64 (0), .sl Sl.nil] h fun p0 h1 =>
 callA S Qe [.ptr x0] h1 fun cs3 h2 =>
 newO [.int .i64 (0), .sl Sl.nil] h2 fun p4 h5 =>
 stN p4 2 cs3 h5 fun h6 =>
 callI S .i64 ym [.ptr x0, .int .i64 (3)] h6 fun n8 h7 =>
 bif (n8 == (0)) then
 callA S zos [.ptr x0] h7 fun cs10 h9 =>
 stN p4 2 cs10 h9 fun h11 =>
 isPt p4 (
 ldS (Pt.add p4 1) h11 fun s12 =>
 bif (decide ((s12.len : Int) > (10))) then
 callI S .i64 ym [.ptr x0, .int .i64 (4)] h11 fun n14 h13 =>
 bif (decide (n14 > (0))) then
 isPt p4 (
 ldI .i64 (Pt.add p4 0) h13 fun n15 =>
 newS 0 4 [] h13 fun s16 h17 =>
(cell h17 (Pt.add p4 0) = cell h13 (Pt.add p4 0)) ∧ (
 isPt p4 (
 ldS (Pt.add p4 1) h17 fun s18 =>
(cell h13 (Pt.add p4 1) = cell h17 (Pt.add p4 1)) ∧ (
 cut s18 4 (0) (8) h17 fun s19 =>
 okS h13 s18 ∧ (
 app s16 s19 4 h17 fun s20 h21 =>
(cell h21 (Pt.add p4 0) = cell h13 (Pt.add p4 0)) ∧ (
 stN p4 2 [.int .i64 n15, .sl s20] h21 fun h22 =>
 ldA p4 2 h22 fun cs23 =>
 stN p0 2 cs23 h22 fun h24 =>
 ldA p0 2 h24 fun cs25 =>
 K (.agg cs25) h24))))))
 else
 ldA p4 2 h13 fun cs26 =>
 stN p0 2 cs26 h13 fun h27 =>
 ldA p0 2 h27 fun cs28 =>
 K (.agg cs28) h27
 else
 ldA p4 2 h11 fun cs29 =>
 stN p0 2 cs29 h11 fun h30 =>
 ldA p0 2 h30 fun cs31 =>
 K (.agg cs31) h30)
 else
 isPt p4 (
 ldS (Pt.add p4 1) h7 fun s32 =>
 bif (decide ((s32.len : Int) > (10))) then
 callI S .i64 ym [.ptr x0, .int .i64 (4)] h7 fun n34 h33 =>
 bif (decide (n34 > (0))) then
 isPt p4 (
 ldI .i64 (Pt.add p4 0) h33 fun n35 =>
 newS 0 4 [] h33 fun s36 h37 =>
(cell h37 (Pt.add p4 0) = cell h33 (Pt.add p4 0)) ∧ (
 isPt p4 (
 ldS (Pt.add p4 1) h37 fun s38 =>
(cell h33 (Pt.add p4 1) = cell h37 (Pt.add p4 1)) ∧ (
 cut s38 4 (0) (8) h37 fun s39 =>
 okS h33 s38 ∧ (
 app s36 s39 4 h37 fun s40 h41 =>
(cell h41 (Pt.add p4 0) = cell h33 (Pt.add p4 0)) ∧ (
 stN p4 2 [.int .i64 n35, .sl s40] h41 fun h42 =>
 ldA p4 2 h42 fun cs43 =>
 stN p0 2 cs43 h42 fun h44 =>
 ldA p0 2 h44 fun cs45 =>
 K (.agg cs45) h44))))))
 else
 ldA p4 2 h33 fun cs46 =>
 stN p0 2 cs46 h33 fun h47 =>
 ldA p0 2 h47 fun cs48 =>
 K (.agg cs48) h47
 else
 ldA p4 2 h7 fun cs49 =>
 stN p0 2 cs49 h7 fun h50 =>
 ldA p0 2 h50 fun cs51 =>
 K (.agg cs51) h50)
theorem zaG (S : SatT) (K : KT) (x0 : Pt) (h : H) : cwp S tab zGr [] (za Tryz.f73) (kFun tab Tryz.f73.results.toList K) (fr0 Tryz.f73 [.ptr x0]) h = zaH S K x0 h := by kernel_rfl
theorem zwJ (x0 : Pt) (h : H) (K : List AVal → H → Prop) (hm : zaH (Sat Tryz.prog) (fun v h' => ∃ r, v = .agg r ∧ K r h') x0 h) : callA (Sat Tryz.prog) znM [.ptr x0] h K := by
 have := Sat.ex tok mixed zGr Tryz.func73 (c := za Tryz.f73) (by kernel_rfl) (zb Tryz.func73 (c := za Tryz.f73) (by kernel_rfl) (by decide)) ((zaG _ _ x0 h).mpr hm)
 obtain ⟨v, h2, h3, r, rfl, h4⟩ := this; exact ⟨r, h2, h3, h4⟩
def zBU : Nat → List Nat := fun i => []
def Wk (S : SatT) (K : KT) (x0 : Int) (x1 : Sl) (h : H) : Prop :=
 newO [.int .i64 (0), .sl Sl.nil] h fun p0 h1 =>
 callV S zod [.sl x1] h1 fun v3 h2 =>
 callS S zoe [v3, .func 116 []] h2 fun s5 h4 =>
 callS S zoc [.sl s5] h4 fun s7 h6 =>
 newO [.int .i64 (0), .sl Sl.nil] h6 fun p8 h9 =>
 stN p8 2 [.int .i64 x0, .sl s7] h9 fun h10 =>
 ldA p8 2 h10 fun cs11 =>
 isPt p8 (
 ldI .i64 (Pt.add p8 0) h10 fun n12 =>
 bif (decide (n12 ≤ (6))) then
 isPt p8 (
 ldS (Pt.add p8 1) h10 fun s13 =>
 stN p0 2 cs11 h10 fun h14 =>
(cell h14 (Pt.add p8 1) = cell h10 (Pt.add p8 1)) ∧ (
 ldA p0 2 h14 fun cs15 =>
 K (.tuple [.agg cs15, .bool (decide ((s13.len : Int) ≤ (16)))]) h14))
 else
 stN p0 2 cs11 h10 fun h16 =>
 ldA p0 2 h16 fun cs17 =>
 K (.tuple [.agg cs17, .bool false]) h16)
theorem Vj (S : SatT) (K : KT) (x0 : Int) (x1 : Sl) (h : H) : cwp S tab zBU [] (za Tryz.f140) (kFun tab Tryz.f140.results.toList K) (fr0 Tryz.f140 [.int .i64 x0, .sl x1]) h = Wk S K x0 x1 h := by kernel_rfl
theorem ztD (x0 : Int) (x1 : Sl) (h : H) (K : KT) (hm : Wk (Sat Tryz.prog) (fun v h' => K v h') x0 x1 h) : callV (Sat Tryz.prog) zom [.int .i64 x0, .sl x1] h K := by
 have := Sat.ex tok mixed zBU Tryz.func140 (c := za Tryz.f140) (by kernel_rfl) (zb Tryz.func140 (c := za Tryz.f140) (by kernel_rfl) (by decide)) ((Vj _ _ x0 x1 h).mpr hm)
 exact this
def f6_M : Nat → List Nat := fun i => []
def zht (S : SatT) (K : KT) (x0 : List AVal) (x1 x2 : Int) (h : H) : Prop :=
 newK 2 x0 h fun p0 h1 =>
 ldA p0 2 h1 fun cs2 =>
 callI S .i64 zkN [.agg cs2, .int .i64 x1, .int .i64 x2, .int .i64 (3)] h1 fun n4 h3 =>
 bif (n4 != (0)) then
 K (.tuple [.sl Sl.nil, .int .i64 n4]) h3
 else
 ldA p0 2 h3 fun cs5 =>
 callV S znO [.agg cs5, .int .i64 x1, .int .i64 x2] h3 fun v7 h6 =>
 viaT v7 fun vs8 =>
 exS vs8 0 fun s9 =>
 viaT v7 fun vs10 =>
 exB vs10 1 fun b11 =>
 bif (!b11) then
 K (.tuple [.sl Sl.nil, .int .i64 (4)]) h6
 else
 K (.tuple [.sl s9, .int .i64 (0)]) h6
theorem zfv (S : SatT) (K : KT) (x0 : List AVal) (x1 x2 : Int) (h : H) : cwp S tab f6_M [] (za Tryz.f8) (kFun tab Tryz.f8.results.toList K) (fr0 Tryz.f8 [.agg x0, .int .i64 x1, .int .i64 x2]) h = zht S K x0 x1 x2 h := by kernel_rfl
theorem zDp (x0 : List AVal) (x1 x2 : Int) (h : H) (K : KT) (hm : zht (Sat Tryz.prog) (fun v h' => K v h') x0 x1 x2 h) : callV (Sat Tryz.prog) i_f6 [.agg x0, .int .i64 x1, .int .i64 x2] h K := by
 have := Sat.ex tok mixed f6_M Tryz.func8 (c := za Tryz.f8) (by kernel_rfl) (zb Tryz.func8 (c := za Tryz.f8) (by kernel_rfl) (by decide)) ((zfv _ _ x0 x1 x2 h).mpr hm)
 exact this
def zGB : Nat → List Nat := fun i => []
def zbr (S : SatT) (K : KT) (x0 : List AVal) (x1 x2 : Int) (h : H) : Prop :=
 newK 2 x0 h fun p0 h1 =>
 newO [.int .i64 (0)] h1 fun p2 h3 =>
 st1 p2 (.int .i64 (0)) h3 fun h4 =>
 ldA p0 2 h4 fun cs5 =>
 callV S zjs [.agg cs5, .int .i64 x1, .int .i64 x2, .func 107 [.ptr p2]] h4 fun v7 h6 =>
 ldI .i64 p2 h6 fun n8 =>
 K (.int .i64 n8) h6
theorem zbq (S : SatT) (K : KT) (x0 : List AVal) (x1 x2 : Int) (h : H) : cwp S tab zGB [] (za Tryz.f55) (kFun tab Tryz.f55.results.toList K) (fr0 Tryz.f55 [.agg x0, .int .i64 x1, .int .i64 x2]) h = zbr S K x0 x1 x2 h := by kernel_rfl
theorem zxb (x0 : List AVal) (x1 x2 : Int) (h : H) (K : Int → H → Prop) (hm : zbr (Sat Tryz.prog) (fun v h' => ∃ r, v = .int .i64 r ∧ K r h') x0 x1 x2 h) : callI (Sat Tryz.prog) .i64 znN [.agg x0, .int .i64 x1, .int .i64 x2] h K := by
 have := Sat.ex tok mixed zGB Tryz.func55 (c := za Tryz.f55) (by kernel_rfl) (zb Tryz.func55 (c := za Tryz.f55) (by kernel_rfl) (by decide)) ((zbq _ _ x0 x1 x2 h).mpr hm)
 obtain ⟨v, h2, h3, r, rfl, h4⟩ := this; exact ⟨r, h2, h3, h4⟩
def f8_M : Nat → List Nat := fun i => []
def zhp (S : SatT) (K : KT) (x0 : List AVal) (x1 x2 : Int) (h : H) : Prop :=
 newK 2 x0 h fun p0 h1 =>
 ldA p0 2 h1 fun cs2 =>
 callI S .i64 zkN [.agg cs2, .int .i64 x1, .int .i64 x2, .int .i64 (3)] h1 fun n4 h3 =>
 bif (n4 != (0)) then
 K (.tuple [.int .i64 (0), .int .i64 n4]) h3
 else
 ldA p0 2 h3 fun cs5 =>
 callI S .i64 zwk [.agg cs5, .int .i64 x1, .int .i64 x2] h3 fun n7 h6 =>
 K (.tuple [.int .i64 n7, .int .i64 (0)]) h6
theorem zfg (S : SatT) (K : KT) (x0 : List AVal) (x1 x2 : Int) (h : H) : cwp S tab f8_M [] (za Tryz.f10) (kFun tab Tryz.f10.results.toList K) (fr0 Tryz.f10 [.agg x0, .int .i64 x1, .int .i64 x2]) h = zhp S K x0 x1 x2 h := by kernel_rfl
theorem zDe (x0 : List AVal) (x1 x2 : Int) (h : H) (K : KT) (hm : zhp (Sat Tryz.prog) (fun v h' => K v h') x0 x1 x2 h) : callV (Sat Tryz.prog) i_f8 [.agg x0, .int .i64 x1, .int .i64 x2] h K := by
 have := Sat.ex tok mixed f8_M Tryz.func10 (c := za Tryz.f10) (by kernel_rfl) (zb Tryz.func10 (c := za Tryz.f10) (by kernel_rfl) (by decide)) ((zfg _ _ x0 x1 x2 h).mpr hm)
 exact this
def f4_M : Nat → List Nat := fun i => []
def zhz (S : SatT) (K : KT) (x0 : Sl) (h : H) : Prop :=
 newO [.int .i64 (0), .sl Sl.nil] h fun p0 h1 =>
 callV S zwn [.sl x0] h1 fun v3 h2 =>
 viaT v3 fun vs4 =>
 exA vs4 0 fun cs5 =>
 viaT v3 fun vs6 =>
 exI .i64 vs6 1 fun n7 =>
 viaT v3 fun vs8 =>
 exI .i64 vs8 2 fun n9 =>
 newO [.int .i64 (0), .sl Sl.nil] h2 fun p10 h11 =>
 stN p10 2 cs5 h11 fun h12 =>
 ldA p10 2 h12 fun cs13 =>
 stN p0 2 cs13 h12 fun h14 =>
 ldA p0 2 h14 fun cs15 =>
 K (.tuple [.agg cs15, .int .i64 n7, .int .i64 n9]) h14
theorem zfH (S : SatT) (K : KT) (x0 : Sl) (h : H) : cwp S tab f4_M [] (za Tryz.f6) (kFun tab Tryz.f6.results.toList K) (fr0 Tryz.f6 [.sl x0]) h = zhz S K x0 h := by kernel_rfl
theorem zDz (x0 : Sl) (h : H) (K : KT) (hm : zhz (Sat Tryz.prog) (fun v h' => K v h') x0 h) : callV (Sat Tryz.prog) i_f4 [.sl x0] h K := by
 have := Sat.ex tok mixed f4_M Tryz.func6 (c := za Tryz.f6) (by kernel_rfl) (zb Tryz.func6 (c := za Tryz.f6) (by kernel_rfl) (by decide)) ((zfH _ _ x0 h).mpr hm)
 exact this
def zHm : Nat → List Nat := fun i => []
def zdL (S : SatT) (K : KT) (x0 : List AVal) (x1 : Sl) (h : H) : Prop :=
 newK 2 x0 h fun p0 h1 =>
 newO [.sl x1] h1 fun p2 h3 =>
 ldA p0 2 h3 fun cs4 =>
 callI S .i64 zeX [.agg cs4, .func 62 [.ptr p0, .ptr p2]] h3 fun n6 h5 =>
 bif (n6 != (0)) then
 K (.tuple [.bool false, .int .i64 n6]) h5
 else
 ldA p0 2 h5 fun cs7 =>
 ldS p2 h5 fun s8 =>
 callB S zwi [.agg cs7, .sl s8] h5 fun b10 h9 =>
 K (.tuple [.bool b10, .int .i64 (0)]) h9
theorem zdK (S : SatT) (K : KT) (x0 : List AVal) (x1 : Sl) (h : H) : cwp S tab zHm [] (za Tryz.f14) (kFun tab Tryz.f14.results.toList K) (fr0 Tryz.f14 [.agg x0, .sl x1]) h = zdL S K x0 x1 h := by kernel_rfl
theorem zyt (x0 : List AVal) (x1 : Sl) (h : H) (K : KT) (hm : zdL (Sat Tryz.prog) (fun v h' => K v h') x0 x1 h) : callV (Sat Tryz.prog) zCY [.agg x0, .sl x1] h K := by
 have := Sat.ex tok mixed zHm Tryz.func14 (c := za Tryz.f14) (by kernel_rfl) (zb Tryz.func14 (c := za Tryz.f14) (by kernel_rfl) (by decide)) ((zdK _ _ x0 x1 h).mpr hm)
 exact this
def zGM : Nat → List Nat := fun i => []
def zbR (S : SatT) (K : KT) (x0 : Sl) (h : H) : Prop :=
 newO [.int .i64 (0), .sl Sl.nil] h fun p0 h1 =>
 callP S zeW [.sl x0] h1 fun p3 h2 =>
 callV S zwh [.ptr p3] h2 fun v5 h4 =>
 viaT v5 fun vs6 =>
 exA vs6 0 fun cs7 =>
 viaT v5 fun vs8 =>
 exS vs8 1 fun s9 =>
 newO [.int .i64 (0), .sl Sl.nil] h4 fun p10 h11 =>
 stN p10 2 cs7 h11 fun h12 =>
 ldA p10 2 h12 fun cs13 =>
 stN p0 2 cs13 h12 fun h14 =>
 ldA p0 2 h14 fun cs15 =>
 K (.tuple [.agg cs15, .sl s9]) h14
theorem zbQ (S : SatT) (K : KT) (x0 : Sl) (h : H) : cwp S tab zGM [] (za Tryz.f24) (kFun tab Tryz.f24.results.toList K) (fr0 Tryz.f24 [.sl x0]) h = zbR S K x0 h := by kernel_rfl
theorem zxo (x0 : Sl) (h : H) (K : KT) (hm : zbR (Sat Tryz.prog) (fun v h' => K v h') x0 h) : callV (Sat Tryz.prog) znS [.sl x0] h K := by
 have := Sat.ex tok mixed zGM Tryz.func24 (c := za Tryz.f24) (by kernel_rfl) (zb Tryz.func24 (c := za Tryz.f24) (by kernel_rfl) (by decide)) ((zbQ _ _ x0 h).mpr hm)
 exact this
def zHo : Nat → List Nat := fun i => []
def zdS (S : SatT) (K : KT) (x0 : List AVal) (x1 : Sl) (h : H) : Prop :=
 newK 2 x0 h fun p0 h1 =>
 newO [.sl x1] h1 fun p2 h3 =>
 ldA p0 2 h3 fun cs4 =>
 callI S .i64 zeX [.agg cs4, .func 57 [.ptr p0, .ptr p2]] h3 fun n6 h5 =>
 bif (n6 != (0)) then
 K (.tuple [.bool false, .int .i64 n6]) h5
 else
 ldA p0 2 h5 fun cs7 =>
 ldS p2 h5 fun s8 =>
 callB S zCR [.agg cs7, .sl s8] h5 fun b10 h9 =>
 K (.tuple [.bool b10, .int .i64 (0)]) h9
theorem zdR (S : SatT) (K : KT) (x0 : List AVal) (x1 : Sl) (h : H) : cwp S tab zHo [] (za Tryz.f12) (kFun tab Tryz.f12.results.toList K) (fr0 Tryz.f12 [.agg x0, .sl x1]) h = zdS S K x0 x1 h := by kernel_rfl
theorem zyA (x0 : List AVal) (x1 : Sl) (h : H) (K : KT) (hm : zdS (Sat Tryz.prog) (fun v h' => K v h') x0 x1 h) : callV (Sat Tryz.prog) zkQ [.agg x0, .sl x1] h K := by
 have := Sat.ex tok mixed zHo Tryz.func12 (c := za Tryz.f12) (by kernel_rfl) (zb Tryz.func12 (c := za Tryz.f12) (by kernel_rfl) (by decide)) ((zdR _ _ x0 x1 h).mpr hm)
 exact this
def zBW : Nat → List Nat := fun i => []
def WB (S : SatT) (K : KT) (x0 x1 : List AVal) (h : H) : Prop :=
 newK 4 x0 h fun p0 h1 =>
 newK 4 x1 h1 fun p2 h3 =>
 cutA p0 4 1 (0) ((4 : Nat) : Int) fun s4 =>
 cutA p2 4 1 (0) ((4 : Nat) : Int) fun s5 =>
 callI S .i64 zof [.sl s4, .sl s5] h3 fun n7 h6 =>
 K (.int .i64 n7) h6
theorem Vt (S : SatT) (K : KT) (x0 x1 : List AVal) (h : H) : cwp S tab zBW [] (za Tryz.f116) (kFun tab Tryz.f116.results.toList K) (fr0 Tryz.f116 [.agg x0, .agg x1]) h = WB S K x0 x1 h := by kernel_rfl
theorem zuy (x0 x1 : List AVal) (h : H) (K : Int → H → Prop) (hm : WB (Sat Tryz.prog) (fun v h' => ∃ r, v = .int .i64 r ∧ K r h') x0 x1 h) : callI (Sat Tryz.prog) .i64 qB [.agg x0, .agg x1] h K := by
 have := Sat.ex tok mixed zBW Tryz.func116 (c := za Tryz.f116) (by kernel_rfl) (zb Tryz.func116 (c := za Tryz.f116) (by kernel_rfl) (by decide)) ((Vt _ _ x0 x1 h).mpr hm)
 obtain ⟨v, h2, h3, r, rfl, h4⟩ := this; exact ⟨r, h2, h3, h4⟩
def zHl : Nat → List Nat := fun i => []
def zdG (S : SatT) (K : KT) (x0 : List AVal) (h : H) : Prop :=
 newK 2 x0 h fun p0 h1 =>
 newO [.int .i64 (0), .sl Sl.nil] h1 fun p2 h3 =>
 ldA p0 2 h3 fun cs4 =>
 callV S zCP [.agg cs4, .func 69 []] h3 fun v6 h5 =>
 viaT v6 fun vs7 =>
 exA vs7 0 fun cs8 =>
 viaT v6 fun vs9 =>
 exI .i64 vs9 1 fun n10 =>
 stN p2 2 cs8 h5 fun h11 =>
 ldA p2 2 h11 fun cs12 =>
 K (.tuple [.agg cs12, .int .i64 n10]) h11
theorem zdF (S : SatT) (K : KT) (x0 : List AVal) (h : H) : cwp S tab zHl [] (za Tryz.f16) (kFun tab Tryz.f16.results.toList K) (fr0 Tryz.f16 [.agg x0]) h = zdG S K x0 h := by kernel_rfl
theorem zyk (x0 : List AVal) (h : H) (K : KT) (hm : zdG (Sat Tryz.prog) (fun v h' => K v h') x0 h) : callV (Sat Tryz.prog) zCX [.agg x0] h K := by
 have := Sat.ex tok mixed zHl Tryz.func16 (c := za Tryz.f16) (by kernel_rfl) (zb Tryz.func16 (c := za Tryz.f16) (by kernel_rfl) (by decide)) ((zdF _ _ x0 h).mpr hm)
 exact this
def zGF : Nat → List Nat := fun i => []
def zbB (S : SatT) (K : KT) (x0 x1 : Int) (h : H) : Prop :=
 callB S WX [.int .i64 x0, .int .i64 (1), .int .i64 (3)] h fun b1 h0 =>
 bif b1 then
 callB S WX [.int .i64 x1, .int .i64 (1), .int .i64 (3)] h0 fun b3 h2 =>
 K (.bool b3) h2
 else
 K (.bool false) h0
theorem zbA (S : SatT) (K : KT) (x0 x1 : Int) (h : H) : cwp S tab zGF [] (za Tryz.f50) (kFun tab Tryz.f50.results.toList K) (fr0 Tryz.f50 [.int .i64 x0, .int .i64 x1]) h = zbB S K x0 x1 h := by kernel_rfl
theorem zxg (x0 x1 : Int) (h : H) (K : Bool → H → Prop) (hm : zbB (Sat Tryz.prog) (fun v h' => ∃ r, v = .bool r ∧ K r h') x0 x1 h) : callB (Sat Tryz.prog) zwm [.int .i64 x0, .int .i64 x1] h K := by
 have := Sat.ex tok mixed zGF Tryz.func50 (c := za Tryz.f50) (by kernel_rfl) (zb Tryz.func50 (c := za Tryz.f50) (by kernel_rfl) (by decide)) ((zbA _ _ x0 x1 h).mpr hm)
 obtain ⟨v, h2, h3, r, rfl, h4⟩ := this; exact ⟨r, h2, h3, h4⟩
def zBI : Nat → List Nat := fun i => []
def Wb (S : SatT) (K : KT) (x0 : Int) (x1 : Sl) (h : H) : Prop :=
 newO [.int .i64 (0), .sl Sl.nil] h fun p0 h1 =>
 callS S zoa [.sl x1] h1 fun s3 h2 =>
 stN p0 2 [.int .i64 x0, .sl s3] h2 fun h4 =>
 ldA p0 2 h4 fun cs5 =>
 K (.agg cs5) h4
theorem Ve (S : SatT) (K : KT) (x0 : Int) (x1 : Sl) (h : H) : cwp S tab zBI [] (za Tryz.f145) (kFun tab Tryz.f145.results.toList K) (fr0 Tryz.f145 [.int .i64 x0, .sl x1]) h = Wb S K x0 x1 h := by kernel_rfl
theorem zti (x0 : Int) (x1 : Sl) (h : H) (K : List AVal → H → Prop) (hm : Wb (Sat Tryz.prog) (fun v h' => ∃ r, v = .agg r ∧ K r h') x0 x1 h) : callA (Sat Tryz.prog) Qc [.int .i64 x0, .sl x1] h K := by
 have := Sat.ex tok mixed zBI Tryz.func145 (c := za Tryz.f145) (by kernel_rfl) (zb Tryz.func145 (c := za Tryz.f145) (by kernel_rfl) (by decide)) ((Ve _ _ x0 x1 h).mpr hm)
 obtain ⟨v, h2, h3, r, rfl, h4⟩ := this; exact ⟨r, h2, h3, h4⟩
def zBC : Nat → List Nat := fun i => []
def XM (S : SatT) (K : KT) (x0 : AVal) (h : H) : Prop :=
 callS S znV [.sl Sl.nil, x0] h fun s1 h0 =>
 K (.sl s1) h0
theorem W3 (S : SatT) (K : KT) (x0 : AVal) (h : H) : cwp S tab zBC [] (za Tryz.f166) (kFun tab Tryz.f166.results.toList K) (fr0 Tryz.f166 [x0]) h = XM S K x0 h := by kernel_rfl
theorem zsD (x0 : AVal) (h : H) (K : Sl → H → Prop) (hm : XM (Sat Tryz.prog) (fun v h' => ∃ r, v = .sl r ∧ K r h') x0 h) : callS (Sat Tryz.prog) znX [x0] h K := by
 have := Sat.ex tok mixed zBC Tryz.func166 (c := za Tryz.f166) (by kernel_rfl) (zb Tryz.func166 (c := za Tryz.f166) (by kernel_rfl) (by decide)) ((W3 _ _ x0 h).mpr hm)
 obtain ⟨v, h2, h3, r, rfl, h4⟩ := this; exact ⟨r, h2, h3, h4⟩
def zBG : Nat → List Nat := fun i => []
def X9 (S : SatT) (K : KT) (x0 : Int) (x1 : Pt) (h : H) : Prop :=
 ldI .i64 x1 h fun n0 =>
 callB S WX [.int .i64 x0, .int .i64 (0), .int .i64 (w64 (n0 - (1)))] h fun b2 h1 =>
 K (.bool (!b2)) h1
theorem Vc (S : SatT) (K : KT) (x0 : Int) (x1 : Pt) (h : H) : cwp S tab zBG [] (za Tryz.f147) (kFun tab Tryz.f147.results.toList K) (fr0 Tryz.f147 [.int .i64 x0, .ptr x1]) h = X9 S K x0 x1 h := by kernel_rfl
theorem ztg (x0 : Int) (x1 : Pt) (h : H) (K : Bool → H → Prop) (hm : X9 (Sat Tryz.prog) (fun v h' => ∃ r, v = .bool r ∧ K r h') x0 x1 h) : callB (Sat Tryz.prog) zog [.int .i64 x0, .ptr x1] h K := by
 have := Sat.ex tok mixed zBG Tryz.func147 (c := za Tryz.f147) (by kernel_rfl) (zb Tryz.func147 (c := za Tryz.f147) (by kernel_rfl) (by decide)) ((Vc _ _ x0 x1 h).mpr hm)
 obtain ⟨v, h2, h3, r, rfl, h4⟩ := this; exact ⟨r, h2, h3, h4⟩
def zGv : Nat → List Nat := fun i => []
def zaT (S : SatT) (K : KT) (x0 : Int) (h : H) : Prop :=
 bif (decide (x0 > (1000000000000000))) then
 K (.tuple [.int .i64 (0), .int .i64 (3)]) h
 else
 K (.tuple [.int .i64 x0, .int .i64 (0)]) h
theorem zaS (S : SatT) (K : KT) (x0 : Int) (h : H) : cwp S tab zGv [] (za Tryz.f67) (kFun tab Tryz.f67.results.toList K) (fr0 Tryz.f67 [.int .i64 x0]) h = zaT S K x0 h := by kernel_rfl
theorem zwP (x0 : Int) (h : H) (K : KT) (hm : zaT (Sat Tryz.prog) (fun v h' => K v h') x0 h) : callV (Sat Tryz.prog) zGc [.int .i64 x0] h K := by
 have := Sat.ex tok mixed zGv Tryz.func67 (c := za Tryz.f67) (by kernel_rfl) (zb Tryz.func67 (c := za Tryz.f67) (by kernel_rfl) (by decide)) ((zaS _ _ x0 h).mpr hm)
 exact this
def we : Nat → List Nat := fun i => bif i == 4 then [3, 8, 9, 10, 11, 13, 14, 15, 16, 17, 18] else bif i == 2 then [3, 8, 9, 10, 11, 13, 14, 15, 16] else bif i == 0 then [1, 3, 8, 9, 10, 11, 12] else []
def zhy (S : SatT) (K : KT) : Kont := kSeq (cwp S tab we [] (sq Tryz.f53 4 15) (kFun tab (Tryz.f53).results.toList K)) (kFun tab (Tryz.f53).results.toList K)
def zfG (i1 : Int) (p3_ : Pt) (s8_ s9_ s10_ : Sl) (i11 i12 : Int) : Frame := (U :: .int .i64 i1 :: U :: .ptr p3_ :: uu 4 (.sl s8_ :: .sl s9_ :: .sl s10_ :: .int .i64 i11 :: .int .i64 i12 :: uu 103 []))
def zAC (S : SatT) (K : KT) : (XT) → XT := fun X fr h => cwp S tab we (we 0) (sq Tryz.f53 7 116) (kSeq (fun fr h => X (mask (we 0) fr) h) (kBlk 0 (zhy S K))) fr h
def zAF (S : SatT) (K : KT) (i1 : Int) (p3_ : Pt) (s8_ s9_ s10_ : Sl) (i11 i12 : Int) (h : H) : Prop := zA (zAC S K) (zfG i1 p3_ s8_ s9_ s10_ i11 i12) h
def zAI (S : SatT) (K : KT) (X0 : XT) (i1 : Int) (p3_ : Pt) (s8_ s9_ s10_ : Sl) (i11 i12 : Int) (h : H) : Prop :=
 X0 (zfG i1 p3_ s8_ s9_ s10_ i11 (w64 (i12 + (1)))) h
def zqi (S : SatT) (K : KT) (X0 : XT) : Kont := kSeq (cwp S tab we (we 0) (sq Tryz.f53 9 467) (kSeq (fun fr h => X0 (mask (we 0) fr) h) (kBlk 0 (zhy S K)))) (kSeq (fun fr h => X0 (mask (we 0) fr) h) (kBlk 0 (zhy S K)))
def zbw (S : SatT) (K : KT) (X0 : XT) : Kont := kSeq (cwp S tab we (we 1) (sq Tryz.f53 15 29855) (kBlk 1 (zqi S K X0))) (kBlk 1 (zqi S K X0))
def zfF (p3_ : Pt) (s8_ s9_ s10_ : Sl) (i11 i13 : Int) (s14_ : Sl) (i15 i16 : Int) : Frame := (U :: U :: U :: .ptr p3_ :: uu 4 (.sl s8_ :: .sl s9_ :: .sl s10_ :: .int .i64 i11 :: U :: .int .i64 i13 :: .sl s14_ :: .int .i64 i15 :: .int .i64 i16 :: uu 99 []))
def zAB (S : SatT) (K : KT) (X0 : XT) : (XT) → XT := fun X fr h => cwp S tab we (we 2) (sq Tryz.f53 18 238836) (kSeq (fun fr h => X (mask (we 2) fr) h) (kBlk 2 (zbw S K X0))) fr h
def zAE (S : SatT) (K : KT) (X0 : XT) (p3_ : Pt) (s8_ s9_ s10_ : Sl) (i11 i13 : Int) (s14_ : Sl) (i15 i16 : Int) (h : H) : Prop := zA (zAB S K X0) (zfF p3_ s8_ s9_ s10_ i11 i13 s14_ i15 i16) h
def zxd (S : SatT) (K : KT) (X0 X2 : XT) : Kont := kSeq (cwp S tab we (we 2) (sq Tryz.f53 20 955347) (kSeq (fun fr h => X2 (mask (we 2) fr) h) (kBlk 2 (zbw S K X0)))) (kSeq (fun fr h => X2 (mask (we 2) fr) h) (kBlk 2 (zbw S K X0)))
def XE (p3_ : Pt) (s8_ s9_ s10_ : Sl) (i11 i13 : Int) (s14_ : Sl) (i15 i16 : Int) (s17_ : Sl) (i18 : Int) : Frame := (U :: U :: U :: .ptr p3_ :: uu 4 (.sl s8_ :: .sl s9_ :: .sl s10_ :: .int .i64 i11 :: U :: .int .i64 i13 :: .sl s14_ :: .int .i64 i15 :: .int .i64 i16 :: .sl s17_ :: .int .i64 i18 :: uu 97 []))
def zAA (S : SatT) (K : KT) (X0 X2 : XT) : (XT) → XT := fun X fr h => cwp S tab we (we 4) (sq Tryz.f53 25 30571084) (kSeq (fun fr h => X (mask (we 4) fr) h) (kBlk 4 (kBlk 3 (zxd S K X0 X2)))) fr h
def zAD (S : SatT) (K : KT) (X0 X2 : XT) (p3_ : Pt) (s8_ s9_ s10_ : Sl) (i11 i13 : Int) (s14_ : Sl) (i15 i16 : Int) (s17_ : Sl) (i18 : Int) (h : H) : Prop := zA (zAA S K X0 X2) (XE p3_ s8_ s9_ s10_ i11 i13 s14_ i15 i16 s17_ i18) h
def zAG (S : SatT) (K : KT) (X0 X2 : XT) (p3_ : Pt) (s8_ s9_ s10_ : Sl) (i11 i13 : Int) (s14_ : Sl) (i15 i16 : Int) (h : H) : Prop :=
 X2 (zfF p3_ s8_ s9_ s10_ i11 i13 s14_ i15 (w64 (i16 - (1)))) h
def zqm (S : SatT) (K : KT) (X0 X2 : XT) (p3_ : Pt) (s8_ s9_ s10_ : Sl) (i11 i13 : Int) (s14_ : Sl) (i15 i16 : Int) (h : H) : Prop :=
 zAG S K X0 X2 p3_ s8_ s9_ s10_ i11 i13 s14_ i15 i16 h
def zqj (S : SatT) (K : KT) (X0 X2 X4 : XT) (p3_ : Pt) (s8_ s9_ s10_ : Sl) (i11 i13 : Int) (s14_ : Sl) (i15 i16 : Int) (s17_ : Sl) (i18 : Int) (h : H) : Prop :=
 bif (decide (i18 < (s8_.len : Int))) then
 ixS s9_ 1 i18 fun p0 =>
 ldI .i64 p0 h fun n1 =>
 bif (n1 == i15) then
 ixS s10_ 1 i18 fun p2 =>
 ldI .i64 p2 h fun n3 =>
 ixS s17_ 1 n3 fun p4 =>
 ldI .i64 p4 h fun n5 =>
 bif (decide (n5 > (0))) then
 ixS s8_ 1 i18 fun p6 =>
 ldS p6 h fun s7 =>
 callS S Zl [.sl s7] h fun s9 h8 =>
 newS 1 1 [.sl s9] h8 fun s10 h11 =>
 app s14_ s10 1 h11 fun s12 h13 =>
 ixS s10_ 1 i18 fun p14 =>
 ldI .i64 p14 h13 fun n15 =>
 zqm S K X0 X2 p3_ s8_ s9_ s10_ i11 i13 s12 n15 i16 h13
 else
 X4 (XE p3_ s8_ s9_ s10_ i11 i13 s14_ i15 i16 s17_ (w64 (i18 + (1)))) h
 else
 X4 (XE p3_ s8_ s9_ s10_ i11 i13 s14_ i15 i16 s17_ (w64 (i18 + (1)))) h
 else
 zqm S K X0 X2 p3_ s8_ s9_ s10_ i11 i13 s14_ i15 i16 h
theorem zqf (S : SatT) (K : KT) (X0 X2 X4 : XT) (p3_ : Pt) (s8_ s9_ s10_ : Sl) (i11 i13 : Int) (s14_ : Sl) (i15 i16 : Int) (s17_ : Sl) (i18 : Int) (h : H) : zAA S K X0 X2 X4 (XE p3_ s8_ s9_ s10_ i11 i13 s14_ i15 i16 s17_ i18) h = zqj S K X0 X2 X4 p3_ s8_ s9_ s10_ i11 i13 s14_ i15 i16 s17_ i18 h := by kernel_rfl
theorem zqc (S : SatT) (K : KT) (X0 X2 : XT) (p3_ : Pt) (s8_ s9_ s10_ : Sl) (i11 i13 i16 : Int) (s17_ : Sl) (I_ : Sl → Int → Int → H → Prop) (m_ : Sl → Int → Int → H → Nat)
  (hs : ∀ (X4 : XT) (s14_ : Sl) (i15 i18 : Int) (h : H), I_ s14_ i15 i18 h → (∀ (s14_' : Sl) (i15' i18' : Int) (h' : H), I_ s14_' i15' i18' h' → m_ s14_' i15' i18' h' < m_ s14_ i15 i18 h → X4 (XE p3_ s8_ s9_ s10_ i11 i13 s14_' i15' i16 s17_ i18') h') → zqj S K X0 X2 X4 p3_ s8_ s9_ s10_ i11 i13 s14_ i15 i16 s17_ i18 h) (s14_ : Sl) (i15 i18 : Int) {h : H} (h0 : I_ s14_ i15 i18 h) : zAD S K X0 X2 p3_ s8_ s9_ s10_ i11 i13 s14_ i15 i16 s17_ i18 h :=
 ze (σ := (Sl) × (Int) × (Int)) (fun s_ => XE p3_ s8_ s9_ s10_ i11 i13 (s_.1) (s_.2.1) i16 s17_ (s_.2.2)) (fun s_ h => I_ (s_.1) (s_.2.1) (s_.2.2) h) (fun s_ h => m_ (s_.1) (s_.2.1) (s_.2.2) h)
  (fun X s_ h hi hx => (zqf S K X0 X2 X p3_ s8_ s9_ s10_ i11 i13 (s_.1) (s_.2.1) i16 s17_ (s_.2.2) h).mpr (hs X (s_.1) (s_.2.1) (s_.2.2) h hi fun s14_' i15' i18' h' hi' hm' => hx (s14_', i15', i18') h' hi' hm')) (s14_, i15, i18) h0
def zAH (S : SatT) (K : KT) (X0 : XT) (s14_ : Sl) (h : H) : Prop :=
 K (.tuple [.sl s14_, .bool true]) h
def zqk (S : SatT) (K : KT) (X0 X2 : XT) (p3_ : Pt) (s8_ s9_ s10_ : Sl) (i11 i13 : Int) (s14_ : Sl) (i15 i16 : Int) (h : H) : Prop :=
 bif (decide (i16 ≥ (0))) then
 ldA p3_ 2 h fun cs0 =>
 callS S zhk [.agg cs0, .sl s9_, .sl s10_, .int .i64 i11, .int .i64 i16, .int .i64 i13] h fun s2 h1 =>
 zAD S K X0 X2 p3_ s8_ s9_ s10_ i11 i13 s14_ i15 i16 s2 (0) h1
 else
 zAH S K X0 s14_ h
theorem zqg (S : SatT) (K : KT) (X0 X2 : XT) (p3_ : Pt) (s8_ s9_ s10_ : Sl) (i11 i13 : Int) (s14_ : Sl) (i15 i16 : Int) (h : H) : zAB S K X0 X2 (zfF p3_ s8_ s9_ s10_ i11 i13 s14_ i15 i16) h = zqk S K X0 X2 p3_ s8_ s9_ s10_ i11 i13 s14_ i15 i16 h := by kernel_rfl
theorem zqd (S : SatT) (K : KT) (X0 : XT) (p3_ : Pt) (s8_ s9_ s10_ : Sl) (i11 i13 : Int) (I_ : Sl → Int → Int → H → Prop) (m_ : Sl → Int → Int → H → Nat)
  (hs : ∀ (X2 : XT) (s14_ : Sl) (i15 i16 : Int) (h : H), I_ s14_ i15 i16 h → (∀ (s14_' : Sl) (i15' i16' : Int) (h' : H), I_ s14_' i15' i16' h' → m_ s14_' i15' i16' h' < m_ s14_ i15 i16 h → X2 (zfF p3_ s8_ s9_ s10_ i11 i13 s14_' i15' i16') h') → zqk S K X0 X2 p3_ s8_ s9_ s10_ i11 i13 s14_ i15 i16 h) (s14_ : Sl) (i15 i16 : Int) {h : H} (h0 : I_ s14_ i15 i16 h) : zAE S K X0 p3_ s8_ s9_ s10_ i11 i13 s14_ i15 i16 h :=
 ze (σ := (Sl) × (Int) × (Int)) (fun s_ => zfF p3_ s8_ s9_ s10_ i11 i13 (s_.1) (s_.2.1) (s_.2.2)) (fun s_ h => I_ (s_.1) (s_.2.1) (s_.2.2) h) (fun s_ h => m_ (s_.1) (s_.2.1) (s_.2.2) h)
  (fun X s_ h hi hx => (zqg S K X0 X p3_ s8_ s9_ s10_ i11 i13 (s_.1) (s_.2.1) (s_.2.2) h).mpr (hs X (s_.1) (s_.2.1) (s_.2.2) h hi fun s14_' i15' i16' h' hi' hm' => hx (s14_', i15', i16') h' hi' hm')) (s14_, i15, i16) h0
def zAJ (S : SatT) (K : KT) (h : H) : Prop :=
 K (.tuple [.sl Sl.nil, .bool false]) h
def zql (S : SatT) (K : KT) (X0 : XT) (i1 : Int) (p3_ : Pt) (s8_ s9_ s10_ : Sl) (i11 i12 : Int) (h : H) : Prop :=
 bif (decide (i12 < (s8_.len : Int))) then
 ixS s9_ 1 i12 fun p0 =>
 ldI .i64 p0 h fun n1 =>
 newS 0 1 [] h fun s2 h3 =>
 ldA p3_ 2 h3 fun cs4 =>
 callS S zhk [.agg cs4, .sl s9_, .sl s10_, .int .i64 i11, .int .i64 (w64 (i1 - (1))), .int .i64 n1] h3 fun s6 h5 =>
 ixS s10_ 1 i12 fun p7 =>
 ldI .i64 p7 h5 fun n8 =>
(cell h3 p7 = cell h5 p7) ∧ (
 ixS s6 1 n8 fun p9 =>
 ldI .i64 p9 h5 fun n10 =>
 bif (n10 == (0)) then
 zAI S K X0 i1 p3_ s8_ s9_ s10_ i11 i12 h5
 else
 ixS s8_ 1 i12 fun p11 =>
 ldS p11 h5 fun s12 =>
 callS S Zl [.sl s12] h5 fun s14 h13 =>
 newS 1 1 [.sl s14] h13 fun s15 h16 =>
 app s2 s15 1 h16 fun s17 h18 =>
 ixS s10_ 1 i12 fun p19 =>
 ldI .i64 p19 h18 fun n20 =>
 zAE S K X0 p3_ s8_ s9_ s10_ i11 n1 s17 n20 (w64 (i1 - (2))) h18)
 else
 zAJ S K h
theorem zqh (S : SatT) (K : KT) (X0 : XT) (i1 : Int) (p3_ : Pt) (s8_ s9_ s10_ : Sl) (i11 i12 : Int) (h : H) : zAC S K X0 (zfG i1 p3_ s8_ s9_ s10_ i11 i12) h = zql S K X0 i1 p3_ s8_ s9_ s10_ i11 i12 h := by kernel_rfl
theorem zqe (S : SatT) (K : KT) (i1 : Int) (p3_ : Pt) (s8_ s9_ s10_ : Sl) (i11 : Int) (I_ : Int → H → Prop) (m_ : Int → H → Nat)
  (hs : ∀ (X0 : XT) (i12 : Int) (h : H), I_ i12 h → (∀ (i12' : Int) (h' : H), I_ i12' h' → m_ i12' h' < m_ i12 h → X0 (zfG i1 p3_ s8_ s9_ s10_ i11 i12') h') → zql S K X0 i1 p3_ s8_ s9_ s10_ i11 i12 h) (i12 : Int) {h : H} (h0 : I_ i12 h) : zAF S K i1 p3_ s8_ s9_ s10_ i11 i12 h :=
 ze (σ := (Int)) (fun s_ => zfG i1 p3_ s8_ s9_ s10_ i11 (s_)) (fun s_ h => I_ (s_) h) (fun s_ h => m_ (s_) h)
  (fun X s_ h hi hx => (zqh S K X i1 p3_ s8_ s9_ s10_ i11 (s_) h).mpr (hs X (s_) h hi fun i12' h' hi' hm' => hx (i12') h' hi' hm')) (i12) h0
def zbv (S : SatT) (K : KT) (x0 : List AVal) (x1 x2 : Int) (h : H) : Prop :=
 newK 2 x0 h fun p0 h1 =>
 ldA p0 2 h1 fun cs2 =>
 callV S znL [.agg cs2, .int .i64 x2] h1 fun v4 h3 =>
 viaT v4 fun vs5 =>
 exS vs5 0 fun s6 =>
 viaT v4 fun vs7 =>
 exS vs7 1 fun s8 =>
 viaT v4 fun vs9 =>
 exS vs9 2 fun s10 =>
 isPt p0 (
 ldI .i64 (Pt.add p0 0) h3 fun n11 =>
 callI S .i64 znK [.int .i64 n11, .int .i64 x2] h3 fun n13 h12 =>
 zAF S K x1 p0 s6 s8 s10 n13 (0) h12)
theorem zbu (S : SatT) (K : KT) (x0 : List AVal) (x1 x2 : Int) (h : H) : cwp S tab we [] (za Tryz.f53) (kFun tab Tryz.f53.results.toList K) (fr0 Tryz.f53 [.agg x0, .int .i64 x1, .int .i64 x2]) h = zbv S K x0 x1 x2 h := by kernel_rfl
theorem zxe (x0 : List AVal) (x1 x2 : Int) (h : H) (K : KT) (hm : zbv (Sat Tryz.prog) (fun v h' => K v h') x0 x1 x2 h) : callV (Sat Tryz.prog) znO [.agg x0, .int .i64 x1, .int .i64 x2] h K := by
 have := Sat.ex tok mixed we Tryz.func53 (c := za Tryz.f53) (by kernel_rfl) (zb Tryz.func53 (c := za Tryz.f53) (by kernel_rfl) (by decide)) ((zbu _ _ x0 x1 x2 h).mpr hm)
 exact this
def ZY : Nat → List Nat := fun i => bif i == 2 then [1, 2, 5, 6] else bif i == 0 then [1, 2, 5] else []
def zhq (S : SatT) (K : KT) : Kont := kSeq (cwp S tab ZY [] (sq Tryz.f84 2 3) (kFun tab (Tryz.f84).results.toList K)) (kFun tab (Tryz.f84).results.toList K)
def zfi (s1_ : Sl) (p2_ : Pt) (i5 : Int) : Frame := (U :: .sl s1_ :: .ptr p2_ :: U :: U :: .int .i64 i5 :: uu 70 [])
def zzi (S : SatT) (K : KT) : (XT) → XT := fun X fr h => cwp S tab ZY (ZY 0) (sq Tryz.f84 5 20) (kSeq (fun fr h => X (mask (ZY 0) fr) h) (kBlk 0 (zhq S K))) fr h
def zzk (S : SatT) (K : KT) (s1_ : Sl) (p2_ : Pt) (i5 : Int) (h : H) : Prop := zA (zzi S K) (zfi s1_ p2_ i5) h
def zDg (S : SatT) (K : KT) (X0 : XT) : Kont := kSeq (cwp S tab ZY (ZY 0) (sq Tryz.f84 7 83) (kSeq (fun fr h => X0 (mask (ZY 0) fr) h) (kBlk 0 (zhq S K)))) (kSeq (fun fr h => X0 (mask (ZY 0) fr) h) (kBlk 0 (zhq S K)))
def vK (s1_ : Sl) (p2_ : Pt) (i5 i6 : Int) : Frame := (U :: .sl s1_ :: .ptr p2_ :: U :: U :: .int .i64 i5 :: .int .i64 i6 :: uu 69 [])
def zzh (S : SatT) (K : KT) (X0 : XT) : (XT) → XT := fun X fr h => cwp S tab ZY (ZY 2) (sq Tryz.f84 11 1316) (kSeq (fun fr h => X (mask (ZY 2) fr) h) (kBlk 2 (kBlk 1 (zDg S K X0)))) fr h
def zzj (S : SatT) (K : KT) (X0 : XT) (s1_ : Sl) (p2_ : Pt) (i5 i6 : Int) (h : H) : Prop := zA (zzh S K X0) (vK s1_ p2_ i5 i6) h
def zzm (S : SatT) (K : KT) (X0 : XT) (s1_ : Sl) (p2_ : Pt) (i5 : Int) (h : H) : Prop :=
 X0 (zfi s1_ p2_ (w64 (i5 + (1)))) h
def zzl (S : SatT) (K : KT) (X0 : XT) (s1_ : Sl) (p2_ : Pt) (i5 : Int) (h : H) : Prop :=
 zzm S K X0 s1_ p2_ i5 h
def zoL (S : SatT) (K : KT) (X0 X2 : XT) (s1_ : Sl) (p2_ : Pt) (i5 i6 : Int) (h : H) : Prop :=
 ixS s1_ 1 i5 fun p0 =>
 ldS p0 h fun s1 =>
 bif (decide (i6 < (s1.len : Int))) then
 isPt p2_ (
 ldS (Pt.add p2_ 1) h fun s2 =>
 ixS s1_ 1 i5 fun p3 =>
 ldS p3 h fun s4 =>
 ixS s4 1 i6 fun p5 =>
 ldI .i64 p5 h fun n6 =>
 ixS s2 4 n6 fun p7 =>
 ldA p7 4 h fun cs8 =>
 newO [.int .i64 (0), .int .i64 (0), .int .i64 (0), .int .i64 (0)] h fun p9 h10 =>
(range h10 p7.o p7.n p7.off 4 = range h p7.o p7.n p7.off 4) ∧ (
(cell h10 p5 = cell h p5) ∧ (
(cell h10 p3 = cell h p3) ∧ (
(cell h10 (Pt.add p2_ 1) = cell h (Pt.add p2_ 1)) ∧ (
 stN p9 4 cs8 h10 fun h11 =>
 bif (decide (i6 > (0))) then
 isPt p2_ (
 ldS (Pt.add p2_ 1) h11 fun s12 =>
 ixS s1_ 1 i5 fun p13 =>
 ldS p13 h11 fun s14 =>
 ixS s14 1 (w64 (i6 - (1))) fun p15 =>
 ldI .i64 p15 h11 fun n16 =>
 ixS s12 4 n16 fun p17 =>
 ixA p17 4 1 (2) fun p18 =>
 ldI .i64 p18 h11 fun n19 =>
 ixA p9 4 1 (0) fun p20 =>
 ldI .i64 p20 h11 fun n21 =>
 bif (n19 != n21) then
 K (.bool false) h11
 else
 bif (decide (i5 > (0))) then
 isPt p2_ (
 ldS (Pt.add p2_ 1) h11 fun s22 =>
 ixS s1_ 1 (w64 (i5 - (1))) fun p23 =>
 ldS p23 h11 fun s24 =>
 ixS s24 1 i6 fun p25 =>
 ldI .i64 p25 h11 fun n26 =>
 ixS s22 4 n26 fun p27 =>
 ixA p27 4 1 (3) fun p28 =>
 ldI .i64 p28 h11 fun n29 =>
 ixA p9 4 1 (1) fun p30 =>
 ldI .i64 p30 h11 fun n31 =>
 bif (n29 != n31) then
 K (.bool false) h11
 else
 X2 (vK s1_ p2_ i5 (w64 (i6 + (1)))) h11)
 else
 X2 (vK s1_ p2_ i5 (w64 (i6 + (1)))) h11)
 else
 bif (decide (i5 > (0))) then
 isPt p2_ (
 ldS (Pt.add p2_ 1) h11 fun s32 =>
 ixS s1_ 1 (w64 (i5 - (1))) fun p33 =>
 ldS p33 h11 fun s34 =>
 ixS s34 1 i6 fun p35 =>
 ldI .i64 p35 h11 fun n36 =>
 ixS s32 4 n36 fun p37 =>
 ixA p37 4 1 (3) fun p38 =>
 ldI .i64 p38 h11 fun n39 =>
 ixA p9 4 1 (1) fun p40 =>
 ldI .i64 p40 h11 fun n41 =>
 bif (n39 != n41) then
 K (.bool false) h11
 else
 X2 (vK s1_ p2_ i5 (w64 (i6 + (1)))) h11)
 else
 X2 (vK s1_ p2_ i5 (w64 (i6 + (1)))) h11)))))
 else
 zzl S K X0 s1_ p2_ i5 h
theorem zoJ (S : SatT) (K : KT) (X0 X2 : XT) (s1_ : Sl) (p2_ : Pt) (i5 i6 : Int) (h : H) : zzh S K X0 X2 (vK s1_ p2_ i5 i6) h = zoL S K X0 X2 s1_ p2_ i5 i6 h := by kernel_rfl
theorem zoH (S : SatT) (K : KT) (X0 : XT) (s1_ : Sl) (p2_ : Pt) (i5 : Int) (I_ : Int → H → Prop) (m_ : Int → H → Nat)
  (hs : ∀ (X2 : XT) (i6 : Int) (h : H), I_ i6 h → (∀ (i6' : Int) (h' : H), I_ i6' h' → m_ i6' h' < m_ i6 h → X2 (vK s1_ p2_ i5 i6') h') → zoL S K X0 X2 s1_ p2_ i5 i6 h) (i6 : Int) {h : H} (h0 : I_ i6 h) : zzj S K X0 s1_ p2_ i5 i6 h :=
 ze (σ := (Int)) (fun s_ => vK s1_ p2_ i5 (s_)) (fun s_ h => I_ (s_) h) (fun s_ h => m_ (s_) h)
  (fun X s_ h hi hx => (zoJ S K X0 X s1_ p2_ i5 (s_) h).mpr (hs X (s_) h hi fun i6' h' hi' hm' => hx (i6') h' hi' hm')) (i6) h0
def zzn (S : SatT) (K : KT) (h : H) : Prop :=
 K (.bool true) h
def zoM (S : SatT) (K : KT) (X0 : XT) (s1_ : Sl) (p2_ : Pt) (i5 : Int) (h : H) : Prop :=
 bif (decide (i5 < (s1_.len : Int))) then
 zzj S K X0 s1_ p2_ i5 (0) h
 else
 zzn S K h
theorem zoK (S : SatT) (K : KT) (X0 : XT) (s1_ : Sl) (p2_ : Pt) (i5 : Int) (h : H) : zzi S K X0 (zfi s1_ p2_ i5) h = zoM S K X0 s1_ p2_ i5 h := by kernel_rfl
theorem zoI (S : SatT) (K : KT) (s1_ : Sl) (p2_ : Pt) (I_ : Int → H → Prop) (m_ : Int → H → Nat)
  (hs : ∀ (X0 : XT) (i5 : Int) (h : H), I_ i5 h → (∀ (i5' : Int) (h' : H), I_ i5' h' → m_ i5' h' < m_ i5 h → X0 (zfi s1_ p2_ i5') h') → zoM S K X0 s1_ p2_ i5 h) (i5 : Int) {h : H} (h0 : I_ i5 h) : zzk S K s1_ p2_ i5 h :=
 ze (σ := (Int)) (fun s_ => zfi s1_ p2_ (s_)) (fun s_ h => I_ (s_) h) (fun s_ h => m_ (s_) h)
  (fun X s_ h hi hx => (zoK S K X s1_ p2_ (s_) h).mpr (hs X (s_) h hi fun i5' h' hi' hm' => hx (i5') h' hi' hm')) (i5) h0
def zal (S : SatT) (K : KT) (x0 : List AVal) (x1 : Sl) (h : H) : Prop :=
 newK 2 x0 h fun p0 h1 =>
 zzk S K x1 p0 (0) h1
theorem zak (S : SatT) (K : KT) (x0 : List AVal) (x1 : Sl) (h : H) : cwp S tab ZY [] (za Tryz.f84) (kFun tab Tryz.f84.results.toList K) (fr0 Tryz.f84 [.agg x0, .sl x1]) h = zal S K x0 x1 h := by kernel_rfl
theorem zwx (x0 : List AVal) (x1 : Sl) (h : H) (K : Bool → H → Prop) (hm : zal (Sat Tryz.prog) (fun v h' => ∃ r, v = .bool r ∧ K r h') x0 x1 h) : callB (Sat Tryz.prog) zwf [.agg x0, .sl x1] h K := by
 have := Sat.ex tok mixed ZY Tryz.func84 (c := za Tryz.f84) (by kernel_rfl) (zb Tryz.func84 (c := za Tryz.f84) (by kernel_rfl) (by decide)) ((zak _ _ x0 x1 h).mpr hm)
 obtain ⟨v, h2, h3, r, rfl, h4⟩ := this; exact ⟨r, h2, h3, h4⟩
def xR : Nat → List Nat := fun i => bif i == 2 then [0, 3, 4, 5] else bif i == 0 then [0, 3, 4] else []
def zdB (S : SatT) (K : KT) : Kont := kSeq (cwp S tab xR [] (sq Tryz.f161 3 7) (kFun tab (Tryz.f161).results.toList K)) (kFun tab (Tryz.f161).results.toList K)
def Z6 (s0_ s3_ : Sl) (i4 : Int) : Frame := (.sl s0_ :: U :: U :: .sl s3_ :: .int .i64 i4 :: uu 58 [])
def zsJ (S : SatT) (K : KT) : (XT) → XT := fun X fr h => cwp S tab xR (xR 0) (sq Tryz.f161 6 52) (kSeq (fun fr h => X (mask (xR 0) fr) h) (kBlk 0 (zdB S K))) fr h
def zsM (S : SatT) (K : KT) (s0_ s3_ : Sl) (i4 : Int) (h : H) : Prop := zA (zsJ S K) (Z6 s0_ s3_ i4) h
def zjU (S : SatT) (K : KT) (X0 : XT) : Kont := kSeq (cwp S tab xR (xR 0) (sq Tryz.f161 8 211) (kSeq (fun fr h => X0 (mask (xR 0) fr) h) (kBlk 0 (zdB S K)))) (kSeq (fun fr h => X0 (mask (xR 0) fr) h) (kBlk 0 (zdB S K)))
def zyi (S : SatT) (K : KT) (X0 : XT) : Kont := kSeq (cwp S tab xR (xR 1) (sq Tryz.f161 11 1683) (kBlk 1 (zjU S K X0))) (kBlk 1 (zjU S K X0))
def XR (s0_ s3_ : Sl) (i4 i5 : Int) : Frame := (.sl s0_ :: U :: U :: .sl s3_ :: .int .i64 i4 :: .int .i64 i5 :: uu 57 [])
def zsI (S : SatT) (K : KT) (X0 : XT) : (XT) → XT := fun X fr h => cwp S tab xR (xR 2) (sq Tryz.f161 13 6728) (kSeq (fun fr h => X (mask (xR 2) fr) h) (kBlk 2 (zyi S K X0))) fr h
def zsL (S : SatT) (K : KT) (X0 : XT) (s0_ s3_ : Sl) (i4 i5 : Int) (h : H) : Prop := zA (zsI S K X0) (XR s0_ s3_ i4 i5) h
def zdD (S : SatT) (K : KT) (X0 : XT) (s0_ s3_ : Sl) (i4 : Int) (h : H) : Prop :=
 X0 (Z6 s0_ s3_ (w64 (i4 + (1)))) h
def zdC (S : SatT) (K : KT) (X0 : XT) (s0_ s3_ : Sl) (i4 i5 : Int) (h : H) : Prop :=
 bif (decide (i5 > (0))) then
 ixS s3_ 4 (w64 (i5 - (1))) fun p0 =>
 ldA p0 4 h fun cs1 =>
 ixS s0_ 4 i4 fun p2 =>
 ldA p2 4 h fun cs3 =>
 eqA .i64 4 cs1 cs3 fun b4 =>
 bif b4 then
 zdD S K X0 s0_ s3_ i4 h
 else
 ixS s0_ 4 i4 fun p5 =>
 ldA p5 4 h fun cs6 =>
 lenA cs6 4 (
 newS 1 4 (spl [.int .i64 (0), .int .i64 (0), .int .i64 (0), .int .i64 (0)] 0 4 cs6) h fun s7 h8 =>
 cut s3_ 4 i5 (s3_.len : Int) h8 fun s9 =>
 okS h s3_ ∧ (
 app s7 s9 4 h8 fun s10 h11 =>
 newS 0 4 [] h11 fun s12 h13 =>
 cut s3_ 4 (0) i5 h13 fun s14 =>
 app s12 s14 4 h13 fun s15 h16 =>
 app s15 s10 4 h16 fun s17 h18 =>
 zdD S K X0 s0_ s17 i4 h18))
 else
 ixS s0_ 4 i4 fun p19 =>
 ldA p19 4 h fun cs20 =>
 lenA cs20 4 (
 newS 1 4 (spl [.int .i64 (0), .int .i64 (0), .int .i64 (0), .int .i64 (0)] 0 4 cs20) h fun s21 h22 =>
 cut s3_ 4 i5 (s3_.len : Int) h22 fun s23 =>
 okS h s3_ ∧ (
 app s21 s23 4 h22 fun s24 h25 =>
 newS 0 4 [] h25 fun s26 h27 =>
 cut s3_ 4 (0) i5 h27 fun s28 =>
 app s26 s28 4 h27 fun s29 h30 =>
 app s29 s24 4 h30 fun s31 h32 =>
 zdD S K X0 s0_ s31 i4 h32))
def zhT (S : SatT) (K : KT) (X0 X2 : XT) (s0_ s3_ : Sl) (i4 i5 : Int) (h : H) : Prop :=
 bif (decide (i5 > (0))) then
 ixS s0_ 4 i4 fun p0 =>
 ldA p0 4 h fun cs1 =>
 ixS s3_ 4 (w64 (i5 - (1))) fun p2 =>
 ldA p2 4 h fun cs3 =>
 callB S zjq [.agg cs1, .agg cs3] h fun b5 h4 =>
 bif b5 then
 X2 (XR s0_ s3_ i4 (w64 (i5 - (1)))) h4
 else
 zdC S K X0 s0_ s3_ i4 i5 h4
 else
 zdC S K X0 s0_ s3_ i4 i5 h
theorem zlo (S : SatT) (K : KT) (X0 X2 : XT) (s0_ s3_ : Sl) (i4 i5 : Int) (h : H) : zsI S K X0 X2 (XR s0_ s3_ i4 i5) h = zhT S K X0 X2 s0_ s3_ i4 i5 h := by kernel_rfl
theorem zlm (S : SatT) (K : KT) (X0 : XT) (s0_ s3_ : Sl) (i4 : Int) (I_ : Int → H → Prop) (m_ : Int → H → Nat)
  (hs : ∀ (X2 : XT) (i5 : Int) (h : H), I_ i5 h → (∀ (i5' : Int) (h' : H), I_ i5' h' → m_ i5' h' < m_ i5 h → X2 (XR s0_ s3_ i4 i5') h') → zhT S K X0 X2 s0_ s3_ i4 i5 h) (i5 : Int) {h : H} (h0 : I_ i5 h) : zsL S K X0 s0_ s3_ i4 i5 h :=
 ze (σ := (Int)) (fun s_ => XR s0_ s3_ i4 (s_)) (fun s_ h => I_ (s_) h) (fun s_ h => m_ (s_) h)
  (fun X s_ h hi hx => (zlo S K X0 X s0_ s3_ i4 (s_) h).mpr (hs X (s_) h hi fun i5' h' hi' hm' => hx (i5') h' hi' hm')) (i5) h0
def zsN (S : SatT) (K : KT) (s3_ : Sl) (h : H) : Prop :=
 K (.sl s3_) h
def zhU (S : SatT) (K : KT) (X0 : XT) (s0_ s3_ : Sl) (i4 : Int) (h : H) : Prop :=
 bif (decide (i4 < (s0_.len : Int))) then
 zsL S K X0 s0_ s3_ i4 (s3_.len : Int) h
 else
 zsN S K s3_ h
theorem zlp (S : SatT) (K : KT) (X0 : XT) (s0_ s3_ : Sl) (i4 : Int) (h : H) : zsJ S K X0 (Z6 s0_ s3_ i4) h = zhU S K X0 s0_ s3_ i4 h := by kernel_rfl
theorem zln (S : SatT) (K : KT) (s0_ : Sl) (I_ : Sl → Int → H → Prop) (m_ : Sl → Int → H → Nat)
  (hs : ∀ (X0 : XT) (s3_ : Sl) (i4 : Int) (h : H), I_ s3_ i4 h → (∀ (s3_' : Sl) (i4' : Int) (h' : H), I_ s3_' i4' h' → m_ s3_' i4' h' < m_ s3_ i4 h → X0 (Z6 s0_ s3_' i4') h') → zhU S K X0 s0_ s3_ i4 h) (s3_ : Sl) (i4 : Int) {h : H} (h0 : I_ s3_ i4 h) : zsM S K s0_ s3_ i4 h :=
 ze (σ := (Sl) × (Int)) (fun s_ => Z6 s0_ (s_.1) (s_.2)) (fun s_ h => I_ (s_.1) (s_.2) h) (fun s_ h => m_ (s_.1) (s_.2) h)
  (fun X s_ h hi hx => (zlp S K X s0_ (s_.1) (s_.2) h).mpr (hs X (s_.1) (s_.2) h hi fun s3_' i4' h' hi' hm' => hx (s3_', i4') h' hi' hm')) (s3_, i4) h0
def XQ (S : SatT) (K : KT) (x0 : Sl) (h : H) : Prop :=
 newS 0 4 [] h fun s0 h1 =>
 zsM S K x0 s0 (0) h1
theorem W6 (S : SatT) (K : KT) (x0 : Sl) (h : H) : cwp S tab xR [] (za Tryz.f161) (kFun tab Tryz.f161.results.toList K) (fr0 Tryz.f161 [.sl x0]) h = XQ S K x0 h := by kernel_rfl
theorem zsK (x0 : Sl) (h : H) (K : Sl → H → Prop) (hm : XQ (Sat Tryz.prog) (fun v h' => ∃ r, v = .sl r ∧ K r h') x0 h) : callS (Sat Tryz.prog) zoa [.sl x0] h K := by
 have := Sat.ex tok mixed xR Tryz.func161 (c := za Tryz.f161) (by kernel_rfl) (zb Tryz.func161 (c := za Tryz.f161) (by kernel_rfl) (by decide)) ((W6 _ _ x0 h).mpr hm)
 obtain ⟨v, h2, h3, r, rfl, h4⟩ := this; exact ⟨r, h2, h3, h4⟩
def ZZ : Nat → List Nat := fun i => bif i == 2 then [1, 2, 5, 6] else bif i == 0 then [1, 2, 5] else []
def zaq (S : SatT) (K : KT) : Kont := kSeq (cwp S tab ZZ [] (sq Tryz.f82 4 15) (kFun tab (Tryz.f82).results.toList K)) (kFun tab (Tryz.f82).results.toList K)
def zfl (s1_ : Sl) (p2_ : Pt) (i5 : Int) : Frame := (U :: .sl s1_ :: .ptr p2_ :: U :: U :: .int .i64 i5 :: uu 64 [])
def zzs (S : SatT) (K : KT) : (XT) → XT := fun X fr h => cwp S tab ZZ (ZZ 0) (sq Tryz.f82 7 116) (kSeq (fun fr h => X (mask (ZZ 0) fr) h) (kBlk 0 (zaq S K))) fr h
def zzu (S : SatT) (K : KT) (s1_ : Sl) (p2_ : Pt) (i5 : Int) (h : H) : Prop := zA (zzs S K) (zfl s1_ p2_ i5) h
def zwz (S : SatT) (K : KT) (X0 : XT) : Kont := kSeq (cwp S tab ZZ (ZZ 0) (sq Tryz.f82 9 467) (kSeq (fun fr h => X0 (mask (ZZ 0) fr) h) (kBlk 0 (zaq S K)))) (kSeq (fun fr h => X0 (mask (ZZ 0) fr) h) (kBlk 0 (zaq S K)))
def zfk (s1_ : Sl) (p2_ : Pt) (i5 i6 : Int) : Frame := (U :: .sl s1_ :: .ptr p2_ :: U :: U :: .int .i64 i5 :: .int .i64 i6 :: uu 63 [])
def zzr (S : SatT) (K : KT) (X0 : XT) : (XT) → XT := fun X fr h => cwp S tab ZZ (ZZ 2) (sq Tryz.f82 14 14924) (kSeq (fun fr h => X (mask (ZZ 2) fr) h) (kBlk 2 (kBlk 1 (zwz S K X0)))) fr h
def zzt (S : SatT) (K : KT) (X0 : XT) (s1_ : Sl) (p2_ : Pt) (i5 i6 : Int) (h : H) : Prop := zA (zzr S K X0) (zfk s1_ p2_ i5 i6) h
def zzw (S : SatT) (K : KT) (X0 : XT) (s1_ : Sl) (p2_ : Pt) (i5 : Int) (h : H) : Prop :=
 X0 (zfl s1_ p2_ (w64 (i5 + (1)))) h
def zzv (S : SatT) (K : KT) (X0 : XT) (s1_ : Sl) (p2_ : Pt) (i5 : Int) (h : H) : Prop :=
 zzw S K X0 s1_ p2_ i5 h
def zoU (S : SatT) (K : KT) (X0 X2 : XT) (s1_ : Sl) (p2_ : Pt) (i5 i6 : Int) (h : H) : Prop :=
 ixS s1_ 1 i5 fun p0 =>
 ldS p0 h fun s1 =>
 bif (decide (i6 < (s1.len : Int))) then
 ixS s1_ 1 i5 fun p2 =>
 ldS p2 h fun s3 =>
 ixS s3 1 i6 fun p4 =>
 ldI .i64 p4 h fun n5 =>
 isPt p2_ (
 ldS (Pt.add p2_ 1) h fun s6 =>
 callB S zeU [.int .i64 n5, .int .i64 (0), .int .i64 (w64 ((s6.len : Int) - (1)))] h fun b8 h7 =>
 bif (!b8) then
 K (.int .i64 (2)) h7
 else
 X2 (zfk s1_ p2_ i5 (w64 (i6 + (1)))) h7)
 else
 zzv S K X0 s1_ p2_ i5 h
theorem zoS (S : SatT) (K : KT) (X0 X2 : XT) (s1_ : Sl) (p2_ : Pt) (i5 i6 : Int) (h : H) : zzr S K X0 X2 (zfk s1_ p2_ i5 i6) h = zoU S K X0 X2 s1_ p2_ i5 i6 h := by kernel_rfl
theorem zoQ (S : SatT) (K : KT) (X0 : XT) (s1_ : Sl) (p2_ : Pt) (i5 : Int) (I_ : Int → H → Prop) (m_ : Int → H → Nat)
  (hs : ∀ (X2 : XT) (i6 : Int) (h : H), I_ i6 h → (∀ (i6' : Int) (h' : H), I_ i6' h' → m_ i6' h' < m_ i6 h → X2 (zfk s1_ p2_ i5 i6') h') → zoU S K X0 X2 s1_ p2_ i5 i6 h) (i6 : Int) {h : H} (h0 : I_ i6 h) : zzt S K X0 s1_ p2_ i5 i6 h :=
 ze (σ := (Int)) (fun s_ => zfk s1_ p2_ i5 (s_)) (fun s_ h => I_ (s_) h) (fun s_ h => m_ (s_) h)
  (fun X s_ h hi hx => (zoS S K X0 X s1_ p2_ i5 (s_) h).mpr (hs X (s_) h hi fun i6' h' hi' hm' => hx (i6') h' hi' hm')) (i6) h0
def zzx (S : SatT) (K : KT) (h : H) : Prop :=
 K (.int .i64 (0)) h
def zoV (S : SatT) (K : KT) (X0 : XT) (s1_ : Sl) (p2_ : Pt) (i5 : Int) (h : H) : Prop :=
 bif (decide (i5 < (s1_.len : Int))) then
 ixS s1_ 1 i5 fun p0 =>
 ldS p0 h fun s1 =>
 ixS s1_ 1 (0) fun p2 =>
 ldS p2 h fun s3 =>
 bif ((s1.len : Int) != (s3.len : Int)) then
 K (.int .i64 (2)) h
 else
 zzt S K X0 s1_ p2_ i5 (0) h
 else
 zzx S K h
theorem zoT (S : SatT) (K : KT) (X0 : XT) (s1_ : Sl) (p2_ : Pt) (i5 : Int) (h : H) : zzs S K X0 (zfl s1_ p2_ i5) h = zoV S K X0 s1_ p2_ i5 h := by kernel_rfl
theorem zoR (S : SatT) (K : KT) (s1_ : Sl) (p2_ : Pt) (I_ : Int → H → Prop) (m_ : Int → H → Nat)
  (hs : ∀ (X0 : XT) (i5 : Int) (h : H), I_ i5 h → (∀ (i5' : Int) (h' : H), I_ i5' h' → m_ i5' h' < m_ i5 h → X0 (zfl s1_ p2_ i5') h') → zoV S K X0 s1_ p2_ i5 h) (i5 : Int) {h : H} (h0 : I_ i5 h) : zzu S K s1_ p2_ i5 h :=
 ze (σ := (Int)) (fun s_ => zfl s1_ p2_ (s_)) (fun s_ h => I_ (s_) h) (fun s_ h => m_ (s_) h)
  (fun X s_ h hi hx => (zoT S K X s1_ p2_ (s_) h).mpr (hs X (s_) h hi fun i5' h' hi' hm' => hx (i5') h' hi' hm')) (i5) h0
def zap (S : SatT) (K : KT) (x0 : List AVal) (x1 : Sl) (h : H) : Prop :=
 newK 2 x0 h fun p0 h1 =>
 ldA p0 2 h1 fun cs2 =>
 callB S zeV [.agg cs2] h1 fun b4 h3 =>
 bif (!b4) then
 K (.int .i64 (1)) h3
 else
 bif (decide ((x1.len : Int) < (1))) then
 K (.int .i64 (2)) h3
 else
 bif (decide ((x1.len : Int) > (8))) then
 K (.int .i64 (2)) h3
 else
 ixS x1 1 (0) fun p5 =>
 ldS p5 h3 fun s6 =>
 bif (decide ((s6.len : Int) < (1))) then
 K (.int .i64 (2)) h3
 else
 ixS x1 1 (0) fun p7 =>
 ldS p7 h3 fun s8 =>
 bif (decide ((s8.len : Int) > (8))) then
 K (.int .i64 (2)) h3
 else
 zzu S K x1 p0 (0) h3
theorem zao (S : SatT) (K : KT) (x0 : List AVal) (x1 : Sl) (h : H) : cwp S tab ZZ [] (za Tryz.f82) (kFun tab Tryz.f82.results.toList K) (fr0 Tryz.f82 [.agg x0, .sl x1]) h = zap S K x0 x1 h := by kernel_rfl
theorem zwA (x0 : List AVal) (x1 : Sl) (h : H) (K : Int → H → Prop) (hm : zap (Sat Tryz.prog) (fun v h' => ∃ r, v = .int .i64 r ∧ K r h') x0 x1 h) : callI (Sat Tryz.prog) .i64 zwg [.agg x0, .sl x1] h K := by
 have := Sat.ex tok mixed ZZ Tryz.func82 (c := za Tryz.f82) (by kernel_rfl) (zb Tryz.func82 (c := za Tryz.f82) (by kernel_rfl) (by decide)) ((zao _ _ x0 x1 h).mpr hm)
 obtain ⟨v, h2, h3, r, rfl, h4⟩ := this; exact ⟨r, h2, h3, h4⟩
def zkU : Nat → List Nat := fun i => bif i == 0 then [0, 2, 4, 5, 8] else []
def zDj (S : SatT) (K : KT) : Kont := kSeq (cwp S tab zkU [] (sq Tryz.f81 5 31) (kFun tab (Tryz.f81).results.toList K)) (kFun tab (Tryz.f81).results.toList K)
def zfn (p0_ p2_ p4_ : Pt) (s5_ : Sl) (i8 : Int) : Frame := (.ptr p0_ :: U :: .ptr p2_ :: U :: .ptr p4_ :: .sl s5_ :: U :: U :: .int .i64 i8 :: uu 69 [])
def zzy (S : SatT) (K : KT) : (XT) → XT := fun X fr h => cwp S tab zkU (zkU 0) (sq Tryz.f81 14 15796) (kSeq (fun fr h => X (mask (zkU 0) fr) h) (kBlk 0 (zDj S K))) fr h
def zzz (S : SatT) (K : KT) (p0_ p2_ p4_ : Pt) (s5_ : Sl) (i8 : Int) (h : H) : Prop := zA (zzy S K) (zfn p0_ p2_ p4_ s5_ i8) h
def zjA (S : SatT) (K : KT) (p0_ p2_ p4_ : Pt) (s5_ : Sl) (h : H) : Prop :=
 ldA p4_ 2 h fun cs0 =>
 callA S Q9 [.ptr p0_, .agg cs0] h fun cs2 h1 =>
 stN p2_ 2 cs2 h1 fun h3 =>
 ldA p2_ 2 h3 fun cs4 =>
 K (.tuple [.agg cs4, .sl s5_]) h3
def zoY (S : SatT) (K : KT) (X0 : XT) (p0_ p2_ p4_ : Pt) (s5_ : Sl) (i8 : Int) (h : H) : Prop :=
 bif (decide (i8 < (s5_.len : Int))) then
 ixS s5_ 1 i8 fun p0 =>
 ldS p0 h fun s1 =>
 ixS s5_ 1 i8 fun p2 =>
 ldS p2 h fun s3 =>
 app s1 s3 1 h fun s4 h5 =>
 ixS s5_ 1 i8 fun p6 =>
 st1 p6 (.sl s4) h5 fun h7 =>
 X0 (zfn p0_ p2_ p4_ s5_ (w64 (i8 + (1)))) h7
 else
 zjA S K p0_ p2_ p4_ s5_ h
theorem zoX (S : SatT) (K : KT) (X0 : XT) (p0_ p2_ p4_ : Pt) (s5_ : Sl) (i8 : Int) (h : H) : zzy S K X0 (zfn p0_ p2_ p4_ s5_ i8) h = zoY S K X0 p0_ p2_ p4_ s5_ i8 h := by kernel_rfl
theorem zoW (S : SatT) (K : KT) (p0_ p2_ p4_ : Pt) (s5_ : Sl) (I_ : Int → H → Prop) (m_ : Int → H → Nat)
  (hs : ∀ (X0 : XT) (i8 : Int) (h : H), I_ i8 h → (∀ (i8' : Int) (h' : H), I_ i8' h' → m_ i8' h' < m_ i8 h → X0 (zfn p0_ p2_ p4_ s5_ i8') h') → zoY S K X0 p0_ p2_ p4_ s5_ i8 h) (i8 : Int) {h : H} (h0 : I_ i8 h) : zzz S K p0_ p2_ p4_ s5_ i8 h :=
 ze (σ := (Int)) (fun s_ => zfn p0_ p2_ p4_ s5_ (s_)) (fun s_ h => I_ (s_) h) (fun s_ h => m_ (s_) h)
  (fun X s_ h hi hx => (zoX S K X p0_ p2_ p4_ s5_ (s_) h).mpr (hs X (s_) h hi fun i8' h' hi' hm' => hx (i8') h' hi' hm')) (i8) h0
def zas (S : SatT) (K : KT) (x0 : Pt) (h : H) : Prop :=
 newO [.int .i64 (0), .sl Sl.nil] h fun p0 h1 =>
 callA S znM [.ptr x0] h1 fun cs3 h2 =>
 newO [.int .i64 (0), .sl Sl.nil] h2 fun p4 h5 =>
 stN p4 2 cs3 h5 fun h6 =>
 isPt p4 (
 ldS (Pt.add p4 1) h6 fun s7 =>
 bif ((s7.len : Int) == (0)) then
 ldA p4 2 h6 fun cs8 =>
 callA S Q9 [.ptr x0, .agg cs8] h6 fun cs10 h9 =>
 newS 1 1 [.int .i64 (0)] h9 fun s11 h12 =>
 newS 1 1 [.sl s11] h12 fun s13 h14 =>
 stN p0 2 cs10 h14 fun h15 =>
 ldA p0 2 h15 fun cs16 =>
 K (.tuple [.agg cs16, .sl s13]) h15
 else
 newS 0 1 [] h6 fun s17 h18 =>
 qE 13 h18 fun h19 =>
 ldA p4 2 h19 fun cs20 =>
 vE 4 1 [.int .i64 (1), .int .i64 (2), .int .i64 (2), .int .i64 (3)] h19 (h18.length + 2) fun s21 h22 =>
(range h22 p4.o p4.n p4.off 2 = range h19 p4.o p4.n p4.off 2) ∧ (
 callI S .i64 qv [.ptr x0, .sl s21] h22 fun n24 h23 =>
(range h23 p4.o p4.n p4.off 2 = range h19 p4.o p4.n p4.off 2) ∧ (
 vE 4 1 [.int .i64 (1), .int .i64 (2), .int .i64 (3), .int .i64 (3)] h23 (h18.length + 5) fun s25 h26 =>
(range h26 p4.o p4.n p4.off 2 = range h19 p4.o p4.n p4.off 2) ∧ (
 callI S .i64 qv [.ptr x0, .sl s25] h26 fun n28 h27 =>
(range h27 p4.o p4.n p4.off 2 = range h19 p4.o p4.n p4.off 2) ∧ (
 callV S znO [.agg cs20, .int .i64 n24, .int .i64 n28] h27 fun v30 h29 =>
 viaT v30 fun vs31 =>
 exS vs31 0 fun s32 =>
 viaT v30 fun vs33 =>
 exB vs33 1 fun b34 =>
 bif b34 then
 callI S .i64 ym [.ptr x0, .int .i64 (6)] h29 fun n36 h35 =>
 bif (decide (n36 > (0))) then
 callI S .i64 ym [.ptr x0, .int .i64 (s32.len : Int)] h35 fun n38 h37 =>
 ixS s32 1 (0) fun p39 =>
 ldS p39 h37 fun s40 =>
(cell h35 p39 = cell h37 p39) ∧ (
 callI S .i64 ym [.ptr x0, .int .i64 (s40.len : Int)] h37 fun n42 h41 =>
 callS S zop [.sl s32, .int .i64 n38, .int .i64 n42] h41 fun s44 h43 =>
 callI S .i64 ym [.ptr x0, .int .i64 (4)] h43 fun n46 h45 =>
 bif (n46 == (0)) then
 zzz S K x0 p0 p4 s44 (0) h45
 else
 ldA p4 2 h45 fun cs47 =>
 callA S Q9 [.ptr x0, .agg cs47] h45 fun cs49 h48 =>
 stN p0 2 cs49 h48 fun h50 =>
 ldA p0 2 h50 fun cs51 =>
 K (.tuple [.agg cs51, .sl s44]) h50)
 else
 ldA p4 2 h35 fun cs52 =>
 callS S zeZ [.ptr x0, .agg cs52] h35 fun s54 h53 =>
 ldA p4 2 h53 fun cs55 =>
 callA S Q9 [.ptr x0, .agg cs55] h53 fun cs57 h56 =>
 stN p0 2 cs57 h56 fun h58 =>
 ldA p0 2 h58 fun cs59 =>
 K (.tuple [.agg cs59, .sl s54]) h58
 else
 ldA p4 2 h29 fun cs60 =>
 callS S zeZ [.ptr x0, .agg cs60] h29 fun s62 h61 =>
 ldA p4 2 h61 fun cs63 =>
 callA S Q9 [.ptr x0, .agg cs63] h61 fun cs65 h64 =>
 stN p0 2 cs65 h64 fun h66 =>
 ldA p0 2 h66 fun cs67 =>
 K (.tuple [.agg cs67, .sl s62]) h66)))))
theorem zar (S : SatT) (K : KT) (x0 : Pt) (h : H) : cwp S tab zkU [] (za Tryz.f81) (kFun tab Tryz.f81.results.toList K) (fr0 Tryz.f81 [.ptr x0]) h = zas S K x0 h := by kernel_rfl
theorem zwB (x0 : Pt) (h : H) (K : KT) (hm : zas (Sat Tryz.prog) (fun v h' => K v h') x0 h) : callV (Sat Tryz.prog) zwh [.ptr x0] h K := by
 have := Sat.ex tok mixed zkU Tryz.func81 (c := za Tryz.f81) (by kernel_rfl) (zb Tryz.func81 (c := za Tryz.f81) (by kernel_rfl) (by decide)) ((zar _ _ x0 h).mpr hm)
 exact this
def zgk : Nat → List Nat := fun i => bif i == 0 then [0, 1, 2, 3, 4, 6, 7, 27, 28, 29] else []
def Z8 (i0 i1 : Int) (i2 i3 i4 : Int) (p6_ p7_ : Pt) (s27_ : Sl) (i28 i29 : Int) : Frame := (.int .i64 i0 :: .int .i64 i1 :: .int .i64 i2 :: .int .i64 i3 :: .int .i64 i4 :: U :: .ptr p6_ :: .ptr p7_ :: uu 19 (.sl s27_ :: .int .i64 i28 :: .int .i64 i29 :: uu 29 []))
def zuE (S : SatT) (K : KT) : (XT) → XT := fun X fr h => cwp S tab zgk (zgk 0) (sq Tryz.f110 4 12) (kSeq (fun fr h => X (mask (zgk 0) fr) h) (kBlk 0 (kFun tab (Tryz.f110).results.toList K))) fr h
def zuF (S : SatT) (K : KT) (i0 i1 : Int) (i2 i3 i4 : Int) (p6_ p7_ : Pt) (s27_ : Sl) (i28 i29 : Int) (h : H) : Prop := zA (zuE S K) (Z8 i0 i1 i2 i3 i4 p6_ p7_ s27_ i28 i29) h
def zir (S : SatT) (K : KT) (X0 : XT) (i0 i1 : Int) (i2 i3 i4 : Int) (p6_ p7_ : Pt) (s27_ : Sl) (i28 i29 : Int) (h : H) : Prop :=
 bif (decide (i29 < i28)) then
 ixS s27_ 4 i29 fun p0 =>
 ldA p0 4 h fun cs1 =>
 newO [.int .i64 (0), .int .i64 (0), .int .i64 (0), .int .i64 (0)] h fun p2 h3 =>
 stN p2 4 cs1 h3 fun h4 =>
 ixA p2 4 1 (0) fun p5 =>
 ldI .i64 p5 h4 fun n6 =>
 bif (n6 == i1) then
 ldV p7_ h4 fun v7 =>
 ixA p2 4 1 (2) fun p8 =>
 ldI .i64 p8 h4 fun n9 =>
 isPt p6_ (
 ldI .i64 (Pt.add p6_ 0) h4 fun n10 =>
 ixA p2 4 1 (1) fun p11 =>
 ldI .i64 p11 h4 fun n12 =>
 isPt p6_ (
 ldI .i64 (Pt.add p6_ 0) h4 fun n13 =>
 ixA p2 4 1 (3) fun p14 =>
 ldI .i64 p14 h4 fun n15 =>
 viaF v7 [.int .i64 i0, .int .i64 n9, .int .i64 (w64 ((w64 (i2 * n10)) + n12)), .int .i64 (w64 ((w64 (i3 * n13)) + n15)), .int .i64 (w64 (i4 - (1)))] fun g16 ys17 =>
 callV S g16 ys17 h4 fun v19 h18 =>
 X0 (Z8 i0 i1 i2 i3 i4 p6_ p7_ s27_ i28 (w64 (i29 + (1)))) h18))
 else
 X0 (Z8 i0 i1 i2 i3 i4 p6_ p7_ s27_ i28 (w64 (i29 + (1)))) h4
 else
 K (.tuple []) h
theorem zmd (S : SatT) (K : KT) (X0 : XT) (i0 i1 : Int) (i2 i3 i4 : Int) (p6_ p7_ : Pt) (s27_ : Sl) (i28 i29 : Int) (h : H) : zuE S K X0 (Z8 i0 i1 i2 i3 i4 p6_ p7_ s27_ i28 i29) h = zir S K X0 i0 i1 i2 i3 i4 p6_ p7_ s27_ i28 i29 h := by kernel_rfl
theorem zmc (S : SatT) (K : KT) (i0 i1 : Int) (i2 i3 i4 : Int) (p6_ p7_ : Pt) (s27_ : Sl) (i28 : Int) (I_ : Int → H → Prop) (m_ : Int → H → Nat)
  (hs : ∀ (X0 : XT) (i29 : Int) (h : H), I_ i29 h → (∀ (i29' : Int) (h' : H), I_ i29' h' → m_ i29' h' < m_ i29 h → X0 (Z8 i0 i1 i2 i3 i4 p6_ p7_ s27_ i28 i29') h') → zir S K X0 i0 i1 i2 i3 i4 p6_ p7_ s27_ i28 i29 h) (i29 : Int) {h : H} (h0 : I_ i29 h) : zuF S K i0 i1 i2 i3 i4 p6_ p7_ s27_ i28 i29 h :=
 ze (σ := (Int)) (fun s_ => Z8 i0 i1 i2 i3 i4 p6_ p7_ s27_ i28 (s_)) (fun s_ h => I_ (s_) h) (fun s_ h => m_ (s_) h)
  (fun X s_ h hi hx => (zmd S K X i0 i1 i2 i3 i4 p6_ p7_ s27_ i28 (s_) h).mpr (hs X (s_) h hi fun i29' h' hi' hm' => hx (i29') h' hi' hm')) (i29) h0
def Zq (S : SatT) (K : KT) (x0 x1 : Int) (x2 x3 x4 : Int) (x5 x6 x7 : Pt) (h : H) : Prop :=
 bif (x4 == (0)) then
 bif (x0 == x1) then
 ldS x5 h fun s0 =>
 lenA [.int .i64 x2, .int .i64 x3] 2 (
 newS 1 2 (spl [.int .i64 (0), .int .i64 (0)] 0 2 [.int .i64 x2, .int .i64 x3]) h fun s1 h2 =>
 app s0 s1 2 h2 fun s3 h4 =>
 st1 x5 (.sl s3) h4 fun h5 =>
 K (.tuple []) h5)
 else
 K (.tuple []) h
 else
 isPt x6 (
 ldS (Pt.add x6 1) h fun s6 =>
 zuF S K x0 x1 x2 x3 x4 x6 x7 s6 (s6.len : Int) (0) h)
theorem Vz (S : SatT) (K : KT) (x0 x1 : Int) (x2 x3 x4 : Int) (x5 x6 x7 : Pt) (h : H) : cwp S tab zgk [] (za Tryz.f110) (kFun tab Tryz.f110.results.toList K) (fr0 Tryz.f110 [.int .i64 x0, .int .i64 x1, .int .i64 x2, .int .i64 x3, .int .i64 x4, .ptr x5, .ptr x6, .ptr x7]) h = Zq S K x0 x1 x2 x3 x4 x5 x6 x7 h := by kernel_rfl
theorem zgj (x0 x1 : Int) (x2 x3 x4 : Int) (x5 x6 x7 : Pt) (h : H) (K : KT) (hm : Zq (Sat Tryz.prog) (fun v h' => K v h') x0 x1 x2 x3 x4 x5 x6 x7 h) : callV (Sat Tryz.prog) zou [.int .i64 x0, .int .i64 x1, .int .i64 x2, .int .i64 x3, .int .i64 x4, .ptr x5, .ptr x6, .ptr x7] h K := by
 have := Sat.ex tok mixed zgk Tryz.func110 (c := za Tryz.f110) (by kernel_rfl) (zb Tryz.func110 (c := za Tryz.f110) (by kernel_rfl) (by decide)) ((Vz _ _ x0 x1 x2 x3 x4 x5 x6 x7 h).mpr hm)
 exact this
def zlf : Nat → List Nat := fun i => bif i == 0 then [12, 13, 14] else []
def zDC (S : SatT) (K : KT) : Kont := kSeq (cwp S tab zlf [] (sq Tryz.f23 5 31) (kFun tab (Tryz.f23).results.toList K)) (kFun tab (Tryz.f23).results.toList K)
def zfK (s12_ : Sl) (i13 i14 : Int) : Frame := (uu 12 (.sl s12_ :: .int .i64 i13 :: .int .i64 i14 :: uu 39 []))
def zAN (S : SatT) (K : KT) : (XT) → XT := fun X fr h => cwp S tab zlf (zlf 0) (sq Tryz.f23 8 244) (kSeq (fun fr h => X (mask (zlf 0) fr) h) (kBlk 0 (zDC S K))) fr h
def zAO (S : SatT) (K : KT) (s12_ : Sl) (i13 i14 : Int) (h : H) : Prop := zA (zAN S K) (zfK s12_ i13 i14) h
def zAP (S : SatT) (K : KT) (i13 : Int) (h : H) : Prop :=
 bif (decide (i13 > (1000000000000000))) then
 K (.tuple [.int .i64 (0), .int .i64 (3)]) h
 else
 K (.tuple [.int .i64 i13, .int .i64 (0)]) h
def zqs (S : SatT) (K : KT) (X0 : XT) (s12_ : Sl) (i13 i14 : Int) (h : H) : Prop :=
 bif (decide (i14 < (s12_.len : Int))) then
 ixS s12_ 1 i14 fun p0 =>
 ldI .i64 p0 h fun n1 =>
 X0 (zfK s12_ (mnI (w64 (i13 + n1)) (1000000000000001)) (w64 (i14 + (1)))) h
 else
 zAP S K i13 h
theorem zqr (S : SatT) (K : KT) (X0 : XT) (s12_ : Sl) (i13 i14 : Int) (h : H) : zAN S K X0 (zfK s12_ i13 i14) h = zqs S K X0 s12_ i13 i14 h := by kernel_rfl
theorem zqq (S : SatT) (K : KT) (s12_ : Sl) (I_ : Int → Int → H → Prop) (m_ : Int → Int → H → Nat)
  (hs : ∀ (X0 : XT) (i13 i14 : Int) (h : H), I_ i13 i14 h → (∀ (i13' i14' : Int) (h' : H), I_ i13' i14' h' → m_ i13' i14' h' < m_ i13 i14 h → X0 (zfK s12_ i13' i14') h') → zqs S K X0 s12_ i13 i14 h) (i13 i14 : Int) {h : H} (h0 : I_ i13 i14 h) : zAO S K s12_ i13 i14 h :=
 ze (σ := (Int) × (Int)) (fun s_ => zfK s12_ (s_.1) (s_.2)) (fun s_ h => I_ (s_.1) (s_.2) h) (fun s_ h => m_ (s_.1) (s_.2) h)
  (fun X s_ h hi hx => (zqr S K X s12_ (s_.1) (s_.2) h).mpr (hs X (s_.1) (s_.2) h hi fun i13' i14' h' hi' hm' => hx (i13', i14') h' hi' hm')) (i13, i14) h0
def zbT (S : SatT) (K : KT) (x0 : List AVal) (x1 x2 : Int) (h : H) : Prop :=
 newK 2 x0 h fun p0 h1 =>
 ldA p0 2 h1 fun cs2 =>
 callI S .i64 zkN [.agg cs2, .int .i64 x1, .int .i64 x2, .int .i64 (5)] h1 fun n4 h3 =>
 bif (n4 != (0)) then
 K (.tuple [.int .i64 (0), .int .i64 n4]) h3
 else
 ldA p0 2 h3 fun cs5 =>
 callV S znL [.agg cs5, .int .i64 x2] h3 fun v7 h6 =>
 viaT v7 fun vs8 =>
 exS vs8 0 fun s9 =>
 viaT v7 fun vs10 =>
 exS vs10 1 fun s11 =>
 viaT v7 fun vs12 =>
 exS vs12 2 fun s13 =>
 ldA p0 2 h6 fun cs14 =>
 isPt p0 (
 ldI .i64 (Pt.add p0 0) h6 fun n15 =>
 callI S .i64 znK [.int .i64 n15, .int .i64 x2] h6 fun n17 h16 =>
(range h16 p0.o p0.n p0.off 2 = range h6 p0.o p0.n p0.off 2) ∧ (
 callS S zhk [.agg cs14, .sl s11, .sl s13, .int .i64 n17, .int .i64 x1, .int .i64 (-1)] h16 fun s19 h18 =>
 zAO S K s19 (0) (0) h18))
theorem zbS (S : SatT) (K : KT) (x0 : List AVal) (x1 x2 : Int) (h : H) : cwp S tab zlf [] (za Tryz.f23) (kFun tab Tryz.f23.results.toList K) (fr0 Tryz.f23 [.agg x0, .int .i64 x1, .int .i64 x2]) h = zbT S K x0 x1 x2 h := by kernel_rfl
theorem zxp (x0 : List AVal) (x1 x2 : Int) (h : H) (K : KT) (hm : zbT (Sat Tryz.prog) (fun v h' => K v h') x0 x1 x2 h) : callV (Sat Tryz.prog) znT [.agg x0, .int .i64 x1, .int .i64 x2] h K := by
 have := Sat.ex tok mixed zlf Tryz.func23 (c := za Tryz.f23) (by kernel_rfl) (zb Tryz.func23 (c := za Tryz.f23) (by kernel_rfl) (by decide)) ((zbS _ _ x0 x1 x2 h).mpr hm)
 exact this
def zkW : Nat → List Nat := fun i => bif i == 0 then [2, 7, 8, 9, 10] else []
def zDm (S : SatT) (K : KT) : Kont := kSeq (cwp S tab zkW [] (sq Tryz.f78 3 7) (kFun tab (Tryz.f78).results.toList K)) (kFun tab (Tryz.f78).results.toList K)
def zfu (p2_ : Pt) (s7_ s8_ s9_ : Sl) (i10 : Int) : Frame := (U :: U :: .ptr p2_ :: uu 4 (.sl s7_ :: .sl s8_ :: .sl s9_ :: .int .i64 i10 :: uu 33 []))
def zzJ (S : SatT) (K : KT) : (XT) → XT := fun X fr h => cwp S tab zkW (zkW 0) (sq Tryz.f78 6 52) (kSeq (fun fr h => X (mask (zkW 0) fr) h) (kBlk 0 (zDm S K))) fr h
def zzK (S : SatT) (K : KT) (p2_ : Pt) (s7_ s8_ s9_ : Sl) (i10 : Int) (h : H) : Prop := zA (zzJ S K) (zfu p2_ s7_ s8_ s9_ i10) h
def zzL (S : SatT) (K : KT) (s7_ s8_ s9_ : Sl) (h : H) : Prop :=
 K (.tuple [.sl s7_, .sl s8_, .sl s9_]) h
def zpl (S : SatT) (K : KT) (X0 : XT) (p2_ : Pt) (s7_ s8_ s9_ : Sl) (i10 : Int) (h : H) : Prop :=
 bif (decide (i10 < (s7_.len : Int))) then
 ldA p2_ 2 h fun cs0 =>
 ixS s7_ 1 i10 fun p1 =>
 ldS p1 h fun s2 =>
 callI S .i64 zjp [.agg cs0, .sl s2, .int .i64 (1)] h fun n4 h3 =>
 newS 1 1 [.int .i64 n4] h3 fun s5 h6 =>
 app s8_ s5 1 h6 fun s7 h8 =>
 ldA p2_ 2 h8 fun cs9 =>
 ixS s7_ 1 i10 fun p10 =>
 ldS p10 h8 fun s11 =>
 callI S .i64 zjp [.agg cs9, .sl s11, .int .i64 (3)] h8 fun n13 h12 =>
 newS 1 1 [.int .i64 n13] h12 fun s14 h15 =>
 app s9_ s14 1 h15 fun s16 h17 =>
 X0 (zfu p2_ s7_ s7 s16 (w64 (i10 + (1)))) h17
 else
 zzL S K s7_ s8_ s9_ h
theorem zpk (S : SatT) (K : KT) (X0 : XT) (p2_ : Pt) (s7_ s8_ s9_ : Sl) (i10 : Int) (h : H) : zzJ S K X0 (zfu p2_ s7_ s8_ s9_ i10) h = zpl S K X0 p2_ s7_ s8_ s9_ i10 h := by kernel_rfl
theorem zpj (S : SatT) (K : KT) (p2_ : Pt) (s7_ : Sl) (I_ : Sl → Sl → Int → H → Prop) (m_ : Sl → Sl → Int → H → Nat)
  (hs : ∀ (X0 : XT) (s8_ s9_ : Sl) (i10 : Int) (h : H), I_ s8_ s9_ i10 h → (∀ (s8_' s9_' : Sl) (i10' : Int) (h' : H), I_ s8_' s9_' i10' h' → m_ s8_' s9_' i10' h' < m_ s8_ s9_ i10 h → X0 (zfu p2_ s7_ s8_' s9_' i10') h') → zpl S K X0 p2_ s7_ s8_ s9_ i10 h) (s8_ s9_ : Sl) (i10 : Int) {h : H} (h0 : I_ s8_ s9_ i10 h) : zzK S K p2_ s7_ s8_ s9_ i10 h :=
 ze (σ := (Sl) × (Sl) × (Int)) (fun s_ => zfu p2_ s7_ (s_.1) (s_.2.1) (s_.2.2)) (fun s_ h => I_ (s_.1) (s_.2.1) (s_.2.2) h) (fun s_ h => m_ (s_.1) (s_.2.1) (s_.2.2) h)
  (fun X s_ h hi hx => (zpk S K X p2_ s7_ (s_.1) (s_.2.1) (s_.2.2) h).mpr (hs X (s_.1) (s_.2.1) (s_.2.2) h hi fun s8_' s9_' i10' h' hi' hm' => hx (s8_', s9_', i10') h' hi' hm')) (s8_, s9_, i10) h0
def zax (S : SatT) (K : KT) (x0 : List AVal) (x1 : Int) (h : H) : Prop :=
 newK 2 x0 h fun p0 h1 =>
 ldA p0 2 h1 fun cs2 =>
 newS 0 1 [] h1 fun s3 h4 =>
 callS S Qd [.agg cs2, .sl s3, .int .i64 x1] h4 fun s6 h5 =>
 newS 0 1 [] h5 fun s7 h8 =>
 newS 0 1 [] h8 fun s9 h10 =>
 zzK S K p0 s6 s7 s9 (0) h10
theorem zaw (S : SatT) (K : KT) (x0 : List AVal) (x1 : Int) (h : H) : cwp S tab zkW [] (za Tryz.f78) (kFun tab Tryz.f78.results.toList K) (fr0 Tryz.f78 [.agg x0, .int .i64 x1]) h = zax S K x0 x1 h := by kernel_rfl
theorem zwE (x0 : List AVal) (x1 : Int) (h : H) (K : KT) (hm : zax (Sat Tryz.prog) (fun v h' => K v h') x0 x1 h) : callV (Sat Tryz.prog) znL [.agg x0, .int .i64 x1] h K := by
 have := Sat.ex tok mixed zkW Tryz.func78 (c := za Tryz.f78) (by kernel_rfl) (zb Tryz.func78 (c := za Tryz.f78) (by kernel_rfl) (by decide)) ((zaw _ _ x0 x1 h).mpr hm)
 exact this
end Go.Proofs.YtlcgclmobfdbcaaGreat.Cl
