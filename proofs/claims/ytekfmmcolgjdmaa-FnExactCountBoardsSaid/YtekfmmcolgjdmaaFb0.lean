/- Contracts of functions, joined. No claim is stated here. -/
import Derived.Test.YtekfmmcolgjdmaaFT
import Derived.Test.YtekfmmcolgjdmaaFa1
import Derived.Test.YtekfmmcolgjdmaaFG0
/- Typed forms of functions of the program, and their links. Printed by program. No claim is stated here. -/
set_option linter.unusedVariables false
namespace Go.Proofs.Ytekfmmcolgjdmaa.Cl
open Go
/-! ### loop.example/g01354/spec.l07Fits -/
def spec_l07Fits_M : Nat → List Nat := fun i => bif i == 1003 then [14] else bif i == 1001 then [1, 2, 3, 4, 5, 13, 48] else bif i == 2001 then [0, 1, 3, 7, 7, 31, 63, 7, 135, 511, 1023, 2047, 7, 4103, 16383, 32767, 65535, 131071, 262143, 524287, 1048575, 1048575, 3145727, 8388607, 16777215, 1048575, 67108863, 134217727, 268435455, 1048575, 537919487, 2147483647, 4294967295, 8589934591] else []
def spec_l07Fits_ks1 (S : SatT) (K : AVal → H → Prop) : Kont := kSeq (cwp S tab spec_l07Fits_M [] (sub [1, 1] (bodyOf Try.f80)) (kFun tab (Try.f80).results.toList K)) (kFun tab (Try.f80).results.toList K)
def spec_l07Fits_ks2 (S : SatT) (K : AVal → H → Prop) : Kont := kSeq (cwp S tab spec_l07Fits_M [] (sub [1, 0, 1] (bodyOf Try.f80)) (spec_l07Fits_ks1 S K)) (spec_l07Fits_ks1 S K)
def spec_l07Fits_f1 (i1_ : Int) (i2_ : Int) (i3_ : Int) (i4_ : Int) (i5_ : Int) (p13_ : Pt) (b48_ : Bool) : Frame := [U, .int .i64 i1_, .int .i64 i2_, .int .i64 i3_, .int .i64 i4_, .int .i64 i5_, U, U, U, U, U, U, U, .ptr p13_, U, U, U, U, U, U, U, U, U, U, U, U, U, U, U, U, U, U, U, U, U, U, U, U, U, U, U, U, U, U, U, U, U, U, .bool b48_, U, U, U, U, U, U, U, U, U, U, U, U, U, U, U, U, U, U, U, U, U, U, U, U, U, U, U, U, U, U, U, U, U, U, U, U, U, U, U, U, U, U, U, U, U, U]
def spec_l07Fits_R1 (S : SatT) (K : AVal → H → Prop) (i1_ : Int) (i2_ : Int) (i3_ : Int) (i4_ : Int) (i5_ : Int) (p13_ : Pt) (b48_ : Bool) (h : H) : Prop := (spec_l07Fits_ks2 S K) .normal (spec_l07Fits_f1 i1_ i2_ i3_ i4_ i5_ p13_ b48_) h
def spec_l07Fits_ks4 (S : SatT) (K : AVal → H → Prop) : Kont := kSeq (cwp S tab spec_l07Fits_M [] (sub [1, 1, 1] (bodyOf Try.f80)) (kFun tab (Try.f80).results.toList K)) (kFun tab (Try.f80).results.toList K)
def spec_l07Fits_f3 (b14_ : Bool) : Frame := [U, U, U, U, U, U, U, U, U, U, U, U, U, U, .bool b14_, U, U, U, U, U, U, U, U, U, U, U, U, U, U, U, U, U, U, U, U, U, U, U, U, U, U, U, U, U, U, U, U, U, U, U, U, U, U, U, U, U, U, U, U, U, U, U, U, U, U, U, U, U, U, U, U, U, U, U, U, U, U, U, U, U, U, U, U, U, U, U, U, U, U, U, U, U, U, U, U]
def spec_l07Fits_R3 (S : SatT) (K : AVal → H → Prop) (b14_ : Bool) (h : H) : Prop := (spec_l07Fits_ks4 S K) .normal (spec_l07Fits_f3 b14_) h
def spec_l07Fits_r3 (S : SatT) (K : AVal → H → Prop) (b14_ : Bool) (h : H) : Prop :=
 K (.bool b14_) h
theorem spec_l07Fits_R3_link (S : SatT) (K : AVal → H → Prop) (b14_ : Bool) (h : H) : spec_l07Fits_R3 S K b14_ h = spec_l07Fits_r3 S K b14_ h := by kernel_rfl
def spec_l07Fits_r1 (S : SatT) (K : AVal → H → Prop) (i1_ : Int) (i2_ : Int) (i3_ : Int) (i4_ : Int) (i5_ : Int) (p13_ : Pt) (b48_ : Bool) (h : H) : Prop :=
 bif b48_ then
 K (.bool false) h
 else
 bif (decide (i1_ < (0))) then
 spec_l07Fits_R3 S K true h
 else
 bif (decide (i3_ > (0))) then
 bif (decide (i2_ > (0))) then
 bif (decide (i3_ < (w64 (i5_ - (1))))) then
 bif (decide (i2_ < (w64 (i4_ - (1))))) then
 spec_l07Fits_R3 S K true h
 else
 ixA p13_ 4 1 (3) fun p0 =>
 ldI .i64 p0 h fun n1 =>
 spec_l07Fits_R3 S K (n1 == i1_) h
 else
 ixA p13_ 4 1 (2) fun p2 =>
 ldI .i64 p2 h fun n3 =>
 bif (n3 == i1_) then
 bif (decide (i2_ < (w64 (i4_ - (1))))) then
 spec_l07Fits_R3 S K true h
 else
 ixA p13_ 4 1 (3) fun p4 =>
 ldI .i64 p4 h fun n5 =>
 spec_l07Fits_R3 S K (n5 == i1_) h
 else
 spec_l07Fits_R3 S K false h
 else
 ixA p13_ 4 1 (1) fun p6 =>
 ldI .i64 p6 h fun n7 =>
 bif (n7 == i1_) then
 bif (decide (i3_ < (w64 (i5_ - (1))))) then
 bif (decide (i2_ < (w64 (i4_ - (1))))) then
 spec_l07Fits_R3 S K true h
 else
 ixA p13_ 4 1 (3) fun p8 =>
 ldI .i64 p8 h fun n9 =>
 spec_l07Fits_R3 S K (n9 == i1_) h
 else
 ixA p13_ 4 1 (2) fun p10 =>
 ldI .i64 p10 h fun n11 =>
 bif (n11 == i1_) then
 bif (decide (i2_ < (w64 (i4_ - (1))))) then
 spec_l07Fits_R3 S K true h
 else
 ixA p13_ 4 1 (3) fun p12 =>
 ldI .i64 p12 h fun n13 =>
 spec_l07Fits_R3 S K (n13 == i1_) h
 else
 spec_l07Fits_R3 S K false h
 else
 spec_l07Fits_R3 S K false h
 else
 ixA p13_ 4 1 (0) fun p14 =>
 ldI .i64 p14 h fun n15 =>
 bif (n15 == i1_) then
 bif (decide (i2_ > (0))) then
 bif (decide (i3_ < (w64 (i5_ - (1))))) then
 bif (decide (i2_ < (w64 (i4_ - (1))))) then
 spec_l07Fits_R3 S K true h
 else
 ixA p13_ 4 1 (3) fun p16 =>
 ldI .i64 p16 h fun n17 =>
 spec_l07Fits_R3 S K (n17 == i1_) h
 else
 ixA p13_ 4 1 (2) fun p18 =>
 ldI .i64 p18 h fun n19 =>
 bif (n19 == i1_) then
 bif (decide (i2_ < (w64 (i4_ - (1))))) then
 spec_l07Fits_R3 S K true h
 else
 ixA p13_ 4 1 (3) fun p20 =>
 ldI .i64 p20 h fun n21 =>
 spec_l07Fits_R3 S K (n21 == i1_) h
 else
 spec_l07Fits_R3 S K false h
 else
 ixA p13_ 4 1 (1) fun p22 =>
 ldI .i64 p22 h fun n23 =>
 bif (n23 == i1_) then
 bif (decide (i3_ < (w64 (i5_ - (1))))) then
 bif (decide (i2_ < (w64 (i4_ - (1))))) then
 spec_l07Fits_R3 S K true h
 else
 ixA p13_ 4 1 (3) fun p24 =>
 ldI .i64 p24 h fun n25 =>
 spec_l07Fits_R3 S K (n25 == i1_) h
 else
 ixA p13_ 4 1 (2) fun p26 =>
 ldI .i64 p26 h fun n27 =>
 bif (n27 == i1_) then
 bif (decide (i2_ < (w64 (i4_ - (1))))) then
 spec_l07Fits_R3 S K true h
 else
 ixA p13_ 4 1 (3) fun p28 =>
 ldI .i64 p28 h fun n29 =>
 spec_l07Fits_R3 S K (n29 == i1_) h
 else
 spec_l07Fits_R3 S K false h
 else
 spec_l07Fits_R3 S K false h
 else
 spec_l07Fits_R3 S K false h
theorem spec_l07Fits_R1_link (S : SatT) (K : AVal → H → Prop) (i1_ : Int) (i2_ : Int) (i3_ : Int) (i4_ : Int) (i5_ : Int) (p13_ : Pt) (b48_ : Bool) (h : H) : spec_l07Fits_R1 S K i1_ i2_ i3_ i4_ i5_ p13_ b48_ h = spec_l07Fits_r1 S K i1_ i2_ i3_ i4_ i5_ p13_ b48_ h := by kernel_rfl
def spec_l07Fits_reg1 (S : SatT) (k : Kont) (x0 : Sl) (x1 x2 x3 x4 x5 : Int) (p0 : Pt) (h1 : H) : Prop :=
 bif (decide (x3 > (0))) then
 ixS x0 1 x2 fun p2 =>
 ldS p2 h1 fun s3 =>
 ixS s3 4 (w64 (x3 - (1))) fun p4 =>
 ixA p4 4 1 (2) fun p5 =>
 ldI .i64 p5 h1 fun n6 =>
 ixA p0 4 1 (0) fun p7 =>
 ldI .i64 p7 h1 fun n8 =>
 bif (n6 != n8) then
 k .normal (spec_l07Fits_f1 x1 x2 x3 x4 x5 p0 true) h1
 else
 bif (decide (x2 > (0))) then
 ixS x0 1 (w64 (x2 - (1))) fun p9 =>
 ldS p9 h1 fun s10 =>
 ixS s10 4 x3 fun p11 =>
 ixA p11 4 1 (3) fun p12 =>
 ldI .i64 p12 h1 fun n13 =>
 ixA p0 4 1 (1) fun p14 =>
 ldI .i64 p14 h1 fun n15 =>
 k .normal (spec_l07Fits_f1 x1 x2 x3 x4 x5 p0 (n13 != n15)) h1
 else
 k .normal (spec_l07Fits_f1 x1 x2 x3 x4 x5 p0 false) h1
 else
 bif (decide (x2 > (0))) then
 ixS x0 1 (w64 (x2 - (1))) fun p16 =>
 ldS p16 h1 fun s17 =>
 ixS s17 4 x3 fun p18 =>
 ixA p18 4 1 (3) fun p19 =>
 ldI .i64 p19 h1 fun n20 =>
 ixA p0 4 1 (1) fun p21 =>
 ldI .i64 p21 h1 fun n22 =>
 k .normal (spec_l07Fits_f1 x1 x2 x3 x4 x5 p0 (n20 != n22)) h1
 else
 k .normal (spec_l07Fits_f1 x1 x2 x3 x4 x5 p0 false) h1
theorem spec_l07Fits_reg1_link (S : SatT) (k : Kont) (x0 : Sl) (x1 : Int) (x2 : Int) (x3 : Int) (x4 : Int) (x5 : Int) (x6 : List AVal) (p0 : Pt) (h1 : H) : cwp S tab spec_l07Fits_M [] (sub [1, 0, 0] (bodyOf Try.f80)) k ([.sl x0, .int .i64 x1, .int .i64 x2, .int .i64 x3, .int .i64 x4, .int .i64 x5, .agg x6, .gone, .gone, .gone, .gone, .gone, .gone, .ptr p0, .bool false] ++ List.replicate 80 .gone) h1 = spec_l07Fits_reg1 S k x0 x1 x2 x3 x4 x5 p0 h1 := by kernel_rfl
theorem spec_l07Fits_split : bodyOf Try.f80 = .seq (sub [0] (bodyOf Try.f80)) (.seq (.seq (sub [1, 0, 0] (bodyOf Try.f80)) (sub [1, 0, 1] (bodyOf Try.f80))) (sub [1, 1] (bodyOf Try.f80))) := by kernel_rfl
theorem spec_l07Fits_reg0_link (S : SatT) (k : Kont) (x0 : Sl) (x1 : Int) (x2 : Int) (x3 : Int) (x4 : Int) (x5 : Int) (x6 : List AVal) (h : H) : cwp S tab spec_l07Fits_M [] (sub [0] (bodyOf Try.f80)) k (fr0 Try.f80 [.sl x0, .int .i64 x1, .int .i64 x2, .int .i64 x3, .int .i64 x4, .int .i64 x5, .agg x6]) h = newK 4 x6 h fun p0 h1 => k .normal ([.sl x0, .int .i64 x1, .int .i64 x2, .int .i64 x3, .int .i64 x4, .int .i64 x5, .agg x6, .gone, .gone, .gone, .gone, .gone, .gone, .ptr p0, .bool false] ++ List.replicate 80 .gone) h1 := by kernel_rfl
theorem spec_l07Fits_kn (n : Frame → H → Prop) (k : Kont) (fr : Frame) (h : H) : kSeq n k .normal fr h = n fr h := rfl
theorem spec_l07Fits_seqs (S : SatT) (T : Tab) (M : Nat → List Nat) (m : List Nat) (A B C D : Code) (k : Kont) (fr : Frame) (h : H) : cwp S T M m (.seq A (.seq (.seq B C) D)) k fr h = cwp S T M m A (kSeq (fun fr h => cwp S T M m B (kSeq (cwp S T M m C (kSeq (cwp S T M m D k) k)) (kSeq (cwp S T M m D k) k)) fr h) k) fr h := rfl
def spec_l07Fits_main (S : SatT) (K : AVal → H → Prop) (x0 : Sl) (x1 : Int) (x2 : Int) (x3 : Int) (x4 : Int) (x5 : Int) (x6 : List AVal) (h : H) : Prop :=
 newK 4 x6 h fun p0 h1 => spec_l07Fits_reg1 S (spec_l07Fits_ks2 S K) x0 x1 x2 x3 x4 x5 p0 h1
theorem spec_l07Fits_main_link (S : SatT) (K : AVal → H → Prop) (x0 : Sl) (x1 : Int) (x2 : Int) (x3 : Int) (x4 : Int) (x5 : Int) (x6 : List AVal) (h : H) : cwp S tab spec_l07Fits_M [] (bodyOf Try.f80) (kFun tab Try.f80.results.toList K) (fr0 Try.f80 [.sl x0, .int .i64 x1, .int .i64 x2, .int .i64 x3, .int .i64 x4, .int .i64 x5, .agg x6]) h = spec_l07Fits_main S K x0 x1 x2 x3 x4 x5 x6 h := by
  refine (congrArg (fun c => cwp S tab spec_l07Fits_M [] c (kFun tab Try.f80.results.toList K) (fr0 Try.f80 [.sl x0, .int .i64 x1, .int .i64 x2, .int .i64 x3, .int .i64 x4, .int .i64 x5, .agg x6]) h) spec_l07Fits_split).trans ?_
  refine (spec_l07Fits_seqs _ _ _ _ _ _ _ _ _ _ _).trans ?_
  refine (spec_l07Fits_reg0_link _ _ _ _ _ _ _ _ _ _).trans ?_
  unfold spec_l07Fits_main
  refine congrArg (newK 4 x6 h) (funext fun p0 => funext fun h1 => ?_)
  refine (spec_l07Fits_kn _ _ _ _).trans ?_
  refine Eq.trans ?_ (spec_l07Fits_reg1_link S (spec_l07Fits_ks2 S K) x0 x1 x2 x3 x4 x5 x6 p0 h1)
  unfold spec_l07Fits_ks2 spec_l07Fits_ks1
  with_reducible rfl
theorem spec_l07Fits_cut1 (S : SatT) (K : AVal → H → Prop) (x1 x2 x3 x4 x5 : Int) (p0 : Pt) (b : Bool) (h1 : H) : spec_l07Fits_ks2 S K .normal (spec_l07Fits_f1 x1 x2 x3 x4 x5 p0 b) h1 = spec_l07Fits_r1 S K x1 x2 x3 x4 x5 p0 b h1 := spec_l07Fits_R1_link S K x1 x2 x3 x4 x5 p0 b h1
theorem spec_l07Fits_call (x0 : Sl) (x1 : Int) (x2 : Int) (x3 : Int) (x4 : Int) (x5 : Int) (x6 : List AVal) (h : H) (K : Bool → H → Prop) (hm : spec_l07Fits_main (Sat Try.prog) (fun v h' => ∃ r, v = .bool r ∧ K r h') x0 x1 x2 x3 x4 x5 x6 h) : callB (Sat Try.prog) i_spec_l07Fits [.sl x0, .int .i64 x1, .int .i64 x2, .int .i64 x3, .int .i64 x4, .int .i64 x5, .agg x6] h K := by
  have := Sat.ex tok mixed spec_l07Fits_M Try.func80 (c := bodyOf Try.f80) (by kernel_rfl) (calls_of Try.func80 (c := bodyOf Try.f80) (by kernel_rfl) (by decide)) ((spec_l07Fits_main_link _ _ x0 x1 x2 x3 x4 x5 x6 h).mpr hm)
  obtain ⟨v, h2, h3, r, rfl, h4⟩ := this; exact ⟨r, h2, h3, h4⟩

end Go.Proofs.Ytekfmmcolgjdmaa.Cl

/- The clean machine: places of their own, variables in the heap. No claim is stated here. -/
set_option linter.unusedVariables false
set_option linter.unusedSimpArgs false
namespace Go.Proofs.Ytekfmmcolgjdmaa.Cl
open Go
/-! ### places of their own -/
theorem slotK_in {k : Nat} {h : H} {K : H → Prop} (hk : ∀ h1, Ext h h1 → h1.length = h.length + k → K h1) : slotK k h K :=
  hk _ (Ext.app _ _) (by simp)
theorem newSat_ow {h : H} {len z n : Nat} {cs : List AVal} (hn : n < h.length) (hc : cs.length = len * z) {K : Sl → H → Prop}
    (hk : ∀ s' h', Ow h' s' z cs → s'.len = len → s'.o = some n → But (some n) h h' → h'.length = h.length → K s' h') : newSat len z cs h n K :=
  hk _ _ ⟨hc, .inr ⟨n, rfl, rfl, rfl, rfl, by simp [hn]⟩⟩ rfl rfl ⟨by simp, fun i hi hne => by rw [List.getElem?_set, if_neg (fun e => hne (by rw [e]))]⟩ (by simp)
theorem mkSat_ow {h : H} {m : Int} {z : List AVal} {n : Nat} (hn : n < h.length) (h0 : 0 ≤ m) (h1 : m ≤ lim) {K : Sl → H → Prop}
    (hk : ∀ s' h', Ow h' s' z.length (List.replicate m.toNat z).flatten → s'.len = m.toNat → s'.o = some n → But (some n) h h' → h'.length = h.length → K s' h') : mkSat m z h n K :=
  ⟨⟨h0, h1⟩, hk _ _ ⟨by simp, .inr ⟨n, rfl, rfl, rfl, by simp, by simp [hn]⟩⟩ rfl rfl ⟨by simp, fun i hi hne => by rw [List.getElem?_set, if_neg (fun e => hne (by rw [e]))]⟩ (by simp)⟩
/-! ### variables -/
abbrev pt (o : Nat) : Pt := ⟨some o, 1, 0⟩
/-- The variable at o has the value v. -/
def Var (h : H) (o : Nat) (v : AVal) : Prop := h[o]? = some (.own [v])
theorem Var.lt {h o v} (x : Var h o v) : o < h.length := (List.getElem?_eq_some_iff.1 x).1
theorem Var.cell {h o v} (x : Var h o v) : Cl.cell h (pt o) = some v := by
  have x' : h[o]? = some (.own [v]) := x
  simp [Cl.cell, cells, x']
theorem Var.ext {h h' o v} (x : Var h o v) (e : Ext h h') : Var h' o v := e.own x
theorem Var.but {h h' o v} {p : Option Nat} (x : Var h o v) (b : But p h h') (hn : p ≠ some o) : Var h' o v := b.get x hn
theorem Var.ldI {h o n} {k : IntKind} (x : Var h o (.int k n)) {K : Int → Prop} (hk : K n) : Cl.ldI k (pt o) h K := ⟨n, x.cell, hk⟩
theorem Var.ldB {h o n} (x : Var h o (.bool n)) {K : Bool → Prop} (hk : K n) : Cl.ldB (pt o) h K := ⟨n, x.cell, hk⟩
theorem Var.ldS {h o n} (x : Var h o (.sl n)) {K : Sl → Prop} (hk : K n) : Cl.ldS (pt o) h K := ⟨n, x.cell, hk⟩
theorem Var.ldP {h o n} (x : Var h o (.ptr n)) {K : Pt → Prop} (hk : K n) : Cl.ldP (pt o) h K := ⟨n, x.cell, hk⟩
theorem Var.ldV {h o n} (x : Var h o n) {K : AVal → Prop} (hk : K n) : Cl.ldV (pt o) h K := ⟨n, x.cell, hk⟩
theorem Var.st {h o v} (x : Var h o v) (u : AVal) {K : H → Prop} (hk : ∀ h', Var h' o u → But (some o) h h' → h'.length = h.length → K h') : Cl.st1 (pt o) u h K := by
  have hl := x.lt
  refine ⟨h.set o (.own [u]), ?_, hk _ (by unfold Var; simp [hl]) ⟨by simp, fun i hi hne => by rw [List.getElem?_set, if_neg (fun e => hne (by rw [e]))]⟩ (by simp)⟩
  have x' : h[o]? = some (.own [v]) := x
  simp [put1, owned, x']
theorem newO_var {v : AVal} {h : H} {K : Pt → H → Prop} (hk : ∀ h', Var h' h.length v → Ext h h' → h'.length = h.length + 1 → K (pt h.length) h') : newO [v] h K :=
  hk _ (by unfold Var; simp) (Ext.app _ _) (by simp)
theorem newOat_var {v : AVal} {h : H} {n : Nat} (hn : n < h.length) {K : Pt → H → Prop} (hk : ∀ h', Var h' n v → But (some n) h h' → h'.length = h.length → K (pt n) h') : newOat [v] h n K :=
  hk _ (by unfold Var; simp [hn]) ⟨by simp, fun i hi hne => by rw [List.getElem?_set, if_neg (fun e => hne (by rw [e]))]⟩ (by simp)
/-- What is read at a place that is not changed. -/
theorem But.cellE {o : Option Nat} {h h' : H} {p : Pt} {v : AVal} (b : But o h h') (e : cell h p = some v) (hn : o ≠ p.o ∨ o = none) : cell h' p = cell h p := by
  unfold cell at *
  cases hp : p.o with
  | none => rfl
  | some i =>
    rw [hp] at e hn
    simp only at e ⊢
    obtain ⟨c, h1, h2⟩ := Option.bind_eq_some_iff.1 e
    have hl := cells_lt h1
    have : h'[i]? = h[i]? := b.2 i hl (by rcases hn with hn | hn; exact hn; rw [hn]; simp)
    have hc : cells h' i p.n = cells h i p.n := by unfold cells; rw [this]
    rw [hc]
theorem Ext.cellE {h h' : H} {p : Pt} {v : AVal} (b : Ext h h') (e : Cl.cell h p = some v) : Cl.cell h' p = Cl.cell h p := (b.but none).cellE e (.inr rfl)
/-! ### several changes -/
/-- h' is h, but for objects from n on. -/
def Till (n : Nat) (h h' : H) : Prop := h.length ≤ h'.length ∧ ∀ i, i < n → i < h.length → h'[i]? = h[i]?
theorem Till.refl (n h) : Till n h h := ⟨Nat.le_refl _, fun _ _ _ => rfl⟩
theorem Till.trans {n a b c} (x : Till n a b) (y : Till n b c) : Till n a c := ⟨Nat.le_trans x.1 y.1, fun i h1 h2 => by rw [y.2 i h1 (by have := x.1; omega), x.2 i h1 h2]⟩
theorem Ext.till {a b : H} (x : Ext a b) (n) : Till n a b := ⟨x.len, fun i _ h => x.get h⟩
theorem But.till {a b : H} {o : Option Nat} (x : But o a b) {n : Nat} (hn : ∀ i, o = some i → n ≤ i) : Till n a b := ⟨x.1, fun i h1 h2 => x.2 i h2 fun e => by have := hn i e; omega⟩
theorem Till.ext {n : Nat} {a b : H} (x : Till n a b) (hn : a.length ≤ n) : Ext a b := Ext.of x.1 fun i hi => x.2 i (by omega) hi
theorem Till.le {n m : Nat} {a b : H} (x : Till n a b) (h : m ≤ n) : Till m a b := ⟨x.1, fun i h1 h2 => x.2 i (by omega) h2⟩
theorem Till.get {n : Nat} {h h' : H} (x : Till n h h') {o : Nat} {v : AObj} (e : h[o]? = some v) (ho : o < n) : h'[o]? = some v := by rw [x.2 o ho (List.getElem?_eq_some_iff.1 e).1]; exact e
theorem Var.till {h h' o v n} (x : Var h o v) (b : Till n h h') (hn : o < n) : Var h' o v := b.get x hn
theorem Ext.till_ {h a b : H} {n : Nat} (x : Ext h a) (y : Till n a b) (hn : h.length ≤ n) : Ext h b :=
  Ext.of (Nat.le_trans x.len y.1) fun i hi => by rw [y.2 i (by omega) (by have := x.len; omega), x.get hi]
end Go.Proofs.Ytekfmmcolgjdmaa.Cl

/- The clean machine: objects, slices of slices, changes of several objects. No claim is stated here. -/
set_option linter.unusedVariables false
set_option linter.unusedSimpArgs false
namespace Go.Proofs.Ytekfmmcolgjdmaa.Cl
open Go
/-! ### objects -/
def Obj (h : H) (o : Nat) (cs : List AVal) : Prop := h[o]? = some (.own cs)
theorem Obj.lt {h o cs} (x : Obj h o cs) : o < h.length := (List.getElem?_eq_some_iff.1 x).1
theorem Obj.ext {h h' o cs} (x : Obj h o cs) (e : Ext h h') : Obj h' o cs := e.own x
theorem Obj.but {h h' o cs} {p : Option Nat} (x : Obj h o cs) (b : But p h h') (hn : p ≠ some o) : Obj h' o cs := b.get x hn
theorem newK_obj {k : Nat} {cs : List AVal} {h : H} {K : Pt → H → Prop} (hk : ∀ h', Obj h' h.length cs → Ext h h' → h'.length = h.length + 1 → K ⟨some h.length, k, 0⟩ h') (hc : cs.length = k := by rfl) : newK k cs h K :=
  ⟨hc, hk _ (by unfold Obj; simp) (Ext.app _ _) (by simp)⟩
theorem newO_obj {cs : List AVal} {h : H} {K : Pt → H → Prop} (hk : ∀ h', Obj h' h.length cs → Ext h h' → h'.length = h.length + 1 → K ⟨some h.length, cs.length, 0⟩ h') : newO cs h K :=
  hk _ (by unfold Obj; simp) (Ext.app _ _) (by simp)
theorem isPt_in {o : Nat} {n off : Nat} {K : Prop} (hk : K) : isPt ⟨some o, n, off⟩ K := ⟨rfl, hk⟩
theorem Obj.cellE {h o cs} (x : Obj h o cs) {n i : Nat} (hn : cs.length = n) : Cl.cell h (Pt.add ⟨some o, n, 0⟩ i) = cs[i]? := by
  have x' : h[o]? = some (.own cs) := x
  simp [Cl.cell, Pt.add, cells, x', hn]
theorem Obj.ldI {h o cs} (x : Obj h o cs) {n i : Nat} {k : IntKind} {m : Int} (hn : cs.length = n) (e : cs[i]? = some (.int k m)) {K : Int → Prop} (hk : K m) : Cl.ldI k (Pt.add ⟨some o, n, 0⟩ i) h K := ⟨m, by rw [x.cellE hn, e], hk⟩
theorem Obj.ldB {h o cs} (x : Obj h o cs) {n i : Nat} {m : Bool} (hn : cs.length = n) (e : cs[i]? = some (.bool m)) {K : Bool → Prop} (hk : K m) : Cl.ldB (Pt.add ⟨some o, n, 0⟩ i) h K := ⟨m, by rw [x.cellE hn, e], hk⟩
theorem Obj.ldS {h o cs} (x : Obj h o cs) {n i : Nat} {m : Sl} (hn : cs.length = n) (e : cs[i]? = some (.sl m)) {K : Sl → Prop} (hk : K m) : Cl.ldS (Pt.add ⟨some o, n, 0⟩ i) h K := ⟨m, by rw [x.cellE hn, e], hk⟩
theorem Obj.ldA {h o cs} (x : Obj h o cs) {n : Nat} (hn : cs.length = n) {K : List AVal → Prop} (hk : K cs) : Cl.ldA ⟨some o, n, 0⟩ n h K := ld_own x hn hk
theorem Obj.stA {h o cs} (x : Obj h o cs) {n m : Nat} {vs : List AVal} {K : H → Prop} (hk : ∀ h', Obj h' o vs → But (some o) h h' → h'.length = h.length → K h') (hn : cs.length = n := by rfl) (hv : vs.length = m := by rfl) (hm : m = n := by rfl) : Cl.stN ⟨some o, n, 0⟩ m vs h K := by
  subst hm
  exact st_own x hn hv fun b e => hk _ e b (by simp)
theorem Obj.st1 {h o cs} (x : Obj h o cs) {n i : Nat} (hn : cs.length = n) (hi : i < n) (v : AVal) {K : H → Prop} (hk : ∀ h', Obj h' o (cs.set i v) → But (some o) h h' → h'.length = h.length → K h') : Cl.st1 (Pt.add ⟨some o, n, 0⟩ i) v h K := by
  have x' : h[o]? = some (.own cs) := x
  have hl := x.lt
  refine ⟨h.set o (.own (cs.set i v)), ?_, hk _ (by unfold Obj; simp [hl]) ⟨by simp, fun j hj hne => by rw [List.getElem?_set, if_neg (fun e => hne (by rw [e]))]⟩ (by simp)⟩
  unfold put1 owned Pt.add
  simp [x', hn, hi]
/-! ### changes of several objects -/
/-- h' is h but for objects of P, and for what is new. -/
def Chg (P : Nat → Prop) (h h' : H) : Prop := h.length ≤ h'.length ∧ ∀ i, i < h.length → ¬ P i → h'[i]? = h[i]?
theorem Chg.refl (P h) : Chg P h h := ⟨Nat.le_refl _, fun _ _ _ => rfl⟩
theorem Chg.trans {P a b c} (x : Chg P a b) (y : Chg P b c) : Chg P a c := ⟨Nat.le_trans x.1 y.1, fun i hi hn => by rw [y.2 i (by have := x.1; omega) hn, x.2 i hi hn]⟩
theorem Chg.to {P Q : Nat → Prop} {a b : H} (x : Chg P a b) (hq : ∀ i, i < a.length → P i → Q i) : Chg Q a b := ⟨x.1, fun i hi hn => x.2 i hi fun hp => hn (hq i hi hp)⟩
theorem Ext.chg {a b : H} (x : Ext a b) (P) : Chg P a b := ⟨x.len, fun i hi _ => x.get hi⟩
theorem But.chg {a b : H} {o : Option Nat} (x : But o a b) {P : Nat → Prop} (hp : ∀ i, o = some i → P i) : Chg P a b := ⟨x.1, fun i hi hn => x.2 i hi fun e => hn (hp i e)⟩
theorem Chg.get {P} {h h' : H} (b : Chg P h h') {i : Nat} {v : AObj} (e : h[i]? = some v) (hn : ¬ P i) : h'[i]? = some v := by
  rw [b.2 i (List.getElem?_eq_some_iff.1 e).1 hn, e]
theorem Chg.ext {P} {h h' : H} (b : Chg P h h') (hn : ∀ i, P i → h.length ≤ i) : Ext h h' := Ext.of b.1 fun i hi => b.2 i hi fun p => by have := hn i p; omega
theorem Ext.chg_ {P} {h a b : H} (x : Ext h a) (y : Chg P a b) (hn : ∀ i, P i → h.length ≤ i) : Ext h b :=
  Ext.of (Nat.le_trans x.len y.1) fun i hi => by
    rw [y.2 i (by have := x.len; omega) (fun p => by have := hn i p; omega), x.get hi]
theorem Chg.range {P} {h h' : H} (b : Chg P h h') {o n off k cs} (e : range h o n off k = some cs) (hn : ∀ i, o = some i → ¬ P i) : range h' o n off k = some cs := by
  obtain ⟨i, xs, rfl, hc, hl, rfl⟩ := range_some e
  refine range_of ?_ hl
  have := cells_lt hc
  unfold Cl.cells at hc ⊢
  rw [b.2 i this (hn i rfl)]; exact hc
theorem Rd.chg {P} {h h' : H} {s z cs} (r : Rd h s z cs) (b : Chg P h h') (hn : ∀ i, s.o = some i → ¬ P i) : Rd h' s z cs :=
  ⟨r.len, r.at_.imp id fun ⟨x, y, e⟩ => ⟨x, y, b.range e hn⟩⟩
theorem Ow.chg {P} {h h' : H} {s z cs} (r : Ow h s z cs) (b : Chg P h h') (hn : ∀ i, s.o = some i → ¬ P i) : Ow h' s z cs :=
  ⟨r.len, r.at_.imp id fun ⟨i, a, x, c, d, e⟩ => ⟨i, a, x, c, d, b.get e (hn i a)⟩⟩
theorem Var.chg {P} {h h' o v} (x : Var h o v) (b : Chg P h h') (hn : ¬ P o) : Var h' o v := b.get x hn
theorem Obj.chg {P} {h h' o v} (x : Obj h o v) (b : Chg P h h') (hn : ¬ P o) : Obj h' o v := b.get x hn
/-! ### slices of slices of integers -/
def RdSS (h : H) (s : Sl) (ls : List (List Int)) : Prop :=
  ∃ vs : List Sl, vs.length = ls.length ∧ Rd h s 1 (vs.map .sl) ∧ ∀ (i : Nat) v l, vs[i]? = some v → ls[i]? = some l → Rd h v 1 (ic l)
theorem RdSS.len {h s ls} (r : RdSS h s ls) : s.len = ls.length := by
  obtain ⟨vs, h1, h2, _⟩ := r
  have := h2.len
  simp at this
  omega
theorem RdSS.ext {h h' s ls} (r : RdSS h s ls) (x : Ext h h') : RdSS h' s ls := by
  obtain ⟨vs, h1, h2, h3⟩ := r
  exact ⟨vs, h1, h2.ext x, fun i v l a b => (h3 i v l a b).ext x⟩
theorem Rd.ilen {h : H} {s : Sl} {l : List Int} (r : Rd h s 1 (ic l)) : s.len = l.length := by have := r.len; rw [ic_len] at this; omega
theorem RdSS.ld {h s ls} (r : RdSS h s ls) {i : Int} (h0 : 0 ≤ i) (h1 : i < ls.length) {K : Sl → Prop} (hk : ∀ v l, ls[i.toNat]? = some l → Rd h v 1 (ic l) → v.len = l.length → K v) : ixS s 1 i fun p => Cl.ldS p h K := by
  obtain ⟨vs, e1, e2, e3⟩ := r
  refine e2.ldS h0 (by omega) fun v hv => ?_
  have hl : ls[i.toNat]? = some ls[i.toNat] := List.getElem?_eq_getElem (by omega)
  have := e3 i.toNat v _ hv hl
  exact hk v _ hl this this.ilen
/-- s lies in new memory of its own, from n on. -/
def NewSS (n : Nat) (h : H) (s : Sl) (ls : List (List Int)) : Prop :=
  ∃ vs : List Sl, vs.length = ls.length ∧ Ow h s 1 (vs.map .sl) ∧ Fr n s ∧ (∀ (i : Nat) v l, vs[i]? = some v → ls[i]? = some l → Ow h v 1 (ic l) ∧ Fr n v) ∧
    (∀ (i j : Nat) v w, i ≠ j → vs[i]? = some v → vs[j]? = some w → ∀ o, v.o = some o → w.o ≠ some o) ∧ ∀ (i : Nat) v, vs[i]? = some v → ∀ o, v.o = some o → s.o ≠ some o
theorem NewSS.rd {n h s ls} (r : NewSS n h s ls) : RdSS h s ls := by
  obtain ⟨vs, h1, h2, _, h3, _⟩ := r
  exact ⟨vs, h1, h2.rd, fun i v l a b => (h3 i v l a b).1.rd⟩
theorem NewSS.le {n m h s ls} (r : NewSS n h s ls) (hm : m ≤ n) : NewSS m h s ls := by
  obtain ⟨vs, h1, h2, h3, h4, h5⟩ := r
  exact ⟨vs, h1, h2, h3.le hm, fun i v l a b => (h4 i v l a b).imp id fun f => f.le hm, h5⟩
theorem NewSS.nil (n h) : NewSS n h Sl.nil [] := ⟨[], rfl, Ow.nil _ _, Fr.nil _, fun i v l a => by simp at a, fun i j v w _ a => by simp at a, fun i v a => by simp at a⟩
theorem NewSS.mk0 {n h s} (o : Ow h s 1 []) (f : Fr n s) : NewSS n h s [] := ⟨[], rfl, o, f, fun i v l a => by simp at a, fun i j v w _ a => by simp at a, fun i v a => by simp at a⟩
theorem mem_idx {α β : Type} {l : List α} {m : List β} (e : l.length = m.length) {i : Nat} {a : α} (h : l[i]? = some a) : ∃ b, m[i]? = some b :=
  ⟨m[i]'(by have := (List.getElem?_eq_some_iff.1 h).1; omega), List.getElem?_eq_getElem (by have := (List.getElem?_eq_some_iff.1 h).1; omega)⟩
theorem NewSS.chg {P n h h' s ls} (r : NewSS n h s ls) (b : Chg P h h') (hn : ∀ i, n ≤ i → i < h.length → ¬ P i) : NewSS n h' s ls := by
  obtain ⟨vs, h1, h2, h3, h4, h5⟩ := r
  refine ⟨vs, h1, h2.chg b fun o e => hn o (h3 o e) (h2.lt e), h3, fun i v l a c => ?_, h5⟩
  obtain ⟨x, y⟩ := h4 i v l a c
  exact ⟨x.chg b fun o e => hn o (y o e) (x.lt e), y⟩
theorem NewSS.ext {n h h' s ls} (r : NewSS n h s ls) (x : Ext h h') : NewSS n h' s ls := r.chg (x.chg fun _ => False) fun _ _ _ f => f
theorem RdSS.chg {P h h' s ls} (r : RdSS h s ls) (b : Chg P h h') (hn : ∀ i, i < h.length → ¬ P i) : RdSS h' s ls := r.ext (Ext.of b.1 fun i hi => b.2 i hi (hn i hi))
/-- append of a new view to a new slice of views -/
theorem NewSS.app {n h s ls} (r : NewSS n h s ls) {v : Sl} {l : List Int} (ov : Ow h v 1 (ic l)) (fv : Fr n v) (hap : ∀ o, v.o = some o → s.o ≠ some o ∧ ∀ vs : List Sl, Ow h s 1 (vs.map .sl) → ∀ w ∈ vs, w.o ≠ some o)
    {x : Sl} (rx : Rd h x 1 [.sl v]) (hl : (ls.length : Int) + 1 ≤ lim) (hnh : n ≤ h.length) {K : Sl → H → Prop} (hk : ∀ s' h', NewSS n h' s' (ls ++ [l]) → But s.o h h' → (∀ o, s.o = some o → s'.o = some o) → (s.o = none → ∀ o, s'.o = some o → h.length ≤ o) → K s' h') : Cl.app s x 1 h K := by
  obtain ⟨vs, h1, h2, h3, h4, h5, h6⟩ := r
  have hx : x.len = 1 := by have := rx.len; simp at this; omega
  have hs : s.len = ls.length := by have := h2.len; simp at this; omega
  refine app_ow (by omega) h2 rx (by rw [hs, hx]; exact_mod_cast hl) fun s' h' o' ln b k1 k2 => ?_
  have hso : ∀ o, s'.o = some o → s.o = some o ∨ h.length ≤ o := fun o e => by
    cases hq : s.o with
    | none => exact .inr (k2 hq o e)
    | some p => rw [k1 p hq] at e; exact .inl e
  refine hk s' h' ⟨vs ++ [v], by simp [h1], by simpa using o', ?_, ?_, ?_, ?_⟩ b k1 k2
  · intro o e
    rcases hso o e with e | e
    · exact h3 o e
    · omega
  · intro i w l' a c
    rw [List.getElem?_append] at a c
    rw [h1] at a
    split at a
    · next hi =>
      rw [if_pos hi] at c
      obtain ⟨p, q⟩ := h4 i w l' a c
      refine ⟨p.but b ?_, q⟩
      cases hw : w.o with
      | none => 
        cases hq : s.o with
        | none => exact .inr rfl
        | some _ => exact .inl (by simp)
      | some o => exact .inl (by rw [← hw]; intro e; exact h6 i w a o hw (by rw [e, hw]))
    · next hi =>
      rw [if_neg hi] at c
      have : i = ls.length := by
        have := (List.getElem?_eq_some_iff.1 c).1
        simp at this; omega
      subst this
      simp at a c
      subst a c
      refine ⟨ov.but b ?_, fv⟩
      cases hw : v.o with
      | none =>
        cases hq : s.o with
        | none => exact .inr rfl
        | some _ => exact .inl (by simp)
      | some o => exact .inl (by intro e; exact (hap o hw).1 e)
  · intro i j w u hne a c o e
    have hwl : ∀ {k : Nat} {y : Sl}, (vs ++ [v])[k]? = some y → vs[k]? = some y ∨ (k = vs.length ∧ y = v) := fun {k y} e => by
      rw [List.getElem?_append] at e
      split at e
      · exact .inl e
      · have : k = vs.length := by
          have := (List.getElem?_eq_some_iff.1 e).1
          simp at this; omega
        subst this
        simp at e
        exact .inr ⟨rfl, e.symm⟩
    rcases hwl a with a1 | ⟨rfl, rfl⟩
    · rcases hwl c with c1 | ⟨rfl, rfl⟩
      · exact h5 i j w u hne a1 c1 o e
      · intro e2
        exact (hap o e2).2 vs h2 w (List.mem_of_getElem? a1) e
    · rcases hwl c with c1 | ⟨rfl, rfl⟩
      · exact (hap o e).2 vs h2 u (List.mem_of_getElem? c1)
      · exact absurd rfl hne
  · intro i w a o e
    have hlt : o < h.length ∧ s.o ≠ some o := by
      rw [List.getElem?_append] at a
      split at a
      · obtain ⟨l', hl'⟩ := mem_idx h1 a
        exact ⟨(h4 i w l' a hl').1.lt e, h6 i w a o e⟩
      · have : w = v := by
          have := List.mem_of_getElem? a
          simpa using this
        subst this
        exact ⟨ov.lt e, (hap o e).1⟩
    intro e2
    rcases hso o e2 with e3 | e3
    · exact hlt.2 e3
    · omega
/-- the same, the view newer than all -/
theorem NewSS.app_new {n m h s ls} (r : NewSS n h s ls) {v : Sl} {l : List Int} (ov : Ow h v 1 (ic l)) (fv : Fr m v) (hnm : n ≤ m) (hm : ∃ h0 : H, NewSS n h0 s ls ∧ h0.length ≤ m ∧ Ext h0 h)
    {x : Sl} (rx : Rd h x 1 [.sl v]) (hl : (ls.length : Int) + 1 ≤ lim) (hnh : n ≤ h.length) {K : Sl → H → Prop} (hk : ∀ s' h', NewSS n h' s' (ls ++ [l]) → But s.o h h' → (∀ o, s.o = some o → s'.o = some o) → (s.o = none → ∀ o, s'.o = some o → h.length ≤ o) → K s' h') : Cl.app s x 1 h K := by
  obtain ⟨h0, r0, hlen, ex⟩ := hm
  refine r.app ov (fv.le hnm) (fun o e => ?_) rx hl hnh hk
  obtain ⟨vs, h1, h2, h3, h4, h5, h6⟩ := r0
  have ho := fv o e
  refine ⟨fun e2 => by have := h2.lt e2; omega, fun us hu w hw => ?_⟩
  intro e2
  have hq : us = vs := by
    have a := hu.rd.sread (by omega)
    have b := (h2.ext ex).rd.sread (by omega)
    rw [a] at b
    have : us.map AVal.sl = vs.map AVal.sl := Option.some.inj b
    exact List.map_inj_right (fun a b e => by simpa using e) |>.1 this
  subst hq
  obtain ⟨i, hi⟩ := List.getElem?_of_mem hw
  obtain ⟨l', hl'⟩ := mem_idx h1 hi
  have := (h4 i w l' hi hl').1.lt e2
  omega
/-- The same, of objects of P. -/
def NewP (P : Nat → Prop) (h : H) (s : Sl) (ls : List (List Int)) : Prop :=
  ∃ vs : List Sl, vs.length = ls.length ∧ Ow h s 1 (vs.map .sl) ∧ (∀ o, s.o = some o → P o) ∧ (∀ (i : Nat) v l, vs[i]? = some v → ls[i]? = some l → Ow h v 1 (ic l) ∧ ∀ o, v.o = some o → P o) ∧
    (∀ (i j : Nat) v w, i ≠ j → vs[i]? = some v → vs[j]? = some w → ∀ o, v.o = some o → w.o ≠ some o) ∧ ∀ (i : Nat) v, vs[i]? = some v → ∀ o, v.o = some o → s.o ≠ some o
theorem NewSS.p {n h s ls} (r : NewSS n h s ls) {P : Nat → Prop} (hp : ∀ i, n ≤ i → i < h.length → P i) : NewP P h s ls := by
  obtain ⟨vs, h1, h2, h3, h4, h5⟩ := r
  exact ⟨vs, h1, h2, fun o e => hp o (h3 o e) (h2.lt e), fun i v l a b => ⟨(h4 i v l a b).1, fun o e => hp o ((h4 i v l a b).2 o e) ((h4 i v l a b).1.lt e)⟩, h5⟩
theorem NewP.ss {P h s ls} (r : NewP P h s ls) {n : Nat} (hp : ∀ i, P i → n ≤ i) : NewSS n h s ls := by
  obtain ⟨vs, h1, h2, h3, h4, h5⟩ := r
  exact ⟨vs, h1, h2, fun o e => hp o (h3 o e), fun i v l a b => (h4 i v l a b).imp id fun f o e => hp o (f o e), h5⟩
theorem NewP.chg {P Q h h' s ls} (r : NewP P h s ls) (b : Chg Q h h') (hn : ∀ i, P i → i < h.length → ¬ Q i) : NewP P h' s ls := by
  obtain ⟨vs, h1, h2, h3, h4, h5⟩ := r
  refine ⟨vs, h1, h2.chg b fun o e => hn o (h3 o e) (h2.lt e), h3, fun i v l a c => ?_, h5⟩
  obtain ⟨x, y⟩ := h4 i v l a c
  exact ⟨x.chg b fun o e => hn o (y o e) (x.lt e), y⟩
theorem NewP.ext {P h h' s ls} (r : NewP P h s ls) (x : Ext h h') : NewP P h' s ls := r.chg (x.chg fun _ => False) fun _ _ _ f => f
theorem NewP.rd {P h s ls} (r : NewP P h s ls) : RdSS h s ls := by
  obtain ⟨vs, h1, h2, _, h3, _⟩ := r
  exact ⟨vs, h1, h2.rd, fun i v l a b => (h3 i v l a b).1.rd⟩
end Go.Proofs.Ytekfmmcolgjdmaa.Cl

/- Contracts of the functions on tiles, of the search in slices and of the laws' helpers. No claim is stated here. -/
set_option linter.unusedVariables false
set_option linter.unusedSimpArgs false
namespace Go.Proofs.Ytekfmmcolgjdmaa.Cl
open Go
abbrev SP : SatT := Sat Try.prog
abbrev Tile := Int × Int × Int × Int
def tc (t : Tile) : List AVal := [i64 t.1, i64 t.2.1, i64 t.2.2.1, i64 t.2.2.2]
def tcs (ts : List Tile) : List AVal := (ts.map tc).flatten
theorem tc_len (t : Tile) : (tc t).length = 4 := rfl
theorem tcs_len : ∀ ts : List Tile, (tcs ts).length = ts.length * 4
  | [] => rfl
  | t :: ts => by
    have := tcs_len ts
    unfold tcs at *
    simp only [List.map_cons, List.flatten_cons, List.length_append, tc_len, List.length_cons]
    omega
theorem tcs_app (a b : List Tile) : tcs (a ++ b) = tcs a ++ tcs b := by simp [tcs]
theorem tcs_cons (a : Tile) (b : List Tile) : tcs (a :: b) = tc a ++ tcs b := by simp [tcs]
theorem tcs_at : ∀ (ts : List Tile) (i : Nat) (t : Tile), ts[i]? = some t → ((tcs ts).drop (i * 4)).take 4 = tc t
  | [], i, t, e => by simp at e
  | a :: ts, 0, t, e => by
    simp at e; subst e
    rw [tcs_cons]; simp [List.take_append, tc_len]
    rw [List.take_of_length_le (by simp [tc_len])]
  | a :: ts, i + 1, t, e => by
    rw [tcs_cons, show (i + 1) * 4 = (tc a).length + i * 4 by rw [tc_len]; omega, ← List.drop_drop, List.drop_left]
    exact tcs_at ts i t (by simpa using e)
/-- A slice of tiles. -/
theorem Rd.ldT {h : H} {s : Sl} {ts : List Tile} (r : Rd h s 4 (tcs ts)) {i : Int} (h0 : 0 ≤ i) (h1 : i < ts.length) {K : List AVal → Prop} (hk : ∀ t, ts[i.toNat]? = some t → K (tc t)) : ixS s 4 i fun p => Cl.ldA p 4 h K := by
  have hlen : ts.length = s.len := by have := r.len; rw [tcs_len] at this; omega
  have hx : ts[i.toNat]? = some ts[i.toNat] := List.getElem?_eq_getElem (by omega)
  exact r.ldA h0 (by omega) (by rw [tcs_at ts _ _ hx]; exact hk _ hx)
theorem Rd.tlen {h : H} {s : Sl} {ts : List Tile} (r : Rd h s 4 (tcs ts)) : s.len = ts.length := by have := r.len; rw [tcs_len] at this; omega

def turn (t : Tile) : Tile := (t.2.2.2, t.1, t.2.1, t.2.2.1)
def turnN : Nat → Tile → Tile
  | 0, t => t
  | n + 1, t => turnN n (turn t)
theorem turnN_succ : ∀ n t, turnN (n + 1) t = turn (turnN n t)
  | 0, t => rfl
  | n + 1, t => by rw [turnN, turnN_succ n (turn t), turnN]
def i64ok (n : Int) : Prop := -9223372036854775808 ≤ n ∧ n < 9223372036854775808
def tileok (c : Int) (t : Tile) : Bool := decide (0 ≤ t.1 ∧ t.1 ≤ c - 1) && decide (0 ≤ t.2.1 ∧ t.2.1 ≤ c - 1) && decide (0 ≤ t.2.2.1 ∧ t.2.2.1 ≤ c - 1) && decide (0 ≤ t.2.2.2 ∧ t.2.2.2 ≤ c - 1)
attribute [local simp] newK newO ixA ldI ldA stN st1 Cl.range cell Cl.cells putN put1 owned get_app get_app0 set_app set_app0 Pt.add splice Ext.app Ext.refl cutA isPt

theorem sides_c (t : Tile) (h : H) : callA SP i_impl_Tile_sides [.agg (tc t), i64 3, i64 0, i64 1, i64 2] h fun r h' => r = tc (turn t) ∧ Ext h h' := by
  apply impl_Tile_sides_call
  simp [impl_Tile_sides_main, tc, turn]
theorem turned_c (t : Tile) (h : H) : callA SP i_impl_Tile_turned [.agg (tc t)] h fun r h' => r = tc (turn t) ∧ Ext h h' := by
  apply impl_Tile_turned_call
  simp only [impl_Tile_turned_main, newK, newO]
  refine ⟨rfl, ld_own (cs := tc t) (by simp) rfl ?_⟩
  refine (sides_c t _).to ?_
  rintro _ _ ⟨rfl, l, rfl⟩
  simp [tc, turn]
theorem l01In_c (a b c : Int) (h : H) : callB SP i_spec_l01In [i64 a, i64 b, i64 c] h fun r h' => r = decide (b ≤ a ∧ a ≤ c) ∧ h' = h := by
  apply spec_l01In_call
  unfold spec_l01In_main
  refine bif_dec (fun h1 => ?_) (fun h1 => ?_)
  all_goals simp; try omega
theorem within_c (a b c : Int) (h : H) : callB SP i_impl_within [i64 a, i64 b, i64 c] h fun r h' => r = decide (b ≤ a ∧ a ≤ c) ∧ h' = h := by
  apply impl_within_call
  unfold impl_within_main
  refine bif_dec (fun h1 => ?_) (fun h1 => ?_)
  all_goals simp; try omega
/-! ### search -/
def findI {α : Type} (q : α → Bool) (l : List α) : Int := match l.findIdx? q with | some i => (i : Int) | none => -1
theorem findI_hit {α : Type} {q : α → Bool} {l : List α} {i : Nat} {x : α} (hx : l[i]? = some x) (hq : q x = true) (hn : ∀ j y, j < i → l[j]? = some y → q y = false) : findI q l = i := by
  unfold findI
  have : l.findIdx? q = some i := by
    rw [List.findIdx?_eq_some_iff_getElem]
    obtain ⟨h1, h2⟩ := List.getElem?_eq_some_iff.1 hx
    refine ⟨h1, by rw [h2]; exact hq, fun j hj => ?_⟩
    rw [hn j _ hj (List.getElem?_eq_getElem (by omega))]; simp
  rw [this]
theorem findI_none {α : Type} {q : α → Bool} {l : List α} (hn : ∀ y ∈ l, q y = false) : findI q l = -1 := by
  unfold findI
  have : l.findIdx? q = none := by
    rw [List.findIdx?_eq_none_iff]
    intro x hx; rw [hn x hx]
  rw [this]
theorem findI_ge {α : Type} (q : α → Bool) (l : List α) : decide (findI q l ≥ 0) = l.any q := by
  unfold findI
  cases h : l.findIdx? q with
  | none =>
    rw [List.findIdx?_eq_none_iff] at h
    have : l.any q = false := by rw [List.any_eq_false]; intro x hx; rw [h x hx]; simp
    rw [this]; simp
  | some i =>
    have h2 : l.any q = true := by
      rw [List.findIdx?_eq_some_iff_getElem] at h
      obtain ⟨h1, h2, _⟩ := h
      exact List.any_eq_true.2 ⟨_, List.getElem_mem h1, h2⟩
    rw [h2]; simp
theorem indexFunc_int_c {h0 : H} {s : Sl} {l : List Int} (r : Rd h0 s 1 (ic l)) (hl : l.length < 4000000000000000000) (g : Nat) (cap : List AVal) (q : Int → Bool)
    (hg : ∀ x ∈ l, ∀ h, Ext h0 h → callB SP g (i64 x :: cap) h fun b h' => b = q x ∧ Ext h h') : callI SP .i64 i_slices_IndexFunc_s_int64_int64_ [.sl s, .func g cap] h0 fun n h' => n = findI q l ∧ Ext h0 h' := by
  have hlen : s.len = l.length := by have := r.len; rw [ic_len] at this; omega
  apply slices_IndexFunc_s_int64_int64__call
  unfold slices_IndexFunc_s_int64_int64__main
  refine slices_IndexFunc_s_int64_int64__rule0 _ _ s _ _ (fun i h => 0 ≤ i ∧ i ≤ l.length ∧ Ext h0 h ∧ ∀ j y, j < i.toNat → l[j]? = some y → q y = false) (fun i _ => (l.length - i).toNat) ?_ _ ⟨by omega, by omega, Ext.refl _, fun j y hj => by omega⟩
  intro X i h ⟨i0, i1, hx, hn⟩ hX
  unfold slices_IndexFunc_s_int64_int64__b0
  refine bif_dec (fun hi => ?_) (fun hi => ?_)
  · refine (r.ext hx).ldI i0 (by omega) fun x hxe => via_func ?_
    refine (hg x (List.mem_of_getElem? hxe) h hx).to ?_
    rintro _ h' ⟨rfl, hx'⟩
    refine bif_b (fun hq => ?_) (fun hq => ?_)
    · refine ⟨i, rfl, ?_, hx.trans hx'⟩
      rw [findI_hit hxe hq hn]; omega
    · rw [w64_of (by omega) (by omega)]
      refine hX _ _ ⟨by omega, by omega, hx.trans hx', fun j y hj hy => ?_⟩ (by omega)
      by_cases hji : j = i.toNat
      · subst hji; rw [hxe] at hy; cases hy; exact hq
      · exact hn j y (by omega) hy
  · refine ⟨_, rfl, ?_, hx⟩
    rw [findI_none]
    intro y hy
    obtain ⟨j, hj, rfl⟩ := List.mem_iff_getElem.1 hy
    exact hn j _ (by omega) (List.getElem?_eq_getElem hj)
theorem containsFunc_int_c {h0 : H} {s : Sl} {l : List Int} (r : Rd h0 s 1 (ic l)) (hl : l.length < 4000000000000000000) (g : Nat) (cap : List AVal) (q : Int → Bool)
    (hg : ∀ x ∈ l, ∀ h, Ext h0 h → callB SP g (i64 x :: cap) h fun b h' => b = q x ∧ Ext h h') : callB SP i_slices_ContainsFunc_s_int64_int64_ [.sl s, .func g cap] h0 fun b h' => b = l.any q ∧ Ext h0 h' := by
  apply slices_ContainsFunc_s_int64_int64__call
  unfold slices_ContainsFunc_s_int64_int64__main
  refine (indexFunc_int_c r hl g cap q hg).to ?_
  rintro _ h' ⟨rfl, hx⟩
  exact ⟨_, rfl, findI_ge q l, hx⟩
theorem indexFunc_tile_c {h0 : H} {s : Sl} {l : List Tile} (r : Rd h0 s 4 (tcs l)) (hl : l.length < 4000000000000000000) (g : Nat) (cap : List AVal) (q : Tile → Bool)
    (hg : ∀ x ∈ l, ∀ h, Ext h0 h → callB SP g (.agg (tc x) :: cap) h fun b h' => b = q x ∧ Ext h h') : callI SP .i64 i_slices_IndexFunc_s_impl_Tile_impl_Tile_ [.sl s, .func g cap] h0 fun n h' => n = findI q l ∧ Ext h0 h' := by
  have hlen : s.len = l.length := r.tlen
  apply slices_IndexFunc_s_impl_Tile_impl_Tile__call
  unfold slices_IndexFunc_s_impl_Tile_impl_Tile__main
  refine slices_IndexFunc_s_impl_Tile_impl_Tile__rule0 _ _ s _ _ (fun i h => 0 ≤ i ∧ i ≤ l.length ∧ Ext h0 h ∧ ∀ j y, j < i.toNat → l[j]? = some y → q y = false) (fun i _ => (l.length - i).toNat) ?_ _ ⟨by omega, by omega, Ext.refl _, fun j y hj => by omega⟩
  intro X i h ⟨i0, i1, hx, hn⟩ hX
  unfold slices_IndexFunc_s_impl_Tile_impl_Tile__b0
  refine bif_dec (fun hi => ?_) (fun hi => ?_)
  · refine (r.ext hx).ldT i0 (by omega) fun x hxe => via_func ?_
    refine (hg x (List.mem_of_getElem? hxe) h hx).to ?_
    rintro _ h' ⟨rfl, hx'⟩
    refine bif_b (fun hq => ?_) (fun hq => ?_)
    · refine ⟨i, rfl, ?_, hx.trans hx'⟩
      rw [findI_hit hxe hq hn]; omega
    · rw [w64_of (by omega) (by omega)]
      refine hX _ _ ⟨by omega, by omega, hx.trans hx', fun j y hj hy => ?_⟩ (by omega)
      by_cases hji : j = i.toNat
      · subst hji; rw [hxe] at hy; cases hy; exact hq
      · exact hn j y (by omega) hy
  · refine ⟨_, rfl, ?_, hx⟩
    rw [findI_none]
    intro y hy
    obtain ⟨j, hj, rfl⟩ := List.mem_iff_getElem.1 hy
    exact hn j _ (by omega) (List.getElem?_eq_getElem hj)
theorem containsFunc_tile_c {h0 : H} {s : Sl} {l : List Tile} (r : Rd h0 s 4 (tcs l)) (hl : l.length < 4000000000000000000) (g : Nat) (cap : List AVal) (q : Tile → Bool)
    (hg : ∀ x ∈ l, ∀ h, Ext h0 h → callB SP g (.agg (tc x) :: cap) h fun b h' => b = q x ∧ Ext h h') : callB SP i_slices_ContainsFunc_s_impl_Tile_impl_Tile_ [.sl s, .func g cap] h0 fun b h' => b = l.any q ∧ Ext h0 h' := by
  apply slices_ContainsFunc_s_impl_Tile_impl_Tile__call
  unfold slices_ContainsFunc_s_impl_Tile_impl_Tile__main
  refine (indexFunc_tile_c r hl g cap q hg).to ?_
  rintro _ h' ⟨rfl, hx⟩
  exact ⟨_, rfl, findI_ge q l, hx⟩
/-! ### tiles -/
theorem isTile1_w (x c : Int) (o : Nat) (h : H) (ho : h[o]? = some (.own [i64 c])) : callB SP i_impl_isTile_1 [i64 x, .ptr ⟨some o, 1, 0⟩] h fun b h' => b = (!decide (0 ≤ x ∧ x ≤ w64 (c - 1))) ∧ h' = h := by
  apply impl_isTile_1_call
  unfold impl_isTile_1_main
  refine ⟨c, by simp [ho], ?_⟩
  dsimp only
  refine (within_c _ _ _ _).to ?_
  rintro _ _ ⟨rfl, rfl⟩
  exact ⟨_, rfl, rfl, rfl⟩
theorem isTile_w (t : Tile) (c : Int) (h : H) : callB SP i_impl_isTile [.agg (tc t), i64 c] h fun b h' => b = tileok (w64 (c - 1) + 1) t ∧ Ext h h' := by
  apply impl_isTile_call
  simp only [impl_isTile_main, newK, newO]
  refine ⟨rfl, ⟨by omega, by omega, by omega⟩, rfl, rfl, ?_⟩
  refine (containsFunc_int_c (l := [t.1, t.2.1, t.2.2.1, t.2.2.2]) ⟨rfl, .inr ⟨rfl, rfl, ?_⟩⟩ (by simp) i_impl_isTile_1 _ (fun x => !decide (0 ≤ x ∧ x ≤ w64 (c - 1))) ?_).to ?_
  · simp [tc, ic]
  · intro x _ h' hx
    refine (isTile1_w x c _ h' (hx.own (by simp))).to ?_
    rintro _ _ ⟨rfl, rfl⟩
    exact ⟨rfl, Ext.refl _⟩
  · rintro _ h' ⟨rfl, l, rfl⟩
    refine ⟨_, rfl, ?_, by simp⟩
    simp [tileok, Bool.and_assoc]
theorem isTile_c (t : Tile) (c : Int) (hc : i64ok (c - 1)) (h : H) : callB SP i_impl_isTile [.agg (tc t), i64 c] h fun b h' => b = tileok c t ∧ Ext h h' := by
  have := isTile_w t c h
  rw [w64_of hc.1 hc.2, Int.sub_add_cancel] at this
  exact this
theorem areTiles1_c (t : Tile) (h : H) : callB SP i_impl_areTiles_1 [.agg (tc t)] h fun b h' => b = (!tileok 6 t) ∧ Ext h h' := by
  apply impl_areTiles_1_call
  simp only [impl_areTiles_1_main, newK]
  refine ⟨rfl, ld_own (cs := tc t) (by simp) rfl ?_⟩
  refine (isTile_c t 6 ⟨by omega, by omega⟩ _).to ?_
  rintro _ h' ⟨rfl, l, rfl⟩
  exact ⟨_, rfl, rfl, by simp⟩
theorem areTiles_c {h : H} {s : Sl} {l : List Tile} (r : Rd h s 4 (tcs l)) (hl : l.length < 4000000000000000000) : callB SP i_impl_areTiles [.sl s] h fun b h' => b = l.all (tileok 6) ∧ Ext h h' := by
  apply impl_areTiles_call
  unfold impl_areTiles_main
  refine (containsFunc_tile_c r hl i_impl_areTiles_1 [] (fun t => !tileok 6 t) fun x _ h' _ => areTiles1_c x h').to ?_
  rintro _ h' ⟨rfl, hx⟩
  refine ⟨_, rfl, ?_, hx⟩
  simp [List.all_eq_not_any_not]
theorem tcs_one (t : Tile) : tcs [t] = tc t := by simp [tcs]
theorem Rd.of_ow {h s z cs} (r : Ow h s z cs) : Rd h s z cs := r.rd
/-- The first n turns. -/
def turnsN : Nat → Tile → List Tile
  | 0, _ => []
  | n + 1, t => t :: turnsN n (turn t)
theorem turnsN_succ : ∀ n t, turnsN (n + 1) t = turnsN n t ++ [turnN n t]
  | 0, t => rfl
  | n + 1, t => by
    rw [turnsN, turnsN_succ n (turn t), turnsN]; rfl
theorem turnsN_len : ∀ n t, (turnsN n t).length = n
  | 0, t => rfl
  | n + 1, t => by rw [turnsN, List.length_cons, turnsN_len n]
theorem turns_c (t : Tile) (h : H) : callS SP i_impl_Tile_turns [.agg (tc t)] h fun s h' => Ow h' s 4 (tcs (turnsN 4 t)) ∧ Fr h.length s ∧ Ext h h' := by
  apply impl_Tile_turns_call
  simp only [impl_Tile_turns_main, newK, newO]
  refine ⟨rfl, newS_ow rfl fun s h1 ho hlen hso he => ?_⟩
  subst he
  refine impl_Tile_turns_rule0 _ _ _ (fun s i h' => 0 ≤ i ∧ i ≤ 4 ∧ Ow h' s 4 (tcs (turnsN i.toNat t)) ∧ s.o = some (h.length + 1) ∧ h'[h.length]? = some (.own (tc (turnN i.toNat t))) ∧ Ext h h') (fun _ i _ => (4 - i).toNat) ?_ _ _ ⟨by omega, by omega, ho, by rw [hso]; simp, by simp [turnN], by simp⟩
  intro X s i h' ⟨i0, i4, o1, o2, o3, x⟩ hX
  unfold impl_Tile_turns_b0
  refine bif_dec (fun hi => ?_) (fun hi => ?_)
  · refine ld_own o3 rfl ⟨rfl, newS_ow rfl fun sx hx ox lx sox hex => ?_⟩
    have e1 : Ext h' hx := hex ▸ Ext.app _ _
    refine app_ow (by omega) (o1.ext e1) ox.rd (by have := o1.len; rw [tcs_len, turnsN_len] at this; rw [lx]; unfold lim; omega) fun s2 h2 oo ll bb rr _ => ?_
    have e2 : h2[h.length]? = some (.own (tc (turnN i.toNat t))) := bb.get (e1.own o3) (by rw [o2]; intro e; injection e with e; omega)
    refine ld_own e2 rfl ?_
    refine (turned_c _ _).to ?_
    rintro _ h3 ⟨rfl, x3⟩
    refine st_own (k := 4) (x3.own e2) rfl rfl fun b4 g4 => ?_
    have hs2 : s2.o = some (h.length + 1) := rr _ o2
    rw [w64_of (by omega) (by omega)]
    have ei : (i + 1).toNat = i.toNat + 1 := by omega
    refine hX _ _ _ ⟨by omega, by omega, ?_, hs2, ?_, ?_⟩ (by omega)
    · rw [ei, turnsN_succ, tcs_app, tcs_one]
      exact (oo.ext x3).but b4 (.inl (by rw [hs2]; intro e; injection e with e; omega))
    · rw [ei, turnN_succ]; exact g4
    · exact (((x.trans e1).but_ bb (by rw [o2]; exact some_le (by omega))).trans x3).but_ b4 (some_le (Nat.le_refl _))
  · have : i = 4 := by omega
    subst this
    exact ⟨_, rfl, o1, fun o e => by rw [o2] at e; cases e; omega, x⟩
theorem l07Turn_c (t : Tile) (n : Int) (h0 : 0 ≤ n) (h1 : n < 9223372036854775808) (h : H) : callA SP i_spec_l07Turn [.agg (tc t), i64 n] h fun r h' => r = tc (turnN n.toNat t) ∧ Ext h h' := by
  apply spec_l07Turn_call
  simp only [spec_l07Turn_main, newK, newO]
  refine ⟨rfl, ?_⟩
  refine spec_l07Turn_rule0 _ _ _ _ (fun i h' => 0 ≤ i ∧ i ≤ n ∧ ∃ t', h' = h ++ [.own (tc t'), .own [i64 0, i64 0, i64 0, i64 0]] ∧ turnN i.toNat t' = turnN n.toNat t) (fun i _ => i.toNat) ?_ _ ⟨h0, Int.le_refl _, t, by simp, rfl⟩
  rintro X i _ ⟨i0, i1, t', rfl, he⟩ hX
  unfold spec_l07Turn_b0 spec_l07Turn_C0
  refine bif_dec (fun hi => ?_) (fun hi => ?_)
  · rw [w64_of (by omega) (by omega)]
    have hx := hX (i - 1) (h ++ [.own (tc (turn t')), .own [i64 0, i64 0, i64 0, i64 0]]) ⟨by omega, by omega, turn t', rfl, by rw [← he, show i.toNat = (i - 1).toNat + 1 by omega, turnN]⟩ (by omega)
    simpa [tc, turn] using hx
  · have : i.toNat = 0 := by omega
    rw [this] at he
    simp only [turnN] at he
    subst he
    simp [tc]
theorem l01Tile_c (c : Int) (hc : i64ok (c - 1)) (t : Tile) (h : H) : callB SP i_spec_l01Tile [i64 c, .agg (tc t)] h fun b h' => b = tileok c t ∧ Ext h h' := by
  apply spec_l01Tile_call
  simp only [spec_l01Tile_main, newK]
  refine ⟨rfl, ?_⟩
  refine spec_l01Tile_rule0 _ _ _ _ (fun i h' => 0 ≤ i ∧ i ≤ 4 ∧ h' = h ++ [.own (tc t)] ∧ ∀ j y, j < i.toNat → [t.1, t.2.1, t.2.2.1, t.2.2.2][j]? = some y → 0 ≤ y ∧ y ≤ c - 1) (fun i _ => (4 - i).toNat) ?_ _ ⟨by omega, by omega, rfl, fun j y hj => by omega⟩
  rintro X i _ ⟨i0, i1, rfl, hn⟩ hX
  unfold spec_l01Tile_b0 spec_l01Tile_C0
  refine bif_dec (fun hi => ?_) (fun hi => ?_)
  · have hx : ∃ x, [t.1, t.2.1, t.2.2.1, t.2.2.2][i.toNat]? = some x := ⟨_, List.getElem?_eq_getElem (by simp; omega)⟩
    obtain ⟨x, hx⟩ := hx
    refine ⟨⟨i0, hi⟩, rfl, x, ?_, ?_⟩
    · have hg : (tc t)[i.toNat]? = some (i64 x) := by
        rw [show tc t = ic [t.1, t.2.1, t.2.2.1, t.2.2.2] from rfl]
        unfold ic
        rw [List.getElem?_map, hx]; rfl
      simp [hg, tc_len]
    · dsimp only
      rw [w64_of hc.1 hc.2, w64_of (by omega) (by omega)]
      refine (l01In_c _ _ _ _).to ?_
      rintro _ _ ⟨rfl, rfl⟩
      refine bif_not (fun hq => ?_) (fun hq => ?_)
      · refine ⟨_, rfl, ?_, by simp⟩
        rw [decide_eq_false_iff_not] at hq
        have hm := List.mem_of_getElem? hx
        simp only [List.mem_cons, List.not_mem_nil, or_false] at hm
        unfold tileok
        rcases hm with rfl | rfl | rfl | rfl <;> simp [hq]
      · refine hX _ _ ⟨by omega, by omega, rfl, fun j y hj hy => ?_⟩ (by omega)
        by_cases hji : j = i.toNat
        · subst hji; rw [hx] at hy; cases hy; exact of_decide_eq_true hq
        · exact hn j y (by omega) hy
  · refine ⟨_, rfl, ?_, by simp⟩
    unfold tileok
    have h4 : i.toNat = 4 := by omega
    rw [h4] at hn
    have a0 := hn 0 _ (by omega) rfl
    have a1 := hn 1 _ (by omega) rfl
    have a2 := hn 2 _ (by omega) rfl
    have a3 := hn 3 _ (by omega) rfl
    simp [a0, a1, a2, a3]
def tilesCode (l : List Tile) : Int := if l.all (tileok 6) then 0 else 2
theorem l07Tiles_c {h0 : H} {s : Sl} {l : List Tile} (r : Rd h0 s 4 (tcs l)) (hl : l.length < 4000000000000000000) : callI SP .i64 i_spec_l07Tiles [.sl s] h0 fun n h' => n = tilesCode l ∧ Ext h0 h' := by
  have hlen : s.len = l.length := r.tlen
  apply spec_l07Tiles_call
  unfold spec_l07Tiles_main
  refine spec_l07Tiles_rule0 _ _ _ (fun i h => 0 ≤ i ∧ i ≤ l.length ∧ Ext h0 h ∧ ∀ j y, j < i.toNat → l[j]? = some y → tileok 6 y = true) (fun i _ => (l.length - i).toNat) ?_ _ ⟨by omega, by omega, Ext.refl _, fun j y hj => by omega⟩
  intro X i h ⟨i0, i1, hx, hn⟩ hX
  unfold spec_l07Tiles_b0 spec_l07Tiles_C0
  refine bif_dec (fun hi => ?_) (fun hi => ?_)
  · refine (r.ext hx).ldT i0 (by omega) fun x hxe => ?_
    refine (l01Tile_c 6 ⟨by omega, by omega⟩ x h).to ?_
    rintro _ h' ⟨rfl, hx'⟩
    refine bif_not (fun hq => ?_) (fun hq => ?_)
    · refine ⟨_, rfl, ?_, hx.trans hx'⟩
      unfold tilesCode
      rw [if_neg]
      intro ha
      rw [List.all_eq_true] at ha
      rw [ha x (List.mem_of_getElem? hxe)] at hq
      cases hq
    · rw [w64_of (by omega) (by omega)]
      refine hX _ _ ⟨by omega, by omega, hx.trans hx', fun j y hj hy => ?_⟩ (by omega)
      by_cases hji : j = i.toNat
      · subst hji; rw [hxe] at hy; cases hy; exact hq
      · exact hn j y (by omega) hy
  · refine ⟨_, rfl, ?_, hx⟩
    unfold tilesCode
    rw [if_pos]
    rw [List.all_eq_true]
    intro y hy
    obtain ⟨j, hj, rfl⟩ := List.mem_iff_getElem.1 hy
    exact hn j _ (by omega) (List.getElem?_eq_getElem hj)
/-! ### TurnsOf -/
def turnsOf (t : Tile) : List Tile × Int := if tileok 6 t then (turnsN 4 t, 0) else ([], 2)
theorem impl_TurnsOf_c (t : Tile) (h : H) : callV SP i_impl_TurnsOf [.agg (tc t)] h fun v h' => ∃ s, v = .tuple [.sl s, i64 (turnsOf t).2] ∧ Ow h' s 4 (tcs (turnsOf t).1) ∧ Fr h.length s ∧ Ext h h' := by
  apply impl_TurnsOf_call
  simp only [impl_TurnsOf_main, newK]
  refine ⟨rfl, ld_own (cs := tc t) (by simp) rfl ⟨rfl, newS_ow rfl fun sx hx ox lx sox hex => ?_⟩⟩
  subst hex
  refine (areTiles_c (l := [t]) (by rw [tcs_one]; exact ox.rd) (by simp)).to ?_
  rintro _ h1 ⟨rfl, l1, rfl⟩
  refine bif_not (fun hq => ?_) (fun hq => ?_)
  · have : tileok 6 t = false := by simpa using hq
    simp only [turnsOf, this]
    exact ⟨_, rfl, Ow.nil _ _, Fr.nil _, by simp⟩
  · have : tileok 6 t = true := by simpa using hq
    simp only [turnsOf, this]
    refine ld_own (cs := tc t) (by simp) rfl ?_
    refine (turns_c t _).to ?_
    rintro s h2 ⟨o, f, l2, rfl⟩
    exact ⟨s, rfl, o, f.le (by simp), by simp⟩
theorem spec_TurnsOf_c (t : Tile) (h : H) : callV SP i_spec_TurnsOf [.agg (tc t)] h fun v h' => ∃ s, v = .tuple [.sl s, i64 (turnsOf t).2] ∧ Ow h' s 4 (tcs (turnsOf t).1) ∧ Fr h.length s ∧ Ext h h' := by
  apply spec_TurnsOf_call
  simp only [spec_TurnsOf_main, newK]
  refine ⟨rfl, ld_own (cs := tc t) (by simp) rfl ⟨rfl, newS_ow rfl fun sx hx ox lx sox hex => ?_⟩⟩
  subst hex
  refine (l07Tiles_c (l := [t]) (by rw [tcs_one]; exact ox.rd) (by simp)).to ?_
  rintro _ h1 ⟨rfl, l1, rfl⟩
  unfold tilesCode
  refine bif_ne (fun hq => ?_) (fun hq => ?_)
  · have : tileok 6 t = false := by
      cases ht : tileok 6 t with
      | false => rfl
      | true => simp [ht] at hq
    simp only [turnsOf, this]
    exact ⟨_, by simp [this, i64], Ow.nil _ _, Fr.nil _, by simp⟩
  · have : tileok 6 t = true := by
      cases ht : tileok 6 t with
      | false => simp [ht] at hq
      | true => rfl
    simp only [turnsOf, this]
    generalize hh : h ++ [AObj.own (tc t)] ++ [AObj.own (spl [.int .i64 0, .int .i64 0, .int .i64 0, .int .i64 0] 0 4 (tc t))] ++ l1 = g
    have e0 : g[h.length]? = some (.own (tc t)) := by subst hh; simp
    have x0 : Ext h g := by subst hh; simp
    have rg : ∀ g', Ext g g' → Cl.range g' (some h.length) 4 0 4 = some (tc t) := fun g' x => by
      have e1 := x.own e0
      simp [e1, tc]
    refine ld_own e0 rfl (ld_own e0 rfl ?_)
    refine (l07Turn_c t 1 (by omega) (by omega) g).to ?_
    rintro _ g1 ⟨rfl, x1⟩
    refine ⟨by rw [rg _ x1, rg _ (Ext.refl _)], ld_own (x1.own e0) rfl ⟨by rw [rg _ x1, rg _ (Ext.refl _)], ?_⟩⟩
    refine (l07Turn_c t 2 (by omega) (by omega) g1).to ?_
    rintro _ g2 ⟨rfl, x2⟩
    have x12 := x1.trans x2
    refine ⟨by rw [rg _ x12, rg _ (Ext.refl _)], ld_own (x12.own e0) rfl ⟨by rw [rg _ x1, rg _ x12], by rw [rg _ x12, rg _ (Ext.refl _)], ?_⟩⟩
    refine (l07Turn_c t 3 (by omega) (by omega) g2).to ?_
    rintro _ g3 ⟨rfl, x3⟩
    have x13 := x12.trans x3
    refine ⟨by rw [rg _ x13, rg _ (Ext.refl _)], rfl, rfl, rfl, rfl, newS_ow (by rfl) fun s h' o ls so he => ?_⟩
    refine ⟨_, rfl, o, ?_, ?_⟩
    · intro i e; rw [so] at e; injection e with e; have := (x0.trans x13).len; omega
    · subst he; exact (x0.trans x13).trans (Ext.app _ _)
/-! ### the laws' helpers -/
theorem toTile_c (t : Tile) (h : H) : callA SP i_laws_toTile [.agg (tc t)] h fun r h' => r = tc t ∧ Ext h h' := by
  apply laws_toTile_call
  simp only [laws_toTile_main, newK, newO]
  refine ⟨rfl, ?_⟩
  refine laws_toTile_unroll0 _ _ _ _ _ _ _ (bif_dec (fun _ => ?_) (fun hn => absurd (by omega) hn))
  have e1 : w64 (0 + 1) = 1 := w64_of (by omega) (by omega)
  have e2 : w64 (1 + 1) = 2 := w64_of (by omega) (by omega)
  have e3 : w64 (2 + 1) = 3 := w64_of (by omega) (by omega)
  have e4 : w64 (3 + 1) = 4 := w64_of (by omega) (by omega)
  rw [e1]
  simp [tc]
  refine laws_toTile_unroll0 _ _ _ _ _ _ _ (bif_dec (fun _ => ?_) (fun hn => absurd (by omega) hn))
  rw [e2]
  simp
  refine laws_toTile_unroll0 _ _ _ _ _ _ _ (bif_dec (fun _ => ?_) (fun hn => absurd (by omega) hn))
  rw [e3]
  simp
  refine laws_toTile_unroll0 _ _ _ _ _ _ _ (bif_dec (fun _ => ?_) (fun hn => absurd (by omega) hn))
  rw [e4]
  simp
  refine laws_toTile_unroll0 _ _ _ _ _ _ _ (bif_dec (fun hn => absurd hn (by omega)) (fun hn => ?_))
  simp [laws_toTile_C0]
def tl (t : Tile) : List Int := [t.1, t.2.1, t.2.2.1, t.2.2.2]
theorem tc_tl (t : Tile) : tc t = ic (tl t) := rfl
theorem tl_inj {a b : Tile} (h : tl a = tl b) : a = b := by
  obtain ⟨a1, a2, a3, a4⟩ := a
  obtain ⟨b1, b2, b3, b4⟩ := b
  simp [tl] at h
  simp [h]
theorem eqTile_c (a b : Tile) (h : H) : callB SP i_laws_eqTile [.agg (tc a), .agg (tc b)] h fun r h' => r = (a == b) ∧ Ext h h' := by
  apply laws_eqTile_call
  simp only [laws_eqTile_main, newK]
  refine ⟨rfl, rfl, ?_⟩
  refine laws_eqTile_rule0 _ _ _ _ (fun i h' => 0 ≤ i ∧ i ≤ 4 ∧ h' = h ++ [.own (tc a)] ++ [.own (tc b)] ∧ ∀ j, j < i.toNat → (tl a)[j]? = (tl b)[j]?) (fun i _ => (4 - i).toNat) ?_ _ ⟨by omega, by omega, rfl, fun j hj => by omega⟩
  rintro X i _ ⟨i0, i1, rfl, hn⟩ hX
  unfold laws_eqTile_b0 laws_eqTile_C0
  refine bif_dec (fun hi => ?_) (fun hi => ?_)
  · have hx : (tl a)[i.toNat]? = some _ := List.getElem?_eq_getElem (by simp [tl]; omega)
    have hy : (tl b)[i.toNat]? = some _ := List.getElem?_eq_getElem (by simp [tl]; omega)
    refine ixA_ldI (cs := tc a) (by simp) rfl i0 hi (ic_at hx) (ixA_ldI (cs := tc b) (by simp) rfl i0 hi (ic_at hy) (bif_ne (fun hq => ?_) (fun hq => ?_)))
    · refine ⟨_, rfl, ?_, by simp⟩
      symm
      rw [beq_eq_false_iff_ne]
      rintro rfl
      exact hq rfl
    · rw [w64_of (by omega) (by omega)]
      refine hX _ _ ⟨by omega, by omega, rfl, fun j hj => ?_⟩ (by omega)
      by_cases hji : j = i.toNat
      · subst hji; rw [hx, hy, hq]
      · exact hn j (by omega)
  · refine ⟨_, rfl, ?_, by simp⟩
    symm
    rw [beq_iff_eq]
    apply tl_inj
    apply List.ext_getElem?
    intro j
    by_cases hj : j < 4
    · exact hn j (by omega)
    · rw [List.getElem?_eq_none (by simp [tl]; omega), List.getElem?_eq_none (by simp [tl]; omega)]
theorem eqTileS_c {h0 : H} {s s' : Sl} {l l' : List Tile} (r : Rd h0 s 4 (tcs l)) (r' : Rd h0 s' 4 (tcs l')) (hl : l.length < 4000000000000000000) : callB SP i_laws_eqTileS [.sl s, .sl s'] h0 fun b h' => b = (l == l') ∧ Ext h0 h' := by
  have hlen : s.len = l.length := r.tlen
  have hlen' : s'.len = l'.length := r'.tlen
  apply laws_eqTileS_call
  unfold laws_eqTileS_main
  refine bif_ne (fun hq => ?_) (fun hq => ?_)
  · refine ⟨_, rfl, ?_, Ext.refl _⟩
    cases hb : l == l' with
    | false => rfl
    | true => rw [beq_iff_eq] at hb; subst hb; omega
  refine laws_eqTileS_rule0 _ _ _ _ (fun i h => 0 ≤ i ∧ i ≤ l.length ∧ Ext h0 h ∧ ∀ j, j < i.toNat → l[j]? = l'[j]?) (fun i _ => (l.length - i).toNat) ?_ _ ⟨by omega, by omega, Ext.refl _, fun j hj => by omega⟩
  intro X i h ⟨i0, i1, hx, hn⟩ hX
  unfold laws_eqTileS_b0 laws_eqTileS_C0
  refine bif_dec (fun hi => ?_) (fun hi => ?_)
  · refine (r.ext hx).ldT i0 (by omega) fun x hxe => (r'.ext hx).ldT i0 (by omega) fun y hye => ?_
    refine (eqTile_c x y h).to ?_
    rintro _ h' ⟨rfl, hx'⟩
    refine bif_not (fun hq => ?_) (fun hq => ?_)
    · refine ⟨_, rfl, ?_, hx.trans hx'⟩
      cases hb : l == l' with
      | false => rfl
      | true =>
        rw [beq_iff_eq] at hb; subst hb
        rw [hxe] at hye; cases hye
        simp at hq
    · rw [w64_of (by omega) (by omega)]
      refine hX _ _ ⟨by omega, by omega, hx.trans hx', fun j hj => ?_⟩ (by omega)
      by_cases hji : j = i.toNat
      · subst hji
        rw [beq_iff_eq] at hq
        rw [hxe, hye, hq]
      · exact hn j (by omega)
  · refine ⟨_, rfl, ?_, hx⟩
    symm
    rw [beq_iff_eq]
    apply List.ext_getElem?
    intro j
    by_cases hj : j < l.length
    · exact hn j (by omega)
    · rw [List.getElem?_eq_none (by omega), List.getElem?_eq_none (by omega)]
/-- k, k + 1, .. -/
def upto (k : Int) : Nat → List Int
  | 0 => []
  | n + 1 => k :: upto (k + 1) n
theorem upto_len : ∀ n k, (upto k n).length = n
  | 0, _ => rfl
  | n + 1, k => by simp [upto, upto_len n]
theorem upto_at : ∀ n k i, i < n → (upto k n)[i]? = some (k + i)
  | n + 1, k, 0, _ => by simp [upto]
  | n + 1, k, i + 1, h => by
    rw [upto, List.getElem?_cons_succ, upto_at n (k + 1) i (by omega)]
    congr 1; push_cast; omega
/-- a store into a view that is owned whole -/
theorem Ow.st1 {h : H} {s : Sl} {z : Nat} {l : List Int} (r : Ow h s z (ic l)) {i j : Int} (hz : 0 < z) (h0 : 0 ≤ i) (h1 : i < s.len) (j0 : 0 ≤ j) (j1 : j < z) (x : Int) {K : H → Prop}
    (hk : ∀ h', Ow h' s z (ic (l.set (i.toNat * z + j.toNat) x)) → But s.o h h' → h'.length = h.length → K h') : ixS s z i fun p => ixA p z 1 j fun q => Cl.st1 q (i64 x) h K := by
  obtain ⟨a, b⟩ | ⟨o, a, b, c, d, e⟩ := r.at_
  · omega
  · have hlen := r.len
    rw [ic_len] at hlen
    have hb : i.toNat * z + j.toNat < l.length := by
      have : (i.toNat + 1) * z ≤ s.len * z := Nat.mul_le_mul_right _ (by omega)
      rw [Nat.add_mul] at this; omega
    have ho : o < h.length := (List.getElem?_eq_some_iff.1 e).1
    refine ⟨⟨h0, h1⟩, b, by simp [a], ⟨j0, j1⟩, by simp [Pt.add, a], h.set o (.own (ic (l.set (i.toNat * z + j.toNat) x))), ?_, hk _ ⟨by rw [ic_len]; simpa using hlen, .inr ⟨o, a, b, c, d, by simp [List.getElem?_set, ho]⟩⟩ ?_ (by simp)⟩
    · unfold put1 owned Pt.add
      have : (ic l).set (i.toNat * z + j.toNat) (i64 x) = ic (l.set (i.toNat * z + j.toNat) x) := by unfold ic; rw [List.map_set]
      simp [a, c, d, e, ic_len, hlen, this]
      omega
    · rw [a]
      exact ⟨by simp, fun k hk hn => by rw [List.getElem?_set, if_neg (fun e => hn (by rw [e]))]⟩
theorem markTileS_k {h0 : H} {s : Sl} {l : List Int} (r : Ow h0 s 4 (ic l)) (k0 : Int) (hk0 : 0 ≤ k0) (hk1 : k0 ≤ 1000000000000000000) (hl : s.len < 1000000000000000000) : callI SP .i64 i_laws_markTileS [.sl s, i64 k0] h0 fun n h' => n = k0 + 4 * s.len ∧ Ow h' s 4 (ic (upto k0 (s.len * 4))) ∧ But s.o h0 h' ∧ h'.length = h0.length := by
  have hlen := r.len
  rw [ic_len] at hlen
  apply laws_markTileS_call
  unfold laws_markTileS_main
  refine laws_markTileS_rule0 _ _ _ (fun k i h => 0 ≤ i ∧ i ≤ s.len ∧ k = k0 + 4 * i ∧ ∃ l', Ow h s 4 (ic l') ∧ (∀ j : Nat, j < i.toNat * 4 → l'[j]? = some (k0 + (j : Int))) ∧ But s.o h0 h ∧ h.length = h0.length) (fun k i _ => (s.len - i).toNat) ?_ _ _ ⟨by omega, by omega, by omega, l, r, fun j hj => by omega, But.refl _ _, rfl⟩
  rintro X k i h ⟨i0, i1, rfl, l1, o1, e1, b1, n1⟩ hX
  unfold laws_markTileS_b0 laws_markTileS_C0
  refine bif_dec (fun hi => ?_) (fun hi => ?_)
  · refine laws_markTileS_rule2 _ _ X s i (fun k j h => 0 ≤ j ∧ j ≤ 4 ∧ k = k0 + 4 * i + j ∧ ∃ l', Ow h s 4 (ic l') ∧ (∀ j2 : Nat, j2 < i.toNat * 4 + j.toNat → l'[j2]? = some (k0 + (j2 : Int))) ∧ But s.o h0 h ∧ h.length = h0.length) (fun k j _ => (4 - j).toNat) ?_ _ _ ⟨by omega, by omega, by omega, l1, o1, fun j hj => e1 j (by omega), b1, n1⟩
    rintro Y k j h' ⟨j0, j1, rfl, l2, o2, e2, b2, n2⟩ hY
    unfold laws_markTileS_b2 laws_markTileS_C2 laws_markTileS_C1
    refine bif_dec (fun hj => ?_) (fun hj => ?_)
    · refine o2.st1 (by omega) i0 hi j0 hj _ fun h3 o3 b3 n3 => ?_
      rw [w64_of (by omega) (by omega), w64_of (by omega) (by omega)]
      refine hY _ _ _ ⟨by omega, by omega, by omega, _, o3, fun j2 hj2 => ?_, b2.trans b3, by omega⟩ (by omega)
      have hl2 := o2.len
      rw [ic_len] at hl2
      rw [List.getElem?_set]
      split
      · next e =>
        rw [if_pos (by omega)]
        congr 1; omega
      · exact e2 j2 (by omega)
    · rw [w64_of (by omega) (by omega)]
      have : j = 4 := by omega
      subst this
      refine hX _ _ _ ⟨by omega, by omega, by omega, l2, o2, fun j hj => e2 j (by omega), b2, n2⟩ (by omega)
  · have : i = s.len := by omega
    subst this
    refine ⟨_, rfl, by omega, ?_, b1, n1⟩
    have : l1 = upto k0 (s.len * 4) := by
      have hl1 := o1.len
      rw [ic_len] at hl1
      apply List.ext_getElem?
      intro j
      by_cases hj : j < s.len * 4
      · rw [e1 j (by omega), upto_at _ _ _ hj]
      · rw [List.getElem?_eq_none (by omega), List.getElem?_eq_none (by rw [upto_len]; omega)]
    rw [← this]; exact o1
theorem heldTileS_k {h0 : H} {s : Sl} (k0 : Int) (hk0 : 0 ≤ k0) (hk1 : k0 ≤ 1000000000000000000) (r : Rd h0 s 4 (ic (upto k0 (s.len * 4)))) (hl : s.len < 1000000000000000000) : callI SP .i64 i_laws_heldTileS [.sl s, i64 k0] h0 fun n h' => n = k0 + 4 * s.len ∧ h' = h0 := by
  apply laws_heldTileS_call
  unfold laws_heldTileS_main
  refine laws_heldTileS_rule0 _ _ _ (fun k i h => 0 ≤ i ∧ i ≤ s.len ∧ k = k0 + 4 * i ∧ h = h0) (fun k i _ => (s.len - i).toNat) ?_ _ _ ⟨by omega, by omega, by omega, rfl⟩
  rintro X k i _ ⟨i0, i1, rfl, rfl⟩ hX
  unfold laws_heldTileS_b0 laws_heldTileS_C0
  refine bif_dec (fun hi => ?_) (fun hi => ?_)
  · refine laws_heldTileS_rule2 _ _ X s i (fun k j h' => 0 ≤ j ∧ j ≤ 4 ∧ k = k0 + 4 * i + j ∧ h' = _) (fun k j _ => (4 - j).toNat) ?_ _ _ ⟨by omega, by omega, by omega, rfl⟩
    rintro Y k j _ ⟨j0, j1, rfl, rfl⟩ hY
    unfold laws_heldTileS_b2 laws_heldTileS_C2 laws_heldTileS_C1
    refine bif_dec (fun hj => ?_) (fun hj => ?_)
    · refine r.ix i0 hi fun p po pr => ⟨⟨j0, hj⟩, po, k0 + 4 * i + j, ?_, ?_⟩
      · have := cell_of_range pr (i := j.toNat) (by omega)
        rw [Pt.add, Nat.mul_one, this, List.getElem?_take, if_pos (by omega), List.getElem?_drop, ic_at (upto_at _ _ _ (by omega))]
        unfold i64; congr 2; push_cast; omega
      · refine bif_ne (fun hq => absurd rfl hq) (fun _ => ?_)
        rw [w64_of (by omega) (by omega), w64_of (by omega) (by omega)]
        exact hY _ _ _ ⟨by omega, by omega, by omega, rfl⟩ (by omega)
    · rw [w64_of (by omega) (by omega)]
      exact hX _ _ _ ⟨by omega, by omega, by omega, rfl⟩ (by omega)
  · exact ⟨_, rfl, by omega, rfl⟩
theorem markTileS_c {h0 : H} {s : Sl} {l : List Int} (r : Ow h0 s 4 (ic l)) (hl : s.len < 1000000000000000000) : callI SP .i64 i_laws_markTileS [.sl s, i64 1] h0 fun n h' => n = 1 + 4 * s.len ∧ Ow h' s 4 (ic (upto 1 (s.len * 4))) ∧ But s.o h0 h' ∧ h'.length = h0.length := markTileS_k r 1 (by omega) (by omega) hl
theorem heldTileS_c {h0 : H} {s : Sl} (r : Rd h0 s 4 (ic (upto 1 (s.len * 4)))) (hl : s.len < 1000000000000000000) : callI SP .i64 i_laws_heldTileS [.sl s, i64 1] h0 fun n h' => n = 1 + 4 * s.len ∧ h' = h0 := heldTileS_k 1 (by omega) (by omega) r hl
attribute [local simp] newK newO ixA ldI ldA stN st1 Cl.range cell Cl.cells putN put1 owned get_app get_app0 set_app set_app0 Pt.add splice Ext.app Ext.refl cutA isPt
/-! ### comparing -/
def cmpL : List Int → List Int → Int
  | [], [] => 0
  | [], _ :: _ => -1
  | _ :: _, [] => 1
  | a :: l, b :: m => if a < b then -1 else if a > b then 1 else cmpL l m
theorem isNaN_c (x : Int) (h : H) : callB SP i_cmp_isNaN_int64_ [i64 x] h fun b h' => b = false ∧ h' = h := by
  apply cmp_isNaN_int64__call
  unfold cmp_isNaN_int64__main
  exact ⟨_, rfl, by simp, rfl⟩
theorem cmpCompare_c (x y : Int) (h : H) : callI SP .i64 i_cmp_Compare_int64_ [i64 x, i64 y] h fun n h' => n = (if x < y then -1 else if x > y then 1 else 0) ∧ h' = h := by
  apply cmp_Compare_int64__call
  unfold cmp_Compare_int64__main
  refine (isNaN_c x h).to ?_
  rintro _ _ ⟨rfl, rfl⟩
  refine (isNaN_c y _).to ?_
  rintro _ _ ⟨rfl, rfl⟩
  refine bif_dec (fun h1 => ⟨_, rfl, by simp [h1], rfl⟩) (fun h1 => bif_dec (fun h2 => ⟨_, rfl, by simp [h1, h2], rfl⟩) (fun h2 => ⟨_, rfl, by simp [h1, h2], rfl⟩))
theorem drop_cons {α : Type} {l : List α} {i : Nat} {x : α} (e : l[i]? = some x) : l.drop i = x :: l.drop (i + 1) := by
  obtain ⟨h, rfl⟩ := List.getElem?_eq_some_iff.1 e
  exact List.drop_eq_getElem_cons h
theorem sCompare_c {h0 : H} {s s' : Sl} {l l' : List Int} (r : Rd h0 s 1 (ic l)) (r' : Rd h0 s' 1 (ic l')) (hl : l.length < 4000000000000000000) : callI SP .i64 i_slices_Compare_s_int64_int64_ [.sl s, .sl s'] h0 fun n h' => n = cmpL l l' ∧ h' = h0 := by
  have hlen : s.len = l.length := by have := r.len; rw [ic_len] at this; omega
  have hlen' : s'.len = l'.length := by have := r'.len; rw [ic_len] at this; omega
  apply slices_Compare_s_int64_int64__call
  unfold slices_Compare_s_int64_int64__main
  refine slices_Compare_s_int64_int64__rule0 _ _ s s' s _ (fun i h => 0 ≤ i ∧ i ≤ l.length ∧ i ≤ l'.length ∧ h = h0 ∧ cmpL l l' = cmpL (l.drop i.toNat) (l'.drop i.toNat)) (fun i _ => (l.length - i).toNat) ?_ _ ⟨by omega, by omega, by omega, rfl, by simp⟩
  rintro X i _ ⟨i0, i1, i2, rfl, he⟩ hX
  unfold slices_Compare_s_int64_int64__b0 slices_Compare_s_int64_int64__C0
  refine bif_dec (fun hi => ?_) (fun hi => ?_)
  · refine r.ldI i0 (by omega) fun x hx => bif_dec (fun hj => ?_) (fun hj => ?_)
    · refine ⟨_, rfl, ?_, rfl⟩
      rw [he, drop_cons hx, List.drop_eq_nil_of_le (show l'.length ≤ i.toNat by omega)]; rfl
    · refine r'.ldI i0 (by omega) fun y hy => ?_
      refine (cmpCompare_c x y _).to ?_
      rintro _ _ ⟨rfl, rfl⟩
      rw [drop_cons hx, drop_cons hy, cmpL] at he
      refine bif_ne (fun hq => ⟨_, rfl, ?_, rfl⟩) (fun hq => ?_)
      · rw [he]
        split
        · rfl
        · split
          · rfl
          · next h1 h2 => simp [h1, h2] at hq
      · rw [w64_of (by omega) (by omega)]
        refine hX _ _ ⟨by omega, by omega, by omega, rfl, ?_⟩ (by omega)
        rw [he, show (i + 1).toNat = i.toNat + 1 by omega]
        split
        · next h1 => simp [h1] at hq
        · split
          · next h1 h2 => simp [h1, h2] at hq
          · rfl
  · have e1 : l.drop i.toNat = [] := List.drop_eq_nil_of_le (by omega)
    refine bif_dec (fun hj => ⟨_, rfl, ?_, rfl⟩) (fun hj => ⟨_, rfl, ?_, rfl⟩)
    · have hy : l'[i.toNat]? = some _ := List.getElem?_eq_getElem (by omega)
      rw [he, e1, drop_cons hy]; rfl
    · rw [he, e1, List.drop_eq_nil_of_le (show l'.length ≤ i.toNat by omega)]; rfl
def cmpT (a b : Tile) : Int := cmpL (tl a) (tl b)
theorem compare_c (a b : Tile) (h : H) : callI SP .i64 i_impl_compare [.agg (tc a), .agg (tc b)] h fun n h' => n = cmpT a b ∧ Ext h h' := by
  apply impl_compare_call
  simp only [impl_compare_main, newK]
  refine ⟨rfl, rfl, ⟨by omega, by omega, by omega⟩, rfl, rfl, ⟨by omega, by omega, by omega⟩, rfl, rfl, ?_⟩
  refine (sCompare_c (l := tl a) (l' := tl b) ⟨rfl, .inr ⟨rfl, rfl, ?_⟩⟩ ⟨rfl, .inr ⟨rfl, rfl, ?_⟩⟩ (by simp [tl])).to ?_
  · simp [tc, tl, ic]
  · simp [tc, tl, ic]
  · rintro _ _ ⟨rfl, rfl⟩
    exact ⟨_, rfl, rfl, by simp⟩
/-- The less of two tiles; the first, if they are alike. -/
def lessT (m x : Tile) : Tile := if cmpT x m < 0 then x else m
theorem minFunc_c {h0 : H} {s : Sl} {a : Tile} {l : List Tile} (r : Rd h0 s 4 (tcs (a :: l))) (hl : l.length < 4000000000000000000) : callA SP i_slices_MinFunc_s_impl_Tile_impl_Tile_ [.sl s, .func i_impl_compare []] h0 fun v h' => v = tc (l.foldl lessT a) ∧ Ext h0 h' := by
  have hlen : s.len = l.length + 1 := by rw [r.tlen]; rfl
  apply slices_MinFunc_s_impl_Tile_impl_Tile__call
  simp only [slices_MinFunc_s_impl_Tile_impl_Tile__main, newO]
  refine bif_dec (fun h => by omega) (fun _ => ?_)
  refine (r.ext (Ext.app _ _)).ldT (by omega) (by simp) fun t ht => ?_
  simp at ht
  subst ht
  refine st_own (k := 4) (cs := [.int .i64 0, .int .i64 0, .int .i64 0, .int .i64 0]) (by simp) rfl rfl fun b g => ?_
  refine slices_MinFunc_s_impl_Tile_impl_Tile__rule0 _ _ s _ _ _ (fun i h => 1 ≤ i ∧ i ≤ l.length + 1 ∧ Ext h0 h ∧ ∃ m c, h[h0.length]? = some (.own c) ∧ c.length = 4 ∧ h[h0.length + 1]? = some (.own (tc m)) ∧ ((a :: l).drop i.toNat).foldl lessT m = l.foldl lessT a) (fun i _ => (l.length + 1 - i).toNat) ?_ _ ⟨by omega, by omega, by simp, a, [i64 0, i64 0, i64 0, i64 0], by simp [i64], rfl, by simp, rfl⟩
  rintro X i h ⟨i0, i1, x, m, c, g0, gc, g1, he⟩ hX
  unfold slices_MinFunc_s_impl_Tile_impl_Tile__b0 slices_MinFunc_s_impl_Tile_impl_Tile__C0
  have ep : (h0 ++ [AObj.own [.int .i64 0, .int .i64 0, .int .i64 0, .int .i64 0]]).length = h0.length + 1 := by simp
  rw [ep] at hX ⊢
  refine bif_dec (fun hi => ?_) (fun hi => ?_)
  · refine (r.ext x).ldT (by omega) (by simp; omega) fun t ht => ld_own g1 rfl (via_func ?_)
    refine (compare_c t m h).to ?_
    rintro _ h1 ⟨rfl, x1⟩
    have ed : (a :: l).drop i.toNat = t :: (a :: l).drop (i.toNat + 1) := drop_cons ht
    have e1 : (i + 1).toNat = i.toNat + 1 := by omega
    rw [ed, List.foldl_cons] at he
    rw [w64_of (by omega) (by omega)]
    refine bif_dec (fun hq => ?_) (fun hq => ?_)
    · refine ((r.ext x).ext x1).ldT (by omega) (by simp; omega) fun t' ht' => ?_
      rw [ht] at ht'
      cases ht'
      refine st_own (k := 4) (x1.own g1) rfl rfl fun b2 g2 => hX _ _ ⟨by omega, by omega, (x.trans x1).but_ b2 (some_le (by omega)), t, c, b2.get (x1.own g0) (by simp), gc, g2, ?_⟩ (by omega)
      rw [e1, ← he]
      unfold lessT
      rw [if_pos hq]
    · refine hX _ _ ⟨by omega, by omega, x.trans x1, m, c, x1.own g0, gc, x1.own g1, ?_⟩ (by omega)
      rw [e1, ← he]
      unfold lessT
      rw [if_neg hq]
  · rw [List.drop_eq_nil_of_le (by simp; omega)] at he
    refine ld_own g1 rfl (st_own (k := 4) g0 gc rfl fun b2 g2 => ld_own g2 rfl ⟨_, rfl, by rw [← he]; rfl, x.but_ b2 (some_le (Nat.le_refl _))⟩)
/-- The class: the least turn. -/
def cls (t : Tile) : Tile := (turnsN 3 (turn t)).foldl lessT t
theorem class_c (t : Tile) (h : H) : callA SP i_impl_Tile_class [.agg (tc t)] h fun r h' => r = tc (cls t) ∧ Ext h h' := by
  apply impl_Tile_class_call
  simp only [impl_Tile_class_main, newK, newO]
  refine ⟨rfl, ld_own (cs := tc t) (by simp) rfl ?_⟩
  refine (turns_c t _).to ?_
  rintro s _ ⟨o, f, l, rfl⟩
  refine (minFunc_c (a := t) (l := turnsN 3 (turn t)) o.rd (by rw [turnsN_len]; omega)).to ?_
  rintro _ _ ⟨rfl, l2, rfl⟩
  simp [cls]
  simp [tc]
theorem l01Before_c (a b : Tile) (h : H) : callB SP i_spec_l01Before [.agg (tc a), .agg (tc b)] h fun r h' => r = decide (cmpT a b < 0) ∧ Ext h h' := by
  apply spec_l01Before_call
  simp only [spec_l01Before_main, newK]
  refine ⟨rfl, rfl, ?_⟩
  refine spec_l01Before_rule0 _ _ _ _ (fun i h' => 0 ≤ i ∧ i ≤ 4 ∧ h' = h ++ [.own (tc a)] ++ [.own (tc b)] ∧ cmpT a b = cmpL ((tl a).drop i.toNat) ((tl b).drop i.toNat)) (fun i _ => (4 - i).toNat) ?_ _ ⟨by omega, by omega, rfl, by simp [cmpT]⟩
  rintro X i _ ⟨i0, i1, rfl, he⟩ hX
  unfold spec_l01Before_b0 spec_l01Before_C0
  refine bif_dec (fun hi => ?_) (fun hi => ?_)
  · have hx : (tl a)[i.toNat]? = some _ := List.getElem?_eq_getElem (by simp [tl]; omega)
    have hy : (tl b)[i.toNat]? = some _ := List.getElem?_eq_getElem (by simp [tl]; omega)
    rw [drop_cons hx, drop_cons hy, cmpL] at he
    have gx := ic_at hx
    have gy := ic_at hy
    refine ixA_ldI (cs := tc a) (by simp) rfl i0 hi gx (ixA_ldI (cs := tc b) (by simp) rfl i0 hi gy (bif_ne (fun hq => ?_) (fun hq => ?_)))
    · refine ixA_ldI (cs := tc a) (by simp) rfl i0 hi gx (ixA_ldI (cs := tc b) (by simp) rfl i0 hi gy ⟨_, rfl, ?_, by simp⟩)
      rw [he]
      by_cases h1 : (tl a)[i.toNat]'(by simp [tl]; omega) < (tl b)[i.toNat]'(by simp [tl]; omega)
      · simp [h1]
      · have h2 : (tl a)[i.toNat]'(by simp [tl]; omega) > (tl b)[i.toNat]'(by simp [tl]; omega) := by omega
        simp [h1, h2]
    · rw [w64_of (by omega) (by omega)]
      refine hX _ _ ⟨by omega, by omega, rfl, ?_⟩ (by omega)
      rw [he, if_neg (by omega), if_neg (by omega), show (i + 1).toNat = i.toNat + 1 by omega]
  · refine ⟨_, rfl, ?_, by simp⟩
    rw [he, List.drop_eq_nil_of_le (by simp [tl]; omega), List.drop_eq_nil_of_le (by simp [tl]; omega)]
    rfl
theorem l07Class_c (t : Tile) (h : H) : callA SP i_spec_l07Class [.agg (tc t)] h fun r h' => r = tc (cls t) ∧ Ext h h' := by
  apply spec_l07Class_call
  simp only [spec_l07Class_main, newK, newO]
  refine ⟨rfl, ld_own (cs := tc t) (by simp) rfl ?_⟩
  refine st_own (k := 4) (cs := [.int .i64 0, .int .i64 0, .int .i64 0, .int .i64 0]) (by simp) rfl rfl fun b g => ?_
  refine spec_l07Class_rule0 _ _ _ _ _ (fun i h' => 1 ≤ i ∧ i ≤ 4 ∧ Ext h h' ∧ ∃ m c, h'[h.length]? = some (.own (tc t)) ∧ h'[h.length + 1]? = some (.own c) ∧ c.length = 4 ∧ h'[h.length + 2]? = some (.own (tc m)) ∧ ((turnsN 4 t).drop i.toNat).foldl lessT m = cls t) (fun i _ => (4 - i).toNat) ?_ _ ⟨by omega, by omega, by simp, t, [i64 0, i64 0, i64 0, i64 0], by simp, by simp [i64], rfl, by simp, rfl⟩
  rintro X i h1 ⟨i0, i1, x, m, c, g0, g1, gc, g2, he⟩ hX
  have ep : (h ++ [AObj.own (tc t)]).length = h.length + 1 := by simp
  have ep2 : (h ++ [AObj.own (tc t)] ++ [AObj.own [.int .i64 0, .int .i64 0, .int .i64 0, .int .i64 0]]).length = h.length + 2 := by simp
  rw [ep, ep2] at hX ⊢
  unfold spec_l07Class_b0 spec_l07Class_C0
  refine bif_dec (fun hi => ?_) (fun hi => ?_)
  · refine ld_own g0 rfl ?_
    refine (l07Turn_c t i (by omega) (by omega) h1).to ?_
    rintro _ h2 ⟨rfl, x2⟩
    have gt : (turnsN 4 t)[i.toNat]? = some (turnN i.toNat t) := by
      have : i = 1 ∨ i = 2 ∨ i = 3 := by omega
      rcases this with rfl | rfl | rfl <;> rfl
    have ed := drop_cons gt
    rw [ed, List.foldl_cons] at he
    have e1 : (i + 1).toNat = i.toNat + 1 := by omega
    have hlt : h.length ≤ h1.length := x.len
    have hlt2 := x2.len
    have hk2 : h.length + 2 < h1.length := (List.getElem?_eq_some_iff.1 g2).1
    simp only [newO]
    have x3 : Ext h2 (h2 ++ [AObj.own [.int .i64 0, .int .i64 0, .int .i64 0, .int .i64 0]]) := Ext.app _ _
    refine st_own (k := 4) (cs := [.int .i64 0, .int .i64 0, .int .i64 0, .int .i64 0]) (by simp) rfl rfl fun b4 g4 => ?_
    have x4 : Ext h2 (List.set (h2 ++ [AObj.own [.int .i64 0, .int .i64 0, .int .i64 0, .int .i64 0]]) h2.length (AObj.own (tc (turnN i.toNat t)))) := x3.but_ b4 (some_le (Nat.le_refl _))
    revert g4 b4 x4
    generalize List.set (h2 ++ [AObj.own [.int .i64 0, .int .i64 0, .int .i64 0, .int .i64 0]]) h2.length (AObj.own (tc (turnN i.toNat t))) = h4
    intro b4 g4 x4
    have x24 := x2.trans x4
    refine ld_own g4 rfl (ld_own (x24.own g2) rfl ?_)
    refine (l01Before_c _ _ _).to ?_
    rintro _ h5 ⟨rfl, x5⟩
    have x25 := x24.trans x5
    rw [w64_of (by omega) (by omega)]
    refine bif_dec (fun hq => ?_) (fun hq => ?_)
    · refine ld_own (x5.own g4) rfl (st_own (k := 4) (x25.own g2) rfl rfl fun b6 g6 => hX _ _ ⟨by omega, by omega, (x.trans x25).but_ b6 (some_le (by omega)), turnN i.toNat t, c, b6.get (x25.own g0) (by simp), b6.get (x25.own g1) (by simp), gc, g6, ?_⟩ (by omega))
      rw [e1, ← he]
      unfold lessT
      rw [if_pos hq]
    · refine hX _ _ ⟨by omega, by omega, x.trans x25, m, c, x25.own g0, x25.own g1, gc, x25.own g2, ?_⟩ (by omega)
      rw [e1, ← he]
      unfold lessT
      rw [if_neg hq]
  · rw [List.drop_eq_nil_of_le (by rw [turnsN_len]; omega)] at he
    refine ld_own g2 rfl (st_own (k := 4) g1 gc rfl fun b2 g2 => ld_own g2 rfl ⟨_, rfl, by rw [← he]; rfl, x.but_ b2 (some_le (by omega))⟩)
/-- a store of one cell into a view that is owned whole -/
theorem Ow.stC {h : H} {s : Sl} {cs : List AVal} (r : Ow h s 1 cs) {i : Int} (h0 : 0 ≤ i) (h1 : i < s.len) (v : AVal) {K : H → Prop}
    (hk : ∀ h', Ow h' s 1 (cs.set i.toNat v) → But s.o h h' → h'.length = h.length → K h') : ixS s 1 i fun p => Cl.st1 p v h K := by
  obtain ⟨a, b⟩ | ⟨o, a, b, c, d, e⟩ := r.at_
  · omega
  · have hlen := r.len
    have ho : o < h.length := (List.getElem?_eq_some_iff.1 e).1
    refine ⟨⟨h0, h1⟩, b, by simp [a], h.set o (.own (cs.set i.toNat v)), ?_, hk _ ⟨by simpa using hlen, .inr ⟨o, a, b, c, d, by simp [List.getElem?_set, ho]⟩⟩ ?_ (by simp)⟩
    · unfold put1 owned
      simp [a, c, d, e, hlen]
      omega
    · rw [a]
      exact ⟨by simp, fun k hk hn => by rw [List.getElem?_set, if_neg (fun e => hn (by rw [e]))]⟩
theorem Ow.stI {h : H} {s : Sl} {l : List Int} (r : Ow h s 1 (ic l)) {i : Int} (h0 : 0 ≤ i) (h1 : i < s.len) (x : Int) {K : H → Prop}
    (hk : ∀ h', Ow h' s 1 (ic (l.set i.toNat x)) → But s.o h h' → h'.length = h.length → K h') : ixS s 1 i fun p => Cl.st1 p (.int .i64 x) h K :=
  r.stC h0 h1 _ fun h' o b n => hk h' (by
    have : (ic l).set i.toNat (i64 x) = ic (l.set i.toNat x) := by unfold ic; rw [List.map_set]
    rw [← this]; exact o) b n
/-- a store of an element of several cells into a view that is owned whole -/
theorem Ow.stA {h : H} {s : Sl} {z : Nat} {cs : List AVal} (r : Ow h s z cs) {i : Int} (h0 : 0 ≤ i) (h1 : i < s.len) (vs : List AVal) (hv : vs.length = z) {K : H → Prop}
    (hk : ∀ h', Ow h' s z (splice cs (i.toNat * z) vs) → But s.o h h' → h'.length = h.length → K h') : ixS s z i fun p => Cl.stN p z vs h K := by
  obtain ⟨a, b⟩ | ⟨o, a, b, c, d, e⟩ := r.at_
  · omega
  · have hlen := r.len
    have ho : o < h.length := (List.getElem?_eq_some_iff.1 e).1
    have hb : i.toNat * z + z ≤ s.len * z := by
      have : (i.toNat + 1) * z ≤ s.len * z := Nat.mul_le_mul_right _ (by omega)
      rw [Nat.add_mul] at this; omega
    have hsl : (splice cs (i.toNat * z) vs).length = s.len * z := by
      unfold splice
      rw [List.length_append, List.length_append, List.length_take, List.length_drop, hlen, hv]; omega
    refine ⟨⟨h0, h1⟩, b, by simp [a], h.set o (.own (splice cs (i.toNat * z) vs)), hv, ?_, hk _ ⟨hsl, .inr ⟨o, a, b, c, d, by simp [List.getElem?_set, ho]⟩⟩ ?_ (by simp)⟩
    · unfold putN owned
      simp [a, c, d, e, hlen, hv]
      omega
    · rw [a]
      exact ⟨by simp, fun k hk hn => by rw [List.getElem?_set, if_neg (fun e => hn (by rw [e]))]⟩
theorem tcs_set : ∀ (l : List Tile) (i : Nat) (t : Tile), i < l.length → splice (tcs l) (i * 4) (tc t) = tcs (l.set i t)
  | [], i, t, h => by simp at h
  | a :: l, 0, t, h => by
    unfold splice
    simp [tcs_cons, tc]
  | a :: l, i + 1, t, h => by
    have ih := tcs_set l i t (by simpa using h)
    rw [List.set_cons_succ, tcs_cons, tcs_cons, ← ih]
    unfold splice
    rw [show (i + 1) * 4 = (tc a).length + i * 4 by rw [tc_len]; omega, show (tc a).length + i * 4 + (tc t).length = (tc a).length + (i * 4 + (tc t).length) by omega]
    rw [List.take_length_add_append, List.drop_length_add_append]
    simp
theorem toTileS_c {h0 : H} {s : Sl} {ts : List Tile} (r : Rd h0 s 4 (tcs ts)) (hl : ts.length ≤ 1048576) : callS SP i_laws_toTileS [.sl s] h0 fun s' h' => Ow h' s' 4 (tcs ts) ∧ Fr h0.length s' ∧ Ext h0 h' := by
  have hlen : s.len = ts.length := r.tlen
  apply laws_toTileS_call
  unfold laws_toTileS_main
  refine mkS_ow (by omega) (by unfold lim; omega) fun s' h1 ho hlen' hso he => ?_
  have hz : (List.replicate (s.len : Int).toNat [AVal.int .i64 0, .int .i64 0, .int .i64 0, .int .i64 0]).flatten = tcs (List.replicate ts.length ((0, 0, 0, 0) : Tile)) := by
    unfold tcs
    rw [List.map_replicate, ← hlen]; rfl
  rw [hz] at ho
  refine laws_toTileS_rule0 _ _ s s' (fun i h' => 0 ≤ i ∧ i ≤ ts.length ∧ Ext h0 h' ∧ ∃ l : List Tile, l.length = ts.length ∧ Ow h' s' 4 (tcs l) ∧ ∀ j, j < i.toNat → l[j]? = ts[j]?) (fun i _ => (ts.length - i).toNat) ?_ _ ⟨by omega, by omega, by rw [he]; exact Ext.app _ _, _, by simp, ho, fun j hj => by omega⟩
  rintro X i h' ⟨i0, i1, x, l, ll, ol, hj⟩ hX
  unfold laws_toTileS_b0 laws_toTileS_C0
  have hsl : s'.len = ts.length := by rw [hlen', ← hlen]; omega
  refine bif_dec (fun hi => ?_) (fun hi => ?_)
  · refine (r.ext x).ldT i0 (by omega) fun t ht => ?_
    refine (toTile_c t h').to ?_
    rintro _ h2 ⟨rfl, x2⟩
    refine (ol.ext x2).stA i0 (by omega) _ rfl fun h3 o3 b3 n3 => ?_
    rw [w64_of (by omega) (by omega)]
    rw [tcs_set l i.toNat t (by omega)] at o3
    refine hX _ _ ⟨by omega, by omega, (x.trans x2).but_ b3 (by rw [hso]; exact some_le (Nat.le_refl _)), _, by simpa using ll, o3, fun j hj2 => ?_⟩ (by omega)
    rw [List.getElem?_set]
    split
    · next e => subst e; rw [if_pos (by omega), ht]
    · exact hj j (by omega)
  · refine ⟨_, rfl, ?_, fun o e => by rw [hso] at e; cases e; exact Nat.le_refl _, x⟩
    have : l = ts := by
      apply List.ext_getElem?
      intro j
      by_cases h : j < ts.length
      · exact hj j (by omega)
      · rw [List.getElem?_eq_none (by omega), List.getElem?_eq_none (by omega)]
    rw [← this]; exact ol
theorem szTileS_c (s : Sl) (left : Int) (hl : s.len ≤ 9223372036854775807) (h1 : 0 ≤ left) (h2 : left ≤ 1048576) (h : H) : callI SP .i64 i_laws_szTileS [.sl s, i64 left] h fun n h' => n = (if left - s.len < 0 then -1 else left - s.len) ∧ h' = h := by
  apply laws_szTileS_call
  unfold laws_szTileS_main
  rw [w64_of (by omega) (by omega)]
  refine bif_dec (fun hi => ⟨_, rfl, by simp [hi], rfl⟩) (fun hi => ⟨_, rfl, by simp [hi], rfl⟩)
theorem eqInt64S_c {h0 : H} {s s' : Sl} {l l' : List Int} (r : Rd h0 s 1 (ic l)) (r' : Rd h0 s' 1 (ic l')) (hl : l.length < 4000000000000000000) : callB SP i_laws_eqInt64S [.sl s, .sl s'] h0 fun b h' => b = (l == l') ∧ h' = h0 := by
  have hlen : s.len = l.length := by have := r.len; rw [ic_len] at this; omega
  have hlen' : s'.len = l'.length := by have := r'.len; rw [ic_len] at this; omega
  apply laws_eqInt64S_call
  unfold laws_eqInt64S_main
  refine bif_ne (fun hq => ?_) (fun hq => ?_)
  · refine ⟨_, rfl, ?_, rfl⟩
    cases hb : l == l' with
    | false => rfl
    | true => rw [beq_iff_eq] at hb; subst hb; omega
  refine laws_eqInt64S_rule0 _ _ _ _ (fun i h => 0 ≤ i ∧ i ≤ l.length ∧ h = h0 ∧ ∀ j, j < i.toNat → l[j]? = l'[j]?) (fun i _ => (l.length - i).toNat) ?_ _ ⟨by omega, by omega, rfl, fun j hj => by omega⟩
  rintro X i _ ⟨i0, i1, rfl, hn⟩ hX
  unfold laws_eqInt64S_b0 laws_eqInt64S_C0
  refine bif_dec (fun hi => ?_) (fun hi => ?_)
  · refine r.ldI i0 (by omega) fun x hxe => r'.ldI i0 (by omega) fun y hye => ?_
    refine bif_ne (fun hq => ?_) (fun hq => ?_)
    · refine ⟨_, rfl, ?_, rfl⟩
      cases hb : l == l' with
      | false => rfl
      | true =>
        rw [beq_iff_eq] at hb; subst hb
        rw [hxe] at hye; cases hye
        exact absurd rfl hq
    · rw [w64_of (by omega) (by omega)]
      refine hX _ _ ⟨by omega, by omega, rfl, fun j hj => ?_⟩ (by omega)
      by_cases hji : j = i.toNat
      · subst hji
        rw [hxe, hye, hq]
      · exact hn j (by omega)
  · refine ⟨_, rfl, ?_, rfl⟩
    symm
    rw [beq_iff_eq]
    apply List.ext_getElem?
    intro j
    by_cases hj : j < l.length
    · exact hn j (by omega)
    · rw [List.getElem?_eq_none (by omega), List.getElem?_eq_none (by omega)]
theorem markInt64S_c {h0 : H} {s : Sl} {l : List Int} (r : Ow h0 s 1 (ic l)) (k0 : Int) (hk0 : 0 ≤ k0) (hk1 : k0 ≤ 1000000000000000000) (hl : s.len < 1000000000000000000) : callI SP .i64 i_laws_markInt64S [.sl s, i64 k0] h0 fun n h' => n = k0 + s.len ∧ Ow h' s 1 (ic (upto k0 s.len)) ∧ But s.o h0 h' ∧ h'.length = h0.length := by
  have hlen := r.len
  rw [ic_len] at hlen
  apply laws_markInt64S_call
  unfold laws_markInt64S_main
  refine laws_markInt64S_rule0 _ _ _ (fun k i h => 0 ≤ i ∧ i ≤ s.len ∧ k = k0 + i ∧ ∃ l', Ow h s 1 (ic l') ∧ (∀ j : Nat, j < i.toNat → l'[j]? = some (k0 + (j : Int))) ∧ But s.o h0 h ∧ h.length = h0.length) (fun k i _ => (s.len - i).toNat) ?_ _ _ ⟨by omega, by omega, by omega, l, r, fun j hj => by omega, But.refl _ _, rfl⟩
  rintro X k i h ⟨i0, i1, rfl, l1, o1, e1, b1, n1⟩ hX
  unfold laws_markInt64S_b0 laws_markInt64S_C0
  refine bif_dec (fun hi => ?_) (fun hi => ?_)
  · refine o1.stI i0 hi _ fun h3 o3 b3 n3 => ?_
    rw [w64_of (by omega) (by omega), w64_of (by omega) (by omega)]
    refine hX _ _ _ ⟨by omega, by omega, by omega, _, o3, fun j2 hj2 => ?_, b1.trans b3, by omega⟩ (by omega)
    have hl2 := o1.len
    rw [ic_len] at hl2
    rw [List.getElem?_set]
    split
    · next e =>
      rw [if_pos (by omega)]
      congr 1; omega
    · exact e1 j2 (by omega)
  · refine ⟨_, rfl, by omega, ?_, b1, n1⟩
    have : l1 = upto k0 s.len := by
      have hl1 := o1.len
      rw [ic_len] at hl1
      apply List.ext_getElem?
      intro j
      by_cases hj : j < s.len
      · rw [e1 j (by omega), upto_at _ _ _ hj]
      · rw [List.getElem?_eq_none (by omega), List.getElem?_eq_none (by rw [upto_len]; omega)]
    rw [← this]; exact o1
theorem heldInt64S_c {h0 : H} {s : Sl} (k0 : Int) (hk0 : 0 ≤ k0) (hk1 : k0 ≤ 1000000000000000000) (r : Rd h0 s 1 (ic (upto k0 s.len))) (hl : s.len < 1000000000000000000) : callI SP .i64 i_laws_heldInt64S [.sl s, i64 k0] h0 fun n h' => n = k0 + s.len ∧ h' = h0 := by
  apply laws_heldInt64S_call
  unfold laws_heldInt64S_main
  refine laws_heldInt64S_rule0 _ _ _ (fun k i h => 0 ≤ i ∧ i ≤ s.len ∧ k = k0 + i ∧ h = h0) (fun k i _ => (s.len - i).toNat) ?_ _ _ ⟨by omega, by omega, by omega, rfl⟩
  rintro X k i _ ⟨i0, i1, rfl, rfl⟩ hX
  unfold laws_heldInt64S_b0 laws_heldInt64S_C0
  refine bif_dec (fun hi => ?_) (fun hi => ?_)
  · refine r.ldI i0 (by rw [upto_len]; omega) fun x hx => ?_
    rw [upto_at _ _ _ (by omega)] at hx
    cases hx
    refine bif_ne (fun hq => absurd (by omega) hq) (fun _ => ?_)
    rw [w64_of (by omega) (by omega), w64_of (by omega) (by omega)]
    exact hX _ _ _ ⟨by omega, by omega, by omega, rfl⟩ (by omega)
  · exact ⟨_, rfl, by omega, rfl⟩
end Go.Proofs.Ytekfmmcolgjdmaa.Cl

/- Contracts of the laws' helpers for sets and for slices of slices, and of the functions that tell sets. No claim is stated here. -/
set_option linter.unusedVariables false
set_option linter.unusedSimpArgs false
namespace Go.Proofs.Ytekfmmcolgjdmaa.Cl
open Go
/-! ### sets -/
abbrev TSet := Int × List Tile
/-- The cells of a set. -/
def SetC (c : Int) (s : Sl) : List AVal := [i64 c, .sl s]
theorem tcs_ic' : ∀ ts : List Tile, ∃ l, tcs ts = ic l
  | [] => ⟨[], rfl⟩
  | t :: ts => by
    obtain ⟨l, e⟩ := tcs_ic' ts
    exact ⟨tl t ++ l, by rw [tcs_cons, e, ic_app, tc_tl]⟩
/-! ### slices of integers and of slices -/
/-- All lengths of a slice of slices, and its own. -/
def sumLen (ls : List (List Int)) : Nat := (ls.map List.length).sum
theorem sumLen_mem {ls : List (List Int)} {l : List Int} (h : l ∈ ls) : l.length ≤ sumLen ls := by
  unfold sumLen
  induction ls with
  | nil => simp at h
  | cons a ls ih =>
    simp only [List.map_cons, List.sum_cons]
    rcases List.mem_cons.1 h with rfl | h
    · omega
    · have := ih h; omega
theorem sumLen_take (ls : List (List Int)) (i : Nat) (l : List Int) (h : ls[i]? = some l) : sumLen (ls.take (i + 1)) = sumLen (ls.take i) + l.length := by
  unfold sumLen
  rw [List.take_add_one, h]
  simp
theorem sumLen_take_le (ls : List (List Int)) (i : Nat) : sumLen (ls.take i) ≤ sumLen ls := by
  unfold sumLen
  conv => rhs; rw [← List.take_append_drop i ls]
  rw [List.map_append, List.sum_append]
  omega
/-- What marks make of the rows. -/
def marks (k : Int) : List (List Int) → List (List Int)
  | [] => []
  | l :: ls => upto k l.length :: marks (k + l.length) ls
theorem marks_len : ∀ (ls : List (List Int)) (k : Int), (marks k ls).length = ls.length
  | [], k => rfl
  | l :: ls, k => by simp [marks, marks_len ls]
theorem marks_at : ∀ (ls : List (List Int)) (k : Int) (i : Nat) (l : List Int), ls[i]? = some l → (marks k ls)[i]? = some (upto (k + sumLen (ls.take i)) l.length)
  | [], k, i, l, h => by simp at h
  | a :: ls, k, 0, l, h => by simp at h; subst h; simp [marks, sumLen]
  | a :: ls, k, i + 1, l, h => by
    simp at h
    simp only [marks, List.getElem?_cons_succ, List.take_succ_cons]
    rw [marks_at ls _ i l h]
    congr 2
    simp [sumLen]; omega
theorem NewSS.top {n : Nat} {hx h0 : H} {s : Sl} {ls : List (List Int)} (r : NewSS n hx s ls) {Q : Nat → Prop} (c : Chg Q hx h0) (hq : ∀ o, n ≤ o → ¬ Q o) (vs : List Sl) (hv : Ow h0 s 1 (vs.map .sl)) : ∀ v ∈ vs, ∀ o, v.o = some o → n ≤ o ∧ o < hx.length := by
  obtain ⟨us, h1, h2, h3, h4, _⟩ := r
  have hu := h2.chg c fun o e => hq o (h3 o e)
  have hq : vs = us := by
    have a := hu.rd.sread (by omega)
    have b := hv.rd.sread (by omega)
    rw [a] at b
    have : us.map AVal.sl = vs.map AVal.sl := Option.some.inj b
    exact (List.map_inj_right (fun a b e => by simpa using e) |>.1 this).symm
  subst hq
  intro v hm o e
  obtain ⟨i, hi⟩ := List.getElem?_of_mem hm
  obtain ⟨l, hl⟩ := mem_idx h1 hi
  obtain ⟨p, q⟩ := h4 i v l hi hl
  exact ⟨q o e, p.lt e⟩
end Go.Proofs.Ytekfmmcolgjdmaa.Cl

/- The reference's test of a tile at a place of a board. No claim is stated here. -/
set_option linter.unusedVariables false
set_option linter.unusedSimpArgs false
namespace Go.Proofs.Ytekfmmcolgjdmaa.Cl
open Go
/-- The border's colour at the border. -/
def rimB (b y x H W : Int) (a : Tile) : Bool :=
  decide (b < 0) || ((decide (x > 0) || a.1 == b) && (decide (y > 0) || a.2.1 == b) && (decide (x < W - 1) || a.2.2.1 == b) && (decide (y < H - 1) || a.2.2.2 == b))
def offB (lf ab : Tile) (y x : Int) (a : Tile) : Bool := (decide (x > 0) && lf.2.2.1 != a.1) || (decide (y > 0) && ab.2.2.2 != a.2.1)
def fitsB (lf ab : Tile) (b y x H W : Int) (a : Tile) : Bool := !offB lf ab y x a && rimB b y x H W a
section
variable {h : H} {o : Nat} {a : Tile} {b y x H_ W_ : Int}
theorem l07Fits_r1_c (ob : Obj h o (tc a)) (hh : w64 (H_ - 1) = H_ - 1) (hw : w64 (W_ - 1) = W_ - 1) (c : Bool) {K : AVal → H → Prop} (hk : K (.bool (!c && rimB b y x H_ W_ a)) h) :
    spec_l07Fits_r1 SP K b y x H_ W_ ⟨some o, 4, 0⟩ c h := by
  unfold spec_l07Fits_r1
  rw [hh, hw]
  refine bif_b (fun hc => by subst hc; exact hk) (fun hc => ?_)
  subst hc
  simp only [Bool.not_false, Bool.true_and] at hk
  repeat' first
    | refine bif_dec (fun q => ?_) (fun q => ?_)
    | refine bif_eq (fun q => ?_) (fun q => ?_)
    | refine ixA_ldI ob rfl (by omega) (by omega) rfl ?_
    | (rw [spec_l07Fits_R3_link]; unfold spec_l07Fits_r3; refine (show ∀ {v w : Bool}, K (.bool v) h → v = w → K (.bool w) h from fun p e => e ▸ p) hk ?_; unfold rimB; simp [*])
end
theorem l07Fits_c {h : H} {u : Sl} {a lf ab : Tile} {b y x H_ W_ : Int} (hh : w64 (H_ - 1) = H_ - 1) (hw : w64 (W_ - 1) = W_ - 1)
    (hl : 0 < x → ∀ h', Ext h h' → ∀ K : Int → Prop, K lf.2.2.1 → ixS u 1 y fun p => ldS p h' fun s => ixS s 4 (w64 (x - 1)) fun p => ixA p 4 1 2 fun p => ldI .i64 p h' K)
    (ha : 0 < y → ∀ h', Ext h h' → ∀ K : Int → Prop, K ab.2.2.2 → ixS u 1 (w64 (y - 1)) fun p => ldS p h' fun s => ixS s 4 x fun p => ixA p 4 1 3 fun p => ldI .i64 p h' K) :
    callB SP i_spec_l07Fits [.sl u, .int .i64 b, .int .i64 y, .int .i64 x, .int .i64 H_, .int .i64 W_, .agg (tc a)] h fun r h' => r = fitsB lf ab b y x H_ W_ a ∧ Ext h h' := by
  apply spec_l07Fits_call
  unfold spec_l07Fits_main
  refine newK_obj fun h1 o1 x1 l1 => ?_
  unfold spec_l07Fits_reg1
  have leaf : ∀ c : Bool, c = offB lf ab y x a → spec_l07Fits_ks2 SP (fun v h' => ∃ r, v = .bool r ∧ r = fitsB lf ab b y x H_ W_ a ∧ Ext h h') .normal (spec_l07Fits_f1 b y x H_ W_ ⟨some h.length, 4, 0⟩ c) h1 := fun c hc => by
    rw [spec_l07Fits_cut1]
    exact l07Fits_r1_c o1 hh hw c ⟨_, rfl, by rw [hc]; rfl, x1⟩
  refine bif_dec (fun q => ?_) (fun q => ?_)
  · refine hl q h1 x1 _ ?_
    refine ixA_ldI o1 rfl (by omega) (by omega) rfl ?_
    refine bif_ne (fun q2 => leaf _ (by unfold offB; simp [q, q2])) (fun q2 => ?_)
    refine bif_dec (fun q3 => ?_) (fun q3 => leaf _ (by unfold offB; simp [q, q2, q3]))
    refine ha q3 h1 x1 _ ?_
    refine ixA_ldI o1 rfl (by omega) (by omega) rfl ?_
    exact leaf _ (by unfold offB; simp [q, q2, q3])
  · refine bif_dec (fun q3 => ?_) (fun q3 => leaf _ (by unfold offB; simp [q, q3]))
    refine ha q3 h1 x1 _ ?_
    refine ixA_ldI o1 rfl (by omega) (by omega) rfl ?_
    exact leaf _ (by unfold offB; simp [q, q3])
end Go.Proofs.Ytekfmmcolgjdmaa.Cl

/- Rows of elements of several cells; the program's tests of a tile at a place; sizes of boards. No claim is stated here. -/
set_option linter.unusedVariables false
set_option linter.unusedSimpArgs false
namespace Go.Proofs.Ytekfmmcolgjdmaa.Cl
open Go
/-- A view of rows, each of elements of z cells. -/
def RdR (h : H) (s : Sl) (z : Nat) (rows : List (List AVal)) : Prop :=
  ∃ vs : List Sl, vs.length = rows.length ∧ Rd h s 1 (vs.map .sl) ∧ ∀ (i : Nat) v l, vs[i]? = some v → rows[i]? = some l → Rd h v z l
theorem RdR.ext {h h' : H} {s : Sl} {z : Nat} {rows : List (List AVal)} (r : RdR h s z rows) (x : Ext h h') : RdR h' s z rows := by
  obtain ⟨vs, a, b, c⟩ := r
  exact ⟨vs, a, b.ext x, fun i v l p q => (c i v l p q).ext x⟩
theorem RdR.len {h : H} {s : Sl} {z : Nat} {rows : List (List AVal)} (r : RdR h s z rows) : s.len = rows.length := by
  obtain ⟨vs, a, b, c⟩ := r
  have := b.len
  simp at this
  omega
theorem RdR.ld {h : H} {s : Sl} {z : Nat} {rows : List (List AVal)} (r : RdR h s z rows) {i : Int} (h0 : 0 ≤ i) (h1 : i < rows.length) {K : Sl → Prop} (hk : ∀ v l, rows[i.toNat]? = some l → Rd h v z l → K v) : ixS s 1 i fun p => Cl.ldS p h K := by
  obtain ⟨vs, a, b, c⟩ := r
  refine b.ldS h0 (by omega) fun v hv => ?_
  have hl := List.getElem?_eq_getElem (l := rows) (i := i.toNat) (by omega)
  exact hk v _ hl (c _ _ _ hv hl)
/-- One cell of a tile that is read. -/
theorem Rd.ldTc {h : H} {s : Sl} {ts : List Tile} (r : Rd h s 4 (tcs ts)) {i : Int} (h0 : 0 ≤ i) (h1 : i < ts.length) {k : Nat} (hk4 : k < 4) {K : Int → Prop} {n : Int} (hn : ∀ t, ts[i.toNat]? = some t → (tc t)[k]? = some (i64 n)) (hk : K n) :
    ixS s 4 i fun p => ixA p 4 1 (k : Int) fun p => Cl.ldI .i64 p h K := by
  have hx := List.getElem?_eq_getElem (l := ts) (i := i.toNat) (by omega)
  have hlen := r.tlen
  have hc : (tcs ts)[i.toNat * 4 + k]? = some (i64 n) := by
    have e := tcs_at ts _ _ hx
    have := hn _ hx
    rw [← e, List.getElem?_take, if_pos hk4, List.getElem?_drop] at this
    exact this
  obtain hl | ⟨a, b, c⟩ := r.at_
  · omega
  · obtain ⟨o, xs, e1, e2, e3, e4⟩ := range_some c
    refine ⟨⟨h0, by omega⟩, a, b, ⟨⟨by omega, by omega⟩, b, n, ?_, hk⟩⟩
    unfold cell Pt.add
    simp only
    rw [e1]
    simp only
    rw [e2]
    simp only [Option.bind_some]
    rw [e4, List.getElem?_take, List.getElem?_drop] at hc
    split at hc
    · have : s.off + i.toNat * 4 + (k : Int).toNat * 1 = s.off + (i.toNat * 4 + k) := by omega
      rw [this]; exact hc
    · cases hc
section
variable {h : H} {a : Tile}
/-- Has a tile the colours of those above and to the left? -/
theorem joins_c {x : Int} {u v : Sl} {up lf : List Tile} (hu : u.o = none → up = []) (hu2 : u.o ≠ none → Rd h u 4 (tcs up) ∧ x < up.length) (hv : Rd h v 4 (tcs lf)) (hx : 0 ≤ x) (hx1 : x ≤ lf.length) (hx2 : x < 9223372036854775807) {ta tl_ : Tile}
    (ha : u.o ≠ none → up[x.toNat]? = some ta) (hl : 0 < x → lf[(x - 1).toNat]? = some tl_) :
    callB SP i_impl_joins [.agg (tc a), i64 x, .sl u, .sl v] h fun r h' => r = ((isNilS u || ta.2.2.2 == a.2.1) && (decide (x = 0) || tl_.2.2.1 == a.1)) ∧ Ext h h' := by
  apply impl_joins_call
  unfold impl_joins_main
  refine newK_obj fun h1 o1 x1 l1 => ?_
  have hleft : ∀ {K : Prop → Prop}, True := trivial
  refine bif_b (fun hn => ?_) (fun hn => ?_)
  · rw [hn]
    refine bif_eq (fun q => ⟨_, rfl, by rw [q]; rfl, x1⟩) (fun q => ?_)
    rw [w64_of (by omega) (by omega)]
    refine (hv.ext x1).ldTc (k := 2) (by omega) (by omega) (by omega) (n := tl_.2.2.1) (fun t ht => by rw [hl (by omega)] at ht; cases ht; rfl) ?_
    refine ixA_ldI o1 rfl (by omega) (by omega) rfl ?_
    exact ⟨_, rfl, by simp [q], x1⟩
  · have hne : u.o ≠ none := fun e => by unfold isNilS at hn; rw [e] at hn; cases hn
    obtain ⟨ru, lu⟩ := hu2 hne
    rw [hn]
    refine (ru.ext x1).ldTc (k := 3) (by omega) lu (by omega) (n := ta.2.2.2) (fun t ht => by rw [ha hne] at ht; cases ht; rfl) ?_
    refine ixA_ldI o1 rfl (by omega) (by omega) rfl ?_
    refine bif_eq (fun q0 => ?_) (fun q0 => ⟨_, rfl, by simp [q0], x1⟩)
    refine bif_eq (fun q => ⟨_, rfl, by simp [q0, q], x1⟩) (fun q => ?_)
    rw [w64_of (by omega) (by omega)]
    refine (hv.ext x1).ldTc (k := 2) (by omega) (by omega) (by omega) (n := tl_.2.2.1) (fun t ht => by rw [hl (by omega)] at ht; cases ht; rfl) ?_
    refine ixA_ldI o1 rfl (by omega) (by omega) rfl ?_
    exact ⟨_, rfl, by simp [q0, q], x1⟩
theorem isBoardOf_c {s : Sl} {ts : List Tile} {b : Int} (r : Rd h s 4 (tcs ts)) (hl : ts.length ≤ 1048576) : callB SP i_impl_isBoardOf [.sl s, i64 b] h fun v h' => v = (decide (1 ≤ ts.length ∧ ts.length ≤ 6) && ts.all (tileok 6) && decide (-1 ≤ b ∧ b ≤ 5)) ∧ Ext h h' := by
  have hlen := r.tlen
  apply impl_isBoardOf_call
  unfold impl_isBoardOf_main
  refine (within_c _ _ _ _).to ?_
  rintro _ _ ⟨rfl, rfl⟩
  refine bif_dec (fun q => ?_) (fun q => ⟨_, rfl, by rw [show decide (1 ≤ ts.length ∧ ts.length ≤ 6) = false by simp; omega]; rfl, Ext.refl _⟩)
  rw [show decide (1 ≤ ts.length ∧ ts.length ≤ 6) = true by simp; omega]
  refine (areTiles_c r (by omega)).to ?_
  rintro v h2 ⟨rfl, x2⟩
  refine bif_b (fun q2 => ?_) (fun q2 => ⟨_, rfl, by rw [q2]; rfl, x2⟩)
  refine (within_c _ _ _ _).to ?_
  rintro _ _ ⟨rfl, rfl⟩
  exact ⟨_, rfl, by rw [q2]; rfl, x2⟩
end
end Go.Proofs.Ytekfmmcolgjdmaa.Cl

/- The program's test of the border; sizes of boards on both sides. No claim is stated here. -/
set_option linter.unusedVariables false
set_option linter.unusedSimpArgs false
namespace Go.Proofs.Ytekfmmcolgjdmaa.Cl
open Go
def sideI (a : Tile) : Nat → Int
  | 0 => a.1 | 1 => a.2.1 | 2 => a.2.2.1 | _ => a.2.2.2
def atB (y x H W : Int) : Nat → Bool
  | 0 => x == 0 | 1 => y == 0 | 2 => x == W - 1 | _ => y == H - 1
def edgB (b y x H W : Int) (a : Tile) : Bool := (List.range 4).all fun k => !(atB y x H W k && decide (b ≥ 0) && sideI a k != b)
theorem edg_rim {b y x H W : Int} {a : Tile} (x0 : 0 ≤ x) (x1 : x ≤ W - 1) (y0 : 0 ≤ y) (y1 : y ≤ H - 1) : edgB b y x H W a = rimB b y x H W a := by
  unfold edgB rimB
  have e1 : (x == 0) = !decide (x > 0) := by rw [Bool.eq_iff_iff]; simp; omega
  have e2 : (y == 0) = !decide (y > 0) := by rw [Bool.eq_iff_iff]; simp; omega
  have e3 : (x == W - 1) = !decide (x < W - 1) := by rw [Bool.eq_iff_iff]; simp; omega
  have e4 : (y == H - 1) = !decide (y < H - 1) := by rw [Bool.eq_iff_iff]; simp; omega
  have e5 : decide (b ≥ 0) = !decide (b < 0) := by rw [Bool.eq_iff_iff]; simp
  simp only [show List.range 4 = [0, 1, 2, 3] from rfl, List.all_cons, List.all_nil, atB, sideI, e1, e2, e3, e4, e5, bne]
  cases decide (b < 0) <;> cases decide (x > 0) <;> cases decide (y > 0) <;> cases decide (x < W - 1) <;> cases decide (y < H - 1) <;> cases (a.1 == b) <;> cases (a.2.1 == b) <;> cases (a.2.2.1 == b) <;> cases (a.2.2.2 == b) <;> rfl
section
variable {h : H} {a : Tile}
theorem edges_c {b y x H_ W_ : Int} (hh : w64 (H_ - 1) = H_ - 1) (hw : w64 (W_ - 1) = W_ - 1) : callB SP i_impl_edges [.agg (tc a), i64 b, i64 y, i64 x, i64 H_, i64 W_] h fun r h' => r = edgB b y x H_ W_ a ∧ Ext h h' := by
  apply impl_edges_call
  unfold impl_edges_main
  refine newK_obj fun h1 o1 x1 l1 => ?_
  rw [hh, hw]
  refine newO_obj fun h3 o3 x3 _ => ?_
  refine o3.stA fun h4 o4 b4 _ => ?_
  have x4 : Ext h1 h4 := x3.but_ b4 (some_le (Nat.le_refl _))
  have o1' := o1.ext x4
  refine o4.ldA rfl ?_
  refine impl_edges_rule0 _ _ _ _ _ (fun i g => ∃ k : Nat, i = k ∧ k ≤ 4 ∧ (∀ j, j < k → (!(atB y x H_ W_ j && decide (b ≥ 0) && sideI a j != b)) = true) ∧ g = h4) (fun i _ => (4 - i).toNat) ?_ _ ⟨0, rfl, by omega, fun j hj => by omega, rfl⟩
  rintro X _ g ⟨k, rfl, hk, hp, rfl⟩ hX
  unfold impl_edges_b0 impl_edges_C0
  refine bif_dec (fun hi => ?_) (fun hi => ⟨_, rfl, ?_, x1.trans x4⟩)
  · have hk' : k < 4 := by omega
    refine ⟨rfl, atB y x H_ W_ k, by omega, ?_, ?_⟩
    · rw [Int.toNat_natCast]
      rcases (show k = 0 ∨ k = 1 ∨ k = 2 ∨ k = 3 by omega) with rfl | rfl | rfl | rfl <;> rfl
    · have next : (!(atB y x H_ W_ k && decide (b ≥ 0) && sideI a k != b)) = true → X (impl_edges_e0 b ⟨some h.length, 4, 0⟩ [.bool (x == 0), .bool (y == 0), .bool (x == W_ - 1), .bool (y == H_ - 1)] (w64 ((k : Int) + 1))) g := fun e => by
        rw [w64_of (by omega) (by omega)]
        refine hX _ _ ⟨k + 1, by push_cast; rfl, by omega, fun j hj => ?_, rfl⟩ (by omega)
        rcases Nat.lt_or_ge j k with h1 | h1
        · exact hp j h1
        · have : j = k := by omega
          subst this; exact e
      refine bif_b (fun q => ?_) (fun q => next (by rw [q]; rfl))
      refine bif_dec (fun q1 => ?_) (fun q1 => next (by rw [decide_eq_false q1, Bool.and_false]; rfl))
      refine ixA_ldI (x := sideI a k) o1' rfl (by omega) (by omega) ?_ ?_
      · rw [Int.toNat_natCast]
        rcases (show k = 0 ∨ k = 1 ∨ k = 2 ∨ k = 3 by omega) with rfl | rfl | rfl | rfl <;> rfl
      · refine bif_ne (fun q2 => ⟨_, rfl, ?_, x1.trans x4⟩) (fun q2 => next (by rw [q2]; simp))
        refine (?_ : edgB b y x H_ W_ a = false).symm
        unfold edgB
        rw [List.all_eq_false]
        exact ⟨k, List.mem_range.2 hk', by rw [q, decide_eq_true q1]; simpa using q2⟩
  · have : k = 4 := by omega
    subst this
    refine (?_ : edgB b y x H_ W_ a = true).symm
    unfold edgB
    rw [List.all_eq_true]
    exact fun j hj => hp j (List.mem_range.1 hj)
end
end Go.Proofs.Ytekfmmcolgjdmaa.Cl

/- Sizes of boards on both sides. No claim is stated here. -/
set_option linter.unusedVariables false
set_option linter.unusedSimpArgs false
namespace Go.Proofs.Ytekfmmcolgjdmaa.Cl
open Go
def rowN (rows : List (List AVal)) (y : Nat) : List AVal := rows.getD y []
def rectB (rows : List (List AVal)) : Bool := decide (0 < rows.length) && decide (0 < (rowN rows 0).length) && rows.all fun r => r.length == (rowN rows 0).length
section
variable {h0 : H} {s : Sl} {rows : List (List AVal)}
theorem RdR.ldN {h : H} {z : Nat} (r : RdR h s z rows) {i : Int} (i0 : 0 ≤ i) (i1 : i < rows.length) {K : Sl → Prop} (hk : ∀ v, Rd h v z (rowN rows i.toNat) → K v) : ixS s 1 i fun p => Cl.ldS p h K := by
  refine r.ld i0 i1 fun v l hl rv => hk v ?_
  unfold rowN
  rw [List.getD_eq_getElem?_getD, hl]; exact rv
theorem indexFunc_rows_c (r : RdR h0 s 2 rows) (hl : rows.length < 4000000000000000000) (g : Nat) (cap : List AVal) (q : List AVal → Bool)
    (hg : ∀ v l, Rd h0 v 2 l → ∀ h', Ext h0 h' → callB SP g (.sl v :: cap) h' fun b h'' => b = q l ∧ Ext h' h'') :
    callI SP .i64 i_slices_IndexFunc_ss_impl_Placed_s_impl_Placed_ [.sl s, .func g cap] h0 fun n h' => decide (n ≥ 0) = rows.any q ∧ Ext h0 h' := by
  have hlen := r.len
  apply slices_IndexFunc_ss_impl_Placed_s_impl_Placed__call
  unfold slices_IndexFunc_ss_impl_Placed_s_impl_Placed__main
  refine slices_IndexFunc_ss_impl_Placed_s_impl_Placed__rule0 _ _ _ _ _ (fun i g => ∃ k : Nat, i = k ∧ k ≤ rows.length ∧ (∀ j, j < k → q (rowN rows j) = false) ∧ Ext h0 g) (fun i _ => (rows.length - i).toNat) ?_ _ ⟨0, rfl, by omega, fun j hj => by omega, Ext.refl _⟩
  rintro X _ g' ⟨k, rfl, hk, hp, xg⟩ hX
  unfold slices_IndexFunc_ss_impl_Placed_s_impl_Placed__b0 slices_IndexFunc_ss_impl_Placed_s_impl_Placed__C0
  have hrow : ∀ j, j < rows.length → rows[j]? = some (rowN rows j) := fun j hj => by
    unfold rowN
    rw [List.getD_eq_getElem?_getD, List.getElem?_eq_getElem hj]; rfl
  refine bif_dec (fun hi => ?_) (fun hi => ⟨_, rfl, ?_, xg⟩)
  · have hk' : k < rows.length := by omega
    obtain ⟨vs, a1, a2, a3⟩ := r
    refine (a2.ext xg).ldS (by omega) (by omega) fun v hv => ?_
    rw [Int.toNat_natCast] at hv
    have rv := a3 k v _ hv (hrow k hk')
    refine via_func ?_
    refine (hg v _ rv g' xg).to ?_
    rintro b g2 ⟨rfl, x2⟩
    refine bif_b (fun hb => ⟨_, rfl, ?_, xg.trans x2⟩) (fun hb => ?_)
    · rw [decide_eq_true (by omega : (k : Int) ≥ 0)]
      refine (List.any_eq_true.2 ⟨rowN rows k, List.mem_of_getElem? (hrow k hk'), hb⟩).symm
    · rw [w64_of (by omega) (by omega)]
      refine hX _ _ ⟨k + 1, by push_cast; rfl, by omega, fun j hj => ?_, xg.trans x2⟩ (by omega)
      rcases Nat.lt_or_ge j k with h1 | h1
      · exact hp j h1
      · rw [show j = k by omega]; exact hb
  · have hk2 : k = rows.length := by omega
    subst hk2
    rw [decide_eq_false (by omega)]
    refine (?_ : rows.any q = false).symm
    rw [List.any_eq_false]
    intro l hl
    obtain ⟨j, hj⟩ := List.mem_iff_getElem?.1 hl
    have hj' := (List.getElem?_eq_some_iff.1 hj).1
    rw [hrow j hj'] at hj
    rw [← Option.some.inj hj, hp j hj']; simp
theorem areRows_c (r : RdR h0 s 2 rows) (hl : rows.length < 4000000000000000000) : callB SP i_impl_areRows [.sl s] h0 fun b h' => b = rectB rows ∧ Ext h0 h' := by
  have hlen := r.len
  apply impl_areRows_call
  unfold impl_areRows_main
  refine newO_obj fun h1 o1 x1 l1 => ?_
  have hld : ∀ {h' : H} {K : Sl → Prop}, Ext h1 h' → K s → ldS ⟨some h0.length, 1, 0⟩ h' K := fun {h'} {K} x k => by
    have := (o1.ext x).ldS (n := 1) (i := 0) rfl (m := s) rfl k
    exact this
  refine hld (Ext.refl _) ?_
  unfold rectB
  refine bif_dec (fun q => ?_) (fun q => ⟨_, rfl, by rw [decide_eq_false (by omega : ¬ 0 < rows.length)]; rfl, x1⟩)
  rw [decide_eq_true (by omega : 0 < rows.length)]
  refine hld (Ext.refl _) ?_
  refine (r.ext x1).ldN (by omega) (by omega) fun v rv => ?_
  have rv' : Rd h1 v 2 (rowN rows 0) := rv
  have hv := rv'.len
  refine bif_dec (fun q2 => ?_) (fun q2 => ⟨_, rfl, by rw [decide_eq_false (by omega : ¬ 0 < (rowN rows 0).length)]; rfl, x1⟩)
  rw [decide_eq_true (by omega : 0 < (rowN rows 0).length)]
  refine hld (Ext.refl _) ?_
  have hc : callB SP i_slices_ContainsFunc_ss_impl_Placed_s_impl_Placed_ [.sl s, .func i_impl_areRows_1 [.ptr ⟨some h0.length, 1, 0⟩]] h1 fun b h' => b = (rows.any fun l => l.length != (rowN rows 0).length) ∧ Ext h1 h' := by
    apply slices_ContainsFunc_ss_impl_Placed_s_impl_Placed__call
    unfold slices_ContainsFunc_ss_impl_Placed_s_impl_Placed__main
    refine (indexFunc_rows_c (r.ext x1) hl _ _ (fun l => l.length != (rowN rows 0).length) ?_).to ?_
    · intro v2 l rv2 h' x'
      have hv2 := rv2.len
      apply impl_areRows_1_call
      unfold impl_areRows_1_main
      refine hld x' ?_
      refine ((r.ext x1).ext x').ldN (by omega) (by omega) fun w rw_ => ?_
      have hw := (show Rd h' w 2 (rowN rows 0) from rw_).len
      refine ⟨_, rfl, ?_, Ext.refl _⟩
      rw [Bool.eq_iff_iff]
      simp only [bne_iff_ne]
      omega
    · rintro n h' ⟨e, x'⟩
      exact ⟨_, rfl, e, x'⟩
  refine hc.to ?_
  rintro b h2 ⟨rfl, x2⟩
  refine ⟨_, rfl, ?_, x1.trans x2⟩
  rw [Bool.true_and, Bool.true_and, List.not_any_eq_all_not]
  congr 1
  funext r
  simp [bne]
/-- The reference's code of a board's sizes. -/
theorem l07Sizes_c {u : Sl} {ts : List Tile} {b : Int} (rt : Rd h0 u 4 (tcs ts)) (hts : ts.length ≤ 1048576) (r : RdR h0 s 2 rows) (hl : rows.length < 4000000000000000000) :
    callI SP .i64 i_spec_l07Sizes [.sl u, i64 b, .sl s] h0 fun n h' => n = (if (rectB rows && (decide (1 ≤ ts.length ∧ ts.length ≤ 6) && ts.all (tileok 6) && decide (-1 ≤ b ∧ b ≤ 5))) = true then 0 else 2) ∧ Ext h0 h' := by
  have hlen := r.len
  have htl := rt.tlen
  apply spec_l07Sizes_call
  unfold spec_l07Sizes_main
  unfold rectB
  refine bif_dec (fun q => ⟨_, rfl, by rw [decide_eq_false (by omega : ¬ 0 < rows.length)]; rfl, Ext.refl _⟩) (fun q => ?_)
  rw [decide_eq_true (by omega : 0 < rows.length)]
  refine r.ldN (by omega) (by omega) fun v rv => ?_
  have hv := (show Rd h0 v 2 (rowN rows 0) from rv).len
  refine bif_dec (fun q2 => ⟨_, rfl, by rw [decide_eq_false (by omega : ¬ 0 < (rowN rows 0).length)]; rfl, Ext.refl _⟩) (fun q2 => ?_)
  rw [decide_eq_true (by omega : 0 < (rowN rows 0).length), Bool.true_and, Bool.true_and]
  have hrow : ∀ j, j < rows.length → rows[j]? = some (rowN rows j) := fun j hj => by
    unfold rowN
    rw [List.getD_eq_getElem?_getD, List.getElem?_eq_getElem hj]; rfl
  refine spec_l07Sizes_rule0 _ _ _ _ _ (fun i g => ∃ k : Nat, i = k ∧ k ≤ rows.length ∧ (∀ j, j < k → (rowN rows j).length = (rowN rows 0).length) ∧ g = h0) (fun i _ => (rows.length - i).toNat) ?_ _ ⟨0, rfl, by omega, fun j hj => by omega, rfl⟩
  rintro X _ g ⟨k, rfl, hk, hp, rfl⟩ hX
  unfold spec_l07Sizes_b0 spec_l07Sizes_C0
  refine bif_dec (fun hi => ?_) (fun hi => ?_)
  · refine r.ldN (by omega) (by omega) fun w rw_ => ?_
    rw [Int.toNat_natCast] at rw_
    have hw := rw_.len
    refine r.ldN (by omega) (by omega) fun w0 rw0 => ?_
    have hw0 := (show Rd g w0 2 (rowN rows 0) from rw0).len
    refine bif_ne (fun q3 => ⟨_, rfl, ?_, Ext.refl _⟩) (fun q3 => ?_)
    · have : (rows.all fun r => r.length == (rowN rows 0).length) = false := by
        rw [List.all_eq_false]
        exact ⟨_, List.mem_of_getElem? (hrow k (by omega)), by simp; omega⟩
      rw [this]; rfl
    · rw [w64_of (by omega) (by omega)]
      refine hX _ _ ⟨k + 1, by push_cast; rfl, by omega, fun j hj => ?_, rfl⟩ (by omega)
      rcases Nat.lt_or_ge j k with h1 | h1
      · exact hp j h1
      · rw [show j = k by omega]; omega
  · have : (rows.all fun r => r.length == (rowN rows 0).length) = true := by
      rw [List.all_eq_true]
      intro l hl
      obtain ⟨j, hj⟩ := List.mem_iff_getElem?.1 hl
      have hj' := (List.getElem?_eq_some_iff.1 hj).1
      rw [hrow j hj'] at hj
      rw [← Option.some.inj hj, hp j (by omega)]; simp
    rw [this, Bool.true_and]
    refine bif_dec (fun q3 => ⟨_, rfl, by rw [decide_eq_false (by omega : ¬ (1 ≤ ts.length ∧ ts.length ≤ 6))]; rfl, Ext.refl _⟩) (fun q3 => ?_)
    refine bif_dec (fun q4 => ⟨_, rfl, by rw [decide_eq_false (by omega : ¬ (1 ≤ ts.length ∧ ts.length ≤ 6))]; rfl, Ext.refl _⟩) (fun q4 => ?_)
    rw [decide_eq_true (by omega : 1 ≤ ts.length ∧ ts.length ≤ 6), Bool.true_and]
    refine (l07Tiles_c rt (by omega)).to ?_
    rintro n h2 ⟨rfl, x2⟩
    have ht : tilesCode ts = 0 ↔ ts.all (tileok 6) = true := by unfold tilesCode; split <;> simp_all
    refine bif_ne (fun q5 => ⟨_, rfl, ?_, x2⟩) (fun q5 => ?_)
    · rw [show ts.all (tileok 6) = false by
        cases e : ts.all (tileok 6)
        · rfl
        · exact absurd (ht.2 e) q5]
      rfl
    · rw [ht.1 q5, Bool.true_and]
      refine (l01In_c _ _ _ _).to ?_
      rintro _ _ ⟨rfl, rfl⟩
      refine bif_not (fun q6 => ⟨_, rfl, by rw [q6]; rfl, x2⟩) (fun q6 => ⟨_, rfl, by rw [q6]; rfl, x2⟩)
end
end Go.Proofs.Ytekfmmcolgjdmaa.Cl

/- Boards: the plain law (tests in two rounds or in one). No claim is stated here. -/
set_option linter.unusedVariables false
set_option linter.unusedSimpArgs false
namespace Go.Proofs.Ytekfmmcolgjdmaa.Cl
open Go
abbrev Plc := Int × Int
def pc (p : Plc) : List AVal := [i64 p.1, i64 p.2]
def pcs (ps : List Plc) : List AVal := (ps.map pc).flatten
theorem pcs_len : ∀ ps : List Plc, (pcs ps).length = ps.length * 2
  | [] => rfl
  | a :: l => by simp [pcs] at *; have := pcs_len l; simp [pcs] at this; simp [pc, this]; omega
theorem pcs_at : ∀ (ps : List Plc) (i : Nat) (p : Plc), ps[i]? = some p → ((pcs ps).drop (i * 2)).take 2 = pc p
  | [], i, p, h => by simp at h
  | a :: l, 0, p, h => by simp at h; subst h; rfl
  | a :: l, i + 1, p, h => by
    have ih := pcs_at l i p (by simpa using h)
    rw [show pcs (a :: l) = pc a ++ pcs l by simp [pcs], show (i + 1) * 2 = (pc a).length + i * 2 by simp [pc]; omega, List.drop_length_add_append]
    exact ih
def rowP (rows : List (List Plc)) (y : Nat) : List Plc := rows.getD y []
def plcA (rows : List (List Plc)) (y x : Nat) : Plc := (rowP rows y).getD x (0, 0)
/-- The turned tile at a place. -/
def plT (ts : List Tile) (p : Plc) : Tile := turnN p.2.toNat (ts.getD p.1.toNat (0, 0, 0, 0))
def plI (n : Nat) (p : Plc) : Bool := decide (0 ≤ p.1 ∧ p.1 ≤ (n : Int) - 1) && decide (0 ≤ p.2 ∧ p.2 ≤ 3)
/-- The tiles placed before a place. -/
def befP (rows : List (List Plc)) (y x : Nat) : List Int := ((rows.take y).flatten ++ (rowP rows y).take x).map (·.1)
def goodB (n : Nat) (rows : List (List Plc)) (y x : Nat) : Bool := plI n (plcA rows y x) && !(befP rows y x).contains (plcA rows y x).1
def fitP (ts : List Tile) (b : Int) (rows : List (List Plc)) (H W : Nat) (y x : Nat) : Bool :=
  fitsB (plT ts (plcA rows y (x - 1))) (plT ts (plcA rows (y - 1) x)) b y x H W (plT ts (plcA rows y x))
def all2 (H W : Nat) (f : Nat → Nat → Bool) : Bool := (List.range H).all fun y => (List.range W).all fun x => f y x
theorem all_and {α : Type} (p q : α → Bool) : ∀ l : List α, (l.all p && l.all q) = l.all fun a => p a && q a
  | [] => rfl
  | a :: l => by
    simp only [List.all_cons]
    rw [← all_and p q l]
    cases p a <;> cases q a <;> cases l.all p <;> cases l.all q <;> rfl
theorem all2_and (H W : Nat) (f g : Nat → Nat → Bool) : (all2 H W f && all2 H W g) = all2 H W fun y x => f y x && g y x := by
  unfold all2
  rw [all_and]
  congr 1
  funext y
  exact all_and _ _ _
theorem all2_iff {H W : Nat} {f : Nat → Nat → Bool} : all2 H W f = true ↔ ∀ y x, y < H → x < W → f y x = true := by
  unfold all2
  simp only [List.all_eq_true, List.mem_range]
  exact ⟨fun h y x hy hx => h y hy x hx, fun h y hy x hx => h y x hy hx⟩
theorem all2_no {H W : Nat} {f : Nat → Nat → Bool} {y x : Nat} (hy : y < H) (hx : x < W) (h : f y x = false) : all2 H W f = false := by
  cases e : all2 H W f
  · rfl
  · rw [all2_iff.1 e y x hy hx] at h; cases h
/-- Are the rows a board? -/
def boardB (ts : List Tile) (b : Int) (rows : List (List Plc)) : Bool :=
  decide (rows.length * (rowP rows 0).length = ts.length) && (all2 rows.length (rowP rows 0).length (goodB ts.length rows) && all2 rows.length (rowP rows 0).length (fitP ts b rows rows.length (rowP rows 0).length))
theorem boardB_one (ts : List Tile) (b : Int) (rows : List (List Plc)) : boardB ts b rows = (decide (rows.length * (rowP rows 0).length = ts.length) && all2 rows.length (rowP rows 0).length fun y x => goodB ts.length rows y x && fitP ts b rows rows.length (rowP rows 0).length y x) := by
  unfold boardB
  rw [all2_and]
/-- The program's two tests are the reference's one. -/
theorem fit_two {lf ab a : Tile} {b : Int} {y x H W : Nat} (hx : x < W) (hy : y < H) :
    (((decide ((y : Int) = 0) || ab.2.2.2 == a.2.1) && (decide ((x : Int) = 0) || lf.2.2.1 == a.1)) && edgB b y x H W a) = fitsB lf ab b y x H W a := by
  rw [edg_rim (by omega) (by omega) (by omega) (by omega)]
  unfold fitsB offB
  have e1 : decide ((x : Int) > 0) = !decide ((x : Int) = 0) := by rw [Bool.eq_iff_iff]; simp; omega
  have e2 : decide ((y : Int) > 0) = !decide ((y : Int) = 0) := by rw [Bool.eq_iff_iff]; simp; omega
  rw [e1, e2]
  simp only [bne]
  cases decide ((x : Int) = 0) <;> cases decide ((y : Int) = 0) <;> cases (ab.2.2.2 == a.2.1) <;> cases (lf.2.2.1 == a.1) <;> cases rimB b y x H W a <;> rfl
end Go.Proofs.Ytekfmmcolgjdmaa.Cl

/- The reference's second round over a board. No claim is stated here. -/
set_option linter.unusedVariables false
set_option linter.unusedSimpArgs false
namespace Go.Proofs.Ytekfmmcolgjdmaa.Cl
open Go
def tA (tt : List (List Tile)) (y x : Nat) : Tile := (tt.getD y []).getD x (0, 0, 0, 0)
def fitT (tt : List (List Tile)) (b : Int) (H W : Nat) (y x : Nat) : Bool := fitsB (tA tt y (x - 1)) (tA tt (y - 1) x) b y x H W (tA tt y x)
theorem tA_at {tt : List (List Tile)} {y x : Nat} {t : Tile} (h : (tt.getD y [])[x]? = some t) : t = tA tt y x := by
  unfold tA
  generalize tt.getD y [] = l at h ⊢
  rw [List.getD_eq_getElem?_getD, h]; rfl
theorem RdR.ldTT {h : H} {s : Sl} {tt : List (List Tile)} (r : RdR h s 4 (tt.map tcs)) {y : Int} (y0 : 0 ≤ y) (y1 : y < tt.length) {K : Sl → Prop} (hk : ∀ v, Rd h v 4 (tcs (tt.getD y.toNat [])) → K v) : ixS s 1 y fun p => Cl.ldS p h K := by
  refine r.ld y0 (by rw [List.length_map]; exact y1) fun v l hl rv => hk v ?_
  rw [List.getElem?_map, List.getElem?_eq_getElem (by omega)] at hl
  have : tt.getD y.toNat [] = tt[y.toNat]'(by omega) := by rw [List.getD_eq_getElem?_getD, List.getElem?_eq_getElem (by omega)]; rfl
  rw [this, Option.some.inj hl]; exact rv
theorem l07Is_fits {h0 : H} {s : Sl} {tt : List (List Tile)} {b : Int} {H_ W_ : Nat} (r : RdR h0 s 4 (tt.map tcs)) (hH : tt.length = H_) (hW : ∀ y, y < H_ → (tt.getD y []).length = W_) (hH2 : H_ ≤ 1048576) (hW2 : W_ ≤ 1048576) {K : AVal → H → Prop}
    (hk : ∀ g, Ext h0 g → K (.bool (all2 H_ W_ (fitT tt b H_ W_))) g) : spec_l07Is_L4 SP K b (H_ : Int) (W_ : Int) s 0 h0 := by
  refine spec_l07Is_rule4 _ _ _ _ _ _ (fun i g => ∃ y : Nat, i = y ∧ y ≤ H_ ∧ (∀ y' x, y' < y → x < W_ → fitT tt b H_ W_ y' x = true) ∧ Ext h0 g) (fun i _ => (H_ - i).toNat) ?_ _ ⟨0, rfl, by omega, fun y' x h => by omega, Ext.refl _⟩
  rintro X _ g ⟨y, rfl, hy, hp, xg⟩ hX
  unfold spec_l07Is_b4 spec_l07Is_C4
  refine bif_dec (fun hi => ?_) (fun hi => ?_)
  · have hy' : y < H_ := by omega
    refine spec_l07Is_rule6 _ _ X _ _ _ _ _ (fun i g' => ∃ x : Nat, i = x ∧ x ≤ W_ ∧ (∀ x', x' < x → fitT tt b H_ W_ y x' = true) ∧ Ext h0 g') (fun i _ => (W_ - i).toNat) ?_ _ ⟨0, rfl, by omega, fun x' h => by omega, xg⟩
    rintro Y _ g' ⟨x, rfl, hx, hq, xg'⟩ hY
    unfold spec_l07Is_b6 spec_l07Is_C6 spec_l07Is_C5
    refine bif_dec (fun hi2 => ?_) (fun hi2 => ?_)
    · have hx' : x < W_ := by omega
      have hwy := hW y hy'
      refine (r.ext xg').ldTT (by omega) (by omega) fun v rv => ?_
      rw [Int.toNat_natCast] at rv
      refine rv.ldT (by omega) (by omega) fun t ht => ?_
      rw [Int.toNat_natCast] at ht
      have ht' := tA_at ht
      have c := l07Fits_c (h := g') (u := s) (a := t) (lf := tA tt y (x - 1)) (ab := tA tt (y - 1) x) (b := b) (y := y) (x := x) (H_ := H_) (W_ := W_) (w64_of (by omega) (by omega)) (w64_of (by omega) (by omega))
        (fun hpos h' x' K hk => by
          refine (r.ext (xg'.trans x')).ldTT (by omega) (by omega) fun v rv => ?_
          rw [Int.toNat_natCast] at rv
          rw [w64_of (by omega) (by omega)]
          refine rv.ldTc (k := 2) (by omega) (by omega) (by omega) (n := (tA tt y (x - 1)).2.2.1) (fun t ht => ?_) hk
          rw [show ((x : Int) - 1).toNat = x - 1 by omega] at ht
          rw [tA_at ht]; rfl)
        (fun hpos h' x' K hk => by
          rw [w64_of (n := (y : Int) - 1) (by omega) (by omega)]
          refine (r.ext (xg'.trans x')).ldTT (by omega) (by omega) fun v rv => ?_
          rw [show ((y : Int) - 1).toNat = y - 1 by omega] at rv
          have hw2 := hW (y - 1) (by omega)
          refine rv.ldTc (k := 3) (by omega) (by omega) (by omega) (n := (tA tt (y - 1) x).2.2.2) (fun t ht => ?_) hk
          rw [Int.toNat_natCast] at ht
          rw [tA_at ht]; rfl)
      refine c.to ?_
      rintro r2 h2 ⟨rfl, x2⟩
      rw [ht']
      refine bif_not (fun q => ?_) (fun q => ?_)
      · have : all2 H_ W_ (fitT tt b H_ W_) = false := all2_no hy' hx' q
        rw [← this]; exact hk _ (xg'.trans x2)
      · rw [w64_of (by omega) (by omega)]
        refine hY _ _ ⟨x + 1, by push_cast; rfl, by omega, fun x' h1 => ?_, xg'.trans x2⟩ (by omega)
        rcases Nat.lt_or_ge x' x with h3 | h3
        · exact hq x' h3
        · rw [show x' = x by omega]; exact q
    · have hxW : x = W_ := by omega
      rw [w64_of (by omega) (by omega)]
      refine hX _ _ ⟨y + 1, by push_cast; rfl, by omega, fun y' x' h1 h2 => ?_, xg'⟩ (by omega)
      rcases Nat.lt_or_ge y' y with h3 | h3
      · exact hp y' x' h3 h2
      · rw [show y' = y by omega]; exact hq x' (by omega)
  · have hyH : y = H_ := by omega
    have : all2 H_ W_ (fitT tt b H_ W_) = true := all2_iff.2 fun y' x' h1 h2 => hp y' x' (by omega) h2
    rw [← this]; exact hk _ xg
end Go.Proofs.Ytekfmmcolgjdmaa.Cl

/- The reference's first round over a board. No claim is stated here. -/
set_option linter.unusedVariables false
set_option linter.unusedSimpArgs false
namespace Go.Proofs.Ytekfmmcolgjdmaa.Cl
open Go
/-- A new table of rows of tiles: its rows lie behind L. -/
def NewT (L : Nat) (h : H) (s : Sl) (tt : List (List Tile)) : Prop :=
  ∃ vs : List Sl, vs.length = tt.length ∧ Ow h s 1 (vs.map .sl) ∧ ∀ (i : Nat) v l, vs[i]? = some v → tt[i]? = some l → Rd h v 4 (tcs l) ∧ Fr L v
theorem NewT.ext {L : Nat} {h h' : H} {s : Sl} {tt : List (List Tile)} (r : NewT L h s tt) (x : Ext h h') : NewT L h' s tt := by
  obtain ⟨vs, a, b, c⟩ := r
  exact ⟨vs, a, b.ext x, fun i v l p q => ⟨(c i v l p q).1.ext x, (c i v l p q).2⟩⟩
theorem NewT.but {L : Nat} {h h' : H} {s : Sl} {tt : List (List Tile)} (r : NewT L h s tt) {p : Nat} (b : But (some p) h h') (hs : s.o ≠ some p) (hp : p < L) : NewT L h' s tt := by
  obtain ⟨vs, a, c, d⟩ := r
  refine ⟨vs, a, c.but b (.inl (Ne.symm hs)), fun i v l e f => ⟨(d i v l e f).1.but b (.inl fun e2 => ?_), (d i v l e f).2⟩⟩
  have := (d i v l e f).2 p e2.symm
  omega
theorem NewT.rd {L : Nat} {h : H} {s : Sl} {tt : List (List Tile)} (r : NewT L h s tt) : RdR h s 4 (tt.map tcs) := by
  obtain ⟨vs, a, c, d⟩ := r
  refine ⟨vs, by rw [List.length_map, a], c.rd, fun i v l e f => ?_⟩
  rw [List.getElem?_map] at f
  cases hq : tt[i]? with
  | none => rw [hq] at f; cases f
  | some t => rw [hq] at f; cases f; exact (d i v t e hq).1
theorem pushV {h : H} {s : Sl} {l : List AVal} {x : AVal} (r : Ow h s 1 l) (hl : (l.length : Int) + 1 ≤ lim) {K : Sl → H → Prop}
    (hk : ∀ s' h', Ow h' s' 1 (l ++ [x]) → But s.o h h' → (∀ o, s.o = some o → s'.o = some o) → K s' h') : newS 1 1 [x] h fun t h1 => app s t 1 h1 K := by
  refine newS_ow (by rfl) fun t h1 ot tl to e1 => ?_
  have e1' : Ext h h1 := by rw [e1]; exact Ext.app _ _
  have hsl := r.len
  exact app_ow (by omega) (r.ext e1') ot.rd (by rw [tl]; have : s.len = l.length := by omega
                                                rw [this]; exact_mod_cast hl) fun s' h' o' ln b k1 k2 => hk s' h' o' ((e1'.but _).trans b) k1
theorem NewT.push {L : Nat} {h : H} {s v : Sl} {tt : List (List Tile)} {l : List Tile} (r : NewT L h s tt) {o : Nat} (ho : s.o = some o) (hoL : o < L) (rv : Rd h v 4 (tcs l)) (fv : Fr L v) (hl : (tt.length : Int) + 1 ≤ lim) {K : Sl → H → Prop}
    (hk : ∀ s' h', NewT L h' s' (tt ++ [l]) → But (some o) h h' → s'.o = some o → K s' h') : newS 1 1 [.sl v] h fun t h1 => app s t 1 h1 K := by
  obtain ⟨vs, a, c, d⟩ := r
  refine pushV c (by rw [List.length_map, a]; exact hl) fun s' h' o' b k => ?_
  rw [ho] at b
  have keep : ∀ {w : Sl} {m : List Tile}, Rd h w 4 (tcs m) → Fr L w → Rd h' w 4 (tcs m) := fun {w m} rw_ fw => rw_.but b (.inl fun e => by have := fw o e.symm; omega)
  refine hk s' h' ⟨vs ++ [v], by simp [a], by rw [List.map_append]; exact o', fun i w m e f => ?_⟩ b (k o ho)
  rw [List.getElem?_append] at e f
  by_cases hi : i < vs.length
  · rw [if_pos hi] at e
    rw [if_pos (by omega)] at f
    exact ⟨keep (d i w m e f).1 (d i w m e f).2, (d i w m e f).2⟩
  · rw [if_neg hi] at e
    rw [if_neg (by omega)] at f
    have h0 : i - vs.length = 0 := by have := (List.getElem?_eq_some_iff.1 e).1; simp at this; omega
    rw [h0] at e
    rw [show i - tt.length = 0 by omega] at f
    simp at e f
    subst e f
    exact ⟨keep rv fv, fv⟩
def metL (n : Nat) (rows : List (List Plc)) (y x : Nat) : List AVal := (List.range n).map fun (i : Nat) => AVal.bool ((befP rows y x).contains (i : Int))
def rowT (ts : List Tile) (rows : List (List Plc)) (W y : Nat) : List Tile := (List.range W).map fun x => plT ts (plcA rows y x)
theorem rowT_succ {ts : List Tile} {rows : List (List Plc)} {W y : Nat} : rowT ts rows (W + 1) y = rowT ts rows W y ++ [plT ts (plcA rows y W)] := by
  unfold rowT; rw [List.range_succ, List.map_append]; rfl
theorem befP_succ {rows : List (List Plc)} {y x : Nat} (h : x < (rowP rows y).length) : befP rows y (x + 1) = befP rows y x ++ [(plcA rows y x).1] := by
  unfold befP plcA
  rw [List.take_add_one, List.getElem?_eq_getElem h, ← List.append_assoc, List.map_append, List.getD_eq_getElem?_getD, List.getElem?_eq_getElem h]
  rfl
theorem befP_row {rows : List (List Plc)} {y : Nat} (h : y < rows.length) : befP rows (y + 1) 0 = befP rows y (rowP rows y).length := by
  unfold befP
  have : rowP rows y = rows[y] := by unfold rowP; rw [List.getD_eq_getElem?_getD, List.getElem?_eq_getElem h]; rfl
  rw [List.take_add_one, List.getElem?_eq_getElem h, List.flatten_append, List.take_zero, List.append_nil, List.take_length, this]
  simp
theorem metL_set {n : Nat} {rows : List (List Plc)} {y x : Nat} (h : x < (rowP rows y).length) (h0 : 0 ≤ (plcA rows y x).1) : (metL n rows y x).set (plcA rows y x).1.toNat (.bool true) = metL n rows y (x + 1) := by
  apply List.ext_getElem (by simp [metL])
  intro i h1 h2
  rw [List.getElem_set]
  simp only [metL, List.getElem_map, List.getElem_range, befP_succ h]
  by_cases e : (plcA rows y x).1.toNat = i
  · rw [if_pos e]
    have : (i : Int) = (plcA rows y x).1 := by omega
    simp [this]
  · rw [if_neg e]
    have : ¬ (i : Int) = (plcA rows y x).1 := by omega
    simp [this]
end Go.Proofs.Ytekfmmcolgjdmaa.Cl

/- The reference's first round over a board: the walk. No claim is stated here. -/
set_option linter.unusedVariables false
set_option linter.unusedSimpArgs false
namespace Go.Proofs.Ytekfmmcolgjdmaa.Cl
open Go
theorem But.past {o : Option Nat} {g a c : H} {p : Nat} (b : But o g a) (x : But (some p) a c) (hp : g.length ≤ p) : But o g c :=
  ⟨Nat.le_trans b.1 x.1, fun i hi hn => by rw [x.2 i (by have := b.1; omega) (by intro e; have := Option.some.inj e; omega), b.2 i hi hn]⟩
theorem tcs_spl (t : Tile) : spl [.int .i64 0, .int .i64 0, .int .i64 0, .int .i64 0] 0 4 (tc t) = tc t := rfl
theorem pushT {h : H} {s : Sl} {l : List Tile} {t : Tile} (r : Ow h s 4 (tcs l)) (hl : (l.length : Int) + 1 ≤ lim) {K : Sl → H → Prop}
    (hk : ∀ s' h', Ow h' s' 4 (tcs (l ++ [t])) → But s.o h h' → (∀ o, s.o = some o → s'.o = some o) → K s' h') : newS 1 4 (tc t) h fun u h1 => app s u 4 h1 K := by
  refine newS_ow (by rfl) fun u h1 ot tl to e1 => ?_
  have e1' : Ext h h1 := by rw [e1]; exact Ext.app _ _
  have hsl := r.rd.tlen
  exact app_ow (by omega) (r.ext e1') ot.rd (by rw [tl, hsl]; exact_mod_cast hl) fun s' h' o' ln b k1 k2 => hk s' h' (by rw [tcs_app, tcs_one]; exact o') ((e1'.but _).trans b) k1
theorem Rd.ldP {h : H} {s : Sl} {ps : List Plc} (r : Rd h s 2 (pcs ps)) {i : Nat} (h1 : i < ps.length) {K : List AVal → Prop} (hk : K (pc (ps.getD i (0, 0)))) : ixS s 2 (i : Int) fun p => Cl.ldA p 2 h K := by
  have hl := r.len
  rw [pcs_len] at hl
  have hx := List.getElem?_eq_getElem (l := ps) (i := i) h1
  refine r.ldA (by omega) (by omega) ?_
  rw [Int.toNat_natCast, pcs_at ps _ _ hx]
  have : ps.getD i (0, 0) = ps[i] := by rw [List.getD_eq_getElem?_getD, hx]; rfl
  rw [← this]; exact hk
section
variable {h0 : H} {u s : Sl} {ts : List Tile} {rows : List (List Plc)} {b : Int} {W_ : Nat}
theorem l07Is_c (rt : Rd h0 u 4 (tcs ts)) (hts : ts.length ≤ 6) (r : RdR h0 s 2 (rows.map pcs)) (hH : 0 < rows.length) (hH2 : rows.length ≤ 1048576) (hW : ∀ y, y < rows.length → (rowP rows y).length = W_) (hW0 : 0 < W_) (hW2 : W_ ≤ 1048576) :
    callB SP i_spec_l07Is [.sl u, i64 b, .sl s] h0 fun v h' => (v = (decide (rows.length * W_ = ts.length) && (all2 rows.length W_ (goodB ts.length rows) && all2 rows.length W_ (fitT ((List.range rows.length).map (rowT ts rows W_)) b rows.length W_)))) ∧ Ext h0 h' := by
  have hlen := r.len
  rw [List.length_map] at hlen
  have htl := rt.tlen
  have hrow : ∀ {h : H} (x : Ext h0 h) {y : Nat} (hy : y < rows.length) {K : Sl → Prop} (hk : ∀ v, Rd h v 2 (pcs (rowP rows y)) → v.len = W_ → K v), ixS s 1 (y : Int) fun p => Cl.ldS p h K := fun {h} x {y} hy {K} hk => by
    refine (r.ext x).ld (by omega) (by rw [List.length_map]; omega) fun v l hl rv => ?_
    rw [Int.toNat_natCast, List.getElem?_map, List.getElem?_eq_getElem hy] at hl
    have e : rowP rows y = rows[y] := by unfold rowP; rw [List.getD_eq_getElem?_getD, List.getElem?_eq_getElem hy]; rfl
    rw [← Option.some.inj hl, ← e] at rv
    have := rv.len
    rw [pcs_len, hW y hy] at this
    exact hk v rv (by omega)
  apply spec_l07Is_call
  unfold spec_l07Is_main
  refine hrow (Ext.refl _) hH fun v0 rv0 lv0 => ?_
  have hP := Nat.mul_le_mul hH2 hW2
  rw [hlen, lv0, show (rows.length : Int) * W_ = ((rows.length * W_ : Nat) : Int) by push_cast; rfl]
  generalize rows.length * W_ = P at hP ⊢
  rw [w64_of (by omega) (by omega)]
  refine bif_ne (fun q => ⟨_, rfl, by rw [decide_eq_false (by omega)]; rfl, Ext.refl _⟩) (fun q => ?_)
  rw [decide_eq_true (by omega : P = ts.length), Bool.true_and]
  rw [htl]
  refine mkS_ow (by omega) (by unfold lim; omega) fun sm h3 om lm so3 e3 => ?_
  have x3 : Ext h0 h3 := by rw [e3]; exact Ext.app _ _
  refine newS_ow (by rfl) fun st h5 ot lt so5 e5 => ?_
  have x5 : Ext h3 h5 := by rw [e5]; exact Ext.app _ _
  have l3 : h3.length = h0.length + 1 := by rw [e3]; simp
  have l5 : h5.length = h0.length + 2 := by rw [e5]; simp [l3]
  have om' : Ow h5 sm 1 (metL ts.length rows 0 0) := by
    have e : metL ts.length rows 0 0 = List.replicate ts.length (AVal.bool false) := by
      apply List.ext_getElem (by simp [metL])
      intro i _ _
      simp [metL, befP]
    rw [e]
    have := om.ext x5
    simpa using this
  refine spec_l07Is_rule0 _ _ _ _ _ _ _ _ (fun st i g => ∃ y : Nat, i = y ∧ y ≤ rows.length ∧ NewT h5.length g st ((List.range y).map (rowT ts rows W_)) ∧ st.o = some h3.length ∧ Ow g sm 1 (metL ts.length rows y 0) ∧ (∀ y' x, y' < y → x < W_ → goodB ts.length rows y' x = true) ∧ Ext h0 g ∧ h5.length ≤ g.length) (fun _ i _ => (rows.length - i).toNat) ?_ _ _
    ⟨0, rfl, by omega, ⟨[], rfl, ot, fun i v l e => by simp at e⟩, so5, om', fun y' x h => by omega, x3.trans x5, Nat.le_refl _⟩
  rintro X st _ g ⟨y, rfl, hy, nt, sto, om, hp, xg, lg⟩ hX
  unfold spec_l07Is_b0 spec_l07Is_C0
  refine bif_dec (fun hi => ?_) (fun hi => ?_)
  · have hy' : y < rows.length := by omega
    have hWy := hW y hy'
    refine newS_ow (by rfl) fun sr h6 orow lr so6 e6 => ?_
    have x6 : Ext g h6 := by rw [e6]; exact Ext.app _ _
    have l6 : h6.length = g.length + 1 := by rw [e6]; simp
    refine spec_l07Is_rule2 _ _ X _ _ _ _ _ _ _ _ (fun sr i g' => ∃ x : Nat, i = x ∧ x ≤ W_ ∧ Ow g' sr 4 (tcs (rowT ts rows x y)) ∧ sr.o = some g.length ∧ But (some h0.length) g g' ∧ Ow g' sm 1 (metL ts.length rows y x) ∧ (∀ x', x' < x → goodB ts.length rows y x' = true) ∧ Ext h0 g' ∧ h6.length ≤ g'.length) (fun _ i _ => (W_ - i).toNat) ?_ _ _
      ⟨0, rfl, by omega, orow, so6, x6.but _, om.ext x6, fun x' h => by omega, xg.trans x6, Nat.le_refl _⟩
    rintro Y sr _ g' ⟨x, rfl, hx, orow, so6, bg, om, hq, xg', lg'⟩ hY
    unfold spec_l07Is_b2 spec_l07Is_C2 spec_l07Is_C1
    refine bif_dec (fun hi2 => ?_) (fun hi2 => ?_)
    · have hx' : x < W_ := by omega
      refine hrow xg' hy' fun v rv lv => ?_
      refine rv.ldP (by omega) ?_
      rw [show (rowP rows y).getD x (0, 0) = plcA rows y x from rfl]
      have no : goodB ts.length rows y x = false → ∀ h', Ext h0 h' → ∃ r, AVal.bool false = .bool r ∧ (r = (all2 rows.length W_ (goodB ts.length rows) && all2 rows.length W_ (fitT ((List.range rows.length).map (rowT ts rows W_)) b rows.length W_))) ∧ Ext h0 h' := fun e h' x' => ⟨_, rfl, by rw [all2_no hy' hx' e]; rfl, x'⟩
      have gl := bg.1
      refine newO_obj fun h7 o7 x7 _ => ?_
      refine o7.stA fun h8 o8 b8 _ => ?_
      have x8 : Ext g' h8 := x7.but_ b8 (some_le (Nat.le_refl _))
      refine ⟨rfl, ?_⟩
      refine o8.ldI (n := 2) (i := 0) (m := (plcA rows y x).1) rfl rfl ?_
      rw [htl, w64_of (by omega) (by omega)]
      refine (l01In_c _ _ _ _).to ?_
      rintro _ _ ⟨rfl, rfl⟩
      refine bif_not (fun q1 => no (by unfold goodB plI; rw [q1]; rfl) _ (xg'.trans x8)) (fun q1 => ?_)
      have r1 := of_decide_eq_true q1
      refine ⟨rfl, ?_⟩
      refine o8.ldI (n := 2) (i := 1) (m := (plcA rows y x).2) rfl rfl ?_
      refine (l01In_c _ _ _ _).to ?_
      rintro _ _ ⟨rfl, rfl⟩
      refine bif_not (fun q2 => no (by unfold goodB plI; rw [q2, Bool.and_false]; rfl) _ (xg'.trans x8)) (fun q2 => ?_)
      have r2 := of_decide_eq_true q2
      refine ⟨rfl, ?_⟩
      refine o8.ldI (n := 2) (i := 0) (m := (plcA rows y x).1) rfl rfl ?_
      have em : metL ts.length rows y x = ((List.range ts.length).map fun (i : Nat) => (befP rows y x).contains (i : Int)).map AVal.bool := by unfold metL; rw [List.map_map]; rfl
      refine Rd.ldB (l := (List.range ts.length).map fun (i : Nat) => (befP rows y x).contains (i : Int)) (by rw [← em]; exact (om.ext x8).rd) (by omega) (by rw [List.length_map, List.length_range]; omega) fun c hc => ?_
      rw [List.getElem?_map, List.getElem?_range (by omega)] at hc
      have hc' : (befP rows y x).contains (plcA rows y x).1 = c := by
        have := Option.some.inj hc
        rw [← this]
        show _ = (befP rows y x).contains (((plcA rows y x).1.toNat : Nat) : Int)
        rw [show (((plcA rows y x).1.toNat : Nat) : Int) = (plcA rows y x).1 by omega]
      refine bif_b (fun q3 => no (by unfold goodB; rw [hc', q3]; simp) _ (xg'.trans x8)) (fun q3 => ?_)
      have good : goodB ts.length rows y x = true := by unfold goodB plI; rw [q1, q2, hc', q3]; rfl
      refine ⟨rfl, ?_⟩
      refine o8.ldI (n := 2) (i := 0) (m := (plcA rows y x).1) rfl rfl ?_
      refine (om.ext x8).stC (by omega) (by rw [lm]; omega) _ fun h18 om18 b18 l18 => ?_
      rw [metL_set (by omega) (by omega)] at om18
      rw [so3] at b18
      have x18 := (xg'.trans x8).but_ b18 (some_le (Nat.le_refl _))
      have o18 := o8.but b18 (by intro e; have := Option.some.inj e; omega)
      refine ⟨rfl, ?_⟩
      refine o18.ldI (n := 2) (i := 0) (m := (plcA rows y x).1) rfl rfl ?_
      refine (rt.ext x18).ldT (by omega) (by omega) fun t ht => ?_
      refine ⟨rfl, ?_⟩
      refine o18.ldI (n := 2) (i := 1) (m := (plcA rows y x).2) rfl rfl ?_
      refine (l07Turn_c t _ (by omega) (by omega) _).to ?_
      rintro _ h23 ⟨rfl, x23⟩
      refine ⟨rfl, ?_⟩
      rw [tcs_spl]
      have ht' : turnN (plcA rows y x).2.toNat t = plT ts (plcA rows y x) := by
        unfold plT
        rw [List.getD_eq_getElem?_getD, ht]; rfl
      rw [ht']
      have l8 := x8.len
      have l23 := x23.len
      have orow23 := ((orow.ext x8).but b18 (.inl (by rw [so6]; intro e; have := Option.some.inj e; omega))).ext x23
      refine pushT orow23 (by unfold rowT; rw [List.length_map, List.length_range]; unfold lim; omega) fun s' g5 o5 b5 k5 => ?_
      rw [so6] at b5
      rw [w64_of (by omega) (by omega)]
      have bg5 := (((bg.trans (x8.but _)).trans b18).trans (x23.but _)).past b5 (Nat.le_refl _)
      have b5l := b5.1
      refine hY _ _ _ ⟨x + 1, by push_cast; rfl, by omega, by rw [rowT_succ]; exact o5, k5 _ so6, bg5, (om18.ext x23).but b5 (.inl (by rw [so3]; intro e; have := Option.some.inj e; omega)), fun x' h1 => ?_, (x18.trans x23).but_ b5 (some_le (by omega)), by omega⟩ (by omega)
      rcases Nat.lt_or_ge x' x with h3 | h3
      · exact hq x' h3
      · rw [show x' = x by omega]; exact good
    · have hxW : x = W_ := by omega
      subst hxW
      replace nt := nt.but bg (by rw [sto]; intro e; have := Option.some.inj e; omega) (by omega)
      refine nt.push sto (by omega) orow.rd (fun o e => by rw [so6] at e; cases e; exact lg) (by rw [List.length_map, List.length_range]; unfold lim; omega) fun s' g5 nt5 b5 so5' => ?_
      rw [w64_of (by omega) (by omega)]
      have xg5 := xg'.but_ b5 (some_le (by omega))
      have b5l := b5.1
      refine hX _ _ _ ⟨y + 1, by push_cast; rfl, by omega, ?_, so5', ?_, fun y' x' h1 h2 => ?_, xg5, by omega⟩ (by omega)
      · rw [List.range_succ, List.map_append]; exact nt5
      · have e : metL ts.length rows (y + 1) 0 = metL ts.length rows y x := by unfold metL; rw [befP_row hy', hWy]
        rw [e]
        exact om.but b5 (.inl (by rw [so3]; intro e; have := Option.some.inj e; omega))
      · rcases Nat.lt_or_ge y' y with h3 | h3
        · exact hp y' x' h3 h2
        · rw [show y' = y by omega]; exact hq x' h2
  · have hyH : y = rows.length := by omega
    subst hyH
    have hk := l07Is_fits (b := b) (H_ := rows.length) (W_ := W_) (K := fun v h' => ∃ r, v = .bool r ∧ (r = (all2 rows.length W_ (goodB ts.length rows) && all2 rows.length W_ (fitT ((List.range rows.length).map (rowT ts rows W_)) b rows.length W_))) ∧ Ext h0 h') nt.rd (by simp) (fun y hy => ?_) hH2 hW2 (fun g' x => ⟨_, rfl, ?_, xg.trans x⟩)
    · exact hk
    · rw [List.getD_eq_getElem?_getD, List.getElem?_map, List.getElem?_range hy]
      simp [rowT]
    · rw [all2_iff.2 fun y' x' h1 h2 => hp y' x' h1 h2, Bool.true_and]
end
end Go.Proofs.Ytekfmmcolgjdmaa.Cl

/- IsBoard: the reference's contract. No claim is stated here. -/
set_option linter.unusedVariables false
set_option linter.unusedSimpArgs false
namespace Go.Proofs.Ytekfmmcolgjdmaa.Cl
open Go
theorem all2_congr {H W : Nat} {f g : Nat → Nat → Bool} (h : ∀ y x, y < H → x < W → f y x = g y x) : all2 H W f = all2 H W g := by
  rw [Bool.eq_iff_iff, all2_iff, all2_iff]
  exact ⟨fun a y x hy hx => by rw [← h y x hy hx]; exact a y x hy hx, fun a y x hy hx => by rw [h y x hy hx]; exact a y x hy hx⟩
theorem tA_row {ts : List Tile} {rows : List (List Plc)} {H W y x : Nat} (hy : y < H) (hx : x < W) : tA ((List.range H).map (rowT ts rows W)) y x = plT ts (plcA rows y x) := by
  unfold tA
  have e : ((List.range H).map (rowT ts rows W)).getD y [] = rowT ts rows W y := by rw [List.getD_eq_getElem?_getD, List.getElem?_map, List.getElem?_range hy]; rfl
  rw [e]
  unfold rowT
  rw [List.getD_eq_getElem?_getD, List.getElem?_map, List.getElem?_range hx]; rfl
theorem fitT_row {ts : List Tile} {rows : List (List Plc)} {b : Int} {H W y x : Nat} (hy : y < H) (hx : x < W) : fitT ((List.range H).map (rowT ts rows W)) b H W y x = fitP ts b rows H W y x := by
  unfold fitT fitP
  rw [tA_row hy hx, tA_row hy (by omega : x - 1 < W), tA_row (by omega : y - 1 < H) hx]
/-- May tiles, a border and rows be asked for at all? -/
def askB (ts : List Tile) (b : Int) (rows : List (List Plc)) : Bool := rectB (rows.map pcs) && (decide (1 ≤ ts.length ∧ ts.length ≤ 6) && ts.all (tileok 6) && decide (-1 ≤ b ∧ b ≤ 5))
def F_IsBoard_0 (ts : List Tile) (b : Int) (rows : List (List Plc)) : Bool := askB ts b rows && boardB ts b rows
def F_IsBoard_1 (ts : List Tile) (b : Int) (rows : List (List Plc)) : Int := if askB ts b rows = true then 0 else 2
theorem askB_ok {ts : List Tile} {b : Int} {rows : List (List Plc)} (h : askB ts b rows = true) : 0 < rows.length ∧ 0 < (rowP rows 0).length ∧ (∀ y, y < rows.length → (rowP rows y).length = (rowP rows 0).length) ∧ 1 ≤ ts.length ∧ ts.length ≤ 6 := by
  unfold askB rectB at h
  simp only [Bool.and_eq_true, decide_eq_true_eq, List.length_map, List.all_eq_true] at h
  obtain ⟨⟨⟨h1, h2⟩, h3⟩, ⟨⟨h4, h5⟩, h6⟩, h7⟩ := h
  have er : ∀ y, y < rows.length → rowN (rows.map pcs) y = pcs (rowP rows y) := fun y hy => by
    unfold rowN rowP
    rw [List.getD_eq_getElem?_getD, List.getD_eq_getElem?_getD, List.getElem?_map, List.getElem?_eq_getElem hy]; rfl
  rw [er 0 h1, pcs_len] at h2
  refine ⟨h1, by omega, fun y hy => ?_, h4, h5⟩
  have hm : pcs (rowP rows y) ∈ rows.map pcs := by
    rw [← er y hy]
    unfold rowN
    rw [List.getD_eq_getElem?_getD, List.getElem?_map, List.getElem?_eq_getElem hy]
    exact List.mem_map.2 ⟨rows[y], List.getElem_mem _, rfl⟩
  have := h3 _ hm
  rw [er 0 h1] at this
  have := eq_of_beq this
  rw [pcs_len, pcs_len] at this
  omega
section
variable {h0 : H} {u s : Sl} {ts : List Tile} {rows : List (List Plc)} {b : Int}
theorem spec_IsBoard_c (rt : Rd h0 u 4 (tcs ts)) (hts : ts.length ≤ 1048576) (bb : i64ok b) (r : RdR h0 s 2 (rows.map pcs)) (hH2 : rows.length ≤ 1048576) (hW2 : ∀ l ∈ rows, l.length ≤ 1048576) :
    callV SP i_spec_IsBoard [.sl u, i64 b, .sl s] h0 fun v h' => v = .tuple [.bool (F_IsBoard_0 ts b rows), i64 (F_IsBoard_1 ts b rows)] ∧ Ext h0 h' := by
  apply spec_IsBoard_call
  unfold spec_IsBoard_main
  refine (l07Sizes_c (b := b) rt hts r (by rw [List.length_map]; omega)).to ?_
  rintro n h1 ⟨rfl, x1⟩
  have ea : (rectB (rows.map pcs) && (decide (1 ≤ ts.length ∧ ts.length ≤ 6) && ts.all (tileok 6) && decide (-1 ≤ b ∧ b ≤ 5))) = askB ts b rows := rfl
  rw [ea]
  unfold F_IsBoard_0 F_IsBoard_1
  refine bif_ne (fun q => ?_) (fun q => ?_)
  · have hn : askB ts b rows = false := by
      cases e : askB ts b rows
      · rfl
      · rw [e] at q; exact absurd rfl q
    rw [hn]; exact ⟨rfl, x1⟩
  · have hy : askB ts b rows = true := by
      cases e : askB ts b rows
      · rw [e] at q; cases q
      · rfl
    obtain ⟨k1, k2, k3, k4, k5⟩ := askB_ok hy
    have hw2 : (rowP rows 0).length ≤ 1048576 := by
      refine hW2 _ ?_
      unfold rowP
      rw [List.getD_eq_getElem?_getD, List.getElem?_eq_getElem k1]
      exact List.getElem_mem _
    refine (l07Is_c (b := b) (W_ := (rowP rows 0).length) (rt.ext x1) k5 (r.ext x1) k1 hH2 k3 k2 hw2).to ?_
    rintro v h2 ⟨rfl, x2⟩
    refine ⟨?_, x1.trans x2⟩
    rw [hy]
    have : (decide (rows.length * (rowP rows 0).length = ts.length) && (all2 rows.length (rowP rows 0).length (goodB ts.length rows) && all2 rows.length (rowP rows 0).length (fitT ((List.range rows.length).map (rowT ts rows (rowP rows 0).length)) b rows.length (rowP rows 0).length))) = boardB ts b rows := by
      unfold boardB
      rw [all2_congr fun y x hy hx => fitT_row hy hx]
    rw [this]; rfl
end
end Go.Proofs.Ytekfmmcolgjdmaa.Cl

/- The program's round over a board. No claim is stated here. -/
set_option linter.unusedVariables false
set_option linter.unusedSimpArgs false
namespace Go.Proofs.Ytekfmmcolgjdmaa.Cl
open Go
/-- The place of an element, with its object and what is read there. -/
theorem Rd.ixO {h : H} {s : Sl} {z : Nat} {cs : List AVal} (r : Rd h s z cs) {i : Int} (h0 : 0 ≤ i) (h1 : i < s.len) {K : Pt → Prop}
    (hk : ∀ p : Pt, p.o = s.o → range h p.o p.n p.off z = some ((cs.drop (i.toNat * z)).take z) → K p) : ixS s z i K := by
  obtain hl | ⟨a, b, c⟩ := r.at_
  · omega
  · refine ⟨⟨h0, h1⟩, a, b, hk ⟨s.o, s.n, s.off + i.toNat * z⟩ rfl ?_⟩
    refine range_sub c ?_
    have : (i.toNat + 1) * z ≤ s.len * z := Nat.mul_le_mul_right _ (by omega)
    rw [Nat.add_mul] at this; omega
theorem newOat_obj {cs : List AVal} {h : H} {n : Nat} (hn : n < h.length) {K : Pt → H → Prop} (hk : ∀ h', Obj h' n cs → But (some n) h h' → h'.length = h.length → K ⟨some n, cs.length, 0⟩ h') : newOat cs h n K :=
  hk _ (by unfold Obj; simp [hn]) ⟨by simp, fun i hi hne => by rw [List.getElem?_set, if_neg (fun e => hne (by rw [e]))]⟩ (by simp)
theorem turnsN4_at (t : Tile) {k : Nat} (hk : k < 4) : (turnsN 4 t)[k]? = some (turnN k t) := by
  match k, hk with
  | 0, _ => rfl
  | 1, _ => rfl
  | 2, _ => rfl
  | 3, _ => rfl
theorem rowT_at {ts : List Tile} {rows : List (List Plc)} {W y i : Nat} (h : i < W) : (rowT ts rows W y)[i]? = some (plT ts (plcA rows y i)) := by
  unfold rowT; rw [List.getElem?_map, List.getElem?_range h]; rfl
section
variable {h0 : H} {u s : Sl} {ts : List Tile} {rows : List (List Plc)} {b : Int} {W_ : Nat}
theorem placed_c (rt : Rd h0 u 4 (tcs ts)) (hts : ts.length ≤ 6) (r : RdR h0 s 2 (rows.map pcs)) (hH : 0 < rows.length) (hH2 : rows.length ≤ 1048576) (hW : ∀ y, y < rows.length → (rowP rows y).length = W_) (hW0 : 0 < W_) (hW2 : W_ ≤ 1048576) :
    callV SP i_impl_placed [.sl u, i64 b, .sl s] h0 fun v h' => (∃ w, v = .tuple [.sl w, .bool (decide (rows.length * W_ = ts.length) && all2 rows.length W_ fun y x => goodB ts.length rows y x && fitP ts b rows rows.length W_ y x)]) ∧ Ext h0 h' := by
  have hlen := r.len
  rw [List.length_map] at hlen
  have htl := rt.tlen
  have hrow : ∀ {h : H} (x : Ext h0 h) {y : Nat} (hy : y < rows.length) {K : Sl → Prop} (hk : ∀ v, Rd h0 v 2 (pcs (rowP rows y)) → v.len = W_ → K v), ixS s 1 (y : Int) fun p => Cl.ldS p h K := fun {h} x {y} hy {K} hk => by
    obtain ⟨vs, a1, a2, a3⟩ := r
    rw [List.length_map] at a1
    refine (a2.ext x).ldS (by omega) (by omega) fun v hv => ?_
    rw [Int.toNat_natCast] at hv
    have e : rowP rows y = rows[y] := by unfold rowP; rw [List.getD_eq_getElem?_getD, List.getElem?_eq_getElem hy]; rfl
    have rv := a3 y v (pcs (rowP rows y)) hv (by rw [List.getElem?_map, List.getElem?_eq_getElem hy, e]; rfl)
    have := rv.len
    rw [pcs_len, hW y hy] at this
    exact hk v rv (by omega)
  apply impl_placed_call
  unfold impl_placed_main
  refine slotK_in fun h1 x1 l1 => ?_
  refine newSat_ow (by omega) rfl fun st h2 ot lt so1 b2 l2 => ?_
  refine mkSat_ow (by omega) (by omega) (by unfold lim; omega) fun sm h4 om lm so3 b4 l4 => ?_
  have x4 : Ext h0 h4 := (x1.but_ b2 (some_le (by omega))).but_ b4 (some_le (by omega))
  have ot4 := ot.but b4 (.inl (by rw [so1]; intro e; have := Option.some.inj e; omega))
  refine hrow x4 hH fun v0 rv0 lv0 => ?_
  have hP := Nat.mul_le_mul hH2 hW2
  rw [hlen, lv0, show (rows.length : Int) * W_ = ((rows.length * W_ : Nat) : Int) by push_cast; rfl]
  generalize rows.length * W_ = P at hP ⊢
  rw [w64_of (by omega) (by omega)]
  refine bif_ne (fun q => ⟨⟨_, by rw [decide_eq_false (by omega)]; rfl⟩, x4⟩) (fun q => ?_)
  rw [decide_eq_true (by omega : P = ts.length), Bool.true_and]
  have om' : Ow h4 sm 1 (metL ts.length rows 0 0) := by
    have e : metL ts.length rows 0 0 = List.replicate ts.length (AVal.bool false) := by
      apply List.ext_getElem (by simp [metL])
      intro i _ _
      simp [metL, befP]
    rw [e]
    simpa [htl] using om
  refine impl_placed_rule0 _ _ _ _ _ _ _ _ (fun st i g => ∃ y : Nat, i = y ∧ y ≤ rows.length ∧ NewT h4.length g st ((List.range y).map (rowT ts rows W_)) ∧ st.o = some (h0.length + 0) ∧ Ow g sm 1 (metL ts.length rows y 0) ∧ (∀ y' x, y' < y → x < W_ → (goodB ts.length rows y' x && fitP ts b rows rows.length W_ y' x) = true) ∧ Ext h0 g ∧ h4.length ≤ g.length) (fun _ i _ => (rows.length - i).toNat) ?_ _ _
    ⟨0, rfl, by omega, ⟨[], rfl, ot4, fun i v l e => by simp at e⟩, so1, om', fun y' x h => by omega, x4, Nat.le_refl _⟩
  rintro X st _ g ⟨y, rfl, hy, nt, sto, om, hp, xg, lg⟩ hX
  unfold impl_placed_b0 impl_placed_C0
  refine bif_dec (fun hi => ?_) (fun hi => ?_)
  · have hy' : y < rows.length := by omega
    have hWy := hW y hy'
    refine hrow xg hy' fun v rv lv => ?_
    refine newS_ow (by rfl) fun sr h6 orow lr so6 e6 => ?_
    have x6 : Ext g h6 := by rw [e6]; exact Ext.app _ _
    have l6 : h6.length = g.length + 1 := by rw [e6]; simp
    refine impl_placed_rule2 _ _ X _ _ _ _ _ _ _ _ _ _ _ _ (fun sr i g' => ∃ x : Nat, i = x ∧ x ≤ W_ ∧ Ow g' sr 4 (tcs (rowT ts rows x y)) ∧ sr.o = some g.length ∧ But (some (h0.length + 3)) g g' ∧ Ow g' sm 1 (metL ts.length rows y x) ∧ (∀ x', x' < x → (goodB ts.length rows y x' && fitP ts b rows rows.length W_ y x') = true) ∧ Ext h0 g' ∧ h6.length ≤ g'.length) (fun _ i _ => (W_ - i).toNat) ?_ _ _
      ⟨0, rfl, by omega, orow, so6, x6.but _, om.ext x6, fun x' h => by omega, xg.trans x6, Nat.le_refl _⟩
    rintro Y sr _ g' ⟨x, rfl, hx, orow, so6, bg, om, hq, xg', lg'⟩ hY
    unfold impl_placed_b2 impl_placed_C2 impl_placed_C1
    refine bif_dec (fun hi2 => ?_) (fun hi2 => ?_)
    · have hx' : x < W_ := by omega
      refine (rv.ext xg').ldP (by omega) ?_
      rw [show (rowP rows y).getD x (0, 0) = plcA rows y x from rfl]
      have no : (goodB ts.length rows y x && fitP ts b rows rows.length W_ y x) = false → ∀ h', Ext h0 h' → (∃ w, AVal.tuple [.sl Sl.nil, .bool false] = .tuple [.sl w, .bool (all2 rows.length W_ fun y x => goodB ts.length rows y x && fitP ts b rows rows.length W_ y x)]) ∧ Ext h0 h' := fun e h' x' => ⟨⟨_, by rw [all2_no (f := fun y x => goodB ts.length rows y x && fitP ts b rows rows.length W_ y x) hy' hx' e]⟩, x'⟩
      have noG : goodB ts.length rows y x = false → (goodB ts.length rows y x && fitP ts b rows rows.length W_ y x) = false := fun e => by rw [e]; rfl
      have gl := bg.1
      refine newO_obj fun h7 o7 x7 _ => ?_
      refine o7.stA fun h8 o8 b8 _ => ?_
      have x8 : Ext g' h8 := x7.but_ b8 (some_le (Nat.le_refl _))
      refine ⟨rfl, ?_⟩
      refine o8.ldI (n := 2) (i := 0) (m := (plcA rows y x).1) rfl rfl ?_
      rw [htl, w64_of (by omega) (by omega)]
      refine (within_c _ _ _ _).to ?_
      rintro _ _ ⟨rfl, rfl⟩
      refine bif_not (fun q1 => no (noG (by unfold goodB plI; rw [q1]; rfl)) _ (xg'.trans x8)) (fun q1 => ?_)
      have r1 := of_decide_eq_true q1
      refine ⟨rfl, ?_⟩
      refine o8.ldI (n := 2) (i := 1) (m := (plcA rows y x).2) rfl rfl ?_
      refine (within_c _ _ _ _).to ?_
      rintro _ _ ⟨rfl, rfl⟩
      refine bif_not (fun q2 => no (noG (by unfold goodB plI; rw [q2, Bool.and_false]; rfl)) _ (xg'.trans x8)) (fun q2 => ?_)
      have r2 := of_decide_eq_true q2
      refine ⟨rfl, ?_⟩
      refine o8.ldI (n := 2) (i := 0) (m := (plcA rows y x).1) rfl rfl ?_
      have em : metL ts.length rows y x = ((List.range ts.length).map fun (i : Nat) => (befP rows y x).contains (i : Int)).map AVal.bool := by unfold metL; rw [List.map_map]; rfl
      refine Rd.ldB (l := (List.range ts.length).map fun (i : Nat) => (befP rows y x).contains (i : Int)) (by rw [← em]; exact (om.ext x8).rd) (by omega) (by rw [List.length_map, List.length_range]; omega) fun c hc => ?_
      rw [List.getElem?_map, List.getElem?_range (by omega)] at hc
      have hc' : (befP rows y x).contains (plcA rows y x).1 = c := by
        have := Option.some.inj hc
        rw [← this]
        show _ = (befP rows y x).contains (((plcA rows y x).1.toNat : Nat) : Int)
        rw [show (((plcA rows y x).1.toNat : Nat) : Int) = (plcA rows y x).1 by omega]
      refine bif_b (fun q3 => no (noG (by unfold goodB; rw [hc', q3]; simp)) _ (xg'.trans x8)) (fun q3 => ?_)
      have good : goodB ts.length rows y x = true := by unfold goodB plI; rw [q1, q2, hc', q3]; rfl
      refine ⟨rfl, ?_⟩
      refine o8.ldI (n := 2) (i := 0) (m := (plcA rows y x).1) rfl rfl ?_
      refine (om.ext x8).stC (by omega) (by rw [lm]; omega) _ fun h16 om16 b16 l16 => ?_
      rw [metL_set (by omega) (by omega)] at om16
      rw [so3] at b16
      have x16 := (xg'.trans x8).but_ b16 (some_le (by omega))
      have o16 := o8.but b16 (by intro e; have := Option.some.inj e; omega)
      refine slotK_in fun h17 x17 l17 => ?_
      have l17' := x17.len
      have o17 := o16.ext x17
      have x0_17 := x16.trans x17
      obtain ⟨t, ht⟩ : ∃ t, ts[(plcA rows y x).1.toNat]? = some t := ⟨_, List.getElem?_eq_getElem (by omega)⟩
      refine ⟨rfl, ?_⟩
      refine o17.ldI (n := 2) (i := 0) (m := (plcA rows y x).1) rfl rfl ?_
      refine rt.ixO (by omega) (by omega) fun p19 po19 r19 => ?_
      rw [tcs_at _ _ _ ht] at r19
      obtain ⟨k19, xs19, e19, c19, _, _⟩ := range_some r19
      have k19lt := cells_lt c19
      have r19_17 := x0_17.range r19
      refine ⟨tc t, r19_17, ?_⟩
      refine (turns_c t _).to ?_
      rintro s22 h21 ⟨ow22, fr22, x21⟩
      have l21 := x21.len
      have o21 := o17.ext x21
      refine ⟨rfl, ?_⟩
      refine o21.ldI (n := 2) (i := 1) (m := (plcA rows y x).2) rfl rfl ?_
      refine ⟨(o17.cellE rfl).trans (o21.cellE rfl).symm, ?_⟩
      have l22 := ow22.rd.tlen
      rw [turnsN_len] at l22
      refine ow22.rd.ixO (by omega) (by omega) fun p24 po24 r24 => ?_
      rw [tcs_at _ _ _ (turnsN4_at t (k := (plcA rows y x).2.toNat) (by omega))] at r24
      have ht' : turnN (plcA rows y x).2.toNat t = plT ts (plcA rows y x) := by
        unfold plT
        rw [List.getD_eq_getElem?_getD, ht]; rfl
      rw [ht'] at r24
      refine ⟨_, r24, ?_⟩
      refine newOat_obj (by omega) fun h27 o27 b27 l27 => ?_
      have ne19 : some (h16.length + 10) ≠ p19.o := by rw [e19]; intro e; have := Option.some.inj e; have := x16.len; omega
      have ne24 : some (h16.length + 10) ≠ p24.o := fun e => by have := fr22 _ (po24 ▸ e.symm); omega
      have lg8 := x8.len
      have o27' := o21.but b27 (by intro e; have := Option.some.inj e; omega)
      refine ⟨(x21.range r19_17).trans r19_17.symm, (o21.cellE rfl).trans (o17.cellE rfl).symm, (b27.range r24 ne24).trans r24.symm, (o27'.cellE rfl).trans (o21.cellE rfl).symm, (b27.range (x21.range r19_17) ne19).trans r19_17.symm, (o27'.cellE rfl).trans (o17.cellE rfl).symm, ?_⟩
      refine o27.stA fun h28 o28 b28 l28 => ?_
      have x28' : Ext h16 h28 := ((x17.trans x21).but_ b27 (some_le (by omega))).but_ b28 (some_le (by omega))
      have x28 := x16.trans x28'
      have orow28 := ((orow.ext x8).but b16 (.inl (by rw [so6]; intro e; have := Option.some.inj e; omega))).ext x28'
      have om28 := om16.ext x28'
      have bg28 := ((bg.trans (x8.but _)).trans b16).trans (x28'.but _)
      have l28' := x28'.len
      have nt28 := nt.but bg28 (by rw [sto]; intro e; have := Option.some.inj e; omega) (by omega)
      have hlr : ∀ i, i < W_ → (rowT ts rows W_ (y - 1))[i]? = some (plT ts (plcA rows (y - 1) i)) := fun i hi => rowT_at hi
      have hll : 0 < (x : Int) → (rowT ts rows x y)[((x : Int) - 1).toNat]? = some (plT ts (plcA rows y (x - 1))) := fun hx0 => by
        rw [show ((x : Int) - 1).toNat = x - 1 by omega]; exact rowT_at (by omega)
      have hlx : (rowT ts rows x y).length = x := by unfold rowT; rw [List.length_map, List.length_range]
      have ft := fit_two (lf := plT ts (plcA rows y (x - 1))) (ab := plT ts (plcA rows (y - 1) x)) (a := plT ts (plcA rows y x)) (b := b) hx' hy'
      have noF : fitP ts b rows rows.length W_ y x = false → ∀ h', Ext h28 h' → (∃ w, AVal.tuple [.sl Sl.nil, .bool false] = .tuple [.sl w, .bool (all2 rows.length W_ fun y x => goodB ts.length rows y x && fitP ts b rows rows.length W_ y x)]) ∧ Ext h0 h' := fun e h' x' => no (by rw [e, Bool.and_false]) _ (x28.trans x')
      have push : ∀ g3, Ext h28 g3 → fitP ts b rows rows.length W_ y x = true → newS 1 4 (tc (plT ts (plcA rows y x))) g3 fun u1 g4 => app sr u1 4 g4 fun s' g5 => Y (impl_placed_e2 u b s st sm y v s' s rows.length y v v.len (w64 (x + 1))) g5 := fun g3 x3 ef => by
        have l3 := x3.len
        refine pushT (orow28.ext x3) (by rw [hlx]; unfold lim; omega) fun s' g5 o5 b5 k5 => ?_
        rw [so6] at b5
        rw [w64_of (by omega) (by omega)]
        have bg5 := (bg28.trans (x3.but _)).past b5 (Nat.le_refl _)
        have b5l := b5.1
        refine hY _ _ _ ⟨x + 1, by push_cast; rfl, by omega, by rw [rowT_succ]; exact o5, k5 _ so6, bg5, (om28.ext x3).but b5 (.inl (by rw [so3]; intro e; have := Option.some.inj e; omega)), fun x' h1 => ?_, (x28.trans x3).but_ b5 (some_le (by omega)), by omega⟩ (by omega)
        rcases Nat.lt_or_ge x' x with h3 | h3
        · exact hq x' h3
        · rw [show x' = x by omega, good, ef]; rfl
      refine bif_dec (fun qy => ?_) (fun qy => ?_)
      · rw [w64_of (by omega) (by omega), show (y : Int) - 1 = ((y - 1 : Nat) : Int) by omega]
        refine nt28.rd.ld (by omega) (by rw [List.length_map, List.length_map, List.length_range]; omega) fun va la hla rva => ?_
        rw [Int.toNat_natCast, List.getElem?_map, List.getElem?_map, List.getElem?_range (by omega)] at hla
        rw [← Option.some.inj hla] at rva
        have va0 : va.o ≠ none := fun e => by
          have hl := rva.tlen
          unfold rowT at hl
          rw [List.length_map, List.length_range] at hl
          obtain h1 | ⟨_, h2, _⟩ := rva.at_
          · omega
          · rw [e] at h2; cases h2
        refine o28.ldA rfl ?_
        refine (joins_c (x := x) (up := rowT ts rows W_ (y - 1)) (fun e => absurd e va0) (fun _ => ⟨rva, by unfold rowT; rw [List.length_map, List.length_range]; omega⟩) orow28.rd (by omega) (by omega) (by omega) (ta := plT ts (plcA rows (y - 1) x)) (tl_ := plT ts (plcA rows y (x - 1))) (fun _ => by rw [Int.toNat_natCast]; exact hlr x hx') hll).to ?_
        rintro _ h32 ⟨rfl, x32⟩
        rw [show isNilS va = decide ((y : Int) = 0) by rw [decide_eq_false (by omega)]; unfold isNilS; cases e : va.o with
          | none => exact absurd e va0
          | some _ => rfl]
        refine bif_not (fun q4 => noF (by unfold fitP; rw [← ft, q4]; rfl) _ x32) (fun q4 => ?_)
        rw [q4, Bool.true_and] at ft
        refine (o28.ext x32).ldA rfl ?_
        refine (edges_c (w64_of (by omega) (by omega)) (w64_of (by omega) (by omega))).to ?_
        rintro _ h35 ⟨rfl, x35⟩
        rw [← hlen, ← lv] at ft
        refine bif_not (fun q5 => noF (by unfold fitP; rw [← hlen, ← lv, ← ft, q5]) _ (x32.trans x35)) (fun q5 => ?_)
        refine ((o28.ext x32).ext x35).ldA rfl ?_
        refine ⟨rfl, ?_⟩
        rw [tcs_spl]
        exact push _ (x32.trans x35) (by unfold fitP; rw [← hlen, ← lv, ← ft, q5])
      · refine o28.ldA rfl ?_
        refine (joins_c (x := x) (u := Sl.nil) (up := []) (fun e => rfl) (fun e => absurd rfl e) orow28.rd (by omega) (by omega) (by omega) (ta := plT ts (plcA rows (y - 1) x)) (tl_ := plT ts (plcA rows y (x - 1))) (fun e => absurd rfl e) hll).to ?_
        rintro _ h32 ⟨rfl, x32⟩
        rw [show isNilS Sl.nil = decide ((y : Int) = 0) by rw [decide_eq_true (by omega)]; rfl]
        refine bif_not (fun q4 => noF (by unfold fitP; rw [← ft, q4]; rfl) _ x32) (fun q4 => ?_)
        rw [q4, Bool.true_and] at ft
        refine (o28.ext x32).ldA rfl ?_
        refine (edges_c (w64_of (by omega) (by omega)) (w64_of (by omega) (by omega))).to ?_
        rintro _ h35 ⟨rfl, x35⟩
        rw [← hlen, ← lv] at ft
        refine bif_not (fun q5 => noF (by unfold fitP; rw [← hlen, ← lv, ← ft, q5]) _ (x32.trans x35)) (fun q5 => ?_)
        refine ((o28.ext x32).ext x35).ldA rfl ?_
        refine ⟨rfl, ?_⟩
        rw [tcs_spl]
        exact push _ (x32.trans x35) (by unfold fitP; rw [← hlen, ← lv, ← ft, q5])
    · have hxW : x = W_ := by omega
      subst hxW
      replace nt := nt.but bg (by rw [sto]; intro e; have := Option.some.inj e; omega) (by omega)
      refine nt.push sto (by omega) orow.rd (fun o e => by rw [so6] at e; cases e; exact lg) (by rw [List.length_map, List.length_range]; unfold lim; omega) fun s' g5 nt5 b5 so5' => ?_
      rw [w64_of (by omega) (by omega)]
      have xg5 := xg'.but_ b5 (some_le (by omega))
      have b5l := b5.1
      refine hX _ _ _ ⟨y + 1, by push_cast; rfl, by omega, ?_, so5', ?_, fun y' x' h1 h2 => ?_, xg5, by omega⟩ (by omega)
      · rw [List.range_succ, List.map_append]; exact nt5
      · have e : metL ts.length rows (y + 1) 0 = metL ts.length rows y x := by unfold metL; rw [befP_row hy', hWy]
        rw [e]
        exact om.but b5 (.inl (by rw [so3]; intro e; have := Option.some.inj e; omega))
      · rcases Nat.lt_or_ge y' y with h3 | h3
        · exact hp y' x' h3 h2
        · rw [show y' = y by omega]; exact hq x' h2
  · have hyH : y = rows.length := by omega
    exact ⟨⟨st, by rw [all2_iff.2 fun y' x' h1 h2 => hp y' x' (by omega) h2]⟩, xg⟩
end
end Go.Proofs.Ytekfmmcolgjdmaa.Cl

/- Steps of the laws. No claim is stated here. -/
set_option linter.unusedVariables false
set_option linter.unusedSimpArgs false
namespace Go.Proofs.Ytekfmmcolgjdmaa.Cl
open Go
theorem szTileS_k (s : Sl) (left : Int) (hl : s.len ≤ 9223372036854775807) (h1 : 0 ≤ left) (h2 : left ≤ 1048576) (h : H) : callI SP .i64 i_laws_szTileS [.sl s, i64 left] h fun n h' => Ext h h' ∧ (n < 0 ∨ (n = left - s.len ∧ 0 ≤ n)) := by
  refine (szTileS_c s left hl h1 h2 h).to ?_
  rintro _ _ ⟨rfl, rfl⟩
  refine ⟨Ext.refl _, ?_⟩
  by_cases hq : left - s.len < 0
  · rw [if_pos hq]; exact .inl (by omega)
  · rw [if_neg hq]; exact .inr ⟨rfl, by omega⟩
theorem bif_neb {x y : Bool} {a b : Prop} (h1 : x ≠ y → a) (h2 : x = y → b) : bif x != y then a else b := by
  by_cases hp : x = y
  · rw [show (x != y) = false by simp [hp]]; exact h2 hp
  · rw [show (x != y) = true by simp [hp]]; exact h1 hp
theorem eqS_yes {h0 : H} {s s' : Sl} {l : List Int} (r : Rd h0 s 1 (ic l)) (r' : Rd h0 s' 1 (ic l)) (hl : l.length < 4000000000000000000) {A : H → Prop} {B : H → Prop} (hk : B h0) : callB SP i_laws_eqInt64S [.sl s, .sl s'] h0 fun b h' => bif !b then A h' else B h' := by
  refine (eqInt64S_c r r' hl).to ?_
  rintro _ _ ⟨rfl, rfl⟩
  exact bif_not (fun hq => by simp at hq) fun _ => hk
theorem eqTiles_yes {h0 : H} {s s' : Sl} {ts : List Tile} (r : Rd h0 s 4 (tcs ts)) (r' : Rd h0 s' 4 (tcs ts)) (hl : ts.length < 4000000000000000000) {A : H → Prop} {B : H → Prop} (hk : ∀ h', Ext h0 h' → B h') : callB SP i_laws_eqTileS [.sl s, .sl s'] h0 fun b h' => bif !b then A h' else B h' := by
  refine (eqTileS_c r r' hl).to ?_
  rintro _ h' ⟨rfl, x⟩
  exact bif_not (fun hq => by simp at hq) fun _ => hk h' x
theorem heldS_yes {h0 : H} {s : Sl} (k0 : Int) (hk0 : 0 ≤ k0) (hk1 : k0 ≤ 1000000000) (r : Rd h0 s 1 (ic (upto k0 s.len))) (hl : s.len < 1000000000) {A : H → Prop} {B : Int → H → Prop} (hk : B (k0 + s.len) h0) :
    callI SP .i64 i_laws_heldInt64S [.sl s, i64 k0] h0 fun n h' => bif decide (n < 0) then A h' else B n h' := by
  refine (heldInt64S_c k0 hk0 (by omega) r (by omega)).to ?_
  rintro _ _ ⟨rfl, rfl⟩
  exact bif_dec (fun hq => by omega) fun _ => hk
theorem Obj.rangeE {h o cs} (x : Obj h o cs) {n : Nat} (hn : cs.length = n) : Cl.range h (some o) n 0 n = some cs := by
  have x' : h[o]? = some (.own cs) := x
  subst hn
  rw [range_of (xs := cs) (by unfold cells; simp [x']) (by simp)]
  simp
theorem Obj.stays {h h' o cs} (x : Obj h o cs) {n : Nat} (hn : cs.length = n) (e : Ext h h') : Cl.range h' (some o) n 0 n = Cl.range h (some o) n 0 n := by rw [e.range (x.rangeE hn), x.rangeE hn]
end Go.Proofs.Ytekfmmcolgjdmaa.Cl

/- The laws' helpers for rows of placed tiles; the program's answer whether rows are a board. No claim is stated here. -/
set_option linter.unusedVariables false
set_option linter.unusedSimpArgs false
namespace Go.Proofs.Ytekfmmcolgjdmaa.Cl
open Go
theorem pc_len (p : Plc) : (pc p).length = 2 := rfl
theorem pcs_cons (p : Plc) (l : List Plc) : pcs (p :: l) = pc p ++ pcs l := rfl
theorem pcs_set : ∀ (l : List Plc) (i : Nat) (t : Plc), i < l.length → splice (pcs l) (i * 2) (pc t) = pcs (l.set i t)
  | [], i, t, h => by simp at h
  | a :: l, 0, t, h => by
    unfold splice
    simp [pcs_cons, pc]
  | a :: l, i + 1, t, h => by
    have ih := pcs_set l i t (by simpa using h)
    rw [List.set_cons_succ, pcs_cons, pcs_cons, ← ih]
    unfold splice
    rw [show (i + 1) * 2 = (pc a).length + i * 2 by rw [pc_len]; omega, show (pc a).length + i * 2 + (pc t).length = (pc a).length + (i * 2 + (pc t).length) by omega]
    rw [List.take_length_add_append, List.drop_length_add_append]
    simp
theorem Rd.plen {h : H} {s : Sl} {ps : List Plc} (r : Rd h s 2 (pcs ps)) : s.len = ps.length := by
  have := r.len
  rw [pcs_len] at this
  omega
theorem Rd.ldPi {h : H} {s : Sl} {ps : List Plc} (r : Rd h s 2 (pcs ps)) {i : Int} (i0 : 0 ≤ i) (h1 : i < ps.length) {K : List AVal → Prop} (hk : ∀ p, ps[i.toNat]? = some p → K (pc p)) : ixS s 2 i fun p => Cl.ldA p 2 h K := by
  have hx := List.getElem?_eq_getElem (l := ps) (i := i.toNat) (by omega)
  have hl := r.plen
  refine r.ldA i0 (by omega) ?_
  rw [pcs_at ps _ _ hx]
  exact hk _ hx
theorem toPlaced_c (p : Plc) (h : H) : callA SP i_laws_toPlaced [.agg (pc p)] h fun v h' => v = pc p ∧ Ext h h' := by
  apply laws_toPlaced_call
  unfold laws_toPlaced_main
  refine newK_obj fun h1 o1 x1 n1 => ?_
  refine newO_obj fun h2 o2 x2 n2 => ?_
  refine newO_obj fun h3 o3 x3 n3 => ?_
  have x13 := x1.trans (x2.trans x3)
  refine isPt_in ?_
  refine (o1.ext (x2.trans x3)).ldI (i := 0) (m := p.1) rfl rfl (isPt_in ?_)
  refine o3.st1 (i := 0) rfl (by simp) _ fun h4 o4 b4 n4 => isPt_in ?_
  have x4 : Ext h1 h4 := (x2.trans x3).but_ b4 (some_le (by omega))
  refine (o1.ext x4).ldI (i := 1) (m := p.2) rfl rfl (isPt_in ?_)
  refine o4.st1 (i := 1) rfl (by simp) _ fun h5 o5 b5 n5 => ?_
  have x5 : Ext h1 h5 := x4.but_ b5 (some_le (by omega))
  refine o5.ldA rfl ?_
  have o2' := ((o2.ext x3).but b4 (fun e => by have := Option.some.inj e; omega)).but b5 (fun e => by have := Option.some.inj e; omega)
  refine o2'.stA fun h6 o6 b6 n6 => ?_
  refine o6.ldA rfl ⟨_, rfl, rfl, ?_⟩
  exact (x1.trans x5).but_ b6 (some_le (by omega))
theorem toPlacedS_c {h0 : H} {s : Sl} {ts : List Plc} (r : Rd h0 s 2 (pcs ts)) (hl : ts.length ≤ 1048576) : callS SP i_laws_toPlacedS [.sl s] h0 fun s' h' => Ow h' s' 2 (pcs ts) ∧ Fr h0.length s' ∧ Ext h0 h' := by
  have hlen : s.len = ts.length := r.plen
  apply laws_toPlacedS_call
  unfold laws_toPlacedS_main
  refine mkS_ow (by omega) (by unfold lim; omega) fun s' h1 ho hlen' hso he => ?_
  have hz : (List.replicate (s.len : Int).toNat [AVal.int .i64 0, .int .i64 0]).flatten = pcs (List.replicate ts.length ((0, 0) : Plc)) := by
    unfold pcs
    rw [List.map_replicate, ← hlen]; rfl
  rw [hz] at ho
  refine laws_toPlacedS_rule0 _ _ s s' (fun i h' => 0 ≤ i ∧ i ≤ ts.length ∧ Ext h0 h' ∧ ∃ l : List Plc, l.length = ts.length ∧ Ow h' s' 2 (pcs l) ∧ ∀ j, j < i.toNat → l[j]? = ts[j]?) (fun i _ => (ts.length - i).toNat) ?_ _ ⟨by omega, by omega, by rw [he]; exact Ext.app _ _, _, by simp, ho, fun j hj => by omega⟩
  rintro X i h' ⟨i0, i1, x, l, ll, ol, hj⟩ hX
  unfold laws_toPlacedS_b0 laws_toPlacedS_C0
  have hsl : s'.len = ts.length := by rw [hlen', ← hlen]; omega
  refine bif_dec (fun hi => ?_) (fun hi => ?_)
  · refine (r.ext x).ldPi i0 (by omega) fun t ht => ?_
    refine (toPlaced_c t h').to ?_
    rintro _ h2 ⟨rfl, x2⟩
    refine (ol.ext x2).stA i0 (by omega) _ rfl fun h3 o3 b3 n3 => ?_
    rw [w64_of (by omega) (by omega)]
    rw [pcs_set l i.toNat t (by omega)] at o3
    refine hX _ _ ⟨by omega, by omega, (x.trans x2).but_ b3 (by rw [hso]; exact some_le (Nat.le_refl _)), _, by simpa using ll, o3, fun j hj2 => ?_⟩ (by omega)
    rw [List.getElem?_set]
    split
    · next e => subst e; rw [if_pos (by omega), ht]
    · exact hj j (by omega)
  · refine ⟨_, rfl, ?_, fun o e => by rw [hso] at e; cases e; exact Nat.le_refl _, x⟩
    have : l = ts := by
      apply List.ext_getElem?
      intro j
      by_cases h : j < ts.length
      · exact hj j (by omega)
      · rw [List.getElem?_eq_none (by omega), List.getElem?_eq_none (by omega)]
    rw [← this]; exact ol
/-- A new table of rows of placed tiles: its rows lie behind n. -/
def NewPP (n : Nat) (h : H) (s : Sl) (rows : List (List Plc)) : Prop :=
  ∃ vs : List Sl, vs.length = rows.length ∧ Ow h s 1 (vs.map .sl) ∧ Fr n s ∧ ∀ (i : Nat) v l, vs[i]? = some v → rows[i]? = some l → Ow h v 2 (pcs l) ∧ Fr (n + 1) v
theorem NewPP.rd {n : Nat} {h : H} {s : Sl} {rows : List (List Plc)} (r : NewPP n h s rows) : RdR h s 2 (rows.map pcs) := by
  obtain ⟨vs, a, c, f, d⟩ := r
  refine ⟨vs, by rw [List.length_map, a], c.rd, fun i v l e g => ?_⟩
  rw [List.getElem?_map] at g
  cases hq : rows[i]? with
  | none => rw [hq] at g; cases g
  | some t => rw [hq] at g; cases g; exact (d i v t e hq).1.rd
theorem RdR.ldP {h : H} {s : Sl} {rows : List (List Plc)} (r : RdR h s 2 (rows.map pcs)) {i : Int} (i0 : 0 ≤ i) (i1 : i < rows.length) {K : Sl → Prop} (hk : ∀ v l, rows[i.toNat]? = some l → Rd h v 2 (pcs l) → K v) : ixS s 1 i fun p => Cl.ldS p h K := by
  refine r.ld i0 (by rw [List.length_map]; omega) fun v l hl rv => ?_
  rw [List.getElem?_map] at hl
  cases hq : rows[i.toNat]? with
  | none => rw [hq] at hl; cases hl
  | some t => rw [hq] at hl; cases hl; exact hk v t hq rv
theorem toPlacedSS_c {h0 : H} {s : Sl} {ls : List (List Plc)} (r : RdR h0 s 2 (ls.map pcs)) (hl : ls.length ≤ 1048576) (hls : ∀ l ∈ ls, l.length ≤ 1048576) : callS SP i_laws_toPlacedSS [.sl s] h0 fun s' h' => NewPP h0.length h' s' ls ∧ Ext h0 h' := by
  have hlen := r.len
  rw [List.length_map] at hlen
  apply laws_toPlacedSS_call
  unfold laws_toPlacedSS_main
  refine mkS_ow (by omega) (by unfold lim; omega) fun s' h1 ho hlen' hso he => ?_
  have hz : (List.replicate (s.len : Int).toNat [AVal.sl Sl.nil]).flatten = (List.replicate ls.length Sl.nil).map .sl := by
    rw [List.map_replicate, ← hlen]; simp
  rw [hz] at ho
  have hsl : s'.len = ls.length := by rw [hlen', ← hlen]; omega
  have h1l : h1.length = h0.length + 1 := by rw [he]; simp
  refine laws_toPlacedSS_rule0 _ _ s s' (fun i h' => 0 ≤ i ∧ i ≤ ls.length ∧ Ext h0 h' ∧ h0.length + 1 ≤ h'.length ∧ ∃ vs : List Sl, vs.length = ls.length ∧ Ow h' s' 1 (vs.map .sl) ∧ (∀ (j : Nat) v l, j < i.toNat → vs[j]? = some v → ls[j]? = some l → Ow h' v 2 (pcs l) ∧ Fr (h0.length + 1) v)) (fun i _ => (ls.length - i).toNat) ?_ _ ⟨by omega, by omega, by rw [he]; exact Ext.app _ _, by omega, _, by simp, ho, fun j v l hj => by omega⟩
  rintro X i h' ⟨i0, i1, x, hh, vs, ll, ol, hj⟩ hX
  unfold laws_toPlacedSS_b0 laws_toPlacedSS_C0
  refine bif_dec (fun hi => ?_) (fun hi => ?_)
  · refine (r.ext x).ldP i0 (by omega) fun v l hv rv => ?_
    refine (toPlacedS_c rv (hls l (List.mem_of_getElem? hv))).to ?_
    rintro w h2 ⟨ow, fw, x2⟩
    refine (ol.ext x2).stC i0 (by omega) _ fun h3 o3 b3 n3 => ?_
    rw [w64_of (by omega) (by omega)]
    have hset : (vs.map AVal.sl).set i.toNat (.sl w) = (vs.set i.toNat w).map .sl := by rw [List.map_set]
    rw [hset] at o3
    have hx2 := x2.len
    refine hX _ _ ⟨by omega, by omega, (x.trans x2).but_ b3 (by rw [hso]; exact some_le (Nat.le_refl _)), by omega, _, by simpa using ll, o3, fun j u l' hj2 hu hl' => ?_⟩ (by omega)
    rw [List.getElem?_set] at hu
    split at hu
    · next e =>
      subst e
      rw [if_pos (by omega)] at hu
      cases hu
      rw [hv] at hl'; cases hl'
      exact ⟨ow.but b3 (.inl (by rw [hso]; intro e; have := fw _ e.symm; omega)), fw.le hh⟩
    · obtain ⟨k1, k2⟩ := hj j u l' (by omega) hu hl'
      exact ⟨(k1.ext x2).but b3 (.inl (by rw [hso]; intro e; have := k2 _ e.symm; omega)), k2⟩
  · refine ⟨_, rfl, ⟨vs, ll, ol, fun o e => by rw [hso] at e; cases e; exact Nat.le_refl _, fun j v l e f => hj j v l (by have := (List.getElem?_eq_some_iff.1 f).1; omega) e f⟩, x⟩
theorem szPlacedS_c (s : Sl) (left : Int) (hl : s.len ≤ 9223372036854775807) (h1 : 0 ≤ left) (h2 : left ≤ 1048576) (h : H) : callI SP .i64 i_laws_szPlacedS [.sl s, i64 left] h fun n h' => n = (if left - s.len < 0 then -1 else left - s.len) ∧ h' = h := by
  apply laws_szPlacedS_call
  unfold laws_szPlacedS_main
  rw [w64_of (by omega) (by omega)]
  refine bif_dec (fun hi => ⟨_, rfl, by simp [hi], rfl⟩) (fun hi => ⟨_, rfl, by simp [hi], rfl⟩)
theorem szPlacedSS_k {h0 : H} {s : Sl} {ls : List (List Plc)} (r : RdR h0 s 2 (ls.map pcs)) (left : Int) (h1 : 0 ≤ left) (h2 : left ≤ 1048576) (hl : s.len ≤ 9223372036854775807) (hls : ∀ l ∈ ls, l.length ≤ 9223372036854775807) :
    callI SP .i64 i_laws_szPlacedSS [.sl s, i64 left] h0 fun n h' => Ext h0 h' ∧ (n < 0 ∨ (ls.length ≤ 1048576 ∧ (∀ l ∈ ls, l.length ≤ 1048576) ∧ 0 ≤ n ∧ n ≤ 1048576)) := by
  have hlen := r.len
  rw [List.length_map] at hlen
  apply laws_szPlacedSS_call
  unfold laws_szPlacedSS_main
  rw [w64_of (by omega) (by omega)]
  refine bif_dec (fun hi => ⟨_, rfl, Ext.refl _, .inl (by omega)⟩) (fun hi => ?_)
  refine laws_szPlacedSS_rule0 _ _ _ (fun k i h => h = h0 ∧ 0 ≤ i ∧ i ≤ ls.length ∧ (∀ (j : Nat) l, j < i.toNat → ls[j]? = some l → l.length ≤ 1048576) ∧ 0 ≤ k ∧ k ≤ 1048576) (fun k i _ => (ls.length - i).toNat) ?_ _ _ ⟨rfl, by omega, by omega, fun j l h => by omega, by omega, by omega⟩
  rintro X k i _ ⟨rfl, i0, i1, hk, k0, k1⟩ hX
  unfold laws_szPlacedSS_b0 laws_szPlacedSS_C0
  refine bif_dec (fun hi => ?_) (fun hi => ?_)
  · refine r.ldP i0 (by omega) fun v l hv rv => ?_
    have := hls l (List.mem_of_getElem? hv)
    have lv := rv.plen
    refine (szPlacedS_c v k (by omega) k0 (by omega) _).to ?_
    rintro _ _ ⟨rfl, rfl⟩
    refine bif_dec (fun hq => ⟨_, rfl, Ext.refl _, .inl (by omega)⟩) (fun hq => ?_)
    have hq' : ¬ k - v.len < 0 := by
      by_cases hc : k - v.len < 0
      · rw [if_pos hc] at hq; omega
      · exact hc
    rw [if_neg hq', w64_of (by omega) (by omega)]
    refine hX _ _ _ ⟨rfl, by omega, by omega, fun j l' hj hl' => ?_, by omega, by omega⟩ (by omega)
    by_cases hji : j = i.toNat
    · subst hji; rw [hv] at hl'; cases hl'; omega
    · exact hk j l' (by omega) hl'
  · refine ⟨_, rfl, Ext.refl _, .inr ⟨by omega, fun l hm => ?_, k0, k1⟩⟩
    obtain ⟨j, hj, rfl⟩ := List.getElem_of_mem hm
    exact hk j _ (by omega) (List.getElem?_eq_getElem hj)
theorem eqPlaced_c (p : Plc) (h : H) : callB SP i_laws_eqPlaced [.agg (pc p), .agg (pc p)] h fun b h' => b = true ∧ Ext h h' := by
  apply laws_eqPlaced_call
  unfold laws_eqPlaced_main
  refine newK_obj fun h1 o1 x1 n1 => ?_
  refine newK_obj fun h2 o2 x2 n2 => ?_
  have x := x1.trans x2
  refine isPt_in ((o1.ext x2).ldI (i := 0) (m := p.1) rfl rfl (isPt_in (o2.ldI (i := 0) (m := p.1) rfl rfl ?_)))
  refine bif_ne (fun hq => absurd rfl hq) (fun _ => ?_)
  refine isPt_in ((o1.ext x2).ldI (i := 1) (m := p.2) rfl rfl (isPt_in (o2.ldI (i := 1) (m := p.2) rfl rfl ?_)))
  exact bif_ne (fun hq => absurd rfl hq) (fun _ => ⟨_, rfl, rfl, x⟩)
theorem eqPlacedS_c {h0 : H} {s s' : Sl} {l : List Plc} (r : Rd h0 s 2 (pcs l)) (r' : Rd h0 s' 2 (pcs l)) (hl : l.length < 4000000000000000000) : callB SP i_laws_eqPlacedS [.sl s, .sl s'] h0 fun b h' => b = true ∧ Ext h0 h' := by
  have hlen := r.plen
  have hlen' := r'.plen
  apply laws_eqPlacedS_call
  unfold laws_eqPlacedS_main
  refine bif_ne (fun hq => absurd (by omega) hq) (fun hq => ?_)
  refine laws_eqPlacedS_rule0 _ _ _ _ (fun i h => 0 ≤ i ∧ i ≤ l.length ∧ Ext h0 h) (fun i _ => (l.length - i).toNat) ?_ _ ⟨by omega, by omega, Ext.refl _⟩
  rintro X i h ⟨i0, i1, hx⟩ hX
  unfold laws_eqPlacedS_b0 laws_eqPlacedS_C0
  refine bif_dec (fun hi => ?_) (fun hi => ?_)
  · refine (r.ext hx).ldPi i0 (by omega) fun p hp => (r'.ext hx).ldPi i0 (by omega) fun p' hp' => ?_
    rw [hp] at hp'; cases hp'
    refine (eqPlaced_c p h).to ?_
    rintro _ h' ⟨rfl, hx'⟩
    refine bif_not (fun hq => by cases hq) (fun _ => ?_)
    rw [w64_of (by omega) (by omega)]
    exact hX _ _ ⟨by omega, by omega, hx.trans hx'⟩ (by omega)
  · exact ⟨_, rfl, rfl, hx⟩
theorem eqPlacedSS_c {h0 : H} {s s' : Sl} {ls : List (List Plc)} (r : RdR h0 s 2 (ls.map pcs)) (r' : RdR h0 s' 2 (ls.map pcs)) (hl : ls.length < 4000000000000000000) (hls : ∀ l ∈ ls, l.length < 4000000000000000000) : callB SP i_laws_eqPlacedSS [.sl s, .sl s'] h0 fun b h' => b = true ∧ Ext h0 h' := by
  have hlen := r.len
  have hlen' := r'.len
  rw [List.length_map] at hlen hlen'
  apply laws_eqPlacedSS_call
  unfold laws_eqPlacedSS_main
  refine bif_ne (fun hq => absurd (by omega) hq) (fun hq => ?_)
  refine laws_eqPlacedSS_rule0 _ _ _ _ (fun i h => 0 ≤ i ∧ i ≤ ls.length ∧ Ext h0 h) (fun i _ => (ls.length - i).toNat) ?_ _ ⟨by omega, by omega, Ext.refl _⟩
  rintro X i h ⟨i0, i1, hx⟩ hX
  unfold laws_eqPlacedSS_b0 laws_eqPlacedSS_C0
  refine bif_dec (fun hi => ?_) (fun hi => ?_)
  · refine (r.ext hx).ldP i0 (by omega) fun v l hv rv => (r'.ext hx).ldP i0 (by omega) fun v' l' hv' rv' => ?_
    rw [hv] at hv'; cases hv'
    refine (eqPlacedS_c rv rv' (hls l (List.mem_of_getElem? hv))).to ?_
    rintro _ h' ⟨rfl, hx'⟩
    refine bif_not (fun hq => by cases hq) (fun _ => ?_)
    rw [w64_of (by omega) (by omega)]
    exact hX _ _ ⟨by omega, by omega, hx.trans hx'⟩ (by omega)
  · exact ⟨_, rfl, rfl, hx⟩
section
variable {h0 : H} {u s : Sl} {ts : List Tile} {rows : List (List Plc)} {b : Int}
theorem impl_IsBoard_c (rt : Rd h0 u 4 (tcs ts)) (hts : ts.length ≤ 1048576) (bb : i64ok b) (r : RdR h0 s 2 (rows.map pcs)) (hH2 : rows.length ≤ 1048576) (hW2 : ∀ l ∈ rows, l.length ≤ 1048576) :
    callV SP i_impl_IsBoard [.sl u, i64 b, .sl s] h0 fun v h' => v = .tuple [.bool (F_IsBoard_0 ts b rows), i64 (F_IsBoard_1 ts b rows)] ∧ Ext h0 h' := by
  apply impl_IsBoard_call
  unfold impl_IsBoard_main
  refine (isBoardOf_c (b := b) rt hts).to ?_
  rintro _ h1 ⟨rfl, x1⟩
  unfold F_IsBoard_0 F_IsBoard_1
  refine bif_not (fun q => ?_) (fun q => ?_)
  · have hn : askB ts b rows = false := by unfold askB; rw [q, Bool.and_false]
    rw [hn]; exact ⟨rfl, x1⟩
  · refine (areRows_c (r.ext x1) (by rw [List.length_map]; omega)).to ?_
    rintro _ h2 ⟨rfl, x2⟩
    refine bif_not (fun q2 => ?_) (fun q2 => ?_)
    · have hn : askB ts b rows = false := by unfold askB; rw [q2, Bool.false_and]
      rw [hn]; exact ⟨rfl, x1.trans x2⟩
    · have hy : askB ts b rows = true := by unfold askB; rw [q2, q]; rfl
      obtain ⟨k1, k2, k3, k4, k5⟩ := askB_ok hy
      have hw2 : (rowP rows 0).length ≤ 1048576 := by
        refine hW2 _ ?_
        unfold rowP
        rw [List.getD_eq_getElem?_getD, List.getElem?_eq_getElem k1]
        exact List.getElem_mem _
      have x12 := x1.trans x2
      refine (placed_c (b := b) (W_ := (rowP rows 0).length) (rt.ext x12) k5 (r.ext x12) k1 hH2 k3 k2 hw2).to ?_
      rintro _ h3 ⟨⟨w, rfl⟩, x3⟩
      refine ⟨_, rfl, w, rfl, _, rfl, _, rfl, ?_⟩
      rw [hy, boardB_one]
      exact ⟨rfl, x12.trans x3⟩
end
end Go.Proofs.Ytekfmmcolgjdmaa.Cl

/- Boards, plain: the lists of placed tiles that go on from a list, in order. No claim is stated here. -/
set_option linter.unusedVariables false
set_option linter.unusedSimpArgs false
namespace Go.Proofs.Ytekfmmcolgjdmaa.Cl
open Go
/-- Placed tiles: which, and how often turned. -/
abbrev Pls := List (Nat × Nat)
def plN (q : Nat × Nat) : Plc := ((q.1 : Int), (q.2 : Int))
def tq (ts : List Tile) (q : Nat × Nat) : Tile := turnN q.2 (ts.getD q.1 (0, 0, 0, 0))
def tp (ts : List Tile) (pl : Pls) (j : Nat) : Tile := tq ts (pl.getD j (0, 0))
def yN (W p : Nat) : Nat := p / W
def xN (W p : Nat) : Nat := p % W
/-- Does a tile fit at the next place? -/
def fitC (ts : List Tile) (b : Int) (H W : Nat) (pl : Pls) (q : Nat × Nat) : Bool :=
  fitsB (tp ts pl (pl.length - 1)) (tp ts pl (pl.length - W)) b ((yN W pl.length : Nat) : Int) ((xN W pl.length : Nat) : Int) (H : Int) (W : Int) (tq ts q)
def usedN (pl : Pls) (i : Nat) : Bool := (pl.map (·.1)).contains i
def pkK {β : Type} (F : Nat × Nat → List β) (i k : Nat) : List β := (List.range k).flatMap fun k' => F (i, k')
def pkI {β : Type} (F : Nat × Nat → List β) (u : Nat → Bool) (i : Nat) : List β := (List.range i).flatMap fun i' => if u i' then [] else pkK F i' 4
theorem pkK_zero {β : Type} (F : Nat × Nat → List β) (i : Nat) : pkK F i 0 = [] := rfl
theorem pkK_succ {β : Type} (F : Nat × Nat → List β) (i k : Nat) : pkK F i (k + 1) = pkK F i k ++ F (i, k) := by
  unfold pkK; rw [List.range_succ, List.flatMap_append]; simp
theorem pkI_zero {β : Type} (F : Nat × Nat → List β) (u : Nat → Bool) : pkI F u 0 = [] := rfl
theorem pkI_succ {β : Type} (F : Nat × Nat → List β) (u : Nat → Bool) (i : Nat) : pkI F u (i + 1) = pkI F u i ++ if u i then [] else pkK F i 4 := by
  unfold pkI; rw [List.range_succ, List.flatMap_append]; simp
/-- All boards that go on from placed tiles; m places are free. -/
def boardsL (ts : List Tile) (b : Int) (H W : Nat) : Nat → Pls → List Pls
  | 0, pl => [pl]
  | m + 1, pl => pkI (fun q => if fitC ts b H W pl q then boardsL ts b H W m (pl ++ [q]) else []) (usedN pl) ts.length
/-- What a visitor does, until it says stop. -/
def runV {α : Type} (step : α → Pls → α × Bool) : α → List Pls → α × Bool
  | a, [] => (a, true)
  | a, l :: ls => if (step a l).2 then runV step (step a l).1 ls else ((step a l).1, false)
theorem runV_cons {α : Type} (step : α → Pls → α × Bool) (a : α) (x : Pls) (l : List Pls) : runV step a (x :: l) = if (step a x).2 then runV step (step a x).1 l else ((step a x).1, false) := rfl
theorem runV_app {α : Type} (step : α → Pls → α × Bool) : ∀ (l m : List Pls) (a : α), runV step a (l ++ m) = if (runV step a l).2 then runV step (runV step a l).1 m else ((runV step a l).1, false)
  | [], m, a => by simp [runV]
  | x :: l, m, a => by
    rw [List.cons_append, runV_cons, runV_cons]
    by_cases h : (step a x).2 = true
    · rw [if_pos h, if_pos h]; exact runV_app step l m _
    · rw [if_neg h, if_neg h]; simp
/-! ### rows -/
def rowC (ts : List Tile) (W : Nat) (pl : Pls) (y : Nat) : List Tile := ((pl.drop (y * W)).take W).map (tq ts)
theorem mul_div_le' (p W : Nat) : yN W p * W ≤ p := Nat.div_mul_le_self p W
theorem div_eq' (p W : Nat) : p = yN W p * W + xN W p := by rw [Nat.mul_comm]; exact (Nat.div_add_mod p W).symm
theorem xN_lt (p : Nat) {W : Nat} (h : 0 < W) : xN W p < W := Nat.mod_lt p h
section
variable {ts : List Tile} {W : Nat} {pl : Pls}
theorem rowC_snoc (hW : 0 < W) (q : Nat × Nat) : rowC ts W (pl ++ [q]) (yN W pl.length) = rowC ts W pl (yN W pl.length) ++ [tq ts q] := by
  have h1 := mul_div_le' pl.length W
  have h2 := div_eq' pl.length W
  have h3 := xN_lt pl.length hW
  unfold rowC
  rw [List.drop_append_of_le_length h1, List.take_of_length_le (by simp; omega), List.take_of_length_le (by simp; omega)]
  simp
theorem rowC_snoc_ne (hW : 0 < W) (q : Nat × Nat) {y : Nat} (hy : y ≠ yN W pl.length) : rowC ts W (pl ++ [q]) y = rowC ts W pl y := by
  have h2 := div_eq' pl.length W
  have h3 := xN_lt pl.length hW
  unfold rowC
  rcases Nat.lt_or_ge y (yN W pl.length) with h | h
  · have h4 : (y + 1) * W ≤ yN W pl.length * W := Nat.mul_le_mul_right _ h
    rw [Nat.add_mul] at h4
    rw [List.drop_append_of_le_length (by omega), List.take_append_of_le_length (by simp; omega)]
  · have h4 : (yN W pl.length + 1) * W ≤ y * W := Nat.mul_le_mul_right _ (by omega)
    rw [Nat.add_mul] at h4
    rw [List.drop_eq_nil_of_le (by simp; omega), List.drop_eq_nil_of_le (by omega)]
theorem rowC_len (hW : 0 < W) : (rowC ts W pl (yN W pl.length)).length = xN W pl.length := by
  have h2 := div_eq' pl.length W
  have h3 := xN_lt pl.length hW
  unfold rowC
  rw [List.length_map, List.length_take, List.length_drop]; omega
theorem rowC_at {y x : Nat} (hx : x < W) (h : y * W + x < pl.length) : (rowC ts W pl y)[x]? = some (tp ts pl (y * W + x)) := by
  unfold rowC
  rw [List.getElem?_map, List.getElem?_take, if_pos hx, List.getElem?_drop, List.getElem?_eq_getElem h]
  unfold tp
  rw [List.getD_eq_getElem?_getD, List.getElem?_eq_getElem h]; rfl
theorem rowC_above (hW : 0 < W) (hy : 0 < yN W pl.length) : (rowC ts W pl (yN W pl.length - 1))[xN W pl.length]? = some (tp ts pl (pl.length - W)) := by
  have h2 := div_eq' pl.length W
  have h3 := xN_lt pl.length hW
  have h4 : (yN W pl.length - 1) * W + W = yN W pl.length * W := by
    obtain ⟨z, hz⟩ : ∃ z, yN W pl.length = z + 1 := ⟨yN W pl.length - 1, by omega⟩
    rw [hz, Nat.add_sub_cancel, Nat.add_mul, Nat.one_mul]
  rw [rowC_at h3 (by omega)]
  rw [show (yN W pl.length - 1) * W + xN W pl.length = pl.length - W by omega]
theorem rowC_full {y : Nat} (h : (y + 1) * W ≤ pl.length) : (rowC ts W pl y).length = W := by
  rw [Nat.add_mul] at h
  unfold rowC
  rw [List.length_map, List.length_take, List.length_drop]; omega
theorem rowC_left (hW : 0 < W) (hx : 0 < xN W pl.length) : (rowC ts W pl (yN W pl.length))[xN W pl.length - 1]? = some (tp ts pl (pl.length - 1)) := by
  have h2 := div_eq' pl.length W
  have h3 := xN_lt pl.length hW
  rw [rowC_at (by omega) (by omega)]
  rw [show yN W pl.length * W + (xN W pl.length - 1) = pl.length - 1 by omega]
theorem tp_snoc {q : Nat × Nat} {j : Nat} (h : j < pl.length) : tp ts (pl ++ [q]) j = tp ts pl j := by
  unfold tp
  rw [List.getD_eq_getElem?_getD, List.getD_eq_getElem?_getD, List.getElem?_append_left h]
theorem tp_snoc_last {q : Nat × Nat} : tp ts (pl ++ [q]) pl.length = tq ts q := by
  unfold tp
  rw [List.getD_eq_getElem?_getD, List.getElem?_append_right (Nat.le_refl _), Nat.sub_self]; rfl
theorem usedN_snoc (q : Nat × Nat) (i : Nat) : usedN (pl ++ [q]) i = (usedN pl i || i == q.1) := by
  unfold usedN
  rw [List.map_append, Bool.eq_iff_iff]
  simp [List.contains_iff_mem]
end
/-! ### bits -/
theorem bits_test : ∀ u, u < 64 → ∀ i, i < 6 → (bitsOp .and .i64 (shrI .i64 ((u : Nat) : Int) (IntKind.wrap .u64 ((i : Nat) : Int))) 1 == 1) = u.testBit i := by decide +kernel
theorem bits_or : ∀ u, u < 64 → ∀ i, i < 6 → bitsOp .or .i64 ((u : Nat) : Int) (shlI .i64 1 (IntKind.wrap .u64 ((i : Nat) : Int))) = ((u ||| 2 ^ i : Nat) : Int) := by decide +kernel
theorem bits_or_lt : ∀ u, u < 64 → ∀ i, i < 6 → u ||| 2 ^ i < 64 := by decide +kernel
theorem bits_or_at : ∀ u, u < 64 → ∀ i, i < 6 → ∀ j, j < 6 → (u ||| 2 ^ i).testBit j = (u.testBit j || j == i) := by decide +kernel
theorem wrap_u64 : ∀ i, i < 6 → 0 ≤ IntKind.wrap .u64 ((i : Nat) : Int) := by decide +kernel
theorem w64_add_w (a b : Int) : w64 (w64 a + b) = w64 (a + b) := by
  unfold w64 IntKind.wrap
  simp [IntKind.bits, IntKind.signed, Int.bmod_def] <;> omega
theorem w64_w64 (a : Int) : w64 (w64 a) = w64 a := by
  have := w64_add_w a 0
  rwa [Int.add_zero, Int.add_zero] at this
end Go.Proofs.Ytekfmmcolgjdmaa.Cl

/- The reference's number of boards: the walk. No claim is stated here. -/
set_option linter.unusedVariables false
set_option linter.unusedSimpArgs false
namespace Go.Proofs.Ytekfmmcolgjdmaa.Cl
open Go
/-! ### a table of rows of tiles: the views of its rows stay, what lies in them is changed -/
structure TabV (vs : List Sl) (h : H) (tt : List (List Tile)) : Prop where
  len : vs.length = tt.length
  row : ∀ (i : Nat) v l, vs[i]? = some v → tt[i]? = some l → Ow h v 4 (tcs l)
def OwnV (vs : List Sl) (i : Nat) : Prop := ∃ v ∈ vs, v.o = some i
def DistV (vs : List Sl) : Prop := ∀ (i j : Nat) v w, i ≠ j → vs[i]? = some v → vs[j]? = some w → ∀ o, v.o = some o → w.o ≠ some o
def AgrV (ts : List Tile) (W : Nat) (pl : Pls) (tt : List (List Tile)) : Prop := ∀ y x, x < W → y * W + x < pl.length → ∃ l, tt[y]? = some l ∧ l[x]? = some (tp ts pl (y * W + x))
def WidV (W : Nat) (tt : List (List Tile)) : Prop := ∀ (i : Nat) l, tt[i]? = some l → l.length = W
theorem TabV.chg {vs : List Sl} {h h' : H} {tt : List (List Tile)} {P : Nat → Prop} (t : TabV vs h tt) (c : Chg P h h') (hn : ∀ i, OwnV vs i → ¬ P i) : TabV vs h' tt :=
  ⟨t.len, fun i v l a e => (t.row i v l a e).chg c fun o eo => hn o ⟨v, List.mem_of_getElem? a, eo⟩⟩
theorem TabV.ext {vs : List Sl} {h h' : H} {tt : List (List Tile)} (t : TabV vs h tt) (c : Ext h h') : TabV vs h' tt := ⟨t.len, fun i v l a e => (t.row i v l a e).ext c⟩
theorem TabV.set {vs : List Sl} {h h' : H} {tt : List (List Tile)} (t : TabV vs h tt) (hd : DistV vs) {y : Nat} {v : Sl} {l : List Tile} (hv : vs[y]? = some v) (o : Ow h' v 4 (tcs l)) (b : But v.o h h') : TabV vs h' (tt.set y l) := by
  refine ⟨by rw [List.length_set]; exact t.len, fun i w m a e => ?_⟩
  rw [List.getElem?_set] at e
  split at e
  · next q =>
    subst q
    rw [hv] at a; cases a
    split at e
    · cases e; exact o
    · cases e
  · next q =>
    have r := t.row i w m a e
    refine r.but b ?_
    cases hw : w.o with
    | none =>
      cases hq : v.o with
      | none => exact .inr rfl
      | some _ => exact .inl (by simp)
    | some p => exact .inl fun e2 => hd i y w v (Ne.symm q) a hv p hw e2
theorem AgrV.snoc {ts : List Tile} {W : Nat} {pl : Pls} {tt : List (List Tile)} (hW : 0 < W) (a : AgrV ts W pl tt) (q : Nat × Nat) {l : List Tile} (hl : tt[yN W pl.length]? = some l) (hw : l.length = W) : AgrV ts W (pl ++ [q]) (tt.set (yN W pl.length) (l.set (xN W pl.length) (tq ts q))) := by
  intro y x hx hyx
  have h2 := div_eq' pl.length W
  have h3 := xN_lt pl.length hW
  have hyl := (List.getElem?_eq_some_iff.1 hl).1
  rw [List.length_append, List.length_singleton] at hyx
  rcases Nat.lt_or_ge (y * W + x) pl.length with h | h
  · obtain ⟨l', e1, e2⟩ := a y x hx h
    rw [tp_snoc h]
    by_cases hy : yN W pl.length = y
    · subst hy
      rw [hl] at e1; cases e1
      refine ⟨_, List.getElem?_set_self hyl, ?_⟩
      rw [List.getElem?_set_ne (by omega)]; exact e2
    · exact ⟨l', by rw [List.getElem?_set_ne hy]; exact e1, e2⟩
  · have e : y * W + x = pl.length := by omega
    have hy : y = yN W pl.length := by
      unfold yN; rw [← e, Nat.mul_comm, Nat.mul_add_div hW, Nat.div_eq_of_lt hx]; omega
    have hx2 : x = xN W pl.length := by
      rw [← hy] at h2; omega
    subst hy hx2
    refine ⟨_, List.getElem?_set_self hyl, ?_⟩
    rw [List.getElem?_set_self (by omega), e, tp_snoc_last]
theorem AgrV.less {ts : List Tile} {W : Nat} {pl : Pls} {tt : List (List Tile)} {q : Nat × Nat} (a : AgrV ts W (pl ++ [q]) tt) : AgrV ts W pl tt := by
  intro y x hx h
  obtain ⟨l, e1, e2⟩ := a y x hx (by simp; omega)
  exact ⟨l, e1, by rw [e2, tp_snoc h]⟩
theorem WidV.set {W : Nat} {tt : List (List Tile)} (w : WidV W tt) (y x : Nat) (t : Tile) {l : List Tile} (hl : tt[y]? = some l) : WidV W (tt.set y (l.set x t)) := by
  intro i m e
  rw [List.getElem?_set] at e
  split at e
  · split at e
    · cases e; rw [List.length_set]; exact w y l hl
    · cases e
  · exact w i m e
section
variable {u s : Sl} {ts : List Tile} {vs : List Sl} {b : Int} {H_ W : Nat}
/-- The reference's test at the next place. -/
theorem fitsV_c (hW : 0 < W) (hH6 : H_ ≤ 6) (hW6 : W ≤ 6) {pl : Pls} {q : Nat × Nat} {tt : List (List Tile)} {h : H} (hy : yN W pl.length < H_) (hvs : vs.length = H_) (rs : Rd h s 1 (vs.map .sl)) (t : TabV vs h tt) (w : WidV W tt) (a : AgrV ts W pl tt) :
    callB SP i_spec_l07Fits [.sl s, i64 b, i64 (yN W pl.length : Nat), i64 (xN W pl.length : Nat), i64 H_, i64 W, .agg (tc (tq ts q))] h fun r h' => r = fitC ts b H_ W pl q ∧ Ext h h' := by
  have h2 := div_eq' pl.length W
  have h3 := xN_lt pl.length hW
  have htl := t.len
  refine l07Fits_c (lf := tp ts pl (pl.length - 1)) (ab := tp ts pl (pl.length - W)) (w64_of (by omega) (by omega)) (w64_of (by omega) (by omega)) (fun hx h' x' K hK => ?_) (fun hy0 h' x' K hK => ?_)
  · refine (rs.ext x').ldS (by omega) (by omega) fun v hv => ?_
    rw [Int.toNat_natCast] at hv
    obtain ⟨l, e1, e2⟩ := a (yN W pl.length) (xN W pl.length - 1) (by omega) (by omega)
    have hw := w _ _ e1
    rw [w64_of (by omega) (by omega)]
    refine ((t.row _ _ _ hv e1).ext x').rd.ldTc (k := 2) (by omega) (by omega) (by omega) (n := (tp ts pl (pl.length - 1)).2.2.1) (fun t' ht => ?_) hK
    rw [show ((xN W pl.length : Nat) : Int) - 1 = ((xN W pl.length - 1 : Nat) : Int) by omega, Int.toNat_natCast, e2, show yN W pl.length * W + (xN W pl.length - 1) = pl.length - 1 by omega] at ht
    cases ht; rfl
  · rw [w64_of (by omega) (by omega)]
    refine (rs.ext x').ldS (by omega) (by omega) fun v hv => ?_
    rw [show ((yN W pl.length : Nat) : Int) - 1 = ((yN W pl.length - 1 : Nat) : Int) by omega, Int.toNat_natCast] at hv
    have h4 : (yN W pl.length - 1) * W + W = yN W pl.length * W := by
      obtain ⟨z, hz⟩ : ∃ z, yN W pl.length = z + 1 := ⟨yN W pl.length - 1, by omega⟩
      rw [hz, Nat.add_sub_cancel, Nat.add_mul, Nat.one_mul]
    obtain ⟨l, e1, e2⟩ := a (yN W pl.length - 1) (xN W pl.length) (by omega) (by omega)
    have hw := w _ _ e1
    refine ((t.row _ _ _ hv e1).ext x').rd.ldTc (k := 3) (by omega) (by omega) (by omega) (n := (tp ts pl (pl.length - W)).2.2.2) (fun t' ht => ?_) hK
    rw [Int.toNat_natCast, e2, show (yN W pl.length - 1) * W + xN W pl.length = pl.length - W by omega] at ht
    cases ht; rfl
theorem number_c (hW : 0 < W) (hH6 : H_ ≤ 6) (hW6 : W ≤ 6) (hts : ts.length ≤ 6) (hd : DistV vs) (hus : ∀ o, u.o = some o → ¬ OwnV vs o) (hss : ∀ o, s.o = some o → ¬ OwnV vs o) (hvs : vs.length = H_) :
    ∀ (m : Nat) (pl : Pls) (used : Nat) (tt : List (List Tile)) (h : H), pl.length + m = H_ * W → used < 64 → (∀ i, i < 6 → used.testBit i = usedN pl i) → Rd h u 4 (tcs ts) → Rd h s 1 (vs.map .sl) → TabV vs h tt → WidV W tt → AgrV ts W pl tt →
    callI SP .i64 i_spec_l07Number [.sl u, i64 b, i64 H_, i64 W, i64 pl.length, i64 used, .sl s] h fun n h' => n = w64 ((boardsL ts b H_ W m pl).length : Int) ∧ Chg (OwnV vs) h h' ∧ ∃ tt', TabV vs h' tt' ∧ WidV W tt' ∧ AgrV ts W pl tt' := by
  intro m
  have hHW : H_ * W ≤ 6 * 6 := Nat.mul_le_mul hH6 hW6
  induction m with
  | zero =>
    intro pl used tt h hpl hu6 hbits ru rs t w a
    apply spec_l07Number_call
    unfold spec_l07Number_main
    rw [show (H_ : Int) * W = ((H_ * W : Nat) : Int) by push_cast; rfl, w64_of (by omega) (by omega)]
    refine bif_eq (fun _ => ⟨_, rfl, rfl, Chg.refl _ _, tt, t, w, a⟩) (fun q => absurd (by omega) q)
  | succ m ih =>
    intro pl used tt h hpl hu6 hbits ru rs t w a
    have htl := ru.tlen
    apply spec_l07Number_call
    unfold spec_l07Number_main
    rw [show (H_ : Int) * W = ((H_ * W : Nat) : Int) by push_cast; rfl, w64_of (by omega) (by omega)]
    refine bif_eq (fun q => absurd q (by omega)) (fun _ => ⟨by omega, by omega, ?_⟩)
    have hy : yN W pl.length < H_ := by unfold yN; rw [Nat.div_lt_iff_lt_mul hW]; omega
    have h2 := div_eq' pl.length W
    have h3 := xN_lt pl.length hW
    rw [show Int.tdiv (pl.length : Int) (W : Int) = ((yN W pl.length : Nat) : Int) from rfl, show Int.tmod (pl.length : Int) (W : Int) = ((xN W pl.length : Nat) : Int) from rfl, w64_of (n := ((yN W pl.length : Nat) : Int)) (by omega) (by omega)]
    have hF : boardsL ts b H_ W (m + 1) pl = pkI (fun q => if fitC ts b H_ W pl q then boardsL ts b H_ W m (pl ++ [q]) else []) (usedN pl) ts.length := rfl
    rw [hF]
    generalize hFd : (fun q => if fitC ts b H_ W pl q then boardsL ts b H_ W m (pl ++ [q]) else []) = F
    refine spec_l07Number_rule0 _ _ _ _ _ _ _ _ _ _ _ (fun c i g => ∃ k : Nat, i = k ∧ k ≤ ts.length ∧ c = w64 ((pkI F (usedN pl) k).length : Int) ∧ Chg (OwnV vs) h g ∧ ∃ tt', TabV vs g tt' ∧ WidV W tt' ∧ AgrV ts W pl tt') (fun _ i _ => (ts.length - i).toNat) ?_ _ _
      ⟨0, rfl, by omega, rfl, Chg.refl _ _, tt, t, w, a⟩
    rintro X c _ g ⟨i, rfl, hi, rfl, cg, tt1, t1, w1, a1⟩ hX
    unfold spec_l07Number_b0 spec_l07Number_C0 spec_l07Number_C1
    refine bif_dec (fun hi2 => ?_) (fun hi2 => ?_)
    · have hi' : i < ts.length := by omega
      refine ⟨wrap_u64 i (by omega), ?_⟩
      rw [bits_test used hu6 i (by omega), hbits i (by omega)]
      refine bif_b (fun qu => ?_) (fun qu => ?_)
      · rw [w64_of (n := (i : Int) + 1) (by omega) (by omega)]
        exact hX _ _ _ ⟨i + 1, by push_cast; rfl, by omega, by rw [pkI_succ, if_pos qu, List.append_nil], cg, tt1, t1, w1, a1⟩ (by omega)
      · refine spec_l07Number_rule2 _ _ X _ _ _ _ _ _ _ _ _ _ (fun c j g => ∃ k : Nat, j = k ∧ k ≤ 4 ∧ c = w64 (((pkI F (usedN pl) i ++ pkK F i k).length : Nat) : Int) ∧ Chg (OwnV vs) h g ∧ ∃ tt', TabV vs g tt' ∧ WidV W tt' ∧ AgrV ts W pl tt') (fun _ j _ => (4 - j).toNat) ?_ _ _
          ⟨0, rfl, by omega, by rw [pkK_zero, List.append_nil], cg, tt1, t1, w1, a1⟩
        rintro Y c _ g' ⟨k, rfl, hk, rfl, cg', tt2, t2, w2, a2⟩ hY
        unfold spec_l07Number_b2 spec_l07Number_C2 spec_l07Number_C1
        refine bif_dec (fun hk2 => ?_) (fun hk2 => ?_)
        · have hk' : k < 4 := by omega
          have ru' := ru.chg cg' hus
          have rs' := rs.chg cg' hss
          refine ru'.ldT (by omega) (by omega) fun ta hta => ?_
          rw [Int.toNat_natCast] at hta
          refine (l07Turn_c ta k (by omega) (by omega) _).to ?_
          rintro _ g2 ⟨rfl, x2⟩
          rw [Int.toNat_natCast]
          have ht : turnN k ta = tq ts (i, k) := by
            unfold tq
            rw [List.getD_eq_getElem?_getD, hta]; rfl
          rw [ht]
          refine newO_obj fun g3 o3 x3 _ => ?_
          refine o3.stA fun g4 o4 b4 _ => ?_
          have x4 : Ext g' g4 := x2.trans (x3.but_ b4 (some_le (Nat.le_refl _)))
          refine o4.ldA rfl ?_
          refine (fitsV_c (b := b) hW hH6 hW6 hy hvs (rs'.ext x4) (t2.ext x4) w2 a2).to ?_
          rintro _ g5 ⟨rfl, x5⟩
          have x45 := x4.trans x5
          refine bif_not (fun qf => ?_) (fun qf => ?_)
          · rw [w64_of (n := (k : Int) + 1) (by omega) (by omega)]
            refine hY _ _ _ ⟨k + 1, by push_cast; rfl, by omega, ?_, cg'.trans (x45.chg _), tt2, t2.ext x45, w2, a2⟩ (by omega)
            have : F (i, k) = [] := by rw [← hFd]; show (if fitC ts b H_ W pl (i, k) = true then _ else _) = _; rw [qf]; rfl
            rw [pkK_succ, this, List.append_nil]
          · have hFq : F (i, k) = boardsL ts b H_ W m (pl ++ [(i, k)]) := by rw [← hFd]; show (if fitC ts b H_ W pl (i, k) = true then _ else _) = _; rw [qf]; rfl
            refine (rs'.ext x45).ldS (by omega) (by omega) fun v hv => ?_
            rw [Int.toNat_natCast] at hv
            obtain ⟨l, hl⟩ := mem_idx t2.len hv
            have hlw := w2 _ _ hl
            refine (o4.ext x5).ldA rfl ?_
            have ov := (t2.row _ _ _ hv hl).ext x45
            have hvl := ov.rd.tlen
            refine ov.stA (by omega) (by omega) _ rfl fun g6 o6 b6 _ => ?_
            rw [Int.toNat_natCast, tcs_set l _ _ (by omega)] at o6
            have c6 : Chg (OwnV vs) h g6 := (cg'.trans (x45.chg _)).trans (b6.chg fun j e => ⟨v, List.mem_of_getElem? hv, e⟩)
            refine ⟨wrap_u64 i (by omega), ?_⟩
            rw [bits_or used hu6 i (by omega), w64_of (n := (pl.length : Int) + 1) (by omega) (by omega), show (pl.length : Int) + 1 = (((pl ++ [(i, k)]).length : Nat) : Int) by simp]
            refine (ih (pl ++ [(i, k)]) (used ||| 2 ^ i) _ g6 (by simp; omega) (bits_or_lt used hu6 i (by omega)) (fun j hj => by rw [bits_or_at used hu6 i (by omega) j hj, hbits j hj, usedN_snoc]) (ru.chg c6 hus) (rs.chg c6 hss) ((t2.ext x45).set hd hv o6 b6) (w2.set _ _ _ hl) (a2.snoc hW (i, k) hl hlw)).to ?_
            rintro _ g7 ⟨rfl, c7, tt3, t3, w3, a3⟩
            rw [w64_of (by omega) (by omega) (n := (k : Int) + 1)]
            refine hY _ _ _ ⟨k + 1, by push_cast; rfl, by omega, ?_, c6.trans c7, tt3, t3, w3, a3.less⟩ (by omega)
            rw [pkK_succ, hFq, ← List.append_assoc, List.length_append (bs := boardsL ts b H_ W m (pl ++ [(i, k)]))]
            rw [w64_add_w, Int.add_comm, w64_add_w, Int.add_comm]
            push_cast; rfl
        · rw [w64_of (n := (i : Int) + 1) (by omega) (by omega)]
          have hk4 : k = 4 := by omega
          subst hk4
          exact hX _ _ _ ⟨i + 1, by push_cast; rfl, by omega, by rw [pkI_succ, if_neg (by rw [qu]; simp)], cg', tt2, t2, w2, a2⟩ (by omega)
    · have : i = ts.length := by omega
      subst this
      exact ⟨_, rfl, rfl, cg, tt1, t1, w1, a1⟩
end
end Go.Proofs.Ytekfmmcolgjdmaa.Cl

/- Views of the first part of an object: they are shortened and go on in place. No claim is stated here. -/
set_option linter.unusedVariables false
set_option linter.unusedSimpArgs false
namespace Go.Proofs.Ytekfmmcolgjdmaa.Cl
open Go
/-- The view s is the first part of an own object (or of none). -/
structure Pre (h : H) (s : Sl) (z : Nat) (cs : List AVal) : Prop where
  len : cs.length = s.len * z
  at_ : (s.o = none ∧ s.len = 0) ∨ (∃ o xs m, s.o = some o ∧ s.sz = z ∧ s.off = 0 ∧ s.n = m * z ∧ xs.length = m * z ∧ s.len ≤ m ∧ h[o]? = some (.own xs) ∧ xs.take (s.len * z) = cs)
theorem Pre.nil (h : H) (z : Nat) : Pre h Sl.nil z [] := ⟨by simp [Sl.nil], .inl ⟨rfl, rfl⟩⟩
theorem Ow.pre {h s z cs} (r : Ow h s z cs) : Pre h s z cs := by
  refine ⟨r.len, ?_⟩
  obtain ⟨a, b⟩ | ⟨o, a, b, c, d, e⟩ := r.at_
  · exact .inl ⟨a, b⟩
  · refine .inr ⟨o, cs, s.len, a, b, c, d, r.len, Nat.le_refl _, e, ?_⟩
    rw [← r.len, List.take_length]
theorem Pre.rd {h s z cs} (r : Pre h s z cs) : Rd h s z cs := by
  refine ⟨r.len, ?_⟩
  obtain ⟨a, b⟩ | ⟨o, xs, m, a, b, c, d, e, f, g, k⟩ := r.at_
  · exact .inl b
  · have hm : s.len * z ≤ m * z := Nat.mul_le_mul_right _ f
    refine .inr ⟨b, by simp [a], ?_⟩
    rw [a, range_of (xs := xs) (by unfold cells; simp [g, d, e]) (by omega), c, List.drop_zero, k]
theorem Pre.chg {P} {h h' : H} {s z cs} (r : Pre h s z cs) (b : Chg P h h') (hn : ∀ i, s.o = some i → ¬ P i) : Pre h' s z cs :=
  ⟨r.len, r.at_.imp id fun ⟨o, xs, m, a, b', c, d, e, f, g, k⟩ => ⟨o, xs, m, a, b', c, d, e, f, b.get g (hn o a), k⟩⟩
theorem Pre.ext {h h' : H} {s z cs} (r : Pre h s z cs) (x : Ext h h') : Pre h' s z cs := r.chg (x.chg fun _ => False) fun _ _ f => f
theorem Pre.but {o : Option Nat} {h h' : H} {s z cs} (r : Pre h s z cs) (b : But o h h') (hn : ∀ i, s.o = some i → o ≠ some i) : Pre h' s z cs :=
  r.chg (b.chg (P := fun i => o = some i) fun i e => e) hn
theorem Pre.lt {h s z cs} (r : Pre h s z cs) {o : Nat} (e : s.o = some o) : o < h.length := by
  obtain ⟨a, _⟩ | ⟨i, xs, m, a, _, _, _, _, _, g, _⟩ := r.at_
  · rw [a] at e; cases e
  · rw [a] at e; cases e; exact (List.getElem?_eq_some_iff.1 g).1
theorem Pre.ok {h s z cs} (r : Pre h s z cs) : okS h s := by
  unfold okS
  obtain ⟨a, _⟩ | ⟨i, xs, m, a, _, _, d, e, _, g, _⟩ := r.at_
  · rw [a]; trivial
  · rw [a]; unfold cells; simp [g, d, e]
/-- One element goes on in the view. -/
theorem Pre.app {h : H} {s x : Sl} {z : Nat} {cs xs : List AVal} (hz : 0 < z) (r : Pre h s z cs) (y : Rd h x z xs) (hx : x.len = 1) (hl : ((s.len + 1 : Nat) : Int) ≤ lim) {K : Sl → H → Prop}
    (hk : ∀ s' h', Pre h' s' z (cs ++ xs) → But s.o h h' → (∀ o, s.o = some o → s'.o = some o) → (s.o = none → s'.o = some h.length) → K s' h') : app s x z h K := by
  have hsr := y.sread hz
  have hxs := y.len
  rw [hx, Nat.one_mul] at hxs
  have hxz : x.len ≠ 0 → x.sz = z := fun h0 => by
    obtain a | ⟨a, _⟩ := y.at_
    · exact absurd a h0
    · exact a
  obtain ⟨a, b⟩ | ⟨o, xo, m, a, b, c, d, e, f, g, k⟩ := r.at_
  · have hcs : cs = [] := by have := r.len; rw [b, Nat.zero_mul, List.length_eq_zero_iff] at this; exact this
    subst hcs
    refine ⟨_, _, _, hsr, hxz, by rw [hx]; exact hl, .fresh a (by omega), hk _ _ ?_ ⟨by simp, fun i hi _ => get_lt _ hi⟩ (fun o e => by rw [a] at e; cases e) (fun _ => rfl)⟩
    refine ⟨by simp [hx, hxs], .inr ⟨h.length, xs, 1, rfl, rfl, rfl, by simp [hx], by simp [hxs], by simp [hx], by simp, ?_⟩⟩
    simp only [hx, Nat.one_mul, List.nil_append]
    rw [← hxs, List.take_length]
  · have ho : o < h.length := (List.getElem?_eq_some_iff.1 g).1
    rcases Nat.lt_or_ge s.len m with hlt | hge
    · have hm : (s.len + 1) * z ≤ m * z := Nat.mul_le_mul_right _ hlt
      have hm2 := hm
      rw [Nat.add_mul, Nat.one_mul] at hm2
      have hput : putN h (some o) s.n (s.off + s.len * z) xs = some (h.set o (.own (splice xo (s.len * z) xs))) := by
        unfold putN owned
        simp [g, d, e, c, hxs]
        omega
      have hsp : splice xo (s.len * z) xs = cs ++ xs ++ xo.drop (s.len * z + z) := by unfold splice; rw [k, hxs]
      refine ⟨_, _, _, hsr, hxz, by rw [hx]; exact hl, .fits (by omega) b a (by rw [c, d, hx]; omega) hput, hk _ _ ?_ ?_ (fun p ep => by rw [a] at ep; exact ep) (fun en => by rw [a] at en; cases en)⟩
      · refine ⟨by simp [hx, hxs, r.len, Nat.add_mul], .inr ⟨o, splice xo (s.len * z) xs, m, rfl, rfl, c, d, ?_, by simp [hx]; omega, by simp [List.getElem?_set, ho], ?_⟩⟩
        · rw [hsp]; simp [r.len, hxs, e]; omega
        · rw [hsp, List.take_append_of_le_length (by simp [r.len, hxs, hx, Nat.add_mul]), List.take_of_length_le (by simp [r.len, hxs, hx, Nat.add_mul])]
      · rw [a]
        exact ⟨by simp, fun i hi hne => by rw [List.getElem?_set, if_neg (fun e2 => hne (by rw [e2]))]⟩
    · have hme : m = s.len := by omega
      subst hme
      have hkc : xo = cs := by rw [← k, List.take_of_length_le (by omega)]
      subst hkc
      refine ⟨_, _, _, hsr, hxz, by rw [hx]; exact hl, .grows (o := o) (cs := xo) (by omega) b a c d.symm (by unfold owned; simp [g, d, e]), hk _ _ ?_ ?_ (fun p ep => by rw [a] at ep; exact ep) (fun en => by rw [a] at en; cases en)⟩
      · refine ⟨by simp [hx, hxs, r.len, Nat.add_mul], .inr ⟨o, xo ++ xs, s.len + 1, rfl, rfl, rfl, by simp [hx, d, Nat.add_mul], by simp [e, hxs, Nat.add_mul], by simp [hx], by simp [List.getElem?_set, ho], ?_⟩⟩
        rw [List.take_of_length_le (by simp [e, hxs, hx, Nat.add_mul])]
      · rw [a]
        exact ⟨by simp, fun i hi hne => by rw [List.getElem?_set, if_neg (fun e2 => hne (by rw [e2]))]⟩
/-- The first k elements. -/
theorem Pre.cut {h : H} {s : Sl} {z : Nat} {cs : List AVal} (r : Pre h s z cs) {k : Int} (h0 : 0 ≤ k) (h1 : k ≤ s.len) {K : Sl → Prop}
    (hk : ∀ s', (s'.o = s.o) → (∀ g, Pre g s z cs → Pre g s' z (cs.take (k.toNat * z))) → K s') : cut s z 0 k h K := by
  refine ⟨⟨by omega, h0⟩, r.ok, ?_, ?_, hk _ rfl ?_⟩
  · intro e
    obtain ⟨a, b⟩ | ⟨o, xs, m, a, _⟩ := r.at_
    · omega
    · rw [a] at e; cases e
  · intro e
    obtain ⟨a, b⟩ | ⟨o, xs, m, a, b, c, d, e', f, g, k'⟩ := r.at_
    · exact absurd a e
    · have : k.toNat * z ≤ m * z := Nat.mul_le_mul_right _ (by omega)
      exact ⟨b, by omega⟩
  · intro g r
    have hkl : k.toNat * z ≤ s.len * z := Nat.mul_le_mul_right _ (by omega)
    have hrl := r.len
    refine ⟨by rw [List.length_take, hrl, Nat.min_eq_left hkl]; simp, ?_⟩
    obtain ⟨a, b⟩ | ⟨o, xs, m, a, b, c, d, e', f, g, k'⟩ := r.at_
    · exact .inl ⟨a, by simp; omega⟩
    · refine .inr ⟨o, xs, m, a, rfl, by simp [c], d, e', by simp; omega, g, ?_⟩
      simp only [Int.sub_zero]
      rw [← k', List.take_take, Nat.min_eq_left hkl]
end Go.Proofs.Ytekfmmcolgjdmaa.Cl

/- The program's search for boards: its state. No claim is stated here. -/
set_option linter.unusedVariables false
set_option linter.unusedSimpArgs false
namespace Go.Proofs.Ytekfmmcolgjdmaa.Cl
open Go
theorem runV_stop {α : Type} {step : α → Pls → α × Bool} {a a' : α} {A B : List Pls} (h : runV step a A = (a', false)) : runV step a (A ++ B) = (a', false) := by rw [runV_app, h]; rfl
theorem runV_on {α : Type} {step : α → Pls → α × Bool} {a a' : α} {A B : List Pls} (h : runV step a A = (a', true)) : runV step a (A ++ B) = runV step a' B := by rw [runV_app, h]; rfl
theorem pkK_pre {β : Type} (F : Nat × Nat → List β) (i : Nat) {k n : Nat} (h : k ≤ n) : ∃ r, pkK F i n = pkK F i k ++ r := by
  induction n with
  | zero => exact ⟨[], by rw [show k = 0 by omega]; simp⟩
  | succ n ih =>
    rcases Nat.lt_or_ge n k with hk | hk
    · exact ⟨[], by rw [show k = n + 1 by omega]; simp⟩
    · obtain ⟨r, e⟩ := ih hk
      exact ⟨r ++ F (i, n), by rw [pkK_succ, e, List.append_assoc]⟩
theorem pkI_pre {β : Type} (F : Nat × Nat → List β) (u : Nat → Bool) {i n : Nat} (h : i ≤ n) : ∃ r, pkI F u n = pkI F u i ++ r := by
  induction n with
  | zero => exact ⟨[], by rw [show i = 0 by omega]; simp⟩
  | succ n ih =>
    rcases Nat.lt_or_ge n i with hk | hk
    · exact ⟨[], by rw [show i = n + 1 by omega]; simp⟩
    · obtain ⟨r, e⟩ := ih hk
      exact ⟨_, by rw [pkI_succ, e, List.append_assoc]⟩
theorem pk_pre {β : Type} (F : Nat × Nat → List β) {u : Nat → Bool} {i k n : Nat} (hi : i < n) (hk : k < 4) (hu : u i = false) : ∃ r, pkI F u n = (pkI F u i ++ pkK F i (k + 1)) ++ r := by
  obtain ⟨r, e⟩ := pkI_pre F u (show i + 1 ≤ n by omega)
  obtain ⟨r2, e2⟩ := pkK_pre F i (show k + 1 ≤ 4 by omega)
  exact ⟨r2 ++ r, by rw [e, pkI_succ, if_neg (by rw [hu]; simp), e2]; simp⟩
theorem Rd.ixE {h : H} {s : Sl} {cs : List AVal} (r : Rd h s 1 cs) {i : Int} (h0 : 0 ≤ i) (h1 : i < s.len) {K : Pt → Prop} (hk : ∀ p : Pt, p.o = s.o → (∀ g, Rd g s 1 cs → cell g p = cs[i.toNat]?) → K p) : ixS s 1 i K := by
  obtain hl | ⟨a, b, c⟩ := r.at_
  · omega
  · refine ⟨⟨h0, h1⟩, a, b, hk _ rfl fun g rg => ?_⟩
    obtain hl | ⟨a', b', c'⟩ := rg.at_
    · omega
    · have := cell_of_range c' (i := i.toNat) (by omega)
      rw [Nat.mul_one]; exact this
/-- What the search's closure holds. -/
structure Env where
  a0 : Nat
  a1 : Nat
  a2 : Nat
  a3 : Nat
  a4 : Nat
  a5 : Nat
  a6 : Nat
  a7 : Nat
  a8 : Nat
  oL : Nat
  oT : Nat
  oU : Nat
  n0 : Nat
  st : Sl
  su : Sl
  u : Sl
  g : Nat
  cap : List AVal
  ts : List Tile
  b : Int
  Hh : Nat
  W : Nat
namespace Env
variable (E : Env)
def ptrs : List AVal := [.ptr (pt E.a0), .ptr (pt E.a1), .ptr (pt E.a2), .ptr (pt E.a3), .ptr (pt E.a4), .ptr (pt E.a5), .ptr (pt E.a6), .ptr (pt E.a7), .ptr (pt E.a8)]
def RO (i : Nat) : Prop := i = E.a1 ∨ i = E.a2 ∨ i = E.a3 ∨ i = E.a4 ∨ i = E.a5 ∨ i = E.a6 ∨ i = E.a7 ∨ i = E.a8 ∨ E.u.o = some i
def W4 (i : Nat) : Prop := i = E.a0 ∨ i = E.oL ∨ i = E.oT ∨ i = E.oU
def O (vs : List Sl) (i : Nat) : Prop := E.W4 i ∨ OwnV vs i
structure OK : Prop where
  hW : 0 < E.W
  hW6 : E.W ≤ 6
  hH6 : E.Hh ≤ 6
  hts : E.ts.length ≤ 6
  st : E.st.o = some E.oT
  su : E.su.o = some E.oU
  d1 : E.a0 ≠ E.oL
  d2 : E.a0 ≠ E.oT
  d3 : E.a0 ≠ E.oU
  d4 : E.oL ≠ E.oT
  d5 : E.oL ≠ E.oU
  d6 : E.oT ≠ E.oU
  ro : ∀ i, E.RO i → ¬ E.W4 i
  lt : ∀ i, E.RO i ∨ E.W4 i → i < E.n0
structure rd (h : H) : Prop where
  v1 : Var h E.a1 (i64 E.W)
  v2 : Var h E.a2 (i64 E.Hh)
  v3 : Var h E.a3 (.func E.g E.cap)
  v4 : Var h E.a4 (.sl E.st)
  v5 : Var h E.a5 (.sl E.u)
  v6 : Var h E.a6 (.sl E.su)
  v7 : Var h E.a7 (i64 E.b)
  v8 : Var h E.a8 (.func i_impl_boards_1 E.ptrs)
  ru : Rd h E.u 4 (tcs E.ts)
theorem rd.chg {E : Env} {h h' : H} {P : Nat → Prop} (r : E.rd h) (c : Chg P h h') (hn : ∀ i, E.RO i → ¬ P i) : E.rd h' := by
  refine ⟨r.v1.chg c (hn _ ?_), r.v2.chg c (hn _ ?_), r.v3.chg c (hn _ ?_), r.v4.chg c (hn _ ?_), r.v5.chg c (hn _ ?_), r.v6.chg c (hn _ ?_), r.v7.chg c (hn _ ?_), r.v8.chg c (hn _ ?_), r.ru.chg c fun i e => hn i ?_⟩ <;> unfold RO <;> simp [*]
end Env
/-- The search stands at placed tiles. -/
structure Srch (E : Env) (vs : List Sl) (pl : Pls) (h : H) : Prop where
  list : ∃ sl, Var h E.a0 (.sl sl) ∧ sl.o = some E.oL ∧ Pre h sl 2 (pcs (pl.map plN))
  tab : Ow h E.st 1 (vs.map .sl)
  row : ∀ (y : Nat) v, vs[y]? = some v → Pre h v 4 (tcs (rowC E.ts E.W pl y))
  fr : ∀ (y : Nat) v, vs[y]? = some v → Fr E.n0 v
  dist : DistV vs
  len : vs.length = E.Hh
  used : Ow h E.su 1 ((List.range E.ts.length).map fun i => AVal.bool (usedN pl i))
  env : E.rd h
  le : E.n0 ≤ h.length
theorem Srch.chg {E : Env} (ok : E.OK) {vs : List Sl} {pl : Pls} {h h' : H} {P : Nat → Prop} (s : Srch E vs pl h) (c : Chg P h h') (hn : ∀ i, i < h.length → E.RO i ∨ E.O vs i → ¬ P i) : Srch E vs pl h' := by
  obtain ⟨sl, l1, l2, l3⟩ := s.list
  have hr : ∀ i, E.RO i → ¬ P i := fun i hi => hn i (by have := ok.lt i (.inl hi); have := s.le; omega) (.inl hi)
  have ho : ∀ i, E.W4 i → ¬ P i := fun i hi => hn i (by have := ok.lt i (.inr hi); have := s.le; omega) (.inr (.inl hi))
  have h0 : ¬ P E.a0 := ho _ (by unfold Env.W4; simp)
  refine ⟨⟨sl, l1.chg c h0, l2, l3.chg c fun i e => ?_⟩, s.tab.chg c fun i e => ?_, fun y v hv => (s.row y v hv).chg c fun i e => hn i ((s.row y v hv).lt e) (.inr (.inr ⟨v, List.mem_of_getElem? hv, e⟩)), s.fr, s.dist, s.len, s.used.chg c fun i e => ?_, s.env.chg c hr, Nat.le_trans s.le c.1⟩
  · rw [l2] at e; cases e; exact ho _ (by unfold Env.W4; simp)
  · rw [ok.st] at e; cases e; exact ho _ (by unfold Env.W4; simp)
  · rw [ok.su] at e; cases e; exact ho _ (by unfold Env.W4; simp)
theorem Srch.lt {E : Env} (ok : E.OK) {vs : List Sl} {pl : Pls} {h : H} (s : Srch E vs pl h) {i : Nat} (hi : E.RO i ∨ E.O vs i) : i < h.length := by
  have hl := s.le
  rcases hi with hi | hi | ⟨v, hv, e⟩
  · have := ok.lt i (.inl hi); omega
  · have := ok.lt i (.inr hi); omega
  · obtain ⟨y, hy⟩ := List.getElem?_of_mem hv
    exact (s.row y v hy).lt e
theorem Srch.ownV {E : Env} {vs : List Sl} {pl : Pls} {h : H} (s : Srch E vs pl h) {i : Nat} (hi : OwnV vs i) : E.n0 ≤ i := by
  obtain ⟨v, hv, e⟩ := hi
  obtain ⟨y, hy⟩ := List.getElem?_of_mem hv
  exact s.fr y v hy i e
theorem pcs_app (l m : List Plc) : pcs (l ++ m) = pcs l ++ pcs m := by unfold pcs; rw [List.map_append, List.flatten_append]
theorem pcs_one (p : Plc) : pcs [p] = pc p := by simp [pcs]
theorem set_at {α : Type} {vs : List α} {y0 y : Nat} {v' w : α} (hw : (vs.set y0 v')[y]? = some w) : (y = y0 ∧ w = v') ∨ (y ≠ y0 ∧ vs[y]? = some w) := by
  rw [List.getElem?_set] at hw
  by_cases e : y0 = y
  · rw [if_pos e] at hw
    split at hw
    · cases hw; exact .inl ⟨e.symm, rfl⟩
    · cases hw
  · rw [if_neg e] at hw
    exact .inr ⟨Ne.symm e, hw⟩
/-- A tile is placed: the list, the row and the marks go on. -/
theorem Srch.push {E : Env} (ok : E.OK) {vs : List Sl} {pl : Pls} {q : Nat × Nat} {h h' : H} {sl' v' : Sl} {P : Nat → Prop} (s : Srch E vs pl h) (c : Chg P h h') (hro : ∀ i, E.RO i → ¬ P i)
    (hl : Var h' E.a0 (.sl sl')) (hlo : sl'.o = some E.oL) (hlp : Pre h' sl' 2 (pcs (pl.map plN) ++ pc (plN q)))
    (ht : Ow h' E.st 1 ((vs.set (yN E.W pl.length) v').map .sl)) {v : Sl} (hv : vs[yN E.W pl.length]? = some v)
    (hvp : Pre h' v' 4 (tcs (rowC E.ts E.W pl (yN E.W pl.length)) ++ tc (tq E.ts q))) (hvo : ∀ i, v'.o = some i → v.o = some i ∨ h.length ≤ i)
    (hrow : ∀ (y : Nat) w, y ≠ yN E.W pl.length → vs[y]? = some w → ∀ i, w.o = some i → ¬ P i)
    (hu : Ow h' E.su 1 ((List.range E.ts.length).map fun i => AVal.bool (usedN (pl ++ [q]) i))) : Srch E (vs.set (yN E.W pl.length) v') (pl ++ [q]) h' := by
  have hW := ok.hW
  have hyl := (List.getElem?_eq_some_iff.1 hv).1
  refine ⟨⟨sl', hl, hlo, ?_⟩, ht, fun y w hw => ?_, fun y w hw => ?_, fun y y' w w' hne hw hw' => ?_, by rw [List.length_set]; exact s.len, hu, s.env.chg c hro, Nat.le_trans s.le c.1⟩
  · rw [List.map_append, pcs_app]; simpa [pcs_one] using hlp
  · rcases set_at hw with ⟨rfl, rfl⟩ | ⟨e, hw2⟩
    · rw [rowC_snoc hW, tcs_app, tcs_one]; exact hvp
    · rw [rowC_snoc_ne hW q e]
      exact (s.row y w hw2).chg c (hrow y w e hw2)
  · rcases set_at hw with ⟨rfl, rfl⟩ | ⟨e, hw2⟩
    · intro i e
      rcases hvo i e with e | e
      · exact s.fr _ v hv i e
      · have := s.le; omega
    · exact s.fr y w hw2
  · intro o ho ho'
    rcases set_at hw with ⟨rfl, rfl⟩ | ⟨e, hw2⟩
    · rcases set_at hw' with ⟨rfl, rfl⟩ | ⟨e', hw3⟩
      · exact hne rfl
      · rcases hvo o ho with e3 | e3
        · exact s.dist _ y' v w' (Ne.symm e') hv hw3 o e3 ho'
        · have := (s.row y' w' hw3).lt ho'; omega
    · rcases set_at hw' with ⟨rfl, rfl⟩ | ⟨e', hw3⟩
      · rcases hvo o ho' with e3 | e3
        · exact s.dist _ y v w (Ne.symm e) hv hw2 o e3 ho
        · have := (s.row y w hw2).lt ho; omega
      · exact s.dist y y' w w' hne hw2 hw3 o ho ho'
/-- A tile is taken away. -/
theorem Srch.pop {E : Env} (ok : E.OK) {vs : List Sl} {pl : Pls} {q : Nat × Nat} {h h' : H} {sl' v' v : Sl} {P : Nat → Prop} (s : Srch E vs (pl ++ [q]) h) (c : Chg P h h') (hro : ∀ i, E.RO i → ¬ P i)
    (hl : Var h' E.a0 (.sl sl')) (hlo : sl'.o = some E.oL) (hlp : Pre h' sl' 2 (pcs (pl.map plN)))
    (ht : Ow h' E.st 1 ((vs.set (yN E.W pl.length) v').map .sl)) (hv : vs[yN E.W pl.length]? = some v)
    (hvp : Pre h' v' 4 (tcs (rowC E.ts E.W pl (yN E.W pl.length)))) (hvo : v'.o = v.o)
    (hrow : ∀ (y : Nat) w, y ≠ yN E.W pl.length → vs[y]? = some w → ∀ i, w.o = some i → ¬ P i)
    (hu : Ow h' E.su 1 ((List.range E.ts.length).map fun i => AVal.bool (usedN pl i))) : Srch E (vs.set (yN E.W pl.length) v') pl h' := by
  have hW := ok.hW
  have hyl := (List.getElem?_eq_some_iff.1 hv).1
  refine ⟨⟨sl', hl, hlo, hlp⟩, ht, fun y w hw => ?_, fun y w hw => ?_, fun y y' w w' hne hw hw' => ?_, by rw [List.length_set]; exact s.len, hu, s.env.chg c hro, Nat.le_trans s.le c.1⟩
  · rcases set_at hw with ⟨rfl, rfl⟩ | ⟨e, hw2⟩
    · exact hvp
    · rw [← rowC_snoc_ne hW q e]
      exact (s.row y w hw2).chg c (hrow y w e hw2)
  · rcases set_at hw with ⟨rfl, rfl⟩ | ⟨e, hw2⟩
    · intro i e
      rw [hvo] at e
      exact s.fr _ v hv i e
    · exact s.fr y w hw2
  · intro o ho ho'
    rcases set_at hw with ⟨rfl, rfl⟩ | ⟨e, hw2⟩
    · rw [hvo] at ho
      rcases set_at hw' with ⟨rfl, rfl⟩ | ⟨e', hw3⟩
      · exact hne rfl
      · exact s.dist _ y' v w' (Ne.symm e') hv hw3 o ho ho'
    · rcases set_at hw' with ⟨rfl, rfl⟩ | ⟨e', hw3⟩
      · rw [hvo] at ho'
        exact s.dist _ y v w (Ne.symm e) hv hw2 o ho' ho
      · exact s.dist y y' w w' hne hw2 hw3 o ho ho'
end Go.Proofs.Ytekfmmcolgjdmaa.Cl
