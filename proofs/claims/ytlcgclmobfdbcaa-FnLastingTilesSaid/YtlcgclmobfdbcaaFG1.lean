/- Typed forms of functions, and their links. No claim is stated here. -/
import Derived.Test.YtlcgclmobfdbcaaFT
import Derived.Test.YtlcgclmobfdbcaaFG0
/- Typed forms of functions of the program, and their links. Printed by program. No claim is stated here. -/
set_option linter.unusedVariables false
namespace Go.Proofs.Ytlcgclmobfdbcaa.Cl
open Go
/-! ### loop.example/g01354/spec.l01Spoil -/
def spec_l01Spoil_M : Nat → List Nat := fun i => []
def spec_l01Spoil_main (S : SatT) (K : KT) (x0 : Pt) (h : H) : Prop :=
 newO [.int .i64 (0), .sl Sl.nil] h fun p0 h1 =>
 callA S i_spec_l01Draw [.ptr x0] h1 fun cs3 h2 =>
 callA S i_spec_l01Bad [.ptr x0, .agg cs3] h2 fun cs5 h4 =>
 stN p0 2 cs5 h4 fun h6 =>
 ldA p0 2 h6 fun cs7 =>
 K (.agg cs7) h6
theorem spec_l01Spoil_main_link (S : SatT) (K : KT) (x0 : Pt) (h : H) : cwp S tab spec_l01Spoil_M [] (bodyOf Try.f20) (kFun tab Try.f20.results.toList K) (fr0 Try.f20 [.ptr x0]) h = spec_l01Spoil_main S K x0 h := by kernel_rfl
theorem spec_l01Spoil_call (x0 : Pt) (h : H) (K : List AVal → H → Prop) (hm : spec_l01Spoil_main (Sat Try.prog) (fun v h' => ∃ r, v = .agg r ∧ K r h') x0 h) : callA (Sat Try.prog) i_spec_l01Spoil [.ptr x0] h K := by
  have := Sat.ex tok mixed spec_l01Spoil_M Try.func20 (c := bodyOf Try.f20) (by kernel_rfl) (calls_of Try.func20 (c := bodyOf Try.f20) (by kernel_rfl) (by decide)) ((spec_l01Spoil_main_link _ _ x0 h).mpr hm)
  obtain ⟨v, h2, h3, r, rfl, h4⟩ := this; exact ⟨r, h2, h3, h4⟩

/-! ### loop.example/g01354/spec.l01In -/
def spec_l01In_M : Nat → List Nat := fun i => []
def spec_l01In_main (S : SatT) (K : KT) (x0 x1 x2 : Int) (h : H) : Prop :=
 bif (decide (x0 ≥ x1)) then
 K (.bool (decide (x0 ≤ x2))) h
 else
 K (.bool false) h
theorem spec_l01In_main_link (S : SatT) (K : KT) (x0 x1 x2 : Int) (h : H) : cwp S tab spec_l01In_M [] (bodyOf Try.f38) (kFun tab Try.f38.results.toList K) (fr0 Try.f38 [.int .i64 x0, .int .i64 x1, .int .i64 x2]) h = spec_l01In_main S K x0 x1 x2 h := by kernel_rfl
theorem spec_l01In_call (x0 x1 x2 : Int) (h : H) (K : Bool → H → Prop) (hm : spec_l01In_main (Sat Try.prog) (fun v h' => ∃ r, v = .bool r ∧ K r h') x0 x1 x2 h) : callB (Sat Try.prog) i_spec_l01In [.int .i64 x0, .int .i64 x1, .int .i64 x2] h K := by
  have := Sat.ex tok mixed spec_l01In_M Try.func38 (c := bodyOf Try.f38) (by kernel_rfl) (calls_of Try.func38 (c := bodyOf Try.f38) (by kernel_rfl) (by decide)) ((spec_l01In_main_link _ _ x0 x1 x2 h).mpr hm)
  obtain ⟨v, h2, h3, r, rfl, h4⟩ := this; exact ⟨r, h2, h3, h4⟩

/-! ### loop.example/g01354/spec.l01Own -/
def spec_l01Own_M : Nat → List Nat := fun i => []
def spec_l01Own_main (S : SatT) (K : KT) (x0 : Sl) (h : H) : Prop :=
 newS 0 1 [] h fun s0 h1 =>
 app s0 x0 1 h1 fun s2 h3 =>
 K (.sl s2) h3
theorem spec_l01Own_main_link (S : SatT) (K : KT) (x0 : Sl) (h : H) : cwp S tab spec_l01Own_M [] (bodyOf Try.f75) (kFun tab Try.f75.results.toList K) (fr0 Try.f75 [.sl x0]) h = spec_l01Own_main S K x0 h := by kernel_rfl
theorem spec_l01Own_call (x0 : Sl) (h : H) (K : Sl → H → Prop) (hm : spec_l01Own_main (Sat Try.prog) (fun v h' => ∃ r, v = .sl r ∧ K r h') x0 h) : callS (Sat Try.prog) i_spec_l01Own [.sl x0] h K := by
  have := Sat.ex tok mixed spec_l01Own_M Try.func75 (c := bodyOf Try.f75) (by kernel_rfl) (calls_of Try.func75 (c := bodyOf Try.f75) (by kernel_rfl) (by decide)) ((spec_l01Own_main_link _ _ x0 h).mpr hm)
  obtain ⟨v, h2, h3, r, rfl, h4⟩ := this; exact ⟨r, h2, h3, h4⟩

end Go.Proofs.Ytlcgclmobfdbcaa.Cl
