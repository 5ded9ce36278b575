/- The given statement about the law FnLastingTiles: for every input the law returns true, and its arguments read behind the call as they read before. No condition. -/
import Derived.Test.YtlcgclmobfdbcaaRows
import Derived.Test.YtlcgclmobfdbcaaFa2
import Derived.Test.YtlcgclmobfdbcaaLwLastingTilesG
import Derived.WalkKit
import Derived.ProofKit
import Derived.OpenShut
import Derived.ChangeOld
import Derived.Below
import Derived.SizedLaws
namespace Go.Proofs.Ytlcgclmobfdbcaa.fnLastingTiles
open Go.ChangeShapes Go.WideShapes Go.ChangeAt Go.RowKit
set_option linter.unusedVariables false
theorem own : ownKnob Try.prog.godebug = none := by kernel_rfl
set_option maxRecDepth 100000 in
theorem lifted (os : Os) (started : os.Started) (H : Type) (enc : TypeId × Value → H) :
    ReturnsInHanded {} Try.checked os 3 .any (Rows.fnLastingTilesSpec.pre6 enc Try.prog Try.f3 Rows.fnLastingTilesRow.domain false) (Rows.fnLastingTilesSpec.post enc Try.prog Try.f3 false true false false) := by
  refine returnsInHanded_of_change_sized (C := Try.checked) own started (by kernel_rfl) Try.func3
    (ChangeSpec.witness6 (enc := enc) (C := Try.checked) false ⟨#[], #[.slice none 0 0], []⟩ 8 (by kernel_rfl) (by kernel_rfl) (by kernel_rfl) (by kernel_rfl)) ?_
  intro W base args ds gs before hval0 hW hcnd hsz0 _
  have hval : ∀ (j : Nat) t v, Try.f3.params[j]? = some t → args[j]? = some v → Value.okWide Try.prog W .any base t v := hval0
  have hW' := hW
  obtain ⟨p, q, hA0, hV, rfl, hfz, hnd⟩ := hW
  have hA : DataW.TrodAll enc Try.prog W 0 (fun _ => true) true Try.f3.params.toList args.toList ds p := hA0
  obtain ⟨rfl, rfl⟩ := trodVars_none hV
  refine (Cl.law_calls (W := W) (ts := Try.f3.params.toList) 12 (by kernel_rfl) (fun h xs hl ha => Cl.law_LastingTiles_in h xs hl ha) (fun j t v a b => hval j t v (by simpa using a) b) hA).mono fun e W' ⟨he, bel⟩ => ?_
  subst he
  have hB := Cl.args_stay (P := Try.prog) (by kernel_rfl) (by kernel_rfl) (by kernel_rfl) bel (Cl.lt_of_all (P := Try.prog) (by kernel_rfl)) hA
  rw [Try.params3] at hA hB
  obtain ⟨v0, vs0, d0, ds0, p0, q0, hargs0, rfl, _, h0, r0⟩ := trodAll_cons hA
  obtain ⟨_, rfl, _⟩ := trodAll_nil r0
  exact ⟨_, rfl, _, _, _, [], _, [], hW', trodAll_mk1 (shut_bool Try.underlying4 _), hB, rfl, bel.frame _, fun h => by cases h⟩
theorem over : Rows.fnLastingTilesRow.holds Try.pinned (OpenSpec.ofChange Rows.fnLastingTilesSpec) :=
  OpenClaim.holds_of_wide 3 Try.f3 rfl rfl rfl rfl rfl rfl rfl ⟨rfl, rfl, rfl, rfl, rfl⟩ rfl rfl rfl rfl rfl (by kernel_rfl) Try.func3 (by kernel_rfl)
    (of_decide_eq_true (by kernel_rfl)) (by unfold Func.isWrapper; first | (rw [if_pos (by decide +kernel)]; kernel_rfl) | (rw [if_neg (by decide +kernel)]; exact ⟨rfl, rfl⟩))
    (fun os started H enc _ => lifted os started H enc)
theorem proved : Rows.FnLastingTilesSaid := over
#print axioms proved
end Go.Proofs.Ytlcgclmobfdbcaa.fnLastingTiles
namespace Go.Proofs.Ytlcgclmobfdbcaa
/-- The row, under a short name, for the claim. -/
theorem fnLastingTiles_holds : Rows.FnLastingTilesSaid := fnLastingTiles.proved
end Go.Proofs.Ytlcgclmobfdbcaa
