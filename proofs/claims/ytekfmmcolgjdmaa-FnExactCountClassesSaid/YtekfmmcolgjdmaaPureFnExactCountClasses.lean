/- The program's CountClasses returns what the reference's CountClasses returns. Conditions: none (every argument of type int64). -/
import Derived.Test.YtekfmmcolgjdmaaPFnExactCountClassesx1
namespace Go.Proofs.Ytekfmmcolgjdmaa.Pure
open Go.RowKit Go.Proofs.Ytekfmmcolgjdmaa.PFnExactCountClasses Go.Proofs.YtekfmmcolgjdmaaW.PrintWords Go.Proofs.YtekfmmcolgjdmaaW.PrintLast

/-- YOURS: ∀ (a0 : Int), (Lit.int .i64 a0).wf = true → laws_FnExactCountClasses.f a0 = some true
What it reaches (each with k first where it has rounds; `.mono`: more rounds tell the same; `.l0`, ..: its loops, with `.mono_l`): spec_l01In.f, spec_CountClasses.f, impl_within.f, impl_CountClasses.f, laws_FnExactCountClasses.f -/
theorem FnExactCountClasses : laws_FnExactCountClasses.Pure := by
  intro a0 h
  unfold laws_FnExactCountClasses.f spec_CountClasses.f impl_CountClasses.f spec_l01In.f impl_within.f
  by_cases h1 : a0 ≥ 1
  · by_cases h2 : a0 ≤ 6
    · simp [h1, h2]
    · simp [h1, h2]
  · simp [h1]

end Go.Proofs.Ytekfmmcolgjdmaa.Pure
