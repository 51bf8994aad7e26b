/- The law BlockSameMatchesReference: its row, out of the walk. -/
import Derived.Test.YtpgjhjlhipikgaaDoorMGLiftBlockSameMatchesReference
import Derived.WalkKit
import Derived.ProofKit
import Derived.Test.YtpgjhjlhipikgaaDoorKFactMay
import Derived.Test.YtpgjhjlhipikgaaDoorKFactLifts
import Derived.Test.YtpgjhjlhipikgaaDoorKFactMake
namespace Go.Proofs.YtpgjhjlhipikgaaDoor.blockSameMatchesReference
open Go.ChangeShapes Go.WideShapes Go.ChangeAt Go.RowKit
set_option linter.unusedVariables false
theorem facts : joinedFacts Tryd.prog 4 Tryd.f4 Rows.blockSameMatchesReferenceSpec Rows.blockSameMatchesReferenceRow = true := by
  unfold joinedFacts
  rw [pf_may, pf_lifts, pf_make]
  kernel_rfl
theorem over : Rows.blockSameMatchesReferenceRow.holds Tryd.pinned (OpenSpec.ofChange Rows.blockSameMatchesReferenceSpec) :=
  OpenClaim.holds_of_wide 4 Tryd.f4 rfl rfl rfl rfl rfl rfl rfl ⟨rfl, rfl, rfl, rfl, rfl⟩ rfl rfl rfl rfl rfl (by kernel_rfl) Tryd.func4 facts
    (of_decide_eq_true (by kernel_rfl)) (by unfold Func.isWrapper; first | (rw [if_pos (by decide +kernel)]; kernel_rfl) | (rw [if_neg (by decide +kernel)]; exact ⟨rfl, rfl⟩))
    (fun os started H enc _ => lifted os started H enc)
theorem proved : Rows.BlockSameMatchesReferenceSaid := over
end Go.Proofs.YtpgjhjlhipikgaaDoor.blockSameMatchesReference
