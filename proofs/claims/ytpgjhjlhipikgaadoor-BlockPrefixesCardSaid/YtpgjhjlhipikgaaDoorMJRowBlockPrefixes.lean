/- The law BlockPrefixes: its row, out of the walk. -/
import Derived.Test.YtpgjhjlhipikgaaDoorMJLiftBlockPrefixes
import Derived.WalkKit
import Derived.ProofKit
import Derived.Test.YtpgjhjlhipikgaaDoorKFactMay
import Derived.Test.YtpgjhjlhipikgaaDoorKFactLifts
import Derived.Test.YtpgjhjlhipikgaaDoorKFactMake
namespace Go.Proofs.YtpgjhjlhipikgaaDoor.blockPrefixes
open Go.ChangeShapes Go.WideShapes Go.ChangeAt Go.RowKit
set_option linter.unusedVariables false
theorem facts : joinedFacts Tryd.prog 11 Tryd.f11 Rows.blockPrefixesSpec Rows.blockPrefixesRow = true := by
  unfold joinedFacts
  rw [pf_may, pf_lifts, pf_make]
  kernel_rfl
theorem over : Rows.blockPrefixesRow.holds Tryd.pinned (OpenSpec.ofChange Rows.blockPrefixesSpec) :=
  OpenClaim.holds_of_wide 11 Tryd.f11 rfl rfl rfl rfl rfl rfl rfl ⟨rfl, rfl, rfl, rfl, rfl⟩ rfl rfl rfl rfl rfl (by kernel_rfl) Tryd.func11 facts
    (of_decide_eq_true (by kernel_rfl)) (by unfold Func.isWrapper; first | (rw [if_pos (by decide +kernel)]; kernel_rfl) | (rw [if_neg (by decide +kernel)]; exact ⟨rfl, rfl⟩))
    (fun os started H enc _ => lifted os started H enc)
theorem proved : Rows.BlockPrefixesSaid := over
end Go.Proofs.YtpgjhjlhipikgaaDoor.blockPrefixes
