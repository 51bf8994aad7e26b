/- The law BlockDecodedAgain: its row, out of the walk. -/
import Derived.Test.YtpgjhjlhipikgaaDoorMALiftBlockDecodedAgain
import Derived.WalkKit
import Derived.ProofKit
import Derived.Test.YtpgjhjlhipikgaaDoorKFactMay
import Derived.Test.YtpgjhjlhipikgaaDoorKFactLifts
import Derived.Test.YtpgjhjlhipikgaaDoorKFactMake
namespace Go.Proofs.YtpgjhjlhipikgaaDoor.blockDecodedAgain
open Go.ChangeShapes Go.WideShapes Go.ChangeAt Go.RowKit
set_option linter.unusedVariables false
theorem facts : joinedFacts Tryd.prog 10 Tryd.f10 Rows.blockDecodedAgainSpec Rows.blockDecodedAgainRow = true := by
  unfold joinedFacts
  rw [pf_may, pf_lifts, pf_make]
  kernel_rfl
theorem over : Rows.blockDecodedAgainRow.holds Tryd.pinned (OpenSpec.ofChange Rows.blockDecodedAgainSpec) :=
  OpenClaim.holds_of_wide 10 Tryd.f10 rfl rfl rfl rfl rfl rfl rfl ⟨rfl, rfl, rfl, rfl, rfl⟩ rfl rfl rfl rfl rfl (by kernel_rfl) Tryd.func10 facts
    (of_decide_eq_true (by kernel_rfl)) (by unfold Func.isWrapper; first | (rw [if_pos (by decide +kernel)]; kernel_rfl) | (rw [if_neg (by decide +kernel)]; exact ⟨rfl, rfl⟩))
    (fun os started H enc _ => lifted os started H enc)
theorem proved : Rows.BlockDecodedAgainSaid := over
end Go.Proofs.YtpgjhjlhipikgaaDoor.blockDecodedAgain
