/- The law BlockRoundTrip: its row, out of the walk. -/
import Derived.Test.YtpgjhjlhipikgaaDoorMILiftBlockRoundTrip
import Derived.WalkKit
import Derived.ProofKit
import Derived.Test.YtpgjhjlhipikgaaDoorKFactMay
import Derived.Test.YtpgjhjlhipikgaaDoorKFactLifts
import Derived.Test.YtpgjhjlhipikgaaDoorKFactMake
namespace Go.Proofs.YtpgjhjlhipikgaaDoor.blockRoundTrip
open Go.ChangeShapes Go.WideShapes Go.ChangeAt Go.RowKit
set_option linter.unusedVariables false
theorem facts : joinedFacts Tryd.prog 9 Tryd.f9 Rows.blockRoundTripSpec Rows.blockRoundTripRow = true := by
  unfold joinedFacts
  rw [pf_may, pf_lifts, pf_make]
  kernel_rfl
theorem over : Rows.blockRoundTripRow.holds Tryd.pinned (OpenSpec.ofChange Rows.blockRoundTripSpec) :=
  OpenClaim.holds_of_wide 9 Tryd.f9 rfl rfl rfl rfl rfl rfl rfl ⟨rfl, rfl, rfl, rfl, rfl⟩ rfl rfl rfl rfl rfl (by kernel_rfl) Tryd.func9 facts
    (of_decide_eq_true (by kernel_rfl)) (by unfold Func.isWrapper; first | (rw [if_pos (by decide +kernel)]; kernel_rfl) | (rw [if_neg (by decide +kernel)]; exact ⟨rfl, rfl⟩))
    (fun os started H enc _ => lifted os started H enc)
theorem proved : Rows.BlockRoundTripSaid := over
end Go.Proofs.YtpgjhjlhipikgaaDoor.blockRoundTrip
