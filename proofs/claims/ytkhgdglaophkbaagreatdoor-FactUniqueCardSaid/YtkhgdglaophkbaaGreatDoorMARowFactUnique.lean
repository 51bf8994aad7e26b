/- The law FactUnique: its row, out of the walk. -/
import Derived.Test.YtkhgdglaophkbaaGreatDoorMALiftFactUnique
import Derived.WalkKit
import Derived.ProofKit
import Derived.Test.YtkhgdglaophkbaaGreatDoorKFactMay
import Derived.Test.YtkhgdglaophkbaaGreatDoorKFactLifts
import Derived.Test.YtkhgdglaophkbaaGreatDoorKFactMake
namespace Go.Proofs.YtkhgdglaophkbaaGreatDoor.factUnique
open Go.ChangeShapes Go.WideShapes Go.ChangeAt Go.RowKit
set_option linter.unusedVariables false
theorem facts : joinedFacts Tryz.prog 4 Tryz.f4 Rows.factUniqueSpec Rows.factUniqueRow = true := by
  unfold joinedFacts
  rw [pf_may, pf_lifts, pf_make]
  kernel_rfl
theorem over : Rows.factUniqueRow.holds Tryz.pinned (OpenSpec.ofChange Rows.factUniqueSpec) :=
  OpenClaim.holds_of_wide 4 Tryz.f4 rfl rfl rfl rfl rfl rfl rfl ⟨rfl, rfl, rfl, rfl, rfl⟩ rfl rfl rfl rfl rfl (by kernel_rfl) Tryz.func4 facts
    (of_decide_eq_true (by kernel_rfl)) (by unfold Func.isWrapper; first | (rw [if_pos (by decide +kernel)]; kernel_rfl) | (rw [if_neg (by decide +kernel)]; exact ⟨rfl, rfl⟩))
    (fun os started H enc _ => lifted os started H enc)
theorem proved : Rows.FactUniqueSaid := over
end Go.Proofs.YtkhgdglaophkbaaGreatDoor.factUnique
