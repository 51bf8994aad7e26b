/- A closed fact of the program, by the kernel, in a text of its own: it wants much memory. -/
import Derived.Test.YtkhgdglaophkbaaGreatDoorCards
import Derived.KernelRfl
namespace Go.Proofs.YtkhgdglaophkbaaGreatDoor
theorem pf_main : Tryz.prog.mainIs = some (Rows.factRoundTripCard.stood.harness.1, Rows.factRoundTripCard.stood.harness.2.toList) := by kernel_rfl
end Go.Proofs.YtkhgdglaophkbaaGreatDoor
