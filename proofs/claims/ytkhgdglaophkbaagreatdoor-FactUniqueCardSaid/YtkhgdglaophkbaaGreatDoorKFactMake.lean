/- A closed fact of the program, by the kernel, in a text of its own: it wants much memory. -/
import Derived.Test.YtkhgdglaophkbaaGreatDoorRows
import Derived.KernelRfl
namespace Go.Proofs.YtkhgdglaophkbaaGreatDoor
theorem pf_make : Tryz.prog.make = some Rows.factRoundTripRow.make := by kernel_rfl
end Go.Proofs.YtkhgdglaophkbaaGreatDoor
