/- A closed fact of the program, by the kernel, in a text of its own: it wants much memory. -/
import Derived.Test.YtpgjhjlhipikgaaDoorCards
import Derived.KernelRfl
namespace Go.Proofs.YtpgjhjlhipikgaaDoor
theorem pf_main : Tryd.prog.mainIs = some (Rows.blockValidMatchesReferenceCard.stood.harness.1, Rows.blockValidMatchesReferenceCard.stood.harness.2.toList) := by kernel_rfl
end Go.Proofs.YtpgjhjlhipikgaaDoor
