/- A closed fact of the program, by the kernel, in a text of its own: it wants much memory. -/
import Derived.Test.YtpgjhjlhipikgaaDoorRows
import Derived.KernelRfl
namespace Go.Proofs.YtpgjhjlhipikgaaDoor
theorem pf_lifts : Tryd.prog.liftsFinal = Rows.blockValidMatchesReferenceRow.lifted := by kernel_rfl
end Go.Proofs.YtpgjhjlhipikgaaDoor
