/- A closed fact of the program, by the kernel, in a text of its own: it wants much memory. -/
import Derived.Test.YtpgjhjlhipikgaaDoorRows
import Derived.KernelRfl
namespace Go.Proofs.YtpgjhjlhipikgaaDoor
theorem pf_make : Tryd.prog.make = some Rows.blockValidMatchesReferenceRow.make := by kernel_rfl
end Go.Proofs.YtpgjhjlhipikgaaDoor
