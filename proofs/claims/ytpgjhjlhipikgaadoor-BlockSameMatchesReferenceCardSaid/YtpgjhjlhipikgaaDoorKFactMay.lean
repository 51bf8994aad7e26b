/- A closed fact of the program, by the kernel, in a text of its own: it wants much memory. -/
import Derived.Test.YtpgjhjlhipikgaaDoorRows
import Derived.KernelRfl
namespace Go.Proofs.YtpgjhjlhipikgaaDoor
theorem pf_may : Tryd.prog.mayEnter = true := by kernel_rfl
end Go.Proofs.YtpgjhjlhipikgaaDoor
