/- The law BlockSameMatchesReference: it holds for every input: it returns true, and the input reads as it did; the listed variables are tied to the program's text. -/
import Derived.Test.YtpgjhjlhipikgaaDoorMGRowBlockSameMatchesReference
import Derived.SevenTiedAt
import Derived.Test.YtpgjhjlhipikgaaDoorTie
import Derived.Test.YtpgjhjlhipikgaaDoorCards
import Derived.Test.YtpgjhjlhipikgaaDoorKFactMain
namespace Go.Proofs.YtpgjhjlhipikgaaDoor
open Go.ChangeShapes Go.WideShapes Go.ChangeAt Go.RowKit
/-- The tied card of the row. -/
theorem blockSameMatchesReference_card : Rows.BlockSameMatchesReferenceCardSaid :=
  Claim7.holds_tied_plain_at .later [] [.data, .pinned] true (true, "74714fd6e1e6c10412f81196d54a8ba3e06529d4b3b8db7c7663c55f3446e11d") false
    blockSameMatchesReference.proved (fun _ h => by cases h) (by kernel_rfl) (fun _ h => by cases h) blockSameMatchesReference_row_tie rfl ⟨rfl, rfl⟩ pf_main rfl
    (fun f fn hf hfn => by
      obtain rfl : f = 4 := Option.some.inj ((show Tryd.prog.funcNamed "copydesk/copydesklaw03.BlockSameMatchesReference" = some 4 by kernel_rfl).symm.trans hf) |>.symm
      obtain rfl : fn = Tryd.f4 := (Option.some.inj (Tryd.func4.symm.trans hfn)).symm
      exact ⟨by kernel_rfl, fun j t ht => by
        rw [Tryd.params4] at ht
        have hm : t ∈ [27, 27] := by simpa using Array.mem_of_getElem? ht
        have hall : ([27, 27].all fun u => !Tryd.prog.wantsStandIn u) = true := by kernel_rfl
        exact (show Tryd.prog.wantsStandIn t = false by simpa using List.all_eq_true.1 hall t hm)⟩)
    (by kernel_rfl)
#print axioms blockSameMatchesReference_card
end Go.Proofs.YtpgjhjlhipikgaaDoor
