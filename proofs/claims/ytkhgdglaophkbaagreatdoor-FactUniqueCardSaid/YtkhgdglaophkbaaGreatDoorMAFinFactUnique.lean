/- The law FactUnique: it holds for every input: it returns true, and the input reads as it did; the listed variables are tied to the program's text. -/
import Derived.Test.YtkhgdglaophkbaaGreatDoorMARowFactUnique
import Derived.SevenTiedAt
import Derived.Test.YtkhgdglaophkbaaGreatDoorTie
import Derived.Test.YtkhgdglaophkbaaGreatDoorCards
import Derived.Test.YtkhgdglaophkbaaGreatDoorKFactMain
namespace Go.Proofs.YtkhgdglaophkbaaGreatDoor
open Go.ChangeShapes Go.WideShapes Go.ChangeAt Go.RowKit
/-- The tied card of the row. -/
theorem factUnique_card : Rows.FactUniqueCardSaid :=
  Claim7.holds_tied_plain_at .later [] [.data, .pinned] true (true, "84862029482d7787846424eaa97df8390166e85a7f51ff4207ffaa82796517b3") true
    factUnique.proved (fun _ h => by cases h) (by kernel_rfl) (fun _ h => by cases h) factUnique_row_tie rfl ⟨rfl, rfl⟩ pf_main rfl
    (fun f fn hf hfn => by
      obtain rfl : f = 4 := Option.some.inj ((show Tryz.prog.funcNamed "copydesk/copydesklaw05.FactUnique" = some 4 by kernel_rfl).symm.trans hf) |>.symm
      obtain rfl : fn = Tryz.f4 := (Option.some.inj (Tryz.func4.symm.trans hfn)).symm
      exact ⟨by kernel_rfl, fun j t ht => by
        rw [Tryz.params4] at ht
        have hm : t ∈ [9] := by simpa using Array.mem_of_getElem? ht
        have hall : ([9].all fun u => !Tryz.prog.wantsStandIn u) = true := by kernel_rfl
        exact (show Tryz.prog.wantsStandIn t = false by simpa using List.all_eq_true.1 hall t hm)⟩)
    (by kernel_rfl)
#print axioms factUnique_card
end Go.Proofs.YtkhgdglaophkbaaGreatDoor
