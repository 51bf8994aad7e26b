/-
  DERIVED. GIVEN WITH THE SEED: THE CARDS: each row of YtkhgdglaophkbaaGreatDoorRows.lean that lists a variable, with what it lists TIED to the program's text (the seventh form; the later family's looks); each row that meets fmt, with fmt's text TOLD by the authors' own Lean function (tested against real Go, not proved from fmt's source: count such statements apart). THE CARD IS WHAT COUNTS. Prove the row's statement (the work); the ties are given (YtkhgdglaophkbaaGreatDoorTie.lean); close each card by the builder's one call (the guide's Derived/Test/ToyasCard.lean, 'card_holds'). Laid BY PROGRAM, IN A SANDBOX (cutbox-door.mjs). By AI agents, Wed Nov 11 2026. No macro, syntax, notation, axiom, sorry.
-/
import Derived.Test.YtkhgdglaophkbaaGreatDoorRows
import GoSem.ClaimSeven
namespace Go.Proofs.YtkhgdglaophkbaaGreatDoor
namespace Rows

/-- THE TIED CARD OF 'copydesklaw05.FactRoundTrip'. -/
def factRoundTripCard : Claim7 := { stood := { row := factRoundTripRow, standIns := [], harness := (true, "84862029482d7787846424eaa97df8390166e85a7f51ff4207ffaa82796517b3"), looks := true }, kinds := [], alts := [], laidByText := true, laidKinds := [.data, .pinned], laidTests := true, laidLooks := .later }
def FactRoundTripCardSaid : Prop := Claim7.holds Tryz.pinned (.plain (OpenSpec.ofChange factRoundTripSpec)) factRoundTripCard

/-- THE TIED CARD OF 'copydesklaw05.FactUnique'. -/
def factUniqueCard : Claim7 := { stood := { row := factUniqueRow, standIns := [], harness := (true, "84862029482d7787846424eaa97df8390166e85a7f51ff4207ffaa82796517b3"), looks := true }, kinds := [], alts := [], laidByText := true, laidKinds := [.data, .pinned], laidTests := true, laidLooks := .later }
def FactUniqueCardSaid : Prop := Claim7.holds Tryz.pinned (.plain (OpenSpec.ofChange factUniqueSpec)) factUniqueCard

/-- THE TIED CARD OF 'copydesklaw05.FactTruncated'. -/
def factTruncatedCard : Claim7 := { stood := { row := factTruncatedRow, standIns := [], harness := (true, "84862029482d7787846424eaa97df8390166e85a7f51ff4207ffaa82796517b3"), looks := true }, kinds := [], alts := [], laidByText := true, laidKinds := [.data, .pinned], laidTests := true, laidLooks := .later }
def FactTruncatedCardSaid : Prop := Claim7.holds Tryz.pinned (.plain (OpenSpec.ofChange factTruncatedSpec)) factTruncatedCard

/-- THE TIED CARD OF 'copydesklaw05.FactInjective'. -/
def factInjectiveCard : Claim7 := { stood := { row := factInjectiveRow, standIns := [], harness := (true, "84862029482d7787846424eaa97df8390166e85a7f51ff4207ffaa82796517b3"), looks := true }, kinds := [], alts := [], laidByText := true, laidKinds := [.data, .pinned], laidTests := true, laidLooks := .later }
def FactInjectiveCardSaid : Prop := Claim7.holds Tryz.pinned (.plain (OpenSpec.ofChange factInjectiveSpec)) factInjectiveCard

/-- THE TIED CARD OF 'copydesklaw05.FactFields'. -/
def factFieldsCard : Claim7 := { stood := { row := factFieldsRow, standIns := [], harness := (true, "84862029482d7787846424eaa97df8390166e85a7f51ff4207ffaa82796517b3"), looks := true }, kinds := [], alts := [], laidByText := true, laidKinds := [.data, .pinned], laidTests := true, laidLooks := .later }
def FactFieldsCardSaid : Prop := Claim7.holds Tryz.pinned (.plain (OpenSpec.ofChange factFieldsSpec)) factFieldsCard

/-- THE TIED CARD OF 'copydesklaw05.FactRedact'. -/
def factRedactCard : Claim7 := { stood := { row := factRedactRow, standIns := [], harness := (true, "84862029482d7787846424eaa97df8390166e85a7f51ff4207ffaa82796517b3"), looks := true }, kinds := [], alts := [], laidByText := true, laidKinds := [.data, .pinned], laidTests := true, laidLooks := .later }
def FactRedactCardSaid : Prop := Claim7.holds Tryz.pinned (.plain (OpenSpec.ofChange factRedactSpec)) factRedactCard

/-- THE TIED CARD OF 'copydesklaw05.FactLists'. -/
def factListsCard : Claim7 := { stood := { row := factListsRow, standIns := [], harness := (true, "84862029482d7787846424eaa97df8390166e85a7f51ff4207ffaa82796517b3"), looks := true }, kinds := [], alts := [], laidByText := true, laidKinds := [.data, .pinned], laidTests := true, laidLooks := .later }
def FactListsCardSaid : Prop := Claim7.holds Tryz.pinned (.plain (OpenSpec.ofChange factListsSpec)) factListsCard

/-- THE SECOND FORM's CARD OF 'copydesklaw05.FactRoundTrip'. -/
def factRoundTripUptoCard : Claim7 := { stood := { row := factRoundTripUptoRow, standIns := [], harness := (true, "84862029482d7787846424eaa97df8390166e85a7f51ff4207ffaa82796517b3"), looks := true }, kinds := [], alts := [], laidByText := true, laidKinds := [.data, .pinned], laidTests := true, laidLooks := .later }
def FactRoundTripUptoCardSaid : Prop := Claim7.holds Tryz.pinned (.plain (OpenSpec.upto factRoundTripSpec)) factRoundTripUptoCard

/-- THE SECOND FORM's CARD OF 'copydesklaw05.FactUnique'. -/
def factUniqueUptoCard : Claim7 := { stood := { row := factUniqueUptoRow, standIns := [], harness := (true, "84862029482d7787846424eaa97df8390166e85a7f51ff4207ffaa82796517b3"), looks := true }, kinds := [], alts := [], laidByText := true, laidKinds := [.data, .pinned], laidTests := true, laidLooks := .later }
def FactUniqueUptoCardSaid : Prop := Claim7.holds Tryz.pinned (.plain (OpenSpec.upto factUniqueSpec)) factUniqueUptoCard

/-- THE SECOND FORM's CARD OF 'copydesklaw05.FactTruncated'. -/
def factTruncatedUptoCard : Claim7 := { stood := { row := factTruncatedUptoRow, standIns := [], harness := (true, "84862029482d7787846424eaa97df8390166e85a7f51ff4207ffaa82796517b3"), looks := true }, kinds := [], alts := [], laidByText := true, laidKinds := [.data, .pinned], laidTests := true, laidLooks := .later }
def FactTruncatedUptoCardSaid : Prop := Claim7.holds Tryz.pinned (.plain (OpenSpec.upto factTruncatedSpec)) factTruncatedUptoCard

/-- THE SECOND FORM's CARD OF 'copydesklaw05.FactInjective'. -/
def factInjectiveUptoCard : Claim7 := { stood := { row := factInjectiveUptoRow, standIns := [], harness := (true, "84862029482d7787846424eaa97df8390166e85a7f51ff4207ffaa82796517b3"), looks := true }, kinds := [], alts := [], laidByText := true, laidKinds := [.data, .pinned], laidTests := true, laidLooks := .later }
def FactInjectiveUptoCardSaid : Prop := Claim7.holds Tryz.pinned (.plain (OpenSpec.upto factInjectiveSpec)) factInjectiveUptoCard

/-- THE SECOND FORM's CARD OF 'copydesklaw05.FactFields'. -/
def factFieldsUptoCard : Claim7 := { stood := { row := factFieldsUptoRow, standIns := [], harness := (true, "84862029482d7787846424eaa97df8390166e85a7f51ff4207ffaa82796517b3"), looks := true }, kinds := [], alts := [], laidByText := true, laidKinds := [.data, .pinned], laidTests := true, laidLooks := .later }
def FactFieldsUptoCardSaid : Prop := Claim7.holds Tryz.pinned (.plain (OpenSpec.upto factFieldsSpec)) factFieldsUptoCard

/-- THE SECOND FORM's CARD OF 'copydesklaw05.FactRedact'. -/
def factRedactUptoCard : Claim7 := { stood := { row := factRedactUptoRow, standIns := [], harness := (true, "84862029482d7787846424eaa97df8390166e85a7f51ff4207ffaa82796517b3"), looks := true }, kinds := [], alts := [], laidByText := true, laidKinds := [.data, .pinned], laidTests := true, laidLooks := .later }
def FactRedactUptoCardSaid : Prop := Claim7.holds Tryz.pinned (.plain (OpenSpec.upto factRedactSpec)) factRedactUptoCard

/-- THE SECOND FORM's CARD OF 'copydesklaw05.FactLists'. -/
def factListsUptoCard : Claim7 := { stood := { row := factListsUptoRow, standIns := [], harness := (true, "84862029482d7787846424eaa97df8390166e85a7f51ff4207ffaa82796517b3"), looks := true }, kinds := [], alts := [], laidByText := true, laidKinds := [.data, .pinned], laidTests := true, laidLooks := .later }
def FactListsUptoCardSaid : Prop := Claim7.holds Tryz.pinned (.plain (OpenSpec.upto factListsSpec)) factListsUptoCard
end Rows
end Go.Proofs.YtkhgdglaophkbaaGreatDoor
