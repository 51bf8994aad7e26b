/-
  NARROWER THAN 'FOR EVERY INPUT', by the rows' own cells (each row's printed sentence says how): FactRoundTrip: laid · FactUnique: laid · FactTruncated: laid · FactInjective: laid · FactFields: laid · FactRedact: laid · FactLists: laid.
  DERIVED. THE GIVEN ROWS OF THIS SEAT. 7 by the template 'for every input the law returns true; each argument reads behind the call as it read before'; 0 by the template 'total and deterministic' (their statements: YtkhgdglaophkbaaGreatDoorTotals.lean).
  GIVEN WITH THE SEED: the statements are not yours to turn. If you find one false, say at which input.
  Laid BY PROGRAM, IN A SANDBOX (cutbox-rows.mjs): the forced cells as the released guide's own fill.sh prints them over the translation f66874142ddb75bb… (all of the seat's roots in one cut). By AI agents, Wed Nov 11 2026. No macro, syntax, notation, axiom, sorry.
-/
import Derived.Test.YtkhgdglaophkbaaGreatDoorChecked
import GoSem.PinnedTables
import GoSem.Claim
import GoSem.ClaimJoined
import GoSem.ClaimMapViews
import Derived.JoinedTies
import Derived.KernelRfl
namespace Go.Proofs.YtkhgdglaophkbaaGreatDoor
/- THE CELL 'sum', in the pinned program and in every row, IS THE sha256 OF THE DUMP (.gsa) THAT YtkhgdglaophkbaaGreatDoorProg.lean LOADS. Nothing in Lean hashes anything: it is a label: what it is worth is what the hold of that sum in a sandbox is worth. -/
noncomputable def Tryz.pinned : Pinned := { name := "ytkhgdglaophkbaagreatdoor", sum := "f66874142ddb75bb27d136be8992a8808beec8a20236ff8b6d13cbaf9c67fc94", checked := Tryz.checked }
namespace Rows
def none {H : Type} : Left H := { results := [], args := [] }

/- WHAT THE LISTED PACKAGE-LEVEL VARIABLES READ AS WHEN THE CALL BEGINS. Each datum BY PROGRAM (the guide's laid-datum.mjs) off the statement by which the dump's own 'gosem.cut.vars' lays the variable. In a bare row this is a premise. The card (YtkhgdglaophkbaaGreatDoorCards.lean) ties it to the program's text. -/
def laid_unicode_utf8_acceptRanges {H : Type} : DataW H := .agg [.agg [.lit (.int .u8 128), .lit (.int .u8 191)], .agg [.lit (.int .u8 160), .lit (.int .u8 191)], .agg [.lit (.int .u8 128), .lit (.int .u8 159)], .agg [.lit (.int .u8 144), .lit (.int .u8 191)], .agg [.lit (.int .u8 128), .lit (.int .u8 143)], .agg [.lit (.int .u8 0), .lit (.int .u8 0)], .agg [.lit (.int .u8 0), .lit (.int .u8 0)], .agg [.lit (.int .u8 0), .lit (.int .u8 0)], .agg [.lit (.int .u8 0), .lit (.int .u8 0)], .agg [.lit (.int .u8 0), .lit (.int .u8 0)], .agg [.lit (.int .u8 0), .lit (.int .u8 0)], .agg [.lit (.int .u8 0), .lit (.int .u8 0)], .agg [.lit (.int .u8 0), .lit (.int .u8 0)], .agg [.lit (.int .u8 0), .lit (.int .u8 0)], .agg [.lit (.int .u8 0), .lit (.int .u8 0)], .agg [.lit (.int .u8 0), .lit (.int .u8 0)]]
/-- One of Go's own tables, pinned by name: the form's constant. -/
def laid_unicode_utf8_first : DataW Unit := Go.Pinned.utf8First

/-- 'copydesklaw05.FactRoundTrip': WHATEVER THE INPUT: true; the input reads as it did. -/
def factRoundTripSpec : ChangeSpec := { name := "factRoundTrip", fn := fun _ => fun
  | [d] => { results := [.lit (.bool true)], args := [d] }
  | _ => none }
def factRoundTripRow : OpenClaim := { program := "ytkhgdglaophkbaagreatdoor", sum := "f66874142ddb75bb27d136be8992a8808beec8a20236ff8b6d13cbaf9c67fc94", func := "copydesk/copydesklaw05.FactRoundTrip", spec := "factRoundTrip", inPlace := ["internal/bytealg.IndexByteString", "internal/bytealg.IndexString", "internal/abi.NoEscape", "internal/bytealg.MakeNoZero"], unfollowed := true, recurses := true, named := ["internal/bytealg.MaxLen", "unicode/utf8.first", "unicode/utf8.acceptRanges"], apart := false, laid := [("unicode/utf8.acceptRanges", laid_unicode_utf8_acceptRanges), ("unicode/utf8.first", laid_unicode_utf8_first)] }
def FactRoundTripSaid : Prop := factRoundTripRow.holds Tryz.pinned (OpenSpec.ofChange factRoundTripSpec)

/-- ITS FALSE NEIGHBOUR: 'it returns false'. Refute it at one input. -/
def factRoundTripWrong : ChangeSpec := { name := "factRoundTrip", fn := fun _ => fun
  | [d] => { results := [.lit (.bool false)], args := [d] }
  | _ => none }
def FactRoundTripWrongFalsely : Prop := factRoundTripRow.holds Tryz.pinned (OpenSpec.ofChange factRoundTripWrong)

/-- 'copydesklaw05.FactUnique': WHATEVER THE INPUT: true; the input reads as it did. -/
def factUniqueSpec : ChangeSpec := { name := "factUnique", fn := fun _ => fun
  | [d] => { results := [.lit (.bool true)], args := [d] }
  | _ => none }
def factUniqueRow : OpenClaim := { program := "ytkhgdglaophkbaagreatdoor", sum := "f66874142ddb75bb27d136be8992a8808beec8a20236ff8b6d13cbaf9c67fc94", func := "copydesk/copydesklaw05.FactUnique", spec := "factUnique", inPlace := ["internal/bytealg.IndexByteString", "internal/bytealg.IndexString", "internal/abi.NoEscape", "internal/bytealg.MakeNoZero"], unfollowed := true, recurses := true, named := ["internal/bytealg.MaxLen", "unicode/utf8.first", "unicode/utf8.acceptRanges"], apart := false, laid := [("unicode/utf8.acceptRanges", laid_unicode_utf8_acceptRanges), ("unicode/utf8.first", laid_unicode_utf8_first)] }
def FactUniqueSaid : Prop := factUniqueRow.holds Tryz.pinned (OpenSpec.ofChange factUniqueSpec)

/-- ITS FALSE NEIGHBOUR: 'it returns false'. Refute it at one input. -/
def factUniqueWrong : ChangeSpec := { name := "factUnique", fn := fun _ => fun
  | [d] => { results := [.lit (.bool false)], args := [d] }
  | _ => none }
def FactUniqueWrongFalsely : Prop := factUniqueRow.holds Tryz.pinned (OpenSpec.ofChange factUniqueWrong)

/-- 'copydesklaw05.FactTruncated': WHATEVER THE INPUT: true; the input reads as it did. -/
def factTruncatedSpec : ChangeSpec := { name := "factTruncated", fn := fun _ => fun
  | [d1, d2, d3] => { results := [.lit (.bool true)], args := [d1, d2, d3] }
  | _ => none }
def factTruncatedRow : OpenClaim := { program := "ytkhgdglaophkbaagreatdoor", sum := "f66874142ddb75bb27d136be8992a8808beec8a20236ff8b6d13cbaf9c67fc94", func := "copydesk/copydesklaw05.FactTruncated", spec := "factTruncated", inPlace := ["internal/bytealg.IndexByteString", "internal/bytealg.IndexString", "internal/abi.NoEscape", "internal/bytealg.MakeNoZero"], unfollowed := true, recurses := true, named := ["internal/bytealg.MaxLen", "unicode/utf8.first", "unicode/utf8.acceptRanges"], apart := false, laid := [("unicode/utf8.acceptRanges", laid_unicode_utf8_acceptRanges), ("unicode/utf8.first", laid_unicode_utf8_first)] }
def FactTruncatedSaid : Prop := factTruncatedRow.holds Tryz.pinned (OpenSpec.ofChange factTruncatedSpec)

/-- ITS FALSE NEIGHBOUR: 'it returns false'. Refute it at one input. -/
def factTruncatedWrong : ChangeSpec := { name := "factTruncated", fn := fun _ => fun
  | [d1, d2, d3] => { results := [.lit (.bool false)], args := [d1, d2, d3] }
  | _ => none }
def FactTruncatedWrongFalsely : Prop := factTruncatedRow.holds Tryz.pinned (OpenSpec.ofChange factTruncatedWrong)

/-- 'copydesklaw05.FactInjective': WHATEVER THE INPUT: true; the input reads as it did. -/
def factInjectiveSpec : ChangeSpec := { name := "factInjective", fn := fun _ => fun
  | [d1, d2, d3] => { results := [.lit (.bool true)], args := [d1, d2, d3] }
  | _ => none }
def factInjectiveRow : OpenClaim := { program := "ytkhgdglaophkbaagreatdoor", sum := "f66874142ddb75bb27d136be8992a8808beec8a20236ff8b6d13cbaf9c67fc94", func := "copydesk/copydesklaw05.FactInjective", spec := "factInjective", inPlace := ["internal/bytealg.IndexByteString", "internal/bytealg.IndexString", "internal/abi.NoEscape", "internal/bytealg.MakeNoZero"], unfollowed := true, recurses := true, named := ["internal/bytealg.MaxLen", "unicode/utf8.first", "unicode/utf8.acceptRanges"], apart := false, laid := [("unicode/utf8.acceptRanges", laid_unicode_utf8_acceptRanges), ("unicode/utf8.first", laid_unicode_utf8_first)] }
def FactInjectiveSaid : Prop := factInjectiveRow.holds Tryz.pinned (OpenSpec.ofChange factInjectiveSpec)

/-- ITS FALSE NEIGHBOUR: 'it returns false'. Refute it at one input. -/
def factInjectiveWrong : ChangeSpec := { name := "factInjective", fn := fun _ => fun
  | [d1, d2, d3] => { results := [.lit (.bool false)], args := [d1, d2, d3] }
  | _ => none }
def FactInjectiveWrongFalsely : Prop := factInjectiveRow.holds Tryz.pinned (OpenSpec.ofChange factInjectiveWrong)

/-- 'copydesklaw05.FactFields': WHATEVER THE INPUT: true; the input reads as it did. -/
def factFieldsSpec : ChangeSpec := { name := "factFields", fn := fun _ => fun
  | [d1, d2] => { results := [.lit (.bool true)], args := [d1, d2] }
  | _ => none }
def factFieldsRow : OpenClaim := { program := "ytkhgdglaophkbaagreatdoor", sum := "f66874142ddb75bb27d136be8992a8808beec8a20236ff8b6d13cbaf9c67fc94", func := "copydesk/copydesklaw05.FactFields", spec := "factFields", inPlace := ["internal/bytealg.IndexByteString", "internal/bytealg.IndexString", "internal/abi.NoEscape", "internal/bytealg.MakeNoZero"], unfollowed := true, recurses := true, named := ["internal/bytealg.MaxLen", "unicode/utf8.first", "unicode/utf8.acceptRanges"], apart := false, laid := [("unicode/utf8.acceptRanges", laid_unicode_utf8_acceptRanges), ("unicode/utf8.first", laid_unicode_utf8_first)] }
def FactFieldsSaid : Prop := factFieldsRow.holds Tryz.pinned (OpenSpec.ofChange factFieldsSpec)

/-- ITS FALSE NEIGHBOUR: 'it returns false'. Refute it at one input. -/
def factFieldsWrong : ChangeSpec := { name := "factFields", fn := fun _ => fun
  | [d1, d2] => { results := [.lit (.bool false)], args := [d1, d2] }
  | _ => none }
def FactFieldsWrongFalsely : Prop := factFieldsRow.holds Tryz.pinned (OpenSpec.ofChange factFieldsWrong)

/-- 'copydesklaw05.FactRedact': WHATEVER THE INPUT: true; the input reads as it did. -/
def factRedactSpec : ChangeSpec := { name := "factRedact", fn := fun _ => fun
  | [d1, d2] => { results := [.lit (.bool true)], args := [d1, d2] }
  | _ => none }
def factRedactRow : OpenClaim := { program := "ytkhgdglaophkbaagreatdoor", sum := "f66874142ddb75bb27d136be8992a8808beec8a20236ff8b6d13cbaf9c67fc94", func := "copydesk/copydesklaw05.FactRedact", spec := "factRedact", inPlace := ["internal/bytealg.IndexByteString", "internal/bytealg.IndexString", "internal/abi.NoEscape", "internal/bytealg.MakeNoZero"], unfollowed := true, recurses := true, named := ["internal/bytealg.MaxLen", "unicode/utf8.first", "unicode/utf8.acceptRanges"], apart := false, laid := [("unicode/utf8.acceptRanges", laid_unicode_utf8_acceptRanges), ("unicode/utf8.first", laid_unicode_utf8_first)] }
def FactRedactSaid : Prop := factRedactRow.holds Tryz.pinned (OpenSpec.ofChange factRedactSpec)

/-- ITS FALSE NEIGHBOUR: 'it returns false'. Refute it at one input. -/
def factRedactWrong : ChangeSpec := { name := "factRedact", fn := fun _ => fun
  | [d1, d2] => { results := [.lit (.bool false)], args := [d1, d2] }
  | _ => none }
def FactRedactWrongFalsely : Prop := factRedactRow.holds Tryz.pinned (OpenSpec.ofChange factRedactWrong)

/-- 'copydesklaw05.FactLists': WHATEVER THE INPUT: true; the input reads as it did. -/
def factListsSpec : ChangeSpec := { name := "factLists", fn := fun _ => fun
  | [d1, d2, d3] => { results := [.lit (.bool true)], args := [d1, d2, d3] }
  | _ => none }
def factListsRow : OpenClaim := { program := "ytkhgdglaophkbaagreatdoor", sum := "f66874142ddb75bb27d136be8992a8808beec8a20236ff8b6d13cbaf9c67fc94", func := "copydesk/copydesklaw05.FactLists", spec := "factLists", inPlace := ["internal/bytealg.IndexByteString", "internal/bytealg.IndexString", "internal/abi.NoEscape", "internal/bytealg.MakeNoZero"], unfollowed := true, recurses := true, named := ["internal/bytealg.MaxLen", "unicode/utf8.first", "unicode/utf8.acceptRanges"], apart := false, laid := [("unicode/utf8.acceptRanges", laid_unicode_utf8_acceptRanges), ("unicode/utf8.first", laid_unicode_utf8_first)] }
def FactListsSaid : Prop := factListsRow.holds Tryz.pinned (OpenSpec.ofChange factListsSpec)

/-- ITS FALSE NEIGHBOUR: 'it returns false'. Refute it at one input. -/
def factListsWrong : ChangeSpec := { name := "factLists", fn := fun _ => fun
  | [d1, d2, d3] => { results := [.lit (.bool false)], args := [d1, d2, d3] }
  | _ => none }
def FactListsWrongFalsely : Prop := factListsRow.holds Tryz.pinned (OpenSpec.ofChange factListsWrong)

/- THE SECOND FORM. 'bulk': how many values and letters a reading holds, each counted each time it is reached (what is shared counts as often as it is met; a slice's spare places count too). A statement '..UptoSaid' is the law's where the arguments, and the package variables that the reading takes, are together of bulk at most 1048576: NARROWER than '..Said'. Prove '..Said' where nothing that the law and all that it calls make is longer than what came in: it says more and counts as full. Else prove '..UptoSaid'. A law counts once. -/
mutual
def uptoBulk {H : Type} : DataW H → Nat
  | .lit (.string bytes) => bytes.length + 1
  | .lit _ => 1
  | .nil => 1
  | .ptr d => uptoBulk d + 1
  | .slice elems spare => uptoBulkAll elems + uptoBulkAll spare + 1
  | .agg parts => uptoBulkAll parts + 1
  | .iface _ d => uptoBulk d + 1
  | .map entries => uptoBulkEntries entries + 1
  | .held _ => 1
def uptoBulkAll {H : Type} : List (DataW H) → Nat
  | [] => 0
  | d :: r => uptoBulk d + uptoBulkAll r
def uptoBulkEntries {H : Type} : List (Lit × DataW H) → Nat
  | [] => 0
  | x :: r => uptoBulkEntry x + uptoBulkEntries r
def uptoBulkEntry {H : Type} : Lit × DataW H → Nat
  | (.string bytes, d) => bytes.length + uptoBulk d + 1
  | (_, d) => uptoBulk d + 1
 end
def uptoSmall : (H : Type) → List (DataW H) → Bool := fun _ ds => decide (uptoBulkAll ds ≤ 1048576)
def OpenSpec.upto (s : _root_.Go.ChangeSpec) : _root_.Go.OpenSpec := { _root_.Go.OpenSpec.ofChange s with cond := some uptoSmall }

/-- 'copydesklaw05.FactRoundTrip', WHERE WHAT IT READS IS OF BULK AT MOST 1048576: true; the input reads as it did. -/
def factRoundTripUptoRow : OpenClaim := { program := "ytkhgdglaophkbaagreatdoor", sum := "f66874142ddb75bb27d136be8992a8808beec8a20236ff8b6d13cbaf9c67fc94", func := "copydesk/copydesklaw05.FactRoundTrip", spec := "factRoundTrip", inPlace := ["internal/bytealg.IndexByteString", "internal/bytealg.IndexString", "internal/abi.NoEscape", "internal/bytealg.MakeNoZero"], unfollowed := true, recurses := true, named := ["internal/bytealg.MaxLen", "unicode/utf8.first", "unicode/utf8.acceptRanges"], apart := false, laid := [("unicode/utf8.acceptRanges", laid_unicode_utf8_acceptRanges), ("unicode/utf8.first", laid_unicode_utf8_first)], narrowed := true }
def FactRoundTripUptoSaid : Prop := factRoundTripUptoRow.holds Tryz.pinned (OpenSpec.upto factRoundTripSpec)

/-- 'copydesklaw05.FactUnique', WHERE WHAT IT READS IS OF BULK AT MOST 1048576: true; the input reads as it did. -/
def factUniqueUptoRow : OpenClaim := { program := "ytkhgdglaophkbaagreatdoor", sum := "f66874142ddb75bb27d136be8992a8808beec8a20236ff8b6d13cbaf9c67fc94", func := "copydesk/copydesklaw05.FactUnique", spec := "factUnique", inPlace := ["internal/bytealg.IndexByteString", "internal/bytealg.IndexString", "internal/abi.NoEscape", "internal/bytealg.MakeNoZero"], unfollowed := true, recurses := true, named := ["internal/bytealg.MaxLen", "unicode/utf8.first", "unicode/utf8.acceptRanges"], apart := false, laid := [("unicode/utf8.acceptRanges", laid_unicode_utf8_acceptRanges), ("unicode/utf8.first", laid_unicode_utf8_first)], narrowed := true }
def FactUniqueUptoSaid : Prop := factUniqueUptoRow.holds Tryz.pinned (OpenSpec.upto factUniqueSpec)

/-- 'copydesklaw05.FactTruncated', WHERE WHAT IT READS IS OF BULK AT MOST 1048576: true; the input reads as it did. -/
def factTruncatedUptoRow : OpenClaim := { program := "ytkhgdglaophkbaagreatdoor", sum := "f66874142ddb75bb27d136be8992a8808beec8a20236ff8b6d13cbaf9c67fc94", func := "copydesk/copydesklaw05.FactTruncated", spec := "factTruncated", inPlace := ["internal/bytealg.IndexByteString", "internal/bytealg.IndexString", "internal/abi.NoEscape", "internal/bytealg.MakeNoZero"], unfollowed := true, recurses := true, named := ["internal/bytealg.MaxLen", "unicode/utf8.first", "unicode/utf8.acceptRanges"], apart := false, laid := [("unicode/utf8.acceptRanges", laid_unicode_utf8_acceptRanges), ("unicode/utf8.first", laid_unicode_utf8_first)], narrowed := true }
def FactTruncatedUptoSaid : Prop := factTruncatedUptoRow.holds Tryz.pinned (OpenSpec.upto factTruncatedSpec)

/-- 'copydesklaw05.FactInjective', WHERE WHAT IT READS IS OF BULK AT MOST 1048576: true; the input reads as it did. -/
def factInjectiveUptoRow : OpenClaim := { program := "ytkhgdglaophkbaagreatdoor", sum := "f66874142ddb75bb27d136be8992a8808beec8a20236ff8b6d13cbaf9c67fc94", func := "copydesk/copydesklaw05.FactInjective", spec := "factInjective", inPlace := ["internal/bytealg.IndexByteString", "internal/bytealg.IndexString", "internal/abi.NoEscape", "internal/bytealg.MakeNoZero"], unfollowed := true, recurses := true, named := ["internal/bytealg.MaxLen", "unicode/utf8.first", "unicode/utf8.acceptRanges"], apart := false, laid := [("unicode/utf8.acceptRanges", laid_unicode_utf8_acceptRanges), ("unicode/utf8.first", laid_unicode_utf8_first)], narrowed := true }
def FactInjectiveUptoSaid : Prop := factInjectiveUptoRow.holds Tryz.pinned (OpenSpec.upto factInjectiveSpec)

/-- 'copydesklaw05.FactFields', WHERE WHAT IT READS IS OF BULK AT MOST 1048576: true; the input reads as it did. -/
def factFieldsUptoRow : OpenClaim := { program := "ytkhgdglaophkbaagreatdoor", sum := "f66874142ddb75bb27d136be8992a8808beec8a20236ff8b6d13cbaf9c67fc94", func := "copydesk/copydesklaw05.FactFields", spec := "factFields", inPlace := ["internal/bytealg.IndexByteString", "internal/bytealg.IndexString", "internal/abi.NoEscape", "internal/bytealg.MakeNoZero"], unfollowed := true, recurses := true, named := ["internal/bytealg.MaxLen", "unicode/utf8.first", "unicode/utf8.acceptRanges"], apart := false, laid := [("unicode/utf8.acceptRanges", laid_unicode_utf8_acceptRanges), ("unicode/utf8.first", laid_unicode_utf8_first)], narrowed := true }
def FactFieldsUptoSaid : Prop := factFieldsUptoRow.holds Tryz.pinned (OpenSpec.upto factFieldsSpec)

/-- 'copydesklaw05.FactRedact', WHERE WHAT IT READS IS OF BULK AT MOST 1048576: true; the input reads as it did. -/
def factRedactUptoRow : OpenClaim := { program := "ytkhgdglaophkbaagreatdoor", sum := "f66874142ddb75bb27d136be8992a8808beec8a20236ff8b6d13cbaf9c67fc94", func := "copydesk/copydesklaw05.FactRedact", spec := "factRedact", inPlace := ["internal/bytealg.IndexByteString", "internal/bytealg.IndexString", "internal/abi.NoEscape", "internal/bytealg.MakeNoZero"], unfollowed := true, recurses := true, named := ["internal/bytealg.MaxLen", "unicode/utf8.first", "unicode/utf8.acceptRanges"], apart := false, laid := [("unicode/utf8.acceptRanges", laid_unicode_utf8_acceptRanges), ("unicode/utf8.first", laid_unicode_utf8_first)], narrowed := true }
def FactRedactUptoSaid : Prop := factRedactUptoRow.holds Tryz.pinned (OpenSpec.upto factRedactSpec)

/-- 'copydesklaw05.FactLists', WHERE WHAT IT READS IS OF BULK AT MOST 1048576: true; the input reads as it did. -/
def factListsUptoRow : OpenClaim := { program := "ytkhgdglaophkbaagreatdoor", sum := "f66874142ddb75bb27d136be8992a8808beec8a20236ff8b6d13cbaf9c67fc94", func := "copydesk/copydesklaw05.FactLists", spec := "factLists", inPlace := ["internal/bytealg.IndexByteString", "internal/bytealg.IndexString", "internal/abi.NoEscape", "internal/bytealg.MakeNoZero"], unfollowed := true, recurses := true, named := ["internal/bytealg.MaxLen", "unicode/utf8.first", "unicode/utf8.acceptRanges"], apart := false, laid := [("unicode/utf8.acceptRanges", laid_unicode_utf8_acceptRanges), ("unicode/utf8.first", laid_unicode_utf8_first)], narrowed := true }
def FactListsUptoSaid : Prop := factListsUptoRow.holds Tryz.pinned (OpenSpec.upto factListsSpec)

end Rows
end Go.Proofs.YtkhgdglaophkbaaGreatDoor
