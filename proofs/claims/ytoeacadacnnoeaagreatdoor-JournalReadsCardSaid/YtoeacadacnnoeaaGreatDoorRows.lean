/-
  NARROWER THAN 'FOR EVERY INPUT', by the rows' own cells (each row's printed sentence says how): ManagerNone: laid · JournalDiffs: laid · JournalCodes: laid · JournalBytes: laid · JournalKnown: laid · JournalReads: laid · JournalCuts: laid.
  DERIVED. THE GIVEN ROWS OF THIS SEAT. 7 by the template 'for every input the law returns true; each argument reads behind the call as it read before'; 0 by the template 'total and deterministic' (their statements: YtoeacadacnnoeaaGreatDoorTotals.lean).
  GIVEN WITH THE SEED: the statements are not yours to turn. If you find one false, say at which input.
  Laid BY PROGRAM, IN A SANDBOX (cutbox-rows.mjs): the forced cells as the released guide's own fill.sh prints them over the translation 424129ddf9eb9142… (all of the seat's roots in one cut). By AI agents, Wed Nov 11 2026. No macro, syntax, notation, axiom, sorry.
-/
import Derived.Test.YtoeacadacnnoeaaGreatDoorChecked
import GoSem.Claim
import GoSem.ClaimJoined
import GoSem.ClaimMapViews
import Derived.JoinedTies
import Derived.KernelRfl
namespace Go.Proofs.YtoeacadacnnoeaaGreatDoor
/- THE CELL 'sum', in the pinned program and in every row, IS THE sha256 OF THE DUMP (.gsa) THAT YtoeacadacnnoeaaGreatDoorProg.lean LOADS. Nothing in Lean hashes anything: it is a label: what it is worth is what the hold of that sum in a sandbox is worth. -/
noncomputable def Tryz.pinned : Pinned := { name := "ytoeacadacnnoeaagreatdoor", sum := "424129ddf9eb9142eed56e3250d0ffb288b955667efe7703fecacffd62c4301e", checked := Tryz.checked }
namespace Rows
def none {H : Type} : Left H := { results := [], args := [] }

/- WHAT THE LISTED PACKAGE-LEVEL VARIABLES READ AS WHEN THE CALL BEGINS. Each datum BY PROGRAM (the guide's laid-datum.mjs) off the statement by which the dump's own 'gosem.cut.vars' lays the variable. In a bare row this is a premise. The card (YtoeacadacnnoeaaGreatDoorCards.lean) ties it to the program's text. -/
def laid_math_bits_deBruijn32tab {H : Type} : DataW H := .agg [.lit (.int .u8 0), .lit (.int .u8 1), .lit (.int .u8 28), .lit (.int .u8 2), .lit (.int .u8 29), .lit (.int .u8 14), .lit (.int .u8 24), .lit (.int .u8 3), .lit (.int .u8 30), .lit (.int .u8 22), .lit (.int .u8 20), .lit (.int .u8 15), .lit (.int .u8 25), .lit (.int .u8 17), .lit (.int .u8 4), .lit (.int .u8 8), .lit (.int .u8 31), .lit (.int .u8 27), .lit (.int .u8 13), .lit (.int .u8 23), .lit (.int .u8 21), .lit (.int .u8 19), .lit (.int .u8 16), .lit (.int .u8 7), .lit (.int .u8 26), .lit (.int .u8 12), .lit (.int .u8 18), .lit (.int .u8 6), .lit (.int .u8 11), .lit (.int .u8 5), .lit (.int .u8 10), .lit (.int .u8 9)]
def laid_math_bits_deBruijn64tab {H : Type} : DataW H := .agg [.lit (.int .u8 0), .lit (.int .u8 1), .lit (.int .u8 56), .lit (.int .u8 2), .lit (.int .u8 57), .lit (.int .u8 49), .lit (.int .u8 28), .lit (.int .u8 3), .lit (.int .u8 61), .lit (.int .u8 58), .lit (.int .u8 42), .lit (.int .u8 50), .lit (.int .u8 38), .lit (.int .u8 29), .lit (.int .u8 17), .lit (.int .u8 4), .lit (.int .u8 62), .lit (.int .u8 47), .lit (.int .u8 59), .lit (.int .u8 36), .lit (.int .u8 45), .lit (.int .u8 43), .lit (.int .u8 51), .lit (.int .u8 22), .lit (.int .u8 53), .lit (.int .u8 39), .lit (.int .u8 33), .lit (.int .u8 30), .lit (.int .u8 24), .lit (.int .u8 18), .lit (.int .u8 12), .lit (.int .u8 5), .lit (.int .u8 63), .lit (.int .u8 55), .lit (.int .u8 48), .lit (.int .u8 27), .lit (.int .u8 60), .lit (.int .u8 41), .lit (.int .u8 37), .lit (.int .u8 16), .lit (.int .u8 46), .lit (.int .u8 35), .lit (.int .u8 44), .lit (.int .u8 21), .lit (.int .u8 52), .lit (.int .u8 32), .lit (.int .u8 23), .lit (.int .u8 11), .lit (.int .u8 54), .lit (.int .u8 26), .lit (.int .u8 40), .lit (.int .u8 15), .lit (.int .u8 34), .lit (.int .u8 20), .lit (.int .u8 31), .lit (.int .u8 10), .lit (.int .u8 25), .lit (.int .u8 14), .lit (.int .u8 19), .lit (.int .u8 9), .lit (.int .u8 13), .lit (.int .u8 8), .lit (.int .u8 7), .lit (.int .u8 6)]

/-- 'polderlaw26.ManagerNone': WHATEVER THE INPUT: true; the input reads as it did. -/
def managerNoneSpec : ChangeSpec := { name := "managerNone", fn := fun _ => fun
  | [d] => { results := [.lit (.bool true)], args := [d] }
  | _ => none }
def managerNoneRow : OpenClaim := { program := "ytoeacadacnnoeaagreatdoor", sum := "424129ddf9eb9142eed56e3250d0ffb288b955667efe7703fecacffd62c4301e", func := "polder/polderlaw26.ManagerNone", spec := "managerNone", inPlace := ["slices.overlaps[polder/api.SpSpan]"], unfollowed := true, recurses := true, named := ["math/bits.deBruijn64tab", "math/bits.deBruijn32tab"], apart := false, laid := [("math/bits.deBruijn32tab", laid_math_bits_deBruijn32tab), ("math/bits.deBruijn64tab", laid_math_bits_deBruijn64tab)] }
def ManagerNoneSaid : Prop := managerNoneRow.holds Tryz.pinned (OpenSpec.ofChange managerNoneSpec)

/-- ITS FALSE NEIGHBOUR: 'it returns false'. Refute it at one input. -/
def managerNoneWrong : ChangeSpec := { name := "managerNone", fn := fun _ => fun
  | [d] => { results := [.lit (.bool false)], args := [d] }
  | _ => none }
def ManagerNoneWrongFalsely : Prop := managerNoneRow.holds Tryz.pinned (OpenSpec.ofChange managerNoneWrong)

/-- 'polderlaw27.JournalDiffs': WHATEVER THE INPUT: true; the input reads as it did. -/
def journalDiffsSpec : ChangeSpec := { name := "journalDiffs", fn := fun _ => fun
  | [d1, d2] => { results := [.lit (.bool true)], args := [d1, d2] }
  | _ => none }
def journalDiffsRow : OpenClaim := { program := "ytoeacadacnnoeaagreatdoor", sum := "424129ddf9eb9142eed56e3250d0ffb288b955667efe7703fecacffd62c4301e", func := "polder/polderlaw27.JournalDiffs", spec := "journalDiffs", inPlace := ["slices.overlaps[polder/api.SpSpan]"], unfollowed := true, recurses := true, named := ["math/bits.deBruijn64tab", "math/bits.deBruijn32tab"], apart := false, laid := [("math/bits.deBruijn32tab", laid_math_bits_deBruijn32tab), ("math/bits.deBruijn64tab", laid_math_bits_deBruijn64tab)] }
def JournalDiffsSaid : Prop := journalDiffsRow.holds Tryz.pinned (OpenSpec.ofChange journalDiffsSpec)

/-- ITS FALSE NEIGHBOUR: 'it returns false'. Refute it at one input. -/
def journalDiffsWrong : ChangeSpec := { name := "journalDiffs", fn := fun _ => fun
  | [d1, d2] => { results := [.lit (.bool false)], args := [d1, d2] }
  | _ => none }
def JournalDiffsWrongFalsely : Prop := journalDiffsRow.holds Tryz.pinned (OpenSpec.ofChange journalDiffsWrong)

/-- 'polderlaw27.JournalCodes': WHATEVER THE INPUT: true; the input reads as it did. -/
def journalCodesSpec : ChangeSpec := { name := "journalCodes", fn := fun _ => fun
  | [d] => { results := [.lit (.bool true)], args := [d] }
  | _ => none }
def journalCodesRow : OpenClaim := { program := "ytoeacadacnnoeaagreatdoor", sum := "424129ddf9eb9142eed56e3250d0ffb288b955667efe7703fecacffd62c4301e", func := "polder/polderlaw27.JournalCodes", spec := "journalCodes", inPlace := ["slices.overlaps[polder/api.SpSpan]"], unfollowed := true, recurses := true, named := ["math/bits.deBruijn64tab", "math/bits.deBruijn32tab"], apart := false, laid := [("math/bits.deBruijn32tab", laid_math_bits_deBruijn32tab), ("math/bits.deBruijn64tab", laid_math_bits_deBruijn64tab)] }
def JournalCodesSaid : Prop := journalCodesRow.holds Tryz.pinned (OpenSpec.ofChange journalCodesSpec)

/-- ITS FALSE NEIGHBOUR: 'it returns false'. Refute it at one input. -/
def journalCodesWrong : ChangeSpec := { name := "journalCodes", fn := fun _ => fun
  | [d] => { results := [.lit (.bool false)], args := [d] }
  | _ => none }
def JournalCodesWrongFalsely : Prop := journalCodesRow.holds Tryz.pinned (OpenSpec.ofChange journalCodesWrong)

/-- 'polderlaw27.JournalBytes': WHATEVER THE INPUT: true; the input reads as it did. -/
def journalBytesSpec : ChangeSpec := { name := "journalBytes", fn := fun _ => fun
  | [d1, d2, d3] => { results := [.lit (.bool true)], args := [d1, d2, d3] }
  | _ => none }
def journalBytesRow : OpenClaim := { program := "ytoeacadacnnoeaagreatdoor", sum := "424129ddf9eb9142eed56e3250d0ffb288b955667efe7703fecacffd62c4301e", func := "polder/polderlaw27.JournalBytes", spec := "journalBytes", inPlace := ["slices.overlaps[polder/api.SpSpan]"], unfollowed := true, recurses := true, named := ["math/bits.deBruijn64tab", "math/bits.deBruijn32tab"], apart := false, laid := [("math/bits.deBruijn32tab", laid_math_bits_deBruijn32tab), ("math/bits.deBruijn64tab", laid_math_bits_deBruijn64tab)] }
def JournalBytesSaid : Prop := journalBytesRow.holds Tryz.pinned (OpenSpec.ofChange journalBytesSpec)

/-- ITS FALSE NEIGHBOUR: 'it returns false'. Refute it at one input. -/
def journalBytesWrong : ChangeSpec := { name := "journalBytes", fn := fun _ => fun
  | [d1, d2, d3] => { results := [.lit (.bool false)], args := [d1, d2, d3] }
  | _ => none }
def JournalBytesWrongFalsely : Prop := journalBytesRow.holds Tryz.pinned (OpenSpec.ofChange journalBytesWrong)

/-- 'polderlaw27.JournalKnown': WHATEVER THE INPUT: true; the input reads as it did. -/
def journalKnownSpec : ChangeSpec := { name := "journalKnown", fn := fun _ => fun
  | [] => { results := [.lit (.bool true)], args := [] }
  | _ => none }
def journalKnownRow : OpenClaim := { program := "ytoeacadacnnoeaagreatdoor", sum := "424129ddf9eb9142eed56e3250d0ffb288b955667efe7703fecacffd62c4301e", func := "polder/polderlaw27.JournalKnown", spec := "journalKnown", inPlace := ["slices.overlaps[polder/api.SpSpan]"], unfollowed := true, recurses := true, named := ["math/bits.deBruijn64tab", "math/bits.deBruijn32tab"], apart := false, laid := [("math/bits.deBruijn32tab", laid_math_bits_deBruijn32tab), ("math/bits.deBruijn64tab", laid_math_bits_deBruijn64tab)] }
def JournalKnownSaid : Prop := journalKnownRow.holds Tryz.pinned (OpenSpec.ofChange journalKnownSpec)

/-- ITS FALSE NEIGHBOUR: 'it returns false'. Refute it at one input. -/
def journalKnownWrong : ChangeSpec := { name := "journalKnown", fn := fun _ => fun
  | [] => { results := [.lit (.bool false)], args := [] }
  | _ => none }
def JournalKnownWrongFalsely : Prop := journalKnownRow.holds Tryz.pinned (OpenSpec.ofChange journalKnownWrong)

/-- 'polderlaw27.JournalReads': WHATEVER THE INPUT: true; the input reads as it did. -/
def journalReadsSpec : ChangeSpec := { name := "journalReads", fn := fun _ => fun
  | [d1, d2] => { results := [.lit (.bool true)], args := [d1, d2] }
  | _ => none }
def journalReadsRow : OpenClaim := { program := "ytoeacadacnnoeaagreatdoor", sum := "424129ddf9eb9142eed56e3250d0ffb288b955667efe7703fecacffd62c4301e", func := "polder/polderlaw27.JournalReads", spec := "journalReads", inPlace := ["slices.overlaps[polder/api.SpSpan]"], unfollowed := true, recurses := true, named := ["math/bits.deBruijn64tab", "math/bits.deBruijn32tab"], apart := false, laid := [("math/bits.deBruijn32tab", laid_math_bits_deBruijn32tab), ("math/bits.deBruijn64tab", laid_math_bits_deBruijn64tab)] }
def JournalReadsSaid : Prop := journalReadsRow.holds Tryz.pinned (OpenSpec.ofChange journalReadsSpec)

/-- ITS FALSE NEIGHBOUR: 'it returns false'. Refute it at one input. -/
def journalReadsWrong : ChangeSpec := { name := "journalReads", fn := fun _ => fun
  | [d1, d2] => { results := [.lit (.bool false)], args := [d1, d2] }
  | _ => none }
def JournalReadsWrongFalsely : Prop := journalReadsRow.holds Tryz.pinned (OpenSpec.ofChange journalReadsWrong)

/-- 'polderlaw27.JournalCuts': WHATEVER THE INPUT: true; the input reads as it did. -/
def journalCutsSpec : ChangeSpec := { name := "journalCuts", fn := fun _ => fun
  | [d1, d2] => { results := [.lit (.bool true)], args := [d1, d2] }
  | _ => none }
def journalCutsRow : OpenClaim := { program := "ytoeacadacnnoeaagreatdoor", sum := "424129ddf9eb9142eed56e3250d0ffb288b955667efe7703fecacffd62c4301e", func := "polder/polderlaw27.JournalCuts", spec := "journalCuts", inPlace := ["slices.overlaps[polder/api.SpSpan]"], unfollowed := true, recurses := true, named := ["math/bits.deBruijn64tab", "math/bits.deBruijn32tab"], apart := false, laid := [("math/bits.deBruijn32tab", laid_math_bits_deBruijn32tab), ("math/bits.deBruijn64tab", laid_math_bits_deBruijn64tab)] }
def JournalCutsSaid : Prop := journalCutsRow.holds Tryz.pinned (OpenSpec.ofChange journalCutsSpec)

/-- ITS FALSE NEIGHBOUR: 'it returns false'. Refute it at one input. -/
def journalCutsWrong : ChangeSpec := { name := "journalCuts", fn := fun _ => fun
  | [d1, d2] => { results := [.lit (.bool false)], args := [d1, d2] }
  | _ => none }
def JournalCutsWrongFalsely : Prop := journalCutsRow.holds Tryz.pinned (OpenSpec.ofChange journalCutsWrong)

/- THE SECOND FORM. 'bulk': how many values and letters a reading holds, each counted each time it is reached (what is shared counts as often as it is met; a slice's spare places count too). A statement '..UptoSaid' is the law's where the arguments, and the package variables that the reading takes, are together of bulk at most 1048576: NARROWER than '..Said'. Prove '..Said' where nothing that the law and all that it calls make is longer than what came in: it says more and counts as full. Else prove '..UptoSaid'. A law counts once. -/
mutual
def uptoBulk {H : Type} : DataW H → Nat
  | .lit (.string bytes) => bytes.length + 1
  | .lit _ => 1
  | .nil => 1
  | .ptr d => uptoBulk d + 1
  | .slice elems spare => uptoBulkAll elems + uptoBulkAll spare + 1
  | .agg parts => uptoBulkAll parts + 1
  | .iface _ d => uptoBulk d + 1
  | .map entries => uptoBulkEntries entries + 1
  | .held _ => 1
def uptoBulkAll {H : Type} : List (DataW H) → Nat
  | [] => 0
  | d :: r => uptoBulk d + uptoBulkAll r
def uptoBulkEntries {H : Type} : List (Lit × DataW H) → Nat
  | [] => 0
  | x :: r => uptoBulkEntry x + uptoBulkEntries r
def uptoBulkEntry {H : Type} : Lit × DataW H → Nat
  | (.string bytes, d) => bytes.length + uptoBulk d + 1
  | (_, d) => uptoBulk d + 1
 end
def uptoSmall : (H : Type) → List (DataW H) → Bool := fun _ ds => decide (uptoBulkAll ds ≤ 1048576)
def OpenSpec.upto (s : _root_.Go.ChangeSpec) : _root_.Go.OpenSpec := { _root_.Go.OpenSpec.ofChange s with cond := some uptoSmall }

/-- 'polderlaw26.ManagerNone', WHERE WHAT IT READS IS OF BULK AT MOST 1048576: true; the input reads as it did. -/
def managerNoneUptoRow : OpenClaim := { program := "ytoeacadacnnoeaagreatdoor", sum := "424129ddf9eb9142eed56e3250d0ffb288b955667efe7703fecacffd62c4301e", func := "polder/polderlaw26.ManagerNone", spec := "managerNone", inPlace := ["slices.overlaps[polder/api.SpSpan]"], unfollowed := true, recurses := true, named := ["math/bits.deBruijn64tab", "math/bits.deBruijn32tab"], apart := false, laid := [("math/bits.deBruijn32tab", laid_math_bits_deBruijn32tab), ("math/bits.deBruijn64tab", laid_math_bits_deBruijn64tab)], narrowed := true }
def ManagerNoneUptoSaid : Prop := managerNoneUptoRow.holds Tryz.pinned (OpenSpec.upto managerNoneSpec)

/-- 'polderlaw27.JournalDiffs', WHERE WHAT IT READS IS OF BULK AT MOST 1048576: true; the input reads as it did. -/
def journalDiffsUptoRow : OpenClaim := { program := "ytoeacadacnnoeaagreatdoor", sum := "424129ddf9eb9142eed56e3250d0ffb288b955667efe7703fecacffd62c4301e", func := "polder/polderlaw27.JournalDiffs", spec := "journalDiffs", inPlace := ["slices.overlaps[polder/api.SpSpan]"], unfollowed := true, recurses := true, named := ["math/bits.deBruijn64tab", "math/bits.deBruijn32tab"], apart := false, laid := [("math/bits.deBruijn32tab", laid_math_bits_deBruijn32tab), ("math/bits.deBruijn64tab", laid_math_bits_deBruijn64tab)], narrowed := true }
def JournalDiffsUptoSaid : Prop := journalDiffsUptoRow.holds Tryz.pinned (OpenSpec.upto journalDiffsSpec)

/-- 'polderlaw27.JournalCodes', WHERE WHAT IT READS IS OF BULK AT MOST 1048576: true; the input reads as it did. -/
def journalCodesUptoRow : OpenClaim := { program := "ytoeacadacnnoeaagreatdoor", sum := "424129ddf9eb9142eed56e3250d0ffb288b955667efe7703fecacffd62c4301e", func := "polder/polderlaw27.JournalCodes", spec := "journalCodes", inPlace := ["slices.overlaps[polder/api.SpSpan]"], unfollowed := true, recurses := true, named := ["math/bits.deBruijn64tab", "math/bits.deBruijn32tab"], apart := false, laid := [("math/bits.deBruijn32tab", laid_math_bits_deBruijn32tab), ("math/bits.deBruijn64tab", laid_math_bits_deBruijn64tab)], narrowed := true }
def JournalCodesUptoSaid : Prop := journalCodesUptoRow.holds Tryz.pinned (OpenSpec.upto journalCodesSpec)

/-- 'polderlaw27.JournalBytes', WHERE WHAT IT READS IS OF BULK AT MOST 1048576: true; the input reads as it did. -/
def journalBytesUptoRow : OpenClaim := { program := "ytoeacadacnnoeaagreatdoor", sum := "424129ddf9eb9142eed56e3250d0ffb288b955667efe7703fecacffd62c4301e", func := "polder/polderlaw27.JournalBytes", spec := "journalBytes", inPlace := ["slices.overlaps[polder/api.SpSpan]"], unfollowed := true, recurses := true, named := ["math/bits.deBruijn64tab", "math/bits.deBruijn32tab"], apart := false, laid := [("math/bits.deBruijn32tab", laid_math_bits_deBruijn32tab), ("math/bits.deBruijn64tab", laid_math_bits_deBruijn64tab)], narrowed := true }
def JournalBytesUptoSaid : Prop := journalBytesUptoRow.holds Tryz.pinned (OpenSpec.upto journalBytesSpec)

/-- 'polderlaw27.JournalKnown', WHERE WHAT IT READS IS OF BULK AT MOST 1048576: true; the input reads as it did. -/
def journalKnownUptoRow : OpenClaim := { program := "ytoeacadacnnoeaagreatdoor", sum := "424129ddf9eb9142eed56e3250d0ffb288b955667efe7703fecacffd62c4301e", func := "polder/polderlaw27.JournalKnown", spec := "journalKnown", inPlace := ["slices.overlaps[polder/api.SpSpan]"], unfollowed := true, recurses := true, named := ["math/bits.deBruijn64tab", "math/bits.deBruijn32tab"], apart := false, laid := [("math/bits.deBruijn32tab", laid_math_bits_deBruijn32tab), ("math/bits.deBruijn64tab", laid_math_bits_deBruijn64tab)], narrowed := true }
def JournalKnownUptoSaid : Prop := journalKnownUptoRow.holds Tryz.pinned (OpenSpec.upto journalKnownSpec)

/-- 'polderlaw27.JournalReads', WHERE WHAT IT READS IS OF BULK AT MOST 1048576: true; the input reads as it did. -/
def journalReadsUptoRow : OpenClaim := { program := "ytoeacadacnnoeaagreatdoor", sum := "424129ddf9eb9142eed56e3250d0ffb288b955667efe7703fecacffd62c4301e", func := "polder/polderlaw27.JournalReads", spec := "journalReads", inPlace := ["slices.overlaps[polder/api.SpSpan]"], unfollowed := true, recurses := true, named := ["math/bits.deBruijn64tab", "math/bits.deBruijn32tab"], apart := false, laid := [("math/bits.deBruijn32tab", laid_math_bits_deBruijn32tab), ("math/bits.deBruijn64tab", laid_math_bits_deBruijn64tab)], narrowed := true }
def JournalReadsUptoSaid : Prop := journalReadsUptoRow.holds Tryz.pinned (OpenSpec.upto journalReadsSpec)

/-- 'polderlaw27.JournalCuts', WHERE WHAT IT READS IS OF BULK AT MOST 1048576: true; the input reads as it did. -/
def journalCutsUptoRow : OpenClaim := { program := "ytoeacadacnnoeaagreatdoor", sum := "424129ddf9eb9142eed56e3250d0ffb288b955667efe7703fecacffd62c4301e", func := "polder/polderlaw27.JournalCuts", spec := "journalCuts", inPlace := ["slices.overlaps[polder/api.SpSpan]"], unfollowed := true, recurses := true, named := ["math/bits.deBruijn64tab", "math/bits.deBruijn32tab"], apart := false, laid := [("math/bits.deBruijn32tab", laid_math_bits_deBruijn32tab), ("math/bits.deBruijn64tab", laid_math_bits_deBruijn64tab)], narrowed := true }
def JournalCutsUptoSaid : Prop := journalCutsUptoRow.holds Tryz.pinned (OpenSpec.upto journalCutsSpec)

end Rows
end Go.Proofs.YtoeacadacnnoeaaGreatDoor
