/-
  No cell of these rows narrows 'for every input' (looked for: loops, veiled, ifaces, maps, wideKeys, modest, calm, conditions, laid).
  DERIVED. THE GIVEN ROWS OF THIS SEAT. 8 by the template 'for every input the law returns true; each argument reads behind the call as it read before'; 0 by the template 'total and deterministic' (their statements: YtafipmoglaepcaaTotals.lean).
  GIVEN WITH THE SEED: the statements are not yours to turn. If you find one false, say at which input.
  Laid BY PROGRAM, IN A SANDBOX (cutbox-rows.mjs): the forced cells as the released guide's own fill.sh prints them over the translation 0b2bb8e8c5f339c6… (all of the seat's roots in one cut). By AI agents, Wed Nov 11 2026. No macro, syntax, notation, axiom, sorry.
-/
import Derived.Test.YtafipmoglaepcaaChecked
import GoSem.Claim
import GoSem.ClaimJoined
import GoSem.ClaimMapViews
import Derived.JoinedTies
import Derived.KernelRfl
namespace Go.Proofs.Ytafipmoglaepcaa
/- THE CELL 'sum', in the pinned program and in every row, IS THE sha256 OF THE DUMP (.gsa) THAT YtafipmoglaepcaaProg.lean LOADS. Nothing in Lean hashes anything: it is a label: what it is worth is what the hold of that sum in a sandbox is worth. -/
noncomputable def Try.pinned : Pinned := { name := "ytafipmoglaepcaa", sum := "0b2bb8e8c5f339c6af26ebc00871ab9072779b9a612e50147d472bc2509081f1", checked := Try.checked }
namespace Rows
def none {H : Type} : Left H := { results := [], args := [] }

/-- 'polderlaw10.AccountPeaks': WHATEVER THE INPUT: true; the input reads as it did. -/
def accountPeaksSpec : ChangeSpec := { name := "accountPeaks", fn := fun _ => fun
  | [d1, d2] => { results := [.lit (.bool true)], args := [d1, d2] }
  | _ => none }
def accountPeaksRow : OpenClaim := { program := "ytafipmoglaepcaa", sum := "0b2bb8e8c5f339c6af26ebc00871ab9072779b9a612e50147d472bc2509081f1", func := "polder/polderlaw10.AccountPeaks", spec := "accountPeaks", unfollowed := true, recurses := true, apart := false }
def AccountPeaksSaid : Prop := accountPeaksRow.holds Try.pinned (OpenSpec.ofChange accountPeaksSpec)

/-- ITS FALSE NEIGHBOUR: 'it returns false'. Refute it at one input. -/
def accountPeaksWrong : ChangeSpec := { name := "accountPeaks", fn := fun _ => fun
  | [d1, d2] => { results := [.lit (.bool false)], args := [d1, d2] }
  | _ => none }
def AccountPeaksWrongFalsely : Prop := accountPeaksRow.holds Try.pinned (OpenSpec.ofChange accountPeaksWrong)

/-- 'polderlaw10.AccountHead': WHATEVER THE INPUT: true; the input reads as it did. -/
def accountHeadSpec : ChangeSpec := { name := "accountHead", fn := fun _ => fun
  | [d1, d2, d3] => { results := [.lit (.bool true)], args := [d1, d2, d3] }
  | _ => none }
def accountHeadRow : OpenClaim := { program := "ytafipmoglaepcaa", sum := "0b2bb8e8c5f339c6af26ebc00871ab9072779b9a612e50147d472bc2509081f1", func := "polder/polderlaw10.AccountHead", spec := "accountHead", unfollowed := true, recurses := true, apart := false }
def AccountHeadSaid : Prop := accountHeadRow.holds Try.pinned (OpenSpec.ofChange accountHeadSpec)

/-- ITS FALSE NEIGHBOUR: 'it returns false'. Refute it at one input. -/
def accountHeadWrong : ChangeSpec := { name := "accountHead", fn := fun _ => fun
  | [d1, d2, d3] => { results := [.lit (.bool false)], args := [d1, d2, d3] }
  | _ => none }
def AccountHeadWrongFalsely : Prop := accountHeadRow.holds Try.pinned (OpenSpec.ofChange accountHeadWrong)

/-- 'polderlaw10.AccountBack': WHATEVER THE INPUT: true; the input reads as it did. -/
def accountBackSpec : ChangeSpec := { name := "accountBack", fn := fun _ => fun
  | [d1, d2, d3] => { results := [.lit (.bool true)], args := [d1, d2, d3] }
  | _ => none }
def accountBackRow : OpenClaim := { program := "ytafipmoglaepcaa", sum := "0b2bb8e8c5f339c6af26ebc00871ab9072779b9a612e50147d472bc2509081f1", func := "polder/polderlaw10.AccountBack", spec := "accountBack", unfollowed := true, recurses := true, apart := false }
def AccountBackSaid : Prop := accountBackRow.holds Try.pinned (OpenSpec.ofChange accountBackSpec)

/-- ITS FALSE NEIGHBOUR: 'it returns false'. Refute it at one input. -/
def accountBackWrong : ChangeSpec := { name := "accountBack", fn := fun _ => fun
  | [d1, d2, d3] => { results := [.lit (.bool false)], args := [d1, d2, d3] }
  | _ => none }
def AccountBackWrongFalsely : Prop := accountBackRow.holds Try.pinned (OpenSpec.ofChange accountBackWrong)

/-- 'polderlaw10.AccountSums': WHATEVER THE INPUT: true; the input reads as it did. -/
def accountSumsSpec : ChangeSpec := { name := "accountSums", fn := fun _ => fun
  | [d1, d2] => { results := [.lit (.bool true)], args := [d1, d2] }
  | _ => none }
def accountSumsRow : OpenClaim := { program := "ytafipmoglaepcaa", sum := "0b2bb8e8c5f339c6af26ebc00871ab9072779b9a612e50147d472bc2509081f1", func := "polder/polderlaw10.AccountSums", spec := "accountSums", unfollowed := true, recurses := true, apart := false }
def AccountSumsSaid : Prop := accountSumsRow.holds Try.pinned (OpenSpec.ofChange accountSumsSpec)

/-- ITS FALSE NEIGHBOUR: 'it returns false'. Refute it at one input. -/
def accountSumsWrong : ChangeSpec := { name := "accountSums", fn := fun _ => fun
  | [d1, d2] => { results := [.lit (.bool false)], args := [d1, d2] }
  | _ => none }
def AccountSumsWrongFalsely : Prop := accountSumsRow.holds Try.pinned (OpenSpec.ofChange accountSumsWrong)

/-- 'polderlaw10.AccountErrors': WHATEVER THE INPUT: true; the input reads as it did. -/
def accountErrorsSpec : ChangeSpec := { name := "accountErrors", fn := fun _ => fun
  | [d1, d2] => { results := [.lit (.bool true)], args := [d1, d2] }
  | _ => none }
def accountErrorsRow : OpenClaim := { program := "ytafipmoglaepcaa", sum := "0b2bb8e8c5f339c6af26ebc00871ab9072779b9a612e50147d472bc2509081f1", func := "polder/polderlaw10.AccountErrors", spec := "accountErrors", unfollowed := true, recurses := true, apart := false }
def AccountErrorsSaid : Prop := accountErrorsRow.holds Try.pinned (OpenSpec.ofChange accountErrorsSpec)

/-- ITS FALSE NEIGHBOUR: 'it returns false'. Refute it at one input. -/
def accountErrorsWrong : ChangeSpec := { name := "accountErrors", fn := fun _ => fun
  | [d1, d2] => { results := [.lit (.bool false)], args := [d1, d2] }
  | _ => none }
def AccountErrorsWrongFalsely : Prop := accountErrorsRow.holds Try.pinned (OpenSpec.ofChange accountErrorsWrong)

/-- 'polderlaw10.AccountPlays': WHATEVER THE INPUT: true; the input reads as it did. -/
def accountPlaysSpec : ChangeSpec := { name := "accountPlays", fn := fun _ => fun
  | [d1, d2] => { results := [.lit (.bool true)], args := [d1, d2] }
  | _ => none }
def accountPlaysRow : OpenClaim := { program := "ytafipmoglaepcaa", sum := "0b2bb8e8c5f339c6af26ebc00871ab9072779b9a612e50147d472bc2509081f1", func := "polder/polderlaw10.AccountPlays", spec := "accountPlays", unfollowed := true, recurses := true, apart := false }
def AccountPlaysSaid : Prop := accountPlaysRow.holds Try.pinned (OpenSpec.ofChange accountPlaysSpec)

/-- ITS FALSE NEIGHBOUR: 'it returns false'. Refute it at one input. -/
def accountPlaysWrong : ChangeSpec := { name := "accountPlays", fn := fun _ => fun
  | [d1, d2] => { results := [.lit (.bool false)], args := [d1, d2] }
  | _ => none }
def AccountPlaysWrongFalsely : Prop := accountPlaysRow.holds Try.pinned (OpenSpec.ofChange accountPlaysWrong)

/-- 'polderlaw10.AccountNone': WHATEVER THE INPUT: true; the input reads as it did. -/
def accountNoneSpec : ChangeSpec := { name := "accountNone", fn := fun _ => fun
  | [d] => { results := [.lit (.bool true)], args := [d] }
  | _ => none }
def accountNoneRow : OpenClaim := { program := "ytafipmoglaepcaa", sum := "0b2bb8e8c5f339c6af26ebc00871ab9072779b9a612e50147d472bc2509081f1", func := "polder/polderlaw10.AccountNone", spec := "accountNone", unfollowed := true, recurses := true, apart := false }
def AccountNoneSaid : Prop := accountNoneRow.holds Try.pinned (OpenSpec.ofChange accountNoneSpec)

/-- ITS FALSE NEIGHBOUR: 'it returns false'. Refute it at one input. -/
def accountNoneWrong : ChangeSpec := { name := "accountNone", fn := fun _ => fun
  | [d] => { results := [.lit (.bool false)], args := [d] }
  | _ => none }
def AccountNoneWrongFalsely : Prop := accountNoneRow.holds Try.pinned (OpenSpec.ofChange accountNoneWrong)

/-- 'polderlaw10.AccountLoads': WHATEVER THE INPUT: true; the input reads as it did. -/
def accountLoadsSpec : ChangeSpec := { name := "accountLoads", fn := fun _ => fun
  | [d1, d2] => { results := [.lit (.bool true)], args := [d1, d2] }
  | _ => none }
def accountLoadsRow : OpenClaim := { program := "ytafipmoglaepcaa", sum := "0b2bb8e8c5f339c6af26ebc00871ab9072779b9a612e50147d472bc2509081f1", func := "polder/polderlaw10.AccountLoads", spec := "accountLoads", unfollowed := true, recurses := true, apart := false }
def AccountLoadsSaid : Prop := accountLoadsRow.holds Try.pinned (OpenSpec.ofChange accountLoadsSpec)

/-- ITS FALSE NEIGHBOUR: 'it returns false'. Refute it at one input. -/
def accountLoadsWrong : ChangeSpec := { name := "accountLoads", fn := fun _ => fun
  | [d1, d2] => { results := [.lit (.bool false)], args := [d1, d2] }
  | _ => none }
def AccountLoadsWrongFalsely : Prop := accountLoadsRow.holds Try.pinned (OpenSpec.ofChange accountLoadsWrong)

/- THE SECOND FORM. 'bulk': how many values and letters a reading holds, each counted each time it is reached (what is shared counts as often as it is met; a slice's spare places count too). A statement '..UptoSaid' is the law's where the arguments, and the package variables that the reading takes, are together of bulk at most 1048576: NARROWER than '..Said'. Prove '..Said' where nothing that the law and all that it calls make is longer than what came in: it says more and counts as full. Else prove '..UptoSaid'. A law counts once. -/
mutual
def uptoBulk {H : Type} : DataW H → Nat
  | .lit (.string bytes) => bytes.length + 1
  | .lit _ => 1
  | .nil => 1
  | .ptr d => uptoBulk d + 1
  | .slice elems spare => uptoBulkAll elems + uptoBulkAll spare + 1
  | .agg parts => uptoBulkAll parts + 1
  | .iface _ d => uptoBulk d + 1
  | .map entries => uptoBulkEntries entries + 1
  | .held _ => 1
def uptoBulkAll {H : Type} : List (DataW H) → Nat
  | [] => 0
  | d :: r => uptoBulk d + uptoBulkAll r
def uptoBulkEntries {H : Type} : List (Lit × DataW H) → Nat
  | [] => 0
  | x :: r => uptoBulkEntry x + uptoBulkEntries r
def uptoBulkEntry {H : Type} : Lit × DataW H → Nat
  | (.string bytes, d) => bytes.length + uptoBulk d + 1
  | (_, d) => uptoBulk d + 1
 end
def uptoSmall : (H : Type) → List (DataW H) → Bool := fun _ ds => decide (uptoBulkAll ds ≤ 1048576)
def OpenSpec.upto (s : _root_.Go.ChangeSpec) : _root_.Go.OpenSpec := { _root_.Go.OpenSpec.ofChange s with cond := some uptoSmall }

/-- 'polderlaw10.AccountPeaks', WHERE WHAT IT READS IS OF BULK AT MOST 1048576: true; the input reads as it did. -/
def accountPeaksUptoRow : OpenClaim := { program := "ytafipmoglaepcaa", sum := "0b2bb8e8c5f339c6af26ebc00871ab9072779b9a612e50147d472bc2509081f1", func := "polder/polderlaw10.AccountPeaks", spec := "accountPeaks", unfollowed := true, recurses := true, apart := false, narrowed := true }
def AccountPeaksUptoSaid : Prop := accountPeaksUptoRow.holds Try.pinned (OpenSpec.upto accountPeaksSpec)

/-- 'polderlaw10.AccountHead', WHERE WHAT IT READS IS OF BULK AT MOST 1048576: true; the input reads as it did. -/
def accountHeadUptoRow : OpenClaim := { program := "ytafipmoglaepcaa", sum := "0b2bb8e8c5f339c6af26ebc00871ab9072779b9a612e50147d472bc2509081f1", func := "polder/polderlaw10.AccountHead", spec := "accountHead", unfollowed := true, recurses := true, apart := false, narrowed := true }
def AccountHeadUptoSaid : Prop := accountHeadUptoRow.holds Try.pinned (OpenSpec.upto accountHeadSpec)

/-- 'polderlaw10.AccountBack', WHERE WHAT IT READS IS OF BULK AT MOST 1048576: true; the input reads as it did. -/
def accountBackUptoRow : OpenClaim := { program := "ytafipmoglaepcaa", sum := "0b2bb8e8c5f339c6af26ebc00871ab9072779b9a612e50147d472bc2509081f1", func := "polder/polderlaw10.AccountBack", spec := "accountBack", unfollowed := true, recurses := true, apart := false, narrowed := true }
def AccountBackUptoSaid : Prop := accountBackUptoRow.holds Try.pinned (OpenSpec.upto accountBackSpec)

/-- 'polderlaw10.AccountSums', WHERE WHAT IT READS IS OF BULK AT MOST 1048576: true; the input reads as it did. -/
def accountSumsUptoRow : OpenClaim := { program := "ytafipmoglaepcaa", sum := "0b2bb8e8c5f339c6af26ebc00871ab9072779b9a612e50147d472bc2509081f1", func := "polder/polderlaw10.AccountSums", spec := "accountSums", unfollowed := true, recurses := true, apart := false, narrowed := true }
def AccountSumsUptoSaid : Prop := accountSumsUptoRow.holds Try.pinned (OpenSpec.upto accountSumsSpec)

/-- 'polderlaw10.AccountErrors', WHERE WHAT IT READS IS OF BULK AT MOST 1048576: true; the input reads as it did. -/
def accountErrorsUptoRow : OpenClaim := { program := "ytafipmoglaepcaa", sum := "0b2bb8e8c5f339c6af26ebc00871ab9072779b9a612e50147d472bc2509081f1", func := "polder/polderlaw10.AccountErrors", spec := "accountErrors", unfollowed := true, recurses := true, apart := false, narrowed := true }
def AccountErrorsUptoSaid : Prop := accountErrorsUptoRow.holds Try.pinned (OpenSpec.upto accountErrorsSpec)

/-- 'polderlaw10.AccountPlays', WHERE WHAT IT READS IS OF BULK AT MOST 1048576: true; the input reads as it did. -/
def accountPlaysUptoRow : OpenClaim := { program := "ytafipmoglaepcaa", sum := "0b2bb8e8c5f339c6af26ebc00871ab9072779b9a612e50147d472bc2509081f1", func := "polder/polderlaw10.AccountPlays", spec := "accountPlays", unfollowed := true, recurses := true, apart := false, narrowed := true }
def AccountPlaysUptoSaid : Prop := accountPlaysUptoRow.holds Try.pinned (OpenSpec.upto accountPlaysSpec)

/-- 'polderlaw10.AccountNone', WHERE WHAT IT READS IS OF BULK AT MOST 1048576: true; the input reads as it did. -/
def accountNoneUptoRow : OpenClaim := { program := "ytafipmoglaepcaa", sum := "0b2bb8e8c5f339c6af26ebc00871ab9072779b9a612e50147d472bc2509081f1", func := "polder/polderlaw10.AccountNone", spec := "accountNone", unfollowed := true, recurses := true, apart := false, narrowed := true }
def AccountNoneUptoSaid : Prop := accountNoneUptoRow.holds Try.pinned (OpenSpec.upto accountNoneSpec)

/-- 'polderlaw10.AccountLoads', WHERE WHAT IT READS IS OF BULK AT MOST 1048576: true; the input reads as it did. -/
def accountLoadsUptoRow : OpenClaim := { program := "ytafipmoglaepcaa", sum := "0b2bb8e8c5f339c6af26ebc00871ab9072779b9a612e50147d472bc2509081f1", func := "polder/polderlaw10.AccountLoads", spec := "accountLoads", unfollowed := true, recurses := true, apart := false, narrowed := true }
def AccountLoadsUptoSaid : Prop := accountLoadsUptoRow.holds Try.pinned (OpenSpec.upto accountLoadsSpec)

end Rows
end Go.Proofs.Ytafipmoglaepcaa
