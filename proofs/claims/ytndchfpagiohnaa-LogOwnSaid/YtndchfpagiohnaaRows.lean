/-
  No cell of these rows narrows 'for every input' (looked for: loops, veiled, ifaces, maps, wideKeys, modest, calm, conditions, laid).
  DERIVED. THE GIVEN ROWS OF THIS SEAT. 9 by the template 'for every input the law returns true; each argument reads behind the call as it read before'; 0 by the template 'total and deterministic' (their statements: YtndchfpagiohnaaTotals.lean).
  GIVEN WITH THE SEED: the statements are not yours to turn. If you find one false, say at which input.
  Laid BY PROGRAM, IN A SANDBOX (cutbox-rows.mjs): the forced cells as the released guide's own fill.sh prints them over the translation a6c001d4c8a99bc6… (all of the seat's roots in one cut). By AI agents, Wed Nov 11 2026. No macro, syntax, notation, axiom, sorry.
-/
import Derived.Test.YtndchfpagiohnaaChecked
import GoSem.Claim
import GoSem.ClaimJoined
import GoSem.ClaimMapViews
import Derived.JoinedTies
import Derived.KernelRfl
namespace Go.Proofs.Ytndchfpagiohnaa
/- THE CELL 'sum', in the pinned program and in every row, IS THE sha256 OF THE DUMP (.gsa) THAT YtndchfpagiohnaaProg.lean LOADS. Nothing in Lean hashes anything: it is a label: what it is worth is what the hold of that sum in a sandbox is worth. -/
noncomputable def Try.pinned : Pinned := { name := "ytndchfpagiohnaa", sum := "a6c001d4c8a99bc6fd1b38e240572957acc92c5aea44d2e39909c2bcc2f8889b", checked := Try.checked }
namespace Rows
def none {H : Type} : Left H := { results := [], args := [] }

/-- 'estafettelaw18.LogAgain': WHATEVER THE INPUT: true; the input reads as it did. -/
def logAgainSpec : ChangeSpec := { name := "logAgain", fn := fun _ => fun
  | [d1, d2, d3, d4] => { results := [.lit (.bool true)], args := [d1, d2, d3, d4] }
  | _ => none }
def logAgainRow : OpenClaim := { program := "ytndchfpagiohnaa", sum := "a6c001d4c8a99bc6fd1b38e240572957acc92c5aea44d2e39909c2bcc2f8889b", func := "estafette/estafettelaw18.LogAgain", spec := "logAgain", unfollowed := true, recurses := true, apart := false }
def LogAgainSaid : Prop := logAgainRow.holds Try.pinned (OpenSpec.ofChange logAgainSpec)

/-- ITS FALSE NEIGHBOUR: 'it returns false'. Refute it at one input. -/
def logAgainWrong : ChangeSpec := { name := "logAgain", fn := fun _ => fun
  | [d1, d2, d3, d4] => { results := [.lit (.bool false)], args := [d1, d2, d3, d4] }
  | _ => none }
def LogAgainWrongFalsely : Prop := logAgainRow.holds Try.pinned (OpenSpec.ofChange logAgainWrong)

/-- 'estafettelaw18.LogOwn': WHATEVER THE INPUT: true; the input reads as it did. -/
def logOwnSpec : ChangeSpec := { name := "logOwn", fn := fun _ => fun
  | [d] => { results := [.lit (.bool true)], args := [d] }
  | _ => none }
def logOwnRow : OpenClaim := { program := "ytndchfpagiohnaa", sum := "a6c001d4c8a99bc6fd1b38e240572957acc92c5aea44d2e39909c2bcc2f8889b", func := "estafette/estafettelaw18.LogOwn", spec := "logOwn", unfollowed := true, recurses := true, apart := false }
def LogOwnSaid : Prop := logOwnRow.holds Try.pinned (OpenSpec.ofChange logOwnSpec)

/-- ITS FALSE NEIGHBOUR: 'it returns false'. Refute it at one input. -/
def logOwnWrong : ChangeSpec := { name := "logOwn", fn := fun _ => fun
  | [d] => { results := [.lit (.bool false)], args := [d] }
  | _ => none }
def LogOwnWrongFalsely : Prop := logOwnRow.holds Try.pinned (OpenSpec.ofChange logOwnWrong)

/-- 'estafettelaw18.VoteAll': WHATEVER THE INPUT: true; the input reads as it did. -/
def voteAllSpec : ChangeSpec := { name := "voteAll", fn := fun _ => fun
  | [d1, d2, d3] => { results := [.lit (.bool true)], args := [d1, d2, d3] }
  | _ => none }
def voteAllRow : OpenClaim := { program := "ytndchfpagiohnaa", sum := "a6c001d4c8a99bc6fd1b38e240572957acc92c5aea44d2e39909c2bcc2f8889b", func := "estafette/estafettelaw18.VoteAll", spec := "voteAll", unfollowed := true, recurses := true, apart := false }
def VoteAllSaid : Prop := voteAllRow.holds Try.pinned (OpenSpec.ofChange voteAllSpec)

/-- ITS FALSE NEIGHBOUR: 'it returns false'. Refute it at one input. -/
def voteAllWrong : ChangeSpec := { name := "voteAll", fn := fun _ => fun
  | [d1, d2, d3] => { results := [.lit (.bool false)], args := [d1, d2, d3] }
  | _ => none }
def VoteAllWrongFalsely : Prop := voteAllRow.holds Try.pinned (OpenSpec.ofChange voteAllWrong)

/-- 'estafettelaw18.VoteBox': WHATEVER THE INPUT: true; the input reads as it did. -/
def voteBoxSpec : ChangeSpec := { name := "voteBox", fn := fun _ => fun
  | [d1, d2] => { results := [.lit (.bool true)], args := [d1, d2] }
  | _ => none }
def voteBoxRow : OpenClaim := { program := "ytndchfpagiohnaa", sum := "a6c001d4c8a99bc6fd1b38e240572957acc92c5aea44d2e39909c2bcc2f8889b", func := "estafette/estafettelaw18.VoteBox", spec := "voteBox", unfollowed := true, recurses := true, apart := false }
def VoteBoxSaid : Prop := voteBoxRow.holds Try.pinned (OpenSpec.ofChange voteBoxSpec)

/-- ITS FALSE NEIGHBOUR: 'it returns false'. Refute it at one input. -/
def voteBoxWrong : ChangeSpec := { name := "voteBox", fn := fun _ => fun
  | [d1, d2] => { results := [.lit (.bool false)], args := [d1, d2] }
  | _ => none }
def VoteBoxWrongFalsely : Prop := voteBoxRow.holds Try.pinned (OpenSpec.ofChange voteBoxWrong)

/-- 'estafettelaw18.LogNewer': WHATEVER THE INPUT: true; the input reads as it did. -/
def logNewerSpec : ChangeSpec := { name := "logNewer", fn := fun _ => fun
  | [d1, d2] => { results := [.lit (.bool true)], args := [d1, d2] }
  | _ => none }
def logNewerRow : OpenClaim := { program := "ytndchfpagiohnaa", sum := "a6c001d4c8a99bc6fd1b38e240572957acc92c5aea44d2e39909c2bcc2f8889b", func := "estafette/estafettelaw18.LogNewer", spec := "logNewer", unfollowed := true, recurses := true, apart := false }
def LogNewerSaid : Prop := logNewerRow.holds Try.pinned (OpenSpec.ofChange logNewerSpec)

/-- ITS FALSE NEIGHBOUR: 'it returns false'. Refute it at one input. -/
def logNewerWrong : ChangeSpec := { name := "logNewer", fn := fun _ => fun
  | [d1, d2] => { results := [.lit (.bool false)], args := [d1, d2] }
  | _ => none }
def LogNewerWrongFalsely : Prop := logNewerRow.holds Try.pinned (OpenSpec.ofChange logNewerWrong)

/-- 'estafettelaw18.LogCut': WHATEVER THE INPUT: true; the input reads as it did. -/
def logCutSpec : ChangeSpec := { name := "logCut", fn := fun _ => fun
  | [d1, d2, d3] => { results := [.lit (.bool true)], args := [d1, d2, d3] }
  | _ => none }
def logCutRow : OpenClaim := { program := "ytndchfpagiohnaa", sum := "a6c001d4c8a99bc6fd1b38e240572957acc92c5aea44d2e39909c2bcc2f8889b", func := "estafette/estafettelaw18.LogCut", spec := "logCut", unfollowed := true, recurses := true, apart := false }
def LogCutSaid : Prop := logCutRow.holds Try.pinned (OpenSpec.ofChange logCutSpec)

/-- ITS FALSE NEIGHBOUR: 'it returns false'. Refute it at one input. -/
def logCutWrong : ChangeSpec := { name := "logCut", fn := fun _ => fun
  | [d1, d2, d3] => { results := [.lit (.bool false)], args := [d1, d2, d3] }
  | _ => none }
def LogCutWrongFalsely : Prop := logCutRow.holds Try.pinned (OpenSpec.ofChange logCutWrong)

/-- 'estafettelaw18.VoteMedian': WHATEVER THE INPUT: true; the input reads as it did. -/
def voteMedianSpec : ChangeSpec := { name := "voteMedian", fn := fun _ => fun
  | [d] => { results := [.lit (.bool true)], args := [d] }
  | _ => none }
def voteMedianRow : OpenClaim := { program := "ytndchfpagiohnaa", sum := "a6c001d4c8a99bc6fd1b38e240572957acc92c5aea44d2e39909c2bcc2f8889b", func := "estafette/estafettelaw18.VoteMedian", spec := "voteMedian", unfollowed := true, recurses := true, apart := false }
def VoteMedianSaid : Prop := voteMedianRow.holds Try.pinned (OpenSpec.ofChange voteMedianSpec)

/-- ITS FALSE NEIGHBOUR: 'it returns false'. Refute it at one input. -/
def voteMedianWrong : ChangeSpec := { name := "voteMedian", fn := fun _ => fun
  | [d] => { results := [.lit (.bool false)], args := [d] }
  | _ => none }
def VoteMedianWrongFalsely : Prop := voteMedianRow.holds Try.pinned (OpenSpec.ofChange voteMedianWrong)

/-- 'estafettelaw18.LogNone': WHATEVER THE INPUT: true; the input reads as it did. -/
def logNoneSpec : ChangeSpec := { name := "logNone", fn := fun _ => fun
  | [] => { results := [.lit (.bool true)], args := [] }
  | _ => none }
def logNoneRow : OpenClaim := { program := "ytndchfpagiohnaa", sum := "a6c001d4c8a99bc6fd1b38e240572957acc92c5aea44d2e39909c2bcc2f8889b", func := "estafette/estafettelaw18.LogNone", spec := "logNone", unfollowed := true, recurses := true, apart := false }
def LogNoneSaid : Prop := logNoneRow.holds Try.pinned (OpenSpec.ofChange logNoneSpec)

/-- ITS FALSE NEIGHBOUR: 'it returns false'. Refute it at one input. -/
def logNoneWrong : ChangeSpec := { name := "logNone", fn := fun _ => fun
  | [] => { results := [.lit (.bool false)], args := [] }
  | _ => none }
def LogNoneWrongFalsely : Prop := logNoneRow.holds Try.pinned (OpenSpec.ofChange logNoneWrong)

/-- 'estafettelaw18.LogFull': WHATEVER THE INPUT: true; the input reads as it did. -/
def logFullSpec : ChangeSpec := { name := "logFull", fn := fun _ => fun
  | [d1, d2] => { results := [.lit (.bool true)], args := [d1, d2] }
  | _ => none }
def logFullRow : OpenClaim := { program := "ytndchfpagiohnaa", sum := "a6c001d4c8a99bc6fd1b38e240572957acc92c5aea44d2e39909c2bcc2f8889b", func := "estafette/estafettelaw18.LogFull", spec := "logFull", unfollowed := true, recurses := true, apart := false }
def LogFullSaid : Prop := logFullRow.holds Try.pinned (OpenSpec.ofChange logFullSpec)

/-- ITS FALSE NEIGHBOUR: 'it returns false'. Refute it at one input. -/
def logFullWrong : ChangeSpec := { name := "logFull", fn := fun _ => fun
  | [d1, d2] => { results := [.lit (.bool false)], args := [d1, d2] }
  | _ => none }
def LogFullWrongFalsely : Prop := logFullRow.holds Try.pinned (OpenSpec.ofChange logFullWrong)

/- THE SECOND FORM. 'bulk': how many values and letters a reading holds, each counted each time it is reached (what is shared counts as often as it is met; a slice's spare places count too). A statement '..UptoSaid' is the law's where the arguments, and the package variables that the reading takes, are together of bulk at most 1048576: NARROWER than '..Said'. Prove '..Said' where nothing that the law and all that it calls make is longer than what came in: it says more and counts as full. Else prove '..UptoSaid'. A law counts once. -/
mutual
def uptoBulk {H : Type} : DataW H → Nat
  | .lit (.string bytes) => bytes.length + 1
  | .lit _ => 1
  | .nil => 1
  | .ptr d => uptoBulk d + 1
  | .slice elems spare => uptoBulkAll elems + uptoBulkAll spare + 1
  | .agg parts => uptoBulkAll parts + 1
  | .iface _ d => uptoBulk d + 1
  | .map entries => uptoBulkEntries entries + 1
  | .held _ => 1
def uptoBulkAll {H : Type} : List (DataW H) → Nat
  | [] => 0
  | d :: r => uptoBulk d + uptoBulkAll r
def uptoBulkEntries {H : Type} : List (Lit × DataW H) → Nat
  | [] => 0
  | x :: r => uptoBulkEntry x + uptoBulkEntries r
def uptoBulkEntry {H : Type} : Lit × DataW H → Nat
  | (.string bytes, d) => bytes.length + uptoBulk d + 1
  | (_, d) => uptoBulk d + 1
 end
def uptoSmall : (H : Type) → List (DataW H) → Bool := fun _ ds => decide (uptoBulkAll ds ≤ 1048576)
def OpenSpec.upto (s : _root_.Go.ChangeSpec) : _root_.Go.OpenSpec := { _root_.Go.OpenSpec.ofChange s with cond := some uptoSmall }

/-- 'estafettelaw18.LogAgain', WHERE WHAT IT READS IS OF BULK AT MOST 1048576: true; the input reads as it did. -/
def logAgainUptoRow : OpenClaim := { program := "ytndchfpagiohnaa", sum := "a6c001d4c8a99bc6fd1b38e240572957acc92c5aea44d2e39909c2bcc2f8889b", func := "estafette/estafettelaw18.LogAgain", spec := "logAgain", unfollowed := true, recurses := true, apart := false, narrowed := true }
def LogAgainUptoSaid : Prop := logAgainUptoRow.holds Try.pinned (OpenSpec.upto logAgainSpec)

/-- 'estafettelaw18.LogOwn', WHERE WHAT IT READS IS OF BULK AT MOST 1048576: true; the input reads as it did. -/
def logOwnUptoRow : OpenClaim := { program := "ytndchfpagiohnaa", sum := "a6c001d4c8a99bc6fd1b38e240572957acc92c5aea44d2e39909c2bcc2f8889b", func := "estafette/estafettelaw18.LogOwn", spec := "logOwn", unfollowed := true, recurses := true, apart := false, narrowed := true }
def LogOwnUptoSaid : Prop := logOwnUptoRow.holds Try.pinned (OpenSpec.upto logOwnSpec)

/-- 'estafettelaw18.VoteAll', WHERE WHAT IT READS IS OF BULK AT MOST 1048576: true; the input reads as it did. -/
def voteAllUptoRow : OpenClaim := { program := "ytndchfpagiohnaa", sum := "a6c001d4c8a99bc6fd1b38e240572957acc92c5aea44d2e39909c2bcc2f8889b", func := "estafette/estafettelaw18.VoteAll", spec := "voteAll", unfollowed := true, recurses := true, apart := false, narrowed := true }
def VoteAllUptoSaid : Prop := voteAllUptoRow.holds Try.pinned (OpenSpec.upto voteAllSpec)

/-- 'estafettelaw18.VoteBox', WHERE WHAT IT READS IS OF BULK AT MOST 1048576: true; the input reads as it did. -/
def voteBoxUptoRow : OpenClaim := { program := "ytndchfpagiohnaa", sum := "a6c001d4c8a99bc6fd1b38e240572957acc92c5aea44d2e39909c2bcc2f8889b", func := "estafette/estafettelaw18.VoteBox", spec := "voteBox", unfollowed := true, recurses := true, apart := false, narrowed := true }
def VoteBoxUptoSaid : Prop := voteBoxUptoRow.holds Try.pinned (OpenSpec.upto voteBoxSpec)

/-- 'estafettelaw18.LogNewer', WHERE WHAT IT READS IS OF BULK AT MOST 1048576: true; the input reads as it did. -/
def logNewerUptoRow : OpenClaim := { program := "ytndchfpagiohnaa", sum := "a6c001d4c8a99bc6fd1b38e240572957acc92c5aea44d2e39909c2bcc2f8889b", func := "estafette/estafettelaw18.LogNewer", spec := "logNewer", unfollowed := true, recurses := true, apart := false, narrowed := true }
def LogNewerUptoSaid : Prop := logNewerUptoRow.holds Try.pinned (OpenSpec.upto logNewerSpec)

/-- 'estafettelaw18.LogCut', WHERE WHAT IT READS IS OF BULK AT MOST 1048576: true; the input reads as it did. -/
def logCutUptoRow : OpenClaim := { program := "ytndchfpagiohnaa", sum := "a6c001d4c8a99bc6fd1b38e240572957acc92c5aea44d2e39909c2bcc2f8889b", func := "estafette/estafettelaw18.LogCut", spec := "logCut", unfollowed := true, recurses := true, apart := false, narrowed := true }
def LogCutUptoSaid : Prop := logCutUptoRow.holds Try.pinned (OpenSpec.upto logCutSpec)

/-- 'estafettelaw18.VoteMedian', WHERE WHAT IT READS IS OF BULK AT MOST 1048576: true; the input reads as it did. -/
def voteMedianUptoRow : OpenClaim := { program := "ytndchfpagiohnaa", sum := "a6c001d4c8a99bc6fd1b38e240572957acc92c5aea44d2e39909c2bcc2f8889b", func := "estafette/estafettelaw18.VoteMedian", spec := "voteMedian", unfollowed := true, recurses := true, apart := false, narrowed := true }
def VoteMedianUptoSaid : Prop := voteMedianUptoRow.holds Try.pinned (OpenSpec.upto voteMedianSpec)

/-- 'estafettelaw18.LogNone', WHERE WHAT IT READS IS OF BULK AT MOST 1048576: true; the input reads as it did. -/
def logNoneUptoRow : OpenClaim := { program := "ytndchfpagiohnaa", sum := "a6c001d4c8a99bc6fd1b38e240572957acc92c5aea44d2e39909c2bcc2f8889b", func := "estafette/estafettelaw18.LogNone", spec := "logNone", unfollowed := true, recurses := true, apart := false, narrowed := true }
def LogNoneUptoSaid : Prop := logNoneUptoRow.holds Try.pinned (OpenSpec.upto logNoneSpec)

/-- 'estafettelaw18.LogFull', WHERE WHAT IT READS IS OF BULK AT MOST 1048576: true; the input reads as it did. -/
def logFullUptoRow : OpenClaim := { program := "ytndchfpagiohnaa", sum := "a6c001d4c8a99bc6fd1b38e240572957acc92c5aea44d2e39909c2bcc2f8889b", func := "estafette/estafettelaw18.LogFull", spec := "logFull", unfollowed := true, recurses := true, apart := false, narrowed := true }
def LogFullUptoSaid : Prop := logFullUptoRow.holds Try.pinned (OpenSpec.upto logFullSpec)

end Rows
end Go.Proofs.Ytndchfpagiohnaa
