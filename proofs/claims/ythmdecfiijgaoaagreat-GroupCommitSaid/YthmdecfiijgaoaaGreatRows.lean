/-
  No cell of these rows narrows 'for every input' (looked for: loops, veiled, ifaces, maps, wideKeys, modest, calm, conditions, laid).
  DERIVED. THE GIVEN ROWS OF THIS SEAT. 9 by the template 'for every input the law returns true; each argument reads behind the call as it read before'; 0 by the template 'total and deterministic' (their statements: YthmdecfiijgaoaaGreatTotals.lean).
  GIVEN WITH THE SEED: the statements are not yours to turn. If you find one false, say at which input.
  Laid BY PROGRAM, IN A SANDBOX (cutbox-rows.mjs): the forced cells as the released guide's own fill.sh prints them over the translation 1889c3167cd81ec1… (all of the seat's roots in one cut). By AI agents, Wed Nov 11 2026. No macro, syntax, notation, axiom, sorry.
-/
import Derived.Test.YthmdecfiijgaoaaGreatChecked
import GoSem.Claim
import GoSem.ClaimJoined
import GoSem.ClaimMapViews
import Derived.JoinedTies
import Derived.KernelRfl
namespace Go.Proofs.YthmdecfiijgaoaaGreat
/- THE CELL 'sum', in the pinned program and in every row, IS THE sha256 OF THE DUMP (.gsa) THAT YthmdecfiijgaoaaGreatProg.lean LOADS. Nothing in Lean hashes anything: it is a label: what it is worth is what the hold of that sum in a sandbox is worth. -/
noncomputable def Tryz.pinned : Pinned := { name := "ythmdecfiijgaoaagreat", sum := "1889c3167cd81ec1c565622e0ca2532682347e6fad2b2dd059a9e50d919a09ca", checked := Tryz.checked }
namespace Rows
def none {H : Type} : Left H := { results := [], args := [] }

/-- 'estafettelaw20.KeepAll': WHATEVER THE INPUT: true; the input reads as it did. -/
def keepAllSpec : ChangeSpec := { name := "keepAll", fn := fun _ => fun
  | [d1, d2] => { results := [.lit (.bool true)], args := [d1, d2] }
  | _ => none }
def keepAllRow : OpenClaim := { program := "ythmdecfiijgaoaagreat", sum := "1889c3167cd81ec1c565622e0ca2532682347e6fad2b2dd059a9e50d919a09ca", func := "estafette/estafettelaw20.KeepAll", spec := "keepAll", unfollowed := true, recurses := true, apart := false }
def KeepAllSaid : Prop := keepAllRow.holds Tryz.pinned (OpenSpec.ofChange keepAllSpec)

/-- ITS FALSE NEIGHBOUR: 'it returns false'. Refute it at one input. -/
def keepAllWrong : ChangeSpec := { name := "keepAll", fn := fun _ => fun
  | [d1, d2] => { results := [.lit (.bool false)], args := [d1, d2] }
  | _ => none }
def KeepAllWrongFalsely : Prop := keepAllRow.holds Tryz.pinned (OpenSpec.ofChange keepAllWrong)

/-- 'estafettelaw20.GroupVote': WHATEVER THE INPUT: true; the input reads as it did. -/
def groupVoteSpec : ChangeSpec := { name := "groupVote", fn := fun _ => fun
  | [d1, d2, d3] => { results := [.lit (.bool true)], args := [d1, d2, d3] }
  | _ => none }
def groupVoteRow : OpenClaim := { program := "ythmdecfiijgaoaagreat", sum := "1889c3167cd81ec1c565622e0ca2532682347e6fad2b2dd059a9e50d919a09ca", func := "estafette/estafettelaw20.GroupVote", spec := "groupVote", unfollowed := true, recurses := true, apart := false }
def GroupVoteSaid : Prop := groupVoteRow.holds Tryz.pinned (OpenSpec.ofChange groupVoteSpec)

/-- ITS FALSE NEIGHBOUR: 'it returns false'. Refute it at one input. -/
def groupVoteWrong : ChangeSpec := { name := "groupVote", fn := fun _ => fun
  | [d1, d2, d3] => { results := [.lit (.bool false)], args := [d1, d2, d3] }
  | _ => none }
def GroupVoteWrongFalsely : Prop := groupVoteRow.holds Tryz.pinned (OpenSpec.ofChange groupVoteWrong)

/-- 'estafettelaw20.RaftAll': WHATEVER THE INPUT: true; the input reads as it did. -/
def raftAllSpec : ChangeSpec := { name := "raftAll", fn := fun _ => fun
  | [d1, d2, d3, d4, d5] => { results := [.lit (.bool true)], args := [d1, d2, d3, d4, d5] }
  | _ => none }
def raftAllRow : OpenClaim := { program := "ythmdecfiijgaoaagreat", sum := "1889c3167cd81ec1c565622e0ca2532682347e6fad2b2dd059a9e50d919a09ca", func := "estafette/estafettelaw20.RaftAll", spec := "raftAll", unfollowed := true, recurses := true, apart := false }
def RaftAllSaid : Prop := raftAllRow.holds Tryz.pinned (OpenSpec.ofChange raftAllSpec)

/-- ITS FALSE NEIGHBOUR: 'it returns false'. Refute it at one input. -/
def raftAllWrong : ChangeSpec := { name := "raftAll", fn := fun _ => fun
  | [d1, d2, d3, d4, d5] => { results := [.lit (.bool false)], args := [d1, d2, d3, d4, d5] }
  | _ => none }
def RaftAllWrongFalsely : Prop := raftAllRow.holds Tryz.pinned (OpenSpec.ofChange raftAllWrong)

/-- 'estafettelaw20.GroupSafe': WHATEVER THE INPUT: true; the input reads as it did. -/
def groupSafeSpec : ChangeSpec := { name := "groupSafe", fn := fun _ => fun
  | [d] => { results := [.lit (.bool true)], args := [d] }
  | _ => none }
def groupSafeRow : OpenClaim := { program := "ythmdecfiijgaoaagreat", sum := "1889c3167cd81ec1c565622e0ca2532682347e6fad2b2dd059a9e50d919a09ca", func := "estafette/estafettelaw20.GroupSafe", spec := "groupSafe", unfollowed := true, recurses := true, apart := false }
def GroupSafeSaid : Prop := groupSafeRow.holds Tryz.pinned (OpenSpec.ofChange groupSafeSpec)

/-- ITS FALSE NEIGHBOUR: 'it returns false'. Refute it at one input. -/
def groupSafeWrong : ChangeSpec := { name := "groupSafe", fn := fun _ => fun
  | [d] => { results := [.lit (.bool false)], args := [d] }
  | _ => none }
def GroupSafeWrongFalsely : Prop := groupSafeRow.holds Tryz.pinned (OpenSpec.ofChange groupSafeWrong)

/-- 'estafettelaw20.GroupCalm': WHATEVER THE INPUT: true; the input reads as it did. -/
def groupCalmSpec : ChangeSpec := { name := "groupCalm", fn := fun _ => fun
  | [d] => { results := [.lit (.bool true)], args := [d] }
  | _ => none }
def groupCalmRow : OpenClaim := { program := "ythmdecfiijgaoaagreat", sum := "1889c3167cd81ec1c565622e0ca2532682347e6fad2b2dd059a9e50d919a09ca", func := "estafette/estafettelaw20.GroupCalm", spec := "groupCalm", unfollowed := true, recurses := true, apart := false }
def GroupCalmSaid : Prop := groupCalmRow.holds Tryz.pinned (OpenSpec.ofChange groupCalmSpec)

/-- ITS FALSE NEIGHBOUR: 'it returns false'. Refute it at one input. -/
def groupCalmWrong : ChangeSpec := { name := "groupCalm", fn := fun _ => fun
  | [d] => { results := [.lit (.bool false)], args := [d] }
  | _ => none }
def GroupCalmWrongFalsely : Prop := groupCalmRow.holds Tryz.pinned (OpenSpec.ofChange groupCalmWrong)

/-- 'estafettelaw20.GroupModel': WHATEVER THE INPUT: true; the input reads as it did. -/
def groupModelSpec : ChangeSpec := { name := "groupModel", fn := fun _ => fun
  | [d] => { results := [.lit (.bool true)], args := [d] }
  | _ => none }
def groupModelRow : OpenClaim := { program := "ythmdecfiijgaoaagreat", sum := "1889c3167cd81ec1c565622e0ca2532682347e6fad2b2dd059a9e50d919a09ca", func := "estafette/estafettelaw20.GroupModel", spec := "groupModel", unfollowed := true, recurses := true, apart := false }
def GroupModelSaid : Prop := groupModelRow.holds Tryz.pinned (OpenSpec.ofChange groupModelSpec)

/-- ITS FALSE NEIGHBOUR: 'it returns false'. Refute it at one input. -/
def groupModelWrong : ChangeSpec := { name := "groupModel", fn := fun _ => fun
  | [d] => { results := [.lit (.bool false)], args := [d] }
  | _ => none }
def GroupModelWrongFalsely : Prop := groupModelRow.holds Tryz.pinned (OpenSpec.ofChange groupModelWrong)

/-- 'estafettelaw20.GroupCommit': WHATEVER THE INPUT: true; the input reads as it did. -/
def groupCommitSpec : ChangeSpec := { name := "groupCommit", fn := fun _ => fun
  | [d1, d2] => { results := [.lit (.bool true)], args := [d1, d2] }
  | _ => none }
def groupCommitRow : OpenClaim := { program := "ythmdecfiijgaoaagreat", sum := "1889c3167cd81ec1c565622e0ca2532682347e6fad2b2dd059a9e50d919a09ca", func := "estafette/estafettelaw20.GroupCommit", spec := "groupCommit", unfollowed := true, recurses := true, apart := false }
def GroupCommitSaid : Prop := groupCommitRow.holds Tryz.pinned (OpenSpec.ofChange groupCommitSpec)

/-- ITS FALSE NEIGHBOUR: 'it returns false'. Refute it at one input. -/
def groupCommitWrong : ChangeSpec := { name := "groupCommit", fn := fun _ => fun
  | [d1, d2] => { results := [.lit (.bool false)], args := [d1, d2] }
  | _ => none }
def GroupCommitWrongFalsely : Prop := groupCommitRow.holds Tryz.pinned (OpenSpec.ofChange groupCommitWrong)

/-- 'estafettelaw20.RaftNone': WHATEVER THE INPUT: true; the input reads as it did. -/
def raftNoneSpec : ChangeSpec := { name := "raftNone", fn := fun _ => fun
  | [] => { results := [.lit (.bool true)], args := [] }
  | _ => none }
def raftNoneRow : OpenClaim := { program := "ythmdecfiijgaoaagreat", sum := "1889c3167cd81ec1c565622e0ca2532682347e6fad2b2dd059a9e50d919a09ca", func := "estafette/estafettelaw20.RaftNone", spec := "raftNone", unfollowed := true, recurses := true, apart := false }
def RaftNoneSaid : Prop := raftNoneRow.holds Tryz.pinned (OpenSpec.ofChange raftNoneSpec)

/-- ITS FALSE NEIGHBOUR: 'it returns false'. Refute it at one input. -/
def raftNoneWrong : ChangeSpec := { name := "raftNone", fn := fun _ => fun
  | [] => { results := [.lit (.bool false)], args := [] }
  | _ => none }
def RaftNoneWrongFalsely : Prop := raftNoneRow.holds Tryz.pinned (OpenSpec.ofChange raftNoneWrong)

/-- 'estafettelaw20.KeepBack': WHATEVER THE INPUT: true; the input reads as it did. -/
def keepBackSpec : ChangeSpec := { name := "keepBack", fn := fun _ => fun
  | [d1, d2, d3, d4] => { results := [.lit (.bool true)], args := [d1, d2, d3, d4] }
  | _ => none }
def keepBackRow : OpenClaim := { program := "ythmdecfiijgaoaagreat", sum := "1889c3167cd81ec1c565622e0ca2532682347e6fad2b2dd059a9e50d919a09ca", func := "estafette/estafettelaw20.KeepBack", spec := "keepBack", unfollowed := true, recurses := true, apart := false }
def KeepBackSaid : Prop := keepBackRow.holds Tryz.pinned (OpenSpec.ofChange keepBackSpec)

/-- ITS FALSE NEIGHBOUR: 'it returns false'. Refute it at one input. -/
def keepBackWrong : ChangeSpec := { name := "keepBack", fn := fun _ => fun
  | [d1, d2, d3, d4] => { results := [.lit (.bool false)], args := [d1, d2, d3, d4] }
  | _ => none }
def KeepBackWrongFalsely : Prop := keepBackRow.holds Tryz.pinned (OpenSpec.ofChange keepBackWrong)

/- THE SECOND FORM. 'bulk': how many values and letters a reading holds, each counted each time it is reached (what is shared counts as often as it is met; a slice's spare places count too). A statement '..UptoSaid' is the law's where the arguments, and the package variables that the reading takes, are together of bulk at most 1048576: NARROWER than '..Said'. Prove '..Said' where nothing that the law and all that it calls make is longer than what came in: it says more and counts as full. Else prove '..UptoSaid'. A law counts once. -/
mutual
def uptoBulk {H : Type} : DataW H → Nat
  | .lit (.string bytes) => bytes.length + 1
  | .lit _ => 1
  | .nil => 1
  | .ptr d => uptoBulk d + 1
  | .slice elems spare => uptoBulkAll elems + uptoBulkAll spare + 1
  | .agg parts => uptoBulkAll parts + 1
  | .iface _ d => uptoBulk d + 1
  | .map entries => uptoBulkEntries entries + 1
  | .held _ => 1
def uptoBulkAll {H : Type} : List (DataW H) → Nat
  | [] => 0
  | d :: r => uptoBulk d + uptoBulkAll r
def uptoBulkEntries {H : Type} : List (Lit × DataW H) → Nat
  | [] => 0
  | x :: r => uptoBulkEntry x + uptoBulkEntries r
def uptoBulkEntry {H : Type} : Lit × DataW H → Nat
  | (.string bytes, d) => bytes.length + uptoBulk d + 1
  | (_, d) => uptoBulk d + 1
 end
def uptoSmall : (H : Type) → List (DataW H) → Bool := fun _ ds => decide (uptoBulkAll ds ≤ 1048576)
def OpenSpec.upto (s : _root_.Go.ChangeSpec) : _root_.Go.OpenSpec := { _root_.Go.OpenSpec.ofChange s with cond := some uptoSmall }

/-- 'estafettelaw20.KeepAll', WHERE WHAT IT READS IS OF BULK AT MOST 1048576: true; the input reads as it did. -/
def keepAllUptoRow : OpenClaim := { program := "ythmdecfiijgaoaagreat", sum := "1889c3167cd81ec1c565622e0ca2532682347e6fad2b2dd059a9e50d919a09ca", func := "estafette/estafettelaw20.KeepAll", spec := "keepAll", unfollowed := true, recurses := true, apart := false, narrowed := true }
def KeepAllUptoSaid : Prop := keepAllUptoRow.holds Tryz.pinned (OpenSpec.upto keepAllSpec)

/-- 'estafettelaw20.GroupVote', WHERE WHAT IT READS IS OF BULK AT MOST 1048576: true; the input reads as it did. -/
def groupVoteUptoRow : OpenClaim := { program := "ythmdecfiijgaoaagreat", sum := "1889c3167cd81ec1c565622e0ca2532682347e6fad2b2dd059a9e50d919a09ca", func := "estafette/estafettelaw20.GroupVote", spec := "groupVote", unfollowed := true, recurses := true, apart := false, narrowed := true }
def GroupVoteUptoSaid : Prop := groupVoteUptoRow.holds Tryz.pinned (OpenSpec.upto groupVoteSpec)

/-- 'estafettelaw20.RaftAll', WHERE WHAT IT READS IS OF BULK AT MOST 1048576: true; the input reads as it did. -/
def raftAllUptoRow : OpenClaim := { program := "ythmdecfiijgaoaagreat", sum := "1889c3167cd81ec1c565622e0ca2532682347e6fad2b2dd059a9e50d919a09ca", func := "estafette/estafettelaw20.RaftAll", spec := "raftAll", unfollowed := true, recurses := true, apart := false, narrowed := true }
def RaftAllUptoSaid : Prop := raftAllUptoRow.holds Tryz.pinned (OpenSpec.upto raftAllSpec)

/-- 'estafettelaw20.GroupSafe', WHERE WHAT IT READS IS OF BULK AT MOST 1048576: true; the input reads as it did. -/
def groupSafeUptoRow : OpenClaim := { program := "ythmdecfiijgaoaagreat", sum := "1889c3167cd81ec1c565622e0ca2532682347e6fad2b2dd059a9e50d919a09ca", func := "estafette/estafettelaw20.GroupSafe", spec := "groupSafe", unfollowed := true, recurses := true, apart := false, narrowed := true }
def GroupSafeUptoSaid : Prop := groupSafeUptoRow.holds Tryz.pinned (OpenSpec.upto groupSafeSpec)

/-- 'estafettelaw20.GroupCalm', WHERE WHAT IT READS IS OF BULK AT MOST 1048576: true; the input reads as it did. -/
def groupCalmUptoRow : OpenClaim := { program := "ythmdecfiijgaoaagreat", sum := "1889c3167cd81ec1c565622e0ca2532682347e6fad2b2dd059a9e50d919a09ca", func := "estafette/estafettelaw20.GroupCalm", spec := "groupCalm", unfollowed := true, recurses := true, apart := false, narrowed := true }
def GroupCalmUptoSaid : Prop := groupCalmUptoRow.holds Tryz.pinned (OpenSpec.upto groupCalmSpec)

/-- 'estafettelaw20.GroupModel', WHERE WHAT IT READS IS OF BULK AT MOST 1048576: true; the input reads as it did. -/
def groupModelUptoRow : OpenClaim := { program := "ythmdecfiijgaoaagreat", sum := "1889c3167cd81ec1c565622e0ca2532682347e6fad2b2dd059a9e50d919a09ca", func := "estafette/estafettelaw20.GroupModel", spec := "groupModel", unfollowed := true, recurses := true, apart := false, narrowed := true }
def GroupModelUptoSaid : Prop := groupModelUptoRow.holds Tryz.pinned (OpenSpec.upto groupModelSpec)

/-- 'estafettelaw20.GroupCommit', WHERE WHAT IT READS IS OF BULK AT MOST 1048576: true; the input reads as it did. -/
def groupCommitUptoRow : OpenClaim := { program := "ythmdecfiijgaoaagreat", sum := "1889c3167cd81ec1c565622e0ca2532682347e6fad2b2dd059a9e50d919a09ca", func := "estafette/estafettelaw20.GroupCommit", spec := "groupCommit", unfollowed := true, recurses := true, apart := false, narrowed := true }
def GroupCommitUptoSaid : Prop := groupCommitUptoRow.holds Tryz.pinned (OpenSpec.upto groupCommitSpec)

/-- 'estafettelaw20.RaftNone', WHERE WHAT IT READS IS OF BULK AT MOST 1048576: true; the input reads as it did. -/
def raftNoneUptoRow : OpenClaim := { program := "ythmdecfiijgaoaagreat", sum := "1889c3167cd81ec1c565622e0ca2532682347e6fad2b2dd059a9e50d919a09ca", func := "estafette/estafettelaw20.RaftNone", spec := "raftNone", unfollowed := true, recurses := true, apart := false, narrowed := true }
def RaftNoneUptoSaid : Prop := raftNoneUptoRow.holds Tryz.pinned (OpenSpec.upto raftNoneSpec)

/-- 'estafettelaw20.KeepBack', WHERE WHAT IT READS IS OF BULK AT MOST 1048576: true; the input reads as it did. -/
def keepBackUptoRow : OpenClaim := { program := "ythmdecfiijgaoaagreat", sum := "1889c3167cd81ec1c565622e0ca2532682347e6fad2b2dd059a9e50d919a09ca", func := "estafette/estafettelaw20.KeepBack", spec := "keepBack", unfollowed := true, recurses := true, apart := false, narrowed := true }
def KeepBackUptoSaid : Prop := keepBackUptoRow.holds Tryz.pinned (OpenSpec.upto keepBackSpec)

end Rows
end Go.Proofs.YthmdecfiijgaoaaGreat
