/-
  No cell of these rows narrows 'for every input' (looked for: loops, veiled, ifaces, maps, wideKeys, modest, calm, conditions, laid).
  DERIVED. THE GIVEN ROWS OF THIS SEAT. 12 by the template 'for every input the law returns true; each argument reads behind the call as it read before'; 0 by the template 'total and deterministic' (their statements: YtahhajakgakdhaaTotals.lean).
  GIVEN WITH THE SEED: the statements are not yours to turn. If you find one false, say at which input.
  Laid BY PROGRAM, IN A SANDBOX (cutbox-rows.mjs): the forced cells as the released guide's own fill.sh prints them over the translation 06416dd9e52ddd0e… (all of the seat's roots in one cut). By AI agents, Wed Nov 11 2026. No macro, syntax, notation, axiom, sorry.
-/
import Derived.Test.YtahhajakgakdhaaChecked
import GoSem.Claim
import GoSem.ClaimJoined
import GoSem.ClaimMapViews
import Derived.JoinedTies
import Derived.KernelRfl
namespace Go.Proofs.Ytahhajakgakdhaa
/- THE CELL 'sum', in the pinned program and in every row, IS THE sha256 OF THE DUMP (.gsa) THAT YtahhajakgakdhaaProg.lean LOADS. Nothing in Lean hashes anything: it is a label: what it is worth is what the hold of that sum in a sandbox is worth. -/
noncomputable def Try.pinned : Pinned := { name := "ytahhajakgakdhaa", sum := "06416dd9e52ddd0e9a632b285ab728c00fba363c5761a73110b5ed602102ac5c", checked := Try.checked }
namespace Rows
def none {H : Type} : Left H := { results := [], args := [] }

/-- 'estafettelaw5.DiskKeep': WHATEVER THE INPUT: true; the input reads as it did. -/
def diskKeepSpec : ChangeSpec := { name := "diskKeep", fn := fun _ => fun
  | [d1, d2, d3] => { results := [.lit (.bool true)], args := [d1, d2, d3] }
  | _ => none }
def diskKeepRow : OpenClaim := { program := "ytahhajakgakdhaa", sum := "06416dd9e52ddd0e9a632b285ab728c00fba363c5761a73110b5ed602102ac5c", func := "estafette/estafettelaw5.DiskKeep", spec := "diskKeep", unfollowed := true, recurses := true, apart := false }
def DiskKeepSaid : Prop := diskKeepRow.holds Try.pinned (OpenSpec.ofChange diskKeepSpec)

/-- ITS FALSE NEIGHBOUR: 'it returns false'. Refute it at one input. -/
def diskKeepWrong : ChangeSpec := { name := "diskKeep", fn := fun _ => fun
  | [d1, d2, d3] => { results := [.lit (.bool false)], args := [d1, d2, d3] }
  | _ => none }
def DiskKeepWrongFalsely : Prop := diskKeepRow.holds Try.pinned (OpenSpec.ofChange diskKeepWrong)

/-- 'estafettelaw5.WalAny': WHATEVER THE INPUT: true; the input reads as it did. -/
def walAnySpec : ChangeSpec := { name := "walAny", fn := fun _ => fun
  | [d1, d2, d3] => { results := [.lit (.bool true)], args := [d1, d2, d3] }
  | _ => none }
def walAnyRow : OpenClaim := { program := "ytahhajakgakdhaa", sum := "06416dd9e52ddd0e9a632b285ab728c00fba363c5761a73110b5ed602102ac5c", func := "estafette/estafettelaw5.WalAny", spec := "walAny", unfollowed := true, recurses := true, apart := false }
def WalAnySaid : Prop := walAnyRow.holds Try.pinned (OpenSpec.ofChange walAnySpec)

/-- ITS FALSE NEIGHBOUR: 'it returns false'. Refute it at one input. -/
def walAnyWrong : ChangeSpec := { name := "walAny", fn := fun _ => fun
  | [d1, d2, d3] => { results := [.lit (.bool false)], args := [d1, d2, d3] }
  | _ => none }
def WalAnyWrongFalsely : Prop := walAnyRow.holds Try.pinned (OpenSpec.ofChange walAnyWrong)

/-- 'estafettelaw5.DiskNew': WHATEVER THE INPUT: true; the input reads as it did. -/
def diskNewSpec : ChangeSpec := { name := "diskNew", fn := fun _ => fun
  | [d1, d2, d3] => { results := [.lit (.bool true)], args := [d1, d2, d3] }
  | _ => none }
def diskNewRow : OpenClaim := { program := "ytahhajakgakdhaa", sum := "06416dd9e52ddd0e9a632b285ab728c00fba363c5761a73110b5ed602102ac5c", func := "estafette/estafettelaw5.DiskNew", spec := "diskNew", unfollowed := true, recurses := true, apart := false }
def DiskNewSaid : Prop := diskNewRow.holds Try.pinned (OpenSpec.ofChange diskNewSpec)

/-- ITS FALSE NEIGHBOUR: 'it returns false'. Refute it at one input. -/
def diskNewWrong : ChangeSpec := { name := "diskNew", fn := fun _ => fun
  | [d1, d2, d3] => { results := [.lit (.bool false)], args := [d1, d2, d3] }
  | _ => none }
def DiskNewWrongFalsely : Prop := diskNewRow.holds Try.pinned (OpenSpec.ofChange diskNewWrong)

/-- 'estafettelaw5.DiskOwn': WHATEVER THE INPUT: true; the input reads as it did. -/
def diskOwnSpec : ChangeSpec := { name := "diskOwn", fn := fun _ => fun
  | [d] => { results := [.lit (.bool true)], args := [d] }
  | _ => none }
def diskOwnRow : OpenClaim := { program := "ytahhajakgakdhaa", sum := "06416dd9e52ddd0e9a632b285ab728c00fba363c5761a73110b5ed602102ac5c", func := "estafette/estafettelaw5.DiskOwn", spec := "diskOwn", unfollowed := true, recurses := true, apart := false }
def DiskOwnSaid : Prop := diskOwnRow.holds Try.pinned (OpenSpec.ofChange diskOwnSpec)

/-- ITS FALSE NEIGHBOUR: 'it returns false'. Refute it at one input. -/
def diskOwnWrong : ChangeSpec := { name := "diskOwn", fn := fun _ => fun
  | [d] => { results := [.lit (.bool false)], args := [d] }
  | _ => none }
def DiskOwnWrongFalsely : Prop := diskOwnRow.holds Try.pinned (OpenSpec.ofChange diskOwnWrong)

/-- 'estafettelaw5.WalTwo': WHATEVER THE INPUT: true; the input reads as it did. -/
def walTwoSpec : ChangeSpec := { name := "walTwo", fn := fun _ => fun
  | [d1, d2, d3] => { results := [.lit (.bool true)], args := [d1, d2, d3] }
  | _ => none }
def walTwoRow : OpenClaim := { program := "ytahhajakgakdhaa", sum := "06416dd9e52ddd0e9a632b285ab728c00fba363c5761a73110b5ed602102ac5c", func := "estafette/estafettelaw5.WalTwo", spec := "walTwo", unfollowed := true, recurses := true, apart := false }
def WalTwoSaid : Prop := walTwoRow.holds Try.pinned (OpenSpec.ofChange walTwoSpec)

/-- ITS FALSE NEIGHBOUR: 'it returns false'. Refute it at one input. -/
def walTwoWrong : ChangeSpec := { name := "walTwo", fn := fun _ => fun
  | [d1, d2, d3] => { results := [.lit (.bool false)], args := [d1, d2, d3] }
  | _ => none }
def WalTwoWrongFalsely : Prop := walTwoRow.holds Try.pinned (OpenSpec.ofChange walTwoWrong)

/-- 'estafettelaw5.WalTwice': WHATEVER THE INPUT: true; the input reads as it did. -/
def walTwiceSpec : ChangeSpec := { name := "walTwice", fn := fun _ => fun
  | [d1, d2, d3, d4] => { results := [.lit (.bool true)], args := [d1, d2, d3, d4] }
  | _ => none }
def walTwiceRow : OpenClaim := { program := "ytahhajakgakdhaa", sum := "06416dd9e52ddd0e9a632b285ab728c00fba363c5761a73110b5ed602102ac5c", func := "estafette/estafettelaw5.WalTwice", spec := "walTwice", unfollowed := true, recurses := true, apart := false }
def WalTwiceSaid : Prop := walTwiceRow.holds Try.pinned (OpenSpec.ofChange walTwiceSpec)

/-- ITS FALSE NEIGHBOUR: 'it returns false'. Refute it at one input. -/
def walTwiceWrong : ChangeSpec := { name := "walTwice", fn := fun _ => fun
  | [d1, d2, d3, d4] => { results := [.lit (.bool false)], args := [d1, d2, d3, d4] }
  | _ => none }
def WalTwiceWrongFalsely : Prop := walTwiceRow.holds Try.pinned (OpenSpec.ofChange walTwiceWrong)

/-- 'estafettelaw5.DiskFuse': WHATEVER THE INPUT: true; the input reads as it did. -/
def diskFuseSpec : ChangeSpec := { name := "diskFuse", fn := fun _ => fun
  | [d1, d2] => { results := [.lit (.bool true)], args := [d1, d2] }
  | _ => none }
def diskFuseRow : OpenClaim := { program := "ytahhajakgakdhaa", sum := "06416dd9e52ddd0e9a632b285ab728c00fba363c5761a73110b5ed602102ac5c", func := "estafette/estafettelaw5.DiskFuse", spec := "diskFuse", unfollowed := true, recurses := true, apart := false }
def DiskFuseSaid : Prop := diskFuseRow.holds Try.pinned (OpenSpec.ofChange diskFuseSpec)

/-- ITS FALSE NEIGHBOUR: 'it returns false'. Refute it at one input. -/
def diskFuseWrong : ChangeSpec := { name := "diskFuse", fn := fun _ => fun
  | [d1, d2] => { results := [.lit (.bool false)], args := [d1, d2] }
  | _ => none }
def DiskFuseWrongFalsely : Prop := diskFuseRow.holds Try.pinned (OpenSpec.ofChange diskFuseWrong)

/-- 'estafettelaw5.DiskMove': WHATEVER THE INPUT: true; the input reads as it did. -/
def diskMoveSpec : ChangeSpec := { name := "diskMove", fn := fun _ => fun
  | [d1, d2, d3, d4] => { results := [.lit (.bool true)], args := [d1, d2, d3, d4] }
  | _ => none }
def diskMoveRow : OpenClaim := { program := "ytahhajakgakdhaa", sum := "06416dd9e52ddd0e9a632b285ab728c00fba363c5761a73110b5ed602102ac5c", func := "estafette/estafettelaw5.DiskMove", spec := "diskMove", unfollowed := true, recurses := true, apart := false }
def DiskMoveSaid : Prop := diskMoveRow.holds Try.pinned (OpenSpec.ofChange diskMoveSpec)

/-- ITS FALSE NEIGHBOUR: 'it returns false'. Refute it at one input. -/
def diskMoveWrong : ChangeSpec := { name := "diskMove", fn := fun _ => fun
  | [d1, d2, d3, d4] => { results := [.lit (.bool false)], args := [d1, d2, d3, d4] }
  | _ => none }
def DiskMoveWrongFalsely : Prop := diskMoveRow.holds Try.pinned (OpenSpec.ofChange diskMoveWrong)

/-- 'estafettelaw5.DiskAll': WHATEVER THE INPUT: true; the input reads as it did. -/
def diskAllSpec : ChangeSpec := { name := "diskAll", fn := fun _ => fun
  | [d] => { results := [.lit (.bool true)], args := [d] }
  | _ => none }
def diskAllRow : OpenClaim := { program := "ytahhajakgakdhaa", sum := "06416dd9e52ddd0e9a632b285ab728c00fba363c5761a73110b5ed602102ac5c", func := "estafette/estafettelaw5.DiskAll", spec := "diskAll", unfollowed := true, recurses := true, apart := false }
def DiskAllSaid : Prop := diskAllRow.holds Try.pinned (OpenSpec.ofChange diskAllSpec)

/-- ITS FALSE NEIGHBOUR: 'it returns false'. Refute it at one input. -/
def diskAllWrong : ChangeSpec := { name := "diskAll", fn := fun _ => fun
  | [d] => { results := [.lit (.bool false)], args := [d] }
  | _ => none }
def DiskAllWrongFalsely : Prop := diskAllRow.holds Try.pinned (OpenSpec.ofChange diskAllWrong)

/-- 'estafettelaw5.WalAll': WHATEVER THE INPUT: true; the input reads as it did. -/
def walAllSpec : ChangeSpec := { name := "walAll", fn := fun _ => fun
  | [d1, d2] => { results := [.lit (.bool true)], args := [d1, d2] }
  | _ => none }
def walAllRow : OpenClaim := { program := "ytahhajakgakdhaa", sum := "06416dd9e52ddd0e9a632b285ab728c00fba363c5761a73110b5ed602102ac5c", func := "estafette/estafettelaw5.WalAll", spec := "walAll", unfollowed := true, recurses := true, apart := false }
def WalAllSaid : Prop := walAllRow.holds Try.pinned (OpenSpec.ofChange walAllSpec)

/-- ITS FALSE NEIGHBOUR: 'it returns false'. Refute it at one input. -/
def walAllWrong : ChangeSpec := { name := "walAll", fn := fun _ => fun
  | [d1, d2] => { results := [.lit (.bool false)], args := [d1, d2] }
  | _ => none }
def WalAllWrongFalsely : Prop := walAllRow.holds Try.pinned (OpenSpec.ofChange walAllWrong)

/-- 'estafettelaw5.WalCut': WHATEVER THE INPUT: true; the input reads as it did. -/
def walCutSpec : ChangeSpec := { name := "walCut", fn := fun _ => fun
  | [d1, d2, d3, d4, d5] => { results := [.lit (.bool true)], args := [d1, d2, d3, d4, d5] }
  | _ => none }
def walCutRow : OpenClaim := { program := "ytahhajakgakdhaa", sum := "06416dd9e52ddd0e9a632b285ab728c00fba363c5761a73110b5ed602102ac5c", func := "estafette/estafettelaw5.WalCut", spec := "walCut", unfollowed := true, recurses := true, apart := false }
def WalCutSaid : Prop := walCutRow.holds Try.pinned (OpenSpec.ofChange walCutSpec)

/-- ITS FALSE NEIGHBOUR: 'it returns false'. Refute it at one input. -/
def walCutWrong : ChangeSpec := { name := "walCut", fn := fun _ => fun
  | [d1, d2, d3, d4, d5] => { results := [.lit (.bool false)], args := [d1, d2, d3, d4, d5] }
  | _ => none }
def WalCutWrongFalsely : Prop := walCutRow.holds Try.pinned (OpenSpec.ofChange walCutWrong)

/-- 'estafettelaw5.WalNone': WHATEVER THE INPUT: true; the input reads as it did. -/
def walNoneSpec : ChangeSpec := { name := "walNone", fn := fun _ => fun
  | [] => { results := [.lit (.bool true)], args := [] }
  | _ => none }
def walNoneRow : OpenClaim := { program := "ytahhajakgakdhaa", sum := "06416dd9e52ddd0e9a632b285ab728c00fba363c5761a73110b5ed602102ac5c", func := "estafette/estafettelaw5.WalNone", spec := "walNone", unfollowed := true, recurses := true, apart := false }
def WalNoneSaid : Prop := walNoneRow.holds Try.pinned (OpenSpec.ofChange walNoneSpec)

/-- ITS FALSE NEIGHBOUR: 'it returns false'. Refute it at one input. -/
def walNoneWrong : ChangeSpec := { name := "walNone", fn := fun _ => fun
  | [] => { results := [.lit (.bool false)], args := [] }
  | _ => none }
def WalNoneWrongFalsely : Prop := walNoneRow.holds Try.pinned (OpenSpec.ofChange walNoneWrong)

/- THE SECOND FORM. 'bulk': how many values and letters a reading holds, each counted each time it is reached (what is shared counts as often as it is met; a slice's spare places count too). A statement '..UptoSaid' is the law's where the arguments, and the package variables that the reading takes, are together of bulk at most 1048576: NARROWER than '..Said'. Prove '..Said' where nothing that the law and all that it calls make is longer than what came in: it says more and counts as full. Else prove '..UptoSaid'. A law counts once. -/
mutual
def uptoBulk {H : Type} : DataW H → Nat
  | .lit (.string bytes) => bytes.length + 1
  | .lit _ => 1
  | .nil => 1
  | .ptr d => uptoBulk d + 1
  | .slice elems spare => uptoBulkAll elems + uptoBulkAll spare + 1
  | .agg parts => uptoBulkAll parts + 1
  | .iface _ d => uptoBulk d + 1
  | .map entries => uptoBulkEntries entries + 1
  | .held _ => 1
def uptoBulkAll {H : Type} : List (DataW H) → Nat
  | [] => 0
  | d :: r => uptoBulk d + uptoBulkAll r
def uptoBulkEntries {H : Type} : List (Lit × DataW H) → Nat
  | [] => 0
  | x :: r => uptoBulkEntry x + uptoBulkEntries r
def uptoBulkEntry {H : Type} : Lit × DataW H → Nat
  | (.string bytes, d) => bytes.length + uptoBulk d + 1
  | (_, d) => uptoBulk d + 1
 end
def uptoSmall : (H : Type) → List (DataW H) → Bool := fun _ ds => decide (uptoBulkAll ds ≤ 1048576)
def OpenSpec.upto (s : _root_.Go.ChangeSpec) : _root_.Go.OpenSpec := { _root_.Go.OpenSpec.ofChange s with cond := some uptoSmall }

/-- 'estafettelaw5.DiskKeep', WHERE WHAT IT READS IS OF BULK AT MOST 1048576: true; the input reads as it did. -/
def diskKeepUptoRow : OpenClaim := { program := "ytahhajakgakdhaa", sum := "06416dd9e52ddd0e9a632b285ab728c00fba363c5761a73110b5ed602102ac5c", func := "estafette/estafettelaw5.DiskKeep", spec := "diskKeep", unfollowed := true, recurses := true, apart := false, narrowed := true }
def DiskKeepUptoSaid : Prop := diskKeepUptoRow.holds Try.pinned (OpenSpec.upto diskKeepSpec)

/-- 'estafettelaw5.WalAny', WHERE WHAT IT READS IS OF BULK AT MOST 1048576: true; the input reads as it did. -/
def walAnyUptoRow : OpenClaim := { program := "ytahhajakgakdhaa", sum := "06416dd9e52ddd0e9a632b285ab728c00fba363c5761a73110b5ed602102ac5c", func := "estafette/estafettelaw5.WalAny", spec := "walAny", unfollowed := true, recurses := true, apart := false, narrowed := true }
def WalAnyUptoSaid : Prop := walAnyUptoRow.holds Try.pinned (OpenSpec.upto walAnySpec)

/-- 'estafettelaw5.DiskNew', WHERE WHAT IT READS IS OF BULK AT MOST 1048576: true; the input reads as it did. -/
def diskNewUptoRow : OpenClaim := { program := "ytahhajakgakdhaa", sum := "06416dd9e52ddd0e9a632b285ab728c00fba363c5761a73110b5ed602102ac5c", func := "estafette/estafettelaw5.DiskNew", spec := "diskNew", unfollowed := true, recurses := true, apart := false, narrowed := true }
def DiskNewUptoSaid : Prop := diskNewUptoRow.holds Try.pinned (OpenSpec.upto diskNewSpec)

/-- 'estafettelaw5.DiskOwn', WHERE WHAT IT READS IS OF BULK AT MOST 1048576: true; the input reads as it did. -/
def diskOwnUptoRow : OpenClaim := { program := "ytahhajakgakdhaa", sum := "06416dd9e52ddd0e9a632b285ab728c00fba363c5761a73110b5ed602102ac5c", func := "estafette/estafettelaw5.DiskOwn", spec := "diskOwn", unfollowed := true, recurses := true, apart := false, narrowed := true }
def DiskOwnUptoSaid : Prop := diskOwnUptoRow.holds Try.pinned (OpenSpec.upto diskOwnSpec)

/-- 'estafettelaw5.WalTwo', WHERE WHAT IT READS IS OF BULK AT MOST 1048576: true; the input reads as it did. -/
def walTwoUptoRow : OpenClaim := { program := "ytahhajakgakdhaa", sum := "06416dd9e52ddd0e9a632b285ab728c00fba363c5761a73110b5ed602102ac5c", func := "estafette/estafettelaw5.WalTwo", spec := "walTwo", unfollowed := true, recurses := true, apart := false, narrowed := true }
def WalTwoUptoSaid : Prop := walTwoUptoRow.holds Try.pinned (OpenSpec.upto walTwoSpec)

/-- 'estafettelaw5.WalTwice', WHERE WHAT IT READS IS OF BULK AT MOST 1048576: true; the input reads as it did. -/
def walTwiceUptoRow : OpenClaim := { program := "ytahhajakgakdhaa", sum := "06416dd9e52ddd0e9a632b285ab728c00fba363c5761a73110b5ed602102ac5c", func := "estafette/estafettelaw5.WalTwice", spec := "walTwice", unfollowed := true, recurses := true, apart := false, narrowed := true }
def WalTwiceUptoSaid : Prop := walTwiceUptoRow.holds Try.pinned (OpenSpec.upto walTwiceSpec)

/-- 'estafettelaw5.DiskFuse', WHERE WHAT IT READS IS OF BULK AT MOST 1048576: true; the input reads as it did. -/
def diskFuseUptoRow : OpenClaim := { program := "ytahhajakgakdhaa", sum := "06416dd9e52ddd0e9a632b285ab728c00fba363c5761a73110b5ed602102ac5c", func := "estafette/estafettelaw5.DiskFuse", spec := "diskFuse", unfollowed := true, recurses := true, apart := false, narrowed := true }
def DiskFuseUptoSaid : Prop := diskFuseUptoRow.holds Try.pinned (OpenSpec.upto diskFuseSpec)

/-- 'estafettelaw5.DiskMove', WHERE WHAT IT READS IS OF BULK AT MOST 1048576: true; the input reads as it did. -/
def diskMoveUptoRow : OpenClaim := { program := "ytahhajakgakdhaa", sum := "06416dd9e52ddd0e9a632b285ab728c00fba363c5761a73110b5ed602102ac5c", func := "estafette/estafettelaw5.DiskMove", spec := "diskMove", unfollowed := true, recurses := true, apart := false, narrowed := true }
def DiskMoveUptoSaid : Prop := diskMoveUptoRow.holds Try.pinned (OpenSpec.upto diskMoveSpec)

/-- 'estafettelaw5.DiskAll', WHERE WHAT IT READS IS OF BULK AT MOST 1048576: true; the input reads as it did. -/
def diskAllUptoRow : OpenClaim := { program := "ytahhajakgakdhaa", sum := "06416dd9e52ddd0e9a632b285ab728c00fba363c5761a73110b5ed602102ac5c", func := "estafette/estafettelaw5.DiskAll", spec := "diskAll", unfollowed := true, recurses := true, apart := false, narrowed := true }
def DiskAllUptoSaid : Prop := diskAllUptoRow.holds Try.pinned (OpenSpec.upto diskAllSpec)

/-- 'estafettelaw5.WalAll', WHERE WHAT IT READS IS OF BULK AT MOST 1048576: true; the input reads as it did. -/
def walAllUptoRow : OpenClaim := { program := "ytahhajakgakdhaa", sum := "06416dd9e52ddd0e9a632b285ab728c00fba363c5761a73110b5ed602102ac5c", func := "estafette/estafettelaw5.WalAll", spec := "walAll", unfollowed := true, recurses := true, apart := false, narrowed := true }
def WalAllUptoSaid : Prop := walAllUptoRow.holds Try.pinned (OpenSpec.upto walAllSpec)

/-- 'estafettelaw5.WalCut', WHERE WHAT IT READS IS OF BULK AT MOST 1048576: true; the input reads as it did. -/
def walCutUptoRow : OpenClaim := { program := "ytahhajakgakdhaa", sum := "06416dd9e52ddd0e9a632b285ab728c00fba363c5761a73110b5ed602102ac5c", func := "estafette/estafettelaw5.WalCut", spec := "walCut", unfollowed := true, recurses := true, apart := false, narrowed := true }
def WalCutUptoSaid : Prop := walCutUptoRow.holds Try.pinned (OpenSpec.upto walCutSpec)

/-- 'estafettelaw5.WalNone', WHERE WHAT IT READS IS OF BULK AT MOST 1048576: true; the input reads as it did. -/
def walNoneUptoRow : OpenClaim := { program := "ytahhajakgakdhaa", sum := "06416dd9e52ddd0e9a632b285ab728c00fba363c5761a73110b5ed602102ac5c", func := "estafette/estafettelaw5.WalNone", spec := "walNone", unfollowed := true, recurses := true, apart := false, narrowed := true }
def WalNoneUptoSaid : Prop := walNoneUptoRow.holds Try.pinned (OpenSpec.upto walNoneSpec)

end Rows
end Go.Proofs.Ytahhajakgakdhaa
