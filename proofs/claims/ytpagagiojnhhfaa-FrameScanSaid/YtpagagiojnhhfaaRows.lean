/-
  No cell of these rows narrows 'for every input' (looked for: loops, veiled, ifaces, maps, wideKeys, modest, calm, conditions, laid).
  DERIVED. THE GIVEN ROWS OF THIS SEAT. 14 by the template 'for every input the law returns true; each argument reads behind the call as it read before'; 0 by the template 'total and deterministic' (their statements: YtpagagiojnhhfaaTotals.lean).
  GIVEN WITH THE SEED: the statements are not yours to turn. If you find one false, say at which input.
  Laid BY PROGRAM, IN A SANDBOX (cutbox-rows.mjs): the forced cells as the released guide's own fill.sh prints them over the translation 695ea53815a5e454… (all of the seat's roots in one cut). By AI agents, Wed Nov 11 2026. No macro, syntax, notation, axiom, sorry.
-/
import Derived.Test.YtpagagiojnhhfaaChecked
import GoSem.Claim
import GoSem.ClaimJoined
import GoSem.ClaimMapViews
import Derived.JoinedTies
import Derived.KernelRfl
namespace Go.Proofs.Ytpagagiojnhhfaa
/- THE CELL 'sum', in the pinned program and in every row, IS THE sha256 OF THE DUMP (.gsa) THAT YtpagagiojnhhfaaProg.lean LOADS. Nothing in Lean hashes anything: it is a label: what it is worth is what the hold of that sum in a sandbox is worth. -/
noncomputable def Try.pinned : Pinned := { name := "ytpagagiojnhhfaa", sum := "695ea53815a5e4548143671a37f2013b97c2768c06f89226d2796fca7362f8c0", checked := Try.checked }
namespace Rows
def none {H : Type} : Left H := { results := [], args := [] }

/-- 'estafettelaw0.Names': WHATEVER THE INPUT: true; the input reads as it did. -/
def namesSpec : ChangeSpec := { name := "names", fn := fun _ => fun
  | [] => { results := [.lit (.bool true)], args := [] }
  | _ => none }
def namesRow : OpenClaim := { program := "ytpagagiojnhhfaa", sum := "695ea53815a5e4548143671a37f2013b97c2768c06f89226d2796fca7362f8c0", func := "estafette/estafettelaw0.Names", spec := "names", apart := false }
def NamesSaid : Prop := namesRow.holds Try.pinned (OpenSpec.ofChange namesSpec)

/-- ITS FALSE NEIGHBOUR: 'it returns false'. Refute it at one input. -/
def namesWrong : ChangeSpec := { name := "names", fn := fun _ => fun
  | [] => { results := [.lit (.bool false)], args := [] }
  | _ => none }
def NamesWrongFalsely : Prop := namesRow.holds Try.pinned (OpenSpec.ofChange namesWrong)

/-- 'estafettelaw1.WordAll': WHATEVER THE INPUT: true; the input reads as it did. -/
def wordAllSpec : ChangeSpec := { name := "wordAll", fn := fun _ => fun
  | [d1, d2, d3, d4] => { results := [.lit (.bool true)], args := [d1, d2, d3, d4] }
  | _ => none }
def wordAllRow : OpenClaim := { program := "ytpagagiojnhhfaa", sum := "695ea53815a5e4548143671a37f2013b97c2768c06f89226d2796fca7362f8c0", func := "estafette/estafettelaw1.WordAll", spec := "wordAll", unfollowed := true, recurses := true, apart := false }
def WordAllSaid : Prop := wordAllRow.holds Try.pinned (OpenSpec.ofChange wordAllSpec)

/-- ITS FALSE NEIGHBOUR: 'it returns false'. Refute it at one input. -/
def wordAllWrong : ChangeSpec := { name := "wordAll", fn := fun _ => fun
  | [d1, d2, d3, d4] => { results := [.lit (.bool false)], args := [d1, d2, d3, d4] }
  | _ => none }
def WordAllWrongFalsely : Prop := wordAllRow.holds Try.pinned (OpenSpec.ofChange wordAllWrong)

/-- 'estafettelaw1.WordOrder': WHATEVER THE INPUT: true; the input reads as it did. -/
def wordOrderSpec : ChangeSpec := { name := "wordOrder", fn := fun _ => fun
  | [d1, d2] => { results := [.lit (.bool true)], args := [d1, d2] }
  | _ => none }
def wordOrderRow : OpenClaim := { program := "ytpagagiojnhhfaa", sum := "695ea53815a5e4548143671a37f2013b97c2768c06f89226d2796fca7362f8c0", func := "estafette/estafettelaw1.WordOrder", spec := "wordOrder", unfollowed := true, recurses := true, apart := false }
def WordOrderSaid : Prop := wordOrderRow.holds Try.pinned (OpenSpec.ofChange wordOrderSpec)

/-- ITS FALSE NEIGHBOUR: 'it returns false'. Refute it at one input. -/
def wordOrderWrong : ChangeSpec := { name := "wordOrder", fn := fun _ => fun
  | [d1, d2] => { results := [.lit (.bool false)], args := [d1, d2] }
  | _ => none }
def WordOrderWrongFalsely : Prop := wordOrderRow.holds Try.pinned (OpenSpec.ofChange wordOrderWrong)

/-- 'estafettelaw1.MarkAll': WHATEVER THE INPUT: true; the input reads as it did. -/
def markAllSpec : ChangeSpec := { name := "markAll", fn := fun _ => fun
  | [d1, d2, d3, d4, d5] => { results := [.lit (.bool true)], args := [d1, d2, d3, d4, d5] }
  | _ => none }
def markAllRow : OpenClaim := { program := "ytpagagiojnhhfaa", sum := "695ea53815a5e4548143671a37f2013b97c2768c06f89226d2796fca7362f8c0", func := "estafette/estafettelaw1.MarkAll", spec := "markAll", unfollowed := true, recurses := true, apart := false }
def MarkAllSaid : Prop := markAllRow.holds Try.pinned (OpenSpec.ofChange markAllSpec)

/-- ITS FALSE NEIGHBOUR: 'it returns false'. Refute it at one input. -/
def markAllWrong : ChangeSpec := { name := "markAll", fn := fun _ => fun
  | [d1, d2, d3, d4, d5] => { results := [.lit (.bool false)], args := [d1, d2, d3, d4, d5] }
  | _ => none }
def MarkAllWrongFalsely : Prop := markAllRow.holds Try.pinned (OpenSpec.ofChange markAllWrong)

/-- 'estafettelaw1.MarkTurn': WHATEVER THE INPUT: true; the input reads as it did. -/
def markTurnSpec : ChangeSpec := { name := "markTurn", fn := fun _ => fun
  | [d1, d2, d3] => { results := [.lit (.bool true)], args := [d1, d2, d3] }
  | _ => none }
def markTurnRow : OpenClaim := { program := "ytpagagiojnhhfaa", sum := "695ea53815a5e4548143671a37f2013b97c2768c06f89226d2796fca7362f8c0", func := "estafette/estafettelaw1.MarkTurn", spec := "markTurn", unfollowed := true, recurses := true, apart := false }
def MarkTurnSaid : Prop := markTurnRow.holds Try.pinned (OpenSpec.ofChange markTurnSpec)

/-- ITS FALSE NEIGHBOUR: 'it returns false'. Refute it at one input. -/
def markTurnWrong : ChangeSpec := { name := "markTurn", fn := fun _ => fun
  | [d1, d2, d3] => { results := [.lit (.bool false)], args := [d1, d2, d3] }
  | _ => none }
def MarkTurnWrongFalsely : Prop := markTurnRow.holds Try.pinned (OpenSpec.ofChange markTurnWrong)

/-- 'estafettelaw1.RecAll': WHATEVER THE INPUT: true; the input reads as it did. -/
def recAllSpec : ChangeSpec := { name := "recAll", fn := fun _ => fun
  | [d1, d2, d3] => { results := [.lit (.bool true)], args := [d1, d2, d3] }
  | _ => none }
def recAllRow : OpenClaim := { program := "ytpagagiojnhhfaa", sum := "695ea53815a5e4548143671a37f2013b97c2768c06f89226d2796fca7362f8c0", func := "estafette/estafettelaw1.RecAll", spec := "recAll", unfollowed := true, recurses := true, apart := false }
def RecAllSaid : Prop := recAllRow.holds Try.pinned (OpenSpec.ofChange recAllSpec)

/-- ITS FALSE NEIGHBOUR: 'it returns false'. Refute it at one input. -/
def recAllWrong : ChangeSpec := { name := "recAll", fn := fun _ => fun
  | [d1, d2, d3] => { results := [.lit (.bool false)], args := [d1, d2, d3] }
  | _ => none }
def RecAllWrongFalsely : Prop := recAllRow.holds Try.pinned (OpenSpec.ofChange recAllWrong)

/-- 'estafettelaw1.RecAny': WHATEVER THE INPUT: true; the input reads as it did. -/
def recAnySpec : ChangeSpec := { name := "recAny", fn := fun _ => fun
  | [d1, d2, d3, d4] => { results := [.lit (.bool true)], args := [d1, d2, d3, d4] }
  | _ => none }
def recAnyRow : OpenClaim := { program := "ytpagagiojnhhfaa", sum := "695ea53815a5e4548143671a37f2013b97c2768c06f89226d2796fca7362f8c0", func := "estafette/estafettelaw1.RecAny", spec := "recAny", unfollowed := true, recurses := true, apart := false }
def RecAnySaid : Prop := recAnyRow.holds Try.pinned (OpenSpec.ofChange recAnySpec)

/-- ITS FALSE NEIGHBOUR: 'it returns false'. Refute it at one input. -/
def recAnyWrong : ChangeSpec := { name := "recAny", fn := fun _ => fun
  | [d1, d2, d3, d4] => { results := [.lit (.bool false)], args := [d1, d2, d3, d4] }
  | _ => none }
def RecAnyWrongFalsely : Prop := recAnyRow.holds Try.pinned (OpenSpec.ofChange recAnyWrong)

/-- 'estafettelaw1.FrameAll': WHATEVER THE INPUT: true; the input reads as it did. -/
def frameAllSpec : ChangeSpec := { name := "frameAll", fn := fun _ => fun
  | [d1, d2] => { results := [.lit (.bool true)], args := [d1, d2] }
  | _ => none }
def frameAllRow : OpenClaim := { program := "ytpagagiojnhhfaa", sum := "695ea53815a5e4548143671a37f2013b97c2768c06f89226d2796fca7362f8c0", func := "estafette/estafettelaw1.FrameAll", spec := "frameAll", unfollowed := true, recurses := true, apart := false }
def FrameAllSaid : Prop := frameAllRow.holds Try.pinned (OpenSpec.ofChange frameAllSpec)

/-- ITS FALSE NEIGHBOUR: 'it returns false'. Refute it at one input. -/
def frameAllWrong : ChangeSpec := { name := "frameAll", fn := fun _ => fun
  | [d1, d2] => { results := [.lit (.bool false)], args := [d1, d2] }
  | _ => none }
def FrameAllWrongFalsely : Prop := frameAllRow.holds Try.pinned (OpenSpec.ofChange frameAllWrong)

/-- 'estafettelaw1.FrameScan': WHATEVER THE INPUT: true; the input reads as it did. -/
def frameScanSpec : ChangeSpec := { name := "frameScan", fn := fun _ => fun
  | [d1, d2, d3, d4] => { results := [.lit (.bool true)], args := [d1, d2, d3, d4] }
  | _ => none }
def frameScanRow : OpenClaim := { program := "ytpagagiojnhhfaa", sum := "695ea53815a5e4548143671a37f2013b97c2768c06f89226d2796fca7362f8c0", func := "estafette/estafettelaw1.FrameScan", spec := "frameScan", unfollowed := true, recurses := true, apart := false }
def FrameScanSaid : Prop := frameScanRow.holds Try.pinned (OpenSpec.ofChange frameScanSpec)

/-- ITS FALSE NEIGHBOUR: 'it returns false'. Refute it at one input. -/
def frameScanWrong : ChangeSpec := { name := "frameScan", fn := fun _ => fun
  | [d1, d2, d3, d4] => { results := [.lit (.bool false)], args := [d1, d2, d3, d4] }
  | _ => none }
def FrameScanWrongFalsely : Prop := frameScanRow.holds Try.pinned (OpenSpec.ofChange frameScanWrong)

/-- 'estafettelaw1.RecNone': WHATEVER THE INPUT: true; the input reads as it did. -/
def recNoneSpec : ChangeSpec := { name := "recNone", fn := fun _ => fun
  | [] => { results := [.lit (.bool true)], args := [] }
  | _ => none }
def recNoneRow : OpenClaim := { program := "ytpagagiojnhhfaa", sum := "695ea53815a5e4548143671a37f2013b97c2768c06f89226d2796fca7362f8c0", func := "estafette/estafettelaw1.RecNone", spec := "recNone", unfollowed := true, recurses := true, apart := false }
def RecNoneSaid : Prop := recNoneRow.holds Try.pinned (OpenSpec.ofChange recNoneSpec)

/-- ITS FALSE NEIGHBOUR: 'it returns false'. Refute it at one input. -/
def recNoneWrong : ChangeSpec := { name := "recNone", fn := fun _ => fun
  | [] => { results := [.lit (.bool false)], args := [] }
  | _ => none }
def RecNoneWrongFalsely : Prop := recNoneRow.holds Try.pinned (OpenSpec.ofChange recNoneWrong)

/-- 'estafettelaw1.WordMany': WHATEVER THE INPUT: true; the input reads as it did. -/
def wordManySpec : ChangeSpec := { name := "wordMany", fn := fun _ => fun
  | [d] => { results := [.lit (.bool true)], args := [d] }
  | _ => none }
def wordManyRow : OpenClaim := { program := "ytpagagiojnhhfaa", sum := "695ea53815a5e4548143671a37f2013b97c2768c06f89226d2796fca7362f8c0", func := "estafette/estafettelaw1.WordMany", spec := "wordMany", unfollowed := true, recurses := true, apart := false }
def WordManySaid : Prop := wordManyRow.holds Try.pinned (OpenSpec.ofChange wordManySpec)

/-- ITS FALSE NEIGHBOUR: 'it returns false'. Refute it at one input. -/
def wordManyWrong : ChangeSpec := { name := "wordMany", fn := fun _ => fun
  | [d] => { results := [.lit (.bool false)], args := [d] }
  | _ => none }
def WordManyWrongFalsely : Prop := wordManyRow.holds Try.pinned (OpenSpec.ofChange wordManyWrong)

/-- 'estafettelaw1.WordShort': WHATEVER THE INPUT: true; the input reads as it did. -/
def wordShortSpec : ChangeSpec := { name := "wordShort", fn := fun _ => fun
  | [d] => { results := [.lit (.bool true)], args := [d] }
  | _ => none }
def wordShortRow : OpenClaim := { program := "ytpagagiojnhhfaa", sum := "695ea53815a5e4548143671a37f2013b97c2768c06f89226d2796fca7362f8c0", func := "estafette/estafettelaw1.WordShort", spec := "wordShort", unfollowed := true, recurses := true, apart := false }
def WordShortSaid : Prop := wordShortRow.holds Try.pinned (OpenSpec.ofChange wordShortSpec)

/-- ITS FALSE NEIGHBOUR: 'it returns false'. Refute it at one input. -/
def wordShortWrong : ChangeSpec := { name := "wordShort", fn := fun _ => fun
  | [d] => { results := [.lit (.bool false)], args := [d] }
  | _ => none }
def WordShortWrongFalsely : Prop := wordShortRow.holds Try.pinned (OpenSpec.ofChange wordShortWrong)

/-- 'estafettelaw1.MarkSwap': WHATEVER THE INPUT: true; the input reads as it did. -/
def markSwapSpec : ChangeSpec := { name := "markSwap", fn := fun _ => fun
  | [d1, d2] => { results := [.lit (.bool true)], args := [d1, d2] }
  | _ => none }
def markSwapRow : OpenClaim := { program := "ytpagagiojnhhfaa", sum := "695ea53815a5e4548143671a37f2013b97c2768c06f89226d2796fca7362f8c0", func := "estafette/estafettelaw1.MarkSwap", spec := "markSwap", unfollowed := true, recurses := true, apart := false }
def MarkSwapSaid : Prop := markSwapRow.holds Try.pinned (OpenSpec.ofChange markSwapSpec)

/-- ITS FALSE NEIGHBOUR: 'it returns false'. Refute it at one input. -/
def markSwapWrong : ChangeSpec := { name := "markSwap", fn := fun _ => fun
  | [d1, d2] => { results := [.lit (.bool false)], args := [d1, d2] }
  | _ => none }
def MarkSwapWrongFalsely : Prop := markSwapRow.holds Try.pinned (OpenSpec.ofChange markSwapWrong)

/-- 'estafettelaw1.RecMany': WHATEVER THE INPUT: true; the input reads as it did. -/
def recManySpec : ChangeSpec := { name := "recMany", fn := fun _ => fun
  | [d] => { results := [.lit (.bool true)], args := [d] }
  | _ => none }
def recManyRow : OpenClaim := { program := "ytpagagiojnhhfaa", sum := "695ea53815a5e4548143671a37f2013b97c2768c06f89226d2796fca7362f8c0", func := "estafette/estafettelaw1.RecMany", spec := "recMany", unfollowed := true, recurses := true, apart := false }
def RecManySaid : Prop := recManyRow.holds Try.pinned (OpenSpec.ofChange recManySpec)

/-- ITS FALSE NEIGHBOUR: 'it returns false'. Refute it at one input. -/
def recManyWrong : ChangeSpec := { name := "recMany", fn := fun _ => fun
  | [d] => { results := [.lit (.bool false)], args := [d] }
  | _ => none }
def RecManyWrongFalsely : Prop := recManyRow.holds Try.pinned (OpenSpec.ofChange recManyWrong)

/- THE SECOND FORM. 'bulk': how many values and letters a reading holds, each counted each time it is reached (what is shared counts as often as it is met; a slice's spare places count too). A statement '..UptoSaid' is the law's where the arguments, and the package variables that the reading takes, are together of bulk at most 1048576: NARROWER than '..Said'. Prove '..Said' where nothing that the law and all that it calls make is longer than what came in: it says more and counts as full. Else prove '..UptoSaid'. A law counts once. -/
mutual
def uptoBulk {H : Type} : DataW H → Nat
  | .lit (.string bytes) => bytes.length + 1
  | .lit _ => 1
  | .nil => 1
  | .ptr d => uptoBulk d + 1
  | .slice elems spare => uptoBulkAll elems + uptoBulkAll spare + 1
  | .agg parts => uptoBulkAll parts + 1
  | .iface _ d => uptoBulk d + 1
  | .map entries => uptoBulkEntries entries + 1
  | .held _ => 1
def uptoBulkAll {H : Type} : List (DataW H) → Nat
  | [] => 0
  | d :: r => uptoBulk d + uptoBulkAll r
def uptoBulkEntries {H : Type} : List (Lit × DataW H) → Nat
  | [] => 0
  | x :: r => uptoBulkEntry x + uptoBulkEntries r
def uptoBulkEntry {H : Type} : Lit × DataW H → Nat
  | (.string bytes, d) => bytes.length + uptoBulk d + 1
  | (_, d) => uptoBulk d + 1
 end
def uptoSmall : (H : Type) → List (DataW H) → Bool := fun _ ds => decide (uptoBulkAll ds ≤ 1048576)
def OpenSpec.upto (s : _root_.Go.ChangeSpec) : _root_.Go.OpenSpec := { _root_.Go.OpenSpec.ofChange s with cond := some uptoSmall }

/-- 'estafettelaw0.Names', WHERE WHAT IT READS IS OF BULK AT MOST 1048576: true; the input reads as it did. -/
def namesUptoRow : OpenClaim := { program := "ytpagagiojnhhfaa", sum := "695ea53815a5e4548143671a37f2013b97c2768c06f89226d2796fca7362f8c0", func := "estafette/estafettelaw0.Names", spec := "names", apart := false, narrowed := true }
def NamesUptoSaid : Prop := namesUptoRow.holds Try.pinned (OpenSpec.upto namesSpec)

/-- 'estafettelaw1.WordAll', WHERE WHAT IT READS IS OF BULK AT MOST 1048576: true; the input reads as it did. -/
def wordAllUptoRow : OpenClaim := { program := "ytpagagiojnhhfaa", sum := "695ea53815a5e4548143671a37f2013b97c2768c06f89226d2796fca7362f8c0", func := "estafette/estafettelaw1.WordAll", spec := "wordAll", unfollowed := true, recurses := true, apart := false, narrowed := true }
def WordAllUptoSaid : Prop := wordAllUptoRow.holds Try.pinned (OpenSpec.upto wordAllSpec)

/-- 'estafettelaw1.WordOrder', WHERE WHAT IT READS IS OF BULK AT MOST 1048576: true; the input reads as it did. -/
def wordOrderUptoRow : OpenClaim := { program := "ytpagagiojnhhfaa", sum := "695ea53815a5e4548143671a37f2013b97c2768c06f89226d2796fca7362f8c0", func := "estafette/estafettelaw1.WordOrder", spec := "wordOrder", unfollowed := true, recurses := true, apart := false, narrowed := true }
def WordOrderUptoSaid : Prop := wordOrderUptoRow.holds Try.pinned (OpenSpec.upto wordOrderSpec)

/-- 'estafettelaw1.MarkAll', WHERE WHAT IT READS IS OF BULK AT MOST 1048576: true; the input reads as it did. -/
def markAllUptoRow : OpenClaim := { program := "ytpagagiojnhhfaa", sum := "695ea53815a5e4548143671a37f2013b97c2768c06f89226d2796fca7362f8c0", func := "estafette/estafettelaw1.MarkAll", spec := "markAll", unfollowed := true, recurses := true, apart := false, narrowed := true }
def MarkAllUptoSaid : Prop := markAllUptoRow.holds Try.pinned (OpenSpec.upto markAllSpec)

/-- 'estafettelaw1.MarkTurn', WHERE WHAT IT READS IS OF BULK AT MOST 1048576: true; the input reads as it did. -/
def markTurnUptoRow : OpenClaim := { program := "ytpagagiojnhhfaa", sum := "695ea53815a5e4548143671a37f2013b97c2768c06f89226d2796fca7362f8c0", func := "estafette/estafettelaw1.MarkTurn", spec := "markTurn", unfollowed := true, recurses := true, apart := false, narrowed := true }
def MarkTurnUptoSaid : Prop := markTurnUptoRow.holds Try.pinned (OpenSpec.upto markTurnSpec)

/-- 'estafettelaw1.RecAll', WHERE WHAT IT READS IS OF BULK AT MOST 1048576: true; the input reads as it did. -/
def recAllUptoRow : OpenClaim := { program := "ytpagagiojnhhfaa", sum := "695ea53815a5e4548143671a37f2013b97c2768c06f89226d2796fca7362f8c0", func := "estafette/estafettelaw1.RecAll", spec := "recAll", unfollowed := true, recurses := true, apart := false, narrowed := true }
def RecAllUptoSaid : Prop := recAllUptoRow.holds Try.pinned (OpenSpec.upto recAllSpec)

/-- 'estafettelaw1.RecAny', WHERE WHAT IT READS IS OF BULK AT MOST 1048576: true; the input reads as it did. -/
def recAnyUptoRow : OpenClaim := { program := "ytpagagiojnhhfaa", sum := "695ea53815a5e4548143671a37f2013b97c2768c06f89226d2796fca7362f8c0", func := "estafette/estafettelaw1.RecAny", spec := "recAny", unfollowed := true, recurses := true, apart := false, narrowed := true }
def RecAnyUptoSaid : Prop := recAnyUptoRow.holds Try.pinned (OpenSpec.upto recAnySpec)

/-- 'estafettelaw1.FrameAll', WHERE WHAT IT READS IS OF BULK AT MOST 1048576: true; the input reads as it did. -/
def frameAllUptoRow : OpenClaim := { program := "ytpagagiojnhhfaa", sum := "695ea53815a5e4548143671a37f2013b97c2768c06f89226d2796fca7362f8c0", func := "estafette/estafettelaw1.FrameAll", spec := "frameAll", unfollowed := true, recurses := true, apart := false, narrowed := true }
def FrameAllUptoSaid : Prop := frameAllUptoRow.holds Try.pinned (OpenSpec.upto frameAllSpec)

/-- 'estafettelaw1.FrameScan', WHERE WHAT IT READS IS OF BULK AT MOST 1048576: true; the input reads as it did. -/
def frameScanUptoRow : OpenClaim := { program := "ytpagagiojnhhfaa", sum := "695ea53815a5e4548143671a37f2013b97c2768c06f89226d2796fca7362f8c0", func := "estafette/estafettelaw1.FrameScan", spec := "frameScan", unfollowed := true, recurses := true, apart := false, narrowed := true }
def FrameScanUptoSaid : Prop := frameScanUptoRow.holds Try.pinned (OpenSpec.upto frameScanSpec)

/-- 'estafettelaw1.RecNone', WHERE WHAT IT READS IS OF BULK AT MOST 1048576: true; the input reads as it did. -/
def recNoneUptoRow : OpenClaim := { program := "ytpagagiojnhhfaa", sum := "695ea53815a5e4548143671a37f2013b97c2768c06f89226d2796fca7362f8c0", func := "estafette/estafettelaw1.RecNone", spec := "recNone", unfollowed := true, recurses := true, apart := false, narrowed := true }
def RecNoneUptoSaid : Prop := recNoneUptoRow.holds Try.pinned (OpenSpec.upto recNoneSpec)

/-- 'estafettelaw1.WordMany', WHERE WHAT IT READS IS OF BULK AT MOST 1048576: true; the input reads as it did. -/
def wordManyUptoRow : OpenClaim := { program := "ytpagagiojnhhfaa", sum := "695ea53815a5e4548143671a37f2013b97c2768c06f89226d2796fca7362f8c0", func := "estafette/estafettelaw1.WordMany", spec := "wordMany", unfollowed := true, recurses := true, apart := false, narrowed := true }
def WordManyUptoSaid : Prop := wordManyUptoRow.holds Try.pinned (OpenSpec.upto wordManySpec)

/-- 'estafettelaw1.WordShort', WHERE WHAT IT READS IS OF BULK AT MOST 1048576: true; the input reads as it did. -/
def wordShortUptoRow : OpenClaim := { program := "ytpagagiojnhhfaa", sum := "695ea53815a5e4548143671a37f2013b97c2768c06f89226d2796fca7362f8c0", func := "estafette/estafettelaw1.WordShort", spec := "wordShort", unfollowed := true, recurses := true, apart := false, narrowed := true }
def WordShortUptoSaid : Prop := wordShortUptoRow.holds Try.pinned (OpenSpec.upto wordShortSpec)

/-- 'estafettelaw1.MarkSwap', WHERE WHAT IT READS IS OF BULK AT MOST 1048576: true; the input reads as it did. -/
def markSwapUptoRow : OpenClaim := { program := "ytpagagiojnhhfaa", sum := "695ea53815a5e4548143671a37f2013b97c2768c06f89226d2796fca7362f8c0", func := "estafette/estafettelaw1.MarkSwap", spec := "markSwap", unfollowed := true, recurses := true, apart := false, narrowed := true }
def MarkSwapUptoSaid : Prop := markSwapUptoRow.holds Try.pinned (OpenSpec.upto markSwapSpec)

/-- 'estafettelaw1.RecMany', WHERE WHAT IT READS IS OF BULK AT MOST 1048576: true; the input reads as it did. -/
def recManyUptoRow : OpenClaim := { program := "ytpagagiojnhhfaa", sum := "695ea53815a5e4548143671a37f2013b97c2768c06f89226d2796fca7362f8c0", func := "estafette/estafettelaw1.RecMany", spec := "recMany", unfollowed := true, recurses := true, apart := false, narrowed := true }
def RecManyUptoSaid : Prop := recManyUptoRow.holds Try.pinned (OpenSpec.upto recManySpec)

end Rows
end Go.Proofs.Ytpagagiojnhhfaa
