/-
  No cell of these rows narrows 'for every input' (looked for: loops, veiled, ifaces, maps, wideKeys, modest, calm, conditions, laid).
  DERIVED. THE GIVEN ROWS OF THIS SEAT. 11 by the template 'for every input the law returns true; each argument reads behind the call as it read before'; 0 by the template 'total and deterministic' (their statements: YtajincfelnmlhaaGreatTotals.lean).
  GIVEN WITH THE SEED: the statements are not yours to turn. If you find one false, say at which input.
  Laid BY PROGRAM, IN A SANDBOX (cutbox-rows.mjs): the forced cells as the released guide's own fill.sh prints them over the translation 57d1bb44eeb6f2ad… (all of the seat's roots in one cut). By AI agents, Wed Nov 11 2026. No macro, syntax, notation, axiom, sorry.
-/
import Derived.Test.YtajincfelnmlhaaGreatChecked
import GoSem.Claim
import GoSem.ClaimJoined
import GoSem.ClaimMapViews
import Derived.JoinedTies
import Derived.KernelRfl
namespace Go.Proofs.YtajincfelnmlhaaGreat
/- THE CELL 'sum', in the pinned program and in every row, IS THE sha256 OF THE DUMP (.gsa) THAT YtajincfelnmlhaaGreatProg.lean LOADS. Nothing in Lean hashes anything: it is a label: what it is worth is what the hold of that sum in a sandbox is worth. -/
noncomputable def Tryz.pinned : Pinned := { name := "ytajincfelnmlhaagreat", sum := "57d1bb44eeb6f2addeed37c18fcc79b2088e2441c4d494212accfc886fff1548", checked := Tryz.checked }
namespace Rows
def none {H : Type} : Left H := { results := [], args := [] }

/-- 'estafettelaw12.OpAll': WHATEVER THE INPUT: true; the input reads as it did. -/
def opAllSpec : ChangeSpec := { name := "opAll", fn := fun _ => fun
  | [d1, d2, d3, d4, d5] => { results := [.lit (.bool true)], args := [d1, d2, d3, d4, d5] }
  | _ => none }
def opAllRow : OpenClaim := { program := "ytajincfelnmlhaagreat", sum := "57d1bb44eeb6f2addeed37c18fcc79b2088e2441c4d494212accfc886fff1548", func := "estafette/estafettelaw12.OpAll", spec := "opAll", unfollowed := true, recurses := true, plainKeys := false, apart := false }
def OpAllSaid : Prop := opAllRow.holds Tryz.pinned (OpenSpec.ofChange opAllSpec)

/-- ITS FALSE NEIGHBOUR: 'it returns false'. Refute it at one input. -/
def opAllWrong : ChangeSpec := { name := "opAll", fn := fun _ => fun
  | [d1, d2, d3, d4, d5] => { results := [.lit (.bool false)], args := [d1, d2, d3, d4, d5] }
  | _ => none }
def OpAllWrongFalsely : Prop := opAllRow.holds Tryz.pinned (OpenSpec.ofChange opAllWrong)

/-- 'estafettelaw12.OpTurn': WHATEVER THE INPUT: true; the input reads as it did. -/
def opTurnSpec : ChangeSpec := { name := "opTurn", fn := fun _ => fun
  | [d1, d2, d3, d4] => { results := [.lit (.bool true)], args := [d1, d2, d3, d4] }
  | _ => none }
def opTurnRow : OpenClaim := { program := "ytajincfelnmlhaagreat", sum := "57d1bb44eeb6f2addeed37c18fcc79b2088e2441c4d494212accfc886fff1548", func := "estafette/estafettelaw12.OpTurn", spec := "opTurn", unfollowed := true, recurses := true, plainKeys := false, apart := false }
def OpTurnSaid : Prop := opTurnRow.holds Tryz.pinned (OpenSpec.ofChange opTurnSpec)

/-- ITS FALSE NEIGHBOUR: 'it returns false'. Refute it at one input. -/
def opTurnWrong : ChangeSpec := { name := "opTurn", fn := fun _ => fun
  | [d1, d2, d3, d4] => { results := [.lit (.bool false)], args := [d1, d2, d3, d4] }
  | _ => none }
def OpTurnWrongFalsely : Prop := opTurnRow.holds Tryz.pinned (OpenSpec.ofChange opTurnWrong)

/-- 'estafettelaw12.OpRec': WHATEVER THE INPUT: true; the input reads as it did. -/
def opRecSpec : ChangeSpec := { name := "opRec", fn := fun _ => fun
  | [d1, d2, d3, d4] => { results := [.lit (.bool true)], args := [d1, d2, d3, d4] }
  | _ => none }
def opRecRow : OpenClaim := { program := "ytajincfelnmlhaagreat", sum := "57d1bb44eeb6f2addeed37c18fcc79b2088e2441c4d494212accfc886fff1548", func := "estafette/estafettelaw12.OpRec", spec := "opRec", unfollowed := true, recurses := true, plainKeys := false, apart := false }
def OpRecSaid : Prop := opRecRow.holds Tryz.pinned (OpenSpec.ofChange opRecSpec)

/-- ITS FALSE NEIGHBOUR: 'it returns false'. Refute it at one input. -/
def opRecWrong : ChangeSpec := { name := "opRec", fn := fun _ => fun
  | [d1, d2, d3, d4] => { results := [.lit (.bool false)], args := [d1, d2, d3, d4] }
  | _ => none }
def OpRecWrongFalsely : Prop := opRecRow.holds Tryz.pinned (OpenSpec.ofChange opRecWrong)

/-- 'estafettelaw12.OpParts': WHATEVER THE INPUT: true; the input reads as it did. -/
def opPartsSpec : ChangeSpec := { name := "opParts", fn := fun _ => fun
  | [d1, d2] => { results := [.lit (.bool true)], args := [d1, d2] }
  | _ => none }
def opPartsRow : OpenClaim := { program := "ytajincfelnmlhaagreat", sum := "57d1bb44eeb6f2addeed37c18fcc79b2088e2441c4d494212accfc886fff1548", func := "estafette/estafettelaw12.OpParts", spec := "opParts", unfollowed := true, recurses := true, plainKeys := false, apart := false }
def OpPartsSaid : Prop := opPartsRow.holds Tryz.pinned (OpenSpec.ofChange opPartsSpec)

/-- ITS FALSE NEIGHBOUR: 'it returns false'. Refute it at one input. -/
def opPartsWrong : ChangeSpec := { name := "opParts", fn := fun _ => fun
  | [d1, d2] => { results := [.lit (.bool false)], args := [d1, d2] }
  | _ => none }
def OpPartsWrongFalsely : Prop := opPartsRow.holds Tryz.pinned (OpenSpec.ofChange opPartsWrong)

/-- 'estafettelaw12.LockAll': WHATEVER THE INPUT: true; the input reads as it did. -/
def lockAllSpec : ChangeSpec := { name := "lockAll", fn := fun _ => fun
  | [d] => { results := [.lit (.bool true)], args := [d] }
  | _ => none }
def lockAllRow : OpenClaim := { program := "ytajincfelnmlhaagreat", sum := "57d1bb44eeb6f2addeed37c18fcc79b2088e2441c4d494212accfc886fff1548", func := "estafette/estafettelaw12.LockAll", spec := "lockAll", unfollowed := true, recurses := true, plainKeys := false, apart := false }
def LockAllSaid : Prop := lockAllRow.holds Tryz.pinned (OpenSpec.ofChange lockAllSpec)

/-- ITS FALSE NEIGHBOUR: 'it returns false'. Refute it at one input. -/
def lockAllWrong : ChangeSpec := { name := "lockAll", fn := fun _ => fun
  | [d] => { results := [.lit (.bool false)], args := [d] }
  | _ => none }
def LockAllWrongFalsely : Prop := lockAllRow.holds Tryz.pinned (OpenSpec.ofChange lockAllWrong)

/-- 'estafettelaw12.LockMeet': WHATEVER THE INPUT: true; the input reads as it did. -/
def lockMeetSpec : ChangeSpec := { name := "lockMeet", fn := fun _ => fun
  | [d1, d2] => { results := [.lit (.bool true)], args := [d1, d2] }
  | _ => none }
def lockMeetRow : OpenClaim := { program := "ytajincfelnmlhaagreat", sum := "57d1bb44eeb6f2addeed37c18fcc79b2088e2441c4d494212accfc886fff1548", func := "estafette/estafettelaw12.LockMeet", spec := "lockMeet", unfollowed := true, recurses := true, plainKeys := false, apart := false }
def LockMeetSaid : Prop := lockMeetRow.holds Tryz.pinned (OpenSpec.ofChange lockMeetSpec)

/-- ITS FALSE NEIGHBOUR: 'it returns false'. Refute it at one input. -/
def lockMeetWrong : ChangeSpec := { name := "lockMeet", fn := fun _ => fun
  | [d1, d2] => { results := [.lit (.bool false)], args := [d1, d2] }
  | _ => none }
def LockMeetWrongFalsely : Prop := lockMeetRow.holds Tryz.pinned (OpenSpec.ofChange lockMeetWrong)

/-- 'estafettelaw12.LockNone': WHATEVER THE INPUT: true; the input reads as it did. -/
def lockNoneSpec : ChangeSpec := { name := "lockNone", fn := fun _ => fun
  | [] => { results := [.lit (.bool true)], args := [] }
  | _ => none }
def lockNoneRow : OpenClaim := { program := "ytajincfelnmlhaagreat", sum := "57d1bb44eeb6f2addeed37c18fcc79b2088e2441c4d494212accfc886fff1548", func := "estafette/estafettelaw12.LockNone", spec := "lockNone", unfollowed := true, recurses := true, plainKeys := false, apart := false }
def LockNoneSaid : Prop := lockNoneRow.holds Tryz.pinned (OpenSpec.ofChange lockNoneSpec)

/-- ITS FALSE NEIGHBOUR: 'it returns false'. Refute it at one input. -/
def lockNoneWrong : ChangeSpec := { name := "lockNone", fn := fun _ => fun
  | [] => { results := [.lit (.bool false)], args := [] }
  | _ => none }
def LockNoneWrongFalsely : Prop := lockNoneRow.holds Tryz.pinned (OpenSpec.ofChange lockNoneWrong)

/-- 'estafettelaw12.OpSpan': WHATEVER THE INPUT: true; the input reads as it did. -/
def opSpanSpec : ChangeSpec := { name := "opSpan", fn := fun _ => fun
  | [d1, d2, d3, d4] => { results := [.lit (.bool true)], args := [d1, d2, d3, d4] }
  | _ => none }
def opSpanRow : OpenClaim := { program := "ytajincfelnmlhaagreat", sum := "57d1bb44eeb6f2addeed37c18fcc79b2088e2441c4d494212accfc886fff1548", func := "estafette/estafettelaw12.OpSpan", spec := "opSpan", unfollowed := true, recurses := true, plainKeys := false, apart := false }
def OpSpanSaid : Prop := opSpanRow.holds Tryz.pinned (OpenSpec.ofChange opSpanSpec)

/-- ITS FALSE NEIGHBOUR: 'it returns false'. Refute it at one input. -/
def opSpanWrong : ChangeSpec := { name := "opSpan", fn := fun _ => fun
  | [d1, d2, d3, d4] => { results := [.lit (.bool false)], args := [d1, d2, d3, d4] }
  | _ => none }
def OpSpanWrongFalsely : Prop := opSpanRow.holds Tryz.pinned (OpenSpec.ofChange opSpanWrong)

/-- 'estafettelaw12.OpMany': WHATEVER THE INPUT: true; the input reads as it did. -/
def opManySpec : ChangeSpec := { name := "opMany", fn := fun _ => fun
  | [d1, d2] => { results := [.lit (.bool true)], args := [d1, d2] }
  | _ => none }
def opManyRow : OpenClaim := { program := "ytajincfelnmlhaagreat", sum := "57d1bb44eeb6f2addeed37c18fcc79b2088e2441c4d494212accfc886fff1548", func := "estafette/estafettelaw12.OpMany", spec := "opMany", unfollowed := true, recurses := true, plainKeys := false, apart := false }
def OpManySaid : Prop := opManyRow.holds Tryz.pinned (OpenSpec.ofChange opManySpec)

/-- ITS FALSE NEIGHBOUR: 'it returns false'. Refute it at one input. -/
def opManyWrong : ChangeSpec := { name := "opMany", fn := fun _ => fun
  | [d1, d2] => { results := [.lit (.bool false)], args := [d1, d2] }
  | _ => none }
def OpManyWrongFalsely : Prop := opManyRow.holds Tryz.pinned (OpenSpec.ofChange opManyWrong)

/-- 'estafettelaw12.LockOrder': WHATEVER THE INPUT: true; the input reads as it did. -/
def lockOrderSpec : ChangeSpec := { name := "lockOrder", fn := fun _ => fun
  | [d] => { results := [.lit (.bool true)], args := [d] }
  | _ => none }
def lockOrderRow : OpenClaim := { program := "ytajincfelnmlhaagreat", sum := "57d1bb44eeb6f2addeed37c18fcc79b2088e2441c4d494212accfc886fff1548", func := "estafette/estafettelaw12.LockOrder", spec := "lockOrder", unfollowed := true, recurses := true, plainKeys := false, apart := false }
def LockOrderSaid : Prop := lockOrderRow.holds Tryz.pinned (OpenSpec.ofChange lockOrderSpec)

/-- ITS FALSE NEIGHBOUR: 'it returns false'. Refute it at one input. -/
def lockOrderWrong : ChangeSpec := { name := "lockOrder", fn := fun _ => fun
  | [d] => { results := [.lit (.bool false)], args := [d] }
  | _ => none }
def LockOrderWrongFalsely : Prop := lockOrderRow.holds Tryz.pinned (OpenSpec.ofChange lockOrderWrong)

/-- 'estafettelaw12.LockFree': WHATEVER THE INPUT: true; the input reads as it did. -/
def lockFreeSpec : ChangeSpec := { name := "lockFree", fn := fun _ => fun
  | [d1, d2] => { results := [.lit (.bool true)], args := [d1, d2] }
  | _ => none }
def lockFreeRow : OpenClaim := { program := "ytajincfelnmlhaagreat", sum := "57d1bb44eeb6f2addeed37c18fcc79b2088e2441c4d494212accfc886fff1548", func := "estafette/estafettelaw12.LockFree", spec := "lockFree", unfollowed := true, recurses := true, plainKeys := false, apart := false }
def LockFreeSaid : Prop := lockFreeRow.holds Tryz.pinned (OpenSpec.ofChange lockFreeSpec)

/-- ITS FALSE NEIGHBOUR: 'it returns false'. Refute it at one input. -/
def lockFreeWrong : ChangeSpec := { name := "lockFree", fn := fun _ => fun
  | [d1, d2] => { results := [.lit (.bool false)], args := [d1, d2] }
  | _ => none }
def LockFreeWrongFalsely : Prop := lockFreeRow.holds Tryz.pinned (OpenSpec.ofChange lockFreeWrong)

/- THE SECOND FORM. 'bulk': how many values and letters a reading holds, each counted each time it is reached (what is shared counts as often as it is met; a slice's spare places count too). A statement '..UptoSaid' is the law's where the arguments, and the package variables that the reading takes, are together of bulk at most 1048576: NARROWER than '..Said'. Prove '..Said' where nothing that the law and all that it calls make is longer than what came in: it says more and counts as full. Else prove '..UptoSaid'. A law counts once. -/
mutual
def uptoBulk {H : Type} : DataW H → Nat
  | .lit (.string bytes) => bytes.length + 1
  | .lit _ => 1
  | .nil => 1
  | .ptr d => uptoBulk d + 1
  | .slice elems spare => uptoBulkAll elems + uptoBulkAll spare + 1
  | .agg parts => uptoBulkAll parts + 1
  | .iface _ d => uptoBulk d + 1
  | .map entries => uptoBulkEntries entries + 1
  | .held _ => 1
def uptoBulkAll {H : Type} : List (DataW H) → Nat
  | [] => 0
  | d :: r => uptoBulk d + uptoBulkAll r
def uptoBulkEntries {H : Type} : List (Lit × DataW H) → Nat
  | [] => 0
  | x :: r => uptoBulkEntry x + uptoBulkEntries r
def uptoBulkEntry {H : Type} : Lit × DataW H → Nat
  | (.string bytes, d) => bytes.length + uptoBulk d + 1
  | (_, d) => uptoBulk d + 1
 end
def uptoSmall : (H : Type) → List (DataW H) → Bool := fun _ ds => decide (uptoBulkAll ds ≤ 1048576)
def OpenSpec.upto (s : _root_.Go.ChangeSpec) : _root_.Go.OpenSpec := { _root_.Go.OpenSpec.ofChange s with cond := some uptoSmall }

/-- 'estafettelaw12.OpAll', WHERE WHAT IT READS IS OF BULK AT MOST 1048576: true; the input reads as it did. -/
def opAllUptoRow : OpenClaim := { program := "ytajincfelnmlhaagreat", sum := "57d1bb44eeb6f2addeed37c18fcc79b2088e2441c4d494212accfc886fff1548", func := "estafette/estafettelaw12.OpAll", spec := "opAll", unfollowed := true, recurses := true, plainKeys := false, apart := false, narrowed := true }
def OpAllUptoSaid : Prop := opAllUptoRow.holds Tryz.pinned (OpenSpec.upto opAllSpec)

/-- 'estafettelaw12.OpTurn', WHERE WHAT IT READS IS OF BULK AT MOST 1048576: true; the input reads as it did. -/
def opTurnUptoRow : OpenClaim := { program := "ytajincfelnmlhaagreat", sum := "57d1bb44eeb6f2addeed37c18fcc79b2088e2441c4d494212accfc886fff1548", func := "estafette/estafettelaw12.OpTurn", spec := "opTurn", unfollowed := true, recurses := true, plainKeys := false, apart := false, narrowed := true }
def OpTurnUptoSaid : Prop := opTurnUptoRow.holds Tryz.pinned (OpenSpec.upto opTurnSpec)

/-- 'estafettelaw12.OpRec', WHERE WHAT IT READS IS OF BULK AT MOST 1048576: true; the input reads as it did. -/
def opRecUptoRow : OpenClaim := { program := "ytajincfelnmlhaagreat", sum := "57d1bb44eeb6f2addeed37c18fcc79b2088e2441c4d494212accfc886fff1548", func := "estafette/estafettelaw12.OpRec", spec := "opRec", unfollowed := true, recurses := true, plainKeys := false, apart := false, narrowed := true }
def OpRecUptoSaid : Prop := opRecUptoRow.holds Tryz.pinned (OpenSpec.upto opRecSpec)

/-- 'estafettelaw12.OpParts', WHERE WHAT IT READS IS OF BULK AT MOST 1048576: true; the input reads as it did. -/
def opPartsUptoRow : OpenClaim := { program := "ytajincfelnmlhaagreat", sum := "57d1bb44eeb6f2addeed37c18fcc79b2088e2441c4d494212accfc886fff1548", func := "estafette/estafettelaw12.OpParts", spec := "opParts", unfollowed := true, recurses := true, plainKeys := false, apart := false, narrowed := true }
def OpPartsUptoSaid : Prop := opPartsUptoRow.holds Tryz.pinned (OpenSpec.upto opPartsSpec)

/-- 'estafettelaw12.LockAll', WHERE WHAT IT READS IS OF BULK AT MOST 1048576: true; the input reads as it did. -/
def lockAllUptoRow : OpenClaim := { program := "ytajincfelnmlhaagreat", sum := "57d1bb44eeb6f2addeed37c18fcc79b2088e2441c4d494212accfc886fff1548", func := "estafette/estafettelaw12.LockAll", spec := "lockAll", unfollowed := true, recurses := true, plainKeys := false, apart := false, narrowed := true }
def LockAllUptoSaid : Prop := lockAllUptoRow.holds Tryz.pinned (OpenSpec.upto lockAllSpec)

/-- 'estafettelaw12.LockMeet', WHERE WHAT IT READS IS OF BULK AT MOST 1048576: true; the input reads as it did. -/
def lockMeetUptoRow : OpenClaim := { program := "ytajincfelnmlhaagreat", sum := "57d1bb44eeb6f2addeed37c18fcc79b2088e2441c4d494212accfc886fff1548", func := "estafette/estafettelaw12.LockMeet", spec := "lockMeet", unfollowed := true, recurses := true, plainKeys := false, apart := false, narrowed := true }
def LockMeetUptoSaid : Prop := lockMeetUptoRow.holds Tryz.pinned (OpenSpec.upto lockMeetSpec)

/-- 'estafettelaw12.LockNone', WHERE WHAT IT READS IS OF BULK AT MOST 1048576: true; the input reads as it did. -/
def lockNoneUptoRow : OpenClaim := { program := "ytajincfelnmlhaagreat", sum := "57d1bb44eeb6f2addeed37c18fcc79b2088e2441c4d494212accfc886fff1548", func := "estafette/estafettelaw12.LockNone", spec := "lockNone", unfollowed := true, recurses := true, plainKeys := false, apart := false, narrowed := true }
def LockNoneUptoSaid : Prop := lockNoneUptoRow.holds Tryz.pinned (OpenSpec.upto lockNoneSpec)

/-- 'estafettelaw12.OpSpan', WHERE WHAT IT READS IS OF BULK AT MOST 1048576: true; the input reads as it did. -/
def opSpanUptoRow : OpenClaim := { program := "ytajincfelnmlhaagreat", sum := "57d1bb44eeb6f2addeed37c18fcc79b2088e2441c4d494212accfc886fff1548", func := "estafette/estafettelaw12.OpSpan", spec := "opSpan", unfollowed := true, recurses := true, plainKeys := false, apart := false, narrowed := true }
def OpSpanUptoSaid : Prop := opSpanUptoRow.holds Tryz.pinned (OpenSpec.upto opSpanSpec)

/-- 'estafettelaw12.OpMany', WHERE WHAT IT READS IS OF BULK AT MOST 1048576: true; the input reads as it did. -/
def opManyUptoRow : OpenClaim := { program := "ytajincfelnmlhaagreat", sum := "57d1bb44eeb6f2addeed37c18fcc79b2088e2441c4d494212accfc886fff1548", func := "estafette/estafettelaw12.OpMany", spec := "opMany", unfollowed := true, recurses := true, plainKeys := false, apart := false, narrowed := true }
def OpManyUptoSaid : Prop := opManyUptoRow.holds Tryz.pinned (OpenSpec.upto opManySpec)

/-- 'estafettelaw12.LockOrder', WHERE WHAT IT READS IS OF BULK AT MOST 1048576: true; the input reads as it did. -/
def lockOrderUptoRow : OpenClaim := { program := "ytajincfelnmlhaagreat", sum := "57d1bb44eeb6f2addeed37c18fcc79b2088e2441c4d494212accfc886fff1548", func := "estafette/estafettelaw12.LockOrder", spec := "lockOrder", unfollowed := true, recurses := true, plainKeys := false, apart := false, narrowed := true }
def LockOrderUptoSaid : Prop := lockOrderUptoRow.holds Tryz.pinned (OpenSpec.upto lockOrderSpec)

/-- 'estafettelaw12.LockFree', WHERE WHAT IT READS IS OF BULK AT MOST 1048576: true; the input reads as it did. -/
def lockFreeUptoRow : OpenClaim := { program := "ytajincfelnmlhaagreat", sum := "57d1bb44eeb6f2addeed37c18fcc79b2088e2441c4d494212accfc886fff1548", func := "estafette/estafettelaw12.LockFree", spec := "lockFree", unfollowed := true, recurses := true, plainKeys := false, apart := false, narrowed := true }
def LockFreeUptoSaid : Prop := lockFreeUptoRow.holds Tryz.pinned (OpenSpec.upto lockFreeSpec)

end Rows
end Go.Proofs.YtajincfelnmlhaaGreat
