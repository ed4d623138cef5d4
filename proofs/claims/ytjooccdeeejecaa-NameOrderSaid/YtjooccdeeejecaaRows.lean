/-
  No cell of these rows narrows 'for every input' (looked for: loops, veiled, ifaces, maps, wideKeys, modest, calm, conditions, laid).
  DERIVED. THE GIVEN ROWS OF THIS SEAT. 5 by the template 'for every input the law returns true; each argument reads behind the call as it read before'; 0 by the template 'total and deterministic' (their statements: YtjooccdeeejecaaTotals.lean).
  GIVEN WITH THE SEED: the statements are not yours to turn. If you find one false, say at which input.
  Laid BY PROGRAM, IN A SANDBOX (cutbox-rows.mjs): the forced cells as the released guide's own fill.sh prints them over the translation 5bf693870b64b0c4… (all of the seat's roots in one cut). By AI agents, Wed Nov 11 2026. No macro, syntax, notation, axiom, sorry.
-/
import Derived.Test.YtjooccdeeejecaaChecked
import GoSem.Claim
import GoSem.ClaimJoined
import GoSem.ClaimMapViews
import Derived.JoinedTies
import Derived.KernelRfl
namespace Go.Proofs.Ytjooccdeeejecaa
/- THE CELL 'sum', in the pinned program and in every row, IS THE sha256 OF THE DUMP (.gsa) THAT YtjooccdeeejecaaProg.lean LOADS. Nothing in Lean hashes anything: it is a label: what it is worth is what the hold of that sum in a sandbox is worth. -/
noncomputable def Try.pinned : Pinned := { name := "ytjooccdeeejecaa", sum := "5bf693870b64b0c427b6b8ae09529cd541d8519808c537f3ca5293f98681a48e", checked := Try.checked }
namespace Rows
def none {H : Type} : Left H := { results := [], args := [] }

/-- 'estafettelaw7.NameAll': WHATEVER THE INPUT: true; the input reads as it did. -/
def nameAllSpec : ChangeSpec := { name := "nameAll", fn := fun _ => fun
  | [d1, d2] => { results := [.lit (.bool true)], args := [d1, d2] }
  | _ => none }
def nameAllRow : OpenClaim := { program := "ytjooccdeeejecaa", sum := "5bf693870b64b0c427b6b8ae09529cd541d8519808c537f3ca5293f98681a48e", func := "estafette/estafettelaw7.NameAll", spec := "nameAll", unfollowed := true, recurses := true, plainKeys := false, apart := false }
def NameAllSaid : Prop := nameAllRow.holds Try.pinned (OpenSpec.ofChange nameAllSpec)

/-- ITS FALSE NEIGHBOUR: 'it returns false'. Refute it at one input. -/
def nameAllWrong : ChangeSpec := { name := "nameAll", fn := fun _ => fun
  | [d1, d2] => { results := [.lit (.bool false)], args := [d1, d2] }
  | _ => none }
def NameAllWrongFalsely : Prop := nameAllRow.holds Try.pinned (OpenSpec.ofChange nameAllWrong)

/-- 'estafettelaw7.NamePlaces': WHATEVER THE INPUT: true; the input reads as it did. -/
def namePlacesSpec : ChangeSpec := { name := "namePlaces", fn := fun _ => fun
  | [d1, d2, d3, d4, d5, d6] => { results := [.lit (.bool true)], args := [d1, d2, d3, d4, d5, d6] }
  | _ => none }
def namePlacesRow : OpenClaim := { program := "ytjooccdeeejecaa", sum := "5bf693870b64b0c427b6b8ae09529cd541d8519808c537f3ca5293f98681a48e", func := "estafette/estafettelaw7.NamePlaces", spec := "namePlaces", unfollowed := true, recurses := true, plainKeys := false, apart := false }
def NamePlacesSaid : Prop := namePlacesRow.holds Try.pinned (OpenSpec.ofChange namePlacesSpec)

/-- ITS FALSE NEIGHBOUR: 'it returns false'. Refute it at one input. -/
def namePlacesWrong : ChangeSpec := { name := "namePlaces", fn := fun _ => fun
  | [d1, d2, d3, d4, d5, d6] => { results := [.lit (.bool false)], args := [d1, d2, d3, d4, d5, d6] }
  | _ => none }
def NamePlacesWrongFalsely : Prop := namePlacesRow.holds Try.pinned (OpenSpec.ofChange namePlacesWrong)

/-- 'estafettelaw7.NameNone': WHATEVER THE INPUT: true; the input reads as it did. -/
def nameNoneSpec : ChangeSpec := { name := "nameNone", fn := fun _ => fun
  | [] => { results := [.lit (.bool true)], args := [] }
  | _ => none }
def nameNoneRow : OpenClaim := { program := "ytjooccdeeejecaa", sum := "5bf693870b64b0c427b6b8ae09529cd541d8519808c537f3ca5293f98681a48e", func := "estafette/estafettelaw7.NameNone", spec := "nameNone", unfollowed := true, recurses := true, plainKeys := false, apart := false }
def NameNoneSaid : Prop := nameNoneRow.holds Try.pinned (OpenSpec.ofChange nameNoneSpec)

/-- ITS FALSE NEIGHBOUR: 'it returns false'. Refute it at one input. -/
def nameNoneWrong : ChangeSpec := { name := "nameNone", fn := fun _ => fun
  | [] => { results := [.lit (.bool false)], args := [] }
  | _ => none }
def NameNoneWrongFalsely : Prop := nameNoneRow.holds Try.pinned (OpenSpec.ofChange nameNoneWrong)

/-- 'estafettelaw7.NameOrder': WHATEVER THE INPUT: true; the input reads as it did. -/
def nameOrderSpec : ChangeSpec := { name := "nameOrder", fn := fun _ => fun
  | [d] => { results := [.lit (.bool true)], args := [d] }
  | _ => none }
def nameOrderRow : OpenClaim := { program := "ytjooccdeeejecaa", sum := "5bf693870b64b0c427b6b8ae09529cd541d8519808c537f3ca5293f98681a48e", func := "estafette/estafettelaw7.NameOrder", spec := "nameOrder", unfollowed := true, recurses := true, plainKeys := false, apart := false }
def NameOrderSaid : Prop := nameOrderRow.holds Try.pinned (OpenSpec.ofChange nameOrderSpec)

/-- ITS FALSE NEIGHBOUR: 'it returns false'. Refute it at one input. -/
def nameOrderWrong : ChangeSpec := { name := "nameOrder", fn := fun _ => fun
  | [d] => { results := [.lit (.bool false)], args := [d] }
  | _ => none }
def NameOrderWrongFalsely : Prop := nameOrderRow.holds Try.pinned (OpenSpec.ofChange nameOrderWrong)

/-- 'estafettelaw7.NameSpread': WHATEVER THE INPUT: true; the input reads as it did. -/
def nameSpreadSpec : ChangeSpec := { name := "nameSpread", fn := fun _ => fun
  | [d1, d2, d3] => { results := [.lit (.bool true)], args := [d1, d2, d3] }
  | _ => none }
def nameSpreadRow : OpenClaim := { program := "ytjooccdeeejecaa", sum := "5bf693870b64b0c427b6b8ae09529cd541d8519808c537f3ca5293f98681a48e", func := "estafette/estafettelaw7.NameSpread", spec := "nameSpread", unfollowed := true, recurses := true, plainKeys := false, apart := false }
def NameSpreadSaid : Prop := nameSpreadRow.holds Try.pinned (OpenSpec.ofChange nameSpreadSpec)

/-- ITS FALSE NEIGHBOUR: 'it returns false'. Refute it at one input. -/
def nameSpreadWrong : ChangeSpec := { name := "nameSpread", fn := fun _ => fun
  | [d1, d2, d3] => { results := [.lit (.bool false)], args := [d1, d2, d3] }
  | _ => none }
def NameSpreadWrongFalsely : Prop := nameSpreadRow.holds Try.pinned (OpenSpec.ofChange nameSpreadWrong)

/- THE SECOND FORM. 'bulk': how many values and letters a reading holds, each counted each time it is reached (what is shared counts as often as it is met; a slice's spare places count too). A statement '..UptoSaid' is the law's where the arguments, and the package variables that the reading takes, are together of bulk at most 1048576: NARROWER than '..Said'. Prove '..Said' where nothing that the law and all that it calls make is longer than what came in: it says more and counts as full. Else prove '..UptoSaid'. A law counts once. -/
mutual
def uptoBulk {H : Type} : DataW H → Nat
  | .lit (.string bytes) => bytes.length + 1
  | .lit _ => 1
  | .nil => 1
  | .ptr d => uptoBulk d + 1
  | .slice elems spare => uptoBulkAll elems + uptoBulkAll spare + 1
  | .agg parts => uptoBulkAll parts + 1
  | .iface _ d => uptoBulk d + 1
  | .map entries => uptoBulkEntries entries + 1
  | .held _ => 1
def uptoBulkAll {H : Type} : List (DataW H) → Nat
  | [] => 0
  | d :: r => uptoBulk d + uptoBulkAll r
def uptoBulkEntries {H : Type} : List (Lit × DataW H) → Nat
  | [] => 0
  | x :: r => uptoBulkEntry x + uptoBulkEntries r
def uptoBulkEntry {H : Type} : Lit × DataW H → Nat
  | (.string bytes, d) => bytes.length + uptoBulk d + 1
  | (_, d) => uptoBulk d + 1
 end
def uptoSmall : (H : Type) → List (DataW H) → Bool := fun _ ds => decide (uptoBulkAll ds ≤ 1048576)
def OpenSpec.upto (s : _root_.Go.ChangeSpec) : _root_.Go.OpenSpec := { _root_.Go.OpenSpec.ofChange s with cond := some uptoSmall }

/-- 'estafettelaw7.NameAll', WHERE WHAT IT READS IS OF BULK AT MOST 1048576: true; the input reads as it did. -/
def nameAllUptoRow : OpenClaim := { program := "ytjooccdeeejecaa", sum := "5bf693870b64b0c427b6b8ae09529cd541d8519808c537f3ca5293f98681a48e", func := "estafette/estafettelaw7.NameAll", spec := "nameAll", unfollowed := true, recurses := true, plainKeys := false, apart := false, narrowed := true }
def NameAllUptoSaid : Prop := nameAllUptoRow.holds Try.pinned (OpenSpec.upto nameAllSpec)

/-- 'estafettelaw7.NamePlaces', WHERE WHAT IT READS IS OF BULK AT MOST 1048576: true; the input reads as it did. -/
def namePlacesUptoRow : OpenClaim := { program := "ytjooccdeeejecaa", sum := "5bf693870b64b0c427b6b8ae09529cd541d8519808c537f3ca5293f98681a48e", func := "estafette/estafettelaw7.NamePlaces", spec := "namePlaces", unfollowed := true, recurses := true, plainKeys := false, apart := false, narrowed := true }
def NamePlacesUptoSaid : Prop := namePlacesUptoRow.holds Try.pinned (OpenSpec.upto namePlacesSpec)

/-- 'estafettelaw7.NameNone', WHERE WHAT IT READS IS OF BULK AT MOST 1048576: true; the input reads as it did. -/
def nameNoneUptoRow : OpenClaim := { program := "ytjooccdeeejecaa", sum := "5bf693870b64b0c427b6b8ae09529cd541d8519808c537f3ca5293f98681a48e", func := "estafette/estafettelaw7.NameNone", spec := "nameNone", unfollowed := true, recurses := true, plainKeys := false, apart := false, narrowed := true }
def NameNoneUptoSaid : Prop := nameNoneUptoRow.holds Try.pinned (OpenSpec.upto nameNoneSpec)

/-- 'estafettelaw7.NameOrder', WHERE WHAT IT READS IS OF BULK AT MOST 1048576: true; the input reads as it did. -/
def nameOrderUptoRow : OpenClaim := { program := "ytjooccdeeejecaa", sum := "5bf693870b64b0c427b6b8ae09529cd541d8519808c537f3ca5293f98681a48e", func := "estafette/estafettelaw7.NameOrder", spec := "nameOrder", unfollowed := true, recurses := true, plainKeys := false, apart := false, narrowed := true }
def NameOrderUptoSaid : Prop := nameOrderUptoRow.holds Try.pinned (OpenSpec.upto nameOrderSpec)

/-- 'estafettelaw7.NameSpread', WHERE WHAT IT READS IS OF BULK AT MOST 1048576: true; the input reads as it did. -/
def nameSpreadUptoRow : OpenClaim := { program := "ytjooccdeeejecaa", sum := "5bf693870b64b0c427b6b8ae09529cd541d8519808c537f3ca5293f98681a48e", func := "estafette/estafettelaw7.NameSpread", spec := "nameSpread", unfollowed := true, recurses := true, plainKeys := false, apart := false, narrowed := true }
def NameSpreadUptoSaid : Prop := nameSpreadUptoRow.holds Try.pinned (OpenSpec.upto nameSpreadSpec)

end Rows
end Go.Proofs.Ytjooccdeeejecaa
