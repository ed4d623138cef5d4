/- The law NameOrder returns true, whatever the arguments: what the abstract machine says the model does; its run is proved for whatever arguments. No condition. -/
import Derived.Test.YtjooccdeeejecaaRows
import Derived.Test.YtjooccdeeejecaaL7Ord
import Derived.Test.YtjooccdeeejecaaL1Begun
import Derived.WalkKit
import Derived.ProofKit
import Derived.OpenShut
import Derived.ShutString
import Derived.ChangeOld
import Derived.Below
import Derived.SizedLaws
namespace Go.Proofs.Ytjooccdeeejecaa.nameOrder
open Go.ChangeShapes Go.WideShapes Go.ChangeAt Go.RowKit
set_option linter.unusedVariables false
theorem own : ownKnob Try.prog.godebug = none := by kernel_rfl
theorem laidOut : laidOutB Try.prog = true := by kernel_rfl
theorem plain : (([22] : List TypeId).all fun t => Go.AM.plainT Try.prog 9 t) = true := by kernel_rfl
theorem readable : (([22] : List TypeId).all fun t => Try.prog.readableRec t && decide (t < Try.prog.types.size)) = true := by kernel_rfl
set_option maxRecDepth 100000 in
theorem lifted (os : Os) (started : os.Started) (H : Type) (enc : TypeId × Value → H) :
    ReturnsInHanded {} Try.checked os 6 .any (Rows.nameOrderSpec.pre6 enc Try.prog Try.f6 Rows.nameOrderRow.domain false) (Rows.nameOrderSpec.post enc Try.prog Try.f6 false true false false) := by
  refine returnsInHanded_of_change_sized (C := Try.checked) own started (by kernel_rfl) Try.func6
    (ChangeSpec.witness6 (enc := enc) (C := Try.checked) false ⟨#[], #[.slice none 0 0], []⟩ 8 (by kernel_rfl) (by kernel_rfl) (by kernel_rfl) (by kernel_rfl)) ?_
  intro W base args ds gs before hval0 hW hcnd hsz0 _
  have hval : ∀ (j : Nat) t v, Try.f6.params[j]? = some t → args[j]? = some v → Value.okWide Try.prog W .any base t v := hval0
  have hW' := hW
  obtain ⟨p, q, hA0, hV, rfl, hfz, hnd⟩ := hW
  have hA : DataW.TrodAll enc Try.prog W 0 (fun _ => true) true Try.f6.params.toList args.toList ds p := hA0
  rw [Try.params6] at hA hval
  have hA1 : DataW.TrodAll enc Try.prog W 0 (fun _ => true) true [22] args.toList ds p := hA
  obtain ⟨ρ, σ, vs, _, _, hs, hv, hsh⟩ := Go.AM.args_ok (n := 9) (r := .any) (base := base) plain hA1 (fun j t v h1 h2 => hval j t v (by simpa using h1) (by simpa using h2)) (fun _ => none) [] (Go.AM.Sim.start W)
  obtain ⟨v0, us0, d0, ds0, p0, q0, hargs0, rfl, rfl, h0, r0⟩ := trodAll_cons hA1
  obtain ⟨_, rfl, rfl⟩ := trodAll_nil r0
  obtain ⟨rfl, rfl⟩ := trodVars_none hV
  obtain ⟨fuel, hrun⟩ := nameOrder_law σ vs hsh
  clear hA0 hval0 hsz0
  refine (Go.AM.law_ok L1.mix L1.noCount L1.tabOK hs hv hrun).mono fun e W' ⟨he, bel⟩ => ?_
  subst he
  exact ⟨_, rfl, _, _, _, [], _, [], hW', trodAll_mk1 (shut_bool Try.underlying4 _), Go.AM.args_back laidOut bel readable hA1, rfl, bel.frame _, fun h => by cases h⟩
theorem over : Rows.nameOrderRow.holds Try.pinned (OpenSpec.ofChange Rows.nameOrderSpec) :=
  OpenClaim.holds_of_wide 6 Try.f6 rfl rfl rfl rfl rfl rfl rfl ⟨rfl, rfl, rfl, rfl, rfl⟩ rfl rfl rfl rfl rfl (by kernel_rfl) Try.func6 (by kernel_rfl)
    (of_decide_eq_true (by kernel_rfl)) (by unfold Func.isWrapper; first | (rw [if_pos (by decide +kernel)]; kernel_rfl) | (rw [if_neg (by decide +kernel)]; exact ⟨rfl, rfl⟩))
    (fun os started H enc _ => lifted os started H enc)
theorem proved : Rows.NameOrderSaid := over
#print axioms proved
end Go.Proofs.Ytjooccdeeejecaa.nameOrder
namespace Go.Proofs.Ytjooccdeeejecaa
/-- The row, under a short name, for the claim. -/
theorem nameOrder_holds : Rows.NameOrderSaid := nameOrder.proved
end Go.Proofs.Ytjooccdeeejecaa
