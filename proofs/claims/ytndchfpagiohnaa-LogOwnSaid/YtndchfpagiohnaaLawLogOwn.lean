/- The law LogOwn returns true, whatever the arguments: what the abstract machine says the model does; its run is proved for whatever arguments. No condition. -/
import Derived.Test.YtndchfpagiohnaaRows
import Derived.Test.YtndchfpagiohnaaL18LogOwn
import Derived.Test.YtndchfpagiohnaaL1Begun
import Derived.WalkKit
import Derived.ProofKit
import Derived.OpenShut
import Derived.ShutString
import Derived.ChangeOld
import Derived.Below
import Derived.SizedLaws
namespace Go.Proofs.Ytndchfpagiohnaa.logOwn
open Go.ChangeShapes Go.WideShapes Go.ChangeAt Go.RowKit
set_option linter.unusedVariables false
theorem own : ownKnob Try.prog.godebug = none := by kernel_rfl
theorem laidOut : laidOutB Try.prog = true := by kernel_rfl
theorem plain : (([22] : List TypeId).all fun t => Go.AM.plainT Try.prog 9 t) = true := by kernel_rfl
theorem readable : (([22] : List TypeId).all fun t => Try.prog.readableRec t && decide (t < Try.prog.types.size)) = true := by kernel_rfl
set_option maxRecDepth 100000 in
theorem lifted (os : Os) (started : os.Started) (H : Type) (enc : TypeId × Value → H) :
    ReturnsInHanded {} Try.checked os 4 .any (Rows.logOwnSpec.pre6 enc Try.prog Try.f4 Rows.logOwnRow.domain false) (Rows.logOwnSpec.post enc Try.prog Try.f4 false true false false) := by
  refine returnsInHanded_of_change_sized (C := Try.checked) own started (by kernel_rfl) Try.func4
    (ChangeSpec.witness6 (enc := enc) (C := Try.checked) false ⟨#[], #[.slice none 0 0], []⟩ 8 (by kernel_rfl) (by kernel_rfl) (by kernel_rfl) (by kernel_rfl)) ?_
  intro W base args ds gs before hval0 hW hcnd hsz0 _
  have hval : ∀ (j : Nat) t v, Try.f4.params[j]? = some t → args[j]? = some v → Value.okWide Try.prog W .any base t v := hval0
  have hW' := hW
  obtain ⟨p, q, hA0, hV, rfl, hfz, hnd⟩ := hW
  have hA : DataW.TrodAll enc Try.prog W 0 (fun _ => true) true Try.f4.params.toList args.toList ds p := hA0
  rw [Try.params4] at hA hval
  have hA1 : DataW.TrodAll enc Try.prog W 0 (fun _ => true) true [22] args.toList ds p := hA
  obtain ⟨ρ, σ, vs, _, _, hs, hv, hsh⟩ := Go.AM.args_ok (n := 9) (r := .any) (base := base) plain hA1 (fun j t v h1 h2 => hval j t v (by simpa using h1) (by simpa using h2)) (fun _ => none) [] (Go.AM.Sim.start W)
  obtain ⟨v0, us0, d0, ds0, p0, q0, hargs0, rfl, rfl, h0, r0⟩ := trodAll_cons hA1
  obtain ⟨_, rfl, rfl⟩ := trodAll_nil r0
  obtain ⟨rfl, rfl⟩ := trodVars_none hV
  obtain ⟨fuel, hrun⟩ := logOwn_law σ vs hsh
  clear hA0 hval0 hsz0
  refine (Go.AM.law_ok L1.mix L1.noCount L1.tabOK hs hv hrun).mono fun e W' ⟨he, bel⟩ => ?_
  subst he
  exact ⟨_, rfl, _, _, _, [], _, [], hW', trodAll_mk1 (shut_bool Try.underlying4 _), Go.AM.args_back laidOut bel readable hA1, rfl, bel.frame _, fun h => by cases h⟩
theorem over : Rows.logOwnRow.holds Try.pinned (OpenSpec.ofChange Rows.logOwnSpec) :=
  OpenClaim.holds_of_wide 4 Try.f4 rfl rfl rfl rfl rfl rfl rfl ⟨rfl, rfl, rfl, rfl, rfl⟩ rfl rfl rfl rfl rfl (by kernel_rfl) Try.func4 (by kernel_rfl)
    (of_decide_eq_true (by kernel_rfl)) (by unfold Func.isWrapper; first | (rw [if_pos (by decide +kernel)]; kernel_rfl) | (rw [if_neg (by decide +kernel)]; exact ⟨rfl, rfl⟩))
    (fun os started H enc _ => lifted os started H enc)
theorem proved : Rows.LogOwnSaid := over
#print axioms proved
end Go.Proofs.Ytndchfpagiohnaa.logOwn
namespace Go.Proofs.Ytndchfpagiohnaa
/-- The row, under a short name, for the claim. -/
theorem logOwn_holds : Rows.LogOwnSaid := logOwn.proved
end Go.Proofs.Ytndchfpagiohnaa
