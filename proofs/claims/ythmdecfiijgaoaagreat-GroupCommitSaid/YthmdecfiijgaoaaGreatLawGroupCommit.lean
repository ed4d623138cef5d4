/- The law GroupCommit returns true, whatever the arguments: what the abstract machine says the model does; its run is proved for whatever arguments. No condition. -/
import Derived.Test.YthmdecfiijgaoaaGreatRows
import Derived.Test.YthmdecfiijgaoaaGreatL20GC
import Derived.Test.YthmdecfiijgaoaaGreatL1Begun
import Derived.WalkKit
import Derived.ProofKit
import Derived.OpenShut
import Derived.ShutString
import Derived.ChangeOld
import Derived.Below
import Derived.SizedLaws
namespace Go.Proofs.YthmdecfiijgaoaaGreat.groupCommit
open Go.ChangeShapes Go.WideShapes Go.ChangeAt Go.RowKit
set_option linter.unusedVariables false
theorem own : ownKnob Tryz.prog.godebug = none := by kernel_rfl
theorem laidOut : laidOutB Tryz.prog = true := by kernel_rfl
theorem plain : (([3, 51] : List TypeId).all fun t => Go.AM.plainT Tryz.prog 9 t) = true := by kernel_rfl
theorem readable : (([3, 51] : List TypeId).all fun t => Tryz.prog.readableRec t && decide (t < Tryz.prog.types.size)) = true := by kernel_rfl
set_option maxRecDepth 100000 in
theorem lifted (os : Os) (started : os.Started) (H : Type) (enc : TypeId × Value → H) :
    ReturnsInHanded {} Tryz.checked os 9 .any (Rows.groupCommitSpec.pre6 enc Tryz.prog Tryz.f9 Rows.groupCommitRow.domain false) (Rows.groupCommitSpec.post enc Tryz.prog Tryz.f9 false true false false) := by
  refine returnsInHanded_of_change_sized (C := Tryz.checked) own started (by kernel_rfl) Tryz.func9
    (ChangeSpec.witness6 (enc := enc) (C := Tryz.checked) false ⟨#[], #[.int .i64 0, .slice none 0 0], []⟩ 8 (by kernel_rfl) (by kernel_rfl) (by kernel_rfl) (by kernel_rfl)) ?_
  intro W base args ds gs before hval0 hW hcnd hsz0 _
  have hval : ∀ (j : Nat) t v, Tryz.f9.params[j]? = some t → args[j]? = some v → Value.okWide Tryz.prog W .any base t v := hval0
  have hW' := hW
  obtain ⟨p, q, hA0, hV, rfl, hfz, hnd⟩ := hW
  have hA : DataW.TrodAll enc Tryz.prog W 0 (fun _ => true) true Tryz.f9.params.toList args.toList ds p := hA0
  rw [Tryz.params9] at hA hval
  have hA1 : DataW.TrodAll enc Tryz.prog W 0 (fun _ => true) true [3, 51] args.toList ds p := hA
  obtain ⟨ρ, σ, vs, _, _, hs, hv, hsh⟩ := Go.AM.args_ok (n := 9) (r := .any) (base := base) plain hA1 (fun j t v h1 h2 => hval j t v (by simpa using h1) (by simpa using h2)) (fun _ => none) [] (Go.AM.Sim.start W)
  obtain ⟨v0, us0, d0, ds0, p0, q0, hargs0, rfl, rfl, h0, r0⟩ := trodAll_cons hA1
  obtain ⟨v1, us1, d1, ds1, p1, q1, hargs1, rfl, rfl, h1, r1⟩ := trodAll_cons r0
  obtain ⟨_, rfl, rfl⟩ := trodAll_nil r1
  obtain ⟨rfl, rfl⟩ := trodVars_none hV
  obtain ⟨fuel, hrun⟩ := groupCommit_law σ vs hsh
  clear hA0 hval0 hsz0
  refine (Go.AM.law_ok L1.mix L1.noCount L1.tabOK hs hv hrun).mono fun e W' ⟨he, bel⟩ => ?_
  subst he
  exact ⟨_, rfl, _, _, _, [], _, [], hW', trodAll_mk1 (shut_bool Tryz.underlying4 _), Go.AM.args_back laidOut bel readable hA1, rfl, bel.frame _, fun h => by cases h⟩
theorem over : Rows.groupCommitRow.holds Tryz.pinned (OpenSpec.ofChange Rows.groupCommitSpec) :=
  OpenClaim.holds_of_wide 9 Tryz.f9 rfl rfl rfl rfl rfl rfl rfl ⟨rfl, rfl, rfl, rfl, rfl⟩ rfl rfl rfl rfl rfl (by kernel_rfl) Tryz.func9 (by kernel_rfl)
    (of_decide_eq_true (by kernel_rfl)) (by unfold Func.isWrapper; first | (rw [if_pos (by decide +kernel)]; kernel_rfl) | (rw [if_neg (by decide +kernel)]; exact ⟨rfl, rfl⟩))
    (fun os started H enc _ => lifted os started H enc)
theorem proved : Rows.GroupCommitSaid := over
#print axioms proved
end Go.Proofs.YthmdecfiijgaoaaGreat.groupCommit
namespace Go.Proofs.YthmdecfiijgaoaaGreat
/-- The row, under a short name, for the claim. -/
theorem groupCommit_holds : Rows.GroupCommitSaid := groupCommit.proved
end Go.Proofs.YthmdecfiijgaoaaGreat
