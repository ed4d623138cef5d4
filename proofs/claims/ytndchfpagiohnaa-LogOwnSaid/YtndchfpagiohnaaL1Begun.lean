/- What the laws begin with runs to true; the table's contracts are borne out. -/
import Derived.Test.YtndchfpagiohnaaL1Tab
import Derived.Test.YtndchfpagiohnaaL18Vals
namespace Go.Proofs.Ytndchfpagiohnaa.L1
open Go Go.AM
def tab0 : Tab := ⟨fun g => bif Nat.beq g 36 then some (valsF 43) else none, fun _ _ => 0⟩
theorem tab0OK : TabOK Try.prog tab0 := fun g F h => by
  have hg : g = 36 ∧ F = valsF 43 := by
    unfold tab0 at h
    simp only at h
    cases hq : Nat.beq g 36 with
    | true =>
      rw [hq] at h
      exact ⟨Nat.eq_of_beq_eq_true hq, (Option.some.inj h).symm⟩
    | false => rw [hq] at h; cases h
  obtain ⟨rfl, rfl⟩ := hg
  exact vals_ok
theorem run : acall Try.prog tab0 (drawRegion Try.prog) 300 12 [] [] isTrue = true := by kernel_rfl
theorem tabOK : TabOK Try.prog tab := fun g F h => by
  have hg : (g = 12 ∧ F = closedF) ∨ (g = 36 ∧ F = valsF 43) := by
    unfold tab at h
    simp only at h
    cases hq : Nat.beq g 12 with
    | true =>
      rw [hq] at h
      exact .inl ⟨Nat.eq_of_beq_eq_true hq, (Option.some.inj h).symm⟩
    | false =>
      rw [hq] at h
      cases hr : Nat.beq g 36 with
      | true =>
        rw [hr] at h
        exact .inr ⟨Nat.eq_of_beq_eq_true hr, (Option.some.inj h).symm⟩
      | false => rw [hr] at h; cases h
  rcases hg with ⟨rfl, rfl⟩ | ⟨rfl, rfl⟩
  · exact closed_sound noCount Try.func12 rfl fun w => law0 mix noCount tab0OK 300 12 run w
  · exact vals_ok
end Go.Proofs.Ytndchfpagiohnaa.L1
