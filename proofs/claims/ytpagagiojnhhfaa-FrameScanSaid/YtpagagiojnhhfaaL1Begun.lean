/- What the laws begin with runs to true; the table's contracts are borne out. -/
import Derived.Test.YtpagagiojnhhfaaL1Tab
import Derived.KernelRfl
namespace Go.Proofs.Ytpagagiojnhhfaa.L1
open Go Go.AM
theorem mix : Try.prog.follows .mixedOrders = true := by kernel_rfl
theorem free : countFree Try.prog = true := by kernel_rfl
theorem noCount : NoCount Try.prog := noCount_of free
theorem run : acall Try.prog noTab (drawRegion Try.prog) 300 17 [] [] isTrue = true := by kernel_rfl
theorem tabOK : TabOK Try.prog tab := fun g F h => by
  have hg : g = 17 ∧ F = closedF := by
    unfold tab at h
    simp only at h
    cases hq : Nat.beq g 17 with
    | true =>
      rw [hq] at h
      exact ⟨Nat.eq_of_beq_eq_true hq, (Option.some.inj h).symm⟩
    | false => rw [hq] at h; cases h
  obtain ⟨rfl, rfl⟩ := hg
  exact closed_sound noCount Try.func17 rfl fun w => law0 mix noCount TabOK.none 300 17 run w
end Go.Proofs.Ytpagagiojnhhfaa.L1
