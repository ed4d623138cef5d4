/- What the laws begin with runs to true; the table's contracts are borne out. -/
import Derived.Test.YtpagagiojnhhfabL1Tab
import Derived.KernelRfl
namespace Go.Proofs.Ytpagagiojnhhfab.L1
open Go Go.AM
theorem mix : Try.prog.follows .mixedOrders = true := by kernel_rfl
theorem free : countFree Try.prog = true := by kernel_rfl
theorem noCount : NoCount Try.prog := noCount_of free
theorem run : acall Try.prog noTab (drawRegion Try.prog) 300 4 [] [] isTrue = true := by kernel_rfl
theorem tabOK : TabOK Try.prog tab := fun g F h => by
  have hg : g = 4 ∧ F = closedF := by
    unfold tab at h
    simp only at h
    cases hq : Nat.beq g 4 with
    | true =>
      rw [hq] at h
      exact ⟨Nat.eq_of_beq_eq_true hq, (Option.some.inj h).symm⟩
    | false => rw [hq] at h; cases h
  obtain ⟨rfl, rfl⟩ := hg
  exact closed_sound noCount Try.func4 rfl fun w => law0 mix noCount TabOK.none 300 4 run w
end Go.Proofs.Ytpagagiojnhhfab.L1
