/- The table of contracts of the laws: what they begin with is true. -/
import Derived.Test.YthmdecfiijgaoaaGreatL20Begun
import Derived.Test.YthmdecfiijgaoaaGreatL1Tab
import Derived.KernelRfl
namespace Go.Proofs.YthmdecfiijgaoaaGreat
open Go Go.AM
theorem L1.tabOK : TabOK Tryz.prog tab := fun g F h => by
  unfold tab at h
  simp only at h
  cases hq : Nat.beq g 12 with
  | true =>
    rw [hq] at h
    obtain rfl := Nat.eq_of_beq_eq_true hq
    obtain rfl := (Option.some.inj h).symm
    exact L1.closed12
  | false =>
    rw [hq] at h
    clear hq
    cases hq : Nat.beq g 132 with
    | true =>
      rw [hq] at h
      obtain rfl := Nat.eq_of_beq_eq_true hq
      obtain rfl := (Option.some.inj h).symm
      exact L1.con132
    | false =>
      rw [hq] at h
      clear hq
      cases hq : Nat.beq g 121 with
      | true =>
        rw [hq] at h
        obtain rfl := Nat.eq_of_beq_eq_true hq
        obtain rfl := (Option.some.inj h).symm
        exact L1.con121
      | false =>
        rw [hq] at h
        clear hq
        cases h
end Go.Proofs.YthmdecfiijgaoaaGreat
