/- The table's contracts are borne out. -/
import Derived.Test.YtahhajakgakdhaaL1Tab
import Derived.Test.YtahhajakgakdhaaL5Begun
namespace Go.Proofs.Ytahhajakgakdhaa.L1
open Go Go.AM
theorem tabOK : TabOK Try.prog tab := fun g F h => by
  unfold tab at h
  simp only at h
  cases hr : Nat.beq g 15 with
  | true =>
    rw [hr] at h
    obtain rfl := Nat.eq_of_beq_eq_true hr
    obtain rfl := (Option.some.inj h).symm
    exact closed15
  | false =>
    rw [hr] at h
    cases hq : Nat.beq g 58 with
    | true =>
      rw [hq] at h
      obtain rfl := Nat.eq_of_beq_eq_true hq
      obtain rfl := (Option.some.inj h).symm
      exact con58
    | false => rw [hq] at h; cases h
end Go.Proofs.Ytahhajakgakdhaa.L1
