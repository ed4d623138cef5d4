/- The table's contracts are borne out. -/
import Derived.Test.YtjooccdeeejecaaL7SortF
import Derived.KernelRfl
namespace Go.Proofs.Ytjooccdeeejecaa
open Go Go.AM
theorem L1.tabOK : TabOK Try.prog tab := fun g F h => by
  unfold tab at h
  simp only at h
  cases hq : Nat.beq g 8 with
  | true =>
    rw [hq] at h
    obtain rfl := Nat.eq_of_beq_eq_true hq
    obtain rfl := (Option.some.inj h).symm
    exact L1.closed8
  | false =>
    rw [hq] at h
    clear hq
    cases hq : Nat.beq g 28 with
    | true =>
      rw [hq] at h
      obtain rfl := Nat.eq_of_beq_eq_true hq
      obtain rfl := (Option.some.inj h).symm
      exact L1.coll_ok
    | false =>
      rw [hq] at h
      clear hq
      cases hq : Nat.beq g 29 with
      | true =>
        rw [hq] at h
        obtain rfl := Nat.eq_of_beq_eq_true hq
        obtain rfl := (Option.some.inj h).symm
        exact con29
      | false =>
        rw [hq] at h
        clear hq
        cases h
end Go.Proofs.Ytjooccdeeejecaa
