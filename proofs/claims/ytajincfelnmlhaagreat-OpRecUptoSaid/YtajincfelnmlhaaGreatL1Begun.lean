/- The table of contracts of the laws: what they begin with is true. -/
import Derived.Test.YtajincfelnmlhaaGreatL12Ent
import Derived.Test.YtajincfelnmlhaaGreatL12SortF
import Derived.Test.YtajincfelnmlhaaGreatL1Tab
import Derived.KernelRfl
namespace Go.Proofs.YtajincfelnmlhaaGreat
open Go Go.AM
theorem L1.tabOK : TabOK Tryz.prog tab := fun g F h => by
  unfold tab at h
  simp only at h
  cases hq : Nat.beq g 14 with
  | true =>
    rw [hq] at h
    obtain rfl := Nat.eq_of_beq_eq_true hq
    obtain rfl := (Option.some.inj h).symm
    exact Ent.closed14
  | false =>
    rw [hq] at h
    clear hq
    cases hq : Nat.beq g 79 with
    | true =>
      rw [hq] at h
      obtain rfl := Nat.eq_of_beq_eq_true hq
      obtain rfl := (Option.some.inj h).symm
      exact con79
    | false =>
      rw [hq] at h
      clear hq
      cases h
end Go.Proofs.YtajincfelnmlhaaGreat
