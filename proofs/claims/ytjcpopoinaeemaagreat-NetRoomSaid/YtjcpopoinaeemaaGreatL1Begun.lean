/- The table of contracts of the laws: what they begin with is true. -/
import Derived.Test.YtjcpopoinaeemaaGreatL22Beg2
import Derived.Test.YtjcpopoinaeemaaGreatL1Tab
import Derived.KernelRfl
namespace Go.Proofs.YtjcpopoinaeemaaGreat
open Go Go.AM
theorem L1.tabOK : TabOK Tryz.prog tab := fun g F h => by
  unfold tab at h
  simp only at h
  cases hq : Nat.beq g 6 with
  | true =>
    rw [hq] at h
    obtain rfl := Nat.eq_of_beq_eq_true hq
    obtain rfl := (Option.some.inj h).symm
    exact L2.closed6
  | false =>
    rw [hq] at h
    clear hq
    cases h
end Go.Proofs.YtjcpopoinaeemaaGreat
