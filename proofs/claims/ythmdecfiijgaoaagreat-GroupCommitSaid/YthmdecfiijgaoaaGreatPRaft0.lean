/- Small laws of a node. Plain. -/
import Derived.Test.YthmdecfiijgaoaaGreatPRaft
namespace Go.Raft
variable {α : Type}
theorem termAt_nat {l : List (Int × α)} {m : Nat} (h : m < l.length) : termAt l ((m : Int) + 1) = (l[m]).1 := by
  unfold termAt len
  rw [if_neg (by omega), if_neg (by omega), show ((m : Int) + 1 - 1).toNat = m by omega, List.getElem?_eq_getElem h]; rfl
theorem termAt_zero (l : List (Int × α)) : termAt l ((0 : Nat) : Int) = 0 := by
  unfold termAt len
  rw [if_neg (by omega), if_pos (by omega)]
theorem median_two {x a b c : Int} (h : x ≤ median3 a b c) : x ≤ a ∧ x ≤ b ∨ x ≤ a ∧ x ≤ c ∨ x ≤ b ∧ x ≤ c := by
  unfold median3 at h; omega
theorem others_two {i : Nat} (hi : i < 3) : ∃ a b, others i = [a, b] ∧ a < 3 ∧ b < 3 ∧ a ≠ b ∧ a ≠ i ∧ b ≠ i := by
  rcases show i = 0 ∨ i = 1 ∨ i = 2 by omega with rfl | rfl | rfl
  · exact ⟨1, 2, rfl, by decide, by decide, by decide, by decide, by decide⟩
  · exact ⟨0, 2, rfl, by decide, by decide, by decide, by decide, by decide⟩
  · exact ⟨0, 1, rfl, by decide, by decide, by decide, by decide, by decide⟩
end Go.Raft
