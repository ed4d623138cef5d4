/- Rows of elements of one width. -/
import Derived.Test.YthmdecfiijgaoaaGreatAmOwn
namespace Go.AM.St
open Go Go.AM
section
variable {α : Type} {g : α → List AV} {z : Nat}
theorem fm_len (hg : ∀ x, (g x).length = z) : ∀ l : List α, (l.flatMap g).length = l.length * z
  | [] => by simp
  | x :: l => by
    rw [List.flatMap_cons, List.length_append, hg, fm_len hg l, List.length_cons, Nat.add_mul, Nat.one_mul, Nat.add_comm]
theorem fm_drop (hg : ∀ x, (g x).length = z) : ∀ (l : List α) (i : Nat), (l.flatMap g).drop (i * z) = (l.drop i).flatMap g
  | [], i => by simp
  | x :: l, 0 => by simp
  | x :: l, i + 1 => by
    rw [List.flatMap_cons, List.drop_append, List.drop_eq_nil_of_le (by rw [hg, Nat.add_mul]; omega), List.nil_append, hg, show (i + 1) * z - z = i * z by rw [Nat.add_mul]; omega, fm_drop hg l i]
    rfl
theorem fm_take (hg : ∀ x, (g x).length = z) : ∀ (l : List α) (i : Nat), (l.flatMap g).take (i * z) = (l.take i).flatMap g
  | [], i => by simp
  | x :: l, 0 => by simp
  | x :: l, i + 1 => by
    rw [List.flatMap_cons, List.take_append, List.take_of_length_le (by rw [hg, Nat.add_mul]; omega), hg, show (i + 1) * z - z = i * z by rw [Nat.add_mul]; omega, fm_take hg l i]
    rfl
theorem fm_at (hg : ∀ x, (g x).length = z) {l : List α} {i : Nat} (h : i < l.length) : ((l.flatMap g).drop (i * z)).take z = g l[i] := by
  rw [fm_drop hg, List.drop_eq_getElem_cons h, List.flatMap_cons, List.take_append_of_le_length (by rw [hg]; exact Nat.le_refl _), List.take_of_length_le (by rw [hg]; exact Nat.le_refl _)]
theorem fm_get (hg : ∀ x, (g x).length = z) {l : List α} {i j : Nat} (h : i < l.length) (hj : j < z) : (l.flatMap g)[i * z + j]? = (g l[i])[j]? := by
  have := congrArg (fun x => x[j]?) (fm_at hg h)
  simp only [List.getElem?_take_of_lt hj, List.getElem?_drop] at this
  exact this
theorem fm_set (hg : ∀ x, (g x).length = z) {l : List α} {i : Nat} (h : i < l.length) (x : α) : (l.flatMap g).take (i * z) ++ g x ++ (l.flatMap g).drop (i * z + z) = (l.set i x).flatMap g := by
  rw [show i * z + z = (i + 1) * z by rw [Nat.add_mul, Nat.one_mul], fm_take hg, fm_drop hg, List.set_eq_take_append_cons_drop, if_pos h]
  simp
end
end Go.AM.St
