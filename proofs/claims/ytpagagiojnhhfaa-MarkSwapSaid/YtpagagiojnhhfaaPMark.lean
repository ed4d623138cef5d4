/- Sums: plain. -/
import Derived.Test.YtpagagiojnhhfaaAmWord
namespace Go.AM.St
open Go Go.AM

def addS : Nat → Nat → List Nat → Nat × Nat
  | x, y, [] => (x, y)
  | x, y, c :: cs => addS ((x + c) % 65521) ((y + (x + c) % 65521) % 65521) cs
def markN (m : Nat) (bs : List Nat) : Nat := (addS (m % 65536 % 65521) (m / 65536 % 65521) bs).2 * 65536 + (addS (m % 65536 % 65521) (m / 65536 % 65521) bs).1
theorem addS_lt : ∀ (bs : List Nat) (x y : Nat), x < 65521 → y < 65521 → (addS x y bs).1 < 65521 ∧ (addS x y bs).2 < 65521
  | [], _, _, hx, hy => ⟨hx, hy⟩
  | c :: cs, x, y, _, _ => addS_lt cs _ _ (Nat.mod_lt _ (by decide)) (Nat.mod_lt _ (by decide))
theorem addS_app : ∀ (a b : List Nat) (x y : Nat), addS x y (a ++ b) = addS (addS x y a).1 (addS x y a).2 b
  | [], _, _, _ => rfl
  | c :: cs, b, x, y => by rw [List.cons_append, addS, addS, addS_app cs b]
theorem markN_lt (m : Nat) (bs : List Nat) : markN m bs < 4294967296 := by
  have := addS_lt bs (m % 65536 % 65521) (m / 65536 % 65521) (Nat.mod_lt _ (by decide)) (Nat.mod_lt _ (by decide))
  unfold markN
  omega
theorem markN_split (m : Nat) (bs : List Nat) : markN m bs % 65536 % 65521 = (addS (m % 65536 % 65521) (m / 65536 % 65521) bs).1 ∧ markN m bs / 65536 % 65521 = (addS (m % 65536 % 65521) (m / 65536 % 65521) bs).2 := by
  have := addS_lt bs (m % 65536 % 65521) (m / 65536 % 65521) (Nat.mod_lt _ (by decide)) (Nat.mod_lt _ (by decide))
  unfold markN
  omega
theorem markN_app (m : Nat) (a b : List Nat) : markN (markN m a) b = markN m (a ++ b) := by
  obtain ⟨h1, h2⟩ := markN_split m a
  show (addS (markN m a % 65536 % 65521) (markN m a / 65536 % 65521) b).2 * 65536 + (addS (markN m a % 65536 % 65521) (markN m a / 65536 % 65521) b).1 = _
  rw [h1, h2, ← addS_app]
  rfl
theorem markN_eq {a b : List Nat} : markN 1 a = markN 1 b ↔ addS 1 0 a = addS 1 0 b := by
  have h1 := addS_lt a 1 0 (by decide) (by decide)
  have h2 := addS_lt b 1 0 (by decide) (by decide)
  constructor
  · intro h
    have h' : (addS 1 0 a).2 * 65536 + (addS 1 0 a).1 = (addS 1 0 b).2 * 65536 + (addS 1 0 b).1 := h
    exact Prod.ext (by omega) (by omega)
  · intro h
    show (addS 1 0 a).2 * 65536 + (addS 1 0 a).1 = (addS 1 0 b).2 * 65536 + (addS 1 0 b).1
    rw [h]

theorem addX : ∀ (bs : List Nat) (x y : Nat), x < 65521 → (addS x y bs).1 = (x + bs.sum) % 65521
  | [], x, y, h => by simp [addS, Nat.mod_eq_of_lt h]
  | c :: cs, x, y, _ => by
    rw [addS, addX cs _ _ (Nat.mod_lt _ (by decide)), List.sum_cons, Nat.mod_add_mod, Nat.add_assoc]
def sumT : Nat → List Nat → Nat
  | _, [] => 0
  | x, c :: cs => (x + c) % 65521 + sumT ((x + c) % 65521) cs
theorem addY : ∀ (bs : List Nat) (x y : Nat), y < 65521 → (addS x y bs).2 = (y + sumT x bs) % 65521
  | [], x, y, h => by simp [addS, sumT, Nat.mod_eq_of_lt h]
  | c :: cs, x, y, _ => by
    rw [addS, addY cs _ _ (Nat.mod_lt _ (by decide)), sumT, Nat.mod_add_mod, Nat.add_assoc]

/-- A byte that was turned turns the sum. -/
theorem mark_turn {bs : List Nat} {i b : Nat} (h : i < bs.length) (hb : ∀ b ∈ bs, b < 256) (hb' : b < 256) : markN 1 bs = markN 1 (bs.set i b) ↔ bs[i] = b := by
  rw [markN_eq]
  constructor
  · intro e
    have e1 := congrArg Prod.fst e
    rw [addX _ _ _ (by decide), addX _ _ _ (by decide)] at e1
    have hs : bs = bs.take i ++ bs[i] :: bs.drop (i + 1) := by rw [← List.drop_eq_getElem_cons h, List.take_append_drop]
    have hs' : bs.set i b = bs.take i ++ b :: bs.drop (i + 1) := by rw [List.set_eq_take_append_cons_drop, if_pos h]
    have s1 : bs.sum = (bs.take i).sum + (bs[i] + (bs.drop (i + 1)).sum) := by
      conv => lhs; rw [hs]
      rw [List.sum_append, List.sum_cons]
    have s2 : (bs.set i b).sum = (bs.take i).sum + (b + (bs.drop (i + 1)).sum) := by rw [hs', List.sum_append, List.sum_cons]
    have := hb _ (List.getElem_mem h)
    omega
  · intro e
    rw [← e, List.set_getElem_self]

/-- Two neighbours that change places. -/
theorem mark_swap {p q : List Nat} {a b : Nat} (ha : a < 256) (hb : b < 256) : markN 1 (p ++ a :: b :: q) = markN 1 (p ++ b :: a :: q) ↔ a = b := by
  rw [markN_eq]
  constructor
  · intro e
    rw [addS_app, addS_app] at e
    have hl := addS_lt p 1 0 (by decide) (by decide)
    generalize addS 1 0 p = s at e hl
    obtain ⟨x, y⟩ := s
    simp only [addS] at e
    have e2 := congrArg Prod.snd e
    rw [addY _ _ _ (Nat.mod_lt _ (by decide)), addY _ _ _ (Nat.mod_lt _ (by decide))] at e2
    have hx : ((x + a) % 65521 + b) % 65521 = ((x + b) % 65521 + a) % 65521 := by omega
    rw [hx] at e2
    simp only at hl
    omega
  · intro e
    rw [e]
end Go.AM.St
