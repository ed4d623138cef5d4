/- Numbers as bytes: plain. Sums: plain. Records as bytes: plain. Reading records: plain. What was written as a record is read. Frames: plain. What bytes may begin: plain. The reference's reader reads as package rec's: plain. A record's bytes cut short are a beginning: plain. Frames one behind the other, cut off anywhere: plain. -/
import Derived.Test.YtahhajakgakdhaaGmStep
namespace Go.AM.St
open Go Go.AM

/-- Zig. -/
def zigN (x : Int) : Nat := if x < 0 then (-(2 * x) - 1).toNat else (2 * x).toNat
/-- Zag. -/
def zagI (u : Nat) : Int := if u % 2 = 1 then -((u / 2 : Nat) : Int) - 1 else ((u / 2 : Nat) : Int)
theorem zag_zig (x : Int) : zagI (zigN x) = x := by
  unfold zagI zigN
  split <;> split <;> omega
theorem zigN_lt {x : Int} (h1 : -9223372036854775808 ≤ x) (h2 : x ≤ 9223372036854775807) : zigN x < 18446744073709551616 := by
  unfold zigN
  split <;> omega

/-- The bytes ahead of those that stand already. -/
def tailB : Nat → Nat → List Nat → List Nat
  | 0, _, acc => acc
  | n + 1, u, acc => if u = 0 then acc else tailB n (u / 128) ((128 + u % 128) :: acc)
/-- A number's bytes. -/
def enc (u : Nat) : List Nat := tailB 10 (u / 128) [u % 128]

theorem tailB_more : ∀ (n u : Nat) (acc : List Nat), u < 128 ^ n → tailB (n + 1) u acc = tailB n u acc
  | 0, u, acc, h => by
    obtain rfl : u = 0 := by simpa using h
    rfl
  | n + 1, u, acc, h => by
    rw [tailB]
    conv => rhs; rw [tailB]
    by_cases hu : u = 0
    · rw [if_pos hu, if_pos hu]
    · rw [if_neg hu, if_neg hu]
      exact tailB_more n (u / 128) _ (by rw [Nat.pow_succ] at h; omega)
theorem tailB_eq {n m u : Nat} {acc : List Nat} (h : u < 128 ^ n) (hm : n ≤ m) : tailB m u acc = tailB n u acc := by
  induction m with
  | zero => obtain rfl : n = 0 := by omega
            rfl
  | succ m ih =>
    by_cases e : n = m + 1
    · subst e; rfl
    · rw [tailB_more m u acc (Nat.lt_of_lt_of_le h (Nat.pow_le_pow_right (by decide) (by omega)))]
      exact ih (by omega)
theorem tailB_acc : ∀ (n u : Nat) (acc : List Nat), tailB n u acc = tailB n u [] ++ acc
  | 0, _, _ => rfl
  | n + 1, u, acc => by
    rw [tailB]
    conv => rhs; rw [tailB]
    by_cases hu : u = 0
    · rw [if_pos hu, if_pos hu]; rfl
    · rw [if_neg hu, if_neg hu]
      rw [tailB_acc n _ (_ :: acc), tailB_acc n _ [_], List.append_assoc]
      rfl
theorem tailB_lt : ∀ (n u : Nat) (acc : List Nat), (∀ b ∈ acc, b < 256) → ∀ b ∈ tailB n u acc, b < 256
  | 0, _, _, h => h
  | n + 1, u, acc, h => by
    rw [tailB]
    split
    · exact h
    · refine tailB_lt n _ _ fun b hb => ?_
      rcases List.mem_cons.1 hb with rfl | hb
      · omega
      · exact h b hb
theorem enc_lt (u : Nat) : ∀ b ∈ enc u, b < 256 := tailB_lt _ _ _ fun b hb => by
  rw [List.mem_singleton] at hb; omega
theorem tailB_len : ∀ (n u : Nat) (acc : List Nat), (tailB n u acc).length ≤ n + acc.length
  | 0, _, acc => by simp [tailB]
  | n + 1, u, acc => by
    rw [tailB]
    split
    · omega
    · have := tailB_len n (u / 128) ((128 + u % 128) :: acc)
      simp only [List.length_cons] at this
      omega
theorem enc_len (u : Nat) : (enc u).length ≤ 11 := by
  have := tailB_len 10 (u / 128) [u % 128]
  exact this

/-! Reading. -/
def getL : Nat → Nat → List Nat → Option (Nat × Nat)
  | _, _, [] => none
  | i, u, x :: xs =>
    if (i = 0 ∧ x = 128) ∨ ¬ u < 144115188075855872 then none
    else if x < 128 then some (u * 128 + x % 128, i + 1) else getL (i + 1) (u * 128 + x % 128) xs
def getN (bs : List Nat) : Option (Nat × Nat) := getL 0 0 (bs.take 10)
def getR (bs : List Nat) : Int × Nat := match getN bs with | some (u, k) => (zagI u, k) | none => (0, 0)

/-- The bytes ahead of the last one. -/
def hi (n u : Nat) : List Nat := tailB n u []
theorem hi_succ (n u : Nat) : hi (n + 1) u = if u = 0 then [] else hi n (u / 128) ++ [128 + u % 128] := by
  show tailB (n + 1) u [] = _
  rw [tailB]
  split
  · rfl
  · exact tailB_acc n _ _
theorem hi_zero (n : Nat) : hi n 0 = [] := by
  cases n with
  | zero => rfl
  | succ n => rw [hi_succ, if_pos rfl]
theorem enc_eq (u : Nat) : enc u = hi 10 (u / 128) ++ [u % 128] := tailB_acc _ _ _
theorem hi_len : ∀ n u : Nat, (hi n u).length ≤ n
  | 0, _ => Nat.le_refl _
  | n + 1, u => by
    rw [hi_succ]
    split
    · exact Nat.zero_le _
    · have := hi_len n (u / 128); simp; exact this

theorem getL_hi : ∀ (n u : Nat), u < 128 ^ n → ∀ (rest : List Nat), u < 144115188075855872 * 128 → (rest ≠ []) → getL 0 0 (hi n u ++ rest) = if u = 0 then getL 0 0 rest else getL (hi n u).length u rest
  | 0, u, h, rest, _, hr => by
    obtain rfl : u = 0 := by simpa using h
    rfl
  | n + 1, u, h, rest, hu, hr => by
    rw [hi_succ]
    by_cases h0 : u = 0
    · rw [if_pos h0, if_pos h0]; rfl
    · rw [if_neg h0, if_neg h0, List.append_assoc, getL_hi n (u / 128) (by rw [Nat.pow_succ] at h; omega) _ (by omega) (by simp)]
      have hb : ¬ (128 + u % 128 < 128) := by omega
      have hm : (128 + u % 128) % 128 = u % 128 := by omega
      by_cases hq : u / 128 = 0
      · rw [if_pos hq, hq, hi_zero]
        have hne : ¬ 128 + u % 128 = 128 := by omega
        have e : 0 * 128 + u % 128 = u := by omega
        simp only [List.singleton_append, List.nil_append, List.length_singleton, getL, hne, hb, hm, e, and_false, false_or, if_false]
        simp
      · rw [if_neg hq]
        have e : u / 128 * 128 + u % 128 = u := by omega
        have hlt : u / 128 < 144115188075855872 := by omega
        have hn0 : ¬ (hi n (u / 128)).length = 0 := by
          intro hz
          cases n with
          | zero => rw [Nat.pow_succ, Nat.pow_zero] at h; omega
          | succ n => rw [hi_succ, if_neg hq] at hz; simp at hz
        simp only [List.singleton_append, getL, hn0, hb, hm, e, hlt, false_and, false_or, not_true_eq_false, if_false, List.length_append, List.length_singleton]

theorem get_enc {u : Nat} (h : u < 18446744073709551616) (rest : List Nat) : getN (enc u ++ rest) = some (u, (enc u).length) := by
  unfold getN
  have hl : (enc u).length ≤ 10 := by
    rw [enc_eq, List.length_append]
    have : hi 10 (u / 128) = hi 9 (u / 128) := tailB_more 9 (u / 128) [] (by omega)
    rw [this]
    have := hi_len 9 (u / 128)
    simp; omega
  rw [List.take_append, List.take_of_length_le hl]
  generalize List.take _ rest = rest'
  rw [enc_eq, List.append_assoc, getL_hi 10 (u / 128) (by omega) _ (by omega) (by simp)]
  have e : u / 128 * 128 + u % 128 % 128 = u := by omega
  have hb : u % 128 < 128 := by omega
  by_cases hq : u / 128 = 0
  · rw [if_pos hq, hq, hi_zero]
    have hne : ¬ u % 128 = 128 := by omega
    have e : 0 * 128 + u % 128 % 128 = u := by omega
    simp only [List.singleton_append, getL, hb, e, hne, and_false, false_or, if_true, List.nil_append, List.length_singleton]
    simp
  · rw [if_neg hq]
    have hlt : u / 128 < 144115188075855872 := by omega
    have hne : ¬ u % 128 = 128 := by omega
    simp only [List.singleton_append, getL, hb, e, hlt, hne, and_false, false_or, not_true_eq_false, if_false, if_true, List.length_append, List.length_singleton]

/-! Order. -/
theorem hi_mono : ∀ (n u v : Nat), u ≤ v → (hi n u).length ≤ (hi n v).length
  | 0, _, _, _ => Nat.le_refl _
  | n + 1, u, v, h => by
    rw [hi_succ, hi_succ]
    by_cases hu : u = 0
    · rw [if_pos hu]; exact Nat.zero_le _
    · rw [if_neg hu, if_neg (by omega), List.length_append, List.length_append]
      have := hi_mono n (u / 128) (v / 128) (by omega)
      simp only [List.length_singleton]
      omega
theorem hi_inj : ∀ (n u v : Nat), u < 128 ^ n → v < 128 ^ n → hi n u = hi n v → u = v
  | 0, u, v, hu, hv, _ => by
    have : u = 0 := by simpa using hu
    have : v = 0 := by simpa using hv
    omega
  | n + 1, u, v, hu, hv, h => by
    rw [hi_succ, hi_succ] at h
    by_cases hu0 : u = 0
    · by_cases hv0 : v = 0
      · omega
      · rw [if_pos hu0, if_neg hv0] at h; simp at h
    · by_cases hv0 : v = 0
      · rw [if_neg hu0, if_pos hv0] at h; simp at h
      · rw [if_neg hu0, if_neg hv0] at h
        obtain ⟨h1, h2⟩ := List.append_inj' h rfl
        have := hi_inj n (u / 128) (v / 128) (by rw [Nat.pow_succ] at hu; omega) (by rw [Nat.pow_succ] at hv; omega) h1
        simp at h2
        omega

theorem ltL_snoc : ∀ (X Y : List Nat), X.length = Y.length → ∀ (x y : Nat), ltL ((X ++ [x]).map fun (b : Nat) => (b : Int)) ((Y ++ [y]).map fun (b : Nat) => (b : Int)) =
    (ltL (X.map fun (b : Nat) => (b : Int)) (Y.map fun (b : Nat) => (b : Int)) || (decide (X = Y) && decide (x < y)))
  | [], [], _, x, y => by simp [ltL]
  | [], _ :: _, h, _, _ => by simp at h
  | _ :: _, [], h, _, _ => by simp at h
  | a :: X, b :: Y, h, x, y => by
    simp only [List.cons_append, List.map_cons, ltL]
    rw [ltL_snoc X Y (by simpa using h)]
    by_cases hab : a = b
    · subst hab
      simp
    · have : ((a : Int) == (b : Int)) = false := by rw [beq_eq_false_iff_ne]; omega
      simp [hab, this]

theorem hi_lex : ∀ (n u v : Nat), u < 128 ^ n → v < 128 ^ n → (hi n u).length = (hi n v).length →
    ltL ((hi n u).map fun (b : Nat) => (b : Int)) ((hi n v).map fun (b : Nat) => (b : Int)) = decide (u < v)
  | 0, u, v, hu, hv, _ => by
    have h1 : u = 0 := by simpa using hu
    have h2 : v = 0 := by simpa using hv
    subst h1 h2
    rfl
  | n + 1, u, v, hu, hv, h => by
    rw [hi_succ, hi_succ] at h ⊢
    by_cases hu0 : u = 0
    · by_cases hv0 : v = 0
      · rw [if_pos hu0, if_pos hv0, hu0, hv0]; rfl
      · rw [if_pos hu0, if_neg hv0] at h; simp at h
    · by_cases hv0 : v = 0
      · rw [if_neg hu0, if_pos hv0] at h; simp at h
      · rw [if_neg hu0, if_neg hv0] at h ⊢
        have hl : (hi n (u / 128)).length = (hi n (v / 128)).length := by simpa using h
        have h1 : u / 128 < 128 ^ n := by rw [Nat.pow_succ] at hu; omega
        have h2 : v / 128 < 128 ^ n := by rw [Nat.pow_succ] at hv; omega
        rw [ltL_snoc _ _ hl, hi_lex n _ _ h1 h2 hl]
        have key : decide (hi n (u / 128) = hi n (v / 128)) = decide (u / 128 = v / 128) := decide_eq_decide.2 ⟨hi_inj n _ _ h1 h2, fun e => by rw [e]⟩
        rw [key]
        by_cases e : u / 128 = v / 128
        · simp [e]; omega
        · simp [e]; omega

theorem enc_order {u v : Nat} (hu : u < 18446744073709551616) (hv : v < 18446744073709551616) (h : (enc u).length = (enc v).length) :
    ltL ((enc u).map fun (b : Nat) => (b : Int)) ((enc v).map fun (b : Nat) => (b : Int)) = decide (u < v) := by
  rw [enc_eq, enc_eq] at h ⊢
  have hl : (hi 10 (u / 128)).length = (hi 10 (v / 128)).length := by simpa using h
  rw [ltL_snoc _ _ hl, hi_lex 10 _ _ (by omega) (by omega) hl]
  have key : decide (hi 10 (u / 128) = hi 10 (v / 128)) = decide (u / 128 = v / 128) := decide_eq_decide.2 ⟨hi_inj 10 _ _ (by omega) (by omega), fun e => by rw [e]⟩
  rw [key]
  by_cases e : u / 128 = v / 128
  · simp [e]; omega
  · simp [e]; omega
theorem enc_longer {u v : Nat} (h : (enc u).length ≠ (enc v).length) : decide (u < v) = decide ((enc u).length < (enc v).length) := by
  rw [enc_eq, enc_eq] at h ⊢
  simp only [List.length_append, List.length_singleton, ne_eq, Nat.add_right_cancel_iff] at h ⊢
  have h1 := hi_mono 10 (u / 128) (v / 128)
  have h2 := hi_mono 10 (v / 128) (u / 128)
  rw [decide_eq_decide]
  omega

/-! A number's lowest bytes. -/
def fixL (u n : Nat) : List Nat := (List.range n).map fun i => u / 256 ^ i % 256
def fixR (u n : Nat) : List Nat := if n ≤ 8 then fixL u n else []
theorem fixL_len (u n : Nat) : (fixL u n).length = n := by simp [fixL]
theorem fixL_succ (u n : Nat) : fixL u (n + 1) = fixL u n ++ [u / 256 ^ n % 256] := by simp [fixL, List.range_succ]
theorem fixL_lt (u n : Nat) : ∀ b ∈ fixL u n, b < 256 := fun b hb => by
  obtain ⟨i, _, rfl⟩ := List.mem_map.1 hb
  omega
theorem fixR_lt (u n : Nat) : ∀ b ∈ fixR u n, b < 256 := fun b hb => by
  unfold fixR at hb
  split at hb
  · exact fixL_lt _ _ b hb
  · cases hb
theorem fix_set (u n i : Nat) (h : i < n) : (fixL u i ++ List.replicate (n - i) 0).set i (u / 256 ^ i % 256) = fixL u (i + 1) ++ List.replicate (n - (i + 1)) 0 := by
  rw [List.set_append_right _ _ (by rw [fixL_len]; omega), fixL_len, Nat.sub_self, show n - i = (n - (i + 1)) + 1 by omega, List.replicate_succ, List.set_cons_zero, fixL_succ, List.append_assoc]
  rfl
def unfixL : List Nat → Nat
  | [] => 0
  | b :: bs => b + 256 * unfixL bs
theorem unfix_snoc : ∀ (bs : List Nat) (b : Nat), unfixL (bs ++ [b]) = unfixL bs + b * 256 ^ bs.length
  | [], b => by simp [unfixL]
  | x :: bs, b => by
    rw [List.cons_append, unfixL, unfixL, unfix_snoc bs b, List.length_cons, Nat.pow_succ, Nat.mul_add, Nat.add_assoc]
    congr 2
    rw [← Nat.mul_assoc, Nat.mul_comm 256 b, Nat.mul_assoc, Nat.mul_comm 256]
theorem unfix_lt : ∀ bs : List Nat, (∀ b ∈ bs, b < 256) → unfixL bs < 256 ^ bs.length
  | [], _ => by decide
  | x :: bs, h => by
    have h1 := h x List.mem_cons_self
    have h2 := unfix_lt bs fun b hb => h b (List.mem_cons_of_mem _ hb)
    rw [unfixL, List.length_cons, Nat.pow_succ]
    omega
theorem unfix_fix (u : Nat) : ∀ n, unfixL (fixL u n) = u % 256 ^ n
  | 0 => by simp [fixL, unfixL, Nat.mod_one]
  | n + 1 => by
    rw [fixL_succ, unfix_snoc, unfix_fix u n, fixL_len, Nat.mod_pow_succ, Nat.mul_comm]
def unfix (bs : List Nat) : Nat := unfixL (bs.take 8)
theorem unfix_bound {bs : List Nat} (h : ∀ b ∈ bs, b < 256) : unfix bs < 18446744073709551616 := by
  have h1 := unfix_lt (bs.take 8) fun b hb => h b (List.mem_of_mem_take hb)
  have h2 : (bs.take 8).length ≤ 8 := by rw [List.length_take]; omega
  have h3 : 256 ^ (bs.take 8).length ≤ 256 ^ 8 := Nat.pow_le_pow_right (by decide) h2
  unfold unfix
  have h4 : 256 ^ 8 = 18446744073709551616 := by decide
  omega
end Go.AM.St
namespace Go.AM.St
open Go Go.AM

def addS : Nat → Nat → List Nat → Nat × Nat
  | x, y, [] => (x, y)
  | x, y, c :: cs => addS ((x + c) % 65521) ((y + (x + c) % 65521) % 65521) cs
def markN (m : Nat) (bs : List Nat) : Nat := (addS (m % 65536 % 65521) (m / 65536 % 65521) bs).2 * 65536 + (addS (m % 65536 % 65521) (m / 65536 % 65521) bs).1
theorem addS_lt : ∀ (bs : List Nat) (x y : Nat), x < 65521 → y < 65521 → (addS x y bs).1 < 65521 ∧ (addS x y bs).2 < 65521
  | [], _, _, hx, hy => ⟨hx, hy⟩
  | c :: cs, x, y, _, _ => addS_lt cs _ _ (Nat.mod_lt _ (by decide)) (Nat.mod_lt _ (by decide))
theorem addS_app : ∀ (a b : List Nat) (x y : Nat), addS x y (a ++ b) = addS (addS x y a).1 (addS x y a).2 b
  | [], _, _, _ => rfl
  | c :: cs, b, x, y => by rw [List.cons_append, addS, addS, addS_app cs b]
theorem markN_lt (m : Nat) (bs : List Nat) : markN m bs < 4294967296 := by
  have := addS_lt bs (m % 65536 % 65521) (m / 65536 % 65521) (Nat.mod_lt _ (by decide)) (Nat.mod_lt _ (by decide))
  unfold markN
  omega
theorem markN_split (m : Nat) (bs : List Nat) : markN m bs % 65536 % 65521 = (addS (m % 65536 % 65521) (m / 65536 % 65521) bs).1 ∧ markN m bs / 65536 % 65521 = (addS (m % 65536 % 65521) (m / 65536 % 65521) bs).2 := by
  have := addS_lt bs (m % 65536 % 65521) (m / 65536 % 65521) (Nat.mod_lt _ (by decide)) (Nat.mod_lt _ (by decide))
  unfold markN
  omega
theorem markN_app (m : Nat) (a b : List Nat) : markN (markN m a) b = markN m (a ++ b) := by
  obtain ⟨h1, h2⟩ := markN_split m a
  show (addS (markN m a % 65536 % 65521) (markN m a / 65536 % 65521) b).2 * 65536 + (addS (markN m a % 65536 % 65521) (markN m a / 65536 % 65521) b).1 = _
  rw [h1, h2, ← addS_app]
  rfl
theorem markN_eq {a b : List Nat} : markN 1 a = markN 1 b ↔ addS 1 0 a = addS 1 0 b := by
  have h1 := addS_lt a 1 0 (by decide) (by decide)
  have h2 := addS_lt b 1 0 (by decide) (by decide)
  constructor
  · intro h
    have h' : (addS 1 0 a).2 * 65536 + (addS 1 0 a).1 = (addS 1 0 b).2 * 65536 + (addS 1 0 b).1 := h
    exact Prod.ext (by omega) (by omega)
  · intro h
    show (addS 1 0 a).2 * 65536 + (addS 1 0 a).1 = (addS 1 0 b).2 * 65536 + (addS 1 0 b).1
    rw [h]

theorem addX : ∀ (bs : List Nat) (x y : Nat), x < 65521 → (addS x y bs).1 = (x + bs.sum) % 65521
  | [], x, y, h => by simp [addS, Nat.mod_eq_of_lt h]
  | c :: cs, x, y, _ => by
    rw [addS, addX cs _ _ (Nat.mod_lt _ (by decide)), List.sum_cons, Nat.mod_add_mod, Nat.add_assoc]
def sumT : Nat → List Nat → Nat
  | _, [] => 0
  | x, c :: cs => (x + c) % 65521 + sumT ((x + c) % 65521) cs
theorem addY : ∀ (bs : List Nat) (x y : Nat), y < 65521 → (addS x y bs).2 = (y + sumT x bs) % 65521
  | [], x, y, h => by simp [addS, sumT, Nat.mod_eq_of_lt h]
  | c :: cs, x, y, _ => by
    rw [addS, addY cs _ _ (Nat.mod_lt _ (by decide)), sumT, Nat.mod_add_mod, Nat.add_assoc]

/-- A byte that was turned turns the sum. -/
theorem mark_turn {bs : List Nat} {i b : Nat} (h : i < bs.length) (hb : ∀ b ∈ bs, b < 256) (hb' : b < 256) : markN 1 bs = markN 1 (bs.set i b) ↔ bs[i] = b := by
  rw [markN_eq]
  constructor
  · intro e
    have e1 := congrArg Prod.fst e
    rw [addX _ _ _ (by decide), addX _ _ _ (by decide)] at e1
    have hs : bs = bs.take i ++ bs[i] :: bs.drop (i + 1) := by rw [← List.drop_eq_getElem_cons h, List.take_append_drop]
    have hs' : bs.set i b = bs.take i ++ b :: bs.drop (i + 1) := by rw [List.set_eq_take_append_cons_drop, if_pos h]
    have s1 : bs.sum = (bs.take i).sum + (bs[i] + (bs.drop (i + 1)).sum) := by
      conv => lhs; rw [hs]
      rw [List.sum_append, List.sum_cons]
    have s2 : (bs.set i b).sum = (bs.take i).sum + (b + (bs.drop (i + 1)).sum) := by rw [hs', List.sum_append, List.sum_cons]
    have := hb _ (List.getElem_mem h)
    omega
  · intro e
    rw [← e, List.set_getElem_self]

/-- Two neighbours that change places. -/
theorem mark_swap {p q : List Nat} {a b : Nat} (ha : a < 256) (hb : b < 256) : markN 1 (p ++ a :: b :: q) = markN 1 (p ++ b :: a :: q) ↔ a = b := by
  rw [markN_eq]
  constructor
  · intro e
    rw [addS_app, addS_app] at e
    have hl := addS_lt p 1 0 (by decide) (by decide)
    generalize addS 1 0 p = s at e hl
    obtain ⟨x, y⟩ := s
    simp only [addS] at e
    have e2 := congrArg Prod.snd e
    rw [addY _ _ _ (Nat.mod_lt _ (by decide)), addY _ _ _ (Nat.mod_lt _ (by decide))] at e2
    have hx : ((x + a) % 65521 + b) % 65521 = ((x + b) % 65521 + a) % 65521 := by omega
    rw [hx] at e2
    simp only at hl
    omega
  · intro e
    rw [e]
end Go.AM.St
namespace Go.AM.St
open Go Go.AM

structure RecP where
  kind : Int
  nums : List Int
  texts : List (List Nat)

def mayR (r : RecP) : Bool := decide (0 ≤ r.kind) && decide (r.kind ≤ 255) && decide (r.nums.length ≤ 40) && decide (r.texts.length ≤ 40) && r.texts.all fun t => decide (t.length ≤ 200)
/-- Numbers one behind the other. -/
def encI : List Int → List Nat
  | [] => []
  | x :: xs => enc (zigN x) ++ encI xs
def encT : List (List Nat) → List Nat
  | [] => []
  | t :: ts => enc (zigN (t.length : Int)) ++ t ++ encT ts
def putR (r : RecP) : List Nat := enc (zigN r.kind) ++ enc (zigN (r.nums.length : Int)) ++ encI r.nums ++ enc (zigN (r.texts.length : Int)) ++ encT r.texts

theorem encI_snoc : ∀ (xs : List Int) (x : Int), encI (xs ++ [x]) = encI xs ++ enc (zigN x)
  | [], x => by simp [encI]
  | y :: xs, x => by rw [List.cons_append, encI, encI, encI_snoc xs x, List.append_assoc]
theorem encT_snoc : ∀ (xs : List (List Nat)) (x : List Nat), encT (xs ++ [x]) = encT xs ++ (enc (zigN (x.length : Int)) ++ x)
  | [], x => by simp [encT]
  | y :: xs, x => by rw [List.cons_append, encT, encT, encT_snoc xs x]; simp only [List.append_assoc]
theorem encI_len : ∀ xs : List Int, (encI xs).length ≤ 11 * xs.length
  | [] => Nat.le_refl _
  | x :: xs => by
    have := enc_len (zigN x)
    have := encI_len xs
    rw [encI, List.length_append, List.length_cons]
    omega
theorem encT_len : ∀ xs : List (List Nat), (∀ t ∈ xs, t.length ≤ 200) → (encT xs).length ≤ 211 * xs.length
  | [], _ => Nat.le_refl _
  | x :: xs, h => by
    have := enc_len (zigN (x.length : Int))
    have := encT_len xs fun t ht => h t (List.mem_cons_of_mem _ ht)
    have := h x List.mem_cons_self
    rw [encT, List.length_append, List.length_append, List.length_cons]
    omega
theorem encI_lt : ∀ xs : List Int, ∀ b ∈ encI xs, b < 256
  | [], b, h => by cases h
  | x :: xs, b, h => (List.mem_append.1 h).elim (enc_lt _ b) (encI_lt xs b)
theorem encT_lt : ∀ xs : List (List Nat), (∀ t ∈ xs, ∀ b ∈ t, b < 256) → ∀ b ∈ encT xs, b < 256
  | [], _, b, h => by cases h
  | x :: xs, hx, b, h => by
    rw [encT] at h
    rcases List.mem_append.1 h with h | h
    · rcases List.mem_append.1 h with h | h
      · exact enc_lt _ b h
      · exact hx x List.mem_cons_self b h
    · exact encT_lt xs (fun t ht => hx t (List.mem_cons_of_mem _ ht)) b h
theorem may_iff {r : RecP} : mayR r = true ↔ (0 ≤ r.kind ∧ r.kind ≤ 255) ∧ r.nums.length ≤ 40 ∧ r.texts.length ≤ 40 ∧ ∀ t ∈ r.texts, t.length ≤ 200 := by
  unfold mayR
  simp only [Bool.and_eq_true, decide_eq_true_eq, List.all_eq_true]
  constructor
  · rintro ⟨⟨⟨⟨h1, h2⟩, h3⟩, h4⟩, h5⟩; exact ⟨⟨h1, h2⟩, h3, h4, h5⟩
  · rintro ⟨⟨h1, h2⟩, h3, h4, h5⟩; exact ⟨⟨⟨⟨h1, h2⟩, h3⟩, h4⟩, h5⟩
theorem putR_len {r : RecP} (h : mayR r = true) : (putR r).length ≤ 9000 := by
  obtain ⟨_, h3, h4, h5⟩ := may_iff.1 h
  have := enc_len (zigN r.kind)
  have := enc_len (zigN (r.nums.length : Int))
  have := encI_len r.nums
  have := enc_len (zigN (r.texts.length : Int))
  have := encT_len r.texts h5
  unfold putR
  simp only [List.length_append]
  omega
theorem putR_lt {r : RecP} (h : ∀ t ∈ r.texts, ∀ b ∈ t, b < 256) : ∀ b ∈ putR r, b < 256 := fun b hb => by
  unfold putR at hb
  rcases List.mem_append.1 hb with hb | hb
  · rcases List.mem_append.1 hb with hb | hb
    · rcases List.mem_append.1 hb with hb | hb
      · rcases List.mem_append.1 hb with hb | hb
        · exact enc_lt _ b hb
        · exact enc_lt _ b hb
      · exact encI_lt _ b hb
    · exact enc_lt _ b hb
  · exact encT_lt _ h b hb
end Go.AM.St
namespace Go.AM.St
open Go Go.AM

def begL (m : Nat) : Nat → Nat → List Nat → Bool
  | _, _, [] => true
  | i, u, x :: xs => if x < 128 ∨ (i = 0 ∧ x = 128) then false else if m < u * 128 + x % 128 then false else begL m (i + 1) (u * 128 + x % 128) xs

/-- A reader: where it stands, why it can't go on. -/
structure Rd where
  pos : Nat
  err : Nat

def numR (bs : List Nat) (most : Nat) (s : Rd) : Int × Rd :=
  if s.err ≠ 0 then (0, s) else
    if 0 < (getR (bs.drop s.pos)).2 ∧ zigN (getR (bs.drop s.pos)).1 ≤ most then ((getR (bs.drop s.pos)).1, ⟨s.pos + (getR (bs.drop s.pos)).2, 0⟩)
    else if (getR (bs.drop s.pos)).2 = 0 ∧ begL (most / 128) 0 0 (bs.drop s.pos) = true then (0, ⟨s.pos, 2⟩) else (0, ⟨s.pos, 1⟩)
def cntR (bs : List Nat) (m : Nat) (s : Rd) : Int × Rd :=
  if (numR bs (2 * m) s).1 < 0 then (0, ⟨(numR bs (2 * m) s).2.pos, 1⟩) else numR bs (2 * m) s
def txtR (bs : List Nat) (s : Rd) : List Nat × Rd :=
  if (cntR bs 200 s).2.err ≠ 0 then ([], (cntR bs 200 s).2)
  else if bs.length - (cntR bs 200 s).2.pos < (cntR bs 200 s).1.toNat then ([], ⟨(cntR bs 200 s).2.pos, 2⟩)
  else ((bs.drop (cntR bs 200 s).2.pos).take (cntR bs 200 s).1.toNat, ⟨(cntR bs 200 s).2.pos + (cntR bs 200 s).1.toNat, 0⟩)
def numsR (bs : List Nat) : Nat → Rd → List Int × Rd
  | 0, s => ([], s)
  | n + 1, s => ((numR bs 18446744073709551615 s).1 :: (numsR bs n (numR bs 18446744073709551615 s).2).1, (numsR bs n (numR bs 18446744073709551615 s).2).2)
def txtsR (bs : List Nat) : Nat → Rd → List (List Nat) × Rd
  | 0, s => ([], s)
  | n + 1, s => ((txtR bs s).1 :: (txtsR bs n (txtR bs s).2).1, (txtsR bs n (txtR bs s).2).2)

theorem getL_bound : ∀ (xs : List Nat) (i u v k : Nat), getL i u xs = some (v, k) → i < k ∧ k ≤ i + xs.length
  | [], i, u, v, k, h => by cases h
  | x :: xs, i, u, v, k, h => by
    rw [getL] at h
    split at h
    · cases h
    · split at h
      · cases h; simp
      · have := getL_bound xs _ _ _ _ h
        simp only [List.length_cons]
        omega
theorem getR_bound (bs : List Nat) : (getR bs).2 ≤ bs.length ∧ (getR bs).2 ≤ 10 := by
  unfold getR
  split
  · rename_i v k h
    have := (getL_bound _ _ _ _ _ h).2
    rw [List.length_take] at this
    show k ≤ _ ∧ k ≤ _
    omega
  · exact ⟨Nat.zero_le _, Nat.zero_le _⟩
theorem getL_val : ∀ (xs : List Nat) (i u v k : Nat), u < 18446744073709551616 → getL i u xs = some (v, k) → v < 18446744073709551616
  | [], i, u, v, k, _, h => by cases h
  | x :: xs, i, u, v, k, hu, h => by
    rw [getL] at h
    split at h
    · cases h
    · rename_i hc
      split at h
      · cases h; omega
      · exact getL_val xs _ _ _ _ (by omega) h
theorem zagI_range {u : Nat} (h : u < 18446744073709551616) : -9223372036854775808 ≤ zagI u ∧ zagI u ≤ 9223372036854775807 := by
  unfold zagI
  split <;> omega
theorem getR_range (bs : List Nat) : -9223372036854775808 ≤ (getR bs).1 ∧ (getR bs).1 ≤ 9223372036854775807 := by
  unfold getR
  split
  · rename_i v k h
    exact zagI_range (getL_val _ _ _ _ _ (by decide) h)
  · exact ⟨by decide, by decide⟩
theorem numR_pos {bs : List Nat} {most : Nat} {s : Rd} (h : s.pos ≤ bs.length) : (numR bs most s).2.pos ≤ bs.length := by
  have := (getR_bound (bs.drop s.pos)).1
  rw [List.length_drop] at this
  unfold numR
  split
  · exact h
  · split
    · show s.pos + _ ≤ _; omega
    · split
      · exact h
      · exact h
theorem numR_range (bs : List Nat) (most : Nat) (s : Rd) : -9223372036854775808 ≤ (numR bs most s).1 ∧ (numR bs most s).1 ≤ 9223372036854775807 := by
  unfold numR
  split
  · exact ⟨by simp, by simp⟩
  · split
    · exact getR_range _
    · split <;> exact ⟨by simp, by simp⟩
theorem cntR_pos {bs : List Nat} {m : Nat} {s : Rd} (h : s.pos ≤ bs.length) : (cntR bs m s).2.pos ≤ bs.length := by
  unfold cntR
  split
  · exact numR_pos h
  · exact numR_pos h
theorem cntR_range {bs : List Nat} {m : Nat} {s : Rd} : 0 ≤ (cntR bs m s).1 ∧ (cntR bs m s).1 ≤ m := by
  unfold cntR
  split
  · exact ⟨by simp, by simp⟩
  · rename_i h
    refine ⟨by omega, ?_⟩
    revert h
    unfold numR
    split
    · intro; show (0 : Int) ≤ _; omega
    · split
      · rename_i hc
        intro hn
        have h2 := hc.2
        simp only at hn ⊢
        unfold zigN at h2
        rw [if_neg hn] at h2
        omega
      · split <;> intro <;> (show (0 : Int) ≤ _; omega)
theorem txtR_pos {bs : List Nat} {s : Rd} (h : s.pos ≤ bs.length) : (txtR bs s).2.pos ≤ bs.length := by
  have := cntR_pos (m := 200) h
  unfold txtR
  split
  · exact this
  · split
    · exact this
    · show _ + _ ≤ _; omega

theorem numsR_succ (bs : List Nat) : ∀ (i : Nat) (s : Rd), numsR bs (i + 1) s = ((numsR bs i s).1 ++ [(numR bs 18446744073709551615 (numsR bs i s).2).1], (numR bs 18446744073709551615 (numsR bs i s).2).2)
  | 0, s => rfl
  | i + 1, s => by
    rw [numsR, numsR_succ bs i, numsR]
    rfl
theorem txtsR_succ (bs : List Nat) : ∀ (i : Nat) (s : Rd), txtsR bs (i + 1) s = ((txtsR bs i s).1 ++ [(txtR bs (txtsR bs i s).2).1], (txtR bs (txtsR bs i s).2).2)
  | 0, s => rfl
  | i + 1, s => by
    rw [txtsR, txtsR_succ bs i, txtsR]
    rfl
theorem numsR_len (bs : List Nat) : ∀ (i : Nat) (s : Rd), (numsR bs i s).1.length = i
  | 0, s => rfl
  | i + 1, s => by rw [numsR]; simp only [List.length_cons]; rw [numsR_len bs i]
theorem txtsR_len (bs : List Nat) : ∀ (i : Nat) (s : Rd), (txtsR bs i s).1.length = i
  | 0, s => rfl
  | i + 1, s => by rw [txtsR]; simp only [List.length_cons]; rw [txtsR_len bs i]
theorem numsR_pos {bs : List Nat} : ∀ (i : Nat) {s : Rd}, s.pos ≤ bs.length → (numsR bs i s).2.pos ≤ bs.length
  | 0, _, h => h
  | i + 1, _, h => numsR_pos i (numR_pos h)
theorem txtsR_pos {bs : List Nat} : ∀ (i : Nat) {s : Rd}, s.pos ≤ bs.length → (txtsR bs i s).2.pos ≤ bs.length
  | 0, _, h => h
  | i + 1, _, h => txtsR_pos i (txtR_pos h)

def recGetJ (c1 : Int × Rd) (ns : List Int × Rd) (ts : List (List Nat) × Rd) : RecP × Nat × Nat := if ts.2.err ≠ 0 then (⟨0, [], []⟩, 0, ts.2.err) else (⟨c1.1, ns.1, ts.1⟩, ts.2.pos, 0)
def recGetI (bs : List Nat) (c1 : Int × Rd) (ns : List Int × Rd) (c3 : Int × Rd) : RecP × Nat × Nat := recGetJ c1 ns (txtsR bs c3.1.toNat c3.2)
def recGetH (bs : List Nat) (c1 : Int × Rd) (ns : List Int × Rd) : RecP × Nat × Nat := recGetI bs c1 ns (cntR bs 40 ns.2)
def recGetG (bs : List Nat) (c1 c2 : Int × Rd) : RecP × Nat × Nat := recGetH bs c1 (numsR bs c2.1.toNat c2.2)
def recGetF (bs : List Nat) (c1 : Int × Rd) : RecP × Nat × Nat := recGetG bs c1 (cntR bs 40 c1.2)
/-- What a record's reader tells of bytes. -/
def recGet (bs : List Nat) : RecP × Nat × Nat := recGetF bs (cntR bs 255 ⟨0, 0⟩)
end Go.AM.St
namespace Go.AM.St
open Go Go.AM

theorem getR_enc' {x : Int} (h1 : -9223372036854775808 ≤ x) (h2 : x ≤ 9223372036854775807) (rest : List Nat) : getR (enc (zigN x) ++ rest) = (x, (enc (zigN x)).length) := by
  unfold getR
  rw [get_enc (zigN_lt h1 h2)]
  show (zagI (zigN x), _) = _
  rw [zag_zig]
theorem enc_pos' (u : Nat) : 0 < (enc u).length := by rw [enc_eq]; simp
theorem numR_at {bs pre rest : List Nat} {x : Int} {most : Nat} (h1 : -9223372036854775808 ≤ x) (h2 : x ≤ 9223372036854775807) (hm : zigN x ≤ most) (hb : bs = pre ++ (enc (zigN x) ++ rest)) :
    numR bs most ⟨pre.length, 0⟩ = (x, ⟨(pre ++ enc (zigN x)).length, 0⟩) := by
  subst hb
  unfold numR
  rw [if_neg (by simp)]
  simp only [List.drop_left]
  rw [getR_enc' h1 h2, if_pos ⟨enc_pos' _, hm⟩, List.length_append]
theorem zigN_nat (k : Nat) : zigN (k : Int) = 2 * k := by
  unfold zigN
  rw [if_neg (by omega)]
  omega
theorem cntR_at {bs pre rest : List Nat} {k m : Nat} (hk : k ≤ m) (hm : m ≤ 1000) (hb : bs = pre ++ (enc (zigN (k : Int)) ++ rest)) :
    cntR bs m ⟨pre.length, 0⟩ = ((k : Int), ⟨(pre ++ enc (zigN (k : Int))).length, 0⟩) := by
  have h := numR_at (most := 2 * m) (x := (k : Int)) (by omega) (by omega) (by rw [zigN_nat]; omega) hb
  unfold cntR
  rw [h, if_neg (by simp)]
theorem numsR_at {bs : List Nat} : ∀ (xs : List Int) (pre rest : List Nat), (∀ x ∈ xs, -9223372036854775808 ≤ x ∧ x ≤ 9223372036854775807) → bs = pre ++ (encI xs ++ rest) →
    numsR bs xs.length ⟨pre.length, 0⟩ = (xs, ⟨(pre ++ encI xs).length, 0⟩)
  | [], pre, rest, _, _ => by simp [numsR, encI]
  | x :: xs, pre, rest, hx, hb => by
    have h := hx x List.mem_cons_self
    have h1 := numR_at (most := 18446744073709551615) (bs := bs) (pre := pre) (rest := encI xs ++ rest) h.1 h.2 (by have := zigN_lt h.1 h.2; omega) (by rw [hb, encI, List.append_assoc])
    have h2 := numsR_at (bs := bs) xs (pre ++ enc (zigN x)) rest (fun y hy => hx y (List.mem_cons_of_mem _ hy)) (by rw [hb, encI]; simp only [List.append_assoc])
    rw [List.length_cons, numsR, h1]
    simp only
    rw [h2, encI, List.append_assoc]
theorem txtR_at {bs pre rest t : List Nat} (ht : t.length ≤ 200) (hb : bs = pre ++ (enc (zigN (t.length : Int)) ++ t ++ rest)) :
    txtR bs ⟨pre.length, 0⟩ = (t, ⟨(pre ++ (enc (zigN (t.length : Int)) ++ t)).length, 0⟩) := by
  have h1 := cntR_at (bs := bs) (m := 200) (pre := pre) (rest := t ++ rest) ht (by decide) (by rw [hb, List.append_assoc])
  have hl : bs.length = (pre ++ enc (zigN (t.length : Int))).length + (t.length + rest.length) := by
    rw [hb]; simp only [List.length_append]; omega
  have hd : bs.drop (pre ++ enc (zigN (t.length : Int))).length = t ++ rest := by
    rw [hb, List.append_assoc, ← List.append_assoc, List.drop_left]
  unfold txtR
  rw [h1]
  simp only [Int.toNat_natCast]
  rw [if_neg (by simp), if_neg (by omega), hd, List.take_left]
  simp only [List.length_append, Prod.mk.injEq, true_and]
  congr 1
  omega
theorem txtsR_at {bs : List Nat} : ∀ (ts : List (List Nat)) (pre rest : List Nat), (∀ t ∈ ts, t.length ≤ 200) → bs = pre ++ (encT ts ++ rest) →
    txtsR bs ts.length ⟨pre.length, 0⟩ = (ts, ⟨(pre ++ encT ts).length, 0⟩)
  | [], pre, rest, _, _ => by simp [txtsR, encT]
  | t :: ts, pre, rest, hx, hb => by
    have h1 := txtR_at (bs := bs) (pre := pre) (rest := encT ts ++ rest) (hx t List.mem_cons_self) (by rw [hb, encT]; simp only [List.append_assoc])
    have h2 := txtsR_at (bs := bs) ts (pre ++ (enc (zigN (t.length : Int)) ++ t)) rest (fun y hy => hx y (List.mem_cons_of_mem _ hy)) (by rw [hb, encT]; simp only [List.append_assoc])
    rw [List.length_cons, txtsR, h1]
    simp only
    rw [h2, encT]
    simp only [List.append_assoc]

theorem recGet_put {r : RecP} (hm : mayR r = true) (hn : ∀ x ∈ r.nums, -9223372036854775808 ≤ x ∧ x ≤ 9223372036854775807) (more : List Nat) : recGet (putR r ++ more) = (r, (putR r).length, 0) := by
  obtain ⟨⟨m1, m2⟩, m3, m4, m5⟩ := may_iff.1 hm
  obtain ⟨k, hk⟩ : ∃ k : Nat, r.kind = (k : Int) := ⟨r.kind.toNat, by omega⟩
  have e0 : putR r ++ more = [] ++ (enc (zigN (k : Int)) ++ (enc (zigN (r.nums.length : Int)) ++ encI r.nums ++ enc (zigN (r.texts.length : Int)) ++ encT r.texts ++ more)) := by
    unfold putR; rw [hk]; simp only [List.append_assoc, List.nil_append]
  have h1 := cntR_at (m := 255) (pre := []) (by omega) (by decide) e0
  have e1 : putR r ++ more = ([] ++ enc (zigN (k : Int))) ++ (enc (zigN (r.nums.length : Int)) ++ (encI r.nums ++ enc (zigN (r.texts.length : Int)) ++ encT r.texts ++ more)) := by
    rw [e0]; simp only [List.append_assoc, List.nil_append]
  have h2 := cntR_at (m := 40) m3 (by decide) e1
  have e2 : putR r ++ more = ([] ++ enc (zigN (k : Int)) ++ enc (zigN (r.nums.length : Int))) ++ (encI r.nums ++ (enc (zigN (r.texts.length : Int)) ++ encT r.texts ++ more)) := by
    rw [e0]; simp only [List.append_assoc, List.nil_append]
  have h3 := numsR_at _ _ _ hn e2
  have e3 : putR r ++ more = ([] ++ enc (zigN (k : Int)) ++ enc (zigN (r.nums.length : Int)) ++ encI r.nums) ++ (enc (zigN (r.texts.length : Int)) ++ (encT r.texts ++ more)) := by
    rw [e0]; simp only [List.append_assoc, List.nil_append]
  have h4 := cntR_at (m := 40) m4 (by decide) e3
  have e4 : putR r ++ more = ([] ++ enc (zigN (k : Int)) ++ enc (zigN (r.nums.length : Int)) ++ encI r.nums ++ enc (zigN (r.texts.length : Int))) ++ (encT r.texts ++ more) := by
    rw [e0]; simp only [List.append_assoc, List.nil_append]
  have h5 := txtsR_at _ _ _ m5 e4
  have hz : (⟨0, 0⟩ : Rd) = ⟨([] : List Nat).length, 0⟩ := rfl
  unfold recGet
  rw [hz, h1, recGetF, h2, recGetG]
  simp only [Int.toNat_natCast]
  rw [h3, recGetH, h4, recGetI]
  simp only [Int.toNat_natCast]
  rw [h5, recGetJ, if_neg (by simp)]
  refine Prod.ext ?_ (Prod.ext ?_ rfl)
  · rw [← hk]
  · show _ = (putR r).length
    unfold putR
    rw [hk, List.nil_append]
theorem putR_inj {r s : RecP} (hr : mayR r = true) (hs : mayR s = true) (hn : ∀ x ∈ r.nums, -9223372036854775808 ≤ x ∧ x ≤ 9223372036854775807) (hn' : ∀ x ∈ s.nums, -9223372036854775808 ≤ x ∧ x ≤ 9223372036854775807) (h : putR r = putR s) : r = s := by
  have h1 := recGet_put hr hn []
  have h2 := recGet_put hs hn' []
  rw [h, h2] at h1
  exact (congrArg Prod.fst h1).symm
end Go.AM.St
namespace Go.AM.St
open Go Go.AM

def putF (r : RecP) : List Nat := fixL (putR r).length 2 ++ fixL (markN 1 (putR r)) 4 ++ putR r
def getFN (bs : List Nat) : Nat := 6 + unfix (bs.take 2)
def getFB (bs : List Nat) : List Nat := (bs.take (getFN bs)).drop 6
def getFbad (bs : List Nat) : Prop := (recGet (getFB bs)).2.2 ≠ 0 ∨ 6 + (recGet (getFB bs)).2.1 ≠ getFN bs ∨ unfix ((bs.take 6).drop 2) ≠ markN 1 (getFB bs)
instance (bs : List Nat) : Decidable (getFbad bs) := by unfold getFbad; infer_instance
def getF (bs : List Nat) : RecP × Nat × Nat :=
  if bs.length < 6 then (⟨0, [], []⟩, 0, 2) else if bs.length < getFN bs then (⟨0, [], []⟩, 0, 2) else if getFbad bs then (⟨0, [], []⟩, 0, 1) else ((recGet (getFB bs)).1, getFN bs, 0)

theorem unfix2_lt {bs : List Nat} (h : ∀ b ∈ bs, b < 256) : unfix (bs.take 2) < 65536 := by
  have h1 := unfix_lt ((bs.take 2).take 8) fun b hb => h b (List.mem_of_mem_take (List.mem_of_mem_take hb))
  have h2 : ((bs.take 2).take 8).length ≤ 2 := by rw [List.length_take, List.length_take]; omega
  have h3 : 256 ^ ((bs.take 2).take 8).length ≤ 256 ^ 2 := Nat.pow_le_pow_right (by decide) h2
  unfold unfix
  have h4 : 256 ^ 2 = 65536 := by decide
  omega
theorem putF_len {r : RecP} (h : mayR r = true) : (putF r).length ≤ 9006 := by
  have := putR_len h
  unfold putF
  simp only [List.length_append, fixL_len]
  omega
theorem putF_lt {r : RecP} (h : ∀ t ∈ r.texts, ∀ b ∈ t, b < 256) : ∀ b ∈ putF r, b < 256 := fun b hb => by
  unfold putF at hb
  rcases List.mem_append.1 hb with hb | hb
  · rcases List.mem_append.1 hb with hb | hb
    · exact fixL_lt _ _ b hb
    · exact fixL_lt _ _ b hb
  · exact putR_lt h b hb
theorem recGet_range (bs : List Nat) : (recGet bs).2.1 ≤ bs.length := by
  unfold recGet recGetF recGetG recGetH recGetI recGetJ
  split
  · exact Nat.zero_le _
  · refine txtsR_pos _ (cntR_pos (numsR_pos _ (cntR_pos (cntR_pos (Nat.zero_le _)))))

theorem getF_ok {bs : List Nat} (h : (getF bs).2.2 = 0) : 6 ≤ (getF bs).2.1 ∧ (getF bs).2.1 ≤ bs.length := by
  unfold getF at h ⊢
  split at h
  · cases h
  · rename_i h6
    rw [if_neg h6]
    split at h
    · cases h
    · rename_i hn
      rw [if_neg hn]
      split at h
      · cases h
      · rename_i hb
        rw [if_neg hb]
        show 6 ≤ getFN bs ∧ getFN bs ≤ bs.length
        unfold getFN at hn ⊢
        omega
theorem getF_le (bs : List Nat) : (getF bs).2.1 ≤ bs.length := by
  by_cases h : (getF bs).2.2 = 0
  · exact (getF_ok h).2
  · unfold getF at h ⊢
    split
    · exact Nat.zero_le _
    · split
      · exact Nat.zero_le _
      · split
        · exact Nat.zero_le _
        · rename_i h6 hn hb
          rw [if_neg h6, if_neg hn, if_neg hb] at h
          exact absurd rfl h
def scanL : Nat → List Nat → List RecP × Nat
  | 0, _ => ([], 0)
  | n + 1, bs => if (getF bs).2.2 ≠ 0 then ([], 0) else ((getF bs).1 :: (scanL n (bs.drop (getF bs).2.1)).1, (getF bs).2.1 + (scanL n (bs.drop (getF bs).2.1)).2)
def scanF (bs : List Nat) : List RecP × Nat := scanL (bs.length + 1) bs
end Go.AM.St
namespace Go.AM.St
open Go Go.AM

def partL : Nat → Nat → List Nat → Bool
  | _, u, [] => decide (u ≤ 144115188075855871)
  | i, u, x :: xs => if x < 128 ∨ 144115188075855871 < u ∨ (i = 0 ∧ x = 128) then false else partL (i + 1) (u * 128 + x % 128) xs
theorem partL_big : ∀ (xs : List Nat) (i u : Nat), 144115188075855871 < u → partL i u xs = false
  | [], i, u, h => by rw [partL]; simp; omega
  | x :: xs, i, u, h => by rw [partL, if_pos (.inr (.inl h))]
theorem partL_beg : ∀ (xs : List Nat) (i u : Nat), u ≤ 144115188075855871 → partL i u xs = begL 144115188075855871 i u xs
  | [], i, u, h => by rw [partL, begL, decide_eq_true h]
  | x :: xs, i, u, h => by
    rw [partL, begL]
    by_cases hc : x < 128 ∨ (i = 0 ∧ x = 128)
    · rw [if_pos hc, if_pos (by omega)]
    · rw [if_neg hc, if_neg (by omega)]
      by_cases hb : 144115188075855871 < u * 128 + x % 128
      · rw [if_pos hb, partL_big _ _ _ hb]
      · rw [if_neg hb, partL_beg xs _ _ (by omega)]
/-- May bytes be the beginning of a number from 0 to m? -/
def ableN (bs : List Nat) (m : Nat) : Bool := bs.isEmpty || (List.range (m + 1)).any fun n => decide (bs.length < (enc (2 * n)).length) && decide ((enc (2 * n)).take bs.length = bs)
end Go.AM.St
namespace Go.AM.St
open Go Go.AM

def numQ (bs : List Nat) (ab : List Nat → Bool) (lo hi : Int) (s : Rd) : Int × Rd :=
  if s.err ≠ 0 then (lo, s) else
    if 0 < (getR (bs.drop s.pos)).2 ∧ lo ≤ (getR (bs.drop s.pos)).1 ∧ (getR (bs.drop s.pos)).1 ≤ hi then ((getR (bs.drop s.pos)).1, ⟨s.pos + (getR (bs.drop s.pos)).2, 0⟩)
    else if (getR (bs.drop s.pos)).2 = 0 ∧ partL 0 0 (bs.drop s.pos) = true ∧ ab (bs.drop s.pos) = true then (lo, ⟨s.pos, 2⟩) else (lo, ⟨s.pos, 1⟩)
def txtQ (bs : List Nat) (c : Nat) (s : Rd) : List Nat × Rd :=
  if s.err ≠ 0 then ([], s) else if bs.length - s.pos < c then ([], ⟨s.pos, 2⟩) else ((bs.drop s.pos).take c, ⟨s.pos + c, 0⟩)

theorem enc_small (n : Nat) (h : n < 256) : enc (2 * n) = if n < 64 then [2 * n] else [128 + n / 64, 2 * n % 128] := by
  unfold enc
  by_cases h1 : n < 64
  · rw [if_pos h1, show 2 * n / 128 = 0 by omega, tailB, if_pos rfl, show 2 * n % 128 = 2 * n by omega]
  · rw [if_neg h1, tailB, if_neg (by omega), show 2 * n / 128 / 128 = 0 by omega, tailB, if_pos rfl, show 128 + 2 * n / 128 % 128 = 128 + n / 64 by omega]
theorem ableN_nil (m : Nat) : ableN [] m = true := rfl
theorem ableN_one {x m : Nat} (hm : m < 256) : ableN [x] m = decide (129 ≤ x ∧ x ≤ 128 + m / 64) := by
  have h : ableN [x] m = (List.range (m + 1)).any fun n => decide ([x].length < (enc (2 * n)).length) && decide ((enc (2 * n)).take [x].length = [x]) := rfl
  rw [h, Bool.eq_iff_iff, List.any_eq_true, decide_eq_true_iff]
  constructor
  · rintro ⟨n, hn, he⟩
    rw [List.mem_range] at hn
    rw [enc_small n (by omega)] at he
    by_cases h64 : n < 64
    · rw [if_pos h64] at he; simp at he
    · rw [if_neg h64] at he
      simp at he
      omega
  · intro ⟨h1, h2⟩
    refine ⟨64 * (x - 128), List.mem_range.2 (by omega), ?_⟩
    rw [enc_small _ (by omega), if_neg (by omega)]
    simp
    omega
theorem ableN_two {x y m : Nat} {zs : List Nat} (hm : m < 256) : ableN (x :: y :: zs) m = false := by
  have h : ableN (x :: y :: zs) m = (List.range (m + 1)).any fun n => decide ((x :: y :: zs).length < (enc (2 * n)).length) && decide ((enc (2 * n)).take (x :: y :: zs).length = (x :: y :: zs)) := rfl
  rw [h, Bool.eq_false_iff]
  intro hc
  rw [List.any_eq_true] at hc
  obtain ⟨n, hn, he⟩ := hc
  rw [List.mem_range] at hn
  rw [enc_small n (by omega)] at he
  split at he
  · simp at he
  · simp at he
    omega
theorem beg_able {bs : List Nat} (hb : ∀ b ∈ bs, b < 256) {m : Nat} (hm : m < 256) : begL (2 * m / 128) 0 0 bs = (partL 0 0 bs && ableN bs m) := by
  rw [partL_beg _ _ _ (by decide)]
  match bs with
  | [] => simp [begL, ableN_nil]
  | [x] =>
    have hx := hb x List.mem_cons_self
    rw [ableN_one hm, Bool.eq_iff_iff, Bool.and_eq_true, decide_eq_true_iff]
    simp only [begL]
    by_cases h1 : x < 128 ∨ (True ∧ x = 128)
    · rw [if_pos h1, if_pos h1]; simp
    · have h1' : ¬ (x < 128 ∨ x = 128) := fun h => h1 (h.imp id fun h => ⟨trivial, h⟩)
      rw [if_neg h1, if_neg h1, if_neg (by omega : ¬ 144115188075855871 < 0 * 128 + x % 128)]
      by_cases h2 : 2 * m / 128 < 0 * 128 + x % 128
      · rw [if_pos h2]; simp; omega
      · rw [if_neg h2]; exact ⟨fun _ => ⟨rfl, by omega⟩, fun _ => rfl⟩
  | x :: y :: zs =>
    have hx := hb x List.mem_cons_self
    rw [ableN_two hm, Bool.and_false, begL]
    split
    · rfl
    · split
      · rfl
      · rw [begL]
        split
        · rfl
        · rw [if_pos (by omega)]

/-- Two readers that stand alike. -/
def SimQ (bs : List Nat) (s s' : Rd) : Prop := s.err = s'.err ∧ (s.err = 0 → s.pos = s'.pos) ∧ s.pos ≤ bs.length ∧ s.err < 3
theorem numQ_pos {bs : List Nat} {ab : List Nat → Bool} {lo hi : Int} {s : Rd} (h : s.pos ≤ bs.length) : (numQ bs ab lo hi s).2.pos ≤ bs.length := by
  have := (getR_bound (bs.drop s.pos)).1
  rw [List.length_drop] at this
  unfold numQ
  split
  · exact h
  · split
    · show s.pos + _ ≤ _; omega
    · split
      · exact h
      · exact h
theorem numQ_err {bs : List Nat} {ab : List Nat → Bool} {lo hi : Int} {s : Rd} (h : s.err < 3) : (numQ bs ab lo hi s).2.err < 3 := by
  unfold numQ
  split
  · exact h
  · split
    · show 0 < 3; decide
    · split
      · show 2 < 3; decide
      · show 1 < 3; decide
section
variable {bs : List Nat} {ab : List Nat → Bool} {lo hi : Int} {s : Rd} {most : Nat}
theorem numQ_e (h : s.err ≠ 0) : numQ bs ab lo hi s = (lo, s) := if_pos h
theorem numQ_ok (h : s.err = 0) (hk : 0 < (getR (bs.drop s.pos)).2) (h1 : lo ≤ (getR (bs.drop s.pos)).1) (h2 : (getR (bs.drop s.pos)).1 ≤ hi) : numQ bs ab lo hi s = ((getR (bs.drop s.pos)).1, ⟨s.pos + (getR (bs.drop s.pos)).2, 0⟩) := by
  unfold numQ
  rw [if_neg (fun h' => h' h), if_pos ⟨hk, h1, h2⟩]
theorem numQ_more (h : s.err = 0) (hk : (getR (bs.drop s.pos)).2 = 0) (h1 : partL 0 0 (bs.drop s.pos) = true) (h2 : ab (bs.drop s.pos) = true) : numQ bs ab lo hi s = (lo, ⟨s.pos, 2⟩) := by
  unfold numQ
  rw [if_neg (fun h' => h' h), if_neg (fun h' => by omega), if_pos ⟨hk, h1, h2⟩]
theorem numQ_bad (h : s.err = 0) (h1 : ¬ (0 < (getR (bs.drop s.pos)).2 ∧ lo ≤ (getR (bs.drop s.pos)).1 ∧ (getR (bs.drop s.pos)).1 ≤ hi)) (h2 : ¬ ((getR (bs.drop s.pos)).2 = 0 ∧ partL 0 0 (bs.drop s.pos) = true ∧ ab (bs.drop s.pos) = true)) : numQ bs ab lo hi s = (lo, ⟨s.pos, 1⟩) := by
  unfold numQ
  rw [if_neg (fun h' => h' h), if_neg h1, if_neg h2]
theorem numR_e (h : s.err ≠ 0) : numR bs most s = (0, s) := if_pos h
theorem numR_ok (h : s.err = 0) (hk : 0 < (getR (bs.drop s.pos)).2) (h1 : zigN (getR (bs.drop s.pos)).1 ≤ most) : numR bs most s = ((getR (bs.drop s.pos)).1, ⟨s.pos + (getR (bs.drop s.pos)).2, 0⟩) := by
  unfold numR
  rw [if_neg (fun h' => h' h), if_pos ⟨hk, h1⟩]
theorem numR_more (h : s.err = 0) (hk : (getR (bs.drop s.pos)).2 = 0) (h1 : begL (most / 128) 0 0 (bs.drop s.pos) = true) : numR bs most s = (0, ⟨s.pos, 2⟩) := by
  unfold numR
  rw [if_neg (fun h' => h' h), if_neg (fun h' => by omega), if_pos ⟨hk, h1⟩]
theorem numR_bad (h : s.err = 0) (h1 : ¬ (0 < (getR (bs.drop s.pos)).2 ∧ zigN (getR (bs.drop s.pos)).1 ≤ most)) (h2 : ¬ ((getR (bs.drop s.pos)).2 = 0 ∧ begL (most / 128) 0 0 (bs.drop s.pos) = true)) : numR bs most s = (0, ⟨s.pos, 1⟩) := by
  unfold numR
  rw [if_neg (fun h' => h' h), if_neg h1, if_neg h2]
end
theorem Rd.ext' {s s' : Rd} (h1 : s.err = s'.err) (h2 : s.pos = s'.pos) : s = s' := by
  cases s; cases s'; simp only at h1 h2; rw [h1, h2]
theorem numR_rel {bs : List Nat} {s s' : Rd} (h : SimQ bs s s') :
    SimQ bs (numQ bs (fun _ => true) (-9223372036854775808) 9223372036854775807 s).2 (numR bs 18446744073709551615 s').2 ∧
    ((numQ bs (fun _ => true) (-9223372036854775808) 9223372036854775807 s).2.err = 0 → (numQ bs (fun _ => true) (-9223372036854775808) 9223372036854775807 s).1 = (numR bs 18446744073709551615 s').1) := by
  obtain ⟨h1, h2, h3, h4⟩ := h
  have hp := numQ_pos (bs := bs) (ab := fun _ => true) (lo := -9223372036854775808) (hi := 9223372036854775807) h3
  have he := numQ_err (bs := bs) (ab := fun _ => true) (lo := -9223372036854775808) (hi := 9223372036854775807) h4
  unfold SimQ
  by_cases e : s.err = 0
  · obtain rfl := Rd.ext' h1 (h2 e)
    have hr := getR_range (bs.drop s.pos)
    have hz := zigN_lt hr.1 hr.2
    by_cases hk : 0 < (getR (bs.drop s.pos)).2
    · rw [numQ_ok e hk hr.1 hr.2] at hp he ⊢
      rw [numR_ok e hk (by omega)]
      exact ⟨⟨rfl, fun _ => rfl, hp, he⟩, fun _ => rfl⟩
    · have hb0 := partL_beg (bs.drop s.pos) 0 0 (by decide)
      by_cases hb : partL 0 0 (bs.drop s.pos) = true
      · rw [numQ_more e (by omega) hb rfl] at hp he ⊢
        rw [numR_more e (by omega) (hb0.symm.trans hb)]
        exact ⟨⟨rfl, fun _ => rfl, hp, he⟩, fun h => by cases h⟩
      · rw [numQ_bad e (fun h => hk h.1) (fun h => hb h.2.1)] at hp he ⊢
        rw [numR_bad e (fun h => hk h.1) (fun h => hb (hb0.trans h.2))]
        exact ⟨⟨rfl, fun _ => rfl, hp, he⟩, fun h => by cases h⟩
  · rw [numQ_e e] at hp he ⊢
    rw [numR_e (by omega)]
    exact ⟨⟨h1, h2, hp, he⟩, fun h => absurd h e⟩
theorem cntR_rel {bs : List Nat} (hb : ∀ b ∈ bs, b < 256) {s s' : Rd} (h : SimQ bs s s') {m : Nat} (hm : m < 256) :
    SimQ bs (numQ bs (fun b => ableN b m) 0 (m : Int) s).2 (cntR bs m s').2 ∧ (numQ bs (fun b => ableN b m) 0 (m : Int) s).1 = (cntR bs m s').1 := by
  obtain ⟨h1, h2, h3, h4⟩ := h
  have hp := numQ_pos (bs := bs) (ab := fun b => ableN b m) (lo := 0) (hi := (m : Int)) h3
  have he := numQ_err (bs := bs) (ab := fun b => ableN b m) (lo := 0) (hi := (m : Int)) h4
  have hd : ∀ b ∈ bs.drop s.pos, b < 256 := fun b h => hb b (List.mem_of_mem_drop h)
  have hC : cntR bs m s' = if (numR bs (2 * m) s').1 < 0 then (0, ⟨(numR bs (2 * m) s').2.pos, 1⟩) else numR bs (2 * m) s' := rfl
  have hz : ∀ x : Int, zigN x ≤ 2 * m ↔ (-(m : Int) ≤ x ∧ x ≤ m) := fun x => by
    unfold zigN
    split <;> omega
  unfold SimQ
  by_cases e : s.err = 0
  · obtain rfl := Rd.ext' h1 (h2 e)
    by_cases hk : 0 < (getR (bs.drop s.pos)).2
    · by_cases hx : 0 ≤ (getR (bs.drop s.pos)).1 ∧ (getR (bs.drop s.pos)).1 ≤ m
      · rw [numR_ok e hk ((hz _).2 (by omega)), if_neg (by simp only; omega)] at hC
        rw [numQ_ok e hk hx.1 hx.2] at hp he ⊢
        rw [hC]
        exact ⟨⟨rfl, fun _ => rfl, hp, he⟩, rfl⟩
      · rw [numQ_bad e (fun h => hx h.2) (fun h => by have := h.1; omega)] at hp he ⊢
        by_cases hx2 : zigN (getR (bs.drop s.pos)).1 ≤ 2 * m
        · rw [numR_ok e hk hx2, if_pos (by have := (hz _).1 hx2; simp only; omega)] at hC
          rw [hC]
          exact ⟨⟨rfl, fun h => (by cases h), hp, he⟩, rfl⟩
        · rw [numR_bad e (fun h => hx2 h.2) (fun h => by have := h.1; omega), if_neg (by simp)] at hC
          rw [hC]
          exact ⟨⟨rfl, fun h => (by cases h), hp, he⟩, rfl⟩
    · have hb0 := beg_able hd hm
      by_cases hq : partL 0 0 (bs.drop s.pos) = true ∧ ableN (bs.drop s.pos) m = true
      · rw [numQ_more e (by omega) hq.1 hq.2] at hp he ⊢
        rw [numR_more e (by omega) (by rw [hb0, hq.1, hq.2]; rfl), if_neg (by simp)] at hC
        rw [hC]
        exact ⟨⟨rfl, fun _ => rfl, hp, he⟩, rfl⟩
      · rw [numQ_bad e (fun h => hk h.1) (fun h => hq h.2)] at hp he ⊢
        rw [numR_bad e (fun h => hk h.1) (fun h => hq (by have := h.2; rw [hb0, Bool.and_eq_true] at this; exact this)), if_neg (by simp)] at hC
        rw [hC]
        exact ⟨⟨rfl, fun _ => rfl, hp, he⟩, rfl⟩
  · rw [numQ_e e] at hp he ⊢
    rw [numR_e (by omega), if_neg (by simp)] at hC
    rw [hC]
    exact ⟨⟨h1, h2, hp, he⟩, rfl⟩
theorem txtR_rel {bs : List Nat} {t s' : Rd} (h : SimQ bs t (cntR bs 200 s').2) {c : Nat} (h5 : (c : Int) = (cntR bs 200 s').1) :
    SimQ bs (txtQ bs c t).2 (txtR bs s').2 ∧ (txtQ bs c t).1 = (txtR bs s').1 := by
  obtain ⟨h1, h2, h3, h4⟩ := h
  have hT : txtR bs s' = if (cntR bs 200 s').2.err ≠ 0 then ([], (cntR bs 200 s').2)
    else if bs.length - (cntR bs 200 s').2.pos < (cntR bs 200 s').1.toNat then ([], ⟨(cntR bs 200 s').2.pos, 2⟩)
    else ((bs.drop (cntR bs 200 s').2.pos).take (cntR bs 200 s').1.toNat, ⟨(cntR bs 200 s').2.pos + (cntR bs 200 s').1.toNat, 0⟩) := rfl
  generalize cntR bs 200 s' = t' at *
  have hQ : txtQ bs c t = if t.err ≠ 0 then ([], t) else if bs.length - t.pos < c then ([], ⟨t.pos, 2⟩) else ((bs.drop t.pos).take c, ⟨t.pos + c, 0⟩) := rfl
  rw [← h5, Int.toNat_natCast] at hT
  unfold SimQ
  by_cases he : t.err = 0
  · rw [if_neg (fun h => h he)] at hQ
    rw [if_neg (fun h => h (by omega)), ← h2 he] at hT
    by_cases hl : bs.length - t.pos < c
    · rw [if_pos hl] at hQ hT
      rw [hQ, hT]
      exact ⟨⟨rfl, fun _ => rfl, h3, by show 2 < 3; decide⟩, rfl⟩
    · rw [if_neg hl] at hQ hT
      rw [hQ, hT]
      exact ⟨⟨rfl, fun _ => rfl, by show _ + _ ≤ _; omega, by show 0 < 3; decide⟩, rfl⟩
  · rw [if_pos he] at hQ
    rw [if_pos (by omega)] at hT
    rw [hQ, hT]
    exact ⟨⟨h1, h2, h3, h4⟩, rfl⟩
theorem cntR_e {bs : List Nat} {m : Nat} {s : Rd} (h : s.err ≠ 0) : cntR bs m s = (0, s) := by
  unfold cntR
  rw [numR_e h, if_neg (by simp)]
theorem numsR_stick (bs : List Nat) {s : Rd} {i : Nat} (h : (numsR bs i s).2.err ≠ 0) : ∀ j, (numsR bs (i + j) s).2.err = (numsR bs i s).2.err
  | 0 => rfl
  | j + 1 => by
    have ih := numsR_stick bs h j
    rw [← Nat.add_assoc, numsR_succ]
    simp only
    unfold numR
    rw [if_pos (by rw [ih]; exact h)]
    exact ih
theorem txtsR_stick (bs : List Nat) {s : Rd} {i : Nat} (h : (txtsR bs i s).2.err ≠ 0) : ∀ j, (txtsR bs (i + j) s).2.err = (txtsR bs i s).2.err
  | 0 => rfl
  | j + 1 => by
    have ih := txtsR_stick bs h j
    have hn : numR bs (2 * 200) (txtsR bs (i + j) s).2 = (0, (txtsR bs (i + j) s).2) := by
      unfold numR
      rw [if_pos (by rw [ih]; exact h)]
    have hc : cntR bs 200 (txtsR bs (i + j) s).2 = (0, (txtsR bs (i + j) s).2) := by
      unfold cntR
      rw [hn, if_neg (by simp)]
    rw [← Nat.add_assoc, txtsR_succ]
    simp only
    unfold txtR
    rw [hc, if_pos (by rw [ih]; exact h)]
    exact ih
end Go.AM.St
namespace Go.AM.St
open Go Go.AM

theorem hi_high : ∀ (n u : Nat), ∀ b ∈ hi n u, 128 ≤ b
  | 0, _, b, h => by cases h
  | n + 1, u, b, h => by
    rw [hi_succ] at h
    split at h
    · cases h
    · rcases List.mem_append.1 h with h | h
      · exact hi_high n _ b h
      · rw [List.mem_singleton] at h; omega
theorem getL_high : ∀ (xs : List Nat) (i u : Nat), (∀ b ∈ xs, 128 ≤ b) → getL i u xs = none
  | [], _, _, _ => rfl
  | x :: xs, i, u, h => by
    rw [getL]
    split
    · rfl
    · rw [if_neg (by have := h x List.mem_cons_self; omega)]
      exact getL_high xs _ _ fun b hb => h b (List.mem_cons_of_mem _ hb)
theorem begL_pre {M : Nat} : ∀ (xs ys : List Nat) (i u : Nat), begL M i u (xs ++ ys) = true → begL M i u xs = true
  | [], _, _, _, _ => rfl
  | x :: xs, ys, i, u, h => by
    rw [List.cons_append, begL] at h
    rw [begL]
    split at h
    · cases h
    · rename_i h1
      rw [if_neg h1]
      split at h
      · cases h
      · rename_i h2
        rw [if_neg h2]
        exact begL_pre xs ys _ _ h
theorem begL_hi {M : Nat} : ∀ (n u : Nat), u < 128 ^ n → u ≤ M → ∀ rest : List Nat, begL M 0 0 (hi n u ++ rest) = if u = 0 then begL M 0 0 rest else begL M (hi n u).length u rest
  | 0, u, h, _, rest => by
    obtain rfl : u = 0 := by simpa using h
    rfl
  | n + 1, u, h, hm, rest => by
    rw [hi_succ]
    by_cases h0 : u = 0
    · rw [if_pos h0, if_pos h0]; rfl
    · rw [if_neg h0, if_neg h0, List.append_assoc, begL_hi n (u / 128) (by rw [Nat.pow_succ] at h; omega) (by omega)]
      by_cases hq : u / 128 = 0
      · rw [if_pos hq, hq, hi_zero, List.singleton_append, begL, if_neg (by omega), if_neg (by omega)]
        rw [show 0 * 128 + (128 + u % 128) % 128 = u by omega]
        rfl
      · have hn0 : ¬ (hi n (u / 128)).length = 0 := by
          intro hz
          cases n with
          | zero => rw [Nat.pow_succ, Nat.pow_zero] at h; omega
          | succ n => rw [hi_succ, if_neg hq] at hz; simp at hz
        rw [if_neg hq, List.singleton_append, begL, if_neg (by omega), if_neg (by omega)]
        rw [show u / 128 * 128 + (128 + u % 128) % 128 = u by omega, List.length_append]
        rfl
theorem enc_cut {u j M : Nat} (hu : u < 18446744073709551616) (hj : j < (enc u).length) (hM : u ≤ M) : getR ((enc u).take j) = (0, 0) ∧ begL (M / 128) 0 0 ((enc u).take j) = true := by
  rw [enc_eq] at hj ⊢
  rw [List.length_append, List.length_singleton] at hj
  rw [List.take_append_of_le_length (by omega)]
  constructor
  · unfold getR getN
    rw [getL_high _ _ _ fun b hb => hi_high _ _ b (List.mem_of_mem_take (List.mem_of_mem_take hb))]
  · have h := begL_hi (M := M / 128) 10 (u / 128) (by omega) (by omega) []
    rw [List.append_nil] at h
    have h1 : begL (M / 128) 0 0 (hi 10 (u / 128)) = true := by
      rw [h]
      split
      · rfl
      · rfl
    rw [← List.take_append_drop j (hi 10 (u / 128))] at h1
    exact begL_pre _ _ _ _ h1

/-- A reader of bytes that were cut: it stands where it would, or it wants more. -/
def QS (k pos : Nat) (s : Rd) : Prop := (pos ≤ k ∧ s = ⟨pos, 0⟩) ∨ (k < pos ∧ s.err = 2)
theorem QS.later {k p q : Nat} {s s' : Rd} (h : QS k p s) (hp : k < p) (hq : p ≤ q) (he : s.err = 2 → s'.err = 2) : QS k q s' := by
  rcases h with ⟨h, _⟩ | ⟨_, h⟩
  · omega
  · exact .inr ⟨by omega, he h⟩
theorem numR_q {W pre rest : List Nat} {x : Int} {most k : Nat} {s : Rd} (h1 : -9223372036854775808 ≤ x) (h2 : x ≤ 9223372036854775807) (hm : zigN x ≤ most) (hW : W = pre ++ (enc (zigN x) ++ rest)) (hs : QS k pre.length s) :
    QS k (pre ++ enc (zigN x)).length (numR (W.take k) most s).2 ∧ (numR (W.take k) most s).1 = if (pre ++ enc (zigN x)).length ≤ k then x else 0 := by
  rcases hs with ⟨hk, rfl⟩ | ⟨hk, he⟩
  · by_cases hl : (pre ++ enc (zigN x)).length ≤ k
    · have hb : W.take k = pre ++ (enc (zigN x) ++ rest.take (k - (pre ++ enc (zigN x)).length)) := by
        rw [hW, ← List.append_assoc, List.take_append, List.take_of_length_le hl, List.append_assoc]
      rw [numR_at h1 h2 hm hb, if_pos hl]
      exact ⟨.inl ⟨hl, rfl⟩, rfl⟩
    · have hj : k - pre.length < (enc (zigN x)).length := by rw [List.length_append] at hl; omega
      have hb : (W.take k).drop pre.length = (enc (zigN x)).take (k - pre.length) := by
        rw [List.drop_take, hW, List.drop_left, List.take_append_of_le_length (by omega)]
      have hc := enc_cut (zigN_lt h1 h2) hj hm
      rw [← hb] at hc
      rw [numR_more rfl (by rw [hc.1]) hc.2, if_neg hl]
      exact ⟨.inr ⟨by omega, rfl⟩, rfl⟩
  · have hlt : k < (pre ++ enc (zigN x)).length := by rw [List.length_append]; omega
    rw [numR_e (by omega), if_neg (by omega)]
    exact ⟨.inr ⟨hlt, he⟩, rfl⟩
theorem cntR_q {W pre rest : List Nat} {c m k : Nat} {s : Rd} (hc : c ≤ m) (hm : m ≤ 1000) (hW : W = pre ++ (enc (zigN (c : Int)) ++ rest)) (hs : QS k pre.length s) :
    QS k (pre ++ enc (zigN (c : Int))).length (cntR (W.take k) m s).2 ∧ (cntR (W.take k) m s).1 = if (pre ++ enc (zigN (c : Int))).length ≤ k then (c : Int) else 0 := by
  have h := numR_q (most := 2 * m) (k := k) (x := (c : Int)) (by omega) (by omega) (by rw [zigN_nat]; omega) hW hs
  unfold cntR
  rw [if_neg (by rw [h.2]; split <;> omega)]
  exact h
theorem numsR_q {W : List Nat} {k : Nat} : ∀ (xs : List Int) (pre rest : List Nat) (s : Rd), (∀ x ∈ xs, -9223372036854775808 ≤ x ∧ x ≤ 9223372036854775807) → W = pre ++ (encI xs ++ rest) → QS k pre.length s →
    QS k (pre ++ encI xs).length (numsR (W.take k) xs.length s).2
  | [], pre, rest, s, _, _, hs => by rw [encI, List.append_nil]; exact hs
  | x :: xs, pre, rest, s, hx, hW, hs => by
    have h := hx x List.mem_cons_self
    have h1 := numR_q (W := W) (most := 18446744073709551615) (rest := encI xs ++ rest) h.1 h.2 (by have := zigN_lt h.1 h.2; omega) (by rw [hW, encI, List.append_assoc]) hs
    have h2 := numsR_q (W := W) xs (pre ++ enc (zigN x)) rest _ (fun y hy => hx y (List.mem_cons_of_mem _ hy)) (by rw [hW, encI]; simp only [List.append_assoc]) h1.1
    rw [List.length_cons, numsR, encI, ← List.append_assoc]
    exact h2
theorem txtR_q {W pre rest t : List Nat} {k : Nat} {s : Rd} (ht : t.length ≤ 200) (hW : W = pre ++ (enc (zigN (t.length : Int)) ++ t ++ rest)) (hs : QS k pre.length s) :
    QS k (pre ++ (enc (zigN (t.length : Int)) ++ t)).length (txtR (W.take k) s).2 := by
  have h1 := cntR_q (W := W) (pre := pre) (rest := t ++ rest) (k := k) ht (by decide) (by rw [hW, List.append_assoc]) hs
  have hT : txtR (W.take k) s = if (cntR (W.take k) 200 s).2.err ≠ 0 then ([], (cntR (W.take k) 200 s).2)
    else if (W.take k).length - (cntR (W.take k) 200 s).2.pos < (cntR (W.take k) 200 s).1.toNat then ([], ⟨(cntR (W.take k) 200 s).2.pos, 2⟩)
    else (((W.take k).drop (cntR (W.take k) 200 s).2.pos).take (cntR (W.take k) 200 s).1.toNat, ⟨(cntR (W.take k) 200 s).2.pos + (cntR (W.take k) 200 s).1.toNat, 0⟩) := rfl
  have hlW : (pre ++ (enc (zigN (t.length : Int)) ++ t)).length ≤ W.length := by rw [hW]; simp only [List.length_append]; omega
  rw [← List.append_assoc, List.length_append] at hlW ⊢
  generalize cntR (W.take k) 200 s = c at h1 hT
  obtain ⟨h1, h2⟩ := h1
  rcases h1 with ⟨hk, he⟩ | ⟨hk, he⟩
  · rw [if_pos hk] at h2
    rw [he, h2, if_neg (by simp), Int.toNat_natCast] at hT
    simp only at hT
    have hlen : (W.take k).length = min k W.length := List.length_take
    by_cases hl : (W.take k).length - (pre ++ enc (zigN (t.length : Int))).length < t.length
    · rw [if_pos hl] at hT
      rw [hT]
      exact .inr ⟨by omega, rfl⟩
    · rw [if_neg hl] at hT
      rw [hT]
      exact .inl ⟨by omega, rfl⟩
  · rw [if_pos (by omega)] at hT
    rw [hT]
    exact .inr ⟨by omega, he⟩
theorem txtsR_q {W : List Nat} {k : Nat} : ∀ (ts : List (List Nat)) (pre rest : List Nat) (s : Rd), (∀ t ∈ ts, t.length ≤ 200) → W = pre ++ (encT ts ++ rest) → QS k pre.length s →
    QS k (pre ++ encT ts).length (txtsR (W.take k) ts.length s).2
  | [], pre, rest, s, _, _, hs => by rw [encT, List.append_nil]; exact hs
  | t :: ts, pre, rest, s, hx, hW, hs => by
    have h1 := txtR_q (W := W) (k := k) (rest := encT ts ++ rest) (hx t List.mem_cons_self) (by rw [hW, encT]; simp only [List.append_assoc]) hs
    have h2 := txtsR_q (W := W) ts (pre ++ (enc (zigN (t.length : Int)) ++ t)) rest _ (fun y hy => hx y (List.mem_cons_of_mem _ hy)) (by rw [hW, encT]; simp only [List.append_assoc]) h1
    rw [List.length_cons, txtsR, encT]
    simp only [List.append_assoc] at h2 ⊢
    exact h2
theorem recGet_cut {r : RecP} (hm : mayR r = true) (hn : ∀ x ∈ r.nums, -9223372036854775808 ≤ x ∧ x ≤ 9223372036854775807) {k : Nat} (hk : k < (putR r).length) : recGet ((putR r).take k) = (⟨0, [], []⟩, 0, 2) := by
  obtain ⟨⟨m1, m2⟩, m3, m4, m5⟩ := may_iff.1 hm
  obtain ⟨c, hc⟩ : ∃ c : Nat, r.kind = (c : Int) := ⟨r.kind.toNat, by omega⟩
  have e0 : putR r = [] ++ (enc (zigN (c : Int)) ++ (enc (zigN (r.nums.length : Int)) ++ encI r.nums ++ enc (zigN (r.texts.length : Int)) ++ encT r.texts)) := by
    unfold putR; rw [hc]; simp only [List.append_assoc, List.nil_append]
  have h1 := cntR_q (m := 255) (k := k) (s := ⟨0, 0⟩) (by omega) (by decide) e0 (.inl ⟨Nat.zero_le _, rfl⟩)
  have e1 : putR r = ([] ++ enc (zigN (c : Int))) ++ (enc (zigN (r.nums.length : Int)) ++ (encI r.nums ++ enc (zigN (r.texts.length : Int)) ++ encT r.texts)) := by
    rw [e0]; simp only [List.append_assoc, List.nil_append]
  have h2 := cntR_q (m := 40) m3 (by decide) e1 h1.1
  have e2 : putR r = ([] ++ enc (zigN (c : Int)) ++ enc (zigN (r.nums.length : Int))) ++ (encI r.nums ++ (enc (zigN (r.texts.length : Int)) ++ encT r.texts)) := by
    rw [e0]; simp only [List.append_assoc, List.nil_append]
  have hG : recGet ((putR r).take k) = recGetG ((putR r).take k) (cntR ((putR r).take k) 255 ⟨0, 0⟩) (cntR ((putR r).take k) 40 (cntR ((putR r).take k) 255 ⟨0, 0⟩).2) := rfl
  generalize cntR ((putR r).take k) 255 ⟨0, 0⟩ = c1 at hG h2
  generalize cntR ((putR r).take k) 40 c1.2 = c2 at hG h2
  have h3 : QS k ([] ++ enc (zigN (c : Int)) ++ enc (zigN (r.nums.length : Int)) ++ encI r.nums).length (numsR ((putR r).take k) c2.1.toNat c2.2).2 := by
    by_cases hp : ([] ++ enc (zigN (c : Int)) ++ enc (zigN (r.nums.length : Int))).length ≤ k
    · rw [h2.2, if_pos hp, Int.toNat_natCast]
      exact numsR_q _ _ _ _ hn e2 h2.1
    · refine h2.1.later (by omega) (by rw [List.length_append (bs := encI r.nums)]; omega) fun h => ?_
      have := numsR_stick ((putR r).take k) (i := 0) (s := c2.2) (by show c2.2.err ≠ 0; omega) c2.1.toNat
      rw [Nat.zero_add] at this
      rw [this]; exact h
  have hG : recGet ((putR r).take k) = recGetI ((putR r).take k) c1 (numsR ((putR r).take k) c2.1.toNat c2.2) (cntR ((putR r).take k) 40 (numsR ((putR r).take k) c2.1.toNat c2.2).2) := hG
  generalize numsR ((putR r).take k) c2.1.toNat c2.2 = ns at hG h3
  have e3 : putR r = ([] ++ enc (zigN (c : Int)) ++ enc (zigN (r.nums.length : Int)) ++ encI r.nums) ++ (enc (zigN (r.texts.length : Int)) ++ encT r.texts) := by
    rw [e0]; simp only [List.append_assoc, List.nil_append]
  have h4 := cntR_q (m := 40) m4 (by decide) e3 h3
  have e4 : putR r = ([] ++ enc (zigN (c : Int)) ++ enc (zigN (r.nums.length : Int)) ++ encI r.nums ++ enc (zigN (r.texts.length : Int))) ++ (encT r.texts ++ []) := by
    rw [e0]; simp only [List.append_assoc, List.nil_append, List.append_nil]
  generalize cntR ((putR r).take k) 40 ns.2 = c3 at hG h4
  have h5 : QS k ([] ++ enc (zigN (c : Int)) ++ enc (zigN (r.nums.length : Int)) ++ encI r.nums ++ enc (zigN (r.texts.length : Int)) ++ encT r.texts).length (txtsR ((putR r).take k) c3.1.toNat c3.2).2 := by
    by_cases hp : ([] ++ enc (zigN (c : Int)) ++ enc (zigN (r.nums.length : Int)) ++ encI r.nums ++ enc (zigN (r.texts.length : Int))).length ≤ k
    · rw [h4.2, if_pos hp, Int.toNat_natCast]
      exact txtsR_q _ _ _ _ m5 e4 h4.1
    · refine h4.1.later (by omega) (by rw [List.length_append (bs := encT r.texts)]; omega) fun h => ?_
      have := txtsR_stick ((putR r).take k) (i := 0) (s := c3.2) (by show c3.2.err ≠ 0; omega) c3.1.toNat
      rw [Nat.zero_add] at this
      rw [this]; exact h
  have hG : recGet ((putR r).take k) = recGetJ c1 ns (txtsR ((putR r).take k) c3.1.toNat c3.2) := hG
  generalize txtsR ((putR r).take k) c3.1.toNat c3.2 = ts at hG h5
  have hlen : ([] ++ enc (zigN (c : Int)) ++ enc (zigN (r.nums.length : Int)) ++ encI r.nums ++ enc (zigN (r.texts.length : Int)) ++ encT r.texts).length = (putR r).length := by
    rw [e4, List.append_nil, List.length_append (bs := encT r.texts)]
  rw [hlen] at h5
  rcases h5 with ⟨h, _⟩ | ⟨_, h⟩
  · omega
  · rw [hG, recGetJ, if_pos (by omega), h]
end Go.AM.St
namespace Go.AM.St
open Go Go.AM

/-- A record that may be, of numbers that are numbers. -/
def Fine (r : RecP) : Prop := mayR r = true ∧ ∀ x ∈ r.nums, -9223372036854775808 ≤ x ∧ x ≤ 9223372036854775807

theorem take_head {A B C : List Nat} {a b : Nat} (hA : A.length = a) (hB : B.length = b) : ((A ++ B ++ C).take a = A) ∧ ((A ++ B ++ C).take (a + b)).drop a = B ∧ (A ++ B ++ C).drop (a + b) = C := by
  subst hA hB
  refine ⟨?_, ?_, ?_⟩
  · rw [List.append_assoc, List.take_left]
  · rw [← List.length_append, List.take_left, List.drop_left]
  · rw [← List.length_append, List.drop_left]
theorem putF_split (r : RecP) (rest : List Nat) : putF r ++ rest = fixL (putR r).length 2 ++ fixL (markN 1 (putR r)) 4 ++ (putR r ++ rest) := by
  unfold putF; simp only [List.append_assoc]
theorem putF_length (r : RecP) : (putF r).length = 6 + (putR r).length := by
  unfold putF; simp only [List.length_append, fixL_len]
theorem unfix2_put {u : Nat} (h : u < 65536) : unfix (fixL u 2) = u := by
  unfold unfix
  rw [List.take_of_length_le (by rw [fixL_len]; decide), unfix_fix]
  exact Nat.mod_eq_of_lt h
theorem unfix4_put {u : Nat} (h : u < 4294967296) : unfix (fixL u 4) = u := by
  unfold unfix
  rw [List.take_of_length_le (by rw [fixL_len]; decide), unfix_fix]
  exact Nat.mod_eq_of_lt h
theorem getFN_put {r : RecP} (h : mayR r = true) {l : List Nat} (hl : l.take 2 = fixL (putR r).length 2) : getFN l = (putF r).length := by
  have := putR_len h
  unfold getFN
  rw [hl, unfix2_put (by omega), putF_length]
theorem getF_put {r : RecP} (h : Fine r) (rest : List Nat) : getF (putF r ++ rest) = (r, (putF r).length, 0) := by
  obtain ⟨hm, hn⟩ := h
  have hl := putF_length r
  have hs := take_head (A := fixL (putR r).length 2) (B := fixL (markN 1 (putR r)) 4) (C := putR r ++ rest) (fixL_len _ _) (fixL_len _ _)
  rw [← putF_split] at hs
  obtain ⟨h1, h2, h3⟩ := hs
  have hN := getFN_put hm h1
  have hB : getFB (putF r ++ rest) = putR r := by
    unfold getFB
    rw [hN, List.take_left]
    have := (take_head (A := fixL (putR r).length 2) (B := fixL (markN 1 (putR r)) 4) (C := putR r ++ []) (fixL_len _ _) (fixL_len _ _)).2.2
    rw [← putF_split, List.append_nil, List.append_nil] at this
    exact this
  have hg := recGet_put hm hn []
  rw [List.append_nil] at hg
  have hml := markN_lt 1 (putR r)
  unfold getF
  rw [if_neg (by rw [List.length_append]; omega), if_neg (by rw [hN, List.length_append]; omega), if_neg, hB, hg, hN]
  unfold getFbad
  rw [hB, hg, hN, h2, unfix4_put (by omega)]
  simp only
  omega
theorem getF_cut {r : RecP} (h : mayR r = true) {k : Nat} (hk : k < (putF r).length) : (getF ((putF r).take k)).2.2 ≠ 0 := by
  have hlen : ((putF r).take k).length = k := by rw [List.length_take]; omega
  unfold getF
  by_cases h6 : k < 6
  · rw [if_pos (by omega)]; decide
  · rw [if_neg (by omega)]
    have h2 : ((putF r).take k).take 2 = fixL (putR r).length 2 := by
      rw [List.take_take, Nat.min_eq_left (by omega)]
      have := (take_head (A := fixL (putR r).length 2) (B := fixL (markN 1 (putR r)) 4) (C := putR r ++ []) (fixL_len _ _) (fixL_len _ _)).1
      rw [← putF_split, List.append_nil] at this
      exact this
    rw [getFN_put h h2, if_pos (by omega)]; decide
def encFr : List RecP → List Nat
  | [] => []
  | r :: l => putF r ++ encFr l
theorem encFr_app : ∀ (a b : List RecP), encFr (a ++ b) = encFr a ++ encFr b
  | [], b => rfl
  | r :: l, b => by rw [List.cons_append, encFr, encFr, encFr_app l b, List.append_assoc]
theorem encFr_snoc (l : List RecP) (r : RecP) : encFr (l ++ [r]) = encFr l ++ putF r := by
  rw [encFr_app]; simp [encFr]
theorem encFr_lt : ∀ (l : List RecP), (∀ r ∈ l, ∀ t ∈ r.texts, ∀ b ∈ t, b < 256) → ∀ b ∈ encFr l, b < 256
  | [], _, b, h => by cases h
  | r :: l, hl, b, h => (List.mem_append.1 h).elim (putF_lt (hl r List.mem_cons_self) b) (encFr_lt l (fun x hx => hl x (List.mem_cons_of_mem _ hx)) b)
theorem scanL_cut : ∀ (j : Nat) (W : List RecP) (c m : Nat), (∀ r ∈ W, Fine r) → j ≤ W.length → (encFr (W.take j)).length ≤ c → (j < W.length → c < (encFr (W.take (j + 1))).length) → c < m →
    scanL m ((encFr W).take c) = (W.take j, (encFr (W.take j)).length)
  | _, _, _, 0, _, _, _, _, h => absurd h (Nat.not_lt_zero _)
  | 0, W, c, m + 1, hW, _, _, h2, _ => by
    have he : (getF ((encFr W).take c)).2.2 ≠ 0 := by
      cases W with
      | nil => rw [encFr, List.take_nil]; decide
      | cons r l =>
        have h3 := h2 (Nat.zero_lt_succ _)
        rw [List.take_succ_cons, List.take_zero, encFr, encFr, List.append_nil] at h3
        rw [encFr, List.take_append_of_le_length (by omega)]
        exact getF_cut (hW r List.mem_cons_self).1 h3
    rw [scanL, if_pos he, List.take_zero]; rfl
  | j + 1, [], c, m + 1, _, h1, _, _, _ => by cases h1
  | j + 1, r :: l, c, m + 1, hW, h1, h2, h3, h4 => by
    rw [List.take_succ_cons, encFr, List.length_append] at h2
    have hpos := putF_length r
    have hsplit : (encFr (r :: l)).take c = putF r ++ (encFr l).take (c - (putF r).length) := by
      rw [encFr, List.take_append, List.take_of_length_le (by omega)]
    have ih := scanL_cut j l (c - (putF r).length) m (fun x hx => hW x (List.mem_cons_of_mem _ hx)) (by simpa using h1) (by omega)
      (fun h => by
        have := h3 (by simpa using h)
        rw [List.take_succ_cons, encFr, List.length_append] at this
        omega) (by omega)
    rw [hsplit, scanL, getF_put (hW r List.mem_cons_self), if_neg (by simp)]
    simp only
    rw [List.drop_left, ih, List.take_succ_cons, encFr, List.length_append]
theorem scanF_cut {W : List RecP} {c j : Nat} (hW : ∀ r ∈ W, Fine r) (h1 : j ≤ W.length) (h2 : (encFr (W.take j)).length ≤ c) (h3 : j < W.length → c < (encFr (W.take (j + 1))).length) (hc : c ≤ (encFr W).length) :
    scanF ((encFr W).take c) = (W.take j, (encFr (W.take j)).length) := by
  unfold scanF
  exact scanL_cut j W c _ hW h1 h2 h3 (by rw [List.length_take]; omega)
theorem scanF_all {W : List RecP} (hW : ∀ r ∈ W, Fine r) : scanF (encFr W) = (W, (encFr W).length) := by
  have := scanF_cut (c := (encFr W).length) (j := W.length) hW (Nat.le_refl _) (by rw [List.take_length]; exact Nat.le_refl _) (fun h => absurd h (Nat.lt_irrefl _)) (Nat.le_refl _)
  rw [List.take_length, List.take_length] at this
  exact this
/-- Where the frames end. -/
def endsR (W : List RecP) : List Int := (List.range W.length).map fun k => ((encFr (W.take (k + 1))).length : Int)
theorem endsR_len (W : List RecP) : (endsR W).length = W.length := by simp [endsR]
theorem endsR_at {W : List RecP} {k : Nat} (h : k < (endsR W).length) : (endsR W)[k] = ((encFr (W.take (k + 1))).length : Int) := by simp [endsR]
theorem endsR_snoc (W : List RecP) (r : RecP) : endsR (W ++ [r]) = endsR W ++ [((encFr (W ++ [r])).length : Int)] := by
  unfold endsR
  rw [List.length_append, List.length_singleton, List.range_succ, List.map_append]
  congr 1
  · refine List.map_congr_left fun k hk => ?_
    have := List.mem_range.1 hk
    rw [List.take_append_of_le_length (by omega)]
  · simp [List.take_of_length_le]
end Go.AM.St
