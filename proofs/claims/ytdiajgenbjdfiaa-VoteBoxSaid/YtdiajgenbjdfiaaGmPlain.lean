/- Numbers as bytes: plain. Records as bytes: plain. Reading records: plain. What was written as a record is read. -/
import Derived.Test.YtdiajgenbjdfiaaGmStep
namespace Go.AM.St
open Go Go.AM

/-- Zig. -/
def zigN (x : Int) : Nat := if x < 0 then (-(2 * x) - 1).toNat else (2 * x).toNat
/-- Zag. -/
def zagI (u : Nat) : Int := if u % 2 = 1 then -((u / 2 : Nat) : Int) - 1 else ((u / 2 : Nat) : Int)
theorem zag_zig (x : Int) : zagI (zigN x) = x := by
  unfold zagI zigN
  split <;> split <;> omega
theorem zigN_lt {x : Int} (h1 : -9223372036854775808 ≤ x) (h2 : x ≤ 9223372036854775807) : zigN x < 18446744073709551616 := by
  unfold zigN
  split <;> omega

/-- The bytes ahead of those that stand already. -/
def tailB : Nat → Nat → List Nat → List Nat
  | 0, _, acc => acc
  | n + 1, u, acc => if u = 0 then acc else tailB n (u / 128) ((128 + u % 128) :: acc)
/-- A number's bytes. -/
def enc (u : Nat) : List Nat := tailB 10 (u / 128) [u % 128]

theorem tailB_more : ∀ (n u : Nat) (acc : List Nat), u < 128 ^ n → tailB (n + 1) u acc = tailB n u acc
  | 0, u, acc, h => by
    obtain rfl : u = 0 := by simpa using h
    rfl
  | n + 1, u, acc, h => by
    rw [tailB]
    conv => rhs; rw [tailB]
    by_cases hu : u = 0
    · rw [if_pos hu, if_pos hu]
    · rw [if_neg hu, if_neg hu]
      exact tailB_more n (u / 128) _ (by rw [Nat.pow_succ] at h; omega)
theorem tailB_eq {n m u : Nat} {acc : List Nat} (h : u < 128 ^ n) (hm : n ≤ m) : tailB m u acc = tailB n u acc := by
  induction m with
  | zero => obtain rfl : n = 0 := by omega
            rfl
  | succ m ih =>
    by_cases e : n = m + 1
    · subst e; rfl
    · rw [tailB_more m u acc (Nat.lt_of_lt_of_le h (Nat.pow_le_pow_right (by decide) (by omega)))]
      exact ih (by omega)
theorem tailB_acc : ∀ (n u : Nat) (acc : List Nat), tailB n u acc = tailB n u [] ++ acc
  | 0, _, _ => rfl
  | n + 1, u, acc => by
    rw [tailB]
    conv => rhs; rw [tailB]
    by_cases hu : u = 0
    · rw [if_pos hu, if_pos hu]; rfl
    · rw [if_neg hu, if_neg hu]
      rw [tailB_acc n _ (_ :: acc), tailB_acc n _ [_], List.append_assoc]
      rfl
theorem tailB_lt : ∀ (n u : Nat) (acc : List Nat), (∀ b ∈ acc, b < 256) → ∀ b ∈ tailB n u acc, b < 256
  | 0, _, _, h => h
  | n + 1, u, acc, h => by
    rw [tailB]
    split
    · exact h
    · refine tailB_lt n _ _ fun b hb => ?_
      rcases List.mem_cons.1 hb with rfl | hb
      · omega
      · exact h b hb
theorem enc_lt (u : Nat) : ∀ b ∈ enc u, b < 256 := tailB_lt _ _ _ fun b hb => by
  rw [List.mem_singleton] at hb; omega
theorem tailB_len : ∀ (n u : Nat) (acc : List Nat), (tailB n u acc).length ≤ n + acc.length
  | 0, _, acc => by simp [tailB]
  | n + 1, u, acc => by
    rw [tailB]
    split
    · omega
    · have := tailB_len n (u / 128) ((128 + u % 128) :: acc)
      simp only [List.length_cons] at this
      omega
theorem enc_len (u : Nat) : (enc u).length ≤ 11 := by
  have := tailB_len 10 (u / 128) [u % 128]
  exact this

/-! Reading. -/
def getL : Nat → Nat → List Nat → Option (Nat × Nat)
  | _, _, [] => none
  | i, u, x :: xs =>
    if (i = 0 ∧ x = 128) ∨ ¬ u < 144115188075855872 then none
    else if x < 128 then some (u * 128 + x % 128, i + 1) else getL (i + 1) (u * 128 + x % 128) xs
def getN (bs : List Nat) : Option (Nat × Nat) := getL 0 0 (bs.take 10)
def getR (bs : List Nat) : Int × Nat := match getN bs with | some (u, k) => (zagI u, k) | none => (0, 0)

/-- The bytes ahead of the last one. -/
def hi (n u : Nat) : List Nat := tailB n u []
theorem hi_succ (n u : Nat) : hi (n + 1) u = if u = 0 then [] else hi n (u / 128) ++ [128 + u % 128] := by
  show tailB (n + 1) u [] = _
  rw [tailB]
  split
  · rfl
  · exact tailB_acc n _ _
theorem hi_zero (n : Nat) : hi n 0 = [] := by
  cases n with
  | zero => rfl
  | succ n => rw [hi_succ, if_pos rfl]
theorem enc_eq (u : Nat) : enc u = hi 10 (u / 128) ++ [u % 128] := tailB_acc _ _ _
theorem hi_len : ∀ n u : Nat, (hi n u).length ≤ n
  | 0, _ => Nat.le_refl _
  | n + 1, u => by
    rw [hi_succ]
    split
    · exact Nat.zero_le _
    · have := hi_len n (u / 128); simp; exact this

theorem getL_hi : ∀ (n u : Nat), u < 128 ^ n → ∀ (rest : List Nat), u < 144115188075855872 * 128 → (rest ≠ []) → getL 0 0 (hi n u ++ rest) = if u = 0 then getL 0 0 rest else getL (hi n u).length u rest
  | 0, u, h, rest, _, hr => by
    obtain rfl : u = 0 := by simpa using h
    rfl
  | n + 1, u, h, rest, hu, hr => by
    rw [hi_succ]
    by_cases h0 : u = 0
    · rw [if_pos h0, if_pos h0]; rfl
    · rw [if_neg h0, if_neg h0, List.append_assoc, getL_hi n (u / 128) (by rw [Nat.pow_succ] at h; omega) _ (by omega) (by simp)]
      have hb : ¬ (128 + u % 128 < 128) := by omega
      have hm : (128 + u % 128) % 128 = u % 128 := by omega
      by_cases hq : u / 128 = 0
      · rw [if_pos hq, hq, hi_zero]
        have hne : ¬ 128 + u % 128 = 128 := by omega
        have e : 0 * 128 + u % 128 = u := by omega
        simp only [List.singleton_append, List.nil_append, List.length_singleton, getL, hne, hb, hm, e, and_false, false_or, if_false]
        simp
      · rw [if_neg hq]
        have e : u / 128 * 128 + u % 128 = u := by omega
        have hlt : u / 128 < 144115188075855872 := by omega
        have hn0 : ¬ (hi n (u / 128)).length = 0 := by
          intro hz
          cases n with
          | zero => rw [Nat.pow_succ, Nat.pow_zero] at h; omega
          | succ n => rw [hi_succ, if_neg hq] at hz; simp at hz
        simp only [List.singleton_append, getL, hn0, hb, hm, e, hlt, false_and, false_or, not_true_eq_false, if_false, List.length_append, List.length_singleton]

theorem get_enc {u : Nat} (h : u < 18446744073709551616) (rest : List Nat) : getN (enc u ++ rest) = some (u, (enc u).length) := by
  unfold getN
  have hl : (enc u).length ≤ 10 := by
    rw [enc_eq, List.length_append]
    have : hi 10 (u / 128) = hi 9 (u / 128) := tailB_more 9 (u / 128) [] (by omega)
    rw [this]
    have := hi_len 9 (u / 128)
    simp; omega
  rw [List.take_append, List.take_of_length_le hl]
  generalize List.take _ rest = rest'
  rw [enc_eq, List.append_assoc, getL_hi 10 (u / 128) (by omega) _ (by omega) (by simp)]
  have e : u / 128 * 128 + u % 128 % 128 = u := by omega
  have hb : u % 128 < 128 := by omega
  by_cases hq : u / 128 = 0
  · rw [if_pos hq, hq, hi_zero]
    have hne : ¬ u % 128 = 128 := by omega
    have e : 0 * 128 + u % 128 % 128 = u := by omega
    simp only [List.singleton_append, getL, hb, e, hne, and_false, false_or, if_true, List.nil_append, List.length_singleton]
    simp
  · rw [if_neg hq]
    have hlt : u / 128 < 144115188075855872 := by omega
    have hne : ¬ u % 128 = 128 := by omega
    simp only [List.singleton_append, getL, hb, e, hlt, hne, and_false, false_or, not_true_eq_false, if_false, if_true, List.length_append, List.length_singleton]

/-! Order. -/
theorem hi_mono : ∀ (n u v : Nat), u ≤ v → (hi n u).length ≤ (hi n v).length
  | 0, _, _, _ => Nat.le_refl _
  | n + 1, u, v, h => by
    rw [hi_succ, hi_succ]
    by_cases hu : u = 0
    · rw [if_pos hu]; exact Nat.zero_le _
    · rw [if_neg hu, if_neg (by omega), List.length_append, List.length_append]
      have := hi_mono n (u / 128) (v / 128) (by omega)
      simp only [List.length_singleton]
      omega
theorem hi_inj : ∀ (n u v : Nat), u < 128 ^ n → v < 128 ^ n → hi n u = hi n v → u = v
  | 0, u, v, hu, hv, _ => by
    have : u = 0 := by simpa using hu
    have : v = 0 := by simpa using hv
    omega
  | n + 1, u, v, hu, hv, h => by
    rw [hi_succ, hi_succ] at h
    by_cases hu0 : u = 0
    · by_cases hv0 : v = 0
      · omega
      · rw [if_pos hu0, if_neg hv0] at h; simp at h
    · by_cases hv0 : v = 0
      · rw [if_neg hu0, if_pos hv0] at h; simp at h
      · rw [if_neg hu0, if_neg hv0] at h
        obtain ⟨h1, h2⟩ := List.append_inj' h rfl
        have := hi_inj n (u / 128) (v / 128) (by rw [Nat.pow_succ] at hu; omega) (by rw [Nat.pow_succ] at hv; omega) h1
        simp at h2
        omega

theorem ltL_snoc : ∀ (X Y : List Nat), X.length = Y.length → ∀ (x y : Nat), ltL ((X ++ [x]).map fun (b : Nat) => (b : Int)) ((Y ++ [y]).map fun (b : Nat) => (b : Int)) =
    (ltL (X.map fun (b : Nat) => (b : Int)) (Y.map fun (b : Nat) => (b : Int)) || (decide (X = Y) && decide (x < y)))
  | [], [], _, x, y => by simp [ltL]
  | [], _ :: _, h, _, _ => by simp at h
  | _ :: _, [], h, _, _ => by simp at h
  | a :: X, b :: Y, h, x, y => by
    simp only [List.cons_append, List.map_cons, ltL]
    rw [ltL_snoc X Y (by simpa using h)]
    by_cases hab : a = b
    · subst hab
      simp
    · have : ((a : Int) == (b : Int)) = false := by rw [beq_eq_false_iff_ne]; omega
      simp [hab, this]

theorem hi_lex : ∀ (n u v : Nat), u < 128 ^ n → v < 128 ^ n → (hi n u).length = (hi n v).length →
    ltL ((hi n u).map fun (b : Nat) => (b : Int)) ((hi n v).map fun (b : Nat) => (b : Int)) = decide (u < v)
  | 0, u, v, hu, hv, _ => by
    have h1 : u = 0 := by simpa using hu
    have h2 : v = 0 := by simpa using hv
    subst h1 h2
    rfl
  | n + 1, u, v, hu, hv, h => by
    rw [hi_succ, hi_succ] at h ⊢
    by_cases hu0 : u = 0
    · by_cases hv0 : v = 0
      · rw [if_pos hu0, if_pos hv0, hu0, hv0]; rfl
      · rw [if_pos hu0, if_neg hv0] at h; simp at h
    · by_cases hv0 : v = 0
      · rw [if_neg hu0, if_pos hv0] at h; simp at h
      · rw [if_neg hu0, if_neg hv0] at h ⊢
        have hl : (hi n (u / 128)).length = (hi n (v / 128)).length := by simpa using h
        have h1 : u / 128 < 128 ^ n := by rw [Nat.pow_succ] at hu; omega
        have h2 : v / 128 < 128 ^ n := by rw [Nat.pow_succ] at hv; omega
        rw [ltL_snoc _ _ hl, hi_lex n _ _ h1 h2 hl]
        have key : decide (hi n (u / 128) = hi n (v / 128)) = decide (u / 128 = v / 128) := decide_eq_decide.2 ⟨hi_inj n _ _ h1 h2, fun e => by rw [e]⟩
        rw [key]
        by_cases e : u / 128 = v / 128
        · simp [e]; omega
        · simp [e]; omega

theorem enc_order {u v : Nat} (hu : u < 18446744073709551616) (hv : v < 18446744073709551616) (h : (enc u).length = (enc v).length) :
    ltL ((enc u).map fun (b : Nat) => (b : Int)) ((enc v).map fun (b : Nat) => (b : Int)) = decide (u < v) := by
  rw [enc_eq, enc_eq] at h ⊢
  have hl : (hi 10 (u / 128)).length = (hi 10 (v / 128)).length := by simpa using h
  rw [ltL_snoc _ _ hl, hi_lex 10 _ _ (by omega) (by omega) hl]
  have key : decide (hi 10 (u / 128) = hi 10 (v / 128)) = decide (u / 128 = v / 128) := decide_eq_decide.2 ⟨hi_inj 10 _ _ (by omega) (by omega), fun e => by rw [e]⟩
  rw [key]
  by_cases e : u / 128 = v / 128
  · simp [e]; omega
  · simp [e]; omega
theorem enc_longer {u v : Nat} (h : (enc u).length ≠ (enc v).length) : decide (u < v) = decide ((enc u).length < (enc v).length) := by
  rw [enc_eq, enc_eq] at h ⊢
  simp only [List.length_append, List.length_singleton, ne_eq, Nat.add_right_cancel_iff] at h ⊢
  have h1 := hi_mono 10 (u / 128) (v / 128)
  have h2 := hi_mono 10 (v / 128) (u / 128)
  rw [decide_eq_decide]
  omega

/-! A number's lowest bytes. -/
def fixL (u n : Nat) : List Nat := (List.range n).map fun i => u / 256 ^ i % 256
def fixR (u n : Nat) : List Nat := if n ≤ 8 then fixL u n else []
theorem fixL_len (u n : Nat) : (fixL u n).length = n := by simp [fixL]
theorem fixL_succ (u n : Nat) : fixL u (n + 1) = fixL u n ++ [u / 256 ^ n % 256] := by simp [fixL, List.range_succ]
theorem fixL_lt (u n : Nat) : ∀ b ∈ fixL u n, b < 256 := fun b hb => by
  obtain ⟨i, _, rfl⟩ := List.mem_map.1 hb
  omega
theorem fixR_lt (u n : Nat) : ∀ b ∈ fixR u n, b < 256 := fun b hb => by
  unfold fixR at hb
  split at hb
  · exact fixL_lt _ _ b hb
  · cases hb
theorem fix_set (u n i : Nat) (h : i < n) : (fixL u i ++ List.replicate (n - i) 0).set i (u / 256 ^ i % 256) = fixL u (i + 1) ++ List.replicate (n - (i + 1)) 0 := by
  rw [List.set_append_right _ _ (by rw [fixL_len]; omega), fixL_len, Nat.sub_self, show n - i = (n - (i + 1)) + 1 by omega, List.replicate_succ, List.set_cons_zero, fixL_succ, List.append_assoc]
  rfl
def unfixL : List Nat → Nat
  | [] => 0
  | b :: bs => b + 256 * unfixL bs
theorem unfix_snoc : ∀ (bs : List Nat) (b : Nat), unfixL (bs ++ [b]) = unfixL bs + b * 256 ^ bs.length
  | [], b => by simp [unfixL]
  | x :: bs, b => by
    rw [List.cons_append, unfixL, unfixL, unfix_snoc bs b, List.length_cons, Nat.pow_succ, Nat.mul_add, Nat.add_assoc]
    congr 2
    rw [← Nat.mul_assoc, Nat.mul_comm 256 b, Nat.mul_assoc, Nat.mul_comm 256]
theorem unfix_lt : ∀ bs : List Nat, (∀ b ∈ bs, b < 256) → unfixL bs < 256 ^ bs.length
  | [], _ => by decide
  | x :: bs, h => by
    have h1 := h x List.mem_cons_self
    have h2 := unfix_lt bs fun b hb => h b (List.mem_cons_of_mem _ hb)
    rw [unfixL, List.length_cons, Nat.pow_succ]
    omega
theorem unfix_fix (u : Nat) : ∀ n, unfixL (fixL u n) = u % 256 ^ n
  | 0 => by simp [fixL, unfixL, Nat.mod_one]
  | n + 1 => by
    rw [fixL_succ, unfix_snoc, unfix_fix u n, fixL_len, Nat.mod_pow_succ, Nat.mul_comm]
def unfix (bs : List Nat) : Nat := unfixL (bs.take 8)
theorem unfix_bound {bs : List Nat} (h : ∀ b ∈ bs, b < 256) : unfix bs < 18446744073709551616 := by
  have h1 := unfix_lt (bs.take 8) fun b hb => h b (List.mem_of_mem_take hb)
  have h2 : (bs.take 8).length ≤ 8 := by rw [List.length_take]; omega
  have h3 : 256 ^ (bs.take 8).length ≤ 256 ^ 8 := Nat.pow_le_pow_right (by decide) h2
  unfold unfix
  have h4 : 256 ^ 8 = 18446744073709551616 := by decide
  omega
end Go.AM.St
namespace Go.AM.St
open Go Go.AM

structure RecP where
  kind : Int
  nums : List Int
  texts : List (List Nat)

def mayR (r : RecP) : Bool := decide (0 ≤ r.kind) && decide (r.kind ≤ 255) && decide (r.nums.length ≤ 40) && decide (r.texts.length ≤ 40) && r.texts.all fun t => decide (t.length ≤ 200)
/-- Numbers one behind the other. -/
def encI : List Int → List Nat
  | [] => []
  | x :: xs => enc (zigN x) ++ encI xs
def encT : List (List Nat) → List Nat
  | [] => []
  | t :: ts => enc (zigN (t.length : Int)) ++ t ++ encT ts
def putR (r : RecP) : List Nat := enc (zigN r.kind) ++ enc (zigN (r.nums.length : Int)) ++ encI r.nums ++ enc (zigN (r.texts.length : Int)) ++ encT r.texts

theorem encI_snoc : ∀ (xs : List Int) (x : Int), encI (xs ++ [x]) = encI xs ++ enc (zigN x)
  | [], x => by simp [encI]
  | y :: xs, x => by rw [List.cons_append, encI, encI, encI_snoc xs x, List.append_assoc]
theorem encT_snoc : ∀ (xs : List (List Nat)) (x : List Nat), encT (xs ++ [x]) = encT xs ++ (enc (zigN (x.length : Int)) ++ x)
  | [], x => by simp [encT]
  | y :: xs, x => by rw [List.cons_append, encT, encT, encT_snoc xs x]; simp only [List.append_assoc]
theorem encI_len : ∀ xs : List Int, (encI xs).length ≤ 11 * xs.length
  | [] => Nat.le_refl _
  | x :: xs => by
    have := enc_len (zigN x)
    have := encI_len xs
    rw [encI, List.length_append, List.length_cons]
    omega
theorem encT_len : ∀ xs : List (List Nat), (∀ t ∈ xs, t.length ≤ 200) → (encT xs).length ≤ 211 * xs.length
  | [], _ => Nat.le_refl _
  | x :: xs, h => by
    have := enc_len (zigN (x.length : Int))
    have := encT_len xs fun t ht => h t (List.mem_cons_of_mem _ ht)
    have := h x List.mem_cons_self
    rw [encT, List.length_append, List.length_append, List.length_cons]
    omega
theorem encI_lt : ∀ xs : List Int, ∀ b ∈ encI xs, b < 256
  | [], b, h => by cases h
  | x :: xs, b, h => (List.mem_append.1 h).elim (enc_lt _ b) (encI_lt xs b)
theorem encT_lt : ∀ xs : List (List Nat), (∀ t ∈ xs, ∀ b ∈ t, b < 256) → ∀ b ∈ encT xs, b < 256
  | [], _, b, h => by cases h
  | x :: xs, hx, b, h => by
    rw [encT] at h
    rcases List.mem_append.1 h with h | h
    · rcases List.mem_append.1 h with h | h
      · exact enc_lt _ b h
      · exact hx x List.mem_cons_self b h
    · exact encT_lt xs (fun t ht => hx t (List.mem_cons_of_mem _ ht)) b h
theorem may_iff {r : RecP} : mayR r = true ↔ (0 ≤ r.kind ∧ r.kind ≤ 255) ∧ r.nums.length ≤ 40 ∧ r.texts.length ≤ 40 ∧ ∀ t ∈ r.texts, t.length ≤ 200 := by
  unfold mayR
  simp only [Bool.and_eq_true, decide_eq_true_eq, List.all_eq_true]
  constructor
  · rintro ⟨⟨⟨⟨h1, h2⟩, h3⟩, h4⟩, h5⟩; exact ⟨⟨h1, h2⟩, h3, h4, h5⟩
  · rintro ⟨⟨h1, h2⟩, h3, h4, h5⟩; exact ⟨⟨⟨⟨h1, h2⟩, h3⟩, h4⟩, h5⟩
theorem putR_len {r : RecP} (h : mayR r = true) : (putR r).length ≤ 9000 := by
  obtain ⟨_, h3, h4, h5⟩ := may_iff.1 h
  have := enc_len (zigN r.kind)
  have := enc_len (zigN (r.nums.length : Int))
  have := encI_len r.nums
  have := enc_len (zigN (r.texts.length : Int))
  have := encT_len r.texts h5
  unfold putR
  simp only [List.length_append]
  omega
theorem putR_lt {r : RecP} (h : ∀ t ∈ r.texts, ∀ b ∈ t, b < 256) : ∀ b ∈ putR r, b < 256 := fun b hb => by
  unfold putR at hb
  rcases List.mem_append.1 hb with hb | hb
  · rcases List.mem_append.1 hb with hb | hb
    · rcases List.mem_append.1 hb with hb | hb
      · rcases List.mem_append.1 hb with hb | hb
        · exact enc_lt _ b hb
        · exact enc_lt _ b hb
      · exact encI_lt _ b hb
    · exact enc_lt _ b hb
  · exact encT_lt _ h b hb
end Go.AM.St
namespace Go.AM.St
open Go Go.AM

def begL (m : Nat) : Nat → Nat → List Nat → Bool
  | _, _, [] => true
  | i, u, x :: xs => if x < 128 ∨ (i = 0 ∧ x = 128) then false else if m < u * 128 + x % 128 then false else begL m (i + 1) (u * 128 + x % 128) xs

/-- A reader: where it stands, why it can't go on. -/
structure Rd where
  pos : Nat
  err : Nat

def numR (bs : List Nat) (most : Nat) (s : Rd) : Int × Rd :=
  if s.err ≠ 0 then (0, s) else
    if 0 < (getR (bs.drop s.pos)).2 ∧ zigN (getR (bs.drop s.pos)).1 ≤ most then ((getR (bs.drop s.pos)).1, ⟨s.pos + (getR (bs.drop s.pos)).2, 0⟩)
    else if (getR (bs.drop s.pos)).2 = 0 ∧ begL (most / 128) 0 0 (bs.drop s.pos) = true then (0, ⟨s.pos, 2⟩) else (0, ⟨s.pos, 1⟩)
def cntR (bs : List Nat) (m : Nat) (s : Rd) : Int × Rd :=
  if (numR bs (2 * m) s).1 < 0 then (0, ⟨(numR bs (2 * m) s).2.pos, 1⟩) else numR bs (2 * m) s
def txtR (bs : List Nat) (s : Rd) : List Nat × Rd :=
  if (cntR bs 200 s).2.err ≠ 0 then ([], (cntR bs 200 s).2)
  else if bs.length - (cntR bs 200 s).2.pos < (cntR bs 200 s).1.toNat then ([], ⟨(cntR bs 200 s).2.pos, 2⟩)
  else ((bs.drop (cntR bs 200 s).2.pos).take (cntR bs 200 s).1.toNat, ⟨(cntR bs 200 s).2.pos + (cntR bs 200 s).1.toNat, 0⟩)
def numsR (bs : List Nat) : Nat → Rd → List Int × Rd
  | 0, s => ([], s)
  | n + 1, s => ((numR bs 18446744073709551615 s).1 :: (numsR bs n (numR bs 18446744073709551615 s).2).1, (numsR bs n (numR bs 18446744073709551615 s).2).2)
def txtsR (bs : List Nat) : Nat → Rd → List (List Nat) × Rd
  | 0, s => ([], s)
  | n + 1, s => ((txtR bs s).1 :: (txtsR bs n (txtR bs s).2).1, (txtsR bs n (txtR bs s).2).2)

theorem getL_bound : ∀ (xs : List Nat) (i u v k : Nat), getL i u xs = some (v, k) → i < k ∧ k ≤ i + xs.length
  | [], i, u, v, k, h => by cases h
  | x :: xs, i, u, v, k, h => by
    rw [getL] at h
    split at h
    · cases h
    · split at h
      · cases h; simp
      · have := getL_bound xs _ _ _ _ h
        simp only [List.length_cons]
        omega
theorem getR_bound (bs : List Nat) : (getR bs).2 ≤ bs.length ∧ (getR bs).2 ≤ 10 := by
  unfold getR
  split
  · rename_i v k h
    have := (getL_bound _ _ _ _ _ h).2
    rw [List.length_take] at this
    show k ≤ _ ∧ k ≤ _
    omega
  · exact ⟨Nat.zero_le _, Nat.zero_le _⟩
theorem getL_val : ∀ (xs : List Nat) (i u v k : Nat), u < 18446744073709551616 → getL i u xs = some (v, k) → v < 18446744073709551616
  | [], i, u, v, k, _, h => by cases h
  | x :: xs, i, u, v, k, hu, h => by
    rw [getL] at h
    split at h
    · cases h
    · rename_i hc
      split at h
      · cases h; omega
      · exact getL_val xs _ _ _ _ (by omega) h
theorem zagI_range {u : Nat} (h : u < 18446744073709551616) : -9223372036854775808 ≤ zagI u ∧ zagI u ≤ 9223372036854775807 := by
  unfold zagI
  split <;> omega
theorem getR_range (bs : List Nat) : -9223372036854775808 ≤ (getR bs).1 ∧ (getR bs).1 ≤ 9223372036854775807 := by
  unfold getR
  split
  · rename_i v k h
    exact zagI_range (getL_val _ _ _ _ _ (by decide) h)
  · exact ⟨by decide, by decide⟩
theorem numR_pos {bs : List Nat} {most : Nat} {s : Rd} (h : s.pos ≤ bs.length) : (numR bs most s).2.pos ≤ bs.length := by
  have := (getR_bound (bs.drop s.pos)).1
  rw [List.length_drop] at this
  unfold numR
  split
  · exact h
  · split
    · show s.pos + _ ≤ _; omega
    · split
      · exact h
      · exact h
theorem numR_range (bs : List Nat) (most : Nat) (s : Rd) : -9223372036854775808 ≤ (numR bs most s).1 ∧ (numR bs most s).1 ≤ 9223372036854775807 := by
  unfold numR
  split
  · exact ⟨by simp, by simp⟩
  · split
    · exact getR_range _
    · split <;> exact ⟨by simp, by simp⟩
theorem cntR_pos {bs : List Nat} {m : Nat} {s : Rd} (h : s.pos ≤ bs.length) : (cntR bs m s).2.pos ≤ bs.length := by
  unfold cntR
  split
  · exact numR_pos h
  · exact numR_pos h
theorem cntR_range {bs : List Nat} {m : Nat} {s : Rd} : 0 ≤ (cntR bs m s).1 ∧ (cntR bs m s).1 ≤ m := by
  unfold cntR
  split
  · exact ⟨by simp, by simp⟩
  · rename_i h
    refine ⟨by omega, ?_⟩
    revert h
    unfold numR
    split
    · intro; show (0 : Int) ≤ _; omega
    · split
      · rename_i hc
        intro hn
        have h2 := hc.2
        simp only at hn ⊢
        unfold zigN at h2
        rw [if_neg hn] at h2
        omega
      · split <;> intro <;> (show (0 : Int) ≤ _; omega)
theorem txtR_pos {bs : List Nat} {s : Rd} (h : s.pos ≤ bs.length) : (txtR bs s).2.pos ≤ bs.length := by
  have := cntR_pos (m := 200) h
  unfold txtR
  split
  · exact this
  · split
    · exact this
    · show _ + _ ≤ _; omega

theorem numsR_succ (bs : List Nat) : ∀ (i : Nat) (s : Rd), numsR bs (i + 1) s = ((numsR bs i s).1 ++ [(numR bs 18446744073709551615 (numsR bs i s).2).1], (numR bs 18446744073709551615 (numsR bs i s).2).2)
  | 0, s => rfl
  | i + 1, s => by
    rw [numsR, numsR_succ bs i, numsR]
    rfl
theorem txtsR_succ (bs : List Nat) : ∀ (i : Nat) (s : Rd), txtsR bs (i + 1) s = ((txtsR bs i s).1 ++ [(txtR bs (txtsR bs i s).2).1], (txtR bs (txtsR bs i s).2).2)
  | 0, s => rfl
  | i + 1, s => by
    rw [txtsR, txtsR_succ bs i, txtsR]
    rfl
theorem numsR_len (bs : List Nat) : ∀ (i : Nat) (s : Rd), (numsR bs i s).1.length = i
  | 0, s => rfl
  | i + 1, s => by rw [numsR]; simp only [List.length_cons]; rw [numsR_len bs i]
theorem txtsR_len (bs : List Nat) : ∀ (i : Nat) (s : Rd), (txtsR bs i s).1.length = i
  | 0, s => rfl
  | i + 1, s => by rw [txtsR]; simp only [List.length_cons]; rw [txtsR_len bs i]
theorem numsR_pos {bs : List Nat} : ∀ (i : Nat) {s : Rd}, s.pos ≤ bs.length → (numsR bs i s).2.pos ≤ bs.length
  | 0, _, h => h
  | i + 1, _, h => numsR_pos i (numR_pos h)
theorem txtsR_pos {bs : List Nat} : ∀ (i : Nat) {s : Rd}, s.pos ≤ bs.length → (txtsR bs i s).2.pos ≤ bs.length
  | 0, _, h => h
  | i + 1, _, h => txtsR_pos i (txtR_pos h)

def recGetJ (c1 : Int × Rd) (ns : List Int × Rd) (ts : List (List Nat) × Rd) : RecP × Nat × Nat := if ts.2.err ≠ 0 then (⟨0, [], []⟩, 0, ts.2.err) else (⟨c1.1, ns.1, ts.1⟩, ts.2.pos, 0)
def recGetI (bs : List Nat) (c1 : Int × Rd) (ns : List Int × Rd) (c3 : Int × Rd) : RecP × Nat × Nat := recGetJ c1 ns (txtsR bs c3.1.toNat c3.2)
def recGetH (bs : List Nat) (c1 : Int × Rd) (ns : List Int × Rd) : RecP × Nat × Nat := recGetI bs c1 ns (cntR bs 40 ns.2)
def recGetG (bs : List Nat) (c1 c2 : Int × Rd) : RecP × Nat × Nat := recGetH bs c1 (numsR bs c2.1.toNat c2.2)
def recGetF (bs : List Nat) (c1 : Int × Rd) : RecP × Nat × Nat := recGetG bs c1 (cntR bs 40 c1.2)
/-- What a record's reader tells of bytes. -/
def recGet (bs : List Nat) : RecP × Nat × Nat := recGetF bs (cntR bs 255 ⟨0, 0⟩)
end Go.AM.St
namespace Go.AM.St
open Go Go.AM

theorem getR_enc' {x : Int} (h1 : -9223372036854775808 ≤ x) (h2 : x ≤ 9223372036854775807) (rest : List Nat) : getR (enc (zigN x) ++ rest) = (x, (enc (zigN x)).length) := by
  unfold getR
  rw [get_enc (zigN_lt h1 h2)]
  show (zagI (zigN x), _) = _
  rw [zag_zig]
theorem enc_pos' (u : Nat) : 0 < (enc u).length := by rw [enc_eq]; simp
theorem numR_at {bs pre rest : List Nat} {x : Int} {most : Nat} (h1 : -9223372036854775808 ≤ x) (h2 : x ≤ 9223372036854775807) (hm : zigN x ≤ most) (hb : bs = pre ++ (enc (zigN x) ++ rest)) :
    numR bs most ⟨pre.length, 0⟩ = (x, ⟨(pre ++ enc (zigN x)).length, 0⟩) := by
  subst hb
  unfold numR
  rw [if_neg (by simp)]
  simp only [List.drop_left]
  rw [getR_enc' h1 h2, if_pos ⟨enc_pos' _, hm⟩, List.length_append]
theorem zigN_nat (k : Nat) : zigN (k : Int) = 2 * k := by
  unfold zigN
  rw [if_neg (by omega)]
  omega
theorem cntR_at {bs pre rest : List Nat} {k m : Nat} (hk : k ≤ m) (hm : m ≤ 1000) (hb : bs = pre ++ (enc (zigN (k : Int)) ++ rest)) :
    cntR bs m ⟨pre.length, 0⟩ = ((k : Int), ⟨(pre ++ enc (zigN (k : Int))).length, 0⟩) := by
  have h := numR_at (most := 2 * m) (x := (k : Int)) (by omega) (by omega) (by rw [zigN_nat]; omega) hb
  unfold cntR
  rw [h, if_neg (by simp)]
theorem numsR_at {bs : List Nat} : ∀ (xs : List Int) (pre rest : List Nat), (∀ x ∈ xs, -9223372036854775808 ≤ x ∧ x ≤ 9223372036854775807) → bs = pre ++ (encI xs ++ rest) →
    numsR bs xs.length ⟨pre.length, 0⟩ = (xs, ⟨(pre ++ encI xs).length, 0⟩)
  | [], pre, rest, _, _ => by simp [numsR, encI]
  | x :: xs, pre, rest, hx, hb => by
    have h := hx x List.mem_cons_self
    have h1 := numR_at (most := 18446744073709551615) (bs := bs) (pre := pre) (rest := encI xs ++ rest) h.1 h.2 (by have := zigN_lt h.1 h.2; omega) (by rw [hb, encI, List.append_assoc])
    have h2 := numsR_at (bs := bs) xs (pre ++ enc (zigN x)) rest (fun y hy => hx y (List.mem_cons_of_mem _ hy)) (by rw [hb, encI]; simp only [List.append_assoc])
    rw [List.length_cons, numsR, h1]
    simp only
    rw [h2, encI, List.append_assoc]
theorem txtR_at {bs pre rest t : List Nat} (ht : t.length ≤ 200) (hb : bs = pre ++ (enc (zigN (t.length : Int)) ++ t ++ rest)) :
    txtR bs ⟨pre.length, 0⟩ = (t, ⟨(pre ++ (enc (zigN (t.length : Int)) ++ t)).length, 0⟩) := by
  have h1 := cntR_at (bs := bs) (m := 200) (pre := pre) (rest := t ++ rest) ht (by decide) (by rw [hb, List.append_assoc])
  have hl : bs.length = (pre ++ enc (zigN (t.length : Int))).length + (t.length + rest.length) := by
    rw [hb]; simp only [List.length_append]; omega
  have hd : bs.drop (pre ++ enc (zigN (t.length : Int))).length = t ++ rest := by
    rw [hb, List.append_assoc, ← List.append_assoc, List.drop_left]
  unfold txtR
  rw [h1]
  simp only [Int.toNat_natCast]
  rw [if_neg (by simp), if_neg (by omega), hd, List.take_left]
  simp only [List.length_append, Prod.mk.injEq, true_and]
  congr 1
  omega
theorem txtsR_at {bs : List Nat} : ∀ (ts : List (List Nat)) (pre rest : List Nat), (∀ t ∈ ts, t.length ≤ 200) → bs = pre ++ (encT ts ++ rest) →
    txtsR bs ts.length ⟨pre.length, 0⟩ = (ts, ⟨(pre ++ encT ts).length, 0⟩)
  | [], pre, rest, _, _ => by simp [txtsR, encT]
  | t :: ts, pre, rest, hx, hb => by
    have h1 := txtR_at (bs := bs) (pre := pre) (rest := encT ts ++ rest) (hx t List.mem_cons_self) (by rw [hb, encT]; simp only [List.append_assoc])
    have h2 := txtsR_at (bs := bs) ts (pre ++ (enc (zigN (t.length : Int)) ++ t)) rest (fun y hy => hx y (List.mem_cons_of_mem _ hy)) (by rw [hb, encT]; simp only [List.append_assoc])
    rw [List.length_cons, txtsR, h1]
    simp only
    rw [h2, encT]
    simp only [List.append_assoc]

theorem recGet_put {r : RecP} (hm : mayR r = true) (hn : ∀ x ∈ r.nums, -9223372036854775808 ≤ x ∧ x ≤ 9223372036854775807) (more : List Nat) : recGet (putR r ++ more) = (r, (putR r).length, 0) := by
  obtain ⟨⟨m1, m2⟩, m3, m4, m5⟩ := may_iff.1 hm
  obtain ⟨k, hk⟩ : ∃ k : Nat, r.kind = (k : Int) := ⟨r.kind.toNat, by omega⟩
  have e0 : putR r ++ more = [] ++ (enc (zigN (k : Int)) ++ (enc (zigN (r.nums.length : Int)) ++ encI r.nums ++ enc (zigN (r.texts.length : Int)) ++ encT r.texts ++ more)) := by
    unfold putR; rw [hk]; simp only [List.append_assoc, List.nil_append]
  have h1 := cntR_at (m := 255) (pre := []) (by omega) (by decide) e0
  have e1 : putR r ++ more = ([] ++ enc (zigN (k : Int))) ++ (enc (zigN (r.nums.length : Int)) ++ (encI r.nums ++ enc (zigN (r.texts.length : Int)) ++ encT r.texts ++ more)) := by
    rw [e0]; simp only [List.append_assoc, List.nil_append]
  have h2 := cntR_at (m := 40) m3 (by decide) e1
  have e2 : putR r ++ more = ([] ++ enc (zigN (k : Int)) ++ enc (zigN (r.nums.length : Int))) ++ (encI r.nums ++ (enc (zigN (r.texts.length : Int)) ++ encT r.texts ++ more)) := by
    rw [e0]; simp only [List.append_assoc, List.nil_append]
  have h3 := numsR_at _ _ _ hn e2
  have e3 : putR r ++ more = ([] ++ enc (zigN (k : Int)) ++ enc (zigN (r.nums.length : Int)) ++ encI r.nums) ++ (enc (zigN (r.texts.length : Int)) ++ (encT r.texts ++ more)) := by
    rw [e0]; simp only [List.append_assoc, List.nil_append]
  have h4 := cntR_at (m := 40) m4 (by decide) e3
  have e4 : putR r ++ more = ([] ++ enc (zigN (k : Int)) ++ enc (zigN (r.nums.length : Int)) ++ encI r.nums ++ enc (zigN (r.texts.length : Int))) ++ (encT r.texts ++ more) := by
    rw [e0]; simp only [List.append_assoc, List.nil_append]
  have h5 := txtsR_at _ _ _ m5 e4
  have hz : (⟨0, 0⟩ : Rd) = ⟨([] : List Nat).length, 0⟩ := rfl
  unfold recGet
  rw [hz, h1, recGetF, h2, recGetG]
  simp only [Int.toNat_natCast]
  rw [h3, recGetH, h4, recGetI]
  simp only [Int.toNat_natCast]
  rw [h5, recGetJ, if_neg (by simp)]
  refine Prod.ext ?_ (Prod.ext ?_ rfl)
  · rw [← hk]
  · show _ = (putR r).length
    unfold putR
    rw [hk, List.nil_append]
theorem putR_inj {r s : RecP} (hr : mayR r = true) (hs : mayR s = true) (hn : ∀ x ∈ r.nums, -9223372036854775808 ≤ x ∧ x ≤ 9223372036854775807) (hn' : ∀ x ∈ s.nums, -9223372036854775808 ≤ x ∧ x ≤ 9223372036854775807) (h : putR r = putR s) : r = s := by
  have h1 := recGet_put hr hn []
  have h2 := recGet_put hs hn' []
  rw [h, h2] at h1
  exact (congrArg Prod.fst h1).symm
end Go.AM.St
