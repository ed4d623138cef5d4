/- Numbers as bytes: plain. Records as bytes: plain. -/
import Derived.Test.YthmdecfiijgaoaaGreatGmStep
namespace Go.AM.St
open Go Go.AM

/-- Zig. -/
def zigN (x : Int) : Nat := if x < 0 then (-(2 * x) - 1).toNat else (2 * x).toNat
/-- Zag. -/
def zagI (u : Nat) : Int := if u % 2 = 1 then -((u / 2 : Nat) : Int) - 1 else ((u / 2 : Nat) : Int)
theorem zag_zig (x : Int) : zagI (zigN x) = x := by
  unfold zagI zigN
  split <;> split <;> omega
theorem zigN_lt {x : Int} (h1 : -9223372036854775808 ≤ x) (h2 : x ≤ 9223372036854775807) : zigN x < 18446744073709551616 := by
  unfold zigN
  split <;> omega

/-- The bytes ahead of those that stand already. -/
def tailB : Nat → Nat → List Nat → List Nat
  | 0, _, acc => acc
  | n + 1, u, acc => if u = 0 then acc else tailB n (u / 128) ((128 + u % 128) :: acc)
/-- A number's bytes. -/
def enc (u : Nat) : List Nat := tailB 10 (u / 128) [u % 128]

theorem tailB_more : ∀ (n u : Nat) (acc : List Nat), u < 128 ^ n → tailB (n + 1) u acc = tailB n u acc
  | 0, u, acc, h => by
    obtain rfl : u = 0 := by simpa using h
    rfl
  | n + 1, u, acc, h => by
    rw [tailB]
    conv => rhs; rw [tailB]
    by_cases hu : u = 0
    · rw [if_pos hu, if_pos hu]
    · rw [if_neg hu, if_neg hu]
      exact tailB_more n (u / 128) _ (by rw [Nat.pow_succ] at h; omega)
theorem tailB_eq {n m u : Nat} {acc : List Nat} (h : u < 128 ^ n) (hm : n ≤ m) : tailB m u acc = tailB n u acc := by
  induction m with
  | zero => obtain rfl : n = 0 := by omega
            rfl
  | succ m ih =>
    by_cases e : n = m + 1
    · subst e; rfl
    · rw [tailB_more m u acc (Nat.lt_of_lt_of_le h (Nat.pow_le_pow_right (by decide) (by omega)))]
      exact ih (by omega)
theorem tailB_acc : ∀ (n u : Nat) (acc : List Nat), tailB n u acc = tailB n u [] ++ acc
  | 0, _, _ => rfl
  | n + 1, u, acc => by
    rw [tailB]
    conv => rhs; rw [tailB]
    by_cases hu : u = 0
    · rw [if_pos hu, if_pos hu]; rfl
    · rw [if_neg hu, if_neg hu]
      rw [tailB_acc n _ (_ :: acc), tailB_acc n _ [_], List.append_assoc]
      rfl
theorem tailB_lt : ∀ (n u : Nat) (acc : List Nat), (∀ b ∈ acc, b < 256) → ∀ b ∈ tailB n u acc, b < 256
  | 0, _, _, h => h
  | n + 1, u, acc, h => by
    rw [tailB]
    split
    · exact h
    · refine tailB_lt n _ _ fun b hb => ?_
      rcases List.mem_cons.1 hb with rfl | hb
      · omega
      · exact h b hb
theorem enc_lt (u : Nat) : ∀ b ∈ enc u, b < 256 := tailB_lt _ _ _ fun b hb => by
  rw [List.mem_singleton] at hb; omega
theorem tailB_len : ∀ (n u : Nat) (acc : List Nat), (tailB n u acc).length ≤ n + acc.length
  | 0, _, acc => by simp [tailB]
  | n + 1, u, acc => by
    rw [tailB]
    split
    · omega
    · have := tailB_len n (u / 128) ((128 + u % 128) :: acc)
      simp only [List.length_cons] at this
      omega
theorem enc_len (u : Nat) : (enc u).length ≤ 11 := by
  have := tailB_len 10 (u / 128) [u % 128]
  exact this

/-! Reading. -/
def getL : Nat → Nat → List Nat → Option (Nat × Nat)
  | _, _, [] => none
  | i, u, x :: xs =>
    if (i = 0 ∧ x = 128) ∨ ¬ u < 144115188075855872 then none
    else if x < 128 then some (u * 128 + x % 128, i + 1) else getL (i + 1) (u * 128 + x % 128) xs
def getN (bs : List Nat) : Option (Nat × Nat) := getL 0 0 (bs.take 10)
def getR (bs : List Nat) : Int × Nat := match getN bs with | some (u, k) => (zagI u, k) | none => (0, 0)

/-- The bytes ahead of the last one. -/
def hi (n u : Nat) : List Nat := tailB n u []
theorem hi_succ (n u : Nat) : hi (n + 1) u = if u = 0 then [] else hi n (u / 128) ++ [128 + u % 128] := by
  show tailB (n + 1) u [] = _
  rw [tailB]
  split
  · rfl
  · exact tailB_acc n _ _
theorem hi_zero (n : Nat) : hi n 0 = [] := by
  cases n with
  | zero => rfl
  | succ n => rw [hi_succ, if_pos rfl]
theorem enc_eq (u : Nat) : enc u = hi 10 (u / 128) ++ [u % 128] := tailB_acc _ _ _
theorem hi_len : ∀ n u : Nat, (hi n u).length ≤ n
  | 0, _ => Nat.le_refl _
  | n + 1, u => by
    rw [hi_succ]
    split
    · exact Nat.zero_le _
    · have := hi_len n (u / 128); simp; exact this

theorem getL_hi : ∀ (n u : Nat), u < 128 ^ n → ∀ (rest : List Nat), u < 144115188075855872 * 128 → (rest ≠ []) → getL 0 0 (hi n u ++ rest) = if u = 0 then getL 0 0 rest else getL (hi n u).length u rest
  | 0, u, h, rest, _, hr => by
    obtain rfl : u = 0 := by simpa using h
    rfl
  | n + 1, u, h, rest, hu, hr => by
    rw [hi_succ]
    by_cases h0 : u = 0
    · rw [if_pos h0, if_pos h0]; rfl
    · rw [if_neg h0, if_neg h0, List.append_assoc, getL_hi n (u / 128) (by rw [Nat.pow_succ] at h; omega) _ (by omega) (by simp)]
      have hb : ¬ (128 + u % 128 < 128) := by omega
      have hm : (128 + u % 128) % 128 = u % 128 := by omega
      by_cases hq : u / 128 = 0
      · rw [if_pos hq, hq, hi_zero]
        have hne : ¬ 128 + u % 128 = 128 := by omega
        have e : 0 * 128 + u % 128 = u := by omega
        simp only [List.singleton_append, List.nil_append, List.length_singleton, getL, hne, hb, hm, e, and_false, false_or, if_false]
        simp
      · rw [if_neg hq]
        have e : u / 128 * 128 + u % 128 = u := by omega
        have hlt : u / 128 < 144115188075855872 := by omega
        have hn0 : ¬ (hi n (u / 128)).length = 0 := by
          intro hz
          cases n with
          | zero => rw [Nat.pow_succ, Nat.pow_zero] at h; omega
          | succ n => rw [hi_succ, if_neg hq] at hz; simp at hz
        simp only [List.singleton_append, getL, hn0, hb, hm, e, hlt, false_and, false_or, not_true_eq_false, if_false, List.length_append, List.length_singleton]

theorem get_enc {u : Nat} (h : u < 18446744073709551616) (rest : List Nat) : getN (enc u ++ rest) = some (u, (enc u).length) := by
  unfold getN
  have hl : (enc u).length ≤ 10 := by
    rw [enc_eq, List.length_append]
    have : hi 10 (u / 128) = hi 9 (u / 128) := tailB_more 9 (u / 128) [] (by omega)
    rw [this]
    have := hi_len 9 (u / 128)
    simp; omega
  rw [List.take_append, List.take_of_length_le hl]
  generalize List.take _ rest = rest'
  rw [enc_eq, List.append_assoc, getL_hi 10 (u / 128) (by omega) _ (by omega) (by simp)]
  have e : u / 128 * 128 + u % 128 % 128 = u := by omega
  have hb : u % 128 < 128 := by omega
  by_cases hq : u / 128 = 0
  · rw [if_pos hq, hq, hi_zero]
    have hne : ¬ u % 128 = 128 := by omega
    have e : 0 * 128 + u % 128 % 128 = u := by omega
    simp only [List.singleton_append, getL, hb, e, hne, and_false, false_or, if_true, List.nil_append, List.length_singleton]
    simp
  · rw [if_neg hq]
    have hlt : u / 128 < 144115188075855872 := by omega
    have hne : ¬ u % 128 = 128 := by omega
    simp only [List.singleton_append, getL, hb, e, hlt, hne, and_false, false_or, not_true_eq_false, if_false, if_true, List.length_append, List.length_singleton]

/-! Order. -/
theorem hi_mono : ∀ (n u v : Nat), u ≤ v → (hi n u).length ≤ (hi n v).length
  | 0, _, _, _ => Nat.le_refl _
  | n + 1, u, v, h => by
    rw [hi_succ, hi_succ]
    by_cases hu : u = 0
    · rw [if_pos hu]; exact Nat.zero_le _
    · rw [if_neg hu, if_neg (by omega), List.length_append, List.length_append]
      have := hi_mono n (u / 128) (v / 128) (by omega)
      simp only [List.length_singleton]
      omega
theorem hi_inj : ∀ (n u v : Nat), u < 128 ^ n → v < 128 ^ n → hi n u = hi n v → u = v
  | 0, u, v, hu, hv, _ => by
    have : u = 0 := by simpa using hu
    have : v = 0 := by simpa using hv
    omega
  | n + 1, u, v, hu, hv, h => by
    rw [hi_succ, hi_succ] at h
    by_cases hu0 : u = 0
    · by_cases hv0 : v = 0
      · omega
      · rw [if_pos hu0, if_neg hv0] at h; simp at h
    · by_cases hv0 : v = 0
      · rw [if_neg hu0, if_pos hv0] at h; simp at h
      · rw [if_neg hu0, if_neg hv0] at h
        obtain ⟨h1, h2⟩ := List.append_inj' h rfl
        have := hi_inj n (u / 128) (v / 128) (by rw [Nat.pow_succ] at hu; omega) (by rw [Nat.pow_succ] at hv; omega) h1
        simp at h2
        omega

theorem ltL_snoc : ∀ (X Y : List Nat), X.length = Y.length → ∀ (x y : Nat), ltL ((X ++ [x]).map fun (b : Nat) => (b : Int)) ((Y ++ [y]).map fun (b : Nat) => (b : Int)) =
    (ltL (X.map fun (b : Nat) => (b : Int)) (Y.map fun (b : Nat) => (b : Int)) || (decide (X = Y) && decide (x < y)))
  | [], [], _, x, y => by simp [ltL]
  | [], _ :: _, h, _, _ => by simp at h
  | _ :: _, [], h, _, _ => by simp at h
  | a :: X, b :: Y, h, x, y => by
    simp only [List.cons_append, List.map_cons, ltL]
    rw [ltL_snoc X Y (by simpa using h)]
    by_cases hab : a = b
    · subst hab
      simp
    · have : ((a : Int) == (b : Int)) = false := by rw [beq_eq_false_iff_ne]; omega
      simp [hab, this]

theorem hi_lex : ∀ (n u v : Nat), u < 128 ^ n → v < 128 ^ n → (hi n u).length = (hi n v).length →
    ltL ((hi n u).map fun (b : Nat) => (b : Int)) ((hi n v).map fun (b : Nat) => (b : Int)) = decide (u < v)
  | 0, u, v, hu, hv, _ => by
    have h1 : u = 0 := by simpa using hu
    have h2 : v = 0 := by simpa using hv
    subst h1 h2
    rfl
  | n + 1, u, v, hu, hv, h => by
    rw [hi_succ, hi_succ] at h ⊢
    by_cases hu0 : u = 0
    · by_cases hv0 : v = 0
      · rw [if_pos hu0, if_pos hv0, hu0, hv0]; rfl
      · rw [if_pos hu0, if_neg hv0] at h; simp at h
    · by_cases hv0 : v = 0
      · rw [if_neg hu0, if_pos hv0] at h; simp at h
      · rw [if_neg hu0, if_neg hv0] at h ⊢
        have hl : (hi n (u / 128)).length = (hi n (v / 128)).length := by simpa using h
        have h1 : u / 128 < 128 ^ n := by rw [Nat.pow_succ] at hu; omega
        have h2 : v / 128 < 128 ^ n := by rw [Nat.pow_succ] at hv; omega
        rw [ltL_snoc _ _ hl, hi_lex n _ _ h1 h2 hl]
        have key : decide (hi n (u / 128) = hi n (v / 128)) = decide (u / 128 = v / 128) := decide_eq_decide.2 ⟨hi_inj n _ _ h1 h2, fun e => by rw [e]⟩
        rw [key]
        by_cases e : u / 128 = v / 128
        · simp [e]; omega
        · simp [e]; omega

theorem enc_order {u v : Nat} (hu : u < 18446744073709551616) (hv : v < 18446744073709551616) (h : (enc u).length = (enc v).length) :
    ltL ((enc u).map fun (b : Nat) => (b : Int)) ((enc v).map fun (b : Nat) => (b : Int)) = decide (u < v) := by
  rw [enc_eq, enc_eq] at h ⊢
  have hl : (hi 10 (u / 128)).length = (hi 10 (v / 128)).length := by simpa using h
  rw [ltL_snoc _ _ hl, hi_lex 10 _ _ (by omega) (by omega) hl]
  have key : decide (hi 10 (u / 128) = hi 10 (v / 128)) = decide (u / 128 = v / 128) := decide_eq_decide.2 ⟨hi_inj 10 _ _ (by omega) (by omega), fun e => by rw [e]⟩
  rw [key]
  by_cases e : u / 128 = v / 128
  · simp [e]; omega
  · simp [e]; omega
theorem enc_longer {u v : Nat} (h : (enc u).length ≠ (enc v).length) : decide (u < v) = decide ((enc u).length < (enc v).length) := by
  rw [enc_eq, enc_eq] at h ⊢
  simp only [List.length_append, List.length_singleton, ne_eq, Nat.add_right_cancel_iff] at h ⊢
  have h1 := hi_mono 10 (u / 128) (v / 128)
  have h2 := hi_mono 10 (v / 128) (u / 128)
  rw [decide_eq_decide]
  omega

/-! A number's lowest bytes. -/
def fixL (u n : Nat) : List Nat := (List.range n).map fun i => u / 256 ^ i % 256
def fixR (u n : Nat) : List Nat := if n ≤ 8 then fixL u n else []
theorem fixL_len (u n : Nat) : (fixL u n).length = n := by simp [fixL]
theorem fixL_succ (u n : Nat) : fixL u (n + 1) = fixL u n ++ [u / 256 ^ n % 256] := by simp [fixL, List.range_succ]
theorem fixL_lt (u n : Nat) : ∀ b ∈ fixL u n, b < 256 := fun b hb => by
  obtain ⟨i, _, rfl⟩ := List.mem_map.1 hb
  omega
theorem fixR_lt (u n : Nat) : ∀ b ∈ fixR u n, b < 256 := fun b hb => by
  unfold fixR at hb
  split at hb
  · exact fixL_lt _ _ b hb
  · cases hb
theorem fix_set (u n i : Nat) (h : i < n) : (fixL u i ++ List.replicate (n - i) 0).set i (u / 256 ^ i % 256) = fixL u (i + 1) ++ List.replicate (n - (i + 1)) 0 := by
  rw [List.set_append_right _ _ (by rw [fixL_len]; omega), fixL_len, Nat.sub_self, show n - i = (n - (i + 1)) + 1 by omega, List.replicate_succ, List.set_cons_zero, fixL_succ, List.append_assoc]
  rfl
def unfixL : List Nat → Nat
  | [] => 0
  | b :: bs => b + 256 * unfixL bs
theorem unfix_snoc : ∀ (bs : List Nat) (b : Nat), unfixL (bs ++ [b]) = unfixL bs + b * 256 ^ bs.length
  | [], b => by simp [unfixL]
  | x :: bs, b => by
    rw [List.cons_append, unfixL, unfixL, unfix_snoc bs b, List.length_cons, Nat.pow_succ, Nat.mul_add, Nat.add_assoc]
    congr 2
    rw [← Nat.mul_assoc, Nat.mul_comm 256 b, Nat.mul_assoc, Nat.mul_comm 256]
theorem unfix_lt : ∀ bs : List Nat, (∀ b ∈ bs, b < 256) → unfixL bs < 256 ^ bs.length
  | [], _ => by decide
  | x :: bs, h => by
    have h1 := h x List.mem_cons_self
    have h2 := unfix_lt bs fun b hb => h b (List.mem_cons_of_mem _ hb)
    rw [unfixL, List.length_cons, Nat.pow_succ]
    omega
theorem unfix_fix (u : Nat) : ∀ n, unfixL (fixL u n) = u % 256 ^ n
  | 0 => by simp [fixL, unfixL, Nat.mod_one]
  | n + 1 => by
    rw [fixL_succ, unfix_snoc, unfix_fix u n, fixL_len, Nat.mod_pow_succ, Nat.mul_comm]
def unfix (bs : List Nat) : Nat := unfixL (bs.take 8)
theorem unfix_bound {bs : List Nat} (h : ∀ b ∈ bs, b < 256) : unfix bs < 18446744073709551616 := by
  have h1 := unfix_lt (bs.take 8) fun b hb => h b (List.mem_of_mem_take hb)
  have h2 : (bs.take 8).length ≤ 8 := by rw [List.length_take]; omega
  have h3 : 256 ^ (bs.take 8).length ≤ 256 ^ 8 := Nat.pow_le_pow_right (by decide) h2
  unfold unfix
  have h4 : 256 ^ 8 = 18446744073709551616 := by decide
  omega
end Go.AM.St
namespace Go.AM.St
open Go Go.AM

structure RecP where
  kind : Int
  nums : List Int
  texts : List (List Nat)

def mayR (r : RecP) : Bool := decide (0 ≤ r.kind) && decide (r.kind ≤ 255) && decide (r.nums.length ≤ 40) && decide (r.texts.length ≤ 40) && r.texts.all fun t => decide (t.length ≤ 200)
/-- Numbers one behind the other. -/
def encI : List Int → List Nat
  | [] => []
  | x :: xs => enc (zigN x) ++ encI xs
def encT : List (List Nat) → List Nat
  | [] => []
  | t :: ts => enc (zigN (t.length : Int)) ++ t ++ encT ts
def putR (r : RecP) : List Nat := enc (zigN r.kind) ++ enc (zigN (r.nums.length : Int)) ++ encI r.nums ++ enc (zigN (r.texts.length : Int)) ++ encT r.texts

theorem encI_snoc : ∀ (xs : List Int) (x : Int), encI (xs ++ [x]) = encI xs ++ enc (zigN x)
  | [], x => by simp [encI]
  | y :: xs, x => by rw [List.cons_append, encI, encI, encI_snoc xs x, List.append_assoc]
theorem encT_snoc : ∀ (xs : List (List Nat)) (x : List Nat), encT (xs ++ [x]) = encT xs ++ (enc (zigN (x.length : Int)) ++ x)
  | [], x => by simp [encT]
  | y :: xs, x => by rw [List.cons_append, encT, encT, encT_snoc xs x]; simp only [List.append_assoc]
theorem encI_len : ∀ xs : List Int, (encI xs).length ≤ 11 * xs.length
  | [] => Nat.le_refl _
  | x :: xs => by
    have := enc_len (zigN x)
    have := encI_len xs
    rw [encI, List.length_append, List.length_cons]
    omega
theorem encT_len : ∀ xs : List (List Nat), (∀ t ∈ xs, t.length ≤ 200) → (encT xs).length ≤ 211 * xs.length
  | [], _ => Nat.le_refl _
  | x :: xs, h => by
    have := enc_len (zigN (x.length : Int))
    have := encT_len xs fun t ht => h t (List.mem_cons_of_mem _ ht)
    have := h x List.mem_cons_self
    rw [encT, List.length_append, List.length_append, List.length_cons]
    omega
theorem encI_lt : ∀ xs : List Int, ∀ b ∈ encI xs, b < 256
  | [], b, h => by cases h
  | x :: xs, b, h => (List.mem_append.1 h).elim (enc_lt _ b) (encI_lt xs b)
theorem encT_lt : ∀ xs : List (List Nat), (∀ t ∈ xs, ∀ b ∈ t, b < 256) → ∀ b ∈ encT xs, b < 256
  | [], _, b, h => by cases h
  | x :: xs, hx, b, h => by
    rw [encT] at h
    rcases List.mem_append.1 h with h | h
    · rcases List.mem_append.1 h with h | h
      · exact enc_lt _ b h
      · exact hx x List.mem_cons_self b h
    · exact encT_lt xs (fun t ht => hx t (List.mem_cons_of_mem _ ht)) b h
theorem may_iff {r : RecP} : mayR r = true ↔ (0 ≤ r.kind ∧ r.kind ≤ 255) ∧ r.nums.length ≤ 40 ∧ r.texts.length ≤ 40 ∧ ∀ t ∈ r.texts, t.length ≤ 200 := by
  unfold mayR
  simp only [Bool.and_eq_true, decide_eq_true_eq, List.all_eq_true]
  constructor
  · rintro ⟨⟨⟨⟨h1, h2⟩, h3⟩, h4⟩, h5⟩; exact ⟨⟨h1, h2⟩, h3, h4, h5⟩
  · rintro ⟨⟨h1, h2⟩, h3, h4, h5⟩; exact ⟨⟨⟨⟨h1, h2⟩, h3⟩, h4⟩, h5⟩
theorem putR_len {r : RecP} (h : mayR r = true) : (putR r).length ≤ 9000 := by
  obtain ⟨_, h3, h4, h5⟩ := may_iff.1 h
  have := enc_len (zigN r.kind)
  have := enc_len (zigN (r.nums.length : Int))
  have := encI_len r.nums
  have := enc_len (zigN (r.texts.length : Int))
  have := encT_len r.texts h5
  unfold putR
  simp only [List.length_append]
  omega
theorem putR_lt {r : RecP} (h : ∀ t ∈ r.texts, ∀ b ∈ t, b < 256) : ∀ b ∈ putR r, b < 256 := fun b hb => by
  unfold putR at hb
  rcases List.mem_append.1 hb with hb | hb
  · rcases List.mem_append.1 hb with hb | hb
    · rcases List.mem_append.1 hb with hb | hb
      · rcases List.mem_append.1 hb with hb | hb
        · exact enc_lt _ b hb
        · exact enc_lt _ b hb
      · exact encI_lt _ b hb
    · exact enc_lt _ b hb
  · exact encT_lt _ h b hb
end Go.AM.St
