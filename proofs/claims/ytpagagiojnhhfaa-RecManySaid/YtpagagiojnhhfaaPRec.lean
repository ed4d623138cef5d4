/- Records as bytes: plain. -/
import Derived.Test.YtpagagiojnhhfaaPWord
namespace Go.AM.St
open Go Go.AM

structure RecP where
  kind : Int
  nums : List Int
  texts : List (List Nat)

def mayR (r : RecP) : Bool := decide (0 ≤ r.kind) && decide (r.kind ≤ 255) && decide (r.nums.length ≤ 40) && decide (r.texts.length ≤ 40) && r.texts.all fun t => decide (t.length ≤ 200)
/-- Numbers one behind the other. -/
def encI : List Int → List Nat
  | [] => []
  | x :: xs => enc (zigN x) ++ encI xs
def encT : List (List Nat) → List Nat
  | [] => []
  | t :: ts => enc (zigN (t.length : Int)) ++ t ++ encT ts
def putR (r : RecP) : List Nat := enc (zigN r.kind) ++ enc (zigN (r.nums.length : Int)) ++ encI r.nums ++ enc (zigN (r.texts.length : Int)) ++ encT r.texts

theorem encI_snoc : ∀ (xs : List Int) (x : Int), encI (xs ++ [x]) = encI xs ++ enc (zigN x)
  | [], x => by simp [encI]
  | y :: xs, x => by rw [List.cons_append, encI, encI, encI_snoc xs x, List.append_assoc]
theorem encT_snoc : ∀ (xs : List (List Nat)) (x : List Nat), encT (xs ++ [x]) = encT xs ++ (enc (zigN (x.length : Int)) ++ x)
  | [], x => by simp [encT]
  | y :: xs, x => by rw [List.cons_append, encT, encT, encT_snoc xs x]; simp only [List.append_assoc]
theorem encI_len : ∀ xs : List Int, (encI xs).length ≤ 11 * xs.length
  | [] => Nat.le_refl _
  | x :: xs => by
    have := enc_len (zigN x)
    have := encI_len xs
    rw [encI, List.length_append, List.length_cons]
    omega
theorem encT_len : ∀ xs : List (List Nat), (∀ t ∈ xs, t.length ≤ 200) → (encT xs).length ≤ 211 * xs.length
  | [], _ => Nat.le_refl _
  | x :: xs, h => by
    have := enc_len (zigN (x.length : Int))
    have := encT_len xs fun t ht => h t (List.mem_cons_of_mem _ ht)
    have := h x List.mem_cons_self
    rw [encT, List.length_append, List.length_append, List.length_cons]
    omega
theorem encI_lt : ∀ xs : List Int, ∀ b ∈ encI xs, b < 256
  | [], b, h => by cases h
  | x :: xs, b, h => (List.mem_append.1 h).elim (enc_lt _ b) (encI_lt xs b)
theorem encT_lt : ∀ xs : List (List Nat), (∀ t ∈ xs, ∀ b ∈ t, b < 256) → ∀ b ∈ encT xs, b < 256
  | [], _, b, h => by cases h
  | x :: xs, hx, b, h => by
    rw [encT] at h
    rcases List.mem_append.1 h with h | h
    · rcases List.mem_append.1 h with h | h
      · exact enc_lt _ b h
      · exact hx x List.mem_cons_self b h
    · exact encT_lt xs (fun t ht => hx t (List.mem_cons_of_mem _ ht)) b h
theorem may_iff {r : RecP} : mayR r = true ↔ (0 ≤ r.kind ∧ r.kind ≤ 255) ∧ r.nums.length ≤ 40 ∧ r.texts.length ≤ 40 ∧ ∀ t ∈ r.texts, t.length ≤ 200 := by
  unfold mayR
  simp only [Bool.and_eq_true, decide_eq_true_eq, List.all_eq_true]
  constructor
  · rintro ⟨⟨⟨⟨h1, h2⟩, h3⟩, h4⟩, h5⟩; exact ⟨⟨h1, h2⟩, h3, h4, h5⟩
  · rintro ⟨⟨h1, h2⟩, h3, h4, h5⟩; exact ⟨⟨⟨⟨h1, h2⟩, h3⟩, h4⟩, h5⟩
theorem putR_len {r : RecP} (h : mayR r = true) : (putR r).length ≤ 9000 := by
  obtain ⟨_, h3, h4, h5⟩ := may_iff.1 h
  have := enc_len (zigN r.kind)
  have := enc_len (zigN (r.nums.length : Int))
  have := encI_len r.nums
  have := enc_len (zigN (r.texts.length : Int))
  have := encT_len r.texts h5
  unfold putR
  simp only [List.length_append]
  omega
theorem putR_lt {r : RecP} (h : ∀ t ∈ r.texts, ∀ b ∈ t, b < 256) : ∀ b ∈ putR r, b < 256 := fun b hb => by
  unfold putR at hb
  rcases List.mem_append.1 hb with hb | hb
  · rcases List.mem_append.1 hb with hb | hb
    · rcases List.mem_append.1 hb with hb | hb
      · rcases List.mem_append.1 hb with hb | hb
        · exact enc_lt _ b hb
        · exact enc_lt _ b hb
      · exact encI_lt _ b hb
    · exact enc_lt _ b hb
  · exact encT_lt _ h b hb
end Go.AM.St
