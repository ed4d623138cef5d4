/- Reading records: plain. -/
import Derived.Test.YtpagagiojnhhfaaPRec
namespace Go.AM.St
open Go Go.AM

def begL (m : Nat) : Nat → Nat → List Nat → Bool
  | _, _, [] => true
  | i, u, x :: xs => if x < 128 ∨ (i = 0 ∧ x = 128) then false else if m < u * 128 + x % 128 then false else begL m (i + 1) (u * 128 + x % 128) xs

/-- A reader: where it stands, why it can't go on. -/
structure Rd where
  pos : Nat
  err : Nat

def numR (bs : List Nat) (most : Nat) (s : Rd) : Int × Rd :=
  if s.err ≠ 0 then (0, s) else
    if 0 < (getR (bs.drop s.pos)).2 ∧ zigN (getR (bs.drop s.pos)).1 ≤ most then ((getR (bs.drop s.pos)).1, ⟨s.pos + (getR (bs.drop s.pos)).2, 0⟩)
    else if (getR (bs.drop s.pos)).2 = 0 ∧ begL (most / 128) 0 0 (bs.drop s.pos) = true then (0, ⟨s.pos, 2⟩) else (0, ⟨s.pos, 1⟩)
def cntR (bs : List Nat) (m : Nat) (s : Rd) : Int × Rd :=
  if (numR bs (2 * m) s).1 < 0 then (0, ⟨(numR bs (2 * m) s).2.pos, 1⟩) else numR bs (2 * m) s
def txtR (bs : List Nat) (s : Rd) : List Nat × Rd :=
  if (cntR bs 200 s).2.err ≠ 0 then ([], (cntR bs 200 s).2)
  else if bs.length - (cntR bs 200 s).2.pos < (cntR bs 200 s).1.toNat then ([], ⟨(cntR bs 200 s).2.pos, 2⟩)
  else ((bs.drop (cntR bs 200 s).2.pos).take (cntR bs 200 s).1.toNat, ⟨(cntR bs 200 s).2.pos + (cntR bs 200 s).1.toNat, 0⟩)
def numsR (bs : List Nat) : Nat → Rd → List Int × Rd
  | 0, s => ([], s)
  | n + 1, s => ((numR bs 18446744073709551615 s).1 :: (numsR bs n (numR bs 18446744073709551615 s).2).1, (numsR bs n (numR bs 18446744073709551615 s).2).2)
def txtsR (bs : List Nat) : Nat → Rd → List (List Nat) × Rd
  | 0, s => ([], s)
  | n + 1, s => ((txtR bs s).1 :: (txtsR bs n (txtR bs s).2).1, (txtsR bs n (txtR bs s).2).2)

theorem getL_bound : ∀ (xs : List Nat) (i u v k : Nat), getL i u xs = some (v, k) → i < k ∧ k ≤ i + xs.length
  | [], i, u, v, k, h => by cases h
  | x :: xs, i, u, v, k, h => by
    rw [getL] at h
    split at h
    · cases h
    · split at h
      · cases h; simp
      · have := getL_bound xs _ _ _ _ h
        simp only [List.length_cons]
        omega
theorem getR_bound (bs : List Nat) : (getR bs).2 ≤ bs.length ∧ (getR bs).2 ≤ 10 := by
  unfold getR
  split
  · rename_i v k h
    have := (getL_bound _ _ _ _ _ h).2
    rw [List.length_take] at this
    show k ≤ _ ∧ k ≤ _
    omega
  · exact ⟨Nat.zero_le _, Nat.zero_le _⟩
theorem getL_val : ∀ (xs : List Nat) (i u v k : Nat), u < 18446744073709551616 → getL i u xs = some (v, k) → v < 18446744073709551616
  | [], i, u, v, k, _, h => by cases h
  | x :: xs, i, u, v, k, hu, h => by
    rw [getL] at h
    split at h
    · cases h
    · rename_i hc
      split at h
      · cases h; omega
      · exact getL_val xs _ _ _ _ (by omega) h
theorem zagI_range {u : Nat} (h : u < 18446744073709551616) : -9223372036854775808 ≤ zagI u ∧ zagI u ≤ 9223372036854775807 := by
  unfold zagI
  split <;> omega
theorem getR_range (bs : List Nat) : -9223372036854775808 ≤ (getR bs).1 ∧ (getR bs).1 ≤ 9223372036854775807 := by
  unfold getR
  split
  · rename_i v k h
    exact zagI_range (getL_val _ _ _ _ _ (by decide) h)
  · exact ⟨by decide, by decide⟩
theorem numR_pos {bs : List Nat} {most : Nat} {s : Rd} (h : s.pos ≤ bs.length) : (numR bs most s).2.pos ≤ bs.length := by
  have := (getR_bound (bs.drop s.pos)).1
  rw [List.length_drop] at this
  unfold numR
  split
  · exact h
  · split
    · show s.pos + _ ≤ _; omega
    · split
      · exact h
      · exact h
theorem numR_range (bs : List Nat) (most : Nat) (s : Rd) : -9223372036854775808 ≤ (numR bs most s).1 ∧ (numR bs most s).1 ≤ 9223372036854775807 := by
  unfold numR
  split
  · exact ⟨by simp, by simp⟩
  · split
    · exact getR_range _
    · split <;> exact ⟨by simp, by simp⟩
theorem cntR_pos {bs : List Nat} {m : Nat} {s : Rd} (h : s.pos ≤ bs.length) : (cntR bs m s).2.pos ≤ bs.length := by
  unfold cntR
  split
  · exact numR_pos h
  · exact numR_pos h
theorem cntR_range {bs : List Nat} {m : Nat} {s : Rd} : 0 ≤ (cntR bs m s).1 ∧ (cntR bs m s).1 ≤ m := by
  unfold cntR
  split
  · exact ⟨by simp, by simp⟩
  · rename_i h
    refine ⟨by omega, ?_⟩
    revert h
    unfold numR
    split
    · intro; show (0 : Int) ≤ _; omega
    · split
      · rename_i hc
        intro hn
        have h2 := hc.2
        simp only at hn ⊢
        unfold zigN at h2
        rw [if_neg hn] at h2
        omega
      · split <;> intro <;> (show (0 : Int) ≤ _; omega)
theorem txtR_pos {bs : List Nat} {s : Rd} (h : s.pos ≤ bs.length) : (txtR bs s).2.pos ≤ bs.length := by
  have := cntR_pos (m := 200) h
  unfold txtR
  split
  · exact this
  · split
    · exact this
    · show _ + _ ≤ _; omega

theorem numsR_succ (bs : List Nat) : ∀ (i : Nat) (s : Rd), numsR bs (i + 1) s = ((numsR bs i s).1 ++ [(numR bs 18446744073709551615 (numsR bs i s).2).1], (numR bs 18446744073709551615 (numsR bs i s).2).2)
  | 0, s => rfl
  | i + 1, s => by
    rw [numsR, numsR_succ bs i, numsR]
    rfl
theorem txtsR_succ (bs : List Nat) : ∀ (i : Nat) (s : Rd), txtsR bs (i + 1) s = ((txtsR bs i s).1 ++ [(txtR bs (txtsR bs i s).2).1], (txtR bs (txtsR bs i s).2).2)
  | 0, s => rfl
  | i + 1, s => by
    rw [txtsR, txtsR_succ bs i, txtsR]
    rfl
theorem numsR_len (bs : List Nat) : ∀ (i : Nat) (s : Rd), (numsR bs i s).1.length = i
  | 0, s => rfl
  | i + 1, s => by rw [numsR]; simp only [List.length_cons]; rw [numsR_len bs i]
theorem txtsR_len (bs : List Nat) : ∀ (i : Nat) (s : Rd), (txtsR bs i s).1.length = i
  | 0, s => rfl
  | i + 1, s => by rw [txtsR]; simp only [List.length_cons]; rw [txtsR_len bs i]
theorem numsR_pos {bs : List Nat} : ∀ (i : Nat) {s : Rd}, s.pos ≤ bs.length → (numsR bs i s).2.pos ≤ bs.length
  | 0, _, h => h
  | i + 1, _, h => numsR_pos i (numR_pos h)
theorem txtsR_pos {bs : List Nat} : ∀ (i : Nat) {s : Rd}, s.pos ≤ bs.length → (txtsR bs i s).2.pos ≤ bs.length
  | 0, _, h => h
  | i + 1, _, h => txtsR_pos i (txtR_pos h)

def recGetJ (c1 : Int × Rd) (ns : List Int × Rd) (ts : List (List Nat) × Rd) : RecP × Nat × Nat := if ts.2.err ≠ 0 then (⟨0, [], []⟩, 0, ts.2.err) else (⟨c1.1, ns.1, ts.1⟩, ts.2.pos, 0)
def recGetI (bs : List Nat) (c1 : Int × Rd) (ns : List Int × Rd) (c3 : Int × Rd) : RecP × Nat × Nat := recGetJ c1 ns (txtsR bs c3.1.toNat c3.2)
def recGetH (bs : List Nat) (c1 : Int × Rd) (ns : List Int × Rd) : RecP × Nat × Nat := recGetI bs c1 ns (cntR bs 40 ns.2)
def recGetG (bs : List Nat) (c1 c2 : Int × Rd) : RecP × Nat × Nat := recGetH bs c1 (numsR bs c2.1.toNat c2.2)
def recGetF (bs : List Nat) (c1 : Int × Rd) : RecP × Nat × Nat := recGetG bs c1 (cntR bs 40 c1.2)
/-- What a record's reader tells of bytes. -/
def recGet (bs : List Nat) : RecP × Nat × Nat := recGetF bs (cntR bs 255 ⟨0, 0⟩)
end Go.AM.St
