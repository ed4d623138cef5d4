/- The runes of a text: those of one byte, and the others. -/
import Derived.Test.YtajincfelnmlhaaGreatGmStep
namespace Go.Proofs.YtajincfelnmlhaaGreat
open Go Go.AM Go.AM.St
theorem get_ofBytes {s : List Nat} {i : Nat} (hi : i < s.length) (hb : s[i] < 256) : ((ofBytesL (ints s)).get! i).toNat = s[i] := by
  have e : (ofBytesL (ints s)).get! i = UInt8.ofNat s[i] := by
    unfold ofBytesL ByteArray.get!
    simp [ints, hi]
  rw [e]
  simp
  omega
theorem decode_low {s : List Nat} {i : Nat} (hi : i < s.length) (hb : s[i] < 128) : Utf8.decode (ofBytesL (ints s)) i = (s[i], 1) := by
  have h := get_ofBytes hi (Nat.lt_trans hb (by decide))
  generalize ofBytesL (ints s) = B at h ⊢
  generalize s[i] = x at h hb ⊢
  unfold Utf8.decode
  simp only [Nat.add_zero]
  simp only [h, hb, if_true]
theorem decode_high {s : List Nat} {i : Nat} (hi : i < s.length) (hb : 128 ≤ s[i]) (h2 : s[i] < 256) : 128 ≤ (Utf8.decode (ofBytesL (ints s)) i).1 ∧ (Utf8.decode (ofBytesL (ints s)) i).1 ≤ 2147483647 := by
  have hr : Utf8.runeError = 65533 := rfl
  have h := get_ofBytes hi h2
  generalize ofBytesL (ints s) = B at h ⊢
  generalize s[i] = x at h hb h2 ⊢
  unfold Utf8.decode
  simp only [Nat.add_zero]
  simp only [h, show ¬ x < 128 from Nat.not_lt.2 hb, if_false]
  split
  · split
    · simp only; omega
    · rw [hr]; simp
  · split
    · split
      · rename_i h
        simp only [Bool.and_eq_true, decide_eq_true_eq] at h
        simp only; omega
      · rw [hr]; simp
    · split
      · split
        · rename_i h
          simp only [Bool.and_eq_true, decide_eq_true_eq] at h
          simp only; omega
        · rw [hr]; simp
      · rw [hr]; simp
end Go.Proofs.YtajincfelnmlhaaGreat
