/- What was written as a record is read. -/
import Derived.Test.YtpagagiojnhhfaaPGet
namespace Go.AM.St
open Go Go.AM

theorem getR_enc' {x : Int} (h1 : -9223372036854775808 ≤ x) (h2 : x ≤ 9223372036854775807) (rest : List Nat) : getR (enc (zigN x) ++ rest) = (x, (enc (zigN x)).length) := by
  unfold getR
  rw [get_enc (zigN_lt h1 h2)]
  show (zagI (zigN x), _) = _
  rw [zag_zig]
theorem enc_pos' (u : Nat) : 0 < (enc u).length := by rw [enc_eq]; simp
theorem numR_at {bs pre rest : List Nat} {x : Int} {most : Nat} (h1 : -9223372036854775808 ≤ x) (h2 : x ≤ 9223372036854775807) (hm : zigN x ≤ most) (hb : bs = pre ++ (enc (zigN x) ++ rest)) :
    numR bs most ⟨pre.length, 0⟩ = (x, ⟨(pre ++ enc (zigN x)).length, 0⟩) := by
  subst hb
  unfold numR
  rw [if_neg (by simp)]
  simp only [List.drop_left]
  rw [getR_enc' h1 h2, if_pos ⟨enc_pos' _, hm⟩, List.length_append]
theorem zigN_nat (k : Nat) : zigN (k : Int) = 2 * k := by
  unfold zigN
  rw [if_neg (by omega)]
  omega
theorem cntR_at {bs pre rest : List Nat} {k m : Nat} (hk : k ≤ m) (hm : m ≤ 1000) (hb : bs = pre ++ (enc (zigN (k : Int)) ++ rest)) :
    cntR bs m ⟨pre.length, 0⟩ = ((k : Int), ⟨(pre ++ enc (zigN (k : Int))).length, 0⟩) := by
  have h := numR_at (most := 2 * m) (x := (k : Int)) (by omega) (by omega) (by rw [zigN_nat]; omega) hb
  unfold cntR
  rw [h, if_neg (by simp)]
theorem numsR_at {bs : List Nat} : ∀ (xs : List Int) (pre rest : List Nat), (∀ x ∈ xs, -9223372036854775808 ≤ x ∧ x ≤ 9223372036854775807) → bs = pre ++ (encI xs ++ rest) →
    numsR bs xs.length ⟨pre.length, 0⟩ = (xs, ⟨(pre ++ encI xs).length, 0⟩)
  | [], pre, rest, _, _ => by simp [numsR, encI]
  | x :: xs, pre, rest, hx, hb => by
    have h := hx x List.mem_cons_self
    have h1 := numR_at (most := 18446744073709551615) (bs := bs) (pre := pre) (rest := encI xs ++ rest) h.1 h.2 (by have := zigN_lt h.1 h.2; omega) (by rw [hb, encI, List.append_assoc])
    have h2 := numsR_at (bs := bs) xs (pre ++ enc (zigN x)) rest (fun y hy => hx y (List.mem_cons_of_mem _ hy)) (by rw [hb, encI]; simp only [List.append_assoc])
    rw [List.length_cons, numsR, h1]
    simp only
    rw [h2, encI, List.append_assoc]
theorem txtR_at {bs pre rest t : List Nat} (ht : t.length ≤ 200) (hb : bs = pre ++ (enc (zigN (t.length : Int)) ++ t ++ rest)) :
    txtR bs ⟨pre.length, 0⟩ = (t, ⟨(pre ++ (enc (zigN (t.length : Int)) ++ t)).length, 0⟩) := by
  have h1 := cntR_at (bs := bs) (m := 200) (pre := pre) (rest := t ++ rest) ht (by decide) (by rw [hb, List.append_assoc])
  have hl : bs.length = (pre ++ enc (zigN (t.length : Int))).length + (t.length + rest.length) := by
    rw [hb]; simp only [List.length_append]; omega
  have hd : bs.drop (pre ++ enc (zigN (t.length : Int))).length = t ++ rest := by
    rw [hb, List.append_assoc, ← List.append_assoc, List.drop_left]
  unfold txtR
  rw [h1]
  simp only [Int.toNat_natCast]
  rw [if_neg (by simp), if_neg (by omega), hd, List.take_left]
  simp only [List.length_append, Prod.mk.injEq, true_and]
  congr 1
  omega
theorem txtsR_at {bs : List Nat} : ∀ (ts : List (List Nat)) (pre rest : List Nat), (∀ t ∈ ts, t.length ≤ 200) → bs = pre ++ (encT ts ++ rest) →
    txtsR bs ts.length ⟨pre.length, 0⟩ = (ts, ⟨(pre ++ encT ts).length, 0⟩)
  | [], pre, rest, _, _ => by simp [txtsR, encT]
  | t :: ts, pre, rest, hx, hb => by
    have h1 := txtR_at (bs := bs) (pre := pre) (rest := encT ts ++ rest) (hx t List.mem_cons_self) (by rw [hb, encT]; simp only [List.append_assoc])
    have h2 := txtsR_at (bs := bs) ts (pre ++ (enc (zigN (t.length : Int)) ++ t)) rest (fun y hy => hx y (List.mem_cons_of_mem _ hy)) (by rw [hb, encT]; simp only [List.append_assoc])
    rw [List.length_cons, txtsR, h1]
    simp only
    rw [h2, encT]
    simp only [List.append_assoc]

theorem recGet_put {r : RecP} (hm : mayR r = true) (hn : ∀ x ∈ r.nums, -9223372036854775808 ≤ x ∧ x ≤ 9223372036854775807) (more : List Nat) : recGet (putR r ++ more) = (r, (putR r).length, 0) := by
  obtain ⟨⟨m1, m2⟩, m3, m4, m5⟩ := may_iff.1 hm
  obtain ⟨k, hk⟩ : ∃ k : Nat, r.kind = (k : Int) := ⟨r.kind.toNat, by omega⟩
  have e0 : putR r ++ more = [] ++ (enc (zigN (k : Int)) ++ (enc (zigN (r.nums.length : Int)) ++ encI r.nums ++ enc (zigN (r.texts.length : Int)) ++ encT r.texts ++ more)) := by
    unfold putR; rw [hk]; simp only [List.append_assoc, List.nil_append]
  have h1 := cntR_at (m := 255) (pre := []) (by omega) (by decide) e0
  have e1 : putR r ++ more = ([] ++ enc (zigN (k : Int))) ++ (enc (zigN (r.nums.length : Int)) ++ (encI r.nums ++ enc (zigN (r.texts.length : Int)) ++ encT r.texts ++ more)) := by
    rw [e0]; simp only [List.append_assoc, List.nil_append]
  have h2 := cntR_at (m := 40) m3 (by decide) e1
  have e2 : putR r ++ more = ([] ++ enc (zigN (k : Int)) ++ enc (zigN (r.nums.length : Int))) ++ (encI r.nums ++ (enc (zigN (r.texts.length : Int)) ++ encT r.texts ++ more)) := by
    rw [e0]; simp only [List.append_assoc, List.nil_append]
  have h3 := numsR_at _ _ _ hn e2
  have e3 : putR r ++ more = ([] ++ enc (zigN (k : Int)) ++ enc (zigN (r.nums.length : Int)) ++ encI r.nums) ++ (enc (zigN (r.texts.length : Int)) ++ (encT r.texts ++ more)) := by
    rw [e0]; simp only [List.append_assoc, List.nil_append]
  have h4 := cntR_at (m := 40) m4 (by decide) e3
  have e4 : putR r ++ more = ([] ++ enc (zigN (k : Int)) ++ enc (zigN (r.nums.length : Int)) ++ encI r.nums ++ enc (zigN (r.texts.length : Int))) ++ (encT r.texts ++ more) := by
    rw [e0]; simp only [List.append_assoc, List.nil_append]
  have h5 := txtsR_at _ _ _ m5 e4
  have hz : (⟨0, 0⟩ : Rd) = ⟨([] : List Nat).length, 0⟩ := rfl
  unfold recGet
  rw [hz, h1, recGetF, h2, recGetG]
  simp only [Int.toNat_natCast]
  rw [h3, recGetH, h4, recGetI]
  simp only [Int.toNat_natCast]
  rw [h5, recGetJ, if_neg (by simp)]
  refine Prod.ext ?_ (Prod.ext ?_ rfl)
  · rw [← hk]
  · show _ = (putR r).length
    unfold putR
    rw [hk, List.nil_append]
theorem putR_inj {r s : RecP} (hr : mayR r = true) (hs : mayR s = true) (hn : ∀ x ∈ r.nums, -9223372036854775808 ≤ x ∧ x ≤ 9223372036854775807) (hn' : ∀ x ∈ s.nums, -9223372036854775808 ≤ x ∧ x ≤ 9223372036854775807) (h : putR r = putR s) : r = s := by
  have h1 := recGet_put hr hn []
  have h2 := recGet_put hs hn' []
  rw [h, h2] at h1
  exact (congrArg Prod.fst h1).symm
end Go.AM.St
