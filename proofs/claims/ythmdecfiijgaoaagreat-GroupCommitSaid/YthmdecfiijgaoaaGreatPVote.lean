/- Medians: plain. -/
import Derived.Test.YthmdecfiijgaoaaGreatAmSeq
namespace Go.AM.St
open Go Go.AM

def mostN (n : Nat) : Nat := max n 1 / 2 + 1
def medI (zs : List Int) : Int := if zs.length = 0 then 0 else (sortI zs).getD (zs.length - mostN zs.length) 0
theorem mostN_le {n : Nat} (h : 0 < n) : mostN n ≤ n := by unfold mostN; omega
theorem mostN_pos (n : Nat) : 0 < mostN n := by unfold mostN; omega
theorem countP_take_succ (p : Int → Bool) {zs : List Int} {i : Nat} (h : i < zs.length) : (zs.take (i + 1)).countP p = (zs.take i).countP p + if p zs[i] then 1 else 0 := by
  rw [List.take_succ_eq_append_getElem h, List.countP_append, List.countP_singleton]
theorem med_at {zs : List Int} (h : zs.length ≠ 0) : ∃ hk : zs.length - mostN zs.length < (sortI zs).length, (sortI zs)[zs.length - mostN zs.length] = medI zs := by
  have h1 := mostN_pos zs.length
  have hk : zs.length - mostN zs.length < (sortI zs).length := by rw [sortI_len]; omega
  refine ⟨hk, ?_⟩
  unfold medI
  rw [if_neg h, List.getD_eq_getElem?_getD, List.getElem?_eq_getElem hk]; rfl
theorem count_sorted {s : List Int} {k : Nat} {m : Int} (hs : s.Pairwise (· ≤ ·)) (hk : k < s.length) (hm : s[k] = m) :
    s.length - k ≤ s.countP (fun x => decide (m ≤ x)) ∧ s.countP (fun x => decide (m < x)) < s.length - k := by
  have hge : ∀ x ∈ s.drop k, m ≤ x := fun x hx => by
    rw [List.drop_eq_getElem_cons hk, hm] at hx
    rcases List.mem_cons.1 hx with rfl | hx
    · exact Int.le_refl _
    · have hd : (s.drop k).Pairwise (· ≤ ·) := hs.sublist (List.drop_sublist k s)
      rw [List.drop_eq_getElem_cons hk, hm] at hd
      exact (List.pairwise_cons.1 hd).1 x hx
  have hle : ∀ x ∈ s.take (k + 1), x ≤ m := fun x hx => by
    rw [List.take_succ_eq_append_getElem hk, hm] at hx
    rcases List.mem_append.1 hx with hx | hx
    · have hd : (s.take (k + 1)).Pairwise (· ≤ ·) := hs.sublist (List.take_sublist _ s)
      rw [List.take_succ_eq_append_getElem hk, hm] at hd
      exact (List.pairwise_append.1 hd).2.2 x hx m (List.mem_singleton.2 rfl)
    · rw [List.mem_singleton.1 hx]; exact Int.le_refl _
  constructor
  · have e : s.countP (fun x => decide (m ≤ x)) = (s.take k).countP (fun x => decide (m ≤ x)) + (s.drop k).countP (fun x => decide (m ≤ x)) := by
      rw [← List.countP_append, List.take_append_drop]
    have e2 : (s.drop k).countP (fun x => decide (m ≤ x)) = (s.drop k).length := List.countP_eq_length.2 fun x hx => decide_eq_true (hge x hx)
    rw [List.length_drop] at e2
    omega
  · have e : s.countP (fun x => decide (m < x)) = (s.take (k + 1)).countP (fun x => decide (m < x)) + (s.drop (k + 1)).countP (fun x => decide (m < x)) := by
      rw [← List.countP_append, List.take_append_drop]
    have e1 : (s.take (k + 1)).countP (fun x => decide (m < x)) = 0 := List.countP_eq_zero.2 fun x hx => by
      have := hle x hx
      simp; omega
    have e2 : (s.drop (k + 1)).countP (fun x => decide (m < x)) ≤ (s.drop (k + 1)).length := List.countP_le_length
    rw [List.length_drop] at e2
    omega
theorem med_count {zs : List Int} (h : zs.length ≠ 0) : mostN zs.length ≤ zs.countP (fun x => decide (medI zs ≤ x)) ∧ zs.countP (fun x => decide (medI zs < x)) < mostN zs.length := by
  obtain ⟨hk, hm⟩ := med_at h
  have hl := mostN_le (n := zs.length) (by omega)
  have hp := mostN_pos zs.length
  have hc := count_sorted (sortI_sorted zs) hk hm
  have hpm := sortI_perm zs
  rw [hpm.countP_eq, hpm.countP_eq, sortI_len] at hc
  omega
end Go.AM.St
