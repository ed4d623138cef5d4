/- The document's median is the median: plain. -/
import Derived.Test.YtdiajgenbjdfiaaPVote
namespace Go.AM.St
open Go Go.AM
/-- How many are as great. -/
def cntI (zs : List Int) (x : Int) : Nat := zs.countP fun y => decide (x ≤ y)
def refAt (zs : List Int) (i : Nat) (best : Int) (any : Bool) : Prop :=
  (any = false ∧ best = 0 ∧ ∀ j (h : j < zs.length), j < i → cntI zs zs[j] < mostN zs.length) ∨
  (any = true ∧ best ∈ zs ∧ mostN zs.length ≤ cntI zs best ∧ ∀ j (h : j < zs.length), j < i → mostN zs.length ≤ cntI zs zs[j] → zs[j] ≤ best)
theorem refAt_zero (zs : List Int) : refAt zs 0 0 false := .inl ⟨rfl, rfl, fun _ _ h => absurd h (Nat.not_lt_zero _)⟩
theorem refAt_skip {zs : List Int} {i : Nat} {best : Int} {any : Bool} (h : refAt zs i best any) (hi : i < zs.length) (hc : ¬ (mostN zs.length ≤ cntI zs zs[i] ∧ (any = false ∨ best < zs[i]))) : refAt zs (i + 1) best any := by
  rcases h with ⟨rfl, h1, h2⟩ | ⟨rfl, h1, h2, h3⟩
  · refine .inl ⟨rfl, h1, fun j hj hji => ?_⟩
    rcases Nat.lt_succ_iff_lt_or_eq.1 hji with hlt | rfl
    · exact h2 j hj hlt
    · exact Nat.lt_of_not_le fun hle => hc ⟨hle, .inl rfl⟩
  · refine .inr ⟨rfl, h1, h2, fun j hj hji hle => ?_⟩
    rcases Nat.lt_succ_iff_lt_or_eq.1 hji with hlt | rfl
    · exact h3 j hj hlt hle
    · exact Int.not_lt.1 fun hlt => hc ⟨hle, .inr hlt⟩
theorem refAt_take {zs : List Int} {i : Nat} {best : Int} {any : Bool} (h : refAt zs i best any) (hi : i < zs.length) (hc : mostN zs.length ≤ cntI zs zs[i]) (hb : any = false ∨ best < zs[i]) : refAt zs (i + 1) zs[i] true := by
  refine .inr ⟨rfl, List.getElem_mem hi, hc, fun j hj hji hle => ?_⟩
  rcases Nat.lt_succ_iff_lt_or_eq.1 hji with hlt | rfl
  · rcases h with ⟨rfl, h1, h2⟩ | ⟨rfl, h1, h2, h3⟩
    · exact absurd hle (Nat.not_le.2 (h2 j hj hlt))
    · rcases hb with hb | hb
      · cases hb
      · exact Int.le_trans (h3 j hj hlt hle) (Int.le_of_lt hb)
  · exact Int.le_refl _
theorem med_mem {zs : List Int} (h : zs.length ≠ 0) : medI zs ∈ zs := by
  obtain ⟨hk, hm⟩ := med_at h
  rw [← hm]
  exact (sortI_perm zs).mem_iff.1 (List.getElem_mem hk)
theorem cnt_le {zs : List Int} (h : zs.length ≠ 0) {x : Int} (hx : mostN zs.length ≤ cntI zs x) : x ≤ medI zs := by
  refine Int.not_lt.1 fun hlt => ?_
  have h1 := (med_count h).2
  have h2 : cntI zs x ≤ zs.countP (fun y => decide (medI zs < y)) := List.countP_mono_left fun y _ hy => by
    have := of_decide_eq_true hy
    exact decide_eq_true (by omega)
  omega
theorem refAt_end {zs : List Int} {best : Int} {any : Bool} (h : refAt zs zs.length best any) : best = medI zs := by
  by_cases h0 : zs.length = 0
  · rcases h with ⟨_, h1, _⟩ | ⟨_, h1, _⟩
    · rw [h1]; unfold medI; rw [if_pos h0]
    · rw [List.length_eq_zero_iff.1 h0] at h1; cases h1
  · have hc := (med_count h0).1
    obtain ⟨j, hj, he⟩ := List.mem_iff_getElem.1 (med_mem h0)
    rcases h with ⟨_, _, h2⟩ | ⟨_, h1, h2, h3⟩
    · have := h2 j hj hj
      rw [he] at this
      unfold cntI at this
      omega
    · have h4 := h3 j hj hj (by rw [he]; exact hc)
      rw [he] at h4
      have h5 := cnt_le h0 h2
      omega
end Go.AM.St
