/- The reference's records: May, Eq, Rec. -/
import Derived.Test.YtpagagiojnhhfabL1Rec2
import Derived.Test.YtpagagiojnhhfabL1Ref
namespace Go.Proofs.Ytpagagiojnhhfab
open Go Go.AM Go.AM.St
attribute [local irreducible] IntKind.wrap Int.fdiv Int.tdiv Int.tmod BitVec.ofInt appendK sliceK indexAddrK ldK storeK seenK makeSliceK
set_option maxRecDepth 100000
variable {D : Drawer}

theorem rmay_spec {n : Nat} {a b : SA} {r : RecP} (hn : 60 ≤ n) (h50 : r.texts.length ≤ 50) (h51 : r.nums.length ≤ 50) {σ : H} (hr : IsR σ a b r) {K : AV → H → Bool} (hK : ∀ σ', σ <+: σ' → K (.bool (mayR r)) σ' = true) :
    acall Try.prog tab D n 7 [recV a b r] σ K = true := by
  obtain ⟨n, rfl, hn⟩ := up hn
  have g := get_new σ (AO.cells [.int .i64 r.kind, .sl a r.nums.length, .sl b r.texts.length] 3 .own)
  have pf := List.prefix_append σ [AO.cells [AV.int .i64 r.kind, .sl a r.nums.length, .sl b r.texts.length] 3 .own]
  have hK' := hK _ pf
  have hm : mayR r = (decide (0 ≤ r.kind) && decide (r.kind ≤ 255) && decide (r.nums.length ≤ 40) && decide (r.texts.length ≤ 40) && r.texts.all fun t => decide (t.length ≤ 200)) := rfl
  conv => lhs; whnf
  refine loop_rule (m := 10) (fun q fr τ => ∃ (z : Int) (i : Nat), z = (i : Int) ∧ i + q = r.texts.length ∧ τ = σ ++ [AO.cells [AV.int .i64 r.kind, .sl a r.nums.length, .sl b r.texts.length] 3 .own] ∧ (∀ t ∈ r.texts.take i, t.length ≤ 200) ∧
      fr = [.bad, .ptr (some ⟨σ.length, 0, 0, 3⟩), .bad, .int .i64 z, .bad, .bad, .bad, .bad, .bad, .bad, .bad, .bad, .bad, .bad, .bad, .bad, .bad, .bad, .bad, .bad, .bad, .bad, .bad, .bad, .bad, .bad, .bad, .bad, .bad, .bad, .bad, .bad, .bad, .bad, .bad, .bad, .bad, .bad]) ?_ _ r.texts.length _ _ (by omega) ⟨_, 0, rfl, by omega, rfl, fun t h => by simp at h, rfl⟩
  rintro q fr τ C ⟨z, i, rfl, hi, rfl, ht, rfl⟩ next fin
  conv => lhs; whnf
  refine ldF rfl rfl rfl g rfl ?_
  conv => lhs; whnf
  refine bif_case (fun h => ?_) (fun h => ?_)
  · have hlt : i < r.texts.length := by simpa using h
    conv => lhs; whnf
    refine ldF rfl rfl rfl g rfl ?_
    conv => lhs; whnf
    refine tt43.idx (hr.texts.mono pf) rfl hlt fun p hp => ?_
    conv => lhs; whnf
    refine tt43.ld hp ?_
    have hl : (ints r.texts[i]).length = r.texts[i].length := by simp [ints]
    conv => lhs; whnf
    by_cases hc : r.texts[i].length ≤ 200
    · refine bif_neg (by rw [hl]; simp; omega) ?_
      conv => lhs; whnf
      refine next (q - 1) _ _ (by omega) ⟨_, i + 1, inc_i64 (by omega), by omega, rfl, fun t hT => ?_, rfl⟩
      rw [← List.take_append_getElem hlt] at hT
      rcases List.mem_append.1 hT with hT | hT
      · exact ht t hT
      · rw [List.mem_singleton] at hT; rw [hT]; exact hc
    · refine bif_pos (by rw [hl]; simp; omega) ?_
      conv => lhs; whnf
      refine fin _ _ _ nofun ?_
      have : (r.texts.all fun t => decide (t.length ≤ 200)) = false := by
        rw [List.all_eq_false]
        exact ⟨_, List.getElem_mem hlt, by simp; omega⟩
      rw [hm, this, Bool.and_false] at hK'
      conv => lhs; whnf
      exact hK'
  · obtain rfl : i = r.texts.length := by have : ¬ i < r.texts.length := by simpa using h
                                          omega
    rw [List.take_length] at ht
    have ha : (r.texts.all fun t => decide (t.length ≤ 200)) = true := List.all_eq_true.2 fun t h => decide_eq_true (ht t h)
    rw [hm, ha, Bool.and_true] at hK'
    conv => lhs; whnf
    refine fin _ _ _ nofun ?_
    conv => lhs; whnf
    refine ldF rfl rfl rfl g rfl ?_
    conv => lhs; whnf
    by_cases h1 : 0 ≤ r.kind
    case' neg =>
      rw [decide_eq_false h1] at hK'
      refine bif_neg (by simpa using h1) ?_
      conv => lhs; whnf
      exact hK'
    case' pos =>
      refine bif_pos (by simpa using h1) ?_
      conv => lhs; whnf
      refine ldF rfl rfl rfl g rfl ?_
      conv => lhs; whnf
      rw [decide_eq_true h1, Bool.true_and] at hK'
      by_cases h2 : r.kind ≤ 255
      case' neg =>
        rw [decide_eq_false h2] at hK'
        refine bif_neg (by simpa using h2) ?_
        conv => lhs; whnf
        exact hK'
      case' pos =>
        refine bif_pos (by simpa using h2) ?_
        conv => lhs; whnf
        refine ldF rfl rfl rfl g rfl ?_
        conv => lhs; whnf
        rw [decide_eq_true h2, Bool.true_and] at hK'
        by_cases h3 : r.nums.length ≤ 40
        case' neg =>
          rw [decide_eq_false h3] at hK'
          refine bif_neg (by simp; omega) ?_
          conv => lhs; whnf
          exact hK'
        case' pos =>
          refine bif_pos (by simp; omega) ?_
          conv => lhs; whnf
          refine ldF rfl rfl rfl g rfl ?_
          conv => lhs; whnf
          rw [decide_eq_true h3, Bool.true_and] at hK'
          by_cases h4 : r.texts.length ≤ 40
          case' neg =>
            rw [decide_eq_false h4] at hK'
            refine bif_neg (by simp; omega) ?_
            conv => lhs; whnf
            exact hK'
          case' pos =>
            rw [decide_eq_true h4] at hK'
            refine bif_pos (by simp; omega) ?_
            conv => lhs; whnf
            exact hK'

end Go.Proofs.Ytpagagiojnhhfab
