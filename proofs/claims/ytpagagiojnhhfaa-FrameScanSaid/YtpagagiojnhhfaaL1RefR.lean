/- The reference's records: May, Eq, Rec. -/
import Derived.Test.YtpagagiojnhhfaaL1Rec2
import Derived.Test.YtpagagiojnhhfaaL1Ref
namespace Go.Proofs.Ytpagagiojnhhfaa
open Go Go.AM Go.AM.St
attribute [local irreducible] IntKind.wrap Int.fdiv Int.tdiv Int.tmod BitVec.ofInt appendK sliceK indexAddrK ldK storeK seenK makeSliceK
set_option maxRecDepth 100000
variable {D : Drawer}

theorem rmay_spec {n : Nat} {a b : SA} {r : RecP} (hn : 60 ≤ n) (h50 : r.texts.length ≤ 50) (h51 : r.nums.length ≤ 50) {σ : H} (hr : IsR σ a b r) {K : AV → H → Bool} (hK : ∀ σ', σ <+: σ' → K (.bool (mayR r)) σ' = true) :
    acall Try.prog tab D n 40 [recV a b r] σ K = true := by
  obtain ⟨n, rfl, hn⟩ := up hn
  have g := get_new σ (AO.cells [.int .i64 r.kind, .sl a r.nums.length, .sl b r.texts.length] 3 .own)
  have pf := List.prefix_append σ [AO.cells [AV.int .i64 r.kind, .sl a r.nums.length, .sl b r.texts.length] 3 .own]
  have hK' := hK _ pf
  have hm : mayR r = (decide (0 ≤ r.kind) && decide (r.kind ≤ 255) && decide (r.nums.length ≤ 40) && decide (r.texts.length ≤ 40) && r.texts.all fun t => decide (t.length ≤ 200)) := rfl
  conv => lhs; whnf
  refine loop_rule (m := 10) (fun q fr τ => ∃ (z : Int) (i : Nat), z = (i : Int) ∧ i + q = r.texts.length ∧ τ = σ ++ [AO.cells [AV.int .i64 r.kind, .sl a r.nums.length, .sl b r.texts.length] 3 .own] ∧ (∀ t ∈ r.texts.take i, t.length ≤ 200) ∧
      fr = [.bad, .ptr (some ⟨σ.length, 0, 0, 3⟩), .bad, .int .i64 z, .bad, .bad, .bad, .bad, .bad, .bad, .bad, .bad, .bad, .bad, .bad, .bad, .bad, .bad, .bad, .bad, .bad, .bad, .bad, .bad, .bad, .bad, .bad, .bad, .bad, .bad, .bad, .bad, .bad, .bad, .bad, .bad, .bad, .bad]) ?_ _ r.texts.length _ _ (by omega) ⟨_, 0, rfl, by omega, rfl, fun t h => by simp at h, rfl⟩
  rintro q fr τ C ⟨z, i, rfl, hi, rfl, ht, rfl⟩ next fin
  conv => lhs; whnf
  refine ldF rfl rfl rfl g rfl ?_
  conv => lhs; whnf
  refine bif_case (fun h => ?_) (fun h => ?_)
  · have hlt : i < r.texts.length := by simpa using h
    conv => lhs; whnf
    refine ldF rfl rfl rfl g rfl ?_
    conv => lhs; whnf
    refine tt43.idx (hr.texts.mono pf) rfl hlt fun p hp => ?_
    conv => lhs; whnf
    refine tt43.ld hp ?_
    have hl : (ints r.texts[i]).length = r.texts[i].length := by simp [ints]
    conv => lhs; whnf
    by_cases hc : r.texts[i].length ≤ 200
    · refine bif_neg (by rw [hl]; simp; omega) ?_
      conv => lhs; whnf
      refine next (q - 1) _ _ (by omega) ⟨_, i + 1, inc_i64 (by omega), by omega, rfl, fun t hT => ?_, rfl⟩
      rw [← List.take_append_getElem hlt] at hT
      rcases List.mem_append.1 hT with hT | hT
      · exact ht t hT
      · rw [List.mem_singleton] at hT; rw [hT]; exact hc
    · refine bif_pos (by rw [hl]; simp; omega) ?_
      conv => lhs; whnf
      refine fin _ _ _ nofun ?_
      have : (r.texts.all fun t => decide (t.length ≤ 200)) = false := by
        rw [List.all_eq_false]
        exact ⟨_, List.getElem_mem hlt, by simp; omega⟩
      rw [hm, this, Bool.and_false] at hK'
      conv => lhs; whnf
      exact hK'
  · obtain rfl : i = r.texts.length := by have : ¬ i < r.texts.length := by simpa using h
                                          omega
    rw [List.take_length] at ht
    have ha : (r.texts.all fun t => decide (t.length ≤ 200)) = true := List.all_eq_true.2 fun t h => decide_eq_true (ht t h)
    rw [hm, ha, Bool.and_true] at hK'
    conv => lhs; whnf
    refine fin _ _ _ nofun ?_
    conv => lhs; whnf
    refine ldF rfl rfl rfl g rfl ?_
    conv => lhs; whnf
    by_cases h1 : 0 ≤ r.kind
    case' neg =>
      rw [decide_eq_false h1] at hK'
      refine bif_neg (by simpa using h1) ?_
      conv => lhs; whnf
      exact hK'
    case' pos =>
      refine bif_pos (by simpa using h1) ?_
      conv => lhs; whnf
      refine ldF rfl rfl rfl g rfl ?_
      conv => lhs; whnf
      rw [decide_eq_true h1, Bool.true_and] at hK'
      by_cases h2 : r.kind ≤ 255
      case' neg =>
        rw [decide_eq_false h2] at hK'
        refine bif_neg (by simpa using h2) ?_
        conv => lhs; whnf
        exact hK'
      case' pos =>
        refine bif_pos (by simpa using h2) ?_
        conv => lhs; whnf
        refine ldF rfl rfl rfl g rfl ?_
        conv => lhs; whnf
        rw [decide_eq_true h2, Bool.true_and] at hK'
        by_cases h3 : r.nums.length ≤ 40
        case' neg =>
          rw [decide_eq_false h3] at hK'
          refine bif_neg (by simp; omega) ?_
          conv => lhs; whnf
          exact hK'
        case' pos =>
          refine bif_pos (by simp; omega) ?_
          conv => lhs; whnf
          refine ldF rfl rfl rfl g rfl ?_
          conv => lhs; whnf
          rw [decide_eq_true h3, Bool.true_and] at hK'
          by_cases h4 : r.texts.length ≤ 40
          case' neg =>
            rw [decide_eq_false h4] at hK'
            refine bif_neg (by simp; omega) ?_
            conv => lhs; whnf
            exact hK'
          case' pos =>
            rw [decide_eq_true h4] at hK'
            refine bif_pos (by simp; omega) ?_
            conv => lhs; whnf
            exact hK'

theorem req_spec {n : Nat} {a b a' b' : SA} {r s : RecP} (hn : 60 ≤ n) (h1 : r.nums.length ≤ 50) (h2 : r.texts.length ≤ 50) (hD : ByPlan Try.prog D) {σ : H} (hr : IsR σ a b r) (hs : IsR σ a' b' s) {K : AV → H → Bool}
    (hK : ∀ σ', σ <+: σ' → K (.bool (recEq r s)) σ' = true) : acall Try.prog tab D n 42 [recV a b r, recV a' b' s] σ K = true := by
  obtain ⟨n, rfl, hn⟩ := up hn
  have g := get_old (get_new σ (AO.cells [.int .i64 r.kind, .sl a r.nums.length, .sl b r.texts.length] 3 .own)) (AO.cells [.int .i64 s.kind, .sl a' s.nums.length, .sl b' s.texts.length] 3 .own)
  have g' := get_new (σ ++ [AO.cells [.int .i64 r.kind, .sl a r.nums.length, .sl b r.texts.length] 3 .own]) (AO.cells [.int .i64 s.kind, .sl a' s.nums.length, .sl b' s.texts.length] 3 .own)
  have pf : σ <+: σ ++ [AO.cells [AV.int .i64 r.kind, .sl a r.nums.length, .sl b r.texts.length] 3 .own] ++ [AO.cells [.int .i64 s.kind, .sl a' s.nums.length, .sl b' s.texts.length] 3 .own] :=
    List.IsPrefix.trans (List.prefix_append _ _) (List.prefix_append _ _)
  have hK' := hK _ pf
  have no : ∀ {p : Prop}, (r = s → p) → ¬ p → recEq r s = false := fun {p} h hp => by
    unfold recEq
    rw [Bool.and_eq_false_iff, Bool.and_eq_false_iff]
    simp only [decide_eq_false_iff_not]
    by_cases e1 : r.kind = s.kind
    · by_cases e2 : r.nums = s.nums
      · by_cases e3 : r.texts = s.texts
        · exfalso
          refine hp (h ?_)
          cases r; cases s; simp only at e1 e2 e3; rw [e1, e2, e3]
        · exact .inr e3
      · exact .inl (.inr e2)
    · exact .inl (.inl e1)
  conv => lhs; whnf
  refine ldF rfl rfl rfl g rfl ?_
  conv => lhs; whnf
  refine ldF rfl rfl rfl g' rfl ?_
  conv => lhs; whnf
  by_cases hk : r.kind = s.kind
  case neg =>
    rw [no (fun e => by rw [e]) hk] at hK'
    refine bif_pos (by simp [hk]) ?_
    conv => lhs; whnf
    exact hK'
  refine bif_neg (by simp [hk]) ?_
  conv => lhs; whnf
  refine ldF rfl rfl rfl g rfl ?_
  conv => lhs; whnf
  refine ldF rfl rfl rfl g' rfl ?_
  conv => lhs; whnf
  by_cases hln : r.nums.length = s.nums.length
  case neg =>
    rw [no (fun e => by rw [e]) hln] at hK'
    refine bif_pos (by simp; omega) ?_
    conv => lhs; whnf
    exact hK'
  refine bif_neg (by simp [hln]) ?_
  conv => lhs; whnf
  refine ldF rfl rfl rfl g rfl ?_
  conv => lhs; whnf
  refine ldF rfl rfl rfl g' rfl ?_
  conv => lhs; whnf
  by_cases hlt : r.texts.length = s.texts.length
  case neg =>
    rw [no (fun e => by rw [e]) hlt] at hK'
    refine bif_pos (by simp; omega) ?_
    conv => lhs; whnf
    exact hK'
  refine bif_neg (by simp [hlt]) ?_
  conv => lhs; whnf
  refine loop_rule (m := 44) (fun q fr τ => ∃ (z : Int) (i : Nat), z = (i : Int) ∧ i + q = r.nums.length ∧ τ = σ ++ [AO.cells [AV.int .i64 r.kind, .sl a r.nums.length, .sl b r.texts.length] 3 .own] ++ [AO.cells [.int .i64 s.kind, .sl a' s.nums.length, .sl b' s.texts.length] 3 .own] ∧
      r.nums.take i = s.nums.take i ∧
      fr = [.bad, .bad, .ptr (some ⟨σ.length, 0, 0, 3⟩), .ptr (some ⟨(σ ++ [AO.cells [AV.int .i64 r.kind, .sl a r.nums.length, .sl b r.texts.length] 3 .own]).length, 0, 0, 3⟩), .bad, .int .i64 z, .bad, .bad, .bad, .bad, .bad, .bad, .bad, .bad, .bad, .bad, .bad, .bad, .bad, .bad, .bad, .bad, .bad, .bad, .bad, .bad, .bad, .bad, .bad, .bad, .bad, .bad, .bad, .bad, .bad, .bad, .bad, .bad, .bad, .bad, .bad, .bad, .bad, .bad, .bad, .bad, .bad, .bad, .bad, .bad, .bad, .bad, .bad, .bad, .bad, .bad, .bad, .bad, .bad, .bad, .bad, .bad, .bad, .bad, .bad, .bad]) ?_ _ r.nums.length _ _ (by omega) ⟨_, 0, rfl, by omega, rfl, rfl, rfl⟩
  rintro q fr τ C ⟨z, i, rfl, hi, rfl, ht, rfl⟩ next fin
  conv => lhs; whnf
  refine ldF rfl rfl rfl g rfl ?_
  conv => lhs; whnf
  refine bif_case (fun h => ?_) (fun h => ?_)
  · have hl1 : i < r.nums.length := by simpa using h
    have hl2 : i < s.nums.length := by omega
    conv => lhs; whnf
    refine hD.go plan42x6 ord42x6 ?_
    conv => lhs; whnf
    refine ldF rfl rfl rfl g rfl ?_
    conv => lhs; whnf
    refine it42.idx (hr.nums.mono pf) rfl hl1 fun p hp => ?_
    conv => lhs; whnf
    refine it42.ld hp ?_
    conv => lhs; whnf
    refine ldF rfl rfl rfl g' rfl ?_
    conv => lhs; whnf
    refine it42.idx (hs.nums.mono pf) rfl hl2 fun p hp => ?_
    conv => lhs; whnf
    refine it42.ld hp ?_
    conv => lhs; whnf
    by_cases hc : r.nums[i] = s.nums[i]
    · refine bif_neg (by simp [hc]) ?_
      conv => lhs; whnf
      exact next (q - 1) _ _ (by omega) ⟨_, i + 1, inc_i64 (by omega), by omega, rfl, take_eq ht hl1 hl2 hc, rfl⟩
    · refine bif_pos (by simp [hc]) ?_
      conv => lhs; whnf
      refine fin _ _ _ nofun ?_
      rw [no (fun e => by subst e; rfl) hc] at hK'
      conv => lhs; whnf
      exact hK'
  · obtain rfl : i = r.nums.length := by have : ¬ i < r.nums.length := by simpa using h
                                         omega
    rw [List.take_length, hln, List.take_length] at ht
    clear next
    conv => lhs; whnf
    refine fin _ _ _ nofun ?_
    conv => lhs; whnf
    refine loop_rule (m := 76) (fun q fr τ => ∃ (z : Int) (i : Nat), z = (i : Int) ∧ i + q = r.texts.length ∧ τ = σ ++ [AO.cells [AV.int .i64 r.kind, .sl a r.nums.length, .sl b r.texts.length] 3 .own] ++ [AO.cells [.int .i64 s.kind, .sl a' s.nums.length, .sl b' s.texts.length] 3 .own] ∧
        r.texts.take i = s.texts.take i ∧
        fr = [.bad, .bad, .ptr (some ⟨σ.length, 0, 0, 3⟩), .ptr (some ⟨(σ ++ [AO.cells [AV.int .i64 r.kind, .sl a r.nums.length, .sl b r.texts.length] 3 .own]).length, 0, 0, 3⟩), .bad, .bad, .int .i64 z, .bad, .bad, .bad, .bad, .bad, .bad, .bad, .bad, .bad, .bad, .bad, .bad, .bad, .bad, .bad, .bad, .bad, .bad, .bad, .bad, .bad, .bad, .bad, .bad, .bad, .bad, .bad, .bad, .bad, .bad, .bad, .bad, .bad, .bad, .bad, .bad, .bad, .bad, .bad, .bad, .bad, .bad, .bad, .bad, .bad, .bad, .bad, .bad, .bad, .bad, .bad, .bad, .bad, .bad, .bad, .bad, .bad, .bad, .bad]) ?_ _ r.texts.length _ _ (by omega) ⟨_, 0, rfl, by omega, rfl, rfl, rfl⟩
    clear fin
    rintro q fr τ C ⟨z, i, rfl, hi, rfl, ht2, rfl⟩ next fin
    conv => lhs; whnf
    refine ldF rfl rfl rfl g rfl ?_
    conv => lhs; whnf
    refine bif_case (fun h => ?_) (fun h => ?_)
    · have hl1 : i < r.texts.length := by simpa using h
      have hl2 : i < s.texts.length := by omega
      conv => lhs; whnf
      refine hD.go plan42x11 ord42x11 ?_
      conv => lhs; whnf
      refine ldF rfl rfl rfl g rfl ?_
      conv => lhs; whnf
      refine tt43.idx (hr.texts.mono pf) rfl hl1 fun p hp => ?_
      conv => lhs; whnf
      refine tt43.ld hp ?_
      conv => lhs; whnf
      refine ldF rfl rfl rfl g' rfl ?_
      conv => lhs; whnf
      refine tt43.idx (hs.texts.mono pf) rfl hl2 fun p hp => ?_
      conv => lhs; whnf
      refine tt43.ld hp ?_
      conv => lhs; whnf
      by_cases hc : r.texts[i] = s.texts[i]
      · refine bif_neg (by simp [hc]) ?_
        conv => lhs; whnf
        exact next (q - 1) _ _ (by omega) ⟨_, i + 1, inc_i64 (by omega), by omega, rfl, take_eq ht2 hl1 hl2 hc, rfl⟩
      · refine bif_pos (by simp [ints_eq, hc]) ?_
        conv => lhs; whnf
        refine fin _ _ _ nofun ?_
        rw [no (fun e => by subst e; rfl) hc] at hK'
        conv => lhs; whnf
        exact hK'
    · obtain rfl : i = r.texts.length := by have : ¬ i < r.texts.length := by simpa using h
                                            omega
      rw [List.take_length, hlt, List.take_length] at ht2
      have : recEq r s = true := by unfold recEq; rw [decide_eq_true hk, decide_eq_true ht, decide_eq_true ht2]; rfl
      rw [this] at hK'
      conv => lhs; whnf
      refine fin _ _ _ nofun ?_
      conv => lhs; whnf
      exact hK'
end Go.Proofs.Ytpagagiojnhhfaa
