/- The reference's records: May, Eq, Rec. -/
import Derived.Test.YtdiajgenbjdfiaaL1Rec2
namespace Go.Proofs.Ytdiajgenbjdfiaa
open Go Go.AM Go.AM.St
attribute [local irreducible] IntKind.wrap Int.fdiv Int.tdiv Int.tmod BitVec.ofInt appendK sliceK indexAddrK ldK storeK seenK makeSliceK
set_option maxRecDepth 100000
variable {D : Drawer}

theorem req_spec {n : Nat} {a b a' b' : SA} {r s : RecP} (hn : 60 ≤ n) (h1 : r.nums.length ≤ 50) (h2 : r.texts.length ≤ 50) (hD : ByPlan Try.prog D) {σ : H} (hr : IsR σ a b r) (hs : IsR σ a' b' s) {K : AV → H → Bool}
    (hK : ∀ σ', σ <+: σ' → K (.bool (recEq r s)) σ' = true) : acall Try.prog tab D n 35 [recV a b r, recV a' b' s] σ K = true := by
  obtain ⟨n, rfl, hn⟩ := up hn
  have g := get_old (get_new σ (AO.cells [.int .i64 r.kind, .sl a r.nums.length, .sl b r.texts.length] 3 .own)) (AO.cells [.int .i64 s.kind, .sl a' s.nums.length, .sl b' s.texts.length] 3 .own)
  have g' := get_new (σ ++ [AO.cells [.int .i64 r.kind, .sl a r.nums.length, .sl b r.texts.length] 3 .own]) (AO.cells [.int .i64 s.kind, .sl a' s.nums.length, .sl b' s.texts.length] 3 .own)
  have pf : σ <+: σ ++ [AO.cells [AV.int .i64 r.kind, .sl a r.nums.length, .sl b r.texts.length] 3 .own] ++ [AO.cells [.int .i64 s.kind, .sl a' s.nums.length, .sl b' s.texts.length] 3 .own] :=
    List.IsPrefix.trans (List.prefix_append _ _) (List.prefix_append _ _)
  have hK' := hK _ pf
  have no : ∀ {p : Prop}, (r = s → p) → ¬ p → recEq r s = false := fun {p} h hp => by
    unfold recEq
    rw [Bool.and_eq_false_iff, Bool.and_eq_false_iff]
    simp only [decide_eq_false_iff_not]
    by_cases e1 : r.kind = s.kind
    · by_cases e2 : r.nums = s.nums
      · by_cases e3 : r.texts = s.texts
        · exfalso
          refine hp (h ?_)
          cases r; cases s; simp only at e1 e2 e3; rw [e1, e2, e3]
        · exact .inr e3
      · exact .inl (.inr e2)
    · exact .inl (.inl e1)
  conv => lhs; whnf
  refine ldF rfl rfl rfl g rfl ?_
  conv => lhs; whnf
  refine ldF rfl rfl rfl g' rfl ?_
  conv => lhs; whnf
  by_cases hk : r.kind = s.kind
  case neg =>
    rw [no (fun e => by rw [e]) hk] at hK'
    refine bif_pos (by simp [hk]) ?_
    conv => lhs; whnf
    exact hK'
  refine bif_neg (by simp [hk]) ?_
  conv => lhs; whnf
  refine ldF rfl rfl rfl g rfl ?_
  conv => lhs; whnf
  refine ldF rfl rfl rfl g' rfl ?_
  conv => lhs; whnf
  by_cases hln : r.nums.length = s.nums.length
  case neg =>
    rw [no (fun e => by rw [e]) hln] at hK'
    refine bif_pos (by simp; omega) ?_
    conv => lhs; whnf
    exact hK'
  refine bif_neg (by simp [hln]) ?_
  conv => lhs; whnf
  refine ldF rfl rfl rfl g rfl ?_
  conv => lhs; whnf
  refine ldF rfl rfl rfl g' rfl ?_
  conv => lhs; whnf
  by_cases hlt : r.texts.length = s.texts.length
  case neg =>
    rw [no (fun e => by rw [e]) hlt] at hK'
    refine bif_pos (by simp; omega) ?_
    conv => lhs; whnf
    exact hK'
  refine bif_neg (by simp [hlt]) ?_
  conv => lhs; whnf
  refine loop_rule (m := 44) (fun q fr τ => ∃ (z : Int) (i : Nat), z = (i : Int) ∧ i + q = r.nums.length ∧ τ = σ ++ [AO.cells [AV.int .i64 r.kind, .sl a r.nums.length, .sl b r.texts.length] 3 .own] ++ [AO.cells [.int .i64 s.kind, .sl a' s.nums.length, .sl b' s.texts.length] 3 .own] ∧
      r.nums.take i = s.nums.take i ∧
      fr = [.bad, .bad, .ptr (some ⟨σ.length, 0, 0, 3⟩), .ptr (some ⟨(σ ++ [AO.cells [AV.int .i64 r.kind, .sl a r.nums.length, .sl b r.texts.length] 3 .own]).length, 0, 0, 3⟩), .bad, .int .i64 z, .bad, .bad, .bad, .bad, .bad, .bad, .bad, .bad, .bad, .bad, .bad, .bad, .bad, .bad, .bad, .bad, .bad, .bad, .bad, .bad, .bad, .bad, .bad, .bad, .bad, .bad, .bad, .bad, .bad, .bad, .bad, .bad, .bad, .bad, .bad, .bad, .bad, .bad, .bad, .bad, .bad, .bad, .bad, .bad, .bad, .bad, .bad, .bad, .bad, .bad, .bad, .bad, .bad, .bad, .bad, .bad, .bad, .bad, .bad, .bad]) ?_ _ r.nums.length _ _ (by omega) ⟨_, 0, rfl, by omega, rfl, rfl, rfl⟩
  rintro q fr τ C ⟨z, i, rfl, hi, rfl, ht, rfl⟩ next fin
  conv => lhs; whnf
  refine ldF rfl rfl rfl g rfl ?_
  conv => lhs; whnf
  refine bif_case (fun h => ?_) (fun h => ?_)
  · have hl1 : i < r.nums.length := by simpa using h
    have hl2 : i < s.nums.length := by omega
    conv => lhs; whnf
    refine hD.go plan35x6 ord35x6 ?_
    conv => lhs; whnf
    refine ldF rfl rfl rfl g rfl ?_
    conv => lhs; whnf
    refine it42.idx (hr.nums.mono pf) rfl hl1 fun p hp => ?_
    conv => lhs; whnf
    refine it42.ld hp ?_
    conv => lhs; whnf
    refine ldF rfl rfl rfl g' rfl ?_
    conv => lhs; whnf
    refine it42.idx (hs.nums.mono pf) rfl hl2 fun p hp => ?_
    conv => lhs; whnf
    refine it42.ld hp ?_
    conv => lhs; whnf
    by_cases hc : r.nums[i] = s.nums[i]
    · refine bif_neg (by simp [hc]) ?_
      conv => lhs; whnf
      exact next (q - 1) _ _ (by omega) ⟨_, i + 1, inc_i64 (by omega), by omega, rfl, take_eq ht hl1 hl2 hc, rfl⟩
    · refine bif_pos (by simp [hc]) ?_
      conv => lhs; whnf
      refine fin _ _ _ nofun ?_
      rw [no (fun e => by subst e; rfl) hc] at hK'
      conv => lhs; whnf
      exact hK'
  · obtain rfl : i = r.nums.length := by have : ¬ i < r.nums.length := by simpa using h
                                         omega
    rw [List.take_length, hln, List.take_length] at ht
    clear next
    conv => lhs; whnf
    refine fin _ _ _ nofun ?_
    conv => lhs; whnf
    refine loop_rule (m := 76) (fun q fr τ => ∃ (z : Int) (i : Nat), z = (i : Int) ∧ i + q = r.texts.length ∧ τ = σ ++ [AO.cells [AV.int .i64 r.kind, .sl a r.nums.length, .sl b r.texts.length] 3 .own] ++ [AO.cells [.int .i64 s.kind, .sl a' s.nums.length, .sl b' s.texts.length] 3 .own] ∧
        r.texts.take i = s.texts.take i ∧
        fr = [.bad, .bad, .ptr (some ⟨σ.length, 0, 0, 3⟩), .ptr (some ⟨(σ ++ [AO.cells [AV.int .i64 r.kind, .sl a r.nums.length, .sl b r.texts.length] 3 .own]).length, 0, 0, 3⟩), .bad, .bad, .int .i64 z, .bad, .bad, .bad, .bad, .bad, .bad, .bad, .bad, .bad, .bad, .bad, .bad, .bad, .bad, .bad, .bad, .bad, .bad, .bad, .bad, .bad, .bad, .bad, .bad, .bad, .bad, .bad, .bad, .bad, .bad, .bad, .bad, .bad, .bad, .bad, .bad, .bad, .bad, .bad, .bad, .bad, .bad, .bad, .bad, .bad, .bad, .bad, .bad, .bad, .bad, .bad, .bad, .bad, .bad, .bad, .bad, .bad, .bad, .bad]) ?_ _ r.texts.length _ _ (by omega) ⟨_, 0, rfl, by omega, rfl, rfl, rfl⟩
    clear fin
    rintro q fr τ C ⟨z, i, rfl, hi, rfl, ht2, rfl⟩ next fin
    conv => lhs; whnf
    refine ldF rfl rfl rfl g rfl ?_
    conv => lhs; whnf
    refine bif_case (fun h => ?_) (fun h => ?_)
    · have hl1 : i < r.texts.length := by simpa using h
      have hl2 : i < s.texts.length := by omega
      conv => lhs; whnf
      refine hD.go plan35x11 ord35x11 ?_
      conv => lhs; whnf
      refine ldF rfl rfl rfl g rfl ?_
      conv => lhs; whnf
      refine tt43.idx (hr.texts.mono pf) rfl hl1 fun p hp => ?_
      conv => lhs; whnf
      refine tt43.ld hp ?_
      conv => lhs; whnf
      refine ldF rfl rfl rfl g' rfl ?_
      conv => lhs; whnf
      refine tt43.idx (hs.texts.mono pf) rfl hl2 fun p hp => ?_
      conv => lhs; whnf
      refine tt43.ld hp ?_
      conv => lhs; whnf
      by_cases hc : r.texts[i] = s.texts[i]
      · refine bif_neg (by simp [hc]) ?_
        conv => lhs; whnf
        exact next (q - 1) _ _ (by omega) ⟨_, i + 1, inc_i64 (by omega), by omega, rfl, take_eq ht2 hl1 hl2 hc, rfl⟩
      · refine bif_pos (by simp [ints_eq, hc]) ?_
        conv => lhs; whnf
        refine fin _ _ _ nofun ?_
        rw [no (fun e => by subst e; rfl) hc] at hK'
        conv => lhs; whnf
        exact hK'
    · obtain rfl : i = r.texts.length := by have : ¬ i < r.texts.length := by simpa using h
                                            omega
      rw [List.take_length, hlt, List.take_length] at ht2
      have : recEq r s = true := by unfold recEq; rw [decide_eq_true hk, decide_eq_true ht, decide_eq_true ht2]; rfl
      rw [this] at hK'
      conv => lhs; whnf
      refine fin _ _ _ nofun ?_
      conv => lhs; whnf
      exact hK'
end Go.Proofs.Ytdiajgenbjdfiaa
