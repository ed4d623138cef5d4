/- The reference's reader: what bytes may begin. -/
import Derived.Test.YtpagagiojnhhfaaL1Ref2
import Derived.Test.YtpagagiojnhhfaaL1Rec2
import Derived.Test.YtpagagiojnhhfaaGmPlain
namespace Go.Proofs.Ytpagagiojnhhfaa
open Go Go.AM Go.AM.St
attribute [local irreducible] IntKind.wrap Int.fdiv Int.tdiv Int.tmod BitVec.ofInt appendK sliceK indexAddrK ldK storeK seenK makeSliceK
set_option maxRecDepth 100000
variable {D : Drawer}

theorem part_spec {n : Nat} {a : SA} {bs : List Nat} (hn : bs.length + 2 ≤ n) (hl : bs.length < 1000000) {σ : H} (ha : Rw σ 1 a bs.length (u8s bs)) (hb : ∀ b ∈ bs, b < 256) {K : AV → H → Bool}
    (hK : K (.bool (partL 0 0 bs)) σ = true) : acall Try.prog tab D n 65 [.sl a bs.length] σ K = true := by
  obtain ⟨n, rfl, hn⟩ := up hn
  conv => lhs; whnf
  refine loop_rule (m := 25) (fun r fr τ => ∃ (y z : Int) (u i : Nat), y = (u : Int) ∧ z = (i : Int) ∧ u < 18446744073709551616 ∧ i + r = bs.length ∧ τ = σ ∧
      fr = [.sl a bs.length, .bad, .bad, .int .u64 y, .int .i64 z, .bad, .bad, .bad, .bad, .bad, .bad, .bad, .bad, .bad, .bad, .bad, .bad, .bad, .bad, .bad, .bad, .bad, .bad, .bad, .bad, .bad, .bad, .bad, .bad, .bad, .bad, .bad, .bad, .bad, .bad, .bad, .bad, .bad, .bad, .bad, .bad, .bad, .bad, .bad, .bad, .bad, .bad] ∧
      partL 0 0 bs = partL i u (bs.drop i)) ?_ _ bs.length _ _ (by omega) ⟨_, _, 0, 0, rfl, rfl, by decide, by omega, rfl, rfl, rfl⟩
  rintro r fr τ C ⟨y, z, u, i, rfl, rfl, hu, hi, rfl, rfl, he⟩ next fin
  conv => lhs; whnf
  refine bif_case (fun h => ?_) (fun h => ?_)
  · have hlt : i < bs.length := by simpa using h
    have hx : bs[i] < 256 := hb _ (List.getElem_mem _)
    rw [List.drop_eq_getElem_cons hlt] at he
    conv => lhs; whnf
    refine bt.idx ha rfl hlt fun p hp => ?_
    conv => lhs; whnf
    refine bt.ld hp ?_
    conv => lhs; whnf
    refine bt.idx ha rfl hlt fun p hp => ?_
    conv => lhs; whnf
    refine bt.ld hp ?_
    generalize hbi : bs[i] = x at hx he
    rw [partL] at he
    conv => lhs; whnf
    by_cases hc : x < 128 ∨ 144115188075855871 < u ∨ (i = 0 ∧ x = 128)
    · rw [if_pos hc] at he
      rw [he] at hK
      by_cases h1 : x < 128
      · refine bif_pos (by simp; omega) ?_
        conv => lhs; whnf
        refine fin _ _ _ nofun ?_
        conv => lhs; whnf
        exact hK
      · refine bif_neg (by simp; omega) ?_
        conv => lhs; whnf
        by_cases h2 : 144115188075855871 < u
        · refine bif_pos (by rw [refMost]; simp; omega) ?_
          conv => lhs; whnf
          refine fin _ _ _ nofun ?_
          conv => lhs; whnf
          exact hK
        · refine bif_neg (by rw [refMost]; simp; omega) ?_
          conv => lhs; whnf
          refine bif_pos (by simp; omega) ?_
          conv => lhs; whnf
          refine bt.idx ha rfl hlt fun p hp => ?_
          conv => lhs; whnf
          rw [hbi] at hp
          refine bt.ld hp ?_
          conv => lhs; whnf
          refine bif_pos (by simp; omega) ?_
          conv => lhs; whnf
          refine fin _ _ _ nofun ?_
          conv => lhs; whnf
          exact hK
    · rw [if_neg hc] at he
      refine bif_neg (by simp; omega) ?_
      conv => lhs; whnf
      refine bif_neg (by rw [refMost]; simp; omega) ?_
      conv => lhs; whnf
      by_cases hi0 : i = 0
      case' pos =>
        refine bif_pos (by simp [hi0]) ?_
        conv => lhs; whnf
        refine bt.idx ha rfl hlt fun p hp => ?_
        conv => lhs; whnf
        rw [hbi] at hp
        refine bt.ld hp ?_
        conv => lhs; whnf
        refine bif_neg (by simp; omega) ?_
        conv => lhs; whnf
      case' neg =>
        refine bif_neg (by simp; omega) ?_
        conv => lhs; whnf
      all_goals
        exact next (r - 1) _ _ (by omega) ⟨_, _, u * 128 + x % 128, i + 1, refStep (by omega), inc_i64 (by omega), by omega, by omega, rfl, rfl, he⟩
  · obtain rfl : i = bs.length := by have : ¬ i < bs.length := by simpa using h
                                     omega
    rw [List.drop_length, partL] at he
    rw [he] at hK
    conv => lhs; whnf
    refine fin _ _ _ nofun ?_
    conv => lhs; whnf
    by_cases hc : u ≤ 144115188075855871
    · rw [decide_eq_true hc] at hK
      refine bif_pos (by simp; omega) ?_
      conv => lhs; whnf
      exact hK
    · rw [decide_eq_false hc] at hK
      refine bif_neg (by simp; omega) ?_
      conv => lhs; whnf
      exact hK

theorem ableAll_spec {n : Nat} {a : SA} {l : Nat} {x y : Int} (hn : 1 ≤ n) (hx : x = -9223372036854775808) (hy : y = 9223372036854775807) {σ : H} {K : AV → H → Bool} (hK : K (.bool true) σ = true) :
    acall Try.prog tab D n 66 [.sl a l, .int .i64 x, .int .i64 y] σ K = true := by
  obtain ⟨n, rfl, hn⟩ := up hn
  have e : IntKind.i64.wrap (y - x) = -1 := by rw [hx, hy]; decide +kernel
  conv => lhs; whnf
  by_cases h : l = 0
  · refine bif_pos (by simp [h]) ?_
    conv => lhs; whnf
    exact hK
  · refine bif_neg (by simp; omega) ?_
    conv => lhs; whnf
    refine bif_neg (by rw [e]; decide) ?_
    conv => lhs; whnf
    refine bif_pos (by rw [e]; decide) ?_
    conv => lhs; whnf
    exact hK

theorem able_spec {n : Nat} {a : SA} {bs : List Nat} {m : Nat} {q : Int} (hn : 1100 ≤ n) (hq : q = (m : Int)) (hm : m ≤ 1000) (hl : bs.length < 1000000) (hD : ByPlan Try.prog D) {σ : H} (ha : Rw σ 1 a bs.length (u8s bs)) (hb : ∀ b ∈ bs, b < 256) {K : AV → H → Bool}
    (hK : ∀ σ', σ <+: σ' → K (.bool (ableN bs m)) σ' = true) : acall Try.prog tab D n 66 [.sl a bs.length, .int .i64 0, .int .i64 q] σ K = true := by
  subst hq
  obtain ⟨n, rfl, hn⟩ := up hn
  have hA : ableN bs m = (bs.isEmpty || (List.range (m + 1)).any fun n => decide (bs.length < (enc (2 * n)).length) && decide ((enc (2 * n)).take bs.length = bs)) := rfl
  conv => lhs; whnf
  by_cases h0 : bs.length = 0
  · have : ableN bs m = true := by rw [hA, List.isEmpty_iff.2 (List.length_eq_zero_iff.1 h0), Bool.true_or]
    rw [this] at hK
    refine bif_pos (by simp [h0]) ?_
    conv => lhs; whnf
    exact hK _ (List.prefix_refl _)
  · have hne : bs.isEmpty = false := by cases bs with
      | nil => exact absurd rfl h0
      | cons _ _ => rfl
    rw [hne, Bool.false_or] at hA
    have e : IntKind.i64.wrap ((m : Int) - 0) = (m : Int) := by rw [wrap_i64 (by omega) (by omega), Int.sub_zero]
    refine bif_neg (by rw [beq_eq_false_iff_ne]; omega) ?_
    conv => lhs; whnf
    refine bif_neg (by rw [e, decide_eq_false_iff_not]; omega) ?_
    conv => lhs; whnf
    refine bif_neg (by rw [e, decide_eq_false_iff_not]; omega) ?_
    conv => lhs; whnf
    refine loop_rule (m := 133) (fun r fr τ => ∃ (z : Int) (i : Nat), z = (i : Int) ∧ i + r = m + 1 ∧ σ <+: τ ∧
        fr = [.sl a bs.length, .bad, .int .i64 (m : Int), .bad, .bad, .bad, .bad, .int .i64 z, .bad, .bad, .bad, .bad, .bad, .bad, .bad, .bad, .bad, .bad, .bad, .bad, .bad, .bad, .bad, .bad, .bad, .bad, .bad, .bad, .bad, .bad, .bad, .bad, .bad, .bad, .bad, .bad, .bad, .bad, .bad, .bad, .bad, .bad, .bad, .bad, .bad, .bad, .bad] ∧
        (∀ j, j < i → ¬ (bs.length < (enc (2 * j)).length ∧ (enc (2 * j)).take bs.length = bs))) ?_ _ (m + 1) _ _ (by omega) ⟨_, 0, rfl, by omega, List.prefix_refl _, rfl, fun j hj => absurd hj (Nat.not_lt_zero _)⟩
    rintro r fr τ C ⟨z, i, rfl, hi, hp, rfl, hno⟩ next fin
    conv => lhs; whnf
    by_cases hlt : i ≤ m
    · refine bif_pos (by simp; omega) ?_
      conv => lhs; whnf
      refine rput_spec (by omega) (by omega) (by omega) τ _ fun o1 a1 τ1 p1 r1 => ?_
      rw [zigN_nat] at r1 ⊢
      have hel := enc_lt (2 * i)
      conv => lhs; whnf
      refine hD.go plan66x7 ord66x7 ?_
      conv => lhs; whnf
      by_cases h1 : bs.length < (enc (2 * i)).length
      · refine bif_pos (by simp; omega) ?_
        conv => lhs; whnf
        refine bt.slice r1.rw 0 bs.length (.inl ⟨rfl, rfl⟩) (.inr ⟨_, _, rfl, rfl⟩) (Nat.zero_le _) (by omega) ((enc (2 * i)).take bs.length) (by rw [List.drop_zero]) fun a2 r2 => ?_
        conv => lhs; whnf
        refine strK_rw r2 (fun b h => hel b (List.mem_of_mem_take h)) ?_
        conv => lhs; whnf
        refine strK_rw ((ha.mono hp).mono p1) hb ?_
        conv => lhs; whnf
        by_cases h2 : (enc (2 * i)).take bs.length = bs
        · have : ableN bs m = true := by
            rw [hA, List.any_eq_true]
            exact ⟨i, List.mem_range.2 (by omega), by rw [decide_eq_true h1, decide_eq_true h2]; rfl⟩
          rw [this] at hK
          refine bif_pos (by rw [beq_iff_eq, ints_eq]; exact h2) ?_
          conv => lhs; whnf
          refine fin _ _ _ nofun ?_
          conv => lhs; whnf
          exact hK _ (List.IsPrefix.trans hp p1)
        · refine bif_neg (by rw [beq_eq_false_iff_ne]; intro h; exact h2 (ints_eq.1 h)) ?_
          conv => lhs; whnf
          refine next (r - 1) _ _ (by omega) ⟨_, i + 1, inc_i64 (by omega), by omega, List.IsPrefix.trans hp p1, rfl, fun j hj => ?_⟩
          by_cases hji : j = i
          · rw [hji]; exact fun h => h2 h.2
          · exact hno j (by omega)
      · refine bif_neg (by simp; omega) ?_
        conv => lhs; whnf
        refine next (r - 1) _ _ (by omega) ⟨_, i + 1, inc_i64 (by omega), by omega, List.IsPrefix.trans hp p1, rfl, fun j hj => ?_⟩
        by_cases hji : j = i
        · rw [hji]; exact fun h => h1 h.1
        · exact hno j (by omega)
    · have : ableN bs m = false := by
        rw [hA, List.any_eq_false]
        intro j hj
        have := hno j (by have := List.mem_range.1 hj; omega)
        rw [Bool.and_eq_true, decide_eq_true_eq, decide_eq_true_eq]
        exact this
      rw [this] at hK
      refine bif_neg (by simp; omega) ?_
      conv => lhs; whnf
      refine fin _ _ _ nofun ?_
      conv => lhs; whnf
      exact hK _ hp
end Go.Proofs.Ytpagagiojnhhfaa
