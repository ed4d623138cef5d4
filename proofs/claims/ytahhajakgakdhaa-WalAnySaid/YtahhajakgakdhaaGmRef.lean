/- The reference's reader: what bytes may begin. The reference's reader. The reference's GetRec. The document's frames. The document's Scan. -/
import Derived.Test.YtahhajakgakdhaaGmWord
import Derived.Test.YtahhajakgakdhaaGmRec
import Derived.Test.YtahhajakgakdhaaGmPlain
import Derived.Test.YtahhajakgakdhaaGmGet
namespace Go.Proofs.Ytahhajakgakdhaa
open Go Go.AM Go.AM.St
attribute [local irreducible] IntKind.wrap Int.fdiv Int.tdiv Int.tmod BitVec.ofInt appendK sliceK indexAddrK ldK storeK seenK makeSliceK
set_option maxRecDepth 100000
variable {D : Drawer}

theorem part_spec {n : Nat} {a : SA} {bs : List Nat} (hn : bs.length + 2 ≤ n) (hl : bs.length < 1000000) {σ : H} (ha : Rw σ 1 a bs.length (u8s bs)) (hb : ∀ b ∈ bs, b < 256) {K : AV → H → Bool}
    (hK : K (.bool (partL 0 0 bs)) σ = true) : acall Try.prog tab D n 103 [.sl a bs.length] σ K = true := by
  obtain ⟨n, rfl, hn⟩ := up hn
  conv => lhs; whnf
  refine loop_rule (m := 25) (fun r fr τ => ∃ (y z : Int) (u i : Nat), y = (u : Int) ∧ z = (i : Int) ∧ u < 18446744073709551616 ∧ i + r = bs.length ∧ τ = σ ∧
      fr = [.sl a bs.length, .bad, .bad, .int .u64 y, .int .i64 z, .bad, .bad, .bad, .bad, .bad, .bad, .bad, .bad, .bad, .bad, .bad, .bad, .bad, .bad, .bad, .bad, .bad, .bad, .bad, .bad, .bad, .bad, .bad, .bad, .bad, .bad, .bad, .bad, .bad, .bad, .bad, .bad, .bad, .bad, .bad, .bad, .bad, .bad, .bad, .bad, .bad, .bad] ∧
      partL 0 0 bs = partL i u (bs.drop i)) ?_ _ bs.length _ _ (by omega) ⟨_, _, 0, 0, rfl, rfl, by decide, by omega, rfl, rfl, rfl⟩
  rintro r fr τ C ⟨y, z, u, i, rfl, rfl, hu, hi, rfl, rfl, he⟩ next fin
  conv => lhs; whnf
  refine bif_case (fun h => ?_) (fun h => ?_)
  · have hlt : i < bs.length := by simpa using h
    have hx : bs[i] < 256 := hb _ (List.getElem_mem _)
    rw [List.drop_eq_getElem_cons hlt] at he
    conv => lhs; whnf
    refine bt.idx ha rfl hlt fun p hp => ?_
    conv => lhs; whnf
    refine bt.ld hp ?_
    conv => lhs; whnf
    refine bt.idx ha rfl hlt fun p hp => ?_
    conv => lhs; whnf
    refine bt.ld hp ?_
    generalize hbi : bs[i] = x at hx he
    rw [partL] at he
    conv => lhs; whnf
    by_cases hc : x < 128 ∨ 144115188075855871 < u ∨ (i = 0 ∧ x = 128)
    · rw [if_pos hc] at he
      rw [he] at hK
      by_cases h1 : x < 128
      · refine bif_pos (by simp; omega) ?_
        conv => lhs; whnf
        refine fin _ _ _ nofun ?_
        conv => lhs; whnf
        exact hK
      · refine bif_neg (by simp; omega) ?_
        conv => lhs; whnf
        by_cases h2 : 144115188075855871 < u
        · refine bif_pos (by rw [refMost]; simp; omega) ?_
          conv => lhs; whnf
          refine fin _ _ _ nofun ?_
          conv => lhs; whnf
          exact hK
        · refine bif_neg (by rw [refMost]; simp; omega) ?_
          conv => lhs; whnf
          refine bif_pos (by simp; omega) ?_
          conv => lhs; whnf
          refine bt.idx ha rfl hlt fun p hp => ?_
          conv => lhs; whnf
          rw [hbi] at hp
          refine bt.ld hp ?_
          conv => lhs; whnf
          refine bif_pos (by simp; omega) ?_
          conv => lhs; whnf
          refine fin _ _ _ nofun ?_
          conv => lhs; whnf
          exact hK
    · rw [if_neg hc] at he
      refine bif_neg (by simp; omega) ?_
      conv => lhs; whnf
      refine bif_neg (by rw [refMost]; simp; omega) ?_
      conv => lhs; whnf
      by_cases hi0 : i = 0
      case' pos =>
        refine bif_pos (by simp [hi0]) ?_
        conv => lhs; whnf
        refine bt.idx ha rfl hlt fun p hp => ?_
        conv => lhs; whnf
        rw [hbi] at hp
        refine bt.ld hp ?_
        conv => lhs; whnf
        refine bif_neg (by simp; omega) ?_
        conv => lhs; whnf
      case' neg =>
        refine bif_neg (by simp; omega) ?_
        conv => lhs; whnf
      all_goals
        exact next (r - 1) _ _ (by omega) ⟨_, _, u * 128 + x % 128, i + 1, refStep (by omega), inc_i64 (by omega), by omega, by omega, rfl, rfl, he⟩
  · obtain rfl : i = bs.length := by have : ¬ i < bs.length := by simpa using h
                                     omega
    rw [List.drop_length, partL] at he
    rw [he] at hK
    conv => lhs; whnf
    refine fin _ _ _ nofun ?_
    conv => lhs; whnf
    by_cases hc : u ≤ 144115188075855871
    · rw [decide_eq_true hc] at hK
      refine bif_pos (by simp; omega) ?_
      conv => lhs; whnf
      exact hK
    · rw [decide_eq_false hc] at hK
      refine bif_neg (by simp; omega) ?_
      conv => lhs; whnf
      exact hK

theorem ableAll_spec {n : Nat} {a : SA} {l : Nat} {x y : Int} (hn : 1 ≤ n) (hx : x = -9223372036854775808) (hy : y = 9223372036854775807) {σ : H} {K : AV → H → Bool} (hK : K (.bool true) σ = true) :
    acall Try.prog tab D n 104 [.sl a l, .int .i64 x, .int .i64 y] σ K = true := by
  obtain ⟨n, rfl, hn⟩ := up hn
  have e : IntKind.i64.wrap (y - x) = -1 := by rw [hx, hy]; decide +kernel
  conv => lhs; whnf
  by_cases h : l = 0
  · refine bif_pos (by simp [h]) ?_
    conv => lhs; whnf
    exact hK
  · refine bif_neg (by simp; omega) ?_
    conv => lhs; whnf
    refine bif_neg (by rw [e]; decide) ?_
    conv => lhs; whnf
    refine bif_pos (by rw [e]; decide) ?_
    conv => lhs; whnf
    exact hK

theorem able_spec {n : Nat} {a : SA} {bs : List Nat} {m : Nat} {q : Int} (hn : 1100 ≤ n) (hq : q = (m : Int)) (hm : m ≤ 1000) (hl : bs.length < 1000000) (hD : ByPlan Try.prog D) {σ : H} (ha : Rw σ 1 a bs.length (u8s bs)) (hb : ∀ b ∈ bs, b < 256) {K : AV → H → Bool}
    (hK : ∀ σ', σ <+: σ' → K (.bool (ableN bs m)) σ' = true) : acall Try.prog tab D n 104 [.sl a bs.length, .int .i64 0, .int .i64 q] σ K = true := by
  subst hq
  obtain ⟨n, rfl, hn⟩ := up hn
  have hA : ableN bs m = (bs.isEmpty || (List.range (m + 1)).any fun n => decide (bs.length < (enc (2 * n)).length) && decide ((enc (2 * n)).take bs.length = bs)) := rfl
  conv => lhs; whnf
  by_cases h0 : bs.length = 0
  · have : ableN bs m = true := by rw [hA, List.isEmpty_iff.2 (List.length_eq_zero_iff.1 h0), Bool.true_or]
    rw [this] at hK
    refine bif_pos (by simp [h0]) ?_
    conv => lhs; whnf
    exact hK _ (List.prefix_refl _)
  · have hne : bs.isEmpty = false := by cases bs with
      | nil => exact absurd rfl h0
      | cons _ _ => rfl
    rw [hne, Bool.false_or] at hA
    have e : IntKind.i64.wrap ((m : Int) - 0) = (m : Int) := by rw [wrap_i64 (by omega) (by omega), Int.sub_zero]
    refine bif_neg (by rw [beq_eq_false_iff_ne]; omega) ?_
    conv => lhs; whnf
    refine bif_neg (by rw [e, decide_eq_false_iff_not]; omega) ?_
    conv => lhs; whnf
    refine bif_neg (by rw [e, decide_eq_false_iff_not]; omega) ?_
    conv => lhs; whnf
    refine loop_rule (m := 133) (fun r fr τ => ∃ (z : Int) (i : Nat), z = (i : Int) ∧ i + r = m + 1 ∧ σ <+: τ ∧
        fr = [.sl a bs.length, .bad, .int .i64 (m : Int), .bad, .bad, .bad, .bad, .int .i64 z, .bad, .bad, .bad, .bad, .bad, .bad, .bad, .bad, .bad, .bad, .bad, .bad, .bad, .bad, .bad, .bad, .bad, .bad, .bad, .bad, .bad, .bad, .bad, .bad, .bad, .bad, .bad, .bad, .bad, .bad, .bad, .bad, .bad, .bad, .bad, .bad, .bad, .bad, .bad] ∧
        (∀ j, j < i → ¬ (bs.length < (enc (2 * j)).length ∧ (enc (2 * j)).take bs.length = bs))) ?_ _ (m + 1) _ _ (by omega) ⟨_, 0, rfl, by omega, List.prefix_refl _, rfl, fun j hj => absurd hj (Nat.not_lt_zero _)⟩
    rintro r fr τ C ⟨z, i, rfl, hi, hp, rfl, hno⟩ next fin
    conv => lhs; whnf
    by_cases hlt : i ≤ m
    · refine bif_pos (by simp; omega) ?_
      conv => lhs; whnf
      refine rput_spec (by omega) (by omega) (by omega) τ _ fun o1 a1 τ1 p1 r1 => ?_
      rw [zigN_nat] at r1 ⊢
      have hel := enc_lt (2 * i)
      conv => lhs; whnf
      refine hD.go plan104x7 ord104x7 ?_
      conv => lhs; whnf
      by_cases h1 : bs.length < (enc (2 * i)).length
      · refine bif_pos (by simp; omega) ?_
        conv => lhs; whnf
        refine bt.slice r1.rw 0 bs.length (.inl ⟨rfl, rfl⟩) (.inr ⟨_, _, rfl, rfl⟩) (Nat.zero_le _) (by omega) ((enc (2 * i)).take bs.length) (by rw [List.drop_zero]) fun a2 r2 => ?_
        conv => lhs; whnf
        refine strK_rw r2 (fun b h => hel b (List.mem_of_mem_take h)) ?_
        conv => lhs; whnf
        refine strK_rw ((ha.mono hp).mono p1) hb ?_
        conv => lhs; whnf
        by_cases h2 : (enc (2 * i)).take bs.length = bs
        · have : ableN bs m = true := by
            rw [hA, List.any_eq_true]
            exact ⟨i, List.mem_range.2 (by omega), by rw [decide_eq_true h1, decide_eq_true h2]; rfl⟩
          rw [this] at hK
          refine bif_pos (by rw [beq_iff_eq, ints_eq]; exact h2) ?_
          conv => lhs; whnf
          refine fin _ _ _ nofun ?_
          conv => lhs; whnf
          exact hK _ (List.IsPrefix.trans hp p1)
        · refine bif_neg (by rw [beq_eq_false_iff_ne]; intro h; exact h2 (ints_eq.1 h)) ?_
          conv => lhs; whnf
          refine next (r - 1) _ _ (by omega) ⟨_, i + 1, inc_i64 (by omega), by omega, List.IsPrefix.trans hp p1, rfl, fun j hj => ?_⟩
          by_cases hji : j = i
          · rw [hji]; exact fun h => h2 h.2
          · exact hno j (by omega)
      · refine bif_neg (by simp; omega) ?_
        conv => lhs; whnf
        refine next (r - 1) _ _ (by omega) ⟨_, i + 1, inc_i64 (by omega), by omega, List.IsPrefix.trans hp p1, rfl, fun j hj => ?_⟩
        by_cases hji : j = i
        · rw [hji]; exact fun h => h1 h.1
        · exact hno j (by omega)
    · have : ableN bs m = false := by
        rw [hA, List.any_eq_false]
        intro j hj
        have := hno j (by have := List.mem_range.1 hj; omega)
        rw [Bool.and_eq_true, decide_eq_true_eq, decide_eq_true_eq]
        exact this
      rw [this] at hK
      refine bif_neg (by simp; omega) ?_
      conv => lhs; whnf
      refine fin _ _ _ nofun ?_
      conv => lhs; whnf
      exact hK _ hp
end Go.Proofs.Ytahhajakgakdhaa
namespace Go.Proofs.Ytahhajakgakdhaa
open Go Go.AM Go.AM.St

/-- The reference's reader's row: err 2: more; err 1: bad. -/
abbrev qrow (a : SA) (l : Nat) (s : Rd) : AO := .cells [.sl a l, .int .i64 (s.pos : Int), .bool (s.err == 2), .bool (s.err == 1)] 4 .own
def AbleAt (D : Drawer) (n : Nat) (ab : List Nat → Bool) (lo hi : Int) (bs : List Nat) : Prop :=
  ∀ {τ : H} {K : AV → H → Bool} {a' : SA}, Rw τ 1 a' bs.length (u8s bs) → (∀ τ', τ <+: τ' → K (.bool (ab bs)) τ' = true) → acall Try.prog tab D n 104 [.sl a' bs.length, .int .i64 lo, .int .i64 hi] τ K = true
attribute [local irreducible] IntKind.wrap Int.fdiv Int.tdiv Int.tmod BitVec.ofInt appendK sliceK indexAddrK ldK storeK seenK makeSliceK
set_option maxRecDepth 100000
variable {D : Drawer}

theorem numQ_spec {n : Nat} {a : SA} {bs : List Nat} {rid : Nat} {lo hi : Int} {ab : List Nat → Bool} {s : Rd} (hn : bs.length + 20 ≤ n) (hl : bs.length < 1000000) (hab : AbleAt D (n - 1) ab lo hi (bs.drop s.pos)) (hD : ByPlan Try.prog D) {σ : H}
    (ha : Rw σ 1 a bs.length (u8s bs)) (hb : ∀ b ∈ bs, b < 256) (hr : σ[rid]? = some (qrow a bs.length s)) (hp : s.pos ≤ bs.length) (hs3 : s.err < 3) {K : AV → H → Bool}
    (hK : ∀ σ', σ <+: σ' → K (.int .i64 (numQ bs ab lo hi s).1) (σ'.set rid (qrow a bs.length (numQ bs ab lo hi s).2)) = true) : acall Try.prog tab D n 86 [.ptr (some ⟨rid, 0, 0, 4⟩), .int .i64 lo, .int .i64 hi] σ K = true := by
  obtain ⟨n, rfl, hn⟩ := up hn
  have hab : AbleAt D n ab lo hi (bs.drop s.pos) := hab
  have hK0 := hK σ (List.prefix_refl _)
  have hN : numQ bs ab lo hi s = if s.err ≠ 0 then (lo, s) else
    if 0 < (getR (bs.drop s.pos)).2 ∧ lo ≤ (getR (bs.drop s.pos)).1 ∧ (getR (bs.drop s.pos)).1 ≤ hi then ((getR (bs.drop s.pos)).1, ⟨s.pos + (getR (bs.drop s.pos)).2, 0⟩)
    else if (getR (bs.drop s.pos)).2 = 0 ∧ partL 0 0 (bs.drop s.pos) = true ∧ ab (bs.drop s.pos) = true then (lo, ⟨s.pos, 2⟩) else (lo, ⟨s.pos, 1⟩) := rfl
  conv => lhs; whnf
  refine ldF rfl rfl rfl hr rfl ?_
  conv => lhs; whnf
  by_cases he2 : s.err = 2
  · rw [if_pos (by omega)] at hN
    rw [hN, set_same hr] at hK0
    refine bif_pos (by simp [he2]) ?_
    conv => lhs; whnf
    exact hK0
  refine bif_neg (by simp [he2]) ?_
  conv => lhs; whnf
  refine ldF rfl rfl rfl hr rfl ?_
  conv => lhs; whnf
  by_cases he1 : s.err = 1
  · rw [if_pos (by omega)] at hN
    rw [hN, set_same hr] at hK0
    refine bif_pos (by simp [he1]) ?_
    conv => lhs; whnf
    exact hK0
  refine bif_neg (by simp [he1]) ?_
  have he : s.err = 0 := by omega
  rw [if_neg (by omega)] at hN
  conv => lhs; whnf
  refine hD.go plan86x3 ord86x3 ?_
  conv => lhs; whnf
  refine ldF rfl rfl rfl hr rfl ?_
  conv => lhs; whnf
  refine ldF rfl rfl rfl hr rfl ?_
  conv => lhs; whnf
  refine bt.slice ha s.pos bs.length (.inr ⟨_, _, rfl, rfl⟩) (.inl ⟨rfl, rfl⟩) hp (Nat.le_refl _) (bs.drop s.pos) (by rw [List.take_length]) fun a1 r1 => ?_
  have hd : ∀ b ∈ bs.drop s.pos, b < 256 := fun b h => hb b (List.mem_of_mem_drop h)
  have hdl : (bs.drop s.pos).length ≤ bs.length := by rw [List.length_drop]; omega
  conv => lhs; whnf
  refine rget_spec (by omega) r1 hd _ ?_
  have hR := getR_range (bs.drop s.pos)
  have hB := getR_bound (bs.drop s.pos)
  generalize hg : getR (bs.drop s.pos) = gd at hN hR hB
  obtain ⟨x, k⟩ := gd
  simp only at hN hR hB
  conv => lhs; whnf
  have bad : numQ bs ab lo hi s = (lo, ⟨s.pos, 1⟩) → K (.int .i64 lo) (σ.set rid (qrow a bs.length ⟨s.pos, 1⟩)) = true := fun h => by rw [h] at hK0; exact hK0
  by_cases h1 : 0 < k
  rotate_left
  · have hk0 : k = 0 := by omega
    rw [if_neg (fun h => h1 h.1)] at hN
    refine bif_neg (by simp; omega) ?_
    conv => lhs; whnf
    refine hD.go plan86x8 ord86x8 ?_
    conv => lhs; whnf
    refine bif_pos (by simp; omega) ?_
    conv => lhs; whnf
    refine ldF rfl rfl rfl hr rfl ?_
    conv => lhs; whnf
    refine ldF rfl rfl rfl hr rfl ?_
    conv => lhs; whnf
    refine bt.slice ha s.pos bs.length (.inr ⟨_, _, rfl, rfl⟩) (.inl ⟨rfl, rfl⟩) hp (Nat.le_refl _) (bs.drop s.pos) (by rw [List.take_length]) fun a2 r2 => ?_
    conv => lhs; whnf
    refine part_spec (by omega) (by omega) r2 hd ?_
    conv => lhs; whnf
    by_cases hpt : partL 0 0 (bs.drop s.pos) = true
    case' pos =>
      refine bif_pos hpt ?_
      conv => lhs; whnf
      refine ldF rfl rfl rfl hr rfl ?_
      conv => lhs; whnf
      refine ldF rfl rfl rfl hr rfl ?_
      conv => lhs; whnf
      refine bt.slice ha s.pos bs.length (.inr ⟨_, _, rfl, rfl⟩) (.inl ⟨rfl, rfl⟩) hp (Nat.le_refl _) (bs.drop s.pos) (by rw [List.take_length]) fun a3 r3 => ?_
      conv => lhs; whnf
      refine hab r3 fun τ3 hτ3 => ?_
      conv => lhs; whnf
      by_cases hb1 : ab (bs.drop s.pos) = true
      case' pos =>
        rw [if_pos ⟨hk0, hpt, hb1⟩] at hN
        rw [hN] at hK
        have hK3 := hK τ3 hτ3
        refine bif_pos hb1 ?_
        conv => lhs; whnf
        refine storeK_of rfl rfl (by decide) (prefix_get hτ3 hr) rfl (Nat.le_of_ble_eq_true rfl) ?_
        conv => lhs; whnf
        rw [show (s.err == 1) = false by rw [he]; rfl]
        exact hK3
      case' neg =>
        have hn' : ¬ (k = 0 ∧ partL 0 0 (bs.drop s.pos) = true ∧ ab (bs.drop s.pos) = true) := fun h => hb1 h.2.2
        rw [if_neg hn'] at hN
        rw [hN] at hK
        have hK3 := hK τ3 hτ3
        refine bif_neg (by simpa using hb1) ?_
        conv => lhs; whnf
        refine storeK_of rfl rfl (by decide) (prefix_get hτ3 hr) rfl (Nat.le_refl 4) ?_
        conv => lhs; whnf
        rw [show (s.err == 2) = false by rw [he]; rfl]
        exact hK3
    case' neg =>
      have hn' : ¬ (k = 0 ∧ partL 0 0 (bs.drop s.pos) = true ∧ ab (bs.drop s.pos) = true) := fun h => hpt h.2.1
      rw [if_neg hn'] at hN
      have hb' := bad hN
      refine bif_neg (by simpa using hpt) ?_
      conv => lhs; whnf
      refine storeK_of rfl rfl (by decide) hr rfl (Nat.le_refl 4) ?_
      conv => lhs; whnf
      rw [show (s.err == 2) = false by rw [he]; rfl]
      exact hb'
  refine bif_pos (by simp; omega) ?_
  conv => lhs; whnf
  by_cases h2 : lo ≤ x
  case' pos =>
    refine bif_pos (by simpa using h2) ?_
    conv => lhs; whnf
    by_cases h3 : x ≤ hi
    case' pos =>
      rw [if_pos ⟨h1, h2, h3⟩] at hN
      rw [hN] at hK0
      refine bif_pos (by simpa using h3) ?_
      conv => lhs; whnf
      refine ldF rfl rfl rfl hr rfl ?_
      conv => lhs; whnf
      refine storeK_of rfl rfl (by decide) hr rfl (Nat.le_of_ble_eq_true rfl) ?_
      conv => lhs; whnf
      have e : IntKind.i64.wrap ((s.pos : Int) + (k : Int)) = ((s.pos + k : Nat) : Int) := by rw [wrap_i64 (by omega) (by omega)]; omega
      have e2 : qrow a bs.length ⟨s.pos + k, 0⟩ = AO.cells ([AV.sl a bs.length, .int .i64 (s.pos : Int), .bool (s.err == 2), .bool (s.err == 1)].set 1 (.int .i64 (IntKind.i64.wrap ((s.pos : Int) + (k : Int))))) 4 .own := by rw [e, he]; rfl
      rw [e2] at hK0
      exact hK0
    case' neg =>
      have hn' : ¬ (0 < k ∧ lo ≤ x ∧ x ≤ hi) := fun h => h3 h.2.2
      refine bif_neg (by simpa using h3) ?_
      conv => lhs; whnf
  case' neg =>
    have hn' : ¬ (0 < k ∧ lo ≤ x ∧ x ≤ hi) := fun h => h2 h.2.1
    refine bif_neg (by simpa using h2) ?_
    conv => lhs; whnf
  all_goals
    rw [if_neg hn', if_neg (fun h => by have := h.1; omega)] at hN
    have hb' := bad hN
    refine hD.go plan86x8 ord86x8 ?_
    conv => lhs; whnf
    refine bif_neg (by simp; omega) ?_
    conv => lhs; whnf
    refine storeK_of rfl rfl (by decide) hr rfl (Nat.le_refl 4) ?_
    conv => lhs; whnf
    rw [show (s.err == 2) = false by rw [he]; rfl]
    exact hb'
theorem rtext_spec {n : Nat} {a : SA} {bs : List Nat} {rid c : Nat} {y : Int} {s : Rd} (hn : 1 ≤ n) (hl : bs.length < 1000000) (hc : c ≤ 1000) (hy : y = (c : Int)) (hD : ByPlan Try.prog D) {σ : H} (ha : Rw σ 1 a bs.length (u8s bs)) (hb : ∀ b ∈ bs, b < 256)
    (hr : σ[rid]? = some (qrow a bs.length s)) (hp : s.pos ≤ bs.length) (hs3 : s.err < 3) {K : AV → H → Bool}
    (hK : K (.str (ints (txtQ bs c s).1)) (σ.set rid (qrow a bs.length (txtQ bs c s).2)) = true) : acall Try.prog tab D n 87 [.ptr (some ⟨rid, 0, 0, 4⟩), .int .i64 y] σ K = true := by
  obtain ⟨n, rfl, hn⟩ := up hn
  have hT : txtQ bs c s = if s.err ≠ 0 then ([], s) else if bs.length - s.pos < c then ([], ⟨s.pos, 2⟩) else ((bs.drop s.pos).take c, ⟨s.pos + c, 0⟩) := rfl
  conv => lhs; whnf
  refine ldF rfl rfl rfl hr rfl ?_
  conv => lhs; whnf
  by_cases he2 : s.err = 2
  · rw [if_pos (by omega)] at hT
    rw [hT, set_same hr] at hK
    refine bif_pos (by simp [he2]) ?_
    conv => lhs; whnf
    exact hK
  refine bif_neg (by simp [he2]) ?_
  conv => lhs; whnf
  refine ldF rfl rfl rfl hr rfl ?_
  conv => lhs; whnf
  by_cases he1 : s.err = 1
  · rw [if_pos (by omega)] at hT
    rw [hT, set_same hr] at hK
    refine bif_pos (by simp [he1]) ?_
    conv => lhs; whnf
    exact hK
  refine bif_neg (by simp [he1]) ?_
  have he : s.err = 0 := by omega
  rw [if_neg (by omega)] at hT
  conv => lhs; whnf
  refine hD.go plan87x3 ord87x3 ?_
  conv => lhs; whnf
  refine ldF rfl rfl rfl hr rfl ?_
  conv => lhs; whnf
  refine ldF rfl rfl rfl hr rfl ?_
  conv => lhs; whnf
  have e1 : IntKind.i64.wrap ((bs.length : Int) - (s.pos : Int)) = ((bs.length - s.pos : Nat) : Int) := by rw [wrap_i64 (by omega) (by omega)]; omega
  by_cases hlt : bs.length - s.pos < c
  · rw [if_pos hlt] at hT
    rw [hT] at hK
    refine bif_pos (by rw [e1, hy]; simp; omega) ?_
    conv => lhs; whnf
    refine storeK_of rfl rfl (by decide) hr rfl (Nat.le_of_ble_eq_true rfl) ?_
    conv => lhs; whnf
    rw [show (s.err == 1) = false by rw [he]; rfl]
    exact hK
  · rw [if_neg hlt] at hT
    rw [hT] at hK
    refine bif_neg (by rw [e1, hy]; simp; omega) ?_
    conv => lhs; whnf
    refine ldF rfl rfl rfl hr rfl ?_
    conv => lhs; whnf
    refine storeK_of rfl rfl (by decide) hr rfl (Nat.le_of_ble_eq_true rfl) ?_
    have e2 : IntKind.i64.wrap ((s.pos : Int) + y) = ((s.pos + c : Nat) : Int) := by rw [hy, wrap_i64 (by omega) (by omega)]; omega
    have e3 : AO.cells ([AV.sl a bs.length, .int .i64 (s.pos : Int), .bool (s.err == 2), .bool (s.err == 1)].set 1 (.int .i64 (IntKind.i64.wrap ((s.pos : Int) + y)))) 4 .own = qrow a bs.length ⟨s.pos + c, 0⟩ := by rw [e2, he]; rfl
    conv => lhs; whnf
    refine hD.go plan87x7 ord87x7 ?_
    conv => lhs; whnf
    have hr2 := get_set hr (AO.cells ([AV.sl a bs.length, .int .i64 (s.pos : Int), .bool (s.err == 2), .bool (s.err == 1)].set 1 (.int .i64 (IntKind.i64.wrap ((s.pos : Int) + y)))) 4 .own)
    have ha2 := Rw.set (xs' := [AV.sl a bs.length, .int .i64 (s.pos : Int), .bool (s.err == 2), .bool (s.err == 1)].set 1 (.int .i64 (IntKind.i64.wrap ((s.pos : Int) + y)))) (md' := .own) ha hr (by decide)
    refine ldF rfl rfl rfl hr2 rfl ?_
    conv => lhs; whnf
    refine ldF rfl rfl rfl hr2 rfl ?_
    conv => lhs; whnf
    refine ldF rfl rfl rfl hr2 rfl ?_
    conv => lhs; whnf
    refine bt.slice ha2 s.pos (s.pos + c) (.inr ⟨_, _, rfl, by rw [e2, hy, wrap_i64 (by omega) (by omega)]; omega⟩) (.inr ⟨_, _, rfl, e2⟩) (by omega) (by omega) ((bs.drop s.pos).take c) (by rw [List.drop_take]; congr 1; omega) fun a3 r3 => ?_
    conv => lhs; whnf
    refine strK_rw r3 (fun b h => hb b (List.mem_of_mem_drop (List.mem_of_mem_take h))) ?_
    conv => lhs; whnf
    rw [← e3] at hK
    exact hK
end Go.Proofs.Ytahhajakgakdhaa
namespace Go.Proofs.Ytahhajakgakdhaa
open Go Go.AM Go.AM.St
attribute [local irreducible] IntKind.wrap Int.fdiv Int.tdiv Int.tmod BitVec.ofInt appendK sliceK indexAddrK ldK storeK seenK makeSliceK
set_option maxRecDepth 100000
variable {D : Drawer}

theorem ableAt_small {n m : Nat} {q : Int} (hn : 1101 ≤ n) (hq : q = (m : Int)) (hm : m ≤ 1000) {bs : List Nat} (hl : bs.length < 1000000) (hD : ByPlan Try.prog D) (hb : ∀ b ∈ bs, b < 256) : AbleAt D (n - 1) (fun b => ableN b m) 0 q bs :=
  fun r hK => able_spec (by omega) hq hm hl hD r hb hK
theorem cntQ_spec {n : Nat} {a : SA} {bs : List Nat} {rid m : Nat} {q : Int} {s s' : Rd} (hn : bs.length + 1200 ≤ n) (hl : bs.length < 1000000) (hq : q = (m : Int)) (hm : m < 256) (hD : ByPlan Try.prog D) {σ : H}
    (ha : Rw σ 1 a bs.length (u8s bs)) (hb : ∀ b ∈ bs, b < 256) (hr : σ[rid]? = some (qrow a bs.length s)) (hs : SimQ bs s s') {K : AV → H → Bool}
    (hK : ∀ σ' t, σ <+: σ' → SimQ bs t (cntR bs m s').2 → K (.int .i64 (cntR bs m s').1) (σ'.set rid (qrow a bs.length t)) = true) : acall Try.prog tab D n 86 [.ptr (some ⟨rid, 0, 0, 4⟩), .int .i64 0, .int .i64 q] σ K = true := by
  have h := cntR_rel hb hs hm
  rw [← hq] at h
  have hab : AbleAt D (n - 1) (fun b => ableN b m) 0 q (bs.drop s.pos) := ableAt_small (by omega) hq (by omega) (by rw [List.length_drop]; omega) hD (fun b h => hb b (List.mem_of_mem_drop h))
  refine numQ_spec (ab := fun b => ableN b m) (by omega) hl hab hD ha hb hr hs.2.2.1 hs.2.2.2 fun σ' hp => ?_
  have h2 := hK σ' _ hp h.1
  rw [← h.2] at h2
  exact h2
theorem numV_spec {n : Nat} {a : SA} {bs : List Nat} {rid : Nat} {x y : Int} {s s' : Rd} (hn : bs.length + 1200 ≤ n) (hl : bs.length < 1000000) (hx : x = -9223372036854775808) (hy : y = 9223372036854775807) (hD : ByPlan Try.prog D) {σ : H}
    (ha : Rw σ 1 a bs.length (u8s bs)) (hb : ∀ b ∈ bs, b < 256) (hr : σ[rid]? = some (qrow a bs.length s)) (hs : SimQ bs s s') {K : AV → H → Bool}
    (hK : ∀ σ' t v, σ <+: σ' → SimQ bs t (numR bs 18446744073709551615 s').2 → (t.err = 0 → v = (numR bs 18446744073709551615 s').1) → K (.int .i64 v) (σ'.set rid (qrow a bs.length t)) = true) : acall Try.prog tab D n 86 [.ptr (some ⟨rid, 0, 0, 4⟩), .int .i64 x, .int .i64 y] σ K = true := by
  have h := numR_rel hs
  rw [← hx, ← hy] at h
  exact numQ_spec (by omega) hl (fun r hK => ableAll_spec (by omega) hx hy (hK _ (List.prefix_refl _))) hD ha hb hr hs.2.2.1 hs.2.2.2 fun σ' hp => hK σ' _ _ hp h.1 h.2
theorem txtV_spec {n : Nat} {a : SA} {bs : List Nat} {rid : Nat} {y : Int} {t s' : Rd} (hn : 1 ≤ n) (hl : bs.length < 1000000) (hy : y = (cntR bs 200 s').1) (hD : ByPlan Try.prog D) {σ : H} (ha : Rw σ 1 a bs.length (u8s bs)) (hb : ∀ b ∈ bs, b < 256)
    (hr : σ[rid]? = some (qrow a bs.length t)) (hs : SimQ bs t (cntR bs 200 s').2) {K : AV → H → Bool}
    (hK : ∀ u, SimQ bs u (txtR bs s').2 → K (.str (ints (txtR bs s').1)) (σ.set rid (qrow a bs.length u)) = true) : acall Try.prog tab D n 87 [.ptr (some ⟨rid, 0, 0, 4⟩), .int .i64 y] σ K = true := by
  have hc := cntR_range (bs := bs) (m := 200) (s := s')
  obtain ⟨c, rfl⟩ : ∃ c : Nat, y = (c : Int) := ⟨y.toNat, by omega⟩
  have h := txtR_rel hs hy
  refine rtext_spec hn hl (by omega) rfl hD ha hb hr hs.2.2.1 hs.2.2.2 ?_
  rw [h.2]
  exact hK _ h.1

theorem bif_case_q {c a b : Bool} (qpos : c = true → a = true) (qneg : c = false → b = true) : (bif c then a else b) = true := bif_case qpos qneg
theorem bif_case_a {c a b : Bool} (apos : c = true → a = true) (aneg : c = false → b = true) : (bif c then a else b) = true := bif_case apos aneg
theorem bif_case_b {c a b : Bool} (bpos : c = true → a = true) (bneg : c = false → b = true) : (bif c then a else b) = true := bif_case bpos bneg
theorem bif_case_r {c a b : Bool} (rpos : c = true → a = true) (rneg : c = false → b = true) : (bif c then a else b) = true := bif_case rpos rneg
theorem bif_case_c {c a b : Bool} (cpos : c = true → a = true) (cneg : c = false → b = true) : (bif c then a else b) = true := bif_case cpos cneg
theorem bif_case_d {c a b : Bool} (dpos : c = true → a = true) (dneg : c = false → b = true) : (bif c then a else b) = true := bif_case dpos dneg
theorem set_new (τ : H) (x y : AO) : (τ ++ [x]).set τ.length y = τ ++ [y] := by
  rw [List.set_append_right _ _ (Nat.le_refl _), Nat.sub_self, List.set_cons_zero]
set_option maxHeartbeats 4000000 in
theorem rrecGet_spec {n : Nat} {a : SA} {bs : List Nat} (hn : bs.length + 1300 ≤ n) (hl : bs.length < 1000000) (hD : ByPlan Try.prog D) {σ : H} (ha : Rw σ 1 a bs.length (u8s bs)) (hb : ∀ b ∈ bs, b < 256) {K : AV → H → Bool}
    (hK : ∀ a' b' σ', σ <+: σ' → IsR σ' a' b' (recGet bs).1 → K (.tup [recV a' b' (recGet bs).1, .int .i64 ((recGet bs).2.1 : Nat), .int .i64 ((recGet bs).2.2 : Nat)]) σ' = true) :
    acall Try.prog tab D n 70 [.sl a bs.length] σ K = true := by
  obtain ⟨n, rfl, hn⟩ := up hn
  have hG : recGet bs = recGetF bs (cntR bs 255 ⟨0, 0⟩) := rfl
  have g0 := get_old (get_new σ (AO.cells [AV.int .i64 0, .sl .nil 0, .sl .nil 0] 3 .own)) (qrow a bs.length ⟨0, 0⟩)
  have g1 := get_new (σ ++ [AO.cells [AV.int .i64 0, .sl .nil 0, .sl .nil 0] 3 .own]) (qrow a bs.length ⟨0, 0⟩)
  have pf : σ <+: σ ++ [AO.cells [AV.int .i64 0, .sl .nil 0, .sl .nil 0] 3 .own] ++ [qrow a bs.length ⟨0, 0⟩] := List.IsPrefix.trans (List.prefix_append _ _) (List.prefix_append _ _)
  have hL1 : (σ ++ [AO.cells [AV.int .i64 0, .sl .nil 0, .sl .nil 0] 3 .own]).length = σ.length + 1 := by simp
  have hc1 := cntR_range (bs := bs) (m := 255) (s := ⟨0, 0⟩)
  conv => lhs; whnf
  refine cntQ_spec (m := 255) (s := ⟨0, 0⟩) (s' := ⟨0, 0⟩) (by omega) hl rfl (by decide) hD (ha.mono pf) hb g1 ⟨rfl, fun _ => rfl, Nat.zero_le _, by decide⟩ fun σ1 t1 hq1 hs1 => ?_
  generalize cntR bs 255 ⟨0, 0⟩ = c1 at hG hc1 hs1 ⊢
  have R0 := get_set_ne (prefix_get hq1 g0) (j := (σ ++ [AO.cells [AV.int .i64 0, .sl .nil 0, .sl .nil 0] 3 .own]).length) (by rw [hL1]; omega) (qrow a bs.length t1)
  have R1 := get_set (prefix_get hq1 g1) (qrow a bs.length t1)
  have PF := prefix_set (pf.trans hq1) (by rw [hL1]; omega) (id := (σ ++ [AO.cells [AV.int .i64 0, .sl .nil 0, .sl .nil 0] 3 .own]).length) (qrow a bs.length t1)
  have hi0 : σ.length < (σ ++ [AO.cells [AV.int .i64 0, .sl .nil 0, .sl .nil 0] 3 .own]).length := by rw [hL1]; omega
  clear g0 g1 pf hL1
  generalize σ1.set (σ ++ [AO.cells [AV.int .i64 0, .sl .nil 0, .sl .nil 0] 3 .own]).length (qrow a bs.length t1) = τ1 at *
  have hi1 := get_lt R1
  conv => lhs; whnf
  refine storeS rfl (get_new _ _) rfl rfl (Nat.le_refl 3) rfl ?_
  conv => lhs; whnf
  have G0 := get_old R0 (AO.cells [AV.int .i64 c1.1, .sl .nil 0, .sl .nil 0] 3 .own)
  have G1 := get_old R1 (AO.cells [AV.int .i64 c1.1, .sl .nil 0, .sl .nil 0] 3 .own)
  have G2 := get_new τ1 (AO.cells [AV.int .i64 c1.1, .sl .nil 0, .sl .nil 0] 3 .own)
  have PG := prefix_add PF (AO.cells [AV.int .i64 c1.1, .sl .nil 0, .sl .nil 0] 3 .own)
  rw [← set_new τ1 (AO.cells [AV.int .i64 0, .sl .nil 0, .sl .nil 0] 3 .own)] at G0 G1 G2 PG
  have hc2 := cntR_range (bs := bs) (m := 40) (s := c1.2)
  refine cntQ_spec (n := n) (m := 40) (s := t1) (s' := c1.2) (by omega) hl rfl (by decide) hD (ha.mono PG) hb G1 hs1 fun σ2 t2 hq2 hs2 => ?_
  have hG : recGet bs = recGetG bs c1 (cntR bs 40 c1.2) := hG
  generalize cntR bs 40 c1.2 = c2 at hG hc2 hs2 ⊢
  have hG : recGet bs = recGetH bs c1 (numsR bs c2.1.toNat c2.2) := hG
  obtain ⟨N, hN⟩ : ∃ N : Nat, c2.1 = (N : Int) := ⟨c2.1.toNat, by omega⟩
  rw [hN, Int.toNat_natCast] at hG
  rw [hN] at hc2 ⊢
  have hN40 : N ≤ 40 := by omega
  have G0' := get_set_ne (prefix_get hq2 G0) (j := (σ ++ [AO.cells [AV.int .i64 0, .sl .nil 0, .sl .nil 0] 3 .own]).length) (Nat.ne_of_lt hi0) (qrow a bs.length t2)
  have G1' := get_set (prefix_get hq2 G1) (qrow a bs.length t2)
  have G2' := get_set_ne (prefix_get hq2 G2) (j := (σ ++ [AO.cells [AV.int .i64 0, .sl .nil 0, .sl .nil 0] 3 .own]).length) (Nat.ne_of_gt hi1) (qrow a bs.length t2)
  have PG' := prefix_set (PG.trans hq2) (Nat.le_of_lt hi0) (id := (σ ++ [AO.cells [AV.int .i64 0, .sl .nil 0, .sl .nil 0] 3 .own]).length) (qrow a bs.length t2)
  clear G0 G1 G2 PG R0 R1 PF hq1 hq2
  generalize τ1.length = i2 at *
  generalize σ2.set (σ ++ [AO.cells [AV.int .i64 0, .sl .nil 0, .sl .nil 0] 3 .own]).length (qrow a bs.length t2) = τ2 at *
  conv => lhs; whnf
  refine loop_rule (m := 228) (fun q fr τ => ∃ (z : Int) (i i0 i1 i2 : Nat) (t : Rd) (o : Option Nat) (c : SA) (vs : List Int), z = (q : Int) ∧ i + q = N ∧
      fr = [.bad, .bad, .ptr (some ⟨i0, 0, 0, 3⟩), .bad, .bad, .ptr (some ⟨i1, 0, 0, 4⟩), .ptr (some ⟨i2, 0, 0, 3⟩), .int .i64 z, .bad, .bad, .bad, .bad, .bad, .bad, .bad, .bad, .bad, .bad, .bad, .bad, .bad, .bad, .bad, .bad, .bad, .bad, .bad, .bad, .bad, .bad, .bad, .bad, .bad, .bad, .bad, .bad, .bad, .bad, .bad, .bad, .bad, .bad, .bad, .bad, .bad, .bad, .bad, .bad, .bad, .bad, .bad, .bad, .bad, .bad, .bad, .bad, .bad, .bad, .bad, .bad, .bad, .bad, .bad, .bad, .bad, .bad, .bad, .bad, .bad, .bad, .bad, .bad, .bad, .bad, .bad, .bad, .bad, .bad, .bad, .bad, .bad, .bad, .bad, .bad, .bad, .bad, .bad, .bad] ∧
      σ <+: τ ∧ σ.length ≤ i0 ∧ i0 < i1 ∧ i1 < i2 ∧ (∀ id, o = some id → i2 < id) ∧ i2 < τ.length ∧
      SimQ bs t (numsR bs i c2.2).2 ∧ vs.length = i ∧ (t.err = 0 → vs = (numsR bs i c2.2).1) ∧
      τ[i0]? = some (AO.cells [AV.int .i64 0, .sl .nil 0, .sl .nil 0] 3 .own) ∧ τ[i1]? = some (qrow a bs.length t) ∧
      τ[i2]? = some (AO.cells [AV.int .i64 c1.1, .sl c vs.length, .sl .nil 0] 3 .own) ∧
      Own σ τ 1 o c vs.length (iks .i64 vs)) ?_ _ N _ _ (by omega)
      ⟨_, 0, σ.length, _, i2, t2, none, .nil, [], rfl, by omega, rfl, PG', Nat.le_refl _, hi0, hi1, nofun, get_lt G2', hs2, rfl, fun _ => rfl, G0', G1', G2', Own.nil _ _ _⟩
  clear G0' G1' G2' PG' hi0 hi1 hs1 hs2
  rintro q fr τ C ⟨z, i, i0, i1, i2, t, o, c, vs, rfl, hi, rfl, hpf, h0, h1, h2, ho, hlt2, hs, hv1, hv2, R0, R1, R2, hown⟩ next fin
  conv => lhs; whnf
  apply bif_case_q <;> intro hq
  case' qpos =>
    have hq : 0 < q := by simpa using hq
    conv => lhs; whnf
    refine ldF rfl rfl rfl R1 rfl ?_
    conv => lhs; whnf
    apply bif_case_a <;> intro he2
    case' aneg =>
      have he2 : ¬ t.err = 2 := by simpa using he2
      conv => lhs; whnf
      refine ldF rfl rfl rfl R1 rfl ?_
      conv => lhs; whnf
      apply bif_case_b <;> intro he1
      case' bneg =>
        have he1 : ¬ t.err = 1 := by simpa using he1
        have he : t.err = 0 := by have := hs.2.2.2; omega
        have hvs := hv2 he
        have hsn := numsR_succ bs i c2.2
        have hlen2 := numsR_len bs (i + 1) c2.2
        conv => lhs; whnf
        refine hD.go plan70x6 ord70x6 ?_
        conv => lhs; whnf
        refine ldF rfl rfl rfl R2 rfl ?_
        conv => lhs; whnf
        refine numV_spec (by omega) hl rfl rfl hD (ha.mono hpf) hb R1 hs fun σ3 u v hq3 hsu hvu => ?_
        have Pa := prefix_set (hpf.trans hq3) (by omega) (id := i1) (qrow a bs.length u)
        have R0a := get_set_ne (prefix_get hq3 R0) (j := i1) (by omega) (qrow a bs.length u)
        have R1a := get_set (prefix_get hq3 R1) (qrow a bs.length u)
        have R2a := get_set_ne (prefix_get hq3 R2) (j := i1) (by omega) (qrow a bs.length u)
        have Oa := (hown.mono hq3).keep (keep_set σ3 i1 (qrow a bs.length u)) (by
          cases o with
          | none => exact .inl rfl
          | some id => exact .inr fun e => by cases e; have := ho _ rfl; omega)
        have hla := get_lt R2a
        generalize σ3.set i1 (qrow a bs.length u) = τa at *
        conv => lhs; whnf
        refine and_true (all_cons ?_ rfl) ?_
        · conv => lhs; whnf
          refine ldF rfl rfl rfl R2a rfl ?_
          exact same_sl c _
        conv => lhs; whnf
        refine and_true (all_cons ?_ rfl) ?_
        · conv => lhs; whnf
          refine ldF rfl rfl rfl (get_old R2a _) rfl ?_
          exact same_sl c _
        conv => lhs; whnf
        have hla' : i2 < (τa ++ [AO.cells [AV.int .i64 v] 1 .own]).length := by rw [List.length_append]; omega
        have hrx : Rw (τa ++ [AO.cells [AV.int .i64 v] 1 .own]) 1 (.at τa.length 0 1) [v].length (iks .i64 [v]) := Rw.new _ _ rfl
        refine it42.app (prefix_add Pa _) (o := o) (Oa.mono (List.prefix_append _ _)) hrx (vs ++ [v]) rfl (by rw [List.length_append, List.length_singleton]; omega) fun o' c' σ' p' hk ho1 ho2 own' => ?_
        have ho' : ∀ id, o' = some id → i2 < id := fun id e => by
          cases o with
          | none =>
            rcases ho2 rfl with h | h
            · rw [h] at e; cases e
            · rw [h] at e; cases e; exact hla'
          | some j => rw [ho1 j rfl] at e; exact ho _ e
        have hne : ∀ j, j ≤ i2 → some j ≠ o := fun j hj e => by have := ho j e.symm; omega
        have R0b := hk _ _ (hne i0 (by omega)) (get_old R0a (AO.cells [AV.int .i64 v] 1 .own))
        have R1b := hk _ _ (hne i1 (by omega)) (get_old R1a (AO.cells [AV.int .i64 v] 1 .own))
        have R2b := hk _ _ (hne i2 (by omega)) (get_old R2a (AO.cells [AV.int .i64 v] 1 .own))
        conv => lhs; whnf
        refine storeK_of rfl rfl (by decide) R2b rfl (Nat.le_succ 2) ?_
        conv => lhs; whnf
        have ed : IntKind.i64.wrap ((q : Int) - 1) = ((q - 1 : Nat) : Int) := by rw [wrap_i64 (by omega) (by omega)]; omega
        refine next (q - 1) _ _ (by omega) ⟨_, i + 1, i0, i1, i2, u, o', c', vs ++ [v], ed, by omega, rfl, prefix_set p' (by omega) _, h0, h1, h2, ho', ?_, ?_, by rw [List.length_append, List.length_singleton, hv1], ?_, get_set_ne R0b (by omega) _, get_set_ne R1b (by omega) _, get_set R2b _, own'.keep (keep_set _ _ _) ?_⟩
        · rw [List.length_set]; exact get_lt R2b
        · rw [hsn]; exact hsu
        · intro hu; rw [hsn, hvu hu, hvs]
        · cases o' with
          | none => exact .inl rfl
          | some id => exact .inr fun e => by cases e; have := ho' _ rfl; omega
      case' bpos =>
        have he1 : t.err = 1 := by simpa using he1
        have hend : t.err ≠ 0 ∨ i = N := .inl (by omega)
        conv => lhs; whnf
    case' apos =>
      have he2 : t.err = 2 := by simpa using he2
      have hend : t.err ≠ 0 ∨ i = N := .inl (by omega)
      conv => lhs; whnf
  case' qneg =>
    have hq : ¬ 0 < q := by simpa using hq
    have hend : t.err ≠ 0 ∨ i = N := .inr (by omega)
    conv => lhs; whnf
  all_goals
    clear next
    have hse : SimQ bs t (numsR bs N c2.2).2 ∧ (t.err = 0 → vs = (numsR bs N c2.2).1) := by
      rcases hend with h | h
      · obtain ⟨j, rfl⟩ : ∃ j, N = i + j := ⟨q, hi.symm⟩
        have hst := numsR_stick bs (i := i) (s := c2.2) (by rw [← hs.1]; exact h) j
        exact ⟨⟨by rw [hst]; exact hs.1, fun e => absurd e h, hs.2.2⟩, fun e => absurd e h⟩
      · subst h
        exact ⟨hs, hv2⟩
    refine fin _ _ _ nofun ?_
    conv => lhs; whnf
    generalize numsR bs N c2.2 = ns at hG hse
    obtain ⟨hse, hvn⟩ := hse
    have hG : recGet bs = recGetI bs c1 ns (cntR bs 40 ns.2) := hG
    have hc3 := cntR_range (bs := bs) (m := 40) (s := ns.2)
    refine cntQ_spec (m := 40) (s := t) (s' := ns.2) (by omega) hl rfl (by decide) hD (ha.mono hpf) hb R1 hse fun σ3 t3 hq3 hs3 => ?_
    have hck : (cntR bs 40 ns.2).2.err = 0 → ns.2.err = 0 := fun h => by
      by_cases h0 : ns.2.err = 0
      · exact h0
      · rw [cntR_e h0] at h; exact h
    generalize cntR bs 40 ns.2 = c3 at hG hc3 hs3 hck ⊢
    obtain ⟨M, hM⟩ : ∃ M : Nat, c3.1 = (M : Int) := ⟨c3.1.toNat, by omega⟩
    have hG : recGet bs = recGetJ c1 ns (txtsR bs M c3.2) := by rw [hG, recGetI, hM, Int.toNat_natCast]
    rw [hM] at hc3 ⊢
    have hM40 : M ≤ 40 := by omega
    have R0c := get_set_ne (prefix_get hq3 R0) (j := i1) (by omega) (qrow a bs.length t3)
    have R1c := get_set (prefix_get hq3 R1) (qrow a bs.length t3)
    have R2c := get_set_ne (prefix_get hq3 R2) (j := i1) (by omega) (qrow a bs.length t3)
    have Pc := prefix_set (hpf.trans hq3) (by omega) (id := i1) (qrow a bs.length t3)
    have Oc := (hown.mono hq3).keep (keep_set σ3 i1 (qrow a bs.length t3)) (by
      cases o with
      | none => exact .inl rfl
      | some id => exact .inr fun e => by cases e; have := ho _ rfl; omega)
    have hlc := get_lt R2c
    generalize σ3.set i1 (qrow a bs.length t3) = τ3 at *
    have hoc : ∀ id, o = some id → id < τ3.length := by
      intro id e
      subst e
      obtain ⟨off, xs, md, _, _, h3, _⟩ := Oc
      exact get_lt h3
    have hte : t3.err = 0 → vs = ns.1 := fun h => hvn (by rw [hse.1]; exact hck (by rw [← hs3.1]; exact h))
    conv => lhs; whnf
    refine loop_rule (m := 356) (fun q fr τ => ∃ (z : Int) (i : Nat) (t : Rd) (o2 : Option Nat) (d : SA) (ws : List (List Nat)), z = (q : Int) ∧ i + q = M ∧
        fr = [.bad, .bad, .ptr (some ⟨i0, 0, 0, 3⟩), .bad, .bad, .ptr (some ⟨i1, 0, 0, 4⟩), .ptr (some ⟨i2, 0, 0, 3⟩), .bad, .int .i64 z, .bad, .bad, .bad, .bad, .bad, .bad, .bad, .bad, .bad, .bad, .bad, .bad, .bad, .bad, .bad, .bad, .bad, .bad, .bad, .bad, .bad, .bad, .bad, .bad, .bad, .bad, .bad, .bad, .bad, .bad, .bad, .bad, .bad, .bad, .bad, .bad, .bad, .bad, .bad, .bad, .bad, .bad, .bad, .bad, .bad, .bad, .bad, .bad, .bad, .bad, .bad, .bad, .bad, .bad, .bad, .bad, .bad, .bad, .bad, .bad, .bad, .bad, .bad, .bad, .bad, .bad, .bad, .bad, .bad, .bad, .bad, .bad, .bad, .bad, .bad, .bad, .bad, .bad, .bad] ∧
        σ <+: τ ∧ (∀ id, o2 = some id → i2 < id ∧ o ≠ o2) ∧ i2 < τ.length ∧ (∀ id, o = some id → id < τ.length) ∧
        SimQ bs t (txtsR bs i c3.2).2 ∧ ws.length = i ∧ (t.err = 0 → vs = ns.1) ∧ ws = (txtsR bs i c3.2).1 ∧
        τ[i0]? = some (AO.cells [AV.int .i64 0, .sl .nil 0, .sl .nil 0] 3 .own) ∧ τ[i1]? = some (qrow a bs.length t) ∧
        τ[i2]? = some (AO.cells [AV.int .i64 c1.1, .sl c vs.length, .sl d ws.length] 3 .own) ∧
        Own σ τ 1 o c vs.length (iks .i64 vs) ∧ Own σ τ 1 o2 d ws.length (txs ws)) ?_ _ M _ _ (by omega)
        ⟨_, 0, t3, none, .nil, [], rfl, by omega, rfl, Pc, nofun, hlc, hoc, hs3, rfl, hte, rfl, R0c, R1c, R2c, Oc, Own.nil _ _ _⟩
    clear fin R0 R1 R2 hown hpf hlt2 R0c R1c R2c Pc Oc hlc
    rintro q2 fr τ' C2 ⟨z, i, t, o2, d, ws, rfl, hi, rfl, hpf, ho2, hlt2, hoL, hs, hw1, hv, hw2, R0, R1, R2, hown, hown2⟩ next fin
    conv => lhs; whnf
    have ne1 : ∀ {o : Option Nat}, (∀ id, o = some id → i2 < id) → ∀ j, j ≤ i2 → o = none ∨ o ≠ some j := fun {o} ho j hj => by
      cases o with
      | none => exact .inl rfl
      | some id => exact .inr fun e => by cases e; have := ho _ rfl; omega
    have ho2' : ∀ id, o2 = some id → i2 < id := fun id e => (ho2 id e).1
    apply bif_case_r <;> intro hq
    case' rpos =>
      have hq : 0 < q2 := by simpa using hq
      conv => lhs; whnf
      refine ldF rfl rfl rfl R1 rfl ?_
      conv => lhs; whnf
      apply bif_case_c <;> intro he2
      case' cneg =>
        have he2 : ¬ t.err = 2 := by simpa using he2
        conv => lhs; whnf
        refine ldF rfl rfl rfl R1 rfl ?_
        conv => lhs; whnf
        apply bif_case_d <;> intro he1
        case' dneg =>
          have he1 : ¬ t.err = 1 := by simpa using he1
          have he : t.err = 0 := by have := hs.2.2.2; omega
          have hvs := hv he
          have hsn := txtsR_succ bs i c3.2
          have hcv := cntR_range (bs := bs) (m := 200) (s := (txtsR bs i c3.2).2)
          conv => lhs; whnf
          refine hD.go plan70x10 ord70x10 ?_
          conv => lhs; whnf
          refine ldF rfl rfl rfl R2 rfl ?_
          conv => lhs; whnf
          refine cntQ_spec (m := 200) (by omega) hl rfl (by decide) hD (ha.mono hpf) hb R1 hs fun σ4 t4 hq4 hs4 => ?_
          have Pa := prefix_set (hpf.trans hq4) (by omega) (id := i1) (qrow a bs.length t4)
          have R0a := get_set_ne (prefix_get hq4 R0) (j := i1) (by omega) (qrow a bs.length t4)
          have R1a := get_set (prefix_get hq4 R1) (qrow a bs.length t4)
          have R2a := get_set_ne (prefix_get hq4 R2) (j := i1) (by omega) (qrow a bs.length t4)
          have Oa := (hown.mono hq4).keep (keep_set σ4 i1 (qrow a bs.length t4)) (ne1 ho i1 (by omega))
          have Oa2 := (hown2.mono hq4).keep (keep_set σ4 i1 (qrow a bs.length t4)) (ne1 ho2' i1 (by omega))
          have hlo : ∀ id, o = some id → id < (σ4.set i1 (qrow a bs.length t4)).length := fun id e => by rw [List.length_set]; exact Nat.lt_of_lt_of_le (hoL id e) hq4.length_le
          generalize σ4.set i1 (qrow a bs.length t4) = τ4 at *
          conv => lhs; whnf
          refine and_true (all_cons ?_ rfl) ?_
          · conv => lhs; whnf
            refine ldF rfl rfl rfl R2a rfl ?_
            exact same_sl d _
          conv => lhs; whnf
          refine txtV_spec (by omega) hl rfl hD (ha.mono Pa) hb R1a hs4 fun u hsu => ?_
          have Pb := prefix_set Pa (by omega) (id := i1) (qrow a bs.length u)
          have R0b := get_set_ne R0a (j := i1) (by omega) (qrow a bs.length u)
          have R1b := get_set R1a (qrow a bs.length u)
          have R2b := get_set_ne R2a (j := i1) (by omega) (qrow a bs.length u)
          have Ob := Oa.keep (keep_set τ4 i1 (qrow a bs.length u)) (ne1 ho i1 (by omega))
          have Ob2 := Oa2.keep (keep_set τ4 i1 (qrow a bs.length u)) (ne1 ho2' i1 (by omega))
          have hlo2 : ∀ id, o = some id → id < (τ4.set i1 (qrow a bs.length u)).length := fun id e => by rw [List.length_set]; exact hlo id e
          generalize hx : (txtR bs (txtsR bs i c3.2).2) = x at *
          generalize τ4.set i1 (qrow a bs.length u) = τ5 at *
          have hl5 := get_lt R2b
          conv => lhs; whnf
          refine and_true (all_cons ?_ rfl) ?_
          · conv => lhs; whnf
            refine ldF rfl rfl rfl R2b rfl ?_
            exact same_sl d _
          conv => lhs; whnf
          refine and_true (all_cons ?_ rfl) ?_
          · conv => lhs; whnf
            refine ldF rfl rfl rfl (get_old R2b _) rfl ?_
            exact same_sl d _
          conv => lhs; whnf
          have hl5' : i2 < (τ5 ++ [AO.cells [AV.str (ints x.1)] 1 .own]).length := by rw [List.length_append]; omega
          have hrx : Rw (τ5 ++ [AO.cells [AV.str (ints x.1)] 1 .own]) 1 (.at τ5.length 0 1) [x.1].length (txs [x.1]) := Rw.new _ _ rfl
          refine tt43.app (prefix_add Pb _) (o := o2) (Ob2.mono (List.prefix_append _ _)) hrx (ws ++ [x.1]) rfl (by rw [List.length_append, List.length_singleton]; omega) fun o' d' σ' p' hk h'1 h'2 own' => ?_
          have ho' : ∀ id, o' = some id → i2 < id ∧ o ≠ o' := fun id e => by
            cases o2 with
            | none =>
              rcases h'2 rfl with h | h
              · rw [h] at e; cases e
              · rw [h] at e; cases e
                refine ⟨hl5', fun e2 => ?_⟩
                rw [h] at e2
                have := hlo2 _ e2
                rw [List.length_append] at this
                omega
            | some j => rw [h'1 j rfl] at e ⊢; exact ho2 _ e
          have ho'' : ∀ id, o' = some id → i2 < id := fun id e => (ho' id e).1
          have hne : ∀ j, j ≤ i2 → some j ≠ o2 := fun j hj e => by have := ho2' j e.symm; omega
          have R0d := hk _ _ (hne i0 (by omega)) (get_old R0b (AO.cells [AV.str (ints x.1)] 1 .own))
          have R1d := hk _ _ (hne i1 (by omega)) (get_old R1b (AO.cells [AV.str (ints x.1)] 1 .own))
          have R2d := hk _ _ (hne i2 (by omega)) (get_old R2b (AO.cells [AV.str (ints x.1)] 1 .own))
          have Od := (Ob.mono (List.prefix_append τ5 [AO.cells [AV.str (ints x.1)] 1 .own])).keep hk (by
            cases ho2n : o2 with
            | none =>
              cases hon : o with
              | none => exact .inl rfl
              | some id => exact .inr nofun
            | some j => exact .inr (by rw [← ho2n]; exact (ho2 j ho2n).2))
          conv => lhs; whnf
          refine storeK_of rfl rfl (by decide) R2d rfl (Nat.le_refl 3) ?_
          conv => lhs; whnf
          have ed : IntKind.i64.wrap ((q2 : Int) - 1) = ((q2 - 1 : Nat) : Int) := by rw [wrap_i64 (by omega) (by omega)]; omega
          refine next (q2 - 1) _ _ (by omega) ⟨_, i + 1, u, o', d', ws ++ [x.1], ed, by omega, rfl, prefix_set p' (by omega) _, ho', ?_, ?_, ?_, by rw [List.length_append, List.length_singleton, hw1], fun _ => hvs, ?_, get_set_ne R0d (by omega) _, get_set_ne R1d (by omega) _, get_set R2d _, Od.keep (keep_set _ _ _) (ne1 ho i2 (Nat.le_refl _)), own'.keep (keep_set _ _ _) (ne1 ho'' i2 (Nat.le_refl _))⟩
          · rw [List.length_set]; exact get_lt R2d
          · intro id e
            rw [List.length_set]
            subst e
            obtain ⟨off, xs, md, _, _, h3, _⟩ := Od
            exact get_lt h3
          · rw [hsn]; exact hsu
          · rw [hsn, hw2]
        case' dpos =>
          have he1 : t.err = 1 := by simpa using he1
          have hend : t.err ≠ 0 ∨ i = M := .inl (by omega)
          conv => lhs; whnf
      case' cpos =>
        have he2 : t.err = 2 := by simpa using he2
        have hend : t.err ≠ 0 ∨ i = M := .inl (by omega)
        conv => lhs; whnf
    case' rneg =>
      have hq : ¬ 0 < q2 := by simpa using hq
      have hend : t.err ≠ 0 ∨ i = M := .inr (by omega)
      conv => lhs; whnf
    all_goals
      clear next
      have hse : SimQ bs t (txtsR bs M c3.2).2 ∧ (t.err = 0 → ws = (txtsR bs M c3.2).1) := by
        rcases hend with h | h
        · obtain ⟨j, rfl⟩ : ∃ j, M = i + j := ⟨q2, hi.symm⟩
          have hst := txtsR_stick bs (i := i) (s := c3.2) (by rw [← hs.1]; exact h) j
          exact ⟨⟨by rw [hst]; exact hs.1, fun e => absurd e h, hs.2.2⟩, fun e => absurd e h⟩
        · subst h
          exact ⟨hs, fun _ => hw2⟩
      refine fin _ _ _ nofun ?_
      conv => lhs; whnf
      obtain ⟨hst, hws⟩ := hse
      generalize txtsR bs M c3.2 = ts at hG hst hws
      refine ldF rfl rfl rfl R1 rfl ?_
      conv => lhs; whnf
      by_cases he1 : t.err = 1
      · have h2e : ts.2.err = 1 := by rw [← hst.1]; exact he1
        rw [recGetJ, if_pos (by omega), h2e] at hG
        rw [hG] at hK
        refine bif_pos (by simp [he1]) ?_
        conv => lhs; whnf
        refine storeS rfl R0 rfl rfl (Nat.le_refl 3) rfl ?_
        have R0e := get_set R0 (AO.cells [AV.int .i64 0, .sl .nil 0, .sl .nil 0] 3 .own)
        conv => lhs; whnf
        refine ldS Try.underlying38 rfl R0e (Nat.le_refl 3) (Nat.le_refl 3) rfl ?_
        conv => lhs; whnf
        exact hK .nil .nil _ (prefix_set hpf h0 _) ⟨Rw.nil _ _, Rw.nil _ _⟩
      · refine bif_neg (by simp [he1]) ?_
        conv => lhs; whnf
        refine ldF rfl rfl rfl R1 rfl ?_
        conv => lhs; whnf
        by_cases he2 : t.err = 2
        · have h2e : ts.2.err = 2 := by rw [← hst.1]; exact he2
          rw [recGetJ, if_pos (by omega), h2e] at hG
          rw [hG] at hK
          refine bif_pos (by simp [he2]) ?_
          conv => lhs; whnf
          refine storeS rfl R0 rfl rfl (Nat.le_refl 3) rfl ?_
          have R0e := get_set R0 (AO.cells [AV.int .i64 0, .sl .nil 0, .sl .nil 0] 3 .own)
          conv => lhs; whnf
          refine ldS Try.underlying38 rfl R0e (Nat.le_refl 3) (Nat.le_refl 3) rfl ?_
          conv => lhs; whnf
          exact hK .nil .nil _ (prefix_set hpf h0 _) ⟨Rw.nil _ _, Rw.nil _ _⟩
        · have he : t.err = 0 := by have := hst.2.2.2; omega
          have h2e : ts.2.err = 0 := by rw [← hst.1]; exact he
          rw [recGetJ, if_neg (fun h => h h2e), ← hv he, ← hws he, ← hst.2.1 he] at hG
          rw [hG] at hK
          refine bif_neg (by simp [he2]) ?_
          conv => lhs; whnf
          refine hD.go plan70x15 ord70x15 ?_
          conv => lhs; whnf
          refine ldS Try.underlying38 rfl R2 (Nat.le_refl 3) (Nat.le_refl 3) rfl ?_
          conv => lhs; whnf
          refine ldF rfl rfl rfl R1 rfl ?_
          conv => lhs; whnf
          refine storeS rfl R0 rfl rfl (Nat.le_refl 3) rfl ?_
          have R0e := get_set R0 (AO.cells [AV.int .i64 c1.1, .sl c vs.length, .sl d ws.length] 3 .own)
          have R1e := get_set_ne R1 (j := i0) (by omega) (AO.cells [AV.int .i64 c1.1, .sl c vs.length, .sl d ws.length] 3 .own)
          conv => lhs; whnf
          refine and_true (all_cons ?_ (all_skip rfl rfl)) ?_
          · conv => lhs; whnf
            refine ldF rfl rfl rfl R1e rfl ?_
            exact same_int .i64 (t.pos : Int)
          conv => lhs; whnf
          refine ldS Try.underlying38 rfl R0e (Nat.le_refl 3) (Nat.le_refl 3) rfl ?_
          conv => lhs; whnf
          have ne0 : ∀ {o : Option Nat}, (∀ id, o = some id → i2 < id) → o = none ∨ o ≠ some i0 := fun ho => ne1 ho i0 (by omega)
          exact hK c d _ (prefix_set hpf h0 _) ⟨(hown.keep (keep_set _ _ _) (ne0 ho)).rw, (hown2.keep (keep_set _ _ _) (ne0 ho2')).rw⟩
end Go.Proofs.Ytahhajakgakdhaa
namespace Go.Proofs.Ytahhajakgakdhaa
open Go Go.AM Go.AM.St
attribute [local irreducible] IntKind.wrap Int.fdiv Int.tdiv Int.tmod BitVec.ofInt appendK sliceK indexAddrK ldK storeK seenK makeSliceK
set_option maxRecDepth 100000
variable {D : Drawer}

theorem rframe_spec {n : Nat} (hn : 10000 ≤ n) {a b : SA} {r : RecP} {σ : H} (h50 : r.texts.length ≤ 50) (h51 : r.nums.length ≤ 50) (hr : IsR σ a b r) (ho : OkR r) (hD : ByPlan Try.prog D) {K : AV → H → Bool}
    (hK0 : mayR r = false → ∀ σ', σ <+: σ' → K (.tup [.sl .nil 0, .bool false]) σ' = true)
    (hK1 : mayR r = true → ∀ o a σ', σ <+: σ' → Own σ σ' 1 o a (putF r).length (u8s (putF r)) → K (.tup [.sl a (putF r).length, .bool true]) σ' = true) :
    acall Try.prog tab D n 23 [recV a b r] σ K = true := by
  obtain ⟨n, rfl, hn⟩ := up hn
  have g := get_new σ (AO.cells [.int .i64 r.kind, .sl a r.nums.length, .sl b r.texts.length] 3 .own)
  have pf := List.prefix_append σ [AO.cells [AV.int .i64 r.kind, .sl a r.nums.length, .sl b r.texts.length] 3 .own]
  conv => lhs; whnf
  refine ldR g ?_
  conv => lhs; whnf
  refine rmay_spec (by omega) h50 h51 (hr.mono pf) fun σ1 p1 => ?_
  cases hm : mayR r
  · conv => lhs; whnf
    exact hK0 hm _ (List.IsPrefix.trans pf p1)
  · have hl := putR_len hm
    have hb := putR_lt (r := r) fun t ht => (ho.ts t ht).1
    have hF : putF r = fixL (putR r).length 2 ++ fixL (markN 1 (putR r)) 4 ++ putR r := rfl
    have hFl := putF_len hm
    conv => lhs; whnf
    refine ldR (prefix_get p1 g) ?_
    conv => lhs; whnf
    refine rrec_spec (by omega) (hr.mono (List.IsPrefix.trans pf p1)) ho hD hm fun o1 a1 σ1' p1' r1 => ?_
    conv => lhs; whnf
    refine rfix_spec (by omega) (u := (putR r).length) (size := 2) (wrap_u64 (by omega)) rfl (by omega) (by decide) _ _ fun o2 a2 σ2 p2 r2 => ?_
    rw [show fixR (putR r).length 2 = fixL (putR r).length 2 from rfl] at r2 ⊢
    conv => lhs; whnf
    refine rof_spec (by omega) rfl (r1.rw.mono p2) hb (by omega) _ ?_
    conv => lhs; whnf
    have hml := markN_lt 1 (putR r)
    refine rfix_spec (by omega) (u := markN 1 (putR r)) (size := 4) (wrap_u64 (by omega)) rfl (by omega) (by decide) σ2 _ fun o3 a3 σ3 p3 r3 => ?_
    rw [show fixR (markN 1 (putR r)) 4 = fixL (markN 1 (putR r)) 4 from rfl] at r3 ⊢
    conv => lhs; whnf
    refine bt.app (List.IsPrefix.trans p2 p3) (r2.mono p3) r3.rw (fixL (putR r).length 2 ++ fixL (markN 1 (putR r)) 4) rfl (by simp [fixL]) fun o4 a4 σ4 p4 _ _ _ r4 => ?_
    conv => lhs; whnf
    refine bt.app p4 r4 (r1.rw.mono p4) (putF r) rfl (by omega) fun o5 a5 σ5 p5 _ _ _ r5 => ?_
    conv => lhs; whnf
    have PP := List.IsPrefix.trans pf (List.IsPrefix.trans p1 p1')
    exact hK1 hm _ _ _ (List.IsPrefix.trans PP p5) (r5.since PP)

theorem rfget_spec {n : Nat} {a : SA} {bs : List Nat} (hn : bs.length + 1400 ≤ n) (hl : bs.length < 1000000) (hD : ByPlan Try.prog D) {σ : H} (ha : Rw σ 1 a bs.length (u8s bs)) (hb : ∀ b ∈ bs, b < 256) {K : AV → H → Bool}
    (hK : ∀ a' b' σ', σ <+: σ' → IsR σ' a' b' (getF bs).1 → K (.tup [recV a' b' (getF bs).1, .int .i64 ((getF bs).2.1 : Nat), .int .i64 ((getF bs).2.2 : Nat)]) σ' = true) :
    acall Try.prog tab D n 52 [.sl a bs.length] σ K = true := by
  obtain ⟨n, rfl, hn⟩ := up hn
  have hG : getF bs = if bs.length < 6 then (⟨0, [], []⟩, 0, 2) else if bs.length < getFN bs then (⟨0, [], []⟩, 0, 2) else if getFbad bs then (⟨0, [], []⟩, 0, 1) else ((recGet (getFB bs)).1, getFN bs, 0) := rfl
  have nilR : ∀ τ : H, IsR τ .nil .nil ⟨0, [], []⟩ := fun τ => ⟨Rw.nil _ _, Rw.nil _ _⟩
  have h2 := unfix2_lt hb
  have hN : getFN bs = 6 + unfix (bs.take 2) := rfl
  have eU : IntKind.i64.wrap ((unfix (bs.take 2) : Nat) : Int) = ((unfix (bs.take 2) : Nat) : Int) := wrap_i64 (by omega) (by omega)
  have eN : IntKind.i64.wrap (6 + IntKind.i64.wrap ((unfix (bs.take 2) : Nat) : Int)) = ((getFN bs : Nat) : Int) := by
    rw [eU, wrap_i64 (by omega) (by omega), hN]; omega
  have g := get_new σ (AO.cells [AV.int .i64 0, .sl .nil 0, .sl .nil 0] 3 .own)
  have pf := List.prefix_append σ [AO.cells [AV.int .i64 0, .sl .nil 0, .sl .nil 0] 3 .own]
  have ha1 := ha.mono pf
  conv => lhs; whnf
  by_cases h6 : bs.length < 6
  · rw [if_pos h6] at hG
    refine bif_pos (by simp; omega) ?_
    conv => lhs; whnf
    rw [hG] at hK
    refine storeS rfl g rfl rfl (Nat.le_refl 3) rfl ?_
    conv => lhs; whnf
    refine ldS Try.underlying38 rfl (get_set g _) (Nat.le_refl 3) (Nat.le_refl 3) rfl ?_
    conv => lhs; whnf
    exact hK .nil .nil _ (prefix_set pf (Nat.le_refl _) _) (nilR _)
  · rw [if_neg h6] at hG
    refine bif_neg (by simp; omega) ?_
    conv => lhs; whnf
    refine bt.slice ha1 0 2 (.inl ⟨rfl, rfl⟩) (.inr ⟨_, _, rfl, rfl⟩) (by decide) (by omega) (bs.take 2) (by rw [List.drop_zero]) fun a2 r2 => ?_
    conv => lhs; whnf
    refine runfix_spec (by omega) r2 (fun b h => hb b (List.mem_of_mem_take h)) _ ?_
    have eL : IntKind.i64.wrap ((bs.length : Int) - 6) = ((bs.length - 6 : Nat) : Int) := by rw [wrap_i64 (by omega) (by omega)]; omega
    conv => lhs; whnf
    by_cases hlt : bs.length < getFN bs
    · rw [if_pos hlt] at hG
      refine bif_pos (by rw [eU, eL]; simp; omega) ?_
      conv => lhs; whnf
      rw [hG] at hK
      refine storeS rfl g rfl rfl (Nat.le_refl 3) rfl ?_
      conv => lhs; whnf
      refine ldS Try.underlying38 rfl (get_set g _) (Nat.le_refl 3) (Nat.le_refl 3) rfl ?_
      conv => lhs; whnf
      exact hK .nil .nil _ (prefix_set pf (Nat.le_refl _) _) (nilR _)
    · rw [if_neg hlt] at hG
      refine bif_neg (by rw [eU, eL]; simp; omega) ?_
      conv => lhs; whnf
      refine bt.slice ha1 0 2 (.inl ⟨rfl, rfl⟩) (.inr ⟨_, _, rfl, rfl⟩) (by decide) (by omega) (bs.take 2) (by rw [List.drop_zero]) fun a2 r2 => ?_
      conv => lhs; whnf
      refine runfix_spec (by omega) r2 (fun b h => hb b (List.mem_of_mem_take h)) _ ?_
      conv => lhs; whnf
      have hBl : (getFB bs).length ≤ bs.length := by unfold getFB; rw [List.length_drop, List.length_take]; omega
      have hBb : ∀ b ∈ getFB bs, b < 256 := fun b h => hb b (List.mem_of_mem_take (List.mem_of_mem_drop h))
      refine bt.slice ha1 6 (getFN bs) (.inr ⟨_, _, rfl, rfl⟩) (.inr ⟨_, _, rfl, eN⟩) (by omega) (by omega) (getFB bs) rfl fun a3 r3 => ?_
      conv => lhs; whnf
      refine rrecGet_spec (by omega) (by omega) hD r3 hBb fun c d σ1 p1 r1 => ?_
      have hrr := recGet_range (getFB bs)
      have hBad : getFbad bs ↔ ((recGet (getFB bs)).2.2 ≠ 0 ∨ 6 + (recGet (getFB bs)).2.1 ≠ getFN bs ∨ unfix ((bs.take 6).drop 2) ≠ markN 1 (getFB bs)) := Iff.rfl
      generalize recGet (getFB bs) = gr at hG r1 hrr hBad ⊢
      obtain ⟨rr, k, e⟩ := gr
      dsimp only at r1 hG hrr hBad
      have g1 := prefix_get p1 g
      have P1 := List.IsPrefix.trans pf p1
      conv => lhs; whnf
      refine storeS rfl (get_new _ _) rfl rfl (Nat.le_refl 3) rfl ?_
      have T6 := get_set (get_new σ1 (AO.cells [AV.int .i64 0, .sl .nil 0, .sl .nil 0] 3 .own)) (AO.cells [.int .i64 rr.kind, .sl c rr.nums.length, .sl d rr.texts.length] 3 .own)
      have Pe := prefix_set (List.prefix_append σ1 [AO.cells [AV.int .i64 0, .sl .nil 0, .sl .nil 0] 3 .own]) (Nat.le_refl σ1.length) (AO.cells [.int .i64 rr.kind, .sl c rr.nums.length, .sl d rr.texts.length] 3 .own)
      have g2 := prefix_get Pe g1
      have P2 := List.IsPrefix.trans P1 Pe
      have hav := ha.mono P2
      conv => lhs; whnf
      refine hD.go plan52x5 ord52x5 ?_
      conv => lhs; whnf
      by_cases he : e = 0
      case' neg =>
        refine bif_pos (by simp; omega) ?_
        conv => lhs; whnf
      case' pos =>
        refine bif_neg (by simp; omega) ?_
        conv => lhs; whnf
        by_cases hk : 6 + k = getFN bs
        case' neg =>
          refine bif_pos (by rw [eU]; simp; omega) ?_
          conv => lhs; whnf
        case' pos =>
          refine bif_neg (by rw [eU]; simp; omega) ?_
          conv => lhs; whnf
          refine bt.slice hav 6 (getFN bs) (.inr ⟨_, _, rfl, rfl⟩) (.inr ⟨_, _, rfl, eN⟩) (by omega) (by omega) (getFB bs) rfl fun a5 r5 => ?_
          conv => lhs; whnf
          refine bt.slice hav 2 6 (.inr ⟨_, _, rfl, rfl⟩) (.inr ⟨_, _, rfl, rfl⟩) (by decide) (by omega) ((bs.take 6).drop 2) rfl fun a4 r4 => ?_
          conv => lhs; whnf
          refine rof_spec (by omega) rfl r5 hBb (by omega) _ ?_
          have hml := markN_lt 1 (getFB bs)
          have em : IntKind.u64.wrap ((markN 1 (getFB bs) : Nat) : Int) = ((markN 1 (getFB bs) : Nat) : Int) := wrap_u64 (by omega)
          conv => lhs; whnf
          refine runfix_spec (by omega) r4 (fun b h => hb b (List.mem_of_mem_take (List.mem_of_mem_drop h))) _ ?_
          conv => lhs; whnf
          by_cases hm : unfix ((bs.take 6).drop 2) = markN 1 (getFB bs)
          case' neg =>
            refine bif_pos (by rw [em]; simp; omega) ?_
            conv => lhs; whnf
          case' pos =>
            refine bif_neg (by rw [em, hm]; simp) ?_
            conv => lhs; whnf
      case pos =>
        have hnb : ¬ getFbad bs := fun h => by rcases hBad.1 h with h | h | h <;> exact h (by assumption)
        rw [if_neg hnb] at hG
        rw [hG] at hK
        refine ldR T6 ?_
        conv => lhs; whnf
        refine storeS rfl g2 rfl rfl (Nat.le_refl 3) rfl ?_
        conv => lhs; whnf
        refine ldS Try.underlying38 rfl (get_set g2 _) (Nat.le_refl 3) (Nat.le_refl 3) rfl ?_
        conv => lhs; whnf
        have r1e := r1.mono Pe
        have := hK c d _ (prefix_set P2 (Nat.le_refl _) _) ⟨Rw.set (md' := .own) (xs' := [.int .i64 rr.kind, .sl c rr.nums.length, .sl d rr.texts.length]) r1e.nums g2 (by decide), Rw.set (md' := .own) (xs' := [.int .i64 rr.kind, .sl c rr.nums.length, .sl d rr.texts.length]) r1e.texts g2 (by decide)⟩
        rw [← eN] at this
        exact this
      all_goals
        have hb1 : getFbad bs := hBad.2 (by first | exact .inl (by assumption) | exact .inr (.inl (by assumption)) | exact .inr (.inr (by assumption)))
        rw [if_pos hb1] at hG
        rw [hG] at hK
        refine storeS rfl g2 rfl rfl (Nat.le_refl 3) rfl ?_
        conv => lhs; whnf
        refine ldS Try.underlying38 rfl (get_set g2 _) (Nat.le_refl 3) (Nat.le_refl 3) rfl ?_
        conv => lhs; whnf
        exact hK .nil .nil _ (prefix_set P2 (Nat.le_refl _) _) (nilR _)
end Go.Proofs.Ytahhajakgakdhaa
namespace Go.Proofs.Ytahhajakgakdhaa
open Go Go.AM Go.AM.St
attribute [local irreducible] IntKind.wrap Int.fdiv Int.tdiv Int.tmod BitVec.ofInt appendK sliceK indexAddrK ldK storeK seenK makeSliceK
set_option maxRecDepth 100000
variable {D : Drawer}

theorem rscan_spec {n : Nat} {a : SA} {bs : List Nat} (hn : bs.length + 1500 ≤ n) (hl : bs.length < 1000000) (hD : ByPlan Try.prog D) {σ : H} (ha : Rw σ 1 a bs.length (u8s bs)) (hb : ∀ b ∈ bs, b < 256) {K : AV → H → Bool}
    (hK : ∀ ow w W σ', σ <+: σ' → IsRs σ' W → W.map (·.2.2) = (scanF bs).1 → Own σ σ' 3 ow w W.length (recs W) → K (.tup [.sl w W.length, .int .i64 ((scanF bs).2 : Nat)]) σ' = true) :
    acall Try.prog tab D n 24 [.sl a bs.length] σ K = true := by
  obtain ⟨n, rfl, hn⟩ := up hn
  conv => lhs; whnf
  refine loop_rule (m := 49) (fun q fr τ => ∃ (z : Int) (p m : Nat) (ow : Option Nat) (w : SA) (W : List El), z = (p : Int) ∧ p + q = bs.length ∧ q < m ∧ W.length ≤ p ∧
      fr = [.sl a bs.length, .bad, .bad, .bad, .sl w W.length, .int .i64 z, .bad, .bad, .bad, .bad, .bad, .bad, .bad, .bad, .bad, .bad, .bad, .bad, .bad, .bad, .bad, .bad, .bad, .bad, .bad, .bad, .bad, .bad] ∧ σ <+: τ ∧ IsRs τ W ∧ Own σ τ 3 ow w W.length (recs W) ∧
      scanF bs = (W.map (·.2.2) ++ (scanL m (bs.drop p)).1, p + (scanL m (bs.drop p)).2)) ?_ _ bs.length _ _ (by omega)
      ⟨_, 0, bs.length + 1, none, .nil, [], rfl, by omega, by omega, Nat.le_refl _, rfl, List.prefix_refl _, IsRs.nil σ, Own.nil _ _ _, by rw [List.drop_zero, List.map_nil, List.nil_append, Nat.zero_add]; rfl⟩
  rintro q fr τ C ⟨z, p, m, ow, w, W, rfl, hq, hm, hW, rfl, hp, hI, how, hS⟩ next fin
  obtain ⟨m, rfl⟩ : ∃ m', m = m' + 1 := ⟨m - 1, by omega⟩
  have hdl : (bs.drop p).length = bs.length - p := List.length_drop
  have hdb : ∀ b ∈ bs.drop p, b < 256 := fun b h => hb b (List.mem_of_mem_drop h)
  rw [scanL] at hS
  have hle := getF_le (bs.drop p)
  have hok := fun h => getF_ok (bs := bs.drop p) h
  conv => lhs; whnf
  refine bt.slice (ha.mono hp) p bs.length (.inr ⟨_, _, rfl, rfl⟩) (.inl ⟨rfl, rfl⟩) (by omega) (Nat.le_refl _) (bs.drop p) (by rw [List.take_length]) fun a1 r1 => ?_
  conv => lhs; whnf
  refine rfget_spec (by omega) (by omega) hD r1 hdb fun c d τ1 p1 i1 => ?_
  generalize getF (bs.drop p) = g at hS hle hok i1 ⊢
  obtain ⟨rr, k, e⟩ := g
  dsimp only at hS hle hok i1
  conv => lhs; whnf
  refine storeS rfl (get_new _ _) rfl rfl (Nat.le_refl 3) rfl ?_
  have T := get_set (get_new τ1 (AO.cells [AV.int .i64 0, .sl .nil 0, .sl .nil 0] 3 .own)) (AO.cells [.int .i64 rr.kind, .sl c rr.nums.length, .sl d rr.texts.length] 3 .own)
  have Pe := prefix_set (List.prefix_append τ1 [AO.cells [AV.int .i64 0, .sl .nil 0, .sl .nil 0] 3 .own]) (Nat.le_refl τ1.length) (AO.cells [.int .i64 rr.kind, .sl c rr.nums.length, .sl d rr.texts.length] 3 .own)
  have Pq := List.IsPrefix.trans p1 Pe
  have iq := i1.mono Pe
  have howq := how.mono Pq
  have hIq := hI.mono Pq
  have Pf := List.IsPrefix.trans hp Pq
  conv => lhs; whnf
  by_cases he : e = 0
  · rw [if_neg (by simpa using he)] at hS
    have hk := hok he
    refine bif_neg (by simp; omega) ?_
    conv => lhs; whnf
    refine ldR T ?_
    conv => lhs; whnf
    have hrow := Rw.new (σ := ((τ1 ++ [AO.cells [AV.int .i64 0, .sl .nil 0, .sl .nil 0] 3 .own]).set τ1.length (AO.cells [.int .i64 rr.kind, .sl c rr.nums.length, .sl d rr.texts.length] 3 .own))) (z := 3) (n := 1) (elCells (c, d, rr)) .own rfl
    refine appendK_ext Try.underlying34 rfl rfl rfl (prefix_add Pf _) (o := ow) (howq.mono (List.prefix_append _ _)) hrow (N := (W ++ [(c, d, rr)]).length) (zs := recs (W ++ [(c, d, rr)])) (by simp) (recs_app W [(c, d, rr)]) ?_ fun o5 a5 τ5 p5 k5 _ _ x5 w5 => ?_
    · show _ * 56 ≤ _
      rw [List.length_append, List.length_singleton]; omega
    conv => lhs; whnf
    have ek : IntKind.i64.wrap ((p : Int) + (k : Int)) = ((p + k : Nat) : Int) := by rw [wrap_i64 (by omega) (by omega)]; omega
    refine next (q - k) _ _ (by omega) ⟨_, p + k, m, o5, a5, W ++ [(c, d, rr)], ek, by omega, by omega, by rw [List.length_append, List.length_singleton]; omega, rfl, p5, ?_, w5, ?_⟩
    · intro x hx
      rcases List.mem_append.1 hx with hx | hx
      · exact ((hIq.mono (List.prefix_append _ _)).ext x5) x hx
      · rw [List.mem_singleton] at hx
        subst hx
        have h1 := iq.mono (List.prefix_append _ [AO.cells (elCells (c, d, rr)) 3 .own])
        exact ⟨Rw.ext h1.nums x5, Rw.ext h1.texts x5⟩
    · rw [hS, List.drop_drop, List.map_append, List.append_assoc, Nat.add_assoc]
      rfl
  · rw [if_pos he] at hS
    refine bif_pos (by simp; omega) ?_
    conv => lhs; whnf
    refine fin _ _ _ nofun ?_
    conv => lhs; whnf
    rw [List.append_nil, Nat.add_zero] at hS
    have := hK ow w W _ Pf hIq (by rw [hS]) howq
    rw [hS] at this
    exact this
end Go.Proofs.Ytahhajakgakdhaa
