/- Package rec: Eq; copies of records. -/
import Derived.Test.YtdiajgenbjdfiaaL1Rec
namespace Go.Proofs.Ytdiajgenbjdfiaa
open Go Go.AM Go.AM.St

theorem take_eq {α : Type} {xs ys : List α} {i : Nat} (h : xs.take i = ys.take i) (hx : i < xs.length) (hy : i < ys.length) (he : xs[i] = ys[i]) : xs.take (i + 1) = ys.take (i + 1) := by
  rw [← List.take_append_getElem hx, ← List.take_append_getElem hy, h, he]
theorem ints_eq {a b : List Nat} : ints a = ints b ↔ a = b := by
  constructor
  · intro h
    have := congrArg (List.map Int.toNat) h
    simpa [ints, List.map_map, Function.comp_def] using this
  · intro h; rw [h]
def recEq (r s : RecP) : Bool := decide (r.kind = s.kind) && decide (r.nums = s.nums) && decide (r.texts = s.texts)
attribute [local irreducible] IntKind.wrap Int.fdiv Int.tdiv Int.tmod BitVec.ofInt appendK sliceK indexAddrK ldK storeK seenK makeSliceK
set_option maxRecDepth 100000
variable {D : Drawer}

theorem eqI_spec {n : Nat} {a b : SA} {xs ys : List Int} (hn : xs.length + 2 ≤ n) (hl : xs.length < 1000000) (hD : ByPlan Try.prog D) {σ : H} (ha : Rw σ 1 a xs.length (iks .i64 xs)) (hb : Rw σ 1 b ys.length (iks .i64 ys)) {K : AV → H → Bool}
    (hK : K (.bool (decide (xs = ys))) σ = true) : acall Try.prog tab D n 64 [.sl a xs.length, .sl b ys.length] σ K = true := by
  obtain ⟨n, rfl, hn⟩ := up hn
  conv => lhs; whnf
  by_cases he : xs.length = ys.length
  · refine bif_neg (by simp [he]) ?_
    conv => lhs; whnf
    refine loop_rule (m := 12291) (fun r fr τ => ∃ (z : Int) (i : Nat), z = (i : Int) ∧ i + r = xs.length ∧ τ = σ ∧ xs.take i = ys.take i ∧
        fr = [.sl a xs.length, .sl b ys.length, .bad, .bad, .bad, .bad, .bad, .bad, .bad, .bad, .bad, .bad, .int .i64 (xs.length : Int), .int .i64 z, .bad, .bad, .bad, .bad, .bad, .bad, .bad, .bad, .bad, .bad, .bad, .bad]) ?_ _ xs.length _ _ (by omega) ⟨_, 0, rfl, by omega, rfl, rfl, rfl⟩
    rintro r fr τ C ⟨z, i, rfl, hi, rfl, ht, rfl⟩ next fin
    conv => lhs; whnf
    refine bif_case (fun h => ?_) (fun h => ?_)
    · have hlt : i < xs.length := by simpa using h
      have hlt' : i < ys.length := by omega
      conv => lhs; whnf
      refine hD.go plan64x6 ord64x6 ?_
      conv => lhs; whnf
      refine it42.idx ha rfl hlt fun p hp => ?_
      conv => lhs; whnf
      refine it42.ld hp ?_
      conv => lhs; whnf
      refine it42.idx hb rfl hlt' fun p hp => ?_
      conv => lhs; whnf
      refine it42.ld hp ?_
      conv => lhs; whnf
      by_cases hc : xs[i] = ys[i]
      · refine bif_neg (by simp [hc]) ?_
        conv => lhs; whnf
        exact next (r - 1) _ _ (by omega) ⟨_, i + 1, inc_i64 (by omega), by omega, rfl, take_eq ht hlt hlt' hc, rfl⟩
      · refine bif_pos (by simp [hc]) ?_
        conv => lhs; whnf
        refine fin _ _ _ nofun ?_
        conv => lhs; whnf
        rw [decide_eq_false (fun e => hc (by simp only [e]))] at hK
        exact hK
    · obtain rfl : i = xs.length := by have : ¬ i < xs.length := by simpa using h
                                       omega
      rw [List.take_length, he, List.take_length] at ht
      conv => lhs; whnf
      refine fin _ _ _ nofun ?_
      conv => lhs; whnf
      rw [decide_eq_true ht] at hK
      exact hK
  · refine bif_pos (by simp; omega) ?_
    conv => lhs; whnf
    rw [decide_eq_false (fun e => he (by rw [e]))] at hK
    exact hK

theorem eqT_spec {n : Nat} {a b : SA} {xs ys : List (List Nat)} (hn : xs.length + 2 ≤ n) (hl : xs.length < 1000000) (hD : ByPlan Try.prog D) {σ : H} (ha : Rw σ 1 a xs.length (txs xs)) (hb : Rw σ 1 b ys.length (txs ys)) {K : AV → H → Bool}
    (hK : K (.bool (decide (xs = ys))) σ = true) : acall Try.prog tab D n 65 [.sl a xs.length, .sl b ys.length] σ K = true := by
  obtain ⟨n, rfl, hn⟩ := up hn
  conv => lhs; whnf
  by_cases he : xs.length = ys.length
  · refine bif_neg (by simp [he]) ?_
    conv => lhs; whnf
    refine loop_rule (m := 12291) (fun r fr τ => ∃ (z : Int) (i : Nat), z = (i : Int) ∧ i + r = xs.length ∧ τ = σ ∧ xs.take i = ys.take i ∧
        fr = [.sl a xs.length, .sl b ys.length, .bad, .bad, .bad, .bad, .bad, .bad, .bad, .bad, .bad, .bad, .int .i64 (xs.length : Int), .int .i64 z, .bad, .bad, .bad, .bad, .bad, .bad, .bad, .bad, .bad, .bad, .bad, .bad]) ?_ _ xs.length _ _ (by omega) ⟨_, 0, rfl, by omega, rfl, rfl, rfl⟩
    rintro r fr τ C ⟨z, i, rfl, hi, rfl, ht, rfl⟩ next fin
    conv => lhs; whnf
    refine bif_case (fun h => ?_) (fun h => ?_)
    · have hlt : i < xs.length := by simpa using h
      have hlt' : i < ys.length := by omega
      conv => lhs; whnf
      refine hD.go plan65x6 ord65x6 ?_
      conv => lhs; whnf
      refine tt43.idx ha rfl hlt fun p hp => ?_
      conv => lhs; whnf
      refine tt43.ld hp ?_
      conv => lhs; whnf
      refine tt43.idx hb rfl hlt' fun p hp => ?_
      conv => lhs; whnf
      refine tt43.ld hp ?_
      conv => lhs; whnf
      by_cases hc : xs[i] = ys[i]
      · refine bif_neg (by simp [hc]) ?_
        conv => lhs; whnf
        exact next (r - 1) _ _ (by omega) ⟨_, i + 1, inc_i64 (by omega), by omega, rfl, take_eq ht hlt hlt' hc, rfl⟩
      · refine bif_pos (by simp [ints_eq, hc]) ?_
        conv => lhs; whnf
        refine fin _ _ _ nofun ?_
        conv => lhs; whnf
        rw [decide_eq_false (fun e => hc (by simp only [e]))] at hK
        exact hK
    · obtain rfl : i = xs.length := by have : ¬ i < xs.length := by simpa using h
                                       omega
      rw [List.take_length, he, List.take_length] at ht
      conv => lhs; whnf
      refine fin _ _ _ nofun ?_
      conv => lhs; whnf
      rw [decide_eq_true ht] at hK
      exact hK
  · refine bif_pos (by simp; omega) ?_
    conv => lhs; whnf
    rw [decide_eq_false (fun e => he (by rw [e]))] at hK
    exact hK

theorem eq_spec {n : Nat} {a b a' b' : SA} {r s : RecP} (hn : 60 ≤ n) (h1 : r.nums.length ≤ 50) (h2 : r.texts.length ≤ 50) (hD : ByPlan Try.prog D) {σ : H} (hr : IsR σ a b r) (hs : IsR σ a' b' s) {K : AV → H → Bool}
    (hK : ∀ σ', σ <+: σ' → K (.bool (recEq r s)) σ' = true) : acall Try.prog tab D n 50 [recV a b r, recV a' b' s] σ K = true := by
  obtain ⟨n, rfl, hn⟩ := up hn
  have g := get_old (get_new σ (AO.cells [.int .i64 r.kind, .sl a r.nums.length, .sl b r.texts.length] 3 .own)) (AO.cells [.int .i64 s.kind, .sl a' s.nums.length, .sl b' s.texts.length] 3 .own)
  have g' := get_new (σ ++ [AO.cells [.int .i64 r.kind, .sl a r.nums.length, .sl b r.texts.length] 3 .own]) (AO.cells [.int .i64 s.kind, .sl a' s.nums.length, .sl b' s.texts.length] 3 .own)
  have pf : σ <+: σ ++ [AO.cells [AV.int .i64 r.kind, .sl a r.nums.length, .sl b r.texts.length] 3 .own] ++ [AO.cells [.int .i64 s.kind, .sl a' s.nums.length, .sl b' s.texts.length] 3 .own] :=
    List.IsPrefix.trans (List.prefix_append _ _) (List.prefix_append _ _)
  have hK' := hK _ pf
  have hm : recEq r s = (decide (r.kind = s.kind) && decide (r.nums = s.nums) && decide (r.texts = s.texts)) := rfl
  conv => lhs; whnf
  refine ldF rfl rfl rfl g rfl ?_
  conv => lhs; whnf
  refine ldF rfl rfl rfl g' rfl ?_
  conv => lhs; whnf
  by_cases hk : r.kind = s.kind
  · refine bif_pos (by simp [hk]) ?_
    conv => lhs; whnf
    refine ldF rfl rfl rfl g rfl ?_
    conv => lhs; whnf
    refine ldF rfl rfl rfl g' rfl ?_
    conv => lhs; whnf
    refine eqI_spec (by omega) (by omega) hD (hr.nums.mono pf) (hs.nums.mono pf) ?_
    cases hc : decide (r.nums = s.nums) with
    | false =>
      rw [hm, hc, Bool.and_false, Bool.false_and] at hK'
      conv => lhs; whnf
      exact hK'
    | true =>
      rw [hm, hc, decide_eq_true hk, Bool.true_and, Bool.true_and] at hK'
      conv => lhs; whnf
      refine ldF rfl rfl rfl g rfl ?_
      conv => lhs; whnf
      refine ldF rfl rfl rfl g' rfl ?_
      conv => lhs; whnf
      refine eqT_spec (by omega) (by omega) hD (hr.texts.mono pf) (hs.texts.mono pf) ?_
      cases hc : decide (r.texts = s.texts) with
      | false =>
        rw [hc] at hK'
        conv => lhs; whnf
        exact hK'
      | true =>
        rw [hc] at hK'
        conv => lhs; whnf
        exact hK'
  · refine bif_neg (by simp [hk]) ?_
    conv => lhs; whnf
    rw [hm, decide_eq_false hk, Bool.false_and, Bool.false_and] at hK'
    exact hK'

def cutR (r : RecP) : RecP := ⟨r.kind, r.nums.take 45, r.texts.take 45⟩
theorem OkR.cut {r : RecP} (h : OkR r) : OkR (cutR r) := ⟨h.k1, h.k2, fun x hx => h.ns x (List.mem_of_mem_take hx), by show (r.nums.take 45).length ≤ _; rw [List.length_take]; have := h.nl; omega,
  fun t ht => h.ts t (List.mem_of_mem_take ht), by show (r.texts.take 45).length ≤ _; rw [List.length_take]; have := h.tl; omega⟩

theorem rec_spec {n : Nat} {a b : SA} {r : RecP} (hn : 1 ≤ n) (hD : ByPlan Try.prog D) {σ : H} (hr : IsR σ a b r) {K : AV → H → Bool}
    (hK : ∀ a' b' σ', σ <+: σ' → IsR σ' a' b' (cutR r) → K (recV a' b' (cutR r)) σ' = true) : acall Try.prog tab D n 33 [recV a b r] σ K = true := by
  obtain ⟨n, rfl, hn⟩ := up hn
  have g := get_old (get_new σ (AO.cells [.int .i64 r.kind, .sl a r.nums.length, .sl b r.texts.length] 3 .own)) (AO.cells [.int .i64 0, .sl .nil 0, .sl .nil 0] 3 .own)
  have g' := get_new (σ ++ [AO.cells [.int .i64 r.kind, .sl a r.nums.length, .sl b r.texts.length] 3 .own]) (AO.cells [.int .i64 0, .sl .nil 0, .sl .nil 0] 3 .own)
  have pf : σ <+: σ ++ [AO.cells [AV.int .i64 r.kind, .sl a r.nums.length, .sl b r.texts.length] 3 .own] ++ [AO.cells [.int .i64 0, .sl .nil 0, .sl .nil 0] 3 .own] :=
    List.IsPrefix.trans (List.prefix_append _ _) (List.prefix_append _ _)
  conv => lhs; whnf
  refine hD.go plan33x1 ord33x1 ?_
  conv => lhs; whnf
  refine ldF rfl rfl rfl g rfl ?_
  conv => lhs; whnf
  refine ldF rfl rfl rfl g rfl ?_
  conv => lhs; whnf
  refine ldF rfl rfl rfl g rfl ?_
  conv => lhs; whnf
  refine it42.slice (hr.nums.mono pf) 0 (min r.nums.length 45) (.inl ⟨rfl, rfl⟩) (.inr ⟨_, _, rfl, ?_⟩) (Nat.zero_le _) (Nat.min_le_left _ _) (r.nums.take 45) ?_ fun a1 r1 => ?_
  · show (if _ then _ else _) = _
    split <;> omega
  · rw [List.drop_zero, Nat.min_comm, ← List.take_take, List.take_of_length_le (Nat.le_refl _)]
  conv => lhs; whnf
  refine ldF rfl rfl rfl g rfl ?_
  conv => lhs; whnf
  refine ldF rfl rfl rfl g rfl ?_
  conv => lhs; whnf
  refine tt43.slice (hr.texts.mono pf) 0 (min r.texts.length 45) (.inl ⟨rfl, rfl⟩) (.inr ⟨_, _, rfl, ?_⟩) (Nat.zero_le _) (Nat.min_le_left _ _) (r.texts.take 45) ?_ fun b1 r2 => ?_
  · show (if _ then _ else _) = _
    split <;> omega
  · rw [List.drop_zero, Nat.min_comm, ← List.take_take, List.take_of_length_le (Nat.le_refl _)]
  conv => lhs; whnf
  refine it42.app (List.prefix_refl _) (xs := []) (Own.nil _ _ _) r1 (r.nums.take 45) rfl (by rw [List.length_take]; omega) fun o3 a3 σ3 p3 _ _ _ r3 => ?_
  conv => lhs; whnf
  refine and_true (all_cons ?_ (all_cons ?_ (all_skip rfl (all_skip rfl (all_cons ?_ rfl))))) ?_
  · conv => lhs; whnf
    refine ldF rfl rfl rfl (prefix_get p3 g) rfl ?_
    exact same_sl _ _
  · conv => lhs; whnf
    refine ldF rfl rfl rfl (prefix_get p3 g) rfl ?_
    exact same_sl _ _
  · conv => lhs; whnf
    refine ldF rfl rfl rfl (prefix_get p3 g) rfl ?_
    exact same_int .i64 r.kind
  conv => lhs; whnf
  refine tt43.app (List.prefix_refl _) (xs := []) (Own.nil _ _ _) (r2.mono p3) (r.texts.take 45) rfl (by rw [List.length_take]; omega) fun o4 b4 σ4 p4 _ _ _ r4 => ?_
  conv => lhs; whnf
  refine and_true (all_skip rfl (all_skip rfl (all_skip rfl (all_skip rfl (all_cons ?_ rfl))))) ?_
  · conv => lhs; whnf
    refine ldF rfl rfl rfl (prefix_get (List.IsPrefix.trans p3 p4) g) rfl ?_
    exact same_int .i64 r.kind
  have g4 := prefix_get (List.IsPrefix.trans p3 p4) g'
  conv => lhs; whnf
  refine storeS rfl g4 rfl rfl (Nat.le_refl 3) rfl ?_
  conv => lhs; whnf
  refine ldS Try.underlying37 rfl (get_set g4 _) (Nat.le_refl 3) (Nat.le_refl 3) rfl ?_
  conv => lhs; whnf
  have hid : (σ ++ [AO.cells [AV.int .i64 r.kind, .sl a r.nums.length, .sl b r.texts.length] 3 .own]).length < (σ ++ [AO.cells [AV.int .i64 r.kind, .sl a r.nums.length, .sl b r.texts.length] 3 .own] ++ [AO.cells [AV.int .i64 0, .sl .nil 0, .sl .nil 0] 3 .own]).length := by
    simp
  exact hK a3 b4 _ (prefix_set (List.IsPrefix.trans pf (List.IsPrefix.trans p3 p4)) (prefix_len (List.prefix_append _ _)) _)
    ⟨((r3.mono p4).keep (keep_set _ _ _) (r3.off hid)).rw, (((r4.since p3).keep (keep_set _ _ _) ((r4.since p3).off hid))).rw⟩
end Go.Proofs.Ytdiajgenbjdfiaa
