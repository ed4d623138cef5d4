/- The reference's reader. -/
import Derived.Test.YtpagagiojnhhfaaL1Able
import Derived.Test.YtpagagiojnhhfaaL1Get
import Derived.Test.YtpagagiojnhhfaaGmPlain
namespace Go.Proofs.Ytpagagiojnhhfaa
open Go Go.AM Go.AM.St

/-- The reference's reader's row: err 2: more; err 1: bad. -/
abbrev qrow (a : SA) (l : Nat) (s : Rd) : AO := .cells [.sl a l, .int .i64 (s.pos : Int), .bool (s.err == 2), .bool (s.err == 1)] 4 .own
def AbleAt (D : Drawer) (n : Nat) (ab : List Nat → Bool) (lo hi : Int) (bs : List Nat) : Prop :=
  ∀ {τ : H} {K : AV → H → Bool} {a' : SA}, Rw τ 1 a' bs.length (u8s bs) → (∀ τ', τ <+: τ' → K (.bool (ab bs)) τ' = true) → acall Try.prog tab D n 66 [.sl a' bs.length, .int .i64 lo, .int .i64 hi] τ K = true
attribute [local irreducible] IntKind.wrap Int.fdiv Int.tdiv Int.tmod BitVec.ofInt appendK sliceK indexAddrK ldK storeK seenK makeSliceK
set_option maxRecDepth 100000
variable {D : Drawer}

theorem numQ_spec {n : Nat} {a : SA} {bs : List Nat} {rid : Nat} {lo hi : Int} {ab : List Nat → Bool} {s : Rd} (hn : bs.length + 20 ≤ n) (hl : bs.length < 1000000) (hab : AbleAt D (n - 1) ab lo hi (bs.drop s.pos)) (hD : ByPlan Try.prog D) {σ : H}
    (ha : Rw σ 1 a bs.length (u8s bs)) (hb : ∀ b ∈ bs, b < 256) (hr : σ[rid]? = some (qrow a bs.length s)) (hp : s.pos ≤ bs.length) (hs3 : s.err < 3) {K : AV → H → Bool}
    (hK : ∀ σ', σ <+: σ' → K (.int .i64 (numQ bs ab lo hi s).1) (σ'.set rid (qrow a bs.length (numQ bs ab lo hi s).2)) = true) : acall Try.prog tab D n 63 [.ptr (some ⟨rid, 0, 0, 4⟩), .int .i64 lo, .int .i64 hi] σ K = true := by
  obtain ⟨n, rfl, hn⟩ := up hn
  have hab : AbleAt D n ab lo hi (bs.drop s.pos) := hab
  have hK0 := hK σ (List.prefix_refl _)
  have hN : numQ bs ab lo hi s = if s.err ≠ 0 then (lo, s) else
    if 0 < (getR (bs.drop s.pos)).2 ∧ lo ≤ (getR (bs.drop s.pos)).1 ∧ (getR (bs.drop s.pos)).1 ≤ hi then ((getR (bs.drop s.pos)).1, ⟨s.pos + (getR (bs.drop s.pos)).2, 0⟩)
    else if (getR (bs.drop s.pos)).2 = 0 ∧ partL 0 0 (bs.drop s.pos) = true ∧ ab (bs.drop s.pos) = true then (lo, ⟨s.pos, 2⟩) else (lo, ⟨s.pos, 1⟩) := rfl
  conv => lhs; whnf
  refine ldF rfl rfl rfl hr rfl ?_
  conv => lhs; whnf
  by_cases he2 : s.err = 2
  · rw [if_pos (by omega)] at hN
    rw [hN, set_same hr] at hK0
    refine bif_pos (by simp [he2]) ?_
    conv => lhs; whnf
    exact hK0
  refine bif_neg (by simp [he2]) ?_
  conv => lhs; whnf
  refine ldF rfl rfl rfl hr rfl ?_
  conv => lhs; whnf
  by_cases he1 : s.err = 1
  · rw [if_pos (by omega)] at hN
    rw [hN, set_same hr] at hK0
    refine bif_pos (by simp [he1]) ?_
    conv => lhs; whnf
    exact hK0
  refine bif_neg (by simp [he1]) ?_
  have he : s.err = 0 := by omega
  rw [if_neg (by omega)] at hN
  conv => lhs; whnf
  refine hD.go plan63x3 ord63x3 ?_
  conv => lhs; whnf
  refine ldF rfl rfl rfl hr rfl ?_
  conv => lhs; whnf
  refine ldF rfl rfl rfl hr rfl ?_
  conv => lhs; whnf
  refine bt.slice ha s.pos bs.length (.inr ⟨_, _, rfl, rfl⟩) (.inl ⟨rfl, rfl⟩) hp (Nat.le_refl _) (bs.drop s.pos) (by rw [List.take_length]) fun a1 r1 => ?_
  have hd : ∀ b ∈ bs.drop s.pos, b < 256 := fun b h => hb b (List.mem_of_mem_drop h)
  have hdl : (bs.drop s.pos).length ≤ bs.length := by rw [List.length_drop]; omega
  conv => lhs; whnf
  refine rget_spec (by omega) r1 hd _ ?_
  have hR := getR_range (bs.drop s.pos)
  have hB := getR_bound (bs.drop s.pos)
  generalize hg : getR (bs.drop s.pos) = gd at hN hR hB
  obtain ⟨x, k⟩ := gd
  simp only at hN hR hB
  conv => lhs; whnf
  have bad : numQ bs ab lo hi s = (lo, ⟨s.pos, 1⟩) → K (.int .i64 lo) (σ.set rid (qrow a bs.length ⟨s.pos, 1⟩)) = true := fun h => by rw [h] at hK0; exact hK0
  by_cases h1 : 0 < k
  rotate_left
  · have hk0 : k = 0 := by omega
    rw [if_neg (fun h => h1 h.1)] at hN
    refine bif_neg (by simp; omega) ?_
    conv => lhs; whnf
    refine hD.go plan63x8 ord63x8 ?_
    conv => lhs; whnf
    refine bif_pos (by simp; omega) ?_
    conv => lhs; whnf
    refine ldF rfl rfl rfl hr rfl ?_
    conv => lhs; whnf
    refine ldF rfl rfl rfl hr rfl ?_
    conv => lhs; whnf
    refine bt.slice ha s.pos bs.length (.inr ⟨_, _, rfl, rfl⟩) (.inl ⟨rfl, rfl⟩) hp (Nat.le_refl _) (bs.drop s.pos) (by rw [List.take_length]) fun a2 r2 => ?_
    conv => lhs; whnf
    refine part_spec (by omega) (by omega) r2 hd ?_
    conv => lhs; whnf
    by_cases hpt : partL 0 0 (bs.drop s.pos) = true
    case' pos =>
      refine bif_pos hpt ?_
      conv => lhs; whnf
      refine ldF rfl rfl rfl hr rfl ?_
      conv => lhs; whnf
      refine ldF rfl rfl rfl hr rfl ?_
      conv => lhs; whnf
      refine bt.slice ha s.pos bs.length (.inr ⟨_, _, rfl, rfl⟩) (.inl ⟨rfl, rfl⟩) hp (Nat.le_refl _) (bs.drop s.pos) (by rw [List.take_length]) fun a3 r3 => ?_
      conv => lhs; whnf
      refine hab r3 fun τ3 hτ3 => ?_
      conv => lhs; whnf
      by_cases hb1 : ab (bs.drop s.pos) = true
      case' pos =>
        rw [if_pos ⟨hk0, hpt, hb1⟩] at hN
        rw [hN] at hK
        have hK3 := hK τ3 hτ3
        refine bif_pos hb1 ?_
        conv => lhs; whnf
        refine storeK_of rfl rfl (by decide) (prefix_get hτ3 hr) rfl (Nat.le_of_ble_eq_true rfl) ?_
        conv => lhs; whnf
        rw [show (s.err == 1) = false by rw [he]; rfl]
        exact hK3
      case' neg =>
        have hn' : ¬ (k = 0 ∧ partL 0 0 (bs.drop s.pos) = true ∧ ab (bs.drop s.pos) = true) := fun h => hb1 h.2.2
        rw [if_neg hn'] at hN
        rw [hN] at hK
        have hK3 := hK τ3 hτ3
        refine bif_neg (by simpa using hb1) ?_
        conv => lhs; whnf
        refine storeK_of rfl rfl (by decide) (prefix_get hτ3 hr) rfl (Nat.le_refl 4) ?_
        conv => lhs; whnf
        rw [show (s.err == 2) = false by rw [he]; rfl]
        exact hK3
    case' neg =>
      have hn' : ¬ (k = 0 ∧ partL 0 0 (bs.drop s.pos) = true ∧ ab (bs.drop s.pos) = true) := fun h => hpt h.2.1
      rw [if_neg hn'] at hN
      have hb' := bad hN
      refine bif_neg (by simpa using hpt) ?_
      conv => lhs; whnf
      refine storeK_of rfl rfl (by decide) hr rfl (Nat.le_refl 4) ?_
      conv => lhs; whnf
      rw [show (s.err == 2) = false by rw [he]; rfl]
      exact hb'
  refine bif_pos (by simp; omega) ?_
  conv => lhs; whnf
  by_cases h2 : lo ≤ x
  case' pos =>
    refine bif_pos (by simpa using h2) ?_
    conv => lhs; whnf
    by_cases h3 : x ≤ hi
    case' pos =>
      rw [if_pos ⟨h1, h2, h3⟩] at hN
      rw [hN] at hK0
      refine bif_pos (by simpa using h3) ?_
      conv => lhs; whnf
      refine ldF rfl rfl rfl hr rfl ?_
      conv => lhs; whnf
      refine storeK_of rfl rfl (by decide) hr rfl (Nat.le_of_ble_eq_true rfl) ?_
      conv => lhs; whnf
      have e : IntKind.i64.wrap ((s.pos : Int) + (k : Int)) = ((s.pos + k : Nat) : Int) := by rw [wrap_i64 (by omega) (by omega)]; omega
      have e2 : qrow a bs.length ⟨s.pos + k, 0⟩ = AO.cells ([AV.sl a bs.length, .int .i64 (s.pos : Int), .bool (s.err == 2), .bool (s.err == 1)].set 1 (.int .i64 (IntKind.i64.wrap ((s.pos : Int) + (k : Int))))) 4 .own := by rw [e, he]; rfl
      rw [e2] at hK0
      exact hK0
    case' neg =>
      have hn' : ¬ (0 < k ∧ lo ≤ x ∧ x ≤ hi) := fun h => h3 h.2.2
      refine bif_neg (by simpa using h3) ?_
      conv => lhs; whnf
  case' neg =>
    have hn' : ¬ (0 < k ∧ lo ≤ x ∧ x ≤ hi) := fun h => h2 h.2.1
    refine bif_neg (by simpa using h2) ?_
    conv => lhs; whnf
  all_goals
    rw [if_neg hn', if_neg (fun h => by have := h.1; omega)] at hN
    have hb' := bad hN
    refine hD.go plan63x8 ord63x8 ?_
    conv => lhs; whnf
    refine bif_neg (by simp; omega) ?_
    conv => lhs; whnf
    refine storeK_of rfl rfl (by decide) hr rfl (Nat.le_refl 4) ?_
    conv => lhs; whnf
    rw [show (s.err == 2) = false by rw [he]; rfl]
    exact hb'
theorem rtext_spec {n : Nat} {a : SA} {bs : List Nat} {rid c : Nat} {y : Int} {s : Rd} (hn : 1 ≤ n) (hl : bs.length < 1000000) (hc : c ≤ 1000) (hy : y = (c : Int)) (hD : ByPlan Try.prog D) {σ : H} (ha : Rw σ 1 a bs.length (u8s bs)) (hb : ∀ b ∈ bs, b < 256)
    (hr : σ[rid]? = some (qrow a bs.length s)) (hp : s.pos ≤ bs.length) (hs3 : s.err < 3) {K : AV → H → Bool}
    (hK : K (.str (ints (txtQ bs c s).1)) (σ.set rid (qrow a bs.length (txtQ bs c s).2)) = true) : acall Try.prog tab D n 64 [.ptr (some ⟨rid, 0, 0, 4⟩), .int .i64 y] σ K = true := by
  obtain ⟨n, rfl, hn⟩ := up hn
  have hT : txtQ bs c s = if s.err ≠ 0 then ([], s) else if bs.length - s.pos < c then ([], ⟨s.pos, 2⟩) else ((bs.drop s.pos).take c, ⟨s.pos + c, 0⟩) := rfl
  conv => lhs; whnf
  refine ldF rfl rfl rfl hr rfl ?_
  conv => lhs; whnf
  by_cases he2 : s.err = 2
  · rw [if_pos (by omega)] at hT
    rw [hT, set_same hr] at hK
    refine bif_pos (by simp [he2]) ?_
    conv => lhs; whnf
    exact hK
  refine bif_neg (by simp [he2]) ?_
  conv => lhs; whnf
  refine ldF rfl rfl rfl hr rfl ?_
  conv => lhs; whnf
  by_cases he1 : s.err = 1
  · rw [if_pos (by omega)] at hT
    rw [hT, set_same hr] at hK
    refine bif_pos (by simp [he1]) ?_
    conv => lhs; whnf
    exact hK
  refine bif_neg (by simp [he1]) ?_
  have he : s.err = 0 := by omega
  rw [if_neg (by omega)] at hT
  conv => lhs; whnf
  refine hD.go plan64x3 ord64x3 ?_
  conv => lhs; whnf
  refine ldF rfl rfl rfl hr rfl ?_
  conv => lhs; whnf
  refine ldF rfl rfl rfl hr rfl ?_
  conv => lhs; whnf
  have e1 : IntKind.i64.wrap ((bs.length : Int) - (s.pos : Int)) = ((bs.length - s.pos : Nat) : Int) := by rw [wrap_i64 (by omega) (by omega)]; omega
  by_cases hlt : bs.length - s.pos < c
  · rw [if_pos hlt] at hT
    rw [hT] at hK
    refine bif_pos (by rw [e1, hy]; simp; omega) ?_
    conv => lhs; whnf
    refine storeK_of rfl rfl (by decide) hr rfl (Nat.le_of_ble_eq_true rfl) ?_
    conv => lhs; whnf
    rw [show (s.err == 1) = false by rw [he]; rfl]
    exact hK
  · rw [if_neg hlt] at hT
    rw [hT] at hK
    refine bif_neg (by rw [e1, hy]; simp; omega) ?_
    conv => lhs; whnf
    refine ldF rfl rfl rfl hr rfl ?_
    conv => lhs; whnf
    refine storeK_of rfl rfl (by decide) hr rfl (Nat.le_of_ble_eq_true rfl) ?_
    have e2 : IntKind.i64.wrap ((s.pos : Int) + y) = ((s.pos + c : Nat) : Int) := by rw [hy, wrap_i64 (by omega) (by omega)]; omega
    have e3 : AO.cells ([AV.sl a bs.length, .int .i64 (s.pos : Int), .bool (s.err == 2), .bool (s.err == 1)].set 1 (.int .i64 (IntKind.i64.wrap ((s.pos : Int) + y)))) 4 .own = qrow a bs.length ⟨s.pos + c, 0⟩ := by rw [e2, he]; rfl
    conv => lhs; whnf
    refine hD.go plan64x7 ord64x7 ?_
    conv => lhs; whnf
    have hr2 := get_set hr (AO.cells ([AV.sl a bs.length, .int .i64 (s.pos : Int), .bool (s.err == 2), .bool (s.err == 1)].set 1 (.int .i64 (IntKind.i64.wrap ((s.pos : Int) + y)))) 4 .own)
    have ha2 := Rw.set (xs' := [AV.sl a bs.length, .int .i64 (s.pos : Int), .bool (s.err == 2), .bool (s.err == 1)].set 1 (.int .i64 (IntKind.i64.wrap ((s.pos : Int) + y)))) (md' := .own) ha hr (by decide)
    refine ldF rfl rfl rfl hr2 rfl ?_
    conv => lhs; whnf
    refine ldF rfl rfl rfl hr2 rfl ?_
    conv => lhs; whnf
    refine ldF rfl rfl rfl hr2 rfl ?_
    conv => lhs; whnf
    refine bt.slice ha2 s.pos (s.pos + c) (.inr ⟨_, _, rfl, by rw [e2, hy, wrap_i64 (by omega) (by omega)]; omega⟩) (.inr ⟨_, _, rfl, e2⟩) (by omega) (by omega) ((bs.drop s.pos).take c) (by rw [List.drop_take]; congr 1; omega) fun a3 r3 => ?_
    conv => lhs; whnf
    refine strK_rw r3 (fun b h => hb b (List.mem_of_mem_drop (List.mem_of_mem_take h))) ?_
    conv => lhs; whnf
    rw [← e3] at hK
    exact hK
end Go.Proofs.Ytpagagiojnhhfaa
