/- Package rec: the reader. Package rec: Get. RecAll. RecMany. Package frame: Put, Get. Package frame: Scan. -/
import Derived.Test.YtahhajakgakdhaaGmRec
import Derived.Test.YtahhajakgakdhaaGmPlain
import Derived.Test.YtahhajakgakdhaaGmStep
import Derived.Test.YtahhajakgakdhaaGmWord
namespace Go.Proofs.Ytahhajakgakdhaa
open Go Go.AM Go.AM.St

/-- The reader's row. -/
abbrev rrow (a : SA) (l : Nat) (s : Rd) : AO := .cells [.sl a l, .int .i64 (s.pos : Int), .int .i64 (s.err : Int)] 3 .own
theorem set_same {σ : H} {id : Nat} {o : AO} (h : σ[id]? = some o) : σ.set id o = σ := by
  obtain ⟨h1, h2⟩ := List.getElem?_eq_some_iff.1 h
  rw [← h2]
  exact List.set_getElem_self h1
theorem Rw.set {σ : H} {z n id y : Nat} {a : SA} {cs xs xs' : List AV} {md md' : Md} (h : Rw σ z a n cs) (hr : σ[id]? = some (AO.cells xs y md)) (hz : z ≠ y) : Rw (σ.set id (.cells xs' y md')) z a n cs := by
  rcases h with h | h | ⟨j, off, ys, m, e, h1, h2, h3⟩
  · exact .inl h
  · exact .inr (.inl h)
  · refine .inr (.inr ⟨j, off, ys, m, e, get_set_ne h1 (fun e => ?_) _, h2, h3⟩)
    rw [e, hr] at h1
    cases h1
    exact hz rfl
theorem shr7 {m : Nat} : (m : Int).fdiv (2 ^ min (Int.toNat 7) IntKind.u64.bits) = ((m / 128 : Nat) : Int) := shr_nat (k := .u64) (j := 7) rfl
attribute [local irreducible] IntKind.wrap Int.fdiv Int.tdiv Int.tmod BitVec.ofInt appendK sliceK indexAddrK ldK storeK seenK makeSliceK
set_option maxRecDepth 100000
variable {D : Drawer}

theorem beg_spec {n : Nat} {a : SA} {bs : List Nat} {most : Nat} (hn : bs.length + 2 ≤ n) (hl : bs.length < 1000000) (hm : most < 18446744073709551616) {σ : H} (ha : Rw σ 1 a bs.length (u8s bs)) (hb : ∀ b ∈ bs, b < 256) {K : AV → H → Bool}
    (hK : K (.bool (begL (most / 128) 0 0 bs)) σ = true) : acall Try.prog tab D n 118 [.sl a bs.length, .int .u64 (most : Int)] σ K = true := by
  obtain ⟨n, rfl, hn⟩ := up hn
  conv => lhs; whnf
  refine loop_rule (m := 1826) (fun r fr τ => ∃ (y z : Int) (u i : Nat), y = (u : Int) ∧ z = (i : Int) ∧ u ≤ most / 128 ∧ i + r = bs.length ∧ τ = σ ∧
      fr = [.bad, .int .u64 (most : Int), .bad, .bad, .bad, .int .u64 y, .bad, .bad, .sl a bs.length, .int .i64 (bs.length : Int), .int .i64 z, .bad, .bad, .bad, .bad, .bad, .bad, .bad, .bad, .bad, .bad, .bad, .bad, .bad, .bad, .bad, .bad, .bad, .bad, .bad, .bad, .bad, .bad, .bad, .bad, .bad] ∧
      begL (most / 128) 0 0 bs = begL (most / 128) i u (bs.drop i)) ?_ _ bs.length _ _ (by omega) ⟨_, _, 0, 0, rfl, rfl, Nat.zero_le _, by omega, rfl, rfl, rfl⟩
  rintro r fr τ C ⟨y, z, u, i, rfl, rfl, hu, hi, rfl, rfl, he⟩ next fin
  conv => lhs; whnf
  refine bif_case (fun h => ?_) (fun h => ?_)
  · have hlt : i < bs.length := by simpa using h
    have hx : bs[i] < 256 := hb _ (List.getElem_mem _)
    rw [List.drop_eq_getElem_cons hlt] at he
    conv => lhs; whnf
    refine bt.idx ha rfl hlt fun p hp => ?_
    conv => lhs; whnf
    refine bt.ld hp ?_
    generalize bs[i] = x at hx he
    rw [begL] at he
    conv => lhs; whnf
    by_cases hc : x < 128 ∨ (i = 0 ∧ x = 128)
    · rw [if_pos hc] at he
      rw [he] at hK
      by_cases h1 : x < 128
      · refine bif_pos (by simp; omega) ?_
        conv => lhs; whnf
        refine fin _ _ _ nofun ?_
        conv => lhs; whnf
        exact hK
      · refine bif_neg (by simp; omega) ?_
        conv => lhs; whnf
        refine bif_pos (by simp; omega) ?_
        conv => lhs; whnf
        refine bif_pos (by simp; omega) ?_
        conv => lhs; whnf
        refine fin _ _ _ nofun ?_
        conv => lhs; whnf
        exact hK
    · rw [if_neg hc] at he
      refine bif_neg (by simp; omega) ?_
      conv => lhs; whnf
      by_cases hi0 : i = 0
      case' pos =>
        refine bif_pos (by simp [hi0]) ?_
        conv => lhs; whnf
        refine bif_neg (by simp; omega) ?_
        conv => lhs; whnf
      case' neg =>
        refine bif_neg (by simp; omega) ?_
        conv => lhs; whnf
      all_goals
        have hs7 := step7 (u := u) (by omega) hx
        by_cases hx1 : most / 128 < u * 128 + x % 128
        · rw [if_pos hx1] at he
          rw [he] at hK
          refine bif_pos (by rw [hs7, shr7]; simp; omega) ?_
          conv => lhs; whnf
          refine fin _ _ _ nofun ?_
          conv => lhs; whnf
          exact hK
        · rw [if_neg hx1] at he
          refine bif_neg (by rw [hs7, shr7]; simp; omega) ?_
          conv => lhs; whnf
          refine next (r - 1) _ _ (by omega) ⟨_, _, u * 128 + x % 128, i + 1, hs7, inc_i64 (by omega), by omega, by omega, rfl, rfl, he⟩
  · obtain rfl : i = bs.length := by have : ¬ i < bs.length := by simpa using h
                                     omega
    rw [List.drop_length, begL] at he
    rw [he] at hK
    conv => lhs; whnf
    refine fin _ _ _ nofun ?_
    conv => lhs; whnf
    exact hK


theorem number_spec {n : Nat} {a : SA} {bs : List Nat} {most rid : Nat} {q : Int} {s : Rd} (hn : bs.length + 20 ≤ n) (hl : bs.length < 1000000) (hq : q = (most : Int)) (hm : most < 18446744073709551616) (hD : ByPlan Try.prog D) {σ : H} (ha : Rw σ 1 a bs.length (u8s bs)) (hb : ∀ b ∈ bs, b < 256)
    (hr : σ[rid]? = some (rrow a bs.length s)) (hp : s.pos ≤ bs.length) {K : AV → H → Bool}
    (hK : K (.int .i64 (numR bs most s).1) (σ.set rid (rrow a bs.length (numR bs most s).2)) = true) : acall Try.prog tab D n 97 [.ptr (some ⟨rid, 0, 0, 3⟩), .int .u64 q] σ K = true := by
  subst hq
  obtain ⟨n, rfl, hn⟩ := up hn
  have hN : numR bs most s = if s.err ≠ 0 then (0, s) else
    if 0 < (getR (bs.drop s.pos)).2 ∧ zigN (getR (bs.drop s.pos)).1 ≤ most then ((getR (bs.drop s.pos)).1, ⟨s.pos + (getR (bs.drop s.pos)).2, 0⟩)
    else if (getR (bs.drop s.pos)).2 = 0 ∧ begL (most / 128) 0 0 (bs.drop s.pos) = true then (0, ⟨s.pos, 2⟩) else (0, ⟨s.pos, 1⟩) := rfl
  conv => lhs; whnf
  refine ldF rfl rfl rfl hr rfl ?_
  conv => lhs; whnf
  by_cases he : s.err = 0
  · rw [if_neg (by simp [he])] at hN
    refine bif_neg (by simp [he]) ?_
    conv => lhs; whnf
    refine hD.go plan97x3 ord97x3 ?_
    conv => lhs; whnf
    refine ldF rfl rfl rfl hr rfl ?_
    conv => lhs; whnf
    refine ldF rfl rfl rfl hr rfl ?_
    conv => lhs; whnf
    refine bt.slice ha s.pos bs.length (.inr ⟨_, _, rfl, rfl⟩) (.inl ⟨rfl, rfl⟩) hp (Nat.le_refl _) (bs.drop s.pos) (by rw [List.take_length]) fun a1 r1 => ?_
    have hd : ∀ b ∈ bs.drop s.pos, b < 256 := fun b h => hb b (List.mem_of_mem_drop h)
    have hdl : (bs.drop s.pos).length ≤ bs.length := by rw [List.length_drop]; omega
    conv => lhs; whnf
    refine get_spec (by omega) r1 hd _ ?_
    have hR := getR_range (bs.drop s.pos)
    have hB := getR_bound (bs.drop s.pos)
    generalize hg : getR (bs.drop s.pos) = gd at hN hR hB
    obtain ⟨x, k⟩ := gd
    simp only at hN hR hB
    conv => lhs; whnf
    by_cases h1 : 0 < k
    · refine bif_pos (by simp; omega) ?_
      conv => lhs; whnf
      refine zig_spec (by omega) hR.1 hR.2 σ _ ?_
      conv => lhs; whnf
      by_cases h2 : zigN x ≤ most
      · rw [if_pos ⟨h1, h2⟩] at hN
        rw [hN] at hK
        refine bif_pos (by simp; omega) ?_
        conv => lhs; whnf
        refine ldF rfl rfl rfl hr rfl ?_
        conv => lhs; whnf
        refine storeK_of rfl rfl (by decide) hr rfl (Nat.le_succ 2) ?_
        conv => lhs; whnf
        have e : IntKind.i64.wrap ((s.pos : Int) + (k : Int)) = ((s.pos + k : Nat) : Int) := by rw [wrap_i64 (by omega) (by omega)]; omega
        have e2 : rrow a bs.length ⟨s.pos + k, 0⟩ = AO.cells ([AV.sl a bs.length, .int .i64 (s.pos : Int), .int .i64 (s.err : Int)].set 1 (.int .i64 (IntKind.i64.wrap ((s.pos : Int) + (k : Int))))) 3 .own := by rw [e, he]; rfl
        rw [e2] at hK
        exact hK
      · rw [if_neg (fun h => h2 h.2), if_neg (fun h => by omega)] at hN
        rw [hN] at hK
        refine bif_neg (by simp; omega) ?_
        conv => lhs; whnf
        refine hD.go plan97x8 ord97x8 ?_
        conv => lhs; whnf
        refine bif_neg (by simp; omega) ?_
        conv => lhs; whnf
        refine storeK_of rfl rfl (by decide) hr rfl (Nat.le_refl 3) ?_
        conv => lhs; whnf
        exact hK
    · obtain rfl : k = 0 := by omega
      refine hD.go plan97x8 ord97x8 ?_
      conv => lhs; whnf
      refine ldF rfl rfl rfl hr rfl ?_
      conv => lhs; whnf
      refine ldF rfl rfl rfl hr rfl ?_
      conv => lhs; whnf
      refine bt.slice ha s.pos bs.length (.inr ⟨_, _, rfl, rfl⟩) (.inl ⟨rfl, rfl⟩) hp (Nat.le_refl _) (bs.drop s.pos) (by rw [List.take_length]) fun a2 r2 => ?_
      conv => lhs; whnf
      refine beg_spec (by omega) (by omega) hm r2 hd ?_
      rw [if_neg (fun h => h1 h.1)] at hN
      cases hc : begL (most / 128) 0 0 (bs.drop s.pos) with
      | true =>
        rw [hc, if_pos ⟨rfl, rfl⟩] at hN
        rw [hN] at hK
        conv => lhs; whnf
        refine storeK_of rfl rfl (by decide) hr rfl (Nat.le_refl 3) ?_
        conv => lhs; whnf
        exact hK
      | false =>
        rw [hc, if_neg (fun h => by cases h.2)] at hN
        rw [hN] at hK
        conv => lhs; whnf
        refine storeK_of rfl rfl (by decide) hr rfl (Nat.le_refl 3) ?_
        conv => lhs; whnf
        exact hK
  · rw [if_pos (by simpa using he)] at hN
    rw [hN, set_same hr] at hK
    refine bif_pos (by simp; omega) ?_
    conv => lhs; whnf
    exact hK

theorem count_spec {n : Nat} {a : SA} {bs : List Nat} {m rid : Nat} {q : Int} {s : Rd} (hn : bs.length + 21 ≤ n) (hl : bs.length < 1000000) (hq : q = (m : Int)) (hm : m ≤ 1000) (hD : ByPlan Try.prog D) {σ : H} (ha : Rw σ 1 a bs.length (u8s bs)) (hb : ∀ b ∈ bs, b < 256)
    (hr : σ[rid]? = some (rrow a bs.length s)) (hp : s.pos ≤ bs.length) {K : AV → H → Bool}
    (hK : K (.int .i64 (cntR bs m s).1) (σ.set rid (rrow a bs.length (cntR bs m s).2)) = true) : acall Try.prog tab D n 96 [.ptr (some ⟨rid, 0, 0, 3⟩), .int .i64 q] σ K = true := by
  subst hq
  obtain ⟨n, rfl, hn⟩ := up hn
  have hC : cntR bs m s = if (numR bs (2 * m) s).1 < 0 then (0, ⟨(numR bs (2 * m) s).2.pos, 1⟩) else numR bs (2 * m) s := rfl
  conv => lhs; whnf
  refine number_spec (most := 2 * m) (by omega) hl ?_ (by omega) hD ha hb hr hp ?_
  · show IntKind.u64.wrap (2 * IntKind.u64.wrap (m : Int)) = _
    rw [wrap_u64 (u := m) (by omega), show (2 : Int) * (m : Int) = ((2 * m : Nat) : Int) by omega, wrap_u64 (by omega)]
  conv => lhs; whnf
  by_cases h : (numR bs (2 * m) s).1 < 0
  · rw [if_pos h] at hC
    rw [hC] at hK
    refine bif_pos (by simpa using h) ?_
    conv => lhs; whnf
    refine storeK_of rfl rfl (by decide) (get_set hr _) rfl (Nat.le_refl 3) ?_
    rw [List.set_set]
    conv => lhs; whnf
    exact hK
  · rw [if_neg h] at hC
    rw [hC] at hK
    refine bif_neg (by simpa using h) ?_
    conv => lhs; whnf
    exact hK

theorem text_spec {n : Nat} {a : SA} {bs : List Nat} {rid : Nat} {s : Rd} (hn : bs.length + 22 ≤ n) (hl : bs.length < 1000000) (hD : ByPlan Try.prog D) {σ : H} (ha : Rw σ 1 a bs.length (u8s bs)) (hb : ∀ b ∈ bs, b < 256)
    (hr : σ[rid]? = some (rrow a bs.length s)) (hp : s.pos ≤ bs.length) {K : AV → H → Bool}
    (hK : K (.str (ints (txtR bs s).1)) (σ.set rid (rrow a bs.length (txtR bs s).2)) = true) : acall Try.prog tab D n 98 [.ptr (some ⟨rid, 0, 0, 3⟩)] σ K = true := by
  obtain ⟨n, rfl, hn⟩ := up hn
  have hT : txtR bs s = if (cntR bs 200 s).2.err ≠ 0 then ([], (cntR bs 200 s).2)
    else if bs.length - (cntR bs 200 s).2.pos < (cntR bs 200 s).1.toNat then ([], ⟨(cntR bs 200 s).2.pos, 2⟩)
    else ((bs.drop (cntR bs 200 s).2.pos).take (cntR bs 200 s).1.toNat, ⟨(cntR bs 200 s).2.pos + (cntR bs 200 s).1.toNat, 0⟩) := rfl
  have hc1 := cntR_range (bs := bs) (m := 200) (s := s)
  have hc2 := cntR_pos (m := 200) hp
  conv => lhs; whnf
  refine count_spec (m := 200) (by omega) hl rfl (by decide) hD ha hb hr hp ?_
  generalize cntR bs 200 s = c at hT hc1 hc2
  obtain ⟨x, t⟩ := c
  simp only at hT hc1 hc2
  obtain ⟨k, rfl⟩ : ∃ k : Nat, x = (k : Int) := ⟨x.toNat, by omega⟩
  rw [Int.toNat_natCast] at hT
  have hr1 := get_set hr (rrow a bs.length t)
  have ha1 := Rw.set (xs' := [.sl a bs.length, .int .i64 (t.pos : Int), .int .i64 (t.err : Int)]) (md' := .own) ha hr (by decide)
  conv => lhs; whnf
  refine ldF rfl rfl rfl hr1 rfl ?_
  conv => lhs; whnf
  by_cases he : t.err = 0
  · rw [if_neg (by simp [he])] at hT
    refine bif_neg (by simp [he]) ?_
    conv => lhs; whnf
    refine hD.go plan98x4 ord98x4 ?_
    conv => lhs; whnf
    refine ldF rfl rfl rfl hr1 rfl ?_
    conv => lhs; whnf
    refine ldF rfl rfl rfl hr1 rfl ?_
    conv => lhs; whnf
    have e1 : IntKind.i64.wrap ((bs.length : Int) - (t.pos : Int)) = ((bs.length - t.pos : Nat) : Int) := by rw [wrap_i64 (by omega) (by omega)]; omega
    by_cases hlt : bs.length - t.pos < k
    · rw [if_pos hlt] at hT
      rw [hT] at hK
      refine bif_pos (by rw [e1]; simp; omega) ?_
      conv => lhs; whnf
      refine storeK_of rfl rfl (by decide) hr1 rfl (Nat.le_refl 3) ?_
      rw [List.set_set]
      conv => lhs; whnf
      exact hK
    · rw [if_neg hlt] at hT
      rw [hT] at hK
      refine bif_neg (by rw [e1]; simp; omega) ?_
      conv => lhs; whnf
      refine ldF rfl rfl rfl hr1 rfl ?_
      conv => lhs; whnf
      refine storeK_of rfl rfl (by decide) hr1 rfl (Nat.le_succ 2) ?_
      have e2 : IntKind.i64.wrap ((t.pos : Int) + (k : Int)) = ((t.pos + k : Nat) : Int) := by rw [wrap_i64 (by omega) (by omega)]; omega
      have e3 : AO.cells ([AV.sl a bs.length, .int .i64 (t.pos : Int), .int .i64 (t.err : Int)].set 1 (.int .i64 (IntKind.i64.wrap ((t.pos : Int) + (k : Int))))) 3 .own = rrow a bs.length ⟨t.pos + k, 0⟩ := by rw [e2, he]; rfl
      rw [List.set_set]
      show (_ : Bool) = true
      conv => lhs; whnf
      refine hD.go plan98x8 ord98x8 ?_
      conv => lhs; whnf
      have hr2 := get_set hr (AO.cells ([AV.sl a bs.length, .int .i64 (t.pos : Int), .int .i64 (t.err : Int)].set 1 (.int .i64 (IntKind.i64.wrap ((t.pos : Int) + (k : Int))))) 3 .own)
      have ha2 := Rw.set (xs' := [AV.sl a bs.length, .int .i64 (t.pos : Int), .int .i64 (t.err : Int)].set 1 (.int .i64 (IntKind.i64.wrap ((t.pos : Int) + (k : Int))))) (md' := .own) ha hr (by decide)
      refine ldF rfl rfl rfl hr2 rfl ?_
      conv => lhs; whnf
      refine ldF rfl rfl rfl hr2 rfl ?_
      conv => lhs; whnf
      refine ldF rfl rfl rfl hr2 rfl ?_
      conv => lhs; whnf
      refine bt.slice ha2 t.pos (t.pos + k) (.inr ⟨_, _, rfl, by rw [e2, wrap_i64 (by omega) (by omega)]; omega⟩) (.inr ⟨_, _, rfl, e2⟩) (by omega) (by omega) ((bs.drop t.pos).take k) (by rw [List.drop_take]; congr 1; omega) fun a3 r3 => ?_
      conv => lhs; whnf
      refine strK_rw r3 (fun b h => hb b (List.mem_of_mem_drop (List.mem_of_mem_take h))) ?_
      conv => lhs; whnf
      rw [← e3] at hK
      exact hK
  · rw [if_pos (by simpa using he)] at hT
    rw [hT] at hK
    refine bif_pos (by simp; omega) ?_
    conv => lhs; whnf
    exact hK
end Go.Proofs.Ytahhajakgakdhaa
namespace Go.Proofs.Ytahhajakgakdhaa
open Go Go.AM Go.AM.St
attribute [local irreducible] IntKind.wrap Int.fdiv Int.tdiv Int.tmod BitVec.ofInt appendK sliceK indexAddrK ldK storeK seenK makeSliceK
set_option maxRecDepth 100000
variable {D : Drawer}

theorem recGet_spec {n : Nat} {a : SA} {bs : List Nat} (hn : bs.length + 100 ≤ n) (hl : bs.length < 1000000) (hD : ByPlan Try.prog D) {σ : H} (ha : Rw σ 1 a bs.length (u8s bs)) (hb : ∀ b ∈ bs, b < 256) {K : AV → H → Bool}
    (hK : ∀ a' b' σ', σ <+: σ' → IsR σ' a' b' (recGet bs).1 → K (.tup [recV a' b' (recGet bs).1, .int .i64 ((recGet bs).2.1 : Nat), .int .i64 ((recGet bs).2.2 : Nat)]) σ' = true) :
    acall Try.prog tab D n 81 [.sl a bs.length] σ K = true := by
  obtain ⟨n, rfl, hn⟩ := up hn
  have hG : recGet bs = recGetF bs (cntR bs 255 ⟨0, 0⟩) := rfl
  have g0 := get_old (get_new σ (AO.cells [AV.int .i64 0, .sl .nil 0, .sl .nil 0] 3 .own)) (rrow a bs.length ⟨0, 0⟩)
  have g1 := get_new (σ ++ [AO.cells [AV.int .i64 0, .sl .nil 0, .sl .nil 0] 3 .own]) (rrow a bs.length ⟨0, 0⟩)
  have pf : σ <+: σ ++ [AO.cells [AV.int .i64 0, .sl .nil 0, .sl .nil 0] 3 .own] ++ [rrow a bs.length ⟨0, 0⟩] := List.IsPrefix.trans (List.prefix_append _ _) (List.prefix_append _ _)
  have hL1 : (σ ++ [AO.cells [AV.int .i64 0, .sl .nil 0, .sl .nil 0] 3 .own]).length = σ.length + 1 := by simp
  have hc1 := cntR_range (bs := bs) (m := 255) (s := ⟨0, 0⟩)
  have hp1 := cntR_pos (bs := bs) (m := 255) (s := ⟨0, 0⟩) (Nat.zero_le _)
  conv => lhs; whnf
  refine count_spec (m := 255) (s := ⟨0, 0⟩) (by omega) hl rfl (by decide) hD (ha.mono pf) hb g1 (Nat.zero_le _) ?_
  generalize cntR bs 255 ⟨0, 0⟩ = c1 at hG hc1 hp1
  have g0' := get_set_ne g0 (j := (σ ++ [AO.cells [AV.int .i64 0, .sl .nil 0, .sl .nil 0] 3 .own]).length) (by rw [hL1]; omega) (rrow a bs.length c1.2)
  have g1' := get_set g1 (rrow a bs.length c1.2)
  have pf1 := prefix_set pf (by rw [hL1]; omega) (id := (σ ++ [AO.cells [AV.int .i64 0, .sl .nil 0, .sl .nil 0] 3 .own]).length) (rrow a bs.length c1.2)
  have hlen : ((σ ++ [AO.cells [AV.int .i64 0, .sl .nil 0, .sl .nil 0] 3 .own] ++ [rrow a bs.length ⟨0, 0⟩]).set (σ ++ [AO.cells [AV.int .i64 0, .sl .nil 0, .sl .nil 0] 3 .own]).length (rrow a bs.length c1.2)).length = σ.length + 2 := by simp
  have hi1 : σ.length < (σ ++ [AO.cells [AV.int .i64 0, .sl .nil 0, .sl .nil 0] 3 .own]).length := by rw [hL1]; omega
  have hi2 : (σ ++ [AO.cells [AV.int .i64 0, .sl .nil 0, .sl .nil 0] 3 .own]).length < ((σ ++ [AO.cells [AV.int .i64 0, .sl .nil 0, .sl .nil 0] 3 .own] ++ [rrow a bs.length ⟨0, 0⟩]).set (σ ++ [AO.cells [AV.int .i64 0, .sl .nil 0, .sl .nil 0] 3 .own]).length (rrow a bs.length c1.2)).length := by
    rw [hlen, hL1]; omega
  conv => lhs; whnf
  refine storeS rfl (get_new _ _) rfl rfl (Nat.le_refl 3) rfl ?_
  conv => lhs; whnf
  have hg2 : ∀ x, (((σ ++ [AO.cells [AV.int .i64 0, .sl .nil 0, .sl .nil 0] 3 .own] ++ [rrow a bs.length ⟨0, 0⟩]).set (σ ++ [AO.cells [AV.int .i64 0, .sl .nil 0, .sl .nil 0] 3 .own]).length (rrow a bs.length c1.2)) ++ [AO.cells [AV.int .i64 0, .sl .nil 0, .sl .nil 0] 3 .own]).set
      ((σ ++ [AO.cells [AV.int .i64 0, .sl .nil 0, .sl .nil 0] 3 .own] ++ [rrow a bs.length ⟨0, 0⟩]).set (σ ++ [AO.cells [AV.int .i64 0, .sl .nil 0, .sl .nil 0] 3 .own]).length (rrow a bs.length c1.2)).length x =
      ((σ ++ [AO.cells [AV.int .i64 0, .sl .nil 0, .sl .nil 0] 3 .own] ++ [rrow a bs.length ⟨0, 0⟩]).set (σ ++ [AO.cells [AV.int .i64 0, .sl .nil 0, .sl .nil 0] 3 .own]).length (rrow a bs.length c1.2)) ++ [x] := fun x => by
    rw [List.set_append_right _ _ (Nat.le_refl _), Nat.sub_self, List.set_cons_zero]
  have G0 := get_old g0' (AO.cells [AV.int .i64 c1.1, .sl .nil 0, .sl .nil 0] 3 .own)
  have G1 := get_old g1' (AO.cells [AV.int .i64 c1.1, .sl .nil 0, .sl .nil 0] 3 .own)
  have G2 := get_new ((σ ++ [AO.cells [AV.int .i64 0, .sl .nil 0, .sl .nil 0] 3 .own] ++ [rrow a bs.length ⟨0, 0⟩]).set (σ ++ [AO.cells [AV.int .i64 0, .sl .nil 0, .sl .nil 0] 3 .own]).length (rrow a bs.length c1.2)) (AO.cells [AV.int .i64 c1.1, .sl .nil 0, .sl .nil 0] 3 .own)
  have PF := prefix_add pf1 (AO.cells [AV.int .i64 c1.1, .sl .nil 0, .sl .nil 0] 3 .own)
  rw [← hg2] at G0 G1 G2 PF
  have ha1 := ha.mono PF
  have hc2 := cntR_range (bs := bs) (m := 40) (s := c1.2)
  have hp2 := cntR_pos (m := 40) hp1
  refine count_spec (m := 40) (s := c1.2) (by omega) hl rfl (by decide) hD ha1 hb G1 hp1 ?_
  have hG : recGet bs = recGetG bs c1 (cntR bs 40 c1.2) := hG
  generalize cntR bs 40 c1.2 = c2 at hG hc2 hp2
  have hG : recGet bs = recGetH bs c1 (numsR bs c2.1.toNat c2.2) := hG
  obtain ⟨N, hN⟩ : ∃ N : Nat, c2.1 = (N : Int) := ⟨c2.1.toNat, by omega⟩
  rw [hN, Int.toNat_natCast] at hG
  rw [hN] at hc2 ⊢
  have hN40 : N ≤ 40 := by omega
  have G0' := get_set_ne G0 (j := (σ ++ [AO.cells [AV.int .i64 0, .sl .nil 0, .sl .nil 0] 3 .own]).length) (Nat.ne_of_lt hi1) (rrow a bs.length c2.2)
  have G1' := get_set G1 (rrow a bs.length c2.2)
  have G2' := get_set_ne G2 (j := (σ ++ [AO.cells [AV.int .i64 0, .sl .nil 0, .sl .nil 0] 3 .own]).length) (Nat.ne_of_gt hi2) (rrow a bs.length c2.2)
  have PF' := prefix_set PF (Nat.le_of_lt hi1) (id := (σ ++ [AO.cells [AV.int .i64 0, .sl .nil 0, .sl .nil 0] 3 .own]).length) (rrow a bs.length c2.2)
  conv => lhs; whnf
  refine loop_rule (m := 49252) (fun q fr τ => ∃ (z : Int) (i i0 i1 i2 : Nat) (o : Option Nat) (c : SA), z = (i : Int) ∧ i + q = N ∧
      fr = [.bad, .bad, .ptr (some ⟨i0, 0, 0, 3⟩), .bad, .bad, .ptr (some ⟨i1, 0, 0, 3⟩), .ptr (some ⟨i2, 0, 0, 3⟩), .bad, .bad, .bad, .bad, .bad, .bad, .bad, .int .i64 (N : Int), .int .i64 z, .bad, .bad, .bad, .bad, .bad, .bad, .bad, .bad, .bad, .bad, .bad, .bad, .bad, .bad, .bad, .bad, .bad, .bad, .bad, .bad, .bad, .bad, .bad, .bad, .bad, .bad, .bad, .bad, .bad, .bad, .bad, .bad, .bad, .bad, .bad, .bad] ∧
      σ <+: τ ∧ σ.length ≤ i0 ∧ i0 < i1 ∧ i1 < i2 ∧ (∀ id, o = some id → i2 < id) ∧ i2 < τ.length ∧
      τ[i0]? = some (AO.cells [AV.int .i64 0, .sl .nil 0, .sl .nil 0] 3 .own) ∧ τ[i1]? = some (rrow a bs.length (numsR bs i c2.2).2) ∧
      τ[i2]? = some (AO.cells [AV.int .i64 c1.1, .sl c (numsR bs i c2.2).1.length, .sl .nil 0] 3 .own) ∧
      Own σ τ 1 o c (numsR bs i c2.2).1.length (iks .i64 (numsR bs i c2.2).1)) ?_ _ N _ _ (by omega)
      ⟨_, 0, σ.length, _, _, none, .nil, rfl, by omega, rfl, PF', Nat.le_refl _, hi1, hi2, nofun, get_lt G2', G0', G1', G2', Own.nil _ _ _⟩
  rintro q fr τ C ⟨z, i, i0, i1, i2, o, c, rfl, hi, rfl, hpf, h0, h1, h2, ho, hlt2, R0, R1, R2, hown⟩ next fin
  conv => lhs; whnf
  refine bif_case (fun h => ?_) (fun h => ?_)
  · have hlt : i < N := by simpa using h
    have hsn := numsR_succ bs i c2.2
    have hlen2 := numsR_len bs i c2.2
    have hpos2 := numsR_pos i hp2
    conv => lhs; whnf
    refine hD.go plan81x5 ord81x5 ?_
    conv => lhs; whnf
    refine ldF rfl rfl rfl R2 rfl ?_
    conv => lhs; whnf
    refine number_spec (most := 18446744073709551615) (by omega) hl rfl (by decide) hD (ha.mono hpf) hb R1 hpos2 ?_
    have R0a := get_set_ne R0 (j := i1) (by omega) (rrow a bs.length (numR bs 18446744073709551615 (numsR bs i c2.2).2).2)
    have R1a := get_set R1 (rrow a bs.length (numR bs 18446744073709551615 (numsR bs i c2.2).2).2)
    have R2a := get_set_ne R2 (j := i1) (by omega) (rrow a bs.length (numR bs 18446744073709551615 (numsR bs i c2.2).2).2)
    have Pa := prefix_set hpf (by omega) (id := i1) (rrow a bs.length (numR bs 18446744073709551615 (numsR bs i c2.2).2).2)
    have Oa := hown.keep (keep_set τ i1 (rrow a bs.length (numR bs 18446744073709551615 (numsR bs i c2.2).2).2)) (by
      cases o with
      | none => exact .inl rfl
      | some id => exact .inr fun e => by cases e; have := ho _ rfl; omega)
    have hla : i2 < (τ.set i1 (rrow a bs.length (numR bs 18446744073709551615 (numsR bs i c2.2).2).2)).length := by rw [List.length_set]; exact hlt2
    generalize hx : (numR bs 18446744073709551615 (numsR bs i c2.2).2) = x at *
    generalize τ.set i1 (rrow a bs.length x.2) = τa at *
    conv => lhs; whnf
    refine and_true (all_cons ?_ rfl) ?_
    · conv => lhs; whnf
      refine ldF rfl rfl rfl R2a rfl ?_
      exact same_sl c _
    conv => lhs; whnf
    refine and_true (all_cons ?_ rfl) ?_
    · conv => lhs; whnf
      refine ldF rfl rfl rfl (get_old R2a _) rfl ?_
      exact same_sl c _
    conv => lhs; whnf
    have hla' : i2 < (τa ++ [AO.cells [AV.int .i64 x.1] 1 .own]).length := by rw [List.length_append]; omega
    have hrx : Rw (τa ++ [AO.cells [AV.int .i64 x.1] 1 .own]) 1 (.at τa.length 0 1) [x.1].length (iks .i64 [x.1]) := Rw.new _ _ rfl
    have hz : (numsR bs i c2.2).1 ++ [x.1] = (numsR bs (i + 1) c2.2).1 := by rw [hsn]
    have hz2 : (numsR bs (i + 1) c2.2).2 = x.2 := by rw [hsn]
    have hzl := numsR_len bs (i + 1) c2.2
    refine it42.app (prefix_add Pa _) (o := o) (Oa.mono (List.prefix_append _ _)) hrx (numsR bs (i + 1) c2.2).1 hz (by omega) fun o' c' σ' p' hk ho1 ho2 own' => ?_
    have ho' : ∀ id, o' = some id → i2 < id := fun id e => by
      cases o with
      | none =>
        rcases ho2 rfl with h | h
        · rw [h] at e; cases e
        · rw [h] at e; cases e; exact hla'
      | some j => rw [ho1 j rfl] at e; exact ho _ e
    have hne : ∀ j, j ≤ i2 → some j ≠ o := fun j hj e => by have := ho j e.symm; omega
    have R0b := hk _ _ (hne i0 (by omega)) (get_old R0a (AO.cells [AV.int .i64 x.1] 1 .own))
    have R1b := hk _ _ (hne i1 (by omega)) (get_old R1a (AO.cells [AV.int .i64 x.1] 1 .own))
    have R2b := hk _ _ (hne i2 (by omega)) (get_old R2a (AO.cells [AV.int .i64 x.1] 1 .own))
    conv => lhs; whnf
    refine storeK_of rfl rfl (by decide) R2b rfl (Nat.le_succ 2) ?_
    conv => lhs; whnf
    refine next (q - 1) _ _ (by omega) ⟨_, i + 1, i0, i1, i2, o', c', inc_i64 (by omega), by omega, rfl, prefix_set p' (by omega) _, h0, h1, h2, ho', ?_, get_set_ne R0b (by omega) _, ?_, get_set R2b _, own'.keep (keep_set _ _ _) ?_⟩
    · rw [List.length_set]; exact get_lt R2b
    · rw [hz2]; exact get_set_ne R1b (by omega) _
    · cases o' with
      | none => exact .inl rfl
      | some id => exact .inr fun e => by cases e; have := ho' _ rfl; omega
  · obtain rfl : i = N := by have : ¬ i < N := by simpa using h
                             omega
    clear next
    have hns := numsR_pos i hp2
    have hnl := numsR_len bs i c2.2
    generalize numsR bs i c2.2 = ns at hG R1 R2 hown hns hnl
    have hG : recGet bs = recGetI bs c1 ns (cntR bs 40 ns.2) := hG
    have hc3 := cntR_range (bs := bs) (m := 40) (s := ns.2)
    have hp3 := cntR_pos (m := 40) hns
    conv => lhs; whnf
    refine fin _ _ _ nofun ?_
    conv => lhs; whnf
    refine count_spec (m := 40) (s := ns.2) (by omega) hl rfl (by decide) hD (ha.mono hpf) hb R1 hns ?_
    generalize cntR bs 40 ns.2 = c3 at hG hc3 hp3
    obtain ⟨M, hM⟩ : ∃ M : Nat, c3.1 = (M : Int) := ⟨c3.1.toNat, by omega⟩
    have hG : recGet bs = recGetJ c1 ns (txtsR bs M c3.2) := by rw [hG, recGetI, hM, Int.toNat_natCast]
    rw [hM] at hc3 ⊢
    have hM40 : M ≤ 40 := by omega
    have R0c := get_set_ne R0 (j := i1) (by omega) (rrow a bs.length c3.2)
    have R1c := get_set R1 (rrow a bs.length c3.2)
    have R2c := get_set_ne R2 (j := i1) (by omega) (rrow a bs.length c3.2)
    have Pc := prefix_set hpf (by omega) (id := i1) (rrow a bs.length c3.2)
    have Oc := hown.keep (keep_set τ i1 (rrow a bs.length c3.2)) (by
      cases o with
      | none => exact .inl rfl
      | some id => exact .inr fun e => by cases e; have := ho _ rfl; omega)
    have hlc : i2 < (τ.set i1 (rrow a bs.length c3.2)).length := by rw [List.length_set]; exact hlt2
    conv => lhs; whnf
    refine loop_rule (m := 201326692) (fun q fr τ => ∃ (z : Int) (i : Nat) (o2 : Option Nat) (d : SA), z = (i : Int) ∧ i + q = M ∧
        fr = [.bad, .bad, .ptr (some ⟨i0, 0, 0, 3⟩), .bad, .bad, .ptr (some ⟨i1, 0, 0, 3⟩), .ptr (some ⟨i2, 0, 0, 3⟩), .bad, .bad, .bad, .bad, .bad, .bad, .bad, .bad, .bad, .bad, .bad, .bad, .bad, .bad, .bad, .bad, .bad, .bad, .bad, .int .i64 (M : Int), .int .i64 z, .bad, .bad, .bad, .bad, .bad, .bad, .bad, .bad, .bad, .bad, .bad, .bad, .bad, .bad, .bad, .bad, .bad, .bad, .bad, .bad, .bad, .bad, .bad, .bad] ∧
        σ <+: τ ∧ (∀ id, o2 = some id → i2 < id ∧ o ≠ o2) ∧ i2 < τ.length ∧ (∀ id, o = some id → id < τ.length) ∧
        τ[i0]? = some (AO.cells [AV.int .i64 0, .sl .nil 0, .sl .nil 0] 3 .own) ∧ τ[i1]? = some (rrow a bs.length (txtsR bs i c3.2).2) ∧
        τ[i2]? = some (AO.cells [AV.int .i64 c1.1, .sl c ns.1.length, .sl d (txtsR bs i c3.2).1.length] 3 .own) ∧
        Own σ τ 1 o c ns.1.length (iks .i64 ns.1) ∧ Own σ τ 1 o2 d (txtsR bs i c3.2).1.length (txs (txtsR bs i c3.2).1)) ?_ _ M _ _ (by omega)
        ⟨_, 0, none, .nil, rfl, by omega, rfl, Pc, nofun, hlc, ?_, R0c, R1c, R2c, Oc, Own.nil _ _ _⟩
    case refine_2 =>
      intro id e
      subst e
      obtain ⟨off, xs, md, _, _, h3, _⟩ := Oc
      exact get_lt h3
    clear fin R0 R1 R2 hown hpf hlt2 R0c R1c R2c Pc Oc hlc
    rintro q fr τ' C ⟨z, i, o2, d, rfl, hi, rfl, hpf, ho2, hlt2, hoL, R0, R1, R2, hown, hown2⟩ next fin
    conv => lhs; whnf
    refine bif_case (fun h => ?_) (fun h => ?_)
    · have hlt : i < M := by simpa using h
      have hsn := txtsR_succ bs i c3.2
      have hlen2 := txtsR_len bs i c3.2
      have hpos2 := txtsR_pos i hp3
      conv => lhs; whnf
      refine hD.go plan81x9 ord81x9 ?_
      conv => lhs; whnf
      refine ldF rfl rfl rfl R2 rfl ?_
      conv => lhs; whnf
      refine text_spec (by omega) hl hD (ha.mono hpf) hb R1 hpos2 ?_
      have ne1 : ∀ {o : Option Nat}, (∀ id, o = some id → i2 < id) → ∀ j, j ≤ i2 → o = none ∨ o ≠ some j := fun {o} ho j hj => by
        cases o with
        | none => exact .inl rfl
        | some id => exact .inr fun e => by cases e; have := ho _ rfl; omega
      have ho2' : ∀ id, o2 = some id → i2 < id := fun id e => (ho2 id e).1
      have R0a := get_set_ne R0 (j := i1) (by omega) (rrow a bs.length (txtR bs (txtsR bs i c3.2).2).2)
      have R1a := get_set R1 (rrow a bs.length (txtR bs (txtsR bs i c3.2).2).2)
      have R2a := get_set_ne R2 (j := i1) (by omega) (rrow a bs.length (txtR bs (txtsR bs i c3.2).2).2)
      have Pa := prefix_set hpf (by omega) (id := i1) (rrow a bs.length (txtR bs (txtsR bs i c3.2).2).2)
      have Oa := hown.keep (keep_set τ' i1 (rrow a bs.length (txtR bs (txtsR bs i c3.2).2).2)) (ne1 ho i1 (by omega))
      have Oa2 := hown2.keep (keep_set τ' i1 (rrow a bs.length (txtR bs (txtsR bs i c3.2).2).2)) (ne1 ho2' i1 (by omega))
      have hla : i2 < (τ'.set i1 (rrow a bs.length (txtR bs (txtsR bs i c3.2).2).2)).length := by rw [List.length_set]; exact hlt2
      have hlo : ∀ id, o = some id → id < (τ'.set i1 (rrow a bs.length (txtR bs (txtsR bs i c3.2).2).2)).length := fun id e => by rw [List.length_set]; exact hoL id e
      generalize hx : (txtR bs (txtsR bs i c3.2).2) = x at *
      generalize τ'.set i1 (rrow a bs.length x.2) = τa at *
      conv => lhs; whnf
      refine and_true (all_cons ?_ rfl) ?_
      · conv => lhs; whnf
        refine ldF rfl rfl rfl R2a rfl ?_
        exact same_sl d _
      conv => lhs; whnf
      refine and_true (all_cons ?_ rfl) ?_
      · conv => lhs; whnf
        refine ldF rfl rfl rfl (get_old R2a _) rfl ?_
        exact same_sl d _
      conv => lhs; whnf
      have hla' : i2 < (τa ++ [AO.cells [AV.str (ints x.1)] 1 .own]).length := by rw [List.length_append]; omega
      have hrx : Rw (τa ++ [AO.cells [AV.str (ints x.1)] 1 .own]) 1 (.at τa.length 0 1) [x.1].length (txs [x.1]) := Rw.new _ _ rfl
      have hz : (txtsR bs i c3.2).1 ++ [x.1] = (txtsR bs (i + 1) c3.2).1 := by rw [hsn]
      have hz2 : (txtsR bs (i + 1) c3.2).2 = x.2 := by rw [hsn]
      have hzl := txtsR_len bs (i + 1) c3.2
      refine tt43.app (prefix_add Pa _) (o := o2) (Oa2.mono (List.prefix_append _ _)) hrx (txtsR bs (i + 1) c3.2).1 hz (by omega) fun o' d' σ' p' hk h'1 h'2 own' => ?_
      have ho' : ∀ id, o' = some id → i2 < id ∧ o ≠ o' := fun id e => by
        cases o2 with
        | none =>
          rcases h'2 rfl with h | h
          · rw [h] at e; cases e
          · rw [h] at e; cases e
            refine ⟨hla', fun e2 => ?_⟩
            rw [h] at e2
            have := hlo _ e2
            rw [List.length_append] at this
            omega
        | some j => rw [h'1 j rfl] at e ⊢; exact ho2 _ e
      have ho'' : ∀ id, o' = some id → i2 < id := fun id e => (ho' id e).1
      have hne : ∀ j, j ≤ i2 → some j ≠ o2 := fun j hj e => by have := ho2' j e.symm; omega
      have R0b := hk _ _ (hne i0 (by omega)) (get_old R0a (AO.cells [AV.str (ints x.1)] 1 .own))
      have R1b := hk _ _ (hne i1 (by omega)) (get_old R1a (AO.cells [AV.str (ints x.1)] 1 .own))
      have R2b := hk _ _ (hne i2 (by omega)) (get_old R2a (AO.cells [AV.str (ints x.1)] 1 .own))
      have Ob := (Oa.mono (List.prefix_append τa [AO.cells [AV.str (ints x.1)] 1 .own])).keep hk (by
        cases ho2n : o2 with
        | none =>
          cases hon : o with
          | none => exact .inl rfl
          | some id => exact .inr nofun
        | some j => exact .inr (by rw [← ho2n]; exact (ho2 j ho2n).2))
      conv => lhs; whnf
      refine storeK_of rfl rfl (by decide) R2b rfl (Nat.le_refl 3) ?_
      conv => lhs; whnf
      refine next (q - 1) _ _ (by omega) ⟨_, i + 1, o', d', inc_i64 (by omega), by omega, rfl, prefix_set p' (by omega) _, ho', ?_, ?_, get_set_ne R0b (by omega) _, ?_, get_set R2b _, Ob.keep (keep_set _ _ _) (ne1 ho i2 (Nat.le_refl _)), own'.keep (keep_set _ _ _) (ne1 ho'' i2 (Nat.le_refl _))⟩
      · rw [List.length_set]; exact get_lt R2b
      · intro id e
        rw [List.length_set]
        subst e
        obtain ⟨off, xs, md, _, _, h3, _⟩ := Ob
        exact get_lt h3
      · rw [hz2]; exact get_set_ne R1b (by omega) _
    · obtain rfl : i = M := by have : ¬ i < M := by simpa using h
                               omega
      clear next
      generalize txtsR bs i c3.2 = ts at hG R1 R2 hown2
      conv => lhs; whnf
      refine fin _ _ _ nofun ?_
      conv => lhs; whnf
      refine ldF rfl rfl rfl R1 rfl ?_
      conv => lhs; whnf
      by_cases he : ts.2.err = 0
      · rw [recGetJ, if_neg (by simp [he])] at hG
        rw [hG] at hK
        refine bif_neg (by simp [he]) ?_
        conv => lhs; whnf
        refine hD.go plan81x13 ord81x13 ?_
        conv => lhs; whnf
        refine ldS Try.underlying38 rfl R2 (Nat.le_refl 3) (Nat.le_refl 3) rfl ?_
        conv => lhs; whnf
        refine ldF rfl rfl rfl R1 rfl ?_
        conv => lhs; whnf
        refine storeS rfl R0 rfl rfl (Nat.le_refl 3) rfl ?_
        have R0e := get_set R0 (AO.cells [AV.int .i64 c1.1, .sl c ns.1.length, .sl d ts.1.length] 3 .own)
        have R1e := get_set_ne R1 (j := i0) (by omega) (AO.cells [AV.int .i64 c1.1, .sl c ns.1.length, .sl d ts.1.length] 3 .own)
        conv => lhs; whnf
        refine and_true (all_cons ?_ (all_skip rfl rfl)) ?_
        · conv => lhs; whnf
          refine ldF rfl rfl rfl R1e rfl ?_
          exact same_int .i64 (ts.2.pos : Int)
        conv => lhs; whnf
        refine ldS Try.underlying38 rfl R0e (Nat.le_refl 3) (Nat.le_refl 3) rfl ?_
        conv => lhs; whnf
        have ho2' : ∀ id, o2 = some id → i2 < id := fun id e => (ho2 id e).1
        have ne1 : ∀ {o : Option Nat}, (∀ id, o = some id → i2 < id) → o = none ∨ o ≠ some i0 := fun {o} ho => by
          cases o with
          | none => exact .inl rfl
          | some id => exact .inr fun e => by cases e; have := ho _ rfl; omega
        exact hK c d _ (prefix_set hpf h0 _) ⟨(hown.keep (keep_set _ _ _) (ne1 ho)).rw, (hown2.keep (keep_set _ _ _) (ne1 ho2')).rw⟩
      · rw [recGetJ, if_pos he] at hG
        rw [hG] at hK
        refine bif_pos (by simp; omega) ?_
        conv => lhs; whnf
        refine hD.go plan81x12 ord81x12 ?_
        conv => lhs; whnf
        refine ldF rfl rfl rfl R1 rfl ?_
        conv => lhs; whnf
        refine storeS rfl R0 rfl rfl (Nat.le_refl 3) rfl ?_
        have R0e := get_set R0 (AO.cells [AV.int .i64 0, .sl .nil 0, .sl .nil 0] 3 .own)
        have R1e := get_set_ne R1 (j := i0) (by omega) (AO.cells [AV.int .i64 0, .sl .nil 0, .sl .nil 0] 3 .own)
        conv => lhs; whnf
        refine and_true (all_cons ?_ rfl) ?_
        · conv => lhs; whnf
          refine ldF rfl rfl rfl R1e rfl ?_
          exact same_int .i64 (ts.2.err : Int)
        conv => lhs; whnf
        refine and_true (all_cons ?_ rfl) ?_
        · conv => lhs; whnf
          refine ldF rfl rfl rfl R1e rfl ?_
          exact same_int .i64 (ts.2.err : Int)
        conv => lhs; whnf
        refine ldS Try.underlying38 rfl R0e (Nat.le_refl 3) (Nat.le_refl 3) rfl ?_
        conv => lhs; whnf
        exact hK .nil .nil _ (prefix_set hpf h0 _) ⟨Rw.nil _ _, Rw.nil _ _⟩
end Go.Proofs.Ytahhajakgakdhaa
namespace Go.Proofs.Ytahhajakgakdhaa
open Go Go.AM Go.AM.St
theorem same_rec (a b : SA) (r : RecP) : sameV (recV a b r) (recV a b r) = true := by simp [sameV, sameL, sameLeaf]
theorem recEq_self (r : RecP) : recEq r r = true := by unfold recEq; simp
theorem recEq_iff {r s : RecP} : recEq r s = true ↔ r = s := by
  constructor
  · intro h
    unfold recEq at h
    simp only [Bool.and_eq_true, decide_eq_true_eq] at h
    obtain ⟨⟨h1, h2⟩, h3⟩ := h
    cases r; cases s
    simp only at h1 h2 h3
    rw [h1, h2, h3]
  · intro h; rw [h]; exact recEq_self _
attribute [local irreducible] IntKind.wrap Int.fdiv Int.tdiv Int.tmod BitVec.ofInt appendK sliceK indexAddrK ldK storeK seenK makeSliceK
set_option maxRecDepth 100000
variable {D : Drawer}

theorem ldR {τ : H} {id : Nat} {a b : SA} {r : RecP} {md : Md} {K : AV → Bool} (h : τ[id]? = some (AO.cells [.int .i64 r.kind, .sl a r.nums.length, .sl b r.texts.length] 3 md)) (hK : K (recV a b r) = true) : ldK Try.prog 38 τ ⟨id, 0, 0, 3⟩ K = true := by
  refine ldS Try.underlying38 rfl h (Nat.le_refl 3) (Nat.le_refl 3) rfl ?_
  conv => lhs; whnf
  exact hK

theorem shp_int' {σ : H} {m : Nat} {t : TypeId} {k : IntKind} {cs : List AV} (ht : Try.prog.underlying t = some (.int k)) (h : Shp Try.prog σ (m + 1) t cs) : ∃ i, cs = [.int k i] ∧ k.min ≤ i ∧ i ≤ k.max := by
  unfold Shp at h
  rw [ht] at h
  obtain ⟨i, h1, h2⟩ := h
  simp only [Lit.wf, Bool.and_eq_true, decide_eq_true_eq] at h2
  exact ⟨i, h1, h2.1, h2.2⟩
theorem rec_shp {σ : H} {m : Nat} {cs : List AV} (hl : cs.length = 3) (h : Shp Try.prog σ (m + 3) 38 cs) : ∃ a b r, cs = [.int .i64 r.kind, .sl a r.nums.length, .sl b r.texts.length] ∧ IsR σ a b r ∧ OkR r := by
  match cs, hl with
  | [x, y, z], _ =>
    unfold Shp at h
    rw [Try.underlying38] at h
    have h1 := shp_int' (m := m + 1) (cs := [x]) Try.underlying3 (h _ (.head _))
    obtain ⟨k, e1, k1, k2⟩ := h1
    cases e1
    obtain ⟨a, ns, e2, n1, n2, n3⟩ := shp_ints (n := m) (cs := [y]) Try.underlying35 Try.underlying2 rfl (h _ (.tail _ (.head _)))
    cases e2
    obtain ⟨b, ts, e3, t1, t2, t3⟩ := shp_texts (n := m) (cs := [z]) Try.underlying36 Try.underlying9 rfl (h _ (.tail _ (.tail _ (.head _))))
    cases e3
    exact ⟨a, b, ⟨k, ns, ts⟩, rfl, ⟨n1, t1⟩, ⟨k1, k2, n3, n2, t3, t2⟩⟩
theorem rec_arg {σ : H} {v : AV} (h : ArgShp Try.prog σ 9 38 v) : ∃ a b r, v = recV a b r ∧ IsR σ a b r ∧ OkR r := by
  unfold ArgShp at h
  rw [Try.underlying38] at h
  obtain ⟨cs, rfl, hl, hs⟩ := h
  obtain ⟨a, b, r, rfl, h1, h2⟩ := rec_shp (m := 6) hl hs
  exact ⟨a, b, r, rfl, h1, h2⟩
end Go.Proofs.Ytahhajakgakdhaa
namespace Go.Proofs.Ytahhajakgakdhaa
set_option maxRecDepth 100000
open Go Go.AM Go.AM.St

/-- A record in a row: its slices, and what they read. -/
abbrev El := SA × SA × RecP
abbrev elCells (e : El) : List AV := [.int .i64 e.2.2.kind, .sl e.1 e.2.2.nums.length, .sl e.2.1 e.2.2.texts.length]
def recs : List El → List AV
  | [] => []
  | e :: l => elCells e ++ recs l
theorem recs_len : ∀ l : List El, (recs l).length = l.length * 3
  | [] => rfl
  | e :: l => by rw [recs, List.length_append, recs_len l, List.length_cons]; simp; omega
theorem recs_app : ∀ (a b : List El), recs a ++ recs b = recs (a ++ b)
  | [], _ => rfl
  | e :: l, b => by rw [recs, List.append_assoc, recs_app l b]; rfl
theorem recs_at : ∀ {l : List El} {i : Nat} (h : i < l.length), ((recs l).drop (i * 3)).take 3 = elCells l[i]
  | e :: l, 0, _ => rfl
  | e :: l, i + 1, h => by
    have := recs_at (l := l) (i := i) (by simpa using h)
    rw [recs, List.drop_append, List.drop_eq_nil_of_le (by simp; omega), List.nil_append]
    rw [show (i + 1) * 3 - (elCells e).length = i * 3 by simp; omega]
    exact this
def IsRs (σ : H) (l : List El) : Prop := ∀ e ∈ l, IsR σ e.1 e.2.1 e.2.2
theorem IsRs.nil (σ : H) : IsRs σ [] := fun e he => by cases he
theorem IsRs.mono {σ σ' : H} {l : List El} (h : IsRs σ l) (hp : σ <+: σ') : IsRs σ' l := fun e he => (h e he).mono hp
theorem IsRs.ext {σ σ' : H} {l : List El} (h : IsRs σ l) (hp : Ext σ σ') : IsRs σ' l := fun e he => ⟨Rw.ext (h e he).nums hp, Rw.ext (h e he).texts hp⟩
def encW : List El → List Nat
  | [] => []
  | e :: l => putR e.2.2 ++ encW l
theorem encW_snoc : ∀ (l : List El) (e : El), encW (l ++ [e]) = encW l ++ putR e.2.2
  | [], e => by simp [encW]
  | x :: l, e => by rw [List.cons_append, encW, encW, encW_snoc l e, List.append_assoc]
theorem encW_len : ∀ l : List El, (∀ e ∈ l, mayR e.2.2 = true) → (encW l).length ≤ 9000 * l.length
  | [], _ => Nat.le_refl _
  | e :: l, h => by
    have := putR_len (h e List.mem_cons_self)
    have := encW_len l fun x hx => h x (List.mem_cons_of_mem _ hx)
    rw [encW, List.length_append, List.length_cons]
    omega
theorem encW_lt : ∀ l : List El, (∀ e ∈ l, OkR e.2.2) → ∀ b ∈ encW l, b < 256
  | [], _, b, h => by cases h
  | e :: l, hl, b, h => (List.mem_append.1 h).elim (putR_lt (fun t ht => ((hl e List.mem_cons_self).ts t ht).1) b) (encW_lt l (fun x hx => hl x (List.mem_cons_of_mem _ hx)) b)
theorem putR_pos (r : RecP) : 0 < (putR r).length := by
  have := enc_pos' (zigN r.kind)
  unfold putR
  simp only [List.length_append]
  omega
theorem Own.other {σ0 σ1 σ : H} {z z' n n' : Nat} {o o' : Option Nat} {a a' : SA} {cs cs' : List AV} (h : Own σ0 σ z o a n cs) (h' : Own σ1 σ z' o' a' n' cs') (hz : z ≠ z') : o = none ∨ o ≠ o' := by
  cases o with
  | none => exact .inl rfl
  | some id =>
    refine .inr fun e => ?_
    subst e
    obtain ⟨off, xs, md, _, _, h3, _⟩ := h
    obtain ⟨off', xs', md', _, _, h3', _⟩ := h'
    rw [h3] at h3'
    cases h3'
    exact hz rfl
theorem shp_recs {σ : H} {m : Nat} : ∀ {k : Nat} {xs : List AV}, xs.length = k * 3 → (∀ i, i < k → Shp Try.prog σ (m + 3) 38 ((xs.drop (i * 3)).take 3)) → ∃ l : List El, xs = recs l ∧ l.length = k ∧ IsRs σ l ∧ ∀ e ∈ l, OkR e.2.2 := by
  intro k
  induction k with
  | zero => intro xs hl _; exact ⟨[], by simpa [recs] using hl, rfl, IsRs.nil σ, fun e he => by cases he⟩
  | succ k ih =>
    intro xs hl h
    have h0 := h 0 (by omega)
    rw [Nat.zero_mul, List.drop_zero] at h0
    obtain ⟨a, b, r, e1, i1, o1⟩ := rec_shp (by rw [List.length_take]; omega) h0
    obtain ⟨l, e2, hlen, i2, o2⟩ := ih (xs := xs.drop 3) (by rw [List.length_drop]; omega) (fun i hi => by
      have := h (i + 1) (by omega)
      rw [List.drop_drop]
      rwa [show 3 + i * 3 = (i + 1) * 3 by omega])
    refine ⟨(a, b, r) :: l, ?_, by simp [hlen], fun e he => ?_, fun e he => ?_⟩
    · rw [recs, ← e2]
      conv => lhs; rw [← List.take_append_drop 3 xs, e1]
    · rcases List.mem_cons.1 he with rfl | he
      · exact i1
      · exact i2 e he
    · rcases List.mem_cons.1 he with rfl | he
      · exact o1
      · exact o2 e he
attribute [local irreducible] IntKind.wrap Int.fdiv Int.tdiv Int.tmod BitVec.ofInt appendK sliceK indexAddrK ldK storeK seenK makeSliceK
set_option maxRecDepth 100000
variable {D : Drawer}

theorem idx60 {σ : H} {s : SA} {l : List El} (hs : Rw σ 3 s l.length (recs l)) {k : IntKind} {y : Int} {i : Nat} {K : AV → Bool} (hy : y = (i : Int)) (hi : i < l.length) (hK : ∀ p, Elem σ 3 p (elCells l[i]) → K (.ptr (some p)) = true) :
    indexAddrK Try.prog 34 (.sl s l.length) (.int k y) K = true := indexAddrK_rw Try.underlying34 (fun _ => rfl) hs hy hi (recs_at hi) hK
theorem ldE {σ : H} {p : PA} {e : El} {K : AV → Bool} (hp : Elem σ 3 p (elCells e)) (hK : K (recV e.1 e.2.1 e.2.2) = true) : ldK Try.prog 38 σ p K = true := by
  refine ldK_struct Try.underlying38 rfl rfl hp ?_
  conv => lhs; whnf
  exact hK

end Go.Proofs.Ytahhajakgakdhaa
namespace Go.Proofs.Ytahhajakgakdhaa
open Go Go.AM Go.AM.St
attribute [local irreducible] IntKind.wrap Int.fdiv Int.tdiv Int.tmod BitVec.ofInt appendK sliceK indexAddrK ldK storeK seenK makeSliceK
set_option maxRecDepth 100000
variable {D : Drawer}

theorem fput_spec {n : Nat} (hn : 10000 ≤ n) {a b : SA} {r : RecP} {σ : H} (hr : IsR σ a b r) (ho : OkR r) (hD : ByPlan Try.prog D) {K : AV → H → Bool}
    (hK0 : mayR r = false → ∀ σ', σ <+: σ' → K (.tup [.sl .nil 0, .bool false]) σ' = true)
    (hK1 : mayR r = true → ∀ o a σ', σ <+: σ' → Own σ σ' 1 o a (putF r).length (u8s (putF r)) → K (.tup [.sl a (putF r).length, .bool true]) σ' = true) :
    acall Try.prog tab D n 72 [recV a b r] σ K = true := by
  obtain ⟨n, rfl, hn⟩ := up hn
  have g := get_new σ (AO.cells [.int .i64 r.kind, .sl a r.nums.length, .sl b r.texts.length] 3 .own)
  have pf := List.prefix_append σ [AO.cells [AV.int .i64 r.kind, .sl a r.nums.length, .sl b r.texts.length] 3 .own]
  conv => lhs; whnf
  refine ldR g ?_
  conv => lhs; whnf
  refine put_spec_rec (by omega) (hr.mono pf) ho hD (fun hm σ1 p1 => ?_) (fun hm o1 a1 σ1 p1 r1 => ?_)
  · conv => lhs; whnf
    exact hK0 hm _ (List.IsPrefix.trans pf p1)
  · have hl := putR_len hm
    have hb := putR_lt (r := r) fun t ht => (ho.ts t ht).1
    have hF : putF r = fixL (putR r).length 2 ++ fixL (markN 1 (putR r)) 4 ++ putR r := rfl
    have hFl := putF_len hm
    conv => lhs; whnf
    refine fix_spec (by omega) (u := (putR r).length) (size := 2) (wrap_u64 (by omega)) rfl (by decide) σ1 _ fun o2 a2 σ2 p2 r2 => ?_
    conv => lhs; whnf
    refine of_spec (by omega) rfl (r1.rw.mono p2) hb (by omega) _ ?_
    conv => lhs; whnf
    have hml := markN_lt 1 (putR r)
    refine fix_spec (by omega) (u := markN 1 (putR r)) (size := 4) (wrap_u64 (by omega)) rfl (by decide) σ2 _ fun o3 a3 σ3 p3 r3 => ?_
    conv => lhs; whnf
    refine bt.app (List.IsPrefix.trans p2 p3) (r2.mono p3) r3.rw (fixL (putR r).length 2 ++ fixL (markN 1 (putR r)) 4) rfl (by simp [fixL]) fun o4 a4 σ4 p4 _ _ _ r4 => ?_
    conv => lhs; whnf
    refine bt.app p4 r4 (r1.rw.mono p4) (putF r) rfl (by omega) fun o5 a5 σ5 p5 _ _ _ r5 => ?_
    conv => lhs; whnf
    exact hK1 hm _ _ _ (List.IsPrefix.trans pf (List.IsPrefix.trans p1 p5)) (r5.since (List.IsPrefix.trans pf p1))

theorem fget_spec {n : Nat} {a : SA} {bs : List Nat} (hn : bs.length + 200 ≤ n) (hl : bs.length < 1000000) (hD : ByPlan Try.prog D) {σ : H} (ha : Rw σ 1 a bs.length (u8s bs)) (hb : ∀ b ∈ bs, b < 256) {K : AV → H → Bool}
    (hK : ∀ a' b' σ', σ <+: σ' → IsR σ' a' b' (getF bs).1 → K (.tup [recV a' b' (getF bs).1, .int .i64 ((getF bs).2.1 : Nat), .int .i64 ((getF bs).2.2 : Nat)]) σ' = true) :
    acall Try.prog tab D n 71 [.sl a bs.length] σ K = true := by
  obtain ⟨n, rfl, hn⟩ := up hn
  have g := get_new σ (AO.cells [AV.int .i64 0, .sl .nil 0, .sl .nil 0] 3 .own)
  have pf := List.prefix_append σ [AO.cells [AV.int .i64 0, .sl .nil 0, .sl .nil 0] 3 .own]
  have ha1 := ha.mono pf
  have hG : getF bs = if bs.length < 6 then (⟨0, [], []⟩, 0, 2) else if bs.length < getFN bs then (⟨0, [], []⟩, 0, 2) else if getFbad bs then (⟨0, [], []⟩, 0, 1) else ((recGet (getFB bs)).1, getFN bs, 0) := rfl
  have nilR : ∀ τ : H, IsR τ .nil .nil ⟨0, [], []⟩ := fun τ => ⟨Rw.nil _ _, Rw.nil _ _⟩
  conv => lhs; whnf
  by_cases h6 : bs.length < 6
  · rw [if_pos h6] at hG
    rw [hG] at hK
    refine bif_pos (by simp; omega) ?_
    conv => lhs; whnf
    refine storeS rfl g rfl rfl (Nat.le_refl 3) rfl ?_
    conv => lhs; whnf
    refine ldS Try.underlying38 rfl (get_set g _) (Nat.le_refl 3) (Nat.le_refl 3) rfl ?_
    conv => lhs; whnf
    exact hK .nil .nil _ (prefix_set pf (Nat.le_refl _) _) (nilR _)
  · rw [if_neg h6] at hG
    refine bif_neg (by simp; omega) ?_
    conv => lhs; whnf
    refine bt.slice ha1 0 2 (.inl ⟨rfl, rfl⟩) (.inr ⟨_, _, rfl, rfl⟩) (by decide) (by omega) (bs.take 2) (by rw [List.drop_zero]) fun a2 r2 => ?_
    have h2 := unfix2_lt hb
    have hN : getFN bs = 6 + unfix (bs.take 2) := rfl
    have eN : IntKind.i64.wrap (6 + IntKind.i64.wrap ((unfix (bs.take 2) : Nat) : Int)) = ((getFN bs : Nat) : Int) := by
      rw [wrap_i64 (x := ((unfix (bs.take 2) : Nat) : Int)) (by omega) (by omega), wrap_i64 (by omega) (by omega), hN]; omega
    conv => lhs; whnf
    refine unfix_spec (by omega) r2 (fun b h => hb b (List.mem_of_mem_take h)) _ ?_
    conv => lhs; whnf
    by_cases hlt : bs.length < getFN bs
    · rw [if_pos hlt] at hG
      rw [hG] at hK
      refine bif_pos (by rw [eN]; simp; omega) ?_
      conv => lhs; whnf
      refine storeS rfl g rfl rfl (Nat.le_refl 3) rfl ?_
      conv => lhs; whnf
      refine ldS Try.underlying38 rfl (get_set g _) (Nat.le_refl 3) (Nat.le_refl 3) rfl ?_
      conv => lhs; whnf
      exact hK .nil .nil _ (prefix_set pf (Nat.le_refl _) _) (nilR _)
    · rw [if_neg hlt] at hG
      refine bif_neg (by rw [eN]; simp; omega) ?_
      conv => lhs; whnf
      have hBl : (getFB bs).length ≤ bs.length := by unfold getFB; rw [List.length_drop, List.length_take]; omega
      have hBb : ∀ b ∈ getFB bs, b < 256 := fun b h => hb b (List.mem_of_mem_take (List.mem_of_mem_drop h))
      refine bt.slice ha1 6 (getFN bs) (.inr ⟨_, _, rfl, rfl⟩) (.inr ⟨_, _, rfl, eN⟩) (by omega) (by omega) (getFB bs) rfl fun a3 r3 => ?_
      conv => lhs; whnf
      refine recGet_spec (by omega) (by omega) hD r3 hBb fun c d σ1 p1 r1 => ?_
      have hrr := recGet_range (getFB bs)
      have hBad : getFbad bs ↔ ((recGet (getFB bs)).2.2 ≠ 0 ∨ 6 + (recGet (getFB bs)).2.1 ≠ getFN bs ∨ unfix ((bs.take 6).drop 2) ≠ markN 1 (getFB bs)) := Iff.rfl
      generalize recGet (getFB bs) = gr at hG r1 hrr hBad ⊢
      obtain ⟨rr, k, e⟩ := gr
      dsimp only at r1 hG hrr hBad
      have g1 := prefix_get p1 g
      have P1 := List.IsPrefix.trans pf p1
      conv => lhs; whnf
      refine storeS rfl (get_new _ _) rfl rfl (Nat.le_refl 3) rfl ?_
      have T6 := get_set (get_new σ1 (AO.cells [AV.int .i64 0, .sl .nil 0, .sl .nil 0] 3 .own)) (AO.cells [.int .i64 rr.kind, .sl c rr.nums.length, .sl d rr.texts.length] 3 .own)
      have Pe := prefix_set (List.prefix_append σ1 [AO.cells [AV.int .i64 0, .sl .nil 0, .sl .nil 0] 3 .own]) (Nat.le_refl σ1.length) (AO.cells [.int .i64 rr.kind, .sl c rr.nums.length, .sl d rr.texts.length] 3 .own)
      have g2 := prefix_get Pe g1
      have P2 := List.IsPrefix.trans P1 Pe
      have hav := ha.mono P2
      conv => lhs; whnf
      refine hD.go plan71x7 ord71x7 ?_
      conv => lhs; whnf
      have ek : IntKind.i64.wrap (6 + ((k : Nat) : Int)) = ((6 + k : Nat) : Int) := by rw [wrap_i64 (by omega) (by omega)]; omega
      by_cases he : e = 0
      case' neg =>
        refine bif_pos (by simp; omega) ?_
        conv => lhs; whnf
      case' pos =>
        refine bif_neg (by simp; omega) ?_
        conv => lhs; whnf
        by_cases hk : 6 + k = getFN bs
        case' neg =>
          refine bif_pos (by rw [ek, eN]; simp; omega) ?_
          conv => lhs; whnf
        case' pos =>
          refine bif_neg (by rw [ek, eN]; simp; omega) ?_
          conv => lhs; whnf
          refine bt.slice hav 2 6 (.inr ⟨_, _, rfl, rfl⟩) (.inr ⟨_, _, rfl, rfl⟩) (by decide) (by omega) ((bs.take 6).drop 2) rfl fun a4 r4 => ?_
          conv => lhs; whnf
          refine bt.slice hav 6 (getFN bs) (.inr ⟨_, _, rfl, rfl⟩) (.inr ⟨_, _, rfl, eN⟩) (by omega) (by omega) (getFB bs) rfl fun a5 r5 => ?_
          conv => lhs; whnf
          refine unfix_spec (by omega) r4 (fun b h => hb b (List.mem_of_mem_take (List.mem_of_mem_drop h))) _ ?_
          conv => lhs; whnf
          refine of_spec (by omega) rfl r5 hBb (by omega) _ ?_
          have hml := markN_lt 1 (getFB bs)
          have em : IntKind.u64.wrap ((markN 1 (getFB bs) : Nat) : Int) = ((markN 1 (getFB bs) : Nat) : Int) := wrap_u64 (by omega)
          conv => lhs; whnf
          by_cases hm : unfix ((bs.take 6).drop 2) = markN 1 (getFB bs)
          case' neg =>
            refine bif_pos (by rw [em]; simp; omega) ?_
            conv => lhs; whnf
          case' pos =>
            refine bif_neg (by rw [em, hm]; simp) ?_
            conv => lhs; whnf
      case pos =>
        have hnb : ¬ getFbad bs := fun h => by rcases hBad.1 h with h | h | h <;> exact h (by assumption)
        rw [if_neg hnb] at hG
        rw [hG] at hK
        refine ldR T6 ?_
        conv => lhs; whnf
        refine storeS rfl g2 rfl rfl (Nat.le_refl 3) rfl ?_
        conv => lhs; whnf
        refine ldS Try.underlying38 rfl (get_set g2 _) (Nat.le_refl 3) (Nat.le_refl 3) rfl ?_
        conv => lhs; whnf
        have r1e := r1.mono Pe
        have := hK c d _ (prefix_set P2 (Nat.le_refl _) _) ⟨Rw.set (md' := .own) (xs' := [.int .i64 rr.kind, .sl c rr.nums.length, .sl d rr.texts.length]) r1e.nums g2 (by decide), Rw.set (md' := .own) (xs' := [.int .i64 rr.kind, .sl c rr.nums.length, .sl d rr.texts.length]) r1e.texts g2 (by decide)⟩
        rw [← eN] at this
        exact this
      all_goals
        have hb1 : getFbad bs := hBad.2 (by first | exact .inl (by assumption) | exact .inr (.inl (by assumption)) | exact .inr (.inr (by assumption)))
        rw [if_pos hb1] at hG
        rw [hG] at hK
        refine storeS rfl g2 rfl rfl (Nat.le_refl 3) rfl ?_
        conv => lhs; whnf
        refine ldS Try.underlying38 rfl (get_set g2 _) (Nat.le_refl 3) (Nat.le_refl 3) rfl ?_
        conv => lhs; whnf
        exact hK .nil .nil _ (prefix_set P2 (Nat.le_refl _) _) (nilR _)
end Go.Proofs.Ytahhajakgakdhaa
namespace Go.Proofs.Ytahhajakgakdhaa
open Go Go.AM Go.AM.St
attribute [local irreducible] IntKind.wrap Int.fdiv Int.tdiv Int.tmod BitVec.ofInt appendK sliceK indexAddrK ldK storeK seenK makeSliceK
set_option maxRecDepth 100000
variable {D : Drawer}

theorem scan_spec {n : Nat} {a : SA} {bs : List Nat} (hn : bs.length + 300 ≤ n) (hl : bs.length < 1000000) (hD : ByPlan Try.prog D) {σ : H} (ha : Rw σ 1 a bs.length (u8s bs)) (hb : ∀ b ∈ bs, b < 256) {K : AV → H → Bool}
    (hK : ∀ ow w W σ', σ <+: σ' → IsRs σ' W → W.map (·.2.2) = (scanF bs).1 → Own σ σ' 3 ow w W.length (recs W) → K (.tup [.sl w W.length, .int .i64 ((scanF bs).2 : Nat)]) σ' = true) :
    acall Try.prog tab D n 53 [.sl a bs.length] σ K = true := by
  obtain ⟨n, rfl, hn⟩ := up hn
  conv => lhs; whnf
  refine loop_rule (m := 49) (fun q fr τ => ∃ (z : Int) (p m : Nat) (ow : Option Nat) (w : SA) (W : List El), z = (p : Int) ∧ p + q = bs.length ∧ q < m ∧ W.length ≤ p ∧
      fr = [.sl a bs.length, .bad, .bad, .bad, .sl w W.length, .int .i64 z, .bad, .bad, .bad, .bad, .bad, .bad, .bad, .bad, .bad, .bad, .bad, .bad, .bad, .bad, .bad, .bad, .bad, .bad, .bad, .bad, .bad, .bad] ∧ σ <+: τ ∧ IsRs τ W ∧ Own σ τ 3 ow w W.length (recs W) ∧
      scanF bs = (W.map (·.2.2) ++ (scanL m (bs.drop p)).1, p + (scanL m (bs.drop p)).2)) ?_ _ bs.length _ _ (by omega)
      ⟨_, 0, bs.length + 1, none, .nil, [], rfl, by omega, by omega, Nat.le_refl _, rfl, List.prefix_refl _, IsRs.nil σ, Own.nil _ _ _, by rw [List.drop_zero, List.map_nil, List.nil_append, Nat.zero_add]; rfl⟩
  rintro q fr τ C ⟨z, p, m, ow, w, W, rfl, hq, hm, hW, rfl, hp, hI, how, hS⟩ next fin
  obtain ⟨m, rfl⟩ : ∃ m', m = m' + 1 := ⟨m - 1, by omega⟩
  have hdl : (bs.drop p).length = bs.length - p := List.length_drop
  have hdb : ∀ b ∈ bs.drop p, b < 256 := fun b h => hb b (List.mem_of_mem_drop h)
  rw [scanL] at hS
  have hle := getF_le (bs.drop p)
  have hok := fun h => getF_ok (bs := bs.drop p) h
  conv => lhs; whnf
  refine bt.slice (ha.mono hp) p bs.length (.inr ⟨_, _, rfl, rfl⟩) (.inl ⟨rfl, rfl⟩) (by omega) (Nat.le_refl _) (bs.drop p) (by rw [List.take_length]) fun a1 r1 => ?_
  conv => lhs; whnf
  refine fget_spec (by omega) (by omega) hD r1 hdb fun c d τ1 p1 i1 => ?_
  generalize getF (bs.drop p) = g at hS hle hok i1 ⊢
  obtain ⟨rr, k, e⟩ := g
  dsimp only at hS hle hok i1
  conv => lhs; whnf
  refine storeS rfl (get_new _ _) rfl rfl (Nat.le_refl 3) rfl ?_
  have T := get_set (get_new τ1 (AO.cells [AV.int .i64 0, .sl .nil 0, .sl .nil 0] 3 .own)) (AO.cells [.int .i64 rr.kind, .sl c rr.nums.length, .sl d rr.texts.length] 3 .own)
  have Pe := prefix_set (List.prefix_append τ1 [AO.cells [AV.int .i64 0, .sl .nil 0, .sl .nil 0] 3 .own]) (Nat.le_refl τ1.length) (AO.cells [.int .i64 rr.kind, .sl c rr.nums.length, .sl d rr.texts.length] 3 .own)
  have Pq := List.IsPrefix.trans p1 Pe
  have iq := i1.mono Pe
  have howq := how.mono Pq
  have hIq := hI.mono Pq
  have Pf := List.IsPrefix.trans hp Pq
  conv => lhs; whnf
  by_cases he : e = 0
  · rw [if_neg (by simpa using he)] at hS
    have hk := hok he
    refine bif_neg (by simp; omega) ?_
    conv => lhs; whnf
    refine ldR T ?_
    conv => lhs; whnf
    have hrow := Rw.new (σ := ((τ1 ++ [AO.cells [AV.int .i64 0, .sl .nil 0, .sl .nil 0] 3 .own]).set τ1.length (AO.cells [.int .i64 rr.kind, .sl c rr.nums.length, .sl d rr.texts.length] 3 .own))) (z := 3) (n := 1) (elCells (c, d, rr)) .own rfl
    refine appendK_ext Try.underlying34 rfl rfl rfl (prefix_add Pf _) (o := ow) (howq.mono (List.prefix_append _ _)) hrow (N := (W ++ [(c, d, rr)]).length) (zs := recs (W ++ [(c, d, rr)])) (by simp) (recs_app W [(c, d, rr)]) ?_ fun o5 a5 τ5 p5 k5 _ _ x5 w5 => ?_
    · show _ * 56 ≤ _
      rw [List.length_append, List.length_singleton]; omega
    conv => lhs; whnf
    have ek : IntKind.i64.wrap ((p : Int) + (k : Int)) = ((p + k : Nat) : Int) := by rw [wrap_i64 (by omega) (by omega)]; omega
    refine next (q - k) _ _ (by omega) ⟨_, p + k, m, o5, a5, W ++ [(c, d, rr)], ek, by omega, by omega, by rw [List.length_append, List.length_singleton]; omega, rfl, p5, ?_, w5, ?_⟩
    · intro x hx
      rcases List.mem_append.1 hx with hx | hx
      · exact ((hIq.mono (List.prefix_append _ _)).ext x5) x hx
      · rw [List.mem_singleton] at hx
        subst hx
        have h1 := iq.mono (List.prefix_append _ [AO.cells (elCells (c, d, rr)) 3 .own])
        exact ⟨Rw.ext h1.nums x5, Rw.ext h1.texts x5⟩
    · rw [hS, List.drop_drop, List.map_append, List.append_assoc, Nat.add_assoc]
      rfl
  · rw [if_pos he] at hS
    refine bif_pos (by simp; omega) ?_
    conv => lhs; whnf
    refine fin _ _ _ nofun ?_
    conv => lhs; whnf
    rw [List.append_nil, Nat.add_zero] at hS
    have := hK ow w W _ Pf hIq (by rw [hS]) howq
    rw [hS] at this
    exact this
end Go.Proofs.Ytahhajakgakdhaa
