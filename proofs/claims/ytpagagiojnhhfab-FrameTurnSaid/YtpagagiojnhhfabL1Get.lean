/- Package rec: the reader. -/
import Derived.Test.YtpagagiojnhhfabL1Rec2
import Derived.Test.YtpagagiojnhhfabGmPlain
namespace Go.Proofs.Ytpagagiojnhhfab
open Go Go.AM Go.AM.St

/-- The reader's row. -/
abbrev rrow (a : SA) (l : Nat) (s : Rd) : AO := .cells [.sl a l, .int .i64 (s.pos : Int), .int .i64 (s.err : Int)] 3 .own
theorem set_same {σ : H} {id : Nat} {o : AO} (h : σ[id]? = some o) : σ.set id o = σ := by
  obtain ⟨h1, h2⟩ := List.getElem?_eq_some_iff.1 h
  rw [← h2]
  exact List.set_getElem_self h1
theorem Rw.set {σ : H} {z n id y : Nat} {a : SA} {cs xs xs' : List AV} {md md' : Md} (h : Rw σ z a n cs) (hr : σ[id]? = some (AO.cells xs y md)) (hz : z ≠ y) : Rw (σ.set id (.cells xs' y md')) z a n cs := by
  rcases h with h | h | ⟨j, off, ys, m, e, h1, h2, h3⟩
  · exact .inl h
  · exact .inr (.inl h)
  · refine .inr (.inr ⟨j, off, ys, m, e, get_set_ne h1 (fun e => ?_) _, h2, h3⟩)
    rw [e, hr] at h1
    cases h1
    exact hz rfl
theorem shr7 {m : Nat} : (m : Int).fdiv (2 ^ min (Int.toNat 7) IntKind.u64.bits) = ((m / 128 : Nat) : Int) := shr_nat (k := .u64) (j := 7) rfl
attribute [local irreducible] IntKind.wrap Int.fdiv Int.tdiv Int.tmod BitVec.ofInt appendK sliceK indexAddrK ldK storeK seenK makeSliceK
set_option maxRecDepth 100000
variable {D : Drawer}

theorem beg_spec {n : Nat} {a : SA} {bs : List Nat} {most : Nat} (hn : bs.length + 2 ≤ n) (hl : bs.length < 1000000) (hm : most < 18446744073709551616) {σ : H} (ha : Rw σ 1 a bs.length (u8s bs)) (hb : ∀ b ∈ bs, b < 256) {K : AV → H → Bool}
    (hK : K (.bool (begL (most / 128) 0 0 bs)) σ = true) : acall Try.prog tab D n 30 [.sl a bs.length, .int .u64 (most : Int)] σ K = true := by
  obtain ⟨n, rfl, hn⟩ := up hn
  conv => lhs; whnf
  refine loop_rule (m := 1826) (fun r fr τ => ∃ (y z : Int) (u i : Nat), y = (u : Int) ∧ z = (i : Int) ∧ u ≤ most / 128 ∧ i + r = bs.length ∧ τ = σ ∧
      fr = [.bad, .int .u64 (most : Int), .bad, .bad, .bad, .int .u64 y, .bad, .bad, .sl a bs.length, .int .i64 (bs.length : Int), .int .i64 z, .bad, .bad, .bad, .bad, .bad, .bad, .bad, .bad, .bad, .bad, .bad, .bad, .bad, .bad, .bad, .bad, .bad, .bad, .bad, .bad, .bad, .bad, .bad, .bad, .bad] ∧
      begL (most / 128) 0 0 bs = begL (most / 128) i u (bs.drop i)) ?_ _ bs.length _ _ (by omega) ⟨_, _, 0, 0, rfl, rfl, Nat.zero_le _, by omega, rfl, rfl, rfl⟩
  rintro r fr τ C ⟨y, z, u, i, rfl, rfl, hu, hi, rfl, rfl, he⟩ next fin
  conv => lhs; whnf
  refine bif_case (fun h => ?_) (fun h => ?_)
  · have hlt : i < bs.length := by simpa using h
    have hx : bs[i] < 256 := hb _ (List.getElem_mem _)
    rw [List.drop_eq_getElem_cons hlt] at he
    conv => lhs; whnf
    refine bt.idx ha rfl hlt fun p hp => ?_
    conv => lhs; whnf
    refine bt.ld hp ?_
    generalize bs[i] = x at hx he
    rw [begL] at he
    conv => lhs; whnf
    by_cases hc : x < 128 ∨ (i = 0 ∧ x = 128)
    · rw [if_pos hc] at he
      rw [he] at hK
      by_cases h1 : x < 128
      · refine bif_pos (by simp; omega) ?_
        conv => lhs; whnf
        refine fin _ _ _ nofun ?_
        conv => lhs; whnf
        exact hK
      · refine bif_neg (by simp; omega) ?_
        conv => lhs; whnf
        refine bif_pos (by simp; omega) ?_
        conv => lhs; whnf
        refine bif_pos (by simp; omega) ?_
        conv => lhs; whnf
        refine fin _ _ _ nofun ?_
        conv => lhs; whnf
        exact hK
    · rw [if_neg hc] at he
      refine bif_neg (by simp; omega) ?_
      conv => lhs; whnf
      by_cases hi0 : i = 0
      case' pos =>
        refine bif_pos (by simp [hi0]) ?_
        conv => lhs; whnf
        refine bif_neg (by simp; omega) ?_
        conv => lhs; whnf
      case' neg =>
        refine bif_neg (by simp; omega) ?_
        conv => lhs; whnf
      all_goals
        have hs7 := step7 (u := u) (by omega) hx
        by_cases hx1 : most / 128 < u * 128 + x % 128
        · rw [if_pos hx1] at he
          rw [he] at hK
          refine bif_pos (by rw [hs7, shr7]; simp; omega) ?_
          conv => lhs; whnf
          refine fin _ _ _ nofun ?_
          conv => lhs; whnf
          exact hK
        · rw [if_neg hx1] at he
          refine bif_neg (by rw [hs7, shr7]; simp; omega) ?_
          conv => lhs; whnf
          refine next (r - 1) _ _ (by omega) ⟨_, _, u * 128 + x % 128, i + 1, hs7, inc_i64 (by omega), by omega, by omega, rfl, rfl, he⟩
  · obtain rfl : i = bs.length := by have : ¬ i < bs.length := by simpa using h
                                     omega
    rw [List.drop_length, begL] at he
    rw [he] at hK
    conv => lhs; whnf
    refine fin _ _ _ nofun ?_
    conv => lhs; whnf
    exact hK


theorem number_spec {n : Nat} {a : SA} {bs : List Nat} {most rid : Nat} {q : Int} {s : Rd} (hn : bs.length + 20 ≤ n) (hl : bs.length < 1000000) (hq : q = (most : Int)) (hm : most < 18446744073709551616) (hD : ByPlan Try.prog D) {σ : H} (ha : Rw σ 1 a bs.length (u8s bs)) (hb : ∀ b ∈ bs, b < 256)
    (hr : σ[rid]? = some (rrow a bs.length s)) (hp : s.pos ≤ bs.length) {K : AV → H → Bool}
    (hK : K (.int .i64 (numR bs most s).1) (σ.set rid (rrow a bs.length (numR bs most s).2)) = true) : acall Try.prog tab D n 23 [.ptr (some ⟨rid, 0, 0, 3⟩), .int .u64 q] σ K = true := by
  subst hq
  obtain ⟨n, rfl, hn⟩ := up hn
  have hN : numR bs most s = if s.err ≠ 0 then (0, s) else
    if 0 < (getR (bs.drop s.pos)).2 ∧ zigN (getR (bs.drop s.pos)).1 ≤ most then ((getR (bs.drop s.pos)).1, ⟨s.pos + (getR (bs.drop s.pos)).2, 0⟩)
    else if (getR (bs.drop s.pos)).2 = 0 ∧ begL (most / 128) 0 0 (bs.drop s.pos) = true then (0, ⟨s.pos, 2⟩) else (0, ⟨s.pos, 1⟩) := rfl
  conv => lhs; whnf
  refine ldF rfl rfl rfl hr rfl ?_
  conv => lhs; whnf
  by_cases he : s.err = 0
  · rw [if_neg (by simp [he])] at hN
    refine bif_neg (by simp [he]) ?_
    conv => lhs; whnf
    refine hD.go plan23x3 ord23x3 ?_
    conv => lhs; whnf
    refine ldF rfl rfl rfl hr rfl ?_
    conv => lhs; whnf
    refine ldF rfl rfl rfl hr rfl ?_
    conv => lhs; whnf
    refine bt.slice ha s.pos bs.length (.inr ⟨_, _, rfl, rfl⟩) (.inl ⟨rfl, rfl⟩) hp (Nat.le_refl _) (bs.drop s.pos) (by rw [List.take_length]) fun a1 r1 => ?_
    have hd : ∀ b ∈ bs.drop s.pos, b < 256 := fun b h => hb b (List.mem_of_mem_drop h)
    have hdl : (bs.drop s.pos).length ≤ bs.length := by rw [List.length_drop]; omega
    conv => lhs; whnf
    refine get_spec (by omega) r1 hd _ ?_
    have hR := getR_range (bs.drop s.pos)
    have hB := getR_bound (bs.drop s.pos)
    generalize hg : getR (bs.drop s.pos) = gd at hN hR hB
    obtain ⟨x, k⟩ := gd
    simp only at hN hR hB
    conv => lhs; whnf
    by_cases h1 : 0 < k
    · refine bif_pos (by simp; omega) ?_
      conv => lhs; whnf
      refine zig_spec (by omega) hR.1 hR.2 σ _ ?_
      conv => lhs; whnf
      by_cases h2 : zigN x ≤ most
      · rw [if_pos ⟨h1, h2⟩] at hN
        rw [hN] at hK
        refine bif_pos (by simp; omega) ?_
        conv => lhs; whnf
        refine ldF rfl rfl rfl hr rfl ?_
        conv => lhs; whnf
        refine storeK_of rfl rfl (by decide) hr rfl (Nat.le_succ 2) ?_
        conv => lhs; whnf
        have e : IntKind.i64.wrap ((s.pos : Int) + (k : Int)) = ((s.pos + k : Nat) : Int) := by rw [wrap_i64 (by omega) (by omega)]; omega
        have e2 : rrow a bs.length ⟨s.pos + k, 0⟩ = AO.cells ([AV.sl a bs.length, .int .i64 (s.pos : Int), .int .i64 (s.err : Int)].set 1 (.int .i64 (IntKind.i64.wrap ((s.pos : Int) + (k : Int))))) 3 .own := by rw [e, he]; rfl
        rw [e2] at hK
        exact hK
      · rw [if_neg (fun h => h2 h.2), if_neg (fun h => by omega)] at hN
        rw [hN] at hK
        refine bif_neg (by simp; omega) ?_
        conv => lhs; whnf
        refine hD.go plan23x8 ord23x8 ?_
        conv => lhs; whnf
        refine bif_neg (by simp; omega) ?_
        conv => lhs; whnf
        refine storeK_of rfl rfl (by decide) hr rfl (Nat.le_refl 3) ?_
        conv => lhs; whnf
        exact hK
    · obtain rfl : k = 0 := by omega
      refine hD.go plan23x8 ord23x8 ?_
      conv => lhs; whnf
      refine ldF rfl rfl rfl hr rfl ?_
      conv => lhs; whnf
      refine ldF rfl rfl rfl hr rfl ?_
      conv => lhs; whnf
      refine bt.slice ha s.pos bs.length (.inr ⟨_, _, rfl, rfl⟩) (.inl ⟨rfl, rfl⟩) hp (Nat.le_refl _) (bs.drop s.pos) (by rw [List.take_length]) fun a2 r2 => ?_
      conv => lhs; whnf
      refine beg_spec (by omega) (by omega) hm r2 hd ?_
      rw [if_neg (fun h => h1 h.1)] at hN
      cases hc : begL (most / 128) 0 0 (bs.drop s.pos) with
      | true =>
        rw [hc, if_pos ⟨rfl, rfl⟩] at hN
        rw [hN] at hK
        conv => lhs; whnf
        refine storeK_of rfl rfl (by decide) hr rfl (Nat.le_refl 3) ?_
        conv => lhs; whnf
        exact hK
      | false =>
        rw [hc, if_neg (fun h => by cases h.2)] at hN
        rw [hN] at hK
        conv => lhs; whnf
        refine storeK_of rfl rfl (by decide) hr rfl (Nat.le_refl 3) ?_
        conv => lhs; whnf
        exact hK
  · rw [if_pos (by simpa using he)] at hN
    rw [hN, set_same hr] at hK
    refine bif_pos (by simp; omega) ?_
    conv => lhs; whnf
    exact hK

theorem count_spec {n : Nat} {a : SA} {bs : List Nat} {m rid : Nat} {q : Int} {s : Rd} (hn : bs.length + 21 ≤ n) (hl : bs.length < 1000000) (hq : q = (m : Int)) (hm : m ≤ 1000) (hD : ByPlan Try.prog D) {σ : H} (ha : Rw σ 1 a bs.length (u8s bs)) (hb : ∀ b ∈ bs, b < 256)
    (hr : σ[rid]? = some (rrow a bs.length s)) (hp : s.pos ≤ bs.length) {K : AV → H → Bool}
    (hK : K (.int .i64 (cntR bs m s).1) (σ.set rid (rrow a bs.length (cntR bs m s).2)) = true) : acall Try.prog tab D n 22 [.ptr (some ⟨rid, 0, 0, 3⟩), .int .i64 q] σ K = true := by
  subst hq
  obtain ⟨n, rfl, hn⟩ := up hn
  have hC : cntR bs m s = if (numR bs (2 * m) s).1 < 0 then (0, ⟨(numR bs (2 * m) s).2.pos, 1⟩) else numR bs (2 * m) s := rfl
  conv => lhs; whnf
  refine number_spec (most := 2 * m) (by omega) hl ?_ (by omega) hD ha hb hr hp ?_
  · show IntKind.u64.wrap (2 * IntKind.u64.wrap (m : Int)) = _
    rw [wrap_u64 (u := m) (by omega), show (2 : Int) * (m : Int) = ((2 * m : Nat) : Int) by omega, wrap_u64 (by omega)]
  conv => lhs; whnf
  by_cases h : (numR bs (2 * m) s).1 < 0
  · rw [if_pos h] at hC
    rw [hC] at hK
    refine bif_pos (by simpa using h) ?_
    conv => lhs; whnf
    refine storeK_of rfl rfl (by decide) (get_set hr _) rfl (Nat.le_refl 3) ?_
    rw [List.set_set]
    conv => lhs; whnf
    exact hK
  · rw [if_neg h] at hC
    rw [hC] at hK
    refine bif_neg (by simpa using h) ?_
    conv => lhs; whnf
    exact hK

theorem text_spec {n : Nat} {a : SA} {bs : List Nat} {rid : Nat} {s : Rd} (hn : bs.length + 22 ≤ n) (hl : bs.length < 1000000) (hD : ByPlan Try.prog D) {σ : H} (ha : Rw σ 1 a bs.length (u8s bs)) (hb : ∀ b ∈ bs, b < 256)
    (hr : σ[rid]? = some (rrow a bs.length s)) (hp : s.pos ≤ bs.length) {K : AV → H → Bool}
    (hK : K (.str (ints (txtR bs s).1)) (σ.set rid (rrow a bs.length (txtR bs s).2)) = true) : acall Try.prog tab D n 24 [.ptr (some ⟨rid, 0, 0, 3⟩)] σ K = true := by
  obtain ⟨n, rfl, hn⟩ := up hn
  have hT : txtR bs s = if (cntR bs 200 s).2.err ≠ 0 then ([], (cntR bs 200 s).2)
    else if bs.length - (cntR bs 200 s).2.pos < (cntR bs 200 s).1.toNat then ([], ⟨(cntR bs 200 s).2.pos, 2⟩)
    else ((bs.drop (cntR bs 200 s).2.pos).take (cntR bs 200 s).1.toNat, ⟨(cntR bs 200 s).2.pos + (cntR bs 200 s).1.toNat, 0⟩) := rfl
  have hc1 := cntR_range (bs := bs) (m := 200) (s := s)
  have hc2 := cntR_pos (m := 200) hp
  conv => lhs; whnf
  refine count_spec (m := 200) (by omega) hl rfl (by decide) hD ha hb hr hp ?_
  generalize cntR bs 200 s = c at hT hc1 hc2
  obtain ⟨x, t⟩ := c
  simp only at hT hc1 hc2
  obtain ⟨k, rfl⟩ : ∃ k : Nat, x = (k : Int) := ⟨x.toNat, by omega⟩
  rw [Int.toNat_natCast] at hT
  have hr1 := get_set hr (rrow a bs.length t)
  have ha1 := Rw.set (xs' := [.sl a bs.length, .int .i64 (t.pos : Int), .int .i64 (t.err : Int)]) (md' := .own) ha hr (by decide)
  conv => lhs; whnf
  refine ldF rfl rfl rfl hr1 rfl ?_
  conv => lhs; whnf
  by_cases he : t.err = 0
  · rw [if_neg (by simp [he])] at hT
    refine bif_neg (by simp [he]) ?_
    conv => lhs; whnf
    refine hD.go plan24x4 ord24x4 ?_
    conv => lhs; whnf
    refine ldF rfl rfl rfl hr1 rfl ?_
    conv => lhs; whnf
    refine ldF rfl rfl rfl hr1 rfl ?_
    conv => lhs; whnf
    have e1 : IntKind.i64.wrap ((bs.length : Int) - (t.pos : Int)) = ((bs.length - t.pos : Nat) : Int) := by rw [wrap_i64 (by omega) (by omega)]; omega
    by_cases hlt : bs.length - t.pos < k
    · rw [if_pos hlt] at hT
      rw [hT] at hK
      refine bif_pos (by rw [e1]; simp; omega) ?_
      conv => lhs; whnf
      refine storeK_of rfl rfl (by decide) hr1 rfl (Nat.le_refl 3) ?_
      rw [List.set_set]
      conv => lhs; whnf
      exact hK
    · rw [if_neg hlt] at hT
      rw [hT] at hK
      refine bif_neg (by rw [e1]; simp; omega) ?_
      conv => lhs; whnf
      refine ldF rfl rfl rfl hr1 rfl ?_
      conv => lhs; whnf
      refine storeK_of rfl rfl (by decide) hr1 rfl (Nat.le_succ 2) ?_
      have e2 : IntKind.i64.wrap ((t.pos : Int) + (k : Int)) = ((t.pos + k : Nat) : Int) := by rw [wrap_i64 (by omega) (by omega)]; omega
      have e3 : AO.cells ([AV.sl a bs.length, .int .i64 (t.pos : Int), .int .i64 (t.err : Int)].set 1 (.int .i64 (IntKind.i64.wrap ((t.pos : Int) + (k : Int))))) 3 .own = rrow a bs.length ⟨t.pos + k, 0⟩ := by rw [e2, he]; rfl
      rw [List.set_set]
      show (_ : Bool) = true
      conv => lhs; whnf
      refine hD.go plan24x8 ord24x8 ?_
      conv => lhs; whnf
      have hr2 := get_set hr (AO.cells ([AV.sl a bs.length, .int .i64 (t.pos : Int), .int .i64 (t.err : Int)].set 1 (.int .i64 (IntKind.i64.wrap ((t.pos : Int) + (k : Int))))) 3 .own)
      have ha2 := Rw.set (xs' := [AV.sl a bs.length, .int .i64 (t.pos : Int), .int .i64 (t.err : Int)].set 1 (.int .i64 (IntKind.i64.wrap ((t.pos : Int) + (k : Int))))) (md' := .own) ha hr (by decide)
      refine ldF rfl rfl rfl hr2 rfl ?_
      conv => lhs; whnf
      refine ldF rfl rfl rfl hr2 rfl ?_
      conv => lhs; whnf
      refine ldF rfl rfl rfl hr2 rfl ?_
      conv => lhs; whnf
      refine bt.slice ha2 t.pos (t.pos + k) (.inr ⟨_, _, rfl, by rw [e2, wrap_i64 (by omega) (by omega)]; omega⟩) (.inr ⟨_, _, rfl, e2⟩) (by omega) (by omega) ((bs.drop t.pos).take k) (by rw [List.drop_take]; congr 1; omega) fun a3 r3 => ?_
      conv => lhs; whnf
      refine strK_rw r3 (fun b h => hb b (List.mem_of_mem_drop (List.mem_of_mem_take h))) ?_
      conv => lhs; whnf
      rw [← e3] at hK
      exact hK
  · rw [if_pos (by simpa using he)] at hT
    rw [hT] at hK
    refine bif_pos (by simp; omega) ?_
    conv => lhs; whnf
    exact hK
end Go.Proofs.Ytpagagiojnhhfab
