/- WordAll. -/
import Derived.Test.YtpagagiojnhhfaaL1Ref2
import Derived.Test.YtpagagiojnhhfaaAmShp
import Derived.Test.YtpagagiojnhhfaaL1Plans
namespace Go.Proofs.Ytpagagiojnhhfaa
open Go Go.AM Go.AM.St
attribute [local irreducible] IntKind.wrap Int.fdiv Int.tdiv Int.tmod BitVec.ofInt appendK sliceK indexAddrK ldK storeK seenK makeSliceK
set_option maxRecDepth 100000
variable {D : Drawer}

theorem wordAll_run {n : Nat} (hn : 14 ≤ n) {x : Int} (hx1 : -9223372036854775808 ≤ x) (hx2 : x ≤ 9223372036854775807) {u : Nat} (hu : u < 18446744073709551616) {size : Int} {a : SA} {bs : List Nat} {σ : H}
    (ha : Rw σ 1 a bs.length (u8s bs)) (hb : ∀ b ∈ bs, b < 256) (hD : ByPlan Try.prog D) :
    acall Try.prog tab D n 4 [.int .i64 x, .int .u64 (u : Int), .int .i64 size, .sl a bs.length] σ isTrue = true := by
  obtain ⟨n, rfl, hn⟩ := up hn
  conv => lhs; whnf
  refine begun_spec ?_
  conv => lhs; whnf
  refine short_spec (by omega) (m := 14) rfl (by decide) ha _ fun o1 a1 σ1 p1 r1 => ?_
  have hd : ∀ b ∈ bs.take 14, b < 256 := fun b h => hb b (List.mem_of_mem_take h)
  have hdl : (bs.take 14).length ≤ 14 := by rw [List.length_take]; omega
  generalize bs.take 14 = ds at r1 hd hdl ⊢
  conv => lhs; whnf
  refine put_spec (by omega) hx1 hx2 σ1 _ fun o2 a2 σ2 p2 r2 => ?_
  have hz := zigN_lt hx1 hx2
  have hel := enc_len (zigN x)
  have hge := get_enc hz ds
  conv => lhs; whnf
  refine bt.app (List.prefix_refl _) (xs := []) (Own.nil _ _ _) r2.rw _ rfl (by rw [List.nil_append]; omega) fun o3 a3 σ3 p3 _ _ _ r3 => ?_
  conv => lhs; whnf
  refine bt.app p3 r3 ((r1.rw.mono p2).mono (p3)) (enc (zigN x) ++ ds) rfl (by rw [List.length_append]; omega) fun o4 a4 σ4 p4 _ _ _ r4 => ?_
  have hed : ∀ b ∈ enc (zigN x) ++ ds, b < 256 := fun b h => (List.mem_append.1 h).elim (enc_lt _ b) (hd b)
  have hgr : getR (enc (zigN x) ++ ds) = (x, (enc (zigN x)).length) := by
    unfold getR; rw [hge]; show (zagI (zigN x), _) = _; rw [zag_zig]
  conv => lhs; whnf
  refine get_spec (by omega) r4.rw hed _ ?_
  rw [hgr]
  have q1 : Rw σ4 1 a1 ds.length (u8s ds) := (r1.rw.mono p2).mono p4
  have q2 : Rw σ4 1 a2 (enc (zigN x)).length (u8s (enc (zigN x))) := r2.rw.mono p4
  conv => lhs; whnf
  refine get_spec (by omega) q1 hd _ ?_
  conv => lhs; whnf
  refine rget_spec (by omega) q1 hd _ ?_
  generalize getR ds = gd
  conv => lhs; whnf
  by_cases hs : 0 ≤ size ∧ size ≤ 9
  case' pos =>
    refine bif_neg (by simp; omega) ?_
    conv => lhs; whnf
    refine bif_neg (by simp; omega) ?_
    obtain ⟨s, hs9, hz9⟩ : ∃ s : Nat, s ≤ 9 ∧ size = (s : Int) := ⟨size.toNat, by omega, by omega⟩
    conv => lhs; whnf
  case' neg =>
    obtain ⟨s, hs9, hz9⟩ : ∃ s : Nat, s ≤ 9 ∧ (9 : Int) = (s : Int) := ⟨9, by omega, rfl⟩
    by_cases h0 : size < 0
    case' pos =>
      refine bif_pos (by simp; omega) ?_
      conv => lhs; whnf
    case' neg =>
      refine bif_neg (by simp; omega) ?_
      conv => lhs; whnf
      refine bif_pos (by simp; omega) ?_
      conv => lhs; whnf
  all_goals
    refine hD.go plan4x11 ord4x11 ?_
    conv => lhs; whnf
    refine strK_rw q2 (enc_lt _) ?_
    conv => lhs; whnf
    refine rput_spec (by omega) hx1 hx2 σ4 _ fun o5 a5 σ5 p5 r5 => ?_
    conv => lhs; whnf
    refine and_true ?_ ?_
    · refine all_one ?_
      conv => lhs; whnf
      refine strK_rw (q2.mono p5) (enc_lt _) ?_
      exact same_str _
    conv => lhs; whnf
    refine strK_rw r5.rw (enc_lt _) ?_
    conv => lhs; whnf
    refine bif_pos (by simp) ?_
    conv => lhs; whnf
    refine bif_pos (by simp) ?_
    conv => lhs; whnf
    refine bif_pos (by simp) ?_
    conv => lhs; whnf
    refine bif_pos (by simp) ?_
    conv => lhs; whnf
    refine bif_pos (by simp) ?_
    conv => lhs; whnf
    refine zig_spec (by omega) hx1 hx2 σ5 _ ?_
    conv => lhs; whnf
    refine rzig_spec (by omega) hx1 hx2 σ5 _ ?_
    conv => lhs; whnf
    refine bif_pos (by simp) ?_
    conv => lhs; whnf
    refine zag_spec (by omega) rfl hu σ5 _ ?_
    conv => lhs; whnf
    refine rzag_spec (by omega) rfl hu σ5 _ ?_
    conv => lhs; whnf
    refine bif_pos (by simp) ?_
    conv => lhs; whnf
    refine zig_spec (by omega) hx1 hx2 σ5 _ ?_
    conv => lhs; whnf
    refine zag_spec (by omega) rfl hz σ5 _ ?_
    conv => lhs; whnf
    refine bif_pos (by simp [zag_zig]) ?_
    conv => lhs; whnf
    refine fix_spec (by omega) rfl hz9 hs9 σ5 _ fun o6 a6 σ6 p6 r6 => ?_
    conv => lhs; whnf
    refine strK_rw r6.rw (fixR_lt _ _) ?_
    conv => lhs; whnf
    refine rfix_spec (by omega) rfl hz9 hu hs9 σ6 _ fun o7 a7 σ7 p7 r7 => ?_
    conv => lhs; whnf
    refine and_true (all_cons ?_ (all_skip rfl (all_skip rfl rfl))) ?_
    · conv => lhs; whnf
      refine strK_rw (r6.rw.mono p7) (fixR_lt _ _) ?_
      exact same_str _
    conv => lhs; whnf
    refine strK_rw r7.rw (fixR_lt _ _) ?_
    conv => lhs; whnf
    refine bif_pos (by simp) ?_
    conv => lhs; whnf
    have q7 : Rw σ7 1 a1 ds.length (u8s ds) := ((q1.mono p5).mono p6).mono p7
    refine unfix_spec (by omega) q7 hd _ ?_
    conv => lhs; whnf
    refine runfix_spec (by omega) q7 hd _ ?_
    conv => lhs; whnf
    refine bif_pos (by simp) ?_
    conv => lhs; whnf
    refine fix_spec (by omega) rfl (size := 8) rfl (by decide) σ7 _ fun o8 a8 σ8 p8 r8 => ?_
    conv => lhs; whnf
    refine unfix_spec (by omega) r8.rw (fixR_lt _ _) _ ?_
    have e8 : unfix (fixR u 8) = u := by
      have h1 : fixR u 8 = fixL u 8 := rfl
      unfold unfix
      rw [h1, List.take_of_length_le (by rw [fixL_len]; exact Nat.le_refl _), unfix_fix]
      exact Nat.mod_eq_of_lt hu
    rw [e8]
    conv => lhs; whnf
    refine bif_pos (by simp) ?_
    conv => lhs; whnf

theorem wordAll_law (σ : H) (vs : List AV) (h : ArgsShp Try.prog σ 9 [2, 24, 3, 25] vs) : ∃ n, acall Try.prog tab (drawRegion Try.prog) n 4 vs σ isTrue = true := by
  obtain ⟨a, vs, rfl, ha, h⟩ := args_cons h
  obtain ⟨b, vs, rfl, hb, h⟩ := args_cons h
  obtain ⟨c, vs, rfl, hc, h⟩ := args_cons h
  obtain ⟨d, vs, rfl, hd, h⟩ := args_cons h
  obtain rfl := args_nil h
  obtain ⟨a, rfl, a1, a2⟩ := arg_int Try.underlying2 ha
  obtain ⟨u, rfl, hu⟩ := arg_nat rfl Try.underlying24 hb
  obtain ⟨c, rfl, c1, c2⟩ := arg_int Try.underlying3 hc
  obtain ⟨s, bs, rfl, d1, d2, d3⟩ := arg_bytes Try.underlying25 Try.underlying5 rfl hd
  exact ⟨14, wordAll_run (Nat.le_refl _) a1 a2 hu d1 d3 (byPlan _)⟩
end Go.Proofs.Ytpagagiojnhhfaa
