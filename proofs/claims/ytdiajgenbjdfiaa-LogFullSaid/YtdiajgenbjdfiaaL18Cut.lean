/- LogCut. -/
import Derived.Test.YtdiajgenbjdfiaaL18Put
set_option maxRecDepth 100000
namespace Go.Proofs.Ytdiajgenbjdfiaa
open Go Go.AM Go.AM.St
theorem tmod_val {x : Int} {m : Nat} (hx : 0 ≤ x) (hm : 0 < m) : ∃ k : Nat, k < m ∧ x.tmod (m : Int) = (k : Int) := by
  refine ⟨(x.tmod m).toNat, ?_, ?_⟩
  · have := Int.tmod_lt_of_pos x (b := (m : Int)) (by omega)
    have := Int.tmod_nonneg (m : Int) hx
    omega
  · have := Int.tmod_nonneg (m : Int) hx
    omega
attribute [local irreducible] IntKind.wrap Int.fdiv Int.tdiv Int.tmod BitVec.ofInt appendK sliceK indexAddrK ldK storeK seenK makeSliceK valsF lookupK updateK mapK
variable {D : Drawer}

abbrev oneE (t : Int) : En := (t, .nil, .nil, ⟨0, [], []⟩)
theorem logCut_run {n : Nat} (hn : 12000 ≤ n) (hD : ByPlan Try.prog D) {s : SA} {l : List En} {x t : Int} {σ : H} (hs : Rw σ 4 s l.length (ents l)) (hl : IsEs σ l) :
    acall Try.prog tab D n 8 [.sl s l.length, .int .i64 x, .int .i64 t] σ isTrue = true := by
  obtain ⟨n, rfl, hn⟩ := up hn
  conv => lhs; whnf
  refine begun_spec ?_
  conv => lhs; whnf
  refine entries_spec (by omega) hD hs hl fun o1 w1 W σ1 p1 i1 v1 r1 => ?_
  have kW : W.length ≤ 12 := by rw [← vals_len, v1]; exact cutE_len _
  have sW : Small (vals W) := by rw [v1]; exact cutE_small _
  conv => lhs; whnf
  refine new_spec (by omega) (by omega) hD r1.rw i1 sW fun B X _ x1 σ2 p2 _ i2 v2 b2 q2 => ?_
  have vX : vals X = vals W := by rw [v2, List.take_of_length_le (by rw [vals_len]; omega)]
  have lX : X.length = W.length := by rw [← vals_len, vX, vals_len]
  have hL : IsLog σ2 B X := ⟨_, _, b2, q2.rw, i2⟩
  conv => lhs; whnf
  by_cases h0 : W.length = 0
  · refine bif_pos (by simp [h0]) ?_
    conv => lhs; whnf
    refine len_spec (by omega) hL ?_
    conv => lhs; whnf
    refine bif_pos (by simp [lX]) ?_
    conv => lhs; whnf
  refine bif_neg (by simpa using h0) ?_
  conv => lhs; whnf
  by_cases hx : x < 0
  · refine bif_pos (by simpa using hx) ?_
    conv => lhs; whnf
    refine len_spec (by omega) hL ?_
    conv => lhs; whnf
    refine bif_pos (by simp [lX]) ?_
    conv => lhs; whnf
  refine bif_neg (by simpa using hx) ?_
  obtain ⟨k, hk, ek⟩ := tmod_val (x := x) (m := W.length) (by omega) (by omega)
  conv => lhs; whnf
  refine bif_neg (by simpa using h0) ?_
  rw [ek]
  conv => lhs; whnf
  refine from_spec (m := 100) (by omega) rfl rfl (by omega) hD hL (by rw [vX]; exact sW) fun o3 w3 W3 σ3 p3 i3 v3 r3 => ?_
  have v3' : vals W3 = vals X := by rw [v3, List.take_of_length_le (by rw [vals_len]; omega)]
  have l3 : W3.length = X.length := by rw [← vals_len, v3', vals_len]
  have hkX : k < X.length := by omega
  conv => lhs; whnf
  refine term_spec (by omega) rfl (by omega) (by omega) (hL.mono p3) ?_
  conv => lhs; whnf
  have r4 : Rw (σ3 ++ [AO.cells (enCells (oneE t)) 4 .own]) 4 (.at σ3.length 0 4) [oneE t].length (ents [oneE t]) := Rw.new _ _ rfl
  have i4 : IsEs (σ3 ++ [AO.cells (enCells (oneE t)) 4 .own]) [oneE t] := fun e he => by
    obtain rfl := List.mem_singleton.1 he
    exact ⟨Rw.nil _ _, Rw.nil _ _⟩
  have s4 : Small (vals [oneE t]) := fun e he => by
    obtain rfl := List.mem_singleton.1 he
    exact ⟨Nat.zero_le _, Nat.zero_le _⟩
  have p34 := List.prefix_append σ3 [AO.cells (enCells (oneE t)) 4 .own]
  have p24 := List.IsPrefix.trans p3 p34
  have p14 := List.IsPrefix.trans p2 p24
  have b4 := prefix_get p24 b2
  have hon : on (vals X) (vals [oneE t]) k 0 ↔ W[k].1 = t := by
    have e1 : termN (vals X) (k + 0 + 1) = W[k].1 := by rw [vX, termN, vals_at hk]; rfl
    have e2 : termN (vals [oneE t]) (0 + 1) = t := rfl
    unfold on
    rw [e1, e2, vals_len]
    exact ⟨fun h => h.2, fun h => ⟨by omega, h⟩⟩
  refine lput_spec (L := [oneE t]) (by omega) rfl (Nat.le_of_lt hkX) rfl (by omega) (show 1 ≤ 2001 by decide) hD b4 (q2.rw.mono p24) (i2.mono p24) r4 i4 s4 (fun σ5 p5 h5 => ?_) (fun σ5 p5 i hi _ _ h5 => absurd h5 (by simp only [List.length_singleton]; omega)) (fun σ5 i V' a' hi _ hoff _ kp b5 ⟨_, q5⟩ i5 v5 => ?_)
  · have hte : W[k].1 = t := hon.1 (h5 0 Nat.zero_lt_one)
    conv => lhs; whnf
    refine bif_neg (by rw [wrap_i64 (by omega) (by omega)]; simp) ?_
    conv => lhs; whnf
    refine idx22 (r1.rw.mono (List.IsPrefix.trans p14 p5)) rfl rfl hk fun id b g4 => ?_
    conv => lhs; whnf
    refine ldTerm g4 ?_
    conv => lhs; whnf
    refine bif_pos (by simp [hte]) ?_
    have p25 := List.IsPrefix.trans p24 p5
    have hL5 := hL.mono p25
    conv => lhs; whnf
    refine from_spec (m := 100) (by omega) rfl rfl (by omega) hD hL5 (by rw [vX]; exact sW) fun o6 w6 W6 σ6 p6 i6 v6 r6 => ?_
    have v6' : vals W6 = vals X := by rw [v6, List.take_of_length_le (by rw [vals_len]; omega)]
    have l6 : W6.length = X.length := by rw [← vals_len, v6', vals_len]
    have p36 := List.IsPrefix.trans (List.IsPrefix.trans p34 p5) p6
    conv => lhs; whnf
    refine eqE_spec (by omega) (by omega) hD r6.rw (r3.rw.mono p36) i6 (i3.mono p36) (by rw [v6', vX]; exact sW) (by rw [v6', v3']) fun σ7 p7 => ?_
    conv => lhs; whnf
  · have hi0 : i = 0 := Nat.lt_one_iff.1 hi
    subst hi0
    have hte : ¬ W[k].1 = t := fun h => hoff (hon.2 h)
    have kp1 : Keeps σ1 σ5 := (Keeps.of p14).trans kp
    have kp3 : Keeps σ3 σ5 := (Keeps.of p34).trans kp
    have hL5 : IsLog σ5 B V' := ⟨_, _, b5, q5.rw, i5⟩
    have lV : V'.length = k + 1 := by rw [← vals_len, v5, List.length_append, List.length_take, vals_len]; show min (k + 0) X.length + 1 = _; omega
    have tV : termN (vals V') (k + 1) = t := by
      rw [termN, v5, List.getElem?_append_right (by rw [List.length_take, vals_len]; omega), List.length_take, vals_len, show k - min (k + 0) X.length = 0 by omega]; rfl
    conv => lhs; whnf
    refine bif_neg (by rw [wrap_i64 (by omega) (by omega)]; simp) ?_
    conv => lhs; whnf
    refine idx22 (kp1.1 _ _ _ r1.rw) rfl rfl hk fun id b g4 => ?_
    conv => lhs; whnf
    refine ldTerm g4 ?_
    conv => lhs; whnf
    refine bif_neg (by simp [hte]) ?_
    conv => lhs; whnf
    refine hD.go plan8x15 ord8x15 ?_
    have hk1 : IntKind.i64.wrap ((k : Int) + 1) = ((k + 1 : Nat) : Int) := by rw [wrap_i64 (by omega) (by omega)]; omega
    conv => lhs; whnf
    rw [hk1]
    refine bif_pos (by simp) ?_
    conv => lhs; whnf
    refine len_spec (by omega) hL5 ?_
    conv => lhs; whnf
    rw [hk1]
    refine bif_pos (by rw [lV]; simp) ?_
    conv => lhs; whnf
    refine term_spec (by omega) hk1 (by omega) (by omega) hL5 ?_
    conv => lhs; whnf
    refine bif_pos (by rw [tV]; simp) ?_
    conv => lhs; whnf
    refine slice22 (kp3.1 _ _ _ r3.rw) 0 k (.inl ⟨rfl, rfl⟩) (.inr ⟨_, _, rfl, rfl⟩) (Nat.zero_le _) (by omega) fun a6 r6 => ?_
    rw [List.drop_zero] at r6 ⊢
    conv => lhs; whnf
    refine from_spec (m := k) (by omega) rfl rfl (by omega) hD hL5 ?_ fun o7 w7 W7 σ7 p7 i7 v7 r7 => ?_
    · intro e he
      rw [v5] at he
      rcases List.mem_append.1 he with he | he
      · exact sW _ (by rw [← vX]; exact List.mem_of_mem_take he)
      · exact s4 _ (List.mem_of_mem_drop he)
    have v7' : vals W7 = (vals X).take k := by
      rw [v7, v5, show min k 2000 = k by omega, List.take_append_of_le_length (by rw [List.length_take, vals_len]; omega), List.take_take]; congr 1; omega
    have l7 : W7.length ≤ 12 := by rw [← vals_len, v7', List.length_take]; omega
    conv => lhs; whnf
    refine eqE_spec (by omega) (by omega) hD r7.rw (r6.mono p7) i7 (((kp3.es i3).take _).mono p7) ?_ (by rw [v7', vals_take, v3']) fun σ8 p8 => ?_
    · rw [v7', vX]; exact sW.take _
    conv => lhs; whnf

theorem logCut_law (σ : H) (vs : List AV) (h : ArgsShp Try.prog σ 9 [22, 3, 2] vs) : ∃ n, acall Try.prog tab (drawRegion Try.prog) n 8 vs σ isTrue = true := by
  obtain ⟨a, vs, rfl, ha, h⟩ := args_cons h
  obtain ⟨b, vs, rfl, hb, h⟩ := args_cons h
  obtain ⟨c, vs, rfl, hc, h⟩ := args_cons h
  obtain rfl := args_nil h
  obtain ⟨s, l, rfl, a1, a2⟩ := arg_ents ha
  obtain ⟨x, rfl, _, _⟩ := arg_int Try.underlying3 hb
  obtain ⟨t, rfl, _, _⟩ := arg_int Try.underlying2 hc
  exact ⟨12000, logCut_run (Nat.le_refl _) (byPlan _) a1 a2⟩
end Go.Proofs.Ytdiajgenbjdfiaa
