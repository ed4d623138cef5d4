/- LogFull: the run. -/
import Derived.Test.YtdiajgenbjdfiaaL18Full
set_option maxRecDepth 100000
namespace Go.Proofs.Ytdiajgenbjdfiaa
open Go Go.AM Go.AM.St
attribute [local irreducible] IntKind.wrap Int.fdiv Int.tdiv Int.tmod BitVec.ofInt appendK sliceK indexAddrK ldK storeK seenK makeSliceK valsF lookupK updateK mapK
variable {D : Drawer}

/-- By a plan; what comes behind is out of sight. -/
theorem goK {P : Program} {D : Drawer} (hD : ByPlan P D) {callf : CallF} {ops : Array Oper} (plan : Plan) (hp : ordOk P ops plan = true) {fr : Fr} {σ : H} {K : Fr → H → Bool} (h : ∀ KK, KK = K → ordK P callf ops plan [] fr σ KK = true) :
    D callf ops fr σ K = true := hD.go plan hp (h K rfl)
set_option maxHeartbeats 2000000 in
theorem logFull_run {n : Nat} (hn : 12000 ≤ n) (hD : ByPlan Try.prog D) {x y : Int} {σ : H} : acall Try.prog tab D n 11 [.int .i64 x, .int .i64 y] σ isTrue = true := by
  obtain ⟨n, rfl, hn⟩ := up hn
  obtain ⟨N, hN1, hN2, eN⟩ := mod12 x
  obtain ⟨c, hc, ec⟩ := mod15 y
  conv => lhs; whnf
  refine begun_spec ?_
  conv => lhs; whnf
  rw [eN, ec]
  as_aux_lemma =>
    conv => lhs; whnf
    refine make22 rfl (by omega) (by omega) ?_
    conv => lhs; whnf
    refine loop_rule (m := 12884901955) (fun q fr τ => ∃ (z : Int) (i : Nat) (V : List En), z = (i : Int) ∧ i + q = N ∧ τ = σ ++ [AO.cells (ents V) 4 .own] ∧ V.length = N ∧ Bare V ∧
        fr = [.int .i64 (N : Int), .int .i64 (c : Int), .bad, .bad, .bad, .bad, .sl (.at σ.length 0 4) N, .bad, .bad, .bad, .bad, .bad, .bad, .bad, .bad, .bad, .bad, .bad, .bad, .bad, .bad, .bad, .bad, .bad, .bad, .bad, .bad, .bad, .bad, .bad, .bad, .bad, .int .i64 (N : Int), .int .i64 z, .bad, .bad, .bad, .bad, .bad, .bad, .bad, .bad, .bad, .bad, .bad, .bad, .bad, .bad, .bad, .bad, .bad, .bad, .bad, .bad, .bad, .bad, .bad, .bad, .bad, .bad, .bad, .bad, .bad, .bad, .bad, .bad, .bad, .bad, .bad, .bad, .bad, .bad, .bad, .bad, .bad, .bad, .bad, .bad, .bad, .bad, .bad, .bad, .bad, .bad, .bad, .bad, .bad, .bad, .bad, .bad]) ?_ _ N _ _ (by omega)
        ⟨_, 0, List.replicate N (oneE 0), rfl, Nat.zero_add _, rfl, List.length_replicate, fun e he => by rw [(List.mem_replicate.1 he).2], rfl⟩
    rintro q fr τ C ⟨z, i, V, rfl, hq, rfl, hV, hb, rfl⟩ next fin
    as_aux_lemma =>
      conv => lhs; whnf
      by_cases hi : i < N
      · refine bif_pos (by simpa using hi) ?_
        conv => lhs; whnf
        refine idxAt rfl hi ?_
        conv => lhs; whnf
        refine stTerm (by omega) (get_new _ _) ?_
        conv => lhs; whnf
        exact next (q - 1) _ _ (by omega) ⟨_, i + 1, V.set i (1, V[i].2), inc_i64 (by omega), by omega, by simp, by rw [List.length_set, hV], hb.set (by omega) 1, rfl⟩
      refine bif_neg (by simpa using hi) ?_
      have r1 : Rw (σ ++ [AO.cells (ents V) 4 .own]) 4 (.at σ.length 0 4) V.length (ents V) := Rw.new _ _ (ents_len V).symm
      clear next
      conv => lhs; whnf
      refine fin _ _ _ nofun ?_
      clear fin
      as_aux_lemma =>
        subst hV
        conv => lhs; whnf
        generalize σ ++ [AO.cells (ents V) 4 .own] = σ1 at r1 ⊢
        generalize SA.at σ.length 0 4 = a0 at r1 ⊢
        refine new_spec (by omega) (by omega) hD r1 (hb.es _) hb.small fun B X o2 x1 σ2 p2 _ i2 v2 b2 q2 => ?_
        have lX : X.length = min 2000 V.length := by rw [← vals_len, v2, List.length_take, vals_len]
        have hmin : (bif true then if (2000 : Int) < (V.length : Int) then (2000 : Int) else (V.length : Int) else if (V.length : Int) < 2000 then (2000 : Int) else (V.length : Int)) = (X.length : Int) := by
          show (if (2000 : Int) < (V.length : Int) then (2000 : Int) else (V.length : Int)) = _
          split <;> omega
        have sc : (V.take c).length = c := by rw [List.length_take]; omega
        have q2' := q2.since (σ0 := []) List.nil_prefix
        conv => lhs; whnf
        rw [hmin]
        refine goK hD plan11x13 ord11x13 fun KK hKK => ?_
        as_aux_lemma =>
          conv => lhs; whnf
          refine slice22 (r1.mono p2) 0 c (.inl ⟨rfl, rfl⟩) (.inr ⟨_, _, rfl, rfl⟩) (Nat.zero_le _) (by omega) fun a3 r3 => ?_
          rw [List.drop_zero] at r3 ⊢
          conv => lhs; whnf
          refine term_spec (by omega) rfl (Nat.le_refl _) (by omega) ⟨_, _, b2, q2.rw, i2⟩ ?_
          conv => lhs; whnf
          refine lput_end (L := V.take c) (by omega) rfl rfl (by omega) (by omega) hD b2 q2' i2 r3 ((hb.take c).es _) (hb.take c).small fun σ4 z4 u4 V4 o4 a4 k4 b4 q4 i4 l4 => ?_
          rw [sc] at l4
          rw [sc]
          by_cases hf : X.length + c ≤ 2000
          · rw [if_pos hf] at l4
            rw [decide_eq_true hf]
            conv => lhs; whnf
            subst hKK
            conv => lhs; whnf
            refine len_spec (by omega) ⟨_, _, b4, q4.rw, i4⟩ ?_
            conv => lhs; whnf
            refine slice22 (k4.1 _ _ _ (r1.mono p2)) 0 c (.inl ⟨rfl, rfl⟩) (.inr ⟨_, _, rfl, rfl⟩) (Nat.zero_le _) (by omega) fun a5 r5 => ?_
            rw [List.drop_zero] at r5 ⊢
            conv => lhs; whnf
            refine add_spec (L := V.take c) (by omega) (by omega) (by omega) hD b4 q4 r5 ((hb.take c).es _) (hb.take c).small fun σ6 => ?_
            rw [sc]
            by_cases hg : V4.length + c ≤ 2000
            · rw [decide_eq_true hg]
              conv => lhs; whnf
              as_aux_lemma =>
                have hw1 : IntKind.i64.wrap ((X.length : Int) + (c : Int)) = ((X.length + c : Nat) : Int) := by rw [wrap_i64 (by omega) (by omega)]; omega
                have hw2 : IntKind.i64.wrap (((X.length + c : Nat) : Int) + (c : Int)) = ((X.length + c + c : Nat) : Int) := by rw [wrap_i64 (by omega) (by omega)]; omega
                rw [hw1]
                refine bif_pos (decide_eq_true (by omega)) ?_
                conv => lhs; whnf
                rw [hw1]
                refine bif_pos (beq_iff_eq.2 (by omega)) ?_
                conv => lhs; whnf
                rw [hw2]
                refine bif_pos (decide_eq_true (by omega)) ?_
                conv => lhs; whnf
            · rw [decide_eq_false hg]
              conv => lhs; whnf
              as_aux_lemma =>
                have hw1 : IntKind.i64.wrap ((X.length : Int) + (c : Int)) = ((X.length + c : Nat) : Int) := by rw [wrap_i64 (by omega) (by omega)]; omega
                have hw2 : IntKind.i64.wrap (((X.length + c : Nat) : Int) + (c : Int)) = ((X.length + c + c : Nat) : Int) := by rw [wrap_i64 (by omega) (by omega)]; omega
                rw [hw1]
                refine bif_pos (decide_eq_true (by omega)) ?_
                conv => lhs; whnf
                rw [hw1]
                refine bif_pos (beq_iff_eq.2 (by omega)) ?_
                conv => lhs; whnf
                rw [hw2]
                refine bif_neg (decide_eq_false (by omega)) ?_
                conv => lhs; whnf
          · rw [if_neg hf] at l4
            rw [decide_eq_false hf]
            conv => lhs; whnf
            subst hKK
            conv => lhs; whnf
            refine len_spec (by omega) ⟨_, _, b4, q4.rw, i4⟩ ?_
            conv => lhs; whnf
            refine slice22 (k4.1 _ _ _ (r1.mono p2)) 0 c (.inl ⟨rfl, rfl⟩) (.inr ⟨_, _, rfl, rfl⟩) (Nat.zero_le _) (by omega) fun a5 r5 => ?_
            rw [List.drop_zero] at r5 ⊢
            conv => lhs; whnf
            refine add_spec (L := V.take c) (by omega) (by omega) (by omega) hD b4 q4 r5 ((hb.take c).es _) (hb.take c).small fun σ6 => ?_
            rw [sc]
            by_cases hg : V4.length + c ≤ 2000
            · rw [decide_eq_true hg]
              conv => lhs; whnf
              as_aux_lemma =>
                have hw1 : IntKind.i64.wrap ((X.length : Int) + (c : Int)) = ((X.length + c : Nat) : Int) := by rw [wrap_i64 (by omega) (by omega)]; omega
                rw [hw1]
                refine bif_neg (decide_eq_false (by omega)) ?_
                conv => lhs; whnf
                refine bif_pos (beq_iff_eq.2 (by omega)) ?_
                conv => lhs; whnf
                rw [hw1]
                refine bif_pos (decide_eq_true (by omega)) ?_
                conv => lhs; whnf
            · rw [decide_eq_false hg]
              conv => lhs; whnf
              as_aux_lemma =>
                have hw1 : IntKind.i64.wrap ((X.length : Int) + (c : Int)) = ((X.length + c : Nat) : Int) := by rw [wrap_i64 (by omega) (by omega)]; omega
                rw [hw1]
                refine bif_neg (decide_eq_false (by omega)) ?_
                conv => lhs; whnf
                refine bif_pos (beq_iff_eq.2 (by omega)) ?_
                conv => lhs; whnf
                rw [hw1]
                refine bif_neg (decide_eq_false (by omega)) ?_
                conv => lhs; whnf

theorem logFull_law (σ : H) (vs : List AV) (h : ArgsShp Try.prog σ 9 [3, 3] vs) : ∃ n, acall Try.prog tab (drawRegion Try.prog) n 11 vs σ isTrue = true := by
  obtain ⟨a, vs, rfl, ha, h⟩ := args_cons h
  obtain ⟨b, vs, rfl, hb, h⟩ := args_cons h
  obtain rfl := args_nil h
  obtain ⟨x, rfl, _, _⟩ := arg_int Try.underlying3 ha
  obtain ⟨t, rfl, _, _⟩ := arg_int Try.underlying3 hb
  exact ⟨12000, logFull_run (Nat.le_refl _) (byPlan _)⟩
end Go.Proofs.Ytdiajgenbjdfiaa
