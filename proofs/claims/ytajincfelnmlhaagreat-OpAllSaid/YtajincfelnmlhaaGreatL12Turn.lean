/- OpTurn, but for the begin. -/
import Derived.Test.YtajincfelnmlhaaGreatGmOp
namespace Go.Proofs.YtajincfelnmlhaaGreat
set_option maxRecDepth 100000
open Go Go.AM Go.AM.St
theorem same_opv (o : OpV) : sameV (.agg (opv o)) (.agg (opv o)) = true := by simp [sameV, sameL, sameLeaf]
attribute [local irreducible] IntKind.wrap Int.fdiv Int.tdiv Int.tmod BitVec.ofInt appendK sliceK indexAddrK ldK storeK seenK makeSliceK lookupK updateK deleteK mapK rangeK nextK buildSliceK indexK
variable {D : Drawer} {σ : H}
theorem st_k {ρ : H} {id : Nat} {o : OpV} {v : Int} {K : H → Bool} (hr : ρ[id]? = some (AO.cells (opv o) 5 .own)) (hK : K (ρ.set id (.cells (opv ⟨v, o.s, o.k, o.t, o.n⟩) 5 .own)) = true) : storeK Tryz.prog 3 (.ptr (some ⟨id, 0, 0, 5⟩)) (.int .i64 v) ρ K = true :=
  storeK_of rfl rfl (by decide) hr rfl (by show 0 + 0 < 5; decide) hK
theorem st_s {ρ : H} {id : Nat} {o : OpV} {v : List Nat} {K : H → Bool} (hr : ρ[id]? = some (AO.cells (opv o) 5 .own)) (hK : K (ρ.set id (.cells (opv ⟨o.kind, v, o.k, o.t, o.n⟩) 5 .own)) = true) : storeK Tryz.prog 9 (.ptr (some ⟨id, 0, 1, 5⟩)) (.str (ints v)) ρ K = true :=
  storeK_of rfl rfl (by decide) hr rfl (by show 0 + 1 < 5; decide) hK
theorem st_y {ρ : H} {id : Nat} {o : OpV} {v : List Nat} {K : H → Bool} (hr : ρ[id]? = some (AO.cells (opv o) 5 .own)) (hK : K (ρ.set id (.cells (opv ⟨o.kind, o.s, v, o.t, o.n⟩) 5 .own)) = true) : storeK Tryz.prog 9 (.ptr (some ⟨id, 0, 2, 5⟩)) (.str (ints v)) ρ K = true :=
  storeK_of rfl rfl (by decide) hr rfl (by show 0 + 2 < 5; decide) hK
theorem st_t {ρ : H} {id : Nat} {o : OpV} {v : List Nat} {K : H → Bool} (hr : ρ[id]? = some (AO.cells (opv o) 5 .own)) (hK : K (ρ.set id (.cells (opv ⟨o.kind, o.s, o.k, v, o.n⟩) 5 .own)) = true) : storeK Tryz.prog 9 (.ptr (some ⟨id, 0, 3, 5⟩)) (.str (ints v)) ρ K = true :=
  storeK_of rfl rfl (by decide) hr rfl (by show 0 + 3 < 5; decide) hK
theorem st_n {ρ : H} {id : Nat} {o : OpV} {v : Int} {K : H → Bool} (hr : ρ[id]? = some (AO.cells (opv o) 5 .own)) (hK : K (ρ.set id (.cells (opv ⟨o.kind, o.s, o.k, o.t, v⟩) 5 .own)) = true) : storeK Tryz.prog 2 (.ptr (some ⟨id, 0, 4, 5⟩)) (.int .i64 v) ρ K = true :=
  storeK_of rfl rfl (by decide) hr rfl (by show 0 + 4 < 5; decide) hK
theorem minS (file : List Nat) (m : Nat) {K : AV → Bool} {x : Int} (hx : x = ((min file.length m : Nat) : Int)) (hK : K (.str (ints (file.take m))) = true) : sliceK Tryz.prog 9 (.str (ints file)) none (some (.int .i64 x)) none K = true := by
  refine sliceK_str Tryz.underlying9 0 (min file.length m) (.inl ⟨rfl, rfl⟩) (.inr ⟨_, _, rfl, hx⟩) (Nat.zero_le _) (Nat.min_le_left _ _) (file.take m) ?_ hK
  rw [List.drop_zero, Nat.min_comm, ← List.take_take, List.take_of_length_le (Nat.le_refl _)]
theorem min30 (file : List Nat) : (if (30 : Int) < ((ints file).length : Int) then (30 : Int) else ((ints file).length : Int)) = ((min file.length 30 : Nat) : Int) := by
  rw [ints_len]
  split <;> omega
theorem min120 (file : List Nat) : (if (120 : Int) < ((ints file).length : Int) then (120 : Int) else ((ints file).length : Int)) = ((min file.length 120 : Nat) : Int) := by
  rw [ints_len]
  split <;> omega
theorem opTurn_run {n : Nat} {o : OpV} {i j : Int} {s : List Nat} (hD : ByPlan Tryz.prog D) (hn : o.s.length + 1000000 ≤ n) (ho : OkV o) (hl : o.s.length ≤ 9223372036854775807) (hs : ∀ b ∈ s, b < 256) (hj1 : -9223372036854775808 ≤ j) (hj2 : j ≤ 9223372036854775807)
    (hB : ∀ {n : Nat} {σ : H} {K : AV → H → Bool}, 900000 ≤ n → (∀ σ', σ <+: σ' → K (.bool true) σ' = true) → acall Tryz.prog tab D n 14 [] σ K = true) :
    acall Tryz.prog tab D n 4 [.agg (opv o), .int .i64 i, .int .i64 j, .str (ints s)] σ isTrue = true := by
  obtain ⟨n, rfl, hn⟩ := up (n := n) (k := o.s.length + 999999) (by omega)
  have T := get_new σ (AO.cells (opv o) 5 .own)
  conv => lhs; whnf
  refine hB (by omega) fun σ1 p1 => ?_
  have T1 := prefix_get p1 T
  conv => lhs; whnf
  generalize (IntKind.i64.wrap (i.tmod 5 + 5)).tmod 5 = v
  by_cases v0 : v = 0
  · rw [show (v == 0) = true from beq_iff_eq.2 v0]
    conv => lhs; whnf
    refine st_k T1 ?_
    have T2 := get_set T1 (AO.cells (opv ⟨j.tmod 20, o.s, o.k, o.t, o.n⟩) 5 .own)
    have o2 : OkV ⟨j.tmod 20, o.s, o.k, o.t, o.n⟩ := ⟨ho.s, ho.k, ho.t, ho.n1, ho.n2, by show _ ≤ j.tmod 20; have := Int.lt_tmod_of_pos j (show (0 : Int) < 20 by decide); omega, by show j.tmod 20 ≤ _; have := Int.tmod_lt_of_pos j (show (0 : Int) < 20 by decide); omega⟩
    have l2 : (⟨j.tmod 20, o.s, o.k, o.t, o.n⟩ : OpV).s.length + 500000 ≤ n := by show o.s.length + _ ≤ n; omega
    have e2 : (⟨j.tmod 20, o.s, o.k, o.t, o.n⟩ : OpV).s.length ≤ 9223372036854775807 := hl
    generalize (⟨j.tmod 20, o.s, o.k, o.t, o.n⟩ : OpV) = o' at T2 o2 l2 e2 ⊢
    conv => lhs; whnf
    refine goK hD plan4x14 ord4x14 fun KK hKK => ?_
    conv => lhs; whnf
    refine ldV T2 ?_
    conv => lhs; whnf
    refine ldV T2 ?_
    conv => lhs; whnf
    refine may_spec (by omega) o2 fun σ3 p3 => ?_
    have T3 := prefix_get p3 T2
    cases hm : mayV o' with
    | true =>
      conv => lhs; whnf
      refine and_true (all_cons ?_ (all_skip rfl rfl)) ?_
      · conv => lhs; whnf
        refine ldV T3 ?_
        exact same_opv _
      conv => lhs; whnf
      refine ref_may_spec hD (by omega) e2 fun σ4 p4 => ?_
      rw [refV_eq, hm]
      conv => lhs; whnf
      subst hKK
      conv => lhs; whnf
    | false =>
      conv => lhs; whnf
      refine and_true (all_cons ?_ (all_skip rfl rfl)) ?_
      · conv => lhs; whnf
        refine ldV T3 ?_
        exact same_opv _
      conv => lhs; whnf
      refine ref_may_spec hD (by omega) e2 fun σ4 p4 => ?_
      rw [refV_eq, hm]
      conv => lhs; whnf
      subst hKK
      conv => lhs; whnf
  rw [show (v == 0) = false from beq_eq_false_iff_ne.2 v0]
  conv => lhs; whnf
  by_cases v1 : v = 1
  · rw [show (v == 1) = true from beq_iff_eq.2 v1]
    conv => lhs; whnf
    refine minS s 30 (min30 _) ?_
    conv => lhs; whnf
    refine st_s T1 ?_
    have T2 := get_set T1 (AO.cells (opv ⟨o.kind, s.take 30, o.k, o.t, o.n⟩) 5 .own)
    have o2 : OkV ⟨o.kind, s.take 30, o.k, o.t, o.n⟩ := ⟨fun b h => hs b (List.mem_of_mem_take h), ho.k, ho.t, ho.n1, ho.n2, ho.k1, ho.k2⟩
    have l2 : (⟨o.kind, s.take 30, o.k, o.t, o.n⟩ : OpV).s.length + 500000 ≤ n := by show (s.take 30).length + _ ≤ n; rw [List.length_take]; omega
    have e2 : (⟨o.kind, s.take 30, o.k, o.t, o.n⟩ : OpV).s.length ≤ 9223372036854775807 := by show (s.take 30).length ≤ _; rw [List.length_take]; omega
    generalize (⟨o.kind, s.take 30, o.k, o.t, o.n⟩ : OpV) = o' at T2 o2 l2 e2 ⊢
    conv => lhs; whnf
    refine goK hD plan4x14 ord4x14 fun KK hKK => ?_
    conv => lhs; whnf
    refine ldV T2 ?_
    conv => lhs; whnf
    refine ldV T2 ?_
    conv => lhs; whnf
    refine may_spec (by omega) o2 fun σ3 p3 => ?_
    have T3 := prefix_get p3 T2
    cases hm : mayV o' with
    | true =>
      conv => lhs; whnf
      refine and_true (all_cons ?_ (all_skip rfl rfl)) ?_
      · conv => lhs; whnf
        refine ldV T3 ?_
        exact same_opv _
      conv => lhs; whnf
      refine ref_may_spec hD (by omega) e2 fun σ4 p4 => ?_
      rw [refV_eq, hm]
      conv => lhs; whnf
      subst hKK
      conv => lhs; whnf
    | false =>
      conv => lhs; whnf
      refine and_true (all_cons ?_ (all_skip rfl rfl)) ?_
      · conv => lhs; whnf
        refine ldV T3 ?_
        exact same_opv _
      conv => lhs; whnf
      refine ref_may_spec hD (by omega) e2 fun σ4 p4 => ?_
      rw [refV_eq, hm]
      conv => lhs; whnf
      subst hKK
      conv => lhs; whnf
  rw [show (v == 1) = false from beq_eq_false_iff_ne.2 v1]
  conv => lhs; whnf
  by_cases v2 : v = 2
  · rw [show (v == 2) = true from beq_iff_eq.2 v2]
    conv => lhs; whnf
    refine minS s 30 (min30 _) ?_
    conv => lhs; whnf
    refine st_y T1 ?_
    have T2 := get_set T1 (AO.cells (opv ⟨o.kind, o.s, s.take 30, o.t, o.n⟩) 5 .own)
    have o2 : OkV ⟨o.kind, o.s, s.take 30, o.t, o.n⟩ := ⟨ho.s, fun b h => hs b (List.mem_of_mem_take h), ho.t, ho.n1, ho.n2, ho.k1, ho.k2⟩
    have l2 : (⟨o.kind, o.s, s.take 30, o.t, o.n⟩ : OpV).s.length + 500000 ≤ n := by show o.s.length + _ ≤ n; omega
    have e2 : (⟨o.kind, o.s, s.take 30, o.t, o.n⟩ : OpV).s.length ≤ 9223372036854775807 := hl
    generalize (⟨o.kind, o.s, s.take 30, o.t, o.n⟩ : OpV) = o' at T2 o2 l2 e2 ⊢
    conv => lhs; whnf
    refine goK hD plan4x14 ord4x14 fun KK hKK => ?_
    conv => lhs; whnf
    refine ldV T2 ?_
    conv => lhs; whnf
    refine ldV T2 ?_
    conv => lhs; whnf
    refine may_spec (by omega) o2 fun σ3 p3 => ?_
    have T3 := prefix_get p3 T2
    cases hm : mayV o' with
    | true =>
      conv => lhs; whnf
      refine and_true (all_cons ?_ (all_skip rfl rfl)) ?_
      · conv => lhs; whnf
        refine ldV T3 ?_
        exact same_opv _
      conv => lhs; whnf
      refine ref_may_spec hD (by omega) e2 fun σ4 p4 => ?_
      rw [refV_eq, hm]
      conv => lhs; whnf
      subst hKK
      conv => lhs; whnf
    | false =>
      conv => lhs; whnf
      refine and_true (all_cons ?_ (all_skip rfl rfl)) ?_
      · conv => lhs; whnf
        refine ldV T3 ?_
        exact same_opv _
      conv => lhs; whnf
      refine ref_may_spec hD (by omega) e2 fun σ4 p4 => ?_
      rw [refV_eq, hm]
      conv => lhs; whnf
      subst hKK
      conv => lhs; whnf
  rw [show (v == 2) = false from beq_eq_false_iff_ne.2 v2]
  conv => lhs; whnf
  by_cases v3 : v = 3
  · rw [show (v == 3) = true from beq_iff_eq.2 v3]
    conv => lhs; whnf
    refine minS s 120 (min120 _) ?_
    conv => lhs; whnf
    refine st_t T1 ?_
    have T2 := get_set T1 (AO.cells (opv ⟨o.kind, o.s, o.k, s.take 120, o.n⟩) 5 .own)
    have o2 : OkV ⟨o.kind, o.s, o.k, s.take 120, o.n⟩ := ⟨ho.s, ho.k, fun b h => hs b (List.mem_of_mem_take h), ho.n1, ho.n2, ho.k1, ho.k2⟩
    have l2 : (⟨o.kind, o.s, o.k, s.take 120, o.n⟩ : OpV).s.length + 500000 ≤ n := by show o.s.length + _ ≤ n; omega
    have e2 : (⟨o.kind, o.s, o.k, s.take 120, o.n⟩ : OpV).s.length ≤ 9223372036854775807 := hl
    generalize (⟨o.kind, o.s, o.k, s.take 120, o.n⟩ : OpV) = o' at T2 o2 l2 e2 ⊢
    conv => lhs; whnf
    refine goK hD plan4x14 ord4x14 fun KK hKK => ?_
    conv => lhs; whnf
    refine ldV T2 ?_
    conv => lhs; whnf
    refine ldV T2 ?_
    conv => lhs; whnf
    refine may_spec (by omega) o2 fun σ3 p3 => ?_
    have T3 := prefix_get p3 T2
    cases hm : mayV o' with
    | true =>
      conv => lhs; whnf
      refine and_true (all_cons ?_ (all_skip rfl rfl)) ?_
      · conv => lhs; whnf
        refine ldV T3 ?_
        exact same_opv _
      conv => lhs; whnf
      refine ref_may_spec hD (by omega) e2 fun σ4 p4 => ?_
      rw [refV_eq, hm]
      conv => lhs; whnf
      subst hKK
      conv => lhs; whnf
    | false =>
      conv => lhs; whnf
      refine and_true (all_cons ?_ (all_skip rfl rfl)) ?_
      · conv => lhs; whnf
        refine ldV T3 ?_
        exact same_opv _
      conv => lhs; whnf
      refine ref_may_spec hD (by omega) e2 fun σ4 p4 => ?_
      rw [refV_eq, hm]
      conv => lhs; whnf
      subst hKK
      conv => lhs; whnf
  rw [show (v == 3) = false from beq_eq_false_iff_ne.2 v3]
  conv => lhs; whnf
  refine st_n T1 ?_
  have T2 := get_set T1 (AO.cells (opv ⟨o.kind, o.s, o.k, o.t, j⟩) 5 .own)
  have o2 : OkV ⟨o.kind, o.s, o.k, o.t, j⟩ := ⟨ho.s, ho.k, ho.t, hj1, hj2, ho.k1, ho.k2⟩
  have l2 : (⟨o.kind, o.s, o.k, o.t, j⟩ : OpV).s.length + 500000 ≤ n := by show o.s.length + _ ≤ n; omega
  have e2 : (⟨o.kind, o.s, o.k, o.t, j⟩ : OpV).s.length ≤ 9223372036854775807 := hl
  generalize (⟨o.kind, o.s, o.k, o.t, j⟩ : OpV) = o' at T2 o2 l2 e2 ⊢
  conv => lhs; whnf
  refine goK hD plan4x14 ord4x14 fun KK hKK => ?_
  conv => lhs; whnf
  refine ldV T2 ?_
  conv => lhs; whnf
  refine ldV T2 ?_
  conv => lhs; whnf
  refine may_spec (by omega) o2 fun σ3 p3 => ?_
  have T3 := prefix_get p3 T2
  cases hm : mayV o' with
  | true =>
    conv => lhs; whnf
    refine and_true (all_cons ?_ (all_skip rfl rfl)) ?_
    · conv => lhs; whnf
      refine ldV T3 ?_
      exact same_opv _
    conv => lhs; whnf
    refine ref_may_spec hD (by omega) e2 fun σ4 p4 => ?_
    rw [refV_eq, hm]
    conv => lhs; whnf
    subst hKK
    conv => lhs; whnf
  | false =>
    conv => lhs; whnf
    refine and_true (all_cons ?_ (all_skip rfl rfl)) ?_
    · conv => lhs; whnf
      refine ldV T3 ?_
      exact same_opv _
    conv => lhs; whnf
    refine ref_may_spec hD (by omega) e2 fun σ4 p4 => ?_
    rw [refV_eq, hm]
    conv => lhs; whnf
    subst hKK
    conv => lhs; whnf
end Go.Proofs.YtajincfelnmlhaaGreat
