/- Package log: From; the reference's EqEntries. -/
import Derived.Test.YthmdecfiijgaoaaGreatL18New
set_option maxRecDepth 100000
namespace Go.Proofs.YthmdecfiijgaoaaGreat
open Go Go.AM Go.AM.St
theorem wrap_11 : IntKind.i64.wrap (1 - 1) = 0 := by decide
theorem from_val {m v : Nat} : (if (v : Int) < IntKind.i64.wrap (IntKind.i64.wrap (1 - 1) + if (2000 : Int) < (m : Int) then (2000 : Int) else (m : Int)) then (v : Int) else IntKind.i64.wrap (IntKind.i64.wrap (1 - 1) + if (2000 : Int) < (m : Int) then (2000 : Int) else (m : Int))) = ((min (min m 2000) v : Nat) : Int) := by
  rw [wrap_11]
  have h : (if (2000 : Int) < (m : Int) then (2000 : Int) else (m : Int)) = ((min m 2000 : Nat) : Int) := by split <;> omega
  rw [h, wrap_i64 (by omega) (by omega)]
  split <;> omega
attribute [local irreducible] IntKind.wrap Int.fdiv Int.tdiv Int.tmod BitVec.ofInt appendK sliceK indexAddrK ldK storeK seenK makeSliceK valsF lookupK updateK mapK
variable {D : Drawer}

/-- From 1 on. -/
theorem from_spec {n B m : Nat} {y z : Int} {V : List En} (hn : 2100 ≤ n) (hy : y = 1) (hz : z = (m : Int)) (hV : V.length ≤ 2500) (hD : ByPlan Tryz.prog D) {σ : H} (hL : IsLog σ B V) (hsm : Small (vals V)) {K : AV → H → Bool}
    (hK : ∀ o w W σ', σ <+: σ' → IsEs σ' W → vals W = (vals V).take (min m 2000) → Own σ σ' 4 o w W.length (ents W) → K (.sl w W.length) σ' = true) :
    acall Tryz.prog tab D n 63 [.ptr (some ⟨B, 0, 0, 1⟩), .int .i64 y, .int .i64 z] σ K = true := by
  obtain ⟨n, rfl, hn⟩ := up hn
  subst hy hz
  conv => lhs; whnf
  refine len_spec (by omega) hL ?_
  conv => lhs; whnf
  by_cases h0 : V.length = 0
  · obtain rfl : V = [] := List.length_eq_zero_iff.1 h0
    exact hK none .nil [] σ (List.prefix_refl _) (IsEs.nil _) (by simp [vals]) (Own.nil _ _ _)
  refine bif_neg (by simp; omega) ?_
  conv => lhs; whnf
  by_cases h1 : m = 0
  · subst h1
    exact hK none .nil [] σ (List.prefix_refl _) (IsEs.nil _) (by simp [vals]) (Own.nil _ _ _)
  refine bif_neg (by simp; omega) ?_
  have hL' := hL
  obtain ⟨a, md, g1, g2, g3⟩ := hL'
  conv => lhs; whnf
  refine hD.go plan63x3 ord63x3 ?_
  conv => lhs; whnf
  refine ldL g1 ?_
  conv => lhs; whnf
  refine len_spec (by omega) hL ?_
  conv => lhs; whnf
  refine and_true (all_cons ?_ rfl) ?_
  · conv => lhs; whnf
    refine ldL g1 ?_
    exact same_sl _ _
  conv => lhs; whnf
  have e : V.take (min (min m 2000) V.length) = V.take (min m 2000) := by
    rw [← List.take_take, List.take_of_length_le (Nat.le_refl _)]
  refine slice22 g2 0 (min (min m 2000) V.length) (.inr ⟨_, _, rfl, ?_⟩) (.inr ⟨_, _, rfl, ?_⟩) (Nat.zero_le _) (Nat.min_le_right _ _) fun a2 r2 => ?_
  · exact wrap_11
  · exact from_val
  rw [List.drop_zero, e] at r2 ⊢
  have hle : (V.take (min m 2000)).length ≤ 2000 := by rw [List.length_take]; omega
  conv => lhs; whnf
  refine own_spec (by omega) (by omega) hD r2 (g3.take _) (by rw [vals_take]; exact hsm.take _) fun o w W σ2 p2 i2 v2 o2 => ?_
  conv => lhs; whnf
  exact hK o w W σ2 p2 i2 (by rw [v2, vals_take]) o2

theorem eqE_spec {n : Nat} {a b : SA} {V W : List En} (hn : 10000 ≤ n) (hV : V.length ≤ 2500) (hD : ByPlan Tryz.prog D) {σ : H} (ha : Rw σ 4 a V.length (ents V)) (hb : Rw σ 4 b W.length (ents W)) (ia : IsEs σ V) (ib : IsEs σ W)
    (hsm : Small (vals V)) (he : vals V = vals W) {K : AV → H → Bool} (hK : ∀ σ', σ <+: σ' → K (.bool true) σ' = true) : acall Tryz.prog tab D n 17 [.sl a V.length, .sl b W.length] σ K = true := by
  obtain ⟨n, rfl, hn⟩ := up hn
  have hl : V.length = W.length := by rw [← vals_len, he, vals_len]
  conv => lhs; whnf
  refine bif_neg (by simp [hl]) ?_
  conv => lhs; whnf
  refine loop_rule (m := 35) (fun q fr τ => ∃ (z : Int) (i : Nat), z = (i : Int) ∧ i + q = V.length ∧ σ <+: τ ∧ fr = [.sl a V.length, .sl b W.length, .bad, .bad, .bad, .int .i64 z, .bad, .bad, .bad, .bad, .bad, .bad, .bad, .bad, .bad, .bad, .bad, .bad, .bad, .bad, .bad, .bad, .bad, .bad, .bad, .bad, .bad, .bad, .bad, .bad, .bad, .bad, .bad, .bad, .bad, .bad, .bad, .bad, .bad, .bad, .bad, .bad]) ?_ _ V.length _ _ (by omega)
      ⟨_, 0, rfl, Nat.zero_add _, List.prefix_refl _, rfl⟩
  rintro q fr τ C ⟨z, i, rfl, hq, hp, rfl⟩ next fin
  conv => lhs; whnf
  by_cases hi : i < V.length
  · refine bif_pos (by simpa using hi) ?_
    have hi2 : i < W.length := by omega
    have hev : valE V[i] = valE W[i] := by
      have h1 := vals_at hi
      have h2 := vals_at hi2
      rw [he, h2] at h1
      exact (Option.some.inj h1).symm
    have e1 : V[i].1 = W[i].1 := (Prod.mk.inj hev).1
    have e2 : V[i].2.2.2 = W[i].2.2.2 := (Prod.mk.inj hev).2
    have s1 : V[i].2.2.2.nums.length ≤ 45 ∧ V[i].2.2.2.texts.length ≤ 45 := hsm _ (List.mem_map.2 ⟨_, List.getElem_mem hi, rfl⟩)
    have iv := ia _ (List.getElem_mem hi)
    have iw := ib _ (List.getElem_mem hi2)
    conv => lhs; whnf
    refine hD.go plan17x6 ord17x6 ?_
    conv => lhs; whnf
    refine idx22 (ha.mono hp) rfl rfl hi fun id b h4 => ?_
    conv => lhs; whnf
    refine ldTerm h4 ?_
    conv => lhs; whnf
    refine idx22 (hb.mono hp) rfl rfl hi2 fun id' b' h4' => ?_
    conv => lhs; whnf
    refine ldTerm h4' ?_
    conv => lhs; whnf
    refine bif_neg (by simp [e1]) ?_
    conv => lhs; whnf
    refine idx22 (ha.mono hp) rfl rfl hi fun id1 b1 k4 => ?_
    conv => lhs; whnf
    refine ldRec k4 ?_
    conv => lhs; whnf
    refine idx22 (hb.mono hp) rfl rfl hi2 fun id2 b2 k4' => ?_
    conv => lhs; whnf
    refine ldRec k4' ?_
    conv => lhs; whnf
    refine req_spec (by omega) (by omega) (by omega) hD (iv.mono hp) (iw.mono hp) fun τ2 p2 => ?_
    rw [recEq_iff.2 e2]
    conv => lhs; whnf
    exact next (q - 1) _ _ (by omega) ⟨_, i + 1, inc_i64 (by omega), by omega, List.IsPrefix.trans hp p2, rfl⟩
  · refine bif_neg (by simpa using hi) ?_
    conv => lhs; whnf
    refine fin _ _ _ nofun ?_
    conv => lhs; whnf
    exact hK τ hp
end Go.Proofs.YthmdecfiijgaoaaGreat
