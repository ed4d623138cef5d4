/- VoteAll. -/
import Derived.Test.YtdiajgenbjdfiaaL18Vote
import Derived.Test.YtdiajgenbjdfiaaPVote2
namespace Go.Proofs.Ytdiajgenbjdfiaa
open Go Go.AM Go.AM.St

theorem and_val (x : Int) : ∃ k : Nat, k ≤ 1023 ∧ IntKind.i64.wrap (((BitVec.ofInt IntKind.i64.bits x &&& BitVec.ofInt IntKind.i64.bits 1023).toNat : Nat) : Int) = (k : Int) := by
  have h : (BitVec.ofInt IntKind.i64.bits x &&& BitVec.ofInt IntKind.i64.bits 1023).toNat ≤ 1023 := by
    rw [BitVec.toNat_and]
    exact Nat.le_trans Nat.and_le_right (by decide)
  exact ⟨_, h, wrap_i64 (by omega) (by omega)⟩
theorem wait_val {k : Nat} (h : k ≤ 1023) : IntKind.i64.wrap (3 * IntKind.i64.wrap ((if (k : Int) < 0 then (0 : Int) else (k : Int)) + 1)) = ((3 * (k + 1) : Nat) : Int) := by
  rw [if_neg (by omega), wrap_i64 (x := (k : Int) + 1) (by omega) (by omega), wrap_i64 (by omega) (by omega)]; omega
theorem wait_neg {y : Int} (h : y < 0) : IntKind.i64.wrap (3 * IntKind.i64.wrap ((if y < 0 then (0 : Int) else y) + 1)) = 3 := by
  rw [if_pos h]; decide

attribute [local irreducible] IntKind.wrap Int.fdiv Int.tdiv Int.tmod BitVec.ofInt appendK sliceK indexAddrK ldK storeK seenK makeSliceK valsF
set_option maxRecDepth 100000
variable {D : Drawer}

theorem wait_spec {n : Nat} {y : Int} (hn : 1 ≤ n) {σ : H} {K : AV → H → Bool} (h : K (.int .i64 (IntKind.i64.wrap (3 * IntKind.i64.wrap ((if y < 0 then (0 : Int) else y) + 1)))) σ = true) : acall Try.prog tab D n 22 [.int .i64 y] σ K = true := by
  obtain ⟨n, rfl, hn⟩ := up hn
  conv => lhs; whnf
  exact h

theorem rmedian_spec {n : Nat} {a : SA} {zs : List Int} (hn : 100 ≤ n) (hl : zs.length ≤ 15) (hD : ByPlan Try.prog D) {σ : H} (ha : Rw σ 1 a zs.length (iks .i64 zs)) {K : AV → H → Bool} (hK : K (.int .i64 (medI zs)) σ = true) :
    acall Try.prog tab D n 24 [.sl a zs.length] σ K = true := by
  obtain ⟨n, rfl, hn⟩ := up hn
  conv => lhs; whnf
  refine loop_rule (m := 57) (fun q fr τ => ∃ (z best : Int) (any : Bool) (i : Nat), z = (i : Int) ∧ i + q = zs.length ∧ τ = σ ∧ refAt zs i best any ∧
      fr = [.sl a zs.length, .bad, .bad, .int .i64 best, .bool any, .int .i64 z, .bad, .bad, .bad, .bad, .bad, .bad, .bad, .bad, .bad, .bad, .bad, .bad, .bad, .bad, .bad, .bad, .bad, .bad, .bad, .bad, .bad, .bad, .bad, .bad, .bad, .bad, .bad, .bad, .bad, .bad, .bad, .bad, .bad, .bad, .bad, .bad, .bad, .bad, .bad, .bad, .bad, .bad, .bad, .bad, .bad, .bad, .bad]) ?_ _ zs.length _ _ (by omega)
      ⟨_, _, _, 0, rfl, Nat.zero_add _, rfl, refAt_zero zs, rfl⟩
  rintro q fr τ C ⟨z, best, any, i, rfl, hq, rfl, hR, rfl⟩ next fin
  conv => lhs; whnf
  by_cases hi : i < zs.length
  case neg =>
    refine bif_neg (by simpa using hi) ?_
    obtain rfl : i = zs.length := by omega
    conv => lhs; whnf
    refine fin _ _ _ nofun ?_
    conv => lhs; whnf
    rw [refAt_end hR]
    exact hK
  refine bif_pos (by simpa using hi) ?_
  conv => lhs; whnf
  refine loop_rule (m := 249) (fun q' fr τ' => ∃ (y u : Int) (k : Nat), y = (k : Int) ∧ k + q' = zs.length ∧ τ' = τ ∧ u = ((zs.take k).countP (fun x => decide (zs[i] ≤ x)) : Nat) ∧
      fr = [.sl a zs.length, .bad, .bad, .int .i64 best, .bool any, .int .i64 (i : Int), .int .i64 u, .int .i64 y, .bad, .bad, .bad, .bad, .bad, .bad, .bad, .bad, .bad, .bad, .bad, .bad, .bad, .bad, .bad, .bad, .bad, .bad, .bad, .bad, .bad, .bad, .bad, .bad, .bad, .bad, .bad, .bad, .bad, .bad, .bad, .bad, .bad, .bad, .bad, .bad, .bad, .bad, .bad, .bad, .bad, .bad, .bad, .bad, .bad]) ?_ _ zs.length _ _ (by omega)
      ⟨_, _, 0, rfl, Nat.zero_add _, rfl, rfl, rfl⟩
  rintro q' fr τ' C' ⟨y, u, k, rfl, hq', rfl, hu, rfl⟩ next' fin'
  conv => lhs; whnf
  by_cases hk : k < zs.length
  · refine bif_pos (by simpa using hk) ?_
    have s1 : (zs.take (k + 1)).countP (fun x => decide (zs[i] ≤ x)) = (zs.take k).countP (fun x => decide (zs[i] ≤ x)) + if decide (zs[i] ≤ zs[k]) then 1 else 0 := countP_take_succ (fun x => decide (zs[i] ≤ x)) hk
    have b1 : (zs.take k).countP (fun x => decide (zs[i] ≤ x)) ≤ k := Nat.le_trans List.countP_le_length (by rw [List.length_take]; omega)
    conv => lhs; whnf
    refine hD.go plan24x9 ord24x9 ?_
    conv => lhs; whnf
    refine it42.idx ha rfl hk fun p hpe => ?_
    conv => lhs; whnf
    refine it42.ld hpe ?_
    conv => lhs; whnf
    refine it42.idx ha rfl hi fun p hpe => ?_
    conv => lhs; whnf
    refine it42.ld hpe ?_
    conv => lhs; whnf
    refine bif_case (fun h => ?_) (fun h => ?_)
    · conv => lhs; whnf
      exact next' (q' - 1) _ _ (by omega) ⟨_, _, k + 1, inc_i64 (by omega), by omega, rfl, by rw [s1, show decide (zs[i] ≤ zs[k]) = true from h, hu, wrap_i64 (by omega) (by omega)]; rfl, rfl⟩
    · conv => lhs; whnf
      exact next' (q' - 1) _ _ (by omega) ⟨_, _, k + 1, inc_i64 (by omega), by omega, rfl, by rw [s1, show decide (zs[i] ≤ zs[k]) = false from h, hu]; rfl, rfl⟩
  · refine bif_neg (by simpa using hk) ?_
    obtain rfl : k = zs.length := by omega
    rw [List.take_length] at hu
    have hcnt : u = (cntI zs zs[i] : Nat) := hu
    conv => lhs; whnf
    refine fin' _ _ _ nofun ?_
    conv => lhs; whnf
    refine rmost_spec (by omega) rfl (by omega) ?_
    conv => lhs; whnf
    by_cases h1 : mostN zs.length ≤ cntI zs zs[i]
    · refine bif_pos (by rw [hcnt]; simp; omega) ?_
      conv => lhs; whnf
      cases any
      · conv => lhs; whnf
        refine it42.idx ha rfl hi fun p hpe => ?_
        conv => lhs; whnf
        refine it42.ld hpe ?_
        conv => lhs; whnf
        exact next (q - 1) _ _ (by omega) ⟨_, _, _, i + 1, inc_i64 (by omega), by omega, rfl, refAt_take hR hi h1 (.inl rfl), rfl⟩
      · conv => lhs; whnf
        refine it42.idx ha rfl hi fun p hpe => ?_
        conv => lhs; whnf
        refine it42.ld hpe ?_
        conv => lhs; whnf
        by_cases h2 : best < zs[i]
        · refine bif_pos (decide_eq_true h2) ?_
          conv => lhs; whnf
          refine it42.idx ha rfl hi fun p hpe => ?_
          conv => lhs; whnf
          refine it42.ld hpe ?_
          conv => lhs; whnf
          exact next (q - 1) _ _ (by omega) ⟨_, _, _, i + 1, inc_i64 (by omega), by omega, rfl, refAt_take hR hi h1 (.inr h2), rfl⟩
        · refine bif_neg (decide_eq_false h2) ?_
          conv => lhs; whnf
          exact next (q - 1) _ _ (by omega) ⟨_, _, _, i + 1, inc_i64 (by omega), by omega, rfl, refAt_skip hR hi fun h => by rcases h.2 with h | h; exact absurd h (by decide); exact h2 h, rfl⟩
    · refine bif_neg (by rw [hcnt]; simp; omega) ?_
      conv => lhs; whnf
      exact next (q - 1) _ _ (by omega) ⟨_, _, _, i + 1, inc_i64 (by omega), by omega, rfl, refAt_skip hR hi fun h => h1 h.1, rfl⟩

theorem voteAll_run {n : Nat} (hn : 200 ≤ n) (hD : ByPlan Try.prog D) {a : SA} {x y : Int} {ys : List Int} {σ : H} (ha : Rw σ 1 a ys.length (iks .i64 ys)) :
    acall Try.prog tab D n 5 [.int .i64 x, .int .i64 y, .sl a ys.length] σ isTrue = true := by
  obtain ⟨n, rfl, hn⟩ := up hn
  conv => lhs; whnf
  refine begun_spec ?_
  conv => lhs; whnf
  refine it42.slice ha 0 (min ys.length 15) (.inl ⟨rfl, rfl⟩) (.inr ⟨_, _, rfl, ?_⟩) (Nat.zero_le _) (Nat.min_le_left _ _) (ys.take 15) ?_ fun a2 r2 => ?_
  · show (if _ then _ else _) = _
    split <;> omega
  · rw [List.drop_zero, Nat.min_comm, ← List.take_take, List.take_of_length_le (Nat.le_refl _)]
  have hl : (ys.take 15).length ≤ 15 := by rw [List.length_take]; omega
  generalize ys.take 15 = zs at r2 hl ⊢
  obtain ⟨k, hk, ek⟩ := and_val x
  obtain ⟨j, hj, ej⟩ := and_val y
  conv => lhs; whnf
  rw [ek, ej]
  have hm1 : 2 * mostN k > k ∧ 2 * (mostN k - 1) ≤ max k 1 ∧ 0 < mostN k ∧ mostN k ≤ 1000 := by unfold mostN; omega
  have hmx : (if (k : Int) < 1 then (1 : Int) else (k : Int)) = ((max k 1 : Nat) : Int) := by split <;> omega
  refine most_spec (by omega) rfl (by omega) ?_
  conv => lhs; whnf
  refine rmost_spec (by omega) rfl (by omega) ?_
  conv => lhs; whnf
  refine bif_pos (by simp) ?_
  conv => lhs; whnf
  refine most_spec (by omega) rfl (by omega) ?_
  conv => lhs; whnf
  refine bif_pos (decide_eq_true (by rw [wrap_i64 (by omega) (by omega)]; omega)) ?_
  conv => lhs; whnf
  refine most_spec (by omega) rfl (by omega) ?_
  conv => lhs; whnf
  refine bif_pos (decide_eq_true ?_) ?_
  · rw [wrap_i64 (x := ((mostN k : Nat) : Int) - 1) (by omega) (by omega), wrap_i64 (by omega) (by omega)]
    show _ ≤ (if (k : Int) < 1 then (1 : Int) else (k : Int))
    rw [hmx]; omega
  conv => lhs; whnf
  refine wait_spec (by omega) ?_
  conv => lhs; whnf
  refine bif_pos ?_ ?_
  · rw [wait_val hj, wrap_i64 (x := (j : Int) + 1) (by omega) (by omega), wrap_i64 (by omega) (by omega), beq_iff_eq]; omega
  conv => lhs; whnf
  refine wait_spec (by omega) ?_
  conv => lhs; whnf
  refine bif_pos ?_ ?_
  · rw [wait_neg (by rw [wrap_i64 (by omega) (by omega)]; omega)]; rfl
  conv => lhs; whnf
  refine median_spec (by omega) (by omega) r2 fun σ3 p3 => ?_
  conv => lhs; whnf
  refine rmedian_spec (by omega) (by omega) hD (r2.mono p3) ?_
  conv => lhs; whnf
  refine bif_pos (by simp) ?_
  conv => lhs; whnf

theorem voteAll_law (σ : H) (vs : List AV) (h : ArgsShp Try.prog σ 9 [3, 3, 34] vs) : ∃ n, acall Try.prog tab (drawRegion Try.prog) n 5 vs σ isTrue = true := by
  obtain ⟨a, vs, rfl, ha, h⟩ := args_cons h
  obtain ⟨b, vs, rfl, hb, h⟩ := args_cons h
  obtain ⟨c, vs, rfl, hc, h⟩ := args_cons h
  obtain rfl := args_nil h
  obtain ⟨x, rfl, _, _⟩ := arg_int Try.underlying3 ha
  obtain ⟨y, rfl, _, _⟩ := arg_int Try.underlying3 hb
  obtain ⟨s, ys, rfl, a1, a2, a3⟩ := arg_ints Try.underlying34 Try.underlying2 rfl hc
  exact ⟨200, voteAll_run (Nat.le_refl _) (byPlan _) a1⟩
end Go.Proofs.Ytdiajgenbjdfiaa
