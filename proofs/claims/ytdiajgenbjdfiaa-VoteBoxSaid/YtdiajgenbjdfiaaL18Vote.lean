/- Package vote: Most, Median. -/
import Derived.Test.YtdiajgenbjdfiaaL1Word
import Derived.Test.YtdiajgenbjdfiaaL1Plans
import Derived.Test.YtdiajgenbjdfiaaPVote
import Derived.Test.YtdiajgenbjdfiaaGmCode
import Derived.Test.YtdiajgenbjdfiaaGmStep
namespace Go.Proofs.Ytdiajgenbjdfiaa
open Go Go.AM Go.AM.St

theorem valsF_spec {g id : Nat} {a : SA} {zs : List Int} {rest : List AV} {z y : Nat} {md : Md} {σ : H} {K : AV → H → Bool} (hr : σ[id]? = some (AO.cells (.sl a zs.length :: rest) y md)) (hm : md ≠ .ro) (hv : Rw σ 1 a zs.length (iks .i64 zs)) (hl : zs.length ≤ 1000000)
    (hK0 : zs = [] → K (.sl .nil 0) σ = true) (hK1 : zs ≠ [] → K (.sl (.at σ.length 0 1) zs.length) (σ ++ [AO.cells (iks .i64 (sortI zs)) 1 .own]) = true) :
    valsF g [.fn g [.ptr (some ⟨id, 0, 0, z⟩)]] σ K = true := by
  unfold valsF
  simp only
  refine bif_pos (by simp) ?_
  refine rowK_of hr ?_
  simp only
  refine bif_pos (by simp [hl]; cases md <;> simp_all) ?_
  refine seenK_rw hv ?_
  have hi : ∀ ys : List Int, intsOf (iks .i64 ys) = some ys := fun ys => by
    induction ys with
    | nil => rfl
    | cons y ys ih => show (intsOf (iks .i64 ys)).map _ = _; rw [ih]; rfl
  rw [hi]
  cases zs with
  | nil => exact hK0 rfl
  | cons x xs => exact hK1 (by simp)

theorem most_val {m : Nat} (hm : m ≤ 1000000) : IntKind.i64.wrap (IntKind.i64.wrap ((if (m : Int) < 1 then (1 : Int) else (m : Int)).tdiv 2) + 1) = ((mostN m : Nat) : Int) := by
  have h1 : (if (m : Int) < 1 then (1 : Int) else (m : Int)) = ((max m 1 : Nat) : Int) := by split <;> omega
  have h2 : ((max m 1 : Nat) : Int).tdiv 2 = ((max m 1 / 2 : Nat) : Int) := rfl
  rw [h1, h2, wrap_i64 (x := ((max m 1 / 2 : Nat) : Int)) (by omega) (by omega), wrap_i64 (by omega) (by omega)]
  rfl

attribute [local irreducible] IntKind.wrap Int.fdiv Int.tdiv Int.tmod BitVec.ofInt appendK sliceK indexAddrK ldK storeK seenK makeSliceK valsF
set_option maxRecDepth 100000
variable {D : Drawer}

theorem most_spec {n m : Nat} {y : Int} (hn : 1 ≤ n) (hy : y = (m : Int)) (hm : m ≤ 1000000) {σ : H} {K : AV → H → Bool} (h : K (.int .i64 (mostN m : Int)) σ = true) : acall Try.prog tab D n 20 [.int .i64 y] σ K = true := by
  subst hy
  obtain ⟨n, rfl, hn⟩ := up hn
  conv => lhs; whnf
  rw [← most_val hm] at h
  exact h
theorem rmost_spec {n m : Nat} {y : Int} (hn : 1 ≤ n) (hy : y = (m : Int)) (hm : m ≤ 1000000) {σ : H} {K : AV → H → Bool} (h : K (.int .i64 (mostN m : Int)) σ = true) : acall Try.prog tab D n 21 [.int .i64 y] σ K = true := by
  subst hy
  obtain ⟨n, rfl, hn⟩ := up hn
  conv => lhs; whnf
  rw [← most_val hm] at h
  exact h

theorem values_spec {n k : Nat} {a : SA} (hn : 1 ≤ n) {σ : H} {K : AV → H → Bool} (hK : K (.fn 43 [.ptr (some ⟨σ.length, 0, 0, 1⟩)]) (σ ++ [AO.cells [.sl a k] 1 .own]) = true) : acall Try.prog tab D n 37 [.sl a k] σ K = true := by
  obtain ⟨n, rfl, hn⟩ := up hn
  conv => lhs; whnf
  exact hK
theorem sorted_spec {n : Nat} {args : List AV} {σ : H} {K : AV → H → Bool} (h : valsF 43 args σ K = true) : acall Try.prog tab D n 36 args σ K = true := by
  cases n <;> exact h
theorem median_spec {n : Nat} {a : SA} {zs : List Int} (hn : 2 ≤ n) (hl : zs.length ≤ 1000) {σ : H} (ha : Rw σ 1 a zs.length (iks .i64 zs)) {K : AV → H → Bool} (hK : ∀ σ', σ <+: σ' → K (.int .i64 (medI zs)) σ' = true) :
    acall Try.prog tab D n 23 [.sl a zs.length] σ K = true := by
  obtain ⟨n, rfl, hn⟩ := up hn
  conv => lhs; whnf
  by_cases h0 : zs.length = 0
  · refine bif_pos (by simpa using h0) ?_
    conv => lhs; whnf
    have h := hK σ (List.prefix_refl _)
    rw [show medI zs = 0 by unfold medI; rw [if_pos h0]] at h
    exact h
  · refine bif_neg (by simpa using h0) ?_
    conv => lhs; whnf
    refine values_spec (by omega) ?_
    conv => lhs; whnf
    refine sorted_spec ?_
    refine valsF_spec (get_new _ _) (by decide) (ha.mono (List.prefix_append _ _)) (by omega) (fun h => absurd (by rw [h]; rfl) h0) fun _ => ?_
    conv => lhs; whnf
    refine most_spec (by omega) rfl (by omega) ?_
    have hne : zs.length ≠ 0 := h0
    obtain ⟨hk, hm⟩ := med_at hne
    have hp := mostN_pos zs.length
    have hle := mostN_le (n := zs.length) (by omega)
    have r2 : Rw (σ ++ [AO.cells [.sl a zs.length] 1 .own] ++ [AO.cells (iks .i64 (sortI zs)) 1 .own]) 1 (.at (σ ++ [AO.cells [.sl a zs.length] 1 .own]).length 0 1) zs.length (iks .i64 (sortI zs)) := Rw.new _ _ (by rw [iks_len, sortI_len, Nat.mul_one])
    conv => lhs; whnf
    refine indexAddrK_rw it42.ht it42.hz r2 (i := zs.length - mostN zs.length) (by rw [wrap_i64 (by omega) (by omega)]; omega) (by omega) (iks_at hk) fun p hpe => ?_
    conv => lhs; whnf
    refine it42.ld hpe ?_
    conv => lhs; whnf
    have h := hK (σ ++ [AO.cells [.sl a zs.length] 1 .own] ++ [AO.cells (iks .i64 (sortI zs)) 1 .own]) (prefix_add (List.prefix_append _ _) _)
    rw [← hm] at h
    exact h

theorem voteMedian_run {n : Nat} (hn : 200 ≤ n) {a : SA} {ys : List Int} {σ : H} (ha : Rw σ 1 a ys.length (iks .i64 ys)) :
    acall Try.prog tab D n 9 [.sl a ys.length] σ isTrue = true := by
  obtain ⟨n, rfl, hn⟩ := up hn
  conv => lhs; whnf
  refine begun_spec ?_
  conv => lhs; whnf
  refine it42.slice ha 0 (min ys.length 12) (.inl ⟨rfl, rfl⟩) (.inr ⟨_, _, rfl, ?_⟩) (Nat.zero_le _) (Nat.min_le_left _ _) (ys.take 12) ?_ fun a2 r2 => ?_
  · show (if _ then _ else _) = _
    split <;> omega
  · rw [List.drop_zero, Nat.min_comm, ← List.take_take, List.take_of_length_le (Nat.le_refl _)]
  have hl : (ys.take 12).length ≤ 12 := by rw [List.length_take]; omega
  generalize ys.take 12 = zs at r2 hl ⊢
  conv => lhs; whnf
  refine median_spec (by omega) (by omega) r2 fun σ3 p3 => ?_
  conv => lhs; whnf
  by_cases h0 : zs.length = 0
  · refine bif_pos (by simpa using h0) ?_
    conv => lhs; whnf
    rw [show medI zs = 0 by unfold medI; rw [if_pos h0]]
    conv => lhs; whnf
  · refine bif_neg (by simpa using h0) ?_
    have hc := med_count h0
    conv => lhs; whnf
    generalize medI zs = m at hc ⊢
    have r3 := r2.mono p3
    refine loop_rule (m := 241) (fun q fr τ => ∃ (z u v : Int) (i : Nat), z = (i : Int) ∧ u = ((zs.take i).countP (fun x => decide (m ≤ x)) : Nat) ∧ v = ((zs.take i).countP (fun x => decide (m < x)) : Nat) ∧ i + q = zs.length ∧ τ = σ3 ∧
        fr = [.sl a2 zs.length, .bad, .bad, .bad, .int .i64 m, .int .i64 u, .int .i64 v, .int .i64 z, .bad, .bad, .bad, .bad, .bad, .bad, .bad, .bad, .bad, .bad, .bad, .bad, .bad, .bad, .bad, .bad, .bad, .bad, .bad, .bad, .bad, .bad, .bad, .bad, .bad, .bad, .bad, .bad, .bad, .bad, .bad, .bad, .bad, .bad, .bad, .bad, .bad, .bad, .bad, .bad, .bad, .bad, .bad, .bad, .bad, .bad, .bad, .bad, .bad]) ?_ _ zs.length _ _ (by omega)
        ⟨_, _, _, 0, rfl, rfl, rfl, Nat.zero_add _, rfl, rfl⟩
    rintro q fr τ C ⟨z, u, v, i, rfl, hu, hv, hq, rfl, rfl⟩ next fin
    conv => lhs; whnf
    by_cases hi : i < zs.length
    · refine bif_pos (by simpa using hi) ?_
      have s1 : (zs.take (i + 1)).countP (fun x => decide (m ≤ x)) = (zs.take i).countP (fun x => decide (m ≤ x)) + if decide (m ≤ zs[i]) then 1 else 0 := countP_take_succ (fun x => decide (m ≤ x)) hi
      have s2 : (zs.take (i + 1)).countP (fun x => decide (m < x)) = (zs.take i).countP (fun x => decide (m < x)) + if decide (m < zs[i]) then 1 else 0 := countP_take_succ (fun x => decide (m < x)) hi
      have b1 : (zs.take i).countP (fun x => decide (m ≤ x)) ≤ i := Nat.le_trans List.countP_le_length (by rw [List.length_take]; omega)
      have b2 : (zs.take i).countP (fun x => decide (m < x)) ≤ i := Nat.le_trans List.countP_le_length (by rw [List.length_take]; omega)
      conv => lhs; whnf
      refine it42.idx r3 rfl hi fun p hpe => ?_
      conv => lhs; whnf
      refine it42.ld hpe ?_
      conv => lhs; whnf
      refine bif_case (fun h => ?_) (fun h => ?_)
      all_goals
        conv => lhs; whnf
        refine it42.idx r3 rfl hi fun p hpe => ?_
        conv => lhs; whnf
        refine it42.ld hpe ?_
        conv => lhs; whnf
        refine bif_case (fun h' => ?_) (fun h' => ?_)
        all_goals
          conv => lhs; whnf
          refine next (q - 1) _ _ (by omega) ⟨_, _, _, i + 1, inc_i64 (by omega), ?_, ?_, by omega, rfl, rfl⟩
          all_goals
            first
              | (rw [s1, show decide (m ≤ zs[i]) = true from h, hu, wrap_i64 (by omega) (by omega)]; rfl)
              | (rw [s1, show decide (m ≤ zs[i]) = false from h, hu]; rfl)
              | (rw [s2, show decide (m < zs[i]) = true from h', hv, wrap_i64 (by omega) (by omega)]; rfl)
              | (rw [s2, show decide (m < zs[i]) = false from h', hv]; rfl)
    · refine bif_neg (by simpa using hi) ?_
      obtain rfl : i = zs.length := by omega
      rw [List.take_length] at hu hv
      conv => lhs; whnf
      refine fin _ _ _ nofun ?_
      conv => lhs; whnf
      refine most_spec (by omega) rfl (by omega) ?_
      conv => lhs; whnf
      refine bif_pos (by rw [hu]; simp; omega) ?_
      conv => lhs; whnf
      refine most_spec (by omega) rfl (by omega) ?_
      conv => lhs; whnf
      refine bif_pos (by rw [hv]; simp; omega) ?_
      conv => lhs; whnf

theorem voteMedian_law (σ : H) (vs : List AV) (h : ArgsShp Try.prog σ 9 [34] vs) : ∃ n, acall Try.prog tab (drawRegion Try.prog) n 9 vs σ isTrue = true := by
  obtain ⟨a, vs, rfl, ha, h⟩ := args_cons h
  obtain rfl := args_nil h
  obtain ⟨s, ys, rfl, a1, a2, a3⟩ := arg_ints Try.underlying34 Try.underlying2 rfl ha
  exact ⟨200, voteMedian_run (Nat.le_refl _) a1⟩
end Go.Proofs.Ytdiajgenbjdfiaa
