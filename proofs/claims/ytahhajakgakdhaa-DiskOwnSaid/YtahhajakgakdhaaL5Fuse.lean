/- DiskFuse. -/
import Derived.Test.YtahhajakgakdhaaL5MoveL
namespace Go.Proofs.Ytahhajakgakdhaa
set_option maxRecDepth 100000
open Go Go.AM Go.AM.St
theorem norm_mod (x : Int) (c : Nat) (h0 : 0 < c) (h1 : c < 1000) : ∃ N : Nat, N < c ∧ (IntKind.wrap .i64 (x.tmod (c : Int) + (c : Int))).tmod (c : Int) = (N : Int) := by
  have a1 := Int.tmod_lt_of_pos x (show (0 : Int) < (c : Int) by omega)
  have a2 := Int.lt_tmod_of_pos x (show (0 : Int) < (c : Int) by omega)
  rw [wrap_i64 (by omega) (by omega)]
  refine ⟨((x.tmod (c : Int) + (c : Int)).tmod (c : Int)).toNat, ?_, ?_⟩
  · have := Int.tmod_lt_of_pos (x.tmod (c : Int) + (c : Int)) (show (0 : Int) < (c : Int) by omega)
    omega
  · have := Int.tmod_nonneg (c : Int) (show 0 ≤ x.tmod (c : Int) + (c : Int) by omega)
    omega
def fV (k : Nat) : List FV := if k = 0 then [] else [⟨[120], List.range k, 0, false⟩]
theorem fV_app (k : Nat) : mApp [120] [k] (fV k) = fV (k + 1) := by
  unfold fV
  rw [if_neg (show ¬ k + 1 = 0 by omega), List.range_succ]
  by_cases h : k = 0
  · subst h; rfl
  · rw [if_neg h]; rfl
theorem fV_len (k : Nat) : ∀ x ∈ fV k, x.bytes.length ≤ k := fun x hx => by
  unfold fV at hx
  split at hx
  · simp at hx
  · rw [List.mem_singleton] at hx; subst hx; simp
theorem fV_one (k : Nat) : (fV k).length ≤ 1 := by unfold fV; split <;> simp
theorem fV_syn (k : Nat) : ∀ x ∈ fV k, x.synced = 0 := fun x hx => by
  unfold fV at hx
  split at hx
  · simp at hx
  · rw [List.mem_singleton] at hx; subst hx; rfl
theorem fV_crash {k : Nat} (hk : k ≤ 100) : (fV k).filterMap (mCrash 100) = if k = 0 then [] else [⟨[120], List.range k, k, true⟩] := by
  unfold fV
  split
  · rfl
  · rw [List.filterMap_cons]
    have e : kept 100 k 0 = k := by unfold kept; omega
    have : mCrash 100 ⟨[120], List.range k, 0, false⟩ = some ⟨[120], List.range k, k, true⟩ := by
      unfold mCrash
      simp only [List.length_range, e]
      rw [if_neg (by omega), List.take_of_length_le (by simp)]
    rw [this]; rfl
attribute [local irreducible] IntKind.wrap Int.fdiv Int.tdiv Int.tmod BitVec.ofInt appendK sliceK indexAddrK ldK storeK seenK makeSliceK lookupK updateK deleteK mapK rangeK nextK keysF
variable {D : Drawer}
theorem diskFuse_run {n : Nat} (hn : 80 ≤ n) (hD : ByPlan Try.prog D) {x y : Int} {σ : H} : acall Try.prog tab D n 9 [.int .i64 x, .int .i64 y] σ isTrue = true := by
  obtain ⟨n, rfl, hn⟩ := up hn
  obtain ⟨N, hN, eN⟩ := norm_mod x 20 (by decide) (by decide)
  obtain ⟨M, hM, eM⟩ := norm_mod y 30 (by decide) (by decide)
  conv => lhs; whnf
  refine begun_spec ?_
  conv => lhs; whnf
  refine new_spec (by omega) fun σ3 B m p3 d3 f3 => ?_
  conv => lhs; whnf
  refine fuse_spec (by omega) d3 nofun fun _ σ4 d4 s4 => ?_
  replace d4 : DiskAt σ4 B m 0 [] (N : Int) false 0 := by
    have e : max (N : Int) (-1) = (N : Int) := by omega
    have h := d4
    rw [show (IntKind.wrap .i64 (x.tmod 20 + 20)).tmod 20 = (N : Int) from eN, e] at h
    exact h
  conv => lhs; whnf
  refine loop_rule (m := 195) (fun q fr τ => ∃ (z zn zm : Int) (i clock : Nat) (G : List FG), z = (i : Int) ∧ zn = (N : Int) ∧ zm = (M : Int) ∧ i + q = M ∧
    fr = [.int .i64 zn, .int .i64 zm, .bad, .bad, .bad, .bad, .ptr (some ⟨B, 0, 0, 4⟩), .int .i64 z, .bad, .bad, .bad, .bad, .bad, .bad, .bad, .bad, .bad, .bad, .bad, .bad, .bad, .bad, .bad, .bad, .bad, .bad, .bad, .bad, .bad, .bad, .bad, .bad, .bad, .bad, .bad, .bad, .bad, .bad, .bad, .bad, .bad, .bad, .bad, .bad, .bad, .bad, .bad, .bad, .bad, .bad, .bad, .bad, .bad, .bad, .bad, .bad, .bad, .bad, .bad, .bad, .bad, .bad, .bad, .bad, .bad, .bad, .bad, .bad, .bad, .bad, .bad, .bad, .bad, .bad, .bad, .bad, .bad, .bad, .bad, .bad, .bad, .bad, .bad, .bad] ∧ DiskAt τ B m clock G ((N - min i N : Nat) : Int) (decide (N < i)) (min i N) ∧ G.map FG.v = fV (min i N)) ?_ _ M _ _ (by omega)
    ⟨_, _, _, 0, 0, [], rfl, eN, eM, by omega, rfl, by
      rw [show min 0 N = 0 by omega]
      exact d4, by rw [show min 0 N = 0 by omega]; rfl⟩
  rintro q fr τ C ⟨z, zn, zm, i, clock, G, rfl, rfl, rfl, hi, rfl, d5, v5⟩ next fin
  conv => lhs; whnf
  by_cases hlt : i < M
  · rw [show decide ((i : Int) < (M : Int)) = true from decide_eq_true (by omega)]
    conv => lhs; whnf
    by_cases hge : N ≤ i
    · rw [show decide ((i : Int) ≥ (N : Int)) = true from decide_eq_true (by omega)]
      conv => lhs; whnf
      have d6 := d5.mono (List.prefix_append τ [AO.cells [.int .u8 (IntKind.wrap .u8 (i : Int))] 1 .own])
      have b6 : Rw (τ ++ [AO.cells [.int .u8 (IntKind.wrap .u8 (i : Int))] 1 .own]) 1 (.at τ.length 0 1) 1 (u8s [i]) := by
        rw [wrap_u8 (show i < 256 by omega)]
        exact Rw.new _ _ rfl
      have e5 : min i N = N := by omega
      rw [e5] at d6 v5
      by_cases hN2 : N < i
      · rw [decide_eq_true hN2] at d6
        refine app_spec (name := [120]) (by omega) d6 (by omega) (by omega) (by omega) b6 (fun g hg => by
          have := bytes_le v5 (fV_len _) g hg
          show _ + 1 ≤ _
          omega) (by show 1 ≤ _; omega) (fun _ => ?_) nofun nofun nofun
        conv => lhs; whnf
        refine next (q - 1) _ _ (by omega) ⟨_, _, _, i + 1, clock, G, inc_i64 (by omega), rfl, rfl, by omega, rfl, ?_, ?_⟩
        · rw [show min (i + 1) N = N by omega, decide_eq_true (show N < i + 1 by omega)]
          exact d6
        · rw [show min (i + 1) N = N by omega]
          exact v5
      · rw [decide_eq_false hN2] at d6
        refine app_spec (name := [120]) (by omega) d6 (by omega) (by omega) (by omega) b6 (fun g hg => by
          have := bytes_le v5 (fV_len _) g hg
          show _ + 1 ≤ _
          omega) (by show 1 ≤ _; omega) nofun (fun _ h => by cases h) (fun _ _ _ σ7 d7 s7 => ?_) fun _ _ h => absurd h (by omega)
        conv => lhs; whnf
        refine next (q - 1) _ _ (by omega) ⟨_, _, _, i + 1, clock, G, inc_i64 (by omega), rfl, rfl, by omega, rfl, ?_, ?_⟩
        · rw [show min (i + 1) N = N by omega, decide_eq_true (show N < i + 1 by omega)]
          exact d7
        · rw [show min (i + 1) N = N by omega]
          exact v5
    · rw [show decide ((i : Int) ≥ (N : Int)) = false from decide_eq_false (by omega)]
      conv => lhs; whnf
      have d6 := d5.mono (List.prefix_append τ [AO.cells [.int .u8 (IntKind.wrap .u8 (i : Int))] 1 .own])
      have b6 : Rw (τ ++ [AO.cells [.int .u8 (IntKind.wrap .u8 (i : Int))] 1 .own]) 1 (.at τ.length 0 1) 1 (u8s [i]) := by
        rw [wrap_u8 (show i < 256 by omega)]
        exact Rw.new _ _ rfl
      have e5 : min i N = i := by omega
      rw [e5, decide_eq_false (show ¬ N < i by omega)] at d6
      rw [e5] at v5
      refine app_spec (name := [120]) (by omega) d6 (by omega) (by omega) (by omega) b6 (fun g hg => by
        have := bytes_le v5 (fV_len _) g hg
        show _ + 1 ≤ _
        omega) (by show 1 ≤ _; omega) nofun (fun _ h => by cases h) (fun _ _ h => by omega) fun _ _ _ σ7 c7 G7 d7 v7 s7 => ?_
      conv => lhs; whnf
      refine next (q - 1) _ _ (by omega) ⟨_, _, _, i + 1, c7, G7, inc_i64 (by omega), rfl, rfl, by omega, rfl, ?_, ?_⟩
      · rw [show min (i + 1) N = i + 1 by omega, decide_eq_false (show ¬ N < i + 1 by omega)]
        rw [show max (((N - i : Nat) : Int) - 1) (-1) = ((N - (i + 1) : Nat) : Int) by omega] at d7
        exact d7
      · rw [show min (i + 1) N = i + 1 by omega, v7, v5, fV_app]
  · rw [show decide ((i : Int) < (M : Int)) = false from decide_eq_false (by omega)]
    conv => lhs; whnf
    refine fin _ _ _ nofun ?_
    obtain rfl : i = M := by omega
    have hk : min i N ≤ 20 := by omega
    have km : (bif true then (if (i : Int) < (N : Int) then (i : Int) else (N : Int)) else (if (N : Int) < (i : Int) then (i : Int) else (N : Int))) = ((min i N : Nat) : Int) := by
      simp only [cond_true]
      split <;> omega
    have kg : decide ((i : Int) > (N : Int)) = decide (N < i) := by
      rw [Bool.eq_iff_iff, decide_eq_true_eq, decide_eq_true_eq]; omega
    generalize hkk : min i N = k at d5 v5 hk km
    conv => lhs; whnf
    rw [kg]
    cases hdn : decide (N < i) with
    | true =>
      rw [hdn] at d5
      conv => lhs; whnf
      refine down_spec (by omega) d5 ?_
      conv => lhs; whnf
      refine ops_spec (by omega) d5 ?_
      conv => lhs; whnf
      rw [km, show (!((k : Int) == (k : Int))) = false by simp]
      conv => lhs; whnf
      refine crash_spec (by have := congrArg List.length v5; rw [List.length_map] at this; have := fV_one k; omega) hD d5 (synced_le v5 (k := 1000000000) fun x hx => by have h1 := fV_len k x hx; have h2 := fV_syn k x hx; omega) fun σ6 G6 d6 v6 s6 => ?_
      rw [v5, fV_crash (by omega)] at v6
      by_cases hz : k = 0
      · subst hz
        replace v6 : G6.map FG.v = [] := v6
        obtain rfl : G6 = [] := List.map_eq_nil_iff.1 v6
        conv => lhs; whnf
        refine read_spec (name := [120]) (by omega) d6 (fun g hg => by simp at hg) nofun (fun _ _ => ?_) fun _ x hx => by cases hx
        conv => lhs; whnf
        refine down_spec (by omega) d6 ?_
        conv => lhs; whnf
        rw [km]
        conv => lhs; whnf
        rw [km]
        conv => lhs; whnf
      · rw [if_neg hz] at v6
        conv => lhs; whnf
        refine read_spec (name := [120]) (by omega) d6 (bytes_le v6 fun x hx => by rw [List.mem_singleton] at hx; subst hx; show (List.range k).length ≤ _; rw [List.length_range]; omega) nofun (fun _ h => by rw [v6] at h; cases h) fun _ x hx o7 a7 σ7 p7 _ r7 => ?_
        obtain rfl : x = ⟨[120], List.range k, k, true⟩ := by rw [v6] at hx; exact (Option.some.inj hx).symm
        conv => lhs; whnf
        refine down_spec (by omega) (d6.mono p7) ?_
        conv => lhs; whnf
        rw [km, show decide ((k : Int) > 0) = true from decide_eq_true (by omega)]
        conv => lhs; whnf
        rw [km, show (((List.range k).length : Nat) : Int) = (k : Int) by rw [List.length_range], show ((k : Int) == (k : Int)) = true by simp]
        conv => lhs; whnf
    | false =>
      rw [hdn] at d5
      conv => lhs; whnf
      refine down_spec (by omega) d5 ?_
      conv => lhs; whnf
      refine ops_spec (by omega) d5 ?_
      conv => lhs; whnf
      rw [km, show (!((k : Int) == (k : Int))) = false by simp]
      conv => lhs; whnf
      refine crash_spec (by have := congrArg List.length v5; rw [List.length_map] at this; have := fV_one k; omega) hD d5 (synced_le v5 (k := 1000000000) fun x hx => by have h1 := fV_len k x hx; have h2 := fV_syn k x hx; omega) fun σ6 G6 d6 v6 s6 => ?_
      rw [v5, fV_crash (by omega)] at v6
      by_cases hz : k = 0
      · subst hz
        replace v6 : G6.map FG.v = [] := v6
        obtain rfl : G6 = [] := List.map_eq_nil_iff.1 v6
        conv => lhs; whnf
        refine read_spec (name := [120]) (by omega) d6 (fun g hg => by simp at hg) nofun (fun _ _ => ?_) fun _ x hx => by cases hx
        conv => lhs; whnf
        refine down_spec (by omega) d6 ?_
        conv => lhs; whnf
        rw [km]
        conv => lhs; whnf
        rw [km]
        conv => lhs; whnf
      · rw [if_neg hz] at v6
        conv => lhs; whnf
        refine read_spec (name := [120]) (by omega) d6 (bytes_le v6 fun x hx => by rw [List.mem_singleton] at hx; subst hx; show (List.range k).length ≤ _; rw [List.length_range]; omega) nofun (fun _ h => by rw [v6] at h; cases h) fun _ x hx o7 a7 σ7 p7 _ r7 => ?_
        obtain rfl : x = ⟨[120], List.range k, k, true⟩ := by rw [v6] at hx; exact (Option.some.inj hx).symm
        conv => lhs; whnf
        refine down_spec (by omega) (d6.mono p7) ?_
        conv => lhs; whnf
        rw [km, show decide ((k : Int) > 0) = true from decide_eq_true (by omega)]
        conv => lhs; whnf
        rw [km, show (((List.range k).length : Nat) : Int) = (k : Int) by rw [List.length_range], show ((k : Int) == (k : Int)) = true by simp]
        conv => lhs; whnf
theorem diskFuse_law (σ : H) (vs : List AV) (h : ArgsShp Try.prog σ 9 [3, 3] vs) : ∃ n, acall Try.prog tab (drawRegion Try.prog) n 9 vs σ isTrue = true := by
  obtain ⟨a, vs, rfl, ha, h⟩ := args_cons h
  obtain ⟨b, vs, rfl, hb, h⟩ := args_cons h
  obtain rfl := args_nil h
  obtain ⟨x, rfl, _, _⟩ := arg_int Try.underlying3 ha
  obtain ⟨y, rfl, _, _⟩ := arg_int Try.underlying3 hb
  exact ⟨80, diskFuse_run (Nat.le_refl _) (byPlan _)⟩
end Go.Proofs.Ytahhajakgakdhaa
