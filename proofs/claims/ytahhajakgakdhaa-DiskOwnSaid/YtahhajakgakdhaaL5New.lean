/- DiskNew. -/
import Derived.Test.YtahhajakgakdhaaL5Keep
import Derived.Test.YtahhajakgakdhaaAmStrKeys
namespace Go.Proofs.Ytahhajakgakdhaa
set_option maxRecDepth 100000
open Go Go.AM Go.AM.St
theorem texts_of : ∀ (G : List FG), textsOf (G.map entOf) = some (G.map fun g => ints g.name)
  | [] => rfl
  | g :: G => by
    show (textsOf (G.map entOf)).map (ints g.name :: ·) = _
    rw [texts_of G]; rfl
theorem nodup_of : ∀ {l : List Nat}, l.Pairwise (· ≠ ·) → nodupB l = true
  | [], _ => rfl
  | x :: l, h => by
    rw [List.pairwise_cons] at h
    show (!l.contains x && nodupB l) = true
    rw [nodup_of h.2, Bool.and_true]
    simp only [Bool.not_eq_true', List.contains_eq_mem, decide_eq_false_iff_not]
    exact fun hx => h.1 x hx rfl
theorem keys_go {B m clock ops : Nat} {G : List FG} {left : Int} {down : Bool} {σ : H} {D : Drawer} {n id : Nat} {md : Md} (hd : DiskAt σ B m clock G left down ops) (hr : σ[id]? = some (AO.cells [.map (some m)] 1 md)) (hmd : md ≠ .ro) (hlen : G.length ≤ 1000000) {z : Nat} {K : AV → H → Bool}
    (h : ∀ a σ', σ <+: σ' → K (.sl a G.length) σ' = true) : acall Try.prog tab D n 58 [.fn 75 [.ptr (some ⟨id, 0, 0, z⟩)]] σ K = true := by
  have e : acall Try.prog tab D n 58 [.fn 75 [.ptr (some ⟨id, 0, 0, z⟩)]] σ K = keysF 75 [.fn 75 [.ptr (some ⟨id, 0, 0, z⟩)]] σ K := by cases n <;> rfl
  rw [e]
  unfold keysF
  refine bif_pos rfl ?_
  refine rowK_of hr ?_
  refine bif_pos (by cases md <;> first | rfl | exact absurd rfl hmd) ?_
  rw [hd.mp]
  refine bif_pos ?_ ?_
  · simp only [Bool.and_eq_true, decide_eq_true_eq]
    refine ⟨List.all_eq_true.2 fun e he => ?_, nodup_of ?_, by rw [List.length_map]; exact hlen⟩
    · obtain ⟨g, hg, rfl⟩ := List.mem_map.1 he
      exact decide_eq_true (hd.old g hg)
    · rw [List.map_map, List.pairwise_map]
      exact hd.apart.imp fun h => h.2.2.2
  · rw [texts_of]
    cases G with
    | nil => exact h .nil σ List.prefix_rfl
    | cons g G =>
      have := h (.at σ.length 0 1) _ (List.prefix_append σ [AO.cells ((sortS ((g :: G).map fun g => ints g.name)).map AV.str) 1 .own])
      rw [show (g :: G).length = ((g :: G).map fun g => ints g.name).length by simp] at this
      exact this
attribute [local irreducible] IntKind.wrap Int.fdiv Int.tdiv Int.tmod BitVec.ofInt appendK sliceK indexAddrK ldK storeK seenK makeSliceK lookupK updateK deleteK mapK rangeK nextK keysF
variable {D : Drawer}
variable {B m clock ops : Nat} {G G1 G2 : List FG} {left : Int} {down : Bool} {σ : H}
theorem keys59_spec {n : Nat} (hn : 1 ≤ n) {K : AV → H → Bool} (h : K (.fn 75 [.ptr (some ⟨σ.length, 0, 0, 1⟩)]) (σ ++ [AO.cells [.map (some m)] 1 .own]) = true) : acall Try.prog tab D n 59 [.map (some m)] σ K = true := by
  obtain ⟨n, rfl, hn⟩ := up hn
  conv => lhs; whnf
  exact h
theorem files_spec {n : Nat} (hn : 2 ≤ n) (hd : DiskAt σ B m clock G left down ops) (hlen : G.length ≤ 1000000) {K : AV → H → Bool} (h0 : down = true → K (.sl .nil 0) σ = true)
    (h1 : down = false → ∀ a σ', σ <+: σ' → K (.sl a G.length) σ' = true) : acall Try.prog tab D n 31 [.ptr (some ⟨B, 0, 0, 4⟩)] σ K = true := by
  obtain ⟨n, rfl, hn⟩ := up hn
  conv => lhs; whnf
  refine down_spec (by omega) hd ?_
  cases down with
  | true =>
    conv => lhs; whnf
    exact h0 rfl
  | false =>
  conv => lhs; whnf
  refine ldF Try.underlying74 rfl rfl hd.row rfl ?_
  conv => lhs; whnf
  refine keys59_spec (by omega) ?_
  conv => lhs; whnf
  refine keys_go (hd.mono (List.prefix_append _ _)) (get_new _ _) (by decide) hlen fun a σ' hp => ?_
  have := h1 rfl a σ' ((List.prefix_append _ _).trans hp)
  conv => lhs; whnf
  exact this
theorem one_spec {n : Nat} {x : Bool} (hn : 1 ≤ n) {K : AV → H → Bool} (h : K (.int .i64 (if x then 1 else 0)) σ = true) : acall Try.prog tab D n 32 [.bool x] σ K = true := by
  obtain ⟨n, rfl, hn⟩ := up hn
  cases x
  · conv => lhs; whnf
    exact h
  · conv => lhs; whnf
    exact h
theorem diskNew_run {n : Nat} (hn : 40 ≤ n) (hD : ByPlan Try.prog D) {a : SA} {as' : List Nat} {keep : Int} {sync : Bool} (hk1 : -9223372036854775808 ≤ keep) (hk2 : keep ≤ 9223372036854775807) {σ : H} (ha : Rw σ 1 a as'.length (u8s as')) :
    acall Try.prog tab D n 5 [.sl a as'.length, .int .i64 keep, .bool sync] σ isTrue = true := by
  obtain ⟨n, rfl, hn⟩ := up hn
  conv => lhs; whnf
  refine begun_spec ?_
  conv => lhs; whnf
  refine short_spec (by omega) (m := 30) rfl (by decide) ha _ fun o1 a1 σ1 p1 r1 => ?_
  have sx : (as'.take 30).length ≤ 30 := by rw [List.length_take]; omega
  generalize as'.take 30 = xs at r1 sx ⊢
  have q1 := r1.rw
  conv => lhs; whnf
  refine new_spec (by omega) fun σ3 B m p3 d3 f3 => ?_
  have e1 : max ((-1 : Int) - 1) (-1) = -1 := by decide
  conv => lhs; whnf
  refine app_spec (name := [120]) (by omega) d3 (by decide) (by decide) (by decide) (q1.mono p3) (fun g hg => by simp at hg) (by omega) nofun (fun _ h => by cases h) (fun _ _ h => absurd h (by decide)) fun _ _ _ σ4 c4 G4 d4 v4 s4 => ?_
  rw [e1] at d4
  replace v4 : G4.map FG.v = [⟨[120], xs, 0, false⟩] := v4
  cases sync with
  | true =>
    conv => lhs; whnf
    refine sync_spec (name := [120]) (by omega) d4 (by decide) (by decide) (by decide) nofun (fun _ h => by rw [v4] at h; cases h) (fun _ _ _ h => absurd h (by decide)) fun _ _ _ _ σ5 G5 d5 v5 s5 => ?_
    rw [e1] at d5
    replace v5 : G5.map FG.v = [⟨[120], xs, xs.length, true⟩] := by rw [v5, v4]; rfl
    have g5 := all_v v5
    have n5 := len_v v5
    conv => lhs; whnf
    refine crash_spec (by omega) hD d5 (fun g hg => by
      have h1 : g.bytes = xs := congrArg FV.bytes (g5 g hg)
      have h2 : g.synced = xs.length := congrArg FV.synced (g5 g hg)
      rw [h1, h2]; omega) fun σ7 G7 d7 v7 s7 => ?_
    obtain ⟨k, hk⟩ : ∃ k, mCrash keep ⟨[120], xs, xs.length, true⟩ = some ⟨[120], xs.take k, k, true⟩ := ⟨kept keep xs.length xs.length, by
      unfold mCrash
      exact if_neg (by simp)⟩
    replace v7 : G7.map FG.v = [⟨[120], xs.take k, k, true⟩] := by
      rw [v7, v5, List.filterMap_cons, hk]; rfl
    have g7 := all_v v7
    have n7 := len_v v7
    conv => lhs; whnf
    refine read_spec (name := [120]) (by omega) d7 (fun g hg => by
      have h1 : g.bytes = xs.take k := congrArg FV.bytes (g7 g hg)
      rw [h1, List.length_take]; omega) nofun (fun _ h => by rw [v7] at h; cases h) fun _ x hx' o8 a8 σ8 p8 _ r8 => ?_
    conv => lhs; whnf
    refine files_spec (by omega) (d7.mono p8) (by omega) nofun fun _ a9 σ9 p9 => ?_
    conv => lhs; whnf
    refine one_spec (by omega) ?_
    rw [n7]
    conv => lhs; whnf
  | false =>
    have g4 := all_v v4
    have n4 := len_v v4
    conv => lhs; whnf
    refine crash_spec (by omega) hD d4 (fun g hg => by
      have h1 : g.bytes = xs := congrArg FV.bytes (g4 g hg)
      have h2 : g.synced = 0 := congrArg FV.synced (g4 g hg)
      rw [h1, h2]; omega) fun σ7 G7 d7 v7 s7 => ?_
    have hkept : kept keep xs.length 0 = min keep.toNat xs.length := by unfold kept; omega
    by_cases hz : 0 < xs.length ∧ 0 < keep
    · obtain ⟨k, hk⟩ : ∃ k, mCrash keep ⟨[120], xs, 0, false⟩ = some ⟨[120], xs.take k, k, true⟩ := ⟨kept keep xs.length 0, by
        unfold mCrash
        exact if_neg (by
          show ¬ (kept keep xs.length 0 = 0 ∧ _)
          rw [hkept]; omega)⟩
      replace v7 : G7.map FG.v = [⟨[120], xs.take k, k, true⟩] := by
        rw [v7, v4, List.filterMap_cons, hk]; rfl
      have g7 := all_v v7
      have n7 := len_v v7
      conv => lhs; whnf
      refine read_spec (name := [120]) (by omega) d7 (fun g hg => by
        have h1 : g.bytes = xs.take k := congrArg FV.bytes (g7 g hg)
        rw [h1, List.length_take]; omega) nofun (fun _ h => by rw [v7] at h; cases h) fun _ x hx' o8 a8 σ8 p8 _ r8 => ?_
      conv => lhs; whnf
      rw [show decide ((0 : Int) < (xs.length : Int)) = true from decide_eq_true (by omega)]
      conv => lhs; whnf
      rw [show decide ((0 : Int) < keep) = true from decide_eq_true hz.2]
      conv => lhs; whnf
      refine files_spec (by omega) (d7.mono p8) (by omega) nofun fun _ a9 σ9 p9 => ?_
      conv => lhs; whnf
      refine one_spec (by omega) ?_
      rw [n7]
      conv => lhs; whnf
    · have hk : mCrash keep ⟨[120], xs, 0, false⟩ = none := by
        unfold mCrash
        exact if_pos ⟨by
          show kept keep xs.length 0 = 0
          rw [hkept]; omega, rfl⟩
      replace v7 : G7.map FG.v = [] := by
        rw [v7, v4, List.filterMap_cons, hk]; rfl
      have n7 : G7 = [] := List.map_eq_nil_iff.1 v7
      subst n7
      conv => lhs; whnf
      refine read_spec (name := [120]) (by omega) d7 (fun g hg => by simp at hg) nofun (fun _ _ => ?_) fun _ x hx' => by cases hx'
      conv => lhs; whnf
      by_cases hx : 0 < xs.length
      · rw [show decide ((0 : Int) < (xs.length : Int)) = true from decide_eq_true (by omega)]
        conv => lhs; whnf
        rw [show decide ((0 : Int) < keep) = false from decide_eq_false fun h => hz ⟨hx, h⟩]
        conv => lhs; whnf
        refine files_spec (by omega) d7 (by simp) nofun fun _ a9 σ9 p9 => ?_
        conv => lhs; whnf
        refine one_spec (by omega) ?_
        conv => lhs; whnf
      · rw [show decide ((0 : Int) < (xs.length : Int)) = false from decide_eq_false (by omega)]
        conv => lhs; whnf
        refine files_spec (by omega) d7 (by simp) nofun fun _ a9 σ9 p9 => ?_
        conv => lhs; whnf
        refine one_spec (by omega) ?_
        conv => lhs; whnf
theorem diskNew_law (σ : H) (vs : List AV) (h : ArgsShp Try.prog σ 9 [22, 3, 4] vs) : ∃ n, acall Try.prog tab (drawRegion Try.prog) n 5 vs σ isTrue = true := by
  obtain ⟨a, vs, rfl, ha, h⟩ := args_cons h
  obtain ⟨b, vs, rfl, hb, h⟩ := args_cons h
  obtain ⟨c, vs, rfl, hc, h⟩ := args_cons h
  obtain rfl := args_nil h
  obtain ⟨s, bs, rfl, a1, a2, a3⟩ := arg_bytes Try.underlying22 Try.underlying5 rfl ha
  obtain ⟨q, rfl, e1, e2⟩ := arg_int Try.underlying3 hb
  obtain ⟨x, rfl⟩ := arg_bool Try.underlying4 hc
  exact ⟨40, diskNew_run (Nat.le_refl _) (byPlan _) e1 e2 a1⟩
end Go.Proofs.Ytahhajakgakdhaa
