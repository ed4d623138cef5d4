/- DiskKeep. DiskNew. Package disk: Fuse, Ops. Package disk: Move. DiskMove. DiskFuse. DiskOwn. Package disk as a machine of plain states. -/
import Derived.Test.YtahhajakgakdhaaGmDisk
import Derived.Test.YtahhajakgakdhaaGmWord
import Derived.Test.YtahhajakgakdhaaAmStrKeys
namespace Go.Proofs.Ytahhajakgakdhaa
set_option maxRecDepth 100000
open Go Go.AM Go.AM.St
attribute [local irreducible] IntKind.wrap Int.fdiv Int.tdiv Int.tmod BitVec.ofInt appendK sliceK indexAddrK ldK storeK seenK makeSliceK lookupK updateK deleteK mapK rangeK nextK
variable {D : Drawer}
theorem Step.base {B m L : Nat} {G G' : List FG} {σ σ' : H} (S : Step B m G G' σ σ') (hL : L ≤ σ.length) (hf : ∀ id, Fp B m G id → L ≤ id) : (∀ id, id < L → σ'[id]? = σ[id]?) ∧ (∀ id, Fp B m G' id → L ≤ id) ∧ L ≤ σ'.length :=
  ⟨fun id h => S.keep id (by omega) fun h' => by have := hf id h'; omega, fun id h => (S.fp id h).elim (hf id) fun h => by omega, Nat.le_trans hL S.len⟩
theorem rw_base {z n : Nat} {a : SA} {cs : List AV} {σ σ' : H} (h : Rw σ z a n cs) (hk : ∀ i, i < σ.length → σ'[i]? = σ[i]?) : Rw σ' z a n cs := by
  rcases h with h | h | ⟨i, off, xs', md', h1, h2, h3⟩
  · exact .inl h
  · exact .inr (.inl h)
  · exact .inr (.inr ⟨i, off, xs', md', h1, (hk i (get_lt h2)).trans h2, h3⟩)
theorem all_v {G : List FG} {x : FV} (h : G.map FG.v = [x]) : ∀ g ∈ G, g.v = x := fun g hg => by
  have := List.mem_map_of_mem (f := FG.v) hg
  rw [h] at this
  simpa using this
theorem len_v {G : List FG} {x : FV} (h : G.map FG.v = [x]) : G.length = 1 := by
  have := congrArg List.length h
  simpa using this

theorem slB2 {σ : H} {a : SA} {n k : Nat} {bs : List Nat} {y : Int} (hy : y = (k : Int)) (hv : Rw σ 1 a n (u8s bs)) (hk : k ≤ bs.length) {K : AV → Bool} (hK : ∀ a', Rw σ 1 a' k (u8s (bs.take k)) → K (.sl a' k) = true) :
    sliceK Try.prog 22 (.sl a n) none (some (.int .i64 y)) none K = true := by
  subst hy
  exact slB hv hk hK
theorem diskKeep_run {n : Nat} (hn : 40 ≤ n) (hD : ByPlan Try.prog D) {a b : SA} {as' bs : List Nat} {keep : Int} (hk1 : -9223372036854775808 ≤ keep) (hk2 : keep ≤ 9223372036854775807) {σ : H} (ha : Rw σ 1 a as'.length (u8s as')) (hb : Rw σ 1 b bs.length (u8s bs))
    (la : ∀ b ∈ as', b < 256) (lb : ∀ b ∈ bs, b < 256) : acall Try.prog tab D n 3 [.sl a as'.length, .sl b bs.length, .int .i64 keep] σ isTrue = true := by
  obtain ⟨n, rfl, hn⟩ := up hn
  conv => lhs; whnf
  refine begun_spec ?_
  conv => lhs; whnf
  refine short_spec (by omega) (m := 60) rfl (by decide) ha _ fun o1 a1 σ1 p1 r1 => ?_
  conv => lhs; whnf
  refine short_spec (by omega) (m := 60) rfl (by decide) (hb.mono p1) _ fun o2 b1 σ2 p2 r2 => ?_
  have lx : ∀ b ∈ as'.take 60, b < 256 := fun b h => la b (List.mem_of_mem_take h)
  have ly : ∀ b ∈ bs.take 60, b < 256 := fun b h => lb b (List.mem_of_mem_take h)
  have sx : (as'.take 60).length ≤ 60 := by rw [List.length_take]; omega
  have sy : (bs.take 60).length ≤ 60 := by rw [List.length_take]; omega
  generalize as'.take 60 = xs at r1 lx sx ⊢
  generalize bs.take 60 = ys at r2 ly sy ⊢
  have q1 := r1.rw.mono p2
  have q2 := r2.rw
  conv => lhs; whnf
  refine new_spec (by omega) fun σ3 B m p3 d3 f3 => ?_
  have e1 : max ((-1 : Int) - 1) (-1) = -1 := by decide
  conv => lhs; whnf
  refine app_spec (name := [120]) (by omega) d3 (by decide) (by decide) (by decide) (q1.mono p3) (fun g hg => by simp at hg) (by omega) nofun (fun _ h => by cases h) (fun _ _ h => absurd h (by decide)) fun _ _ _ σ4 c4 G4 d4 v4 s4 => ?_
  rw [e1] at d4
  replace v4 : G4.map FG.v = [⟨[120], xs, 0, false⟩] := v4
  conv => lhs; whnf
  refine sync_spec (name := [120]) (by omega) d4 (by decide) (by decide) (by decide) nofun (fun _ h => by rw [v4] at h; cases h) (fun _ _ _ h => absurd h (by decide)) fun _ _ _ _ σ5 G5 d5 v5 s5 => ?_
  rw [e1] at d5
  replace v5 : G5.map FG.v = [⟨[120], xs, xs.length, true⟩] := by rw [v5, v4]; rfl
  have B5 := (s4.trans s5).base (prefix_len p3) f3
  have q5 : Rw σ5 1 b1 ys.length (u8s ys) := rw_base q2 fun i hi => by rw [B5.1 i hi, prefix_get p3 (List.getElem?_eq_getElem hi), List.getElem?_eq_getElem hi]
  conv => lhs; whnf
  refine app_spec (name := [120]) (by omega) d5 (by decide) (by decide) (by decide) q5 (fun g hg => by
    have := congrArg FV.bytes (all_v v5 g hg)
    have e : g.bytes = xs := this
    rw [e]; omega) (by omega) nofun (fun _ h => by cases h) (fun _ _ h => absurd h (by decide)) fun _ _ _ σ6 c6 G6 d6 v6 s6 => ?_
  replace v6 : G6.map FG.v = [⟨[120], xs ++ ys, xs.length, true⟩] := by rw [v6, v5]; rfl
  have g6 := all_v v6
  have n6 := len_v v6
  conv => lhs; whnf
  refine crash_spec (by omega) hD d6 (fun g hg => by
    have h1 : g.bytes = xs ++ ys := congrArg FV.bytes (g6 g hg)
    have h2 : g.synced = xs.length := congrArg FV.synced (g6 g hg)
    rw [h1, h2, List.length_append]; omega) fun σ7 G7 d7 v7 s7 => ?_
  have hkept : kept keep (xs ++ ys).length xs.length = xs.length + min keep.toNat ys.length := by unfold kept; rw [List.length_append]; omega
  replace v7 : G7.map FG.v = [⟨[120], (xs ++ ys).take (xs.length + min keep.toNat ys.length), xs.length + min keep.toNat ys.length, true⟩] := by
    rw [v7, v6]
    show List.filterMap (mCrash keep) [⟨[120], xs ++ ys, xs.length, true⟩] = _
    rw [List.filterMap_cons]
    have : mCrash keep ⟨[120], xs ++ ys, xs.length, true⟩ = some ⟨[120], (xs ++ ys).take (xs.length + min keep.toNat ys.length), xs.length + min keep.toNat ys.length, true⟩ := by
      unfold mCrash
      show (if kept keep (xs ++ ys).length xs.length = 0 ∧ true = false then none else some (⟨[120], (xs ++ ys).take (kept keep (xs ++ ys).length xs.length), kept keep (xs ++ ys).length xs.length, true⟩ : FV)) = _
      rw [if_neg (by simp), hkept]
    rw [this]; rfl
  have hx : IntKind.wrap .i64 ((xs.length : Int) + (bif false then (if (if (ys.length : Int) < keep then (ys.length : Int) else keep) < (0 : Int) then (if (ys.length : Int) < keep then (ys.length : Int) else keep) else (0 : Int)) else (if (0 : Int) < (if (ys.length : Int) < keep then (ys.length : Int) else keep) then (if (ys.length : Int) < keep then (ys.length : Int) else keep) else (0 : Int)))) = ((xs.length + min keep.toNat ys.length : Nat) : Int) := by
    simp only [cond_false]
    rw [wrap_i64]
    all_goals split <;> split <;> omega
  generalize hK : xs.length + min keep.toNat ys.length = k at v7 hx
  have hkl : k ≤ (xs ++ ys).length := by rw [List.length_append]; omega
  have g7 := all_v v7
  conv => lhs; whnf
  refine read_spec (name := [120]) (by omega) d7 (fun g hg => by
    have h1 : g.bytes = (xs ++ ys).take k := congrArg FV.bytes (g7 g hg)
    rw [h1, List.length_take, List.length_append]; omega) nofun (fun _ h => by rw [v7] at h; cases h) fun _ x hx' o8 a8 σ8 p8 _ r8 => ?_
  obtain rfl : x = ⟨[120], (xs ++ ys).take k, k, true⟩ := by rw [v7] at hx'; exact (Option.some.inj hx').symm
  have B7 := ((s4.trans s5).trans (s6.trans s7)).base (prefix_len p3) f3
  have b8 : ∀ i, i < σ2.length → σ8[i]? = σ2[i]? := fun i hi => by
    have := B7.2.2
    rw [prefix_get p8 (List.getElem?_eq_getElem (by omega)), ← List.getElem?_eq_getElem (by omega), B7.1 i hi, prefix_get p3 (List.getElem?_eq_getElem hi), List.getElem?_eq_getElem hi]
  have t1 : Rw σ8 1 a1 xs.length (u8s xs) := rw_base q1 b8
  have t2 : Rw σ8 1 b1 ys.length (u8s ys) := rw_base q2 b8
  conv => lhs; whnf
  refine goK hD plan3x11 ord3x11 fun KK hKK => ?_
  have lz : ∀ b ∈ xs ++ ys, b < 256 := fun b h => (List.mem_append.1 h).elim (lx b) (ly b)
  have lk : ∀ b ∈ (xs ++ ys).take k, b < 256 := fun b h => lz b (List.mem_of_mem_take h)
  conv => lhs; whnf
  refine strK_rw r8.rw lk ?_
  conv => lhs; whnf
  refine bt.app (List.prefix_refl _) (xs := []) (Own.nil _ _ _) t1 _ rfl (by rw [List.nil_append]; omega) fun o9 a9 σ9 p9 _ _ _ r9 => ?_
  conv => lhs; whnf
  refine and_true (all_cons ?_ rfl) ?_
  · conv => lhs; whnf
    refine strK_rw (r8.rw.mono p9) lk ?_
    exact same_str _
  conv => lhs; whnf
  refine bt.app p9 r9 (t2.mono p9) (xs ++ ys) rfl (by rw [List.length_append]; omega) fun o10 a10 σ10 p10 _ _ _ r10 => ?_
  conv => lhs; whnf
  refine and_true (all_cons ?_ rfl) ?_
  · conv => lhs; whnf
    refine strK_rw (r8.rw.mono p10) lk ?_
    exact same_str _
  conv => lhs; whnf
  refine slB2 hx r10.rw hkl fun a11 r11 => ?_
  conv => lhs; whnf
  refine strK_rw r11 lk ?_
  conv => lhs; whnf
  simp only [beq_self_eq_true]
  conv => lhs; whnf
  subst hKK
  conv => lhs; whnf
theorem diskKeep_law (σ : H) (vs : List AV) (h : ArgsShp Try.prog σ 9 [22, 22, 3] vs) : ∃ n, acall Try.prog tab (drawRegion Try.prog) n 3 vs σ isTrue = true := by
  obtain ⟨a, vs, rfl, ha, h⟩ := args_cons h
  obtain ⟨b, vs, rfl, hb, h⟩ := args_cons h
  obtain ⟨c, vs, rfl, hc, h⟩ := args_cons h
  obtain rfl := args_nil h
  obtain ⟨s, bs, rfl, a1, a2, a3⟩ := arg_bytes Try.underlying22 Try.underlying5 rfl ha
  obtain ⟨t, cs, rfl, b1, b2, b3⟩ := arg_bytes Try.underlying22 Try.underlying5 rfl hb
  obtain ⟨q, rfl, e1, e2⟩ := arg_int Try.underlying3 hc
  exact ⟨40, diskKeep_run (Nat.le_refl _) (byPlan _) e1 e2 a1 b1 a3 b3⟩
end Go.Proofs.Ytahhajakgakdhaa
namespace Go.Proofs.Ytahhajakgakdhaa
set_option maxRecDepth 100000
open Go Go.AM Go.AM.St
theorem texts_of : ∀ (G : List FG), textsOf (G.map entOf) = some (G.map fun g => ints g.name)
  | [] => rfl
  | g :: G => by
    show (textsOf (G.map entOf)).map (ints g.name :: ·) = _
    rw [texts_of G]; rfl
theorem nodup_of : ∀ {l : List Nat}, l.Pairwise (· ≠ ·) → nodupB l = true
  | [], _ => rfl
  | x :: l, h => by
    rw [List.pairwise_cons] at h
    show (!l.contains x && nodupB l) = true
    rw [nodup_of h.2, Bool.and_true]
    simp only [Bool.not_eq_true', List.contains_eq_mem, decide_eq_false_iff_not]
    exact fun hx => h.1 x hx rfl
theorem keys_go {B m clock ops : Nat} {G : List FG} {left : Int} {down : Bool} {σ : H} {D : Drawer} {n id : Nat} {md : Md} (hd : DiskAt σ B m clock G left down ops) (hr : σ[id]? = some (AO.cells [.map (some m)] 1 md)) (hmd : md ≠ .ro) (hlen : G.length ≤ 1000000) {z : Nat} {K : AV → H → Bool}
    (h : ∀ a σ', σ <+: σ' → K (.sl a G.length) σ' = true) : acall Try.prog tab D n 58 [.fn 75 [.ptr (some ⟨id, 0, 0, z⟩)]] σ K = true := by
  have e : acall Try.prog tab D n 58 [.fn 75 [.ptr (some ⟨id, 0, 0, z⟩)]] σ K = keysF 75 [.fn 75 [.ptr (some ⟨id, 0, 0, z⟩)]] σ K := by cases n <;> rfl
  rw [e]
  unfold keysF
  refine bif_pos rfl ?_
  refine rowK_of hr ?_
  refine bif_pos (by cases md <;> first | rfl | exact absurd rfl hmd) ?_
  rw [hd.mp]
  refine bif_pos ?_ ?_
  · simp only [Bool.and_eq_true, decide_eq_true_eq]
    refine ⟨List.all_eq_true.2 fun e he => ?_, nodup_of ?_, by rw [List.length_map]; exact hlen⟩
    · obtain ⟨g, hg, rfl⟩ := List.mem_map.1 he
      exact decide_eq_true (hd.old g hg)
    · rw [List.map_map, List.pairwise_map]
      exact hd.apart.imp fun h => h.2.2.2
  · rw [texts_of]
    cases G with
    | nil => exact h .nil σ List.prefix_rfl
    | cons g G =>
      have := h (.at σ.length 0 1) _ (List.prefix_append σ [AO.cells ((sortS ((g :: G).map fun g => ints g.name)).map AV.str) 1 .own])
      rw [show (g :: G).length = ((g :: G).map fun g => ints g.name).length by simp] at this
      exact this
attribute [local irreducible] IntKind.wrap Int.fdiv Int.tdiv Int.tmod BitVec.ofInt appendK sliceK indexAddrK ldK storeK seenK makeSliceK lookupK updateK deleteK mapK rangeK nextK keysF
variable {D : Drawer}
variable {B m clock ops : Nat} {G G1 G2 : List FG} {left : Int} {down : Bool} {σ : H}
theorem keys59_spec {n : Nat} (hn : 1 ≤ n) {K : AV → H → Bool} (h : K (.fn 75 [.ptr (some ⟨σ.length, 0, 0, 1⟩)]) (σ ++ [AO.cells [.map (some m)] 1 .own]) = true) : acall Try.prog tab D n 59 [.map (some m)] σ K = true := by
  obtain ⟨n, rfl, hn⟩ := up hn
  conv => lhs; whnf
  exact h
theorem files_spec {n : Nat} (hn : 2 ≤ n) (hd : DiskAt σ B m clock G left down ops) (hlen : G.length ≤ 1000000) {K : AV → H → Bool} (h0 : down = true → K (.sl .nil 0) σ = true)
    (h1 : down = false → ∀ a σ', σ <+: σ' → K (.sl a G.length) σ' = true) : acall Try.prog tab D n 31 [.ptr (some ⟨B, 0, 0, 4⟩)] σ K = true := by
  obtain ⟨n, rfl, hn⟩ := up hn
  conv => lhs; whnf
  refine down_spec (by omega) hd ?_
  cases down with
  | true =>
    conv => lhs; whnf
    exact h0 rfl
  | false =>
  conv => lhs; whnf
  refine ldF Try.underlying74 rfl rfl hd.row rfl ?_
  conv => lhs; whnf
  refine keys59_spec (by omega) ?_
  conv => lhs; whnf
  refine keys_go (hd.mono (List.prefix_append _ _)) (get_new _ _) (by decide) hlen fun a σ' hp => ?_
  have := h1 rfl a σ' ((List.prefix_append _ _).trans hp)
  conv => lhs; whnf
  exact this
theorem one_spec {n : Nat} {x : Bool} (hn : 1 ≤ n) {K : AV → H → Bool} (h : K (.int .i64 (if x then 1 else 0)) σ = true) : acall Try.prog tab D n 32 [.bool x] σ K = true := by
  obtain ⟨n, rfl, hn⟩ := up hn
  cases x
  · conv => lhs; whnf
    exact h
  · conv => lhs; whnf
    exact h
theorem diskNew_run {n : Nat} (hn : 40 ≤ n) (hD : ByPlan Try.prog D) {a : SA} {as' : List Nat} {keep : Int} {sync : Bool} (hk1 : -9223372036854775808 ≤ keep) (hk2 : keep ≤ 9223372036854775807) {σ : H} (ha : Rw σ 1 a as'.length (u8s as')) :
    acall Try.prog tab D n 5 [.sl a as'.length, .int .i64 keep, .bool sync] σ isTrue = true := by
  obtain ⟨n, rfl, hn⟩ := up hn
  conv => lhs; whnf
  refine begun_spec ?_
  conv => lhs; whnf
  refine short_spec (by omega) (m := 30) rfl (by decide) ha _ fun o1 a1 σ1 p1 r1 => ?_
  have sx : (as'.take 30).length ≤ 30 := by rw [List.length_take]; omega
  generalize as'.take 30 = xs at r1 sx ⊢
  have q1 := r1.rw
  conv => lhs; whnf
  refine new_spec (by omega) fun σ3 B m p3 d3 f3 => ?_
  have e1 : max ((-1 : Int) - 1) (-1) = -1 := by decide
  conv => lhs; whnf
  refine app_spec (name := [120]) (by omega) d3 (by decide) (by decide) (by decide) (q1.mono p3) (fun g hg => by simp at hg) (by omega) nofun (fun _ h => by cases h) (fun _ _ h => absurd h (by decide)) fun _ _ _ σ4 c4 G4 d4 v4 s4 => ?_
  rw [e1] at d4
  replace v4 : G4.map FG.v = [⟨[120], xs, 0, false⟩] := v4
  cases sync with
  | true =>
    conv => lhs; whnf
    refine sync_spec (name := [120]) (by omega) d4 (by decide) (by decide) (by decide) nofun (fun _ h => by rw [v4] at h; cases h) (fun _ _ _ h => absurd h (by decide)) fun _ _ _ _ σ5 G5 d5 v5 s5 => ?_
    rw [e1] at d5
    replace v5 : G5.map FG.v = [⟨[120], xs, xs.length, true⟩] := by rw [v5, v4]; rfl
    have g5 := all_v v5
    have n5 := len_v v5
    conv => lhs; whnf
    refine crash_spec (by omega) hD d5 (fun g hg => by
      have h1 : g.bytes = xs := congrArg FV.bytes (g5 g hg)
      have h2 : g.synced = xs.length := congrArg FV.synced (g5 g hg)
      rw [h1, h2]; omega) fun σ7 G7 d7 v7 s7 => ?_
    obtain ⟨k, hk⟩ : ∃ k, mCrash keep ⟨[120], xs, xs.length, true⟩ = some ⟨[120], xs.take k, k, true⟩ := ⟨kept keep xs.length xs.length, by
      unfold mCrash
      exact if_neg (by simp)⟩
    replace v7 : G7.map FG.v = [⟨[120], xs.take k, k, true⟩] := by
      rw [v7, v5, List.filterMap_cons, hk]; rfl
    have g7 := all_v v7
    have n7 := len_v v7
    conv => lhs; whnf
    refine read_spec (name := [120]) (by omega) d7 (fun g hg => by
      have h1 : g.bytes = xs.take k := congrArg FV.bytes (g7 g hg)
      rw [h1, List.length_take]; omega) nofun (fun _ h => by rw [v7] at h; cases h) fun _ x hx' o8 a8 σ8 p8 _ r8 => ?_
    conv => lhs; whnf
    refine files_spec (by omega) (d7.mono p8) (by omega) nofun fun _ a9 σ9 p9 => ?_
    conv => lhs; whnf
    refine one_spec (by omega) ?_
    rw [n7]
    conv => lhs; whnf
  | false =>
    have g4 := all_v v4
    have n4 := len_v v4
    conv => lhs; whnf
    refine crash_spec (by omega) hD d4 (fun g hg => by
      have h1 : g.bytes = xs := congrArg FV.bytes (g4 g hg)
      have h2 : g.synced = 0 := congrArg FV.synced (g4 g hg)
      rw [h1, h2]; omega) fun σ7 G7 d7 v7 s7 => ?_
    have hkept : kept keep xs.length 0 = min keep.toNat xs.length := by unfold kept; omega
    by_cases hz : 0 < xs.length ∧ 0 < keep
    · obtain ⟨k, hk⟩ : ∃ k, mCrash keep ⟨[120], xs, 0, false⟩ = some ⟨[120], xs.take k, k, true⟩ := ⟨kept keep xs.length 0, by
        unfold mCrash
        exact if_neg (by
          show ¬ (kept keep xs.length 0 = 0 ∧ _)
          rw [hkept]; omega)⟩
      replace v7 : G7.map FG.v = [⟨[120], xs.take k, k, true⟩] := by
        rw [v7, v4, List.filterMap_cons, hk]; rfl
      have g7 := all_v v7
      have n7 := len_v v7
      conv => lhs; whnf
      refine read_spec (name := [120]) (by omega) d7 (fun g hg => by
        have h1 : g.bytes = xs.take k := congrArg FV.bytes (g7 g hg)
        rw [h1, List.length_take]; omega) nofun (fun _ h => by rw [v7] at h; cases h) fun _ x hx' o8 a8 σ8 p8 _ r8 => ?_
      conv => lhs; whnf
      rw [show decide ((0 : Int) < (xs.length : Int)) = true from decide_eq_true (by omega)]
      conv => lhs; whnf
      rw [show decide ((0 : Int) < keep) = true from decide_eq_true hz.2]
      conv => lhs; whnf
      refine files_spec (by omega) (d7.mono p8) (by omega) nofun fun _ a9 σ9 p9 => ?_
      conv => lhs; whnf
      refine one_spec (by omega) ?_
      rw [n7]
      conv => lhs; whnf
    · have hk : mCrash keep ⟨[120], xs, 0, false⟩ = none := by
        unfold mCrash
        exact if_pos ⟨by
          show kept keep xs.length 0 = 0
          rw [hkept]; omega, rfl⟩
      replace v7 : G7.map FG.v = [] := by
        rw [v7, v4, List.filterMap_cons, hk]; rfl
      have n7 : G7 = [] := List.map_eq_nil_iff.1 v7
      subst n7
      conv => lhs; whnf
      refine read_spec (name := [120]) (by omega) d7 (fun g hg => by simp at hg) nofun (fun _ _ => ?_) fun _ x hx' => by cases hx'
      conv => lhs; whnf
      by_cases hx : 0 < xs.length
      · rw [show decide ((0 : Int) < (xs.length : Int)) = true from decide_eq_true (by omega)]
        conv => lhs; whnf
        rw [show decide ((0 : Int) < keep) = false from decide_eq_false fun h => hz ⟨hx, h⟩]
        conv => lhs; whnf
        refine files_spec (by omega) d7 (by simp) nofun fun _ a9 σ9 p9 => ?_
        conv => lhs; whnf
        refine one_spec (by omega) ?_
        conv => lhs; whnf
      · rw [show decide ((0 : Int) < (xs.length : Int)) = false from decide_eq_false (by omega)]
        conv => lhs; whnf
        refine files_spec (by omega) d7 (by simp) nofun fun _ a9 σ9 p9 => ?_
        conv => lhs; whnf
        refine one_spec (by omega) ?_
        conv => lhs; whnf
theorem diskNew_law (σ : H) (vs : List AV) (h : ArgsShp Try.prog σ 9 [22, 3, 4] vs) : ∃ n, acall Try.prog tab (drawRegion Try.prog) n 5 vs σ isTrue = true := by
  obtain ⟨a, vs, rfl, ha, h⟩ := args_cons h
  obtain ⟨b, vs, rfl, hb, h⟩ := args_cons h
  obtain ⟨c, vs, rfl, hc, h⟩ := args_cons h
  obtain rfl := args_nil h
  obtain ⟨s, bs, rfl, a1, a2, a3⟩ := arg_bytes Try.underlying22 Try.underlying5 rfl ha
  obtain ⟨q, rfl, e1, e2⟩ := arg_int Try.underlying3 hb
  obtain ⟨x, rfl⟩ := arg_bool Try.underlying4 hc
  exact ⟨40, diskNew_run (Nat.le_refl _) (byPlan _) e1 e2 a1⟩
end Go.Proofs.Ytahhajakgakdhaa
namespace Go.Proofs.Ytahhajakgakdhaa
set_option maxRecDepth 100000
open Go Go.AM Go.AM.St
def mCut (name : List Nat) (k : Nat) : List FV → List FV
  | [] => []
  | x :: l => if x.name = name then ⟨x.name, x.bytes.take k, k, true⟩ :: l else x :: mCut name k l
theorem mCut_some {name : List Nat} {k : Nat} {g : FG} {G2 : List FG} (hg : g.name = name) : ∀ {G1 : List FG}, (∀ g ∈ G1, g.name ≠ name) → mCut name k ((G1 ++ g :: G2).map FG.v) = G1.map FG.v ++ ⟨g.name, g.bytes.take k, k, true⟩ :: G2.map FG.v
  | [], _ => by
    show (if g.name = name then _ else _) = _
    rw [if_pos hg]; rfl
  | x :: G1, h => by
    show (if x.name = name then _ else _) = _
    rw [if_neg (h x (by simp))]
    exact congrArg (x.v :: ·) (mCut_some hg fun g hg => h g (by simp [hg]))
attribute [local irreducible] IntKind.wrap Int.fdiv Int.tdiv Int.tmod BitVec.ofInt appendK sliceK indexAddrK ldK storeK seenK makeSliceK lookupK updateK deleteK mapK rangeK nextK keysF
variable {D : Drawer}
variable {B m clock ops : Nat} {G G1 G2 : List FG} {left : Int} {down : Bool} {σ : H}
theorem ops_spec {n : Nat} (hn : 1 ≤ n) (hd : DiskAt σ B m clock G left down ops) {K : AV → H → Bool} (h : K (.int .i64 (ops : Int)) σ = true) : acall Try.prog tab D n 35 [.ptr (some ⟨B, 0, 0, 4⟩)] σ K = true := by
  obtain ⟨n, rfl, hn⟩ := up hn
  conv => lhs; whnf
  refine ldF Try.underlying3 rfl rfl hd.row rfl ?_
  conv => lhs; whnf
  exact h
theorem fuse_spec {n : Nat} {x : Int} (hn : 2 ≤ n) (hd : DiskAt σ B m clock G left down ops) {K : AV → H → Bool} (h0 : down = true → K (.tup []) σ = true)
    (h1 : down = false → ∀ σ', DiskAt σ' B m clock G (max x (-1)) down ops → Step B m G G σ σ' → K (.tup []) σ' = true) : acall Try.prog tab D n 33 [.ptr (some ⟨B, 0, 0, 4⟩), .int .i64 x] σ K = true := by
  obtain ⟨n, rfl, hn⟩ := up hn
  conv => lhs; whnf
  refine down_spec (by omega) hd ?_
  cases down with
  | true =>
    conv => lhs; whnf
    exact h0 rfl
  | false =>
  conv => lhs; whnf
  refine st_left hd (left' := max x (-1)) ?_ fun σ1 d1 k1 => ?_
  · show (if x < -1 then -1 else x) = _
    rw [Int.max_def]
    split <;> split <;> omega
  have := h1 rfl σ1 d1 (Step.ofB hd.row (len_of hd.row d1.row k1) k1)
  conv => lhs; whnf
  exact this
theorem cut_spec {n : Nat} {name : List Nat} {y : Int} (hn : 3 ≤ n) (hd : DiskAt σ B m clock G left down ops) (hl : -1 ≤ left) (hl2 : left ≤ 9223372036854775807) (hops : ops < 1000000000) (hlen : ∀ g ∈ G, g.bytes.length ≤ 1000000000) {K : AV → H → Bool}
    (h0 : down = true → K (.int .i64 7) σ = true)
    (h1 : down = false → mFind name (G.map FG.v) = none → K (.int .i64 3) σ = true)
    (h2 : down = false → ∀ x, mFind name (G.map FG.v) = some x → ¬ (0 ≤ y ∧ y ≤ x.bytes.length) → K (.int .i64 9) σ = true)
    (h3 : down = false → ∀ x, mFind name (G.map FG.v) = some x → 0 ≤ y → y ≤ x.bytes.length → left = 0 → ∀ σ', DiskAt σ' B m clock G left true ops → Step B m G G σ σ' → K (.int .i64 7) σ' = true)
    (h4 : down = false → ∀ x, mFind name (G.map FG.v) = some x → 0 ≤ y → y ≤ x.bytes.length → left ≠ 0 → ∀ σ' G', DiskAt σ' B m clock G' (max (left - 1) (-1)) false (ops + 1) → G'.map FG.v = mCut name y.toNat (G.map FG.v) → Step B m G G' σ σ' → K (.int .i64 0) σ' = true) :
    acall Try.prog tab D n 42 [.ptr (some ⟨B, 0, 0, 4⟩), .str (ints name), .int .i64 y] σ K = true := by
  obtain ⟨n, rfl, hn⟩ := up hn
  conv => lhs; whnf
  refine finds_spec (by omega) hd (fun hdn => ?_) (fun hdn hno => ?_) fun hdn G1 g G2 hG hg hno => ?_
  · conv => lhs; whnf
    exact h0 hdn
  · conv => lhs; whnf
    exact h1 hdn (mFind_none hno)
  subst hG
  subst hdn
  have hf := mFind_some (G2 := G2) hg hno
  have gf := hd.files g (by simp)
  conv => lhs; whnf
  by_cases hy : y < 0
  · rw [decide_eq_true hy]
    conv => lhs; whnf
    exact h2 rfl _ hf fun h => by omega
  rw [decide_eq_false hy]
  conv => lhs; whnf
  refine ldF Try.underlying22 rfl rfl gf.row rfl ?_
  conv => lhs; whnf
  by_cases hy2 : (g.bytes.length : Int) < y
  · rw [show decide ((g.bytes.length : Int) < y) = true from decide_eq_true hy2]
    conv => lhs; whnf
    exact h2 rfl _ hf fun h => by
      have h3 : y ≤ (g.bytes.length : Int) := h.2
      omega
  rw [show decide ((g.bytes.length : Int) < y) = false from decide_eq_false hy2]
  have hy3 : y ≤ (g.v.bytes.length : Int) := by show y ≤ (g.bytes.length : Int); omega
  conv => lhs; whnf
  refine does_spec (by omega) hd hl hl2 hops (fun e σ1 d1 k1 => ?_) fun e σ1 d1 k1 => ?_
  · have := h3 rfl _ hf (by omega) hy3 e σ1 d1 (Step.ofB hd.row (len_of hd.row d1.row k1) k1)
    conv => lhs; whnf
    exact this
  have s1 : Step B m (G1 ++ g :: G2) (G1 ++ g :: G2) σ σ1 := Step.ofB hd.row (len_of hd.row d1.row k1) k1
  have g1 := d1.files g (by simp)
  have hyk : y = (y.toNat : Int) := by omega
  have hgl := hlen g (by simp)
  have hlt : (g.bytes.take y.toNat).length = y.toNat := by rw [List.length_take]; omega
  conv => lhs; whnf
  refine ldF Try.underlying22 rfl rfl g1.row rfl ?_
  conv => lhs; whnf
  refine slB2 hyk g1.own.rw (by omega) fun a2 r2 => ?_
  conv => lhs; whnf
  refine clone_spec (by omega) (by omega) r2 fun o3 a3 σ3 p3 q3 w3 => ?_
  conv => lhs; whnf
  refine st_cut d1 (σ' := σ3) (o' := o3) ⟨prefix_len p3, fun id hl _ => by rw [prefix_get p3 (List.getElem?_eq_getElem hl), List.getElem?_eq_getElem hl], w3, q3.elim .inl fun h => .inr (.inr ⟨_, h, Nat.le_refl _⟩), Ext.of_prefix p3⟩ fun σ4 d4 s4 => ?_
  conv => lhs; whnf
  refine lasting_spec (by omega) d4 hyk fun σ5 d5 k5 l5 => ?_
  have := h4 rfl _ hf (by omega) hy3 e σ5 _ d5 (by rw [mCut_some hg hno]; simp [FG.v]) ((s1.trans s4).trans ⟨Nat.le_of_eq l5.symm, fun id hl hf => k5 id fun e => hf (.inr (.inr (.inl ⟨_, List.mem_append_right _ (List.mem_cons_self ..), e⟩))), fun id h => .inl (fp_same (g := { g with bytes := g.bytes.take y.toNat, o := o3, a := a3 }) (g' := { g with bytes := g.bytes.take y.toNat, o := o3, a := a3, synced := y.toNat, lasts := true }) rfl rfl h), Ext.ne (d4.files { g with bytes := g.bytes.take y.toNat, o := o3, a := a3 } (by simp)).row nofun k5⟩)
  conv => lhs; whnf
  exact this
end Go.Proofs.Ytahhajakgakdhaa
namespace Go.Proofs.Ytahhajakgakdhaa
set_option maxRecDepth 100000
open Go Go.AM Go.AM.St
def mDel (name : List Nat) : List FV → List FV
  | [] => []
  | x :: l => if x.name = name then l else x :: mDel name l
def mPut (y : FV) : List FV → List FV
  | [] => [y]
  | x :: l => if x.name = y.name then y :: l else x :: mPut y l
def mMove (f t : List Nat) (l : List FV) : List FV :=
  match mFind f l with
  | none => l
  | some x => mPut ⟨t, x.bytes, x.bytes.length, true⟩ (mDel f l)
theorem mDel_some {name : List Nat} {g : FG} {G2 : List FG} (hg : g.name = name) : ∀ {G1 : List FG}, (∀ g ∈ G1, g.name ≠ name) → mDel name ((G1 ++ g :: G2).map FG.v) = (G1 ++ G2).map FG.v
  | [], _ => by
    show (if g.name = name then _ else _) = _
    rw [if_pos hg]; rfl
  | x :: G1, h => by
    show (if x.name = name then _ else _) = _
    rw [if_neg (h x (by simp))]
    exact congrArg (x.v :: ·) (mDel_some hg fun g hg => h g (by simp [hg]))
theorem mPut_none {y : FV} : ∀ {G : List FG}, (∀ g ∈ G, g.name ≠ y.name) → mPut y (G.map FG.v) = G.map FG.v ++ [y]
  | [], _ => rfl
  | x :: G, h => by
    show (if x.name = y.name then _ else _) = _
    rw [if_neg (h x (by simp)), mPut_none fun g hg => h g (by simp [hg])]
    rfl
theorem mPut_some {y : FV} {g : FG} {G2 : List FG} (hg : g.name = y.name) : ∀ {G1 : List FG}, (∀ g ∈ G1, g.name ≠ y.name) → mPut y ((G1 ++ g :: G2).map FG.v) = G1.map FG.v ++ y :: G2.map FG.v
  | [], _ => by
    show (if g.name = y.name then _ else _) = _
    rw [if_pos hg]; rfl
  | x :: G1, h => by
    show (if x.name = y.name then _ else _) = _
    rw [if_neg (h x (by simp))]
    exact congrArg (x.v :: ·) (mPut_some hg fun g hg => h g (by simp [hg]))
theorem Apart.symm {g h : FG} (a : Apart g h) : Apart h g := by
  obtain ⟨b1, b2, b3, b4⟩ := a
  refine ⟨b1.symm, ?_, Ne.symm b3, Ne.symm b4⟩
  rcases b2 with b2 | b2
  · cases hgo : h.o with
    | none => exact .inl rfl
    | some j => exact .inr (by rw [b2]; exact fun e => by cases e)
  · exact .inr (Ne.symm b2)
section
variable {B m clock ops : Nat} {G G1 G2 : List FG} {left : Int} {down : Bool} {σ : H}
theorem DiskAt.remap (hd : DiskAt σ B m clock G left down ops) (G' : List FG) (clock' : Nat) (hf : ∀ x ∈ G', FileAt σ x) (ha : G'.Pairwise Apart) (ho : ∀ x ∈ G', x.born < clock') :
    DiskAt (σ.set m (.map (G'.map entOf) clock')) B m clock' G' left down ops := by
  have hmB : B ≠ m := fun e => by have := hd.mp; rw [← e, hd.row] at this; cases this
  refine ⟨get_set_ne hd.row hmB _, get_set hd.mp _, fun x hx => ?_, ha, ho⟩
  have h := hf x hx
  refine h.keep (List.getElem?_set_ne fun e => ?_) fun i hi => List.getElem?_set_ne fun e => ?_
  · have := hd.mp; rw [e, h.row] at this; cases this
  · obtain ⟨xs, md, hr⟩ := h.oRow hi
    have := hd.mp; rw [e, hr] at this; cases this
theorem FileAt.named {g : FG} (h : FileAt σ g) (name : List Nat) (born : Nat) : FileAt σ { g with name := name, born := born } := ⟨h.row, h.own⟩
/-- A file that is in no map is put under a name. -/
theorem put_file {g : FG} (hd : DiskAt σ B m clock G left down ops) (hg : FileAt σ g) (hap : ∀ x ∈ G, x.f ≠ g.f ∧ (x.o = none ∨ x.o ≠ g.o)) (to' : List Nat) {K : H → Bool}
    (hK : ∀ σ' clock' G', DiskAt σ' B m clock' G' left down ops → G'.map FG.v = mPut ⟨to', g.bytes, g.synced, g.lasts⟩ (G.map FG.v) → σ'.length = σ.length → (∀ id, id ≠ m → σ'[id]? = σ[id]?) → (∀ id, Fp B m G' id → Fp B m (g :: G) id) → K σ' = true) :
    updateK Try.prog 74 (.map (some m)) (.str (ints to')) (.ptr (some ⟨g.f, 0, 0, 3⟩)) σ K = true := by
  have hap2 : ∀ x ∈ G, g.f ≠ x.f ∧ (g.o = none ∨ g.o ≠ x.o) := fun x hx => by
    obtain ⟨b1, b2⟩ := hap x hx
    refine ⟨b1.symm, ?_⟩
    rcases b2 with b2 | b2
    · cases hgo : g.o with
      | none => exact .inl rfl
      | some j => exact .inr (by rw [b2]; exact fun e => by cases e)
    · exact .inr (Ne.symm b2)
  rcases find_cases G to' with hno | ⟨G1, h, G2, rfl, hh, hno⟩
  · refine upd_new hd.mp hno ?_
    have e : G.map entOf ++ [⟨.str (ints to'), .ptr (some ⟨g.f, 0, 0, 3⟩), clock⟩] = (G ++ [{ g with name := to', born := clock }]).map entOf := by simp [entOf]
    rw [e]
    refine hK _ _ _ (hd.remap _ _ (fun x hx => ?_) ?_ fun x hx => ?_) ?_ (List.length_set ..) (fun id hne => List.getElem?_set_ne (Ne.symm hne)) fun id hf => ?_
    · rcases List.mem_append.1 hx with hx | hx
      · exact hd.files x hx
      · rw [List.mem_singleton] at hx; subst hx; exact hg.named _ _
    · rw [List.pairwise_append]
      refine ⟨hd.apart, by simp, fun x hx y hy => ?_⟩
      rw [List.mem_singleton] at hy; subst hy
      exact ⟨(hap x hx).1, (hap x hx).2, hno x hx, Nat.ne_of_lt (hd.old x hx)⟩
    · rcases List.mem_append.1 hx with hx | hx
      · have := hd.old x hx; omega
      · rw [List.mem_singleton] at hx; subst hx; exact Nat.lt_succ_self _
    · rw [mPut_none hno]; simp [FG.v]
    · rcases hf with h | h | ⟨x, hx, h⟩ | ⟨x, hx, h⟩
      · exact .inl h
      · exact .inr (.inl h)
      · rcases List.mem_append.1 hx with hx | hx
        · exact .inr (.inr (.inl ⟨x, by simp [hx], h⟩))
        · rw [List.mem_singleton] at hx; subst hx; exact .inr (.inr (.inl ⟨g, by simp, h⟩))
      · rcases List.mem_append.1 hx with hx | hx
        · exact .inr (.inr (.inr ⟨x, by simp [hx], h⟩))
        · rw [List.mem_singleton] at hx; subst hx; exact .inr (.inr (.inr ⟨g, by simp, h⟩))
  · refine upd_old hd.mp hh hno ?_
    have e : ((G1 ++ h :: G2).map entOf).set G1.length { entOf h with val := .ptr (some ⟨g.f, 0, 0, 3⟩) } = (G1 ++ { g with name := to', born := h.born } :: G2).map entOf := by
      rw [List.map_append, List.set_append_right _ _ (by simp), List.length_map, Nat.sub_self]
      simp [entOf, hh]
    rw [e]
    have hap0 := hd.apart
    rw [List.pairwise_append, List.pairwise_cons] at hap0
    refine hK _ _ _ (hd.remap _ _ (fun x hx => ?_) ?_ fun x hx => ?_) ?_ (List.length_set ..) (fun id hne => List.getElem?_set_ne (Ne.symm hne)) fun id hf => ?_
    · rcases List.mem_append.1 hx with hx | hx
      · exact hd.files x (by simp [hx])
      · rcases List.mem_cons.1 hx with rfl | hx
        · exact hg.named _ _
        · exact hd.files x (by simp [hx])
    · rw [List.pairwise_append, List.pairwise_cons]
      refine ⟨hap0.1, ⟨fun x hx => ?_, hap0.2.1.2⟩, fun x hx y hy => ?_⟩
      · obtain ⟨a1, a2⟩ := hap2 x (by simp [hx])
        obtain ⟨b1, b2, b3, b4⟩ := hap0.2.1.1 x hx
        exact ⟨a1, a2, hh ▸ b3, b4⟩
      · rcases List.mem_cons.1 hy with rfl | hy
        · obtain ⟨a1, a2⟩ := hap x (by simp [hx])
          obtain ⟨b1, b2, b3, b4⟩ := hap0.2.2 x hx h (by simp)
          exact ⟨a1, a2, hh ▸ b3, b4⟩
        · exact hap0.2.2 x hx y (by simp [hy])
    · rcases List.mem_append.1 hx with hx | hx
      · exact hd.old x (by simp [hx])
      · rcases List.mem_cons.1 hx with rfl | hx
        · exact hd.old h (by simp)
        · exact hd.old x (by simp [hx])
    · rw [mPut_some (y := ⟨to', g.bytes, g.synced, g.lasts⟩) hh hno]; simp [FG.v]
    · rcases hf with h | h | ⟨x, hx, h⟩ | ⟨x, hx, h⟩
      · exact .inl h
      · exact .inr (.inl h)
      · rcases List.mem_append.1 hx with hx | hx
        · exact .inr (.inr (.inl ⟨x, by simp [hx], h⟩))
        · rcases List.mem_cons.1 hx with rfl | hx
          · exact .inr (.inr (.inl ⟨g, by simp, h⟩))
          · exact .inr (.inr (.inl ⟨x, by simp [hx], h⟩))
      · rcases List.mem_append.1 hx with hx | hx
        · exact .inr (.inr (.inr ⟨x, by simp [hx], h⟩))
        · rcases List.mem_cons.1 hx with rfl | hx
          · exact .inr (.inr (.inr ⟨g, by simp, h⟩))
          · exact .inr (.inr (.inr ⟨x, by simp [hx], h⟩))
end
attribute [local irreducible] IntKind.wrap Int.fdiv Int.tdiv Int.tmod BitVec.ofInt appendK sliceK indexAddrK ldK storeK seenK makeSliceK lookupK updateK deleteK mapK rangeK nextK keysF
variable {D : Drawer}
variable {B m clock ops : Nat} {G G1 G2 : List FG} {left : Int} {down : Bool} {σ : H}
theorem move_spec {n : Nat} {name to' : List Nat} (hn : 3 ≤ n) (hd : DiskAt σ B m clock G left down ops) (hl : -1 ≤ left) (hl2 : left ≤ 9223372036854775807) (hops : ops < 1000000000) {K : AV → H → Bool}
    (h0 : down = true → K (.int .i64 7) σ = true)
    (h1 : down = false → mFind name (G.map FG.v) = none → K (.int .i64 3) σ = true)
    (h2 : down = false → ∀ x, mFind name (G.map FG.v) = some x → (!to'.isEmpty && decide (to'.length ≤ 200)) = false → K (.int .i64 1) σ = true)
    (h3 : down = false → ∀ x, mFind name (G.map FG.v) = some x → (!to'.isEmpty && decide (to'.length ≤ 200)) = true → left = 0 → ∀ σ', DiskAt σ' B m clock G left true ops → Step B m G G σ σ' → K (.int .i64 7) σ' = true)
    (h4 : down = false → ∀ x, mFind name (G.map FG.v) = some x → (!to'.isEmpty && decide (to'.length ≤ 200)) = true → left ≠ 0 → ∀ σ' clock' G', DiskAt σ' B m clock' G' (max (left - 1) (-1)) false (ops + 1) → G'.map FG.v = mMove name to' (G.map FG.v) → Step B m G G' σ σ' → K (.int .i64 0) σ' = true) :
    acall Try.prog tab D n 36 [.ptr (some ⟨B, 0, 0, 4⟩), .str (ints name), .str (ints to')] σ K = true := by
  obtain ⟨n, rfl, hn⟩ := up hn
  conv => lhs; whnf
  refine finds_spec (by omega) hd (fun hdn => ?_) (fun hdn hno => ?_) fun hdn G1 g G2 hG hg hno => ?_
  · conv => lhs; whnf
    exact h0 hdn
  · conv => lhs; whnf
    exact h1 hdn (mFind_none hno)
  subst hG
  subst hdn
  have hf := mFind_some (G2 := G2) hg hno
  conv => lhs; whnf
  refine fmay_spec (by omega) ?_
  cases hm : (!to'.isEmpty && decide (to'.length ≤ 200)) with
  | false =>
    conv => lhs; whnf
    exact h2 rfl _ hf hm
  | true =>
  conv => lhs; whnf
  refine does_spec (by omega) hd hl hl2 hops (fun e σ1 d1 k1 => ?_) fun e σ1 d1 k1 => ?_
  · have := h3 rfl _ hf hm e σ1 d1 (Step.ofB hd.row (len_of hd.row d1.row k1) k1)
    conv => lhs; whnf
    exact this
  have s1 : Step B m (G1 ++ g :: G2) (G1 ++ g :: G2) σ σ1 := Step.ofB hd.row (len_of hd.row d1.row k1) k1
  conv => lhs; whnf
  refine ldF Try.underlying22 rfl rfl (d1.files g (by simp)).row rfl ?_
  conv => lhs; whnf
  refine lasting_spec (by omega) d1 rfl fun σ2 d2 k2 l2 => ?_
  have s2 : Step B m (G1 ++ g :: G2) (G1 ++ { g with synced := g.bytes.length, lasts := true } :: G2) σ1 σ2 := ⟨Nat.le_of_eq l2.symm, fun id hl hf => k2 id fun e => hf (.inr (.inr (.inl ⟨_, List.mem_append_right _ (List.mem_cons_self ..), e⟩))), fun id h => .inl (fp_same (g := g) (g' := { g with synced := g.bytes.length, lasts := true }) rfl rfl h), Ext.ne (d1.files g (by simp)).row nofun k2⟩
  conv => lhs; whnf
  refine ldF Try.underlying74 rfl rfl d2.row rfl ?_
  conv => lhs; whnf
  refine del_old d2.mp hg hno ?_
  have d3 := d2.gone
  have hap := d2.apart
  rw [List.pairwise_append, List.pairwise_cons] at hap
  have g3 : FileAt (σ2.set m (.map ((G1 ++ G2).map entOf) clock)) { g with synced := g.bytes.length, lasts := true } := by
    have h := d2.files { g with synced := g.bytes.length, lasts := true } (by simp)
    refine h.keep (List.getElem?_set_ne fun e => ?_) fun i hi => List.getElem?_set_ne fun e => ?_
    · have := d2.mp; rw [e, h.row] at this; cases this
    · obtain ⟨xs, md, hr⟩ := h.oRow hi
      have := d2.mp; rw [e, hr] at this; cases this
  have l3 : (σ2.set m (.map ((G1 ++ G2).map entOf) clock)).length = σ2.length := List.length_set ..
  have k3 : ∀ id, id ≠ m → (σ2.set m (.map ((G1 ++ G2).map entOf) clock))[id]? = σ2[id]? := fun id hne => List.getElem?_set_ne (Ne.symm hne)
  generalize σ2.set m (.map ((G1 ++ G2).map entOf) clock) = σ3 at d3 g3 l3 k3 ⊢
  conv => lhs; whnf
  refine ldF Try.underlying74 rfl rfl d3.row rfl ?_
  conv => lhs; whnf
  refine put_file d3 g3 (fun x hx => ?_) to' fun σ4 c4 G4 d4 v4 l4 k4 f4 => ?_
  · rcases List.mem_append.1 hx with hx | hx
    · exact ⟨(hap.2.2 x hx _ (List.mem_cons_self ..)).1, (hap.2.2 x hx _ (List.mem_cons_self ..)).2.1⟩
    · exact ⟨(hap.2.1.1 x hx).symm.1, (hap.2.1.1 x hx).symm.2.1⟩
  have s4 : Step B m (G1 ++ { g with synced := g.bytes.length, lasts := true } :: G2) G4 σ2 σ4 := ⟨by omega, fun id hl hf => (k4 id fun e => hf (.inr (.inl e))).trans (k3 id fun e => hf (.inr (.inl e))), fun id h => .inl (by
    rcases f4 id h with h | h | ⟨x, hx, h⟩ | ⟨x, hx, h⟩
    · exact .inl h
    · exact .inr (.inl h)
    · rcases List.mem_cons.1 hx with rfl | hx
      · exact .inr (.inr (.inl ⟨_, List.mem_append_right _ (List.mem_cons_self ..), h⟩))
      · exact fp_gone (.inr (.inr (.inl ⟨x, hx, h⟩)))
    · rcases List.mem_cons.1 hx with rfl | hx
      · exact .inr (.inr (.inr ⟨_, List.mem_append_right _ (List.mem_cons_self ..), h⟩))
      · exact fp_gone (.inr (.inr (.inr ⟨x, hx, h⟩)))), (Ext.ne d2.mp nofun k3).trans (Ext.ne d3.mp nofun k4)⟩
  have := h4 rfl _ hf hm e σ4 _ _ d4 (by rw [v4]; unfold mMove; rw [hf, mDel_some hg hno]; rfl) ((s1.trans s2).trans s4)
  conv => lhs; whnf
  exact this
end Go.Proofs.Ytahhajakgakdhaa
namespace Go.Proofs.Ytahhajakgakdhaa
set_option maxRecDepth 100000
open Go Go.AM Go.AM.St
attribute [local irreducible] IntKind.wrap Int.fdiv Int.tdiv Int.tmod BitVec.ofInt appendK sliceK indexAddrK ldK storeK seenK makeSliceK lookupK updateK deleteK mapK rangeK nextK keysF
variable {D : Drawer}
theorem mem_of_map {G : List FG} {V : List FV} (h : G.map FG.v = V) {g : FG} (hg : g ∈ G) : g.v ∈ V := h ▸ List.mem_map_of_mem (f := FG.v) hg
theorem bytes_le {G : List FG} {V : List FV} (h : G.map FG.v = V) {k : Nat} (hV : ∀ x ∈ V, x.bytes.length ≤ k) : ∀ g ∈ G, g.bytes.length ≤ k := fun _ hg => hV _ (mem_of_map h hg)
theorem synced_le {G : List FG} {V : List FV} (h : G.map FG.v = V) {k : Nat} (hV : ∀ x ∈ V, x.bytes.length ≤ k ∧ x.synced ≤ x.bytes.length) : ∀ g ∈ G, g.bytes.length ≤ k ∧ g.synced ≤ g.bytes.length := fun _ hg => hV _ (mem_of_map h hg)
theorem mCrash_full {keep : Int} {name bs : List Nat} : mCrash keep ⟨name, bs, bs.length, true⟩ = some ⟨name, bs, bs.length, true⟩ := by
  unfold mCrash
  rw [if_neg (by simp)]
  have : kept keep bs.length bs.length = bs.length := by unfold kept; omega
  show some (⟨name, bs.take (kept keep bs.length bs.length), kept keep bs.length bs.length, true⟩ : FV) = _
  rw [this, List.take_length]
theorem diskMove_run {n : Nat} (hn : 40 ≤ n) (hD : ByPlan Try.prog D) {a b : SA} {as' bs : List Nat} {there : Bool} {keep : Int} {σ : H} (ha : Rw σ 1 a as'.length (u8s as')) (hb : Rw σ 1 b bs.length (u8s bs))
    (la : ∀ b ∈ as', b < 256) : acall Try.prog tab D n 10 [.sl a as'.length, .sl b bs.length, .bool there, .int .i64 keep] σ isTrue = true := by
  obtain ⟨n, rfl, hn⟩ := up hn
  conv => lhs; whnf
  refine begun_spec ?_
  conv => lhs; whnf
  refine short_spec (by omega) (m := 50) rfl (by decide) ha _ fun o1 a1 σ1 p1 r1 => ?_
  conv => lhs; whnf
  refine short_spec (by omega) (m := 50) rfl (by decide) (hb.mono p1) _ fun o2 b1 σ2 p2 r2 => ?_
  have lx : ∀ b ∈ as'.take 50, b < 256 := fun b h => la b (List.mem_of_mem_take h)
  have sx : (as'.take 50).length ≤ 50 := by rw [List.length_take]; omega
  have sy : (bs.take 50).length ≤ 50 := by rw [List.length_take]; omega
  generalize as'.take 50 = xs at r1 lx sx ⊢
  generalize bs.take 50 = ys at r2 sy ⊢
  have q1 := r1.rw.mono p2
  have q2 := r2.rw
  conv => lhs; whnf
  refine new_spec (by omega) fun σ3 B m p3 d3 f3 => ?_
  have e1 : max ((-1 : Int) - 1) (-1) = -1 := by decide
  conv => lhs; whnf
  refine app_spec (name := [102, 114, 111, 109]) (by omega) d3 (by decide) (by decide) (by decide) (q1.mono p3) (fun g hg => by simp at hg) (by omega) nofun (fun _ h => by cases h) (fun _ _ h => absurd h (by decide)) fun _ _ _ σ4 c4 G4 d4 v4 s4 => ?_
  rw [e1] at d4
  replace v4 : G4.map FG.v = [⟨[102, 114, 111, 109], xs, 0, false⟩] := v4
  cases there with
  | false =>
    conv => lhs; whnf
    refine move_spec (name := [102, 114, 111, 109]) (to' := [116, 111]) (by omega) d4 (by decide) (by decide) (by decide) nofun (fun _ h => by rw [v4] at h; cases h) (fun _ _ _ h => by cases h) (fun _ _ _ _ h => absurd h (by decide)) fun _ _ _ _ _ σ5 c5 G5 d5 v5 s5 => ?_
    rw [e1] at d5
    replace v5 : G5.map FG.v = [⟨[116, 111], xs, xs.length, true⟩] := by rw [v5, v4]; rfl
    conv => lhs; whnf
    refine crash_spec (by have := len_v v5; omega) hD d5 (synced_le v5 (k := 1000000000) fun x hx => by rw [List.mem_singleton] at hx; subst hx; exact ⟨by show xs.length ≤ _; omega, Nat.le_refl _⟩) fun σ6 G6 d6 v6 s6 => ?_
    replace v6 : G6.map FG.v = [⟨[116, 111], xs, xs.length, true⟩] := by rw [v6, v5, List.filterMap_cons, mCrash_full]; rfl
    conv => lhs; whnf
    refine read_spec (name := [116, 111]) (by omega) d6 (bytes_le v6 fun x hx => by rw [List.mem_singleton] at hx; subst hx; show xs.length ≤ _; omega) nofun (fun _ h => by rw [v6] at h; cases h) fun _ x hx o7 a7 σ7 p7 _ r7 => ?_
    obtain rfl : x = ⟨[116, 111], xs, xs.length, true⟩ := by rw [v6] at hx; exact (Option.some.inj hx).symm
    have d7 := d6.mono p7
    conv => lhs; whnf
    refine read_spec (name := [102, 114, 111, 109]) (by omega) d7 (bytes_le v6 fun x hx => by rw [List.mem_singleton] at hx; subst hx; show xs.length ≤ _; omega) nofun (fun _ h => ?_) fun _ x hx => by rw [v6] at hx; cases hx
    have B7 := (s4.trans (s5.trans s6)).base (prefix_len p3) f3
    have b8 : ∀ i, i < σ2.length → σ7[i]? = σ2[i]? := fun i hi => by
      have := B7.2.2
      rw [prefix_get p7 (List.getElem?_eq_getElem (by omega)), ← List.getElem?_eq_getElem (by omega), B7.1 i hi, prefix_get p3 (List.getElem?_eq_getElem hi), List.getElem?_eq_getElem hi]
    have t1 : Rw σ7 1 a1 xs.length (u8s xs) := rw_base q1 b8
    conv => lhs; whnf
    refine strK_rw (show Rw σ7 1 a7 xs.length (u8s xs) from r7.rw) lx ?_
    conv => lhs; whnf
    refine strK_rw t1 lx ?_
    conv => lhs; whnf
    rw [show (ints xs == ints xs) = true from beq_self_eq_true _]
    conv => lhs; whnf
    refine files_spec (by omega) d7 (by have := len_v v6; omega) nofun fun _ a9 σ9 p9 => ?_
    rw [len_v v6]
    conv => lhs; whnf
  | true =>
    have B4 := s4.base (prefix_len p3) f3
    have q5 : Rw σ4 1 b1 ys.length (u8s ys) := rw_base q2 fun i hi => by rw [B4.1 i hi, prefix_get p3 (List.getElem?_eq_getElem hi), List.getElem?_eq_getElem hi]
    conv => lhs; whnf
    refine app_spec (name := [116, 111]) (by omega) d4 (by decide) (by decide) (by decide) q5 (fun g hg => by
      have := bytes_le v4 (k := 50) (fun x hx => by rw [List.mem_singleton] at hx; subst hx; exact sx) g hg
      omega) (by omega) nofun (fun _ h => by cases h) (fun _ _ h => absurd h (by decide)) fun _ _ _ σ5 c5 G5 d5 v5 s5 => ?_
    rw [e1] at d5
    replace v5 : G5.map FG.v = [⟨[102, 114, 111, 109], xs, 0, false⟩, ⟨[116, 111], ys, 0, false⟩] := by rw [v5, v4]; rfl
    conv => lhs; whnf
    refine sync_spec (name := [116, 111]) (by omega) d5 (by decide) (by decide) (by decide) nofun (fun _ h => by rw [v5] at h; cases h) (fun _ _ _ h => absurd h (by decide)) fun _ _ _ _ σ6 G6 d6 v6 s6 => ?_
    rw [e1] at d6
    replace v6 : G6.map FG.v = [⟨[102, 114, 111, 109], xs, 0, false⟩, ⟨[116, 111], ys, ys.length, true⟩] := by rw [v6, v5]; rfl
    conv => lhs; whnf
    refine move_spec (name := [102, 114, 111, 109]) (to' := [116, 111]) (by omega) d6 (by decide) (by decide) (by decide) nofun (fun _ h => by rw [v6] at h; cases h) (fun _ _ _ h => by cases h) (fun _ _ _ _ h => absurd h (by decide)) fun _ _ _ _ _ σ7 c7 G7 d7 v7 s7 => ?_
    rw [e1] at d7
    replace v7 : G7.map FG.v = [⟨[116, 111], xs, xs.length, true⟩] := by rw [v7, v6]; rfl
    conv => lhs; whnf
    refine crash_spec (by have := len_v v7; omega) hD d7 (synced_le v7 (k := 1000000000) fun x hx => by rw [List.mem_singleton] at hx; subst hx; exact ⟨by show xs.length ≤ _; omega, Nat.le_refl _⟩) fun σ8 G8 d8 v8 s8 => ?_
    replace v8 : G8.map FG.v = [⟨[116, 111], xs, xs.length, true⟩] := by rw [v8, v7, List.filterMap_cons, mCrash_full]; rfl
    conv => lhs; whnf
    refine read_spec (name := [116, 111]) (by omega) d8 (bytes_le v8 fun x hx => by rw [List.mem_singleton] at hx; subst hx; show xs.length ≤ _; omega) nofun (fun _ h => by rw [v8] at h; cases h) fun _ x hx o9 a9 σ9 p9 _ r9 => ?_
    obtain rfl : x = ⟨[116, 111], xs, xs.length, true⟩ := by rw [v8] at hx; exact (Option.some.inj hx).symm
    have d9 := d8.mono p9
    conv => lhs; whnf
    refine read_spec (name := [102, 114, 111, 109]) (by omega) d9 (bytes_le v8 fun x hx => by rw [List.mem_singleton] at hx; subst hx; show xs.length ≤ _; omega) nofun (fun _ h => ?_) fun _ x hx => by rw [v8] at hx; cases hx
    have B9 := (s4.trans (s5.trans (s6.trans (s7.trans s8)))).base (prefix_len p3) f3
    have b9 : ∀ i, i < σ2.length → σ9[i]? = σ2[i]? := fun i hi => by
      have := B9.2.2
      rw [prefix_get p9 (List.getElem?_eq_getElem (by omega)), ← List.getElem?_eq_getElem (by omega), B9.1 i hi, prefix_get p3 (List.getElem?_eq_getElem hi), List.getElem?_eq_getElem hi]
    have t1 : Rw σ9 1 a1 xs.length (u8s xs) := rw_base q1 b9
    conv => lhs; whnf
    refine strK_rw (show Rw σ9 1 a9 xs.length (u8s xs) from r9.rw) lx ?_
    conv => lhs; whnf
    refine strK_rw t1 lx ?_
    conv => lhs; whnf
    rw [show (ints xs == ints xs) = true from beq_self_eq_true _]
    conv => lhs; whnf
    refine files_spec (by omega) d9 (by have := len_v v8; omega) nofun fun _ a9 σ10 p10 => ?_
    rw [len_v v8]
    conv => lhs; whnf
theorem diskMove_law (σ : H) (vs : List AV) (h : ArgsShp Try.prog σ 9 [22, 22, 4, 3] vs) : ∃ n, acall Try.prog tab (drawRegion Try.prog) n 10 vs σ isTrue = true := by
  obtain ⟨a, vs, rfl, ha, h⟩ := args_cons h
  obtain ⟨b, vs, rfl, hb, h⟩ := args_cons h
  obtain ⟨c, vs, rfl, hc, h⟩ := args_cons h
  obtain ⟨d, vs, rfl, hd, h⟩ := args_cons h
  obtain rfl := args_nil h
  obtain ⟨s, bs, rfl, a1, a2, a3⟩ := arg_bytes Try.underlying22 Try.underlying5 rfl ha
  obtain ⟨t, cs, rfl, b1, b2, b3⟩ := arg_bytes Try.underlying22 Try.underlying5 rfl hb
  obtain ⟨x, rfl⟩ := arg_bool Try.underlying4 hc
  obtain ⟨q, rfl, e1, e2⟩ := arg_int Try.underlying3 hd
  exact ⟨40, diskMove_run (Nat.le_refl _) (byPlan _) a1 b1 a3⟩
end Go.Proofs.Ytahhajakgakdhaa
namespace Go.Proofs.Ytahhajakgakdhaa
set_option maxRecDepth 100000
open Go Go.AM Go.AM.St
theorem norm_mod (x : Int) (c : Nat) (h0 : 0 < c) (h1 : c < 1000) : ∃ N : Nat, N < c ∧ (IntKind.wrap .i64 (x.tmod (c : Int) + (c : Int))).tmod (c : Int) = (N : Int) := by
  have a1 := Int.tmod_lt_of_pos x (show (0 : Int) < (c : Int) by omega)
  have a2 := Int.lt_tmod_of_pos x (show (0 : Int) < (c : Int) by omega)
  rw [wrap_i64 (by omega) (by omega)]
  refine ⟨((x.tmod (c : Int) + (c : Int)).tmod (c : Int)).toNat, ?_, ?_⟩
  · have := Int.tmod_lt_of_pos (x.tmod (c : Int) + (c : Int)) (show (0 : Int) < (c : Int) by omega)
    omega
  · have := Int.tmod_nonneg (c : Int) (show 0 ≤ x.tmod (c : Int) + (c : Int) by omega)
    omega
def fV (k : Nat) : List FV := if k = 0 then [] else [⟨[120], List.range k, 0, false⟩]
theorem fV_app (k : Nat) : mApp [120] [k] (fV k) = fV (k + 1) := by
  unfold fV
  rw [if_neg (show ¬ k + 1 = 0 by omega), List.range_succ]
  by_cases h : k = 0
  · subst h; rfl
  · rw [if_neg h]; rfl
theorem fV_len (k : Nat) : ∀ x ∈ fV k, x.bytes.length ≤ k := fun x hx => by
  unfold fV at hx
  split at hx
  · simp at hx
  · rw [List.mem_singleton] at hx; subst hx; simp
theorem fV_one (k : Nat) : (fV k).length ≤ 1 := by unfold fV; split <;> simp
theorem fV_syn (k : Nat) : ∀ x ∈ fV k, x.synced = 0 := fun x hx => by
  unfold fV at hx
  split at hx
  · simp at hx
  · rw [List.mem_singleton] at hx; subst hx; rfl
theorem fV_crash {k : Nat} (hk : k ≤ 100) : (fV k).filterMap (mCrash 100) = if k = 0 then [] else [⟨[120], List.range k, k, true⟩] := by
  unfold fV
  split
  · rfl
  · rw [List.filterMap_cons]
    have e : kept 100 k 0 = k := by unfold kept; omega
    have : mCrash 100 ⟨[120], List.range k, 0, false⟩ = some ⟨[120], List.range k, k, true⟩ := by
      unfold mCrash
      simp only [List.length_range, e]
      rw [if_neg (by omega), List.take_of_length_le (by simp)]
    rw [this]; rfl
attribute [local irreducible] IntKind.wrap Int.fdiv Int.tdiv Int.tmod BitVec.ofInt appendK sliceK indexAddrK ldK storeK seenK makeSliceK lookupK updateK deleteK mapK rangeK nextK keysF
variable {D : Drawer}
theorem diskFuse_run {n : Nat} (hn : 80 ≤ n) (hD : ByPlan Try.prog D) {x y : Int} {σ : H} : acall Try.prog tab D n 9 [.int .i64 x, .int .i64 y] σ isTrue = true := by
  obtain ⟨n, rfl, hn⟩ := up hn
  obtain ⟨N, hN, eN⟩ := norm_mod x 20 (by decide) (by decide)
  obtain ⟨M, hM, eM⟩ := norm_mod y 30 (by decide) (by decide)
  conv => lhs; whnf
  refine begun_spec ?_
  conv => lhs; whnf
  refine new_spec (by omega) fun σ3 B m p3 d3 f3 => ?_
  conv => lhs; whnf
  refine fuse_spec (by omega) d3 nofun fun _ σ4 d4 s4 => ?_
  replace d4 : DiskAt σ4 B m 0 [] (N : Int) false 0 := by
    have e : max (N : Int) (-1) = (N : Int) := by omega
    have h := d4
    rw [show (IntKind.wrap .i64 (x.tmod 20 + 20)).tmod 20 = (N : Int) from eN, e] at h
    exact h
  conv => lhs; whnf
  refine loop_rule (m := 195) (fun q fr τ => ∃ (z zn zm : Int) (i clock : Nat) (G : List FG), z = (i : Int) ∧ zn = (N : Int) ∧ zm = (M : Int) ∧ i + q = M ∧
    fr = [.int .i64 zn, .int .i64 zm, .bad, .bad, .bad, .bad, .ptr (some ⟨B, 0, 0, 4⟩), .int .i64 z, .bad, .bad, .bad, .bad, .bad, .bad, .bad, .bad, .bad, .bad, .bad, .bad, .bad, .bad, .bad, .bad, .bad, .bad, .bad, .bad, .bad, .bad, .bad, .bad, .bad, .bad, .bad, .bad, .bad, .bad, .bad, .bad, .bad, .bad, .bad, .bad, .bad, .bad, .bad, .bad, .bad, .bad, .bad, .bad, .bad, .bad, .bad, .bad, .bad, .bad, .bad, .bad, .bad, .bad, .bad, .bad, .bad, .bad, .bad, .bad, .bad, .bad, .bad, .bad, .bad, .bad, .bad, .bad, .bad, .bad, .bad, .bad, .bad, .bad, .bad, .bad] ∧ DiskAt τ B m clock G ((N - min i N : Nat) : Int) (decide (N < i)) (min i N) ∧ G.map FG.v = fV (min i N)) ?_ _ M _ _ (by omega)
    ⟨_, _, _, 0, 0, [], rfl, eN, eM, by omega, rfl, by
      rw [show min 0 N = 0 by omega]
      exact d4, by rw [show min 0 N = 0 by omega]; rfl⟩
  rintro q fr τ C ⟨z, zn, zm, i, clock, G, rfl, rfl, rfl, hi, rfl, d5, v5⟩ next fin
  conv => lhs; whnf
  by_cases hlt : i < M
  · rw [show decide ((i : Int) < (M : Int)) = true from decide_eq_true (by omega)]
    conv => lhs; whnf
    by_cases hge : N ≤ i
    · rw [show decide ((i : Int) ≥ (N : Int)) = true from decide_eq_true (by omega)]
      conv => lhs; whnf
      have d6 := d5.mono (List.prefix_append τ [AO.cells [.int .u8 (IntKind.wrap .u8 (i : Int))] 1 .own])
      have b6 : Rw (τ ++ [AO.cells [.int .u8 (IntKind.wrap .u8 (i : Int))] 1 .own]) 1 (.at τ.length 0 1) 1 (u8s [i]) := by
        rw [wrap_u8 (show i < 256 by omega)]
        exact Rw.new _ _ rfl
      have e5 : min i N = N := by omega
      rw [e5] at d6 v5
      by_cases hN2 : N < i
      · rw [decide_eq_true hN2] at d6
        refine app_spec (name := [120]) (by omega) d6 (by omega) (by omega) (by omega) b6 (fun g hg => by
          have := bytes_le v5 (fV_len _) g hg
          show _ + 1 ≤ _
          omega) (by show 1 ≤ _; omega) (fun _ => ?_) nofun nofun nofun
        conv => lhs; whnf
        refine next (q - 1) _ _ (by omega) ⟨_, _, _, i + 1, clock, G, inc_i64 (by omega), rfl, rfl, by omega, rfl, ?_, ?_⟩
        · rw [show min (i + 1) N = N by omega, decide_eq_true (show N < i + 1 by omega)]
          exact d6
        · rw [show min (i + 1) N = N by omega]
          exact v5
      · rw [decide_eq_false hN2] at d6
        refine app_spec (name := [120]) (by omega) d6 (by omega) (by omega) (by omega) b6 (fun g hg => by
          have := bytes_le v5 (fV_len _) g hg
          show _ + 1 ≤ _
          omega) (by show 1 ≤ _; omega) nofun (fun _ h => by cases h) (fun _ _ _ σ7 d7 s7 => ?_) fun _ _ h => absurd h (by omega)
        conv => lhs; whnf
        refine next (q - 1) _ _ (by omega) ⟨_, _, _, i + 1, clock, G, inc_i64 (by omega), rfl, rfl, by omega, rfl, ?_, ?_⟩
        · rw [show min (i + 1) N = N by omega, decide_eq_true (show N < i + 1 by omega)]
          exact d7
        · rw [show min (i + 1) N = N by omega]
          exact v5
    · rw [show decide ((i : Int) ≥ (N : Int)) = false from decide_eq_false (by omega)]
      conv => lhs; whnf
      have d6 := d5.mono (List.prefix_append τ [AO.cells [.int .u8 (IntKind.wrap .u8 (i : Int))] 1 .own])
      have b6 : Rw (τ ++ [AO.cells [.int .u8 (IntKind.wrap .u8 (i : Int))] 1 .own]) 1 (.at τ.length 0 1) 1 (u8s [i]) := by
        rw [wrap_u8 (show i < 256 by omega)]
        exact Rw.new _ _ rfl
      have e5 : min i N = i := by omega
      rw [e5, decide_eq_false (show ¬ N < i by omega)] at d6
      rw [e5] at v5
      refine app_spec (name := [120]) (by omega) d6 (by omega) (by omega) (by omega) b6 (fun g hg => by
        have := bytes_le v5 (fV_len _) g hg
        show _ + 1 ≤ _
        omega) (by show 1 ≤ _; omega) nofun (fun _ h => by cases h) (fun _ _ h => by omega) fun _ _ _ σ7 c7 G7 d7 v7 s7 => ?_
      conv => lhs; whnf
      refine next (q - 1) _ _ (by omega) ⟨_, _, _, i + 1, c7, G7, inc_i64 (by omega), rfl, rfl, by omega, rfl, ?_, ?_⟩
      · rw [show min (i + 1) N = i + 1 by omega, decide_eq_false (show ¬ N < i + 1 by omega)]
        rw [show max (((N - i : Nat) : Int) - 1) (-1) = ((N - (i + 1) : Nat) : Int) by omega] at d7
        exact d7
      · rw [show min (i + 1) N = i + 1 by omega, v7, v5, fV_app]
  · rw [show decide ((i : Int) < (M : Int)) = false from decide_eq_false (by omega)]
    conv => lhs; whnf
    refine fin _ _ _ nofun ?_
    obtain rfl : i = M := by omega
    have hk : min i N ≤ 20 := by omega
    have km : (bif true then (if (i : Int) < (N : Int) then (i : Int) else (N : Int)) else (if (N : Int) < (i : Int) then (i : Int) else (N : Int))) = ((min i N : Nat) : Int) := by
      simp only [cond_true]
      split <;> omega
    have kg : decide ((i : Int) > (N : Int)) = decide (N < i) := by
      rw [Bool.eq_iff_iff, decide_eq_true_eq, decide_eq_true_eq]; omega
    generalize hkk : min i N = k at d5 v5 hk km
    conv => lhs; whnf
    rw [kg]
    cases hdn : decide (N < i) with
    | true =>
      rw [hdn] at d5
      conv => lhs; whnf
      refine down_spec (by omega) d5 ?_
      conv => lhs; whnf
      refine ops_spec (by omega) d5 ?_
      conv => lhs; whnf
      rw [km, show (!((k : Int) == (k : Int))) = false by simp]
      conv => lhs; whnf
      refine crash_spec (by have := congrArg List.length v5; rw [List.length_map] at this; have := fV_one k; omega) hD d5 (synced_le v5 (k := 1000000000) fun x hx => by have h1 := fV_len k x hx; have h2 := fV_syn k x hx; omega) fun σ6 G6 d6 v6 s6 => ?_
      rw [v5, fV_crash (by omega)] at v6
      by_cases hz : k = 0
      · subst hz
        replace v6 : G6.map FG.v = [] := v6
        obtain rfl : G6 = [] := List.map_eq_nil_iff.1 v6
        conv => lhs; whnf
        refine read_spec (name := [120]) (by omega) d6 (fun g hg => by simp at hg) nofun (fun _ _ => ?_) fun _ x hx => by cases hx
        conv => lhs; whnf
        refine down_spec (by omega) d6 ?_
        conv => lhs; whnf
        rw [km]
        conv => lhs; whnf
        rw [km]
        conv => lhs; whnf
      · rw [if_neg hz] at v6
        conv => lhs; whnf
        refine read_spec (name := [120]) (by omega) d6 (bytes_le v6 fun x hx => by rw [List.mem_singleton] at hx; subst hx; show (List.range k).length ≤ _; rw [List.length_range]; omega) nofun (fun _ h => by rw [v6] at h; cases h) fun _ x hx o7 a7 σ7 p7 _ r7 => ?_
        obtain rfl : x = ⟨[120], List.range k, k, true⟩ := by rw [v6] at hx; exact (Option.some.inj hx).symm
        conv => lhs; whnf
        refine down_spec (by omega) (d6.mono p7) ?_
        conv => lhs; whnf
        rw [km, show decide ((k : Int) > 0) = true from decide_eq_true (by omega)]
        conv => lhs; whnf
        rw [km, show (((List.range k).length : Nat) : Int) = (k : Int) by rw [List.length_range], show ((k : Int) == (k : Int)) = true by simp]
        conv => lhs; whnf
    | false =>
      rw [hdn] at d5
      conv => lhs; whnf
      refine down_spec (by omega) d5 ?_
      conv => lhs; whnf
      refine ops_spec (by omega) d5 ?_
      conv => lhs; whnf
      rw [km, show (!((k : Int) == (k : Int))) = false by simp]
      conv => lhs; whnf
      refine crash_spec (by have := congrArg List.length v5; rw [List.length_map] at this; have := fV_one k; omega) hD d5 (synced_le v5 (k := 1000000000) fun x hx => by have h1 := fV_len k x hx; have h2 := fV_syn k x hx; omega) fun σ6 G6 d6 v6 s6 => ?_
      rw [v5, fV_crash (by omega)] at v6
      by_cases hz : k = 0
      · subst hz
        replace v6 : G6.map FG.v = [] := v6
        obtain rfl : G6 = [] := List.map_eq_nil_iff.1 v6
        conv => lhs; whnf
        refine read_spec (name := [120]) (by omega) d6 (fun g hg => by simp at hg) nofun (fun _ _ => ?_) fun _ x hx => by cases hx
        conv => lhs; whnf
        refine down_spec (by omega) d6 ?_
        conv => lhs; whnf
        rw [km]
        conv => lhs; whnf
        rw [km]
        conv => lhs; whnf
      · rw [if_neg hz] at v6
        conv => lhs; whnf
        refine read_spec (name := [120]) (by omega) d6 (bytes_le v6 fun x hx => by rw [List.mem_singleton] at hx; subst hx; show (List.range k).length ≤ _; rw [List.length_range]; omega) nofun (fun _ h => by rw [v6] at h; cases h) fun _ x hx o7 a7 σ7 p7 _ r7 => ?_
        obtain rfl : x = ⟨[120], List.range k, k, true⟩ := by rw [v6] at hx; exact (Option.some.inj hx).symm
        conv => lhs; whnf
        refine down_spec (by omega) (d6.mono p7) ?_
        conv => lhs; whnf
        rw [km, show decide ((k : Int) > 0) = true from decide_eq_true (by omega)]
        conv => lhs; whnf
        rw [km, show (((List.range k).length : Nat) : Int) = (k : Int) by rw [List.length_range], show ((k : Int) == (k : Int)) = true by simp]
        conv => lhs; whnf
theorem diskFuse_law (σ : H) (vs : List AV) (h : ArgsShp Try.prog σ 9 [3, 3] vs) : ∃ n, acall Try.prog tab (drawRegion Try.prog) n 9 vs σ isTrue = true := by
  obtain ⟨a, vs, rfl, ha, h⟩ := args_cons h
  obtain ⟨b, vs, rfl, hb, h⟩ := args_cons h
  obtain rfl := args_nil h
  obtain ⟨x, rfl, _, _⟩ := arg_int Try.underlying3 ha
  obtain ⟨y, rfl, _, _⟩ := arg_int Try.underlying3 hb
  exact ⟨80, diskFuse_run (Nat.le_refl _) (byPlan _)⟩
end Go.Proofs.Ytahhajakgakdhaa
namespace Go.Proofs.Ytahhajakgakdhaa
set_option maxRecDepth 100000
open Go Go.AM Go.AM.St
/-- Bytes that are ours alone. -/
def OwnB (σ : H) (F : Nat → Prop) (a : SA) (bs : List Nat) : Prop :=
  (bs = [] ∧ (a = .nil ∨ a = .zero)) ∨ ∃ id, a = .at id 0 1 ∧ σ[id]? = some (.cells (u8s bs) 1 .own) ∧ ¬ F id
theorem OwnB.rw {σ : H} {F : Nat → Prop} {a : SA} {bs : List Nat} (h : OwnB σ F a bs) : Rw σ 1 a bs.length (u8s bs) := by
  rcases h with ⟨rfl, rfl | rfl⟩ | ⟨id, rfl, h, _⟩
  · exact Rw.nil _ _
  · exact Rw.zero _ _
  · exact .inr (.inr ⟨id, 0, _, _, rfl, h, by rw [u8s_len]; omega, by rw [List.drop_zero, List.take_of_length_le (by rw [u8s_len]; omega)]⟩)
theorem OwnB.keep {σ σ' : H} {F F' : Nat → Prop} {a : SA} {bs : List Nat} (h : OwnB σ F a bs) (hk : ∀ id, id < σ.length → ¬ F id → σ'[id]? = σ[id]? ∧ ¬ F' id) : OwnB σ' F' a bs := by
  rcases h with h | ⟨id, rfl, h, hF⟩
  · exact .inl h
  · obtain ⟨h1, h2⟩ := hk id (get_lt h) hF
    exact .inr ⟨id, rfl, h1.trans h, h2⟩
theorem xor_byte {b : Nat} (h : b < 256) : IntKind.wrap .u8 (((BitVec.ofInt IntKind.u8.bits (b : Int)) ^^^ (BitVec.ofInt IntKind.u8.bits 85)).toNat : Int) = ((b ^^^ 85 : Nat) : Int) := xor_nat rfl rfl rfl h (by decide)
attribute [local irreducible] IntKind.wrap Int.fdiv Int.tdiv Int.tmod BitVec.ofInt appendK sliceK indexAddrK ldK storeK seenK makeSliceK lookupK updateK deleteK mapK rangeK nextK keysF
variable {D : Drawer}
variable {B m clock ops : Nat} {G G1 G2 : List FG} {left : Int} {down : Bool} {σ : H}
theorem short_own {n : Nat} (hn : 1 ≤ n) {a : SA} {bs : List Nat} {m : Nat} {y : Int} (hy : y = (m : Int)) (hm : m ≤ 1000) {σ : H} (ha : Rw σ 1 a bs.length (u8s bs)) (K : AV → H → Bool)
    (hK : ∀ a σ', σ <+: σ' → OwnB σ' (fun id => id < σ.length) a (bs.take m) → K (.sl a (bs.take m).length) σ' = true) : acall Try.prog tab D n 16 [.sl a bs.length, .int .i64 y] σ K = true := by
  subst hy
  obtain ⟨n, rfl, hn⟩ := up hn
  conv => lhs; whnf
  refine bt.slice ha 0 (min bs.length m) (.inl ⟨rfl, rfl⟩) (.inr ⟨_, _, rfl, ?_⟩) (Nat.zero_le _) (Nat.min_le_left _ _) (bs.take m) ?_ fun a' ha' => ?_
  · show (if _ then _ else _) = _
    split <;> omega
  · rw [List.drop_zero, Nat.min_comm, ← List.take_take, List.take_of_length_le (Nat.le_refl _)]
  conv => lhs; whnf
  have hl : (bs.take m).length ≤ 1000 := by rw [List.length_take]; omega
  refine appendZero Try.underlying22 rfl rfl rfl ha' (by show _ * 1 ≤ _; omega) (.inl rfl) (fun h0 => ?_) (fun h0 => ?_)
  · have := hK .nil σ List.prefix_rfl (.inl ⟨List.length_eq_zero_iff.1 h0, .inl rfl⟩)
    rw [h0] at this
    conv => lhs; whnf
    exact this
  · have := hK (.at σ.length 0 1) _ (List.prefix_append σ [AO.cells (u8s (bs.take m)) 1 .own]) (.inr ⟨_, rfl, get_new _ _, Nat.lt_irrefl _⟩)
    conv => lhs; whnf
    exact this
theorem clone_own {n : Nat} {s : SA} {N : Nat} {bs : List Nat} (hn : 1 ≤ n) (hm : bs.length ≤ 1000000000) (hs : Rw σ 1 s N (u8s bs)) {K : AV → H → Bool}
    (hK : ∀ a' σ', σ <+: σ' → OwnB σ' (fun id => id < σ.length) a' bs → K (.sl a' bs.length) σ' = true) : acall Try.prog tab D n 48 [.sl s N] σ K = true := by
  obtain ⟨n, rfl, hn⟩ := up hn
  have hN : N = bs.length := by have := hs.len; simp [u8s] at this; exact this.symm
  subst hN
  have hs' := hs
  rcases hs with ⟨rfl, h0, h00⟩ | ⟨rfl, h0, h00⟩ | ⟨id, off, xs, md, rfl, g1, g2, g3⟩
  · have := hK .nil σ List.prefix_rfl (.inl ⟨List.length_eq_zero_iff.1 h0, .inl rfl⟩)
    rw [h0] at this
    conv => lhs; whnf
    exact this
  all_goals
    conv => lhs; whnf
    refine appendZero Try.underlying22 rfl rfl rfl hs' (by show _ * 1 ≤ _; omega) (.inr rfl) (fun h0 => ?_) (fun h0 => ?_)
    · have := hK .zero σ List.prefix_rfl (.inl ⟨List.length_eq_zero_iff.1 h0, .inr rfl⟩)
      rw [h0] at this
      conv => lhs; whnf
      exact this
    · have := hK (.at σ.length 0 1) _ (List.prefix_append σ [AO.cells (u8s bs) 1 .own]) (.inr ⟨_, rfl, get_new _ _, Nat.lt_irrefl _⟩)
      conv => lhs; whnf
      exact this
theorem read_own {n : Nat} {name : List Nat} (hn : 3 ≤ n) (hd : DiskAt σ B m clock G left down ops) (hlen : ∀ g ∈ G, g.bytes.length ≤ 1000000000) {K : AV → H → Bool}
    (h0 : down = true → K (.tup [.sl .nil 0, .int .i64 7]) σ = true)
    (h1 : down = false → mFind name (G.map FG.v) = none → K (.tup [.sl .nil 0, .int .i64 3]) σ = true)
    (h2 : down = false → ∀ x, mFind name (G.map FG.v) = some x → ∀ a' σ', σ <+: σ' → OwnB σ' (fun id => id < σ.length) a' x.bytes → K (.tup [.sl a' x.bytes.length, .int .i64 0]) σ' = true) :
    acall Try.prog tab D n 21 [.ptr (some ⟨B, 0, 0, 4⟩), .str (ints name)] σ K = true := by
  obtain ⟨n, rfl, hn⟩ := up hn
  conv => lhs; whnf
  refine finds_spec (by omega) hd (fun hdn => ?_) (fun hdn hno => ?_) fun hdn G1 g G2 hG hg hno => ?_
  · conv => lhs; whnf
    exact h0 hdn
  · conv => lhs; whnf
    exact h1 hdn (mFind_none hno)
  subst hG
  have hf := mFind_some (G2 := G2) hg hno
  conv => lhs; whnf
  refine ldF Try.underlying22 rfl rfl (hd.files g (by simp)).row rfl ?_
  conv => lhs; whnf
  refine clone_own (by omega) (hlen g (by simp)) (hd.files g (by simp)).own.rw fun a' σ' hp hw => ?_
  have := h2 hdn _ hf a' σ' hp hw
  conv => lhs; whnf
  exact this
theorem diskOwn_run {n : Nat} (hn : 60 ≤ n) {a : SA} {as' : List Nat} (la : ∀ b ∈ as', b < 256) {σ : H} (ha : Rw σ 1 a as'.length (u8s as')) : acall Try.prog tab D n 6 [.sl a as'.length] σ isTrue = true := by
  obtain ⟨n, rfl, hn⟩ := up hn
  conv => lhs; whnf
  refine begun_spec ?_
  conv => lhs; whnf
  refine short_own (by omega) (m := 40) rfl (by decide) ha _ fun a1 σ1 p1 r1 => ?_
  have lx : ∀ b ∈ as'.take 40, b < 256 := fun b h => la b (List.mem_of_mem_take h)
  have sx : (as'.take 40).length ≤ 40 := by rw [List.length_take]; omega
  generalize as'.take 40 = xs at r1 lx sx ⊢
  conv => lhs; whnf
  refine strK_rw r1.rw lx ?_
  conv => lhs; whnf
  refine new_spec (by omega) fun σ3 B m p3 d3 f3 => ?_
  have e1 : max ((-1 : Int) - 1) (-1) = -1 := by decide
  have r3 : OwnB σ3 (Fp B m []) a1 xs := r1.keep fun id hl _ => ⟨by rw [prefix_get p3 (List.getElem?_eq_getElem hl), ← List.getElem?_eq_getElem hl], fun h => by have := f3 id h; omega⟩
  conv => lhs; whnf
  refine app_spec (name := [120]) (by omega) d3 (by decide) (by decide) (by decide) r3.rw (fun g hg => by simp at hg) (by omega) nofun (fun _ h => by cases h) (fun _ _ h => absurd h (by decide)) fun _ _ _ σ4 c4 G4 d4 v4 s4 => ?_
  rw [e1] at d4
  replace v4 : G4.map FG.v = [⟨[120], xs, 0, false⟩] := v4
  have r4 : OwnB σ4 (Fp B m G4) a1 xs := r3.keep fun id hl hf => ⟨s4.keep id hl hf, fun h => (s4.fp id h).elim hf fun h => by omega⟩
  conv => lhs; whnf
  refine loop_rule (m := 50331697) (fun q fr τ => ∃ (z : Int) (i : Nat) (zs : List Nat), z = (i : Int) ∧ i + q = xs.length ∧ zs.length = xs.length ∧ (∀ b ∈ zs, b < 256) ∧ OwnB τ (Fp B m G4) a1 zs ∧ DiskAt τ B m c4 G4 (-1) false 1 ∧
    fr = [.sl a1 xs.length, .bad, .bad, .bad, .str (ints xs), .ptr (some ⟨B, 0, 0, 4⟩), .bad, .bad, .bad, .bad, .bad, .bad, .bad, .bad, .bad, .bad, .bad, .bad, .bad, .bad, .bad, .bad, .bad, .bad, .int .i64 (xs.length : Int), .int .i64 z, .bad, .bad, .bad, .bad, .bad, .bad, .bad, .bad, .bad, .bad, .bad, .bad, .bad, .bad, .bad, .bad, .bad, .bad, .bad, .bad, .bad, .bad, .bad, .bad, .bad, .bad, .bad, .bad, .bad, .bad, .bad, .bad, .bad, .bad, .bad, .bad, .bad, .bad, .bad, .bad, .bad, .bad, .bad]) ?_ _ xs.length _ _ (by omega) ⟨_, 0, xs, rfl, by omega, rfl, lx, r4, d4, rfl⟩
  rintro q fr τ C ⟨z, i, zs, rfl, hi, hzl, lz, r5, d5, rfl⟩ next fin
  conv => lhs; whnf
  by_cases hlt : i < xs.length
  · rw [show decide ((i : Int) < (xs.length : Int)) = true from decide_eq_true (by omega)]
    rcases r5 with ⟨rfl, _⟩ | ⟨id, rfl, r5, hF⟩
    · simp at hzl; omega
    conv => lhs; whnf
    refine bt.idx0 rfl hlt ?_
    conv => lhs; whnf
    refine bt.ldAt r5 (by omega) ?_
    conv => lhs; whnf
    refine bt.idx0 rfl hlt ?_
    conv => lhs; whnf
    refine bt.store r5 (by omega) (xor_byte (lz _ (List.getElem_mem _))) ?_
    conv => lhs; whnf
    refine next (q - 1) _ _ (by omega) ⟨_, i + 1, _, inc_i64 (by omega), by omega, by rw [List.length_set]; exact hzl, fun b hb => ?_, .inr ⟨id, rfl, get_set r5 _, hF⟩, d5.keep fun j hj => List.getElem?_set_ne fun e => hF (by subst e; exact hj), rfl⟩
    rcases List.mem_or_eq_of_mem_set hb with h | h
    · exact lz b h
    · subst h; exact Nat.xor_lt_two_pow (n := 8) (lz _ (List.getElem_mem _)) (by decide)
  rw [show decide ((i : Int) < (xs.length : Int)) = false from decide_eq_false (by omega)]
  conv => lhs; whnf
  refine fin _ _ _ nofun ?_
  conv => lhs; whnf
  have g4 := bytes_le v4 (k := 1000000000) fun x hx => by rw [List.mem_singleton] at hx; subst hx; show xs.length ≤ _; omega
  refine read_own (name := [120]) (by omega) d5 g4 nofun (fun _ h => by rw [v4] at h; cases h) fun _ x hx a6 σ6 p6 r6 => ?_
  obtain rfl : x = ⟨[120], xs, 0, false⟩ := by rw [v4] at hx; exact (Option.some.inj hx).symm
  have d6 := d5.mono p6
  replace r6 : OwnB σ6 (Fp B m G4) a6 xs := r6.keep fun id _ hf => ⟨rfl, fun h => hf (Fp.lt d5 h)⟩
  conv => lhs; whnf
  refine strK_rw r6.rw lx ?_
  conv => lhs; whnf
  rw [show (ints xs == ints xs) = true from beq_self_eq_true _]
  conv => lhs; whnf
  refine loop_rule (m := 105553116266672) (fun q fr τ => ∃ (z : Int) (i : Nat) (zs : List Nat), z = (i : Int) ∧ i + q = xs.length ∧ zs.length = xs.length ∧ (∀ b ∈ zs, b < 256) ∧ OwnB τ (Fp B m G4) a6 zs ∧ DiskAt τ B m c4 G4 (-1) false 1 ∧
    fr = [.bad, .bad, .bad, .bad, .str (ints xs), .ptr (some ⟨B, 0, 0, 4⟩), .bad, .sl a6 xs.length, .bad, .bad, .bad, .bad, .bad, .bad, .bad, .bad, .bad, .bad, .bad, .bad, .bad, .bad, .bad, .bad, .bad, .bad, .bad, .bad, .bad, .bad, .bad, .bad, .bad, .bad, .bad, .bad, .bad, .bad, .bad, .bad, .bad, .bad, .bad, .bad, .bad, .int .i64 (xs.length : Int), .int .i64 z, .bad, .bad, .bad, .bad, .bad, .bad, .bad, .bad, .bad, .bad, .bad, .bad, .bad, .bad, .bad, .bad, .bad, .bad, .bad, .bad, .bad, .bad]) ?_ _ xs.length _ _ (by omega) ⟨_, 0, xs, rfl, by omega, rfl, lx, r6, d6, rfl⟩
  clear next fin hi hzl lz r5 d5 d6 r6 hlt
  rintro q fr τ C ⟨z, i, zs, rfl, hi, hzl, lz, r5, d5, rfl⟩ next fin
  conv => lhs; whnf
  by_cases hlt : i < xs.length
  · rw [show decide ((i : Int) < (xs.length : Int)) = true from decide_eq_true (by omega)]
    rcases r5 with ⟨rfl, _⟩ | ⟨id, rfl, r5, hF⟩
    · simp at hzl; omega
    conv => lhs; whnf
    refine bt.idx0 rfl hlt ?_
    conv => lhs; whnf
    refine bt.ldAt r5 (by omega) ?_
    conv => lhs; whnf
    refine bt.idx0 rfl hlt ?_
    conv => lhs; whnf
    refine bt.store r5 (by omega) (xor_byte (lz _ (List.getElem_mem _))) ?_
    conv => lhs; whnf
    refine next (q - 1) _ _ (by omega) ⟨_, i + 1, _, inc_i64 (by omega), by omega, by rw [List.length_set]; exact hzl, fun b hb => ?_, .inr ⟨id, rfl, get_set r5 _, hF⟩, d5.keep fun j hj => List.getElem?_set_ne fun e => hF (by subst e; exact hj), rfl⟩
    rcases List.mem_or_eq_of_mem_set hb with h | h
    · exact lz b h
    · subst h; exact Nat.xor_lt_two_pow (n := 8) (lz _ (List.getElem_mem _)) (by decide)
  rw [show decide ((i : Int) < (xs.length : Int)) = false from decide_eq_false (by omega)]
  conv => lhs; whnf
  refine fin _ _ _ nofun ?_
  conv => lhs; whnf
  refine read_own (name := [120]) (by omega) d5 g4 nofun (fun _ h => by rw [v4] at h; cases h) fun _ x hx a6 σ6 p6 r6 => ?_
  obtain rfl : x = ⟨[120], xs, 0, false⟩ := by rw [v4] at hx; exact (Option.some.inj hx).symm
  conv => lhs; whnf
  refine strK_rw r6.rw lx ?_
  conv => lhs; whnf
  rw [show (ints xs == ints xs) = true from beq_self_eq_true _]
  conv => lhs; whnf
theorem diskOwn_law (σ : H) (vs : List AV) (h : ArgsShp Try.prog σ 9 [22] vs) : ∃ n, acall Try.prog tab (drawRegion Try.prog) n 6 vs σ isTrue = true := by
  obtain ⟨a, vs, rfl, ha, h⟩ := args_cons h
  obtain rfl := args_nil h
  obtain ⟨s, bs, rfl, a1, a2, a3⟩ := arg_bytes Try.underlying22 Try.underlying5 rfl ha
  exact ⟨60, diskOwn_run (Nat.le_refl _) a3 a1⟩
end Go.Proofs.Ytahhajakgakdhaa
namespace Go.Proofs.Ytahhajakgakdhaa
set_option maxRecDepth 100000
open Go Go.AM Go.AM.St
/-- What a disk is, in plain words. -/
structure DS where
  V : List FV
  left : Int
  down : Bool
  ops : Nat
def mayN (name : List Nat) : Bool := !name.isEmpty && decide (name.length ≤ 200)
def dApp (name bs : List Nat) (S : DS) : DS × Nat :=
  if S.down = true then (S, 7) else if mayN name = false then (S, 1) else if S.left = 0 then (⟨S.V, S.left, true, S.ops⟩, 7) else (⟨mApp name bs S.V, max (S.left - 1) (-1), false, S.ops + 1⟩, 0)
def dSync (name : List Nat) (S : DS) : DS × Nat :=
  if S.down = true then (S, 7) else if mFind name S.V = none then (S, 3) else if S.left = 0 then (⟨S.V, S.left, true, S.ops⟩, 7) else (⟨mSync name S.V, max (S.left - 1) (-1), false, S.ops + 1⟩, 0)
def inFile (name : List Nat) (y : Int) (V : List FV) : Prop := ∃ x, mFind name V = some x ∧ 0 ≤ y ∧ y ≤ x.bytes.length
instance (name : List Nat) (y : Int) (V : List FV) : Decidable (inFile name y V) := by
  unfold inFile
  cases h : mFind name V with
  | none => exact isFalse fun ⟨x, h, _⟩ => by cases h
  | some x =>
    by_cases hx : 0 ≤ y ∧ y ≤ x.bytes.length
    · exact isTrue ⟨x, rfl, hx⟩
    · exact isFalse fun ⟨x', h, hx'⟩ => hx (Option.some.inj h ▸ hx')
def dCut (name : List Nat) (y : Int) (S : DS) : DS × Nat :=
  if S.down = true then (S, 7) else if mFind name S.V = none then (S, 3) else if ¬ inFile name y S.V then (S, 9) else if S.left = 0 then (⟨S.V, S.left, true, S.ops⟩, 7)
  else (⟨mCut name y.toNat S.V, max (S.left - 1) (-1), false, S.ops + 1⟩, 0)
def dMove (f t : List Nat) (S : DS) : DS × Nat :=
  if S.down = true then (S, 7) else if mFind f S.V = none then (S, 3) else if mayN t = false then (S, 1) else if S.left = 0 then (⟨S.V, S.left, true, S.ops⟩, 7)
  else (⟨mMove f t S.V, max (S.left - 1) (-1), false, S.ops + 1⟩, 0)
def dRead (name : List Nat) (S : DS) : List Nat × Nat :=
  if S.down = true then ([], 7) else match mFind name S.V with | none => ([], 3) | some x => (x.bytes, 0)
def dFuse (x : Int) (S : DS) : DS := if S.down = true then S else ⟨S.V, max x (-1), S.down, S.ops⟩
def dCrash (keep : Int) (S : DS) : DS := ⟨S.V.filterMap (mCrash keep), -1, false, S.ops⟩

def DV (σ : H) (B m : Nat) (S : DS) (F : Nat → Prop) : Prop := ∃ clock G, DiskAt σ B m clock G S.left S.down S.ops ∧ G.map FG.v = S.V ∧ F = Fp B m G
/-- What may be told of the heap behind an operation. -/
structure Stp (F F' : Nat → Prop) (σ σ' : H) : Prop where
  len : σ.length ≤ σ'.length
  keep : ∀ id, id < σ.length → ¬ F id → σ'[id]? = σ[id]?
  fp : ∀ id, F' id → F id ∨ σ.length ≤ id
  ext : Ext σ σ'
theorem Stp.refl {F : Nat → Prop} {σ : H} : Stp F F σ σ := ⟨Nat.le_refl _, fun _ _ _ => rfl, fun _ h => .inl h, Ext.of_prefix List.prefix_rfl⟩
theorem Stp.trans {F F' F'' : Nat → Prop} {σ σ1 σ2 : H} (h1 : Stp F F' σ σ1) (h2 : Stp F' F'' σ1 σ2) : Stp F F'' σ σ2 :=
  ⟨Nat.le_trans h1.len h2.len, fun id hl hf => (h2.keep id (Nat.lt_of_lt_of_le hl h1.len) fun h => by
      rcases h1.fp id h with h | h
      · exact hf h
      · omega).trans (h1.keep id hl hf), fun id h => by
    rcases h2.fp id h with h | h
    · exact h1.fp id h
    · exact .inr (Nat.le_trans h1.len h), h1.ext.trans h2.ext⟩
theorem Stp.pre {F : Nat → Prop} {σ σ' : H} (h : σ <+: σ') : Stp F F σ σ' :=
  ⟨prefix_len h, fun id hl _ => by rw [prefix_get h (List.getElem?_eq_getElem hl), List.getElem?_eq_getElem hl], fun _ h => .inl h, Ext.of_prefix h⟩
theorem Stp.of {B m : Nat} {G G' : List FG} {σ σ' : H} (h : Step B m G G' σ σ') : Stp (Fp B m G) (Fp B m G') σ σ' := ⟨h.len, h.keep, h.fp, h.ext⟩
theorem DV.lt {σ : H} {B m : Nat} {S : DS} {F : Nat → Prop} (h : DV σ B m S F) {id : Nat} (hf : F id) : id < σ.length := by
  obtain ⟨c, G, d, v, rfl⟩ := h
  exact Fp.lt d hf
theorem DV.keep {σ σ' : H} {B m : Nat} {S : DS} {F : Nat → Prop} (h : DV σ B m S F) (hk : ∀ id, F id → σ'[id]? = σ[id]?) : DV σ' B m S F := by
  obtain ⟨c, G, d, v, rfl⟩ := h
  exact ⟨c, G, d.keep hk, v, rfl⟩
theorem DV.mono {σ σ' : H} {B m : Nat} {S : DS} {F : Nat → Prop} (h : DV σ B m S F) (hp : σ <+: σ') : DV σ' B m S F :=
  h.keep fun id hf => by
    have hl := h.lt hf
    rw [prefix_get hp (List.getElem?_eq_getElem hl), List.getElem?_eq_getElem hl]
/-- A disk within bounds. -/
structure OkS (S : DS) (N k : Nat) : Prop where
  l1 : -1 ≤ S.left
  l2 : S.left ≤ 9223372036854775807
  o : S.ops ≤ N
  f : S.V.length ≤ N
  b : ∀ x ∈ S.V, x.bytes.length ≤ k ∧ x.synced ≤ x.bytes.length ∧ ∀ b ∈ x.bytes, b < 256
theorem OkS.mono {S : DS} {N k N' k' : Nat} (h : OkS S N k) (hN : N ≤ N') (hk : k ≤ k') : OkS S N' k' :=
  ⟨h.l1, h.l2, Nat.le_trans h.o hN, Nat.le_trans h.f hN, fun x hx => ⟨Nat.le_trans (h.b x hx).1 hk, (h.b x hx).2⟩⟩
theorem mem_mApp {name bs : List Nat} {x : FV} : ∀ {V : List FV}, x ∈ mApp name bs V → x ∈ V ∨ x = ⟨name, bs, 0, false⟩ ∨ ∃ y ∈ V, x = { y with bytes := y.bytes ++ bs }
  | [], h => by rw [mApp, List.mem_singleton] at h; exact .inr (.inl h)
  | y :: V, h => by
    rw [mApp] at h
    split at h
    · rcases List.mem_cons.1 h with rfl | h
      · exact .inr (.inr ⟨y, by simp, rfl⟩)
      · exact .inl (by simp [h])
    · rcases List.mem_cons.1 h with rfl | h
      · exact .inl (by simp)
      · rcases mem_mApp h with h | h | ⟨z, hz, h⟩
        · exact .inl (by simp [h])
        · exact .inr (.inl h)
        · exact .inr (.inr ⟨z, by simp [hz], h⟩)
theorem mApp_length {name bs : List Nat} : ∀ {V : List FV}, (mApp name bs V).length ≤ V.length + 1
  | [] => Nat.le_refl _
  | y :: V => by
    rw [mApp]
    split
    · simp
    · have := mApp_length (name := name) (bs := bs) (V := V)
      simp only [List.length_cons]; omega
theorem mem_mSync {name : List Nat} {x : FV} : ∀ {V : List FV}, x ∈ mSync name V → x ∈ V ∨ ∃ y ∈ V, x = { y with synced := y.bytes.length, lasts := true }
  | y :: V, h => by
    rw [mSync] at h
    split at h
    · rcases List.mem_cons.1 h with rfl | h
      · exact .inr ⟨y, by simp, rfl⟩
      · exact .inl (by simp [h])
    · rcases List.mem_cons.1 h with rfl | h
      · exact .inl (by simp)
      · rcases mem_mSync h with h | ⟨z, hz, h⟩
        · exact .inl (by simp [h])
        · exact .inr ⟨z, by simp [hz], h⟩
theorem mSync_length {name : List Nat} : ∀ {V : List FV}, (mSync name V).length = V.length
  | [] => rfl
  | y :: V => by
    rw [mSync]
    split
    · simp
    · simp only [List.length_cons]; rw [mSync_length]
theorem mem_mCut {name : List Nat} {k : Nat} {x : FV} : ∀ {V : List FV}, x ∈ mCut name k V → x ∈ V ∨ ∃ y ∈ V, mFind name (V) = some y ∧ x = ⟨y.name, y.bytes.take k, k, true⟩
  | y :: V, h => by
    rw [mCut] at h
    split at h
    · next hn =>
      rcases List.mem_cons.1 h with rfl | h
      · exact .inr ⟨y, by simp, by rw [mFind, if_pos hn], rfl⟩
      · exact .inl (by simp [h])
    · next hn =>
      rcases List.mem_cons.1 h with rfl | h
      · exact .inl (by simp)
      · rcases mem_mCut h with h | ⟨z, hz, hf, h⟩
        · exact .inl (by simp [h])
        · exact .inr ⟨z, by simp [hz], by rw [mFind, if_neg hn]; exact hf, h⟩
theorem mCut_length {name : List Nat} {k : Nat} : ∀ {V : List FV}, (mCut name k V).length = V.length
  | [] => rfl
  | y :: V => by
    rw [mCut]
    split
    · simp
    · simp only [List.length_cons]; rw [mCut_length]
theorem mem_mPut {y x : FV} : ∀ {V : List FV}, x ∈ mPut y V → x ∈ V ∨ x = y
  | [], h => by rw [mPut, List.mem_singleton] at h; exact .inr h
  | z :: V, h => by
    rw [mPut] at h
    split at h
    · rcases List.mem_cons.1 h with rfl | h
      · exact .inr rfl
      · exact .inl (by simp [h])
    · rcases List.mem_cons.1 h with rfl | h
      · exact .inl (by simp)
      · rcases mem_mPut h with h | h
        · exact .inl (by simp [h])
        · exact .inr h
theorem mPut_length {y : FV} : ∀ {V : List FV}, (mPut y V).length ≤ V.length + 1
  | [] => Nat.le_refl _
  | z :: V => by
    rw [mPut]
    split
    · simp
    · have := mPut_length (y := y) (V := V)
      simp only [List.length_cons]; omega
theorem mem_mDel {name : List Nat} {x : FV} : ∀ {V : List FV}, x ∈ mDel name V → x ∈ V
  | z :: V, h => by
    rw [mDel] at h
    split at h
    · exact List.mem_cons_of_mem _ h
    · rcases List.mem_cons.1 h with rfl | h
      · simp
      · exact List.mem_cons_of_mem _ (mem_mDel h)
theorem mDel_length {name : List Nat} {x : FV} : ∀ {V : List FV}, mFind name V = some x → (mDel name V).length + 1 = V.length
  | [], h => by cases h
  | z :: V, h => by
    rw [mFind] at h
    rw [mDel]
    split at h
    · next hn => rw [if_pos hn]; rfl
    · next hn => rw [if_neg hn, List.length_cons, List.length_cons, mDel_length h]
theorem mFind_mem {name : List Nat} {x : FV} : ∀ {V : List FV}, mFind name V = some x → x ∈ V ∧ x.name = name
  | [], h => by cases h
  | z :: V, h => by
    rw [mFind] at h
    split at h
    · next hn => cases h; exact ⟨by simp, hn⟩
    · exact ⟨List.mem_cons_of_mem _ (mFind_mem h).1, (mFind_mem h).2⟩
theorem left_turn {l : Int} (h1 : -1 ≤ l) (h2 : l ≤ 9223372036854775807) : -1 ≤ max (l - 1) (-1) ∧ max (l - 1) (-1) ≤ 9223372036854775807 := by omega
theorem OkS.app {S : DS} {N k : Nat} (h : OkS S N k) {name bs : List Nat} (hb : ∀ b ∈ bs, b < 256) : OkS (dApp name bs S).1 (N + 1) (k + bs.length) := by
  unfold dApp
  split
  · exact h.mono (by omega) (by omega)
  · split
    · exact h.mono (by omega) (by omega)
    · split
      · exact ⟨h.l1, h.l2, Nat.le_succ_of_le h.o, Nat.le_succ_of_le h.f, (h.mono (Nat.le_refl N) (Nat.le_add_right k bs.length)).b⟩
      · refine ⟨(left_turn h.l1 h.l2).1, (left_turn h.l1 h.l2).2, Nat.succ_le_succ h.o, Nat.le_trans mApp_length (Nat.succ_le_succ h.f), fun x hx => ?_⟩
        rcases mem_mApp hx with hx | rfl | ⟨y, hy, rfl⟩
        · obtain ⟨a, b, c⟩ := h.b x hx; exact ⟨by omega, b, c⟩
        · exact ⟨Nat.le_add_left _ _, Nat.zero_le _, hb⟩
        · obtain ⟨a, b, c⟩ := h.b y hy
          refine ⟨?_, ?_, fun b hb' => (List.mem_append.1 hb').elim (c b) (hb b)⟩
          · show (y.bytes ++ bs).length ≤ _
            rw [List.length_append]; omega
          · show y.synced ≤ (y.bytes ++ bs).length
            rw [List.length_append]; omega
theorem OkS.sync {S : DS} {N k : Nat} (h : OkS S N k) {name : List Nat} : OkS (dSync name S).1 (N + 1) k := by
  unfold dSync
  split
  · exact h.mono (by omega) (by omega)
  · split
    · exact h.mono (by omega) (by omega)
    · split
      · exact ⟨h.l1, h.l2, Nat.le_succ_of_le h.o, Nat.le_succ_of_le h.f, h.b⟩
      · refine ⟨(left_turn h.l1 h.l2).1, (left_turn h.l1 h.l2).2, Nat.succ_le_succ h.o, Nat.le_trans (Nat.le_of_eq mSync_length) (Nat.le_succ_of_le h.f), fun x hx => ?_⟩
        rcases mem_mSync hx with hx | ⟨y, hy, rfl⟩
        · exact h.b x hx
        · obtain ⟨a, b, c⟩ := h.b y hy
          exact ⟨a, Nat.le_refl _, c⟩
theorem OkS.cut {S : DS} {N k : Nat} (h : OkS S N k) {name : List Nat} {y : Int} : OkS (dCut name y S).1 (N + 1) k := by
  unfold dCut
  split
  · exact h.mono (by omega) (by omega)
  · split
    · exact h.mono (by omega) (by omega)
    · split
      · exact h.mono (by omega) (by omega)
      · next hin =>
        split
        · exact ⟨h.l1, h.l2, Nat.le_succ_of_le h.o, Nat.le_succ_of_le h.f, h.b⟩
        · refine ⟨(left_turn h.l1 h.l2).1, (left_turn h.l1 h.l2).2, Nat.succ_le_succ h.o, Nat.le_trans (Nat.le_of_eq mCut_length) (Nat.le_succ_of_le h.f), fun x hx => ?_⟩
          rcases mem_mCut hx with hx | ⟨z, hz, hf, rfl⟩
          · exact h.b x hx
          · obtain ⟨a, b, c⟩ := h.b z hz
            obtain ⟨z', hz', i1, i2⟩ := Classical.not_not.1 hin
            obtain rfl : z = z' := Option.some.inj (hf.symm.trans hz')
            refine ⟨?_, ?_, fun b hb => c b (List.mem_of_mem_take hb)⟩
            · show (z.bytes.take _).length ≤ _
              rw [List.length_take]; omega
            · show y.toNat ≤ (z.bytes.take _).length
              rw [List.length_take]; omega
theorem OkS.move {S : DS} {N k : Nat} (h : OkS S N k) {f t : List Nat} : OkS (dMove f t S).1 (N + 1) k := by
  unfold dMove
  split
  · exact h.mono (by omega) (by omega)
  · split
    · exact h.mono (by omega) (by omega)
    · next hno =>
      split
      · exact h.mono (by omega) (by omega)
      · split
        · exact ⟨h.l1, h.l2, Nat.le_succ_of_le h.o, Nat.le_succ_of_le h.f, h.b⟩
        · obtain ⟨x, hx⟩ := Option.ne_none_iff_exists'.1 hno
          refine ⟨(left_turn h.l1 h.l2).1, (left_turn h.l1 h.l2).2, Nat.succ_le_succ h.o, ?_, fun y hy => ?_⟩
          · have e : mMove f t S.V = mPut ⟨t, x.bytes, x.bytes.length, true⟩ (mDel f S.V) := by unfold mMove; rw [hx]
            show (mMove f t S.V).length ≤ _
            rw [e]
            have := mPut_length (y := ⟨t, x.bytes, x.bytes.length, true⟩) (V := mDel f S.V)
            have := mDel_length hx
            have := h.f
            omega
          · have e : mMove f t S.V = mPut ⟨t, x.bytes, x.bytes.length, true⟩ (mDel f S.V) := by unfold mMove; rw [hx]
            replace hy : y ∈ mMove f t S.V := hy
            rw [e] at hy
            rcases mem_mPut hy with hy | rfl
            · exact h.b y (mem_mDel hy)
            · obtain ⟨a, b, c⟩ := h.b x (mFind_mem hx).1
              exact ⟨a, Nat.le_refl _, c⟩
theorem OkS.fuse {S : DS} {N k : Nat} (h : OkS S N k) {x : Int} (hx : x ≤ 9223372036854775807) : OkS (dFuse x S) N k := by
  unfold dFuse
  split
  · exact h
  · exact ⟨by show -1 ≤ max x (-1); omega, by show max x (-1) ≤ _; omega, h.o, h.f, h.b⟩
theorem OkS.crash {S : DS} {N k : Nat} (h : OkS S N k) {keep : Int} : OkS (dCrash keep S) N k := by
  refine ⟨by show (-1 : Int) ≤ -1; decide, by show (-1 : Int) ≤ _; decide, h.o, Nat.le_trans (List.length_filterMap_le ..) h.f, fun x hx => ?_⟩
  obtain ⟨y, hy, hxy⟩ := List.mem_filterMap.1 hx
  obtain ⟨a, b, c⟩ := h.b y hy
  unfold mCrash at hxy
  split at hxy
  · cases hxy
  · cases hxy
    have hk : kept keep y.bytes.length y.synced ≤ y.bytes.length := by unfold kept; omega
    refine ⟨?_, ?_, fun b hb => c b (List.mem_of_mem_take hb)⟩
    · show (y.bytes.take _).length ≤ _
      rw [List.length_take]; omega
    · show kept keep y.bytes.length y.synced ≤ (y.bytes.take _).length
      rw [List.length_take]; omega
attribute [local irreducible] IntKind.wrap Int.fdiv Int.tdiv Int.tmod BitVec.ofInt appendK sliceK indexAddrK ldK storeK seenK makeSliceK lookupK updateK deleteK mapK rangeK nextK keysF
variable {D : Drawer}
variable {B m : Nat} {S : DS} {F : Nat → Prop} {σ : H} {N k : Nat}
theorem dv_new {n : Nat} (hn : 1 ≤ n) {K : AV → H → Bool} (hK : ∀ σ' B m F, σ <+: σ' → DV σ' B m ⟨[], -1, false, 0⟩ F → (∀ id, F id → σ.length ≤ id) → K (.ptr (some ⟨B, 0, 0, 4⟩)) σ' = true) :
    acall Try.prog tab D n 17 [] σ K = true := new_spec hn fun σ' B m p d f => hK σ' B m _ p ⟨0, [], d, rfl, rfl⟩ f
theorem dv_down {n : Nat} (hn : 1 ≤ n) (hd : DV σ B m S F) {K : AV → H → Bool} (hK : K (.bool S.down) σ = true) : acall Try.prog tab D n 34 [.ptr (some ⟨B, 0, 0, 4⟩)] σ K = true := by
  obtain ⟨c, G, d, v, rfl⟩ := hd
  exact down_spec hn d hK
theorem dv_ops {n : Nat} (hn : 1 ≤ n) (hd : DV σ B m S F) {K : AV → H → Bool} (hK : K (.int .i64 (S.ops : Int)) σ = true) : acall Try.prog tab D n 35 [.ptr (some ⟨B, 0, 0, 4⟩)] σ K = true := by
  obtain ⟨c, G, d, v, rfl⟩ := hd
  exact ops_spec hn d hK
theorem dv_fuse {n : Nat} {x : Int} (hn : 2 ≤ n) (hd : DV σ B m S F) {K : AV → H → Bool} (hK : ∀ σ' F', DV σ' B m (dFuse x S) F' → Stp F F' σ σ' → K (.tup []) σ' = true) :
    acall Try.prog tab D n 33 [.ptr (some ⟨B, 0, 0, 4⟩), .int .i64 x] σ K = true := by
  obtain ⟨c, G, d, v, rfl⟩ := hd
  refine fuse_spec hn d (fun h => ?_) fun h σ' d' s => ?_
  · exact hK σ _ (by unfold dFuse; rw [if_pos h]; exact ⟨c, G, d, v, rfl⟩) Stp.refl
  · exact hK σ' _ (by unfold dFuse; rw [if_neg (by rw [h]; decide)]; exact ⟨c, G, d', v, rfl⟩) (Stp.of s)
theorem dv_app {n : Nat} {name bs : List Nat} {ab : SA} {nb : Nat} (hn : 2 ≤ n) (hd : DV σ B m S F) (ho : OkS S N k) (hN : N < 1000000000) (hb : Rw σ 1 ab nb (u8s bs)) (hk : k + bs.length ≤ 1000000000) {K : AV → H → Bool}
    (hK : ∀ σ' F', DV σ' B m (dApp name bs S).1 F' → Stp F F' σ σ' → K (.int .i64 ((dApp name bs S).2 : Nat)) σ' = true) :
    acall Try.prog tab D n 18 [.ptr (some ⟨B, 0, 0, 4⟩), .str (ints name), .sl ab nb] σ K = true := by
  obtain ⟨c, G, d, v, rfl⟩ := hd
  refine app_spec hn d ho.l1 ho.l2 (by have := ho.o; omega) hb (fun g hg => by have := (ho.b _ (mem_of_map v hg)).1; show g.v.bytes.length + _ ≤ _; omega) (by omega) (fun h => ?_) (fun h h1 => ?_) (fun h h1 h2 σ' d' s => ?_) fun h h1 h2 σ' c' G' d' v' s => ?_
  · have e : dApp name bs S = (S, 7) := if_pos h
    rw [e] at hK
    exact hK σ _ ⟨c, G, d, v, rfl⟩ Stp.refl
  · have e : dApp name bs S = (S, 1) := by unfold dApp; rw [if_neg (by rw [h]; decide), if_pos (show mayN name = false from h1)]
    rw [e] at hK
    exact hK σ _ ⟨c, G, d, v, rfl⟩ Stp.refl
  · have e : dApp name bs S = (⟨S.V, S.left, true, S.ops⟩, 7) := by unfold dApp; rw [if_neg (by rw [h]; decide), if_neg (by unfold mayN; rw [h1]; decide), if_pos h2]
    rw [e] at hK
    exact hK σ' _ ⟨c, G, d', v, rfl⟩ (Stp.of s)
  · have e : dApp name bs S = (⟨mApp name bs S.V, max (S.left - 1) (-1), false, S.ops + 1⟩, 0) := by unfold dApp; rw [if_neg (by rw [h]; decide), if_neg (by unfold mayN; rw [h1]; decide), if_neg h2]
    rw [e] at hK
    exact hK σ' _ ⟨c', G', d', by rw [v', v], rfl⟩ (Stp.of s)
theorem dv_sync {n : Nat} {name : List Nat} (hn : 3 ≤ n) (hd : DV σ B m S F) (ho : OkS S N k) (hN : N < 1000000000) {K : AV → H → Bool}
    (hK : ∀ σ' F', DV σ' B m (dSync name S).1 F' → Stp F F' σ σ' → K (.int .i64 ((dSync name S).2 : Nat)) σ' = true) :
    acall Try.prog tab D n 19 [.ptr (some ⟨B, 0, 0, 4⟩), .str (ints name)] σ K = true := by
  obtain ⟨c, G, d, v, rfl⟩ := hd
  refine sync_spec hn d ho.l1 ho.l2 (by have := ho.o; omega) (fun h => ?_) (fun h h1 => ?_) (fun h x h1 h2 σ' d' s => ?_) fun h x h1 h2 σ' G' d' v' s => ?_
  · have e : dSync name S = (S, 7) := if_pos h
    rw [e] at hK
    exact hK σ _ ⟨c, G, d, v, rfl⟩ Stp.refl
  · rw [v] at h1
    have e : dSync name S = (S, 3) := by unfold dSync; rw [if_neg (by rw [h]; decide), if_pos h1]
    rw [e] at hK
    exact hK σ _ ⟨c, G, d, v, rfl⟩ Stp.refl
  · rw [v] at h1
    have e : dSync name S = (⟨S.V, S.left, true, S.ops⟩, 7) := by unfold dSync; rw [if_neg (by rw [h]; decide), if_neg (by rw [h1]; nofun), if_pos h2]
    rw [e] at hK
    exact hK σ' _ ⟨c, G, d', v, rfl⟩ (Stp.of s)
  · rw [v] at h1
    have e : dSync name S = (⟨mSync name S.V, max (S.left - 1) (-1), false, S.ops + 1⟩, 0) := by unfold dSync; rw [if_neg (by rw [h]; decide), if_neg (by rw [h1]; nofun), if_neg h2]
    rw [e] at hK
    exact hK σ' _ ⟨c, G', d', by rw [v', v], rfl⟩ (Stp.of s)
theorem dv_cut {n : Nat} {name : List Nat} {y : Int} (hn : 3 ≤ n) (hd : DV σ B m S F) (ho : OkS S N k) (hN : N < 1000000000) (hk : k ≤ 1000000000) {K : AV → H → Bool}
    (hK : ∀ σ' F', DV σ' B m (dCut name y S).1 F' → Stp F F' σ σ' → K (.int .i64 ((dCut name y S).2 : Nat)) σ' = true) :
    acall Try.prog tab D n 42 [.ptr (some ⟨B, 0, 0, 4⟩), .str (ints name), .int .i64 y] σ K = true := by
  obtain ⟨c, G, d, v, rfl⟩ := hd
  refine cut_spec hn d ho.l1 ho.l2 (by have := ho.o; omega) (fun g hg => by have := (ho.b _ (mem_of_map v hg)).1; show g.v.bytes.length ≤ _; omega) (fun h => ?_) (fun h h1 => ?_) (fun h x h1 h2 => ?_) (fun h x h1 i1 i2 h2 σ' d' s => ?_) fun h x h1 i1 i2 h2 σ' G' d' v' s => ?_
  · have e : dCut name y S = (S, 7) := if_pos h
    rw [e] at hK
    exact hK σ _ ⟨c, G, d, v, rfl⟩ Stp.refl
  · rw [v] at h1
    have e : dCut name y S = (S, 3) := by unfold dCut; rw [if_neg (by rw [h]; decide), if_pos h1]
    rw [e] at hK
    exact hK σ _ ⟨c, G, d, v, rfl⟩ Stp.refl
  · rw [v] at h1
    have e : dCut name y S = (S, 9) := by
      unfold dCut
      rw [if_neg (by rw [h]; decide), if_neg (by rw [h1]; nofun), if_pos]
      rintro ⟨z, hz, i1, i2⟩
      obtain rfl : x = z := Option.some.inj (h1.symm.trans hz)
      exact h2 ⟨i1, i2⟩
    rw [e] at hK
    exact hK σ _ ⟨c, G, d, v, rfl⟩ Stp.refl
  · rw [v] at h1
    have e : dCut name y S = (⟨S.V, S.left, true, S.ops⟩, 7) := by unfold dCut; rw [if_neg (by rw [h]; decide), if_neg (by rw [h1]; nofun), if_neg (fun hc => hc ⟨x, h1, i1, i2⟩), if_pos h2]
    rw [e] at hK
    exact hK σ' _ ⟨c, G, d', v, rfl⟩ (Stp.of s)
  · rw [v] at h1
    have e : dCut name y S = (⟨mCut name y.toNat S.V, max (S.left - 1) (-1), false, S.ops + 1⟩, 0) := by unfold dCut; rw [if_neg (by rw [h]; decide), if_neg (by rw [h1]; nofun), if_neg (fun hc => hc ⟨x, h1, i1, i2⟩), if_neg h2]
    rw [e] at hK
    exact hK σ' _ ⟨c, G', d', by rw [v', v], rfl⟩ (Stp.of s)
theorem dv_move {n : Nat} {f t : List Nat} (hn : 3 ≤ n) (hd : DV σ B m S F) (ho : OkS S N k) (hN : N < 1000000000) {K : AV → H → Bool}
    (hK : ∀ σ' F', DV σ' B m (dMove f t S).1 F' → Stp F F' σ σ' → K (.int .i64 ((dMove f t S).2 : Nat)) σ' = true) :
    acall Try.prog tab D n 36 [.ptr (some ⟨B, 0, 0, 4⟩), .str (ints f), .str (ints t)] σ K = true := by
  obtain ⟨c, G, d, v, rfl⟩ := hd
  refine move_spec hn d ho.l1 ho.l2 (by have := ho.o; omega) (fun h => ?_) (fun h h1 => ?_) (fun h x h1 h2 => ?_) (fun h x h1 i1 h2 σ' d' s => ?_) fun h x h1 i1 h2 σ' c' G' d' v' s => ?_
  · have e : dMove f t S = (S, 7) := if_pos h
    rw [e] at hK
    exact hK σ _ ⟨c, G, d, v, rfl⟩ Stp.refl
  · rw [v] at h1
    have e : dMove f t S = (S, 3) := by unfold dMove; rw [if_neg (by rw [h]; decide), if_pos h1]
    rw [e] at hK
    exact hK σ _ ⟨c, G, d, v, rfl⟩ Stp.refl
  · rw [v] at h1
    have e : dMove f t S = (S, 1) := by unfold dMove; rw [if_neg (by rw [h]; decide), if_neg (by rw [h1]; nofun), if_pos (show mayN t = false from h2)]
    rw [e] at hK
    exact hK σ _ ⟨c, G, d, v, rfl⟩ Stp.refl
  · rw [v] at h1
    have e : dMove f t S = (⟨S.V, S.left, true, S.ops⟩, 7) := by unfold dMove; rw [if_neg (by rw [h]; decide), if_neg (by rw [h1]; nofun), if_neg (by unfold mayN; rw [i1]; decide), if_pos h2]
    rw [e] at hK
    exact hK σ' _ ⟨c, G, d', v, rfl⟩ (Stp.of s)
  · rw [v] at h1
    have e : dMove f t S = (⟨mMove f t S.V, max (S.left - 1) (-1), false, S.ops + 1⟩, 0) := by unfold dMove; rw [if_neg (by rw [h]; decide), if_neg (by rw [h1]; nofun), if_neg (by unfold mayN; rw [i1]; decide), if_neg h2]
    rw [e] at hK
    exact hK σ' _ ⟨c', G', d', by rw [v', v], rfl⟩ (Stp.of s)
theorem dv_read {n : Nat} {name : List Nat} (hn : 3 ≤ n) (hd : DV σ B m S F) (ho : OkS S N k) (hk : k ≤ 1000000000) {K : AV → H → Bool}
    (hK : ∀ a' σ', σ <+: σ' → OwnB σ' (fun id => id < σ.length) a' (dRead name S).1 → K (.tup [.sl a' (dRead name S).1.length, .int .i64 ((dRead name S).2 : Nat)]) σ' = true) :
    acall Try.prog tab D n 21 [.ptr (some ⟨B, 0, 0, 4⟩), .str (ints name)] σ K = true := by
  obtain ⟨c, G, d, v, rfl⟩ := hd
  refine read_own hn d (fun g hg => by have := (ho.b _ (mem_of_map v hg)).1; show g.v.bytes.length ≤ _; omega) (fun h => ?_) (fun h h1 => ?_) fun h x h1 a' σ' hp hw => ?_
  · have e : dRead name S = ([], 7) := if_pos h
    rw [e] at hK
    exact hK .nil σ List.prefix_rfl (.inl ⟨rfl, .inl rfl⟩)
  · rw [v] at h1
    have e : dRead name S = ([], 3) := by unfold dRead; rw [if_neg (by rw [h]; decide), h1]
    rw [e] at hK
    exact hK .nil σ List.prefix_rfl (.inl ⟨rfl, .inl rfl⟩)
  · rw [v] at h1
    have e : dRead name S = (x.bytes, 0) := by unfold dRead; rw [if_neg (by rw [h]; decide), h1]
    rw [e] at hK
    exact hK a' σ' hp hw
theorem dv_crash {n : Nat} (hD : ByPlan Try.prog D) (hd : DV σ B m S F) (ho : OkS S N k) (hn : N + 5 ≤ n) (hk : k ≤ 1000000000) {keep : Int} {K : AV → H → Bool}
    (hK : ∀ σ' F', DV σ' B m (dCrash keep S) F' → Stp F F' σ σ' → K (.tup []) σ' = true) :
    acall Try.prog tab D n 20 [.ptr (some ⟨B, 0, 0, 4⟩), .int .i64 keep] σ K = true := by
  obtain ⟨c, G, d, v, rfl⟩ := hd
  refine crash_spec (by have := ho.f; rw [← v, List.length_map] at this; omega) hD d (fun g hg => ?_) fun σ' G' d' v' s => hK σ' _ ⟨c, G', d', by rw [v', v]; rfl, rfl⟩ (Stp.of s)
  obtain ⟨h1, h2, _⟩ := ho.b _ (mem_of_map v hg)
  exact ⟨Nat.le_trans h1 hk, h2⟩
end Go.Proofs.Ytahhajakgakdhaa
