/- DiskKeep. -/
import Derived.Test.YtahhajakgakdhaaL5Crash
import Derived.Test.YtahhajakgakdhaaL1Mark
namespace Go.Proofs.Ytahhajakgakdhaa
set_option maxRecDepth 100000
open Go Go.AM Go.AM.St
attribute [local irreducible] IntKind.wrap Int.fdiv Int.tdiv Int.tmod BitVec.ofInt appendK sliceK indexAddrK ldK storeK seenK makeSliceK lookupK updateK deleteK mapK rangeK nextK
variable {D : Drawer}
theorem Step.base {B m L : Nat} {G G' : List FG} {σ σ' : H} (S : Step B m G G' σ σ') (hL : L ≤ σ.length) (hf : ∀ id, Fp B m G id → L ≤ id) : (∀ id, id < L → σ'[id]? = σ[id]?) ∧ (∀ id, Fp B m G' id → L ≤ id) ∧ L ≤ σ'.length :=
  ⟨fun id h => S.keep id (by omega) fun h' => by have := hf id h'; omega, fun id h => (S.fp id h).elim (hf id) fun h => by omega, Nat.le_trans hL S.len⟩
theorem rw_base {z n : Nat} {a : SA} {cs : List AV} {σ σ' : H} (h : Rw σ z a n cs) (hk : ∀ i, i < σ.length → σ'[i]? = σ[i]?) : Rw σ' z a n cs := by
  rcases h with h | h | ⟨i, off, xs', md', h1, h2, h3⟩
  · exact .inl h
  · exact .inr (.inl h)
  · exact .inr (.inr ⟨i, off, xs', md', h1, (hk i (get_lt h2)).trans h2, h3⟩)
theorem all_v {G : List FG} {x : FV} (h : G.map FG.v = [x]) : ∀ g ∈ G, g.v = x := fun g hg => by
  have := List.mem_map_of_mem (f := FG.v) hg
  rw [h] at this
  simpa using this
theorem len_v {G : List FG} {x : FV} (h : G.map FG.v = [x]) : G.length = 1 := by
  have := congrArg List.length h
  simpa using this

theorem slB2 {σ : H} {a : SA} {n k : Nat} {bs : List Nat} {y : Int} (hy : y = (k : Int)) (hv : Rw σ 1 a n (u8s bs)) (hk : k ≤ bs.length) {K : AV → Bool} (hK : ∀ a', Rw σ 1 a' k (u8s (bs.take k)) → K (.sl a' k) = true) :
    sliceK Try.prog 22 (.sl a n) none (some (.int .i64 y)) none K = true := by
  subst hy
  exact slB hv hk hK
theorem diskKeep_run {n : Nat} (hn : 40 ≤ n) (hD : ByPlan Try.prog D) {a b : SA} {as' bs : List Nat} {keep : Int} (hk1 : -9223372036854775808 ≤ keep) (hk2 : keep ≤ 9223372036854775807) {σ : H} (ha : Rw σ 1 a as'.length (u8s as')) (hb : Rw σ 1 b bs.length (u8s bs))
    (la : ∀ b ∈ as', b < 256) (lb : ∀ b ∈ bs, b < 256) : acall Try.prog tab D n 3 [.sl a as'.length, .sl b bs.length, .int .i64 keep] σ isTrue = true := by
  obtain ⟨n, rfl, hn⟩ := up hn
  conv => lhs; whnf
  refine begun_spec ?_
  conv => lhs; whnf
  refine short_spec (by omega) (m := 60) rfl (by decide) ha _ fun o1 a1 σ1 p1 r1 => ?_
  conv => lhs; whnf
  refine short_spec (by omega) (m := 60) rfl (by decide) (hb.mono p1) _ fun o2 b1 σ2 p2 r2 => ?_
  have lx : ∀ b ∈ as'.take 60, b < 256 := fun b h => la b (List.mem_of_mem_take h)
  have ly : ∀ b ∈ bs.take 60, b < 256 := fun b h => lb b (List.mem_of_mem_take h)
  have sx : (as'.take 60).length ≤ 60 := by rw [List.length_take]; omega
  have sy : (bs.take 60).length ≤ 60 := by rw [List.length_take]; omega
  generalize as'.take 60 = xs at r1 lx sx ⊢
  generalize bs.take 60 = ys at r2 ly sy ⊢
  have q1 := r1.rw.mono p2
  have q2 := r2.rw
  conv => lhs; whnf
  refine new_spec (by omega) fun σ3 B m p3 d3 f3 => ?_
  have e1 : max ((-1 : Int) - 1) (-1) = -1 := by decide
  conv => lhs; whnf
  refine app_spec (name := [120]) (by omega) d3 (by decide) (by decide) (by decide) (q1.mono p3) (fun g hg => by simp at hg) (by omega) nofun (fun _ h => by cases h) (fun _ _ h => absurd h (by decide)) fun _ _ _ σ4 c4 G4 d4 v4 s4 => ?_
  rw [e1] at d4
  replace v4 : G4.map FG.v = [⟨[120], xs, 0, false⟩] := v4
  conv => lhs; whnf
  refine sync_spec (name := [120]) (by omega) d4 (by decide) (by decide) (by decide) nofun (fun _ h => by rw [v4] at h; cases h) (fun _ _ _ h => absurd h (by decide)) fun _ _ _ _ σ5 G5 d5 v5 s5 => ?_
  rw [e1] at d5
  replace v5 : G5.map FG.v = [⟨[120], xs, xs.length, true⟩] := by rw [v5, v4]; rfl
  have B5 := (s4.trans s5).base (prefix_len p3) f3
  have q5 : Rw σ5 1 b1 ys.length (u8s ys) := rw_base q2 fun i hi => by rw [B5.1 i hi, prefix_get p3 (List.getElem?_eq_getElem hi), List.getElem?_eq_getElem hi]
  conv => lhs; whnf
  refine app_spec (name := [120]) (by omega) d5 (by decide) (by decide) (by decide) q5 (fun g hg => by
    have := congrArg FV.bytes (all_v v5 g hg)
    have e : g.bytes = xs := this
    rw [e]; omega) (by omega) nofun (fun _ h => by cases h) (fun _ _ h => absurd h (by decide)) fun _ _ _ σ6 c6 G6 d6 v6 s6 => ?_
  replace v6 : G6.map FG.v = [⟨[120], xs ++ ys, xs.length, true⟩] := by rw [v6, v5]; rfl
  have g6 := all_v v6
  have n6 := len_v v6
  conv => lhs; whnf
  refine crash_spec (by omega) hD d6 (fun g hg => by
    have h1 : g.bytes = xs ++ ys := congrArg FV.bytes (g6 g hg)
    have h2 : g.synced = xs.length := congrArg FV.synced (g6 g hg)
    rw [h1, h2, List.length_append]; omega) fun σ7 G7 d7 v7 s7 => ?_
  have hkept : kept keep (xs ++ ys).length xs.length = xs.length + min keep.toNat ys.length := by unfold kept; rw [List.length_append]; omega
  replace v7 : G7.map FG.v = [⟨[120], (xs ++ ys).take (xs.length + min keep.toNat ys.length), xs.length + min keep.toNat ys.length, true⟩] := by
    rw [v7, v6]
    show List.filterMap (mCrash keep) [⟨[120], xs ++ ys, xs.length, true⟩] = _
    rw [List.filterMap_cons]
    have : mCrash keep ⟨[120], xs ++ ys, xs.length, true⟩ = some ⟨[120], (xs ++ ys).take (xs.length + min keep.toNat ys.length), xs.length + min keep.toNat ys.length, true⟩ := by
      unfold mCrash
      show (if kept keep (xs ++ ys).length xs.length = 0 ∧ true = false then none else some (⟨[120], (xs ++ ys).take (kept keep (xs ++ ys).length xs.length), kept keep (xs ++ ys).length xs.length, true⟩ : FV)) = _
      rw [if_neg (by simp), hkept]
    rw [this]; rfl
  have hx : IntKind.wrap .i64 ((xs.length : Int) + (bif false then (if (if (ys.length : Int) < keep then (ys.length : Int) else keep) < (0 : Int) then (if (ys.length : Int) < keep then (ys.length : Int) else keep) else (0 : Int)) else (if (0 : Int) < (if (ys.length : Int) < keep then (ys.length : Int) else keep) then (if (ys.length : Int) < keep then (ys.length : Int) else keep) else (0 : Int)))) = ((xs.length + min keep.toNat ys.length : Nat) : Int) := by
    simp only [cond_false]
    rw [wrap_i64]
    all_goals split <;> split <;> omega
  generalize hK : xs.length + min keep.toNat ys.length = k at v7 hx
  have hkl : k ≤ (xs ++ ys).length := by rw [List.length_append]; omega
  have g7 := all_v v7
  conv => lhs; whnf
  refine read_spec (name := [120]) (by omega) d7 (fun g hg => by
    have h1 : g.bytes = (xs ++ ys).take k := congrArg FV.bytes (g7 g hg)
    rw [h1, List.length_take, List.length_append]; omega) nofun (fun _ h => by rw [v7] at h; cases h) fun _ x hx' o8 a8 σ8 p8 _ r8 => ?_
  obtain rfl : x = ⟨[120], (xs ++ ys).take k, k, true⟩ := by rw [v7] at hx'; exact (Option.some.inj hx').symm
  have B7 := ((s4.trans s5).trans (s6.trans s7)).base (prefix_len p3) f3
  have b8 : ∀ i, i < σ2.length → σ8[i]? = σ2[i]? := fun i hi => by
    have := B7.2.2
    rw [prefix_get p8 (List.getElem?_eq_getElem (by omega)), ← List.getElem?_eq_getElem (by omega), B7.1 i hi, prefix_get p3 (List.getElem?_eq_getElem hi), List.getElem?_eq_getElem hi]
  have t1 : Rw σ8 1 a1 xs.length (u8s xs) := rw_base q1 b8
  have t2 : Rw σ8 1 b1 ys.length (u8s ys) := rw_base q2 b8
  conv => lhs; whnf
  refine goK hD plan3x11 ord3x11 fun KK hKK => ?_
  have lz : ∀ b ∈ xs ++ ys, b < 256 := fun b h => (List.mem_append.1 h).elim (lx b) (ly b)
  have lk : ∀ b ∈ (xs ++ ys).take k, b < 256 := fun b h => lz b (List.mem_of_mem_take h)
  conv => lhs; whnf
  refine strK_rw r8.rw lk ?_
  conv => lhs; whnf
  refine bt.app (List.prefix_refl _) (xs := []) (Own.nil _ _ _) t1 _ rfl (by rw [List.nil_append]; omega) fun o9 a9 σ9 p9 _ _ _ r9 => ?_
  conv => lhs; whnf
  refine and_true (all_cons ?_ rfl) ?_
  · conv => lhs; whnf
    refine strK_rw (r8.rw.mono p9) lk ?_
    exact same_str _
  conv => lhs; whnf
  refine bt.app p9 r9 (t2.mono p9) (xs ++ ys) rfl (by rw [List.length_append]; omega) fun o10 a10 σ10 p10 _ _ _ r10 => ?_
  conv => lhs; whnf
  refine and_true (all_cons ?_ rfl) ?_
  · conv => lhs; whnf
    refine strK_rw (r8.rw.mono p10) lk ?_
    exact same_str _
  conv => lhs; whnf
  refine slB2 hx r10.rw hkl fun a11 r11 => ?_
  conv => lhs; whnf
  refine strK_rw r11 lk ?_
  conv => lhs; whnf
  simp only [beq_self_eq_true]
  conv => lhs; whnf
  subst hKK
  conv => lhs; whnf
theorem diskKeep_law (σ : H) (vs : List AV) (h : ArgsShp Try.prog σ 9 [22, 22, 3] vs) : ∃ n, acall Try.prog tab (drawRegion Try.prog) n 3 vs σ isTrue = true := by
  obtain ⟨a, vs, rfl, ha, h⟩ := args_cons h
  obtain ⟨b, vs, rfl, hb, h⟩ := args_cons h
  obtain ⟨c, vs, rfl, hc, h⟩ := args_cons h
  obtain rfl := args_nil h
  obtain ⟨s, bs, rfl, a1, a2, a3⟩ := arg_bytes Try.underlying22 Try.underlying5 rfl ha
  obtain ⟨t, cs, rfl, b1, b2, b3⟩ := arg_bytes Try.underlying22 Try.underlying5 rfl hb
  obtain ⟨q, rfl, e1, e2⟩ := arg_int Try.underlying3 hc
  exact ⟨40, diskKeep_run (Nat.le_refl _) (byPlan _) e1 e2 a1 b1 a3 b3⟩
end Go.Proofs.Ytahhajakgakdhaa
