/- DiskMove. -/
import Derived.Test.YtahhajakgakdhaaL5Move
namespace Go.Proofs.Ytahhajakgakdhaa
set_option maxRecDepth 100000
open Go Go.AM Go.AM.St
attribute [local irreducible] IntKind.wrap Int.fdiv Int.tdiv Int.tmod BitVec.ofInt appendK sliceK indexAddrK ldK storeK seenK makeSliceK lookupK updateK deleteK mapK rangeK nextK keysF
variable {D : Drawer}
theorem mem_of_map {G : List FG} {V : List FV} (h : G.map FG.v = V) {g : FG} (hg : g ∈ G) : g.v ∈ V := h ▸ List.mem_map_of_mem (f := FG.v) hg
theorem bytes_le {G : List FG} {V : List FV} (h : G.map FG.v = V) {k : Nat} (hV : ∀ x ∈ V, x.bytes.length ≤ k) : ∀ g ∈ G, g.bytes.length ≤ k := fun _ hg => hV _ (mem_of_map h hg)
theorem synced_le {G : List FG} {V : List FV} (h : G.map FG.v = V) {k : Nat} (hV : ∀ x ∈ V, x.bytes.length ≤ k ∧ x.synced ≤ x.bytes.length) : ∀ g ∈ G, g.bytes.length ≤ k ∧ g.synced ≤ g.bytes.length := fun _ hg => hV _ (mem_of_map h hg)
theorem mCrash_full {keep : Int} {name bs : List Nat} : mCrash keep ⟨name, bs, bs.length, true⟩ = some ⟨name, bs, bs.length, true⟩ := by
  unfold mCrash
  rw [if_neg (by simp)]
  have : kept keep bs.length bs.length = bs.length := by unfold kept; omega
  show some (⟨name, bs.take (kept keep bs.length bs.length), kept keep bs.length bs.length, true⟩ : FV) = _
  rw [this, List.take_length]
theorem diskMove_run {n : Nat} (hn : 40 ≤ n) (hD : ByPlan Try.prog D) {a b : SA} {as' bs : List Nat} {there : Bool} {keep : Int} {σ : H} (ha : Rw σ 1 a as'.length (u8s as')) (hb : Rw σ 1 b bs.length (u8s bs))
    (la : ∀ b ∈ as', b < 256) : acall Try.prog tab D n 10 [.sl a as'.length, .sl b bs.length, .bool there, .int .i64 keep] σ isTrue = true := by
  obtain ⟨n, rfl, hn⟩ := up hn
  conv => lhs; whnf
  refine begun_spec ?_
  conv => lhs; whnf
  refine short_spec (by omega) (m := 50) rfl (by decide) ha _ fun o1 a1 σ1 p1 r1 => ?_
  conv => lhs; whnf
  refine short_spec (by omega) (m := 50) rfl (by decide) (hb.mono p1) _ fun o2 b1 σ2 p2 r2 => ?_
  have lx : ∀ b ∈ as'.take 50, b < 256 := fun b h => la b (List.mem_of_mem_take h)
  have sx : (as'.take 50).length ≤ 50 := by rw [List.length_take]; omega
  have sy : (bs.take 50).length ≤ 50 := by rw [List.length_take]; omega
  generalize as'.take 50 = xs at r1 lx sx ⊢
  generalize bs.take 50 = ys at r2 sy ⊢
  have q1 := r1.rw.mono p2
  have q2 := r2.rw
  conv => lhs; whnf
  refine new_spec (by omega) fun σ3 B m p3 d3 f3 => ?_
  have e1 : max ((-1 : Int) - 1) (-1) = -1 := by decide
  conv => lhs; whnf
  refine app_spec (name := [102, 114, 111, 109]) (by omega) d3 (by decide) (by decide) (by decide) (q1.mono p3) (fun g hg => by simp at hg) (by omega) nofun (fun _ h => by cases h) (fun _ _ h => absurd h (by decide)) fun _ _ _ σ4 c4 G4 d4 v4 s4 => ?_
  rw [e1] at d4
  replace v4 : G4.map FG.v = [⟨[102, 114, 111, 109], xs, 0, false⟩] := v4
  cases there with
  | false =>
    conv => lhs; whnf
    refine move_spec (name := [102, 114, 111, 109]) (to' := [116, 111]) (by omega) d4 (by decide) (by decide) (by decide) nofun (fun _ h => by rw [v4] at h; cases h) (fun _ _ _ h => by cases h) (fun _ _ _ _ h => absurd h (by decide)) fun _ _ _ _ _ σ5 c5 G5 d5 v5 s5 => ?_
    rw [e1] at d5
    replace v5 : G5.map FG.v = [⟨[116, 111], xs, xs.length, true⟩] := by rw [v5, v4]; rfl
    conv => lhs; whnf
    refine crash_spec (by have := len_v v5; omega) hD d5 (synced_le v5 (k := 1000000000) fun x hx => by rw [List.mem_singleton] at hx; subst hx; exact ⟨by show xs.length ≤ _; omega, Nat.le_refl _⟩) fun σ6 G6 d6 v6 s6 => ?_
    replace v6 : G6.map FG.v = [⟨[116, 111], xs, xs.length, true⟩] := by rw [v6, v5, List.filterMap_cons, mCrash_full]; rfl
    conv => lhs; whnf
    refine read_spec (name := [116, 111]) (by omega) d6 (bytes_le v6 fun x hx => by rw [List.mem_singleton] at hx; subst hx; show xs.length ≤ _; omega) nofun (fun _ h => by rw [v6] at h; cases h) fun _ x hx o7 a7 σ7 p7 _ r7 => ?_
    obtain rfl : x = ⟨[116, 111], xs, xs.length, true⟩ := by rw [v6] at hx; exact (Option.some.inj hx).symm
    have d7 := d6.mono p7
    conv => lhs; whnf
    refine read_spec (name := [102, 114, 111, 109]) (by omega) d7 (bytes_le v6 fun x hx => by rw [List.mem_singleton] at hx; subst hx; show xs.length ≤ _; omega) nofun (fun _ h => ?_) fun _ x hx => by rw [v6] at hx; cases hx
    have B7 := (s4.trans (s5.trans s6)).base (prefix_len p3) f3
    have b8 : ∀ i, i < σ2.length → σ7[i]? = σ2[i]? := fun i hi => by
      have := B7.2.2
      rw [prefix_get p7 (List.getElem?_eq_getElem (by omega)), ← List.getElem?_eq_getElem (by omega), B7.1 i hi, prefix_get p3 (List.getElem?_eq_getElem hi), List.getElem?_eq_getElem hi]
    have t1 : Rw σ7 1 a1 xs.length (u8s xs) := rw_base q1 b8
    conv => lhs; whnf
    refine strK_rw (show Rw σ7 1 a7 xs.length (u8s xs) from r7.rw) lx ?_
    conv => lhs; whnf
    refine strK_rw t1 lx ?_
    conv => lhs; whnf
    rw [show (ints xs == ints xs) = true from beq_self_eq_true _]
    conv => lhs; whnf
    refine files_spec (by omega) d7 (by have := len_v v6; omega) nofun fun _ a9 σ9 p9 => ?_
    rw [len_v v6]
    conv => lhs; whnf
  | true =>
    have B4 := s4.base (prefix_len p3) f3
    have q5 : Rw σ4 1 b1 ys.length (u8s ys) := rw_base q2 fun i hi => by rw [B4.1 i hi, prefix_get p3 (List.getElem?_eq_getElem hi), List.getElem?_eq_getElem hi]
    conv => lhs; whnf
    refine app_spec (name := [116, 111]) (by omega) d4 (by decide) (by decide) (by decide) q5 (fun g hg => by
      have := bytes_le v4 (k := 50) (fun x hx => by rw [List.mem_singleton] at hx; subst hx; exact sx) g hg
      omega) (by omega) nofun (fun _ h => by cases h) (fun _ _ h => absurd h (by decide)) fun _ _ _ σ5 c5 G5 d5 v5 s5 => ?_
    rw [e1] at d5
    replace v5 : G5.map FG.v = [⟨[102, 114, 111, 109], xs, 0, false⟩, ⟨[116, 111], ys, 0, false⟩] := by rw [v5, v4]; rfl
    conv => lhs; whnf
    refine sync_spec (name := [116, 111]) (by omega) d5 (by decide) (by decide) (by decide) nofun (fun _ h => by rw [v5] at h; cases h) (fun _ _ _ h => absurd h (by decide)) fun _ _ _ _ σ6 G6 d6 v6 s6 => ?_
    rw [e1] at d6
    replace v6 : G6.map FG.v = [⟨[102, 114, 111, 109], xs, 0, false⟩, ⟨[116, 111], ys, ys.length, true⟩] := by rw [v6, v5]; rfl
    conv => lhs; whnf
    refine move_spec (name := [102, 114, 111, 109]) (to' := [116, 111]) (by omega) d6 (by decide) (by decide) (by decide) nofun (fun _ h => by rw [v6] at h; cases h) (fun _ _ _ h => by cases h) (fun _ _ _ _ h => absurd h (by decide)) fun _ _ _ _ _ σ7 c7 G7 d7 v7 s7 => ?_
    rw [e1] at d7
    replace v7 : G7.map FG.v = [⟨[116, 111], xs, xs.length, true⟩] := by rw [v7, v6]; rfl
    conv => lhs; whnf
    refine crash_spec (by have := len_v v7; omega) hD d7 (synced_le v7 (k := 1000000000) fun x hx => by rw [List.mem_singleton] at hx; subst hx; exact ⟨by show xs.length ≤ _; omega, Nat.le_refl _⟩) fun σ8 G8 d8 v8 s8 => ?_
    replace v8 : G8.map FG.v = [⟨[116, 111], xs, xs.length, true⟩] := by rw [v8, v7, List.filterMap_cons, mCrash_full]; rfl
    conv => lhs; whnf
    refine read_spec (name := [116, 111]) (by omega) d8 (bytes_le v8 fun x hx => by rw [List.mem_singleton] at hx; subst hx; show xs.length ≤ _; omega) nofun (fun _ h => by rw [v8] at h; cases h) fun _ x hx o9 a9 σ9 p9 _ r9 => ?_
    obtain rfl : x = ⟨[116, 111], xs, xs.length, true⟩ := by rw [v8] at hx; exact (Option.some.inj hx).symm
    have d9 := d8.mono p9
    conv => lhs; whnf
    refine read_spec (name := [102, 114, 111, 109]) (by omega) d9 (bytes_le v8 fun x hx => by rw [List.mem_singleton] at hx; subst hx; show xs.length ≤ _; omega) nofun (fun _ h => ?_) fun _ x hx => by rw [v8] at hx; cases hx
    have B9 := (s4.trans (s5.trans (s6.trans (s7.trans s8)))).base (prefix_len p3) f3
    have b9 : ∀ i, i < σ2.length → σ9[i]? = σ2[i]? := fun i hi => by
      have := B9.2.2
      rw [prefix_get p9 (List.getElem?_eq_getElem (by omega)), ← List.getElem?_eq_getElem (by omega), B9.1 i hi, prefix_get p3 (List.getElem?_eq_getElem hi), List.getElem?_eq_getElem hi]
    have t1 : Rw σ9 1 a1 xs.length (u8s xs) := rw_base q1 b9
    conv => lhs; whnf
    refine strK_rw (show Rw σ9 1 a9 xs.length (u8s xs) from r9.rw) lx ?_
    conv => lhs; whnf
    refine strK_rw t1 lx ?_
    conv => lhs; whnf
    rw [show (ints xs == ints xs) = true from beq_self_eq_true _]
    conv => lhs; whnf
    refine files_spec (by omega) d9 (by have := len_v v8; omega) nofun fun _ a9 σ10 p10 => ?_
    rw [len_v v8]
    conv => lhs; whnf
theorem diskMove_law (σ : H) (vs : List AV) (h : ArgsShp Try.prog σ 9 [22, 22, 4, 3] vs) : ∃ n, acall Try.prog tab (drawRegion Try.prog) n 10 vs σ isTrue = true := by
  obtain ⟨a, vs, rfl, ha, h⟩ := args_cons h
  obtain ⟨b, vs, rfl, hb, h⟩ := args_cons h
  obtain ⟨c, vs, rfl, hc, h⟩ := args_cons h
  obtain ⟨d, vs, rfl, hd, h⟩ := args_cons h
  obtain rfl := args_nil h
  obtain ⟨s, bs, rfl, a1, a2, a3⟩ := arg_bytes Try.underlying22 Try.underlying5 rfl ha
  obtain ⟨t, cs, rfl, b1, b2, b3⟩ := arg_bytes Try.underlying22 Try.underlying5 rfl hb
  obtain ⟨x, rfl⟩ := arg_bool Try.underlying4 hc
  obtain ⟨q, rfl, e1, e2⟩ := arg_int Try.underlying3 hd
  exact ⟨40, diskMove_run (Nat.le_refl _) (byPlan _) a1 b1 a3⟩
end Go.Proofs.Ytahhajakgakdhaa
