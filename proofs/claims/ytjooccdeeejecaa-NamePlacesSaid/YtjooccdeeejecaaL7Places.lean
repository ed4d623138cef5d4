/- The law on places. -/
import Derived.Test.YtjooccdeeejecaaL7Law
namespace Go.Proofs.Ytjooccdeeejecaa
open Go Go.AM Go.AM.St
attribute [local irreducible] IntKind.wrap Int.fdiv Int.tdiv Int.tmod BitVec.ofInt appendK sliceK indexAddrK ldK storeK seenK makeSliceK
set_option maxRecDepth 100000
variable {D : Drawer}

set_option maxHeartbeats 2000000 in
theorem places_run {n : Nat} (hn : 400 ≤ n) (hD : ByPlan Try.prog D) {bs : List Nat} (hb : ∀ b ∈ bs, b < 256) {c q : Int} (h2q : q ≤ 9223372036854775807) {x y z : Int × Int} {σ : H} :
    acall Try.prog tab D n 4 [.str (ints bs), .int .i64 c, .int .i64 q, idA x, idA y, idA z] σ isTrue = true := by
  obtain ⟨n, rfl, hn⟩ := up hn
  conv => lhs; whnf
  have g1 := get_old (get_old (get_new σ (AO.cells [AV.int .i64 x.1, .int .i64 x.2] 2 .own)) (AO.cells [AV.int .i64 y.1, .int .i64 y.2] 2 .own)) (AO.cells [AV.int .i64 z.1, .int .i64 z.2] 2 .own)
  have g2 := get_old (get_new (σ ++ [AO.cells [AV.int .i64 x.1, .int .i64 x.2] 2 .own]) (AO.cells [AV.int .i64 y.1, .int .i64 y.2] 2 .own)) (AO.cells [AV.int .i64 z.1, .int .i64 z.2] 2 .own)
  have g3 := get_new (σ ++ [AO.cells [AV.int .i64 x.1, .int .i64 x.2] 2 .own] ++ [AO.cells [AV.int .i64 y.1, .int .i64 y.2] 2 .own]) (AO.cells [AV.int .i64 z.1, .int .i64 z.2] 2 .own)
  refine begun_spec ?_
  conv => lhs; whnf
  refine sliceK_str Try.underlying9 0 (min bs.length 40) (.inl ⟨rfl, rfl⟩) (.inr ⟨_, _, rfl, ?_⟩) (Nat.zero_le _) (Nat.min_le_left _ _) (bs.take 40) ?_ ?_
  · simp [ints]; omega
  · rw [List.drop_zero, Nat.min_comm, ← List.take_take, List.take_length]
  have lz : ∀ b ∈ bs.take 40, b < 256 := fun b h => hb b (List.mem_of_mem_take h)
  have sz : (bs.take 40).length ≤ 40 := by rw [List.length_take]; omega
  show (splitB (.str (ints (bs.take 40))) _) = true
  generalize bs.take 40 = zs at lz sz ⊢
  conv => lhs; whnf
  refine bif_case (fun h => ?_) (fun h => ?_)
  · have h0 : 0 < q := by simpa using h
    conv => lhs; whnf
    refine bif_neg (by simp; omega) ?_
    conv => lhs; whnf
    refine bif_case (fun h => ?_) (fun h => ?_)
    · have hr : c.tmod q < 0 := by simpa using h
      have := tmod_lo (c := c) (n := q) (by omega)
      have hc : coordN c q = IntKind.i64.wrap (c.tmod q + q) := by
        unfold coordN
        rw [if_neg (by omega), if_pos hr, wrap_i64 (by omega) (by omega)]
      cases hxy : ltI x y
      · cases hyx : ltI y x
        · have heq : (x.1 == y.1 && (x.2 == y.2 && true)) = true := by
            have := ltI_tot (p := x) (q := y)
            rw [hxy, hyx] at this
            simp at this ⊢
            exact this
          as_aux_lemma =>
            conv => lhs; whnf
            refine hD.go plan4x10 ord4x10 ?_
            conv => lhs; whnf
            refine ldId g1 rfl (Nat.le_refl _) ?_
            conv => lhs; whnf
            refine ldId g2 rfl (Nat.le_refl _) ?_
            conv => lhs; whnf
            refine ldId g2 rfl (Nat.le_refl _) ?_
            conv => lhs; whnf
            refine ldId g1 rfl (Nat.le_refl _) ?_
            conv => lhs; whnf
            refine less16_spec (p := x) (q := y) (by omega) hD _ fun σ1 p1 => ?_
            have h1 := prefix_get p1 g1
            have h2 := prefix_get p1 g2
            have h3 := prefix_get p1 g3
            rw [hxy]
            conv => lhs; whnf
            refine and_true (all_cons (ldId h1 rfl (Nat.le_refl _) (same_id _)) (all_cons (ldId h2 rfl (Nat.le_refl _) (same_id _)) (all_skip rfl (all_skip rfl rfl)))) ?_
            conv => lhs; whnf
            refine less16_spec (p := y) (q := x) (by omega) hD _ fun σ2 p2 => ?_
            have k1 := prefix_get p2 h1
            have k2 := prefix_get p2 h2
            have k3 := prefix_get p2 h3
            rw [hyx]
            as_aux_lemma =>
              conv => lhs; whnf
              refine shard17_spec (by omega) h2q lz (by omega) _ fun σ3 p3 => ?_
              conv => lhs; whnf
              refine rshards_spec (by omega) lz (by omega) _ fun σ4 p4 => ?_
              have p24 := List.IsPrefix.trans p3 p4
              have l1 := prefix_get p24 k1
              have l2 := prefix_get p24 k2
              have l3 := prefix_get p24 k3
              conv => lhs; whnf
              refine bif_pos (by simp) ?_
              conv => lhs; whnf
              refine coord_spec (by omega) h2q _ ?_
              as_aux_lemma =>
                conv => lhs; whnf
                refine bif_pos (by rw [hc]; simp) ?_
                conv => lhs; whnf
                refine ldId l1 rfl (Nat.le_refl _) ?_
                conv => lhs; whnf
                refine ldId l2 rfl (Nat.le_refl _) ?_
                conv => lhs; whnf
                refine rless_spec (p := x) (q := y) (by omega) _ fun σ5 p5 => ?_
                have m1 := prefix_get p5 l1
                have m2 := prefix_get p5 l2
                have m3 := prefix_get p5 l3
                rw [hxy]
                conv => lhs; whnf
                refine ldId m1 rfl (Nat.le_refl _) ?_
                conv => lhs; whnf
                refine ldId m2 rfl (Nat.le_refl _) ?_
                conv => lhs; whnf
                refine bif_neg (by rw [heq]; rfl) ?_
                as_aux_lemma =>
                  rfl
        · have hne : (x.1 == y.1 && (x.2 == y.2 && true)) = false := by
            have := ltI_tot (p := x) (q := y)
            rw [hxy, hyx] at this
            simp at this ⊢
            intro e
            rcases this with t | t
            · exact absurd e t
            · exact t
          as_aux_lemma =>
            conv => lhs; whnf
            refine hD.go plan4x10 ord4x10 ?_
            conv => lhs; whnf
            refine ldId g1 rfl (Nat.le_refl _) ?_
            conv => lhs; whnf
            refine ldId g2 rfl (Nat.le_refl _) ?_
            conv => lhs; whnf
            refine ldId g2 rfl (Nat.le_refl _) ?_
            conv => lhs; whnf
            refine ldId g1 rfl (Nat.le_refl _) ?_
            conv => lhs; whnf
            refine less16_spec (p := x) (q := y) (by omega) hD _ fun σ1 p1 => ?_
            have h1 := prefix_get p1 g1
            have h2 := prefix_get p1 g2
            have h3 := prefix_get p1 g3
            rw [hxy]
            conv => lhs; whnf
            refine and_true (all_cons (ldId h1 rfl (Nat.le_refl _) (same_id _)) (all_cons (ldId h2 rfl (Nat.le_refl _) (same_id _)) (all_skip rfl (all_skip rfl rfl)))) ?_
            conv => lhs; whnf
            refine less16_spec (p := y) (q := x) (by omega) hD _ fun σ2 p2 => ?_
            have k1 := prefix_get p2 h1
            have k2 := prefix_get p2 h2
            have k3 := prefix_get p2 h3
            rw [hyx]
            as_aux_lemma =>
              conv => lhs; whnf
              refine shard17_spec (by omega) h2q lz (by omega) _ fun σ3 p3 => ?_
              conv => lhs; whnf
              refine rshards_spec (by omega) lz (by omega) _ fun σ4 p4 => ?_
              have p24 := List.IsPrefix.trans p3 p4
              have l1 := prefix_get p24 k1
              have l2 := prefix_get p24 k2
              have l3 := prefix_get p24 k3
              conv => lhs; whnf
              refine bif_pos (by simp) ?_
              conv => lhs; whnf
              refine coord_spec (by omega) h2q _ ?_
              as_aux_lemma =>
                conv => lhs; whnf
                refine bif_pos (by rw [hc]; simp) ?_
                conv => lhs; whnf
                refine ldId l1 rfl (Nat.le_refl _) ?_
                conv => lhs; whnf
                refine ldId l2 rfl (Nat.le_refl _) ?_
                conv => lhs; whnf
                refine rless_spec (p := x) (q := y) (by omega) _ fun σ5 p5 => ?_
                have m1 := prefix_get p5 l1
                have m2 := prefix_get p5 l2
                have m3 := prefix_get p5 l3
                rw [hxy]
                conv => lhs; whnf
                refine ldId m1 rfl (Nat.le_refl _) ?_
                conv => lhs; whnf
                refine ldId m2 rfl (Nat.le_refl _) ?_
                conv => lhs; whnf
                refine bif_pos (by rw [hne]; rfl) ?_
                as_aux_lemma =>
                  rfl
      · have hyx : ltI y x = false := by
          have := ltI_asym (p := x) (q := y)
          rw [hxy] at this
          simpa using this
        have hne : (x.1 == y.1 && (x.2 == y.2 && true)) = false := by
          have := ltI_tot (p := x) (q := y)
          rw [hxy, hyx] at this
          simp at this ⊢
          intro e
          rcases this with t | t
          · exact absurd e t
          · exact t
        as_aux_lemma =>
          conv => lhs; whnf
          refine hD.go plan4x10 ord4x10 ?_
          conv => lhs; whnf
          refine ldId g1 rfl (Nat.le_refl _) ?_
          conv => lhs; whnf
          refine ldId g2 rfl (Nat.le_refl _) ?_
          conv => lhs; whnf
          refine ldId g2 rfl (Nat.le_refl _) ?_
          conv => lhs; whnf
          refine ldId g1 rfl (Nat.le_refl _) ?_
          conv => lhs; whnf
          refine less16_spec (p := x) (q := y) (by omega) hD _ fun σ1 p1 => ?_
          have h1 := prefix_get p1 g1
          have h2 := prefix_get p1 g2
          have h3 := prefix_get p1 g3
          rw [hxy]
          conv => lhs; whnf
          refine and_true (all_cons (ldId h1 rfl (Nat.le_refl _) (same_id _)) (all_cons (ldId h2 rfl (Nat.le_refl _) (same_id _)) (all_skip rfl (all_skip rfl rfl)))) ?_
          conv => lhs; whnf
          refine less16_spec (p := y) (q := x) (by omega) hD _ fun σ2 p2 => ?_
          have k1 := prefix_get p2 h1
          have k2 := prefix_get p2 h2
          have k3 := prefix_get p2 h3
          rw [hyx]
          as_aux_lemma =>
            conv => lhs; whnf
            refine shard17_spec (by omega) h2q lz (by omega) _ fun σ3 p3 => ?_
            conv => lhs; whnf
            refine rshards_spec (by omega) lz (by omega) _ fun σ4 p4 => ?_
            have p24 := List.IsPrefix.trans p3 p4
            have l1 := prefix_get p24 k1
            have l2 := prefix_get p24 k2
            have l3 := prefix_get p24 k3
            conv => lhs; whnf
            refine bif_pos (by simp) ?_
            conv => lhs; whnf
            refine coord_spec (by omega) h2q _ ?_
            as_aux_lemma =>
              conv => lhs; whnf
              refine bif_pos (by rw [hc]; simp) ?_
              conv => lhs; whnf
              refine ldId l1 rfl (Nat.le_refl _) ?_
              conv => lhs; whnf
              refine ldId l2 rfl (Nat.le_refl _) ?_
              conv => lhs; whnf
              refine rless_spec (p := x) (q := y) (by omega) _ fun σ5 p5 => ?_
              have m1 := prefix_get p5 l1
              have m2 := prefix_get p5 l2
              have m3 := prefix_get p5 l3
              rw [hxy]
              conv => lhs; whnf
              refine ldId m1 rfl (Nat.le_refl _) ?_
              conv => lhs; whnf
              refine ldId m2 rfl (Nat.le_refl _) ?_
              conv => lhs; whnf
              refine bif_pos (by rw [hne]; rfl) ?_
              as_aux_lemma =>
                conv => lhs; whnf
                refine ldId m2 rfl (Nat.le_refl _) ?_
                conv => lhs; whnf
                refine ldId m3 rfl (Nat.le_refl _) ?_
                conv => lhs; whnf
                refine less16_spec (p := y) (q := z) (by omega) hD _ fun σ6 p6 => ?_
                cases hyz : ltI y z
                · rfl
                · have n1 := prefix_get p6 m1
                  have n3 := prefix_get p6 m3
                  conv => lhs; whnf
                  refine ldId n1 rfl (Nat.le_refl _) ?_
                  conv => lhs; whnf
                  refine ldId n3 rfl (Nat.le_refl _) ?_
                  conv => lhs; whnf
                  refine less16_spec (p := x) (q := z) (by omega) hD _ fun σ7 p7 => ?_
                  rw [ltI_trans hxy hyz]
                  rfl
    · have hr : ¬ c.tmod q < 0 := by simpa using h
      have hc : coordN c q = c.tmod q := by
        unfold coordN
        rw [if_neg (by omega), if_neg hr]
      cases hxy : ltI x y
      · cases hyx : ltI y x
        · have heq : (x.1 == y.1 && (x.2 == y.2 && true)) = true := by
            have := ltI_tot (p := x) (q := y)
            rw [hxy, hyx] at this
            simp at this ⊢
            exact this
          as_aux_lemma =>
            conv => lhs; whnf
            refine hD.go plan4x10 ord4x10 ?_
            conv => lhs; whnf
            refine ldId g1 rfl (Nat.le_refl _) ?_
            conv => lhs; whnf
            refine ldId g2 rfl (Nat.le_refl _) ?_
            conv => lhs; whnf
            refine ldId g2 rfl (Nat.le_refl _) ?_
            conv => lhs; whnf
            refine ldId g1 rfl (Nat.le_refl _) ?_
            conv => lhs; whnf
            refine less16_spec (p := x) (q := y) (by omega) hD _ fun σ1 p1 => ?_
            have h1 := prefix_get p1 g1
            have h2 := prefix_get p1 g2
            have h3 := prefix_get p1 g3
            rw [hxy]
            conv => lhs; whnf
            refine and_true (all_cons (ldId h1 rfl (Nat.le_refl _) (same_id _)) (all_cons (ldId h2 rfl (Nat.le_refl _) (same_id _)) (all_skip rfl (all_skip rfl rfl)))) ?_
            conv => lhs; whnf
            refine less16_spec (p := y) (q := x) (by omega) hD _ fun σ2 p2 => ?_
            have k1 := prefix_get p2 h1
            have k2 := prefix_get p2 h2
            have k3 := prefix_get p2 h3
            rw [hyx]
            as_aux_lemma =>
              conv => lhs; whnf
              refine shard17_spec (by omega) h2q lz (by omega) _ fun σ3 p3 => ?_
              conv => lhs; whnf
              refine rshards_spec (by omega) lz (by omega) _ fun σ4 p4 => ?_
              have p24 := List.IsPrefix.trans p3 p4
              have l1 := prefix_get p24 k1
              have l2 := prefix_get p24 k2
              have l3 := prefix_get p24 k3
              conv => lhs; whnf
              refine bif_pos (by simp) ?_
              conv => lhs; whnf
              refine coord_spec (by omega) h2q _ ?_
              as_aux_lemma =>
                conv => lhs; whnf
                refine bif_pos (by rw [hc]; simp) ?_
                conv => lhs; whnf
                refine ldId l1 rfl (Nat.le_refl _) ?_
                conv => lhs; whnf
                refine ldId l2 rfl (Nat.le_refl _) ?_
                conv => lhs; whnf
                refine rless_spec (p := x) (q := y) (by omega) _ fun σ5 p5 => ?_
                have m1 := prefix_get p5 l1
                have m2 := prefix_get p5 l2
                have m3 := prefix_get p5 l3
                rw [hxy]
                conv => lhs; whnf
                refine ldId m1 rfl (Nat.le_refl _) ?_
                conv => lhs; whnf
                refine ldId m2 rfl (Nat.le_refl _) ?_
                conv => lhs; whnf
                refine bif_neg (by rw [heq]; rfl) ?_
                as_aux_lemma =>
                  rfl
        · have hne : (x.1 == y.1 && (x.2 == y.2 && true)) = false := by
            have := ltI_tot (p := x) (q := y)
            rw [hxy, hyx] at this
            simp at this ⊢
            intro e
            rcases this with t | t
            · exact absurd e t
            · exact t
          as_aux_lemma =>
            conv => lhs; whnf
            refine hD.go plan4x10 ord4x10 ?_
            conv => lhs; whnf
            refine ldId g1 rfl (Nat.le_refl _) ?_
            conv => lhs; whnf
            refine ldId g2 rfl (Nat.le_refl _) ?_
            conv => lhs; whnf
            refine ldId g2 rfl (Nat.le_refl _) ?_
            conv => lhs; whnf
            refine ldId g1 rfl (Nat.le_refl _) ?_
            conv => lhs; whnf
            refine less16_spec (p := x) (q := y) (by omega) hD _ fun σ1 p1 => ?_
            have h1 := prefix_get p1 g1
            have h2 := prefix_get p1 g2
            have h3 := prefix_get p1 g3
            rw [hxy]
            conv => lhs; whnf
            refine and_true (all_cons (ldId h1 rfl (Nat.le_refl _) (same_id _)) (all_cons (ldId h2 rfl (Nat.le_refl _) (same_id _)) (all_skip rfl (all_skip rfl rfl)))) ?_
            conv => lhs; whnf
            refine less16_spec (p := y) (q := x) (by omega) hD _ fun σ2 p2 => ?_
            have k1 := prefix_get p2 h1
            have k2 := prefix_get p2 h2
            have k3 := prefix_get p2 h3
            rw [hyx]
            as_aux_lemma =>
              conv => lhs; whnf
              refine shard17_spec (by omega) h2q lz (by omega) _ fun σ3 p3 => ?_
              conv => lhs; whnf
              refine rshards_spec (by omega) lz (by omega) _ fun σ4 p4 => ?_
              have p24 := List.IsPrefix.trans p3 p4
              have l1 := prefix_get p24 k1
              have l2 := prefix_get p24 k2
              have l3 := prefix_get p24 k3
              conv => lhs; whnf
              refine bif_pos (by simp) ?_
              conv => lhs; whnf
              refine coord_spec (by omega) h2q _ ?_
              as_aux_lemma =>
                conv => lhs; whnf
                refine bif_pos (by rw [hc]; simp) ?_
                conv => lhs; whnf
                refine ldId l1 rfl (Nat.le_refl _) ?_
                conv => lhs; whnf
                refine ldId l2 rfl (Nat.le_refl _) ?_
                conv => lhs; whnf
                refine rless_spec (p := x) (q := y) (by omega) _ fun σ5 p5 => ?_
                have m1 := prefix_get p5 l1
                have m2 := prefix_get p5 l2
                have m3 := prefix_get p5 l3
                rw [hxy]
                conv => lhs; whnf
                refine ldId m1 rfl (Nat.le_refl _) ?_
                conv => lhs; whnf
                refine ldId m2 rfl (Nat.le_refl _) ?_
                conv => lhs; whnf
                refine bif_pos (by rw [hne]; rfl) ?_
                as_aux_lemma =>
                  rfl
      · have hyx : ltI y x = false := by
          have := ltI_asym (p := x) (q := y)
          rw [hxy] at this
          simpa using this
        have hne : (x.1 == y.1 && (x.2 == y.2 && true)) = false := by
          have := ltI_tot (p := x) (q := y)
          rw [hxy, hyx] at this
          simp at this ⊢
          intro e
          rcases this with t | t
          · exact absurd e t
          · exact t
        as_aux_lemma =>
          conv => lhs; whnf
          refine hD.go plan4x10 ord4x10 ?_
          conv => lhs; whnf
          refine ldId g1 rfl (Nat.le_refl _) ?_
          conv => lhs; whnf
          refine ldId g2 rfl (Nat.le_refl _) ?_
          conv => lhs; whnf
          refine ldId g2 rfl (Nat.le_refl _) ?_
          conv => lhs; whnf
          refine ldId g1 rfl (Nat.le_refl _) ?_
          conv => lhs; whnf
          refine less16_spec (p := x) (q := y) (by omega) hD _ fun σ1 p1 => ?_
          have h1 := prefix_get p1 g1
          have h2 := prefix_get p1 g2
          have h3 := prefix_get p1 g3
          rw [hxy]
          conv => lhs; whnf
          refine and_true (all_cons (ldId h1 rfl (Nat.le_refl _) (same_id _)) (all_cons (ldId h2 rfl (Nat.le_refl _) (same_id _)) (all_skip rfl (all_skip rfl rfl)))) ?_
          conv => lhs; whnf
          refine less16_spec (p := y) (q := x) (by omega) hD _ fun σ2 p2 => ?_
          have k1 := prefix_get p2 h1
          have k2 := prefix_get p2 h2
          have k3 := prefix_get p2 h3
          rw [hyx]
          as_aux_lemma =>
            conv => lhs; whnf
            refine shard17_spec (by omega) h2q lz (by omega) _ fun σ3 p3 => ?_
            conv => lhs; whnf
            refine rshards_spec (by omega) lz (by omega) _ fun σ4 p4 => ?_
            have p24 := List.IsPrefix.trans p3 p4
            have l1 := prefix_get p24 k1
            have l2 := prefix_get p24 k2
            have l3 := prefix_get p24 k3
            conv => lhs; whnf
            refine bif_pos (by simp) ?_
            conv => lhs; whnf
            refine coord_spec (by omega) h2q _ ?_
            as_aux_lemma =>
              conv => lhs; whnf
              refine bif_pos (by rw [hc]; simp) ?_
              conv => lhs; whnf
              refine ldId l1 rfl (Nat.le_refl _) ?_
              conv => lhs; whnf
              refine ldId l2 rfl (Nat.le_refl _) ?_
              conv => lhs; whnf
              refine rless_spec (p := x) (q := y) (by omega) _ fun σ5 p5 => ?_
              have m1 := prefix_get p5 l1
              have m2 := prefix_get p5 l2
              have m3 := prefix_get p5 l3
              rw [hxy]
              conv => lhs; whnf
              refine ldId m1 rfl (Nat.le_refl _) ?_
              conv => lhs; whnf
              refine ldId m2 rfl (Nat.le_refl _) ?_
              conv => lhs; whnf
              refine bif_pos (by rw [hne]; rfl) ?_
              as_aux_lemma =>
                conv => lhs; whnf
                refine ldId m2 rfl (Nat.le_refl _) ?_
                conv => lhs; whnf
                refine ldId m3 rfl (Nat.le_refl _) ?_
                conv => lhs; whnf
                refine less16_spec (p := y) (q := z) (by omega) hD _ fun σ6 p6 => ?_
                cases hyz : ltI y z
                · rfl
                · have n1 := prefix_get p6 m1
                  have n3 := prefix_get p6 m3
                  conv => lhs; whnf
                  refine ldId n1 rfl (Nat.le_refl _) ?_
                  conv => lhs; whnf
                  refine ldId n3 rfl (Nat.le_refl _) ?_
                  conv => lhs; whnf
                  refine less16_spec (p := x) (q := z) (by omega) hD _ fun σ7 p7 => ?_
                  rw [ltI_trans hxy hyz]
                  rfl
  · have h0 : ¬ 0 < q := by simpa using h
    have hc : coordN c q = 0 := by
      unfold coordN
      rw [if_pos (by omega)]
    cases hxy : ltI x y
    · cases hyx : ltI y x
      · have heq : (x.1 == y.1 && (x.2 == y.2 && true)) = true := by
          have := ltI_tot (p := x) (q := y)
          rw [hxy, hyx] at this
          simp at this ⊢
          exact this
        as_aux_lemma =>
          conv => lhs; whnf
          refine hD.go plan4x10 ord4x10 ?_
          conv => lhs; whnf
          refine ldId g1 rfl (Nat.le_refl _) ?_
          conv => lhs; whnf
          refine ldId g2 rfl (Nat.le_refl _) ?_
          conv => lhs; whnf
          refine ldId g2 rfl (Nat.le_refl _) ?_
          conv => lhs; whnf
          refine ldId g1 rfl (Nat.le_refl _) ?_
          conv => lhs; whnf
          refine less16_spec (p := x) (q := y) (by omega) hD _ fun σ1 p1 => ?_
          have h1 := prefix_get p1 g1
          have h2 := prefix_get p1 g2
          have h3 := prefix_get p1 g3
          rw [hxy]
          conv => lhs; whnf
          refine and_true (all_cons (ldId h1 rfl (Nat.le_refl _) (same_id _)) (all_cons (ldId h2 rfl (Nat.le_refl _) (same_id _)) (all_skip rfl (all_skip rfl rfl)))) ?_
          conv => lhs; whnf
          refine less16_spec (p := y) (q := x) (by omega) hD _ fun σ2 p2 => ?_
          have k1 := prefix_get p2 h1
          have k2 := prefix_get p2 h2
          have k3 := prefix_get p2 h3
          rw [hyx]
          as_aux_lemma =>
            conv => lhs; whnf
            refine shard17_spec (by omega) h2q lz (by omega) _ fun σ3 p3 => ?_
            conv => lhs; whnf
            refine rshards_spec (by omega) lz (by omega) _ fun σ4 p4 => ?_
            have p24 := List.IsPrefix.trans p3 p4
            have l1 := prefix_get p24 k1
            have l2 := prefix_get p24 k2
            have l3 := prefix_get p24 k3
            conv => lhs; whnf
            refine bif_pos (by simp) ?_
            conv => lhs; whnf
            refine coord_spec (by omega) h2q _ ?_
            as_aux_lemma =>
              conv => lhs; whnf
              refine bif_pos (by rw [hc]; simp) ?_
              conv => lhs; whnf
              refine ldId l1 rfl (Nat.le_refl _) ?_
              conv => lhs; whnf
              refine ldId l2 rfl (Nat.le_refl _) ?_
              conv => lhs; whnf
              refine rless_spec (p := x) (q := y) (by omega) _ fun σ5 p5 => ?_
              have m1 := prefix_get p5 l1
              have m2 := prefix_get p5 l2
              have m3 := prefix_get p5 l3
              rw [hxy]
              conv => lhs; whnf
              refine ldId m1 rfl (Nat.le_refl _) ?_
              conv => lhs; whnf
              refine ldId m2 rfl (Nat.le_refl _) ?_
              conv => lhs; whnf
              refine bif_neg (by rw [heq]; rfl) ?_
              as_aux_lemma =>
                rfl
      · have hne : (x.1 == y.1 && (x.2 == y.2 && true)) = false := by
          have := ltI_tot (p := x) (q := y)
          rw [hxy, hyx] at this
          simp at this ⊢
          intro e
          rcases this with t | t
          · exact absurd e t
          · exact t
        as_aux_lemma =>
          conv => lhs; whnf
          refine hD.go plan4x10 ord4x10 ?_
          conv => lhs; whnf
          refine ldId g1 rfl (Nat.le_refl _) ?_
          conv => lhs; whnf
          refine ldId g2 rfl (Nat.le_refl _) ?_
          conv => lhs; whnf
          refine ldId g2 rfl (Nat.le_refl _) ?_
          conv => lhs; whnf
          refine ldId g1 rfl (Nat.le_refl _) ?_
          conv => lhs; whnf
          refine less16_spec (p := x) (q := y) (by omega) hD _ fun σ1 p1 => ?_
          have h1 := prefix_get p1 g1
          have h2 := prefix_get p1 g2
          have h3 := prefix_get p1 g3
          rw [hxy]
          conv => lhs; whnf
          refine and_true (all_cons (ldId h1 rfl (Nat.le_refl _) (same_id _)) (all_cons (ldId h2 rfl (Nat.le_refl _) (same_id _)) (all_skip rfl (all_skip rfl rfl)))) ?_
          conv => lhs; whnf
          refine less16_spec (p := y) (q := x) (by omega) hD _ fun σ2 p2 => ?_
          have k1 := prefix_get p2 h1
          have k2 := prefix_get p2 h2
          have k3 := prefix_get p2 h3
          rw [hyx]
          as_aux_lemma =>
            conv => lhs; whnf
            refine shard17_spec (by omega) h2q lz (by omega) _ fun σ3 p3 => ?_
            conv => lhs; whnf
            refine rshards_spec (by omega) lz (by omega) _ fun σ4 p4 => ?_
            have p24 := List.IsPrefix.trans p3 p4
            have l1 := prefix_get p24 k1
            have l2 := prefix_get p24 k2
            have l3 := prefix_get p24 k3
            conv => lhs; whnf
            refine bif_pos (by simp) ?_
            conv => lhs; whnf
            refine coord_spec (by omega) h2q _ ?_
            as_aux_lemma =>
              conv => lhs; whnf
              refine bif_pos (by rw [hc]; simp) ?_
              conv => lhs; whnf
              refine ldId l1 rfl (Nat.le_refl _) ?_
              conv => lhs; whnf
              refine ldId l2 rfl (Nat.le_refl _) ?_
              conv => lhs; whnf
              refine rless_spec (p := x) (q := y) (by omega) _ fun σ5 p5 => ?_
              have m1 := prefix_get p5 l1
              have m2 := prefix_get p5 l2
              have m3 := prefix_get p5 l3
              rw [hxy]
              conv => lhs; whnf
              refine ldId m1 rfl (Nat.le_refl _) ?_
              conv => lhs; whnf
              refine ldId m2 rfl (Nat.le_refl _) ?_
              conv => lhs; whnf
              refine bif_pos (by rw [hne]; rfl) ?_
              as_aux_lemma =>
                rfl
    · have hyx : ltI y x = false := by
        have := ltI_asym (p := x) (q := y)
        rw [hxy] at this
        simpa using this
      have hne : (x.1 == y.1 && (x.2 == y.2 && true)) = false := by
        have := ltI_tot (p := x) (q := y)
        rw [hxy, hyx] at this
        simp at this ⊢
        intro e
        rcases this with t | t
        · exact absurd e t
        · exact t
      as_aux_lemma =>
        conv => lhs; whnf
        refine hD.go plan4x10 ord4x10 ?_
        conv => lhs; whnf
        refine ldId g1 rfl (Nat.le_refl _) ?_
        conv => lhs; whnf
        refine ldId g2 rfl (Nat.le_refl _) ?_
        conv => lhs; whnf
        refine ldId g2 rfl (Nat.le_refl _) ?_
        conv => lhs; whnf
        refine ldId g1 rfl (Nat.le_refl _) ?_
        conv => lhs; whnf
        refine less16_spec (p := x) (q := y) (by omega) hD _ fun σ1 p1 => ?_
        have h1 := prefix_get p1 g1
        have h2 := prefix_get p1 g2
        have h3 := prefix_get p1 g3
        rw [hxy]
        conv => lhs; whnf
        refine and_true (all_cons (ldId h1 rfl (Nat.le_refl _) (same_id _)) (all_cons (ldId h2 rfl (Nat.le_refl _) (same_id _)) (all_skip rfl (all_skip rfl rfl)))) ?_
        conv => lhs; whnf
        refine less16_spec (p := y) (q := x) (by omega) hD _ fun σ2 p2 => ?_
        have k1 := prefix_get p2 h1
        have k2 := prefix_get p2 h2
        have k3 := prefix_get p2 h3
        rw [hyx]
        as_aux_lemma =>
          conv => lhs; whnf
          refine shard17_spec (by omega) h2q lz (by omega) _ fun σ3 p3 => ?_
          conv => lhs; whnf
          refine rshards_spec (by omega) lz (by omega) _ fun σ4 p4 => ?_
          have p24 := List.IsPrefix.trans p3 p4
          have l1 := prefix_get p24 k1
          have l2 := prefix_get p24 k2
          have l3 := prefix_get p24 k3
          conv => lhs; whnf
          refine bif_pos (by simp) ?_
          conv => lhs; whnf
          refine coord_spec (by omega) h2q _ ?_
          as_aux_lemma =>
            conv => lhs; whnf
            refine bif_pos (by rw [hc]; simp) ?_
            conv => lhs; whnf
            refine ldId l1 rfl (Nat.le_refl _) ?_
            conv => lhs; whnf
            refine ldId l2 rfl (Nat.le_refl _) ?_
            conv => lhs; whnf
            refine rless_spec (p := x) (q := y) (by omega) _ fun σ5 p5 => ?_
            have m1 := prefix_get p5 l1
            have m2 := prefix_get p5 l2
            have m3 := prefix_get p5 l3
            rw [hxy]
            conv => lhs; whnf
            refine ldId m1 rfl (Nat.le_refl _) ?_
            conv => lhs; whnf
            refine ldId m2 rfl (Nat.le_refl _) ?_
            conv => lhs; whnf
            refine bif_pos (by rw [hne]; rfl) ?_
            as_aux_lemma =>
              conv => lhs; whnf
              refine ldId m2 rfl (Nat.le_refl _) ?_
              conv => lhs; whnf
              refine ldId m3 rfl (Nat.le_refl _) ?_
              conv => lhs; whnf
              refine less16_spec (p := y) (q := z) (by omega) hD _ fun σ6 p6 => ?_
              cases hyz : ltI y z
              · rfl
              · have n1 := prefix_get p6 m1
                have n3 := prefix_get p6 m3
                conv => lhs; whnf
                refine ldId n1 rfl (Nat.le_refl _) ?_
                conv => lhs; whnf
                refine ldId n3 rfl (Nat.le_refl _) ?_
                conv => lhs; whnf
                refine less16_spec (p := x) (q := z) (by omega) hD _ fun σ7 p7 => ?_
                rw [ltI_trans hxy hyz]
                rfl

theorem shp_id {σ : H} {n : Nat} {cs : List AV} (hl : cs.length = 2) (h : Shp Try.prog σ (n + 2) 28 cs) : ∃ p : Int × Int, cs = [.int .i64 p.1, .int .i64 p.2] ∧ -9223372036854775808 ≤ p.1 ∧ p.1 ≤ 9223372036854775807 ∧ -9223372036854775808 ≤ p.2 ∧ p.2 ≤ 9223372036854775807 := by
  unfold Shp at h
  rw [Try.underlying28] at h
  simp only at h
  match cs, hl with
  | [u, v], _ =>
    have h0 := h _ (List.mem_cons_self)
    have h1 := h _ (List.mem_cons_of_mem _ List.mem_cons_self)
    have e3 : Try.prog.cellsOf 3 = 1 := rfl
    have e2 : Try.prog.cellsOf 2 = 1 := rfl
    simp only [e3, e2, List.drop_zero, List.take_succ_cons, List.take_zero, List.drop_succ_cons] at h0 h1
    unfold Shp at h0 h1
    rw [Try.underlying3] at h0
    rw [Try.underlying2] at h1
    obtain ⟨i, hi, wi⟩ := h0
    obtain ⟨j, hj, wj⟩ := h1
    cases hi
    cases hj
    simp only [Lit.wf, Bool.and_eq_true, decide_eq_true_eq] at wi wj
    exact ⟨(i, j), rfl, wi.1, wi.2, wj.1, wj.2⟩
theorem arg_id {σ : H} {n : Nat} {a : AV} (h : ArgShp Try.prog σ (n + 2) 28 a) : ∃ p : Int × Int, a = idA p := by
  unfold ArgShp at h
  rw [Try.underlying28] at h
  obtain ⟨cs, rfl, hl, hs⟩ := h
  obtain ⟨p, rfl, _⟩ := shp_id (hl.trans rfl) hs
  exact ⟨p, rfl⟩
theorem places_law (σ : H) (vs : List AV) (h : ArgsShp Try.prog σ 9 [9, 3, 3, 28, 28, 28] vs) : ∃ n, acall Try.prog tab (drawRegion Try.prog) n 4 vs σ isTrue = true := by
  obtain ⟨a, vs, rfl, h1, h⟩ := args_cons h
  obtain ⟨b, vs, rfl, h2, h⟩ := args_cons h
  obtain ⟨c, vs, rfl, h3, h⟩ := args_cons h
  obtain ⟨d, vs, rfl, h4, h⟩ := args_cons h
  obtain ⟨e, vs, rfl, h5, h⟩ := args_cons h
  obtain ⟨f, vs, rfl, h6, h⟩ := args_cons h
  obtain rfl := args_nil h
  obtain ⟨bs, rfl, hb, _⟩ := arg_str Try.underlying9 h1
  obtain ⟨x, rfl, _, _⟩ := arg_int Try.underlying3 h2
  obtain ⟨y, rfl, _, hy⟩ := arg_int Try.underlying3 h3
  obtain ⟨p, rfl⟩ := arg_id h4
  obtain ⟨q, rfl⟩ := arg_id h5
  obtain ⟨r, rfl⟩ := arg_id h6
  exact ⟨400, places_run (Nat.le_refl _) (byPlan _) hb hy⟩
end Go.Proofs.Ytjooccdeeejecaa
