/- The reference's numbers, more: what its functions do. -/
import Derived.Test.YtahhajakgakdhaaL1Ref
namespace Go.Proofs.Ytahhajakgakdhaa
open Go Go.AM Go.AM.St

theorem refX {x : Nat} : IntKind.u64.wrap ((x : Int).tmod 128) = ((x % 128 : Nat) : Int) := by
  rw [show (128 : Int) = ((128 : Nat) : Int) from rfl, tmod_nat, wrap_u64 (by omega)]
theorem refMost {x : Nat} : IntKind.u64.wrap ((IntKind.u64.wrap (18446744073709551615 - IntKind.u64.wrap ((x : Int).tmod 128))).tdiv 128) = ((144115188075855871 : Nat) : Int) := by
  rw [refX, show (18446744073709551615 : Int) - ((x % 128 : Nat) : Int) = ((18446744073709551615 - x % 128 : Nat) : Int) by omega, wrap_u64 (by omega), quo_nat (k := .u64) (y := 128) (u := 18446744073709551615 - x % 128) (v := 128) rfl rfl rfl (by show _ < 18446744073709551616; omega)]
  congr 1
  omega
theorem refStep {u x : Nat} (hu : u < 144115188075855872) : IntKind.u64.wrap (IntKind.u64.wrap ((u : Int) * 128) + IntKind.u64.wrap ((x : Int).tmod 128)) = ((u * 128 + x % 128 : Nat) : Int) := by
  rw [refX, show (u : Int) * 128 = ((u * 128 : Nat) : Int) by omega, wrap_u64 (by omega), show ((u * 128 : Nat) : Int) + ((x % 128 : Nat) : Int) = ((u * 128 + x % 128 : Nat) : Int) by omega, wrap_u64 (by omega)]
theorem refMul {i m : Nat} (hm : m = 256 ^ i % 18446744073709551616) : IntKind.u64.wrap ((m : Int) * 256) = ((256 ^ (i + 1) % 18446744073709551616 : Nat) : Int) := by
  subst hm
  rw [show ((256 ^ i % 18446744073709551616 : Nat) : Int) * 256 = ((256 ^ i % 18446744073709551616 * 256 : Nat) : Int) by omega, wrap_mod (k := .u64) rfl, Nat.pow_succ]
  show ((_ % 18446744073709551616 : Nat) : Int) = _
  rw [Nat.mod_mul_mod]
theorem refSum {i n x : Nat} (hn : n < 256 ^ i) (hx : x < 256) (hi : i < 8) : IntKind.u64.wrap ((n : Int) + IntKind.u64.wrap (IntKind.u64.wrap (x : Int) * ((256 ^ i % 18446744073709551616 : Nat) : Int))) = ((n + x * 256 ^ i : Nat) : Int) := by
  have hp : 256 ^ i ≤ 256 ^ 7 := Nat.pow_le_pow_right (by decide) (by omega)
  have hp' : (256 : Nat) ^ 7 = 72057594037927936 := by decide
  have hb : x * 256 ^ i ≤ 255 * 256 ^ i := Nat.mul_le_mul_right _ (by omega)
  rw [Nat.mod_eq_of_lt (by omega), wrap_u64 (u := x) (by omega), ← Int.natCast_mul, wrap_u64 (by omega), ← Int.natCast_add, wrap_u64 (by omega)]
attribute [local irreducible] IntKind.wrap Int.fdiv Int.tdiv Int.tmod BitVec.ofInt appendK sliceK indexAddrK ldK storeK seenK makeSliceK
set_option maxRecDepth 100000
variable {D : Drawer}

theorem rget_spec {n : Nat} (hn : 12 ≤ n) {a : SA} {bs : List Nat} {σ : H} (ha : Rw σ 1 a bs.length (u8s bs)) (hb : ∀ b ∈ bs, b < 256) (K : AV → H → Bool)
    (hK : K (.tup [.int .i64 (getR bs).1, .int .i64 ((getR bs).2 : Int)]) σ = true) : acall Try.prog tab D n 102 [.sl a bs.length] σ K = true := by
  obtain ⟨n, rfl, hn⟩ := up hn
  have hg : getR bs = match getL 0 0 (bs.take 10) with | some (u, k) => (zagI u, k) | none => (0, 0) := rfl
  conv => lhs; whnf
  refine loop_rule (m := 49) (fun r fr τ => ∃ (y z : Int) (u i : Nat), y = (u : Int) ∧ z = (i : Int) ∧ u < 18446744073709551616 ∧ i + r = (bs.take 10).length ∧ τ = σ ∧
      fr = [.sl a bs.length, .bad, .bad, .bad, .int .u64 y, .int .i64 z, .bad, .bad, .bad, .bad, .bad, .bad, .bad, .bad, .bad, .bad, .bad, .bad, .bad, .bad, .bad, .bad, .bad, .bad, .bad, .bad, .bad, .bad, .bad, .bad, .bad, .bad, .bad, .bad, .bad, .bad, .bad, .bad, .bad, .bad, .bad, .bad, .bad, .bad, .bad, .bad, .bad, .bad, .bad, .bad, .bad, .bad] ∧
      getL 0 0 (bs.take 10) = getL i u ((bs.take 10).drop i)) ?_ _ (bs.take 10).length _ _ (by rw [List.length_take]; omega) ⟨_, _, 0, 0, rfl, rfl, by decide, by omega, rfl, rfl, rfl⟩
  rintro r fr τ C ⟨y, z, u, i, rfl, rfl, hu, hi, rfl, rfl, he⟩ next fin
  have hl : (bs.take 10).length = min 10 bs.length := List.length_take
  conv => lhs; whnf
  by_cases hlt : i < (bs.take 10).length
  · refine bif_pos (by simp; omega) ?_
    conv => lhs; whnf
    refine bif_pos (by simp; omega) ?_
    conv => lhs; whnf
    have hx : bs[i] < 256 := hb _ (List.getElem_mem _)
    rw [List.drop_eq_getElem_cons hlt, List.getElem_take] at he
    refine bt.idx ha rfl (by omega) fun p hp => ?_
    conv => lhs; whnf
    refine bt.ld hp ?_
    generalize hbi : bs[i] = x at hx he hp
    rw [getL] at he
    conv => lhs; whnf
    by_cases hc : (i = 0 ∧ x = 128) ∨ ¬ u < 144115188075855872
    · rw [if_pos hc] at he
      rw [he] at hg
      rw [hg] at hK
      by_cases hu' : u < 144115188075855872
      · obtain ⟨rfl, rfl⟩ : i = 0 ∧ x = 128 := by omega
        refine bif_neg (by rw [refMost]; simp; omega) ?_
        conv => lhs; whnf
        refine bt.idx ha rfl (by omega) fun p hp => ?_
        conv => lhs; whnf
        rw [hbi] at hp
        refine bt.ld hp ?_
        conv => lhs; whnf
        refine fin _ _ _ nofun ?_
        conv => lhs; whnf
        exact hK
      · refine bif_pos (by rw [refMost]; simp; omega) ?_
        conv => lhs; whnf
        refine fin _ _ _ nofun ?_
        conv => lhs; whnf
        exact hK
    · rw [if_neg hc] at he
      refine bif_neg (by rw [refMost]; simp; omega) ?_
      conv => lhs; whnf
      by_cases hi0 : i = 0
      case' pos =>
        refine bif_pos (by simp [hi0]) ?_
        conv => lhs; whnf
        refine bt.idx ha rfl (by omega) fun p hp => ?_
        conv => lhs; whnf
        rw [hbi] at hp
        refine bt.ld hp ?_
        conv => lhs; whnf
        refine bif_neg (by simp; omega) ?_
        conv => lhs; whnf
      case' neg =>
        refine bif_neg (by simp; omega) ?_
        conv => lhs; whnf
      all_goals
        refine bt.idx ha rfl (by omega) fun p hp => ?_
        conv => lhs; whnf
        rw [hbi] at hp
        refine bt.ld hp ?_
        conv => lhs; whnf
        have hs7 := refStep (u := u) (x := x) (by omega)
        by_cases hx1 : x < 128
        · rw [if_pos hx1] at he
          rw [he] at hg
          rw [hg] at hK
          refine bif_pos (by simp; omega) ?_
          conv => lhs; whnf
          refine rzag_spec (by omega) hs7 (by omega) τ _ ?_
          conv => lhs; whnf
          refine fin _ _ _ nofun ?_
          conv => lhs; whnf
          show K (.tup [.int .i64 (zagI (u * 128 + x % 128)), .int .i64 (IntKind.i64.wrap ((i : Int) + 1))]) τ = true
          rw [inc_i64 (by omega)]
          exact hK
        · rw [if_neg hx1] at he
          refine bif_neg (by simp; omega) ?_
          conv => lhs; whnf
          refine next (r - 1) _ _ (by omega) ⟨_, _, u * 128 + x % 128, i + 1, hs7, inc_i64 (by omega), by omega, by omega, rfl, rfl, he⟩
  · obtain rfl : i = (bs.take 10).length := by omega
    rw [List.drop_length, getL] at he
    rw [he] at hg
    rw [hg] at hK
    by_cases h10 : (bs.take 10).length < bs.length
    · refine bif_pos (by simp; omega) ?_
      conv => lhs; whnf
      refine bif_neg (by simp; omega) ?_
      conv => lhs; whnf
      refine fin _ _ _ nofun ?_
      conv => lhs; whnf
      exact hK
    · refine bif_neg (by simp; omega) ?_
      conv => lhs; whnf
      refine fin _ _ _ nofun ?_
      conv => lhs; whnf
      exact hK

theorem rfix_spec {n : Nat} (hn : 11 ≤ n) {u size : Nat} {y z : Int} (hy : y = (u : Int)) (hz : z = (size : Int)) (hu : u < 18446744073709551616) (hs : size ≤ 9) (σ : H) (K : AV → H → Bool)
    (hK : ∀ o a σ', σ <+: σ' → Own σ σ' 1 o a (fixR u size).length (u8s (fixR u size)) → K (.sl a (fixR u size).length) σ' = true) : acall Try.prog tab D n 50 [.int .u64 y, .int .i64 z] σ K = true := by
  subst hy hz
  obtain ⟨n, rfl, hn⟩ := up hn
  conv => lhs; whnf
  refine loop_rule (m := 99) (fun r fr τ => ∃ (y z : Int) (i : Nat) (o : Option Nat) (a : SA), y = ((u / 256 ^ i : Nat) : Int) ∧ z = (i : Int) ∧ i + r = size ∧ (8 < size → i = 0) ∧
      fr = [.int .u64 y, .int .i64 (size : Int), .bad, .bad, .bad, .sl a (fixL u i).length, .int .i64 z, .bad, .bad, .bad, .bad, .bad, .bad, .bad, .bad, .bad, .bad, .bad, .bad, .bad, .bad, .bad, .bad, .bad, .bad] ∧ σ <+: τ ∧ Own σ τ 1 o a (fixL u i).length (u8s (fixL u i))) ?_ _ size _ _ (by omega)
      ⟨_, _, 0, none, .nil, by rw [Nat.pow_zero, Nat.div_one], rfl, by omega, fun _ => rfl, rfl, List.prefix_refl _, Own.nil _ _ _⟩
  rintro r fr τ C ⟨y, z, i, o, a, rfl, rfl, hi, h8, rfl, hp, ho⟩ next fin
  conv => lhs; whnf
  by_cases hlt : i < size
  · refine bif_pos (by simp; omega) ?_
    conv => lhs; whnf
    by_cases h9 : size ≤ 8
    · refine bif_pos (by simp; omega) ?_
      conv => lhs; whnf
      refine bt.app (prefix_add hp _) (o := o) (xs := fixL u i) (ys := [u / 256 ^ i % 256]) (ho.mono (List.prefix_append _ _)) (own1 hp refLow256).rw _ (fixL_succ u i).symm (by rw [fixL_len]; omega) fun o' a' σ' h0 hk _ _ ho' => ?_
      conv => lhs; whnf
      refine next (r - 1) _ _ (by omega) ⟨_, _, i + 1, o', a', ?_, inc_i64 (by omega), by omega, by omega, rfl, h0, ho'⟩
      rw [refDiv256 (Nat.lt_of_le_of_lt (Nat.div_le_self _ _) hu), Nat.pow_succ, Nat.div_div_eq_div_mul]
    · obtain rfl : i = 0 := h8 (by omega)
      refine bif_neg (by simp; omega) ?_
      conv => lhs; whnf
      refine fin _ _ _ nofun ?_
      conv => lhs; whnf
      have hf : fixR u size = fixL u 0 := by unfold fixR; rw [if_neg h9]; rfl
      rw [hf] at hK
      exact hK o a τ hp ho
  · obtain rfl : i = size := by omega
    refine bif_neg (by simp) ?_
    conv => lhs; whnf
    refine fin _ _ _ nofun ?_
    conv => lhs; whnf
    have hf : fixR u i = fixL u i := by
      unfold fixR
      by_cases h9 : i ≤ 8
      · rw [if_pos h9]
      · rw [if_neg h9, h8 (by omega)]; rfl
    rw [hf] at hK
    exact hK o a τ hp ho

theorem runfix_spec {n : Nat} (hn : 10 ≤ n) {a : SA} {bs : List Nat} {σ : H} (ha : Rw σ 1 a bs.length (u8s bs)) (hb : ∀ b ∈ bs, b < 256) (K : AV → H → Bool)
    (hK : K (.int .u64 (unfix bs : Int)) σ = true) : acall Try.prog tab D n 69 [.sl a bs.length] σ K = true := by
  obtain ⟨n, rfl, hn⟩ := up hn
  have hg : unfix bs = unfixL (bs.take 8) := rfl
  have hl : (bs.take 8).length = min 8 bs.length := List.length_take
  conv => lhs; whnf
  refine loop_rule (m := 57) (fun r fr τ => ∃ (y z q : Int) (i : Nat), y = ((unfixL (bs.take i) : Nat) : Int) ∧ z = ((256 ^ i % 18446744073709551616 : Nat) : Int) ∧ q = (i : Int) ∧ i + r = (bs.take 8).length ∧ τ = σ ∧
      fr = [.sl a bs.length, .bad, .bad, .int .u64 y, .int .u64 z, .int .i64 q, .bad, .bad, .bad, .bad, .bad, .bad, .bad, .bad, .bad, .bad, .bad, .bad, .bad, .bad, .bad, .bad, .bad, .bad, .bad, .bad, .bad, .bad]) ?_ _ (bs.take 8).length _ _ (by omega) ⟨_, _, _, 0, rfl, rfl, rfl, by omega, rfl, rfl⟩
  rintro r fr τ C ⟨y, z, q, i, rfl, rfl, rfl, hi, rfl, rfl⟩ next fin
  conv => lhs; whnf
  by_cases hlt : i < (bs.take 8).length
  · refine bif_pos (by simp; omega) ?_
    conv => lhs; whnf
    refine bif_pos (by simp; omega) ?_
    conv => lhs; whnf
    have hlt' : i < bs.length := by omega
    have hx : bs[i] < 256 := hb _ (List.getElem_mem _)
    have hn' := unfix_lt (bs.take i) fun b h => hb b (List.mem_of_mem_take h)
    rw [List.length_take, Nat.min_eq_left (by omega)] at hn'
    have hs := unfix_snoc (bs.take i) bs[i]
    rw [List.take_append_getElem hlt', List.length_take, Nat.min_eq_left (by omega)] at hs
    refine bt.idx ha rfl hlt' fun p hp => ?_
    conv => lhs; whnf
    refine bt.ld hp ?_
    conv => lhs; whnf
    refine next (r - 1) _ _ (by omega) ⟨_, _, _, i + 1, ?_, refMul rfl, inc_i64 (by omega), by omega, rfl, rfl⟩
    rw [refSum hn' hx (by omega), hs]
  · obtain rfl : i = (bs.take 8).length := by omega
    have e : bs.take (bs.take 8).length = bs.take 8 := by
      rw [hl, ← List.take_take, List.take_of_length_le (Nat.le_refl bs.length)]
    rw [e]
    by_cases h8 : (bs.take 8).length < bs.length
    · refine bif_pos (by simp; omega) ?_
      conv => lhs; whnf
      refine bif_neg (by simp; omega) ?_
      conv => lhs; whnf
      refine fin _ _ _ nofun ?_
      conv => lhs; whnf
      rw [← hg]
      exact hK
    · refine bif_neg (by simp; omega) ?_
      conv => lhs; whnf
      refine fin _ _ _ nofun ?_
      conv => lhs; whnf
      rw [← hg]
      exact hK
end Go.Proofs.Ytahhajakgakdhaa
