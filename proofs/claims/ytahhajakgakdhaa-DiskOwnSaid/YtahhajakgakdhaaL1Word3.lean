/- Package word: fixed sizes. -/
import Derived.Test.YtahhajakgakdhaaL1Word2
namespace Go.Proofs.Ytahhajakgakdhaa
open Go Go.AM Go.AM.St

theorem mul8 {i : Nat} (h : i < 1000) : IntKind.i64.wrap (8 * (i : Int)) = ((8 * i : Nat) : Int) := by
  rw [wrap_i64 (by omega) (by omega)]; omega
theorem fixByte {u i : Nat} (hi : i < 8) :
    IntKind.u8.wrap ((u : Int).fdiv (2 ^ min (IntKind.i64.wrap (8 * (i : Int))).toNat IntKind.u64.bits)) = ((u / 256 ^ i % 256 : Nat) : Int) := by
  rw [mul8 (by omega), Int.toNat_natCast, shr_nat (k := .u64) (j := 8 * i) (u := u) rfl]
  rw [show min (8 * i) IntKind.u64.bits = 8 * i from Nat.min_eq_left (by show 8 * i ≤ 64; omega), Nat.pow_mul, wrap_mod (k := .u8) rfl]
  rfl
theorem unfixStep {n x i : Nat} (hn : n < 256 ^ i) (hx : x < 256) (hi : i < 8) :
    IntKind.u64.wrap ((BitVec.ofInt IntKind.u64.bits (n : Int) ||| BitVec.ofInt IntKind.u64.bits (IntKind.u64.wrap (IntKind.u64.wrap (x : Int) * 2 ^ min (IntKind.i64.wrap (8 * (i : Int))).toNat IntKind.u64.bits))).toNat : Int) =
      ((n + x * 256 ^ i : Nat) : Int) := by
  have hp : 256 ^ i ≤ 256 ^ 7 := Nat.pow_le_pow_right (by decide) (by omega)
  have hp' : (256 : Nat) ^ 7 = 72057594037927936 := by decide
  have hb : x * 256 ^ i ≤ 255 * 256 ^ i := Nat.mul_le_mul_right _ (by omega)
  rw [mul8 (by omega), Int.toNat_natCast, wrap_u64 (u := x) (by omega), shl_nat (k := .u64) (j := 8 * i) (u := x) rfl rfl]
  rw [show min (8 * i) IntKind.u64.bits = 8 * i from Nat.min_eq_left (by show 8 * i ≤ 64; omega), Nat.mod_eq_of_lt (by show _ < 18446744073709551616; rw [Nat.pow_mul]; show x * 256 ^ i < _; omega)]
  rw [or_nat (k := .u64) (u := n) (v := x * 2 ^ (8 * i)) rfl rfl rfl (by show _ < 18446744073709551616; omega) (by show _ < 18446744073709551616; rw [Nat.pow_mul]; show x * 256 ^ i < _; omega)]
  rw [or_add' (by rw [Nat.pow_mul]; exact hn), Nat.pow_mul, Nat.add_comm]
attribute [local irreducible] IntKind.wrap Int.fdiv Int.tdiv Int.tmod BitVec.ofInt appendK sliceK indexAddrK ldK storeK seenK makeSliceK
set_option maxRecDepth 100000
variable {D : Drawer}

theorem fix_spec {n : Nat} (hn : 10 ≤ n) {u size : Nat} {y z : Int} (hy : y = (u : Int)) (hz : z = (size : Int)) (hs : size ≤ 9) (σ : H) (K : AV → H → Bool)
    (hK : ∀ o a σ', σ <+: σ' → Own σ σ' 1 o a (fixR u size).length (u8s (fixR u size)) → K (.sl a (fixR u size).length) σ' = true) : acall Try.prog tab D n 89 [.int .u64 y, .int .i64 z] σ K = true := by
  subst hy hz
  obtain ⟨n, rfl, hn⟩ := up hn
  conv => lhs; whnf
  by_cases h9 : size ≤ 8
  · have hf : fixR u size = fixL u size := by unfold fixR; rw [if_pos h9]
    rw [hf] at hK
    refine bif_neg (by simp; omega) ?_
    conv => lhs; whnf
    refine bt.make rfl (by omega) (fun h0 => ?_) (fun h0 => ?_)
    · subst h0
      conv => lhs; whnf
      refine loop_rule (m := 196641) (fun r fr τ => τ = σ ∧ fr = [.int .u64 (u : Int), .bad, .bad, .bad, .bad, .sl .zero 0, .bad, .bad, .bad, .bad, .bad, .bad, .bad, .bad, .bad, .bad, .int .i64 0, .int .i64 0, .bad, .bad, .bad, .bad, .bad, .bad, .bad, .bad, .bad, .bad, .bad, .bad]) ?_ _ 0 _ _ (by omega) ⟨rfl, rfl⟩
      rintro r fr τ C ⟨rfl, rfl⟩ next fin
      conv => lhs; whnf
      refine fin _ _ _ nofun ?_
      conv => lhs; whnf
      exact hK none .zero τ (List.prefix_refl _) (Own.zero _ _ _)
    · conv => lhs; whnf
      refine loop_rule (m := 196641) (fun r fr τ => ∃ (z : Int) (i : Nat), z = (i : Int) ∧ i + r = size ∧ τ = σ ++ [AO.cells (u8s (fixL u i ++ List.replicate (size - i) 0)) 1 .own] ∧
        fr = [.int .u64 (u : Int), .bad, .bad, .bad, .bad, .sl (.at σ.length 0 1) size, .bad, .bad, .bad, .bad, .bad, .bad, .bad, .bad, .bad, .bad, .int .i64 (size : Int), .int .i64 z, .bad, .bad, .bad, .bad, .bad, .bad, .bad, .bad, .bad, .bad, .bad, .bad]) ?_ _ size _ _ (by omega) ⟨_, 0, rfl, by omega, rfl, rfl⟩
      rintro r fr τ C ⟨z, i, rfl, hi, rfl, rfl⟩ next fin
      conv => lhs; whnf
      refine bif_case (fun h => ?_) (fun h => ?_)
      · have hlt : i < size := by simpa using h
        conv => lhs; whnf
        refine bif_neg (by rw [mul8 (by omega)]; simp; omega) ?_
        conv => lhs; whnf
        refine bt.idxAt rfl hlt ?_
        conv => lhs; whnf
        refine bt.store (get_new _ _) (by rw [List.length_append, fixL_len, List.length_replicate]; omega) (fixByte (by omega)) ?_
        conv => lhs; whnf
        refine next (r - 1) _ _ (by omega) ⟨_, i + 1, inc_i64 (by omega), by omega, ?_, rfl⟩
        rw [Nat.zero_add, fix_set u size i hlt, List.set_append_right _ _ (Nat.le_refl _), Nat.sub_self]
        rfl
      · obtain rfl : i = size := by have : ¬ i < size := by simpa using h
                                    omega
        conv => lhs; whnf
        refine fin _ _ _ nofun ?_
        conv => lhs; whnf
        rw [Nat.sub_self, List.replicate_zero, List.append_nil]
        have := hK (some σ.length) (.at σ.length 0 1) _ (prefix_add (List.prefix_refl _) _) (Own.new (List.prefix_refl σ) (n := (fixL u i).length) (u8s (fixL u i)) .own (by decide) (by rw [u8s_len, Nat.mul_one]))
        rw [fixL_len] at this
        exact this
  · have hf : fixR u size = [] := by unfold fixR; rw [if_neg h9]
    rw [hf] at hK
    refine bif_pos (by simp; omega) ?_
    conv => lhs; whnf
    exact hK none .nil σ (List.prefix_refl _) (Own.nil _ _ _)

theorem unfix_spec {n : Nat} (hn : 10 ≤ n) {a : SA} {bs : List Nat} {σ : H} (ha : Rw σ 1 a bs.length (u8s bs)) (hb : ∀ b ∈ bs, b < 256) (K : AV → H → Bool)
    (hK : K (.int .u64 (unfix bs : Int)) σ = true) : acall Try.prog tab D n 88 [.sl a bs.length] σ K = true := by
  obtain ⟨n, rfl, hn⟩ := up hn
  conv => lhs; whnf
  refine bt.slice ha 0 (min bs.length 8) (.inl ⟨rfl, rfl⟩) (.inr ⟨_, _, rfl, ?_⟩) (Nat.zero_le _) (Nat.min_le_left _ _) (bs.take 8) ?_ fun a' ha' => ?_
  · show (if _ then _ else _) = _
    split <;> omega
  · rw [List.drop_zero, Nat.min_comm, ← List.take_take, List.take_of_length_le (Nat.le_refl _)]
  have hd : ∀ b ∈ bs.take 8, b < 256 := fun b h => hb b (List.mem_of_mem_take h)
  have hl : (bs.take 8).length ≤ 8 := by rw [List.length_take]; omega
  have hg : unfix bs = unfixL (bs.take 8) := rfl
  generalize bs.take 8 = ds at ha' hd hl hg
  conv => lhs; whnf
  refine loop_rule (m := 7176) (fun r fr τ => ∃ (y z : Int) (i : Nat), y = ((unfixL (ds.take i) : Nat) : Int) ∧ z = (i : Int) ∧ i + r = ds.length ∧ τ = σ ∧
      fr = [.bad, .bad, .bad, .int .u64 y, .bad, .bad, .bad, .bad, .bad, .bad, .sl a' ds.length, .int .i64 (ds.length : Int), .int .i64 z, .bad, .bad, .bad, .bad, .bad, .bad, .bad, .bad, .bad, .bad, .bad, .bad, .bad]) ?_ _ ds.length _ _ (by omega) ⟨_, _, 0, rfl, rfl, by omega, rfl, rfl⟩
  rintro r fr τ C ⟨y, z, i, rfl, rfl, hi, rfl, rfl⟩ next fin
  conv => lhs; whnf
  refine bif_case (fun h => ?_) (fun h => ?_)
  · have hlt : i < ds.length := by simpa using h
    have hx : ds[i] < 256 := hd _ (List.getElem_mem _)
    have hn' := unfix_lt (ds.take i) fun b hb => hd b (List.mem_of_mem_take hb)
    rw [List.length_take, Nat.min_eq_left (by omega)] at hn'
    have hs := unfix_snoc (ds.take i) ds[i]
    rw [List.take_append_getElem hlt, List.length_take, Nat.min_eq_left (by omega)] at hs
    conv => lhs; whnf
    refine bt.idx ha' rfl hlt fun p hp => ?_
    conv => lhs; whnf
    refine bt.ld hp ?_
    conv => lhs; whnf
    refine bif_neg (by rw [mul8 (by omega)]; simp; omega) ?_
    conv => lhs; whnf
    refine next (r - 1) _ _ (by omega) ⟨_, _, i + 1, ?_, inc_i64 (by omega), by omega, rfl, rfl⟩
    rw [unfixStep hn' hx (by omega), hs]
  · obtain rfl : i = ds.length := by have : ¬ i < ds.length := by simpa using h
                                     omega
    conv => lhs; whnf
    refine fin _ _ _ nofun ?_
    conv => lhs; whnf
    rw [List.take_length, ← hg]
    exact hK
end Go.Proofs.Ytahhajakgakdhaa
