/- Package word: what its functions do. -/
import Derived.Test.YtahhajakgakdhaaL1Tab
import Derived.Test.YtahhajakgakdhaaGmPlain
namespace Go.Proofs.Ytahhajakgakdhaa
open Go Go.AM Go.AM.St
attribute [local irreducible] IntKind.wrap Int.fdiv Int.tdiv Int.tmod BitVec.ofInt appendK sliceK indexAddrK ldK storeK seenK makeSliceK

set_option maxRecDepth 100000
variable {D : Drawer}

theorem up {n k : Nat} (h : k + 1 ≤ n) : ∃ m, n = Nat.succ m ∧ k ≤ m := ⟨n - 1, by omega, by omega⟩
theorem begun_spec {n : Nat} {σ : H} {K : AV → H → Bool} (h : K (.bool true) σ = true) : acall Try.prog tab D n 15 [] σ K = true := by
  cases n <;> exact h

theorem zig_val {x : Int} (h1 : -9223372036854775808 ≤ x) (h2 : x ≤ 9223372036854775807) :
    IntKind.u64.wrap ((BitVec.ofInt IntKind.u64.bits (IntKind.u64.wrap (IntKind.i64.wrap (x * 2 ^ min (Int.toNat 1) IntKind.i64.bits))) ^^^
      BitVec.ofInt IntKind.u64.bits (IntKind.u64.wrap (x.fdiv (2 ^ min (Int.toNat 63) IntKind.i64.bits)))).toNat : Int) = (zigN x : Int) := by
  rw [show min (Int.toNat 1) IntKind.i64.bits = 1 from rfl, show min (Int.toNat 63) IntKind.i64.bits = 63 from rfl]
  have e1 : IntKind.u64.wrap (IntKind.i64.wrap (x * 2 ^ 1)) = ((if x < 0 then 18446744073709551616 + 2 * x else 2 * x).toNat : Nat) := by
    simp [IntKind.wrap, IntKind.signed, IntKind.bits]
    split <;> split <;> omega
  have e2 : IntKind.u64.wrap (x.fdiv (2 ^ 63)) = ((if x < 0 then 18446744073709551615 else 0 : Nat) : Int) := by
    rw [Int.fdiv_eq_ediv_of_nonneg _ (by decide)]
    simp [IntKind.wrap, IntKind.signed, IntKind.bits]
    split <;> omega
  rw [e1, e2]
  unfold zigN
  by_cases hx : x < 0
  · simp only [hx, if_true]
    rw [ofInt_nat, ofInt_nat]
    show IntKind.u64.wrap ((BitVec.ofNat 64 _ ^^^ BitVec.allOnes 64).toNat : Int) = _
    rw [BitVec.xor_allOnes, BitVec.toNat_not, BitVec.toNat_ofNat]
    rw [Nat.mod_eq_of_lt (by omega), wrap_u64 (by omega)]
    congr 1
    omega
  · simp only [hx, if_false]
    rw [xor_nat (k := .u64) rfl rfl rfl (by show _ < 18446744073709551616; omega) (by decide), Nat.xor_zero]

theorem low7 {u : Nat} (h : u < 18446744073709551616) : IntKind.u8.wrap (IntKind.u64.wrap ((BitVec.ofInt IntKind.u64.bits (u : Int) &&& BitVec.ofInt IntKind.u64.bits 127).toNat : Int)) = ((u % 128 : Nat) : Int) := by
  rw [and_nat (k := .u64) (x := (u : Int)) (y := 127) (u := u) (v := 127) rfl rfl rfl h (by decide), show (127 : Nat) = 2 ^ 7 - 1 from rfl, mask_nat, wrap_u8 (by omega)]
theorem high7 {b : Nat} : 128 ||| b % 128 = 128 + b % 128 := or_add (j := 7) (a := 1) (by omega)

theorem zig_spec {n : Nat} (hn : 1 ≤ n) {x : Int} (h1 : -9223372036854775808 ≤ x) (h2 : x ≤ 9223372036854775807) (σ : H) (K : AV → H → Bool) (h : K (.int .u64 (zigN x : Int)) σ = true) :
    acall Try.prog tab D n 93 [.int .i64 x] σ K = true := by
  obtain ⟨n, rfl, hn⟩ := up hn
  conv => lhs; whnf
  show K (.int .u64 _) _ = true
  rw [zig_val h1 h2]
  exact h

theorem put_spec {n : Nat} (hn : 12 ≤ n) {x : Int} (h1 : -9223372036854775808 ≤ x) (h2 : x ≤ 9223372036854775807) (σ : H) (K : AV → H → Bool)
    (hK : ∀ o a σ', σ <+: σ' → Own σ σ' 1 o a (enc (zigN x)).length (u8s (enc (zigN x))) → K (.sl a (enc (zigN x)).length) σ' = true) : acall Try.prog tab D n 78 [.int .i64 x] σ K = true := by
  obtain ⟨n, rfl, hn⟩ := up hn
  conv => lhs; whnf
  refine zig_spec (by omega) h1 h2 σ _ ?_
  have hu := zigN_lt h1 h2
  generalize zigN x = u at hu hK ⊢
  conv => lhs; whnf
  refine loop_rule (m := 24) (fun r fr τ => ∃ (y : Int) (v : Nat) (acc : List Nat) (o : Option Nat) (a : SA), y = (v : Int) ∧ r ≤ 10 ∧ v < 18446744073709551616 ∧ v < 128 ^ r ∧ acc.length + r ≤ 11 ∧
      fr = [.bad, .bad, .bad, .int .u64 y, .sl a acc.length, .bad, .bad, .bad, .bad, .bad, .bad, .bad, .bad, .bad, .bad, .bad, .bad, .bad, .bad, .bad, .bad, .bad, .bad, .bad, .bad] ∧
      σ <+: τ ∧ Own σ τ 1 o a acc.length (u8s acc) ∧ tailB r v acc = enc u) ?_ _ 10 _ _ (by omega) ?_
  · rintro r fr τ C ⟨y, v, acc, o, a, rfl, hr, hvb, hv, hl, rfl, hp, ho, he⟩ next fin
    conv => lhs; whnf
    refine bif_case (fun h => ?_) (fun h => ?_)
    · have hv0 : 0 < v := by simpa using h
      obtain ⟨r, rfl⟩ : ∃ r', r = r' + 1 := by
        cases r with
        | zero => simp at hv; omega
        | succ r => exact ⟨r, rfl⟩
      conv => lhs; whnf
      refine appendK_rw (N := ((128 + v % 128) :: acc).length) (zs := u8s ((128 + v % 128) :: acc)) Try.underlying22 rfl rfl rfl (prefix_add hp _) (Own.new hp _ _ (by decide) rfl) (ho.rw.mono (List.prefix_append _ _)) (by simp [Nat.add_comm]) ?_ ?_ fun o' a' σ' h0 hk _ _ ho' => ?_
      · show AV.int .u8 _ :: u8s acc = _
        rw [low7 hvb, or_nat (k := .u8) (x := 128) (y := ((v % 128 : Nat) : Int)) (u := 128) (v := v % 128) rfl rfl rfl (by decide) (by show _ < 256; omega), high7]
        rfl
      · show _ * 1 ≤ _
        simp only [List.length_cons]; omega
      · conv => lhs; whnf
        refine next r _ _ (by omega) ⟨_, v / 128, (128 + v % 128) :: acc, o', a', shr_nat (k := .u64) (j := 7) rfl, by omega, by omega, ?_, ?_, rfl, h0, ho', ?_⟩
        · rw [Nat.pow_succ] at hv
          show v / 128 < _
          omega
        · simp only [List.length_cons]; omega
        · rw [← he, tailB, if_neg (by omega)]
    · obtain rfl : v = 0 := by simpa using h
      conv => lhs; whnf
      refine fin _ _ _ nofun ?_
      conv => lhs; whnf
      have e : acc = enc u := by
        rw [← he]
        cases r <;> simp [tailB]
      subst e
      exact hK o a τ hp ho
  · refine ⟨_, u / 128, [u % 128], some σ.length, .at σ.length 0 1, shr_nat (k := .u64) (j := 7) rfl, Nat.le_refl _, by omega, ?_, Nat.le_refl _, rfl, prefix_add (List.prefix_refl _) _, ?_, rfl⟩
    · omega
    · have := Own.new (List.prefix_refl σ) (z := 1) (n := 1) (u8s [u % 128]) .own (by decide) rfl
      rw [show u8s [u % 128] = [AV.int .u8 _] from congrArg (fun x => [AV.int .u8 x]) (low7 hu).symm] at this
      rw [show u8s [u % 128] = [AV.int .u8 _] from congrArg (fun x => [AV.int .u8 x]) (low7 hu).symm]
      exact this

end Go.Proofs.Ytahhajakgakdhaa
