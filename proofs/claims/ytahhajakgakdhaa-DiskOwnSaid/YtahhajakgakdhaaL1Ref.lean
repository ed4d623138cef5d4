/- The reference's numbers: what its functions do. -/
import Derived.Test.YtahhajakgakdhaaL1Word3
namespace Go.Proofs.Ytahhajakgakdhaa
open Go Go.AM Go.AM.St

theorem refZigNeg {x : Int} (h1 : -9223372036854775808 ≤ x) (h2 : x < 0) :
    IntKind.u64.wrap (IntKind.u64.wrap (IntKind.u64.wrap (IntKind.i64.wrap (0 - IntKind.i64.wrap (x + 1))) * 2) + 1) = (zigN x : Int) := by
  rw [wrap_i64 (x := x + 1) (by omega) (by omega), wrap_i64 (x := 0 - (x + 1)) (by omega) (by omega)]
  have e : (0 - (x + 1)) = ((-(x + 1)).toNat : Int) := by omega
  rw [e, wrap_u64 (by omega), show ((-(x + 1)).toNat : Int) * 2 = ((2 * (-(x + 1)).toNat : Nat) : Int) by omega, wrap_u64 (by omega),
    show ((2 * (-(x + 1)).toNat : Nat) : Int) + 1 = ((2 * (-(x + 1)).toNat + 1 : Nat) : Int) by omega, wrap_u64 (by omega)]
  unfold zigN
  rw [if_pos h2]
  omega
theorem refZigPos {x : Int} (h1 : 0 ≤ x) (h2 : x ≤ 9223372036854775807) : IntKind.u64.wrap (IntKind.u64.wrap x * 2) = (zigN x : Int) := by
  have e : x = (x.toNat : Int) := by omega
  rw [e, wrap_u64 (by omega), show ((x.toNat : Int)) * 2 = ((2 * x.toNat : Nat) : Int) by omega, wrap_u64 (by omega)]
  unfold zigN
  rw [if_neg (by omega)]
  omega
theorem refZagOdd {u : Nat} (hu : u < 18446744073709551616) (h : u % 2 = 1) : IntKind.i64.wrap (IntKind.i64.wrap (0 - IntKind.i64.wrap (IntKind.u64.wrap ((u : Int).tdiv 2))) - 1) = zagI u := by
  rw [quo_nat (k := .u64) (x := (u : Int)) (y := 2) (u := u) (v := 2) rfl rfl rfl hu, wrap_i64 (x := ((u / 2 : Nat) : Int)) (by omega) (by omega), wrap_i64 (x := 0 - ((u / 2 : Nat) : Int)) (by omega) (by omega), wrap_i64 (by omega) (by omega)]
  unfold zagI
  rw [if_pos h]
  omega
theorem refZagEven {u : Nat} (hu : u < 18446744073709551616) (h : ¬ u % 2 = 1) : IntKind.i64.wrap (IntKind.u64.wrap ((u : Int).tdiv 2)) = zagI u := by
  rw [quo_nat (k := .u64) (x := (u : Int)) (y := 2) (u := u) (v := 2) rfl rfl rfl hu, wrap_i64 (x := ((u / 2 : Nat) : Int)) (by omega) (by omega)]
  unfold zagI
  rw [if_neg h]
theorem tmod_nat (u v : Nat) : (u : Int).tmod (v : Int) = ((u % v : Nat) : Int) := rem_nat rfl rfl
theorem refLow {u : Nat} : IntKind.u8.wrap ((u : Int).tmod 128) = ((u % 128 : Nat) : Int) := by
  rw [show (128 : Int) = ((128 : Nat) : Int) from rfl, tmod_nat, wrap_u8 (by omega)]
theorem refLow256 {u : Nat} : IntKind.u8.wrap ((u : Int).tmod 256) = ((u % 256 : Nat) : Int) := by
  rw [show (256 : Int) = ((256 : Nat) : Int) from rfl, tmod_nat, wrap_u8 (by omega)]
theorem refHigh {u : Nat} : IntKind.u8.wrap (IntKind.u8.wrap ((u : Int).tmod 128) + 128) = ((128 + u % 128 : Nat) : Int) := by
  rw [refLow, show ((u % 128 : Nat) : Int) + 128 = ((128 + u % 128 : Nat) : Int) by omega, wrap_u8 (by omega)]
theorem refDiv {u : Nat} (hu : u < 18446744073709551616) : IntKind.u64.wrap ((u : Int).tdiv 128) = ((u / 128 : Nat) : Int) := quo_nat (k := .u64) (x := (u : Int)) (y := 128) (u := u) (v := 128) rfl rfl rfl hu
theorem refDiv256 {u : Nat} (hu : u < 18446744073709551616) : IntKind.u64.wrap ((u : Int).tdiv 256) = ((u / 256 : Nat) : Int) := quo_nat (k := .u64) (x := (u : Int)) (y := 256) (u := u) (v := 256) rfl rfl rfl hu
attribute [local irreducible] IntKind.wrap Int.fdiv Int.tdiv Int.tmod BitVec.ofInt appendK sliceK indexAddrK ldK storeK seenK makeSliceK
set_option maxRecDepth 100000
variable {D : Drawer}

theorem rzig_spec {n : Nat} (hn : 1 ≤ n) {x : Int} (h1 : -9223372036854775808 ≤ x) (h2 : x ≤ 9223372036854775807) (σ : H) (K : AV → H → Bool) (h : K (.int .u64 (zigN x : Int)) σ = true) :
    acall Try.prog tab D n 85 [.int .i64 x] σ K = true := by
  obtain ⟨n, rfl, hn⟩ := up hn
  conv => lhs; whnf
  refine bif_case (fun c => ?_) (fun c => ?_)
  · conv => lhs; whnf
    show K (.int .u64 _) _ = true
    rw [refZigNeg h1 (by simpa using c)]
    exact h
  · conv => lhs; whnf
    show K (.int .u64 _) _ = true
    rw [refZigPos (by simpa using c) h2]
    exact h

theorem rzag_spec {n : Nat} (hn : 1 ≤ n) {u : Nat} {y : Int} (hy : y = (u : Int)) (hu : u < 18446744073709551616) (σ : H) (K : AV → H → Bool) (h : K (.int .i64 (zagI u)) σ = true) :
    acall Try.prog tab D n 119 [.int .u64 y] σ K = true := by
  subst hy
  obtain ⟨n, rfl, hn⟩ := up hn
  have e : (u : Int).tmod 2 = ((u % 2 : Nat) : Int) := tmod_nat u 2
  conv => lhs; whnf
  by_cases c : u % 2 = 1
  · refine bif_pos (by rw [e, c]; rfl) ?_
    conv => lhs; whnf
    show K (.int .i64 _) _ = true
    rw [refZagOdd hu c]
    exact h
  · refine bif_neg (by rw [e, show u % 2 = 0 by omega]; rfl) ?_
    conv => lhs; whnf
    show K (.int .i64 _) _ = true
    rw [refZagEven hu c]
    exact h

theorem rput_spec {n : Nat} (hn : 12 ≤ n) {x : Int} (h1 : -9223372036854775808 ≤ x) (h2 : x ≤ 9223372036854775807) (σ : H) (K : AV → H → Bool)
    (hK : ∀ o a σ', σ <+: σ' → Own σ σ' 1 o a (enc (zigN x)).length (u8s (enc (zigN x))) → K (.sl a (enc (zigN x)).length) σ' = true) : acall Try.prog tab D n 67 [.int .i64 x] σ K = true := by
  obtain ⟨n, rfl, hn⟩ := up hn
  conv => lhs; whnf
  refine rzig_spec (by omega) h1 h2 σ _ ?_
  have hu := zigN_lt h1 h2
  generalize zigN x = u at hu hK ⊢
  conv => lhs; whnf
  refine loop_rule (m := 24) (fun r fr τ => ∃ (y : Int) (v : Nat) (acc : List Nat) (o : Option Nat) (a : SA), y = (v : Int) ∧ r ≤ 10 ∧ v < 18446744073709551616 ∧ v < 128 ^ r ∧ acc.length + r ≤ 11 ∧
      fr = [.bad, .bad, .bad, .int .u64 y, .sl a acc.length, .bad, .bad, .bad, .bad, .bad, .bad, .bad, .bad, .bad, .bad, .bad, .bad, .bad, .bad, .bad, .bad, .bad, .bad, .bad, .bad] ∧
      σ <+: τ ∧ Own σ τ 1 o a acc.length (u8s acc) ∧ tailB r v acc = enc u) ?_ _ 10 _ _ (by omega) ?_
  · rintro r fr τ C ⟨y, v, acc, o, a, rfl, hr, hvb, hv, hl, rfl, hp, ho, he⟩ next fin
    conv => lhs; whnf
    refine bif_case (fun h => ?_) (fun h => ?_)
    · have hv0 : 0 < v := by simpa using h
      obtain ⟨r, rfl⟩ : ∃ r', r = r' + 1 := by
        cases r with
        | zero => simp at hv; omega
        | succ r => exact ⟨r, rfl⟩
      conv => lhs; whnf
      refine bt.app (prefix_add hp _) (o := some τ.length) (xs := [128 + v % 128]) (ys := acc) (own1 hp refHigh) (ho.rw.mono (List.prefix_append _ _)) _ rfl (by simp only [List.length_append, List.length_singleton]; omega) fun o' a' σ' h0 hk _ _ ho' => ?_
      conv => lhs; whnf
      refine next r _ _ (by omega) ⟨_, v / 128, [128 + v % 128] ++ acc, o', a', refDiv hvb, by omega, by omega, ?_, ?_, rfl, h0, ho', ?_⟩
      · rw [Nat.pow_succ] at hv; omega
      · simp only [List.length_append, List.length_singleton]; omega
      · rw [← he, tailB, if_neg (by omega)]
        rfl
    · obtain rfl : v = 0 := by simpa using h
      conv => lhs; whnf
      refine fin _ _ _ nofun ?_
      conv => lhs; whnf
      have e : acc = enc u := by
        rw [← he]
        cases r <;> simp [tailB]
      subst e
      exact hK o a τ hp ho
  · refine ⟨_, u / 128, [u % 128], some σ.length, .at σ.length 0 1, refDiv hu, Nat.le_refl _, by omega, by omega, Nat.le_refl _, rfl, prefix_add (List.prefix_refl _) _, own1 (List.prefix_refl _) refLow, rfl⟩

theorem short_spec {n : Nat} (hn : 1 ≤ n) {a : SA} {bs : List Nat} {m : Nat} {y : Int} (hy : y = (m : Int)) (hm : m ≤ 1000) {σ : H} (ha : Rw σ 1 a bs.length (u8s bs)) (K : AV → H → Bool)
    (hK : ∀ o a σ', σ <+: σ' → Own σ σ' 1 o a (bs.take m).length (u8s (bs.take m)) → K (.sl a (bs.take m).length) σ' = true) : acall Try.prog tab D n 16 [.sl a bs.length, .int .i64 y] σ K = true := by
  subst hy
  obtain ⟨n, rfl, hn⟩ := up hn
  conv => lhs; whnf
  refine bt.slice ha 0 (min bs.length m) (.inl ⟨rfl, rfl⟩) (.inr ⟨_, _, rfl, ?_⟩) (Nat.zero_le _) (Nat.min_le_left _ _) (bs.take m) ?_ fun a' ha' => ?_
  · show (if _ then _ else _) = _
    split <;> omega
  · rw [List.drop_zero, Nat.min_comm, ← List.take_take, List.take_of_length_le (Nat.le_refl _)]
  conv => lhs; whnf
  refine bt.app (List.prefix_refl _) (xs := []) (Own.nil _ _ _) ha' _ rfl (by rw [List.nil_append, List.length_take]; omega) fun o' a' σ' h0 _ _ _ ho' => ?_
  conv => lhs; whnf
  exact hK o' a' σ' h0 ho'
end Go.Proofs.Ytahhajakgakdhaa
