/- Package vote: Most, Median. -/
import Derived.Test.YthmdecfiijgaoaaGreatGmWord
import Derived.Test.YthmdecfiijgaoaaGreatL1Plans
import Derived.Test.YthmdecfiijgaoaaGreatPVote
import Derived.Test.YthmdecfiijgaoaaGreatGmCode
import Derived.Test.YthmdecfiijgaoaaGreatGmStep
namespace Go.Proofs.YthmdecfiijgaoaaGreat
open Go Go.AM Go.AM.St

theorem valsF_spec {g id : Nat} {a : SA} {zs : List Int} {rest : List AV} {z y : Nat} {md : Md} {σ : H} {K : AV → H → Bool} (hr : σ[id]? = some (AO.cells (.sl a zs.length :: rest) y md)) (hm : md ≠ .ro) (hv : Rw σ 1 a zs.length (iks .i64 zs)) (hl : zs.length ≤ 1000000)
    (hK0 : zs = [] → K (.sl .nil 0) σ = true) (hK1 : zs ≠ [] → K (.sl (.at σ.length 0 1) zs.length) (σ ++ [AO.cells (iks .i64 (sortI zs)) 1 .own]) = true) :
    valsF g [.fn g [.ptr (some ⟨id, 0, 0, z⟩)]] σ K = true := by
  unfold valsF
  simp only
  refine bif_pos (by simp) ?_
  refine rowK_of hr ?_
  simp only
  refine bif_pos (by simp [hl]; cases md <;> simp_all) ?_
  refine seenK_rw hv ?_
  have hi : ∀ ys : List Int, intsOf (iks .i64 ys) = some ys := fun ys => by
    induction ys with
    | nil => rfl
    | cons y ys ih => show (intsOf (iks .i64 ys)).map _ = _; rw [ih]; rfl
  rw [hi]
  cases zs with
  | nil => exact hK0 rfl
  | cons x xs => exact hK1 (by simp)

theorem most_val {m : Nat} (hm : m ≤ 1000000) : IntKind.i64.wrap (IntKind.i64.wrap ((if (m : Int) < 1 then (1 : Int) else (m : Int)).tdiv 2) + 1) = ((mostN m : Nat) : Int) := by
  have h1 : (if (m : Int) < 1 then (1 : Int) else (m : Int)) = ((max m 1 : Nat) : Int) := by split <;> omega
  have h2 : ((max m 1 : Nat) : Int).tdiv 2 = ((max m 1 / 2 : Nat) : Int) := rfl
  rw [h1, h2, wrap_i64 (x := ((max m 1 / 2 : Nat) : Int)) (by omega) (by omega), wrap_i64 (by omega) (by omega)]
  rfl

attribute [local irreducible] IntKind.wrap Int.fdiv Int.tdiv Int.tmod BitVec.ofInt appendK sliceK indexAddrK ldK storeK seenK makeSliceK valsF
set_option maxRecDepth 100000
variable {D : Drawer}

theorem most_spec {n m : Nat} {y : Int} (hn : 1 ≤ n) (hy : y = (m : Int)) (hm : m ≤ 1000000) {σ : H} {K : AV → H → Bool} (h : K (.int .i64 (mostN m : Int)) σ = true) : acall Tryz.prog tab D n 116 [.int .i64 y] σ K = true := by
  subst hy
  obtain ⟨n, rfl, hn⟩ := up hn
  conv => lhs; whnf
  rw [← most_val hm] at h
  exact h
theorem rmost_spec {n m : Nat} {y : Int} (hn : 1 ≤ n) (hy : y = (m : Int)) (hm : m ≤ 1000000) {σ : H} {K : AV → H → Bool} (h : K (.int .i64 (mostN m : Int)) σ = true) : acall Tryz.prog tab D n 103 [.int .i64 y] σ K = true := by
  subst hy
  obtain ⟨n, rfl, hn⟩ := up hn
  conv => lhs; whnf
  rw [← most_val hm] at h
  exact h

theorem values_spec {n k : Nat} {a : SA} (hn : 1 ≤ n) {σ : H} {K : AV → H → Bool} (hK : K (.fn 136 [.ptr (some ⟨σ.length, 0, 0, 1⟩)]) (σ ++ [AO.cells [.sl a k] 1 .own]) = true) : acall Tryz.prog tab D n 122 [.sl a k] σ K = true := by
  obtain ⟨n, rfl, hn⟩ := up hn
  conv => lhs; whnf
  exact hK
theorem sorted_spec {n : Nat} {args : List AV} {σ : H} {K : AV → H → Bool} (h : valsF 136 args σ K = true) : acall Tryz.prog tab D n 121 args σ K = true := by
  cases n <;> exact h
theorem median_spec {n : Nat} {a : SA} {zs : List Int} (hn : 2 ≤ n) (hl : zs.length ≤ 1000) {σ : H} (ha : Rw σ 1 a zs.length (iks .i64 zs)) {K : AV → H → Bool} (hK : ∀ σ', σ <+: σ' → K (.int .i64 (medI zs)) σ' = true) :
    acall Tryz.prog tab D n 101 [.sl a zs.length] σ K = true := by
  obtain ⟨n, rfl, hn⟩ := up hn
  conv => lhs; whnf
  by_cases h0 : zs.length = 0
  · refine bif_pos (by simpa using h0) ?_
    conv => lhs; whnf
    have h := hK σ (List.prefix_refl _)
    rw [show medI zs = 0 by unfold medI; rw [if_pos h0]] at h
    exact h
  · refine bif_neg (by simpa using h0) ?_
    conv => lhs; whnf
    refine values_spec (by omega) ?_
    conv => lhs; whnf
    refine sorted_spec ?_
    refine valsF_spec (get_new _ _) (by decide) (ha.mono (List.prefix_append _ _)) (by omega) (fun h => absurd (by rw [h]; rfl) h0) fun _ => ?_
    conv => lhs; whnf
    refine most_spec (by omega) rfl (by omega) ?_
    have hne : zs.length ≠ 0 := h0
    obtain ⟨hk, hm⟩ := med_at hne
    have hp := mostN_pos zs.length
    have hle := mostN_le (n := zs.length) (by omega)
    have r2 : Rw (σ ++ [AO.cells [.sl a zs.length] 1 .own] ++ [AO.cells (iks .i64 (sortI zs)) 1 .own]) 1 (.at (σ ++ [AO.cells [.sl a zs.length] 1 .own]).length 0 1) zs.length (iks .i64 (sortI zs)) := Rw.new _ _ (by rw [iks_len, sortI_len, Nat.mul_one])
    conv => lhs; whnf
    refine indexAddrK_rw it42.ht it42.hz r2 (i := zs.length - mostN zs.length) (by rw [wrap_i64 (by omega) (by omega)]; omega) (by omega) (iks_at hk) fun p hpe => ?_
    conv => lhs; whnf
    refine it42.ld hpe ?_
    conv => lhs; whnf
    have h := hK (σ ++ [AO.cells [.sl a zs.length] 1 .own] ++ [AO.cells (iks .i64 (sortI zs)) 1 .own]) (prefix_add (List.prefix_append _ _) _)
    rw [← hm] at h
    exact h

end Go.Proofs.YthmdecfiijgaoaaGreat
