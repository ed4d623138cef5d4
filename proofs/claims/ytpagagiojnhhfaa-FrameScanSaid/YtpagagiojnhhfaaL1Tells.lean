/- What both readers tell. -/
import Derived.Test.YtpagagiojnhhfaaL1RefH
import Derived.Test.YtpagagiojnhhfaaL1RecA
namespace Go.Proofs.Ytpagagiojnhhfaa
open Go Go.AM Go.AM.St
theorem recGet_small (bs : List Nat) : (recGet bs).1.nums.length ≤ 40 ∧ (recGet bs).1.texts.length ≤ 40 := by
  unfold recGet recGetF recGetG recGetH recGetI recGetJ
  split
  · exact ⟨Nat.zero_le _, Nat.zero_le _⟩
  · simp only
    rw [numsR_len, txtsR_len]
    have h1 := cntR_range (bs := bs) (m := 40) (s := (cntR bs 255 ⟨0, 0⟩).2)
    have h2 := cntR_range (bs := bs) (m := 40) (s := (numsR bs (cntR bs 40 (cntR bs 255 ⟨0, 0⟩).2).1.toNat (cntR bs 40 (cntR bs 255 ⟨0, 0⟩).2).2).2)
    exact ⟨by omega, by omega⟩
attribute [local irreducible] IntKind.wrap Int.fdiv Int.tdiv Int.tmod BitVec.ofInt appendK sliceK indexAddrK ldK storeK seenK makeSliceK
set_option maxRecDepth 100000
variable {D : Drawer}

theorem storeNewR {ρ τ0 : H} {id : Nat} {a b : SA} {r : RecP} {x y z : AV} {K : H → Bool} (h0 : ρ = τ0 ++ [AO.cells [x, y, z] 3 .own]) (hi : id = τ0.length)
    (hK : ∀ τ, τ = τ0 ++ [AO.cells [.int .i64 r.kind, .sl a r.nums.length, .sl b r.texts.length] 3 .own] → K τ = true) : storeK Try.prog 45 (.ptr (some ⟨id, 0, 0, 3⟩)) (recV a b r) ρ K = true := by
  subst h0 hi
  refine storeS rfl (get_new _ _) rfl rfl (Nat.le_refl 3) rfl ?_
  rw [set_new]
  exact hK _ rfl

theorem tells_spec {n : Nat} {a : SA} {bs : List Nat} (hn : bs.length + 1400 ≤ n) (hl : bs.length < 1000000) (hD : ByPlan Try.prog D) {σ : H} (ha : Rw σ 1 a bs.length (u8s bs)) (hb : ∀ b ∈ bs, b < 256) {K : AV → H → Bool}
    (hK : ∀ σ', σ <+: σ' → K (.bool true) σ' = true) : acall Try.prog tab D n 45 [.sl a bs.length] σ K = true := by
  obtain ⟨n, rfl, hn⟩ := up hn
  have hsm := recGet_small bs
  conv => lhs; whnf
  refine recGet_spec (by omega) hl hD ha hb fun a1 b1 σ1 p1 r1 => ?_
  conv => lhs; whnf
  refine storeS rfl (get_new _ _) rfl rfl (Nat.le_refl 3) rfl ?_
  have G1 := get_new σ1 (AO.cells [.int .i64 (recGet bs).1.kind, .sl a1 (recGet bs).1.nums.length, .sl b1 (recGet bs).1.texts.length] 3 .own)
  have P1 := prefix_add p1 (AO.cells [.int .i64 (recGet bs).1.kind, .sl a1 (recGet bs).1.nums.length, .sl b1 (recGet bs).1.texts.length] 3 .own)
  have I1 := r1.mono (List.prefix_append σ1 [AO.cells [.int .i64 (recGet bs).1.kind, .sl a1 (recGet bs).1.nums.length, .sl b1 (recGet bs).1.texts.length] 3 .own])
  rw [← set_new σ1 (AO.cells [AV.int .i64 0, .sl .nil 0, .sl .nil 0] 3 .own)] at G1 P1 I1
  conv => lhs; whnf
  refine rrecGet_spec (by omega) hl hD (ha.mono P1) hb fun a2 b2 σ2 p2 r2 => ?_
  conv => lhs; whnf
  refine storeS rfl (get_new _ _) rfl rfl (Nat.le_refl 3) rfl ?_
  have G2 := get_new σ2 (AO.cells [.int .i64 (recGet bs).1.kind, .sl a2 (recGet bs).1.nums.length, .sl b2 (recGet bs).1.texts.length] 3 .own)
  have G12 := get_old (prefix_get p2 G1) (AO.cells [.int .i64 (recGet bs).1.kind, .sl a2 (recGet bs).1.nums.length, .sl b2 (recGet bs).1.texts.length] 3 .own)
  have P2 := prefix_add (P1.trans p2) (AO.cells [.int .i64 (recGet bs).1.kind, .sl a2 (recGet bs).1.nums.length, .sl b2 (recGet bs).1.texts.length] 3 .own)
  have I12 := (I1.mono p2).mono (List.prefix_append σ2 [AO.cells [.int .i64 (recGet bs).1.kind, .sl a2 (recGet bs).1.nums.length, .sl b2 (recGet bs).1.texts.length] 3 .own])
  have I2 := r2.mono (List.prefix_append σ2 [AO.cells [.int .i64 (recGet bs).1.kind, .sl a2 (recGet bs).1.nums.length, .sl b2 (recGet bs).1.texts.length] 3 .own])
  rw [← set_new σ2 (AO.cells [AV.int .i64 0, .sl .nil 0, .sl .nil 0] 3 .own)] at G2 P2 G12 I12 I2
  conv => lhs; whnf
  refine ldR G12 ?_
  conv => lhs; whnf
  refine ldR G2 ?_
  conv => lhs; whnf
  refine req_spec (by omega) (by omega) (by omega) hD I12 I2 fun σ3 p3 => ?_
  rw [recEq_self]
  conv => lhs; whnf
  refine bif_pos (by simp) ?_
  conv => lhs; whnf
  refine bif_pos (by simp) ?_
  conv => lhs; whnf
  exact hK _ (P2.trans p3)
theorem tells_len {n : Nat} {a : SA} {bs : List Nat} {l : Nat} (hll : bs.length = l) (hn : l + 1400 ≤ n) (hl : l < 1000000) (hD : ByPlan Try.prog D) {σ : H} (ha : Rw σ 1 a l (u8s bs)) (hb : ∀ b ∈ bs, b < 256) {K : AV → H → Bool}
    (hK : ∀ σ', σ <+: σ' → K (.bool true) σ' = true) : acall Try.prog tab D n 45 [.sl a l] σ K = true := by
  subst hll
  exact tells_spec hn hl hD ha hb hK
end Go.Proofs.Ytpagagiojnhhfaa
