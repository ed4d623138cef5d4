/- Package frame: Scan. -/
import Derived.Test.YtpagagiojnhhfabL1Frame
namespace Go.Proofs.Ytpagagiojnhhfab
open Go Go.AM Go.AM.St
attribute [local irreducible] IntKind.wrap Int.fdiv Int.tdiv Int.tmod BitVec.ofInt appendK sliceK indexAddrK ldK storeK seenK makeSliceK
set_option maxRecDepth 100000
variable {D : Drawer}

theorem scan_spec {n : Nat} {a : SA} {bs : List Nat} (hn : bs.length + 300 ≤ n) (hl : bs.length < 1000000) (hD : ByPlan Try.prog D) {σ : H} (ha : Rw σ 1 a bs.length (u8s bs)) (hb : ∀ b ∈ bs, b < 256) {K : AV → H → Bool}
    (hK : ∀ ow w W σ', σ <+: σ' → IsRs σ' W → W.map (·.2.2) = (scanF bs).1 → Own σ σ' 3 ow w W.length (recs W) → K (.tup [.sl w W.length, .int .i64 ((scanF bs).2 : Nat)]) σ' = true) :
    acall Try.prog tab D n 9 [.sl a bs.length] σ K = true := by
  obtain ⟨n, rfl, hn⟩ := up hn
  conv => lhs; whnf
  refine loop_rule (m := 49) (fun q fr τ => ∃ (z : Int) (p m : Nat) (ow : Option Nat) (w : SA) (W : List El), z = (p : Int) ∧ p + q = bs.length ∧ q < m ∧ W.length ≤ p ∧
      fr = [.sl a bs.length, .bad, .bad, .bad, .sl w W.length, .int .i64 z, .bad, .bad, .bad, .bad, .bad, .bad, .bad, .bad, .bad, .bad, .bad, .bad, .bad, .bad, .bad, .bad, .bad, .bad, .bad, .bad, .bad, .bad] ∧ σ <+: τ ∧ IsRs τ W ∧ Own σ τ 3 ow w W.length (recs W) ∧
      scanF bs = (W.map (·.2.2) ++ (scanL m (bs.drop p)).1, p + (scanL m (bs.drop p)).2)) ?_ _ bs.length _ _ (by omega)
      ⟨_, 0, bs.length + 1, none, .nil, [], rfl, by omega, by omega, Nat.le_refl _, rfl, List.prefix_refl _, IsRs.nil σ, Own.nil _ _ _, by rw [List.drop_zero, List.map_nil, List.nil_append, Nat.zero_add]; rfl⟩
  rintro q fr τ C ⟨z, p, m, ow, w, W, rfl, hq, hm, hW, rfl, hp, hI, how, hS⟩ next fin
  obtain ⟨m, rfl⟩ : ∃ m', m = m' + 1 := ⟨m - 1, by omega⟩
  have hdl : (bs.drop p).length = bs.length - p := List.length_drop
  have hdb : ∀ b ∈ bs.drop p, b < 256 := fun b h => hb b (List.mem_of_mem_drop h)
  rw [scanL] at hS
  have hle := getF_le (bs.drop p)
  have hok := fun h => getF_ok (bs := bs.drop p) h
  conv => lhs; whnf
  refine bt.slice (ha.mono hp) p bs.length (.inr ⟨_, _, rfl, rfl⟩) (.inl ⟨rfl, rfl⟩) (by omega) (Nat.le_refl _) (bs.drop p) (by rw [List.take_length]) fun a1 r1 => ?_
  conv => lhs; whnf
  refine fget_spec (by omega) (by omega) hD r1 hdb fun c d τ1 p1 i1 => ?_
  generalize getF (bs.drop p) = g at hS hle hok i1 ⊢
  obtain ⟨rr, k, e⟩ := g
  dsimp only at hS hle hok i1
  conv => lhs; whnf
  refine storeS rfl (get_new _ _) rfl rfl (Nat.le_refl 3) rfl ?_
  have T := get_set (get_new τ1 (AO.cells [AV.int .i64 0, .sl .nil 0, .sl .nil 0] 3 .own)) (AO.cells [.int .i64 rr.kind, .sl c rr.nums.length, .sl d rr.texts.length] 3 .own)
  have Pe := prefix_set (List.prefix_append τ1 [AO.cells [AV.int .i64 0, .sl .nil 0, .sl .nil 0] 3 .own]) (Nat.le_refl τ1.length) (AO.cells [.int .i64 rr.kind, .sl c rr.nums.length, .sl d rr.texts.length] 3 .own)
  have Pq := List.IsPrefix.trans p1 Pe
  have iq := i1.mono Pe
  have howq := how.mono Pq
  have hIq := hI.mono Pq
  have Pf := List.IsPrefix.trans hp Pq
  conv => lhs; whnf
  by_cases he : e = 0
  · rw [if_neg (by simpa using he)] at hS
    have hk := hok he
    refine bif_neg (by simp; omega) ?_
    conv => lhs; whnf
    refine ldR T ?_
    conv => lhs; whnf
    have hrow := Rw.new (σ := ((τ1 ++ [AO.cells [AV.int .i64 0, .sl .nil 0, .sl .nil 0] 3 .own]).set τ1.length (AO.cells [.int .i64 rr.kind, .sl c rr.nums.length, .sl d rr.texts.length] 3 .own))) (z := 3) (n := 1) (elCells (c, d, rr)) .own rfl
    refine appendK_ext Try.underlying35 rfl rfl rfl (prefix_add Pf _) (o := ow) (howq.mono (List.prefix_append _ _)) hrow (N := (W ++ [(c, d, rr)]).length) (zs := recs (W ++ [(c, d, rr)])) (by simp) (recs_app W [(c, d, rr)]) ?_ fun o5 a5 τ5 p5 k5 _ _ x5 w5 => ?_
    · show _ * 56 ≤ _
      rw [List.length_append, List.length_singleton]; omega
    conv => lhs; whnf
    have ek : IntKind.i64.wrap ((p : Int) + (k : Int)) = ((p + k : Nat) : Int) := by rw [wrap_i64 (by omega) (by omega)]; omega
    refine next (q - k) _ _ (by omega) ⟨_, p + k, m, o5, a5, W ++ [(c, d, rr)], ek, by omega, by omega, by rw [List.length_append, List.length_singleton]; omega, rfl, p5, ?_, w5, ?_⟩
    · intro x hx
      rcases List.mem_append.1 hx with hx | hx
      · exact ((hIq.mono (List.prefix_append _ _)).ext x5) x hx
      · rw [List.mem_singleton] at hx
        subst hx
        have h1 := iq.mono (List.prefix_append _ [AO.cells (elCells (c, d, rr)) 3 .own])
        exact ⟨Rw.ext h1.nums x5, Rw.ext h1.texts x5⟩
    · rw [hS, List.drop_drop, List.map_append, List.append_assoc, Nat.add_assoc]
      rfl
  · rw [if_pos he] at hS
    refine bif_pos (by simp; omega) ?_
    conv => lhs; whnf
    refine fin _ _ _ nofun ?_
    conv => lhs; whnf
    rw [List.append_nil, Nat.add_zero] at hS
    have := hK ow w W _ Pf hIq (by rw [hS]) howq
    rw [hS] at this
    exact this
end Go.Proofs.Ytpagagiojnhhfab
