/- Package frame: Put, Get. -/
import Derived.Test.YtpagagiojnhhfabL1RecM
import Derived.Test.YtpagagiojnhhfabL1Mark
import Derived.Test.YtpagagiojnhhfabGmPlain
namespace Go.Proofs.Ytpagagiojnhhfab
open Go Go.AM Go.AM.St
attribute [local irreducible] IntKind.wrap Int.fdiv Int.tdiv Int.tmod BitVec.ofInt appendK sliceK indexAddrK ldK storeK seenK makeSliceK
set_option maxRecDepth 100000
variable {D : Drawer}

theorem fput_spec {n : Nat} (hn : 10000 ≤ n) {a b : SA} {r : RecP} {σ : H} (hr : IsR σ a b r) (ho : OkR r) (hD : ByPlan Try.prog D) {K : AV → H → Bool}
    (hK0 : mayR r = false → ∀ σ', σ <+: σ' → K (.tup [.sl .nil 0, .bool false]) σ' = true)
    (hK1 : mayR r = true → ∀ o a σ', σ <+: σ' → Own σ σ' 1 o a (putF r).length (u8s (putF r)) → K (.tup [.sl a (putF r).length, .bool true]) σ' = true) :
    acall Try.prog tab D n 5 [recV a b r] σ K = true := by
  obtain ⟨n, rfl, hn⟩ := up hn
  have g := get_new σ (AO.cells [.int .i64 r.kind, .sl a r.nums.length, .sl b r.texts.length] 3 .own)
  have pf := List.prefix_append σ [AO.cells [AV.int .i64 r.kind, .sl a r.nums.length, .sl b r.texts.length] 3 .own]
  conv => lhs; whnf
  refine ldR g ?_
  conv => lhs; whnf
  refine put_spec_rec (by omega) (hr.mono pf) ho hD (fun hm σ1 p1 => ?_) (fun hm o1 a1 σ1 p1 r1 => ?_)
  · conv => lhs; whnf
    exact hK0 hm _ (List.IsPrefix.trans pf p1)
  · have hl := putR_len hm
    have hb := putR_lt (r := r) fun t ht => (ho.ts t ht).1
    have hF : putF r = fixL (putR r).length 2 ++ fixL (markN 1 (putR r)) 4 ++ putR r := rfl
    have hFl := putF_len hm
    conv => lhs; whnf
    refine fix_spec (by omega) (u := (putR r).length) (size := 2) (wrap_u64 (by omega)) rfl (by decide) σ1 _ fun o2 a2 σ2 p2 r2 => ?_
    conv => lhs; whnf
    refine of_spec (by omega) rfl (r1.rw.mono p2) hb (by omega) _ ?_
    conv => lhs; whnf
    have hml := markN_lt 1 (putR r)
    refine fix_spec (by omega) (u := markN 1 (putR r)) (size := 4) (wrap_u64 (by omega)) rfl (by decide) σ2 _ fun o3 a3 σ3 p3 r3 => ?_
    conv => lhs; whnf
    refine bt.app (List.IsPrefix.trans p2 p3) (r2.mono p3) r3.rw (fixL (putR r).length 2 ++ fixL (markN 1 (putR r)) 4) rfl (by simp [fixL]) fun o4 a4 σ4 p4 _ _ _ r4 => ?_
    conv => lhs; whnf
    refine bt.app p4 r4 (r1.rw.mono p4) (putF r) rfl (by omega) fun o5 a5 σ5 p5 _ _ _ r5 => ?_
    conv => lhs; whnf
    exact hK1 hm _ _ _ (List.IsPrefix.trans pf (List.IsPrefix.trans p1 p5)) (r5.since (List.IsPrefix.trans pf p1))

theorem fget_spec {n : Nat} {a : SA} {bs : List Nat} (hn : bs.length + 200 ≤ n) (hl : bs.length < 1000000) (hD : ByPlan Try.prog D) {σ : H} (ha : Rw σ 1 a bs.length (u8s bs)) (hb : ∀ b ∈ bs, b < 256) {K : AV → H → Bool}
    (hK : ∀ a' b' σ', σ <+: σ' → IsR σ' a' b' (getF bs).1 → K (.tup [recV a' b' (getF bs).1, .int .i64 ((getF bs).2.1 : Nat), .int .i64 ((getF bs).2.2 : Nat)]) σ' = true) :
    acall Try.prog tab D n 8 [.sl a bs.length] σ K = true := by
  obtain ⟨n, rfl, hn⟩ := up hn
  have g := get_new σ (AO.cells [AV.int .i64 0, .sl .nil 0, .sl .nil 0] 3 .own)
  have pf := List.prefix_append σ [AO.cells [AV.int .i64 0, .sl .nil 0, .sl .nil 0] 3 .own]
  have ha1 := ha.mono pf
  have hG : getF bs = if bs.length < 6 then (⟨0, [], []⟩, 0, 2) else if bs.length < getFN bs then (⟨0, [], []⟩, 0, 2) else if getFbad bs then (⟨0, [], []⟩, 0, 1) else ((recGet (getFB bs)).1, getFN bs, 0) := rfl
  have nilR : ∀ τ : H, IsR τ .nil .nil ⟨0, [], []⟩ := fun τ => ⟨Rw.nil _ _, Rw.nil _ _⟩
  conv => lhs; whnf
  by_cases h6 : bs.length < 6
  · rw [if_pos h6] at hG
    rw [hG] at hK
    refine bif_pos (by simp; omega) ?_
    conv => lhs; whnf
    refine storeS rfl g rfl rfl (Nat.le_refl 3) rfl ?_
    conv => lhs; whnf
    refine ldS Try.underlying25 rfl (get_set g _) (Nat.le_refl 3) (Nat.le_refl 3) rfl ?_
    conv => lhs; whnf
    exact hK .nil .nil _ (prefix_set pf (Nat.le_refl _) _) (nilR _)
  · rw [if_neg h6] at hG
    refine bif_neg (by simp; omega) ?_
    conv => lhs; whnf
    refine bt.slice ha1 0 2 (.inl ⟨rfl, rfl⟩) (.inr ⟨_, _, rfl, rfl⟩) (by decide) (by omega) (bs.take 2) (by rw [List.drop_zero]) fun a2 r2 => ?_
    have h2 := unfix2_lt hb
    have hN : getFN bs = 6 + unfix (bs.take 2) := rfl
    have eN : IntKind.i64.wrap (6 + IntKind.i64.wrap ((unfix (bs.take 2) : Nat) : Int)) = ((getFN bs : Nat) : Int) := by
      rw [wrap_i64 (x := ((unfix (bs.take 2) : Nat) : Int)) (by omega) (by omega), wrap_i64 (by omega) (by omega), hN]; omega
    conv => lhs; whnf
    refine unfix_spec (by omega) r2 (fun b h => hb b (List.mem_of_mem_take h)) _ ?_
    conv => lhs; whnf
    by_cases hlt : bs.length < getFN bs
    · rw [if_pos hlt] at hG
      rw [hG] at hK
      refine bif_pos (by rw [eN]; simp; omega) ?_
      conv => lhs; whnf
      refine storeS rfl g rfl rfl (Nat.le_refl 3) rfl ?_
      conv => lhs; whnf
      refine ldS Try.underlying25 rfl (get_set g _) (Nat.le_refl 3) (Nat.le_refl 3) rfl ?_
      conv => lhs; whnf
      exact hK .nil .nil _ (prefix_set pf (Nat.le_refl _) _) (nilR _)
    · rw [if_neg hlt] at hG
      refine bif_neg (by rw [eN]; simp; omega) ?_
      conv => lhs; whnf
      have hBl : (getFB bs).length ≤ bs.length := by unfold getFB; rw [List.length_drop, List.length_take]; omega
      have hBb : ∀ b ∈ getFB bs, b < 256 := fun b h => hb b (List.mem_of_mem_take (List.mem_of_mem_drop h))
      refine bt.slice ha1 6 (getFN bs) (.inr ⟨_, _, rfl, rfl⟩) (.inr ⟨_, _, rfl, eN⟩) (by omega) (by omega) (getFB bs) rfl fun a3 r3 => ?_
      conv => lhs; whnf
      refine recGet_spec (by omega) (by omega) hD r3 hBb fun c d σ1 p1 r1 => ?_
      have hrr := recGet_range (getFB bs)
      have hBad : getFbad bs ↔ ((recGet (getFB bs)).2.2 ≠ 0 ∨ 6 + (recGet (getFB bs)).2.1 ≠ getFN bs ∨ unfix ((bs.take 6).drop 2) ≠ markN 1 (getFB bs)) := Iff.rfl
      generalize recGet (getFB bs) = gr at hG r1 hrr hBad ⊢
      obtain ⟨rr, k, e⟩ := gr
      dsimp only at r1 hG hrr hBad
      have g1 := prefix_get p1 g
      have P1 := List.IsPrefix.trans pf p1
      conv => lhs; whnf
      refine storeS rfl (get_new _ _) rfl rfl (Nat.le_refl 3) rfl ?_
      have T6 := get_set (get_new σ1 (AO.cells [AV.int .i64 0, .sl .nil 0, .sl .nil 0] 3 .own)) (AO.cells [.int .i64 rr.kind, .sl c rr.nums.length, .sl d rr.texts.length] 3 .own)
      have Pe := prefix_set (List.prefix_append σ1 [AO.cells [AV.int .i64 0, .sl .nil 0, .sl .nil 0] 3 .own]) (Nat.le_refl σ1.length) (AO.cells [.int .i64 rr.kind, .sl c rr.nums.length, .sl d rr.texts.length] 3 .own)
      have g2 := prefix_get Pe g1
      have P2 := List.IsPrefix.trans P1 Pe
      have hav := ha.mono P2
      conv => lhs; whnf
      refine hD.go plan8x7 ord8x7 ?_
      conv => lhs; whnf
      have ek : IntKind.i64.wrap (6 + ((k : Nat) : Int)) = ((6 + k : Nat) : Int) := by rw [wrap_i64 (by omega) (by omega)]; omega
      by_cases he : e = 0
      case' neg =>
        refine bif_pos (by simp; omega) ?_
        conv => lhs; whnf
      case' pos =>
        refine bif_neg (by simp; omega) ?_
        conv => lhs; whnf
        by_cases hk : 6 + k = getFN bs
        case' neg =>
          refine bif_pos (by rw [ek, eN]; simp; omega) ?_
          conv => lhs; whnf
        case' pos =>
          refine bif_neg (by rw [ek, eN]; simp; omega) ?_
          conv => lhs; whnf
          refine bt.slice hav 2 6 (.inr ⟨_, _, rfl, rfl⟩) (.inr ⟨_, _, rfl, rfl⟩) (by decide) (by omega) ((bs.take 6).drop 2) rfl fun a4 r4 => ?_
          conv => lhs; whnf
          refine bt.slice hav 6 (getFN bs) (.inr ⟨_, _, rfl, rfl⟩) (.inr ⟨_, _, rfl, eN⟩) (by omega) (by omega) (getFB bs) rfl fun a5 r5 => ?_
          conv => lhs; whnf
          refine unfix_spec (by omega) r4 (fun b h => hb b (List.mem_of_mem_take (List.mem_of_mem_drop h))) _ ?_
          conv => lhs; whnf
          refine of_spec (by omega) rfl r5 hBb (by omega) _ ?_
          have hml := markN_lt 1 (getFB bs)
          have em : IntKind.u64.wrap ((markN 1 (getFB bs) : Nat) : Int) = ((markN 1 (getFB bs) : Nat) : Int) := wrap_u64 (by omega)
          conv => lhs; whnf
          by_cases hm : unfix ((bs.take 6).drop 2) = markN 1 (getFB bs)
          case' neg =>
            refine bif_pos (by rw [em]; simp; omega) ?_
            conv => lhs; whnf
          case' pos =>
            refine bif_neg (by rw [em, hm]; simp) ?_
            conv => lhs; whnf
      case pos =>
        have hnb : ¬ getFbad bs := fun h => by rcases hBad.1 h with h | h | h <;> exact h (by assumption)
        rw [if_neg hnb] at hG
        rw [hG] at hK
        refine ldR T6 ?_
        conv => lhs; whnf
        refine storeS rfl g2 rfl rfl (Nat.le_refl 3) rfl ?_
        conv => lhs; whnf
        refine ldS Try.underlying25 rfl (get_set g2 _) (Nat.le_refl 3) (Nat.le_refl 3) rfl ?_
        conv => lhs; whnf
        have r1e := r1.mono Pe
        have := hK c d _ (prefix_set P2 (Nat.le_refl _) _) ⟨Rw.set (md' := .own) (xs' := [.int .i64 rr.kind, .sl c rr.nums.length, .sl d rr.texts.length]) r1e.nums g2 (by decide), Rw.set (md' := .own) (xs' := [.int .i64 rr.kind, .sl c rr.nums.length, .sl d rr.texts.length]) r1e.texts g2 (by decide)⟩
        rw [← eN] at this
        exact this
      all_goals
        have hb1 : getFbad bs := hBad.2 (by first | exact .inl (by assumption) | exact .inr (.inl (by assumption)) | exact .inr (.inr (by assumption)))
        rw [if_pos hb1] at hG
        rw [hG] at hK
        refine storeS rfl g2 rfl rfl (Nat.le_refl 3) rfl ?_
        conv => lhs; whnf
        refine ldS Try.underlying25 rfl (get_set g2 _) (Nat.le_refl 3) (Nat.le_refl 3) rfl ?_
        conv => lhs; whnf
        exact hK .nil .nil _ (prefix_set P2 (Nat.le_refl _) _) (nilR _)
end Go.Proofs.Ytpagagiojnhhfab
