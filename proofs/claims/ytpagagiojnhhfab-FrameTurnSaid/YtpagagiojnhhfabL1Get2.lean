/- Package rec: Get. -/
import Derived.Test.YtpagagiojnhhfabL1Get
namespace Go.Proofs.Ytpagagiojnhhfab
open Go Go.AM Go.AM.St
attribute [local irreducible] IntKind.wrap Int.fdiv Int.tdiv Int.tmod BitVec.ofInt appendK sliceK indexAddrK ldK storeK seenK makeSliceK
set_option maxRecDepth 100000
variable {D : Drawer}

theorem recGet_spec {n : Nat} {a : SA} {bs : List Nat} (hn : bs.length + 100 ≤ n) (hl : bs.length < 1000000) (hD : ByPlan Try.prog D) {σ : H} (ha : Rw σ 1 a bs.length (u8s bs)) (hb : ∀ b ∈ bs, b < 256) {K : AV → H → Bool}
    (hK : ∀ a' b' σ', σ <+: σ' → IsR σ' a' b' (recGet bs).1 → K (.tup [recV a' b' (recGet bs).1, .int .i64 ((recGet bs).2.1 : Nat), .int .i64 ((recGet bs).2.2 : Nat)]) σ' = true) :
    acall Try.prog tab D n 13 [.sl a bs.length] σ K = true := by
  obtain ⟨n, rfl, hn⟩ := up hn
  have hG : recGet bs = recGetF bs (cntR bs 255 ⟨0, 0⟩) := rfl
  have g0 := get_old (get_new σ (AO.cells [AV.int .i64 0, .sl .nil 0, .sl .nil 0] 3 .own)) (rrow a bs.length ⟨0, 0⟩)
  have g1 := get_new (σ ++ [AO.cells [AV.int .i64 0, .sl .nil 0, .sl .nil 0] 3 .own]) (rrow a bs.length ⟨0, 0⟩)
  have pf : σ <+: σ ++ [AO.cells [AV.int .i64 0, .sl .nil 0, .sl .nil 0] 3 .own] ++ [rrow a bs.length ⟨0, 0⟩] := List.IsPrefix.trans (List.prefix_append _ _) (List.prefix_append _ _)
  have hL1 : (σ ++ [AO.cells [AV.int .i64 0, .sl .nil 0, .sl .nil 0] 3 .own]).length = σ.length + 1 := by simp
  have hc1 := cntR_range (bs := bs) (m := 255) (s := ⟨0, 0⟩)
  have hp1 := cntR_pos (bs := bs) (m := 255) (s := ⟨0, 0⟩) (Nat.zero_le _)
  conv => lhs; whnf
  refine count_spec (m := 255) (s := ⟨0, 0⟩) (by omega) hl rfl (by decide) hD (ha.mono pf) hb g1 (Nat.zero_le _) ?_
  generalize cntR bs 255 ⟨0, 0⟩ = c1 at hG hc1 hp1
  have g0' := get_set_ne g0 (j := (σ ++ [AO.cells [AV.int .i64 0, .sl .nil 0, .sl .nil 0] 3 .own]).length) (by rw [hL1]; omega) (rrow a bs.length c1.2)
  have g1' := get_set g1 (rrow a bs.length c1.2)
  have pf1 := prefix_set pf (by rw [hL1]; omega) (id := (σ ++ [AO.cells [AV.int .i64 0, .sl .nil 0, .sl .nil 0] 3 .own]).length) (rrow a bs.length c1.2)
  have hlen : ((σ ++ [AO.cells [AV.int .i64 0, .sl .nil 0, .sl .nil 0] 3 .own] ++ [rrow a bs.length ⟨0, 0⟩]).set (σ ++ [AO.cells [AV.int .i64 0, .sl .nil 0, .sl .nil 0] 3 .own]).length (rrow a bs.length c1.2)).length = σ.length + 2 := by simp
  have hi1 : σ.length < (σ ++ [AO.cells [AV.int .i64 0, .sl .nil 0, .sl .nil 0] 3 .own]).length := by rw [hL1]; omega
  have hi2 : (σ ++ [AO.cells [AV.int .i64 0, .sl .nil 0, .sl .nil 0] 3 .own]).length < ((σ ++ [AO.cells [AV.int .i64 0, .sl .nil 0, .sl .nil 0] 3 .own] ++ [rrow a bs.length ⟨0, 0⟩]).set (σ ++ [AO.cells [AV.int .i64 0, .sl .nil 0, .sl .nil 0] 3 .own]).length (rrow a bs.length c1.2)).length := by
    rw [hlen, hL1]; omega
  conv => lhs; whnf
  refine storeS rfl (get_new _ _) rfl rfl (Nat.le_refl 3) rfl ?_
  conv => lhs; whnf
  have hg2 : ∀ x, (((σ ++ [AO.cells [AV.int .i64 0, .sl .nil 0, .sl .nil 0] 3 .own] ++ [rrow a bs.length ⟨0, 0⟩]).set (σ ++ [AO.cells [AV.int .i64 0, .sl .nil 0, .sl .nil 0] 3 .own]).length (rrow a bs.length c1.2)) ++ [AO.cells [AV.int .i64 0, .sl .nil 0, .sl .nil 0] 3 .own]).set
      ((σ ++ [AO.cells [AV.int .i64 0, .sl .nil 0, .sl .nil 0] 3 .own] ++ [rrow a bs.length ⟨0, 0⟩]).set (σ ++ [AO.cells [AV.int .i64 0, .sl .nil 0, .sl .nil 0] 3 .own]).length (rrow a bs.length c1.2)).length x =
      ((σ ++ [AO.cells [AV.int .i64 0, .sl .nil 0, .sl .nil 0] 3 .own] ++ [rrow a bs.length ⟨0, 0⟩]).set (σ ++ [AO.cells [AV.int .i64 0, .sl .nil 0, .sl .nil 0] 3 .own]).length (rrow a bs.length c1.2)) ++ [x] := fun x => by
    rw [List.set_append_right _ _ (Nat.le_refl _), Nat.sub_self, List.set_cons_zero]
  have G0 := get_old g0' (AO.cells [AV.int .i64 c1.1, .sl .nil 0, .sl .nil 0] 3 .own)
  have G1 := get_old g1' (AO.cells [AV.int .i64 c1.1, .sl .nil 0, .sl .nil 0] 3 .own)
  have G2 := get_new ((σ ++ [AO.cells [AV.int .i64 0, .sl .nil 0, .sl .nil 0] 3 .own] ++ [rrow a bs.length ⟨0, 0⟩]).set (σ ++ [AO.cells [AV.int .i64 0, .sl .nil 0, .sl .nil 0] 3 .own]).length (rrow a bs.length c1.2)) (AO.cells [AV.int .i64 c1.1, .sl .nil 0, .sl .nil 0] 3 .own)
  have PF := prefix_add pf1 (AO.cells [AV.int .i64 c1.1, .sl .nil 0, .sl .nil 0] 3 .own)
  rw [← hg2] at G0 G1 G2 PF
  have ha1 := ha.mono PF
  have hc2 := cntR_range (bs := bs) (m := 40) (s := c1.2)
  have hp2 := cntR_pos (m := 40) hp1
  refine count_spec (m := 40) (s := c1.2) (by omega) hl rfl (by decide) hD ha1 hb G1 hp1 ?_
  have hG : recGet bs = recGetG bs c1 (cntR bs 40 c1.2) := hG
  generalize cntR bs 40 c1.2 = c2 at hG hc2 hp2
  have hG : recGet bs = recGetH bs c1 (numsR bs c2.1.toNat c2.2) := hG
  obtain ⟨N, hN⟩ : ∃ N : Nat, c2.1 = (N : Int) := ⟨c2.1.toNat, by omega⟩
  rw [hN, Int.toNat_natCast] at hG
  rw [hN] at hc2 ⊢
  have hN40 : N ≤ 40 := by omega
  have G0' := get_set_ne G0 (j := (σ ++ [AO.cells [AV.int .i64 0, .sl .nil 0, .sl .nil 0] 3 .own]).length) (Nat.ne_of_lt hi1) (rrow a bs.length c2.2)
  have G1' := get_set G1 (rrow a bs.length c2.2)
  have G2' := get_set_ne G2 (j := (σ ++ [AO.cells [AV.int .i64 0, .sl .nil 0, .sl .nil 0] 3 .own]).length) (Nat.ne_of_gt hi2) (rrow a bs.length c2.2)
  have PF' := prefix_set PF (Nat.le_of_lt hi1) (id := (σ ++ [AO.cells [AV.int .i64 0, .sl .nil 0, .sl .nil 0] 3 .own]).length) (rrow a bs.length c2.2)
  conv => lhs; whnf
  refine loop_rule (m := 49252) (fun q fr τ => ∃ (z : Int) (i i0 i1 i2 : Nat) (o : Option Nat) (c : SA), z = (i : Int) ∧ i + q = N ∧
      fr = [.bad, .bad, .ptr (some ⟨i0, 0, 0, 3⟩), .bad, .bad, .ptr (some ⟨i1, 0, 0, 3⟩), .ptr (some ⟨i2, 0, 0, 3⟩), .bad, .bad, .bad, .bad, .bad, .bad, .bad, .int .i64 (N : Int), .int .i64 z, .bad, .bad, .bad, .bad, .bad, .bad, .bad, .bad, .bad, .bad, .bad, .bad, .bad, .bad, .bad, .bad, .bad, .bad, .bad, .bad, .bad, .bad, .bad, .bad, .bad, .bad, .bad, .bad, .bad, .bad, .bad, .bad, .bad, .bad, .bad, .bad] ∧
      σ <+: τ ∧ σ.length ≤ i0 ∧ i0 < i1 ∧ i1 < i2 ∧ (∀ id, o = some id → i2 < id) ∧ i2 < τ.length ∧
      τ[i0]? = some (AO.cells [AV.int .i64 0, .sl .nil 0, .sl .nil 0] 3 .own) ∧ τ[i1]? = some (rrow a bs.length (numsR bs i c2.2).2) ∧
      τ[i2]? = some (AO.cells [AV.int .i64 c1.1, .sl c (numsR bs i c2.2).1.length, .sl .nil 0] 3 .own) ∧
      Own σ τ 1 o c (numsR bs i c2.2).1.length (iks .i64 (numsR bs i c2.2).1)) ?_ _ N _ _ (by omega)
      ⟨_, 0, σ.length, _, _, none, .nil, rfl, by omega, rfl, PF', Nat.le_refl _, hi1, hi2, nofun, get_lt G2', G0', G1', G2', Own.nil _ _ _⟩
  rintro q fr τ C ⟨z, i, i0, i1, i2, o, c, rfl, hi, rfl, hpf, h0, h1, h2, ho, hlt2, R0, R1, R2, hown⟩ next fin
  conv => lhs; whnf
  refine bif_case (fun h => ?_) (fun h => ?_)
  · have hlt : i < N := by simpa using h
    have hsn := numsR_succ bs i c2.2
    have hlen2 := numsR_len bs i c2.2
    have hpos2 := numsR_pos i hp2
    conv => lhs; whnf
    refine hD.go plan13x5 ord13x5 ?_
    conv => lhs; whnf
    refine ldF rfl rfl rfl R2 rfl ?_
    conv => lhs; whnf
    refine number_spec (most := 18446744073709551615) (by omega) hl rfl (by decide) hD (ha.mono hpf) hb R1 hpos2 ?_
    have R0a := get_set_ne R0 (j := i1) (by omega) (rrow a bs.length (numR bs 18446744073709551615 (numsR bs i c2.2).2).2)
    have R1a := get_set R1 (rrow a bs.length (numR bs 18446744073709551615 (numsR bs i c2.2).2).2)
    have R2a := get_set_ne R2 (j := i1) (by omega) (rrow a bs.length (numR bs 18446744073709551615 (numsR bs i c2.2).2).2)
    have Pa := prefix_set hpf (by omega) (id := i1) (rrow a bs.length (numR bs 18446744073709551615 (numsR bs i c2.2).2).2)
    have Oa := hown.keep (keep_set τ i1 (rrow a bs.length (numR bs 18446744073709551615 (numsR bs i c2.2).2).2)) (by
      cases o with
      | none => exact .inl rfl
      | some id => exact .inr fun e => by cases e; have := ho _ rfl; omega)
    have hla : i2 < (τ.set i1 (rrow a bs.length (numR bs 18446744073709551615 (numsR bs i c2.2).2).2)).length := by rw [List.length_set]; exact hlt2
    generalize hx : (numR bs 18446744073709551615 (numsR bs i c2.2).2) = x at *
    generalize τ.set i1 (rrow a bs.length x.2) = τa at *
    conv => lhs; whnf
    refine and_true (all_cons ?_ rfl) ?_
    · conv => lhs; whnf
      refine ldF rfl rfl rfl R2a rfl ?_
      exact same_sl c _
    conv => lhs; whnf
    refine and_true (all_cons ?_ rfl) ?_
    · conv => lhs; whnf
      refine ldF rfl rfl rfl (get_old R2a _) rfl ?_
      exact same_sl c _
    conv => lhs; whnf
    have hla' : i2 < (τa ++ [AO.cells [AV.int .i64 x.1] 1 .own]).length := by rw [List.length_append]; omega
    have hrx : Rw (τa ++ [AO.cells [AV.int .i64 x.1] 1 .own]) 1 (.at τa.length 0 1) [x.1].length (iks .i64 [x.1]) := Rw.new _ _ rfl
    have hz : (numsR bs i c2.2).1 ++ [x.1] = (numsR bs (i + 1) c2.2).1 := by rw [hsn]
    have hz2 : (numsR bs (i + 1) c2.2).2 = x.2 := by rw [hsn]
    have hzl := numsR_len bs (i + 1) c2.2
    refine it42.app (prefix_add Pa _) (o := o) (Oa.mono (List.prefix_append _ _)) hrx (numsR bs (i + 1) c2.2).1 hz (by omega) fun o' c' σ' p' hk ho1 ho2 own' => ?_
    have ho' : ∀ id, o' = some id → i2 < id := fun id e => by
      cases o with
      | none =>
        rcases ho2 rfl with h | h
        · rw [h] at e; cases e
        · rw [h] at e; cases e; exact hla'
      | some j => rw [ho1 j rfl] at e; exact ho _ e
    have hne : ∀ j, j ≤ i2 → some j ≠ o := fun j hj e => by have := ho j e.symm; omega
    have R0b := hk _ _ (hne i0 (by omega)) (get_old R0a (AO.cells [AV.int .i64 x.1] 1 .own))
    have R1b := hk _ _ (hne i1 (by omega)) (get_old R1a (AO.cells [AV.int .i64 x.1] 1 .own))
    have R2b := hk _ _ (hne i2 (by omega)) (get_old R2a (AO.cells [AV.int .i64 x.1] 1 .own))
    conv => lhs; whnf
    refine storeK_of rfl rfl (by decide) R2b rfl (Nat.le_succ 2) ?_
    conv => lhs; whnf
    refine next (q - 1) _ _ (by omega) ⟨_, i + 1, i0, i1, i2, o', c', inc_i64 (by omega), by omega, rfl, prefix_set p' (by omega) _, h0, h1, h2, ho', ?_, get_set_ne R0b (by omega) _, ?_, get_set R2b _, own'.keep (keep_set _ _ _) ?_⟩
    · rw [List.length_set]; exact get_lt R2b
    · rw [hz2]; exact get_set_ne R1b (by omega) _
    · cases o' with
      | none => exact .inl rfl
      | some id => exact .inr fun e => by cases e; have := ho' _ rfl; omega
  · obtain rfl : i = N := by have : ¬ i < N := by simpa using h
                             omega
    clear next
    have hns := numsR_pos i hp2
    have hnl := numsR_len bs i c2.2
    generalize numsR bs i c2.2 = ns at hG R1 R2 hown hns hnl
    have hG : recGet bs = recGetI bs c1 ns (cntR bs 40 ns.2) := hG
    have hc3 := cntR_range (bs := bs) (m := 40) (s := ns.2)
    have hp3 := cntR_pos (m := 40) hns
    conv => lhs; whnf
    refine fin _ _ _ nofun ?_
    conv => lhs; whnf
    refine count_spec (m := 40) (s := ns.2) (by omega) hl rfl (by decide) hD (ha.mono hpf) hb R1 hns ?_
    generalize cntR bs 40 ns.2 = c3 at hG hc3 hp3
    obtain ⟨M, hM⟩ : ∃ M : Nat, c3.1 = (M : Int) := ⟨c3.1.toNat, by omega⟩
    have hG : recGet bs = recGetJ c1 ns (txtsR bs M c3.2) := by rw [hG, recGetI, hM, Int.toNat_natCast]
    rw [hM] at hc3 ⊢
    have hM40 : M ≤ 40 := by omega
    have R0c := get_set_ne R0 (j := i1) (by omega) (rrow a bs.length c3.2)
    have R1c := get_set R1 (rrow a bs.length c3.2)
    have R2c := get_set_ne R2 (j := i1) (by omega) (rrow a bs.length c3.2)
    have Pc := prefix_set hpf (by omega) (id := i1) (rrow a bs.length c3.2)
    have Oc := hown.keep (keep_set τ i1 (rrow a bs.length c3.2)) (by
      cases o with
      | none => exact .inl rfl
      | some id => exact .inr fun e => by cases e; have := ho _ rfl; omega)
    have hlc : i2 < (τ.set i1 (rrow a bs.length c3.2)).length := by rw [List.length_set]; exact hlt2
    conv => lhs; whnf
    refine loop_rule (m := 201326692) (fun q fr τ => ∃ (z : Int) (i : Nat) (o2 : Option Nat) (d : SA), z = (i : Int) ∧ i + q = M ∧
        fr = [.bad, .bad, .ptr (some ⟨i0, 0, 0, 3⟩), .bad, .bad, .ptr (some ⟨i1, 0, 0, 3⟩), .ptr (some ⟨i2, 0, 0, 3⟩), .bad, .bad, .bad, .bad, .bad, .bad, .bad, .bad, .bad, .bad, .bad, .bad, .bad, .bad, .bad, .bad, .bad, .bad, .bad, .int .i64 (M : Int), .int .i64 z, .bad, .bad, .bad, .bad, .bad, .bad, .bad, .bad, .bad, .bad, .bad, .bad, .bad, .bad, .bad, .bad, .bad, .bad, .bad, .bad, .bad, .bad, .bad, .bad] ∧
        σ <+: τ ∧ (∀ id, o2 = some id → i2 < id ∧ o ≠ o2) ∧ i2 < τ.length ∧ (∀ id, o = some id → id < τ.length) ∧
        τ[i0]? = some (AO.cells [AV.int .i64 0, .sl .nil 0, .sl .nil 0] 3 .own) ∧ τ[i1]? = some (rrow a bs.length (txtsR bs i c3.2).2) ∧
        τ[i2]? = some (AO.cells [AV.int .i64 c1.1, .sl c ns.1.length, .sl d (txtsR bs i c3.2).1.length] 3 .own) ∧
        Own σ τ 1 o c ns.1.length (iks .i64 ns.1) ∧ Own σ τ 1 o2 d (txtsR bs i c3.2).1.length (txs (txtsR bs i c3.2).1)) ?_ _ M _ _ (by omega)
        ⟨_, 0, none, .nil, rfl, by omega, rfl, Pc, nofun, hlc, ?_, R0c, R1c, R2c, Oc, Own.nil _ _ _⟩
    case refine_2 =>
      intro id e
      subst e
      obtain ⟨off, xs, md, _, _, h3, _⟩ := Oc
      exact get_lt h3
    clear fin R0 R1 R2 hown hpf hlt2 R0c R1c R2c Pc Oc hlc
    rintro q fr τ' C ⟨z, i, o2, d, rfl, hi, rfl, hpf, ho2, hlt2, hoL, R0, R1, R2, hown, hown2⟩ next fin
    conv => lhs; whnf
    refine bif_case (fun h => ?_) (fun h => ?_)
    · have hlt : i < M := by simpa using h
      have hsn := txtsR_succ bs i c3.2
      have hlen2 := txtsR_len bs i c3.2
      have hpos2 := txtsR_pos i hp3
      conv => lhs; whnf
      refine hD.go plan13x9 ord13x9 ?_
      conv => lhs; whnf
      refine ldF rfl rfl rfl R2 rfl ?_
      conv => lhs; whnf
      refine text_spec (by omega) hl hD (ha.mono hpf) hb R1 hpos2 ?_
      have ne1 : ∀ {o : Option Nat}, (∀ id, o = some id → i2 < id) → ∀ j, j ≤ i2 → o = none ∨ o ≠ some j := fun {o} ho j hj => by
        cases o with
        | none => exact .inl rfl
        | some id => exact .inr fun e => by cases e; have := ho _ rfl; omega
      have ho2' : ∀ id, o2 = some id → i2 < id := fun id e => (ho2 id e).1
      have R0a := get_set_ne R0 (j := i1) (by omega) (rrow a bs.length (txtR bs (txtsR bs i c3.2).2).2)
      have R1a := get_set R1 (rrow a bs.length (txtR bs (txtsR bs i c3.2).2).2)
      have R2a := get_set_ne R2 (j := i1) (by omega) (rrow a bs.length (txtR bs (txtsR bs i c3.2).2).2)
      have Pa := prefix_set hpf (by omega) (id := i1) (rrow a bs.length (txtR bs (txtsR bs i c3.2).2).2)
      have Oa := hown.keep (keep_set τ' i1 (rrow a bs.length (txtR bs (txtsR bs i c3.2).2).2)) (ne1 ho i1 (by omega))
      have Oa2 := hown2.keep (keep_set τ' i1 (rrow a bs.length (txtR bs (txtsR bs i c3.2).2).2)) (ne1 ho2' i1 (by omega))
      have hla : i2 < (τ'.set i1 (rrow a bs.length (txtR bs (txtsR bs i c3.2).2).2)).length := by rw [List.length_set]; exact hlt2
      have hlo : ∀ id, o = some id → id < (τ'.set i1 (rrow a bs.length (txtR bs (txtsR bs i c3.2).2).2)).length := fun id e => by rw [List.length_set]; exact hoL id e
      generalize hx : (txtR bs (txtsR bs i c3.2).2) = x at *
      generalize τ'.set i1 (rrow a bs.length x.2) = τa at *
      conv => lhs; whnf
      refine and_true (all_cons ?_ rfl) ?_
      · conv => lhs; whnf
        refine ldF rfl rfl rfl R2a rfl ?_
        exact same_sl d _
      conv => lhs; whnf
      refine and_true (all_cons ?_ rfl) ?_
      · conv => lhs; whnf
        refine ldF rfl rfl rfl (get_old R2a _) rfl ?_
        exact same_sl d _
      conv => lhs; whnf
      have hla' : i2 < (τa ++ [AO.cells [AV.str (ints x.1)] 1 .own]).length := by rw [List.length_append]; omega
      have hrx : Rw (τa ++ [AO.cells [AV.str (ints x.1)] 1 .own]) 1 (.at τa.length 0 1) [x.1].length (txs [x.1]) := Rw.new _ _ rfl
      have hz : (txtsR bs i c3.2).1 ++ [x.1] = (txtsR bs (i + 1) c3.2).1 := by rw [hsn]
      have hz2 : (txtsR bs (i + 1) c3.2).2 = x.2 := by rw [hsn]
      have hzl := txtsR_len bs (i + 1) c3.2
      refine tt43.app (prefix_add Pa _) (o := o2) (Oa2.mono (List.prefix_append _ _)) hrx (txtsR bs (i + 1) c3.2).1 hz (by omega) fun o' d' σ' p' hk h'1 h'2 own' => ?_
      have ho' : ∀ id, o' = some id → i2 < id ∧ o ≠ o' := fun id e => by
        cases o2 with
        | none =>
          rcases h'2 rfl with h | h
          · rw [h] at e; cases e
          · rw [h] at e; cases e
            refine ⟨hla', fun e2 => ?_⟩
            rw [h] at e2
            have := hlo _ e2
            rw [List.length_append] at this
            omega
        | some j => rw [h'1 j rfl] at e ⊢; exact ho2 _ e
      have ho'' : ∀ id, o' = some id → i2 < id := fun id e => (ho' id e).1
      have hne : ∀ j, j ≤ i2 → some j ≠ o2 := fun j hj e => by have := ho2' j e.symm; omega
      have R0b := hk _ _ (hne i0 (by omega)) (get_old R0a (AO.cells [AV.str (ints x.1)] 1 .own))
      have R1b := hk _ _ (hne i1 (by omega)) (get_old R1a (AO.cells [AV.str (ints x.1)] 1 .own))
      have R2b := hk _ _ (hne i2 (by omega)) (get_old R2a (AO.cells [AV.str (ints x.1)] 1 .own))
      have Ob := (Oa.mono (List.prefix_append τa [AO.cells [AV.str (ints x.1)] 1 .own])).keep hk (by
        cases ho2n : o2 with
        | none =>
          cases hon : o with
          | none => exact .inl rfl
          | some id => exact .inr nofun
        | some j => exact .inr (by rw [← ho2n]; exact (ho2 j ho2n).2))
      conv => lhs; whnf
      refine storeK_of rfl rfl (by decide) R2b rfl (Nat.le_refl 3) ?_
      conv => lhs; whnf
      refine next (q - 1) _ _ (by omega) ⟨_, i + 1, o', d', inc_i64 (by omega), by omega, rfl, prefix_set p' (by omega) _, ho', ?_, ?_, get_set_ne R0b (by omega) _, ?_, get_set R2b _, Ob.keep (keep_set _ _ _) (ne1 ho i2 (Nat.le_refl _)), own'.keep (keep_set _ _ _) (ne1 ho'' i2 (Nat.le_refl _))⟩
      · rw [List.length_set]; exact get_lt R2b
      · intro id e
        rw [List.length_set]
        subst e
        obtain ⟨off, xs, md, _, _, h3, _⟩ := Ob
        exact get_lt h3
      · rw [hz2]; exact get_set_ne R1b (by omega) _
    · obtain rfl : i = M := by have : ¬ i < M := by simpa using h
                               omega
      clear next
      generalize txtsR bs i c3.2 = ts at hG R1 R2 hown2
      conv => lhs; whnf
      refine fin _ _ _ nofun ?_
      conv => lhs; whnf
      refine ldF rfl rfl rfl R1 rfl ?_
      conv => lhs; whnf
      by_cases he : ts.2.err = 0
      · rw [recGetJ, if_neg (by simp [he])] at hG
        rw [hG] at hK
        refine bif_neg (by simp [he]) ?_
        conv => lhs; whnf
        refine hD.go plan13x13 ord13x13 ?_
        conv => lhs; whnf
        refine ldS Try.underlying25 rfl R2 (Nat.le_refl 3) (Nat.le_refl 3) rfl ?_
        conv => lhs; whnf
        refine ldF rfl rfl rfl R1 rfl ?_
        conv => lhs; whnf
        refine storeS rfl R0 rfl rfl (Nat.le_refl 3) rfl ?_
        have R0e := get_set R0 (AO.cells [AV.int .i64 c1.1, .sl c ns.1.length, .sl d ts.1.length] 3 .own)
        have R1e := get_set_ne R1 (j := i0) (by omega) (AO.cells [AV.int .i64 c1.1, .sl c ns.1.length, .sl d ts.1.length] 3 .own)
        conv => lhs; whnf
        refine and_true (all_cons ?_ (all_skip rfl rfl)) ?_
        · conv => lhs; whnf
          refine ldF rfl rfl rfl R1e rfl ?_
          exact same_int .i64 (ts.2.pos : Int)
        conv => lhs; whnf
        refine ldS Try.underlying25 rfl R0e (Nat.le_refl 3) (Nat.le_refl 3) rfl ?_
        conv => lhs; whnf
        have ho2' : ∀ id, o2 = some id → i2 < id := fun id e => (ho2 id e).1
        have ne1 : ∀ {o : Option Nat}, (∀ id, o = some id → i2 < id) → o = none ∨ o ≠ some i0 := fun {o} ho => by
          cases o with
          | none => exact .inl rfl
          | some id => exact .inr fun e => by cases e; have := ho _ rfl; omega
        exact hK c d _ (prefix_set hpf h0 _) ⟨(hown.keep (keep_set _ _ _) (ne1 ho)).rw, (hown2.keep (keep_set _ _ _) (ne1 ho2')).rw⟩
      · rw [recGetJ, if_pos he] at hG
        rw [hG] at hK
        refine bif_pos (by simp; omega) ?_
        conv => lhs; whnf
        refine hD.go plan13x12 ord13x12 ?_
        conv => lhs; whnf
        refine ldF rfl rfl rfl R1 rfl ?_
        conv => lhs; whnf
        refine storeS rfl R0 rfl rfl (Nat.le_refl 3) rfl ?_
        have R0e := get_set R0 (AO.cells [AV.int .i64 0, .sl .nil 0, .sl .nil 0] 3 .own)
        have R1e := get_set_ne R1 (j := i0) (by omega) (AO.cells [AV.int .i64 0, .sl .nil 0, .sl .nil 0] 3 .own)
        conv => lhs; whnf
        refine and_true (all_cons ?_ rfl) ?_
        · conv => lhs; whnf
          refine ldF rfl rfl rfl R1e rfl ?_
          exact same_int .i64 (ts.2.err : Int)
        conv => lhs; whnf
        refine and_true (all_cons ?_ rfl) ?_
        · conv => lhs; whnf
          refine ldF rfl rfl rfl R1e rfl ?_
          exact same_int .i64 (ts.2.err : Int)
        conv => lhs; whnf
        refine ldS Try.underlying25 rfl R0e (Nat.le_refl 3) (Nat.le_refl 3) rfl ?_
        conv => lhs; whnf
        exact hK .nil .nil _ (prefix_set hpf h0 _) ⟨Rw.nil _ _, Rw.nil _ _⟩
end Go.Proofs.Ytpagagiojnhhfab
