/- The document's disk: Crash. -/
import Derived.Test.YtahhajakgakdhaaL5Ref5
namespace Go.Proofs.Ytahhajakgakdhaa
set_option maxRecDepth 100000
open Go Go.AM Go.AM.St
attribute [local irreducible] IntKind.wrap Int.fdiv Int.tdiv Int.tmod BitVec.ofInt appendK sliceK indexAddrK ldK storeK seenK makeSliceK lookupK updateK deleteK mapK rangeK nextK keysF buildSliceK
variable {D : Drawer}
variable {Q : Nat} {S : DS} {F : Nat → Prop} {σ : H} {N k : Nat}
theorem ref_crash {n : Nat} {keep : Int} (hd : RV σ Q S F) (ho : OkS S N k) (hn : N + 20 ≤ n) (hN : N < 10000) (hk : k ≤ 1000000000) {K : AV → H → Bool}
    (hK : ∀ σ' F', RV σ' Q (dCrash keep S) F' → Stp F F' σ σ' → K (.tup []) σ' = true) :
    acall Try.prog tab D n 40 [.ptr (some ⟨Q, 0, 0, 4⟩), .int .i64 keep] σ K = true := by
  obtain ⟨n, rfl, hn⟩ := up (n := n) (k := N + 19) (by omega)
  obtain ⟨L, w', o, h, rfl⟩ := hd
  have hLl : L.length ≤ N := by have := ho.f; rw [← h.v, List.length_map] at this; exact this
  conv => lhs; whnf
  refine loop_rule (m := 51) (fun q fr τ => ∃ (z : Int) (i : Nat) (M : List RG) (aM : AM.SA) (oM : Option Nat), z = (i : Int) ∧ i + q = L.length ∧ M.length ≤ i ∧ σ <+: τ ∧ OwnS σ τ 4 oM aM M.length (rgs M) ∧
      M.map RG.v = (S.V.take i).filterMap (mCrash keep) ∧ (∀ g ∈ M, Rw τ 1 g.a g.bytes.length (u8s g.bytes)) ∧
      fr = [.ptr (some ⟨Q, 0, 0, 4⟩), .int .i64 keep, .bad, .bad, .sl aM M.length, .int .i64 z, .bad, .bad, .bad, .bad, .bad, .bad, .bad, .bad, .bad, .bad, .bad, .bad, .bad, .bad, .bad, .bad, .bad, .bad, .bad, .bad, .bad, .bad, .bad, .bad, .bad, .bad, .bad, .bad, .bad, .bad, .bad, .bad, .bad, .bad, .bad, .bad, .bad, .bad, .bad, .bad, .bad, .bad, .bad, .bad, .bad, .bad, .bad, .bad, .bad, .bad, .bad, .bad, .bad, .bad, .bad, .bad, .bad, .bad, .bad]) ?_ _ L.length _ _ (by omega)
      ⟨_, 0, [], .nil, none, rfl, by omega, Nat.le_refl _, List.prefix_rfl, OwnS.nil _ _ _, rfl, (fun g hg => by cases hg), rfl⟩
  rintro q fr τ C ⟨z, i, M, aM, oM, rfl, hq, hMi, p, wM, vM, rM, rfl⟩ next fin
  have hτ := h.mono p
  conv => lhs; whnf
  refine ldL hτ ?_
  conv => lhs; whnf
  by_cases hi : ¬ i < L.length
  · rw [show decide ((i : Int) < (L.length : Int)) = false from decide_eq_false (by omega)]
    have hVl : S.V.length = L.length := by rw [← h.v, List.length_map]
    rw [List.take_of_length_le (by omega)] at vM
    conv => lhs; whnf
    refine fin _ _ _ nofun ?_
    conv => lhs; whnf
    refine storeQL h p wM rfl rM fun τ2 h2 s2 => ?_
    conv => lhs; whnf
    refine storeQ h2 rfl rfl 1 (by decide) ⟨M.map RG.v, -1, S.down, S.ops⟩ rfl (v := .int .i64 (-1)) rfl rfl fun τ3 h3 s3 => ?_
    conv => lhs; whnf
    refine storeQ h3 rfl rfl 3 (by decide) ⟨M.map RG.v, -1, false, S.ops⟩ rfl (v := .bool false) rfl rfl fun τ4 h4 s4 => ?_
    have := hK τ4 _ ⟨M, aM, oM, by
      have e : dCrash keep S = ⟨M.map RG.v, -1, false, S.ops⟩ := by unfold dCrash; rw [vM]
      rw [e]
      exact h4, rfl⟩ (s2.trans (s3.trans s4))
    conv => lhs; whnf
    exact this
  rw [show decide ((i : Int) < (L.length : Int)) = true from decide_eq_true (by omega)]
  replace hi : i < L.length := by omega
  have hVi : S.V[i]? = some L[i].v := by rw [← h.v, List.getElem?_map, List.getElem?_eq_getElem hi]; rfl
  have hbd := ho.b _ (List.mem_of_getElem? hVi)
  have grd := hτ.rd _ (List.getElem_mem hi)
  have vN : (S.V.take (i + 1)).filterMap (mCrash keep) = M.map RG.v ++ (mCrash keep L[i].v).toList := by
    rw [List.take_add_one, hVi, List.filterMap_append, ← vM]
    congr 1
  conv => lhs; whnf
  refine ldL hτ ?_
  conv => lhs; whnf
  refine idxL hτ rfl hi fun id1 hid1 hr1 => ?_
  conv => lhs; whnf
  refine ldG hr1 (by rw [rgs_len]; omega) (rgs_elem hi) ?_
  generalize L[i] = g0 at hbd grd vN ⊢
  obtain ⟨hb1, hb2, _⟩ := hbd
  replace hb1 : g0.bytes.length ≤ k := hb1
  replace hb2 : g0.synced ≤ g0.bytes.length := hb2
  conv => lhs; whnf
  refine storeG (get_new _ _) fun τ1 T1 K1 W1 => ?_
  have P1 : τ <+: τ1 := pre_of fun j hj => by rw [K1 j (by omega), List.getElem?_append_left hj]
  have l1 : τ1.length = τ.length + 1 := by rw [W1]; simp
  conv => lhs; whnf
  refine ldF Try.underlying3 rfl rfl T1 rfl ?_
  conv => lhs; whnf
  refine ldF Try.underlying22 rfl rfl T1 rfl ?_
  conv => lhs; whnf
  refine ldF Try.underlying3 rfl rfl T1 rfl ?_
  have hx : IntKind.wrap .i64 ((g0.synced : Int) + (bif false then (if (bif true then (if (IntKind.wrap .i64 ((g0.bytes.length : Int) - (g0.synced : Int))) < keep then (IntKind.wrap .i64 ((g0.bytes.length : Int) - (g0.synced : Int))) else keep) else (if keep < (IntKind.wrap .i64 ((g0.bytes.length : Int) - (g0.synced : Int))) then (IntKind.wrap .i64 ((g0.bytes.length : Int) - (g0.synced : Int))) else keep)) < (0 : Int) then (bif true then (if (IntKind.wrap .i64 ((g0.bytes.length : Int) - (g0.synced : Int))) < keep then (IntKind.wrap .i64 ((g0.bytes.length : Int) - (g0.synced : Int))) else keep) else (if keep < (IntKind.wrap .i64 ((g0.bytes.length : Int) - (g0.synced : Int))) then (IntKind.wrap .i64 ((g0.bytes.length : Int) - (g0.synced : Int))) else keep)) else (0 : Int)) else (if (0 : Int) < (bif true then (if (IntKind.wrap .i64 ((g0.bytes.length : Int) - (g0.synced : Int))) < keep then (IntKind.wrap .i64 ((g0.bytes.length : Int) - (g0.synced : Int))) else keep) else (if keep < (IntKind.wrap .i64 ((g0.bytes.length : Int) - (g0.synced : Int))) then (IntKind.wrap .i64 ((g0.bytes.length : Int) - (g0.synced : Int))) else keep)) then (bif true then (if (IntKind.wrap .i64 ((g0.bytes.length : Int) - (g0.synced : Int))) < keep then (IntKind.wrap .i64 ((g0.bytes.length : Int) - (g0.synced : Int))) else keep) else (if keep < (IntKind.wrap .i64 ((g0.bytes.length : Int) - (g0.synced : Int))) then (IntKind.wrap .i64 ((g0.bytes.length : Int) - (g0.synced : Int))) else keep)) else (0 : Int)))) = ((kept keep g0.bytes.length g0.synced : Nat) : Int) := by
    rw [wrap_i64 (x := (g0.bytes.length : Int) - (g0.synced : Int)) (by omega) (by omega)]
    simp only [cond_true, cond_false]
    unfold kept
    rw [wrap_i64]
    all_goals
      split <;> split <;> omega
  conv => lhs; whnf
  rw [hx]
  have hkl : kept keep g0.bytes.length g0.synced ≤ g0.bytes.length := by unfold kept; omega
  have hmc : mCrash keep g0.v = if kept keep g0.bytes.length g0.synced = 0 ∧ g0.lasts = false then none else some ⟨g0.name, g0.bytes.take (kept keep g0.bytes.length g0.synced), kept keep g0.bytes.length g0.synced, true⟩ := rfl
  generalize kept keep g0.bytes.length g0.synced = kk at hkl hmc ⊢
  have hlt : (g0.bytes.take kk).length = kk := by rw [List.length_take]; omega
  conv => lhs; whnf
  refine ldF Try.underlying22 rfl rfl T1 rfl ?_
  conv => lhs; whnf
  refine slice3 rfl (grd.mono P1) hkl fun a5 r5 => ?_
  conv => lhs; whnf
  refine storeT T1 rfl rfl (f := 1) (by decide) { g0 with bytes := g0.bytes.take kk, a := a5 } (v := .sl a5 kk) rfl (by show [AV.str _, AV.sl a5 (g0.bytes.take kk).length, _, _] = _; rw [hlt]; rfl) fun τ2 T2 K2 W2 => ?_
  conv => lhs; whnf
  refine storeT T2 rfl rfl (f := 2) (by decide) { g0 with bytes := g0.bytes.take kk, a := a5, synced := kk } (v := .int .i64 (kk : Int)) rfl rfl fun τ3 T3 K3 W3 => ?_
  have P3 : τ <+: τ3 := pre_of fun j hj => by rw [K3 j (by omega), K2 j (by omega), prefix_get P1 (List.getElem?_eq_getElem hj), List.getElem?_eq_getElem hj]
  have x3 : Ext τ1 τ3 := (Ext.ne T1 nofun K2).trans (Ext.ne T2 nofun K3)
  have r3 := r5.ext x3
  conv => lhs; whnf
  refine ldF Try.underlying4 rfl rfl T3 rfl ?_
  cases hl : g0.lasts with
  | true =>
    rw [hmc, if_neg (by rw [hl]; simp)] at vN
    conv => lhs; whnf
    refine storeT T3 rfl rfl (f := 3) (by decide) { g0 with bytes := g0.bytes.take kk, a := a5, synced := kk, lasts := true } (v := .bool true) rfl rfl fun τ4 T4 K4 W4 => ?_
    have P4 : τ <+: τ4 := pre_of fun j hj => by rw [K4 j (by omega), prefix_get P3 (List.getElem?_eq_getElem hj), List.getElem?_eq_getElem hj]
    have r4 : Rw τ4 1 a5 (g0.bytes.take kk).length (u8s (g0.bytes.take kk)) := by rw [hlt]; exact r3.ext (Ext.ne T3 nofun K4)
    conv => lhs; whnf
    refine ldG T4 (Nat.le_refl 4) rfl ?_
    conv => lhs; whnf
    refine buildL (g := { g0 with bytes := g0.bytes.take kk, a := a5, synced := kk, lasts := true }) ?_
    have pB := List.prefix_append τ4 [AO.cells (rgs [{ g0 with bytes := g0.bytes.take kk, a := a5, synced := kk, lasts := true }]) 4 .own]
    conv => lhs; whnf
    refine appL (p.trans (P4.trans pB)) (L := M) (M := [{ g0 with bytes := g0.bytes.take kk, a := a5, synced := kk, lasts := true }]) (wM.mono (P4.trans pB)) rfl (Rw.new (z := 4) (n := 1) (rgs [{ g0 with bytes := g0.bytes.take kk, a := a5, synced := kk, lasts := true }]) .own rfl) rfl rfl (by rw [List.length_append]; show _ + 1 ≤ _; omega) fun o6 a6 τ6 p6 x6 _ _ w6 => ?_
    conv => lhs; whnf
    refine next (q - 1) _ _ (by omega) ⟨_, i + 1, _, a6, o6, inc_i64 (by omega), by omega, by rw [List.length_append]; show _ + 1 ≤ _; omega, p6, w6, by rw [vN, List.map_append]; rfl, fun g hg => ?_, rfl⟩
    rcases List.mem_append.1 hg with hg | hg
    · exact ((rM g hg).mono (P4.trans pB)).ext x6
    · rw [List.mem_singleton] at hg
      subst hg
      exact (r4.mono pB).ext x6
  | false =>
    conv => lhs; whnf
    by_cases hz : kk = 0
    · rw [show decide ((kk : Int) > 0) = false from decide_eq_false (by omega)]
      rw [hmc, if_pos ⟨hz, hl⟩] at vN
      conv => lhs; whnf
      refine next (q - 1) _ _ (by omega) ⟨_, i + 1, M, aM, oM, inc_i64 (by omega), by omega, by omega, p.trans P3, wM.mono P3, by rw [vN]; simp, fun g hg => (rM g hg).mono P3, rfl⟩
    rw [show decide ((kk : Int) > 0) = true from decide_eq_true (by omega)]
    rw [hmc, if_neg (fun hc => hz hc.1)] at vN
    conv => lhs; whnf
    refine storeT T3 rfl rfl (f := 3) (by decide) { g0 with bytes := g0.bytes.take kk, a := a5, synced := kk, lasts := true } (v := .bool true) rfl rfl fun τ4 T4 K4 W4 => ?_
    have P4 : τ <+: τ4 := pre_of fun j hj => by rw [K4 j (by omega), prefix_get P3 (List.getElem?_eq_getElem hj), List.getElem?_eq_getElem hj]
    have r4 : Rw τ4 1 a5 (g0.bytes.take kk).length (u8s (g0.bytes.take kk)) := by rw [hlt]; exact r3.ext (Ext.ne T3 nofun K4)
    conv => lhs; whnf
    refine ldG T4 (Nat.le_refl 4) rfl ?_
    conv => lhs; whnf
    refine buildL (g := { g0 with bytes := g0.bytes.take kk, a := a5, synced := kk, lasts := true }) ?_
    have pB := List.prefix_append τ4 [AO.cells (rgs [{ g0 with bytes := g0.bytes.take kk, a := a5, synced := kk, lasts := true }]) 4 .own]
    conv => lhs; whnf
    refine appL (p.trans (P4.trans pB)) (L := M) (M := [{ g0 with bytes := g0.bytes.take kk, a := a5, synced := kk, lasts := true }]) (wM.mono (P4.trans pB)) rfl (Rw.new (z := 4) (n := 1) (rgs [{ g0 with bytes := g0.bytes.take kk, a := a5, synced := kk, lasts := true }]) .own rfl) rfl rfl (by rw [List.length_append]; show _ + 1 ≤ _; omega) fun o6 a6 τ6 p6 x6 _ _ w6 => ?_
    conv => lhs; whnf
    refine next (q - 1) _ _ (by omega) ⟨_, i + 1, _, a6, o6, inc_i64 (by omega), by omega, by rw [List.length_append]; show _ + 1 ≤ _; omega, p6, w6, by rw [vN, List.map_append]; rfl, fun g hg => ?_, rfl⟩
    rcases List.mem_append.1 hg with hg | hg
    · exact ((rM g hg).mono (P4.trans pB)).ext x6
    · rw [List.mem_singleton] at hg
      subst hg
      exact (r4.mono pB).ext x6
end Go.Proofs.Ytahhajakgakdhaa
