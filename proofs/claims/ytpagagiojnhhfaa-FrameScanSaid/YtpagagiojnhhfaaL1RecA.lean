/- RecAll. -/
import Derived.Test.YtpagagiojnhhfaaL1RefR2
import Derived.Test.YtpagagiojnhhfaaL1Get2
import Derived.Test.YtpagagiojnhhfaaGmPlain
namespace Go.Proofs.Ytpagagiojnhhfaa
open Go Go.AM Go.AM.St
theorem same_rec (a b : SA) (r : RecP) : sameV (recV a b r) (recV a b r) = true := by simp [sameV, sameL, sameLeaf]
theorem recEq_self (r : RecP) : recEq r r = true := by unfold recEq; simp
theorem recEq_iff {r s : RecP} : recEq r s = true ↔ r = s := by
  constructor
  · intro h
    unfold recEq at h
    simp only [Bool.and_eq_true, decide_eq_true_eq] at h
    obtain ⟨⟨h1, h2⟩, h3⟩ := h
    cases r; cases s
    simp only at h1 h2 h3
    rw [h1, h2, h3]
  · intro h; rw [h]; exact recEq_self _
attribute [local irreducible] IntKind.wrap Int.fdiv Int.tdiv Int.tmod BitVec.ofInt appendK sliceK indexAddrK ldK storeK seenK makeSliceK
set_option maxRecDepth 100000
variable {D : Drawer}

theorem ldR {τ : H} {id : Nat} {a b : SA} {r : RecP} {md : Md} {K : AV → Bool} (h : τ[id]? = some (AO.cells [.int .i64 r.kind, .sl a r.nums.length, .sl b r.texts.length] 3 md)) (hK : K (recV a b r) = true) : ldK Try.prog 45 τ ⟨id, 0, 0, 3⟩ K = true := by
  refine ldS Try.underlying45 rfl h (Nat.le_refl 3) (Nat.le_refl 3) rfl ?_
  conv => lhs; whnf
  exact hK

theorem recAll_run {n : Nat} (hn : 10000 ≤ n) {a b a2 b2 c : SA} {r s : RecP} {more : List Nat} {σ : H} (hr : IsR σ a b r) (hs : IsR σ a2 b2 s) (or : OkR r) (os : OkR s) (hc : Rw σ 1 c more.length (u8s more)) (hm : ∀ b ∈ more, b < 256) (hD : ByPlan Try.prog D) :
    acall Try.prog tab D n 8 [recV a b r, recV a2 b2 s, .sl c more.length] σ isTrue = true := by
  obtain ⟨n, rfl, hn⟩ := up hn
  have g3 := get_old (get_new σ (AO.cells [.int .i64 r.kind, .sl a r.nums.length, .sl b r.texts.length] 3 .own)) (AO.cells [.int .i64 s.kind, .sl a2 s.nums.length, .sl b2 s.texts.length] 3 .own)
  have g4 := get_new (σ ++ [AO.cells [.int .i64 r.kind, .sl a r.nums.length, .sl b r.texts.length] 3 .own]) (AO.cells [.int .i64 s.kind, .sl a2 s.nums.length, .sl b2 s.texts.length] 3 .own)
  have pf : σ <+: σ ++ [AO.cells [AV.int .i64 r.kind, .sl a r.nums.length, .sl b r.texts.length] 3 .own] ++ [AO.cells [.int .i64 s.kind, .sl a2 s.nums.length, .sl b2 s.texts.length] 3 .own] :=
    List.IsPrefix.trans (List.prefix_append _ _) (List.prefix_append _ _)
  have h34 : σ.length ≠ (σ ++ [AO.cells [AV.int .i64 r.kind, .sl a r.nums.length, .sl b r.texts.length] 3 .own]).length := by simp
  have h4 : σ.length ≤ (σ ++ [AO.cells [AV.int .i64 r.kind, .sl a r.nums.length, .sl b r.texts.length] 3 .own]).length := by simp
  conv => lhs; whnf
  refine begun_spec ?_
  conv => lhs; whnf
  refine hD.go plan8x4 ord8x4 ?_
  conv => lhs; whnf
  refine ldR g3 ?_
  conv => lhs; whnf
  refine ldR g4 ?_
  conv => lhs; whnf
  refine rec_spec (by omega) hD (hr.mono pf) fun a3 b3 σ1 p1 r1 => ?_
  conv => lhs; whnf
  refine and_true (all_cons ?_ (all_skip rfl rfl)) ?_
  · conv => lhs; whnf
    refine ldR (prefix_get p1 g4) ?_
    exact same_rec _ _ _
  conv => lhs; whnf
  refine rec_spec (by omega) hD ((hs.mono pf).mono p1) fun a4 b4 σ2 p2 r2 => ?_
  have G3 := prefix_get p2 (prefix_get p1 g3)
  have G4 := prefix_get p2 (prefix_get p1 g4)
  have PF := List.IsPrefix.trans pf (List.IsPrefix.trans p1 p2)
  have hrn : (cutR r).nums.length ≤ 50 := by show (r.nums.take 45).length ≤ 50; rw [List.length_take]; omega
  have hrt : (cutR r).texts.length ≤ 50 := by show (r.texts.take 45).length ≤ 50; rw [List.length_take]; omega
  have oc := or.cut
  have ocs := os.cut
  have r1 := r1.mono p2
  generalize cutR r = rc at r1 hrn hrt oc ⊢
  generalize cutR s = sc at r2 ocs ⊢
  conv => lhs; whnf
  refine storeS rfl G3 rfl rfl (Nat.le_refl 3) rfl ?_
  have G3' := get_set G3 (AO.cells [.int .i64 rc.kind, .sl a3 rc.nums.length, .sl b3 rc.texts.length] 3 .own)
  have G4' := get_set_ne G4 (Ne.symm h34) (AO.cells [.int .i64 rc.kind, .sl a3 rc.nums.length, .sl b3 rc.texts.length] 3 .own)
  have J1 : IsR (σ2.set σ.length (AO.cells [.int .i64 rc.kind, .sl a3 rc.nums.length, .sl b3 rc.texts.length] 3 .own)) a3 b3 rc := ⟨Rw.set r1.nums G3 (by decide), Rw.set r1.texts G3 (by decide)⟩
  have J2 : IsR (σ2.set σ.length (AO.cells [.int .i64 rc.kind, .sl a3 rc.nums.length, .sl b3 rc.texts.length] 3 .own)) a4 b4 sc := ⟨Rw.set r2.nums G3 (by decide), Rw.set r2.texts G3 (by decide)⟩
  have PF' := prefix_set PF (Nat.le_refl _) (AO.cells [.int .i64 rc.kind, .sl a3 rc.nums.length, .sl b3 rc.texts.length] 3 .own)
  conv => lhs; whnf
  refine storeS rfl G4' rfl rfl (Nat.le_refl 3) rfl ?_
  have R4 := get_set G4' (AO.cells [.int .i64 sc.kind, .sl a4 sc.nums.length, .sl b4 sc.texts.length] 3 .own)
  have R3 := get_set_ne G3' h34 (AO.cells [.int .i64 sc.kind, .sl a4 sc.nums.length, .sl b4 sc.texts.length] 3 .own)
  have Ir := IsR.mk (Rw.set (md' := .own) (xs' := [.int .i64 sc.kind, .sl a4 sc.nums.length, .sl b4 sc.texts.length]) J1.nums G4' (by decide)) (Rw.set (md' := .own) (xs' := [.int .i64 sc.kind, .sl a4 sc.nums.length, .sl b4 sc.texts.length]) J1.texts G4' (by decide))
  have Is := IsR.mk (Rw.set (md' := .own) (xs' := [.int .i64 sc.kind, .sl a4 sc.nums.length, .sl b4 sc.texts.length]) J2.nums G4' (by decide)) (Rw.set (md' := .own) (xs' := [.int .i64 sc.kind, .sl a4 sc.nums.length, .sl b4 sc.texts.length]) J2.texts G4' (by decide))
  have PF2 := prefix_set PF' h4 (AO.cells [.int .i64 sc.kind, .sl a4 sc.nums.length, .sl b4 sc.texts.length] 3 .own)
  clear G3 G4 G3' G4' J1 J2 PF PF' g3 g4 p1 p2 r1 r2 hs hr
  conv => lhs; whnf
  refine ldR R3 ?_
  conv => lhs; whnf
  refine put_spec_rec (r := rc) (by omega) Ir oc hD (fun hmr σ5 p5 => ?_) (fun hmr o5 pv σ5 p5 r5 => ?_)
  · conv => lhs; whnf
    refine ldR (prefix_get p5 R4) ?_
    conv => lhs; whnf
    refine put_spec_rec (r := sc) (by omega) (Is.mono p5) ocs hD (fun hms σ6 p6 => ?_) (fun hms o6 qv σ6 p6 r6 => ?_)
    · have P6 := List.IsPrefix.trans p5 p6
      conv => lhs; whnf
      refine hD.go plan8x7 ord8x7 ?_
      conv => lhs; whnf
      refine ldR (prefix_get P6 R3) ?_
      conv => lhs; whnf
      refine ldR (prefix_get P6 R3) ?_
      conv => lhs; whnf
      refine may_spec (by omega) (Ir.mono P6) fun σ7 p7 => ?_
      rw [hmr]
      conv => lhs; whnf
      refine and_true (all_cons ?_ (all_skip rfl rfl)) ?_
      · conv => lhs; whnf
        refine ldR (prefix_get p7 (prefix_get P6 R3)) ?_
        exact same_rec _ _ _
      conv => lhs; whnf
      refine rmay_spec (by omega) hrt hrn ((Ir.mono P6).mono p7) fun σ8 p8 => ?_
      rw [hmr]
      conv => lhs; whnf
      refine ldR (prefix_get p8 (prefix_get p7 (prefix_get P6 R3))) ?_
      conv => lhs; whnf
      refine rmay_spec (by omega) hrt hrn (((Ir.mono P6).mono p7).mono p8) fun σ9 p9 => ?_
      rw [hmr]
      have Q := List.IsPrefix.trans P6 (List.IsPrefix.trans p7 (List.IsPrefix.trans p8 p9))
      conv => lhs; whnf
      refine ldR (prefix_get Q R3) ?_
      conv => lhs; whnf
      refine ldR (prefix_get Q R4) ?_
      conv => lhs; whnf
      refine ldR (prefix_get Q R3) ?_
      conv => lhs; whnf
      refine ldR (prefix_get Q R4) ?_
      conv => lhs; whnf
      refine eq_spec (by omega) hrn hrt hD (Ir.mono Q) (Is.mono Q) fun σa pa' => ?_
      cases hE : recEq rc sc
      all_goals
        conv => lhs; whnf
        refine and_true (all_cons ?_ (all_cons ?_ (all_skip rfl (all_skip rfl (all_skip rfl (all_skip rfl (all_skip rfl rfl))))))) ?_
        · conv => lhs; whnf
          refine ldR (prefix_get pa' (prefix_get Q R4)) ?_
          exact same_rec _ _ _
        · conv => lhs; whnf
          refine ldR (prefix_get pa' (prefix_get Q R3)) ?_
          exact same_rec _ _ _
        conv => lhs; whnf
        refine req_spec (by omega) hrn hrt hD ((Ir.mono Q).mono pa') ((Is.mono Q).mono pa') fun σb pb => ?_
        rw [hE]
        have Qb := List.IsPrefix.trans Q (List.IsPrefix.trans pa' pb)
        conv => lhs; whnf
        refine ldR (prefix_get Qb R3) ?_
        conv => lhs; whnf
        refine ldR (prefix_get Qb R3) ?_
        conv => lhs; whnf
        refine eq_spec (by omega) hrn hrt hD (Ir.mono Qb) (Ir.mono Qb) fun σc pc => ?_
        rw [recEq_self]
        have Qc := List.IsPrefix.trans Qb pc
        conv => lhs; whnf
    · have P6 := List.IsPrefix.trans p5 p6
      conv => lhs; whnf
      refine hD.go plan8x7 ord8x7 ?_
      conv => lhs; whnf
      refine ldR (prefix_get P6 R3) ?_
      conv => lhs; whnf
      refine ldR (prefix_get P6 R3) ?_
      conv => lhs; whnf
      refine may_spec (by omega) (Ir.mono P6) fun σ7 p7 => ?_
      rw [hmr]
      conv => lhs; whnf
      refine and_true (all_cons ?_ (all_skip rfl rfl)) ?_
      · conv => lhs; whnf
        refine ldR (prefix_get p7 (prefix_get P6 R3)) ?_
        exact same_rec _ _ _
      conv => lhs; whnf
      refine rmay_spec (by omega) hrt hrn ((Ir.mono P6).mono p7) fun σ8 p8 => ?_
      rw [hmr]
      conv => lhs; whnf
      refine ldR (prefix_get p8 (prefix_get p7 (prefix_get P6 R3))) ?_
      conv => lhs; whnf
      refine rmay_spec (by omega) hrt hrn (((Ir.mono P6).mono p7).mono p8) fun σ9 p9 => ?_
      rw [hmr]
      have Q := List.IsPrefix.trans P6 (List.IsPrefix.trans p7 (List.IsPrefix.trans p8 p9))
      conv => lhs; whnf
      refine ldR (prefix_get Q R3) ?_
      conv => lhs; whnf
      refine ldR (prefix_get Q R4) ?_
      conv => lhs; whnf
      refine ldR (prefix_get Q R3) ?_
      conv => lhs; whnf
      refine ldR (prefix_get Q R4) ?_
      conv => lhs; whnf
      refine eq_spec (by omega) hrn hrt hD (Ir.mono Q) (Is.mono Q) fun σa pa' => ?_
      cases hE : recEq rc sc
      all_goals
        conv => lhs; whnf
        refine and_true (all_cons ?_ (all_cons ?_ (all_skip rfl (all_skip rfl (all_skip rfl (all_skip rfl (all_skip rfl rfl))))))) ?_
        · conv => lhs; whnf
          refine ldR (prefix_get pa' (prefix_get Q R4)) ?_
          exact same_rec _ _ _
        · conv => lhs; whnf
          refine ldR (prefix_get pa' (prefix_get Q R3)) ?_
          exact same_rec _ _ _
        conv => lhs; whnf
        refine req_spec (by omega) hrn hrt hD ((Ir.mono Q).mono pa') ((Is.mono Q).mono pa') fun σb pb => ?_
        rw [hE]
        have Qb := List.IsPrefix.trans Q (List.IsPrefix.trans pa' pb)
        conv => lhs; whnf
        refine ldR (prefix_get Qb R3) ?_
        conv => lhs; whnf
        refine ldR (prefix_get Qb R3) ?_
        conv => lhs; whnf
        refine eq_spec (by omega) hrn hrt hD (Ir.mono Qb) (Ir.mono Qb) fun σc pc => ?_
        rw [recEq_self]
        have Qc := List.IsPrefix.trans Qb pc
        conv => lhs; whnf
  · conv => lhs; whnf
    refine ldR (prefix_get p5 R4) ?_
    conv => lhs; whnf
    refine put_spec_rec (r := sc) (by omega) (Is.mono p5) ocs hD (fun hms σ6 p6 => ?_) (fun hms o6 qv σ6 p6 r6 => ?_)
    · have P6 := List.IsPrefix.trans p5 p6
      conv => lhs; whnf
      refine hD.go plan8x7 ord8x7 ?_
      conv => lhs; whnf
      refine ldR (prefix_get P6 R3) ?_
      conv => lhs; whnf
      refine ldR (prefix_get P6 R3) ?_
      conv => lhs; whnf
      refine may_spec (by omega) (Ir.mono P6) fun σ7 p7 => ?_
      rw [hmr]
      conv => lhs; whnf
      refine and_true (all_cons ?_ (all_skip rfl rfl)) ?_
      · conv => lhs; whnf
        refine ldR (prefix_get p7 (prefix_get P6 R3)) ?_
        exact same_rec _ _ _
      conv => lhs; whnf
      refine rmay_spec (by omega) hrt hrn ((Ir.mono P6).mono p7) fun σ8 p8 => ?_
      rw [hmr]
      conv => lhs; whnf
      refine ldR (prefix_get p8 (prefix_get p7 (prefix_get P6 R3))) ?_
      conv => lhs; whnf
      refine rmay_spec (by omega) hrt hrn (((Ir.mono P6).mono p7).mono p8) fun σ9 p9 => ?_
      rw [hmr]
      have Q := List.IsPrefix.trans P6 (List.IsPrefix.trans p7 (List.IsPrefix.trans p8 p9))
      conv => lhs; whnf
      refine ldR (prefix_get Q R3) ?_
      conv => lhs; whnf
      refine ldR (prefix_get Q R4) ?_
      conv => lhs; whnf
      refine ldR (prefix_get Q R3) ?_
      conv => lhs; whnf
      refine ldR (prefix_get Q R4) ?_
      conv => lhs; whnf
      refine eq_spec (by omega) hrn hrt hD (Ir.mono Q) (Is.mono Q) fun σa pa' => ?_
      cases hE : recEq rc sc
      all_goals
        conv => lhs; whnf
        refine and_true (all_cons ?_ (all_cons ?_ (all_skip rfl (all_skip rfl (all_skip rfl (all_skip rfl (all_skip rfl rfl))))))) ?_
        · conv => lhs; whnf
          refine ldR (prefix_get pa' (prefix_get Q R4)) ?_
          exact same_rec _ _ _
        · conv => lhs; whnf
          refine ldR (prefix_get pa' (prefix_get Q R3)) ?_
          exact same_rec _ _ _
        conv => lhs; whnf
        refine req_spec (by omega) hrn hrt hD ((Ir.mono Q).mono pa') ((Is.mono Q).mono pa') fun σb pb => ?_
        rw [hE]
        have Qb := List.IsPrefix.trans Q (List.IsPrefix.trans pa' pb)
        conv => lhs; whnf
        refine ldR (prefix_get Qb R3) ?_
        conv => lhs; whnf
        refine ldR (prefix_get Qb R3) ?_
        conv => lhs; whnf
        refine eq_spec (by omega) hrn hrt hD (Ir.mono Qb) (Ir.mono Qb) fun σc pc => ?_
        rw [recEq_self]
        have Qc := List.IsPrefix.trans Qb pc
        conv => lhs; whnf
        have hpl := putR_len hmr
        have hrl : ∀ b ∈ putR rc, b < 256 := putR_lt fun t ht => (oc.ts t ht).1
        have Pb := List.IsPrefix.trans p6 (List.IsPrefix.trans p7 (List.IsPrefix.trans p8 (List.IsPrefix.trans p9 (List.IsPrefix.trans pa' (List.IsPrefix.trans pb pc)))))
        have q5 := r5.rw.mono Pb
        refine bt.app (List.prefix_refl _) (xs := []) (Own.nil _ _ _) q5 (putR rc) rfl (by omega) fun oA aA σA pA _ _ _ rA => ?_
        conv => lhs; whnf
        refine short_spec (by omega) (m := 20) rfl (by decide) (((hc.mono PF2).mono Qc).mono pA) _ fun oB aB σB pB rB => ?_
        have lx : ∀ b ∈ more.take 20, b < 256 := fun b h => hm b (List.mem_of_mem_take h)
        have sx : (more.take 20).length ≤ 20 := by rw [List.length_take]; omega
        generalize more.take 20 = xs at rB lx sx ⊢
        conv => lhs; whnf
        refine bt.app (List.IsPrefix.trans pA pB) (rA.mono pB) rB.rw (putR rc ++ xs) rfl (by rw [List.length_append]; omega) fun oC aC σC pC _ _ _ rC => ?_
        conv => lhs; whnf
        have hgp := recGet_put hmr oc.ns xs
        refine recGet_spec (by rw [List.length_append]; omega) (by rw [List.length_append]; omega) hD rC.rw (fun b h => (List.mem_append.1 h).elim (hrl b) (lx b)) fun a5 b5 σd pd rd => ?_
        rw [hgp] at rd ⊢
        have Qd := List.IsPrefix.trans Qc (List.IsPrefix.trans pC pd)
        conv => lhs; whnf
        refine storeS rfl (get_new _ _) rfl rfl (Nat.le_refl 3) rfl ?_
        have T12 := get_set (get_new σd (AO.cells [AV.int .i64 0, .sl .nil 0, .sl .nil 0] 3 .own)) (AO.cells [.int .i64 rc.kind, .sl a5 rc.nums.length, .sl b5 rc.texts.length] 3 .own)
        have Pe := prefix_set (List.prefix_append σd [AO.cells [AV.int .i64 0, .sl .nil 0, .sl .nil 0] 3 .own]) (Nat.le_refl σd.length) (AO.cells [.int .i64 rc.kind, .sl a5 rc.nums.length, .sl b5 rc.texts.length] 3 .own)
        have Qe := List.IsPrefix.trans Qd Pe
        have q5e := q5.mono (List.IsPrefix.trans (List.IsPrefix.trans pC pd) Pe)
        have rde := rd.mono Pe
        conv => lhs; whnf
        refine hD.go plan8x12 ord8x12 ?_
        conv => lhs; whnf
        refine strK_rw q5e hrl ?_
        conv => lhs; whnf
        refine ldR (prefix_get Qe R3) ?_
        conv => lhs; whnf
        refine rrec_spec (by omega) (Ir.mono Qe) oc hD hmr fun oF aF σF pF rF => ?_
        conv => lhs; whnf
        refine and_true (all_skip rfl (all_cons ?_ rfl)) ?_
        · conv => lhs; whnf
          refine strK_rw (q5e.mono pF) hrl ?_
          exact same_str _
        conv => lhs; whnf
        refine strK_rw rF.rw hrl ?_
        conv => lhs; whnf
        refine bif_pos (by simp) ?_
        conv => lhs; whnf
        refine bif_pos (by simp) ?_
        conv => lhs; whnf
        refine ldR (prefix_get pF T12) ?_
        conv => lhs; whnf
        refine ldR (prefix_get pF (prefix_get Qe R3)) ?_
        conv => lhs; whnf
        refine eq_spec (by omega) hrn hrt hD (rde.mono pF) ((Ir.mono Qe).mono pF) fun σG pG => ?_
        rw [recEq_self]
        conv => lhs; whnf
    · have P6 := List.IsPrefix.trans p5 p6
      conv => lhs; whnf
      refine hD.go plan8x7 ord8x7 ?_
      conv => lhs; whnf
      refine ldR (prefix_get P6 R3) ?_
      conv => lhs; whnf
      refine ldR (prefix_get P6 R3) ?_
      conv => lhs; whnf
      refine may_spec (by omega) (Ir.mono P6) fun σ7 p7 => ?_
      rw [hmr]
      conv => lhs; whnf
      refine and_true (all_cons ?_ (all_skip rfl rfl)) ?_
      · conv => lhs; whnf
        refine ldR (prefix_get p7 (prefix_get P6 R3)) ?_
        exact same_rec _ _ _
      conv => lhs; whnf
      refine rmay_spec (by omega) hrt hrn ((Ir.mono P6).mono p7) fun σ8 p8 => ?_
      rw [hmr]
      conv => lhs; whnf
      refine ldR (prefix_get p8 (prefix_get p7 (prefix_get P6 R3))) ?_
      conv => lhs; whnf
      refine rmay_spec (by omega) hrt hrn (((Ir.mono P6).mono p7).mono p8) fun σ9 p9 => ?_
      rw [hmr]
      have Q := List.IsPrefix.trans P6 (List.IsPrefix.trans p7 (List.IsPrefix.trans p8 p9))
      conv => lhs; whnf
      refine ldR (prefix_get Q R3) ?_
      conv => lhs; whnf
      refine ldR (prefix_get Q R4) ?_
      conv => lhs; whnf
      refine ldR (prefix_get Q R3) ?_
      conv => lhs; whnf
      refine ldR (prefix_get Q R4) ?_
      conv => lhs; whnf
      refine eq_spec (by omega) hrn hrt hD (Ir.mono Q) (Is.mono Q) fun σa pa' => ?_
      cases hE : recEq rc sc
      all_goals
        conv => lhs; whnf
        refine and_true (all_cons ?_ (all_cons ?_ (all_skip rfl (all_skip rfl (all_skip rfl (all_skip rfl (all_skip rfl rfl))))))) ?_
        · conv => lhs; whnf
          refine ldR (prefix_get pa' (prefix_get Q R4)) ?_
          exact same_rec _ _ _
        · conv => lhs; whnf
          refine ldR (prefix_get pa' (prefix_get Q R3)) ?_
          exact same_rec _ _ _
        conv => lhs; whnf
        refine req_spec (by omega) hrn hrt hD ((Ir.mono Q).mono pa') ((Is.mono Q).mono pa') fun σb pb => ?_
        rw [hE]
        have Qb := List.IsPrefix.trans Q (List.IsPrefix.trans pa' pb)
        conv => lhs; whnf
        refine ldR (prefix_get Qb R3) ?_
        conv => lhs; whnf
        refine ldR (prefix_get Qb R3) ?_
        conv => lhs; whnf
        refine eq_spec (by omega) hrn hrt hD (Ir.mono Qb) (Ir.mono Qb) fun σc pc => ?_
        rw [recEq_self]
        have Qc := List.IsPrefix.trans Qb pc
        conv => lhs; whnf
        have hpl := putR_len hmr
        have hrl : ∀ b ∈ putR rc, b < 256 := putR_lt fun t ht => (oc.ts t ht).1
        have Pb := List.IsPrefix.trans p6 (List.IsPrefix.trans p7 (List.IsPrefix.trans p8 (List.IsPrefix.trans p9 (List.IsPrefix.trans pa' (List.IsPrefix.trans pb pc)))))
        have q5 := r5.rw.mono Pb
        refine bt.app (List.prefix_refl _) (xs := []) (Own.nil _ _ _) q5 (putR rc) rfl (by omega) fun oA aA σA pA _ _ _ rA => ?_
        conv => lhs; whnf
        refine short_spec (by omega) (m := 20) rfl (by decide) (((hc.mono PF2).mono Qc).mono pA) _ fun oB aB σB pB rB => ?_
        have lx : ∀ b ∈ more.take 20, b < 256 := fun b h => hm b (List.mem_of_mem_take h)
        have sx : (more.take 20).length ≤ 20 := by rw [List.length_take]; omega
        generalize more.take 20 = xs at rB lx sx ⊢
        conv => lhs; whnf
        refine bt.app (List.IsPrefix.trans pA pB) (rA.mono pB) rB.rw (putR rc ++ xs) rfl (by rw [List.length_append]; omega) fun oC aC σC pC _ _ _ rC => ?_
        conv => lhs; whnf
        have hgp := recGet_put hmr oc.ns xs
        refine recGet_spec (by rw [List.length_append]; omega) (by rw [List.length_append]; omega) hD rC.rw (fun b h => (List.mem_append.1 h).elim (hrl b) (lx b)) fun a5 b5 σd pd rd => ?_
        rw [hgp] at rd ⊢
        have Qd := List.IsPrefix.trans Qc (List.IsPrefix.trans pC pd)
        conv => lhs; whnf
        refine storeS rfl (get_new _ _) rfl rfl (Nat.le_refl 3) rfl ?_
        have T12 := get_set (get_new σd (AO.cells [AV.int .i64 0, .sl .nil 0, .sl .nil 0] 3 .own)) (AO.cells [.int .i64 rc.kind, .sl a5 rc.nums.length, .sl b5 rc.texts.length] 3 .own)
        have Pe := prefix_set (List.prefix_append σd [AO.cells [AV.int .i64 0, .sl .nil 0, .sl .nil 0] 3 .own]) (Nat.le_refl σd.length) (AO.cells [.int .i64 rc.kind, .sl a5 rc.nums.length, .sl b5 rc.texts.length] 3 .own)
        have Qe := List.IsPrefix.trans Qd Pe
        have q5e := q5.mono (List.IsPrefix.trans (List.IsPrefix.trans pC pd) Pe)
        have rde := rd.mono Pe
        conv => lhs; whnf
        refine hD.go plan8x12 ord8x12 ?_
        conv => lhs; whnf
        refine strK_rw q5e hrl ?_
        conv => lhs; whnf
        refine ldR (prefix_get Qe R3) ?_
        conv => lhs; whnf
        refine rrec_spec (by omega) (Ir.mono Qe) oc hD hmr fun oF aF σF pF rF => ?_
        conv => lhs; whnf
        refine and_true (all_skip rfl (all_cons ?_ rfl)) ?_
        · conv => lhs; whnf
          refine strK_rw (q5e.mono pF) hrl ?_
          exact same_str _
        conv => lhs; whnf
        refine strK_rw rF.rw hrl ?_
        conv => lhs; whnf
        refine bif_pos (by simp) ?_
        conv => lhs; whnf
        refine bif_pos (by simp) ?_
        conv => lhs; whnf
        refine ldR (prefix_get pF T12) ?_
        conv => lhs; whnf
        refine ldR (prefix_get pF (prefix_get Qe R3)) ?_
        conv => lhs; whnf
        refine eq_spec (by omega) hrn hrt hD (rde.mono pF) ((Ir.mono Qe).mono pF) fun σG pG => ?_
        rw [recEq_self]
        conv => lhs; whnf
        have hql : ∀ b ∈ putR sc, b < 256 := putR_lt fun t ht => (ocs.ts t ht).1
        have PG := List.IsPrefix.trans (List.IsPrefix.trans (List.IsPrefix.trans pC pd) Pe) (List.IsPrefix.trans pF pG)
        have Pb6 := List.IsPrefix.trans p7 (List.IsPrefix.trans p8 (List.IsPrefix.trans p9 (List.IsPrefix.trans pa' (List.IsPrefix.trans pb pc))))
        have q5g := q5.mono PG
        have q6g := (r6.rw.mono Pb6).mono PG
        have Qg := List.IsPrefix.trans Qe (List.IsPrefix.trans pF pG)
        refine strK_rw q5g hrl ?_
        conv => lhs; whnf
        refine strK_rw q6g hql ?_
        conv => lhs; whnf
        have hiff : (ints (putR rc) == ints (putR sc)) = recEq rc sc := by
          rw [Bool.eq_iff_iff, beq_iff_eq, ints_eq, recEq_iff]
          exact ⟨fun h => putR_inj hmr hms oc.ns ocs.ns h, fun h => by rw [h]⟩
        rw [hE] at hiff
        first
          | refine bif_pos hiff ?_
          | refine bif_neg hiff ?_
        conv => lhs; whnf
        refine ldR (prefix_get Qg R3) ?_
        conv => lhs; whnf
        refine ldR (prefix_get Qg R4) ?_
        conv => lhs; whnf
        refine eq_spec (by omega) hrn hrt hD (Ir.mono Qg) (Is.mono Qg) fun σI pI => ?_
        rw [hE]
        conv => lhs; whnf
        refine and_true (all_skip rfl (all_skip rfl (all_cons ?_ (all_cons ?_ (all_skip rfl (all_skip rfl (all_skip rfl (all_skip rfl (all_skip rfl rfl))))))))) ?_
        · conv => lhs; whnf
          refine strK_rw (q6g.mono pI) hql ?_
          exact same_str _
        · conv => lhs; whnf
          refine strK_rw (q5g.mono pI) hrl ?_
          exact same_str _
        conv => lhs; whnf

theorem shp_int' {σ : H} {m : Nat} {t : TypeId} {k : IntKind} {cs : List AV} (ht : Try.prog.underlying t = some (.int k)) (h : Shp Try.prog σ (m + 1) t cs) : ∃ i, cs = [.int k i] ∧ k.min ≤ i ∧ i ≤ k.max := by
  unfold Shp at h
  rw [ht] at h
  obtain ⟨i, h1, h2⟩ := h
  simp only [Lit.wf, Bool.and_eq_true, decide_eq_true_eq] at h2
  exact ⟨i, h1, h2.1, h2.2⟩
theorem rec_shp {σ : H} {m : Nat} {cs : List AV} (hl : cs.length = 3) (h : Shp Try.prog σ (m + 3) 45 cs) : ∃ a b r, cs = [.int .i64 r.kind, .sl a r.nums.length, .sl b r.texts.length] ∧ IsR σ a b r ∧ OkR r := by
  match cs, hl with
  | [x, y, z], _ =>
    unfold Shp at h
    rw [Try.underlying45] at h
    have h1 := shp_int' (m := m + 1) (cs := [x]) Try.underlying3 (h _ (.head _))
    obtain ⟨k, e1, k1, k2⟩ := h1
    cases e1
    obtain ⟨a, ns, e2, n1, n2, n3⟩ := shp_ints (n := m) (cs := [y]) Try.underlying42 Try.underlying2 rfl (h _ (.tail _ (.head _)))
    cases e2
    obtain ⟨b, ts, e3, t1, t2, t3⟩ := shp_texts (n := m) (cs := [z]) Try.underlying43 Try.underlying9 rfl (h _ (.tail _ (.tail _ (.head _))))
    cases e3
    exact ⟨a, b, ⟨k, ns, ts⟩, rfl, ⟨n1, t1⟩, ⟨k1, k2, n3, n2, t3, t2⟩⟩
theorem rec_arg {σ : H} {v : AV} (h : ArgShp Try.prog σ 9 45 v) : ∃ a b r, v = recV a b r ∧ IsR σ a b r ∧ OkR r := by
  unfold ArgShp at h
  rw [Try.underlying45] at h
  obtain ⟨cs, rfl, hl, hs⟩ := h
  obtain ⟨a, b, r, rfl, h1, h2⟩ := rec_shp (m := 6) hl hs
  exact ⟨a, b, r, rfl, h1, h2⟩
theorem recAll_law (σ : H) (vs : List AV) (h : ArgsShp Try.prog σ 9 [45, 45, 25] vs) : ∃ n, acall Try.prog tab (drawRegion Try.prog) n 8 vs σ isTrue = true := by
  obtain ⟨a, vs, rfl, ha, h⟩ := args_cons h
  obtain ⟨b, vs, rfl, hb, h⟩ := args_cons h
  obtain ⟨c, vs, rfl, hc, h⟩ := args_cons h
  obtain rfl := args_nil h
  obtain ⟨a1, a2, r, rfl, i1, o1⟩ := rec_arg ha
  obtain ⟨b1, b2, s, rfl, i2, o2⟩ := rec_arg hb
  obtain ⟨t, bs, rfl, c1, c2, c3⟩ := arg_bytes Try.underlying25 Try.underlying5 rfl hc
  exact ⟨10000, recAll_run (Nat.le_refl _) i1 i2 o1 o2 c1 c3 (byPlan _)⟩
end Go.Proofs.Ytpagagiojnhhfaa
