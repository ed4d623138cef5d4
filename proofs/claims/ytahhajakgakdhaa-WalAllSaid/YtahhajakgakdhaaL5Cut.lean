/- WalCut. -/
import Derived.Test.YtahhajakgakdhaaGmWal
namespace Go.Proofs.Ytahhajakgakdhaa
set_option maxRecDepth 100000
open Go Go.AM Go.AM.St
/-- A log that begins: nothing, or what few gives. -/
theorem RL.begin {σ0 σ τ : H} {F : Nat → Prop} {o : Option Nat} {a : SA} {L : List El} (h : Own σ0 σ 3 o a L.length (recs L)) (p : σ <+: τ) (hF : ∀ id, F id → σ.length ≤ id) (is : IsRs σ L) (fine : ∀ e ∈ L, FineE e.2.2) : RL τ F a L :=
  RL.ofOwn (h.mono p) (fun id e hf => by
    subst e
    obtain ⟨_, _, _, _, _, h3, _⟩ := h
    have := get_lt h3
    have := hF id hf
    omega) (is.mono p) fine
theorem Stp.opened {F F' : Nat → Prop} {σ σ' : H} (s : Stp F F' σ σ') {W : Nat} (hW : σ.length ≤ W) : Stp F (FW F' W) σ σ' :=
  ⟨s.len, s.keep, fun id hf => hf.elim (s.fp id) fun e => .inr (by omega), s.ext⟩
theorem RL.drop {σ : H} {F : Nat → Prop} {a : SA} {L : List El} {W : Nat} (h : RL σ (FW F W) a L) : RL σ F a L := h.other fun _ _ hf => .inl hf
attribute [local irreducible] IntKind.wrap Int.fdiv Int.tdiv Int.tmod BitVec.ofInt appendK sliceK indexAddrK ldK storeK seenK makeSliceK lookupK updateK deleteK mapK rangeK nextK keysF
variable {D : Drawer}
theorem fine50 {G : List El} {rs : List RecP} (h : rlE G = rs) (hr : ∀ r ∈ rs, FineE r) : ∀ e ∈ G, e.2.2.nums.length ≤ 50 ∧ e.2.2.texts.length ≤ 50 := fun e he => by
  have := hr e.2.2 (h ▸ List.mem_map_of_mem (f := fun x : El => x.2.2) he)
  exact ⟨this.n, this.t⟩
theorem fineR {L : List El} (h : ∀ e ∈ L, FineE e.2.2) : ∀ r ∈ rlE L, FineE r := fun r hr => by
  obtain ⟨e, he, rfl⟩ := List.mem_map.1 hr
  exact h e he
theorem RL.ofScan {σ0 σ : H} {F : Nat → Prop} {o : Option Nat} {a : SA} {L : List El} {rs : List RecP} (h : Own σ0 σ 3 o a L.length (recs L)) (ho : ∀ id, o = some id → ¬ F id) (is : IsRs σ L) (e : rlE L = rs) (hr : ∀ r ∈ rs, FineE r) : RL σ F a L :=
  RL.ofOwn h ho is fun x hx => by
    subst e
    exact hr _ (List.mem_map_of_mem (f := fun x : El => x.2.2) hx)
/-- A row behind another one, appended. -/
theorem appR {σ0 σ : H} {F : Nat → Prop} (p : σ0 <+: σ) {o : Option Nat} {a b : SA} {L M : List El} (ha : Own σ0 σ 3 o a L.length (recs L)) (hI : IsRs σ L) (fL : ∀ e ∈ L, FineE e.2.2) (hb : RL σ0 F b M) (hl : (L ++ M).length ≤ 1000) {K : AV → H → Bool}
    (hK : ∀ o' a' σ', σ0 <+: σ' → Own σ0 σ' 3 o' a' (L ++ M).length (recs (L ++ M)) → IsRs σ' (L ++ M) → (∀ e ∈ L ++ M, FineE e.2.2) → K (.sl a' (L ++ M).length) σ' = true) :
    appendK Try.prog 34 (.sl a L.length) (.sl b M.length) σ K = true := by
  refine appendK_ext Try.underlying34 rfl rfl rfl p (o := o) ha (hb.rw.mono p) (N := (L ++ M).length) (zs := recs (L ++ M)) (by simp) (recs_app L M) ?_ fun o5 a5 τ5 p5 _ _ _ x5 w5 => hK o5 a5 τ5 p5 w5 (fun e he => ?_) fun e he => (List.mem_append.1 he).elim (fL e) (hb.fine e)
  · show _ * 56 ≤ _
    omega
  · exact (List.mem_append.1 he).elim (hI.ext x5 e) ((hb.is.mono p).ext x5 e)
theorem walCut_run {n : Nat} {s t : SA} {l m : List El} {renew : Bool} {fuse keep : Int} (hn : l.length + m.length + 2000000 ≤ n) (hD : ByPlan Try.prog D) (hl : l.length ≤ 9223372036854775807) (hm : m.length ≤ 9223372036854775807) (hfu : fuse ≤ 9223372036854775807)
    {σ : H} (hs : Rw σ 3 s l.length (recs l)) (hi : IsRs σ l) (ho : ∀ e ∈ l, OkR e.2.2) (ht : Rw σ 3 t m.length (recs m)) (hj : IsRs σ m) (hp : ∀ e ∈ m, OkR e.2.2) :
    acall Try.prog tab D n 13 [.sl s l.length, .sl t m.length, .bool renew, .int .i64 fuse, .int .i64 keep] σ isTrue = true := by
  obtain ⟨n, rfl, hn⟩ := up hn
  have nm1 : mayN [108, 111, 103] = true := by decide
  have nm2 : mayN ([108, 111, 103] ++ [43]) = true := by decide
  conv => lhs; whnf
  refine begun_spec ?_
  conv => lhs; whnf
  refine few_spec (m := 5) rfl (by decide) (by omega) hl hs hi ho hD fun o1 a1 L σ1 p1 l1 is1 f1 r1 => ?_
  conv => lhs; whnf
  refine few_spec (m := 5) rfl (by decide) (by omega) hm (ht.mono p1) (hj.mono p1) hp hD fun o2 a2 M σ2 p2 l2 is2 f2 r2 => ?_
  conv => lhs; whnf
  refine dv_new (by omega) fun σ3 B m F3 p3 d3 g3 => ?_
  have eL := encL_small f1
  have eM := encL_small f2
  have RL3 : RL σ3 F3 a1 L := RL.begin r1 (p2.trans p3) (fun id hf => Nat.le_trans (prefix_len p2) (g3 id hf)) is1 f1
  have RM3 : RL σ3 F3 a2 M := RL.begin r2 p3 g3 is2 f2
  have hO0 : OkS ⟨[], -1, false, 0⟩ 0 0 := ⟨by show (-1 : Int) ≤ -1; decide, by show (-1 : Int) ≤ _; decide, Nat.le_refl _, Nat.le_refl _, fun x hx => by cases hx⟩
  conv => lhs; whnf
  refine open_spec (name := [108, 111, 103]) hD d3 hO0 (by omega) (by omega) (by omega) (fun h => by rw [open_new nm1] at h; exact absurd rfl h) fun _ σ4 F4 W o4 w4 L4 ws4 s4 hW4 is4 e4 r4 f4 => ?_
  rw [open_new nm1] at ws4
  rw [wRecs_new] at e4
  obtain rfl : L4 = [] := List.map_eq_nil_iff.1 e4
  have RL4 := RL3.step (s4.opened hW4)
  have RM4 := RM3.step (s4.opened hW4)
  have hO4 : OkS ⟨[⟨[108, 111, 103], [], 0, true⟩], -1, false, 2⟩ 2 0 := OkS.one rfl (Nat.le_refl _) (by decide) (Nat.le_refl _) (Nat.le_refl _) fun x hx => by cases hx
  conv => lhs; whnf
  refine wadd_spec hD (by omega) (by omega) ws4 rfl hO4 (by decide) (by decide) RL4.rw RL4.is (okL f1) (fun _ => by omega) (fun ⟨e, he, hn⟩ => by rw [(f1 e he).may] at hn; cases hn) fun _ σ5 F5 ws5 s5 => ?_
  rw [writes_one nm1] at ws5 ⊢
  have RL5 := RL4.step s5
  have RM5 := RM4.step s5
  conv => lhs; whnf
  by_cases hf0 : fuse < 0
  · rw [show decide (fuse < 0) = true from decide_eq_true hf0]
    conv => lhs; whnf
  rw [show decide (fuse < 0) = false from decide_eq_false hf0]
  conv => lhs; whnf
  by_cases hf1 : fuse > 20
  · rw [show decide (fuse > 20) = true from decide_eq_true hf1]
    conv => lhs; whnf
  rw [show decide (fuse > 20) = false from decide_eq_false hf1]
  have hE : encFr (rlE L) = [] ++ encFr (rlE L) := rfl
  rw [← hE] at ws5
  have hbl : ∀ b ∈ encFr (rlE L), b < 256 := encFr_ok (okL f1)
  have hbm : ∀ b ∈ encFr (rlE M), b < 256 := encFr_ok (okL f2)
  conv => lhs; whnf
  refine dv_fuse (by omega) ws5.d fun σ6 F6 d6 s6 => ?_
  have eF : dFuse fuse ⟨[⟨[108, 111, 103], encFr (rlE L), (encFr (rlE L)).length, true⟩], -1, false, 2 + 2⟩ = ⟨[⟨[108, 111, 103], encFr (rlE L), (encFr (rlE L)).length, true⟩], fuse, false, 4⟩ := by
    unfold dFuse
    rw [if_neg nf, show max fuse (-1) = fuse by omega]
  have ws6 := ws5.step d6 s6
  rw [eF] at ws6
  have RL6 := RL5.step (s6.fw W)
  have RM6 := RM5.step (s6.fw W)
  have hO6 : OkS ⟨[⟨[108, 111, 103], encFr (rlE L), (encFr (rlE L)).length, true⟩], fuse, false, 4⟩ 4 3000 := ⟨by show -1 ≤ fuse; omega, hfu, Nat.le_refl _, by show 1 ≤ 4; decide, fun x hx => by
    rw [List.mem_singleton] at hx; subst hx; exact ⟨by show (encFr (rlE L)).length ≤ _; omega, Nat.le_refl _, hbl⟩⟩
  cases renew with
  | true =>
    have hren := renew_fuse (nm := [108, 111, 103]) (b := encFr (rlE L)) (bs := encFr (rlE M)) nm1 nm2 (s := (encFr (rlE L)).length) (t := true) (o := 4) (f := fuse) (by omega)
    have hOr := hO6.renew (name := [108, 111, 103]) hbm
    conv => lhs; whnf
    refine renew_spec hD (by omega) (by omega) (by decide) ws6 rfl hO6 (by decide) RM6.rw RM6.is (okL f2) (by decide) (fun _ => by omega) (fun ⟨e, he, hn⟩ => by rw [(f2 e he).may] at hn; cases hn) fun _ σ7 F7 ws7 s7 => ?_
    have RL7 := RL6.step s7
    have RM7 := RM6.step s7
    rcases hren with ⟨lr, or, hren⟩ | ⟨Vr, lr, or, hren⟩
    · rw [hren] at ws7 hOr ⊢
      conv => lhs; whnf
      refine dv_down (by omega) ws7.d ?_
      conv => lhs; whnf
      refine dv_crash hD ws7.d hOr (by omega) (by omega) fun σ8 F8 d8 s8 => ?_
      have RM8 := (RM7.drop).step s8
      have RL8 := (RL7.drop).step s8
      have hO8 := hOr.crash (keep := keep)
      rw [crash_one] at d8 hO8
      conv => lhs; whnf
      refine open_spec (name := [108, 111, 103]) hD d8 hO8 (by omega) (by omega) (by omega) (fun h => absurd open_one h) fun _ σ9 F9 W9 o9 w9 G ws9 s9 hW9 is9 e9 r9 f9 => ?_
      rw [wRecs_one, scanF_all (fineL f2)] at e9
      replace e9 : rlE G = rlE M := e9
      have RM9 := RM8.step s9
      have RL9 := RL8.step s9
      conv => lhs; whnf
      refine appR List.prefix_rfl (L := []) (Own.nil _ _ _) (IsRs.nil _) (fun e he => by cases he) RL9 (by rw [List.nil_append]; omega) fun o10 a10 σ10 p10 w10 is10 fi10 => ?_
      conv => lhs; whnf
      refine appR p10 w10 is10 fi10 RM9 (by simp only [List.nil_append, List.length_append]; omega) fun o11 a11 σ11 p11 w11 is11 fi11 => ?_
      rw [List.nil_append] at w11 is11 fi11 ⊢
      have RG := RL.ofScan r9 (fun id h => (f9 id h).1) is9 e9 (fineR f2)
      conv => lhs; whnf
      refine eqs_spec (by have := congrArg List.length e9; simp only [List.length_map] at this; omega) (by have := congrArg List.length e9; simp only [List.length_map] at this; omega) (RG.mono p11).rw (RM9.mono p11).rw (RG.mono p11).is (RM9.mono p11).is (fine50 e9 (fineR f2)) hD fun σ12 p12 => ?_
      rw [recsEq_iff.2 e9]
      conv => lhs; whnf
    · rw [hren] at ws7 hOr ⊢
      conv => lhs; whnf
      refine dv_down (by omega) ws7.d ?_
      conv => lhs; whnf
      refine dv_crash hD ws7.d hOr (by omega) (by omega) fun σ8 F8 d8 s8 => ?_
      have RM8 := (RM7.drop).step s8
      have RL8 := (RL7.drop).step s8
      have hO8 := hOr.crash (keep := keep)
      rw [crash_one] at d8 hO8
      conv => lhs; whnf
      refine open_spec (name := [108, 111, 103]) hD d8 hO8 (by omega) (by omega) (by omega) (fun h => absurd open_one h) fun _ σ9 F9 W9 o9 w9 G ws9 s9 hW9 is9 e9 r9 f9 => ?_
      rw [wRecs_one, scanF_all (fineL f1)] at e9
      replace e9 : rlE G = rlE L := e9
      have RM9 := RM8.step s9
      have RL9 := RL8.step s9
      conv => lhs; whnf
      refine appR List.prefix_rfl (L := []) (Own.nil _ _ _) (IsRs.nil _) (fun e he => by cases he) RL9 (by rw [List.nil_append]; omega) fun o10 a10 σ10 p10 w10 is10 fi10 => ?_
      conv => lhs; whnf
      refine appR p10 w10 is10 fi10 RM9 (by simp only [List.nil_append, List.length_append]; omega) fun o11 a11 σ11 p11 w11 is11 fi11 => ?_
      rw [List.nil_append] at w11 is11 fi11 ⊢
      have RG := RL.ofScan r9 (fun id h => (f9 id h).1) is9 e9 (fineR f1)
      conv => lhs; whnf
      refine eqs_spec (by have := congrArg List.length e9; simp only [List.length_map] at this; omega) (by have := congrArg List.length e9; simp only [List.length_map] at this; omega) (RG.mono p11).rw (RL9.mono p11).rw (RG.mono p11).is (RL9.mono p11).is (fine50 e9 (fineR f1)) hD fun σ12 p12 => ?_
      rw [recsEq_iff.2 e9]
      conv => lhs; whnf
  | false =>
    have hwr := writes_fuse (nm := [108, 111, 103]) (b := encFr (rlE L)) (bs := encFr (rlE M)) nm1 (s := (encFr (rlE L)).length) (t := true) (V := []) (o := 4) (f := fuse) (by omega)
    have hOr := hO6.writes (name := [108, 111, 103]) hbm
    have hEE : encFr (rlE L) ++ encFr (rlE M) = encFr (rlE (L ++ M)) := by
      show _ = encFr (List.map _ (L ++ M))
      rw [List.map_append, encFr_app]
    have fLM : ∀ e ∈ L ++ M, FineE e.2.2 := fun e he => (List.mem_append.1 he).elim (f1 e) (f2 e)
    conv => lhs; whnf
    refine wadd_spec hD (by omega) (by omega) ws6 rfl hO6 (by decide) (by show 0 + _ ≤ _; omega) RM6.rw RM6.is (okL f2) (fun _ => by omega) (fun ⟨e, he, hn⟩ => by rw [(f2 e he).may] at hn; cases hn) fun _ σ7 F7 ws7 s7 => ?_
    have RL7 := RL6.step s7
    have RM7 := RM6.step s7
    rcases hwr with ⟨lr, or, hwr⟩ | ⟨x, lr, or, hx, hwr⟩
    · rw [hwr] at ws7 hOr ⊢
      conv => lhs; whnf
      refine dv_down (by omega) ws7.d ?_
      conv => lhs; whnf
      refine dv_crash hD ws7.d hOr (by omega) (by omega) fun σ8 F8 d8 s8 => ?_
      have RM8 := (RM7.drop).step s8
      have RL8 := (RL7.drop).step s8
      have hO8 := hOr.crash (keep := keep)
      rw [crash_one, hEE] at d8 hO8
      conv => lhs; whnf
      refine open_spec (name := [108, 111, 103]) hD d8 hO8 (by omega) (by omega) (by omega) (fun h => absurd open_one h) fun _ σ9 F9 W9 o9 w9 G ws9 s9 hW9 is9 e9 r9 f9 => ?_
      rw [wRecs_one, scanF_all (fineL fLM)] at e9
      replace e9 : rlE G = rlE (L ++ M) := e9
      have hGl : G.length = L.length + M.length := by have := congrArg List.length e9; simp only [List.length_map, List.length_append] at this; omega
      have RM9 := RM8.step s9
      have RL9 := RL8.step s9
      conv => lhs; whnf
      refine appR List.prefix_rfl (L := []) (Own.nil _ _ _) (IsRs.nil _) (fun e he => by cases he) RL9 (by rw [List.nil_append]; omega) fun o10 a10 σ10 p10 w10 is10 fi10 => ?_
      conv => lhs; whnf
      refine appR p10 w10 is10 fi10 RM9 (by simp only [List.nil_append, List.length_append]; omega) fun o11 a11 σ11 p11 w11 is11 fi11 => ?_
      rw [List.nil_append] at w11 is11 fi11 ⊢
      have RG := RL.ofScan r9 (fun id h => (f9 id h).1) is9 e9 (fineR fLM)
      conv => lhs; whnf
      refine eqs_spec (by omega) (by omega) (RG.mono p11).rw w11.rw (RG.mono p11).is is11 (fine50 e9 (fineR fLM)) hD fun σ12 p12 => ?_
      rw [recsEq_iff.2 e9]
      conv => lhs; whnf
    · rw [hwr] at ws7 hOr ⊢
      conv => lhs; whnf
      refine dv_down (by omega) ws7.d ?_
      conv => lhs; whnf
      refine dv_crash hD ws7.d hOr (by omega) (by omega) fun σ8 F8 d8 s8 => ?_
      have RM8 := (RM7.drop).step s8
      have RL8 := (RL7.drop).step s8
      have hO8 := hOr.crash (keep := keep)
      rw [crash_part] at d8 hO8
      have hcut : ∃ j, (rlE L).length ≤ j ∧ j ≤ (rlE L ++ rlE M).length ∧ (scanF ((encFr (rlE L) ++ x).take ((encFr (rlE L)).length + min keep.toNat x.length))).1 = (rlE L ++ rlE M).take j := by
        rcases hx with rfl | rfl
        · have := scan_cut (rlE L) (rlE M) (fineL f1) (fineL f2) (encFr (rlE L)).length (Nat.le_refl _) (by rw [encFr_app, List.length_append]; omega)
          rw [encFr_app, List.take_left] at this
          rw [List.append_nil, List.length_nil, Nat.min_zero, Nat.add_zero, List.take_length]
          exact this
        · have := scan_cut (rlE L) (rlE M) (fineL f1) (fineL f2) ((encFr (rlE L)).length + min keep.toNat (encFr (rlE M)).length) (by omega) (by rw [encFr_app, List.length_append]; omega)
          rw [encFr_app] at this
          exact this
      obtain ⟨j, hj1, hj2, hcut⟩ := hcut
      conv => lhs; whnf
      refine open_spec (name := [108, 111, 103]) hD d8 hO8 (by omega) (by omega) (by omega) (fun h => absurd open_one h) fun _ σ9 F9 W9 o9 w9 G ws9 s9 hW9 is9 e9 r9 f9 => ?_
      rw [wRecs_one, hcut] at e9
      have e9' : rlE G = rlE ((L ++ M).take j) := by rw [e9, rlE, rlE, rlE, ← List.map_append, List.map_take]
      simp only [List.length_map, List.length_append] at hj1 hj2
      have hGl : G.length = j := by
        have := congrArg List.length e9'
        simp only [List.length_map, List.length_take, List.length_append] at this
        omega
      subst hGl
      have RM9 := RM8.step s9
      have RL9 := RL8.step s9
      have fj : ∀ e ∈ (L ++ M).take G.length, FineE e.2.2 := fun e he => fLM e (List.mem_of_mem_take he)
      conv => lhs; whnf
      refine appR List.prefix_rfl (L := []) (Own.nil _ _ _) (IsRs.nil _) (fun e he => by cases he) RL9 (by rw [List.nil_append]; omega) fun o10 a10 σ10 p10 w10 is10 fi10 => ?_
      conv => lhs; whnf
      refine appR p10 w10 is10 fi10 RM9 (by simp only [List.nil_append, List.length_append]; omega) fun o11 a11 σ11 p11 w11 is11 fi11 => ?_
      rw [List.nil_append] at w11 is11 fi11 ⊢
      have RG := RL.ofScan r9 (fun id h => (f9 id h).1) is9 e9' (fineR fj)
      have RA : RL σ11 (FW F9 W9) a11 (L ++ M) := RL.ofOwn w11 (fun id h hf => by
        subst h
        obtain ⟨_, _, _, _, hge, _⟩ := w11
        rcases hf with hf | hf
        · have := ws9.d.lt hf; omega
        · have := get_lt ws9.w; omega) is11 fi11
      conv => lhs; whnf
      rw [show decide ((G.length : Int) ≥ (L.length : Int)) = true from decide_eq_true (by omega)]
      conv => lhs; whnf
      rw [show decide ((G.length : Int) ≤ ((L ++ M).length : Int)) = true from decide_eq_true (by rw [List.length_append]; omega)]
      conv => lhs; whnf
      refine slR RA 0 G.length (.inl ⟨rfl, rfl⟩) (.inr ⟨_, _, rfl, rfl⟩) (Nat.zero_le _) (by rw [List.length_append]; omega) fun a12 r12 => ?_
      rw [List.drop_zero] at r12 ⊢
      conv => lhs; whnf
      refine eqs_spec (by omega) (by omega) (RG.mono p11).rw r12.rw (RG.mono p11).is r12.is (fine50 e9' (fineR fj)) hD fun σ12 p12 => ?_
      rw [recsEq_iff.2 e9']
      conv => lhs; whnf
theorem arg_recs {σ : H} {a : AV} (ha : ArgShp Try.prog σ 9 34 a) : ∃ (s : SA) (l : List El), a = .sl s l.length ∧ Rw σ 3 s l.length (recs l) ∧ IsRs σ l ∧ (∀ e ∈ l, OkR e.2.2) ∧ l.length ≤ maxLen := by
  obtain ⟨s, m, xs, rfl, h2, h3, h4⟩ := arg_slice Try.underlying34 ha
  have hl := h2.len
  obtain ⟨l, rfl, hk, i1, o1⟩ := shp_recs (m := 5) hl h4
  subst hk
  exact ⟨s, l, rfl, h2, i1, o1, h3⟩
theorem walCut_law (σ : H) (vs : List AV) (h : ArgsShp Try.prog σ 9 [34, 34, 4, 3, 3] vs) : ∃ n, acall Try.prog tab (drawRegion Try.prog) n 13 vs σ isTrue = true := by
  obtain ⟨a, vs, rfl, ha, h⟩ := args_cons h
  obtain ⟨b, vs, rfl, hb, h⟩ := args_cons h
  obtain ⟨c, vs, rfl, hc, h⟩ := args_cons h
  obtain ⟨d, vs, rfl, hd, h⟩ := args_cons h
  obtain ⟨e, vs, rfl, he, h⟩ := args_cons h
  obtain rfl := args_nil h
  obtain ⟨s, l, rfl, a1, a2, a3, a4⟩ := arg_recs ha
  have a5 : maxLen ≤ 9223372036854775807 := by decide
  obtain ⟨t, m, rfl, b1, b2, b3, b4⟩ := arg_recs hb
  obtain ⟨x, rfl⟩ := arg_bool Try.underlying4 hc
  obtain ⟨fu, rfl, e1, e2⟩ := arg_int Try.underlying3 hd
  obtain ⟨ke, rfl, _, _⟩ := arg_int Try.underlying3 he
  exact ⟨l.length + m.length + 2000000, walCut_run (Nat.le_refl _) (byPlan _) (Nat.le_trans a4 a5) (Nat.le_trans b4 a5) e2 a1 a2 a3 b1 b2 b3⟩
end Go.Proofs.Ytahhajakgakdhaa
