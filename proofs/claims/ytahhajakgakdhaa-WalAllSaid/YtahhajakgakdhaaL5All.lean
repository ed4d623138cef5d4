/- WalAll. -/
import Derived.Test.YtahhajakgakdhaaL5AnyP
import Derived.Test.YtahhajakgakdhaaL5Two
import Derived.Test.YtahhajakgakdhaaL5Trees
namespace Go.Proofs.Ytahhajakgakdhaa
set_option maxRecDepth 100000
open Go Go.AM Go.AM.St
attribute [local irreducible] IntKind.wrap Int.fdiv Int.tdiv Int.tmod BitVec.ofInt appendK sliceK indexAddrK ldK storeK seenK makeSliceK lookupK updateK deleteK mapK rangeK nextK keysF
variable {D : Drawer}
theorem build1 {σ : H} {a b : SA} {r : RecP} {K : AV → H → Bool} (h : K (.sl (.at σ.length 0 3) 1) (σ ++ [AO.cells (recs [(a, b, r)]) 3 .own]) = true) : buildSliceK Try.prog 34 1 [(0, recV a b r)] σ K = true := by
  have e : recs [(a, b, r)] = [.int .i64 r.kind, .sl a r.nums.length, .sl b r.texts.length] := rfl
  rw [e] at h
  conv => lhs; whnf
  exact h
theorem it70 : IT Try.prog 70 3 .i64 := ⟨Try.underlying70, Try.underlying3, fun _ => rfl, ⟨_, rfl, rfl, rfl, by decide⟩⟩
attribute [local irreducible] buildSliceK
theorem walAll_run {n : Nat} {s c : SA} {l : List El} {cs : List Int} (hn : l.length + 2000000 ≤ n) (hD : ByPlan Try.prog D) (hT : ByTree Try.prog D) (hl : l.length ≤ 9223372036854775807)
    {σ : H} (hs : Rw σ 3 s l.length (recs l)) (hi : IsRs σ l) (ho : ∀ e ∈ l, OkR e.2.2) (hc : Rw σ 1 c cs.length (iks .i64 cs)) :
    acall Try.prog tab D n 12 [.sl s l.length, .sl c cs.length] σ isTrue = true := by
  obtain ⟨n, rfl, hn⟩ := up hn
  have nm1 : mayN [108, 111, 103] = true := by decide
  have nm2 : mayN ([108, 111, 103] ++ [43]) = true := by decide
  conv => lhs; whnf
  refine begun_spec ?_
  conv => lhs; whnf
  refine few_spec (m := 12) rfl (by decide) (by omega) hl hs hi ho hD fun o1 a1 L σ1 p1 l1 is1 f1 r1 => ?_
  conv => lhs; whnf
  refine dv_new (by omega) fun σ3 B m F3 p3 d3 g3 => ?_
  have RL3 : RL σ3 F3 a1 L := RL.begin r1 p3 g3 is1 f1
  have c3 := hc.mono (p1.trans p3)
  have hO0 : OkS ⟨[], -1, false, 0⟩ 0 0 := ⟨by show (-1 : Int) ≤ -1; decide, by show (-1 : Int) ≤ _; decide, Nat.le_refl _, Nat.le_refl _, fun x hx => by cases hx⟩
  conv => lhs; whnf
  refine open_spec (name := [108, 111, 103]) hD d3 hO0 (by omega) (by omega) (by omega) (fun h => by rw [open_new nm1] at h; exact absurd rfl h) fun _ σ4 F4 W0 o4 w4 L4 ws4 s4 hW4 is4 e4 r4 f4 => ?_
  rw [open_new nm1] at ws4
  rw [wRecs_new] at e4
  obtain rfl : L4 = [] := List.map_eq_nil_iff.1 e4
  have RL4 := RL3.step (s4.opened hW4)
  have c4 := c3.ext s4.ext
  conv => lhs; whnf
  refine loop_rule (m := 3267) (fun q fr τ => ∃ (z : Int) (i : Nat) (WE : List El) (aw : SA) (F : Nat → Prop) (W o : Nat), z = (i : Int) ∧ i + q = L.length ∧ WE.length ≤ i ∧ o ≤ 2 + 3 * i ∧
      WS τ B m ⟨[⟨[108, 111, 103], encFr (rlE WE), (encFr (rlE WE)).length, true⟩], -1, false, o⟩ F W [108, 111, 103] WE.length false ∧ RL τ (FW F W) a1 L ∧ RL τ (FW F W) aw WE ∧ Rw τ 1 c cs.length (iks .i64 cs) ∧
      fr = [.sl a1 L.length, .sl c cs.length, .bad, .bad, .bad, .bad, .ptr (some ⟨B, 0, 0, 4⟩), .ptr (some ⟨W, 0, 0, 4⟩), .bad, .bad, .sl aw WE.length, .int .i64 z, .bad, .bad, .bad, .bad, .bad, .bad, .bad, .bad, .bad, .bad, .bad, .bad, .bad, .bad, .bad, .bad, .bad, .bad, .bad, .bad, .bad, .bad, .bad, .bad, .bad, .bad, .bad, .bad, .bad, .bad, .bad, .bad, .bad, .bad, .bad, .bad, .bad, .bad, .bad, .bad, .bad, .bad, .bad, .bad, .bad, .bad, .bad, .bad, .bad, .bad, .bad, .bad, .bad, .bad, .bad, .bad, .bad, .bad, .bad, .bad, .bad, .bad, .bad, .bad, .bad, .bad, .bad, .bad, .bad, .bad, .bad, .bad, .bad, .bad, .bad, .bad, .bad, .bad, .bad, .bad, .bad, .bad, .bad, .bad, .bad, .bad, .bad, .bad, .bad, .bad, .bad, .bad, .bad, .bad, .bad, .bad, .bad, .bad, .bad, .bad, .bad, .bad, .bad, .bad, .bad, .bad, .bad, .bad, .bad]) ?_ _ L.length _ _ (by omega)
      ⟨_, 0, [], .nil, F4, W0, 2, rfl, by omega, Nat.le_refl _, Nat.le_refl _, ws4, RL4, ⟨Rw.nil _ _, (fun _ _ _ e => by cases e), IsRs.nil _, fun e he => by cases he⟩, c4, rfl⟩
  rintro q fr τ C ⟨z, i, WE, aw, F, W, o, rfl, hq, hWi, hoo, ws, RLi, RWi, cc, rfl⟩ next fin
  have fW := RWi.fine
  have eW := encL_small fW
  have bW : ∀ b ∈ encFr (rlE WE), b < 256 := encFr_ok (okL fW)
  have hOi : OkS ⟨[⟨[108, 111, 103], encFr (rlE WE), (encFr (rlE WE)).length, true⟩], -1, false, o⟩ 100 10000 := OkS.one rfl (by omega) (by decide) (by omega) (Nat.le_refl _) bW
  conv => lhs; whnf
  by_cases hlt : ¬ i < L.length
  · rw [show decide ((i : Int) < (L.length : Int)) = false from decide_eq_false (by omega)]
    conv => lhs; whnf
    refine fin _ _ _ nofun ?_
    conv => lhs; whnf
    refine dv_crash hD ws.d hOi (by omega) (by omega) fun σ6 F6 d6 s6 => ?_
    have hO6 := hOi.crash (keep := 1000)
    rw [crash_one] at d6 hO6
    have RW6 := RWi.drop.step s6
    conv => lhs; whnf
    refine open_spec (name := [108, 111, 103]) hD d6 hO6 (by omega) (by omega) (by omega) (fun h => absurd open_one h) fun _ σ7 F7 W7 o7 w7 G ws7 s7 hW7 is7 e7 r7 f7 => ?_
    rw [wRecs_one, scanF_all (fineL fW)] at e7
    replace e7 : rlE G = rlE WE := e7
    have RW7 := RW6.step s7
    have hGl : G.length = WE.length := by have := congrArg List.length e7; simpa using this
    conv => lhs; whnf
    refine eqs_spec (by omega) (by omega) r7.rw RW7.rw is7 RW7.is (fine50 e7 (fineR fW)) hD fun σ9 p9 => ?_
    rw [recsEq_iff.2 e7]
    conv => lhs; whnf
  rw [show decide ((i : Int) < (L.length : Int)) = true from decide_eq_true (by omega)]
  replace hlt : i < L.length := by omega
  have hEl : ((L.take (i + 1)).drop i).length = 1 := by rw [List.length_drop, List.length_take]; omega
  have eI := inc_i64 (i := i) (by omega)
  conv => lhs; whnf
  by_cases hci : ¬ i < cs.length
  · rw [show decide ((i : Int) < (cs.length : Int)) = false from decide_eq_false (by omega)]
    conv => lhs; whnf
    refine slR RLi i (i + 1) (.inr ⟨_, _, rfl, rfl⟩) (.inr ⟨_, _, rfl, eI⟩) (by omega) (by omega) fun a5 r5 => ?_
    generalize hE1 : (L.take (i + 1)).drop i = E1 at hEl r5 ⊢
    have e5 := encL_small r5.fine
    conv => lhs; whnf
    refine renew_spec hD (by omega) (by omega) (by decide) ws rfl hOi (by decide) r5.rw r5.is (okL r5.fine) (by decide) (fun _ => by omega) (fun ⟨e, he, hn⟩ => by rw [(r5.fine e he).may] at hn; cases hn) fun _ σ6 F6 ws6 s6 => ?_
    rw [renew_one nm1 nm2] at ws6 ⊢
    replace ws6 : WS σ6 B m ⟨[⟨[108, 111, 103], encFr (rlE E1), (encFr (rlE E1)).length, true⟩], -1, false, o + 3⟩ F6 W [108, 111, 103] E1.length false := ws6
    have RL6 := RLi.step s6
    have c6 := cc.ext s6.ext
    conv => lhs; whnf
    refine slR RL6 i (i + 1) (.inr ⟨_, _, rfl, rfl⟩) (.inr ⟨_, _, rfl, eI⟩) (by omega) (by omega) fun a7 r7 => ?_
    rw [hE1] at r7 ⊢
    conv => lhs; whnf
    refine len_spec (by omega) ws6.w ?_
    conv => lhs; whnf
    rw [show (!(((E1).length : Int) == ((E1).length : Int))) = false by simp]
    conv => lhs; whnf
    refine next (q - 1) _ _ (by omega) ⟨_, i + 1, E1, a7, F6, W, o + 3, inc_i64 (by omega), by omega, by omega, by omega, ws6, RL6, r7, c6, rfl⟩
  rw [show decide ((i : Int) < (cs.length : Int)) = true from decide_eq_true (by omega)]
  replace hci : i < cs.length := by omega
  conv => lhs; whnf
  refine it70.idx cc rfl hci fun p0 hp0 => ?_
  conv => lhs; whnf
  refine it70.ld hp0 ?_
  conv => lhs; whnf
  generalize IntKind.wrap .i64 _ = kv
  conv => lhs; whnf
  by_cases hk0 : kv = 0
  · rw [show (kv == 0) = true by rw [beq_iff_eq]; exact hk0]
    conv => lhs; whnf
    refine slR RLi i (i + 1) (.inr ⟨_, _, rfl, rfl⟩) (.inr ⟨_, _, rfl, eI⟩) (by omega) (by omega) fun a5 r5 => ?_
    generalize hE1 : (L.take (i + 1)).drop i = E1 at hEl r5 ⊢
    have e5 := encL_small r5.fine
    conv => lhs; whnf
    refine renew_spec hD (by omega) (by omega) (by decide) ws rfl hOi (by decide) r5.rw r5.is (okL r5.fine) (by decide) (fun _ => by omega) (fun ⟨e, he, hn⟩ => by rw [(r5.fine e he).may] at hn; cases hn) fun _ σ6 F6 ws6 s6 => ?_
    rw [renew_one nm1 nm2] at ws6 ⊢
    replace ws6 : WS σ6 B m ⟨[⟨[108, 111, 103], encFr (rlE E1), (encFr (rlE E1)).length, true⟩], -1, false, o + 3⟩ F6 W [108, 111, 103] E1.length false := ws6
    have RL6 := RLi.step s6
    have c6 := cc.ext s6.ext
    conv => lhs; whnf
    refine slR RL6 i (i + 1) (.inr ⟨_, _, rfl, rfl⟩) (.inr ⟨_, _, rfl, eI⟩) (by omega) (by omega) fun a7 r7 => ?_
    rw [hE1] at r7 ⊢
    conv => lhs; whnf
    refine len_spec (by omega) ws6.w ?_
    conv => lhs; whnf
    rw [show (!(((E1).length : Int) == ((E1).length : Int))) = false by simp]
    conv => lhs; whnf
    refine next (q - 1) _ _ (by omega) ⟨_, i + 1, E1, a7, F6, W, o + 3, inc_i64 (by omega), by omega, by omega, by omega, ws6, RL6, r7, c6, rfl⟩
  rw [show (kv == 0) = false by rw [beq_eq_false_iff_ne]; exact hk0]
  conv => lhs; whnf
  by_cases hk1 : kv = 1
  · rw [show (kv == 1) = true by rw [beq_iff_eq]; exact hk1]
    conv => lhs; whnf
    refine dv_crash hD ws.d hOi (by omega) (by omega) fun σ6 F6 d6 s6 => ?_
    have hO6 := hOi.crash (keep := 0)
    rw [crash_one] at d6 hO6
    have RW6 := RWi.drop.step s6
    have RL6 := RLi.drop.step s6
    have c6 := cc.ext s6.ext
    conv => lhs; whnf
    refine open_spec (name := [108, 111, 103]) hD d6 hO6 (by omega) (by omega) (by omega) (fun h => absurd open_one h) fun _ σ7 F7 W7 o7 w7 G ws7 s7 hW7 is7 e7 r7 f7 => ?_
    rw [open_all (fineL fW)] at ws7
    rw [wRecs_one, scanF_all (fineL fW)] at e7
    replace e7 : rlE G = rlE WE := e7
    have RW7 := RW6.step (s7.opened hW7)
    have RL7 := RL6.step (s7.opened hW7)
    have c7 := c6.ext s7.ext
    have hGl : G.length = WE.length := by have := congrArg List.length e7; simpa using this
    rw [hGl] at ws7
    conv => lhs; whnf
    refine eqs_spec (by omega) (by omega) r7.rw RW7.rw is7 RW7.is (fine50 e7 (fineR fW)) hD fun σ9 p9 => ?_
    rw [recsEq_iff.2 e7]
    have ws9 := ws7.mono p9
    have RW9 := RW7.mono p9
    have RL9 := RL7.mono p9
    have c9 := c7.mono p9
    conv => lhs; whnf
    refine len_spec (by omega) ws9.w ?_
    conv => lhs; whnf
    rw [show (!(((WE).length : Int) == ((WE).length : Int))) = false by simp]
    conv => lhs; whnf
    refine next (q - 1) _ _ (by omega) ⟨_, i + 1, WE, aw, F7, W7, o, inc_i64 (by omega), by omega, by omega, by omega, ws9, RL9, RW9, c9, rfl⟩
  rw [show (kv == 1) = false by rw [beq_eq_false_iff_ne]; exact hk1]
  conv => lhs; whnf
  refine idx60 RLi.rw rfl hlt fun p hp' => ?_
  conv => lhs; whnf
  generalize hle : L[i] = e at hp'
  have he : FineE e.2.2 := hle ▸ f1 _ (List.getElem_mem hlt)
  have hie : IsR τ e.1 e.2.1 e.2.2 := hle ▸ RLi.is _ (List.getElem_mem hlt)
  obtain ⟨iC, rC⟩ := one_row hie
  have pC := List.prefix_append τ [AO.cells (recs [e]) 3 .own]
  have eR : encFr (rlE [e]) = putF e.2.2 := by show putF e.2.2 ++ [] = _; rw [List.append_nil]
  have hpl := putF_len he.may
  refine ldE hp' ?_
  conv => lhs; whnf
  refine build1 ?_
  conv => lhs; whnf
  refine wadd_spec (L := [e]) hD (by show 1 + _ ≤ _; omega) (by show 1 ≤ _; omega) (ws.mono pC) rfl hOi (by decide) (by omega) rC iC (fun x hx => by rw [List.mem_singleton] at hx; subst hx; exact he.ok) (fun _ => by rw [eR]; omega) (fun ⟨x, hx, hn⟩ => by rw [List.mem_singleton] at hx; subst hx; rw [he.may] at hn; cases hn) fun _ σ6 F6 ws6 s6 => ?_
  rw [eR, writes_one nm1] at ws6 ⊢
  have hWe : encFr (rlE WE) ++ putF e.2.2 = encFr (rlE (WE ++ [e])) := by
    show _ = encFr (List.map _ (WE ++ [e]))
    rw [List.map_append]
    exact (encFr_snoc _ _).symm
  have hWl : (WE ++ [e]).length = WE.length + 1 := by simp
  rw [hWe] at ws6
  replace ws6 : WS σ6 B m ⟨[⟨[108, 111, 103], encFr (rlE (WE ++ [e])), (encFr (rlE (WE ++ [e]))).length, true⟩], -1, false, o + 2⟩ F6 W [108, 111, 103] (WE.length + 1) false := ws6
  rw [← hWl] at ws6
  have T6 := (Stp.pre (F := FW F W) pC).trans s6
  have RL6 := RLi.step T6
  have RW6 := RWi.step T6
  have c6 := cc.ext T6.ext
  have fWe : ∀ x ∈ WE ++ [e], FineE x.2.2 := fun x hx => (List.mem_append.1 hx).elim (fW x) fun h => by rw [List.mem_singleton] at h; subst h; exact he
  conv => lhs; whnf
  refine goT hT tree12x19 ordT12x19 fun KK hKK => ?_
  conv => lhs; whnf
  refine idx60 RL6.rw rfl hlt fun p6 hp6 => ?_
  conv => lhs; whnf
  rw [hle] at hp6
  refine ldE hp6 ?_
  conv => lhs; whnf
  have fin2 : ∀ (τ7 : H) (a7 : SA) (o7 : Option Nat), σ6 <+: τ7 → Own σ6 τ7 3 o7 a7 (WE ++ [e]).length (recs (WE ++ [e])) → IsRs τ7 (WE ++ [e]) → WS τ7 B m ⟨[⟨[108, 111, 103], encFr (rlE (WE ++ [e])), (encFr (rlE (WE ++ [e]))).length, true⟩], -1, false, o + 2⟩ F6 W [108, 111, 103] (WE ++ [e]).length false ∧ RL τ7 (FW F6 W) a1 L ∧ RL τ7 (FW F6 W) a7 (WE ++ [e]) ∧ Rw τ7 1 c cs.length (iks .i64 cs) := fun τ7 a7 o7 p7 w7 i7 => ⟨ws6.mono p7, RL6.mono p7, RL.ofOwn w7 (fun id h hf => by
    subst h
    obtain ⟨_, _, _, _, hge, _⟩ := w7
    rcases hf with hf | hf
    · have := ws6.d.lt hf; omega
    · have := get_lt ws6.w; omega) i7 fWe, c6.mono p7⟩
  have hie6 : IsR σ6 e.1 e.2.1 e.2.2 := ⟨Rw.ext hie.nums T6.ext, Rw.ext hie.texts T6.ext⟩
  refine and_true ?_ ?_
  · conv => lhs; whnf
    refine appQ List.prefix_rfl (L := []) (Own.nil _ _ _) (IsRs.nil _) RW6.rw rfl RW6.is (by rw [List.nil_append]; omega) fun oH aH σH pH xH wH isH => ?_
    rw [List.nil_append] at wH isH ⊢
    conv => lhs; whnf
    refine and_true (all_cons ?_ rfl) ?_
    · conv => lhs; whnf
      refine ldE (hp6.mono pH) ?_
      exact same_rec _ _ _
    obtain ⟨iI, rI⟩ := one_row (e := e) (hie6.mono pH)
    have pI := List.prefix_append σH [AO.cells (recs [e]) 3 .own]
    conv => lhs; whnf
    refine build1 ?_
    conv => lhs; whnf
    refine appQ (M := [e]) (pH.trans pI) (wH.mono pI) (isH.mono pI) rI rfl iI (by omega) fun oJ aJ σJ pJ xJ wJ isJ => ?_
    obtain ⟨g1, g2, g3, g4⟩ := fin2 σJ aJ oJ pJ wJ isJ
    conv => lhs; whnf
    subst hKK
    conv => lhs; whnf
    refine len_spec (by omega) g1.w ?_
    conv => lhs; whnf
    rw [show (!(((WE ++ [e]).length : Int) == ((WE ++ [e]).length : Int))) = false by simp]
    conv => lhs; whnf
    refine next (q - 1) _ _ (by omega) ⟨_, i + 1, WE ++ [e], aJ, F6, W, o + 2, inc_i64 (by omega), by omega, by omega, by omega, g1, g2, g3, g4, rfl⟩
  · obtain ⟨iI, rI⟩ := one_row (e := e) hie6
    have pI := List.prefix_append σ6 [AO.cells (recs [e]) 3 .own]
    show Go.AM.stepT Try.prog _ _ 6 [] _ _ _ _ _ = true
    refine stepT_hide fun ih hih => ?_
    conv => lhs; whnf
    refine build1 ?_
    conv => lhs; whnf
    subst hih
    conv => lhs; whnf
    refine appQ List.prefix_rfl (L := []) (Own.nil _ _ _) (IsRs.nil _) (RW6.rw.mono pI) rfl (RW6.is.mono pI) (by rw [List.nil_append]; omega) fun oH aH σH pH' xH wH isH => ?_
    have pH := pI.trans pH'
    replace wH := wH.low (σ0 := σ6) (prefix_len pI)
    rw [List.nil_append] at wH isH ⊢
    conv => lhs; whnf
    refine and_true (all_cons ?_ rfl) ?_
    · conv => lhs; whnf
      refine ldE (hp6.mono pH) ?_
      exact same_rec _ _ _
    conv => lhs; whnf
    refine appQ (M := [e]) pH wH isH (rI.mono pH') rfl (iI.mono pH') (by omega) fun oJ aJ σJ pJ xJ wJ isJ => ?_
    obtain ⟨g1, g2, g3, g4⟩ := fin2 σJ aJ oJ pJ wJ isJ
    conv => lhs; whnf
    subst hKK
    conv => lhs; whnf
    refine len_spec (by omega) g1.w ?_
    conv => lhs; whnf
    rw [show (!(((WE ++ [e]).length : Int) == ((WE ++ [e]).length : Int))) = false by simp]
    conv => lhs; whnf
    refine next (q - 1) _ _ (by omega) ⟨_, i + 1, WE ++ [e], aJ, F6, W, o + 2, inc_i64 (by omega), by omega, by omega, by omega, g1, g2, g3, g4, rfl⟩
theorem walAll_law (σ : H) (vs : List AV) (h : ArgsShp Try.prog σ 9 [34, 70] vs) : ∃ n, acall Try.prog tab (drawRegion Try.prog) n 12 vs σ isTrue = true := by
  obtain ⟨a, vs, rfl, ha, h⟩ := args_cons h
  obtain ⟨b, vs, rfl, hb, h⟩ := args_cons h
  obtain rfl := args_nil h
  obtain ⟨s, l, rfl, a1, a2, a3, a4⟩ := arg_recs ha
  obtain ⟨t, cs, rfl, b1, b2, b3⟩ := arg_ints Try.underlying70 Try.underlying3 rfl hb
  exact ⟨l.length + 2000000, walAll_run (Nat.le_refl _) (byPlan _) (byTree _) a4 a1 a2 a3 b1⟩
end Go.Proofs.Ytahhajakgakdhaa
