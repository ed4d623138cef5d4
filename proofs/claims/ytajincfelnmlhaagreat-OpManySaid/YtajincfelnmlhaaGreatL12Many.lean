/- OpMany: one to eight operations. -/
import Derived.Test.YtajincfelnmlhaaGreatL12Span
import Derived.Test.YtajincfelnmlhaaGreatL12Put2
namespace Go.Proofs.YtajincfelnmlhaaGreat
set_option maxRecDepth 100000
open Go Go.AM Go.AM.St
abbrev sendO : OpV := ⟨6, [113], [], [120], 0⟩
abbrev sends (k : Nat) : List OpV := List.replicate k sendO
theorem sends_one (i : Nat) : sends i ++ [sendO] = sends (i + 1) := by simp [sends, List.replicate_succ']
theorem send_ok : OkV sendO := ⟨by simp, by simp, by simp, by simp, by simp, by simp, by simp⟩
theorem sends_may (k : Nat) : (sends k).all mayV = true := by
  rw [List.all_eq_true]
  intro o ho
  rw [(List.mem_replicate.1 ho).2]
  decide
theorem sends_all (k : Nat) : allV (sends k) = (decide (1 ≤ k) && decide (k ≤ 8)) := by
  unfold allV
  rw [sends_may]
  simp only [sends, List.length_replicate]
  by_cases h1 : k < 1
  · have : ¬ 1 ≤ k := by omega
    simp [h1, this]
  by_cases h2 : k > 8
  · have : ¬ k ≤ 8 := by omega
    simp [h1, h2, this]
  have a : 1 ≤ k := by omega
  have b : k ≤ 8 := by omega
  simp [h1, h2, a, b]
theorem buildO {σ : H} {o : OpV} {K : AV → H → Bool} (hK : K (.sl (.at σ.length 0 5) 1) (σ ++ [.cells (opvs [o]) 5 .own]) = true) : buildSliceK Tryz.prog 24 1 [(0, .agg (opv o))] σ K = true := by
  conv => lhs; whnf
  exact hK
attribute [local irreducible] IntKind.wrap Int.fdiv Int.tdiv Int.tmod BitVec.ofInt appendK sliceK indexAddrK ldK storeK seenK makeSliceK lookupK updateK deleteK mapK rangeK nextK buildSliceK indexK
variable {D : Drawer} {σ : H}
/-- What Put tells, told loosely. -/
theorem put_any {n : Nat} {s : AM.SA} {l : List OpV} {c e k : Int} (hn : l.length + 100 ≤ n) (hl : l.length ≤ 1000) (hs : Rw σ 5 s l.length (opvs l)) (ho : ∀ o ∈ l, OkV o) {K : AV → H → Bool}
    (hK : ∀ k' a m b m' σ', σ <+: σ' → K (.tup [.agg [.int .i64 k', .sl a m, .sl b m'], .bool (putOk c e l k)]) σ' = true) :
    acall Tryz.prog tab D n 29 [.agg (idv c e), .sl s l.length, .int .i64 k] σ K = true := by
  cases h : putOk c e l k with
  | false => exact put_no hn (by omega) hs ho h fun σ' p => by have := hK 0 .nil 0 .nil 0 σ' p; rwa [h] at this
  | true => exact put_yes hn hl hs ho h fun o o' a b σ' p _ _ => by have := hK (putV c e l k).kind a (putV c e l k).nums.length b (putV c e l k).texts.length σ' p; rwa [h] at this
theorem opMany_run {n : Nat} {i c e : Int} (hn : 2000 ≤ n) : acall Tryz.prog tab D n 11 [.int .i64 i, .agg (idv c e)] σ isTrue = true := by
  obtain ⟨n, rfl, hn⟩ := up (n := n) (k := 1999) (by omega)
  obtain ⟨k, hk, ek⟩ := modN (i := i) 12 (by decide) (by decide)
  have T3 := get_new σ (AO.cells (idv c e) 2 .own)
  conv => lhs; whnf
  refine begun_spec ?_
  conv => lhs; whnf
  generalize hx : (IntKind.i64.wrap (i.tmod 12 + 12)).tmod 12 = x
  obtain rfl : x = (k : Int) := hx.symm.trans ek
  refine loop_rule (m := 201) (fun q fr τ => ∃ (z : Int) (j : Nat) (o : Option Nat) (a : AM.SA), z = (j : Int) ∧ j + q = k ∧ σ ++ [AO.cells (idv c e) 2 .own] <+: τ ∧ OwnS (σ ++ [AO.cells (idv c e) 2 .own]) τ 5 o a (sends j).length (opvs (sends j)) ∧
    fr = [.int .i64 (k : Int), .bad, .bad, .ptr (some ⟨σ.length, 0, 0, 2⟩), .bad, .bad, .sl a (sends j).length, .int .i64 z, .bad, .bad, .bad, .bad, .bad, .bad, .bad, .bad, .bad, .bad, .bad, .bad, .bad, .bad, .bad, .bad, .bad, .bad, .bad, .bad, .bad, .bad, .bad, .bad, .bad, .bad, .bad, .bad, .bad, .bad, .bad, .bad, .bad, .bad, .bad, .bad, .bad, .bad, .bad, .bad, .bad, .bad, .bad, .bad, .bad, .bad, .bad, .bad, .bad, .bad, .bad, .bad, .bad, .bad, .bad]) ?_ _ k _ _ (by omega) ⟨_, 0, none, .nil, rfl, by omega, List.prefix_rfl, OwnS.nil _ _ _, rfl⟩
  rintro q fr τ C ⟨z, j, o, a, rfl, hq, p, ow, rfl⟩ next fin
  conv => lhs; whnf
  by_cases hj : j < k
  · rw [show decide ((j : Int) < (k : Int)) = true from decide_eq_true (by omega)]
    conv => lhs; whnf
    refine buildO (o := sendO) ?_
    conv => lhs; whnf
    refine appS (n := (sends j).length) (m := 1) (ys := opvs [sendO]) Tryz.underlying24 rfl rfl rfl rfl (by decide) (p.trans (List.prefix_append _ _)) (ow.mono (List.prefix_append _ _)) (Rw.new _ .own rfl) (N := (sends (j + 1)).length) (zs := opvs (sends (j + 1))) (by simp [sends]) (by rw [opvs_app, sends_one]) (by simp only [sends, List.length_replicate]; show _ * 64 ≤ _; omega) fun o2 a2 σ2 p2 _ _ _ _ w2 => ?_
    conv => lhs; whnf
    refine next (q - 1) _ _ (by omega) ⟨_, j + 1, o2, a2, inc_i64 (by omega), by omega, p2, w2, rfl⟩
  rw [show decide ((j : Int) < (k : Int)) = false from decide_eq_false (by omega)]
  obtain rfl : j = k := by omega
  conv => lhs; whnf
  refine fin _ _ _ nofun ?_
  have lk : (sends j).length = j := by simp [sends]
  conv => lhs; whnf
  refine ldId (prefix_get p T3) ?_
  conv => lhs; whnf
  refine put_any (by omega) (by omega) ow.rw (fun o ho => by rw [(List.mem_replicate.1 ho).2]; exact send_ok) fun k1 a1 m1 b1 m1' σ1 p1 => ?_
  clear hx
  have eok : putOk c e (sends j) 3 = (clientV c e && allV (sends j)) := by unfold putOk; simp
  rw [sends_all] at eok
  rw [eok]
  by_cases x1 : 1 ≤ j
  case neg =>
    rw [show (clientV c e && (decide (1 ≤ j) && decide (j ≤ 8))) = false by simp [x1]]
    conv => lhs; whnf
    refine storeRec (x' := .int .i64 k1) (y' := .sl a1 m1) (z' := .sl b1 m1') (get_new _ _) rfl ?_
    rw [set_new]
    have q1 := p1.trans (List.prefix_append σ1 [AO.cells [.int .i64 k1, .sl a1 m1, .sl b1 m1'] 3 .own])
    conv => lhs; whnf
    refine ldId (prefix_get (p.trans q1) T3) ?_
    conv => lhs; whnf
    refine put_any (by omega) (by omega) (ow.rw.mono q1) (fun o ho => by rw [(List.mem_replicate.1 ho).2]; exact send_ok) fun k2 a2 m2 b2 m2' σ2 p2 => ?_
    rw [show putOk c e (sends j) 5 = false by unfold putOk; simp]
    conv => lhs; whnf
    refine storeRec (x' := .int .i64 k2) (y' := .sl a2 m2) (z' := .sl b2 m2') (get_new _ _) rfl ?_
    rw [set_new]
    have q2 := (q1.trans p2).trans (List.prefix_append σ2 [AO.cells [.int .i64 k2, .sl a2 m2, .sl b2 m2'] 3 .own])
    conv => lhs; whnf
    refine all_spec (by omega) (by omega) (ow.rw.mono q2) (fun o ho => by rw [(List.mem_replicate.1 ho).2]; exact send_ok) fun σ3 p3 => ?_
    rw [sends_all, show (decide (1 ≤ j) && decide (j ≤ 8)) = false by simp [x1]]
    conv => lhs; whnf
    rw [show decide ((j : Int) ≥ 1) = false from decide_eq_false (by omega)]
    conv => lhs; whnf
    refine all_spec (by omega) (by omega) (ow.rw.mono (q2.trans p3)) (fun o ho => by rw [(List.mem_replicate.1 ho).2]; exact send_ok) fun σ4 p4 => ?_
    rw [sends_all, show (decide (1 ≤ j) && decide (j ≤ 8)) = false by simp [x1]]
    conv => lhs; whnf
  by_cases x2 : j ≤ 8
  case neg =>
    rw [show (clientV c e && (decide (1 ≤ j) && decide (j ≤ 8))) = false by simp [x2]]
    conv => lhs; whnf
    refine storeRec (x' := .int .i64 k1) (y' := .sl a1 m1) (z' := .sl b1 m1') (get_new _ _) rfl ?_
    rw [set_new]
    have q1 := p1.trans (List.prefix_append σ1 [AO.cells [.int .i64 k1, .sl a1 m1, .sl b1 m1'] 3 .own])
    conv => lhs; whnf
    refine ldId (prefix_get (p.trans q1) T3) ?_
    conv => lhs; whnf
    refine put_any (by omega) (by omega) (ow.rw.mono q1) (fun o ho => by rw [(List.mem_replicate.1 ho).2]; exact send_ok) fun k2 a2 m2 b2 m2' σ2 p2 => ?_
    rw [show putOk c e (sends j) 5 = false by unfold putOk; simp]
    conv => lhs; whnf
    refine storeRec (x' := .int .i64 k2) (y' := .sl a2 m2) (z' := .sl b2 m2') (get_new _ _) rfl ?_
    rw [set_new]
    have q2 := (q1.trans p2).trans (List.prefix_append σ2 [AO.cells [.int .i64 k2, .sl a2 m2, .sl b2 m2'] 3 .own])
    conv => lhs; whnf
    refine all_spec (by omega) (by omega) (ow.rw.mono q2) (fun o ho => by rw [(List.mem_replicate.1 ho).2]; exact send_ok) fun σ3 p3 => ?_
    rw [sends_all, show (decide (1 ≤ j) && decide (j ≤ 8)) = false by simp [x2]]
    conv => lhs; whnf
    rw [show decide ((j : Int) ≥ 1) = true from decide_eq_true (by omega)]
    conv => lhs; whnf
    rw [show decide ((j : Int) ≤ 8) = false from decide_eq_false (by omega)]
    conv => lhs; whnf
    refine all_spec (by omega) (by omega) (ow.rw.mono (q2.trans p3)) (fun o ho => by rw [(List.mem_replicate.1 ho).2]; exact send_ok) fun σ4 p4 => ?_
    rw [sends_all, show (decide (1 ≤ j) && decide (j ≤ 8)) = false by simp [x2]]
    conv => lhs; whnf
  cases hc : clientV c e with
  | true =>
    rw [decide_eq_true x1, decide_eq_true x2]
    conv => lhs; whnf
    refine storeRec (x' := .int .i64 k1) (y' := .sl a1 m1) (z' := .sl b1 m1') (get_new _ _) rfl ?_
    rw [set_new]
    have q1 := p1.trans (List.prefix_append σ1 [AO.cells [.int .i64 k1, .sl a1 m1, .sl b1 m1'] 3 .own])
    conv => lhs; whnf
    refine ldId (prefix_get (p.trans q1) T3) ?_
    conv => lhs; whnf
    refine put_any (by omega) (by omega) (ow.rw.mono q1) (fun o ho => by rw [(List.mem_replicate.1 ho).2]; exact send_ok) fun k2 a2 m2 b2 m2' σ2 p2 => ?_
    rw [show putOk c e (sends j) 5 = false by unfold putOk; simp]
    conv => lhs; whnf
    refine storeRec (x' := .int .i64 k2) (y' := .sl a2 m2) (z' := .sl b2 m2') (get_new _ _) rfl ?_
    rw [set_new]
    have q2 := (q1.trans p2).trans (List.prefix_append σ2 [AO.cells [.int .i64 k2, .sl a2 m2, .sl b2 m2'] 3 .own])
    conv => lhs; whnf
    refine all_spec (by omega) (by omega) (ow.rw.mono q2) (fun o ho => by rw [(List.mem_replicate.1 ho).2]; exact send_ok) fun σ3 p3 => ?_
    rw [sends_all, decide_eq_true x1, decide_eq_true x2]
    conv => lhs; whnf
    rw [show decide ((j : Int) ≥ 1) = true from decide_eq_true (by omega)]
    conv => lhs; whnf
    rw [show decide ((j : Int) ≤ 8) = true from decide_eq_true (by omega)]
    conv => lhs; whnf
    refine all_spec (by omega) (by omega) (ow.rw.mono (q2.trans p3)) (fun o ho => by rw [(List.mem_replicate.1 ho).2]; exact send_ok) fun σ4 p4 => ?_
    rw [sends_all, decide_eq_true x1, decide_eq_true x2]
    conv => lhs; whnf
    refine ldId (prefix_get (p.trans ((q2.trans p3).trans p4)) T3) ?_
    conv => lhs; whnf
    refine ref_client_spec (by omega) fun σ5 p5 => ?_
    rw [hc]
    conv => lhs; whnf
  | false =>
    rw [decide_eq_true x1, decide_eq_true x2]
    conv => lhs; whnf
    refine storeRec (x' := .int .i64 k1) (y' := .sl a1 m1) (z' := .sl b1 m1') (get_new _ _) rfl ?_
    rw [set_new]
    have q1 := p1.trans (List.prefix_append σ1 [AO.cells [.int .i64 k1, .sl a1 m1, .sl b1 m1'] 3 .own])
    conv => lhs; whnf
    refine ldId (prefix_get (p.trans q1) T3) ?_
    conv => lhs; whnf
    refine put_any (by omega) (by omega) (ow.rw.mono q1) (fun o ho => by rw [(List.mem_replicate.1 ho).2]; exact send_ok) fun k2 a2 m2 b2 m2' σ2 p2 => ?_
    rw [show putOk c e (sends j) 5 = false by unfold putOk; simp]
    conv => lhs; whnf
    refine storeRec (x' := .int .i64 k2) (y' := .sl a2 m2) (z' := .sl b2 m2') (get_new _ _) rfl ?_
    rw [set_new]
    have q2 := (q1.trans p2).trans (List.prefix_append σ2 [AO.cells [.int .i64 k2, .sl a2 m2, .sl b2 m2'] 3 .own])
    conv => lhs; whnf
    refine all_spec (by omega) (by omega) (ow.rw.mono q2) (fun o ho => by rw [(List.mem_replicate.1 ho).2]; exact send_ok) fun σ3 p3 => ?_
    rw [sends_all, decide_eq_true x1, decide_eq_true x2]
    conv => lhs; whnf
    rw [show decide ((j : Int) ≥ 1) = true from decide_eq_true (by omega)]
    conv => lhs; whnf
    rw [show decide ((j : Int) ≤ 8) = true from decide_eq_true (by omega)]
    conv => lhs; whnf
    refine all_spec (by omega) (by omega) (ow.rw.mono (q2.trans p3)) (fun o ho => by rw [(List.mem_replicate.1 ho).2]; exact send_ok) fun σ4 p4 => ?_
    rw [sends_all, decide_eq_true x1, decide_eq_true x2]
    conv => lhs; whnf
    refine ldId (prefix_get (p.trans ((q2.trans p3).trans p4)) T3) ?_
    conv => lhs; whnf
    refine ref_client_spec (by omega) fun σ5 p5 => ?_
    rw [hc]
    conv => lhs; whnf
theorem opMany_law (σ : H) (vs : List AV) (h : ArgsShp Tryz.prog σ 9 [3, 26] vs) : ∃ n, acall Tryz.prog tab (drawRegion Tryz.prog) n 11 vs σ isTrue = true := by
  obtain ⟨a, us, rfl, h1, h⟩ := args_cons h
  obtain ⟨b, us, rfl, h2, h⟩ := args_cons h
  obtain rfl := args_nil h
  obtain ⟨i, rfl, _, _⟩ := arg_int Tryz.underlying3 h1
  obtain ⟨c, e, rfl, _⟩ := arg_cid h2
  exact ⟨2000, opMany_run (Nat.le_refl _)⟩
end Go.Proofs.YtajincfelnmlhaaGreat
