/- Letters that are cut; ops. -/
import Derived.Test.YthmdecfiijgaoaaGreatL20Ok
import Derived.Test.YthmdecfiijgaoaaGreatL20H
namespace Go.Proofs.YthmdecfiijgaoaaGreat
set_option maxRecDepth 100000
open Go Go.AM Go.AM.St
open Go.Raft (termAt fromL newer len upd)
def cutL (l : Lm) : Lm := { l with es := cutE (l.es.take 6) }
theorem shp_at {σ : H} {m : Nat} {xs : List AV} {f : Field} {fs : Array Field} {t : TypeId} (ht : Tryz.prog.underlying t = some (.struct fs)) (h : Shp Tryz.prog σ (m + 1) t xs) (hf : f ∈ fs.toList) : Shp Tryz.prog σ m f.type ((xs.drop f.offset).take (Tryz.prog.cellsOf f.type)) := by
  unfold Shp at h
  rw [ht] at h
  exact h f hf
/-- An op's cells. -/
structure OpV where
  kind : Int
  l : Lm × AM.SA
  a : AM.SA
  b : AM.SA
  r : RecP
  near : Bool
abbrev oc (x : OpV) : List AV := [.int .i64 x.kind, .int .i64 x.l.1.kind, .int .i64 x.l.1.src, .int .i64 x.l.1.dst, .int .i64 x.l.1.term, .int .i64 x.l.1.a, .int .i64 x.l.1.b, .int .i64 x.l.1.commit, .bool x.l.1.yes, .sl x.l.2 x.l.1.es.length,
  .int .i64 x.r.kind, .sl x.a x.r.nums.length, .sl x.b x.r.texts.length, .bool x.near]
def IsOp (σ : H) (x : OpV) : Prop := IsLt σ x.l ∧ IsR σ x.a x.b x.r
theorem op_shp {σ : H} {m : Nat} {cs : List AV} (hl : cs.length = 14) (h : Shp Tryz.prog σ (m + 7) 57 cs) : ∃ x : OpV, cs = oc x ∧ IsOp σ x := by
  match cs, hl with
  | [c0, c1, c2, c3, c4, c5, c6, c7, c8, c9, c10, c11, c12, c13], _ =>
    unfold Shp at h
    rw [Tryz.underlying57] at h
    obtain ⟨i0, e0, _, _⟩ := shp_int' (m := m + 5) (cs := [c0]) Tryz.underlying3 (h _ (.head _))
    obtain ⟨l, e1, il⟩ := lt_shp (m := m) (cs := [c1, c2, c3, c4, c5, c6, c7, c8, c9]) rfl (h _ (.tail _ (.head _)))
    obtain ⟨a, b, r, e2, ir, _⟩ := rec_shp (m := m + 3) (cs := [c10, c11, c12]) rfl (h _ (.tail _ (.tail _ (.head _))))
    obtain ⟨i7, e7⟩ := shp_bool' (m := m + 5) (cs := [c13]) (h _ (.tail _ (.tail _ (.tail _ (.head _)))))
    cases e0; cases e1; cases e2; cases e7
    exact ⟨⟨i0, l, a, b, r, i7⟩, rfl, il, ir⟩
theorem shp_ops {σ : H} {m : Nat} : ∀ {k : Nat} {xs : List AV}, xs.length = k * 14 → (∀ i, i < k → Shp Tryz.prog σ (m + 7) 57 ((xs.drop (i * 14)).take 14)) → ∃ l : List OpV, xs = l.flatMap oc ∧ l.length = k ∧ ∀ x ∈ l, IsOp σ x := by
  intro k
  induction k with
  | zero => intro xs hl _; exact ⟨[], by simpa using hl, rfl, fun x h => by cases h⟩
  | succ k ih =>
    intro xs hl h
    have h0 := h 0 (by omega)
    rw [Nat.zero_mul, List.drop_zero] at h0
    obtain ⟨e, e1, i1⟩ := op_shp (by rw [List.length_take]; omega) h0
    obtain ⟨l, e2, hlen, i2⟩ := ih (xs := xs.drop 14) (by rw [List.length_drop]; omega) (fun i hi => by
      have := h (i + 1) (by omega)
      rw [List.drop_drop]
      rwa [show 14 + i * 14 = (i + 1) * 14 by omega])
    refine ⟨e :: l, ?_, by simp [hlen], fun x hx => ?_⟩
    · rw [List.flatMap_cons, ← e2]
      conv => lhs; rw [← List.take_append_drop 14 xs, e1]
    · rcases List.mem_cons.1 hx with rfl | hx
      · exact i1
      · exact i2 x hx
theorem arg_ops {σ : H} {v : AV} (h : ArgShp Tryz.prog σ 9 51 v) : ∃ (s : AM.SA) (l : List OpV), v = .sl s l.length ∧ Rw σ 14 s l.length (l.flatMap oc) ∧ ∀ x ∈ l, IsOp σ x := by
  obtain ⟨s, m, xs, rfl, hr, hm, hx⟩ := arg_slice Tryz.underlying51 h
  have hr' : Rw σ 14 s m xs := hr
  obtain ⟨l, rfl, rfl, hi⟩ := shp_ops (m := 1) hr'.len hx
  exact ⟨s, l, rfl, hr', hi⟩
theorem ops_at : ∀ {l : List OpV} {i : Nat} (h : i < l.length), ((l.flatMap oc).drop (i * 14)).take 14 = oc l[i]
  | x :: l, 0, _ => by
    rw [List.flatMap_cons, Nat.zero_mul, List.drop_zero, List.take_append_of_le_length (Nat.le_refl 14)]
    rfl
  | x :: l, i + 1, h => by
    rw [List.flatMap_cons, show (i + 1) * 14 = (oc x).length + i * 14 by show _ = 14 + i * 14; omega, ← List.drop_drop, List.drop_append_of_le_length (Nat.le_refl _), List.drop_length, List.nil_append]
    exact ops_at (Nat.lt_of_succ_lt_succ h)
/-- Here lies an op. -/
def AtOp (σ : H) (id b : Nat) (x : OpV) : Prop := ∃ xs md, σ[id]? = some (AO.cells xs 14 md) ∧ b + 14 ≤ xs.length ∧ (xs.drop b).take 14 = oc x
theorem idxOp {σ : H} {s : AM.SA} {l : List OpV} {n : Nat} (hs : Rw σ 14 s n (l.flatMap oc)) {k : IntKind} {y : Int} {i : Nat} {K : AV → Bool} (hn : n = l.length) (hy : y = (i : Int)) (hi : i < l.length)
    (hK : ∀ id b, AtOp σ id b l[i] → K (.ptr (some ⟨id, b, 0, 14⟩)) = true) : indexAddrK Tryz.prog 51 (.sl s n) (.int k y) K = true := by
  refine indexAddrK_rw Tryz.underlying51 (fun _ => rfl) hs hy (by omega) (ops_at hi) fun p hp => ?_
  obtain ⟨id, b, d, z⟩ := p
  obtain ⟨h1, h2, xs, md, h3, h4, h5⟩ := hp
  simp only at h1 h2 h3 h4 h5
  subst h1 h2
  exact hK id b ⟨xs, md, h3, h4, h5⟩
theorem ldOpKind {σ : H} {id b : Nat} {x : OpV} {K : AV → Bool} (h : AtOp σ id b x) (hK : K (.int .i64 x.kind) = true) : ldK Tryz.prog 3 σ ⟨id, b, 0, 14⟩ K = true := by
  obtain ⟨xs, md, h1, h2, h3⟩ := h
  refine ldF (v := .int .i64 x.kind) Tryz.underlying3 rfl rfl h1 ?_ hK
  have : ((xs.drop b).take 14)[0]? = some (AV.int .i64 x.kind) := by rw [h3]; rfl
  rw [List.getElem?_take_of_lt (by decide), List.getElem?_drop] at this
  exact this
theorem ldOpL {σ : H} {id b : Nat} {x : OpV} {K : AV → Bool} (h : AtOp σ id b x) (hK : K (.agg (lc x.l)) = true) : ldK Tryz.prog 46 σ ⟨id, b, 1, 14⟩ K = true := by
  obtain ⟨xs, md, h1, h2, h3⟩ := h
  refine ldS (ys := lc x.l) Tryz.underlying46 rfl h1 (show 1 + 9 ≤ 14 by decide) (show b + 1 + 9 ≤ xs.length by omega) ?_ ?_
  · have : (((xs.drop b).take 14).drop 1).take 9 = lc x.l := by rw [h3]; rfl
    rw [List.drop_take, List.take_take, List.drop_drop] at this
    exact this
  · conv => lhs; whnf
    exact hK
attribute [local irreducible] IntKind.wrap Int.fdiv Int.tdiv Int.tmod BitVec.ofInt appendK sliceK indexAddrK ldK storeK seenK makeSliceK lookupK updateK clearK buildSliceK
variable {D : Drawer} {σ : H}
theorem letter_spec {n : Nat} {x : Lm × AM.SA} (hn : 200 ≤ n) (hD : ByPlan Tryz.prog D) (hx : IsLt σ x) {K : AV → H → Bool}
    (hK : ∀ w' σ', σ <+: σ' → IsLt σ' (cutL x.1, w') → K (.agg (lc (cutL x.1, w'))) σ' = true) : acall Tryz.prog tab D n 27 [.agg (lc x)] σ K = true := by
  obtain ⟨n, rfl, hn⟩ := up hn
  obtain ⟨V, e1, e2, e3, e4⟩ := hx.len
  have p1 := List.prefix_append σ [AO.cells (lc x) 9 .own]
  have g1 := get_new σ (AO.cells (lc x) 9 .own)
  have p2 := List.prefix_append (σ ++ [AO.cells (lc x) 9 .own]) [AO.cells lc0 9 .own]
  have g2 := get_new (σ ++ [AO.cells (lc x) 9 .own]) (AO.cells lc0 9 .own)
  have g12 := prefix_get p2 g1
  repeat ((conv => lhs; whnf); first | ((with_reducible apply gLd); apply ldF; (focus (rfl)); (focus (rfl)); (focus (rfl)); (focus ((repeat (first | assumption | exact get_new _ _ | refine get_old ?_ _ | refine get_set ?_ _ | refine get_set_ne ?_ (by first | assumption | (simp <;> omega) | omega) _ | refine prefix_get (by assumption) ?_)); done)); (focus (rfl))) | ((with_reducible apply gSt); first | (apply st_int; (focus (rfl)); (focus (rfl)); (focus (decide)); (focus ((repeat (first | assumption | exact get_new _ _ | refine get_old ?_ _ | refine get_set ?_ _ | refine get_set_ne ?_ (by first | assumption | (simp <;> omega) | omega) _ | refine prefix_get (by assumption) ?_)); done)); (focus (decide))) | (apply st_sl; (focus (rfl)); (focus (rfl)); (focus (decide)); (focus ((repeat (first | assumption | exact get_new _ _ | refine get_old ?_ _ | refine get_set ?_ _ | refine get_set_ne ?_ (by first | assumption | (simp <;> omega) | omega) _ | refine prefix_get (by assumption) ?_)); done)); (focus (decide))) | (apply st_bool; (focus (rfl)); (focus (rfl)); (focus (decide)); (focus ((repeat (first | assumption | exact get_new _ _ | refine get_old ?_ _ | refine get_set ?_ _ | refine get_set_ne ?_ (by first | assumption | (simp <;> omega) | omega) _ | refine prefix_get (by assumption) ?_)); done)); (focus (decide))) | (apply st_ptr; (focus (rfl)); (focus (rfl)); (focus (decide)); (focus ((repeat (first | assumption | exact get_new _ _ | refine get_old ?_ _ | refine get_set ?_ _ | refine get_set_ne ?_ (by first | assumption | (simp <;> omega) | omega) _ | refine prefix_get (by assumption) ?_)); done)); (focus (decide)))) | (refine and_true ?_ ?_; (focus ((repeat (first | refine all_skip rfl ?_ | exact rfl | (refine all_cons ?_ ?_; (focus ((conv => lhs; whnf); ((with_reducible apply gLd); apply ldF; (focus (rfl)); (focus (rfl)); (focus (rfl)); (focus ((repeat (first | assumption | exact get_new _ _ | refine get_old ?_ _ | refine get_set ?_ _ | refine get_set_ne ?_ (by first | assumption | (simp <;> omega) | omega) _ | refine prefix_get (by assumption) ?_)); done)); (focus (rfl))); (first | exact cs_int rfl | exact cs_ptr rfl | exact cs_sl rfl | exact cs_str rfl | exact cs_bool rfl | exact cs_map rfl | exact same_int _ _ | exact same_sl _ _ | exact same_str _ | exact same_ptr _ | rfl)))))); done))))
  conv => lhs; whnf
  rw [← e2]
  have em : min V.length 6 ≤ V.length := Nat.min_le_left _ _
  refine slice22 (l := V) (s := x.2) (e3.mono (p1.trans p2)) 0 (min V.length 6) ?_ ?_ (Nat.zero_le _) em fun a' r' => ?_
  · exact .inl ⟨rfl, rfl⟩
  · refine .inr ⟨_, _, rfl, ?_⟩
    show (if (6 : Int) < (V.length : Int) then (6 : Int) else (V.length : Int)) = _
    split <;> omega
  have eW : List.drop 0 (List.take (min V.length 6) V) = V.take 6 := by
    rw [List.drop_zero]
    by_cases h6 : 6 ≤ V.length
    · rw [Nat.min_eq_right h6]
    · rw [Nat.min_eq_left (by omega), List.take_of_length_le (Nat.le_refl _), List.take_of_length_le (by omega)]
  rw [eW] at r' ⊢
  conv => lhs; whnf
  refine entries_spec (l := V.take 6) (by omega) hD r' (fun e he => ((e4 e (List.mem_of_mem_take he)).mono p1).mono p2) fun o w6 W σ6 p6 i6 v6 o6 => ?_
  have v7 : vals W = (cutL x.1).es := by
    rw [v6]
    show _ = cutE (x.1.es.take 6)
    rw [← e1]
    simp [vals, List.map_take]
  have l6 : W.length = (cutL x.1).es.length := by rw [← v7, vals_len]
  rw [l6]
  have g6 := prefix_get p6 g12
  have h6 := prefix_get p6 g2
  have q6 := (p1.trans p2).trans p6
  have lt1 := prefix_len p6
  rw [List.length_append, List.length_append, List.length_singleton, List.length_singleton] at lt1
  conv => lhs; whnf
  refine stLt (σ := σ6) (x' := (cutL x.1, w6)) rfl rfl (by decide) rfl g6 rfl ?_
  have g7 := get_set g6 (AO.cells (lc (cutL x.1, w6)) 9 .own)
  have h7 := get_set_ne h6 (show (σ ++ [AO.cells (lc x) 9 .own]).length ≠ σ.length by simp) (AO.cells (lc (cutL x.1, w6)) 9 .own)
  have q7 : σ <+: σ6.set σ.length (AO.cells (lc (cutL x.1, w6)) 9 .own) := prefix_set q6 (Nat.le_refl _) _
  have x7 : IsLt (σ6.set σ.length (AO.cells (lc (cutL x.1, w6)) 9 .own)) (cutL x.1, w6) :=
    IsLt.keep ⟨W, v7, o6.rw, i6⟩ fun id xs z md hz h => get_set_ne h (fun e => by
      rw [e, g6] at h
      exact absurd (Option.some.inj h) (fun h => by injection h with _ h2 _; exact hz h2.symm)) _
  generalize σ6.set σ.length (AO.cells (lc (cutL x.1, w6)) 9 .own) = σ7 at g7 h7 q7 x7 ⊢
  conv => lhs; whnf
  refine ldLt g7 ?_
  conv => lhs; whnf
  refine storeLt (h := (σ ++ [AO.cells (lc x) 9 .own]).length) (x := (cutL x.1, w6)) (τ := σ7) rfl h7 ?_
  have g8 := get_set h7 (AO.cells (lc (cutL x.1, w6)) 9 .own)
  have q8 : σ <+: σ7.set (σ ++ [AO.cells (lc x) 9 .own]).length (AO.cells (lc (cutL x.1, w6)) 9 .own) := prefix_set q7 (by simp) _
  have x8 : IsLt (σ7.set (σ ++ [AO.cells (lc x) 9 .own]).length (AO.cells (lc (cutL x.1, w6)) 9 .own)) (cutL x.1, w6) :=
    x7.keep fun id xs z md hz h => get_set_ne h (fun e => by
      rw [e, h7] at h
      exact absurd (Option.some.inj h) (fun h => by injection h with _ h2 _; exact hz h2.symm)) _
  generalize σ7.set (σ ++ [AO.cells (lc x) 9 .own]).length (AO.cells (lc (cutL x.1, w6)) 9 .own) = σ8 at g8 q8 x8 ⊢
  conv => lhs; whnf
  refine ldLt g8 ?_
  conv => lhs; whnf
  exact hK w6 σ8 q8 x8
end Go.Proofs.YthmdecfiijgaoaaGreat
