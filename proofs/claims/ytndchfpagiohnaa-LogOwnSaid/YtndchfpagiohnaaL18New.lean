/- LogNewer. -/
import Derived.Test.YtndchfpagiohnaaL18Log
set_option maxRecDepth 100000
namespace Go.Proofs.Ytndchfpagiohnaa
open Go Go.AM Go.AM.St

theorem ent_shp {σ : H} {m : Nat} {cs : List AV} (hl : cs.length = 4) (h : Shp Try.prog σ (m + 4) 39 cs) : ∃ e : En, cs = enCells e ∧ IsR σ e.2.1 e.2.2.1 e.2.2.2 := by
  match cs, hl with
  | [x, y, z, u], _ =>
    unfold Shp at h
    rw [Try.underlying39] at h
    obtain ⟨t, e1, _, _⟩ := shp_int' (m := m + 2) (cs := [x]) Try.underlying2 (h _ (.head _))
    cases e1
    obtain ⟨a, b, r, e2, h2, _⟩ := rec_shp (m := m) (cs := [y, z, u]) rfl (h _ (.tail _ (.head _)))
    cases e2
    exact ⟨(t, a, b, r), rfl, h2⟩
theorem shp_ents {σ : H} {m : Nat} : ∀ {k : Nat} {xs : List AV}, xs.length = k * 4 → (∀ i, i < k → Shp Try.prog σ (m + 4) 39 ((xs.drop (i * 4)).take 4)) → ∃ l : List En, xs = ents l ∧ l.length = k ∧ IsEs σ l := by
  intro k
  induction k with
  | zero => intro xs hl _; exact ⟨[], by simpa [ents] using hl, rfl, IsEs.nil σ⟩
  | succ k ih =>
    intro xs hl h
    have h0 := h 0 (by omega)
    rw [Nat.zero_mul, List.drop_zero] at h0
    obtain ⟨e, e1, i1⟩ := ent_shp (by rw [List.length_take]; omega) h0
    obtain ⟨l, e2, hlen, i2⟩ := ih (xs := xs.drop 4) (by rw [List.length_drop]; omega) (fun i hi => by
      have := h (i + 1) (by omega)
      rw [List.drop_drop]
      rwa [show 4 + i * 4 = (i + 1) * 4 by omega])
    refine ⟨e :: l, ?_, by simp [hlen], fun x hx => ?_⟩
    · rw [ents, ← e2]
      conv => lhs; rw [← List.take_append_drop 4 xs, e1]
    · rcases List.mem_cons.1 hx with rfl | hx
      · exact i1
      · exact i2 x hx
theorem arg_ents {σ : H} {v : AV} (h : ArgShp Try.prog σ 9 22 v) : ∃ s l, v = .sl s l.length ∧ Rw σ 4 s l.length (ents l) ∧ IsEs σ l := by
  obtain ⟨s, m, xs, rfl, hr, hm, hx⟩ := arg_slice Try.underlying22 h
  have hr' : Rw σ 4 s m xs := hr
  obtain ⟨l, rfl, rfl, hi⟩ := shp_ents (m := 4) hr'.len hx
  exact ⟨s, l, rfl, hr', hi⟩

theorem newer_law {v1 v2 : List EnV} : (newerB v1 v2.length (termN v2 v2.length) || newerB v2 v1.length (termN v1 v1.length)) = true ∧
    ((newerB v1 v2.length (termN v2 v2.length) && newerB v2 v1.length (termN v1 v1.length)) = true → v1.length = v2.length ∧ termN v1 v1.length = termN v2 v2.length) := by
  unfold newerB
  generalize termN v1 v1.length = a
  generalize termN v2 v2.length = b
  generalize v1.length = x
  generalize v2.length = y
  constructor
  · simp only [Bool.or_eq_true, Bool.and_eq_true, decide_eq_true_eq]
    omega
  · simp only [Bool.or_eq_true, Bool.and_eq_true, decide_eq_true_eq]
    omega

attribute [local irreducible] IntKind.wrap Int.fdiv Int.tdiv Int.tmod BitVec.ofInt appendK sliceK indexAddrK ldK storeK seenK makeSliceK valsF lookupK updateK mapK
variable {D : Drawer}

theorem logNewer_run {n : Nat} (hn : 3000 ≤ n) (hD : ByPlan Try.prog D) {s t : SA} {l m : List En} {σ : H} (hs : Rw σ 4 s l.length (ents l)) (hl : IsEs σ l) (ht : Rw σ 4 t m.length (ents m)) (hm : IsEs σ m) :
    acall Try.prog tab D n 7 [.sl s l.length, .sl t m.length] σ isTrue = true := by
  obtain ⟨n, rfl, hn⟩ := up hn
  conv => lhs; whnf
  refine begun_spec ?_
  conv => lhs; whnf
  refine entries_spec (by omega) hD hs hl fun o1 w1 W1 σ1 p1 i1 v1 r1 => ?_
  have k1 : W1.length ≤ 12 := by rw [← vals_len, v1]; exact cutE_len _
  conv => lhs; whnf
  refine new_spec (by omega) (by omega) hD r1.rw i1 (by rw [v1]; exact cutE_small _) fun B1 X1 _ x1 σ2 p2 _ j1 u1 b1 q1 => ?_
  have p12 := List.IsPrefix.trans p1 p2
  conv => lhs; whnf
  refine entries_spec (by omega) hD (ht.mono p12) (hm.mono p12) fun o3 w3 W3 σ3 p3 i3 v3 r3 => ?_
  have k3 : W3.length ≤ 12 := by rw [← vals_len, v3]; exact cutE_len _
  conv => lhs; whnf
  refine new_spec (by omega) (by omega) hD r3.rw i3 (by rw [v3]; exact cutE_small _) fun B2 X2 _ x2 σ4 p4 _ j2 u2 b2 q2 => ?_
  have h1 : IsLog σ4 B1 X1 := IsLog.mono ⟨_, _, b1, q1.rw, j1⟩ (List.IsPrefix.trans p3 p4)
  have h2 : IsLog σ4 B2 X2 := ⟨_, _, b2, q2.rw, j2⟩
  have l1 : X1.length ≤ 10000 := by rw [← vals_len, u1, List.length_take]; omega
  have l2 : X2.length ≤ 10000 := by rw [← vals_len, u2, List.length_take]; omega
  obtain ⟨law1, law2⟩ := newer_law (v1 := vals X1) (v2 := vals X2)
  rw [vals_len, vals_len] at law1 law2
  conv => lhs; whnf
  refine len_spec (by omega) h2 ?_
  conv => lhs; whnf
  refine len_spec (by omega) h2 ?_
  conv => lhs; whnf
  refine term_spec (by omega) rfl (Nat.le_refl _) l2 h2 ?_
  conv => lhs; whnf
  refine newer_spec (by omega) l1 h1 ?_
  generalize newerB (vals X1) X2.length (termN (vals X2) X2.length) = p at law1 law2 ⊢
  cases p
  · conv => lhs; whnf
    refine len_spec (by omega) h1 ?_
    conv => lhs; whnf
    refine len_spec (by omega) h1 ?_
    conv => lhs; whnf
    refine term_spec (by omega) rfl (Nat.le_refl _) l1 h1 ?_
    conv => lhs; whnf
    refine newer_spec (by omega) l2 h2 ?_
    rw [Bool.false_or] at law1
    rw [law1]
    conv => lhs; whnf
  · conv => lhs; whnf
    refine len_spec (by omega) h1 ?_
    conv => lhs; whnf
    refine len_spec (by omega) h1 ?_
    conv => lhs; whnf
    refine term_spec (by omega) rfl (Nat.le_refl _) l1 h1 ?_
    conv => lhs; whnf
    refine newer_spec (by omega) l2 h2 ?_
    generalize newerB (vals X2) X1.length (termN (vals X1) X1.length) = q at law1 law2 ⊢
    cases q
    · conv => lhs; whnf
    obtain ⟨e1, e2⟩ := law2 rfl
    conv => lhs; whnf
    refine len_spec (by omega) h1 ?_
    conv => lhs; whnf
    refine len_spec (by omega) h2 ?_
    conv => lhs; whnf
    refine bif_pos (by simp [e1]) ?_
    conv => lhs; whnf
    refine len_spec (by omega) h1 ?_
    conv => lhs; whnf
    refine term_spec (by omega) rfl (Nat.le_refl _) l1 h1 ?_
    conv => lhs; whnf
    refine len_spec (by omega) h2 ?_
    conv => lhs; whnf
    refine term_spec (by omega) rfl (Nat.le_refl _) l2 h2 ?_
    conv => lhs; whnf
    refine bif_pos (by simp [e2]) ?_
    conv => lhs; whnf

theorem logNewer_law (σ : H) (vs : List AV) (h : ArgsShp Try.prog σ 9 [22, 22] vs) : ∃ n, acall Try.prog tab (drawRegion Try.prog) n 7 vs σ isTrue = true := by
  obtain ⟨a, vs, rfl, ha, h⟩ := args_cons h
  obtain ⟨c, vs, rfl, hc, h⟩ := args_cons h
  obtain rfl := args_nil h
  obtain ⟨s, l, rfl, a1, a2⟩ := arg_ents ha
  obtain ⟨t, m, rfl, c1, c2⟩ := arg_ents hc
  exact ⟨3000, logNewer_run (Nat.le_refl _) (byPlan _) a1 a2 c1 c2⟩
end Go.Proofs.Ytndchfpagiohnaa
