/- LogNewer. -/
import Derived.Test.YthmdecfiijgaoaaGreatL18Log
set_option maxRecDepth 100000
namespace Go.Proofs.YthmdecfiijgaoaaGreat
open Go Go.AM Go.AM.St

theorem ent_shp {σ : H} {m : Nat} {cs : List AV} (hl : cs.length = 4) (h : Shp Tryz.prog σ (m + 4) 27 cs) : ∃ e : En, cs = enCells e ∧ IsR σ e.2.1 e.2.2.1 e.2.2.2 := by
  match cs, hl with
  | [x, y, z, u], _ =>
    unfold Shp at h
    rw [Tryz.underlying27] at h
    obtain ⟨t, e1, _, _⟩ := shp_int' (m := m + 2) (cs := [x]) Tryz.underlying2 (h _ (.head _))
    cases e1
    obtain ⟨a, b, r, e2, h2, _⟩ := rec_shp (m := m) (cs := [y, z, u]) rfl (h _ (.tail _ (.head _)))
    cases e2
    exact ⟨(t, a, b, r), rfl, h2⟩
theorem shp_ents {σ : H} {m : Nat} : ∀ {k : Nat} {xs : List AV}, xs.length = k * 4 → (∀ i, i < k → Shp Tryz.prog σ (m + 4) 27 ((xs.drop (i * 4)).take 4)) → ∃ l : List En, xs = ents l ∧ l.length = k ∧ IsEs σ l := by
  intro k
  induction k with
  | zero => intro xs hl _; exact ⟨[], by simpa [ents] using hl, rfl, IsEs.nil σ⟩
  | succ k ih =>
    intro xs hl h
    have h0 := h 0 (by omega)
    rw [Nat.zero_mul, List.drop_zero] at h0
    obtain ⟨e, e1, i1⟩ := ent_shp (by rw [List.length_take]; omega) h0
    obtain ⟨l, e2, hlen, i2⟩ := ih (xs := xs.drop 4) (by rw [List.length_drop]; omega) (fun i hi => by
      have := h (i + 1) (by omega)
      rw [List.drop_drop]
      rwa [show 4 + i * 4 = (i + 1) * 4 by omega])
    refine ⟨e :: l, ?_, by simp [hlen], fun x hx => ?_⟩
    · rw [ents, ← e2]
      conv => lhs; rw [← List.take_append_drop 4 xs, e1]
    · rcases List.mem_cons.1 hx with rfl | hx
      · exact i1
      · exact i2 x hx
theorem arg_ents {σ : H} {v : AV} (h : ArgShp Tryz.prog σ 9 36 v) : ∃ s l, v = .sl s l.length ∧ Rw σ 4 s l.length (ents l) ∧ IsEs σ l := by
  obtain ⟨s, m, xs, rfl, hr, hm, hx⟩ := arg_slice Tryz.underlying36 h
  have hr' : Rw σ 4 s m xs := hr
  obtain ⟨l, rfl, rfl, hi⟩ := shp_ents (m := 4) hr'.len hx
  exact ⟨s, l, rfl, hr', hi⟩

theorem newer_law {v1 v2 : List EnV} : (newerB v1 v2.length (termN v2 v2.length) || newerB v2 v1.length (termN v1 v1.length)) = true ∧
    ((newerB v1 v2.length (termN v2 v2.length) && newerB v2 v1.length (termN v1 v1.length)) = true → v1.length = v2.length ∧ termN v1 v1.length = termN v2 v2.length) := by
  unfold newerB
  generalize termN v1 v1.length = a
  generalize termN v2 v2.length = b
  generalize v1.length = x
  generalize v2.length = y
  constructor
  · simp only [Bool.or_eq_true, Bool.and_eq_true, decide_eq_true_eq]
    omega
  · simp only [Bool.or_eq_true, Bool.and_eq_true, decide_eq_true_eq]
    omega

attribute [local irreducible] IntKind.wrap Int.fdiv Int.tdiv Int.tmod BitVec.ofInt appendK sliceK indexAddrK ldK storeK seenK makeSliceK valsF lookupK updateK mapK
variable {D : Drawer}

end Go.Proofs.YthmdecfiijgaoaaGreat
