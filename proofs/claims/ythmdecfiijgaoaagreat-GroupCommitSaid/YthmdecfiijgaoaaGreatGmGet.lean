/- RecAll. -/
import Derived.Test.YthmdecfiijgaoaaGreatGmRec
namespace Go.Proofs.YthmdecfiijgaoaaGreat
open Go Go.AM Go.AM.St
theorem same_rec (a b : SA) (r : RecP) : sameV (recV a b r) (recV a b r) = true := by simp [sameV, sameL, sameLeaf]
theorem recEq_self (r : RecP) : recEq r r = true := by unfold recEq; simp
theorem recEq_iff {r s : RecP} : recEq r s = true ↔ r = s := by
  constructor
  · intro h
    unfold recEq at h
    simp only [Bool.and_eq_true, decide_eq_true_eq] at h
    obtain ⟨⟨h1, h2⟩, h3⟩ := h
    cases r; cases s
    simp only at h1 h2 h3
    rw [h1, h2, h3]
  · intro h; rw [h]; exact recEq_self _
attribute [local irreducible] IntKind.wrap Int.fdiv Int.tdiv Int.tmod BitVec.ofInt appendK sliceK indexAddrK ldK storeK seenK makeSliceK
set_option maxRecDepth 100000
variable {D : Drawer}

theorem ldR {τ : H} {id : Nat} {a b : SA} {r : RecP} {md : Md} {K : AV → Bool} (h : τ[id]? = some (AO.cells [.int .i64 r.kind, .sl a r.nums.length, .sl b r.texts.length] 3 md)) (hK : K (recV a b r) = true) : ldK Tryz.prog 25 τ ⟨id, 0, 0, 3⟩ K = true := by
  refine ldS Tryz.underlying25 rfl h (Nat.le_refl 3) (Nat.le_refl 3) rfl ?_
  conv => lhs; whnf
  exact hK

theorem shp_int' {σ : H} {m : Nat} {t : TypeId} {k : IntKind} {cs : List AV} (ht : Tryz.prog.underlying t = some (.int k)) (h : Shp Tryz.prog σ (m + 1) t cs) : ∃ i, cs = [.int k i] ∧ k.min ≤ i ∧ i ≤ k.max := by
  unfold Shp at h
  rw [ht] at h
  obtain ⟨i, h1, h2⟩ := h
  simp only [Lit.wf, Bool.and_eq_true, decide_eq_true_eq] at h2
  exact ⟨i, h1, h2.1, h2.2⟩
theorem rec_shp {σ : H} {m : Nat} {cs : List AV} (hl : cs.length = 3) (h : Shp Tryz.prog σ (m + 3) 25 cs) : ∃ a b r, cs = [.int .i64 r.kind, .sl a r.nums.length, .sl b r.texts.length] ∧ IsR σ a b r ∧ OkR r := by
  match cs, hl with
  | [x, y, z], _ =>
    unfold Shp at h
    rw [Tryz.underlying25] at h
    have h1 := shp_int' (m := m + 1) (cs := [x]) Tryz.underlying3 (h _ (.head _))
    obtain ⟨k, e1, k1, k2⟩ := h1
    cases e1
    obtain ⟨a, ns, e2, n1, n2, n3⟩ := shp_ints (n := m) (cs := [y]) Tryz.underlying22 Tryz.underlying2 rfl (h _ (.tail _ (.head _)))
    cases e2
    obtain ⟨b, ts, e3, t1, t2, t3⟩ := shp_texts (n := m) (cs := [z]) Tryz.underlying23 Tryz.underlying9 rfl (h _ (.tail _ (.tail _ (.head _))))
    cases e3
    exact ⟨a, b, ⟨k, ns, ts⟩, rfl, ⟨n1, t1⟩, ⟨k1, k2, n3, n2, t3, t2⟩⟩
theorem rec_arg {σ : H} {v : AV} (h : ArgShp Tryz.prog σ 9 25 v) : ∃ a b r, v = recV a b r ∧ IsR σ a b r ∧ OkR r := by
  unfold ArgShp at h
  rw [Tryz.underlying25] at h
  obtain ⟨cs, rfl, hl, hs⟩ := h
  obtain ⟨a, b, r, rfl, h1, h2⟩ := rec_shp (m := 6) hl hs
  exact ⟨a, b, r, rfl, h1, h2⟩
end Go.Proofs.YthmdecfiijgaoaaGreat
