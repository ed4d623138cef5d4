/- Letters that are handed in; a node that is asked alone. -/
import Derived.Test.YthmdecfiijgaoaaGreatL20Y
import Derived.Test.YthmdecfiijgaoaaGreatAmMap
namespace Go.Proofs.YthmdecfiijgaoaaGreat
set_option maxRecDepth 100000
open Go Go.AM Go.AM.St
open Go.Raft (termAt fromL newer len upd)
theorem shp_bool' {σ : H} {m : Nat} {cs : List AV} (h : Shp Tryz.prog σ (m + 1) 4 cs) : ∃ b, cs = [.bool b] := by
  unfold Shp at h
  rw [Tryz.underlying4] at h
  exact h
theorem shp_es {σ : H} {m : Nat} {cs : List AV} (h : Shp Tryz.prog σ (m + 5) 36 cs) : ∃ s l, cs = [.sl s l.length] ∧ Rw σ 4 s l.length (ents l) ∧ IsEs σ l := by
  obtain ⟨s, k, xs, rfl, hr, _, hx⟩ := shp_slice (n := m + 4) Tryz.underlying36 h
  have hr' : Rw σ 4 s k xs := hr
  obtain ⟨l, rfl, rfl, hi⟩ := shp_ents (m := m) hr'.len hx
  exact ⟨s, l, rfl, hr', hi⟩
theorem lt_shp {σ : H} {m : Nat} {cs : List AV} (hl : cs.length = 9) (h : Shp Tryz.prog σ (m + 6) 46 cs) : ∃ x : Lm × AM.SA, cs = lc x ∧ IsLt σ x := by
  match cs, hl with
  | [c0, c1, c2, c3, c4, c5, c6, c7, c8], _ =>
    unfold Shp at h
    rw [Tryz.underlying46] at h
    obtain ⟨i0, e0, _, _⟩ := shp_int' (m := m + 4) (cs := [c0]) Tryz.underlying3 (h _ (.head _))
    obtain ⟨i1, e1, _, _⟩ := shp_int' (m := m + 4) (cs := [c1]) Tryz.underlying3 (h _ (.tail _ (.head _)))
    obtain ⟨i2, e2, _, _⟩ := shp_int' (m := m + 4) (cs := [c2]) Tryz.underlying3 (h _ (.tail _ (.tail _ (.head _))))
    obtain ⟨i3, e3, _, _⟩ := shp_int' (m := m + 4) (cs := [c3]) Tryz.underlying2 (h _ (.tail _ (.tail _ (.tail _ (.head _)))))
    obtain ⟨i4, e4, _, _⟩ := shp_int' (m := m + 4) (cs := [c4]) Tryz.underlying2 (h _ (.tail _ (.tail _ (.tail _ (.tail _ (.head _))))))
    obtain ⟨i5, e5, _, _⟩ := shp_int' (m := m + 4) (cs := [c5]) Tryz.underlying2 (h _ (.tail _ (.tail _ (.tail _ (.tail _ (.tail _ (.head _)))))))
    obtain ⟨i6, e6, _, _⟩ := shp_int' (m := m + 4) (cs := [c6]) Tryz.underlying2 (h _ (.tail _ (.tail _ (.tail _ (.tail _ (.tail _ (.tail _ (.head _))))))))
    obtain ⟨i7, e7⟩ := shp_bool' (m := m + 4) (cs := [c7]) (h _ (.tail _ (.tail _ (.tail _ (.tail _ (.tail _ (.tail _ (.tail _ (.head _)))))))))
    obtain ⟨s, V, e8, r8, v8⟩ := shp_es (m := m) (cs := [c8]) (h _ (.tail _ (.tail _ (.tail _ (.tail _ (.tail _ (.tail _ (.tail _ (.tail _ (.head _))))))))))
    cases e0; cases e1; cases e2; cases e3; cases e4; cases e5; cases e6; cases e7; cases e8
    refine ⟨(⟨i0, i1, i2, i3, i4, i5, i6, i7, vals V⟩, s), ?_, V, rfl, r8, v8⟩
    show _ = lc _
    unfold lc
    rw [show (vals V).length = V.length from vals_len V]
theorem shp_lts {σ : H} {m : Nat} : ∀ {k : Nat} {xs : List AV}, xs.length = k * 9 → (∀ i, i < k → Shp Tryz.prog σ (m + 6) 46 ((xs.drop (i * 9)).take 9)) → ∃ l : List (Lm × AM.SA), xs = l.flatMap lc ∧ l.length = k ∧ ∀ x ∈ l, IsLt σ x := by
  intro k
  induction k with
  | zero => intro xs hl _; exact ⟨[], by simpa using hl, rfl, fun x h => by cases h⟩
  | succ k ih =>
    intro xs hl h
    have h0 := h 0 (by omega)
    rw [Nat.zero_mul, List.drop_zero] at h0
    obtain ⟨e, e1, i1⟩ := lt_shp (by rw [List.length_take]; omega) h0
    obtain ⟨l, e2, hlen, i2⟩ := ih (xs := xs.drop 9) (by rw [List.length_drop]; omega) (fun i hi => by
      have := h (i + 1) (by omega)
      rw [List.drop_drop]
      rwa [show 9 + i * 9 = (i + 1) * 9 by omega])
    refine ⟨e :: l, ?_, by simp [hlen], fun x hx => ?_⟩
    · rw [List.flatMap_cons, ← e2]
      conv => lhs; rw [← List.take_append_drop 9 xs, e1]
    · rcases List.mem_cons.1 hx with rfl | hx
      · exact i1
      · exact i2 x hx
theorem arg_lts {σ : H} {v : AV} (h : ArgShp Tryz.prog σ 9 38 v) : ∃ (s : AM.SA) (l : List (Lm × AM.SA)), v = .sl s l.length ∧ Rw σ 9 s l.length (l.flatMap lc) ∧ ∀ x ∈ l, IsLt σ x := by
  obtain ⟨s, m, xs, rfl, hr, hm, hx⟩ := arg_slice Tryz.underlying38 h
  have hr' : Rw σ 9 s m xs := hr
  obtain ⟨l, rfl, rfl, hi⟩ := shp_lts (m := 2) hr'.len hx
  exact ⟨s, l, rfl, hr', hi⟩
theorem bools_row {σ : H} {n : Nat} : ∀ {m : Nat} {xs : List AV}, xs.length = m → (∀ i, i < m → Shp Tryz.prog σ (n + 1) 4 ((xs.drop (i * 1)).take 1)) → ∃ ys : List Bool, xs = ys.map AV.bool := by
  intro m
  induction m with
  | zero => intro xs hl _; exact ⟨[], by simpa using List.length_eq_zero_iff.1 hl⟩
  | succ m ih =>
    intro xs hl h
    cases xs with
    | nil => simp at hl
    | cons x xs =>
      obtain ⟨ys, rfl⟩ := ih (xs := xs) (by simpa using hl) (fun i hi => by simpa using h (i + 1) (by omega))
      obtain ⟨b, h1⟩ := shp_bool' (h 0 (by omega))
      refine ⟨b :: ys, ?_⟩
      simp at h1
      rw [h1]; rfl
theorem arg_bools {σ : H} {v : AV} (h : ArgShp Tryz.prog σ 9 39 v) : ∃ (s : AM.SA) (l : List Bool), v = .sl s l.length ∧ Rw σ 1 s l.length (l.map AV.bool) := by
  obtain ⟨s, m, xs, rfl, hr, hm, hx⟩ := arg_slice Tryz.underlying39 h
  have hr' : Rw σ 1 s m xs := hr
  have hl := hr'.len
  rw [Nat.mul_one] at hl
  obtain ⟨l, rfl⟩ := bools_row (n := 7) hl hx
  rw [List.length_map] at hl
  subst hl
  exact ⟨s, l, rfl, hr'⟩
theorem lts_at : ∀ {l : List (Lm × AM.SA)} {i : Nat} (h : i < l.length), ((l.flatMap lc).drop (i * 9)).take 9 = lc l[i]
  | x :: l, 0, _ => by
    rw [List.flatMap_cons, Nat.zero_mul, List.drop_zero, List.take_append_of_le_length (Nat.le_refl 9)]
    rfl
  | x :: l, i + 1, h => by
    rw [List.flatMap_cons, show (i + 1) * 9 = (lc x).length + i * 9 by rw [lc_len]; omega, ← List.drop_drop, List.drop_append_of_le_length (Nat.le_refl _), List.drop_length, List.nil_append]
    exact lts_at (Nat.lt_of_succ_lt_succ h)
theorem idxLt {σ : H} {s : AM.SA} {l : List (Lm × AM.SA)} {n : Nat} (hs : Rw σ 9 s n (l.flatMap lc)) {k : IntKind} {y : Int} {i : Nat} {K : AV → Bool} (hn : n = l.length) (hy : y = (i : Int)) (hi : i < l.length)
    (hK : ∀ p, Elem σ 9 p (lc l[i]) → K (.ptr (some p)) = true) : indexAddrK Tryz.prog 38 (.sl s n) (.int k y) K = true :=
  indexAddrK_rw Tryz.underlying38 (fun _ => rfl) hs hy (by omega) (lts_at hi) hK
theorem ldLtE {σ : H} {p : PA} {x : Lm × AM.SA} {K : AV → Bool} (hp : Elem σ 9 p (lc x)) (hK : K (.agg (lc x)) = true) : ldK Tryz.prog 46 σ p K = true := by
  obtain ⟨id, b, d, z⟩ := p
  obtain ⟨h1, h2, xs, md, h3, h4, h5⟩ := hp
  simp only at h1 h2 h3 h4 h5
  subst h1 h2
  refine ldS Tryz.underlying46 rfl h3 (Nat.le_refl 9) h4 h5 ?_
  conv => lhs; whnf
  exact hK
theorem idxBl {σ : H} {s : AM.SA} {l : List Bool} {n : Nat} (hs : Rw σ 1 s n (l.map AV.bool)) {k : IntKind} {y : Int} {i : Nat} {K : AV → Bool} (hn : n = l.length) (hy : y = (i : Int)) (hi : i < l.length)
    (hK : ∀ p, Elem σ 1 p [.bool l[i]] → K (.ptr (some p)) = true) : indexAddrK Tryz.prog 39 (.sl s n) (.int k y) K = true :=
  indexAddrK_rw (z := 1) (es := [.bool l[i]]) Tryz.underlying39 (fun _ => rfl) hs hy (by omega) (by rw [Nat.mul_one, ← List.map_drop, List.drop_eq_getElem_cons hi]; rfl) hK
theorem ldBlE {σ : H} {p : PA} {x : Bool} {K : AV → Bool} (hp : Elem σ 1 p [.bool x]) (hK : K (.bool x) = true) : ldK Tryz.prog 4 σ p K = true := by
  obtain ⟨id, b, d, z⟩ := p
  obtain ⟨h1, h2, xs, md, h3, h4, h5⟩ := hp
  simp only at h1 h2 h3 h4 h5
  subst h1 h2
  refine ldF (v := .bool x) Tryz.underlying4 rfl rfl h3 ?_ ?_
  · have : ((xs.drop b).take 1)[0]? = some (AV.bool x) := by rw [h5]; rfl
    rw [List.getElem?_take_of_lt (by decide), List.getElem?_drop] at this
    exact this
  · exact hK
/-- The keys and values of a map of terms. -/
abbrev encT (x : Int) : AV := .int .i64 x
theorem intT : KT Tryz.prog 2 encT where
  ok := by kernel_rfl
  cast k K := by
    unfold castT
    rw [Tryz.underlying2]
    rfl
  eq a b := by
    show some _ = some _
    congr 1
end Go.Proofs.YthmdecfiijgaoaaGreat
