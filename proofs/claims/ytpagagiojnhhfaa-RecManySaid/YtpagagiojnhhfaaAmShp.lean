/- Arguments, told kind by kind. -/
import Derived.Test.YtpagagiojnhhfaaAmStep
import Derived.Test.YtpagagiojnhhfaaAmWord
namespace Go.AM.St
open Go Go.AM

section
variable {P : Program} {σ : H} {n : Nat} {t e : TypeId} {a : AV}

theorem args_cons {ts : List TypeId} {as : List AV} (h : ArgsShp P σ n (t :: ts) as) : ∃ a as', as = a :: as' ∧ ArgShp P σ n t a ∧ ArgsShp P σ n ts as' := by
  cases as with
  | nil => exact h.elim
  | cons a as => exact ⟨a, as, rfl, h.1, h.2⟩
theorem args_nil {as : List AV} (h : ArgsShp P σ n [] as) : as = [] := by
  cases as with
  | nil => rfl
  | cons a as => exact h.elim

theorem arg_int {k : IntKind} (ht : P.underlying t = some (.int k)) (h : ArgShp P σ (n + 1) t a) : ∃ i, a = .int k i ∧ k.min ≤ i ∧ i ≤ k.max := by
  unfold ArgShp Shp at h
  simp only [ht] at h
  obtain ⟨i, h1, h2⟩ := h
  simp only [Lit.wf, Bool.and_eq_true, decide_eq_true_eq] at h2
  exact ⟨i, by simpa using h1, h2.1, h2.2⟩
theorem arg_nat {k : IntKind} (hs : k.signed = false) (ht : P.underlying t = some (.int k)) (h : ArgShp P σ (n + 1) t a) : ∃ u : Nat, a = .int k (u : Int) ∧ u < 2 ^ k.bits := by
  obtain ⟨i, rfl, h1, h2⟩ := arg_int ht h
  refine ⟨i.toNat, ?_, ?_⟩
  · have : 0 ≤ i := by simpa [IntKind.min, hs] using h1
    rw [Int.toNat_of_nonneg this]
  · cases k <;> simp [IntKind.signed] at hs <;> simp [IntKind.min, IntKind.max, IntKind.signed, IntKind.bits] at h1 h2 ⊢ <;> omega
theorem arg_bool (ht : P.underlying t = some .bool) (h : ArgShp P σ (n + 1) t a) : ∃ b, a = .bool b := by
  unfold ArgShp Shp at h
  simp only [ht] at h
  obtain ⟨i, h1⟩ := h
  exact ⟨i, by simpa using h1⟩

theorem ints_bytesL (s : ByteArray) : ∃ bs : List Nat, bytesL s = ints bs ∧ (∀ b ∈ bs, b < 256) ∧ bs.length = s.size := by
  refine ⟨s.data.toList.map fun b => b.toNat, by simp [bytesL, ints], fun b hb => ?_, by simp⟩
  obtain ⟨x, _, rfl⟩ := List.mem_map.1 hb
  exact UInt8.toNat_lt x

theorem arg_str (ht : P.underlying t = some .string) (h : ArgShp P σ (n + 1) t a) : ∃ bs : List Nat, a = .str (ints bs) ∧ (∀ b ∈ bs, b < 256) ∧ bs.length ≤ maxLen := by
  unfold ArgShp Shp at h
  simp only [ht] at h
  obtain ⟨s, h1, h2⟩ := h
  obtain ⟨bs, e1, e2, e3⟩ := ints_bytesL s
  refine ⟨bs, ?_, e2, by omega⟩
  rw [← e1]
  simpa using h1

theorem shp_slice {cs : List AV} (ht : P.underlying t = some (.slice e)) (h : Shp P σ (n + 1) t cs) :
    ∃ s m xs, cs = [.sl s m] ∧ Rw σ (P.cellsOf e) s m xs ∧ m ≤ maxLen ∧ ∀ i, i < m → Shp P σ n e ((xs.drop (i * P.cellsOf e)).take (P.cellsOf e)) := by
  unfold Shp at h
  rw [ht] at h
  rcases h with h | h | ⟨id, m, xs, h1, h2, h3, h4, h5⟩
  · exact ⟨.nil, 0, [], h, Rw.nil _ _, Nat.zero_le _, fun i hi => absurd hi (Nat.not_lt_zero _)⟩
  · exact ⟨.zero, 0, [], h, Rw.zero _ _, Nat.zero_le _, fun i hi => absurd hi (Nat.not_lt_zero _)⟩
  · exact ⟨_, m, xs, h2, .inr (.inr ⟨id, 0, xs, .ro, rfl, h3, by omega, by rw [List.drop_zero, ← h4, List.take_length]⟩), h1, h5⟩

theorem arg_slice (ht : P.underlying t = some (.slice e)) (h : ArgShp P σ (n + 1) t a) :
    ∃ s m xs, a = .sl s m ∧ Rw σ (P.cellsOf e) s m xs ∧ m ≤ maxLen ∧ ∀ i, i < m → Shp P σ n e ((xs.drop (i * P.cellsOf e)).take (P.cellsOf e)) := by
  unfold ArgShp at h
  simp only [ht] at h
  obtain ⟨s, m, xs, h1, h2, h3, h4⟩ := shp_slice ht h
  exact ⟨s, m, xs, by simpa using h1, h2, h3, h4⟩

/-- A row of whole numbers. -/
theorem ints_row {k : IntKind} (he : P.underlying e = some (.int k)) : ∀ {m : Nat} {xs : List AV}, xs.length = m → (∀ i, i < m → Shp P σ (n + 1) e ((xs.drop (i * 1)).take 1)) →
    ∃ ys : List Int, xs = ys.map (AV.int k ·) ∧ ∀ y ∈ ys, k.min ≤ y ∧ y ≤ k.max := by
  intro m
  induction m with
  | zero => intro xs hl _; exact ⟨[], by simpa using List.length_eq_zero_iff.1 hl, fun y hy => by simp at hy⟩
  | succ m ih =>
    intro xs hl h
    cases xs with
    | nil => simp at hl
    | cons x xs =>
      obtain ⟨ys, rfl, hy⟩ := ih (xs := xs) (by simpa using hl) (fun i hi => by simpa using h (i + 1) (by omega))
      have h0 := h 0 (by omega)
      unfold Shp at h0
      rw [he] at h0
      obtain ⟨i, h1, h2⟩ := h0
      simp only [Lit.wf, Bool.and_eq_true, decide_eq_true_eq] at h2
      refine ⟨i :: ys, ?_, fun y hy' => ?_⟩
      · simp at h1
        rw [h1]; rfl
      · rcases List.mem_cons.1 hy' with rfl | hy'
        · exact h2
        · exact hy y hy'

theorem shp_ints {k : IntKind} {cs : List AV} (ht : P.underlying t = some (.slice e)) (he : P.underlying e = some (.int k)) (hc : P.cellsOf e = 1) (h : Shp P σ (n + 2) t cs) :
    ∃ (s : SA) (ys : List Int), cs = [.sl s ys.length] ∧ Rw σ 1 s ys.length (ys.map (AV.int k ·)) ∧ ys.length ≤ maxLen ∧ ∀ y ∈ ys, k.min ≤ y ∧ y ≤ k.max := by
  obtain ⟨s, m, xs, h1, h2, h3, h4⟩ := shp_slice ht h
  rw [hc] at h2 h4
  have hl := h2.len
  rw [Nat.mul_one] at hl
  obtain ⟨ys, rfl, hy⟩ := ints_row he hl h4
  rw [List.length_map] at hl
  subst hl
  exact ⟨s, ys, h1, h2, h3, hy⟩
theorem arg_ints {k : IntKind} (ht : P.underlying t = some (.slice e)) (he : P.underlying e = some (.int k)) (hc : P.cellsOf e = 1) (h : ArgShp P σ (n + 2) t a) :
    ∃ (s : SA) (ys : List Int), a = .sl s ys.length ∧ Rw σ 1 s ys.length (ys.map (AV.int k ·)) ∧ ys.length ≤ maxLen ∧ ∀ y ∈ ys, k.min ≤ y ∧ y ≤ k.max := by
  unfold ArgShp at h
  simp only [ht] at h
  obtain ⟨s, ys, h1, h2⟩ := shp_ints ht he hc h
  exact ⟨s, ys, by simpa using h1, h2⟩
theorem arg_bytes (ht : P.underlying t = some (.slice e)) (he : P.underlying e = some (.int .u8)) (hc : P.cellsOf e = 1) (h : ArgShp P σ (n + 2) t a) :
    ∃ (s : SA) (bs : List Nat), a = .sl s bs.length ∧ Rw σ 1 s bs.length (u8s bs) ∧ bs.length ≤ maxLen ∧ ∀ b ∈ bs, b < 256 := by
  obtain ⟨s, ys, h1, h2, h3, h4⟩ := arg_ints ht he hc h
  have key : ys = (ys.map Int.toNat).map fun (b : Nat) => (b : Int) := by
    rw [List.map_map]
    conv => lhs; rw [← List.map_id ys]
    refine List.map_congr_left fun y hy => ?_
    have := (h4 y hy).1
    simp only [IntKind.min, IntKind.signed] at this
    simp at this ⊢
    omega
  refine ⟨s, ys.map Int.toNat, by rw [List.length_map]; exact h1, ?_, by rw [List.length_map]; exact h3, fun b hb => ?_⟩
  · have e : ys.map (AV.int .u8 ·) = u8s (ys.map Int.toNat) := by
      conv => lhs; rw [key]
      simp [u8s]
    rw [List.length_map, ← e]
    exact h2
  · obtain ⟨y, hy, rfl⟩ := List.mem_map.1 hb
    have := h4 y hy
    simp [IntKind.min, IntKind.max, IntKind.signed, IntKind.bits] at this
    omega
end
end Go.AM.St
