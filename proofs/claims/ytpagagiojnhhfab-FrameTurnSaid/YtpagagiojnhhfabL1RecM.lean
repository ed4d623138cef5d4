/- RecMany. -/
import Derived.Test.YtpagagiojnhhfabL1RecA
import Derived.Test.YtpagagiojnhhfabGmStep
namespace Go.Proofs.Ytpagagiojnhhfab
open Go Go.AM Go.AM.St

/-- A record in a row: its slices, and what they read. -/
abbrev El := SA × SA × RecP
abbrev elCells (e : El) : List AV := [.int .i64 e.2.2.kind, .sl e.1 e.2.2.nums.length, .sl e.2.1 e.2.2.texts.length]
def recs : List El → List AV
  | [] => []
  | e :: l => elCells e ++ recs l
theorem recs_len : ∀ l : List El, (recs l).length = l.length * 3
  | [] => rfl
  | e :: l => by rw [recs, List.length_append, recs_len l, List.length_cons]; simp; omega
theorem recs_app : ∀ (a b : List El), recs a ++ recs b = recs (a ++ b)
  | [], _ => rfl
  | e :: l, b => by rw [recs, List.append_assoc, recs_app l b]; rfl
theorem recs_at : ∀ {l : List El} {i : Nat} (h : i < l.length), ((recs l).drop (i * 3)).take 3 = elCells l[i]
  | e :: l, 0, _ => rfl
  | e :: l, i + 1, h => by
    have := recs_at (l := l) (i := i) (by simpa using h)
    rw [recs, List.drop_append, List.drop_eq_nil_of_le (by simp; omega), List.nil_append]
    rw [show (i + 1) * 3 - (elCells e).length = i * 3 by simp; omega]
    exact this
def IsRs (σ : H) (l : List El) : Prop := ∀ e ∈ l, IsR σ e.1 e.2.1 e.2.2
theorem IsRs.nil (σ : H) : IsRs σ [] := fun e he => by cases he
theorem IsRs.mono {σ σ' : H} {l : List El} (h : IsRs σ l) (hp : σ <+: σ') : IsRs σ' l := fun e he => (h e he).mono hp
theorem IsRs.ext {σ σ' : H} {l : List El} (h : IsRs σ l) (hp : Ext σ σ') : IsRs σ' l := fun e he => ⟨Rw.ext (h e he).nums hp, Rw.ext (h e he).texts hp⟩
def encW : List El → List Nat
  | [] => []
  | e :: l => putR e.2.2 ++ encW l
theorem encW_snoc : ∀ (l : List El) (e : El), encW (l ++ [e]) = encW l ++ putR e.2.2
  | [], e => by simp [encW]
  | x :: l, e => by rw [List.cons_append, encW, encW, encW_snoc l e, List.append_assoc]
theorem encW_len : ∀ l : List El, (∀ e ∈ l, mayR e.2.2 = true) → (encW l).length ≤ 9000 * l.length
  | [], _ => Nat.le_refl _
  | e :: l, h => by
    have := putR_len (h e List.mem_cons_self)
    have := encW_len l fun x hx => h x (List.mem_cons_of_mem _ hx)
    rw [encW, List.length_append, List.length_cons]
    omega
theorem encW_lt : ∀ l : List El, (∀ e ∈ l, OkR e.2.2) → ∀ b ∈ encW l, b < 256
  | [], _, b, h => by cases h
  | e :: l, hl, b, h => (List.mem_append.1 h).elim (putR_lt (fun t ht => ((hl e List.mem_cons_self).ts t ht).1) b) (encW_lt l (fun x hx => hl x (List.mem_cons_of_mem _ hx)) b)
theorem putR_pos (r : RecP) : 0 < (putR r).length := by
  have := enc_pos' (zigN r.kind)
  unfold putR
  simp only [List.length_append]
  omega
theorem Own.other {σ0 σ1 σ : H} {z z' n n' : Nat} {o o' : Option Nat} {a a' : SA} {cs cs' : List AV} (h : Own σ0 σ z o a n cs) (h' : Own σ1 σ z' o' a' n' cs') (hz : z ≠ z') : o = none ∨ o ≠ o' := by
  cases o with
  | none => exact .inl rfl
  | some id =>
    refine .inr fun e => ?_
    subst e
    obtain ⟨off, xs, md, _, _, h3, _⟩ := h
    obtain ⟨off', xs', md', _, _, h3', _⟩ := h'
    rw [h3] at h3'
    cases h3'
    exact hz rfl
theorem shp_recs {σ : H} {m : Nat} : ∀ {k : Nat} {xs : List AV}, xs.length = k * 3 → (∀ i, i < k → Shp Try.prog σ (m + 3) 25 ((xs.drop (i * 3)).take 3)) → ∃ l : List El, xs = recs l ∧ l.length = k ∧ IsRs σ l ∧ ∀ e ∈ l, OkR e.2.2 := by
  intro k
  induction k with
  | zero => intro xs hl _; exact ⟨[], by simpa [recs] using hl, rfl, IsRs.nil σ, fun e he => by cases he⟩
  | succ k ih =>
    intro xs hl h
    have h0 := h 0 (by omega)
    rw [Nat.zero_mul, List.drop_zero] at h0
    obtain ⟨a, b, r, e1, i1, o1⟩ := rec_shp (by rw [List.length_take]; omega) h0
    obtain ⟨l, e2, hlen, i2, o2⟩ := ih (xs := xs.drop 3) (by rw [List.length_drop]; omega) (fun i hi => by
      have := h (i + 1) (by omega)
      rw [List.drop_drop]
      rwa [show 3 + i * 3 = (i + 1) * 3 by omega])
    refine ⟨(a, b, r) :: l, ?_, by simp [hlen], fun e he => ?_, fun e he => ?_⟩
    · rw [recs, ← e2]
      conv => lhs; rw [← List.take_append_drop 3 xs, e1]
    · rcases List.mem_cons.1 he with rfl | he
      · exact i1
      · exact i2 e he
    · rcases List.mem_cons.1 he with rfl | he
      · exact o1
      · exact o2 e he
attribute [local irreducible] IntKind.wrap Int.fdiv Int.tdiv Int.tmod BitVec.ofInt appendK sliceK indexAddrK ldK storeK seenK makeSliceK
set_option maxRecDepth 100000
variable {D : Drawer}

theorem idx60 {σ : H} {s : SA} {l : List El} (hs : Rw σ 3 s l.length (recs l)) {k : IntKind} {y : Int} {i : Nat} {K : AV → Bool} (hy : y = (i : Int)) (hi : i < l.length) (hK : ∀ p, Elem σ 3 p (elCells l[i]) → K (.ptr (some p)) = true) :
    indexAddrK Try.prog 35 (.sl s l.length) (.int k y) K = true := indexAddrK_rw Try.underlying35 (fun _ => rfl) hs hy hi (recs_at hi) hK
theorem ldE {σ : H} {p : PA} {e : El} {K : AV → Bool} (hp : Elem σ 3 p (elCells e)) (hK : K (recV e.1 e.2.1 e.2.2) = true) : ldK Try.prog 25 σ p K = true := by
  refine ldK_struct Try.underlying25 rfl rfl hp ?_
  conv => lhs; whnf
  exact hK

end Go.Proofs.Ytpagagiojnhhfab
