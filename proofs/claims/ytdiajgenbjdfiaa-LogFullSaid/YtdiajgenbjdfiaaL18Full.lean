/- LogFull. -/
import Derived.Test.YtdiajgenbjdfiaaL18Again
set_option maxRecDepth 100000
namespace Go.Proofs.Ytdiajgenbjdfiaa
open Go Go.AM Go.AM.St
theorem mod12 (x : Int) : ∃ N : Nat, 1990 ≤ N ∧ N ≤ 2001 ∧ IntKind.i64.wrap (1990 + (IntKind.i64.wrap (x.tmod 12 + 12)).tmod 12) = (N : Int) := by
  have h1 : -12 < x.tmod 12 ∧ x.tmod 12 < 12 := by
    have a := Int.tmod_lt_of_pos x (b := 12) (by decide)
    have b := Int.tmod_lt_of_pos (-x) (b := 12) (by decide)
    rw [Int.neg_tmod] at b
    omega
  rw [wrap_i64 (x := x.tmod 12 + 12) (by omega) (by omega)]
  have h2 : 0 ≤ (x.tmod 12 + 12).tmod 12 := Int.tmod_nonneg 12 (by omega)
  have h3 : (x.tmod 12 + 12).tmod 12 < 12 := Int.tmod_lt_of_pos _ (by decide)
  refine ⟨(1990 + (x.tmod 12 + 12).tmod 12).toNat, by omega, by omega, ?_⟩
  rw [wrap_i64 (by omega) (by omega)]
  omega
theorem mod15 (x : Int) : ∃ c : Nat, c ≤ 14 ∧ (IntKind.i64.wrap (x.tmod 15 + 15)).tmod 15 = (c : Int) := by
  have h1 : -15 < x.tmod 15 ∧ x.tmod 15 < 15 := by
    have a := Int.tmod_lt_of_pos x (b := 15) (by decide)
    have b := Int.tmod_lt_of_pos (-x) (b := 15) (by decide)
    rw [Int.neg_tmod] at b
    omega
  rw [wrap_i64 (x := x.tmod 15 + 15) (by omega) (by omega)]
  have h2 : 0 ≤ (x.tmod 15 + 15).tmod 15 := Int.tmod_nonneg 15 (by omega)
  have h3 : (x.tmod 15 + 15).tmod 15 < 15 := Int.tmod_lt_of_pos _ (by decide)
  exact ⟨((x.tmod 15 + 15).tmod 15).toNat, by omega, by omega⟩
theorem ents_rep (e : En) : ∀ n : Nat, (List.replicate n (enCells e)).flatten = ents (List.replicate n e)
  | 0 => rfl
  | n + 1 => by rw [List.replicate_succ, List.replicate_succ, List.flatten_cons, ents, ents_rep e n]
theorem make22 {y : Int} {n : Nat} {σ : H} {K : AV → H → Bool} (hy : y = (n : Int)) (h0 : 0 < n) (hn : n ≤ 10000) (hK : K (.sl (.at σ.length 0 4) n) (σ ++ [AO.cells (ents (List.replicate n (oneE 0))) 4 .own]) = true) :
    makeSliceK Try.prog 22 (.int .i64 y) (.int .i64 y) σ K = true := by
  subst hy
  obtain ⟨ie, hi, g1, g2⟩ : ∃ ie, Try.prog.info? 39 = some ie ∧ ie.size = 4 ∧ ie.bytes = 64 := ⟨_, rfl, rfl, rfl⟩
  unfold makeSliceK
  rw [Try.underlying22]
  simp only
  rw [hi]
  simp only
  refine bif_pos ?_ ?_
  · rw [g1, g2]
    simp only [Bool.and_eq_true, decide_eq_true_eq, Bool.not_eq_true', beq_eq_false_iff_ne]
    omega
  · rw [show ∀ K, zeroK Try.prog 39 K = K (.agg (enCells (oneE 0))) from fun _ => rfl, g1]
    refine bif_pos rfl (bif_neg (by simp; omega) ?_)
    rw [show (AV.agg (enCells (oneE 0))).cells = enCells (oneE 0) from rfl, Int.toNat_natCast, ents_rep]
    exact hK
theorem ents_setK : ∀ {V : List En} {i : Nat} (h : i < V.length) (x : Int), (ents V).set (i * 4) (.int .i64 x) = ents (V.set i (x, V[i].2))
  | e :: V, 0, _, a => rfl
  | e :: V, i + 1, h, a => by
    have := ents_setK (V := V) (i := i) (by simpa using h) a
    rw [List.set_cons_succ, ents, ents, List.getElem_cons_succ, ← this]
    rw [show (i + 1) * 4 = (i * 4) + 1 + 1 + 1 + 1 by omega]
    rfl
theorem stTerm {V : List En} {i : Nat} (hi : i < V.length) {σ : H} {id : Nat} {x : Int} (hr : σ[id]? = some (AO.cells (ents V) 4 .own)) {K : H → Bool}
    (hK : K (σ.set id (AO.cells (ents (V.set i (x, V[i].2))) 4 .own)) = true) : storeK Try.prog 2 (.ptr (some ⟨id, i * 4, 0, 4⟩)) (.int .i64 x) σ K = true := by
  obtain ⟨ie, hie, g1⟩ : ∃ ie, Try.prog.info? 2 = some ie ∧ ie.size = 1 := ⟨_, rfl, rfl⟩
  refine storeK_of hie g1 (by decide) hr rfl (by rw [ents_len]; omega) ?_
  rw [Nat.add_zero, ents_setK hi]
  exact hK
/-- Entries without a record. -/
def Bare (V : List En) : Prop := ∀ e ∈ V, e.2 = (.nil, .nil, ⟨0, [], []⟩)
theorem Bare.es {V : List En} (h : Bare V) (σ : H) : IsEs σ V := fun e he => by rw [h e he]; exact ⟨Rw.nil _ _, Rw.nil _ _⟩
theorem Bare.small {V : List En} (h : Bare V) : Small (vals V) := fun e he => by
  obtain ⟨x, hx, rfl⟩ := List.mem_map.1 he
  show x.2.2.2.nums.length ≤ 45 ∧ x.2.2.2.texts.length ≤ 45
  rw [h x hx]
  exact ⟨Nat.zero_le _, Nat.zero_le _⟩
theorem Bare.set {V : List En} (h : Bare V) {i : Nat} (hi : i < V.length) (x : Int) : Bare (V.set i (x, V[i].2)) := fun e he => by
  rcases List.mem_or_eq_of_mem_set he with he | rfl
  · exact h e he
  · exact h V[i] (List.getElem_mem hi)
theorem Bare.take {V : List En} (h : Bare V) (i : Nat) : Bare (V.take i) := fun e he => h e (List.mem_of_mem_take he)
attribute [local irreducible] IntKind.wrap Int.fdiv Int.tdiv Int.tmod BitVec.ofInt appendK sliceK indexAddrK ldK storeK seenK makeSliceK valsF lookupK updateK mapK
variable {D : Drawer}

/-- Put at the end. -/
theorem lput_end {n B : Nat} {y t : Int} {s : SA} {V L : List En} (hn : 2100 ≤ n) (hy : y = (V.length : Int)) (ht : t = termN (vals V) V.length) (hV : V.length ≤ 2000) (hl : L.length ≤ 20) (hD : ByPlan Try.prog D) {σ : H}
    {o : Option Nat} {a0 : SA} (hB : σ[B]? = some (AO.cells [.sl a0 V.length] 1 .own)) (ho : Own [] σ 4 o a0 V.length (ents V)) (hVi : IsEs σ V) (hs : Rw σ 4 s L.length (ents L)) (hi : IsEs σ L) (hsm : Small (vals L)) {K : AV → H → Bool}
    (hK : ∀ σ' z u V' o' a', Keeps σ σ' → σ'[B]? = some (AO.cells [.sl a' V'.length] 1 .own) → Own [] σ' 4 o' a' V'.length (ents V') → IsEs σ' V' → V'.length = (if V.length + L.length ≤ 2000 then V.length + L.length else V.length) → K (.tup [.int .i64 z, .int .i64 u, .bool (decide (V.length + L.length ≤ 2000))]) σ' = true) :
    acall Try.prog tab D n 16 [.ptr (some ⟨B, 0, 0, 1⟩), .int .i64 y, .int .i64 t, .sl s L.length] σ K = true := by
  have off : ∀ i, ¬ on (vals V) (vals L) V.length i := fun i h => by have := h.1; rw [vals_len] at this; omega
  refine lput_spec hn hy (Nat.le_refl _) ht (by omega) (by omega) hD hB ho.rw hVi hs hi hsm (fun σ' h1 h2 => ?_) (fun σ' h1 i _ _ _ h5 => ?_) (fun σ' i V' a' hil hon hoff hle kp b' ⟨o', r'⟩ i' v' => ?_)
  · have h0 : L.length = 0 := by
      by_cases h : L.length = 0
      · exact h
      · exact absurd (h2 0 (by omega)) (off 0)
    have := hK σ' 0 ((V.length + L.length : Nat) : Int) V o a0 (Keeps.of h1) (prefix_get h1 hB) (ho.mono h1) (hVi.mono h1) (by split <;> omega)
    rw [decide_eq_true (by omega)] at this
    exact this
  · have := hK σ' 0 0 V o a0 (Keeps.of h1) (prefix_get h1 hB) (ho.mono h1) (hVi.mono h1) (by rw [if_neg (by omega)])
    rw [decide_eq_false (by omega)] at this
    exact this
  · have h0 : i = 0 := by
      by_cases h : i = 0
      · exact h
      · exact absurd (hon 0 (by omega)) (off 0)
    subst h0
    have := hK σ' ((V.length + 0 + 1 : Nat) : Int) ((V.length + L.length : Nat) : Int) V' o' a' kp b' r' i' (by rw [if_pos hle, ← vals_len, v', List.length_append, List.length_take, List.length_drop, vals_len, vals_len]; omega)
    rw [decide_eq_true hle] at this
    exact this

theorem add_spec {n B : Nat} {s : SA} {V L : List En} (hn : 2100 ≤ n) (hV : V.length ≤ 2500) (hl : L.length ≤ 20) (hD : ByPlan Try.prog D) {σ : H}
    {o : Option Nat} {a0 : SA} (hB : σ[B]? = some (AO.cells [.sl a0 V.length] 1 .own)) (ho : Own [] σ 4 o a0 V.length (ents V)) (hs : Rw σ 4 s L.length (ents L)) (hi : IsEs σ L) (hsm : Small (vals L)) {K : AV → H → Bool}
    (hK : ∀ σ', K (.bool (decide (V.length + L.length ≤ 2000))) σ' = true) :
    acall Try.prog tab D n 30 [.ptr (some ⟨B, 0, 0, 1⟩), .sl s L.length] σ K = true := by
  obtain ⟨n, rfl, hn⟩ := up hn
  conv => lhs; whnf
  refine ldL hB ?_
  conv => lhs; whnf
  by_cases h : V.length + L.length ≤ 2000
  · rw [decide_eq_true h] at hK
    refine bif_neg (by rw [wrap_i64 (by omega) (by omega)]; simp; omega) ?_
    conv => lhs; whnf
    refine hD.go plan30x3 ord30x3 ?_
    conv => lhs; whnf
    refine ldL hB ?_
    conv => lhs; whnf
    refine own_spec (by omega) (by omega) hD hs hi hsm fun o5 a5 W5 τ5 p5 i5 v5 w5 => ?_
    have lt5 : W5.length = L.length := by rw [← vals_len, v5, vals_len]
    conv => lhs; whnf
    refine and_true (all_cons ?_ rfl) ?_
    · conv => lhs; whnf
      refine ldL (prefix_get p5 hB) ?_
      exact same_sl _ _
    conv => lhs; whnf
    refine appendK_ext Try.underlying22 rfl rfl rfl List.nil_prefix (ho.mono p5) w5.rw (N := (V ++ W5).length) (zs := ents (V ++ W5)) List.length_append.symm (ents_app _ _) ?_ fun o6 a6 τ6 p6 k6 _ _ x6 w6 => ?_
    · show _ * 64 ≤ _
      rw [List.length_append]; omega
    have g6 : τ6[B]? = some (AO.cells [.sl a0 V.length] 1 .own) := by
      refine k6 B _ (fun e => ?_) (prefix_get p5 hB)
      cases o with
      | none => cases e
      | some id =>
        cases e
        obtain ⟨off, xs, md, _, _, h3, _⟩ := ho
        rw [hB] at h3
        cases h3
    conv => lhs; whnf
    refine storeL g6 ?_
    conv => lhs; whnf
    exact hK _
  · rw [decide_eq_false h] at hK
    refine bif_pos (by rw [wrap_i64 (by omega) (by omega)]; simp; omega) ?_
    conv => lhs; whnf
    exact hK σ

end Go.Proofs.Ytdiajgenbjdfiaa
