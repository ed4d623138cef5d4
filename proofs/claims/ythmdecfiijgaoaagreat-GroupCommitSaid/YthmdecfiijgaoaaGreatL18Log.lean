/- Package log: New, Len, Term, Newer. -/
import Derived.Test.YthmdecfiijgaoaaGreatL18Own
namespace Go.Proofs.YthmdecfiijgaoaaGreat
open Go Go.AM Go.AM.St

/-- A log's cell. -/
def IsLog (σ : H) (B : Nat) (V : List En) : Prop := ∃ a md, σ[B]? = some (AO.cells [.sl a V.length] 1 md) ∧ Rw σ 4 a V.length (ents V) ∧ IsEs σ V
theorem IsLog.mono {σ σ' : H} {B : Nat} {V : List En} (h : IsLog σ B V) (hp : σ <+: σ') : IsLog σ' B V := by
  obtain ⟨a, md, h1, h2, h3⟩ := h
  exact ⟨a, md, prefix_get hp h1, h2.mono hp, h3.mono hp⟩
def termN (l : List EnV) : Nat → Int
  | 0 => 0
  | i + 1 => ((l[i]?).map (·.1)).getD 0
theorem vals_take (l : List En) (i : Nat) : vals (l.take i) = (vals l).take i := by unfold vals; rw [List.map_take]
theorem vals_drop (l : List En) (i : Nat) : vals (l.drop i) = (vals l).drop i := by unfold vals; rw [List.map_drop]
theorem IsEs.take {σ : H} {l : List En} (h : IsEs σ l) (i : Nat) : IsEs σ (l.take i) := fun e he => h e (List.mem_of_mem_take he)
theorem IsEs.drop {σ : H} {l : List En} (h : IsEs σ l) (i : Nat) : IsEs σ (l.drop i) := fun e he => h e (List.mem_of_mem_drop he)
theorem Small.take {l : List EnV} (h : Small l) (i : Nat) : Small (l.take i) := fun e he => h e (List.mem_of_mem_take he)
theorem Small.drop {l : List EnV} (h : Small l) (i : Nat) : Small (l.drop i) := fun e he => h e (List.mem_of_mem_drop he)
theorem cutE_small (l : List EnV) : Small (cutE l) := fun e he => by
  obtain ⟨x, _, rfl⟩ := List.mem_map.1 he
  constructor
  · show (x.2.nums.take 45).length ≤ _
    rw [List.length_take]; omega
  · show (x.2.texts.take 45).length ≤ _
    rw [List.length_take]; omega
theorem cutE_len (l : List EnV) : (cutE l).length ≤ 12 := by unfold cutE; rw [List.length_map, List.length_take]; omega

set_option maxRecDepth 100000
/-- A part of entries. -/
theorem slice22 {σ : H} {s : SA} {l : List En} (hs : Rw σ 4 s l.length (ents l)) {lo hi : Option AV} (i j : Nat) {K : AV → Bool} (hlo : Bd lo 0 i) (hhi : Bd hi l.length j) (h1 : i ≤ j) (h2 : j ≤ l.length)
    (hK : ∀ a', Rw σ 4 a' ((l.take j).drop i).length (ents ((l.take j).drop i)) → K (.sl a' ((l.take j).drop i).length) = true) : sliceK Tryz.prog 36 (.sl s l.length) lo hi none K = true :=
  sliceK_rw (z := 4) Tryz.underlying36 (fun _ => rfl) hs hlo hhi h1 h2 (by rw [List.length_drop, List.length_take]; omega) (by rw [ents_take, ents_drop]) hK

attribute [local irreducible] IntKind.wrap Int.fdiv Int.tdiv Int.tmod BitVec.ofInt appendK sliceK indexAddrK ldK storeK seenK makeSliceK valsF lookupK updateK mapK
variable {D : Drawer}

theorem ldL {σ : H} {B m : Nat} {a : SA} {md : Md} (h : σ[B]? = some (AO.cells [.sl a m] 1 md)) {K : AV → Bool} (hK : K (.sl a m) = true) : ldK Tryz.prog 36 σ ⟨B, 0, 0, 1⟩ K = true :=
  ldF Tryz.underlying36 rfl rfl h rfl (by unfold castT; rw [Tryz.underlying36]; exact hK)

theorem len_spec {n B : Nat} {V : List En} (hn : 1 ≤ n) {σ : H} (hL : IsLog σ B V) {K : AV → H → Bool} (hK : K (.int .i64 (V.length : Int)) σ = true) : acall Tryz.prog tab D n 70 [.ptr (some ⟨B, 0, 0, 1⟩)] σ K = true := by
  obtain ⟨n, rfl, hn⟩ := up hn
  obtain ⟨a, md, h1, h2, h3⟩ := hL
  conv => lhs; whnf
  refine ldL h1 ?_
  conv => lhs; whnf
  exact hK

theorem term_spec {n B i : Nat} {y : Int} {V : List En} (hn : 2 ≤ n) (hy : y = (i : Int)) (hi : i ≤ V.length) (hV : V.length ≤ 10000) {σ : H} (hL : IsLog σ B V) {K : AV → H → Bool} (hK : K (.int .i64 (termN (vals V) i)) σ = true) :
    acall Tryz.prog tab D n 71 [.ptr (some ⟨B, 0, 0, 1⟩), .int .i64 y] σ K = true := by
  obtain ⟨n, rfl, hn⟩ := up hn
  subst hy
  conv => lhs; whnf
  refine len_spec (by omega) hL ?_
  conv => lhs; whnf
  refine bif_neg (by simp; omega) ?_
  conv => lhs; whnf
  cases i with
  | zero =>
    exact hK
  | succ i =>
    obtain ⟨a, md, h1, h2, h3⟩ := hL
    conv => lhs; whnf
    refine ldL h1 ?_
    conv => lhs; whnf
    refine idx22 h2 rfl (i := i) (by rw [wrap_i64 (by omega) (by omega)]; omega) (by omega) fun id b h4 => ?_
    conv => lhs; whnf
    refine ldTerm h4 ?_
    conv => lhs; whnf
    have e : termN (vals V) (i + 1) = V[i].1 := by rw [termN, vals_at (by omega)]; rfl
    rw [e] at hK
    exact hK

def newerB (l : List EnV) (last term : Int) : Bool := decide (termN l l.length < term) || (decide (term = termN l l.length) && decide ((l.length : Int) ≤ last))
theorem newer_spec {n B : Nat} {y z : Int} {V : List En} (hn : 3 ≤ n) (hV : V.length ≤ 10000) {σ : H} (hL : IsLog σ B V) {K : AV → H → Bool} (hK : K (.bool (newerB (vals V) y z)) σ = true) :
    acall Tryz.prog tab D n 97 [.ptr (some ⟨B, 0, 0, 1⟩), .int .i64 y, .int .i64 z] σ K = true := by
  obtain ⟨n, rfl, hn⟩ := up hn
  unfold newerB at hK
  rw [vals_len] at hK
  conv => lhs; whnf
  refine len_spec (by omega) hL ?_
  conv => lhs; whnf
  refine term_spec (by omega) rfl (Nat.le_refl _) hV hL ?_
  generalize termN (vals V) V.length = m at hK ⊢
  conv => lhs; whnf
  by_cases h : m < z
  · refine bif_pos (decide_eq_true h) ?_
    rw [decide_eq_true h, Bool.true_or] at hK
    conv => lhs; whnf
    exact hK
  · refine bif_neg (decide_eq_false h) ?_
    rw [decide_eq_false h, Bool.false_or] at hK
    conv => lhs; whnf
    by_cases h2 : z = m
    · refine bif_pos (by simp [h2]) ?_
      rw [decide_eq_true h2, Bool.true_and] at hK
      conv => lhs; whnf
      refine len_spec (by omega) hL ?_
      conv => lhs; whnf
      by_cases h3 : (V.length : Int) ≤ y
      · refine bif_pos (decide_eq_true h3) ?_
        rw [decide_eq_true h3] at hK
        conv => lhs; whnf
        exact hK
      · refine bif_neg (decide_eq_false h3) ?_
        rw [decide_eq_false h3] at hK
        conv => lhs; whnf
        exact hK
    · refine bif_neg (by simp [h2]) ?_
      rw [decide_eq_false h2, Bool.false_and] at hK
      conv => lhs; whnf
      exact hK

theorem new_spec {n : Nat} {s : SA} {l : List En} (hn : 2100 ≤ n) (hl : l.length ≤ 1000000) (hD : ByPlan Tryz.prog D) {σ : H} (hs : Rw σ 4 s l.length (ents l)) (hi : IsEs σ l) (hsm : Small (vals l)) {K : AV → H → Bool}
    (hK : ∀ B W o w σ', σ <+: σ' → σ.length ≤ B → IsEs σ' W → vals W = (vals l).take 2000 → σ'[B]? = some (AO.cells [.sl w W.length] 1 .own) → Own σ σ' 4 o w W.length (ents W) → K (.ptr (some ⟨B, 0, 0, 1⟩)) σ' = true) :
    acall Tryz.prog tab D n 57 [.sl s l.length] σ K = true := by
  obtain ⟨n, rfl, hn⟩ := up hn
  conv => lhs; whnf
  refine slice22 hs 0 (min l.length 2000) (.inl ⟨rfl, rfl⟩) (.inr ⟨_, _, rfl, ?_⟩) (Nat.zero_le _) (Nat.min_le_left _ _) fun a2 r2 => ?_
  · show (if (2000 : Int) < (l.length : Int) then (2000 : Int) else (l.length : Int)) = _
    split <;> omega
  conv => lhs; whnf
  have e : (l.take (min l.length 2000)).drop 0 = l.take 2000 := by
    rw [List.drop_zero, Nat.min_comm, ← List.take_take, List.take_of_length_le (Nat.le_refl _)]
  rw [e] at r2 ⊢
  have hle : (l.take 2000).length ≤ 2000 := by rw [List.length_take]; omega
  refine own_spec (by omega) (by omega) hD r2 (hi.take _) (by rw [vals_take]; exact hsm.take _) fun o w W σ2 p2 i2 v2 o2 => ?_
  conv => lhs; whnf
  exact hK _ W o w _ (prefix_add p2 _) (prefix_len p2) (i2.mono (List.prefix_append _ _)) (by rw [v2, vals_take]) (get_new _ _) (o2.mono (List.prefix_append _ _))
end Go.Proofs.YthmdecfiijgaoaaGreat
