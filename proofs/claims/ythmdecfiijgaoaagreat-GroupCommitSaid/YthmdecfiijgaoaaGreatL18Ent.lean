/- Entries: a term and a record. -/
import Derived.Test.YthmdecfiijgaoaaGreatGmGet
import Derived.Test.YthmdecfiijgaoaaGreatGmRec
import Derived.Test.YthmdecfiijgaoaaGreatGmStep
namespace Go.Proofs.YthmdecfiijgaoaaGreat
open Go Go.AM Go.AM.St

/-- A record in a row: its slices, and what they read. -/
abbrev El := SA × SA × RecP
abbrev elCells (e : El) : List AV := [.int .i64 e.2.2.kind, .sl e.1 e.2.2.nums.length, .sl e.2.1 e.2.2.texts.length]
theorem Own.other {σ0 σ1 σ : H} {z z' n n' : Nat} {o o' : Option Nat} {a a' : SA} {cs cs' : List AV} (h : Own σ0 σ z o a n cs) (h' : Own σ1 σ z' o' a' n' cs') (hz : z ≠ z') : o = none ∨ o ≠ o' := by
  cases o with
  | none => exact .inl rfl
  | some id =>
    refine .inr fun e => ?_
    subst e
    obtain ⟨off, xs, md, _, _, h3, _⟩ := h
    obtain ⟨off', xs', md', _, _, h3', _⟩ := h'
    rw [h3] at h3'
    cases h3'
    exact hz rfl
abbrev En := Int × El
abbrev enCells (e : En) : List AV := [.int .i64 e.1, .int .i64 e.2.2.2.kind, .sl e.2.1 e.2.2.2.nums.length, .sl e.2.2.1 e.2.2.2.texts.length]
abbrev EnV := Int × RecP
abbrev valE (e : En) : EnV := (e.1, e.2.2.2)
def ents : List En → List AV
  | [] => []
  | e :: l => enCells e ++ ents l
theorem ents_len : ∀ l : List En, (ents l).length = l.length * 4
  | [] => rfl
  | e :: l => by rw [ents, List.length_append, ents_len l, List.length_cons]; simp; omega
theorem ents_app : ∀ (a b : List En), ents a ++ ents b = ents (a ++ b)
  | [], _ => rfl
  | e :: l, b => by rw [ents, List.append_assoc, ents_app l b]; rfl
theorem ents_drop : ∀ (l : List En) (i : Nat), (ents l).drop (i * 4) = ents (l.drop i)
  | [], i => by simp [ents]
  | e :: l, 0 => rfl
  | e :: l, i + 1 => by
    rw [ents, List.drop_append, List.drop_eq_nil_of_le (by simp; omega), List.nil_append, List.drop_succ_cons]
    rw [show (i + 1) * 4 - (enCells e).length = i * 4 by simp; omega]
    exact ents_drop l i
theorem ents_take (l : List En) (i : Nat) : (ents l).take (i * 4) = ents (l.take i) := by
  have h := ents_app (l.take i) (l.drop i)
  rw [List.take_append_drop] at h
  rw [← h, List.take_append]
  by_cases hi : i ≤ l.length
  · have e : (ents (l.take i)).length = i * 4 := by rw [ents_len, List.length_take]; omega
    rw [List.take_of_length_le (by omega), e, Nat.sub_self, List.take_zero, List.append_nil]
  · rw [List.drop_eq_nil_of_le (by omega), List.take_of_length_le (by rw [ents_len, List.length_take]; omega)]
    simp [ents]
theorem ents_at {l : List En} {i : Nat} (h : i < l.length) : ((ents l).drop (i * 4)).take 4 = enCells l[i] := by
  rw [ents_drop, List.drop_eq_getElem_cons h, ents]; rfl
def IsEs (σ : H) (l : List En) : Prop := ∀ e ∈ l, IsR σ e.2.1 e.2.2.1 e.2.2.2
theorem IsEs.nil (σ : H) : IsEs σ [] := fun e he => by cases he
theorem IsEs.mono {σ σ' : H} {l : List En} (h : IsEs σ l) (hp : σ <+: σ') : IsEs σ' l := fun e he => (h e he).mono hp
theorem IsEs.ext {σ σ' : H} {l : List En} (h : IsEs σ l) (hp : Ext σ σ') : IsEs σ' l := fun e he => ⟨Rw.ext (h e he).nums hp, Rw.ext (h e he).texts hp⟩
def OkEs (l : List EnV) : Prop := ∀ e ∈ l, OkR e.2
def vals (l : List En) : List EnV := l.map valE
theorem vals_len (l : List En) : (vals l).length = l.length := List.length_map _
theorem vals_snoc (l : List En) (e : En) : vals (l ++ [e]) = vals l ++ [valE e] := by simp [vals]
theorem vals_at {l : List En} {i : Nat} (h : i < l.length) : (vals l)[i]? = some (valE l[i]) := by simp [vals, h]

/-- Here lies an entry. -/
def At4 (σ : H) (id b : Nat) (e : En) : Prop := ∃ xs md, σ[id]? = some (AO.cells xs 4 md) ∧ b + 4 ≤ xs.length ∧ (xs.drop b).take 4 = enCells e
theorem At4.get {xs : List AV} {b j : Nat} {es : List AV} (h : (xs.drop b).take 4 = es) (hj : j < 4) : xs[b + j]? = es[j]? := by
  rw [← h, List.getElem?_take_of_lt hj, List.getElem?_drop]
theorem At4.mono {σ σ' : H} {id b : Nat} {e : En} (h : At4 σ id b e) (hp : σ <+: σ') : At4 σ' id b e := by
  obtain ⟨xs, md, h1, h2⟩ := h
  exact ⟨xs, md, prefix_get hp h1, h2⟩
set_option maxRecDepth 100000
theorem idx22 {σ : H} {s : SA} {l : List En} {n : Nat} (hs : Rw σ 4 s n (ents l)) {k : IntKind} {y : Int} {i : Nat} {K : AV → Bool} (hn : n = l.length) (hy : y = (i : Int)) (hi : i < l.length)
    (hK : ∀ id b, At4 σ id b l[i] → K (.ptr (some ⟨id, b, 0, 4⟩)) = true) : indexAddrK Tryz.prog 36 (.sl s n) (.int k y) K = true := by
  refine indexAddrK_rw Tryz.underlying36 (fun _ => rfl) hs hy (by omega) (ents_at hi) fun p hp => ?_
  obtain ⟨id, b, d, z⟩ := p
  obtain ⟨h1, h2, xs, md, h3, h4, h5⟩ := hp
  simp only at h1 h2 h3 h4 h5
  subst h1 h2
  exact hK id b ⟨xs, md, h3, h4, h5⟩
theorem ldTerm {σ : H} {id b : Nat} {e : En} {K : AV → Bool} (h : At4 σ id b e) (hK : K (.int .i64 e.1) = true) : ldK Tryz.prog 2 σ ⟨id, b, 0, 4⟩ K = true := by
  obtain ⟨xs, md, h1, h2, h3⟩ := h
  exact ldF Tryz.underlying2 rfl rfl h1 (At4.get h3 (by decide)) (by unfold castT; rw [Tryz.underlying2]; exact hK)
theorem ldNums {σ : H} {id b : Nat} {e : En} {K : AV → Bool} (h : At4 σ id b e) (hK : K (.sl e.2.1 e.2.2.2.nums.length) = true) : ldK Tryz.prog 22 σ ⟨id, b, 2, 4⟩ K = true := by
  obtain ⟨xs, md, h1, h2, h3⟩ := h
  exact ldF Tryz.underlying22 rfl rfl h1 (At4.get h3 (by decide)) (by unfold castT; rw [Tryz.underlying22]; exact hK)
theorem ldTexts {σ : H} {id b : Nat} {e : En} {K : AV → Bool} (h : At4 σ id b e) (hK : K (.sl e.2.2.1 e.2.2.2.texts.length) = true) : ldK Tryz.prog 23 σ ⟨id, b, 3, 4⟩ K = true := by
  obtain ⟨xs, md, h1, h2, h3⟩ := h
  exact ldF Tryz.underlying23 rfl rfl h1 (At4.get h3 (by decide)) (by unfold castT; rw [Tryz.underlying23]; exact hK)
theorem ldRec {σ : H} {id b : Nat} {e : En} {K : AV → Bool} (h : At4 σ id b e) (hK : K (recV e.2.1 e.2.2.1 e.2.2.2) = true) : ldK Tryz.prog 25 σ ⟨id, b, 1, 4⟩ K = true := by
  obtain ⟨xs, md, h1, h2, h3⟩ := h
  refine ldS (ys := elCells e.2) Tryz.underlying25 rfl h1 (by decide) (by show b + 1 + 3 ≤ _; omega) ?_ ?_
  · show (xs.drop (b + 1)).take 3 = _
    have := congrArg (List.drop 1) h3
    rw [List.drop_take, List.drop_drop] at this
    exact this
  · conv => lhs; whnf
    exact hK
theorem ldEnt {σ : H} {id b : Nat} {e : En} {K : AV → Bool} (h : At4 σ id b e) (hK : K (.agg (enCells e)) = true) : ldK Tryz.prog 27 σ ⟨id, b, 0, 4⟩ K = true := by
  obtain ⟨xs, md, h1, h2, h3⟩ := h
  refine ldS (ys := enCells e) Tryz.underlying27 rfl h1 (by decide) (by show b + 0 + 4 ≤ _; omega) ?_ ?_
  · show (xs.drop (b + 0)).take 4 = _
    rw [Nat.add_zero]; exact h3
  · conv => lhs; whnf
    exact hK

theorem appendZero {t e : TypeId} {ie : TypeInfo} {z : Nat} (ht : Tryz.prog.underlying t = some (.slice e)) (hi : Tryz.prog.info? e = some ie) (hz : ie.size = z) (hg : (ie.size == 0 || ie.bytes == 0 || !zeroFits ie) = false) {σ : H} {a b : SA} {m : Nat} {ys : List AV}
    (hx : Rw σ z b m ys) (hb : m * ie.bytes ≤ 140737488355328) (ha : a = .nil ∨ a = .zero) {K : AV → H → Bool} (h0 : m = 0 → K (.sl a 0) σ = true) (h1 : 0 < m → K (.sl (.at σ.length 0 z) m) (σ ++ [AO.cells ys z .own]) = true) :
    appendK Tryz.prog t (.sl a 0) (.sl b m) σ K = true := by
  subst hz
  unfold appendK
  rw [ht]
  simp only
  rw [hi]
  simp only
  refine bif_neg hg ?_
  by_cases hm : m = 0
  · exact bif_pos (by simpa using hm) (h0 hm)
  · refine bif_neg (by simpa using hm) (bif_pos (decide_eq_true (by rw [Nat.zero_add]; exact hb)) (seenK_rw hx ?_))
    rcases ha with rfl | rfl
    · cases isStructT Tryz.prog e <;> exact h1 (by omega)
    · cases isStructT Tryz.prog e <;> exact h1 (by omega)

attribute [local irreducible] IntKind.wrap Int.fdiv Int.tdiv Int.tmod BitVec.ofInt appendK sliceK indexAddrK ldK storeK seenK makeSliceK valsF lookupK updateK mapK
variable {D : Drawer}

def cutV (e : EnV) : EnV := (e.1, cutR e.2)
def cutE (l : List EnV) : List EnV := (l.take 12).map cutV
theorem take_snoc {l : List EnV} {i : Nat} {e : EnV} (h : l[i]? = some e) : (l.take (i + 1)).map cutV = (l.take i).map cutV ++ [cutV e] := by
  have hi := (List.getElem?_eq_some_iff.1 h).1
  have he := (List.getElem?_eq_some_iff.1 h).2
  rw [List.take_succ_eq_append_getElem hi, List.map_append, he]; rfl

theorem entries_spec {n : Nat} (hn : 100 ≤ n) (hD : ByPlan Tryz.prog D) {s : SA} {l : List En} {σ : H} (hs : Rw σ 4 s l.length (ents l)) (hi : IsEs σ l) {K : AV → H → Bool}
    (hK : ∀ o w W σ', σ <+: σ' → IsEs σ' W → vals W = cutE (vals l) → Own σ σ' 4 o w W.length (ents W) → K (.sl w W.length) σ' = true) :
    acall Tryz.prog tab D n 21 [.sl s l.length] σ K = true := by
  obtain ⟨n, rfl, hn⟩ := up hn
  conv => lhs; whnf
  refine loop_rule (m := 25) (fun q fr τ => ∃ (z : Int) (i : Nat) (o : Option Nat) (w : SA) (W : List En), z = (i : Int) ∧ i + q = 12 ∧ i ≤ l.length ∧ W.length = i ∧ σ <+: τ ∧ IsEs τ W ∧ vals W = ((vals l).take i).map cutV ∧ Own σ τ 4 o w W.length (ents W) ∧
      fr = [.sl s l.length, .bad, .bad, .sl w W.length, .int .i64 z, .bad, .bad, .bad, .bad, .bad, .bad, .bad, .bad, .bad, .bad, .bad, .bad, .bad, .bad, .bad, .bad, .bad, .bad, .bad, .bad, .bad, .bad, .bad, .bad, .bad, .bad]) ?_ _ 12 _ _ (by omega)
      ⟨_, 0, none, .nil, [], rfl, by omega, Nat.zero_le _, rfl, List.prefix_refl _, IsEs.nil σ, rfl, Own.nil _ _ _, rfl⟩
  rintro q fr τ C ⟨z, i, o, w, W, rfl, hq, hil0, hW, hp, hI, hV, ho, rfl⟩ next fin
  conv => lhs; whnf
  by_cases hlt : i < l.length ∧ i < 12
  case neg =>
    have he : (vals l).take i = (vals l).take 12 := by
      by_cases h12 : i = 12
      · rw [h12]
      · rw [List.take_of_length_le (by rw [vals_len]; omega), List.take_of_length_le (by rw [vals_len]; omega)]
    have tail : ∀ fr', forget 8 fr' = [.bad, .bad, .bad, .sl w W.length, .bad, .bad, .bad, .bad, .bad, .bad, .bad, .bad, .bad, .bad, .bad, .bad, .bad, .bad, .bad, .bad, .bad, .bad, .bad, .bad, .bad, .bad, .bad, .bad, .bad, .bad, .bad] → C (AE.exit 0) fr' τ = true := fun fr' hf => by
      refine fin _ _ _ nofun ?_
      show forgetK 8 fr' _ = true
      rw [forgetK_eq, hf]
      conv => lhs; whnf
      exact hK o w W τ hp hI (by rw [hV, he]; rfl) ho
    by_cases hl1 : i < l.length
    · refine bif_pos (by simpa using hl1) ?_
      conv => lhs; whnf
      refine bif_neg (by simp; omega) ?_
      conv => lhs; whnf
      exact tail _ rfl
    · refine bif_neg (by simpa using hl1) ?_
      conv => lhs; whnf
      exact tail _ rfl
  have hil := hlt.1
  refine bif_pos (by simpa using hil) ?_
  conv => lhs; whnf
  refine bif_pos (by simp; omega) ?_
  conv => lhs; whnf
  refine hD.go plan21x5 ord21x5 ?_
  conv => lhs; whnf
  refine idx22 hs rfl rfl hil fun id b h4 => ?_
  conv => lhs; whnf
  refine ldTerm (h4.mono hp) ?_
  conv => lhs; whnf
  refine idx22 (hs.mono hp) rfl rfl hil fun id' b' h4' => ?_
  conv => lhs; whnf
  refine ldRec h4' ?_
  have hie := hi _ (List.getElem_mem hil)
  have hva := vals_at hil
  generalize l[i] = e at h4 h4' hie hva ⊢
  conv => lhs; whnf
  refine rec_spec (by omega) hD (hie.mono hp) fun a1 b1 τ1 p1 r1 => ?_
  conv => lhs; whnf
  refine and_true (all_skip rfl (all_cons ?_ rfl)) ?_
  · conv => lhs; whnf
    refine ldTerm ((h4.mono hp).mono p1) ?_
    exact same_int _ _
  conv => lhs; whnf
  have hrow : Rw (τ1 ++ [AO.cells (enCells (e.1, a1, b1, cutR e.2.2.2)) 4 .own]) 4 (.at τ1.length 0 4) 1 (enCells (e.1, a1, b1, cutR e.2.2.2)) := Rw.new _ _ rfl
  refine appendK_ext Tryz.underlying36 rfl rfl rfl (prefix_add (List.IsPrefix.trans hp p1) _) (o := o) ((ho.mono p1).mono (List.prefix_append _ _)) hrow (N := (W ++ [(e.1, a1, b1, cutR e.2.2.2)]).length) (zs := ents (W ++ [(e.1, a1, b1, cutR e.2.2.2)])) (by simp) (ents_app W [(e.1, a1, b1, cutR e.2.2.2)]) ?_ fun o5 a5 τ5 p5 k5 _ _ x5 w5 => ?_
  · show _ * 64 ≤ _
    rw [List.length_append, List.length_singleton]; omega
  conv => lhs; whnf
  refine next (q - 1) _ _ (by omega) ⟨_, i + 1, o5, a5, W ++ [(e.1, a1, b1, cutR e.2.2.2)], inc_i64 (by omega), by omega, by omega, by rw [List.length_append, List.length_singleton, hW], p5, ?_, by rw [vals_snoc, hV, take_snoc hva]; rfl, w5, rfl⟩
  intro x hx
  rcases List.mem_append.1 hx with hx | hx
  · exact (((hI.mono p1).mono (List.prefix_append _ _)).ext x5) x hx
  · rw [List.mem_singleton] at hx
    subst hx
    have h1 := r1.mono (List.prefix_append τ1 [AO.cells (enCells (e.1, a1, b1, cutR e.2.2.2)) 4 .own])
    exact ⟨Rw.ext h1.nums x5, Rw.ext h1.texts x5⟩

/-! Clones. -/
theorem clone34_spec {n m : Nat} (hn : 1 ≤ n) (hm : m ≤ 10000) {s : SA} {cs : List AV} {σ : H} (hs : Rw σ 4 s m cs) {K : AV → H → Bool}
    (h0 : m = 0 → ∀ a, a = .nil ∨ a = .zero → K (.sl a 0) σ = true) (h1 : 0 < m → K (.sl (.at σ.length 0 4) m) (σ ++ [AO.cells cs 4 .own]) = true) : acall Tryz.prog tab D n 120 [.sl s m] σ K = true := by
  obtain ⟨n, rfl, hn⟩ := up hn
  have hs' := hs
  rcases hs with ⟨rfl, rfl, rfl⟩ | ⟨rfl, rfl, rfl⟩ | ⟨id, off, xs, md, rfl, g1, g2, g3⟩
  · conv => lhs; whnf
    exact h0 rfl .nil (.inl rfl)
  all_goals
    conv => lhs; whnf
    refine appendZero Tryz.underlying36 rfl rfl rfl hs' (by show _ * 64 ≤ _; omega) (.inr rfl) (fun hz => ?_) (fun hz => ?_)
    · conv => lhs; whnf
      exact h0 hz .zero (.inr rfl)
    · conv => lhs; whnf
      exact h1 hz
theorem clone39_spec {n m : Nat} (hn : 1 ≤ n) (hm : m ≤ 1000000000) {s : SA} {cs : List AV} {σ : H} (hs : Rw σ 1 s m cs) {K : AV → H → Bool}
    (h0 : m = 0 → ∀ a, a = .nil ∨ a = .zero → K (.sl a 0) σ = true) (h1 : 0 < m → K (.sl (.at σ.length 0 1) m) (σ ++ [AO.cells cs 1 .own]) = true) : acall Tryz.prog tab D n 53 [.sl s m] σ K = true := by
  obtain ⟨n, rfl, hn⟩ := up hn
  have hs' := hs
  rcases hs with ⟨rfl, rfl, rfl⟩ | ⟨rfl, rfl, rfl⟩ | ⟨id, off, xs, md, rfl, g1, g2, g3⟩
  · conv => lhs; whnf
    exact h0 rfl .nil (.inl rfl)
  all_goals
    conv => lhs; whnf
    refine appendZero Tryz.underlying22 rfl rfl rfl hs' (by show _ * 8 ≤ _; omega) (.inr rfl) (fun hz => ?_) (fun hz => ?_)
    · conv => lhs; whnf
      exact h0 hz .zero (.inr rfl)
    · conv => lhs; whnf
      exact h1 hz
theorem clone40_spec {n m : Nat} (hn : 1 ≤ n) (hm : m ≤ 1000000000) {s : SA} {cs : List AV} {σ : H} (hs : Rw σ 1 s m cs) {K : AV → H → Bool}
    (h0 : m = 0 → ∀ a, a = .nil ∨ a = .zero → K (.sl a 0) σ = true) (h1 : 0 < m → K (.sl (.at σ.length 0 1) m) (σ ++ [AO.cells cs 1 .own]) = true) : acall Tryz.prog tab D n 54 [.sl s m] σ K = true := by
  obtain ⟨n, rfl, hn⟩ := up hn
  have hs' := hs
  rcases hs with ⟨rfl, rfl, rfl⟩ | ⟨rfl, rfl, rfl⟩ | ⟨id, off, xs, md, rfl, g1, g2, g3⟩
  · conv => lhs; whnf
    exact h0 rfl .nil (.inl rfl)
  all_goals
    conv => lhs; whnf
    refine appendZero Tryz.underlying23 rfl rfl rfl hs' (by show _ * 16 ≤ _; omega) (.inr rfl) (fun hz => ?_) (fun hz => ?_)
    · conv => lhs; whnf
      exact h0 hz .zero (.inr rfl)
    · conv => lhs; whnf
      exact h1 hz
end Go.Proofs.YthmdecfiijgaoaaGreat
