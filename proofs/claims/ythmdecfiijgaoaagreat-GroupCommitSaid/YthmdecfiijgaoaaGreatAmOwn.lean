/- Rows of structs that are ours alone. -/
import Derived.Test.YthmdecfiijgaoaaGreatGmStep
namespace Go.AM.St
open Go Go.AM
section
variable {P : Program} {t e : TypeId} {z : Nat} {σ : H}

/-- A row from its begin to its end, ours alone. -/
def OwnS (σ0 σ : H) (z : Nat) (o : Option Nat) (a : SA) (n : Nat) (cs : List AV) : Prop :=
  match o with
  | none => (a = .nil ∨ a = .zero) ∧ n = 0 ∧ cs = []
  | some id => a = .at id 0 z ∧ σ0.length ≤ id ∧ σ[id]? = some (AO.cells cs z .own) ∧ n * z = cs.length
theorem OwnS.nil (σ0 σ : H) (z : Nat) : OwnS σ0 σ z none .nil 0 [] := ⟨.inl rfl, rfl, rfl⟩
theorem OwnS.zero (σ0 σ : H) (z : Nat) : OwnS σ0 σ z none .zero 0 [] := ⟨.inr rfl, rfl, rfl⟩
theorem OwnS.own {σ0 : H} {o : Option Nat} {a : SA} {n : Nat} {cs : List AV} (h : OwnS σ0 σ z o a n cs) : Own σ0 σ z o a n cs := by
  unfold OwnS at h
  unfold Own
  split at h
  · exact h
  · obtain ⟨h1, h2, h3, h4⟩ := h
    exact ⟨0, cs, .own, h1, h2, h3, by decide, by omega, rfl, rfl⟩
theorem OwnS.rw {σ0 : H} {o : Option Nat} {a : SA} {n : Nat} {cs : List AV} (h : OwnS σ0 σ z o a n cs) : Rw σ z a n cs := h.own.rw
theorem OwnS.keep {σ0 σ' : H} {o : Option Nat} {a : SA} {n : Nat} {cs : List AV} (h : OwnS σ0 σ z o a n cs) (hk : ∀ id, o = some id → σ'[id]? = σ[id]?) : OwnS σ0 σ' z o a n cs := by
  unfold OwnS at h ⊢
  split at h
  · exact h
  · obtain ⟨h1, h2, h3, h4⟩ := h
    exact ⟨h1, h2, (hk _ rfl).trans h3, h4⟩
theorem OwnS.lt {σ0 : H} {id : Nat} {a : SA} {n : Nat} {cs : List AV} (h : OwnS σ0 σ z (some id) a n cs) : id < σ.length := get_lt h.2.2.1
theorem OwnS.mono {σ0 σ' : H} {o : Option Nat} {a : SA} {n : Nat} {cs : List AV} (h : OwnS σ0 σ z o a n cs) (p : σ <+: σ') : OwnS σ0 σ' z o a n cs :=
  h.keep fun id e => by
    subst e
    have := h.lt
    rw [prefix_get p (List.getElem?_eq_getElem this), List.getElem?_eq_getElem this]
theorem OwnS.low {σ0 σ1 : H} {o : Option Nat} {a : SA} {n : Nat} {cs : List AV} (h : OwnS σ1 σ z o a n cs) (hl : σ0.length ≤ σ1.length) : OwnS σ0 σ z o a n cs := by
  unfold OwnS at h ⊢
  split at h
  · exact h
  · obtain ⟨h1, h2, h3, h4⟩ := h
    exact ⟨h1, Nat.le_trans hl h2, h3, h4⟩
theorem OwnS.new {σ0 : H} (h : σ0 <+: σ) {n : Nat} (xs : List AV) (hl : n * z = xs.length) : OwnS σ0 (σ ++ [AO.cells xs z .own]) z (some σ.length) (.at σ.length 0 z) n xs :=
  ⟨rfl, prefix_len h, get_new _ _, hl⟩

/-- An append to such a row. -/
theorem appS {σ0 : H} {ie : TypeInfo} (ht : P.underlying t = some (.slice e)) (hi : P.info? e = some ie) (hz : ie.size = z) (hg : (ie.size == 0 || ie.bytes == 0 || !zeroFits ie) = false) (hst : isStructT P e = true) (hz1 : z ≠ 1)
    (h0 : σ0 <+: σ) {o : Option Nat} {a b : SA} {n m : Nat} {cs ys : List AV} {K : AV → H → Bool} (hs : OwnS σ0 σ z o a n cs) (hx : Rw σ z b m ys) {N : Nat} {zs : List AV} (hN : n + m = N) (hZ : cs ++ ys = zs) (hb : N * ie.bytes ≤ 140737488355328)
    (hK : ∀ o' a' σ', σ0 <+: σ' → σ.length ≤ σ'.length → (∀ id, id < σ.length → o ≠ some id → σ'[id]? = σ[id]?) → (∀ id, o' = some id → o = some id ∨ σ.length ≤ id) → Ext σ σ' → OwnS σ0 σ' z o' a' N zs → K (.sl a' N) σ' = true) :
    appendK P t (.sl a n) (.sl b m) σ K = true := by
  subst hz hN hZ
  unfold appendK
  rw [ht]
  simp only
  rw [hi]
  refine bif_neg hg ?_
  by_cases hm : m = 0
  · subst hm
    refine bif_pos rfl ?_
    have e : ys = [] := by
      have := hx.len
      rw [Nat.zero_mul] at this
      exact List.length_eq_zero_iff.1 this
    subst e
    exact hK o a σ h0 (Nat.le_refl _) (fun _ _ _ => rfl) (fun _ h => .inl h) (Ext.of_prefix List.prefix_rfl) (by rw [List.append_nil]; exact hs)
  · refine bif_neg (by simpa using hm) (bif_pos (decide_eq_true hb) (seenK_rw hx ?_))
    rw [hst]
    simp only [cond_true]
    have hyl := hx.len
    unfold OwnS at hs
    cases o with
    | none =>
      obtain ⟨h1, rfl, rfl⟩ := hs
      have key : K (.sl (.at σ.length 0 ie.size) m) (σ ++ [.cells ys ie.size .own]) = true := by
        have := hK (some σ.length) (.at σ.length 0 ie.size) (σ ++ [.cells ys ie.size .own]) (prefix_add h0 _) (by simp) (fun id hl _ => List.getElem?_append_left hl) (fun id h => by cases h; exact .inr (Nat.le_refl _)) (Ext.of_prefix (List.prefix_append _ _)) (by
          rw [Nat.zero_add, List.nil_append]; exact OwnS.new h0 ys hyl.symm)
        rwa [Nat.zero_add] at this
      rcases h1 with rfl | rfl
      · exact key
      · exact key
    | some id =>
      obtain ⟨rfl, h2, h3, h4⟩ := hs
      refine rowK_of h3 (bif_pos ?_ (bif_pos ?_ ?_))
      · simp only [beq_self_eq_true, Bool.true_and, Bool.and_eq_true, Bool.not_eq_true', beq_eq_false_iff_ne, decide_eq_true_eq]
        exact ⟨by decide, by omega⟩
      · rw [beq_iff_eq]; omega
      · have hsl : (σ.set id AO.dead).length = σ.length := List.length_set
        have hg3 := get_lt h3
        refine hK (some σ.length) _ _ (prefix_add (prefix_set h0 h2 _) _) (by simp) (fun j hl hj => ?_) (fun j h => by cases h; exact .inr (Nat.le_refl _)) (fun j ws md' hj => ?_) ⟨rfl, prefix_len h0, ?_, ?_⟩
        · rw [List.getElem?_append_left (by rw [hsl]; exact hl), List.getElem?_set_ne (fun e => hj (by rw [e]))]
        · by_cases e : j = id
          · subst e
            rw [h3] at hj
            have hq := Option.some.inj hj
            injection hq with _ hq2 _
            exact absurd hq2 hz1
          · exact ⟨[], md', by rw [List.append_nil]; exact get_old (get_set_ne hj e _) _⟩
        · rw [← hsl]; exact get_new _ _
        · rw [List.length_append, Nat.add_mul]; omega

/-- An element's place in such a row. -/
theorem idxS {σ0 : H} (ht : P.underlying t = some (.slice e)) (he : ∀ K, esizeK P e K = K z) {o : Option Nat} {a : SA} {n : Nat} {cs : List AV} (hs : OwnS σ0 σ z o a n cs) {k : IntKind} {y : Int} {i : Nat} (hy : y = (i : Int)) (hi : i < n) {K : AV → Bool}
    (hK : ∀ id, o = some id → σ[id]? = some (AO.cells cs z .own) → K (.ptr (some ⟨id, i * z, 0, z⟩)) = true) : indexAddrK P t (.sl a n) (.int k y) K = true := by
  subst hy
  unfold OwnS at hs
  cases o with
  | none => obtain ⟨_, rfl, _⟩ := hs; omega
  | some id =>
    obtain ⟨rfl, h2, h3, h4⟩ := hs
    unfold indexAddrK
    rw [ht]
    simp only
    rw [he]
    refine bif_pos ?_ ?_
    · simp only [beq_self_eq_true, Bool.true_and, Bool.and_eq_true, decide_eq_true_eq]; omega
    · have := hK id rfl h3
      simpa using this
end
end Go.AM.St
