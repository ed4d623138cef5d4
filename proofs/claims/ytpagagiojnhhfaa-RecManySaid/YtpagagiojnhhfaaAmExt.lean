/- Appends that keep what reads into the row. -/
import Derived.Test.YtpagagiojnhhfaaAmRow
namespace Go.AM.St
open Go Go.AM
section
variable {P : Program} {t e : TypeId} {z : Nat} {σ : H}

/-- Rows have grown at most. -/
def Ext (σ σ' : H) : Prop := ∀ (id : Nat) (xs : List AV) (z : Nat) (md : Md), σ[id]? = some (AO.cells xs z md) → ∃ ys md', σ'[id]? = some (AO.cells (xs ++ ys) z md')
theorem Ext.of_prefix {σ σ' : H} (h : σ <+: σ') : Ext σ σ' := fun id xs z md hx => ⟨[], md, by rw [List.append_nil]; exact prefix_get h hx⟩
theorem Ext.trans {a b c : H} (h : Ext a b) (k : Ext b c) : Ext a c := fun id xs z md hx => by
  obtain ⟨ys, md', h1⟩ := h id xs z md hx
  obtain ⟨zs, md'', h2⟩ := k id _ z md' h1
  exact ⟨ys ++ zs, md'', by rw [← List.append_assoc]; exact h2⟩
theorem Rw.ext {σ σ' : H} {z n : Nat} {a : SA} {cs : List AV} (h : Rw σ z a n cs) (hk : Ext σ σ') : Rw σ' z a n cs := h.keep hk

theorem into_ext {σ0 : H} (h0 : σ0 <+: σ) {o : Option Nat} {a : SA} {n m : Nat} {cs ys : List AV} {K : AV → H → Bool} (hs : Own σ0 σ z o a n cs) (hl : m * z = ys.length)
    (hK : ∀ o' a' σ', σ0 <+: σ' → Keep o σ σ' → (∀ id, o = some id → o' = o) → (o = none → o' = none ∨ o' = some σ.length) → Ext σ σ' → Own σ0 σ' z o' a' (n + m) (cs ++ ys) → K (.sl a' (n + m)) σ' = true) :
    appendK.into σ K a n m ys z = true := by
  unfold Own at hs
  cases o with
  | none =>
    obtain ⟨h1, rfl, rfl⟩ := hs
    have key : K (.sl (.at σ.length 0 z) m) (σ ++ [.cells ys z .own]) = true := by
      have := hK (some σ.length) (.at σ.length 0 z) (σ ++ [.cells ys z .own]) (prefix_add h0 _) (fun id x _ hx => get_old hx _) (fun id h => by cases h) (fun _ => .inr rfl) (Ext.of_prefix (List.prefix_append _ _)) (by
        rw [Nat.zero_add, List.nil_append]; exact Own.new h0 ys .own (by decide) hl)
      rwa [Nat.zero_add] at this
    rcases h1 with rfl | rfl
    · exact key
    · exact key
  | some id =>
    obtain ⟨off, xs, md, rfl, h2, h3, h4, h5, h6⟩ := hs
    refine rowK_of h3 (bif_pos ?_ ?_)
    · simp only [beq_self_eq_true, Bool.true_and, Bool.and_eq_true, Bool.not_eq_true', beq_eq_false_iff_ne, beq_iff_eq]
      exact ⟨h4, h5⟩
    · refine hK (some id) _ _ (prefix_set h0 h2 _) (fun j x hj hx => get_set_ne hx (fun e => hj (by rw [e])) _) (fun _ _ => rfl) (fun h => by cases h) (fun j ws y md' hj => ?_) ⟨off, xs ++ ys, .multi, rfl, h2, get_set h3 _, by decide, ?_, ?_⟩
      · by_cases e : j = id
        · subst e
          rw [h3] at hj
          cases hj
          exact ⟨ys, .multi, get_set h3 _⟩
        · exact ⟨[], md', by rw [List.append_nil]; exact get_set_ne hj e _⟩
      · rw [List.length_append, Nat.add_mul]; omega
      · rw [List.drop_append_of_le_length (by have := get_lt h3; omega), h6]

theorem appendK_ext {σ0 : H} {ie : TypeInfo} (ht : P.underlying t = some (.slice e)) (hi : P.info? e = some ie) (hz : ie.size = z) (hg : (ie.size == 0 || ie.bytes == 0 || !zeroFits ie) = false)
    (h0 : σ0 <+: σ) {o : Option Nat} {a b : SA} {n m : Nat} {cs ys : List AV} {K : AV → H → Bool} (hs : Own σ0 σ z o a n cs) (hx : Rw σ z b m ys) {N : Nat} {zs : List AV} (hN : n + m = N) (hZ : cs ++ ys = zs) (hb : N * ie.bytes ≤ 140737488355328)
    (hK : ∀ o' a' σ', σ0 <+: σ' → Keep o σ σ' → (∀ id, o = some id → o' = o) → (o = none → o' = none ∨ o' = some σ.length) → Ext σ σ' → Own σ0 σ' z o' a' N zs → K (.sl a' N) σ' = true) :
    appendK P t (.sl a n) (.sl b m) σ K = true := by
  subst hz hN hZ
  unfold appendK
  rw [ht]
  simp only
  rw [hi]
  refine bif_neg hg ?_
  by_cases hm : m = 0
  · subst hm
    refine bif_pos rfl ?_
    have e : ys = [] := by
      have := hx.len
      rw [Nat.zero_mul] at this
      exact List.length_eq_zero_iff.1 this
    subst e
    exact hK o a σ h0 (fun _ _ _ h => h) (fun _ _ => rfl) (fun h => .inl h) (Ext.of_prefix (List.prefix_refl _)) (by rw [List.append_nil]; exact hs)
  · exact bif_neg (by simpa using hm) (bif_pos (decide_eq_true hb) (seenK_rw hx (into_ext h0 hs hx.len.symm hK)))
theorem BT.appE (B : BT P t e) {σ0 : H} (h0 : σ0 <+: σ) {o : Option Nat} {a b : SA} {xs ys : List Nat} {K : AV → H → Bool} (hs : Own σ0 σ 1 o a xs.length (u8s xs)) (hx : Rw σ 1 b ys.length (u8s ys)) (zs : List Nat) (hz : xs ++ ys = zs)
    (hb : zs.length ≤ 140737488355328)
    (hK : ∀ o' a' σ', σ0 <+: σ' → Keep o σ σ' → (∀ id, o = some id → o' = o) → (o = none → o' = none ∨ o' = some σ.length) → Ext σ σ' → Own σ0 σ' 1 o' a' zs.length (u8s zs) → K (.sl a' zs.length) σ' = true) :
    appendK P t (.sl a xs.length) (.sl b ys.length) σ K = true := by
  subst hz
  obtain ⟨ie, hi, h1, h2, h3⟩ := B.hi
  exact appendK_ext B.ht hi h1 (by rw [h1, h2, h3]; rfl) h0 hs hx (List.length_append).symm (u8s_app xs ys) (by rw [h2, Nat.mul_one]; exact hb) hK

end
end Go.AM.St
