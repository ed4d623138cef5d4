/- Who has which locks: the list that the law keeps, and what the program's map tells. -/
import Derived.Test.YtajincfelnmlhaaGreatGmLock
import Derived.Test.YtajincfelnmlhaaGreatAmMap
namespace Go.Proofs.YtajincfelnmlhaaGreat
open Go Go.AM Go.AM.St
/-- One that has locks: its name, its row, its locks. -/
structure HV where
  id : Int × Int
  a : AM.SA
  L : List KeyB
/-- The list tells what the map tells. -/
structure WsOk (W : List HV) (f : KeyB → Option (Int × Int)) (N : Nat) : Prop where
  ids : (W.map HV.id).Nodup
  str : ∀ x ∈ W, StrictK x.L
  own : ∀ k i, f k = some i ↔ ∃ x ∈ W, x.id = i ∧ k ∈ x.L
  num : (W.map fun x => x.L.length).sum ≤ N
theorem inj_of {α γ : Type} {f : α → γ} {l : List α} (hn : (l.map f).Nodup) {a b : α} (ha : a ∈ l) (hb : b ∈ l) (e : f a = f b) : a = b := nodup_inj hn ha hb e
theorem WsOk.nil : WsOk [] (fun _ => none) 0 := ⟨by simp, fun x h => by simp at h, fun k i => ⟨nofun, fun ⟨x, h, _⟩ => by simp at h⟩, by simp⟩
theorem WsOk.flat {W : List HV} {f : KeyB → Option (Int × Int)} {N : Nat} (h : WsOk W f N) : (W.flatMap HV.L).Nodup ∧ ∀ k, k ∈ W.flatMap HV.L ↔ f k ≠ none := by
  refine ⟨?_, fun k => ?_⟩
  · have hi := h.ids
    have key : ∀ V : List HV, (∀ x ∈ V, x ∈ W) → (V.map HV.id).Nodup → (V.flatMap HV.L).Nodup := by
      intro V
      induction V with
      | nil => intro _ _; exact List.nodup_nil
      | cons x V ih =>
        intro hs hn
        rw [List.map_cons, List.nodup_cons] at hn
        rw [List.flatMap_cons, List.nodup_append]
        refine ⟨strict_nodup (h.str x (hs x (by simp))), ih (fun y hy => hs y (by simp [hy])) hn.2, fun a ha b hb => ?_⟩
        rintro rfl
        obtain ⟨y, hy, hay⟩ := List.mem_flatMap.1 hb
        have e1 := (h.own a x.id).2 ⟨x, hs x (by simp), rfl, ha⟩
        have e2 := (h.own a y.id).2 ⟨y, hs y (by simp [hy]), rfl, hay⟩
        rw [e1] at e2
        exact hn.1 (by rw [Option.some.inj e2]; exact List.mem_map_of_mem hy)
    exact key W (fun _ h => h) hi
  · constructor
    · intro hk
      obtain ⟨x, hx, hkx⟩ := List.mem_flatMap.1 hk
      rw [(h.own k x.id).2 ⟨x, hx, rfl, hkx⟩]
      nofun
    · intro hk
      cases hf : f k with
      | none => exact absurd hf hk
      | some i =>
        obtain ⟨x, hx, _, hkx⟩ := (h.own k i).1 hf
        exact List.mem_flatMap.2 ⟨x, hx, hkx⟩
theorem flat_len (W : List HV) : (W.flatMap HV.L).length = (W.map fun x => x.L.length).sum := by
  induction W with
  | nil => rfl
  | cons x W ih => rw [List.flatMap_cons, List.length_append, ih, List.map_cons, List.sum_cons]
theorem WsOk.bound {W : List HV} {f : KeyB → Option (Int × Int)} {N : Nat} (h : WsOk W f N) (M : List KeyB) (hM : M.Nodup) (hf : ∀ k ∈ M, f k ≠ none) : M.length ≤ N := by
  have := nodup_sub hM fun x hx => (h.flat.2 x).2 (hf x hx)
  rw [flat_len] at this
  exact Nat.le_trans this h.num
theorem WsOk.all {W : List HV} {f : KeyB → Option (Int × Int)} {N : Nat} (h : WsOk W f N) (M : List KeyB) (hM : M.Nodup) (hf : ∀ k, k ∈ M ↔ f k ≠ none) : M.length = (W.map fun x => x.L.length).sum := by
  rw [← flat_len]
  exact nodup_len hM h.flat.1 fun k => by rw [hf, h.flat.2]
/-- What one has. -/
theorem WsOk.has {W : List HV} {f : KeyB → Option (Int × Int)} {N : Nat} (h : WsOk W f N) {x : HV} (hx : x ∈ W) {L : List KeyB} (hL : StrictK L) (hm : ∀ k, k ∈ L ↔ f k = some x.id) : L = x.L := by
  refine strict_ext hL (h.str x hx) fun k => ?_
  rw [hm, h.own]
  constructor
  · rintro ⟨y, hy, e, hk⟩
    rw [← inj_of h.ids hy hx e]; exact hk
  · intro hk; exact ⟨x, hx, rfl, hk⟩
theorem WsOk.no {W : List HV} {f : KeyB → Option (Int × Int)} {N : Nat} (h : WsOk W f N) {i : Int × Int} (hi : ∀ x ∈ W, x.id ≠ i) {L : List KeyB} (hm : ∀ k, k ∈ L ↔ f k = some i) : L = [] := by
  refine nil_of_none fun k hk => ?_
  obtain ⟨x, hx, e, _⟩ := (h.own k i).1 ((hm k).1 hk)
  exact hi x hx e
/-- Freed. -/
theorem WsOk.freeNo {W : List HV} {f : KeyB → Option (Int × Int)} {N : Nat} (h : WsOk W f N) {i : Int × Int} (hi : ∀ x ∈ W, x.id ≠ i) : WsOk W (fun k => if f k = some i then none else f k) N := by
  have e : (fun k => if f k = some i then none else f k) = f := by
    funext k
    by_cases hk : f k = some i
    · obtain ⟨x, hx, e, _⟩ := (h.own k i).1 hk
      exact absurd e (hi x hx)
    · rw [if_neg hk]
  rw [e]; exact h
theorem mem_erase {W : List HV} (hn : (W.map HV.id).Nodup) {j : Nat} (hj : j < W.length) {x : HV} : x ∈ W.take j ++ W.drop (j + 1) ↔ x ∈ W ∧ x.id ≠ W[j].id := by
  have hs : W = W.take j ++ W[j] :: W.drop (j + 1) := by rw [List.getElem_cons_drop, List.take_append_drop]
  have hn2 := hn
  rw [hs, List.map_append, List.map_cons, List.nodup_append, List.nodup_cons] at hn2
  constructor
  · intro hx
    rcases List.mem_append.1 hx with hx | hx
    · exact ⟨List.mem_of_mem_take hx, hn2.2.2 _ (List.mem_map_of_mem hx) _ (by simp)⟩
    · exact ⟨List.mem_of_mem_drop hx, fun e => hn2.2.1.1 (by rw [← e]; exact List.mem_map_of_mem hx)⟩
  · rintro ⟨hx, hne⟩
    rw [hs] at hx
    rcases List.mem_append.1 hx with hx | hx
    · exact List.mem_append_left _ hx
    · rcases List.mem_cons.1 hx with e | hx
      · exact absurd (by rw [e]) hne
      · exact List.mem_append_right _ hx
theorem WsOk.free {W : List HV} {f : KeyB → Option (Int × Int)} {N : Nat} (h : WsOk W f N) {j : Nat} (hj : j < W.length) : WsOk (W.take j ++ W.drop (j + 1)) (fun k => if f k = some W[j].id then none else f k) N := by
  have hs : W = W.take j ++ W[j] :: W.drop (j + 1) := by rw [List.getElem_cons_drop, List.take_append_drop]
  refine ⟨?_, fun x hx => h.str x ((mem_erase h.ids hj).1 hx).1, fun k i => ?_, ?_⟩
  · have hn2 := h.ids
    rw [hs, List.map_append, List.map_cons, List.nodup_append, List.nodup_cons] at hn2
    rw [List.map_append, List.nodup_append]
    exact ⟨hn2.1, hn2.2.1.2, fun a ha b hb => hn2.2.2 a ha b (List.mem_cons_of_mem _ hb)⟩
  · by_cases hk : f k = some W[j].id
    · rw [if_pos hk]
      constructor
      · nofun
      · rintro ⟨x, hx, e, hkx⟩
        have := (mem_erase h.ids hj).1 hx
        have e2 := (h.own k x.id).2 ⟨x, this.1, rfl, hkx⟩
        rw [hk] at e2
        exact absurd (Option.some.inj e2).symm this.2
    · rw [if_neg hk, h.own]
      constructor
      · rintro ⟨x, hx, e, hkx⟩
        refine ⟨x, (mem_erase h.ids hj).2 ⟨hx, fun e2 => hk ?_⟩, e, hkx⟩
        rw [← e2]
        exact (h.own k x.id).2 ⟨x, hx, rfl, hkx⟩
      · rintro ⟨x, hx, e, hkx⟩
        exact ⟨x, ((mem_erase h.ids hj).1 hx).1, e, hkx⟩
  · have := h.num
    rw [hs] at this
    simp only [List.map_append, List.map_cons, List.sum_append, List.sum_cons] at this ⊢
    omega
/-- No locks of others are met. -/
def Free (W : List HV) (i : Int × Int) (ks : List KeyB) : Prop := ∀ x ∈ W, x.id ≠ i → ∀ k' ∈ x.L, ∀ k ∈ ks, meetV k'.1 k.1 = false
theorem WsOk.meets {W : List HV} {f : KeyB → Option (Int × Int)} {N : Nat} (h : WsOk W f N) {i : Int × Int} {ks : List KeyB} : Free W i ks ↔ ∀ k' i', f k' = some i' → i' ≠ i → ∀ k ∈ ks, meetV k.1 k'.1 = false := by
  constructor
  · intro hf k' i' h1 h2 k hk
    obtain ⟨x, hx, e, hkx⟩ := (h.own k' i').1 h1
    rw [meet_comm]
    exact hf x hx (by rw [e]; exact h2) k' hkx k hk
  · intro hf x hx hne k' hk' k hk
    rw [meet_comm]
    exact hf k' x.id ((h.own k' x.id).2 ⟨x, hx, rfl, hk'⟩) hne k hk
theorem WsOk.add {W : List HV} {f : KeyB → Option (Int × Int)} {N M : Nat} (h : WsOk W f N) {i : Int × Int} {a : AM.SA} {ks : List KeyB} (hi : ∀ x ∈ W, x.id ≠ i) (hs : StrictK ks) (hf : Free W i ks) (hM : N + ks.length ≤ M) :
    WsOk (W ++ [⟨i, a, ks⟩]) (fun k => if k ∈ ks then some i else f k) M := by
  refine ⟨?_, fun x hx => ?_, fun k i' => ?_, ?_⟩
  · rw [List.map_append, List.nodup_append]
    refine ⟨h.ids, by simp, fun a ha b hb => ?_⟩
    obtain ⟨x, hx, rfl⟩ := List.mem_map.1 ha
    simp at hb
    rw [hb]
    exact hi x hx
  · rcases List.mem_append.1 hx with hx | hx
    · exact h.str x hx
    · simp at hx
      rw [hx]
      exact hs
  · by_cases hk : k ∈ ks
    · rw [if_pos hk]
      constructor
      · intro e; cases e; exact ⟨⟨i, a, ks⟩, by simp, rfl, hk⟩
      · rintro ⟨x, hx, e, hkx⟩
        rcases List.mem_append.1 hx with hx | hx
        · have := hf x hx (hi x hx) k hkx k hk
          rw [meet_self] at this
          cases this
        · simp at hx
          rw [← e, hx]
    · rw [if_neg hk, h.own]
      constructor
      · rintro ⟨x, hx, e, hkx⟩; exact ⟨x, by simp [hx], e, hkx⟩
      · rintro ⟨x, hx, e, hkx⟩
        rcases List.mem_append.1 hx with hx | hx
        · exact ⟨x, hx, e, hkx⟩
        · simp at hx
          rw [hx] at hkx
          exact absurd hkx hk
  · have := h.num
    simp only [List.map_append, List.sum_append, List.map_cons, List.map_nil, List.sum_cons, List.sum_nil]
    omega
theorem WsOk.more {W : List HV} {f : KeyB → Option (Int × Int)} {N M : Nat} (h : WsOk W f N) {j : Nat} (hj : j < W.length) {a : AM.SA} {ks L : List KeyB} (hL : StrictK L) (hm : ∀ k, k ∈ L ↔ k ∈ W[j].L ∨ k ∈ ks) (hf : Free W W[j].id ks) (hM : N + ks.length ≤ M) :
    WsOk (W.set j ⟨W[j].id, a, L⟩) (fun k => if k ∈ ks then some W[j].id else f k) M := by
  have hs : W = W.take j ++ W[j] :: W.drop (j + 1) := by rw [List.getElem_cons_drop, List.take_append_drop]
  have hset : W.set j ⟨W[j].id, a, L⟩ = W.take j ++ ⟨W[j].id, a, L⟩ :: W.drop (j + 1) := by rw [List.set_eq_take_append_cons_drop, if_pos hj]
  have hmem : ∀ x, x ∈ W.set j ⟨W[j].id, a, L⟩ ↔ x = ⟨W[j].id, a, L⟩ ∨ (x ∈ W ∧ x.id ≠ W[j].id) := fun x => by
    rw [← mem_erase h.ids hj, hset]
    simp only [List.mem_append, List.mem_cons]
    constructor
    · rintro (h | h | h)
      · exact .inr (.inl h)
      · exact .inl h
      · exact .inr (.inr h)
    · rintro (h | h | h)
      · exact .inr (.inl h)
      · exact .inl h
      · exact .inr (.inr h)
  refine ⟨?_, fun x hx => ?_, fun k i' => ?_, ?_⟩
  · have : (W.set j ⟨W[j].id, a, L⟩).map HV.id = W.map HV.id := by
      have e2 := congrArg (List.map HV.id) hs
      rw [hset, e2, List.map_append, List.map_append, List.map_cons, List.map_cons]
    rw [this]; exact h.ids
  · rcases (hmem x).1 hx with rfl | hx
    · exact hL
    · exact h.str x hx.1
  · by_cases hk : k ∈ ks
    · rw [if_pos hk]
      constructor
      · intro e; cases e; exact ⟨_, (hmem _).2 (.inl rfl), rfl, (hm k).2 (.inr hk)⟩
      · rintro ⟨x, hx, e, hkx⟩
        rcases (hmem x).1 hx with rfl | hx
        · rw [← e]
        · have := hf x hx.1 hx.2 k hkx k hk
          rw [meet_self] at this
          cases this
    · rw [if_neg hk, h.own]
      constructor
      · rintro ⟨x, hx, e, hkx⟩
        by_cases hx2 : x.id = W[j].id
        · have : x = W[j] := inj_of h.ids hx (List.getElem_mem hj) hx2
          subst this
          exact ⟨_, (hmem _).2 (.inl rfl), e, (hm k).2 (.inl hkx)⟩
        · exact ⟨x, (hmem x).2 (.inr ⟨hx, hx2⟩), e, hkx⟩
      · rintro ⟨x, hx, e, hkx⟩
        rcases (hmem x).1 hx with rfl | hx
        · rcases (hm k).1 hkx with h1 | h1
          · exact ⟨W[j], List.getElem_mem hj, e, h1⟩
          · exact absurd h1 hk
        · exact ⟨x, hx.1, e, hkx⟩
  · have h1 := h.num
    have h2 : L.length ≤ W[j].L.length + ks.length := by
      have := nodup_sub (m := W[j].L ++ ks) (strict_nodup hL) fun k hk => List.mem_append.2 ((hm k).1 hk)
      rw [List.length_append] at this
      exact this
    rw [hset]
    rw [hs] at h1
    simp only [List.map_append, List.map_cons, List.sum_append, List.sum_cons] at h1 ⊢
    omega
end Go.Proofs.YtajincfelnmlhaaGreat
