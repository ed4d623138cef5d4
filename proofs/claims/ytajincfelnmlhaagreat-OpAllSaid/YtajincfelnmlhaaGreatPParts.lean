/- Parts: in plain lists. -/
import Derived.Test.YtajincfelnmlhaaGreatGmParts
namespace Go.Proofs.YtajincfelnmlhaaGreat
/-- A part: the places of shard s, rising. -/
def partF (f : Nat → Nat) (n s : Nat) : List Nat := (List.range n).filter fun k => f k == s
theorem partF_succ (f : Nat → Nat) (n s : Nat) : partF f (n + 1) s = partF f n s ++ (if f n = s then [n] else []) := by
  unfold partF
  rw [List.range_succ, List.filter_append]
  congr 1
  by_cases h : f n = s
  · rw [if_pos h]; simp [h]
  · rw [if_neg h]; simp [h]
theorem partF_mem {f : Nat → Nat} {n s k : Nat} : k ∈ partF f n s ↔ k < n ∧ f k = s := by
  unfold partF
  rw [List.mem_filter, List.mem_range, beq_iff_eq]
theorem partF_sorted (f : Nat → Nat) (n s : Nat) : (partF f n s).Pairwise (· < ·) := List.Pairwise.filter _ List.pairwise_lt_range
theorem partsI_get {f : Nat → Nat} {m : Nat} : ∀ {n : Nat}, (∀ i, i < n → f i < m) → ∀ s, s < m → (partsI f m n)[s]? = some ((partF f n s).map fun (k : Nat) => (k : Int))
  | 0, _, s, hs => by
    rw [partsI, List.getElem?_replicate, if_pos hs]
    rfl
  | n + 1, hf, s, hs => by
    have ih := partsI_get (n := n) (fun i hi => hf i (by omega))
    have hfn := hf n (by omega)
    rw [partsI, partF_succ, List.map_append]
    by_cases e : f n = s
    · subst e
      rw [List.getElem?_set_self (by rw [partsI_len]; exact hfn), List.getD_eq_getElem?_getD, ih _ hfn, if_pos rfl]
      rfl
    · rw [List.getElem?_set_ne e, ih s hs, if_neg e]
      simp
/-- How often each place was met, when i of shard s's are done, and all of the shards ahead. -/
def seenV (f : Nat → Nat) (n s i : Nat) : List Int := (List.range n).map fun k => if f k < s ∨ (f k = s ∧ k ∈ (partF f n s).take i) then 1 else 0
theorem seenV_len (f : Nat → Nat) (n s i : Nat) : (seenV f n s i).length = n := by simp [seenV]
theorem seenV_get (f : Nat → Nat) {n k : Nat} (s i : Nat) (hk : k < n) : (seenV f n s i)[k]? = some (if f k < s ∨ (f k = s ∧ k ∈ (partF f n s).take i) then 1 else 0) := by
  unfold seenV
  rw [List.getElem?_map, List.getElem?_range hk]
  rfl
theorem seenV_start (f : Nat → Nat) (n : Nat) : seenV f n 0 0 = List.replicate n 0 := by
  apply List.ext_getElem?
  intro k
  by_cases hk : k < n
  · rw [seenV_get f 0 0 hk, List.getElem?_replicate, if_pos hk, if_neg]
    rintro (h | ⟨_, h⟩)
    · omega
    · simp at h
  · rw [List.getElem?_eq_none (by rw [seenV_len]; omega), List.getElem?_eq_none (by simp; omega)]
theorem part_nodup (f : Nat → Nat) (n s : Nat) : (partF f n s).Nodup := (partF_sorted f n s).imp fun h => Nat.ne_of_lt h
theorem not_yet (f : Nat → Nat) (n s i : Nat) (h : i < (partF f n s).length) : (partF f n s)[i] ∉ (partF f n s).take i := by
  intro hm
  obtain ⟨j, hj, e⟩ := List.mem_take_iff_getElem.1 hm
  have := (List.getElem_inj (part_nodup f n s)).1 e
  omega
theorem seenV_at {f : Nat → Nat} {n s i : Nat} (h : i < (partF f n s).length) : (seenV f n s i)[(partF f n s)[i]]? = some 0 := by
  have hm := partF_mem.1 (List.getElem_mem h)
  rw [seenV_get f s i hm.1, if_neg]
  rintro (hh | ⟨_, hh⟩)
  · omega
  · exact not_yet f n s i h hh
theorem seenV_step {f : Nat → Nat} {n s i : Nat} (h : i < (partF f n s).length) : (seenV f n s i).set (partF f n s)[i] 1 = seenV f n s (i + 1) := by
  have hm := partF_mem.1 (List.getElem_mem h)
  have ht : (partF f n s).take (i + 1) = (partF f n s).take i ++ [(partF f n s)[i]] := List.take_succ_eq_append_getElem h
  apply List.ext_getElem?
  intro k
  by_cases hk : k < n
  · rw [seenV_get f s (i + 1) hk, ht]
    by_cases e : (partF f n s)[i] = k
    · rw [e, List.getElem?_set_self (by rw [seenV_len]; exact hk), if_pos]
      right
      exact ⟨by rw [← e]; exact hm.2, by simp⟩
    · rw [List.getElem?_set_ne e, seenV_get f s i hk]
      congr 1
      have : k ∈ (partF f n s).take i ++ [(partF f n s)[i]] ↔ k ∈ (partF f n s).take i := by
        rw [List.mem_append, List.mem_singleton]
        exact ⟨fun h => h.elim id fun e2 => absurd e2.symm e, .inl⟩
      simp only [this]
  · rw [List.getElem?_eq_none (by rw [List.length_set, seenV_len]; omega), List.getElem?_eq_none (by rw [seenV_len]; omega)]
theorem seenV_next (f : Nat → Nat) (n s : Nat) : seenV f n s (partF f n s).length = seenV f n (s + 1) 0 := by
  apply List.ext_getElem?
  intro k
  by_cases hk : k < n
  · rw [seenV_get f s _ hk, seenV_get f (s + 1) 0 hk, List.take_length]
    congr 1
    have : (f k < s ∨ f k = s ∧ k ∈ partF f n s) ↔ (f k < s + 1 ∨ f k = s + 1 ∧ k ∈ (partF f n (s + 1)).take 0) := by
      rw [partF_mem]
      simp
      omega
    simp only [this]
  · rw [List.getElem?_eq_none (by rw [seenV_len]; omega), List.getElem?_eq_none (by rw [seenV_len]; omega)]
theorem seenV_end {f : Nat → Nat} {n m k : Nat} (hf : ∀ i, i < n → f i < m) (hk : k < n) : (seenV f n m 0)[k]? = some 1 := by
  rw [seenV_get f m 0 hk, if_pos (.inl (hf k hk))]
end Go.Proofs.YtajincfelnmlhaaGreat
