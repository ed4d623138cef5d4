/- A walk over a map's entries, in the kit's own words. -/
import Derived.RangeFuncNested
import Derived.WalkKit
import Derived.OwnWalkIn
import Derived.TacticsInMore
import Derived.LoopNIn
import Derived.RangeFuncBox
import Derived.RangeFuncLeaves
import Derived.Lib.SlKeysI
import Derived.Maps.RangeRun
import Derived.Sort.MapsRangeIn
import Derived.Test.YthmdecfiijgaoaaGreatAmKeys
namespace Go.AM
open Go Go.RowKit Go.Sort Go.Maps
attribute [local go_sem] Oper.semAt_some

/-- A walk over a map under way. -/
structure Under (W : World) (b r : Nat) (ces : Array MapEntry) (clock : Nat) (seen : Array Nat) : Prop where
  map : W.heap[b]? = some (.map ces clock)
  it : W.heap[r]? = some (.mapIter (some b) clock seen clock)
theorem Under.walks {W W' : World} {b r : Nat} {ces : Array MapEntry} {clock : Nat} {seen : Array Nat} (h : Under W b r ces clock seen) (hk : KeepsWalks W W') : Under W' b r ces clock seen :=
  ⟨hk.same b _ h.map rfl, hk.same r _ h.it rfl⟩

section
variable {F : Fence} {n : Nat} {P : Program} {ops : Array Oper} {rest : List Oper} {o : Oper} {a : Act} {Q : Exit → Act → World → Prop}

theorem wpListIn_range_raw (w : World) (hg : o.guard = none) (m : Operand) (t k e : TypeId) (hop : o.op = Op.range t m) (ht : P.underlying t = some (.map k e)) (b : Nat) (ces : Array MapEntry) (clock : Nat)
    (hm : a.eval m = .map (some b)) (hb : w.heap[b]? = some (.map ces clock))
    (hK : Under (w.alloc (.mapIter (some b) clock #[] clock)) b w.heap.size ces clock #[] → wpListIn F n P ops Q rest (a.put o.dst (.pointer (some ⟨w.heap.size, 0, none⟩))) (w.alloc (.mapIter (some b) clock #[] clock))) :
    wpListIn F n P ops Q (o :: rest) a w := by
  refine wpListIn_plain hg fun K' hK' => ?_
  have hbl : b < w.heap.size := (Array.getElem?_eq_some_iff.1 hb).1
  have hrun : (Instr.range t (.map (some b))).run P w = .ok (.pointer (some ⟨w.heap.size, 0, none⟩)) (w.alloc (.mapIter (some b) clock #[] clock)) := by
    simp [Instr.range, run_underlying ht, run_getObj_of hb (by simp)]
  unfold Oper.wpIn
  refine ⟨?_, ?_⟩
  · simp [Oper.about, hop]
  · rw [Oper.semAt_plain F _ _ (by rw [hop]; intro c hc'; cases hc')]
    simp [execOp, hop, hm, hrun, Result.andThen]
    exact hK' _ _ (hK ⟨(Below.heap_alloc _ _ b hbl).trans hb, World.alloc_heap_new w _⟩)

theorem wpListIn_next_raw (w : World) (hg : o.guard = none) (it : Operand) (hop : o.op = Op.next it false) (b r : Nat) (ces : Array MapEntry) (clock : Nat) (seen : Array Nat) (hne : b ≠ r) (hw : Under w b r ces clock seen) (ht : EntTold ces clock)
    (hit : a.eval it = .pointer (some ⟨r, 0, none⟩))
    (hDone : (leftOf ces seen).size = 0 → wpListIn F n P ops Q rest (a.put o.dst (.tuple #[.bool false])) w)
    (hMore : ∀ (e : MapEntry) (w' : World), e ∈ (leftOf ces seen).toList → Under w' b r ces clock (seen.push e.born) → w.grownBy w' (some r) → w'.heap.size = w.heap.size →
      (Instr.entry (.pointer (some ⟨r, 0, none⟩))).run P w' = .ok (.tuple #[e.key, e.val]) w' → wpListIn F n P ops Q rest (a.put o.dst (.tuple #[.bool true, e.key, e.val])) w') :
    wpListIn F n P ops Q (o :: rest) a w := by
  refine wpListIn_plain hg fun K' hK' => ?_
  unfold Oper.wpIn
  refine ⟨by simp [Oper.about, hop], ?_⟩
  rw [Oper.semAt_plain F _ _ (by rw [hop]; intro c hc'; cases hc')]
  rcases run_next_at (P := P) w o.type r b clock clock seen ces clock hw.it hw.map ht.old (Nat.le_refl _) with ⟨h0, hrun⟩ | ⟨e, he, w1, hal, hrun⟩
  · simp [execOp, hop, hit, hrun, Result.andThen]
    exact hK' _ _ (hDone h0)
  · simp [execOp, hop, hit, hrun, Result.andThen]
    have hr1 : w1.heap[r]? = some (.mapIter (some b) clock seen clock) := by rcases hal with rfl | rfl <;> exact hw.it
    have hb1 : w1.heap[b]? = some (.map ces clock) := by rcases hal with rfl | rfl <;> exact hw.map
    have hset := MapKept.heap_set (o' := .mapIter (some b) clock (seen.push e.born) clock) hr1
    have hb' : (ChangeMaps.setBlock w1 r (.mapIter (some b) clock (seen.push e.born) clock)).heap[b]? = some (.map ces clock) := (hset.2 b hne).trans hb1
    have hu : Under (ChangeMaps.setBlock w1 r (.mapIter (some b) clock (seen.push e.born) clock)) b r ces clock (seen.push e.born) := ⟨hb', hset.1⟩
    refine hK' _ _ (hMore e _ he hu ?_ ?_ (run_entry_at _ r b clock seen ces clock e hset.1 hb' (mem_left he).1 ht.nod))
    · rcases hal with rfl | rfl <;> exact ⟨rfl, rfl, rfl, by simp [ChangeMaps.setBlock], fun i _ hi => hset.2 i (fun e1 => hi (by rw [e1]))⟩
    · rcases hal with rfl | rfl <;> simp [ChangeMaps.setBlock]
end

theorem nodup_le : ∀ {l m : List Nat}, l.Nodup → (∀ x ∈ l, x ∈ m) → l.length ≤ m.length
  | [], _, _, _ => Nat.zero_le _
  | x :: l, m, hl, h => by
    obtain ⟨h1, h2⟩ := List.nodup_cons.1 hl
    have hx := h x (by simp)
    have := nodup_le (m := m.erase x) h2 fun y hy => (List.mem_erase_of_ne (fun e => h1 (by rw [← e]; exact hy))).2 (h y (by simp [hy]))
    rw [List.length_erase_of_mem hx] at this
    have : 0 < m.length := List.length_pos_of_mem hx
    rw [List.length_cons]; omega

/-- What has come: the entries js, each once. -/
structure Came {α : Type} [Inhabited α] (ces : Array MapEntry) (ks : List α) (seen : Array Nat) (js : List Nat) (xs : List α) : Prop where
  nod : js.Nodup
  lt : ∀ j ∈ js, j < ces.size
  seen : seen.toList = js.map fun j => (ces[j]?.map (·.born)).getD 0
  xs : xs = js.map fun j => ks[j]?.getD default
theorem Came.start {α : Type} [Inhabited α] (ces : Array MapEntry) (ks : List α) : Came ces ks #[] [] [] := ⟨.nil, fun _ h => by simp at h, rfl, rfl⟩
theorem Came.step {α : Type} [Inhabited α] {enc : α → Value} {ces : Array MapEntry} {ks : List α} {seen : Array Nat} {js : List Nat} {xs : List α} (h : Came ces ks seen js xs) (hk : KeysAs enc ces ks) {e : MapEntry} (he : e ∈ (leftOf ces seen).toList) :
    ∃ j p, e.key = enc p ∧ Came ces ks (seen.push e.born) (js ++ [j]) (xs ++ [p]) ∧ js.length < ks.length := by
  obtain ⟨h1, h2⟩ := mem_left he
  obtain ⟨j, hj⟩ := List.getElem?_of_mem h1
  rw [Array.getElem?_toList] at hj
  obtain ⟨p, hp, hkey⟩ := hk.2 j e hj
  have hjl : j < ces.size := (Array.getElem?_eq_some_iff.1 hj).1
  have hnot : j ∉ js := fun hm => by
    have : e.born ∈ seen.toList := by
      rw [h.seen]
      exact List.mem_map.2 ⟨j, hm, by rw [hj]; rfl⟩
    have : seen.contains e.born = true := by
      rw [Array.contains_iff_mem]; exact Array.mem_toList_iff.1 this
    rw [this] at h2; cases h2
  refine ⟨j, p, hkey, ⟨?_, fun i hi => ?_, ?_, ?_⟩, ?_⟩
  · exact List.nodup_append.2 ⟨h.nod, by simp, fun a ha b hb => by simp at hb; subst hb; intro e1; subst e1; exact hnot ha⟩
  · rcases List.mem_append.1 hi with hi | hi
    · exact h.lt i hi
    · simp at hi; omega
  · rw [Array.toList_push, h.seen, List.map_append, List.map_singleton, hj]; rfl
  · rw [h.xs, List.map_append, List.map_singleton, hp]; rfl
  · have hsub : (j :: js).Nodup := List.nodup_cons.2 ⟨hnot, h.nod⟩
    have hle : (j :: js).length ≤ (List.range ces.size).length := by
      refine nodup_le hsub fun x hx => ?_
      rcases List.mem_cons.1 hx with rfl | hx
      · exact List.mem_range.2 hjl
      · exact List.mem_range.2 (h.lt x hx)
    simp at hle
    have := hk.1
    omega
theorem Came.done {α : Type} [Inhabited α] {enc : α → Value} {ces : Array MapEntry} {ks : List α} {seen : Array Nat} {js : List Nat} {xs : List α} {clock : Nat} (h : Came ces ks seen js xs) (ht : EntTold ces clock) (hk : KeysAs enc ces ks) (h0 : (leftOf ces seen).size = 0) : xs.Perm ks := by
  have hall := all_seen ces seen h0
  have hp : js.Perm (List.range ces.size) := by
    refine (List.perm_ext_iff_of_nodup h.nod List.nodup_range).2 fun j => ⟨fun hj => List.mem_range.2 (h.lt j hj), fun hj => ?_⟩
    have hj' : j < ces.size := List.mem_range.1 hj
    have := hall ces[j] (Array.mem_toList_iff.2 (Array.getElem_mem hj'))
    rw [Array.contains_iff_mem, ← Array.mem_toList_iff, h.seen, List.mem_map] at this
    obtain ⟨i, hi, hb⟩ := this
    have hil := h.lt i hi
    rw [Array.getElem?_eq_getElem hil] at hb
    have hb' : ces[i].born = ces[j].born := hb
    have : i = j := by
      have h1 : (ces.toList.map (·.born))[i]? = some ces[j].born := by
        rw [List.getElem?_map, Array.getElem?_toList, Array.getElem?_eq_getElem hil, ← hb']; rfl
      have h2 : (ces.toList.map (·.born))[j]? = some ces[j].born := by
        rw [List.getElem?_map, Array.getElem?_toList, Array.getElem?_eq_getElem hj']; rfl
      exact (List.getElem?_inj (by simpa using hil) ht.nod).1 (h1.trans h2.symm)
    rw [← this]; exact hi
  rw [h.xs]
  refine (hp.map _).trans ?_
  rw [hk.1]
  have : (List.range ks.length).map (fun j => ks[j]?.getD default) = ks := by
    apply List.ext_getElem
    · simp
    · intro i h1 h2; simp [h2]
  rw [this]

end Go.AM
