/- maps.Keys's iterator over a map with struct keys, collected. -/
import Derived.RangeFuncNested
import Derived.RangeFuncBox
import Derived.RangeFuncLeaves
import Derived.Shelf.Abstract
import Derived.WalkKit
import Derived.OwnWalkIn
import Derived.TacticsInMore
import Derived.LoopNIn
import Derived.LoopIn
import Derived.Maps.AppendAt
import Derived.Maps.RangeRun
import Derived.Sort.MapsRangeIn
import Derived.Lib.SlKeysI
import Derived.Test.YtjooccdeeejecaaProg
import Derived.Test.YtjooccdeeejecaaAmKeys
namespace Go.Proofs.Ytjooccdeeejecaa
open Go Go.RowKit Go.Shelf Go.AM Go.Sort Go.Maps
attribute [local go_sem] Oper.semAt_some

/-- A walk over a map under way. -/
structure Under (W : World) (b r : Nat) (ces : Array MapEntry) (clock : Nat) (seen : Array Nat) : Prop where
  map : W.heap[b]? = some (.map ces clock)
  it : W.heap[r]? = some (.mapIter (some b) clock seen clock)
theorem Under.walks {W W' : World} {b r : Nat} {ces : Array MapEntry} {clock : Nat} {seen : Array Nat} (h : Under W b r ces clock seen) (hk : KeepsWalks W W') : Under W' b r ces clock seen :=
  ⟨hk.same b _ h.map rfl, hk.same r _ h.it rfl⟩

section
variable {F : Fence} {n : Nat} {P : Program} {ops : Array Oper} {rest : List Oper} {o : Oper} {a : Act} {Q : Exit → Act → World → Prop}

theorem wpListIn_range_raw (w : World) (hg : o.guard = none) (m : Operand) (t k e : TypeId) (hop : o.op = Op.range t m) (ht : P.underlying t = some (.map k e)) (b : Nat) (ces : Array MapEntry) (clock : Nat)
    (hm : a.eval m = .map (some b)) (hb : w.heap[b]? = some (.map ces clock))
    (hK : Under (w.alloc (.mapIter (some b) clock #[] clock)) b w.heap.size ces clock #[] → wpListIn F n P ops Q rest (a.put o.dst (.pointer (some ⟨w.heap.size, 0, none⟩))) (w.alloc (.mapIter (some b) clock #[] clock))) :
    wpListIn F n P ops Q (o :: rest) a w := by
  refine wpListIn_plain hg fun K' hK' => ?_
  have hbl : b < w.heap.size := (Array.getElem?_eq_some_iff.1 hb).1
  have hrun : (Instr.range t (.map (some b))).run P w = .ok (.pointer (some ⟨w.heap.size, 0, none⟩)) (w.alloc (.mapIter (some b) clock #[] clock)) := by
    simp [Instr.range, run_underlying ht, run_getObj_of hb (by simp)]
  unfold Oper.wpIn
  refine ⟨?_, ?_⟩
  · simp [Oper.about, hop]
  · rw [Oper.semAt_plain F _ _ (by rw [hop]; intro c hc'; cases hc')]
    simp [execOp, hop, hm, hrun, Result.andThen]
    exact hK' _ _ (hK ⟨(Below.heap_alloc _ _ b hbl).trans hb, World.alloc_heap_new w _⟩)

theorem wpListIn_next_raw (w : World) (hg : o.guard = none) (it : Operand) (hop : o.op = Op.next it false) (b r : Nat) (ces : Array MapEntry) (clock : Nat) (seen : Array Nat) (hne : b ≠ r) (hw : Under w b r ces clock seen) (ht : EntTold ces clock)
    (hit : a.eval it = .pointer (some ⟨r, 0, none⟩))
    (hDone : (leftOf ces seen).size = 0 → wpListIn F n P ops Q rest (a.put o.dst (.tuple #[.bool false])) w)
    (hMore : ∀ (e : MapEntry) (w' : World), e ∈ (leftOf ces seen).toList → Under w' b r ces clock (seen.push e.born) → w.grownBy w' (some r) → w'.heap.size = w.heap.size →
      (Instr.entry (.pointer (some ⟨r, 0, none⟩))).run P w' = .ok (.tuple #[e.key, e.val]) w' → wpListIn F n P ops Q rest (a.put o.dst (.tuple #[.bool true, e.key, e.val])) w') :
    wpListIn F n P ops Q (o :: rest) a w := by
  refine wpListIn_plain hg fun K' hK' => ?_
  unfold Oper.wpIn
  refine ⟨by simp [Oper.about, hop], ?_⟩
  rw [Oper.semAt_plain F _ _ (by rw [hop]; intro c hc'; cases hc')]
  rcases run_next_at (P := P) w o.type r b clock clock seen ces clock hw.it hw.map ht.old (Nat.le_refl _) with ⟨h0, hrun⟩ | ⟨e, he, w1, hal, hrun⟩
  · simp [execOp, hop, hit, hrun, Result.andThen]
    exact hK' _ _ (hDone h0)
  · simp [execOp, hop, hit, hrun, Result.andThen]
    have hr1 : w1.heap[r]? = some (.mapIter (some b) clock seen clock) := by rcases hal with rfl | rfl <;> exact hw.it
    have hb1 : w1.heap[b]? = some (.map ces clock) := by rcases hal with rfl | rfl <;> exact hw.map
    have hset := MapKept.heap_set (o' := .mapIter (some b) clock (seen.push e.born) clock) hr1
    have hb' : (ChangeMaps.setBlock w1 r (.mapIter (some b) clock (seen.push e.born) clock)).heap[b]? = some (.map ces clock) := (hset.2 b hne).trans hb1
    have hu : Under (ChangeMaps.setBlock w1 r (.mapIter (some b) clock (seen.push e.born) clock)) b r ces clock (seen.push e.born) := ⟨hb', hset.1⟩
    refine hK' _ _ (hMore e _ he hu ?_ ?_ (run_entry_at _ r b clock seen ces clock e hset.1 hb' (mem_left he).1 ht.nod))
    · rcases hal with rfl | rfl <;> exact ⟨rfl, rfl, rfl, by simp [ChangeMaps.setBlock], fun i _ hi => hset.2 i (fun e1 => hi (by rw [e1]))⟩
    · rcases hal with rfl | rfl <;> simp [ChangeMaps.setBlock]
end

theorem nodup_le : ∀ {l m : List Nat}, l.Nodup → (∀ x ∈ l, x ∈ m) → l.length ≤ m.length
  | [], _, _, _ => Nat.zero_le _
  | x :: l, m, hl, h => by
    obtain ⟨h1, h2⟩ := List.nodup_cons.1 hl
    have hx := h x (by simp)
    have := nodup_le (m := m.erase x) h2 fun y hy => (List.mem_erase_of_ne (fun e => h1 (by rw [← e]; exact hy))).2 (h y (by simp [hy]))
    rw [List.length_erase_of_mem hx] at this
    have : 0 < m.length := List.length_pos_of_mem hx
    rw [List.length_cons]; omega

/-- What has come: the entries js, each once. -/
structure Came (ces : Array MapEntry) (ks : List (Int × Int)) (seen : Array Nat) (js : List Nat) (xs : List (Int × Int)) : Prop where
  nod : js.Nodup
  lt : ∀ j ∈ js, j < ces.size
  seen : seen.toList = js.map fun j => (ces[j]?.map (·.born)).getD 0
  xs : xs = js.map fun j => ks[j]?.getD (0, 0)
theorem Came.start (ces : Array MapEntry) (ks : List (Int × Int)) : Came ces ks #[] [] [] := ⟨.nil, fun _ h => by simp at h, rfl, rfl⟩
theorem Came.step {ces : Array MapEntry} {ks : List (Int × Int)} {seen : Array Nat} {js : List Nat} {xs : List (Int × Int)} (h : Came ces ks seen js xs) (hk : Keys ces ks) {e : MapEntry} (he : e ∈ (leftOf ces seen).toList) :
    ∃ j p, e.key = encI p ∧ Came ces ks (seen.push e.born) (js ++ [j]) (xs ++ [p]) ∧ js.length < ks.length := by
  obtain ⟨h1, h2⟩ := mem_left he
  obtain ⟨j, hj⟩ := List.getElem?_of_mem h1
  rw [Array.getElem?_toList] at hj
  obtain ⟨p, hp, hkey⟩ := hk.2 j e hj
  have hjl : j < ces.size := (Array.getElem?_eq_some_iff.1 hj).1
  have hnot : j ∉ js := fun hm => by
    have : e.born ∈ seen.toList := by
      rw [h.seen]
      exact List.mem_map.2 ⟨j, hm, by rw [hj]; rfl⟩
    have : seen.contains e.born = true := by
      rw [Array.contains_iff_mem]; exact Array.mem_toList_iff.1 this
    rw [this] at h2; cases h2
  refine ⟨j, p, hkey, ⟨?_, fun i hi => ?_, ?_, ?_⟩, ?_⟩
  · exact List.nodup_append.2 ⟨h.nod, by simp, fun a ha b hb => by simp at hb; subst hb; intro e1; subst e1; exact hnot ha⟩
  · rcases List.mem_append.1 hi with hi | hi
    · exact h.lt i hi
    · simp at hi; omega
  · rw [Array.toList_push, h.seen, List.map_append, List.map_singleton, hj]; rfl
  · rw [h.xs, List.map_append, List.map_singleton, hp]; rfl
  · have hsub : (j :: js).Nodup := List.nodup_cons.2 ⟨hnot, h.nod⟩
    have hle : (j :: js).length ≤ (List.range ces.size).length := by
      refine nodup_le hsub fun x hx => ?_
      rcases List.mem_cons.1 hx with rfl | hx
      · exact List.mem_range.2 hjl
      · exact List.mem_range.2 (h.lt x hx)
    simp at hle
    have := hk.1
    omega
theorem Came.done {ces : Array MapEntry} {ks : List (Int × Int)} {seen : Array Nat} {js : List Nat} {xs : List (Int × Int)} {clock : Nat} (h : Came ces ks seen js xs) (ht : EntTold ces clock) (hk : Keys ces ks) (h0 : (leftOf ces seen).size = 0) : xs.Perm ks := by
  have hall := all_seen ces seen h0
  have hp : js.Perm (List.range ces.size) := by
    refine (List.perm_ext_iff_of_nodup h.nod List.nodup_range).2 fun j => ⟨fun hj => List.mem_range.2 (h.lt j hj), fun hj => ?_⟩
    have hj' : j < ces.size := List.mem_range.1 hj
    have := hall ces[j] (Array.mem_toList_iff.2 (Array.getElem_mem hj'))
    rw [Array.contains_iff_mem, ← Array.mem_toList_iff, h.seen, List.mem_map] at this
    obtain ⟨i, hi, hb⟩ := this
    have hil := h.lt i hi
    rw [Array.getElem?_eq_getElem hil] at hb
    have hb' : ces[i].born = ces[j].born := hb
    have : i = j := by
      have h1 : (ces.toList.map (·.born))[i]? = some ces[j].born := by
        rw [List.getElem?_map, Array.getElem?_toList, Array.getElem?_eq_getElem hil, ← hb']; rfl
      have h2 : (ces.toList.map (·.born))[j]? = some ces[j].born := by
        rw [List.getElem?_map, Array.getElem?_toList, Array.getElem?_eq_getElem hj']; rfl
      exact (List.getElem?_inj (by simpa using hil) ht.nod).1 (h1.trans h2.symm)
    rw [← this]; exact hi
  rw [h.xs]
  refine (hp.map _).trans ?_
  rw [hk.1]
  have : (List.range ks.length).map (fun j => ks[j]?.getD (0, 0)) = ks := by
    apply List.ext_getElem
    · simp
    · intro i h1 h2; simp [h2]
  rw [this]

set_option maxRecDepth 100000 in
set_option maxHeartbeats 2000000 in
theorem keys1_in (F : Fence) (n : Nat) (h30 : F.fn 30) (hro : F.round = none) (hn : 1 ≤ n) (l Bm b : Nat) (ces : Array MapEntry) (clock : Nat) (ks : List (Int × Int)) (ht : EntTold ces clock) (hk : Keys ces ks) (J Jx : List (Int × Int) → World → Prop)
    (hY : ∀ pre x W, J pre W → pre.length < ks.length → YieldAt F (n - 1) Try.prog l #[encI x] W fun e W' => (e = .returned (.bool true) ∧ J (pre ++ [x]) W' ∧ KeepsWalks W W') ∨ (e = .returned (.bool false) ∧ Jx (pre ++ [x]) W'))
    (W : World) (hJ : AbidesFrom W.heap.size J) (hm : W.cell? ⟨Bm, 0, none⟩ = some (.map (some b))) (hb : W.heap[b]? = some (.map ces clock)) (h0 : J [] W) :
    CallsIn F n Try.prog 30 #[.func (.yield l) #[] #[], .pointer (some ⟨Bm, 0, none⟩)] W fun e W' => (∃ v, e = .returned v) ∧ ((∃ xs : List (Int × Int), xs.Perm ks ∧ J xs W') ∨ ∃ pre, Jx pre W') := by
  have hbl : b < W.heap.size := (Array.getElem?_eq_some_iff.1 hb).1
  refine callsIn_of_wp Try.func30 rfl h30 ?_ hro
  simp only [Try.ntmps30, List.size_toArray, List.length_cons, List.length_nil, Nat.reduceAdd, Nat.reduceSub, Array.replicate_succ, Array.replicate_zero, List.push_toArray, List.append_toArray, List.nil_append, List.cons_append]
  gi_wp2_with (first
    | (gi_at_range; refine wpListIn_range_raw _ rfl _ 43 28 4 rfl Try.underlying43 b ces clock rfl hb ?_; intro hu0)
    | gi_in)
  go_frame
  gi_loopw [3] (fun _ wr => ∃ (seen : Array Nat) (js : List Nat) (xs : List (Int × Int)), Under wr b W.heap.size ces clock seen ∧ Came ces ks seen js xs ∧ J xs wr ∧ W.heap.size ≤ wr.heap.size)
    (fun _ wr => wr.rangeLeft b W.heap.size)
  case atStart =>
    exact ⟨_, _, _, hu0, Came.start ces ks, hJ [] W _ none h0 (World.grownBy_alloc W _ none) (fun r e => by cases e), by simp⟩
  case round =>
    obtain ⟨seen, js, xs, hu, hC, hJs, hsz⟩ := hrel
    gi_wp2_with (first
      | (gi_at_next; refine wpListIn_next_raw _ rfl _ rfl b W.heap.size ces clock seen (Nat.ne_of_lt hbl) hu ht rfl ?_ ?_)
      | gi_in)
    · intro h00
      gi_wp2
      go_end0
      exact ⟨⟨_, rfl⟩, .inl ⟨xs, hC.done ht hk (by rw [h00]; rfl), hJs⟩⟩
    · intro e w2 hel hu2 hg2 hs2 hen
      obtain ⟨j, p, hkey, hC2, hjl⟩ := hC.step hk (Array.mem_toList_iff.2 hel)
      rw [hkey] at hen ⊢
      have hJ2 : J xs w2 := hJ xs wr w2 (some W.heap.size) hJs hg2 (fun r e => by cases e; exact ⟨Nat.le_refl _, _, hu.it, rfl⟩)
      have hJ3 := hJ xs w2 (w2.alloc (.cells #[.int .i64 p.1, .int .i64 p.2] 28)) none hJ2 (World.grownBy_alloc _ _ none) (fun r e => by cases e)
      have hu3 : Under (w2.alloc (.cells #[.int .i64 p.1, .int .i64 p.2] 28)) b W.heap.size ces clock (seen.push e.born) := hu2.walks (KeepsWalks.alloc _ _)
      have hxl : xs.length < ks.length := by rw [hC.xs, List.length_map]; exact hjl
      obtain ⟨fn, tmps, assign, body, hy, hR⟩ := hY xs p _ hJ3 hxl
      have hlt := left_shrinks ces seen e (Array.mem_toList_iff.2 hel)
      have hsz3 := hg2.size
      dsimp only [encI] at hen hy ⊢
      clear hs2
      gi_wp2
      refine hR.mono ?_
      rintro e' W3 (⟨rfl, hJ4, hk3⟩ | ⟨rfl, hJx⟩)
      · gi_wp2
        have hu4 := hu3.walks hk3
        go_roundw
        case rel => exact ⟨_, _, xs ++ [p], hu4, hC2, hJ4, by have := hk3.size; simp at this; omega⟩
        case measure =>
          unfold World.rangeLeft
          rw [hu4.map, hu4.it, hu.map, hu.it]
          exact hlt
      · gi_wp2
        refine bodyPost_ret (results_none rfl _ _ _) rfl ?_
        exact ⟨⟨_, rfl⟩, .inr ⟨_, hJx⟩⟩

/-- maps.Keys's iterator: the keys come, each once, in some order. -/
theorem keys_stops (F : Fence) (n : Nat) (h30 : F.fn 30) (hro : F.round = none) (hn : 1 ≤ n) (Bm b : Nat) (ces : Array MapEntry) (clock : Nat) (ks : List (Int × Int)) (ht : EntTold ces clock) (hk : Keys ces ks) (w : World)
    (hm : w.cell? ⟨Bm, 0, none⟩ = some (.map (some b))) (hb : w.heap[b]? = some (.map ces clock)) :
    SeqStopsK F n Try.prog 30 #[.pointer (some ⟨Bm, 0, none⟩)] (fun x : Int × Int => #[encI x]) KeepsWalks (fun xs => xs.Perm ks) (fun _ => True) ks.length w := fun l J Jx W hW hJ _ hY h0 => by
  have hbl : b < w.heap.size := (Array.getElem?_eq_some_iff.1 hb).1
  have hBm : Bm < w.heap.size := by
    unfold World.cell? at hm
    split at hm
    · rename_i hh; exact (Array.getElem?_eq_some_iff.1 hh).1
    · cases hm
  refine (keys1_in F n h30 hro hn l Bm b ces clock ks ht hk J Jx hY W hJ ((hW.cell (p := ⟨Bm, 0, none⟩) hBm).trans hm) ((hW.block b hbl).trans hb) h0).mono ?_
  rintro e W' ⟨h1, h2 | ⟨pre, h3⟩⟩
  · exact ⟨h1, .inl h2⟩
  · exact ⟨h1, .inr ⟨pre, trivial, h3⟩⟩
theorem info28 : (Try.prog.info? 28).map (fun i => (i.zero, i.size, i.bytes)) = some (some (.agg #[.int .i64 0, .int .i64 0]), 2, 16) := by kernel_rfl

set_option maxRecDepth 100000 in
set_option maxHeartbeats 2000000 in
theorem appendSeq_in (F : Fence) (n : Nat) (h43 : F.fn 43) (h30 : F.fn 30) (hro : F.round = none) (hn : 3 ≤ n) (Bm b : Nat) (ces : Array MapEntry) (clock : Nat) (ks : List (Int × Int)) (ht : EntTold ces clock) (hk : Keys ces ks) (hlen : ks.length ≤ 1000000) (w : World)
    (hm : w.cell? ⟨Bm, 0, none⟩ = some (.map (some b))) (hb : w.heap[b]? = some (.map ces clock)) :
    CallsIn F n Try.prog 43 #[.slice none 0 0, .func (.func 30) #[] #[.pointer (some ⟨Bm, 0, none⟩)]] w fun e W' => ∃ v xs, e = .returned v ∧ xs.Perm ks ∧ W'.ownsRow w.heap.size 28 2 v xs.length (flatI xs) ∧ (v = .slice none 0 0 ↔ xs = []) ∧ Below w.heap.size w W' := by
  have h1 : 1 ≤ n := by omega
  obtain ⟨i0, hi, hz0, hz1, hz2⟩ := info_parts info28
  have hbl : b < w.heap.size := (Array.getElem?_eq_some_iff.1 hb).1
  have hBlt : Bm < w.heap.size := by
    unfold World.cell? at hm
    split at hm
    · rename_i hh; exact (Array.getElem?_eq_some_iff.1 hh).1
    · cases hm
  refine callsIn_of_wp_marks Try.func43 rfl h43 ?_ hro
  simp only [Try.ntmps43, List.size_toArray, List.length_cons, List.length_nil, Nat.reduceAdd, Nat.reduceSub, Array.replicate_succ, Array.replicate_zero, List.push_toArray, List.append_toArray, List.nil_append, List.cons_append]
  gi_wp2
  have bO := Boxed.new w 22 (.slice none 0 0)
  have hB0 : Below w.heap.size w (w.alloc (.cells #[.slice none 0 0] 22)) := (Below.refl _ w).alloc (Nat.le_refl _) _
  refine wpIn_rangeFunc_ownH hro h1 (gf := 30) (lb := #[.pointer (some ⟨Bm, 0, none⟩)]) rfl h30 (enters_of Try.func30 (by kernel_rfl) rfl)
    (keys_stops F (n - 1) h30 hro (by omega) Bm b ces clock ks ht hk _ ((hB0.cell (p := ⟨Bm, 0, none⟩) hBlt).trans hm) ((hB0.block b hbl).trans hb)) (fun h k => KeepsWalks.trans h k) (fun W l o o' _ h _ hw => KeepsWalks.putObj o' h hw) (Below.refl _ _) (fun _ => rfl)
    (fun pre W => (∃ v, Boxed W w.heap.size 22 v ∧ W.ownsRow w.heap.size 28 2 v pre.length (flatI pre) ∧ (v = .slice none 0 0 ↔ pre = [])) ∧ Below w.heap.size w W)
    (fun _ _ _ => False)
    (OwnFrom.and (Own.from (holdsRow_own w.heap.size w.heap.size 22 28 2 (fun pre => pre.length) (fun pre => flatI pre) (fun pre v => v = .slice none 0 0 ↔ pre = [])) _) (ownFrom_below (Nat.le_refl _) (by simp)))
    (fun _ _ _ _ _ hs _ _ => hs)
    ⟨⟨_, bO, World.ownsRow_nil _ _ _ _, by simp⟩, hB0⟩
    (fun x a' W => ∃ k u8 u9 u10 u11, w.heap.size ≤ k ∧ W.heap[k]? = some (.cells #[.int .i64 x.1, .int .i64 x.2] 28) ∧ a' = { tmps := #[.slice none 0 0, .func (.func 30) #[] #[.pointer (some ⟨Bm, 0, none⟩)], .pointer (some ⟨w.heap.size, 0, none⟩), undef, .slice none 0 0, .pointer (some ⟨k, 0, none⟩), .func (.func 30) #[] #[.pointer (some ⟨Bm, 0, none⟩)], encI x, u8, u9, u10, u11, undef], defers := [] })
    ?ax ?assign ?body ?done ?stop
  case ax =>
    rintro x a' s W W' row ⟨k, u8, u9, u10, u11, hk1, hk2, rfl⟩ hg hr
    refine ⟨k, u8, u9, u10, u11, hk1, (hg.block k (Array.getElem?_eq_some_iff.1 hk2).1 fun e => ?_).trans hk2, rfl⟩
    obtain ⟨_, o, ho, hc⟩ := hr k e.symm
    rw [hk2] at ho; cases ho; cases hc
  case assign =>
    rintro l pre x W K ⟨⟨v, hv, hrow, hnil⟩, hB⟩ hK
    dsimp only [encI]
    gi_wp2
    exact hK _ _ ((KeepsOthers.alloc _ _).from _) (KeepsWalks.alloc _ _) ⟨⟨v, hv.alloc _, hrow.alloc _, hnil⟩, hB.alloc hB.size _⟩ ⟨W.heap.size, _, _, _, _, hB.size, World.alloc_heap_new W _, rfl⟩
  case body =>
    rintro l pre x a' W hl hr ⟨⟨v, hv, hrow, hnil⟩, hB⟩ ⟨k, u8, u9, u10, u11, hk1, hk2, rfl⟩ hlt
    have hc := hv.cell
    have hx1 : W.cell? ⟨k, 0, none⟩ = some (.int .i64 x.1) := by simp [World.cell?, hk2]
    have hx2 : W.cell? ⟨k, 1, none⟩ = some (.int .i64 x.2) := by simp [World.cell?, hk2]
    gi_wp2_with (gi_at_builtin; refine wpListIn_append_own _ rfl _ _ 22 rfl w.heap.size 28 i0 (.agg #[.int .i64 0, .int .i64 0]) 2 16 Try.underlying22 hi hz0 hz1 hz2 rfl (by decide) _ _ _ rfl (hrow.alloc _) ⟨W.heap.size, 0, none⟩ 1 1 [.int .i64 x.1, .int .i64 x.2] rfl rfl ?_ (by simp [Value.oneCell']) (by simp [maxLen]; omega) (by omega) (by have := hB.size; simp; omega) ?_)
    · intro j u hj
      have hblk := World.alloc_heap_new W (.cells #[.int .i64 x.1, .int .i64 x.2] 28)
      have e0 : (W.alloc (.cells #[.int .i64 x.1, .int .i64 x.2] 28)).cell? ⟨W.heap.size, 0, none⟩ = some (.int .i64 x.1) := by
        unfold World.cell?; simp only; rw [hblk]; rfl
      have e1 : (W.alloc (.cells #[.int .i64 x.1, .int .i64 x.2] 28)).cell? ⟨W.heap.size, 1, none⟩ = some (.int .i64 x.2) := by
        unfold World.cell?; simp only; rw [hblk]; rfl
      match j, hj with
      | 0, hj => cases hj; exact e0
      | 1, hj => cases hj; exact e1
    · intro v' w1 hown' hgrow _
      obtain ⟨g', cap', rfl⟩ := ownsRow_succ hown'
      obtain ⟨hv1, hv2, hr2, hk2, hb2⟩ := hv.appended (by decide) hrow hB.size (Nat.le_refl _) hown' hgrow
      have hc1 := hv1.cell
      have hf1 := hv1.frozen
      gi_wp2
      exact ⟨hk2.from _, hk2.walks, ⟨_, hv2, by simpa [flatI] using hr2, by simp⟩, hB.trans hb2⟩
  case done =>
    rintro D ys W hD hp ⟨⟨v, hv, hrow, hnil⟩, hB⟩ hK
    have hc := hv.cell
    gi_wp2
    refine ⟨by simp, .inl ⟨_, _, rfl, run_takeDeferred hK, ?_⟩⟩
    exact ⟨_, results_tmp rfl _ _ _, v, ys, rfl, hp, ownsRow_putObj hrow _ hK rfl, hnil, hB.trans (belowK_b (w := w) (Nat.le_refl _) W D _ _ (by simp at hD; omega) hK rfl rfl)⟩
  case stop =>
    rintro D c pre W _ _ h _
    exact h.elim

set_option maxRecDepth 100000 in
set_option maxHeartbeats 1000000 in
theorem collect_in (F : Fence) (n : Nat) (h28 : F.fn 28) (h43 : F.fn 43) (h30 : F.fn 30) (hro : F.round = none) (hn : 4 ≤ n) (Bm b : Nat) (ces : Array MapEntry) (clock : Nat) (ks : List (Int × Int)) (ht : EntTold ces clock) (hk : Keys ces ks) (hlen : ks.length ≤ 1000000) (w : World)
    (hm : w.cell? ⟨Bm, 0, none⟩ = some (.map (some b))) (hb : w.heap[b]? = some (.map ces clock)) :
    CallsIn F n Try.prog 28 #[.func (.func 30) #[] #[.pointer (some ⟨Bm, 0, none⟩)]] w fun e W' => ∃ v xs, e = .returned v ∧ xs.Perm ks ∧ W'.ownsRow w.heap.size 28 2 v xs.length (flatI xs) ∧ (v = .slice none 0 0 ↔ xs = []) ∧ Below w.heap.size w W' := by
  have h1 : 1 ≤ n := by omega
  refine callsIn_of_wp Try.func28 rfl h28 ?_ hro
  simp only [Try.ntmps28, List.size_toArray, List.length_cons, List.length_nil, Nat.reduceAdd, Nat.reduceSub, Array.replicate_succ, Array.replicate_zero, List.push_toArray, List.append_toArray, List.nil_append, List.cons_append]
  gi_wp2_with (gi_at_call 43; refine (appendSeq_in F (n - 1) h43 h30 hro (by omega) Bm b ces clock ks ht hk hlen _ hm hb).mono ?_; rintro e w' ⟨v, xs, rfl, hp, hrow, hnil, hb⟩)
  go_ret
  exact ⟨v, xs, rfl, hp, hrow, hnil, hb⟩
end Go.Proofs.Ytjooccdeeejecaa
