/- maps.Keys's iterator over a map with struct keys, collected. -/
import Derived.RangeFuncNested
import Derived.RangeFuncBox
import Derived.RangeFuncLeaves
import Derived.Shelf.Abstract
import Derived.WalkKit
import Derived.OwnWalkIn
import Derived.TacticsInMore
import Derived.LoopNIn
import Derived.LoopIn
import Derived.Maps.AppendAt
import Derived.Maps.RangeRun
import Derived.Sort.MapsRangeIn
import Derived.Lib.SlKeysI
import Derived.Test.YtjcpopoinaeemaaGreatProg
import Derived.Test.YtjcpopoinaeemaaGreatAmWalk
namespace Go.Proofs.YtjcpopoinaeemaaGreat.CollSeq
open Go Go.RowKit Go.Shelf Go.AM Go.Sort Go.Maps
attribute [local go_sem] Oper.semAt_some

set_option maxRecDepth 100000 in
set_option maxHeartbeats 2000000 in
theorem keys1_in (F : Fence) (n : Nat) (h30 : F.fn 150) (hro : F.round = none) (hn : 1 ≤ n) (l Bm b : Nat) (ces : Array MapEntry) (clock : Nat) (ks : List (Int × Int)) (ht : EntTold ces clock) (hk : Keys ces ks) (J Jx : List (Int × Int) → World → Prop)
    (hY : ∀ pre x W, J pre W → pre.length < ks.length → YieldAt F (n - 1) Tryz.prog l #[encI x] W fun e W' => (e = .returned (.bool true) ∧ J (pre ++ [x]) W' ∧ KeepsWalks W W') ∨ (e = .returned (.bool false) ∧ Jx (pre ++ [x]) W'))
    (W : World) (hJ : AbidesFrom W.heap.size J) (hm : W.cell? ⟨Bm, 0, none⟩ = some (.map (some b))) (hb : W.heap[b]? = some (.map ces clock)) (h0 : J [] W) :
    CallsIn F n Tryz.prog 150 #[.func (.yield l) #[] #[], .pointer (some ⟨Bm, 0, none⟩)] W fun e W' => (∃ v, e = .returned v) ∧ ((∃ xs : List (Int × Int), xs.Perm ks ∧ J xs W') ∨ ∃ pre, Jx pre W') := by
  have hbl : b < W.heap.size := (Array.getElem?_eq_some_iff.1 hb).1
  refine callsIn_of_wp Tryz.func150 rfl h30 ?_ hro
  simp only [Tryz.ntmps150, List.size_toArray, List.length_cons, List.length_nil, Nat.reduceAdd, Nat.reduceSub, Array.replicate_succ, Array.replicate_zero, List.push_toArray, List.append_toArray, List.nil_append, List.cons_append]
  gi_wp2_with (first
    | (gi_at_range; refine wpListIn_range_raw _ rfl _ 168 63 4 rfl Tryz.underlying168 b ces clock rfl hb ?_; intro hu0)
    | gi_in)
  go_frame
  gi_loopw [3] (fun _ wr => ∃ (seen : Array Nat) (js : List Nat) (xs : List (Int × Int)), Under wr b W.heap.size ces clock seen ∧ Came ces ks seen js xs ∧ J xs wr ∧ W.heap.size ≤ wr.heap.size)
    (fun _ wr => wr.rangeLeft b W.heap.size)
  case atStart =>
    exact ⟨_, _, _, hu0, Came.start ces ks, hJ [] W _ none h0 (World.grownBy_alloc W _ none) (fun r e => by cases e), by simp⟩
  case round =>
    obtain ⟨seen, js, xs, hu, hC, hJs, hsz⟩ := hrel
    gi_wp2_with (first
      | (gi_at_next; refine wpListIn_next_raw _ rfl _ rfl b W.heap.size ces clock seen (Nat.ne_of_lt hbl) hu ht rfl ?_ ?_)
      | gi_in)
    · intro h00
      gi_wp2
      go_end0
      exact ⟨⟨_, rfl⟩, .inl ⟨xs, hC.done ht hk (by rw [h00]; rfl), hJs⟩⟩
    · intro e w2 hel hu2 hg2 hs2 hen
      obtain ⟨j, p, hkey, hC2, hjl⟩ := hC.step hk (Array.mem_toList_iff.2 hel)
      rw [hkey] at hen ⊢
      have hJ2 : J xs w2 := hJ xs wr w2 (some W.heap.size) hJs hg2 (fun r e => by cases e; exact ⟨Nat.le_refl _, _, hu.it, rfl⟩)
      have hJ3 := hJ xs w2 (w2.alloc (.cells #[.int .i64 p.1, .int .i64 p.2] 63)) none hJ2 (World.grownBy_alloc _ _ none) (fun r e => by cases e)
      have hu3 : Under (w2.alloc (.cells #[.int .i64 p.1, .int .i64 p.2] 63)) b W.heap.size ces clock (seen.push e.born) := hu2.walks (KeepsWalks.alloc _ _)
      have hxl : xs.length < ks.length := by rw [hC.xs, List.length_map]; exact hjl
      obtain ⟨fn, tmps, assign, body, hy, hR⟩ := hY xs p _ hJ3 hxl
      have hlt := left_shrinks ces seen e (Array.mem_toList_iff.2 hel)
      have hsz3 := hg2.size
      dsimp only [encI] at hen hy ⊢
      clear hs2
      gi_wp2
      refine hR.mono ?_
      rintro e' W3 (⟨rfl, hJ4, hk3⟩ | ⟨rfl, hJx⟩)
      · gi_wp2
        have hu4 := hu3.walks hk3
        go_roundw
        case rel => exact ⟨_, _, xs ++ [p], hu4, hC2, hJ4, by have := hk3.size; simp at this; omega⟩
        case measure =>
          unfold World.rangeLeft
          rw [hu4.map, hu4.it, hu.map, hu.it]
          exact hlt
      · gi_wp2
        refine bodyPost_ret (results_none rfl _ _ _) rfl ?_
        exact ⟨⟨_, rfl⟩, .inr ⟨_, hJx⟩⟩

/-- maps.Keys's iterator: the keys come, each once, in some order. -/
theorem keys_stops (F : Fence) (n : Nat) (h30 : F.fn 150) (hro : F.round = none) (hn : 1 ≤ n) (Bm b : Nat) (ces : Array MapEntry) (clock : Nat) (ks : List (Int × Int)) (ht : EntTold ces clock) (hk : Keys ces ks) (w : World)
    (hm : w.cell? ⟨Bm, 0, none⟩ = some (.map (some b))) (hb : w.heap[b]? = some (.map ces clock)) :
    SeqStopsK F n Tryz.prog 150 #[.pointer (some ⟨Bm, 0, none⟩)] (fun x : Int × Int => #[encI x]) KeepsWalks (fun xs => xs.Perm ks) (fun _ => True) ks.length w := fun l J Jx W hW hJ _ hY h0 => by
  have hbl : b < w.heap.size := (Array.getElem?_eq_some_iff.1 hb).1
  have hBm : Bm < w.heap.size := by
    unfold World.cell? at hm
    split at hm
    · rename_i hh; exact (Array.getElem?_eq_some_iff.1 hh).1
    · cases hm
  refine (keys1_in F n h30 hro hn l Bm b ces clock ks ht hk J Jx hY W hJ ((hW.cell (p := ⟨Bm, 0, none⟩) hBm).trans hm) ((hW.block b hbl).trans hb) h0).mono ?_
  rintro e W' ⟨h1, h2 | ⟨pre, h3⟩⟩
  · exact ⟨h1, .inl h2⟩
  · exact ⟨h1, .inr ⟨pre, trivial, h3⟩⟩
theorem info28 : (Tryz.prog.info? 63).map (fun i => (i.zero, i.size, i.bytes)) = some (some (.agg #[.int .i64 0, .int .i64 0]), 2, 16) := by kernel_rfl

set_option maxRecDepth 100000 in
set_option maxHeartbeats 2000000 in
theorem appendSeq_in (F : Fence) (n : Nat) (h43 : F.fn 171) (h30 : F.fn 150) (hro : F.round = none) (hn : 3 ≤ n) (Bm b : Nat) (ces : Array MapEntry) (clock : Nat) (ks : List (Int × Int)) (ht : EntTold ces clock) (hk : Keys ces ks) (hlen : ks.length ≤ 1000000) (w : World)
    (hm : w.cell? ⟨Bm, 0, none⟩ = some (.map (some b))) (hb : w.heap[b]? = some (.map ces clock)) :
    CallsIn F n Tryz.prog 171 #[.slice none 0 0, .func (.func 150) #[] #[.pointer (some ⟨Bm, 0, none⟩)]] w fun e W' => ∃ v xs, e = .returned v ∧ xs.Perm ks ∧ W'.ownsRow w.heap.size 63 2 v xs.length (flatI xs) ∧ (v = .slice none 0 0 ↔ xs = []) ∧ Below w.heap.size w W' := by
  have h1 : 1 ≤ n := by omega
  obtain ⟨i0, hi, hz0, hz1, hz2⟩ := info_parts info28
  have hbl : b < w.heap.size := (Array.getElem?_eq_some_iff.1 hb).1
  have hBlt : Bm < w.heap.size := by
    unfold World.cell? at hm
    split at hm
    · rename_i hh; exact (Array.getElem?_eq_some_iff.1 hh).1
    · cases hm
  refine callsIn_of_wp_marks Tryz.func171 rfl h43 ?_ hro
  simp only [Tryz.ntmps171, List.size_toArray, List.length_cons, List.length_nil, Nat.reduceAdd, Nat.reduceSub, Array.replicate_succ, Array.replicate_zero, List.push_toArray, List.append_toArray, List.nil_append, List.cons_append]
  gi_wp2
  have bO := Boxed.new w 138 (.slice none 0 0)
  have hB0 : Below w.heap.size w (w.alloc (.cells #[.slice none 0 0] 138)) := (Below.refl _ w).alloc (Nat.le_refl _) _
  refine wpIn_rangeFunc_ownH hro h1 (gf := 150) (lb := #[.pointer (some ⟨Bm, 0, none⟩)]) rfl h30 (enters_of Tryz.func150 (by kernel_rfl) rfl)
    (keys_stops F (n - 1) h30 hro (by omega) Bm b ces clock ks ht hk _ ((hB0.cell (p := ⟨Bm, 0, none⟩) hBlt).trans hm) ((hB0.block b hbl).trans hb)) (fun h k => KeepsWalks.trans h k) (fun W l o o' _ h _ hw => KeepsWalks.putObj o' h hw) (Below.refl _ _) (fun _ => rfl)
    (fun pre W => (∃ v, Boxed W w.heap.size 138 v ∧ W.ownsRow w.heap.size 63 2 v pre.length (flatI pre) ∧ (v = .slice none 0 0 ↔ pre = [])) ∧ Below w.heap.size w W)
    (fun _ _ _ => False)
    (OwnFrom.and (Own.from (holdsRow_own w.heap.size w.heap.size 138 63 2 (fun pre => pre.length) (fun pre => flatI pre) (fun pre v => v = .slice none 0 0 ↔ pre = [])) _) (ownFrom_below (Nat.le_refl _) (by simp)))
    (fun _ _ _ _ _ hs _ _ => hs)
    ⟨⟨_, bO, World.ownsRow_nil _ _ _ _, by simp⟩, hB0⟩
    (fun x a' W => ∃ k u8 u9 u10 u11, w.heap.size ≤ k ∧ W.heap[k]? = some (.cells #[.int .i64 x.1, .int .i64 x.2] 63) ∧ a' = { tmps := #[.slice none 0 0, .func (.func 150) #[] #[.pointer (some ⟨Bm, 0, none⟩)], .pointer (some ⟨w.heap.size, 0, none⟩), undef, .slice none 0 0, .pointer (some ⟨k, 0, none⟩), .func (.func 150) #[] #[.pointer (some ⟨Bm, 0, none⟩)], encI x, u8, u9, u10, u11, undef], defers := [] })
    ?ax ?assign ?body ?done ?stop
  case ax =>
    rintro x a' s W W' row ⟨k, u8, u9, u10, u11, hk1, hk2, rfl⟩ hg hr
    refine ⟨k, u8, u9, u10, u11, hk1, (hg.block k (Array.getElem?_eq_some_iff.1 hk2).1 fun e => ?_).trans hk2, rfl⟩
    obtain ⟨_, o, ho, hc⟩ := hr k e.symm
    rw [hk2] at ho; cases ho; cases hc
  case assign =>
    rintro l pre x W K ⟨⟨v, hv, hrow, hnil⟩, hB⟩ hK
    dsimp only [encI]
    gi_wp2
    exact hK _ _ ((KeepsOthers.alloc _ _).from _) (KeepsWalks.alloc _ _) ⟨⟨v, hv.alloc _, hrow.alloc _, hnil⟩, hB.alloc hB.size _⟩ ⟨W.heap.size, _, _, _, _, hB.size, World.alloc_heap_new W _, rfl⟩
  case body =>
    rintro l pre x a' W hl hr ⟨⟨v, hv, hrow, hnil⟩, hB⟩ ⟨k, u8, u9, u10, u11, hk1, hk2, rfl⟩ hlt
    have hc := hv.cell
    have hx1 : W.cell? ⟨k, 0, none⟩ = some (.int .i64 x.1) := by simp [World.cell?, hk2]
    have hx2 : W.cell? ⟨k, 1, none⟩ = some (.int .i64 x.2) := by simp [World.cell?, hk2]
    gi_wp2_with (gi_at_builtin; refine wpListIn_append_own _ rfl _ _ 138 rfl w.heap.size 63 i0 (.agg #[.int .i64 0, .int .i64 0]) 2 16 Tryz.underlying138 hi hz0 hz1 hz2 rfl (by decide) _ _ _ rfl (hrow.alloc _) ⟨W.heap.size, 0, none⟩ 1 1 [.int .i64 x.1, .int .i64 x.2] rfl rfl ?_ (by simp [Value.oneCell']) (by simp [maxLen]; omega) (by omega) (by have := hB.size; simp; omega) ?_)
    · intro j u hj
      have hblk := World.alloc_heap_new W (.cells #[.int .i64 x.1, .int .i64 x.2] 63)
      have e0 : (W.alloc (.cells #[.int .i64 x.1, .int .i64 x.2] 63)).cell? ⟨W.heap.size, 0, none⟩ = some (.int .i64 x.1) := by
        unfold World.cell?; simp only; rw [hblk]; rfl
      have e1 : (W.alloc (.cells #[.int .i64 x.1, .int .i64 x.2] 63)).cell? ⟨W.heap.size, 1, none⟩ = some (.int .i64 x.2) := by
        unfold World.cell?; simp only; rw [hblk]; rfl
      match j, hj with
      | 0, hj => cases hj; exact e0
      | 1, hj => cases hj; exact e1
    · intro v' w1 hown' hgrow _
      obtain ⟨g', cap', rfl⟩ := ownsRow_succ hown'
      obtain ⟨hv1, hv2, hr2, hk2, hb2⟩ := hv.appended (by decide) hrow hB.size (Nat.le_refl _) hown' hgrow
      have hc1 := hv1.cell
      have hf1 := hv1.frozen
      gi_wp2
      exact ⟨hk2.from _, hk2.walks, ⟨_, hv2, by simpa [flatI] using hr2, by simp⟩, hB.trans hb2⟩
  case done =>
    rintro D ys W hD hp ⟨⟨v, hv, hrow, hnil⟩, hB⟩ hK
    have hc := hv.cell
    gi_wp2
    refine ⟨by simp, .inl ⟨_, _, rfl, run_takeDeferred hK, ?_⟩⟩
    exact ⟨_, results_tmp rfl _ _ _, v, ys, rfl, hp, ownsRow_putObj hrow _ hK rfl, hnil, hB.trans (belowK_b (w := w) (Nat.le_refl _) W D _ _ (by simp at hD; omega) hK rfl rfl)⟩
  case stop =>
    rintro D c pre W _ _ h _
    exact h.elim

set_option maxRecDepth 100000 in
set_option maxHeartbeats 1000000 in
theorem collect_in (F : Fence) (n : Nat) (h28 : F.fn 148) (h43 : F.fn 171) (h30 : F.fn 150) (hro : F.round = none) (hn : 4 ≤ n) (Bm b : Nat) (ces : Array MapEntry) (clock : Nat) (ks : List (Int × Int)) (ht : EntTold ces clock) (hk : Keys ces ks) (hlen : ks.length ≤ 1000000) (w : World)
    (hm : w.cell? ⟨Bm, 0, none⟩ = some (.map (some b))) (hb : w.heap[b]? = some (.map ces clock)) :
    CallsIn F n Tryz.prog 148 #[.func (.func 150) #[] #[.pointer (some ⟨Bm, 0, none⟩)]] w fun e W' => ∃ v xs, e = .returned v ∧ xs.Perm ks ∧ W'.ownsRow w.heap.size 63 2 v xs.length (flatI xs) ∧ (v = .slice none 0 0 ↔ xs = []) ∧ Below w.heap.size w W' := by
  have h1 : 1 ≤ n := by omega
  refine callsIn_of_wp Tryz.func148 rfl h28 ?_ hro
  simp only [Tryz.ntmps148, List.size_toArray, List.length_cons, List.length_nil, Nat.reduceAdd, Nat.reduceSub, Array.replicate_succ, Array.replicate_zero, List.push_toArray, List.append_toArray, List.nil_append, List.cons_append]
  gi_wp2_with (gi_at_call 171; refine (appendSeq_in F (n - 1) h43 h30 hro (by omega) Bm b ces clock ks ht hk hlen _ hm hb).mono ?_; rintro e w' ⟨v, xs, rfl, hp, hrow, hnil, hb⟩)
  go_ret
  exact ⟨v, xs, rfl, hp, hrow, hnil, hb⟩

theorem coll_calls (w : World) (Bm b : Nat) (ces : Array MapEntry) (clock : Nat) (ks : List (Int × Int)) (ht : EntTold ces clock) (hk : Keys ces ks) (hlen : ks.length ≤ 1000000) (hm : w.cell? ⟨Bm, 0, none⟩ = some (.map (some b))) (hb : w.heap[b]? = some (.map ces clock)) :
    Calls Tryz.prog 148 #[.func (.func 150) #[] #[.pointer (some ⟨Bm, 0, none⟩)]] w fun e w' => ∃ v xs, e = .returned v ∧ xs.Perm ks ∧ w'.ownsRow w.heap.size 63 2 v xs.length (flatI xs) ∧ (v = .slice none 0 0 ↔ xs = []) ∧ Below w.heap.size w w' :=
  (callsIn_wide (n := 6)).1 (collect_in Fence.wide 6 trivial trivial trivial rfl (by omega) Bm b ces clock ks ht hk hlen w hm hb)
end Go.Proofs.YtjcpopoinaeemaaGreat.CollSeq
