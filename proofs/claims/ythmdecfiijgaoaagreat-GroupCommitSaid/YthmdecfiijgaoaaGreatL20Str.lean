/- maps.Keys's iterator over a map with texts as keys, sorted. -/
import Derived.Test.YthmdecfiijgaoaaGreatL20Lay
import Derived.Test.YthmdecfiijgaoaaGreatAmWalk
import Derived.Test.YthmdecfiijgaoaaGreatAmStrKeys
import Derived.RangeFuncBox
import Derived.RangeFuncLeaves
import Derived.Shelf.Abstract
import Derived.LoopIn
import Derived.Lib.SlKeysI
namespace Go.Proofs.YthmdecfiijgaoaaGreat.StrSeq
open Go Go.RowKit Go.Shelf Go.AM Go.Sort Go.Maps Go.Proofs
attribute [local go_sem] Oper.semAt_some

set_option maxRecDepth 100000 in
set_option maxHeartbeats 2000000 in
theorem keys1_in (F : Fence) (n : Nat) (h75 : F.fn 148) (hro : F.round = none) (hn : 1 ≤ n) (l Bm b : Nat) (ces : Array MapEntry) (clock : Nat) (ks : List (List UInt8)) (ht : EntTold ces clock) (hk : KeysAs encStr ces ks) (J Jx : List (List UInt8) → World → Prop)
    (hY : ∀ pre x W, J pre W → pre.length < ks.length → YieldAt F (n - 1) Tryz.prog l #[encStr x] W fun e W' => (e = .returned (.bool true) ∧ J (pre ++ [x]) W' ∧ KeepsWalks W W') ∨ (e = .returned (.bool false) ∧ Jx (pre ++ [x]) W'))
    (W : World) (hJ : AbidesFrom W.heap.size J) (hm : W.cell? ⟨Bm, 0, none⟩ = some (.map (some b))) (hb : W.heap[b]? = some (.map ces clock)) (h0 : J [] W) :
    CallsIn F n Tryz.prog 148 #[.func (.yield l) #[] #[], .pointer (some ⟨Bm, 0, none⟩)] W fun e W' => (∃ v, e = .returned v) ∧ ((∃ xs : List (List UInt8), xs.Perm ks ∧ J xs W') ∨ ∃ pre, Jx pre W') := by
  have hbl : b < W.heap.size := (Array.getElem?_eq_some_iff.1 hb).1
  refine callsIn_of_wp Tryz.func148 rfl h75 ?_ hro
  simp only [Tryz.ntmps148, List.size_toArray, List.length_cons, List.length_nil, Nat.reduceAdd, Nat.reduceSub, Array.replicate_succ, Array.replicate_zero, List.push_toArray, List.append_toArray, List.nil_append, List.cons_append]
  gi_wp2_with (first
    | (gi_at_range; refine wpListIn_range_raw _ rfl _ 133 9 137 rfl Tryz.underlying133 b ces clock rfl hb ?_; intro hu0)
    | gi_in)
  go_frame
  gi_loopw [3] (fun _ wr => ∃ (seen : Array Nat) (js : List Nat) (xs : List (List UInt8)), Under wr b W.heap.size ces clock seen ∧ Came ces ks seen js xs ∧ J xs wr ∧ W.heap.size ≤ wr.heap.size)
    (fun _ wr => wr.rangeLeft b W.heap.size)
  case atStart =>
    exact ⟨_, _, _, hu0, Came.start ces ks, hJ [] W _ none h0 (World.grownBy_alloc W _ none) (fun r e => by cases e), by simp⟩
  case round =>
    obtain ⟨seen, js, xs, hu, hC, hJs, hsz⟩ := hrel
    gi_wp2_with (first
      | (gi_at_next; refine wpListIn_next_raw _ rfl _ rfl b W.heap.size ces clock seen (Nat.ne_of_lt hbl) hu ht rfl ?_ ?_)
      | gi_in)
    · intro h00
      gi_wp2
      go_end0
      exact ⟨⟨_, rfl⟩, .inl ⟨xs, hC.done ht hk (by rw [h00]; rfl), hJs⟩⟩
    · intro e w2 hel hu2 hg2 hs2 hen
      obtain ⟨j, p, hkey, hC2, hjl⟩ := hC.step hk (Array.mem_toList_iff.2 hel)
      rw [hkey] at hen ⊢
      have hJ2 : J xs w2 := hJ xs wr w2 (some W.heap.size) hJs hg2 (fun r e => by cases e; exact ⟨Nat.le_refl _, _, hu.it, rfl⟩)
      have hxl : xs.length < ks.length := by rw [hC.xs, List.length_map]; exact hjl
      obtain ⟨fn, tmps, assign, body, hy, hR⟩ := hY xs p _ hJ2 hxl
      have hlt := left_shrinks ces seen e (Array.mem_toList_iff.2 hel)
      have hsz3 := hg2.size
      clear hs2
      gi_wp2
      refine hR.mono ?_
      rintro e' W3 (⟨rfl, hJ4, hk3⟩ | ⟨rfl, hJx⟩)
      · gi_wp2
        have hu4 := hu2.walks hk3
        go_roundw
        case rel => exact ⟨_, _, xs ++ [p], hu4, hC2, hJ4, by have := hk3.size; omega⟩
        case measure =>
          unfold World.rangeLeft
          rw [hu4.map, hu4.it, hu.map, hu.it]
          exact hlt
      · gi_wp2
        refine bodyPost_ret (results_none rfl _ _ _) rfl ?_
        exact ⟨⟨_, rfl⟩, .inr ⟨_, hJx⟩⟩


theorem keys_gives (F : Fence) (n : Nat) (h75 : F.fn 148) (hro : F.round = none) (hn : 1 ≤ n) (Bm b : Nat) (ces : Array MapEntry) (clock : Nat) (ks : List (List UInt8)) (ht : EntTold ces clock) (hk : KeysAs encStr ces ks) (w : World)
    (hm : w.cell? ⟨Bm, 0, none⟩ = some (.map (some b))) (hb : w.heap[b]? = some (.map ces clock)) :
    SeqGives F n Tryz.prog 148 #[.pointer (some ⟨Bm, 0, none⟩)] encStr (fun xs => xs.Perm ks) ks.length w := fun l J W hW hJ hY h0 => by
  have hbl : b < w.heap.size := (Array.getElem?_eq_some_iff.1 hb).1
  have hBm : Bm < w.heap.size := by
    unfold World.cell? at hm
    split at hm
    · rename_i hh; exact (Array.getElem?_eq_some_iff.1 hh).1
    · cases hm
  refine (keys1_in F n h75 hro hn l Bm b ces clock ks ht hk J (fun _ _ => False) (fun pre x W1 hj hl => ?_) W hJ ((hW.cell (p := ⟨Bm, 0, none⟩) hBm).trans hm) ((hW.block b hbl).trans hb) h0).mono ?_
  · obtain ⟨fn, tmps, assign, body, hy, hR⟩ := hY pre x W1 hj hl
    exact ⟨fn, tmps, assign, body, hy, hR.mono fun e W' h => .inl h⟩
  · rintro e W' ⟨h1, h2 | ⟨pre, h3⟩⟩
    · exact ⟨h1, h2⟩
    · exact h3.elim

theorem sortsS (m : Nat) : AnyZ.SortsIn Tryz.prog Tryz.sortedS_ren Fence.wide m :=
  ⟨fun blk off cap ss W hH hblk hsz => callsIn_wide.2 (AnyM.slices_Sort_string Tryz.sortS blk off cap ss W hH hblk hsz),
   fun p cap W => callsIn_wide.2 (AnyM.slices_Sort_string_none Tryz.sortS p cap W)⟩

theorem keys_calls (w : World) (Bm b : Nat) (ces : Array MapEntry) (clock : Nat) (ks : List (List UInt8)) (ht : EntTold ces clock) (hk : KeysAs encStr ces ks) (hlen : ks.length ≤ 1000000) (hm : w.cell? ⟨Bm, 0, none⟩ = some (.map (some b))) (hb : w.heap[b]? = some (.map ces clock)) :
    Calls Tryz.prog 132 #[.func (.func 148) #[] #[.pointer (some ⟨Bm, 0, none⟩)]] w fun e w' => ∃ v ss, e = .returned v ∧ ss.Perm ks ∧ w'.ownsRow w.heap.size 9 1 v ss.length ((ss.mergeSort (fun x y => decide (x ≤ y))).map encStr) ∧ (v = .slice none 0 0 ↔ ss = []) ∧ Below w.heap.size w w' := by
  have hseq := keys_gives Fence.wide 3 trivial rfl (by omega) Bm b ces clock ks ht hk w hm hb
  exact (callsIn_wide (n := 6)).1 (AnyZ.sorted_in Tryz.sortedS Fence.wide 6 trivial trivial trivial trivial rfl (by omega) (sortsS _) (enters_of Tryz.func147 (by kernel_rfl) rfl) 148 #[.pointer (some ⟨Bm, 0, none⟩)] trivial (enters_of Tryz.func148 (by kernel_rfl) rfl) _ _ (by unfold maxLen; omega) (by omega) _ hseq)
end Go.Proofs.YthmdecfiijgaoaaGreat.StrSeq
