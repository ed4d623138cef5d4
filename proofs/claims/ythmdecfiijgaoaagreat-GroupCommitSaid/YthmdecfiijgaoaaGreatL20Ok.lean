/- What a node's steps keep. -/
import Derived.Test.YthmdecfiijgaoaaGreatL20Y
namespace Go.Proofs.YthmdecfiijgaoaaGreat
open Go Go.AM Go.AM.St
open Go.Raft (termAt fromL newer len upd wait)
/-- A letter that a node may take. -/
structure OkL (l : Lm) : Prop where
  es : l.es.length ≤ 1000
  sm : Small l.es
  t : l.term ≤ 2000000000000000000
theorem wait_pos (k : Nat) : 0 < wait k := by unfold wait; omega
theorem OkN.propose {v : NSR} (ok : OkN v) {r : RecP} (h1 : r.nums.length ≤ 45) (h2 : r.texts.length ≤ 45) : OkN (Go.Raft.propose v r).1 := by
  unfold Go.Raft.propose
  split
  · exact ok
  · split
    · rename_i h
      refine ⟨ok.me, ok.s0, ok.s1, ?_, fun e he => ?_, ok.t0, ok.t1, ok.nx, ok.mt, ok.c0⟩
      · show (v.log ++ [(v.term, r)]).length ≤ 2000
        rw [List.length_append, List.length_singleton]; omega
      · rcases List.mem_append.1 he with he | he
        · exact ok.sm e he
        · rw [List.mem_singleton] at he; subst he; exact ⟨h1, h2⟩
    · exact ok
theorem OkN.tick {v : NSR} (ok : OkN v) (h : v.term + 1 ≤ 2000000000000000000) : OkN (Go.Raft.tick v).1 := by
  have := ok.s0
  have := ok.t0
  unfold Go.Raft.tick
  split
  · exact ok
  · split
    · rename_i h2
      exact ⟨ok.me, by show 0 ≤ v.silent + 1; omega, h2, ok.l, ok.sm, ok.t0, ok.t1, ok.nx, ok.mt, ok.c0⟩
    · exact ⟨ok.me, Int.le_refl 0, wait_pos _, ok.l, ok.sm, by show 0 ≤ v.term + 1; omega, h, ok.nx, ok.mt, ok.c0⟩
theorem OkN.asked {v : NSR} (ok : OkN v) (l : Lm) : OkN (Go.Raft.asked v l).1 := by
  unfold Go.Raft.asked
  split
  · exact ⟨ok.me, Int.le_refl 0, wait_pos _, ok.l, ok.sm, ok.t0, ok.t1, ok.nx, ok.mt, ok.c0⟩
  · exact ok
theorem put_ok {l es : List EnV} {p t : Int} {a b : Int} {l' : List EnV} (h : Go.Raft.put l p t es = some (a, b, l')) (hl : l.length ≤ 2000) (hs : Small l) (he : Small es) : l'.length ≤ 2000 ∧ Small l' := by
  unfold Go.Raft.put at h
  split at h
  · cases h
  · rename_i hc
    split at h
    · cases h; exact ⟨hl, hs⟩
    · rename_i i hm
      split at h
      · cases h
      · rename_i h2
        cases h
        unfold len at h2 hc
        refine ⟨?_, fun e hm => ?_⟩
        · rw [List.length_append, List.length_take, List.length_drop]; omega
        · rcases List.mem_append.1 hm with hm | hm
          · exact hs e (List.mem_of_mem_take hm)
          · exact he e (List.mem_of_mem_drop hm)
theorem OkN.added {v : NSR} (ok : OkN v) {l : Lm} (hs : Small l.es) : OkN (Go.Raft.added v l).1 := by
  have := ok.c0
  unfold Go.Raft.added
  split
  · exact ok
  · split
    · exact ⟨ok.me, Int.le_refl 0, wait_pos _, ok.l, ok.sm, ok.t0, ok.t1, ok.nx, ok.mt, ok.c0⟩
    · rename_i a b c h
      obtain ⟨h1, h2⟩ := put_ok h ok.l ok.sm hs
      exact ⟨ok.me, Int.le_refl 0, wait_pos _, h1, h2, ok.t0, ok.t1, ok.nx, ok.mt, by show 0 ≤ max v.commit _; omega⟩
theorem OkN.given {v : NSR} (ok : OkN v) (l : Lm) : OkN (Go.Raft.given zR v l).1 := by
  have k : OkN { v with box := upd v.box l.src.toNat true } := ⟨ok.me, ok.s0, ok.s1, ok.l, ok.sm, ok.t0, ok.t1, ok.nx, ok.mt, ok.c0⟩
  unfold Go.Raft.given
  split
  · exact ok
  · split
    · exact OkN.lead k
    · exact k
theorem OkN.has {v : NSR} (ok : OkN v) {l : Lm} (ha : 0 ≤ l.a) : OkN (Go.Raft.has v l).1 := by
  have hl := ok.l
  have upd_ok : ∀ {f : Nat → Int} {lo hi y : Int}, (∀ j, j < 3 → lo ≤ f j ∧ f j ≤ hi) → (l.src.toNat < 3 → lo ≤ y ∧ y ≤ hi) → ∀ j, j < 3 → lo ≤ upd f l.src.toNat y j ∧ upd f l.src.toNat y j ≤ hi := fun h1 h2 j hj => by
    unfold upd
    split
    · rename_i e; exact h2 (by omega)
    · exact h1 j hj
  unfold Go.Raft.has
  split
  · exact ok
  · rename_i hc
    split
    · refine ⟨ok.me, ok.s0, ok.s1, ok.l, ok.sm, ok.t0, ok.t1, upd_ok ok.nx fun h => ?_, ok.mt, ok.c0⟩
      have := ok.nx _ h
      have := ok.mt _ h
      omega
    · rename_i hy
      have hy' : l.yes = true := by cases h : l.yes <;> simp_all
      have h2 : ¬ (len v.log < l.a) := fun h => hc (.inr ⟨hy', h⟩)
      unfold len at h2
      refine OkN.commits ⟨ok.me, ok.s0, ok.s1, ok.l, ok.sm, ok.t0, ok.t1, upd_ok ok.nx fun h => ?_, upd_ok ok.mt fun h => ?_, ok.c0⟩
      · have := ok.mt _ h
        omega
      · have := ok.mt _ h
        omega
theorem goes_ok {v : NSR} (ok : OkN v) {l : Lm} (hs : Small l.es) (ha : 0 ≤ l.a) : OkN (goes v l).1 := by
  unfold goes
  split
  · exact ok.asked l
  · split
    · exact ok.added hs
    · split
      · exact ok
      · split
        · exact ok.given l
        · exact ok.has ha
theorem OkN.take {v : NSR} (ok : OkN v) {l : Lm} (hl : OkL l) : OkN (Go.Raft.take zR v l).1 := by
  cases hm : Go.Raft.may v l
  · rw [take_no hm]; exact ok
  · rw [take_goes hm rfl]
    exact goes_ok (ok.higher hl.t) hl.sm (may_of hm).1.2.2.2.2.2.2.2.1
/-- Terms and commits never fall; a term grows by a step at the most. -/
theorem tick_up (v : NSR) : v.term ≤ (Go.Raft.tick v).1.term ∧ (Go.Raft.tick v).1.term ≤ v.term + 1 ∧ (Go.Raft.tick v).1.commit = v.commit := by
  unfold Go.Raft.tick
  split
  · exact ⟨Int.le_refl _, by show v.term ≤ v.term + 1; omega, rfl⟩
  · split
    · exact ⟨Int.le_refl _, by show v.term ≤ v.term + 1; omega, rfl⟩
    · exact ⟨by show v.term ≤ v.term + 1; omega, Int.le_refl _, rfl⟩
theorem propose_up (v : NSR) (r : RecP) : (Go.Raft.propose v r).1.term = v.term ∧ (Go.Raft.propose v r).1.commit = v.commit := by
  unfold Go.Raft.propose
  split
  · exact ⟨rfl, rfl⟩
  · split <;> exact ⟨rfl, rfl⟩
theorem goes_up (v : NSR) (l : Lm) : (goes v l).1.term = v.term ∧ v.commit ≤ (goes v l).1.commit := by
  unfold goes
  split
  · unfold Go.Raft.asked; split <;> exact ⟨rfl, Int.le_refl _⟩
  · split
    · unfold Go.Raft.added
      split
      · exact ⟨rfl, Int.le_refl _⟩
      · split
        · exact ⟨rfl, Int.le_refl _⟩
        · exact ⟨rfl, by show v.commit ≤ max v.commit _; omega⟩
    · split
      · exact ⟨rfl, Int.le_refl _⟩
      · split
        · unfold Go.Raft.given
          split
          · exact ⟨rfl, Int.le_refl _⟩
          · split <;> exact ⟨rfl, Int.le_refl _⟩
        · unfold Go.Raft.has
          split
          · exact ⟨rfl, Int.le_refl _⟩
          · split
            · exact ⟨rfl, Int.le_refl _⟩
            · have : ∀ w : NSR, (Go.Raft.commits w).term = w.term ∧ w.commit ≤ (Go.Raft.commits w).commit := fun w => by
                unfold Go.Raft.commits
                split
                · rename_i h; exact ⟨rfl, by show w.commit ≤ Go.Raft.reach w; omega⟩
                · exact ⟨rfl, Int.le_refl _⟩
              exact this _
theorem take_up (v : NSR) (l : Lm) : v.term ≤ (Go.Raft.take zR v l).1.term ∧ (Go.Raft.take zR v l).1.term ≤ max v.term l.term ∧ v.commit ≤ (Go.Raft.take zR v l).1.commit := by
  cases hm : Go.Raft.may v l
  · rw [take_no hm]; exact ⟨Int.le_refl _, by show v.term ≤ _; omega, Int.le_refl _⟩
  · rw [take_goes hm rfl]
    obtain ⟨h1, h2⟩ := goes_up (Go.Raft.higher v l) l
    have h3 : v.term ≤ (Go.Raft.higher v l).term ∧ (Go.Raft.higher v l).term ≤ max v.term l.term ∧ (Go.Raft.higher v l).commit = v.commit := by
      unfold Go.Raft.higher
      split
      · rename_i h; exact ⟨by show v.term ≤ l.term; omega, by show l.term ≤ _; omega, rfl⟩
      · exact ⟨Int.le_refl _, by omega, rfl⟩
    exact ⟨by omega, by omega, by omega⟩
end Go.Proofs.YthmdecfiijgaoaaGreat
