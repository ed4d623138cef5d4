/- Operations that write into rows. -/
import Derived.Test.YtpagagiojnhhfaaAmEff2
namespace Go.AM
open Go Go.RowKit

theorem setCells_heap (b : Nat) : ∀ (vs : List Value) (o : Nat) (w : World), (w.setCells b o vs).heap.size = w.heap.size ∧ (w.setCells b o vs).os = w.os ∧ (w.setCells b o vs).tape = w.tape ∧
    (w.setCells b o vs).output = w.output ∧ (∀ k, k ≠ b → (w.setCells b o vs).heap[k]? = w.heap[k]?) ∧
    ∀ C T fz, w.heap[b]? = some (.cells C T fz) → ∃ C', (w.setCells b o vs).heap[b]? = some (.cells C' T fz) ∧ C'.size = C.size
  | [], o, w => ⟨rfl, rfl, rfl, rfl, fun _ _ => rfl, fun C T fz h => ⟨C, h, rfl⟩⟩
  | v :: r, o, w => by
    obtain ⟨h1, h2, h3, h4, h5, h6⟩ := setCells_heap b r (o + 1) (w.setCell ⟨b, o, none⟩ v)
    refine ⟨by rw [World.setCells, h1]; simp, by rw [World.setCells, h2]; rfl, by rw [World.setCells, h3]; rfl, by rw [World.setCells, h4]; rfl, fun k hk => ?_, fun C T fz h => ?_⟩
    · rw [World.setCells, h5 k hk]
      exact Below.heap_setCell _ _ _ _ hk
    · have hs : (w.setCell ⟨b, o, none⟩ v).heap[b]? = some (.cells (C.setIfInBounds o v) T fz) := by
        simp only [World.setCell, Array.getElem?_modify, h, Option.map_some]
        rfl
      obtain ⟨C', e1, e2⟩ := h6 _ T fz hs
      exact ⟨C', by rw [World.setCells]; exact e1, by rw [e2, Array.size_setIfInBounds]⟩

section
variable {P : Program} {B : Nat} {w0 : World} {ρ : Rho} {σ : H} {w w' : World} (hsim : Sim B w0 ρ σ w)
include hsim

/-- Cells of a row written, from a place on; the row may grow. -/
theorem Sim.write {id z : Nat} {xs ys : List AV} {md md' : Md} {c0 : Copy} {rest : List Copy} (hl : ρ id = some (.cells z (c0 :: rest))) (hs : σ[id]? = some (.cells xs z md)) (hmd : md ≠ .ro) (hmd' : md' ≠ .ro)
    (hown : md' = .own → rest = []) {off : Nat} (h1 : c0.lo ≤ off) (h2 : off ≤ xs.length) (hrest : ∀ c ∈ rest, c.hi ≤ off) {vs : List Value} (hv : VRs ρ ys vs) (hone : ∀ u ∈ vs, u.oneCell' = true)
    (hfit : off - c0.lo + ys.length ≤ c0.sz) :
    ∃ ρ', ρ.le ρ' ∧ (∃ c0', CopyLe c0 c0' ∧ c0'.hi = (xs.take off ++ ys ++ xs.drop (off + ys.length)).length ∧ ρ' id = some (.cells z (c0' :: rest))) ∧
      Sim B w0 ρ' (σ.set id (.cells (xs.take off ++ ys ++ xs.drop (off + ys.length)) z md')) (w.setCells c0.blk (off - c0.lo) vs) ∧
      (∀ i, (storeCells ⟨c0.blk, c0.boff + (off - c0.lo) - i, none⟩ vs i).run P w = .ok () (w.setCells c0.blk (off - c0.lo) vs) ∨ c0.boff + (off - c0.lo) < i) := by
  have hor := hsim.cells hl hs
  obtain ⟨_, hz, hcr, hnew⟩ := hor
  obtain ⟨c0', rest', e0, hhi, hlt, _, hne⟩ := hnew hmd
  obtain ⟨rfl, rfl⟩ := List.cons.inj e0
  have hc0 := hcr c0 (by simp)
  obtain ⟨hb0, hB, hsz, C, T, fz, hheap, hCs, hfz⟩ := hc0.own hmd
  obtain ⟨k1, k2, k3, k4, k5, k6⟩ := setCells_heap c0.blk vs (off - c0.lo) w
  obtain ⟨C', hheap', hCs'⟩ := k6 C T fz hheap
  have hyl : ys.length = vs.length := hv.1
  have hcell : ∀ j, j < C.size → (w.cell? ⟨c0.blk, j, none⟩).isSome = true := fun j hj => by
    simp [World.cell?, hheap, hj]
  have hlen : (xs.take off ++ ys ++ xs.drop (off + ys.length)).length = off + ys.length + (xs.length - (off + ys.length)) := by
    simp; omega
  have hfro : ∀ j, j < C.size → w.frozen? ⟨c0.blk, j, none⟩ = false := fun j hj => by
    simp only [World.frozen?, hheap]
    rcases hfz with hq | hq
    · simp; omega
    · simp; omega
  have hlo0 := hc0.lo
  have hch : CopyLe c0 { c0 with hi := (xs.take off ++ ys ++ xs.drop (off + ys.length)).length } := ⟨rfl, rfl, rfl, (by have := hlen; show c0.hi ≤ (xs.take off ++ ys ++ xs.drop (off + ys.length)).length; omega), rfl⟩
  have hle0 : LocLe (.cells z (c0 :: rest)) (.cells z ({ c0 with hi := (xs.take off ++ ys ++ xs.drop (off + ys.length)).length } :: rest)) := by
    refine ⟨rfl, fun c hc => ?_⟩
    rcases List.mem_cons.1 hc with rfl | hc
    · exact ⟨_, List.mem_cons_self, hch⟩
    · exact ⟨c, List.mem_cons_of_mem _ hc, .refl c⟩
  have hbel : Below B w (w.setCells c0.blk (off - c0.lo) vs) := ⟨k2, k3, k4, by rw [k1]; exact Nat.le_refl _, fun k hk => k5 k (by omega)⟩
  -- the reading of the row behind the write
  have hle1 : ρ.le (ρ.upd id (.cells z ({ c0 with hi := (xs.take off ++ ys ++ xs.drop (off + ys.length)).length } :: rest))) := by
    intro i li hi
    by_cases e : i = id
    · subst e; rw [hl] at hi; obtain rfl := Option.some.inj hi; exact ⟨_, by simp [Rho.upd], hle0⟩
    · exact ⟨li, by simp [Rho.upd, e, hi], .refl _⟩
  have hread : ∀ (c : Copy), c ∈ c0 :: rest → ∀ j, c.lo ≤ j → j < off → j < c.hi → ∃ v vc, (xs.take off ++ ys ++ xs.drop (off + ys.length))[j]? = some v ∧
      (w.setCells c0.blk (off - c0.lo) vs).cell? ⟨c.blk, c.boff + (j - c.lo), none⟩ = some vc ∧ VR ρ v vc ∧ vc.oneCell' = true := by
    intro c hc j hj1 hj2 hj3
    obtain ⟨v, vc, q1, q2, q3, q4⟩ := (hcr c hc).cell j hj1 hj3
    refine ⟨v, vc, ?_, ?_, q3, q4⟩
    · rw [List.append_assoc, List.getElem?_append_left (by simp; omega), List.getElem?_take, if_pos hj2]; exact q1
    · rw [World.cell?_setCells_out]
      · exact q2
      · intro hb _
        rcases List.mem_cons.1 hc with rfl | hc'
        · left; show c.boff + (j - c.lo) < _; omega
        · exact absurd hb (hne c hc')
  have hOR : OR B (ρ.upd id (.cells z ({ c0 with hi := (xs.take off ++ ys ++ xs.drop (off + ys.length)).length } :: rest))) (w.setCells c0.blk (off - c0.lo) vs)
      (.cells (xs.take off ++ ys ++ xs.drop (off + ys.length)) z md') (.cells z ({ c0 with hi := (xs.take off ++ ys ++ xs.drop (off + ys.length)).length } :: rest)) := by
    refine ⟨rfl, hz, fun c hc => ?_, fun _ => ⟨_, rest, rfl, rfl, fun c hc => ?_, hown, fun c hc => hne c hc⟩⟩
    · rcases List.mem_cons.1 hc with rfl | hc
      · refine ⟨?_, Nat.le_refl _, fun j hj1 hj2 => ?_, fun h => absurd h hmd', fun _ => ⟨hb0, hB, ?_, C', T, fz, hheap', hCs'.trans hCs, by rw [hCs']; exact hfz⟩⟩
        · have := hlen; show c0.lo ≤ (xs.take off ++ ys ++ xs.drop (off + ys.length)).length; omega
        · simp only at hj1 hj2 ⊢
          by_cases hlt1 : j < off
          · obtain ⟨v, vc, q1, q2, q3, q4⟩ := hread c0 (by simp) j hj1 hlt1 (by omega)
            exact ⟨v, vc, q1, q2, q3.mono hle1, q4⟩
          · by_cases hlt2 : j < off + ys.length
            · have hj3 : j - off < ys.length := by omega
              obtain ⟨vc, hvc, hr⟩ := hv.get (List.getElem?_eq_getElem hj3)
              refine ⟨ys[j - off], vc, ?_, ?_, hr.mono hle1, hone vc (List.mem_of_getElem? hvc)⟩
              · rw [List.append_assoc, List.getElem?_append_right (by simp; omega), List.getElem?_append_left (by simp; omega)]
                simp only [List.length_take, Nat.min_eq_left h2]
                exact List.getElem?_eq_getElem hj3
              · have hj4 : j - off < vs.length := by omega
                have := World.cell?_setCells_in c0.blk vs (off - c0.lo) w (fun i hi => hcell _ (by omega)) (j - off) hj4
                rw [hb0, Nat.zero_add, show j - c0.lo = off - c0.lo + (j - off) by omega, this]
                rw [List.getElem?_eq_getElem hj4] at hvc; exact hvc
            · have hjx : j < xs.length := by rw [hlen] at hj2; omega
              obtain ⟨v, vc, q1, q2, q3, q4⟩ := hc0.cell j hj1 (by omega)
              refine ⟨v, vc, ?_, ?_, q3.mono hle1, q4⟩
              · rw [List.getElem?_append_right (by simp; omega), List.getElem?_drop]
                simp only [List.length_append, List.length_take, Nat.min_eq_left h2]
                rw [show off + ys.length + (j - (off + ys.length)) = j by omega]; exact q1
              · rw [World.cell?_setCells_out]
                · exact q2
                · intro _ _; right; show _ ≤ c0.boff + (j - c0.lo); omega
        · show (xs.take off ++ ys ++ xs.drop (off + ys.length)).length - c0.lo ≤ c0.sz
          rw [hlen]; omega
      · have hcc := hcr c (List.mem_cons_of_mem _ hc)
        have hro := hrest c hc
        refine ⟨hcc.lo, by rw [hlen]; omega, fun j hj1 hj2 => ?_, fun h => absurd h hmd', fun _ => ?_⟩
        · obtain ⟨v, vc, q1, q2, q3, q4⟩ := hread c (List.mem_cons_of_mem _ hc) j hj1 (by omega) hj2
          exact ⟨v, vc, q1, q2, q3.mono hle1, q4⟩
        · obtain ⟨o1, o2, o3, C2, T2, fz2, o4, o5⟩ := hcc.own hmd
          exact ⟨o1, o2, o3, C2, T2, fz2, (k5 _ (hne c hc)).trans o4, o5⟩
    · have := hlt c hc; rw [hlen]; omega
  have hOW : ∀ b, owns (.cells (xs.take off ++ ys ++ xs.drop (off + ys.length)) z md') (.cells z ({ c0 with hi := (xs.take off ++ ys ++ xs.drop (off + ys.length)).length } :: rest)) b →
      owns (.cells xs z md) (.cells z (c0 :: rest)) b ∨ w.heap.size ≤ b := by
    rintro b ⟨_, c, hc, rfl⟩
    left
    refine ⟨hmd, ?_⟩
    rcases List.mem_cons.1 hc with rfl | hc
    · exact ⟨c0, by simp, rfl⟩
    · exact ⟨c, List.mem_cons_of_mem _ hc, rfl⟩
  obtain ⟨hle, hsim'⟩ := hsim.change (w' := w.setCells c0.blk (off - c0.lo) vs) hl hs hle0 hbel
    (fun k hk hno => k5 k fun e => hno ⟨hmd, c0, by simp, e.symm⟩) hOR hOW
  refine ⟨_, hle, ⟨_, hch, rfl, by simp [Rho.upd]⟩, hsim', fun i => ?_⟩
  by_cases hi : c0.boff + (off - c0.lo) < i
  · exact .inr hi
  · left
    have := run_storeCells_cells (P := P) c0.blk (c0.boff + (off - c0.lo) - i) vs i w (fun j hj => ?_) (fun j hj => ?_) hone
    · rw [show c0.boff + (off - c0.lo) - i + i = off - c0.lo by omega] at this; exact this
    · rw [show c0.boff + (off - c0.lo) - i + i + j = off - c0.lo + j by omega]; exact hcell _ (by omega)
    · rw [show c0.boff + (off - c0.lo) - i + i + j = off - c0.lo + j by omega]; exact hfro _ (by omega)

theorem store_ok {a v : AV} {ac vc : Value} (ha : VR ρ a ac) (hv : VR ρ v vc) (t : TypeId) : UnitOK P B w0 ρ w (storeK P t a v σ) (Instr.storeAt t ac vc) := by
  intro K h
  unfold storeK at h
  split at h
  · rename_i id b d z i hi
    obtain ⟨xs, y, md, hs, h, _⟩ := rowK_of h
    cases hc : (md == .own && v.cells.length == i.size && decide (d + i.size ≤ z) && decide (b + d + i.size ≤ xs.length) && leafy v.cells) with
    | false => rw [hc] at h; cases h
    | true =>
      rw [hc, cond_true] at h
      simp only [Bool.and_eq_true, beq_iff_eq, decide_eq_true_eq] at hc
      obtain ⟨⟨⟨⟨rfl, hvl⟩, hdz⟩, hfit⟩, hlf⟩ := hc
      cases ha with
      | @ptr _ _ _ _ cs c hl hcm h1 h2 h3 =>
        have hor := hsim.cells hl hs
        obtain ⟨ey, hz, hcr, hnew⟩ := hor
        subst ey
        obtain ⟨c0, rest, rfl, hhi, _, hrest, _⟩ := hnew (by simp)
        obtain rfl := hrest rfl
        obtain rfl : c = c0 := by simpa using hcm
        obtain ⟨hb0, _, hsz, _⟩ := (hcr c (by simp)).own (by simp)
        have hcv := hv.cells
        obtain ⟨ρ', hle, _, hsim', hrun⟩ := Sim.write (P := P) hsim (md' := .own) hl hs (by simp) (by simp) (fun _ => rfl) (off := b + d) (by omega) (by omega) (fun c hc => by simp at hc) hcv (hcv.one hlf) (by rw [hvl]; omega)
        rw [hvl] at hsim'
        refine ⟨_, ρ', _, hle, hsim', h, ?_⟩
        have := (hrun 0).resolve_right (by omega)
        rw [Nat.sub_zero] at this
        have hsz' : vc.cells.size = i.size := by rw [← Array.length_toList, ← hcv.1]; exact hvl
        simp [Instr.storeAt, Instr.sureAddr, storeVar, run_sizeOf_of hi, hsz', this]
  · cases h

end
end Go.AM
