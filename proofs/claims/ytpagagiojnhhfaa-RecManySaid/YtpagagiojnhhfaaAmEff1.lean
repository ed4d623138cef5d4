/- Operations that make new memory. -/
import Derived.Test.YtpagagiojnhhfaaAmRead3
namespace Go.AM
open Go Go.RowKit

/-- An effect, in continuation form, stands for a run. -/
def EffOK (P : Program) (B : Nat) (w0 : World) (ρ : Rho) (w : World) (f : (AV → H → Bool) → Bool) (s : Sem Value) : Prop :=
  ∀ K, f K = true → ∃ v vc σ' ρ' w', ρ.le ρ' ∧ VR ρ' v vc ∧ Sim B w0 ρ' σ' w' ∧ K v σ' = true ∧ s.run P w = .ok vc w'
def UnitOK (P : Program) (B : Nat) (w0 : World) (ρ : Rho) (w : World) (f : (H → Bool) → Bool) (s : Sem Unit) : Prop :=
  ∀ K, f K = true → ∃ σ' ρ' w', ρ.le ρ' ∧ Sim B w0 ρ' σ' w' ∧ K σ' = true ∧ s.run P w = .ok () w'

theorem leafy_mem {vs : List AV} (h : leafy vs = true) : ∀ v ∈ vs, isLeaf v = true := by
  induction vs with
  | nil => simp
  | cons a vs ih =>
    simp only [leafy, Bool.and_eq_true] at h
    intro v hv
    rcases List.mem_cons.1 hv with rfl | hv
    · exact h.1
    · exact ih h.2 v hv

theorem VRs.one {ρ : Rho} {vs : List AV} {vcs : List Value} (h : VRs ρ vs vcs) (hl : leafy vs = true) : ∀ u ∈ vcs, u.oneCell' = true := by
  intro u hu
  obtain ⟨i, hi⟩ := List.getElem?_of_mem hu
  have hlt : i < vcs.length := (List.getElem?_eq_some_iff.1 hi).1
  have hlt' : i < vs.length := by rw [h.1]; exact hlt
  exact (h.2 i _ u (List.getElem?_eq_getElem hlt') hi).one (leafy_mem hl _ (List.getElem_mem hlt'))

theorem below_push {w w' : World} {o : Obj} (hh : w'.heap = w.heap.push o) (ho : w'.os = w.os) (ht : w'.tape = w.tape) (hu : w'.output = w.output) : Below w.heap.size w w' :=
  ⟨ho, ht, hu, by rw [hh, Array.size_push]; omega, fun k hk => by rw [hh, Array.getElem?_push, if_neg (by omega)]⟩

section
variable {P : Program} {B : Nat} {w0 : World} {ρ : Rho} {σ : H} {w w' : World} (hsim : Sim B w0 ρ σ w)
include hsim

/-- A new row of the call's own. -/
theorem Sim.newCells {xs : List AV} {C : Array Value} {T : TypeId} {z : Nat} (hz : 0 < z) (hle : xs.length ≤ C.size) (hx : VRs ρ xs (C.toList.take xs.length))
    (h1 : ∀ u ∈ C.toList.take xs.length, u.oneCell' = true) {fz : Nat × Nat} (hfz : fz.1 = fz.2 ∨ C.size ≤ fz.1) (hh : w'.heap = w.heap.push (.cells C T fz)) (ho : w'.os = w.os) (ht : w'.tape = w.tape) (hu : w'.output = w.output) :
    ∃ ρ', ρ.le ρ' ∧ ρ' σ.length = some (.cells z [⟨w.heap.size, 0, 0, xs.length, C.size⟩]) ∧ Sim B w0 ρ' (σ ++ [.cells xs z .own]) w' := by
  have hblk : w'.heap[w.heap.size]? = some (.cells C T fz) := by rw [hh, Array.getElem?_push, if_pos rfl]
  have hle' := hsim.upd_le (.cells z [⟨w.heap.size, 0, 0, xs.length, C.size⟩])
  refine ⟨_, hle', by simp [Rho.upd], hsim.extend (.cells xs z .own) _ (below_push hh ho ht hu) ?_ ?_⟩
  · refine ⟨rfl, hz, fun c hc => ?_, fun _ => ⟨_, [], rfl, rfl, fun c hc => by simp at hc, fun _ => rfl, fun c hc => by simp at hc⟩⟩
    obtain rfl : c = ⟨w.heap.size, 0, 0, xs.length, C.size⟩ := by simpa using hc
    refine ⟨Nat.zero_le _, Nat.le_refl _, fun j _ hj => ?_, fun h => (by cases h), fun _ => ⟨rfl, hsim.size, by simpa using hle, C, T, fz, hblk, rfl, hfz⟩⟩
    have hj' : j < xs.length := hj
    obtain ⟨vc, hvc, hr⟩ := hx.get (List.getElem?_eq_getElem hj')
    refine ⟨_, vc, List.getElem?_eq_getElem hj', ?_, hr.mono hle', h1 vc (List.mem_of_getElem? hvc)⟩
    have hC : C[j]? = some vc := by
      rw [List.getElem?_take, if_pos hj'] at hvc
      simpa using hvc
    simp only [World.cell?, hblk, Nat.sub_zero, Nat.zero_add, Option.isSome_none, Bool.false_eq_true, if_false, hC]
  · rintro b ⟨_, c, hc, rfl⟩
    obtain rfl : c = ⟨w.heap.size, 0, 0, xs.length, C.size⟩ := by simpa using hc
    exact Nat.le_refl _

theorem Sim.newObj {o : AO} {oc : Obj} (hor : ∀ ρ' : Rho, ρ.le ρ' → w'.heap[w.heap.size]? = some oc → OR B ρ' w' o (.obj w.heap.size)) (hh : w'.heap = w.heap.push oc) (ho : w'.os = w.os)
    (ht : w'.tape = w.tape) (hu : w'.output = w.output) : ∃ ρ', ρ.le ρ' ∧ ρ' σ.length = some (.obj w.heap.size) ∧ Sim B w0 ρ' (σ ++ [o]) w' := by
  have hblk : w'.heap[w.heap.size]? = some oc := by rw [hh, Array.getElem?_push, if_pos rfl]
  have hle' := hsim.upd_le (.obj w.heap.size)
  refine ⟨_, hle', by simp [Rho.upd], hsim.extend o _ (below_push hh ho ht hu) (hor _ hle' hblk) fun b hb => ?_⟩
  cases o <;> simp only [owns] at hb <;> first | (exact hb.elim) | omega

/-- A variable's new block. -/
theorem box_ok {v : AV} {vc : Value} (hv : VR ρ v vc) (T : TypeId) :
    EffOK P B w0 ρ w (fun K => bif v.cells.isEmpty || !leafy v.cells then false else newK σ (.cells v.cells v.cells.length .own) fun id σ => K (.ptr (some ⟨id, 0, 0, v.cells.length⟩)) σ)
      (do pure (.pointer (some (← newVar T vc)))) := by
  intro K h
  simp only at h
  cases hc : (v.cells.isEmpty || !leafy v.cells) with
  | true => rw [hc] at h; cases h
  | false =>
    rw [hc, cond_false] at h
    simp only [Bool.or_eq_false_iff, Bool.not_eq_false'] at hc
    obtain ⟨hne, hl⟩ := hc
    have hcs := hv.cells
    have hsz : v.cells.length = vc.cells.size := by rw [← Array.length_toList]; exact hcs.1
    have hpos : 0 < v.cells.length := by
      cases hq : v.cells with
      | nil => rw [hq] at hne; cases hne
      | cons a b => simp
    have htake : vc.cells.toList.take v.cells.length = vc.cells.toList := by rw [hcs.1, List.take_length]
    obtain ⟨ρ', hle, hloc, hs⟩ := Sim.newCells (w' := { w with heap := w.heap.push (.cells vc.cells T) }) hsim (xs := v.cells) (C := vc.cells) (T := T) hpos (by omega)
      (by rw [htake]; exact hcs) (by rw [htake]; exact hcs.one hl) (fz := (0, 0)) (.inl rfl) rfl rfl rfl rfl
    refine ⟨_, .pointer (some ⟨w.heap.size, 0, none⟩), _, ρ', _, hle, ?_, hs, h, by simp [newVar, newRow]⟩
    have := VR.ptr (ρ := ρ') (b := 0) (d := 0) hloc (List.mem_singleton.2 rfl) (Nat.zero_le _) (by simp) hpos
    exact this

end
end Go.AM
