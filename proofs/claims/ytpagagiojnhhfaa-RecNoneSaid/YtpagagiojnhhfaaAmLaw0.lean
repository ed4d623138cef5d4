/- A law without arguments. -/
import Derived.Test.YtpagagiojnhhfaaAmDraw3
import Derived.KernelRfl
namespace Go.AM
open Go Go.RowKit

def isTrue (v : AV) (_ : H) : Bool := match v with | .bool b => b | _ => false

theorem isTrue_of {v : AV} {σ : H} (h : isTrue v σ = true) : v = .bool true := by
  unfold isTrue at h
  split at h
  · rw [h]
  · cases h

/-- The empty heap stands for every world. -/
theorem Sim.start (w : World) : Sim w.heap.size w (fun _ => none) [] w where
  below := Below.refl _ _
  size := Nat.le_refl _
  obj _ _ h := by cases h
  apart _ _ _ _ _ _ _ h := by cases h

theorem law0 {P : Program} (hmix : P.follows .mixedOrders = true) (hno : NoCount P) (n f : Nat) (h : acall P n f [] [] isTrue = true) (w : World) :
    Calls P f #[] w fun e w' => e = .returned (.bool true) ∧ Below w.heap.size w w' := by
  obtain ⟨_, hc⟩ := acall_ok hmix hno n w.heap.size w (fun _ => none) [] w f [] #[] isTrue (Sim.start w) VRs.nil h
  refine hc.mono fun e w' hh => ?_
  obtain ⟨v, vc, σ', ρ', rfl, _, hv, hs, hk⟩ := hh
  obtain rfl := isTrue_of hk
  rw [hv.of_bool]
  exact ⟨rfl, hs.below⟩

def countFree (P : Program) : Bool := P.funcs.all fun fn => fn.body.isNone || !(fn.name == "runtime.NumGoroutine")

theorem noCount_of {P : Program} (h : countFree P = true) : NoCount P := fun g fn hf hb => by
  have := Array.all_eq_true_iff_forall_mem.1 h fn (Array.mem_of_getElem? hf)
  rw [Bool.or_eq_true] at this
  rcases this with h | h
  · cases hq : fn.body with
    | none => rw [hq] at hb; cases hb
    | some c => rw [hq] at h; cases h
  · simpa using h

end Go.AM
