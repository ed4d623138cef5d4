/- A law without arguments. -/
import Derived.Test.YtpagagiojnhhfaaAmDraw3
import Derived.KernelRfl
namespace Go.AM
open Go Go.RowKit

def isTrue (v : AV) (_ : H) : Bool := match v with | .bool b => b | _ => false

theorem isTrue_of {v : AV} {σ : H} (h : isTrue v σ = true) : v = .bool true := by
  unfold isTrue at h
  split at h
  · rw [h]
  · cases h

/-- The empty heap stands for every world. -/
theorem Sim.start (w : World) : Sim w.heap.size w (fun _ => none) [] w where
  below := Below.refl _ _
  size := Nat.le_refl _
  obj _ _ h := by cases h
  apart _ _ _ _ _ _ _ h := by cases h

theorem law0 {P : Program} (hmix : P.follows .mixedOrders = true) (hno : NoCount P) {T : Tab} (hT : TabOK P T) (n f : Nat) (h : acall P T (drawRegion P) n f [] [] isTrue = true) (w : World) :
    Calls P f #[] w fun e w' => e = .returned (.bool true) ∧ Below w.heap.size w w' := by
  obtain ⟨_, hc⟩ := acall_ok hT hmix hno n w.heap.size w (fun _ => none) [] w f [] #[] isTrue (Sim.start w) VRs.nil h
  refine hc.mono fun e w' hh => ?_
  obtain ⟨v, vc, σ', ρ', rfl, _, hv, hs, hk⟩ := hh
  obtain rfl := isTrue_of hk
  rw [hv.of_bool]
  exact ⟨rfl, hs.below⟩

/-- A function without arguments that returns true, and makes new blocks alone. -/
def closedF : List AV → H → (AV → H → Bool) → Bool := fun args σ K => match args with
  | [] => K (.bool true) σ
  | _ => false

theorem closed_sound {P : Program} (hno : NoCount P) {g : Nat} {fn : Func} (hfn : P.funcs[g]? = some fn) (hb : fn.body.isSome = true)
    (h : ∀ w, Calls P g #[] w fun e w' => e = .returned (.bool true) ∧ Below w.heap.size w w') : SoundAt P g closedF := fun B w0 ρ σ w args argsc K hs ha hF => by
  unfold closedF at hF
  split at hF
  · have he : argsc = #[] := by
      have := ha.inv_nil
      exact Array.toList_eq_nil_iff.1 this
    subst he
    refine ⟨?_, (h w).mono fun e w' ⟨h1, h2⟩ => ⟨_, _, σ, ρ, h1, .refl ρ, .bool true, hs.grown h2, hF⟩⟩
    have hnm := hno g fn hfn hb
    have hb' : fn.body.isNone = false := by cases hq : fn.body <;> rw [hq] at hb <;> first | rfl | cases hb
    simp only [callFunc, Sem.run_bind, run_program, Result.andThen_ok, hfn]
    simp [hnm, hb']
  · cases hF

def countFree (P : Program) : Bool := P.funcs.all fun fn => fn.body.isNone || !(fn.name == "runtime.NumGoroutine")

theorem noCount_of {P : Program} (h : countFree P = true) : NoCount P := fun g fn hf hb => by
  have := Array.all_eq_true_iff_forall_mem.1 h fn (Array.mem_of_getElem? hf)
  rw [Bool.or_eq_true] at this
  rcases this with h | h
  · cases hq : fn.body with
    | none => rw [hq] at hb; cases hb
    | some c => rw [hq] at h; cases h
  · simpa using h

end Go.AM
