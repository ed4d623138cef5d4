/- What the laws begin with runs to true; the contracts of the library are borne out. -/
import Derived.Test.YtahhajakgakdhaaL5Seq
import Derived.KernelRfl
namespace Go.Proofs.Ytahhajakgakdhaa
open Go Go.RowKit Go.AM
namespace L1
theorem mix : Try.prog.follows .mixedOrders = true := by kernel_rfl
theorem free : countFree Try.prog = true := by kernel_rfl
theorem noCount : NoCount Try.prog := noCount_of free
theorem con58 : SoundAt Try.prog 58 (keysF 75) := strkeys_sound noCount Try.func58 rfl keys_calls
def tab43 : Tab := ⟨fun g => bif Nat.beq g 58 then some (keysF 75) else none, fun _ _ => 0⟩
theorem tab43OK : TabOK Try.prog tab43 := fun g F h => by
  unfold tab43 at h
  simp only at h
  cases hq : Nat.beq g 58 with
  | true =>
    rw [hq] at h
    obtain rfl := Nat.eq_of_beq_eq_true hq
    obtain rfl := (Option.some.inj h).symm
    exact con58
  | false =>
    rw [hq] at h
    clear hq
    cases h
theorem run43 : acall Try.prog tab43 (drawRegion Try.prog) 300 43 [] [] isTrue = true := by kernel_rfl
theorem closed43 : SoundAt Try.prog 43 closedF := closed_sound noCount Try.func43 rfl fun w => law0 mix noCount tab43OK 300 43 run43 w
def tab15 : Tab := ⟨fun g => bif Nat.beq g 43 then some (closedF) else bif Nat.beq g 58 then some (keysF 75) else none, fun _ _ => 0⟩
theorem tab15OK : TabOK Try.prog tab15 := fun g F h => by
  unfold tab15 at h
  simp only at h
  cases hq : Nat.beq g 43 with
  | true =>
    rw [hq] at h
    obtain rfl := Nat.eq_of_beq_eq_true hq
    obtain rfl := (Option.some.inj h).symm
    exact closed43
  | false =>
    rw [hq] at h
    clear hq
    cases hq : Nat.beq g 58 with
    | true =>
      rw [hq] at h
      obtain rfl := Nat.eq_of_beq_eq_true hq
      obtain rfl := (Option.some.inj h).symm
      exact con58
    | false =>
      rw [hq] at h
      clear hq
      cases h
theorem run15 : acall Try.prog tab15 (drawRegion Try.prog) 300 15 [] [] isTrue = true := by kernel_rfl
theorem closed15 : SoundAt Try.prog 15 closedF := closed_sound noCount Try.func15 rfl fun w => law0 mix noCount tab15OK 300 15 run15 w
/-- All of them. -/
def tabC : Tab := ⟨fun g => bif Nat.beq g 15 then some (closedF) else bif Nat.beq g 43 then some (closedF) else bif Nat.beq g 58 then some (keysF 75) else none, fun _ _ => 0⟩
theorem tabCOK : TabOK Try.prog tabC := fun g F h => by
  unfold tabC at h
  simp only at h
  cases hq : Nat.beq g 15 with
  | true =>
    rw [hq] at h
    obtain rfl := Nat.eq_of_beq_eq_true hq
    obtain rfl := (Option.some.inj h).symm
    exact closed15
  | false =>
    rw [hq] at h
    clear hq
    cases hq : Nat.beq g 43 with
    | true =>
      rw [hq] at h
      obtain rfl := Nat.eq_of_beq_eq_true hq
      obtain rfl := (Option.some.inj h).symm
      exact closed43
    | false =>
      rw [hq] at h
      clear hq
      cases hq : Nat.beq g 58 with
      | true =>
        rw [hq] at h
        obtain rfl := Nat.eq_of_beq_eq_true hq
        obtain rfl := (Option.some.inj h).symm
        exact con58
      | false =>
        rw [hq] at h
        clear hq
        cases h
end L1
end Go.Proofs.Ytahhajakgakdhaa
