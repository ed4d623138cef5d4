/- What the laws begin with runs to true; the contracts of the library are borne out. -/
import Derived.Test.YtjcpopoinaeemaaGreatL22Coll
import Derived.Test.YtjcpopoinaeemaaGreatL22Val
import Derived.KernelRfl
namespace Go.Proofs.YtjcpopoinaeemaaGreat
open Go Go.RowKit Go.AM
namespace L1
theorem mix : Tryz.prog.follows .mixedOrders = true := by kernel_rfl
theorem free : countFree Tryz.prog = true := by kernel_rfl
theorem noCount : NoCount Tryz.prog := noCount_of free
theorem con148 : SoundAt Tryz.prog 148 (collF 150) := coll_sound noCount Tryz.func148 rfl CollSeq.coll_calls
theorem con87 : SoundAt Tryz.prog 87 (valsF 117) := vals_sound noCount Tryz.func87 rfl ValSeq.vals_calls
def tab60 : Tab := ⟨fun g => bif Nat.beq g 148 then some (collF 150) else bif Nat.beq g 87 then some (valsF 117) else none, fun _ _ => 0⟩
theorem tab60OK : TabOK Tryz.prog tab60 := fun g F h => by
  unfold tab60 at h
  simp only at h
  cases hq : Nat.beq g 148 with
  | true =>
    rw [hq] at h
    obtain rfl := Nat.eq_of_beq_eq_true hq
    obtain rfl := (Option.some.inj h).symm
    exact con148
  | false =>
    rw [hq] at h
    clear hq
    cases hq : Nat.beq g 87 with
    | true =>
      rw [hq] at h
      obtain rfl := Nat.eq_of_beq_eq_true hq
      obtain rfl := (Option.some.inj h).symm
      exact con87
    | false =>
      rw [hq] at h
      clear hq
      cases h
theorem run60 : acall Tryz.prog tab60 (drawRegion Tryz.prog) 400 60 [] [] isTrue = true := by kernel_rfl
theorem closed60 : SoundAt Tryz.prog 60 closedF := closed_sound noCount Tryz.func60 rfl fun w => law0 mix noCount tab60OK 400 60 run60 w
def tab46 : Tab := ⟨fun g => bif Nat.beq g 60 then some (closedF) else bif Nat.beq g 148 then some (collF 150) else bif Nat.beq g 87 then some (valsF 117) else none, fun _ _ => 0⟩
theorem tab46OK : TabOK Tryz.prog tab46 := fun g F h => by
  unfold tab46 at h
  simp only at h
  cases hq : Nat.beq g 60 with
  | true =>
    rw [hq] at h
    obtain rfl := Nat.eq_of_beq_eq_true hq
    obtain rfl := (Option.some.inj h).symm
    exact closed60
  | false =>
    rw [hq] at h
    clear hq
    cases hq : Nat.beq g 148 with
    | true =>
      rw [hq] at h
      obtain rfl := Nat.eq_of_beq_eq_true hq
      obtain rfl := (Option.some.inj h).symm
      exact con148
    | false =>
      rw [hq] at h
      clear hq
      cases hq : Nat.beq g 87 with
      | true =>
        rw [hq] at h
        obtain rfl := Nat.eq_of_beq_eq_true hq
        obtain rfl := (Option.some.inj h).symm
        exact con87
      | false =>
        rw [hq] at h
        clear hq
        cases h
theorem run46 : acall Tryz.prog tab46 (drawRegion Tryz.prog) 400 46 [] [] isTrue = true := by kernel_rfl
theorem closed46 : SoundAt Tryz.prog 46 closedF := closed_sound noCount Tryz.func46 rfl fun w => law0 mix noCount tab46OK 400 46 run46 w
/-- All of them. -/
def tabC : Tab := ⟨fun g => bif Nat.beq g 46 then some (closedF) else bif Nat.beq g 60 then some (closedF) else bif Nat.beq g 148 then some (collF 150) else bif Nat.beq g 87 then some (valsF 117) else none, fun _ _ => 0⟩
theorem tabCOK : TabOK Tryz.prog tabC := fun g F h => by
  unfold tabC at h
  simp only at h
  cases hq : Nat.beq g 46 with
  | true =>
    rw [hq] at h
    obtain rfl := Nat.eq_of_beq_eq_true hq
    obtain rfl := (Option.some.inj h).symm
    exact closed46
  | false =>
    rw [hq] at h
    clear hq
    cases hq : Nat.beq g 60 with
    | true =>
      rw [hq] at h
      obtain rfl := Nat.eq_of_beq_eq_true hq
      obtain rfl := (Option.some.inj h).symm
      exact closed60
    | false =>
      rw [hq] at h
      clear hq
      cases hq : Nat.beq g 148 with
      | true =>
        rw [hq] at h
        obtain rfl := Nat.eq_of_beq_eq_true hq
        obtain rfl := (Option.some.inj h).symm
        exact con148
      | false =>
        rw [hq] at h
        clear hq
        cases hq : Nat.beq g 87 with
        | true =>
          rw [hq] at h
          obtain rfl := Nat.eq_of_beq_eq_true hq
          obtain rfl := (Option.some.inj h).symm
          exact con87
        | false =>
          rw [hq] at h
          clear hq
          cases h
end L1
end Go.Proofs.YtjcpopoinaeemaaGreat
