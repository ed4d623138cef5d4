/- What the laws begin with runs to true; the contracts of the library are borne out. -/
import Derived.Test.YthmdecfiijgaoaaGreatL20Str
import Derived.Test.YthmdecfiijgaoaaGreatL20Val
import Derived.KernelRfl
namespace Go.Proofs.YthmdecfiijgaoaaGreat
open Go Go.RowKit Go.AM
namespace L1
theorem mix : Tryz.prog.follows .mixedOrders = true := by kernel_rfl
theorem free : countFree Tryz.prog = true := by kernel_rfl
theorem noCount : NoCount Tryz.prog := noCount_of free
theorem con132 : SoundAt Tryz.prog 132 (keysF 148) := strkeys_sound noCount Tryz.func132 rfl StrSeq.keys_calls
theorem con121 : SoundAt Tryz.prog 121 (valsF 136) := vals_sound noCount Tryz.func121 rfl ValSeq.vals_calls
def tab115 : Tab := ⟨fun g => bif Nat.beq g 132 then some (keysF 148) else bif Nat.beq g 121 then some (valsF 136) else none, fun _ _ => 0⟩
theorem tab115OK : TabOK Tryz.prog tab115 := fun g F h => by
  unfold tab115 at h
  simp only at h
  cases hq : Nat.beq g 132 with
  | true =>
    rw [hq] at h
    obtain rfl := Nat.eq_of_beq_eq_true hq
    obtain rfl := (Option.some.inj h).symm
    exact con132
  | false =>
    rw [hq] at h
    clear hq
    cases hq : Nat.beq g 121 with
    | true =>
      rw [hq] at h
      obtain rfl := Nat.eq_of_beq_eq_true hq
      obtain rfl := (Option.some.inj h).symm
      exact con121
    | false =>
      rw [hq] at h
      clear hq
      cases h
theorem run115 : acall Tryz.prog tab115 (drawRegion Tryz.prog) 400 115 [] [] isTrue = true := by kernel_rfl
theorem closed115 : SoundAt Tryz.prog 115 closedF := closed_sound noCount Tryz.func115 rfl fun w => law0 mix noCount tab115OK 400 115 run115 w
def tab51 : Tab := ⟨fun g => bif Nat.beq g 115 then some (closedF) else bif Nat.beq g 132 then some (keysF 148) else bif Nat.beq g 121 then some (valsF 136) else none, fun _ _ => 0⟩
theorem tab51OK : TabOK Tryz.prog tab51 := fun g F h => by
  unfold tab51 at h
  simp only at h
  cases hq : Nat.beq g 115 with
  | true =>
    rw [hq] at h
    obtain rfl := Nat.eq_of_beq_eq_true hq
    obtain rfl := (Option.some.inj h).symm
    exact closed115
  | false =>
    rw [hq] at h
    clear hq
    cases hq : Nat.beq g 132 with
    | true =>
      rw [hq] at h
      obtain rfl := Nat.eq_of_beq_eq_true hq
      obtain rfl := (Option.some.inj h).symm
      exact con132
    | false =>
      rw [hq] at h
      clear hq
      cases hq : Nat.beq g 121 with
      | true =>
        rw [hq] at h
        obtain rfl := Nat.eq_of_beq_eq_true hq
        obtain rfl := (Option.some.inj h).symm
        exact con121
      | false =>
        rw [hq] at h
        clear hq
        cases h
theorem run51 : acall Tryz.prog tab51 (drawRegion Tryz.prog) 400 51 [] [] isTrue = true := by kernel_rfl
theorem closed51 : SoundAt Tryz.prog 51 closedF := closed_sound noCount Tryz.func51 rfl fun w => law0 mix noCount tab51OK 400 51 run51 w
def tab50 : Tab := ⟨fun g => bif Nat.beq g 51 then some (closedF) else bif Nat.beq g 115 then some (closedF) else bif Nat.beq g 132 then some (keysF 148) else bif Nat.beq g 121 then some (valsF 136) else none, fun _ _ => 0⟩
theorem tab50OK : TabOK Tryz.prog tab50 := fun g F h => by
  unfold tab50 at h
  simp only at h
  cases hq : Nat.beq g 51 with
  | true =>
    rw [hq] at h
    obtain rfl := Nat.eq_of_beq_eq_true hq
    obtain rfl := (Option.some.inj h).symm
    exact closed51
  | false =>
    rw [hq] at h
    clear hq
    cases hq : Nat.beq g 115 with
    | true =>
      rw [hq] at h
      obtain rfl := Nat.eq_of_beq_eq_true hq
      obtain rfl := (Option.some.inj h).symm
      exact closed115
    | false =>
      rw [hq] at h
      clear hq
      cases hq : Nat.beq g 132 with
      | true =>
        rw [hq] at h
        obtain rfl := Nat.eq_of_beq_eq_true hq
        obtain rfl := (Option.some.inj h).symm
        exact con132
      | false =>
        rw [hq] at h
        clear hq
        cases hq : Nat.beq g 121 with
        | true =>
          rw [hq] at h
          obtain rfl := Nat.eq_of_beq_eq_true hq
          obtain rfl := (Option.some.inj h).symm
          exact con121
        | false =>
          rw [hq] at h
          clear hq
          cases h
theorem run50 : acall Tryz.prog tab50 (drawRegion Tryz.prog) 400 50 [] [] isTrue = true := by kernel_rfl
theorem closed50 : SoundAt Tryz.prog 50 closedF := closed_sound noCount Tryz.func50 rfl fun w => law0 mix noCount tab50OK 400 50 run50 w
def tab12 : Tab := ⟨fun g => bif Nat.beq g 50 then some (closedF) else bif Nat.beq g 51 then some (closedF) else bif Nat.beq g 115 then some (closedF) else bif Nat.beq g 132 then some (keysF 148) else bif Nat.beq g 121 then some (valsF 136) else none, fun _ _ => 0⟩
theorem tab12OK : TabOK Tryz.prog tab12 := fun g F h => by
  unfold tab12 at h
  simp only at h
  cases hq : Nat.beq g 50 with
  | true =>
    rw [hq] at h
    obtain rfl := Nat.eq_of_beq_eq_true hq
    obtain rfl := (Option.some.inj h).symm
    exact closed50
  | false =>
    rw [hq] at h
    clear hq
    cases hq : Nat.beq g 51 with
    | true =>
      rw [hq] at h
      obtain rfl := Nat.eq_of_beq_eq_true hq
      obtain rfl := (Option.some.inj h).symm
      exact closed51
    | false =>
      rw [hq] at h
      clear hq
      cases hq : Nat.beq g 115 with
      | true =>
        rw [hq] at h
        obtain rfl := Nat.eq_of_beq_eq_true hq
        obtain rfl := (Option.some.inj h).symm
        exact closed115
      | false =>
        rw [hq] at h
        clear hq
        cases hq : Nat.beq g 132 with
        | true =>
          rw [hq] at h
          obtain rfl := Nat.eq_of_beq_eq_true hq
          obtain rfl := (Option.some.inj h).symm
          exact con132
        | false =>
          rw [hq] at h
          clear hq
          cases hq : Nat.beq g 121 with
          | true =>
            rw [hq] at h
            obtain rfl := Nat.eq_of_beq_eq_true hq
            obtain rfl := (Option.some.inj h).symm
            exact con121
          | false =>
            rw [hq] at h
            clear hq
            cases h
theorem run12 : acall Tryz.prog tab12 (drawRegion Tryz.prog) 400 12 [] [] isTrue = true := by kernel_rfl
theorem closed12 : SoundAt Tryz.prog 12 closedF := closed_sound noCount Tryz.func12 rfl fun w => law0 mix noCount tab12OK 400 12 run12 w
/-- All of them. -/
def tabC : Tab := ⟨fun g => bif Nat.beq g 12 then some (closedF) else bif Nat.beq g 50 then some (closedF) else bif Nat.beq g 51 then some (closedF) else bif Nat.beq g 115 then some (closedF) else bif Nat.beq g 132 then some (keysF 148) else bif Nat.beq g 121 then some (valsF 136) else none, fun _ _ => 0⟩
theorem tabCOK : TabOK Tryz.prog tabC := fun g F h => by
  unfold tabC at h
  simp only at h
  cases hq : Nat.beq g 12 with
  | true =>
    rw [hq] at h
    obtain rfl := Nat.eq_of_beq_eq_true hq
    obtain rfl := (Option.some.inj h).symm
    exact closed12
  | false =>
    rw [hq] at h
    clear hq
    cases hq : Nat.beq g 50 with
    | true =>
      rw [hq] at h
      obtain rfl := Nat.eq_of_beq_eq_true hq
      obtain rfl := (Option.some.inj h).symm
      exact closed50
    | false =>
      rw [hq] at h
      clear hq
      cases hq : Nat.beq g 51 with
      | true =>
        rw [hq] at h
        obtain rfl := Nat.eq_of_beq_eq_true hq
        obtain rfl := (Option.some.inj h).symm
        exact closed51
      | false =>
        rw [hq] at h
        clear hq
        cases hq : Nat.beq g 115 with
        | true =>
          rw [hq] at h
          obtain rfl := Nat.eq_of_beq_eq_true hq
          obtain rfl := (Option.some.inj h).symm
          exact closed115
        | false =>
          rw [hq] at h
          clear hq
          cases hq : Nat.beq g 132 with
          | true =>
            rw [hq] at h
            obtain rfl := Nat.eq_of_beq_eq_true hq
            obtain rfl := (Option.some.inj h).symm
            exact con132
          | false =>
            rw [hq] at h
            clear hq
            cases hq : Nat.beq g 121 with
            | true =>
              rw [hq] at h
              obtain rfl := Nat.eq_of_beq_eq_true hq
              obtain rfl := (Option.some.inj h).symm
              exact con121
            | false =>
              rw [hq] at h
              clear hq
              cases h
end L1
end Go.Proofs.YthmdecfiijgaoaaGreat
