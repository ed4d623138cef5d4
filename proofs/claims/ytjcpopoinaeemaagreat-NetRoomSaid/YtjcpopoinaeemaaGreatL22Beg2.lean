/- What the laws begin with runs to true; the contracts of the library are borne out. -/
import Derived.Test.YtjcpopoinaeemaaGreatL22Ent
import Derived.KernelRfl
namespace Go.Proofs.YtjcpopoinaeemaaGreat
open Go Go.RowKit Go.AM
namespace L2
open L1 (mix noCount)
theorem con29 : SoundAt Tryz.prog 29 (closedF) := Ent.closed29
theorem con60 : SoundAt Tryz.prog 60 (closedF) := L1.closed60
theorem con148 : SoundAt Tryz.prog 148 (collF 150) := L1.con148
theorem con87 : SoundAt Tryz.prog 87 (valsF 117) := L1.con87
def tab15 : Tab := ⟨fun g => bif Nat.beq g 29 then some (closedF) else bif Nat.beq g 60 then some (closedF) else bif Nat.beq g 148 then some (collF 150) else bif Nat.beq g 87 then some (valsF 117) else none, fun _ _ => 0⟩
theorem tab15OK : TabOK Tryz.prog tab15 := fun g F h => by
  unfold tab15 at h
  simp only at h
  cases hq : Nat.beq g 29 with
  | true =>
    rw [hq] at h
    obtain rfl := Nat.eq_of_beq_eq_true hq
    obtain rfl := (Option.some.inj h).symm
    exact con29
  | false =>
    rw [hq] at h
    clear hq
    cases hq : Nat.beq g 60 with
    | true =>
      rw [hq] at h
      obtain rfl := Nat.eq_of_beq_eq_true hq
      obtain rfl := (Option.some.inj h).symm
      exact con60
    | false =>
      rw [hq] at h
      clear hq
      cases hq : Nat.beq g 148 with
      | true =>
        rw [hq] at h
        obtain rfl := Nat.eq_of_beq_eq_true hq
        obtain rfl := (Option.some.inj h).symm
        exact con148
      | false =>
        rw [hq] at h
        clear hq
        cases hq : Nat.beq g 87 with
        | true =>
          rw [hq] at h
          obtain rfl := Nat.eq_of_beq_eq_true hq
          obtain rfl := (Option.some.inj h).symm
          exact con87
        | false =>
          rw [hq] at h
          clear hq
          cases h
theorem run15 : acall Tryz.prog tab15 (drawRegion Tryz.prog) 400 15 [] [] isTrue = true := by kernel_rfl
theorem closed15 : SoundAt Tryz.prog 15 closedF := closed_sound noCount Tryz.func15 rfl fun w => law0 mix noCount tab15OK 400 15 run15 w
def tab16 : Tab := ⟨fun g => bif Nat.beq g 15 then some (closedF) else bif Nat.beq g 29 then some (closedF) else bif Nat.beq g 60 then some (closedF) else bif Nat.beq g 148 then some (collF 150) else bif Nat.beq g 87 then some (valsF 117) else none, fun _ _ => 0⟩
theorem tab16OK : TabOK Tryz.prog tab16 := fun g F h => by
  unfold tab16 at h
  simp only at h
  cases hq : Nat.beq g 15 with
  | true =>
    rw [hq] at h
    obtain rfl := Nat.eq_of_beq_eq_true hq
    obtain rfl := (Option.some.inj h).symm
    exact closed15
  | false =>
    rw [hq] at h
    clear hq
    cases hq : Nat.beq g 29 with
    | true =>
      rw [hq] at h
      obtain rfl := Nat.eq_of_beq_eq_true hq
      obtain rfl := (Option.some.inj h).symm
      exact con29
    | false =>
      rw [hq] at h
      clear hq
      cases hq : Nat.beq g 60 with
      | true =>
        rw [hq] at h
        obtain rfl := Nat.eq_of_beq_eq_true hq
        obtain rfl := (Option.some.inj h).symm
        exact con60
      | false =>
        rw [hq] at h
        clear hq
        cases hq : Nat.beq g 148 with
        | true =>
          rw [hq] at h
          obtain rfl := Nat.eq_of_beq_eq_true hq
          obtain rfl := (Option.some.inj h).symm
          exact con148
        | false =>
          rw [hq] at h
          clear hq
          cases hq : Nat.beq g 87 with
          | true =>
            rw [hq] at h
            obtain rfl := Nat.eq_of_beq_eq_true hq
            obtain rfl := (Option.some.inj h).symm
            exact con87
          | false =>
            rw [hq] at h
            clear hq
            cases h
theorem run16 : acall Tryz.prog tab16 (drawRegion Tryz.prog) 400 16 [] [] isTrue = true := by kernel_rfl
theorem closed16 : SoundAt Tryz.prog 16 closedF := closed_sound noCount Tryz.func16 rfl fun w => law0 mix noCount tab16OK 400 16 run16 w
def tab6 : Tab := ⟨fun g => bif Nat.beq g 16 then some (closedF) else bif Nat.beq g 15 then some (closedF) else bif Nat.beq g 29 then some (closedF) else bif Nat.beq g 60 then some (closedF) else bif Nat.beq g 148 then some (collF 150) else bif Nat.beq g 87 then some (valsF 117) else none, fun _ _ => 0⟩
theorem tab6OK : TabOK Tryz.prog tab6 := fun g F h => by
  unfold tab6 at h
  simp only at h
  cases hq : Nat.beq g 16 with
  | true =>
    rw [hq] at h
    obtain rfl := Nat.eq_of_beq_eq_true hq
    obtain rfl := (Option.some.inj h).symm
    exact closed16
  | false =>
    rw [hq] at h
    clear hq
    cases hq : Nat.beq g 15 with
    | true =>
      rw [hq] at h
      obtain rfl := Nat.eq_of_beq_eq_true hq
      obtain rfl := (Option.some.inj h).symm
      exact closed15
    | false =>
      rw [hq] at h
      clear hq
      cases hq : Nat.beq g 29 with
      | true =>
        rw [hq] at h
        obtain rfl := Nat.eq_of_beq_eq_true hq
        obtain rfl := (Option.some.inj h).symm
        exact con29
      | false =>
        rw [hq] at h
        clear hq
        cases hq : Nat.beq g 60 with
        | true =>
          rw [hq] at h
          obtain rfl := Nat.eq_of_beq_eq_true hq
          obtain rfl := (Option.some.inj h).symm
          exact con60
        | false =>
          rw [hq] at h
          clear hq
          cases hq : Nat.beq g 148 with
          | true =>
            rw [hq] at h
            obtain rfl := Nat.eq_of_beq_eq_true hq
            obtain rfl := (Option.some.inj h).symm
            exact con148
          | false =>
            rw [hq] at h
            clear hq
            cases hq : Nat.beq g 87 with
            | true =>
              rw [hq] at h
              obtain rfl := Nat.eq_of_beq_eq_true hq
              obtain rfl := (Option.some.inj h).symm
              exact con87
            | false =>
              rw [hq] at h
              clear hq
              cases h
theorem run6 : acall Tryz.prog tab6 (drawRegion Tryz.prog) 400 6 [] [] isTrue = true := by kernel_rfl
theorem closed6 : SoundAt Tryz.prog 6 closedF := closed_sound noCount Tryz.func6 rfl fun w => law0 mix noCount tab6OK 400 6 run6 w
/-- All of them. -/
def tabC : Tab := ⟨fun g => bif Nat.beq g 6 then some (closedF) else bif Nat.beq g 16 then some (closedF) else bif Nat.beq g 15 then some (closedF) else bif Nat.beq g 29 then some (closedF) else bif Nat.beq g 60 then some (closedF) else bif Nat.beq g 148 then some (collF 150) else bif Nat.beq g 87 then some (valsF 117) else none, fun _ _ => 0⟩
theorem tabCOK : TabOK Tryz.prog tabC := fun g F h => by
  unfold tabC at h
  simp only at h
  cases hq : Nat.beq g 6 with
  | true =>
    rw [hq] at h
    obtain rfl := Nat.eq_of_beq_eq_true hq
    obtain rfl := (Option.some.inj h).symm
    exact closed6
  | false =>
    rw [hq] at h
    clear hq
    cases hq : Nat.beq g 16 with
    | true =>
      rw [hq] at h
      obtain rfl := Nat.eq_of_beq_eq_true hq
      obtain rfl := (Option.some.inj h).symm
      exact closed16
    | false =>
      rw [hq] at h
      clear hq
      cases hq : Nat.beq g 15 with
      | true =>
        rw [hq] at h
        obtain rfl := Nat.eq_of_beq_eq_true hq
        obtain rfl := (Option.some.inj h).symm
        exact closed15
      | false =>
        rw [hq] at h
        clear hq
        cases hq : Nat.beq g 29 with
        | true =>
          rw [hq] at h
          obtain rfl := Nat.eq_of_beq_eq_true hq
          obtain rfl := (Option.some.inj h).symm
          exact con29
        | false =>
          rw [hq] at h
          clear hq
          cases hq : Nat.beq g 60 with
          | true =>
            rw [hq] at h
            obtain rfl := Nat.eq_of_beq_eq_true hq
            obtain rfl := (Option.some.inj h).symm
            exact con60
          | false =>
            rw [hq] at h
            clear hq
            cases hq : Nat.beq g 148 with
            | true =>
              rw [hq] at h
              obtain rfl := Nat.eq_of_beq_eq_true hq
              obtain rfl := (Option.some.inj h).symm
              exact con148
            | false =>
              rw [hq] at h
              clear hq
              cases hq : Nat.beq g 87 with
              | true =>
                rw [hq] at h
                obtain rfl := Nat.eq_of_beq_eq_true hq
                obtain rfl := (Option.some.inj h).symm
                exact con87
              | false =>
                rw [hq] at h
                clear hq
                cases h
end L2
end Go.Proofs.YtjcpopoinaeemaaGreat
