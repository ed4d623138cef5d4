/- What the laws begin with runs to true; the contracts of the library are borne out. -/
import Derived.Test.YtajincfelnmlhaaGreatL12Seq
import Derived.KernelRfl
namespace Go.Proofs.YtajincfelnmlhaaGreat
open Go Go.RowKit Go.AM
namespace L1
theorem mix : Tryz.prog.follows .mixedOrders = true := by kernel_rfl
theorem free : countFree Tryz.prog = true := by kernel_rfl
theorem noCount : NoCount Tryz.prog := noCount_of free
theorem con115 : SoundAt Tryz.prog 115 (collF 117) := coll_sound noCount Tryz.func115 rfl coll_calls
def tab87 : Tab := ⟨fun g => bif Nat.beq g 115 then some (collF 117) else none, fun _ _ => 0⟩
theorem tab87OK : TabOK Tryz.prog tab87 := fun g F h => by
  unfold tab87 at h
  simp only at h
  cases hq : Nat.beq g 115 with
  | true =>
    rw [hq] at h
    obtain rfl := Nat.eq_of_beq_eq_true hq
    obtain rfl := (Option.some.inj h).symm
    exact con115
  | false =>
    rw [hq] at h
    clear hq
    cases h
theorem run87 : acall Tryz.prog tab87 (drawRegion Tryz.prog) 300 87 [] [] isTrue = true := by kernel_rfl
theorem closed87 : SoundAt Tryz.prog 87 closedF := closed_sound noCount Tryz.func87 rfl fun w => law0 mix noCount tab87OK 300 87 run87 w
def tab51 : Tab := ⟨fun g => bif Nat.beq g 87 then some (closedF) else bif Nat.beq g 115 then some (collF 117) else none, fun _ _ => 0⟩
theorem tab51OK : TabOK Tryz.prog tab51 := fun g F h => by
  unfold tab51 at h
  simp only at h
  cases hq : Nat.beq g 87 with
  | true =>
    rw [hq] at h
    obtain rfl := Nat.eq_of_beq_eq_true hq
    obtain rfl := (Option.some.inj h).symm
    exact closed87
  | false =>
    rw [hq] at h
    clear hq
    cases hq : Nat.beq g 115 with
    | true =>
      rw [hq] at h
      obtain rfl := Nat.eq_of_beq_eq_true hq
      obtain rfl := (Option.some.inj h).symm
      exact con115
    | false =>
      rw [hq] at h
      clear hq
      cases h
theorem run51 : acall Tryz.prog tab51 (drawRegion Tryz.prog) 300 51 [] [] isTrue = true := by kernel_rfl
theorem closed51 : SoundAt Tryz.prog 51 closedF := closed_sound noCount Tryz.func51 rfl fun w => law0 mix noCount tab51OK 300 51 run51 w
end L1
end Go.Proofs.YtajincfelnmlhaaGreat
