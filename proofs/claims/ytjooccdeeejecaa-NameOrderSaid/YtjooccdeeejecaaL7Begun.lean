/- What the laws begin with runs to true; the contract of slices.Collect over maps.Keys is borne out. -/
import Derived.Test.YtjooccdeeejecaaL7Seq
import Derived.KernelRfl
namespace Go.Proofs.Ytjooccdeeejecaa
open Go Go.RowKit Go.AM
theorem coll_calls (w : World) (Bm b : Nat) (ces : Array MapEntry) (clock : Nat) (ks : List (Int × Int)) (ht : EntTold ces clock) (hk : Keys ces ks) (hlen : ks.length ≤ 1000000) (hm : w.cell? ⟨Bm, 0, none⟩ = some (.map (some b))) (hb : w.heap[b]? = some (.map ces clock)) :
    Calls Try.prog 28 #[.func (.func 30) #[] #[.pointer (some ⟨Bm, 0, none⟩)]] w fun e w' => ∃ v xs, e = .returned v ∧ xs.Perm ks ∧ w'.ownsRow w.heap.size 28 2 v xs.length (flatI xs) ∧ (v = .slice none 0 0 ↔ xs = []) ∧ Below w.heap.size w w' :=
  (callsIn_wide (n := 6)).1 (collect_in Fence.wide 6 trivial trivial trivial rfl (by omega) Bm b ces clock ks ht hk hlen w hm hb)
namespace L1
theorem mix : Try.prog.follows .mixedOrders = true := by kernel_rfl
theorem free : countFree Try.prog = true := by kernel_rfl
theorem noCount : NoCount Try.prog := noCount_of free
theorem coll_ok : SoundAt Try.prog 28 (collF 30) := coll_sound noCount Try.func28 rfl coll_calls
def tabA : Tab := ⟨fun g => bif Nat.beq g 28 then some (collF 30) else none, fun _ _ => 0⟩
theorem tabAOK : TabOK Try.prog tabA := fun g F h => by
  unfold tabA at h
  simp only at h
  cases hq : Nat.beq g 28 with
  | true =>
    rw [hq] at h
    obtain rfl := Nat.eq_of_beq_eq_true hq
    obtain rfl := (Option.some.inj h).symm
    exact coll_ok
  | false => rw [hq] at h; cases h
theorem run21 : acall Try.prog tabA (drawRegion Try.prog) 300 21 [] [] isTrue = true := by kernel_rfl
theorem closed21 : SoundAt Try.prog 21 closedF := closed_sound noCount Try.func21 rfl fun w => law0 mix noCount tabAOK 300 21 run21 w
def tabB : Tab := ⟨fun g => bif Nat.beq g 21 then some closedF else bif Nat.beq g 28 then some (collF 30) else none, fun _ _ => 0⟩
theorem tabBOK : TabOK Try.prog tabB := fun g F h => by
  unfold tabB at h
  simp only at h
  cases hr : Nat.beq g 21 with
  | true =>
    rw [hr] at h
    obtain rfl := Nat.eq_of_beq_eq_true hr
    obtain rfl := (Option.some.inj h).symm
    exact closed21
  | false =>
    rw [hr] at h
    cases hq : Nat.beq g 28 with
    | true =>
      rw [hq] at h
      obtain rfl := Nat.eq_of_beq_eq_true hq
      obtain rfl := (Option.some.inj h).symm
      exact coll_ok
    | false => rw [hq] at h; cases h
theorem run8 : acall Try.prog tabB (drawRegion Try.prog) 300 8 [] [] isTrue = true := by kernel_rfl
theorem closed8 : SoundAt Try.prog 8 closedF := closed_sound noCount Try.func8 rfl fun w => law0 mix noCount tabBOK 300 8 run8 w
/-- A table with begun() alone. -/
def tabC : Tab := ⟨fun g => bif Nat.beq g 8 then some closedF else none, fun _ _ => 0⟩
theorem tabCOK : TabOK Try.prog tabC := fun g F h => by
  unfold tabC at h
  simp only at h
  cases hr : Nat.beq g 8 with
  | true =>
    rw [hr] at h
    obtain rfl := Nat.eq_of_beq_eq_true hr
    obtain rfl := (Option.some.inj h).symm
    exact closed8
  | false => rw [hr] at h; cases h
end L1
end Go.Proofs.Ytjooccdeeejecaa
