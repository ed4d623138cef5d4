/- The reference's numbers: what its functions do. -/
import Derived.Test.YtjooccdeeejecaaL1Word3
namespace Go.Proofs.Ytjooccdeeejecaa
open Go Go.AM Go.AM.St

theorem refZigNeg {x : Int} (h1 : -9223372036854775808 ≤ x) (h2 : x < 0) :
    IntKind.u64.wrap (IntKind.u64.wrap (IntKind.u64.wrap (IntKind.i64.wrap (0 - IntKind.i64.wrap (x + 1))) * 2) + 1) = (zigN x : Int) := by
  rw [wrap_i64 (x := x + 1) (by omega) (by omega), wrap_i64 (x := 0 - (x + 1)) (by omega) (by omega)]
  have e : (0 - (x + 1)) = ((-(x + 1)).toNat : Int) := by omega
  rw [e, wrap_u64 (by omega), show ((-(x + 1)).toNat : Int) * 2 = ((2 * (-(x + 1)).toNat : Nat) : Int) by omega, wrap_u64 (by omega),
    show ((2 * (-(x + 1)).toNat : Nat) : Int) + 1 = ((2 * (-(x + 1)).toNat + 1 : Nat) : Int) by omega, wrap_u64 (by omega)]
  unfold zigN
  rw [if_pos h2]
  omega
theorem refZigPos {x : Int} (h1 : 0 ≤ x) (h2 : x ≤ 9223372036854775807) : IntKind.u64.wrap (IntKind.u64.wrap x * 2) = (zigN x : Int) := by
  have e : x = (x.toNat : Int) := by omega
  rw [e, wrap_u64 (by omega), show ((x.toNat : Int)) * 2 = ((2 * x.toNat : Nat) : Int) by omega, wrap_u64 (by omega)]
  unfold zigN
  rw [if_neg (by omega)]
  omega
theorem refZagOdd {u : Nat} (hu : u < 18446744073709551616) (h : u % 2 = 1) : IntKind.i64.wrap (IntKind.i64.wrap (0 - IntKind.i64.wrap (IntKind.u64.wrap ((u : Int).tdiv 2))) - 1) = zagI u := by
  rw [quo_nat (k := .u64) (x := (u : Int)) (y := 2) (u := u) (v := 2) rfl rfl rfl hu, wrap_i64 (x := ((u / 2 : Nat) : Int)) (by omega) (by omega), wrap_i64 (x := 0 - ((u / 2 : Nat) : Int)) (by omega) (by omega), wrap_i64 (by omega) (by omega)]
  unfold zagI
  rw [if_pos h]
  omega
theorem refZagEven {u : Nat} (hu : u < 18446744073709551616) (h : ¬ u % 2 = 1) : IntKind.i64.wrap (IntKind.u64.wrap ((u : Int).tdiv 2)) = zagI u := by
  rw [quo_nat (k := .u64) (x := (u : Int)) (y := 2) (u := u) (v := 2) rfl rfl rfl hu, wrap_i64 (x := ((u / 2 : Nat) : Int)) (by omega) (by omega)]
  unfold zagI
  rw [if_neg h]
theorem tmod_nat (u v : Nat) : (u : Int).tmod (v : Int) = ((u % v : Nat) : Int) := rem_nat rfl rfl
theorem refLow {u : Nat} : IntKind.u8.wrap ((u : Int).tmod 128) = ((u % 128 : Nat) : Int) := by
  rw [show (128 : Int) = ((128 : Nat) : Int) from rfl, tmod_nat, wrap_u8 (by omega)]
theorem refLow256 {u : Nat} : IntKind.u8.wrap ((u : Int).tmod 256) = ((u % 256 : Nat) : Int) := by
  rw [show (256 : Int) = ((256 : Nat) : Int) from rfl, tmod_nat, wrap_u8 (by omega)]
theorem refHigh {u : Nat} : IntKind.u8.wrap (IntKind.u8.wrap ((u : Int).tmod 128) + 128) = ((128 + u % 128 : Nat) : Int) := by
  rw [refLow, show ((u % 128 : Nat) : Int) + 128 = ((128 + u % 128 : Nat) : Int) by omega, wrap_u8 (by omega)]
theorem refDiv {u : Nat} (hu : u < 18446744073709551616) : IntKind.u64.wrap ((u : Int).tdiv 128) = ((u / 128 : Nat) : Int) := quo_nat (k := .u64) (x := (u : Int)) (y := 128) (u := u) (v := 128) rfl rfl rfl hu
theorem refDiv256 {u : Nat} (hu : u < 18446744073709551616) : IntKind.u64.wrap ((u : Int).tdiv 256) = ((u / 256 : Nat) : Int) := quo_nat (k := .u64) (x := (u : Int)) (y := 256) (u := u) (v := 256) rfl rfl rfl hu
attribute [local irreducible] IntKind.wrap Int.fdiv Int.tdiv Int.tmod BitVec.ofInt appendK sliceK indexAddrK ldK storeK seenK makeSliceK
set_option maxRecDepth 100000
variable {D : Drawer}

end Go.Proofs.Ytjooccdeeejecaa
