/- The reference's numbers, more: what its functions do. -/
import Derived.Test.YtjooccdeeejecaaL1Ref
namespace Go.Proofs.Ytjooccdeeejecaa
open Go Go.AM Go.AM.St

theorem refX {x : Nat} : IntKind.u64.wrap ((x : Int).tmod 128) = ((x % 128 : Nat) : Int) := by
  rw [show (128 : Int) = ((128 : Nat) : Int) from rfl, tmod_nat, wrap_u64 (by omega)]
theorem refMost {x : Nat} : IntKind.u64.wrap ((IntKind.u64.wrap (18446744073709551615 - IntKind.u64.wrap ((x : Int).tmod 128))).tdiv 128) = ((144115188075855871 : Nat) : Int) := by
  rw [refX, show (18446744073709551615 : Int) - ((x % 128 : Nat) : Int) = ((18446744073709551615 - x % 128 : Nat) : Int) by omega, wrap_u64 (by omega), quo_nat (k := .u64) (y := 128) (u := 18446744073709551615 - x % 128) (v := 128) rfl rfl rfl (by show _ < 18446744073709551616; omega)]
  congr 1
  omega
theorem refStep {u x : Nat} (hu : u < 144115188075855872) : IntKind.u64.wrap (IntKind.u64.wrap ((u : Int) * 128) + IntKind.u64.wrap ((x : Int).tmod 128)) = ((u * 128 + x % 128 : Nat) : Int) := by
  rw [refX, show (u : Int) * 128 = ((u * 128 : Nat) : Int) by omega, wrap_u64 (by omega), show ((u * 128 : Nat) : Int) + ((x % 128 : Nat) : Int) = ((u * 128 + x % 128 : Nat) : Int) by omega, wrap_u64 (by omega)]
theorem refMul {i m : Nat} (hm : m = 256 ^ i % 18446744073709551616) : IntKind.u64.wrap ((m : Int) * 256) = ((256 ^ (i + 1) % 18446744073709551616 : Nat) : Int) := by
  subst hm
  rw [show ((256 ^ i % 18446744073709551616 : Nat) : Int) * 256 = ((256 ^ i % 18446744073709551616 * 256 : Nat) : Int) by omega, wrap_mod (k := .u64) rfl, Nat.pow_succ]
  show ((_ % 18446744073709551616 : Nat) : Int) = _
  rw [Nat.mod_mul_mod]
theorem refSum {i n x : Nat} (hn : n < 256 ^ i) (hx : x < 256) (hi : i < 8) : IntKind.u64.wrap ((n : Int) + IntKind.u64.wrap (IntKind.u64.wrap (x : Int) * ((256 ^ i % 18446744073709551616 : Nat) : Int))) = ((n + x * 256 ^ i : Nat) : Int) := by
  have hp : 256 ^ i ≤ 256 ^ 7 := Nat.pow_le_pow_right (by decide) (by omega)
  have hp' : (256 : Nat) ^ 7 = 72057594037927936 := by decide
  have hb : x * 256 ^ i ≤ 255 * 256 ^ i := Nat.mul_le_mul_right _ (by omega)
  rw [Nat.mod_eq_of_lt (by omega), wrap_u64 (u := x) (by omega), ← Int.natCast_mul, wrap_u64 (by omega), ← Int.natCast_add, wrap_u64 (by omega)]
attribute [local irreducible] IntKind.wrap Int.fdiv Int.tdiv Int.tmod BitVec.ofInt appendK sliceK indexAddrK ldK storeK seenK makeSliceK
set_option maxRecDepth 100000
variable {D : Drawer}

end Go.Proofs.Ytjooccdeeejecaa
