/- Whole numbers of a width, as natural numbers. -/
import Derived.Test.YtpagagiojnhhfaaAmCore
namespace Go.AM.St
open Go Go.AM

theorem wrap_nat {k : IntKind} (hs : k.signed = false) {u : Nat} (h : u < 2 ^ k.bits) : k.wrap (u : Int) = (u : Int) := by
  unfold IntKind.wrap
  rw [hs]
  simp only [Bool.false_and, Bool.false_eq_true, if_false]
  rw [show ((2 : Int) ^ k.bits) = ((2 ^ k.bits : Nat) : Int) by simp, ← Int.natCast_emod, Nat.mod_eq_of_lt h]

theorem wrap_mod {k : IntKind} (hs : k.signed = false) (u : Nat) : k.wrap (u : Int) = ((u % 2 ^ k.bits : Nat) : Int) := by
  unfold IntKind.wrap
  rw [hs]
  simp only [Bool.false_and, Bool.false_eq_true, if_false]
  rw [show ((2 : Int) ^ k.bits) = ((2 ^ k.bits : Nat) : Int) by simp, ← Int.natCast_emod]

theorem wrap_i64 {x : Int} (h1 : -9223372036854775808 ≤ x) (h2 : x ≤ 9223372036854775807) : IntKind.i64.wrap x = x := by
  simp [IntKind.wrap, IntKind.signed, IntKind.bits]
  split <;> omega

theorem inc_i64 {i : Nat} (h : i < 9223372036854775807) : IntKind.i64.wrap ((i : Int) + 1) = ((i + 1 : Nat) : Int) := by
  rw [wrap_i64 (by omega) (by omega)]; rfl
theorem wrap_u64 {u : Nat} (h : u < 18446744073709551616) : IntKind.u64.wrap (u : Int) = (u : Int) := wrap_nat rfl h
theorem wrap_u32 {u : Nat} (h : u < 4294967296) : IntKind.u32.wrap (u : Int) = (u : Int) := wrap_nat rfl h
theorem wrap_u8 {u : Nat} (h : u < 256) : IntKind.u8.wrap (u : Int) = (u : Int) := wrap_nat rfl h

theorem ofInt_nat (w u : Nat) : BitVec.ofInt w (u : Int) = BitVec.ofNat w u := by simp

theorem and_nat {k : IntKind} (hs : k.signed = false) {x y : Int} {u v : Nat} (hx : x = (u : Int)) (hy : y = (v : Int)) (hu : u < 2 ^ k.bits) (hv : v < 2 ^ k.bits) :
    k.wrap ((BitVec.ofInt k.bits x &&& BitVec.ofInt k.bits y).toNat : Int) = ((u &&& v : Nat) : Int) := by
  subst hx hy
  rw [ofInt_nat, ofInt_nat, BitVec.toNat_and, BitVec.toNat_ofNat, BitVec.toNat_ofNat, Nat.mod_eq_of_lt hu, Nat.mod_eq_of_lt hv]
  exact wrap_nat hs (Nat.and_lt_two_pow _ hv)
theorem or_nat {k : IntKind} (hs : k.signed = false) {x y : Int} {u v : Nat} (hx : x = (u : Int)) (hy : y = (v : Int)) (hu : u < 2 ^ k.bits) (hv : v < 2 ^ k.bits) :
    k.wrap ((BitVec.ofInt k.bits x ||| BitVec.ofInt k.bits y).toNat : Int) = ((u ||| v : Nat) : Int) := by
  subst hx hy
  rw [ofInt_nat, ofInt_nat, BitVec.toNat_or, BitVec.toNat_ofNat, BitVec.toNat_ofNat, Nat.mod_eq_of_lt hu, Nat.mod_eq_of_lt hv]
  exact wrap_nat hs (Nat.or_lt_two_pow hu hv)
theorem xor_nat {k : IntKind} (hs : k.signed = false) {x y : Int} {u v : Nat} (hx : x = (u : Int)) (hy : y = (v : Int)) (hu : u < 2 ^ k.bits) (hv : v < 2 ^ k.bits) :
    k.wrap ((BitVec.ofInt k.bits x ^^^ BitVec.ofInt k.bits y).toNat : Int) = ((u ^^^ v : Nat) : Int) := by
  subst hx hy
  rw [ofInt_nat, ofInt_nat, BitVec.toNat_xor, BitVec.toNat_ofNat, BitVec.toNat_ofNat, Nat.mod_eq_of_lt hu, Nat.mod_eq_of_lt hv]
  exact wrap_nat hs (Nat.xor_lt_two_pow hu hv)

/-- The lowest bits. -/
theorem mask_nat (j u : Nat) : u &&& (2 ^ j - 1) = u % 2 ^ j := Nat.and_two_pow_sub_one_eq_mod _ _
/-- Bits above others. -/
theorem or_add {j a b : Nat} (h : b < 2 ^ j) : (a * 2 ^ j) ||| b = a * 2 ^ j + b := by
  rw [Nat.mul_comm]; exact (Nat.two_pow_add_eq_or_of_lt h a).symm
theorem or_add' {j a b : Nat} (h : b < 2 ^ j) : b ||| (a * 2 ^ j) = a * 2 ^ j + b := by rw [Nat.or_comm]; exact or_add h

theorem shr_nat {k : IntKind} {x : Int} {u j : Nat} (hx : x = (u : Int)) : x.fdiv (2 ^ (min j k.bits)) = ((u / 2 ^ (min j k.bits) : Nat) : Int) := by
  subst hx
  rw [show ((2 : Int) ^ (min j k.bits)) = ((2 ^ (min j k.bits) : Nat) : Int) by simp]
  rw [Int.fdiv_eq_ediv_of_nonneg _ (Int.natCast_nonneg _)]
  exact (Int.natCast_ediv _ _).symm
theorem shl_nat {k : IntKind} (hs : k.signed = false) {x : Int} {u j : Nat} (hx : x = (u : Int)) : k.wrap (x * 2 ^ (min j k.bits)) = ((u * 2 ^ (min j k.bits) % 2 ^ k.bits : Nat) : Int) := by
  subst hx
  rw [show (u : Int) * (2 : Int) ^ (min j k.bits) = ((u * 2 ^ (min j k.bits) : Nat) : Int) by simp]
  exact wrap_mod hs _

theorem add_nat {k : IntKind} (hs : k.signed = false) {x y : Int} {u v : Nat} (hx : x = (u : Int)) (hy : y = (v : Int)) : k.wrap (x + y) = (((u + v) % 2 ^ k.bits : Nat) : Int) := by
  subst hx hy
  rw [show (u : Int) + (v : Int) = ((u + v : Nat) : Int) by simp]
  exact wrap_mod hs _
theorem mul_nat {k : IntKind} (hs : k.signed = false) {x y : Int} {u v : Nat} (hx : x = (u : Int)) (hy : y = (v : Int)) : k.wrap (x * y) = (((u * v) % 2 ^ k.bits : Nat) : Int) := by
  subst hx hy
  rw [show (u : Int) * (v : Int) = ((u * v : Nat) : Int) by simp]
  exact wrap_mod hs _
theorem rem_nat {x y : Int} {u v : Nat} (hx : x = (u : Int)) (hy : y = (v : Int)) : x.tmod y = ((u % v : Nat) : Int) := by
  subst hx hy
  exact (Int.ofNat_tmod u v).symm
theorem quo_nat {k : IntKind} (hs : k.signed = false) {x y : Int} {u v : Nat} (hx : x = (u : Int)) (hy : y = (v : Int)) (hu : u < 2 ^ k.bits) : k.wrap (x.tdiv y) = ((u / v : Nat) : Int) := by
  subst hx hy
  rw [← Int.ofNat_tdiv]
  exact wrap_nat hs (Nat.lt_of_le_of_lt (Nat.div_le_self _ _) hu)

end Go.AM.St
