/- What the laws begin with, run from heaps that are known, call by call. -/
import Derived.Test.YtajincfelnmlhaaGreatL12Begun
import Derived.Test.YtajincfelnmlhaaGreatAmGc
import Derived.KernelRfl
namespace Go.Proofs.YtajincfelnmlhaaGreat
set_option maxRecDepth 100000
open Go Go.RowKit Go.AM
namespace Ent
def tab47 : Tab := ⟨fun g => bif Nat.beq g 51 then some (closedF) else none, fun _ _ => 0⟩
theorem tab47OK : TabOK Tryz.prog tab47 := fun g F h => by
  unfold tab47 at h
  simp only at h
  cases hq : Nat.beq g 51 with
  | true =>
    rw [hq] at h
    obtain rfl := Nat.eq_of_beq_eq_true hq
    obtain rfl := (Option.some.inj h).symm
    exact L1.closed51
  | false =>
    rw [hq] at h
    clear hq
    cases h
def heap0 : H := [.cells [.int .i64 (Int.ofNat 4), .str [(Int.ofNat 97)], .str [(Int.ofNat 107)], .str [(Int.ofNat 118)], .int .i64 (Int.ofNat 0), .int .i64 (Int.ofNat 6), .str [(Int.ofNat 98)], .str [], .str [(Int.ofNat 120)], .int .i64 (Int.ofNat 0)] 5 .own,
    .cells [.int .i64 (Int.ofNat 1), .int .i64 (Int.ofNat 2)] 2 .own,
    .cells [.int .i64 (Int.ofNat 1), .int .i64 (Int.ofNat 2)] 2 .own,
    .cells [.int .i64 (Int.ofNat 3), .sl (.at 11 0 1) 6, .sl (.at 16 0 1) 6] 3 .own,
    .cells [.int .i64 (Int.ofNat 1), .int .i64 (Int.ofNat 2)] 2 .own,
    .cells [.int .i64 (Int.ofNat 4), .str [(Int.ofNat 97)], .str [(Int.ofNat 107)], .str [(Int.ofNat 118)], .int .i64 (Int.ofNat 0)] 5 .own,
    .cells [.int .i64 (Int.ofNat 4), .str [(Int.ofNat 97)], .str [(Int.ofNat 107)], .str [(Int.ofNat 118)], .int .i64 (Int.ofNat 0)] 5 .own,
    .siter [(Int.ofNat 97)] 1,
    .cells [.int .i64 (Int.ofNat 6), .str [(Int.ofNat 98)], .str [], .str [(Int.ofNat 120)], .int .i64 (Int.ofNat 0)] 5 .own,
    .cells [.int .i64 (Int.ofNat 6), .str [(Int.ofNat 98)], .str [], .str [(Int.ofNat 120)], .int .i64 (Int.ofNat 0)] 5 .own,
    .siter [(Int.ofNat 98)] 1,
    .cells [.int .i64 (Int.ofNat 1), .int .i64 (Int.ofNat 2), .int .i64 (Int.ofNat 4), .int .i64 (Int.ofNat 0), .int .i64 (Int.ofNat 6), .int .i64 (Int.ofNat 0)] 1 .multi,
    .cells [.int .i64 (Int.ofNat 3), .sl (.at 11 0 1) 6, .sl (.at 16 0 1) 6] 3 .own,
    .cells [.int .i64 (Int.ofNat 4), .str [(Int.ofNat 97)], .str [(Int.ofNat 107)], .str [(Int.ofNat 118)], .int .i64 (Int.ofNat 0)] 5 .own,
    .cells [.int .i64 (Int.ofNat 4), .int .i64 (Int.ofNat 0)] 1 .own,
    .cells [.str [(Int.ofNat 97)], .str [(Int.ofNat 107)], .str [(Int.ofNat 118)]] 1 .own,
    .cells [.str [(Int.ofNat 97)], .str [(Int.ofNat 107)], .str [(Int.ofNat 118)], .str [(Int.ofNat 98)], .str [], .str [(Int.ofNat 120)]] 1 .multi,
    .cells [.int .i64 (Int.ofNat 6), .str [(Int.ofNat 98)], .str [], .str [(Int.ofNat 120)], .int .i64 (Int.ofNat 0)] 5 .own,
    .cells [.int .i64 (Int.ofNat 6), .int .i64 (Int.ofNat 0)] 1 .own,
    .cells [.str [(Int.ofNat 98)], .str [], .str [(Int.ofNat 120)]] 1 .own,
    .cells [.int .i64 (Int.ofNat 3), .sl (.at 11 0 1) 6, .sl (.at 16 0 1) 6] 3 .own,
    .cells [.int .i64 (Int.ofNat 3), .sl (.at 11 0 1) 6, .sl (.at 16 0 1) 6] 3 .own,
    .cells [.int .i64 (Int.ofNat 1), .int .i64 (Int.ofNat 2)] 2 .own,
    .cells [.int .i64 (Int.ofNat 1), .int .i64 (Int.ofNat 2)] 2 .own,
    .cells [.int .i64 (Int.ofNat 4), .str [(Int.ofNat 97)], .str [(Int.ofNat 107)], .str [(Int.ofNat 118)], .int .i64 (Int.ofNat 0)] 5 .own,
    .dead,
    .cells [.int .i64 (Int.ofNat 6), .str [(Int.ofNat 98)], .str [], .str [(Int.ofNat 120)], .int .i64 (Int.ofNat 0)] 5 .own,
    .cells [.int .i64 (Int.ofNat 4), .str [(Int.ofNat 97)], .str [(Int.ofNat 107)], .str [(Int.ofNat 118)], .int .i64 (Int.ofNat 0), .int .i64 (Int.ofNat 6), .str [(Int.ofNat 98)], .str [], .str [(Int.ofNat 120)], .int .i64 (Int.ofNat 0)] 5 .own,
    .cells [.int .i64 (Int.ofNat 1), .int .i64 (Int.ofNat 2)] 2 .own,
    .cells [.int .i64 (Int.ofNat 3), .sl (.at 37 0 1) 6, .sl (.at 42 0 1) 6] 3 .own,
    .cells [.int .i64 (Int.ofNat 1), .int .i64 (Int.ofNat 2)] 2 .own,
    .cells [.int .i64 (Int.ofNat 4), .str [(Int.ofNat 97)], .str [(Int.ofNat 107)], .str [(Int.ofNat 118)], .int .i64 (Int.ofNat 0)] 5 .own,
    .cells [.int .i64 (Int.ofNat 4), .str [(Int.ofNat 97)], .str [(Int.ofNat 107)], .str [(Int.ofNat 118)], .int .i64 (Int.ofNat 0)] 5 .own,
    .siter [(Int.ofNat 97)] 1,
    .cells [.int .i64 (Int.ofNat 6), .str [(Int.ofNat 98)], .str [], .str [(Int.ofNat 120)], .int .i64 (Int.ofNat 0)] 5 .own,
    .cells [.int .i64 (Int.ofNat 6), .str [(Int.ofNat 98)], .str [], .str [(Int.ofNat 120)], .int .i64 (Int.ofNat 0)] 5 .own,
    .siter [(Int.ofNat 98)] 1,
    .cells [.int .i64 (Int.ofNat 1), .int .i64 (Int.ofNat 2), .int .i64 (Int.ofNat 4), .int .i64 (Int.ofNat 0), .int .i64 (Int.ofNat 6), .int .i64 (Int.ofNat 0)] 1 .multi,
    .cells [.int .i64 (Int.ofNat 3), .sl (.at 37 0 1) 6, .sl (.at 42 0 1) 6] 3 .own,
    .cells [.int .i64 (Int.ofNat 4), .str [(Int.ofNat 97)], .str [(Int.ofNat 107)], .str [(Int.ofNat 118)], .int .i64 (Int.ofNat 0)] 5 .own,
    .cells [.int .i64 (Int.ofNat 4), .int .i64 (Int.ofNat 0)] 1 .own,
    .cells [.str [(Int.ofNat 97)], .str [(Int.ofNat 107)], .str [(Int.ofNat 118)]] 1 .own,
    .cells [.str [(Int.ofNat 97)], .str [(Int.ofNat 107)], .str [(Int.ofNat 118)], .str [(Int.ofNat 98)], .str [], .str [(Int.ofNat 120)]] 1 .multi,
    .cells [.int .i64 (Int.ofNat 6), .str [(Int.ofNat 98)], .str [], .str [(Int.ofNat 120)], .int .i64 (Int.ofNat 0)] 5 .own,
    .cells [.int .i64 (Int.ofNat 6), .int .i64 (Int.ofNat 0)] 1 .own,
    .cells [.str [(Int.ofNat 98)], .str [], .str [(Int.ofNat 120)]] 1 .own,
    .cells [.int .i64 (Int.ofNat 3), .sl (.at 37 0 1) 6, .sl (.at 42 0 1) 6] 3 .own,
    .cells [.int .i64 (Int.ofNat 3), .sl (.at 37 0 1) 6, .sl (.at 42 0 1) 6] 3 .own,
    .cells [.int .i64 (Int.ofNat 3), .sl (.at 11 0 1) 6, .sl (.at 16 0 1) 6] 3 .own,
    .cells [.int .i64 (Int.ofNat 1), .int .i64 (Int.ofNat 2)] 2 .own,
    .cells [.str []] 1 .own]
def heap1 : H := [.cells [.int .i64 (Int.ofNat 4), .str [(Int.ofNat 97)], .str [(Int.ofNat 107)], .str [(Int.ofNat 118)], .int .i64 (Int.ofNat 0), .int .i64 (Int.ofNat 6), .str [(Int.ofNat 98)], .str [], .str [(Int.ofNat 120)], .int .i64 (Int.ofNat 0)] 5 .own,
    .cells [.int .i64 (Int.ofNat 1), .int .i64 (Int.ofNat 2)] 2 .own,
    .cells [.int .i64 (Int.ofNat 1), .int .i64 (Int.ofNat 2)] 2 .own,
    .cells [.int .i64 (Int.ofNat 3), .sl (.at 11 0 1) 6, .sl (.at 16 0 1) 6] 3 .own,
    .cells [.int .i64 (Int.ofNat 1), .int .i64 (Int.ofNat 2)] 2 .own,
    .cells [.int .i64 (Int.ofNat 4), .str [(Int.ofNat 97)], .str [(Int.ofNat 107)], .str [(Int.ofNat 118)], .int .i64 (Int.ofNat 0)] 5 .own,
    .cells [.int .i64 (Int.ofNat 4), .str [(Int.ofNat 97)], .str [(Int.ofNat 107)], .str [(Int.ofNat 118)], .int .i64 (Int.ofNat 0)] 5 .own,
    .siter [(Int.ofNat 97)] 1,
    .cells [.int .i64 (Int.ofNat 6), .str [(Int.ofNat 98)], .str [], .str [(Int.ofNat 120)], .int .i64 (Int.ofNat 0)] 5 .own,
    .cells [.int .i64 (Int.ofNat 6), .str [(Int.ofNat 98)], .str [], .str [(Int.ofNat 120)], .int .i64 (Int.ofNat 0)] 5 .own,
    .siter [(Int.ofNat 98)] 1,
    .cells [.int .i64 (Int.ofNat 1), .int .i64 (Int.ofNat 2), .int .i64 (Int.ofNat 4), .int .i64 (Int.ofNat 0), .int .i64 (Int.ofNat 6), .int .i64 (Int.ofNat 0)] 1 .multi,
    .cells [.int .i64 (Int.ofNat 3), .sl (.at 11 0 1) 6, .sl (.at 16 0 1) 6] 3 .own,
    .cells [.int .i64 (Int.ofNat 4), .str [(Int.ofNat 97)], .str [(Int.ofNat 107)], .str [(Int.ofNat 118)], .int .i64 (Int.ofNat 0)] 5 .own,
    .cells [.int .i64 (Int.ofNat 4), .int .i64 (Int.ofNat 0)] 1 .own,
    .cells [.str [(Int.ofNat 97)], .str [(Int.ofNat 107)], .str [(Int.ofNat 118)]] 1 .own,
    .cells [.str [(Int.ofNat 97)], .str [(Int.ofNat 107)], .str [(Int.ofNat 118)], .str [(Int.ofNat 98)], .str [], .str [(Int.ofNat 120)]] 1 .multi,
    .cells [.int .i64 (Int.ofNat 6), .str [(Int.ofNat 98)], .str [], .str [(Int.ofNat 120)], .int .i64 (Int.ofNat 0)] 5 .own,
    .cells [.int .i64 (Int.ofNat 6), .int .i64 (Int.ofNat 0)] 1 .own,
    .cells [.str [(Int.ofNat 98)], .str [], .str [(Int.ofNat 120)]] 1 .own,
    .cells [.int .i64 (Int.ofNat 3), .sl (.at 11 0 1) 6, .sl (.at 16 0 1) 6] 3 .own,
    .cells [.int .i64 (Int.ofNat 3), .sl (.at 11 0 1) 6, .sl (.at 16 0 1) 6] 3 .own,
    .cells [.int .i64 (Int.ofNat 1), .int .i64 (Int.ofNat 2)] 2 .own,
    .cells [.int .i64 (Int.ofNat 1), .int .i64 (Int.ofNat 2)] 2 .own,
    .cells [.int .i64 (Int.ofNat 4), .str [(Int.ofNat 97)], .str [(Int.ofNat 107)], .str [(Int.ofNat 118)], .int .i64 (Int.ofNat 0)] 5 .own,
    .dead,
    .cells [.int .i64 (Int.ofNat 6), .str [(Int.ofNat 98)], .str [], .str [(Int.ofNat 120)], .int .i64 (Int.ofNat 0)] 5 .own,
    .cells [.int .i64 (Int.ofNat 4), .str [(Int.ofNat 97)], .str [(Int.ofNat 107)], .str [(Int.ofNat 118)], .int .i64 (Int.ofNat 0), .int .i64 (Int.ofNat 6), .str [(Int.ofNat 98)], .str [], .str [(Int.ofNat 120)], .int .i64 (Int.ofNat 0)] 5 .own,
    .cells [.int .i64 (Int.ofNat 1), .int .i64 (Int.ofNat 2)] 2 .own,
    .cells [.int .i64 (Int.ofNat 3), .sl (.at 37 0 1) 6, .sl (.at 42 0 1) 6] 3 .own,
    .cells [.int .i64 (Int.ofNat 1), .int .i64 (Int.ofNat 2)] 2 .own,
    .cells [.int .i64 (Int.ofNat 4), .str [(Int.ofNat 97)], .str [(Int.ofNat 107)], .str [(Int.ofNat 118)], .int .i64 (Int.ofNat 0)] 5 .own,
    .cells [.int .i64 (Int.ofNat 4), .str [(Int.ofNat 97)], .str [(Int.ofNat 107)], .str [(Int.ofNat 118)], .int .i64 (Int.ofNat 0)] 5 .own,
    .siter [(Int.ofNat 97)] 1,
    .cells [.int .i64 (Int.ofNat 6), .str [(Int.ofNat 98)], .str [], .str [(Int.ofNat 120)], .int .i64 (Int.ofNat 0)] 5 .own,
    .cells [.int .i64 (Int.ofNat 6), .str [(Int.ofNat 98)], .str [], .str [(Int.ofNat 120)], .int .i64 (Int.ofNat 0)] 5 .own,
    .siter [(Int.ofNat 98)] 1,
    .cells [.int .i64 (Int.ofNat 1), .int .i64 (Int.ofNat 2), .int .i64 (Int.ofNat 4), .int .i64 (Int.ofNat 0), .int .i64 (Int.ofNat 6), .int .i64 (Int.ofNat 0)] 1 .multi,
    .cells [.int .i64 (Int.ofNat 3), .sl (.at 37 0 1) 6, .sl (.at 42 0 1) 6] 3 .own,
    .cells [.int .i64 (Int.ofNat 4), .str [(Int.ofNat 97)], .str [(Int.ofNat 107)], .str [(Int.ofNat 118)], .int .i64 (Int.ofNat 0)] 5 .own,
    .cells [.int .i64 (Int.ofNat 4), .int .i64 (Int.ofNat 0)] 1 .own,
    .cells [.str [(Int.ofNat 97)], .str [(Int.ofNat 107)], .str [(Int.ofNat 118)]] 1 .own,
    .cells [.str [(Int.ofNat 97)], .str [(Int.ofNat 107)], .str [(Int.ofNat 118)], .str [(Int.ofNat 98)], .str [], .str [(Int.ofNat 120)]] 1 .multi,
    .cells [.int .i64 (Int.ofNat 6), .str [(Int.ofNat 98)], .str [], .str [(Int.ofNat 120)], .int .i64 (Int.ofNat 0)] 5 .own,
    .cells [.int .i64 (Int.ofNat 6), .int .i64 (Int.ofNat 0)] 1 .own,
    .cells [.str [(Int.ofNat 98)], .str [], .str [(Int.ofNat 120)]] 1 .own,
    .cells [.int .i64 (Int.ofNat 3), .sl (.at 37 0 1) 6, .sl (.at 42 0 1) 6] 3 .own,
    .cells [.int .i64 (Int.ofNat 3), .sl (.at 37 0 1) 6, .sl (.at 42 0 1) 6] 3 .own,
    .cells [.int .i64 (Int.ofNat 3), .sl (.at 11 0 1) 6, .sl (.at 16 0 1) 6] 3 .own,
    .cells [.int .i64 (Int.ofNat 1), .int .i64 (Int.ofNat 2)] 2 .own,
    .cells [.str []] 1 .own,
    .cells [.int .i64 (Int.ofNat 1), .int .i64 (Int.ofNat 2), .int .i64 (Int.ofNat 0), .int .i64 (Int.ofNat 1), .int .i64 (Int.ofNat 3)] 1 .own,
    .cells [.str []] 1 .own]
def e47x0 : Ent := ⟨[.agg [.int .i64 (Int.ofNat 1), .int .i64 (Int.ofNat 2), .int .i64 (Int.ofNat 0), .bool true, .int .i64 (Int.ofNat 3), .sl (.at 50 0 1) 1]], heap0, .tup [.agg [.int .i64 (Int.ofNat 5), .sl (.at 51 0 1) 5, .sl (.at 52 0 1) 1], .bool true], heap1⟩
theorem run47x0 : acall Tryz.prog tab47 (drawRegion Tryz.prog) 300 47 e47x0.args e47x0.old (chk e47x0.old.length e47x0.val e47x0.new) = true := by kernel_rfl
def heap2 : H := [.cells [.int .i64 (Int.ofNat 4), .str [(Int.ofNat 97)], .str [(Int.ofNat 107)], .str [(Int.ofNat 118)], .int .i64 (Int.ofNat 0), .int .i64 (Int.ofNat 6), .str [(Int.ofNat 98)], .str [], .str [(Int.ofNat 120)], .int .i64 (Int.ofNat 0)] 5 .own,
    .cells [.int .i64 (Int.ofNat 1), .int .i64 (Int.ofNat 2)] 2 .own,
    .cells [.int .i64 (Int.ofNat 1), .int .i64 (Int.ofNat 2)] 2 .own,
    .cells [.int .i64 (Int.ofNat 3), .sl (.at 11 0 1) 6, .sl (.at 16 0 1) 6] 3 .own,
    .cells [.int .i64 (Int.ofNat 1), .int .i64 (Int.ofNat 2)] 2 .own,
    .cells [.int .i64 (Int.ofNat 4), .str [(Int.ofNat 97)], .str [(Int.ofNat 107)], .str [(Int.ofNat 118)], .int .i64 (Int.ofNat 0)] 5 .own,
    .cells [.int .i64 (Int.ofNat 4), .str [(Int.ofNat 97)], .str [(Int.ofNat 107)], .str [(Int.ofNat 118)], .int .i64 (Int.ofNat 0)] 5 .own,
    .siter [(Int.ofNat 97)] 1,
    .cells [.int .i64 (Int.ofNat 6), .str [(Int.ofNat 98)], .str [], .str [(Int.ofNat 120)], .int .i64 (Int.ofNat 0)] 5 .own,
    .cells [.int .i64 (Int.ofNat 6), .str [(Int.ofNat 98)], .str [], .str [(Int.ofNat 120)], .int .i64 (Int.ofNat 0)] 5 .own,
    .siter [(Int.ofNat 98)] 1,
    .cells [.int .i64 (Int.ofNat 1), .int .i64 (Int.ofNat 2), .int .i64 (Int.ofNat 4), .int .i64 (Int.ofNat 0), .int .i64 (Int.ofNat 6), .int .i64 (Int.ofNat 0)] 1 .multi,
    .cells [.int .i64 (Int.ofNat 3), .sl (.at 11 0 1) 6, .sl (.at 16 0 1) 6] 3 .own,
    .cells [.int .i64 (Int.ofNat 4), .str [(Int.ofNat 97)], .str [(Int.ofNat 107)], .str [(Int.ofNat 118)], .int .i64 (Int.ofNat 0)] 5 .own,
    .cells [.int .i64 (Int.ofNat 4), .int .i64 (Int.ofNat 0)] 1 .own,
    .cells [.str [(Int.ofNat 97)], .str [(Int.ofNat 107)], .str [(Int.ofNat 118)]] 1 .own,
    .cells [.str [(Int.ofNat 97)], .str [(Int.ofNat 107)], .str [(Int.ofNat 118)], .str [(Int.ofNat 98)], .str [], .str [(Int.ofNat 120)]] 1 .multi,
    .cells [.int .i64 (Int.ofNat 6), .str [(Int.ofNat 98)], .str [], .str [(Int.ofNat 120)], .int .i64 (Int.ofNat 0)] 5 .own,
    .cells [.int .i64 (Int.ofNat 6), .int .i64 (Int.ofNat 0)] 1 .own,
    .cells [.str [(Int.ofNat 98)], .str [], .str [(Int.ofNat 120)]] 1 .own,
    .cells [.int .i64 (Int.ofNat 3), .sl (.at 11 0 1) 6, .sl (.at 16 0 1) 6] 3 .own,
    .cells [.int .i64 (Int.ofNat 3), .sl (.at 11 0 1) 6, .sl (.at 16 0 1) 6] 3 .own,
    .cells [.int .i64 (Int.ofNat 1), .int .i64 (Int.ofNat 2)] 2 .own,
    .cells [.int .i64 (Int.ofNat 1), .int .i64 (Int.ofNat 2)] 2 .own,
    .cells [.int .i64 (Int.ofNat 4), .str [(Int.ofNat 97)], .str [(Int.ofNat 107)], .str [(Int.ofNat 118)], .int .i64 (Int.ofNat 0)] 5 .own,
    .dead,
    .cells [.int .i64 (Int.ofNat 6), .str [(Int.ofNat 98)], .str [], .str [(Int.ofNat 120)], .int .i64 (Int.ofNat 0)] 5 .own,
    .cells [.int .i64 (Int.ofNat 4), .str [(Int.ofNat 97)], .str [(Int.ofNat 107)], .str [(Int.ofNat 118)], .int .i64 (Int.ofNat 0), .int .i64 (Int.ofNat 6), .str [(Int.ofNat 98)], .str [], .str [(Int.ofNat 120)], .int .i64 (Int.ofNat 0)] 5 .own,
    .cells [.int .i64 (Int.ofNat 1), .int .i64 (Int.ofNat 2)] 2 .own,
    .cells [.int .i64 (Int.ofNat 3), .sl (.at 37 0 1) 6, .sl (.at 42 0 1) 6] 3 .own,
    .cells [.int .i64 (Int.ofNat 1), .int .i64 (Int.ofNat 2)] 2 .own,
    .cells [.int .i64 (Int.ofNat 4), .str [(Int.ofNat 97)], .str [(Int.ofNat 107)], .str [(Int.ofNat 118)], .int .i64 (Int.ofNat 0)] 5 .own,
    .cells [.int .i64 (Int.ofNat 4), .str [(Int.ofNat 97)], .str [(Int.ofNat 107)], .str [(Int.ofNat 118)], .int .i64 (Int.ofNat 0)] 5 .own,
    .siter [(Int.ofNat 97)] 1,
    .cells [.int .i64 (Int.ofNat 6), .str [(Int.ofNat 98)], .str [], .str [(Int.ofNat 120)], .int .i64 (Int.ofNat 0)] 5 .own,
    .cells [.int .i64 (Int.ofNat 6), .str [(Int.ofNat 98)], .str [], .str [(Int.ofNat 120)], .int .i64 (Int.ofNat 0)] 5 .own,
    .siter [(Int.ofNat 98)] 1,
    .cells [.int .i64 (Int.ofNat 1), .int .i64 (Int.ofNat 2), .int .i64 (Int.ofNat 4), .int .i64 (Int.ofNat 0), .int .i64 (Int.ofNat 6), .int .i64 (Int.ofNat 0)] 1 .multi,
    .cells [.int .i64 (Int.ofNat 3), .sl (.at 37 0 1) 6, .sl (.at 42 0 1) 6] 3 .own,
    .cells [.int .i64 (Int.ofNat 4), .str [(Int.ofNat 97)], .str [(Int.ofNat 107)], .str [(Int.ofNat 118)], .int .i64 (Int.ofNat 0)] 5 .own,
    .cells [.int .i64 (Int.ofNat 4), .int .i64 (Int.ofNat 0)] 1 .own,
    .cells [.str [(Int.ofNat 97)], .str [(Int.ofNat 107)], .str [(Int.ofNat 118)]] 1 .own,
    .cells [.str [(Int.ofNat 97)], .str [(Int.ofNat 107)], .str [(Int.ofNat 118)], .str [(Int.ofNat 98)], .str [], .str [(Int.ofNat 120)]] 1 .multi,
    .cells [.int .i64 (Int.ofNat 6), .str [(Int.ofNat 98)], .str [], .str [(Int.ofNat 120)], .int .i64 (Int.ofNat 0)] 5 .own,
    .cells [.int .i64 (Int.ofNat 6), .int .i64 (Int.ofNat 0)] 1 .own,
    .cells [.str [(Int.ofNat 98)], .str [], .str [(Int.ofNat 120)]] 1 .own,
    .cells [.int .i64 (Int.ofNat 3), .sl (.at 37 0 1) 6, .sl (.at 42 0 1) 6] 3 .own,
    .cells [.int .i64 (Int.ofNat 3), .sl (.at 37 0 1) 6, .sl (.at 42 0 1) 6] 3 .own,
    .cells [.int .i64 (Int.ofNat 3), .sl (.at 11 0 1) 6, .sl (.at 16 0 1) 6] 3 .own,
    .cells [.int .i64 (Int.ofNat 1), .int .i64 (Int.ofNat 2)] 2 .own,
    .cells [.str []] 1 .own,
    .cells [.int .i64 (Int.ofNat 1), .int .i64 (Int.ofNat 2), .int .i64 (Int.ofNat 0), .int .i64 (Int.ofNat 1), .int .i64 (Int.ofNat 3)] 1 .own,
    .cells [.str []] 1 .own,
    .cells [.int .i64 (Int.ofNat 5), .sl (.at 51 0 1) 5, .sl (.at 52 0 1) 1] 3 .own,
    .cells [.int .i64 (Int.ofNat 5), .sl (.at 51 0 1) 5, .sl (.at 52 0 1) 1] 3 .own,
    .cells [.int .i64 (Int.ofNat 0), .int .i64 (Int.ofNat 0), .int .i64 (Int.ofNat 0), .bool false, .int .i64 (Int.ofNat 0), .sl .nil 0] 6 .own,
    .cells [.str []] 1 .own,
    .cells [.int .i64 (Int.ofNat 1), .int .i64 (Int.ofNat 2), .int .i64 (Int.ofNat 0), .bool true, .int .i64 (Int.ofNat 3), .sl (.at 56 0 1) 1] 6 .own]
def heap3 : H := [.cells [.int .i64 (Int.ofNat 4), .str [(Int.ofNat 97)], .str [(Int.ofNat 107)], .str [(Int.ofNat 118)], .int .i64 (Int.ofNat 0), .int .i64 (Int.ofNat 6), .str [(Int.ofNat 98)], .str [], .str [(Int.ofNat 120)], .int .i64 (Int.ofNat 0)] 5 .own,
    .cells [.int .i64 (Int.ofNat 1), .int .i64 (Int.ofNat 2)] 2 .own,
    .cells [.int .i64 (Int.ofNat 1), .int .i64 (Int.ofNat 2)] 2 .own,
    .cells [.int .i64 (Int.ofNat 3), .sl (.at 11 0 1) 6, .sl (.at 16 0 1) 6] 3 .own,
    .cells [.int .i64 (Int.ofNat 1), .int .i64 (Int.ofNat 2)] 2 .own,
    .cells [.int .i64 (Int.ofNat 4), .str [(Int.ofNat 97)], .str [(Int.ofNat 107)], .str [(Int.ofNat 118)], .int .i64 (Int.ofNat 0)] 5 .own,
    .cells [.int .i64 (Int.ofNat 4), .str [(Int.ofNat 97)], .str [(Int.ofNat 107)], .str [(Int.ofNat 118)], .int .i64 (Int.ofNat 0)] 5 .own,
    .siter [(Int.ofNat 97)] 1,
    .cells [.int .i64 (Int.ofNat 6), .str [(Int.ofNat 98)], .str [], .str [(Int.ofNat 120)], .int .i64 (Int.ofNat 0)] 5 .own,
    .cells [.int .i64 (Int.ofNat 6), .str [(Int.ofNat 98)], .str [], .str [(Int.ofNat 120)], .int .i64 (Int.ofNat 0)] 5 .own,
    .siter [(Int.ofNat 98)] 1,
    .cells [.int .i64 (Int.ofNat 1), .int .i64 (Int.ofNat 2), .int .i64 (Int.ofNat 4), .int .i64 (Int.ofNat 0), .int .i64 (Int.ofNat 6), .int .i64 (Int.ofNat 0)] 1 .multi,
    .cells [.int .i64 (Int.ofNat 3), .sl (.at 11 0 1) 6, .sl (.at 16 0 1) 6] 3 .own,
    .cells [.int .i64 (Int.ofNat 4), .str [(Int.ofNat 97)], .str [(Int.ofNat 107)], .str [(Int.ofNat 118)], .int .i64 (Int.ofNat 0)] 5 .own,
    .cells [.int .i64 (Int.ofNat 4), .int .i64 (Int.ofNat 0)] 1 .own,
    .cells [.str [(Int.ofNat 97)], .str [(Int.ofNat 107)], .str [(Int.ofNat 118)]] 1 .own,
    .cells [.str [(Int.ofNat 97)], .str [(Int.ofNat 107)], .str [(Int.ofNat 118)], .str [(Int.ofNat 98)], .str [], .str [(Int.ofNat 120)]] 1 .multi,
    .cells [.int .i64 (Int.ofNat 6), .str [(Int.ofNat 98)], .str [], .str [(Int.ofNat 120)], .int .i64 (Int.ofNat 0)] 5 .own,
    .cells [.int .i64 (Int.ofNat 6), .int .i64 (Int.ofNat 0)] 1 .own,
    .cells [.str [(Int.ofNat 98)], .str [], .str [(Int.ofNat 120)]] 1 .own,
    .cells [.int .i64 (Int.ofNat 3), .sl (.at 11 0 1) 6, .sl (.at 16 0 1) 6] 3 .own,
    .cells [.int .i64 (Int.ofNat 3), .sl (.at 11 0 1) 6, .sl (.at 16 0 1) 6] 3 .own,
    .cells [.int .i64 (Int.ofNat 1), .int .i64 (Int.ofNat 2)] 2 .own,
    .cells [.int .i64 (Int.ofNat 1), .int .i64 (Int.ofNat 2)] 2 .own,
    .cells [.int .i64 (Int.ofNat 4), .str [(Int.ofNat 97)], .str [(Int.ofNat 107)], .str [(Int.ofNat 118)], .int .i64 (Int.ofNat 0)] 5 .own,
    .dead,
    .cells [.int .i64 (Int.ofNat 6), .str [(Int.ofNat 98)], .str [], .str [(Int.ofNat 120)], .int .i64 (Int.ofNat 0)] 5 .own,
    .cells [.int .i64 (Int.ofNat 4), .str [(Int.ofNat 97)], .str [(Int.ofNat 107)], .str [(Int.ofNat 118)], .int .i64 (Int.ofNat 0), .int .i64 (Int.ofNat 6), .str [(Int.ofNat 98)], .str [], .str [(Int.ofNat 120)], .int .i64 (Int.ofNat 0)] 5 .own,
    .cells [.int .i64 (Int.ofNat 1), .int .i64 (Int.ofNat 2)] 2 .own,
    .cells [.int .i64 (Int.ofNat 3), .sl (.at 37 0 1) 6, .sl (.at 42 0 1) 6] 3 .own,
    .cells [.int .i64 (Int.ofNat 1), .int .i64 (Int.ofNat 2)] 2 .own,
    .cells [.int .i64 (Int.ofNat 4), .str [(Int.ofNat 97)], .str [(Int.ofNat 107)], .str [(Int.ofNat 118)], .int .i64 (Int.ofNat 0)] 5 .own,
    .cells [.int .i64 (Int.ofNat 4), .str [(Int.ofNat 97)], .str [(Int.ofNat 107)], .str [(Int.ofNat 118)], .int .i64 (Int.ofNat 0)] 5 .own,
    .siter [(Int.ofNat 97)] 1,
    .cells [.int .i64 (Int.ofNat 6), .str [(Int.ofNat 98)], .str [], .str [(Int.ofNat 120)], .int .i64 (Int.ofNat 0)] 5 .own,
    .cells [.int .i64 (Int.ofNat 6), .str [(Int.ofNat 98)], .str [], .str [(Int.ofNat 120)], .int .i64 (Int.ofNat 0)] 5 .own,
    .siter [(Int.ofNat 98)] 1,
    .cells [.int .i64 (Int.ofNat 1), .int .i64 (Int.ofNat 2), .int .i64 (Int.ofNat 4), .int .i64 (Int.ofNat 0), .int .i64 (Int.ofNat 6), .int .i64 (Int.ofNat 0)] 1 .multi,
    .cells [.int .i64 (Int.ofNat 3), .sl (.at 37 0 1) 6, .sl (.at 42 0 1) 6] 3 .own,
    .cells [.int .i64 (Int.ofNat 4), .str [(Int.ofNat 97)], .str [(Int.ofNat 107)], .str [(Int.ofNat 118)], .int .i64 (Int.ofNat 0)] 5 .own,
    .cells [.int .i64 (Int.ofNat 4), .int .i64 (Int.ofNat 0)] 1 .own,
    .cells [.str [(Int.ofNat 97)], .str [(Int.ofNat 107)], .str [(Int.ofNat 118)]] 1 .own,
    .cells [.str [(Int.ofNat 97)], .str [(Int.ofNat 107)], .str [(Int.ofNat 118)], .str [(Int.ofNat 98)], .str [], .str [(Int.ofNat 120)]] 1 .multi,
    .cells [.int .i64 (Int.ofNat 6), .str [(Int.ofNat 98)], .str [], .str [(Int.ofNat 120)], .int .i64 (Int.ofNat 0)] 5 .own,
    .cells [.int .i64 (Int.ofNat 6), .int .i64 (Int.ofNat 0)] 1 .own,
    .cells [.str [(Int.ofNat 98)], .str [], .str [(Int.ofNat 120)]] 1 .own,
    .cells [.int .i64 (Int.ofNat 3), .sl (.at 37 0 1) 6, .sl (.at 42 0 1) 6] 3 .own,
    .cells [.int .i64 (Int.ofNat 3), .sl (.at 37 0 1) 6, .sl (.at 42 0 1) 6] 3 .own,
    .cells [.int .i64 (Int.ofNat 3), .sl (.at 11 0 1) 6, .sl (.at 16 0 1) 6] 3 .own,
    .cells [.int .i64 (Int.ofNat 1), .int .i64 (Int.ofNat 2)] 2 .own,
    .cells [.str []] 1 .own,
    .cells [.int .i64 (Int.ofNat 1), .int .i64 (Int.ofNat 2), .int .i64 (Int.ofNat 0), .int .i64 (Int.ofNat 1), .int .i64 (Int.ofNat 3)] 1 .own,
    .cells [.str []] 1 .own,
    .cells [.int .i64 (Int.ofNat 5), .sl (.at 51 0 1) 5, .sl (.at 52 0 1) 1] 3 .own,
    .cells [.int .i64 (Int.ofNat 5), .sl (.at 51 0 1) 5, .sl (.at 52 0 1) 1] 3 .own,
    .cells [.int .i64 (Int.ofNat 0), .int .i64 (Int.ofNat 0), .int .i64 (Int.ofNat 0), .bool false, .int .i64 (Int.ofNat 0), .sl .nil 0] 6 .own,
    .cells [.str []] 1 .own,
    .cells [.int .i64 (Int.ofNat 1), .int .i64 (Int.ofNat 2), .int .i64 (Int.ofNat 0), .bool true, .int .i64 (Int.ofNat 3), .sl (.at 56 0 1) 1] 6 .own,
    .cells [.int .i64 (Int.ofNat 1), .int .i64 (Int.ofNat 2), .int .i64 (Int.ofNat 0), .int .i64 (Int.ofNat 1), .int .i64 (Int.ofNat 3)] 1 .own,
    .cells [.str []] 1 .own]
def e47x1 : Ent := ⟨[.agg [.int .i64 (Int.ofNat 1), .int .i64 (Int.ofNat 2), .int .i64 (Int.ofNat 0), .bool true, .int .i64 (Int.ofNat 3), .sl (.at 56 0 1) 1]], heap2, .tup [.agg [.int .i64 (Int.ofNat 5), .sl (.at 58 0 1) 5, .sl (.at 59 0 1) 1], .bool true], heap3⟩
theorem run47x1 : acall Tryz.prog tab47 (drawRegion Tryz.prog) 300 47 e47x1.args e47x1.old (chk e47x1.old.length e47x1.val e47x1.new) = true := by kernel_rfl
def heap4 : H := [.cells [.int .i64 (Int.ofNat 4), .str [(Int.ofNat 97)], .str [(Int.ofNat 107)], .str [(Int.ofNat 118)], .int .i64 (Int.ofNat 0), .int .i64 (Int.ofNat 6), .str [(Int.ofNat 98)], .str [], .str [(Int.ofNat 120)], .int .i64 (Int.ofNat 0)] 5 .own,
    .cells [.int .i64 (Int.ofNat 1), .int .i64 (Int.ofNat 2)] 2 .own,
    .cells [.int .i64 (Int.ofNat 1), .int .i64 (Int.ofNat 2)] 2 .own,
    .cells [.int .i64 (Int.ofNat 3), .sl (.at 11 0 1) 6, .sl (.at 16 0 1) 6] 3 .own,
    .cells [.int .i64 (Int.ofNat 1), .int .i64 (Int.ofNat 2)] 2 .own,
    .cells [.int .i64 (Int.ofNat 4), .str [(Int.ofNat 97)], .str [(Int.ofNat 107)], .str [(Int.ofNat 118)], .int .i64 (Int.ofNat 0)] 5 .own,
    .cells [.int .i64 (Int.ofNat 4), .str [(Int.ofNat 97)], .str [(Int.ofNat 107)], .str [(Int.ofNat 118)], .int .i64 (Int.ofNat 0)] 5 .own,
    .siter [(Int.ofNat 97)] 1,
    .cells [.int .i64 (Int.ofNat 6), .str [(Int.ofNat 98)], .str [], .str [(Int.ofNat 120)], .int .i64 (Int.ofNat 0)] 5 .own,
    .cells [.int .i64 (Int.ofNat 6), .str [(Int.ofNat 98)], .str [], .str [(Int.ofNat 120)], .int .i64 (Int.ofNat 0)] 5 .own,
    .siter [(Int.ofNat 98)] 1,
    .cells [.int .i64 (Int.ofNat 1), .int .i64 (Int.ofNat 2), .int .i64 (Int.ofNat 4), .int .i64 (Int.ofNat 0), .int .i64 (Int.ofNat 6), .int .i64 (Int.ofNat 0)] 1 .multi,
    .cells [.int .i64 (Int.ofNat 3), .sl (.at 11 0 1) 6, .sl (.at 16 0 1) 6] 3 .own,
    .cells [.int .i64 (Int.ofNat 4), .str [(Int.ofNat 97)], .str [(Int.ofNat 107)], .str [(Int.ofNat 118)], .int .i64 (Int.ofNat 0)] 5 .own,
    .cells [.int .i64 (Int.ofNat 4), .int .i64 (Int.ofNat 0)] 1 .own,
    .cells [.str [(Int.ofNat 97)], .str [(Int.ofNat 107)], .str [(Int.ofNat 118)]] 1 .own,
    .cells [.str [(Int.ofNat 97)], .str [(Int.ofNat 107)], .str [(Int.ofNat 118)], .str [(Int.ofNat 98)], .str [], .str [(Int.ofNat 120)]] 1 .multi,
    .cells [.int .i64 (Int.ofNat 6), .str [(Int.ofNat 98)], .str [], .str [(Int.ofNat 120)], .int .i64 (Int.ofNat 0)] 5 .own,
    .cells [.int .i64 (Int.ofNat 6), .int .i64 (Int.ofNat 0)] 1 .own,
    .cells [.str [(Int.ofNat 98)], .str [], .str [(Int.ofNat 120)]] 1 .own,
    .cells [.int .i64 (Int.ofNat 3), .sl (.at 11 0 1) 6, .sl (.at 16 0 1) 6] 3 .own,
    .cells [.int .i64 (Int.ofNat 3), .sl (.at 11 0 1) 6, .sl (.at 16 0 1) 6] 3 .own,
    .cells [.int .i64 (Int.ofNat 1), .int .i64 (Int.ofNat 2)] 2 .own,
    .cells [.int .i64 (Int.ofNat 1), .int .i64 (Int.ofNat 2)] 2 .own,
    .cells [.int .i64 (Int.ofNat 4), .str [(Int.ofNat 97)], .str [(Int.ofNat 107)], .str [(Int.ofNat 118)], .int .i64 (Int.ofNat 0)] 5 .own,
    .dead,
    .cells [.int .i64 (Int.ofNat 6), .str [(Int.ofNat 98)], .str [], .str [(Int.ofNat 120)], .int .i64 (Int.ofNat 0)] 5 .own,
    .cells [.int .i64 (Int.ofNat 4), .str [(Int.ofNat 97)], .str [(Int.ofNat 107)], .str [(Int.ofNat 118)], .int .i64 (Int.ofNat 0), .int .i64 (Int.ofNat 6), .str [(Int.ofNat 98)], .str [], .str [(Int.ofNat 120)], .int .i64 (Int.ofNat 0)] 5 .own,
    .cells [.int .i64 (Int.ofNat 1), .int .i64 (Int.ofNat 2)] 2 .own,
    .cells [.int .i64 (Int.ofNat 3), .sl (.at 37 0 1) 6, .sl (.at 42 0 1) 6] 3 .own,
    .cells [.int .i64 (Int.ofNat 1), .int .i64 (Int.ofNat 2)] 2 .own,
    .cells [.int .i64 (Int.ofNat 4), .str [(Int.ofNat 97)], .str [(Int.ofNat 107)], .str [(Int.ofNat 118)], .int .i64 (Int.ofNat 0)] 5 .own,
    .cells [.int .i64 (Int.ofNat 4), .str [(Int.ofNat 97)], .str [(Int.ofNat 107)], .str [(Int.ofNat 118)], .int .i64 (Int.ofNat 0)] 5 .own,
    .siter [(Int.ofNat 97)] 1,
    .cells [.int .i64 (Int.ofNat 6), .str [(Int.ofNat 98)], .str [], .str [(Int.ofNat 120)], .int .i64 (Int.ofNat 0)] 5 .own,
    .cells [.int .i64 (Int.ofNat 6), .str [(Int.ofNat 98)], .str [], .str [(Int.ofNat 120)], .int .i64 (Int.ofNat 0)] 5 .own,
    .siter [(Int.ofNat 98)] 1,
    .cells [.int .i64 (Int.ofNat 1), .int .i64 (Int.ofNat 2), .int .i64 (Int.ofNat 4), .int .i64 (Int.ofNat 0), .int .i64 (Int.ofNat 6), .int .i64 (Int.ofNat 0)] 1 .multi,
    .cells [.int .i64 (Int.ofNat 3), .sl (.at 37 0 1) 6, .sl (.at 42 0 1) 6] 3 .own,
    .cells [.int .i64 (Int.ofNat 4), .str [(Int.ofNat 97)], .str [(Int.ofNat 107)], .str [(Int.ofNat 118)], .int .i64 (Int.ofNat 0)] 5 .own,
    .cells [.int .i64 (Int.ofNat 4), .int .i64 (Int.ofNat 0)] 1 .own,
    .cells [.str [(Int.ofNat 97)], .str [(Int.ofNat 107)], .str [(Int.ofNat 118)]] 1 .own,
    .cells [.str [(Int.ofNat 97)], .str [(Int.ofNat 107)], .str [(Int.ofNat 118)], .str [(Int.ofNat 98)], .str [], .str [(Int.ofNat 120)]] 1 .multi,
    .cells [.int .i64 (Int.ofNat 6), .str [(Int.ofNat 98)], .str [], .str [(Int.ofNat 120)], .int .i64 (Int.ofNat 0)] 5 .own,
    .cells [.int .i64 (Int.ofNat 6), .int .i64 (Int.ofNat 0)] 1 .own,
    .cells [.str [(Int.ofNat 98)], .str [], .str [(Int.ofNat 120)]] 1 .own,
    .cells [.int .i64 (Int.ofNat 3), .sl (.at 37 0 1) 6, .sl (.at 42 0 1) 6] 3 .own,
    .cells [.int .i64 (Int.ofNat 3), .sl (.at 37 0 1) 6, .sl (.at 42 0 1) 6] 3 .own,
    .cells [.int .i64 (Int.ofNat 3), .sl (.at 11 0 1) 6, .sl (.at 16 0 1) 6] 3 .own,
    .cells [.int .i64 (Int.ofNat 1), .int .i64 (Int.ofNat 2)] 2 .own,
    .cells [.str []] 1 .own,
    .cells [.int .i64 (Int.ofNat 1), .int .i64 (Int.ofNat 2), .int .i64 (Int.ofNat 0), .int .i64 (Int.ofNat 1), .int .i64 (Int.ofNat 3)] 1 .own,
    .cells [.str []] 1 .own,
    .cells [.int .i64 (Int.ofNat 5), .sl (.at 51 0 1) 5, .sl (.at 52 0 1) 1] 3 .own,
    .cells [.int .i64 (Int.ofNat 5), .sl (.at 51 0 1) 5, .sl (.at 52 0 1) 1] 3 .own,
    .cells [.int .i64 (Int.ofNat 0), .int .i64 (Int.ofNat 0), .int .i64 (Int.ofNat 0), .bool false, .int .i64 (Int.ofNat 0), .sl .nil 0] 6 .own,
    .cells [.int .i64 (Int.ofNat 1), .int .i64 (Int.ofNat 2), .int .i64 (Int.ofNat 0), .bool true, .int .i64 (Int.ofNat 3), .sl (.at 57 0 1) 1] 6 .own,
    .cells [.str []] 1 .own]
def heap5 : H := [.cells [.int .i64 (Int.ofNat 4), .str [(Int.ofNat 97)], .str [(Int.ofNat 107)], .str [(Int.ofNat 118)], .int .i64 (Int.ofNat 0), .int .i64 (Int.ofNat 6), .str [(Int.ofNat 98)], .str [], .str [(Int.ofNat 120)], .int .i64 (Int.ofNat 0)] 5 .own,
    .cells [.int .i64 (Int.ofNat 1), .int .i64 (Int.ofNat 2)] 2 .own,
    .cells [.int .i64 (Int.ofNat 1), .int .i64 (Int.ofNat 2)] 2 .own,
    .cells [.int .i64 (Int.ofNat 3), .sl (.at 11 0 1) 6, .sl (.at 16 0 1) 6] 3 .own,
    .cells [.int .i64 (Int.ofNat 1), .int .i64 (Int.ofNat 2)] 2 .own,
    .cells [.int .i64 (Int.ofNat 4), .str [(Int.ofNat 97)], .str [(Int.ofNat 107)], .str [(Int.ofNat 118)], .int .i64 (Int.ofNat 0)] 5 .own,
    .cells [.int .i64 (Int.ofNat 4), .str [(Int.ofNat 97)], .str [(Int.ofNat 107)], .str [(Int.ofNat 118)], .int .i64 (Int.ofNat 0)] 5 .own,
    .siter [(Int.ofNat 97)] 1,
    .cells [.int .i64 (Int.ofNat 6), .str [(Int.ofNat 98)], .str [], .str [(Int.ofNat 120)], .int .i64 (Int.ofNat 0)] 5 .own,
    .cells [.int .i64 (Int.ofNat 6), .str [(Int.ofNat 98)], .str [], .str [(Int.ofNat 120)], .int .i64 (Int.ofNat 0)] 5 .own,
    .siter [(Int.ofNat 98)] 1,
    .cells [.int .i64 (Int.ofNat 1), .int .i64 (Int.ofNat 2), .int .i64 (Int.ofNat 4), .int .i64 (Int.ofNat 0), .int .i64 (Int.ofNat 6), .int .i64 (Int.ofNat 0)] 1 .multi,
    .cells [.int .i64 (Int.ofNat 3), .sl (.at 11 0 1) 6, .sl (.at 16 0 1) 6] 3 .own,
    .cells [.int .i64 (Int.ofNat 4), .str [(Int.ofNat 97)], .str [(Int.ofNat 107)], .str [(Int.ofNat 118)], .int .i64 (Int.ofNat 0)] 5 .own,
    .cells [.int .i64 (Int.ofNat 4), .int .i64 (Int.ofNat 0)] 1 .own,
    .cells [.str [(Int.ofNat 97)], .str [(Int.ofNat 107)], .str [(Int.ofNat 118)]] 1 .own,
    .cells [.str [(Int.ofNat 97)], .str [(Int.ofNat 107)], .str [(Int.ofNat 118)], .str [(Int.ofNat 98)], .str [], .str [(Int.ofNat 120)]] 1 .multi,
    .cells [.int .i64 (Int.ofNat 6), .str [(Int.ofNat 98)], .str [], .str [(Int.ofNat 120)], .int .i64 (Int.ofNat 0)] 5 .own,
    .cells [.int .i64 (Int.ofNat 6), .int .i64 (Int.ofNat 0)] 1 .own,
    .cells [.str [(Int.ofNat 98)], .str [], .str [(Int.ofNat 120)]] 1 .own,
    .cells [.int .i64 (Int.ofNat 3), .sl (.at 11 0 1) 6, .sl (.at 16 0 1) 6] 3 .own,
    .cells [.int .i64 (Int.ofNat 3), .sl (.at 11 0 1) 6, .sl (.at 16 0 1) 6] 3 .own,
    .cells [.int .i64 (Int.ofNat 1), .int .i64 (Int.ofNat 2)] 2 .own,
    .cells [.int .i64 (Int.ofNat 1), .int .i64 (Int.ofNat 2)] 2 .own,
    .cells [.int .i64 (Int.ofNat 4), .str [(Int.ofNat 97)], .str [(Int.ofNat 107)], .str [(Int.ofNat 118)], .int .i64 (Int.ofNat 0)] 5 .own,
    .dead,
    .cells [.int .i64 (Int.ofNat 6), .str [(Int.ofNat 98)], .str [], .str [(Int.ofNat 120)], .int .i64 (Int.ofNat 0)] 5 .own,
    .cells [.int .i64 (Int.ofNat 4), .str [(Int.ofNat 97)], .str [(Int.ofNat 107)], .str [(Int.ofNat 118)], .int .i64 (Int.ofNat 0), .int .i64 (Int.ofNat 6), .str [(Int.ofNat 98)], .str [], .str [(Int.ofNat 120)], .int .i64 (Int.ofNat 0)] 5 .own,
    .cells [.int .i64 (Int.ofNat 1), .int .i64 (Int.ofNat 2)] 2 .own,
    .cells [.int .i64 (Int.ofNat 3), .sl (.at 37 0 1) 6, .sl (.at 42 0 1) 6] 3 .own,
    .cells [.int .i64 (Int.ofNat 1), .int .i64 (Int.ofNat 2)] 2 .own,
    .cells [.int .i64 (Int.ofNat 4), .str [(Int.ofNat 97)], .str [(Int.ofNat 107)], .str [(Int.ofNat 118)], .int .i64 (Int.ofNat 0)] 5 .own,
    .cells [.int .i64 (Int.ofNat 4), .str [(Int.ofNat 97)], .str [(Int.ofNat 107)], .str [(Int.ofNat 118)], .int .i64 (Int.ofNat 0)] 5 .own,
    .siter [(Int.ofNat 97)] 1,
    .cells [.int .i64 (Int.ofNat 6), .str [(Int.ofNat 98)], .str [], .str [(Int.ofNat 120)], .int .i64 (Int.ofNat 0)] 5 .own,
    .cells [.int .i64 (Int.ofNat 6), .str [(Int.ofNat 98)], .str [], .str [(Int.ofNat 120)], .int .i64 (Int.ofNat 0)] 5 .own,
    .siter [(Int.ofNat 98)] 1,
    .cells [.int .i64 (Int.ofNat 1), .int .i64 (Int.ofNat 2), .int .i64 (Int.ofNat 4), .int .i64 (Int.ofNat 0), .int .i64 (Int.ofNat 6), .int .i64 (Int.ofNat 0)] 1 .multi,
    .cells [.int .i64 (Int.ofNat 3), .sl (.at 37 0 1) 6, .sl (.at 42 0 1) 6] 3 .own,
    .cells [.int .i64 (Int.ofNat 4), .str [(Int.ofNat 97)], .str [(Int.ofNat 107)], .str [(Int.ofNat 118)], .int .i64 (Int.ofNat 0)] 5 .own,
    .cells [.int .i64 (Int.ofNat 4), .int .i64 (Int.ofNat 0)] 1 .own,
    .cells [.str [(Int.ofNat 97)], .str [(Int.ofNat 107)], .str [(Int.ofNat 118)]] 1 .own,
    .cells [.str [(Int.ofNat 97)], .str [(Int.ofNat 107)], .str [(Int.ofNat 118)], .str [(Int.ofNat 98)], .str [], .str [(Int.ofNat 120)]] 1 .multi,
    .cells [.int .i64 (Int.ofNat 6), .str [(Int.ofNat 98)], .str [], .str [(Int.ofNat 120)], .int .i64 (Int.ofNat 0)] 5 .own,
    .cells [.int .i64 (Int.ofNat 6), .int .i64 (Int.ofNat 0)] 1 .own,
    .cells [.str [(Int.ofNat 98)], .str [], .str [(Int.ofNat 120)]] 1 .own,
    .cells [.int .i64 (Int.ofNat 3), .sl (.at 37 0 1) 6, .sl (.at 42 0 1) 6] 3 .own,
    .cells [.int .i64 (Int.ofNat 3), .sl (.at 37 0 1) 6, .sl (.at 42 0 1) 6] 3 .own,
    .cells [.int .i64 (Int.ofNat 3), .sl (.at 11 0 1) 6, .sl (.at 16 0 1) 6] 3 .own,
    .cells [.int .i64 (Int.ofNat 1), .int .i64 (Int.ofNat 2)] 2 .own,
    .cells [.str []] 1 .own,
    .cells [.int .i64 (Int.ofNat 1), .int .i64 (Int.ofNat 2), .int .i64 (Int.ofNat 0), .int .i64 (Int.ofNat 1), .int .i64 (Int.ofNat 3)] 1 .own,
    .cells [.str []] 1 .own,
    .cells [.int .i64 (Int.ofNat 5), .sl (.at 51 0 1) 5, .sl (.at 52 0 1) 1] 3 .own,
    .cells [.int .i64 (Int.ofNat 5), .sl (.at 51 0 1) 5, .sl (.at 52 0 1) 1] 3 .own,
    .cells [.int .i64 (Int.ofNat 0), .int .i64 (Int.ofNat 0), .int .i64 (Int.ofNat 0), .bool false, .int .i64 (Int.ofNat 0), .sl .nil 0] 6 .own,
    .cells [.int .i64 (Int.ofNat 1), .int .i64 (Int.ofNat 2), .int .i64 (Int.ofNat 0), .bool true, .int .i64 (Int.ofNat 3), .sl (.at 57 0 1) 1] 6 .own,
    .cells [.str []] 1 .own,
    .cells [.int .i64 (Int.ofNat 1), .int .i64 (Int.ofNat 2), .int .i64 (Int.ofNat 0), .int .i64 (Int.ofNat 1), .int .i64 (Int.ofNat 3)] 1 .own,
    .cells [.str []] 1 .own]
def e47x2 : Ent := ⟨[.agg [.int .i64 (Int.ofNat 1), .int .i64 (Int.ofNat 2), .int .i64 (Int.ofNat 0), .bool true, .int .i64 (Int.ofNat 3), .sl (.at 57 0 1) 1]], heap4, .tup [.agg [.int .i64 (Int.ofNat 5), .sl (.at 58 0 1) 5, .sl (.at 59 0 1) 1], .bool true], heap5⟩
theorem run47x2 : acall Tryz.prog tab47 (drawRegion Tryz.prog) 300 47 e47x2.args e47x2.old (chk e47x2.old.length e47x2.val e47x2.new) = true := by kernel_rfl
def es47 : List Ent := [e47x0, e47x1, e47x2]
theorem ok47 : ∀ e ∈ es47, EntOK Tryz.prog tab47 47 e := fun e h => by
  unfold es47 at h
  rcases List.mem_cons.1 h with rfl | h
  · exact ⟨300, run47x0⟩
  rcases List.mem_cons.1 h with rfl | h
  · exact ⟨300, run47x1⟩
  rcases List.mem_cons.1 h with rfl | h
  · exact ⟨300, run47x2⟩
  cases h
theorem con47 : SoundAt Tryz.prog 47 (entF es47) := ent_sound tab47OK L1.mix L1.noCount ok47
def tab48 : Tab := ⟨fun g => bif Nat.beq g 51 then some (closedF) else bif Nat.beq g 47 then some (entF es47) else none, fun _ _ => 0⟩
theorem tab48OK : TabOK Tryz.prog tab48 := fun g F h => by
  unfold tab48 at h
  simp only at h
  cases hq : Nat.beq g 51 with
  | true =>
    rw [hq] at h
    obtain rfl := Nat.eq_of_beq_eq_true hq
    obtain rfl := (Option.some.inj h).symm
    exact L1.closed51
  | false =>
    rw [hq] at h
    clear hq
    cases hq : Nat.beq g 47 with
    | true =>
      rw [hq] at h
      obtain rfl := Nat.eq_of_beq_eq_true hq
      obtain rfl := (Option.some.inj h).symm
      exact con47
    | false =>
      rw [hq] at h
      clear hq
      cases h
def heap6 : H := [.cells [.int .i64 (Int.ofNat 4), .str [(Int.ofNat 97)], .str [(Int.ofNat 107)], .str [(Int.ofNat 118)], .int .i64 (Int.ofNat 0), .int .i64 (Int.ofNat 6), .str [(Int.ofNat 98)], .str [], .str [(Int.ofNat 120)], .int .i64 (Int.ofNat 0)] 5 .own,
    .cells [.int .i64 (Int.ofNat 1), .int .i64 (Int.ofNat 2)] 2 .own,
    .cells [.int .i64 (Int.ofNat 1), .int .i64 (Int.ofNat 2)] 2 .own,
    .cells [.int .i64 (Int.ofNat 3), .sl (.at 11 0 1) 6, .sl (.at 16 0 1) 6] 3 .own,
    .cells [.int .i64 (Int.ofNat 1), .int .i64 (Int.ofNat 2)] 2 .own,
    .cells [.int .i64 (Int.ofNat 4), .str [(Int.ofNat 97)], .str [(Int.ofNat 107)], .str [(Int.ofNat 118)], .int .i64 (Int.ofNat 0)] 5 .own,
    .cells [.int .i64 (Int.ofNat 4), .str [(Int.ofNat 97)], .str [(Int.ofNat 107)], .str [(Int.ofNat 118)], .int .i64 (Int.ofNat 0)] 5 .own,
    .siter [(Int.ofNat 97)] 1,
    .cells [.int .i64 (Int.ofNat 6), .str [(Int.ofNat 98)], .str [], .str [(Int.ofNat 120)], .int .i64 (Int.ofNat 0)] 5 .own,
    .cells [.int .i64 (Int.ofNat 6), .str [(Int.ofNat 98)], .str [], .str [(Int.ofNat 120)], .int .i64 (Int.ofNat 0)] 5 .own,
    .siter [(Int.ofNat 98)] 1,
    .cells [.int .i64 (Int.ofNat 1), .int .i64 (Int.ofNat 2), .int .i64 (Int.ofNat 4), .int .i64 (Int.ofNat 0), .int .i64 (Int.ofNat 6), .int .i64 (Int.ofNat 0)] 1 .multi,
    .cells [.int .i64 (Int.ofNat 3), .sl (.at 11 0 1) 6, .sl (.at 16 0 1) 6] 3 .own,
    .cells [.int .i64 (Int.ofNat 4), .str [(Int.ofNat 97)], .str [(Int.ofNat 107)], .str [(Int.ofNat 118)], .int .i64 (Int.ofNat 0)] 5 .own,
    .cells [.int .i64 (Int.ofNat 4), .int .i64 (Int.ofNat 0)] 1 .own,
    .cells [.str [(Int.ofNat 97)], .str [(Int.ofNat 107)], .str [(Int.ofNat 118)]] 1 .own,
    .cells [.str [(Int.ofNat 97)], .str [(Int.ofNat 107)], .str [(Int.ofNat 118)], .str [(Int.ofNat 98)], .str [], .str [(Int.ofNat 120)]] 1 .multi,
    .cells [.int .i64 (Int.ofNat 6), .str [(Int.ofNat 98)], .str [], .str [(Int.ofNat 120)], .int .i64 (Int.ofNat 0)] 5 .own,
    .cells [.int .i64 (Int.ofNat 6), .int .i64 (Int.ofNat 0)] 1 .own,
    .cells [.str [(Int.ofNat 98)], .str [], .str [(Int.ofNat 120)]] 1 .own,
    .cells [.int .i64 (Int.ofNat 3), .sl (.at 11 0 1) 6, .sl (.at 16 0 1) 6] 3 .own,
    .cells [.int .i64 (Int.ofNat 3), .sl (.at 11 0 1) 6, .sl (.at 16 0 1) 6] 3 .own,
    .cells [.int .i64 (Int.ofNat 1), .int .i64 (Int.ofNat 2)] 2 .own,
    .cells [.int .i64 (Int.ofNat 1), .int .i64 (Int.ofNat 2)] 2 .own,
    .cells [.int .i64 (Int.ofNat 4), .str [(Int.ofNat 97)], .str [(Int.ofNat 107)], .str [(Int.ofNat 118)], .int .i64 (Int.ofNat 0)] 5 .own,
    .dead,
    .cells [.int .i64 (Int.ofNat 6), .str [(Int.ofNat 98)], .str [], .str [(Int.ofNat 120)], .int .i64 (Int.ofNat 0)] 5 .own,
    .cells [.int .i64 (Int.ofNat 4), .str [(Int.ofNat 97)], .str [(Int.ofNat 107)], .str [(Int.ofNat 118)], .int .i64 (Int.ofNat 0), .int .i64 (Int.ofNat 6), .str [(Int.ofNat 98)], .str [], .str [(Int.ofNat 120)], .int .i64 (Int.ofNat 0)] 5 .own,
    .cells [.int .i64 (Int.ofNat 1), .int .i64 (Int.ofNat 2)] 2 .own,
    .cells [.int .i64 (Int.ofNat 3), .sl (.at 37 0 1) 6, .sl (.at 42 0 1) 6] 3 .own,
    .cells [.int .i64 (Int.ofNat 1), .int .i64 (Int.ofNat 2)] 2 .own,
    .cells [.int .i64 (Int.ofNat 4), .str [(Int.ofNat 97)], .str [(Int.ofNat 107)], .str [(Int.ofNat 118)], .int .i64 (Int.ofNat 0)] 5 .own,
    .cells [.int .i64 (Int.ofNat 4), .str [(Int.ofNat 97)], .str [(Int.ofNat 107)], .str [(Int.ofNat 118)], .int .i64 (Int.ofNat 0)] 5 .own,
    .siter [(Int.ofNat 97)] 1,
    .cells [.int .i64 (Int.ofNat 6), .str [(Int.ofNat 98)], .str [], .str [(Int.ofNat 120)], .int .i64 (Int.ofNat 0)] 5 .own,
    .cells [.int .i64 (Int.ofNat 6), .str [(Int.ofNat 98)], .str [], .str [(Int.ofNat 120)], .int .i64 (Int.ofNat 0)] 5 .own,
    .siter [(Int.ofNat 98)] 1,
    .cells [.int .i64 (Int.ofNat 1), .int .i64 (Int.ofNat 2), .int .i64 (Int.ofNat 4), .int .i64 (Int.ofNat 0), .int .i64 (Int.ofNat 6), .int .i64 (Int.ofNat 0)] 1 .multi,
    .cells [.int .i64 (Int.ofNat 3), .sl (.at 37 0 1) 6, .sl (.at 42 0 1) 6] 3 .own,
    .cells [.int .i64 (Int.ofNat 4), .str [(Int.ofNat 97)], .str [(Int.ofNat 107)], .str [(Int.ofNat 118)], .int .i64 (Int.ofNat 0)] 5 .own,
    .cells [.int .i64 (Int.ofNat 4), .int .i64 (Int.ofNat 0)] 1 .own,
    .cells [.str [(Int.ofNat 97)], .str [(Int.ofNat 107)], .str [(Int.ofNat 118)]] 1 .own,
    .cells [.str [(Int.ofNat 97)], .str [(Int.ofNat 107)], .str [(Int.ofNat 118)], .str [(Int.ofNat 98)], .str [], .str [(Int.ofNat 120)]] 1 .multi,
    .cells [.int .i64 (Int.ofNat 6), .str [(Int.ofNat 98)], .str [], .str [(Int.ofNat 120)], .int .i64 (Int.ofNat 0)] 5 .own,
    .cells [.int .i64 (Int.ofNat 6), .int .i64 (Int.ofNat 0)] 1 .own,
    .cells [.str [(Int.ofNat 98)], .str [], .str [(Int.ofNat 120)]] 1 .own,
    .cells [.int .i64 (Int.ofNat 3), .sl (.at 37 0 1) 6, .sl (.at 42 0 1) 6] 3 .own,
    .cells [.int .i64 (Int.ofNat 3), .sl (.at 37 0 1) 6, .sl (.at 42 0 1) 6] 3 .own,
    .cells [.int .i64 (Int.ofNat 3), .sl (.at 11 0 1) 6, .sl (.at 16 0 1) 6] 3 .own,
    .cells [.int .i64 (Int.ofNat 1), .int .i64 (Int.ofNat 2)] 2 .own,
    .cells [.str []] 1 .own,
    .cells [.int .i64 (Int.ofNat 1), .int .i64 (Int.ofNat 2), .int .i64 (Int.ofNat 0), .int .i64 (Int.ofNat 1), .int .i64 (Int.ofNat 3)] 1 .own,
    .cells [.str []] 1 .own,
    .cells [.int .i64 (Int.ofNat 5), .sl (.at 51 0 1) 5, .sl (.at 52 0 1) 1] 3 .own]
def heap7 : H := [.cells [.int .i64 (Int.ofNat 4), .str [(Int.ofNat 97)], .str [(Int.ofNat 107)], .str [(Int.ofNat 118)], .int .i64 (Int.ofNat 0), .int .i64 (Int.ofNat 6), .str [(Int.ofNat 98)], .str [], .str [(Int.ofNat 120)], .int .i64 (Int.ofNat 0)] 5 .own,
    .cells [.int .i64 (Int.ofNat 1), .int .i64 (Int.ofNat 2)] 2 .own,
    .cells [.int .i64 (Int.ofNat 1), .int .i64 (Int.ofNat 2)] 2 .own,
    .cells [.int .i64 (Int.ofNat 3), .sl (.at 11 0 1) 6, .sl (.at 16 0 1) 6] 3 .own,
    .cells [.int .i64 (Int.ofNat 1), .int .i64 (Int.ofNat 2)] 2 .own,
    .cells [.int .i64 (Int.ofNat 4), .str [(Int.ofNat 97)], .str [(Int.ofNat 107)], .str [(Int.ofNat 118)], .int .i64 (Int.ofNat 0)] 5 .own,
    .cells [.int .i64 (Int.ofNat 4), .str [(Int.ofNat 97)], .str [(Int.ofNat 107)], .str [(Int.ofNat 118)], .int .i64 (Int.ofNat 0)] 5 .own,
    .siter [(Int.ofNat 97)] 1,
    .cells [.int .i64 (Int.ofNat 6), .str [(Int.ofNat 98)], .str [], .str [(Int.ofNat 120)], .int .i64 (Int.ofNat 0)] 5 .own,
    .cells [.int .i64 (Int.ofNat 6), .str [(Int.ofNat 98)], .str [], .str [(Int.ofNat 120)], .int .i64 (Int.ofNat 0)] 5 .own,
    .siter [(Int.ofNat 98)] 1,
    .cells [.int .i64 (Int.ofNat 1), .int .i64 (Int.ofNat 2), .int .i64 (Int.ofNat 4), .int .i64 (Int.ofNat 0), .int .i64 (Int.ofNat 6), .int .i64 (Int.ofNat 0)] 1 .multi,
    .cells [.int .i64 (Int.ofNat 3), .sl (.at 11 0 1) 6, .sl (.at 16 0 1) 6] 3 .own,
    .cells [.int .i64 (Int.ofNat 4), .str [(Int.ofNat 97)], .str [(Int.ofNat 107)], .str [(Int.ofNat 118)], .int .i64 (Int.ofNat 0)] 5 .own,
    .cells [.int .i64 (Int.ofNat 4), .int .i64 (Int.ofNat 0)] 1 .own,
    .cells [.str [(Int.ofNat 97)], .str [(Int.ofNat 107)], .str [(Int.ofNat 118)]] 1 .own,
    .cells [.str [(Int.ofNat 97)], .str [(Int.ofNat 107)], .str [(Int.ofNat 118)], .str [(Int.ofNat 98)], .str [], .str [(Int.ofNat 120)]] 1 .multi,
    .cells [.int .i64 (Int.ofNat 6), .str [(Int.ofNat 98)], .str [], .str [(Int.ofNat 120)], .int .i64 (Int.ofNat 0)] 5 .own,
    .cells [.int .i64 (Int.ofNat 6), .int .i64 (Int.ofNat 0)] 1 .own,
    .cells [.str [(Int.ofNat 98)], .str [], .str [(Int.ofNat 120)]] 1 .own,
    .cells [.int .i64 (Int.ofNat 3), .sl (.at 11 0 1) 6, .sl (.at 16 0 1) 6] 3 .own,
    .cells [.int .i64 (Int.ofNat 3), .sl (.at 11 0 1) 6, .sl (.at 16 0 1) 6] 3 .own,
    .cells [.int .i64 (Int.ofNat 1), .int .i64 (Int.ofNat 2)] 2 .own,
    .cells [.int .i64 (Int.ofNat 1), .int .i64 (Int.ofNat 2)] 2 .own,
    .cells [.int .i64 (Int.ofNat 4), .str [(Int.ofNat 97)], .str [(Int.ofNat 107)], .str [(Int.ofNat 118)], .int .i64 (Int.ofNat 0)] 5 .own,
    .dead,
    .cells [.int .i64 (Int.ofNat 6), .str [(Int.ofNat 98)], .str [], .str [(Int.ofNat 120)], .int .i64 (Int.ofNat 0)] 5 .own,
    .cells [.int .i64 (Int.ofNat 4), .str [(Int.ofNat 97)], .str [(Int.ofNat 107)], .str [(Int.ofNat 118)], .int .i64 (Int.ofNat 0), .int .i64 (Int.ofNat 6), .str [(Int.ofNat 98)], .str [], .str [(Int.ofNat 120)], .int .i64 (Int.ofNat 0)] 5 .own,
    .cells [.int .i64 (Int.ofNat 1), .int .i64 (Int.ofNat 2)] 2 .own,
    .cells [.int .i64 (Int.ofNat 3), .sl (.at 37 0 1) 6, .sl (.at 42 0 1) 6] 3 .own,
    .cells [.int .i64 (Int.ofNat 1), .int .i64 (Int.ofNat 2)] 2 .own,
    .cells [.int .i64 (Int.ofNat 4), .str [(Int.ofNat 97)], .str [(Int.ofNat 107)], .str [(Int.ofNat 118)], .int .i64 (Int.ofNat 0)] 5 .own,
    .cells [.int .i64 (Int.ofNat 4), .str [(Int.ofNat 97)], .str [(Int.ofNat 107)], .str [(Int.ofNat 118)], .int .i64 (Int.ofNat 0)] 5 .own,
    .siter [(Int.ofNat 97)] 1,
    .cells [.int .i64 (Int.ofNat 6), .str [(Int.ofNat 98)], .str [], .str [(Int.ofNat 120)], .int .i64 (Int.ofNat 0)] 5 .own,
    .cells [.int .i64 (Int.ofNat 6), .str [(Int.ofNat 98)], .str [], .str [(Int.ofNat 120)], .int .i64 (Int.ofNat 0)] 5 .own,
    .siter [(Int.ofNat 98)] 1,
    .cells [.int .i64 (Int.ofNat 1), .int .i64 (Int.ofNat 2), .int .i64 (Int.ofNat 4), .int .i64 (Int.ofNat 0), .int .i64 (Int.ofNat 6), .int .i64 (Int.ofNat 0)] 1 .multi,
    .cells [.int .i64 (Int.ofNat 3), .sl (.at 37 0 1) 6, .sl (.at 42 0 1) 6] 3 .own,
    .cells [.int .i64 (Int.ofNat 4), .str [(Int.ofNat 97)], .str [(Int.ofNat 107)], .str [(Int.ofNat 118)], .int .i64 (Int.ofNat 0)] 5 .own,
    .cells [.int .i64 (Int.ofNat 4), .int .i64 (Int.ofNat 0)] 1 .own,
    .cells [.str [(Int.ofNat 97)], .str [(Int.ofNat 107)], .str [(Int.ofNat 118)]] 1 .own,
    .cells [.str [(Int.ofNat 97)], .str [(Int.ofNat 107)], .str [(Int.ofNat 118)], .str [(Int.ofNat 98)], .str [], .str [(Int.ofNat 120)]] 1 .multi,
    .cells [.int .i64 (Int.ofNat 6), .str [(Int.ofNat 98)], .str [], .str [(Int.ofNat 120)], .int .i64 (Int.ofNat 0)] 5 .own,
    .cells [.int .i64 (Int.ofNat 6), .int .i64 (Int.ofNat 0)] 1 .own,
    .cells [.str [(Int.ofNat 98)], .str [], .str [(Int.ofNat 120)]] 1 .own,
    .cells [.int .i64 (Int.ofNat 3), .sl (.at 37 0 1) 6, .sl (.at 42 0 1) 6] 3 .own,
    .cells [.int .i64 (Int.ofNat 3), .sl (.at 37 0 1) 6, .sl (.at 42 0 1) 6] 3 .own,
    .cells [.int .i64 (Int.ofNat 3), .sl (.at 11 0 1) 6, .sl (.at 16 0 1) 6] 3 .own,
    .cells [.int .i64 (Int.ofNat 1), .int .i64 (Int.ofNat 2)] 2 .own,
    .cells [.str []] 1 .own,
    .cells [.int .i64 (Int.ofNat 1), .int .i64 (Int.ofNat 2), .int .i64 (Int.ofNat 0), .int .i64 (Int.ofNat 1), .int .i64 (Int.ofNat 3)] 1 .own,
    .cells [.str []] 1 .own,
    .cells [.int .i64 (Int.ofNat 5), .sl (.at 51 0 1) 5, .sl (.at 52 0 1) 1] 3 .own,
    .cells [.str []] 1 .own]
def e48x0 : Ent := ⟨[.agg [.int .i64 (Int.ofNat 5), .sl (.at 51 0 1) 5, .sl (.at 52 0 1) 1]], heap6, .tup [.agg [.int .i64 (Int.ofNat 1), .int .i64 (Int.ofNat 2), .int .i64 (Int.ofNat 0), .bool true, .int .i64 (Int.ofNat 3), .sl (.at 54 0 1) 1], .bool true], heap7⟩
theorem run48x0 : acall Tryz.prog tab48 (drawRegion Tryz.prog) 300 48 e48x0.args e48x0.old (chk e48x0.old.length e48x0.val e48x0.new) = true := by kernel_rfl
def es48 : List Ent := [e48x0]
theorem ok48 : ∀ e ∈ es48, EntOK Tryz.prog tab48 48 e := fun e h => by
  unfold es48 at h
  rcases List.mem_cons.1 h with rfl | h
  · exact ⟨300, run48x0⟩
  cases h
theorem con48 : SoundAt Tryz.prog 48 (entF es48) := ent_sound tab48OK L1.mix L1.noCount ok48
def tab42 : Tab := ⟨fun g => bif Nat.beq g 51 then some (closedF) else bif Nat.beq g 47 then some (entF es47) else bif Nat.beq g 48 then some (entF es48) else none, fun _ _ => 0⟩
theorem tab42OK : TabOK Tryz.prog tab42 := fun g F h => by
  unfold tab42 at h
  simp only at h
  cases hq : Nat.beq g 51 with
  | true =>
    rw [hq] at h
    obtain rfl := Nat.eq_of_beq_eq_true hq
    obtain rfl := (Option.some.inj h).symm
    exact L1.closed51
  | false =>
    rw [hq] at h
    clear hq
    cases hq : Nat.beq g 47 with
    | true =>
      rw [hq] at h
      obtain rfl := Nat.eq_of_beq_eq_true hq
      obtain rfl := (Option.some.inj h).symm
      exact con47
    | false =>
      rw [hq] at h
      clear hq
      cases hq : Nat.beq g 48 with
      | true =>
        rw [hq] at h
        obtain rfl := Nat.eq_of_beq_eq_true hq
        obtain rfl := (Option.some.inj h).symm
        exact con48
      | false =>
        rw [hq] at h
        clear hq
        cases h
def heap8 : H := [.cells [.int .i64 (Int.ofNat 4), .str [(Int.ofNat 97)], .str [(Int.ofNat 107)], .str [(Int.ofNat 118)], .int .i64 (Int.ofNat 0), .int .i64 (Int.ofNat 6), .str [(Int.ofNat 98)], .str [], .str [(Int.ofNat 120)], .int .i64 (Int.ofNat 0)] 5 .own,
    .cells [.int .i64 (Int.ofNat 1), .int .i64 (Int.ofNat 2)] 2 .own,
    .cells [.int .i64 (Int.ofNat 1), .int .i64 (Int.ofNat 2)] 2 .own,
    .cells [.int .i64 (Int.ofNat 3), .sl (.at 11 0 1) 6, .sl (.at 16 0 1) 6] 3 .own,
    .cells [.int .i64 (Int.ofNat 1), .int .i64 (Int.ofNat 2)] 2 .own,
    .cells [.int .i64 (Int.ofNat 4), .str [(Int.ofNat 97)], .str [(Int.ofNat 107)], .str [(Int.ofNat 118)], .int .i64 (Int.ofNat 0)] 5 .own,
    .cells [.int .i64 (Int.ofNat 4), .str [(Int.ofNat 97)], .str [(Int.ofNat 107)], .str [(Int.ofNat 118)], .int .i64 (Int.ofNat 0)] 5 .own,
    .siter [(Int.ofNat 97)] 1,
    .cells [.int .i64 (Int.ofNat 6), .str [(Int.ofNat 98)], .str [], .str [(Int.ofNat 120)], .int .i64 (Int.ofNat 0)] 5 .own,
    .cells [.int .i64 (Int.ofNat 6), .str [(Int.ofNat 98)], .str [], .str [(Int.ofNat 120)], .int .i64 (Int.ofNat 0)] 5 .own,
    .siter [(Int.ofNat 98)] 1,
    .cells [.int .i64 (Int.ofNat 1), .int .i64 (Int.ofNat 2), .int .i64 (Int.ofNat 4), .int .i64 (Int.ofNat 0), .int .i64 (Int.ofNat 6), .int .i64 (Int.ofNat 0)] 1 .multi,
    .cells [.int .i64 (Int.ofNat 3), .sl (.at 11 0 1) 6, .sl (.at 16 0 1) 6] 3 .own,
    .cells [.int .i64 (Int.ofNat 4), .str [(Int.ofNat 97)], .str [(Int.ofNat 107)], .str [(Int.ofNat 118)], .int .i64 (Int.ofNat 0)] 5 .own,
    .cells [.int .i64 (Int.ofNat 4), .int .i64 (Int.ofNat 0)] 1 .own,
    .cells [.str [(Int.ofNat 97)], .str [(Int.ofNat 107)], .str [(Int.ofNat 118)]] 1 .own,
    .cells [.str [(Int.ofNat 97)], .str [(Int.ofNat 107)], .str [(Int.ofNat 118)], .str [(Int.ofNat 98)], .str [], .str [(Int.ofNat 120)]] 1 .multi,
    .cells [.int .i64 (Int.ofNat 6), .str [(Int.ofNat 98)], .str [], .str [(Int.ofNat 120)], .int .i64 (Int.ofNat 0)] 5 .own,
    .cells [.int .i64 (Int.ofNat 6), .int .i64 (Int.ofNat 0)] 1 .own,
    .cells [.str [(Int.ofNat 98)], .str [], .str [(Int.ofNat 120)]] 1 .own,
    .cells [.int .i64 (Int.ofNat 3), .sl (.at 11 0 1) 6, .sl (.at 16 0 1) 6] 3 .own,
    .cells [.int .i64 (Int.ofNat 3), .sl (.at 11 0 1) 6, .sl (.at 16 0 1) 6] 3 .own,
    .cells [.int .i64 (Int.ofNat 1), .int .i64 (Int.ofNat 2)] 2 .own,
    .cells [.int .i64 (Int.ofNat 1), .int .i64 (Int.ofNat 2)] 2 .own,
    .cells [.int .i64 (Int.ofNat 4), .str [(Int.ofNat 97)], .str [(Int.ofNat 107)], .str [(Int.ofNat 118)], .int .i64 (Int.ofNat 0)] 5 .own,
    .dead,
    .cells [.int .i64 (Int.ofNat 6), .str [(Int.ofNat 98)], .str [], .str [(Int.ofNat 120)], .int .i64 (Int.ofNat 0)] 5 .own,
    .cells [.int .i64 (Int.ofNat 4), .str [(Int.ofNat 97)], .str [(Int.ofNat 107)], .str [(Int.ofNat 118)], .int .i64 (Int.ofNat 0), .int .i64 (Int.ofNat 6), .str [(Int.ofNat 98)], .str [], .str [(Int.ofNat 120)], .int .i64 (Int.ofNat 0)] 5 .own,
    .cells [.int .i64 (Int.ofNat 1), .int .i64 (Int.ofNat 2)] 2 .own,
    .cells [.int .i64 (Int.ofNat 3), .sl (.at 37 0 1) 6, .sl (.at 42 0 1) 6] 3 .own,
    .cells [.int .i64 (Int.ofNat 1), .int .i64 (Int.ofNat 2)] 2 .own,
    .cells [.int .i64 (Int.ofNat 4), .str [(Int.ofNat 97)], .str [(Int.ofNat 107)], .str [(Int.ofNat 118)], .int .i64 (Int.ofNat 0)] 5 .own,
    .cells [.int .i64 (Int.ofNat 4), .str [(Int.ofNat 97)], .str [(Int.ofNat 107)], .str [(Int.ofNat 118)], .int .i64 (Int.ofNat 0)] 5 .own,
    .siter [(Int.ofNat 97)] 1,
    .cells [.int .i64 (Int.ofNat 6), .str [(Int.ofNat 98)], .str [], .str [(Int.ofNat 120)], .int .i64 (Int.ofNat 0)] 5 .own,
    .cells [.int .i64 (Int.ofNat 6), .str [(Int.ofNat 98)], .str [], .str [(Int.ofNat 120)], .int .i64 (Int.ofNat 0)] 5 .own,
    .siter [(Int.ofNat 98)] 1,
    .cells [.int .i64 (Int.ofNat 1), .int .i64 (Int.ofNat 2), .int .i64 (Int.ofNat 4), .int .i64 (Int.ofNat 0), .int .i64 (Int.ofNat 6), .int .i64 (Int.ofNat 0)] 1 .multi,
    .cells [.int .i64 (Int.ofNat 3), .sl (.at 37 0 1) 6, .sl (.at 42 0 1) 6] 3 .own,
    .cells [.int .i64 (Int.ofNat 4), .str [(Int.ofNat 97)], .str [(Int.ofNat 107)], .str [(Int.ofNat 118)], .int .i64 (Int.ofNat 0)] 5 .own,
    .cells [.int .i64 (Int.ofNat 4), .int .i64 (Int.ofNat 0)] 1 .own,
    .cells [.str [(Int.ofNat 97)], .str [(Int.ofNat 107)], .str [(Int.ofNat 118)]] 1 .own,
    .cells [.str [(Int.ofNat 97)], .str [(Int.ofNat 107)], .str [(Int.ofNat 118)], .str [(Int.ofNat 98)], .str [], .str [(Int.ofNat 120)]] 1 .multi,
    .cells [.int .i64 (Int.ofNat 6), .str [(Int.ofNat 98)], .str [], .str [(Int.ofNat 120)], .int .i64 (Int.ofNat 0)] 5 .own,
    .cells [.int .i64 (Int.ofNat 6), .int .i64 (Int.ofNat 0)] 1 .own,
    .cells [.str [(Int.ofNat 98)], .str [], .str [(Int.ofNat 120)]] 1 .own,
    .cells [.int .i64 (Int.ofNat 3), .sl (.at 37 0 1) 6, .sl (.at 42 0 1) 6] 3 .own,
    .cells [.int .i64 (Int.ofNat 3), .sl (.at 37 0 1) 6, .sl (.at 42 0 1) 6] 3 .own,
    .cells [.int .i64 (Int.ofNat 3), .sl (.at 11 0 1) 6, .sl (.at 16 0 1) 6] 3 .own,
    .cells [.int .i64 (Int.ofNat 1), .int .i64 (Int.ofNat 2)] 2 .own,
    .cells [.str []] 1 .own,
    .cells [.int .i64 (Int.ofNat 1), .int .i64 (Int.ofNat 2), .int .i64 (Int.ofNat 0), .int .i64 (Int.ofNat 1), .int .i64 (Int.ofNat 3)] 1 .own,
    .cells [.str []] 1 .own,
    .cells [.int .i64 (Int.ofNat 5), .sl (.at 51 0 1) 5, .sl (.at 52 0 1) 1] 3 .own,
    .cells [.str []] 1 .own,
    .cells [.int .i64 (Int.ofNat 1), .int .i64 (Int.ofNat 2), .int .i64 (Int.ofNat 0), .bool true, .int .i64 (Int.ofNat 3), .sl (.at 54 0 1) 1] 6 .own,
    .cells [.int .i64 (Int.ofNat 1), .int .i64 (Int.ofNat 2)] 2 .own,
    .cells [.int .i64 (Int.ofNat 7), .sl (.at 59 0 1) 4, .sl .nil 0] 3 .own,
    .cells [.int .i64 (Int.ofNat 1), .int .i64 (Int.ofNat 2)] 2 .own,
    .cells [.int .i64 (Int.ofNat 1), .int .i64 (Int.ofNat 2), .int .i64 (Int.ofNat 1), .int .i64 (Int.ofNat 1)] 1 .own,
    .cells [.int .i64 (Int.ofNat 7), .sl (.at 59 0 1) 4, .sl .nil 0] 3 .own,
    .cells [.int .i64 (Int.ofNat 7), .sl (.at 59 0 1) 4, .sl .nil 0] 3 .own,
    .cells [.int .i64 (Int.ofNat 1), .int .i64 (Int.ofNat 2)] 2 .own,
    .cells [.int .i64 (Int.ofNat 1), .int .i64 (Int.ofNat 2)] 2 .own,
    .cells [.int .i64 (Int.ofNat 1), .int .i64 (Int.ofNat 2)] 2 .own,
    .cells [.int .i64 (Int.ofNat 7), .sl (.at 67 0 1) 4, .sl .nil 0] 3 .own,
    .cells [.int .i64 (Int.ofNat 1), .int .i64 (Int.ofNat 2)] 2 .own,
    .cells [.int .i64 (Int.ofNat 1), .int .i64 (Int.ofNat 2), .int .i64 (Int.ofNat 1), .int .i64 (Int.ofNat 1)] 1 .own,
    .cells [.int .i64 (Int.ofNat 7), .sl (.at 67 0 1) 4, .sl .nil 0] 3 .own,
    .cells [.int .i64 (Int.ofNat 7), .sl (.at 67 0 1) 4, .sl .nil 0] 3 .own,
    .cells [.int .i64 (Int.ofNat 7), .sl (.at 59 0 1) 4, .sl .nil 0] 3 .own,
    .cells [.int .i64 (Int.ofNat 1), .int .i64 (Int.ofNat 2)] 2 .own,
    .cells [.int .i64 (Int.ofNat 4), .str [(Int.ofNat 97)], .str [(Int.ofNat 107)], .str [(Int.ofNat 118)], .int .i64 (Int.ofNat 0)] 5 .own,
    .cells [.str [(Int.ofNat 97)], .str [(Int.ofNat 107)], .bool false] 3 .own,
    .dead,
    .cells [.int .i64 (Int.ofNat 6), .str [(Int.ofNat 98)], .str [], .str [(Int.ofNat 120)], .int .i64 (Int.ofNat 0)] 5 .own,
    .cells [.str [(Int.ofNat 98)], .str [], .bool true] 3 .own,
    .cells [.str [(Int.ofNat 97)], .str [(Int.ofNat 107)], .bool false, .str [(Int.ofNat 98)], .str [], .bool true] 3 .own,
    .cells [.str [(Int.ofNat 98)], .str [], .bool true] 3 .own,
    .cells [.str [(Int.ofNat 97)], .str [(Int.ofNat 107)], .bool false] 3 .own,
    .cells [.int .i64 (Int.ofNat 1), .int .i64 (Int.negSucc 0), .int .i64 (Int.negSucc 0)] 1 .own,
    .map [] 0,
    .cells [.map (some 81)] 1 .own]
def heap9 : H := [.cells [.int .i64 (Int.ofNat 4), .str [(Int.ofNat 97)], .str [(Int.ofNat 107)], .str [(Int.ofNat 118)], .int .i64 (Int.ofNat 0), .int .i64 (Int.ofNat 6), .str [(Int.ofNat 98)], .str [], .str [(Int.ofNat 120)], .int .i64 (Int.ofNat 0)] 5 .own,
    .cells [.int .i64 (Int.ofNat 1), .int .i64 (Int.ofNat 2)] 2 .own,
    .cells [.int .i64 (Int.ofNat 1), .int .i64 (Int.ofNat 2)] 2 .own,
    .cells [.int .i64 (Int.ofNat 3), .sl (.at 11 0 1) 6, .sl (.at 16 0 1) 6] 3 .own,
    .cells [.int .i64 (Int.ofNat 1), .int .i64 (Int.ofNat 2)] 2 .own,
    .cells [.int .i64 (Int.ofNat 4), .str [(Int.ofNat 97)], .str [(Int.ofNat 107)], .str [(Int.ofNat 118)], .int .i64 (Int.ofNat 0)] 5 .own,
    .cells [.int .i64 (Int.ofNat 4), .str [(Int.ofNat 97)], .str [(Int.ofNat 107)], .str [(Int.ofNat 118)], .int .i64 (Int.ofNat 0)] 5 .own,
    .siter [(Int.ofNat 97)] 1,
    .cells [.int .i64 (Int.ofNat 6), .str [(Int.ofNat 98)], .str [], .str [(Int.ofNat 120)], .int .i64 (Int.ofNat 0)] 5 .own,
    .cells [.int .i64 (Int.ofNat 6), .str [(Int.ofNat 98)], .str [], .str [(Int.ofNat 120)], .int .i64 (Int.ofNat 0)] 5 .own,
    .siter [(Int.ofNat 98)] 1,
    .cells [.int .i64 (Int.ofNat 1), .int .i64 (Int.ofNat 2), .int .i64 (Int.ofNat 4), .int .i64 (Int.ofNat 0), .int .i64 (Int.ofNat 6), .int .i64 (Int.ofNat 0)] 1 .multi,
    .cells [.int .i64 (Int.ofNat 3), .sl (.at 11 0 1) 6, .sl (.at 16 0 1) 6] 3 .own,
    .cells [.int .i64 (Int.ofNat 4), .str [(Int.ofNat 97)], .str [(Int.ofNat 107)], .str [(Int.ofNat 118)], .int .i64 (Int.ofNat 0)] 5 .own,
    .cells [.int .i64 (Int.ofNat 4), .int .i64 (Int.ofNat 0)] 1 .own,
    .cells [.str [(Int.ofNat 97)], .str [(Int.ofNat 107)], .str [(Int.ofNat 118)]] 1 .own,
    .cells [.str [(Int.ofNat 97)], .str [(Int.ofNat 107)], .str [(Int.ofNat 118)], .str [(Int.ofNat 98)], .str [], .str [(Int.ofNat 120)]] 1 .multi,
    .cells [.int .i64 (Int.ofNat 6), .str [(Int.ofNat 98)], .str [], .str [(Int.ofNat 120)], .int .i64 (Int.ofNat 0)] 5 .own,
    .cells [.int .i64 (Int.ofNat 6), .int .i64 (Int.ofNat 0)] 1 .own,
    .cells [.str [(Int.ofNat 98)], .str [], .str [(Int.ofNat 120)]] 1 .own,
    .cells [.int .i64 (Int.ofNat 3), .sl (.at 11 0 1) 6, .sl (.at 16 0 1) 6] 3 .own,
    .cells [.int .i64 (Int.ofNat 3), .sl (.at 11 0 1) 6, .sl (.at 16 0 1) 6] 3 .own,
    .cells [.int .i64 (Int.ofNat 1), .int .i64 (Int.ofNat 2)] 2 .own,
    .cells [.int .i64 (Int.ofNat 1), .int .i64 (Int.ofNat 2)] 2 .own,
    .cells [.int .i64 (Int.ofNat 4), .str [(Int.ofNat 97)], .str [(Int.ofNat 107)], .str [(Int.ofNat 118)], .int .i64 (Int.ofNat 0)] 5 .own,
    .dead,
    .cells [.int .i64 (Int.ofNat 6), .str [(Int.ofNat 98)], .str [], .str [(Int.ofNat 120)], .int .i64 (Int.ofNat 0)] 5 .own,
    .cells [.int .i64 (Int.ofNat 4), .str [(Int.ofNat 97)], .str [(Int.ofNat 107)], .str [(Int.ofNat 118)], .int .i64 (Int.ofNat 0), .int .i64 (Int.ofNat 6), .str [(Int.ofNat 98)], .str [], .str [(Int.ofNat 120)], .int .i64 (Int.ofNat 0)] 5 .own,
    .cells [.int .i64 (Int.ofNat 1), .int .i64 (Int.ofNat 2)] 2 .own,
    .cells [.int .i64 (Int.ofNat 3), .sl (.at 37 0 1) 6, .sl (.at 42 0 1) 6] 3 .own,
    .cells [.int .i64 (Int.ofNat 1), .int .i64 (Int.ofNat 2)] 2 .own,
    .cells [.int .i64 (Int.ofNat 4), .str [(Int.ofNat 97)], .str [(Int.ofNat 107)], .str [(Int.ofNat 118)], .int .i64 (Int.ofNat 0)] 5 .own,
    .cells [.int .i64 (Int.ofNat 4), .str [(Int.ofNat 97)], .str [(Int.ofNat 107)], .str [(Int.ofNat 118)], .int .i64 (Int.ofNat 0)] 5 .own,
    .siter [(Int.ofNat 97)] 1,
    .cells [.int .i64 (Int.ofNat 6), .str [(Int.ofNat 98)], .str [], .str [(Int.ofNat 120)], .int .i64 (Int.ofNat 0)] 5 .own,
    .cells [.int .i64 (Int.ofNat 6), .str [(Int.ofNat 98)], .str [], .str [(Int.ofNat 120)], .int .i64 (Int.ofNat 0)] 5 .own,
    .siter [(Int.ofNat 98)] 1,
    .cells [.int .i64 (Int.ofNat 1), .int .i64 (Int.ofNat 2), .int .i64 (Int.ofNat 4), .int .i64 (Int.ofNat 0), .int .i64 (Int.ofNat 6), .int .i64 (Int.ofNat 0)] 1 .multi,
    .cells [.int .i64 (Int.ofNat 3), .sl (.at 37 0 1) 6, .sl (.at 42 0 1) 6] 3 .own,
    .cells [.int .i64 (Int.ofNat 4), .str [(Int.ofNat 97)], .str [(Int.ofNat 107)], .str [(Int.ofNat 118)], .int .i64 (Int.ofNat 0)] 5 .own,
    .cells [.int .i64 (Int.ofNat 4), .int .i64 (Int.ofNat 0)] 1 .own,
    .cells [.str [(Int.ofNat 97)], .str [(Int.ofNat 107)], .str [(Int.ofNat 118)]] 1 .own,
    .cells [.str [(Int.ofNat 97)], .str [(Int.ofNat 107)], .str [(Int.ofNat 118)], .str [(Int.ofNat 98)], .str [], .str [(Int.ofNat 120)]] 1 .multi,
    .cells [.int .i64 (Int.ofNat 6), .str [(Int.ofNat 98)], .str [], .str [(Int.ofNat 120)], .int .i64 (Int.ofNat 0)] 5 .own,
    .cells [.int .i64 (Int.ofNat 6), .int .i64 (Int.ofNat 0)] 1 .own,
    .cells [.str [(Int.ofNat 98)], .str [], .str [(Int.ofNat 120)]] 1 .own,
    .cells [.int .i64 (Int.ofNat 3), .sl (.at 37 0 1) 6, .sl (.at 42 0 1) 6] 3 .own,
    .cells [.int .i64 (Int.ofNat 3), .sl (.at 37 0 1) 6, .sl (.at 42 0 1) 6] 3 .own,
    .cells [.int .i64 (Int.ofNat 3), .sl (.at 11 0 1) 6, .sl (.at 16 0 1) 6] 3 .own,
    .cells [.int .i64 (Int.ofNat 1), .int .i64 (Int.ofNat 2)] 2 .own,
    .cells [.str []] 1 .own,
    .cells [.int .i64 (Int.ofNat 1), .int .i64 (Int.ofNat 2), .int .i64 (Int.ofNat 0), .int .i64 (Int.ofNat 1), .int .i64 (Int.ofNat 3)] 1 .own,
    .cells [.str []] 1 .own,
    .cells [.int .i64 (Int.ofNat 5), .sl (.at 51 0 1) 5, .sl (.at 52 0 1) 1] 3 .own,
    .cells [.str []] 1 .own,
    .cells [.int .i64 (Int.ofNat 1), .int .i64 (Int.ofNat 2), .int .i64 (Int.ofNat 0), .bool true, .int .i64 (Int.ofNat 3), .sl (.at 54 0 1) 1] 6 .own,
    .cells [.int .i64 (Int.ofNat 1), .int .i64 (Int.ofNat 2)] 2 .own,
    .cells [.int .i64 (Int.ofNat 7), .sl (.at 59 0 1) 4, .sl .nil 0] 3 .own,
    .cells [.int .i64 (Int.ofNat 1), .int .i64 (Int.ofNat 2)] 2 .own,
    .cells [.int .i64 (Int.ofNat 1), .int .i64 (Int.ofNat 2), .int .i64 (Int.ofNat 1), .int .i64 (Int.ofNat 1)] 1 .own,
    .cells [.int .i64 (Int.ofNat 7), .sl (.at 59 0 1) 4, .sl .nil 0] 3 .own,
    .cells [.int .i64 (Int.ofNat 7), .sl (.at 59 0 1) 4, .sl .nil 0] 3 .own,
    .cells [.int .i64 (Int.ofNat 1), .int .i64 (Int.ofNat 2)] 2 .own,
    .cells [.int .i64 (Int.ofNat 1), .int .i64 (Int.ofNat 2)] 2 .own,
    .cells [.int .i64 (Int.ofNat 1), .int .i64 (Int.ofNat 2)] 2 .own,
    .cells [.int .i64 (Int.ofNat 7), .sl (.at 67 0 1) 4, .sl .nil 0] 3 .own,
    .cells [.int .i64 (Int.ofNat 1), .int .i64 (Int.ofNat 2)] 2 .own,
    .cells [.int .i64 (Int.ofNat 1), .int .i64 (Int.ofNat 2), .int .i64 (Int.ofNat 1), .int .i64 (Int.ofNat 1)] 1 .own,
    .cells [.int .i64 (Int.ofNat 7), .sl (.at 67 0 1) 4, .sl .nil 0] 3 .own,
    .cells [.int .i64 (Int.ofNat 7), .sl (.at 67 0 1) 4, .sl .nil 0] 3 .own,
    .cells [.int .i64 (Int.ofNat 7), .sl (.at 59 0 1) 4, .sl .nil 0] 3 .own,
    .cells [.int .i64 (Int.ofNat 1), .int .i64 (Int.ofNat 2)] 2 .own,
    .cells [.int .i64 (Int.ofNat 4), .str [(Int.ofNat 97)], .str [(Int.ofNat 107)], .str [(Int.ofNat 118)], .int .i64 (Int.ofNat 0)] 5 .own,
    .cells [.str [(Int.ofNat 97)], .str [(Int.ofNat 107)], .bool false] 3 .own,
    .dead,
    .cells [.int .i64 (Int.ofNat 6), .str [(Int.ofNat 98)], .str [], .str [(Int.ofNat 120)], .int .i64 (Int.ofNat 0)] 5 .own,
    .cells [.str [(Int.ofNat 98)], .str [], .bool true] 3 .own,
    .cells [.str [(Int.ofNat 97)], .str [(Int.ofNat 107)], .bool false, .str [(Int.ofNat 98)], .str [], .bool true] 3 .own,
    .cells [.str [(Int.ofNat 98)], .str [], .bool true] 3 .own,
    .cells [.str [(Int.ofNat 97)], .str [(Int.ofNat 107)], .bool false] 3 .own,
    .cells [.int .i64 (Int.ofNat 1), .int .i64 (Int.negSucc 0), .int .i64 (Int.negSucc 0)] 1 .own,
    .map [⟨.agg [.str [(Int.ofNat 97)], .str [(Int.ofNat 107)], .bool false], .agg [.int .i64 (Int.ofNat 1), .int .i64 (Int.ofNat 2)], 0⟩, ⟨.agg [.str [(Int.ofNat 98)], .str [], .bool true], .agg [.int .i64 (Int.ofNat 1), .int .i64 (Int.ofNat 2)], 1⟩] 2,
    .cells [.map (some 81)] 1 .own]
def e42x0 : Ent := ⟨[.ptr (some ⟨82, 0, 0, 1⟩), .agg [.int .i64 (Int.ofNat 1), .int .i64 (Int.ofNat 2)], .sl (.at 77 0 3) 2], heap8, .bool true, heap9⟩
theorem run42x0 : acall Tryz.prog tab42 (drawRegion Tryz.prog) 300 42 e42x0.args e42x0.old (chk e42x0.old.length e42x0.val e42x0.new) = true := by kernel_rfl
def e42x1 : Ent := ⟨[.ptr (some ⟨82, 0, 0, 1⟩), .agg [.int .i64 (Int.ofNat 2), .int .i64 (Int.ofNat 1)], .sl (.at 77 0 3) 1], heap9, .bool false, heap9⟩
theorem run42x1 : acall Tryz.prog tab42 (drawRegion Tryz.prog) 300 42 e42x1.args e42x1.old (chk e42x1.old.length e42x1.val e42x1.new) = true := by kernel_rfl
def es42 : List Ent := [e42x0, e42x1]
theorem ok42 : ∀ e ∈ es42, EntOK Tryz.prog tab42 42 e := fun e h => by
  unfold es42 at h
  rcases List.mem_cons.1 h with rfl | h
  · exact ⟨300, run42x0⟩
  rcases List.mem_cons.1 h with rfl | h
  · exact ⟨300, run42x1⟩
  cases h
theorem con42 : SoundAt Tryz.prog 42 (entF es42) := ent_sound tab42OK L1.mix L1.noCount ok42
def tab44 : Tab := ⟨fun g => bif Nat.beq g 51 then some (closedF) else bif Nat.beq g 47 then some (entF es47) else bif Nat.beq g 48 then some (entF es48) else bif Nat.beq g 42 then some (entF es42) else none, fun _ _ => 0⟩
theorem tab44OK : TabOK Tryz.prog tab44 := fun g F h => by
  unfold tab44 at h
  simp only at h
  cases hq : Nat.beq g 51 with
  | true =>
    rw [hq] at h
    obtain rfl := Nat.eq_of_beq_eq_true hq
    obtain rfl := (Option.some.inj h).symm
    exact L1.closed51
  | false =>
    rw [hq] at h
    clear hq
    cases hq : Nat.beq g 47 with
    | true =>
      rw [hq] at h
      obtain rfl := Nat.eq_of_beq_eq_true hq
      obtain rfl := (Option.some.inj h).symm
      exact con47
    | false =>
      rw [hq] at h
      clear hq
      cases hq : Nat.beq g 48 with
      | true =>
        rw [hq] at h
        obtain rfl := Nat.eq_of_beq_eq_true hq
        obtain rfl := (Option.some.inj h).symm
        exact con48
      | false =>
        rw [hq] at h
        clear hq
        cases hq : Nat.beq g 42 with
        | true =>
          rw [hq] at h
          obtain rfl := Nat.eq_of_beq_eq_true hq
          obtain rfl := (Option.some.inj h).symm
          exact con42
        | false =>
          rw [hq] at h
          clear hq
          cases h
def heap10 : H := [.cells [.int .i64 (Int.ofNat 4), .str [(Int.ofNat 97)], .str [(Int.ofNat 107)], .str [(Int.ofNat 118)], .int .i64 (Int.ofNat 0), .int .i64 (Int.ofNat 6), .str [(Int.ofNat 98)], .str [], .str [(Int.ofNat 120)], .int .i64 (Int.ofNat 0)] 5 .own,
    .cells [.int .i64 (Int.ofNat 1), .int .i64 (Int.ofNat 2)] 2 .own,
    .cells [.int .i64 (Int.ofNat 1), .int .i64 (Int.ofNat 2)] 2 .own,
    .cells [.int .i64 (Int.ofNat 3), .sl (.at 11 0 1) 6, .sl (.at 16 0 1) 6] 3 .own,
    .cells [.int .i64 (Int.ofNat 1), .int .i64 (Int.ofNat 2)] 2 .own,
    .cells [.int .i64 (Int.ofNat 4), .str [(Int.ofNat 97)], .str [(Int.ofNat 107)], .str [(Int.ofNat 118)], .int .i64 (Int.ofNat 0)] 5 .own,
    .cells [.int .i64 (Int.ofNat 4), .str [(Int.ofNat 97)], .str [(Int.ofNat 107)], .str [(Int.ofNat 118)], .int .i64 (Int.ofNat 0)] 5 .own,
    .siter [(Int.ofNat 97)] 1,
    .cells [.int .i64 (Int.ofNat 6), .str [(Int.ofNat 98)], .str [], .str [(Int.ofNat 120)], .int .i64 (Int.ofNat 0)] 5 .own,
    .cells [.int .i64 (Int.ofNat 6), .str [(Int.ofNat 98)], .str [], .str [(Int.ofNat 120)], .int .i64 (Int.ofNat 0)] 5 .own,
    .siter [(Int.ofNat 98)] 1,
    .cells [.int .i64 (Int.ofNat 1), .int .i64 (Int.ofNat 2), .int .i64 (Int.ofNat 4), .int .i64 (Int.ofNat 0), .int .i64 (Int.ofNat 6), .int .i64 (Int.ofNat 0)] 1 .multi,
    .cells [.int .i64 (Int.ofNat 3), .sl (.at 11 0 1) 6, .sl (.at 16 0 1) 6] 3 .own,
    .cells [.int .i64 (Int.ofNat 4), .str [(Int.ofNat 97)], .str [(Int.ofNat 107)], .str [(Int.ofNat 118)], .int .i64 (Int.ofNat 0)] 5 .own,
    .cells [.int .i64 (Int.ofNat 4), .int .i64 (Int.ofNat 0)] 1 .own,
    .cells [.str [(Int.ofNat 97)], .str [(Int.ofNat 107)], .str [(Int.ofNat 118)]] 1 .own,
    .cells [.str [(Int.ofNat 97)], .str [(Int.ofNat 107)], .str [(Int.ofNat 118)], .str [(Int.ofNat 98)], .str [], .str [(Int.ofNat 120)]] 1 .multi,
    .cells [.int .i64 (Int.ofNat 6), .str [(Int.ofNat 98)], .str [], .str [(Int.ofNat 120)], .int .i64 (Int.ofNat 0)] 5 .own,
    .cells [.int .i64 (Int.ofNat 6), .int .i64 (Int.ofNat 0)] 1 .own,
    .cells [.str [(Int.ofNat 98)], .str [], .str [(Int.ofNat 120)]] 1 .own,
    .cells [.int .i64 (Int.ofNat 3), .sl (.at 11 0 1) 6, .sl (.at 16 0 1) 6] 3 .own,
    .cells [.int .i64 (Int.ofNat 3), .sl (.at 11 0 1) 6, .sl (.at 16 0 1) 6] 3 .own,
    .cells [.int .i64 (Int.ofNat 1), .int .i64 (Int.ofNat 2)] 2 .own,
    .cells [.int .i64 (Int.ofNat 1), .int .i64 (Int.ofNat 2)] 2 .own,
    .cells [.int .i64 (Int.ofNat 4), .str [(Int.ofNat 97)], .str [(Int.ofNat 107)], .str [(Int.ofNat 118)], .int .i64 (Int.ofNat 0)] 5 .own,
    .dead,
    .cells [.int .i64 (Int.ofNat 6), .str [(Int.ofNat 98)], .str [], .str [(Int.ofNat 120)], .int .i64 (Int.ofNat 0)] 5 .own,
    .cells [.int .i64 (Int.ofNat 4), .str [(Int.ofNat 97)], .str [(Int.ofNat 107)], .str [(Int.ofNat 118)], .int .i64 (Int.ofNat 0), .int .i64 (Int.ofNat 6), .str [(Int.ofNat 98)], .str [], .str [(Int.ofNat 120)], .int .i64 (Int.ofNat 0)] 5 .own,
    .cells [.int .i64 (Int.ofNat 1), .int .i64 (Int.ofNat 2)] 2 .own,
    .cells [.int .i64 (Int.ofNat 3), .sl (.at 37 0 1) 6, .sl (.at 42 0 1) 6] 3 .own,
    .cells [.int .i64 (Int.ofNat 1), .int .i64 (Int.ofNat 2)] 2 .own,
    .cells [.int .i64 (Int.ofNat 4), .str [(Int.ofNat 97)], .str [(Int.ofNat 107)], .str [(Int.ofNat 118)], .int .i64 (Int.ofNat 0)] 5 .own,
    .cells [.int .i64 (Int.ofNat 4), .str [(Int.ofNat 97)], .str [(Int.ofNat 107)], .str [(Int.ofNat 118)], .int .i64 (Int.ofNat 0)] 5 .own,
    .siter [(Int.ofNat 97)] 1,
    .cells [.int .i64 (Int.ofNat 6), .str [(Int.ofNat 98)], .str [], .str [(Int.ofNat 120)], .int .i64 (Int.ofNat 0)] 5 .own,
    .cells [.int .i64 (Int.ofNat 6), .str [(Int.ofNat 98)], .str [], .str [(Int.ofNat 120)], .int .i64 (Int.ofNat 0)] 5 .own,
    .siter [(Int.ofNat 98)] 1,
    .cells [.int .i64 (Int.ofNat 1), .int .i64 (Int.ofNat 2), .int .i64 (Int.ofNat 4), .int .i64 (Int.ofNat 0), .int .i64 (Int.ofNat 6), .int .i64 (Int.ofNat 0)] 1 .multi,
    .cells [.int .i64 (Int.ofNat 3), .sl (.at 37 0 1) 6, .sl (.at 42 0 1) 6] 3 .own,
    .cells [.int .i64 (Int.ofNat 4), .str [(Int.ofNat 97)], .str [(Int.ofNat 107)], .str [(Int.ofNat 118)], .int .i64 (Int.ofNat 0)] 5 .own,
    .cells [.int .i64 (Int.ofNat 4), .int .i64 (Int.ofNat 0)] 1 .own,
    .cells [.str [(Int.ofNat 97)], .str [(Int.ofNat 107)], .str [(Int.ofNat 118)]] 1 .own,
    .cells [.str [(Int.ofNat 97)], .str [(Int.ofNat 107)], .str [(Int.ofNat 118)], .str [(Int.ofNat 98)], .str [], .str [(Int.ofNat 120)]] 1 .multi,
    .cells [.int .i64 (Int.ofNat 6), .str [(Int.ofNat 98)], .str [], .str [(Int.ofNat 120)], .int .i64 (Int.ofNat 0)] 5 .own,
    .cells [.int .i64 (Int.ofNat 6), .int .i64 (Int.ofNat 0)] 1 .own,
    .cells [.str [(Int.ofNat 98)], .str [], .str [(Int.ofNat 120)]] 1 .own,
    .cells [.int .i64 (Int.ofNat 3), .sl (.at 37 0 1) 6, .sl (.at 42 0 1) 6] 3 .own,
    .cells [.int .i64 (Int.ofNat 3), .sl (.at 37 0 1) 6, .sl (.at 42 0 1) 6] 3 .own,
    .cells [.int .i64 (Int.ofNat 3), .sl (.at 11 0 1) 6, .sl (.at 16 0 1) 6] 3 .own,
    .cells [.int .i64 (Int.ofNat 1), .int .i64 (Int.ofNat 2)] 2 .own,
    .cells [.str []] 1 .own,
    .cells [.int .i64 (Int.ofNat 1), .int .i64 (Int.ofNat 2), .int .i64 (Int.ofNat 0), .int .i64 (Int.ofNat 1), .int .i64 (Int.ofNat 3)] 1 .own,
    .cells [.str []] 1 .own,
    .cells [.int .i64 (Int.ofNat 5), .sl (.at 51 0 1) 5, .sl (.at 52 0 1) 1] 3 .own,
    .cells [.str []] 1 .own,
    .cells [.int .i64 (Int.ofNat 1), .int .i64 (Int.ofNat 2), .int .i64 (Int.ofNat 0), .bool true, .int .i64 (Int.ofNat 3), .sl (.at 54 0 1) 1] 6 .own,
    .cells [.int .i64 (Int.ofNat 1), .int .i64 (Int.ofNat 2)] 2 .own,
    .cells [.int .i64 (Int.ofNat 7), .sl (.at 59 0 1) 4, .sl .nil 0] 3 .own,
    .cells [.int .i64 (Int.ofNat 1), .int .i64 (Int.ofNat 2)] 2 .own,
    .cells [.int .i64 (Int.ofNat 1), .int .i64 (Int.ofNat 2), .int .i64 (Int.ofNat 1), .int .i64 (Int.ofNat 1)] 1 .own,
    .cells [.int .i64 (Int.ofNat 7), .sl (.at 59 0 1) 4, .sl .nil 0] 3 .own,
    .cells [.int .i64 (Int.ofNat 7), .sl (.at 59 0 1) 4, .sl .nil 0] 3 .own,
    .cells [.int .i64 (Int.ofNat 1), .int .i64 (Int.ofNat 2)] 2 .own,
    .cells [.int .i64 (Int.ofNat 1), .int .i64 (Int.ofNat 2)] 2 .own,
    .cells [.int .i64 (Int.ofNat 1), .int .i64 (Int.ofNat 2)] 2 .own,
    .cells [.int .i64 (Int.ofNat 7), .sl (.at 67 0 1) 4, .sl .nil 0] 3 .own,
    .cells [.int .i64 (Int.ofNat 1), .int .i64 (Int.ofNat 2)] 2 .own,
    .cells [.int .i64 (Int.ofNat 1), .int .i64 (Int.ofNat 2), .int .i64 (Int.ofNat 1), .int .i64 (Int.ofNat 1)] 1 .own,
    .cells [.int .i64 (Int.ofNat 7), .sl (.at 67 0 1) 4, .sl .nil 0] 3 .own,
    .cells [.int .i64 (Int.ofNat 7), .sl (.at 67 0 1) 4, .sl .nil 0] 3 .own,
    .cells [.int .i64 (Int.ofNat 7), .sl (.at 59 0 1) 4, .sl .nil 0] 3 .own,
    .cells [.int .i64 (Int.ofNat 1), .int .i64 (Int.ofNat 2)] 2 .own,
    .cells [.int .i64 (Int.ofNat 4), .str [(Int.ofNat 97)], .str [(Int.ofNat 107)], .str [(Int.ofNat 118)], .int .i64 (Int.ofNat 0)] 5 .own,
    .cells [.str [(Int.ofNat 97)], .str [(Int.ofNat 107)], .bool false] 3 .own,
    .dead,
    .cells [.int .i64 (Int.ofNat 6), .str [(Int.ofNat 98)], .str [], .str [(Int.ofNat 120)], .int .i64 (Int.ofNat 0)] 5 .own,
    .cells [.str [(Int.ofNat 98)], .str [], .bool true] 3 .own,
    .cells [.str [(Int.ofNat 97)], .str [(Int.ofNat 107)], .bool false, .str [(Int.ofNat 98)], .str [], .bool true] 3 .own,
    .cells [.str [(Int.ofNat 98)], .str [], .bool true] 3 .own,
    .cells [.str [(Int.ofNat 97)], .str [(Int.ofNat 107)], .bool false] 3 .own,
    .cells [.int .i64 (Int.ofNat 1), .int .i64 (Int.negSucc 0), .int .i64 (Int.negSucc 0)] 1 .own,
    .map [⟨.agg [.str [(Int.ofNat 97)], .str [(Int.ofNat 107)], .bool false], .agg [.int .i64 (Int.ofNat 1), .int .i64 (Int.ofNat 2)], 0⟩, ⟨.agg [.str [(Int.ofNat 98)], .str [], .bool true], .agg [.int .i64 (Int.ofNat 1), .int .i64 (Int.ofNat 2)], 1⟩] 2,
    .cells [.map (some 81)] 1 .own,
    .cells [.int .i64 (Int.ofNat 1), .int .i64 (Int.ofNat 2)] 2 .own]
def heap11 : H := [.cells [.int .i64 (Int.ofNat 4), .str [(Int.ofNat 97)], .str [(Int.ofNat 107)], .str [(Int.ofNat 118)], .int .i64 (Int.ofNat 0), .int .i64 (Int.ofNat 6), .str [(Int.ofNat 98)], .str [], .str [(Int.ofNat 120)], .int .i64 (Int.ofNat 0)] 5 .own,
    .cells [.int .i64 (Int.ofNat 1), .int .i64 (Int.ofNat 2)] 2 .own,
    .cells [.int .i64 (Int.ofNat 1), .int .i64 (Int.ofNat 2)] 2 .own,
    .cells [.int .i64 (Int.ofNat 3), .sl (.at 11 0 1) 6, .sl (.at 16 0 1) 6] 3 .own,
    .cells [.int .i64 (Int.ofNat 1), .int .i64 (Int.ofNat 2)] 2 .own,
    .cells [.int .i64 (Int.ofNat 4), .str [(Int.ofNat 97)], .str [(Int.ofNat 107)], .str [(Int.ofNat 118)], .int .i64 (Int.ofNat 0)] 5 .own,
    .cells [.int .i64 (Int.ofNat 4), .str [(Int.ofNat 97)], .str [(Int.ofNat 107)], .str [(Int.ofNat 118)], .int .i64 (Int.ofNat 0)] 5 .own,
    .siter [(Int.ofNat 97)] 1,
    .cells [.int .i64 (Int.ofNat 6), .str [(Int.ofNat 98)], .str [], .str [(Int.ofNat 120)], .int .i64 (Int.ofNat 0)] 5 .own,
    .cells [.int .i64 (Int.ofNat 6), .str [(Int.ofNat 98)], .str [], .str [(Int.ofNat 120)], .int .i64 (Int.ofNat 0)] 5 .own,
    .siter [(Int.ofNat 98)] 1,
    .cells [.int .i64 (Int.ofNat 1), .int .i64 (Int.ofNat 2), .int .i64 (Int.ofNat 4), .int .i64 (Int.ofNat 0), .int .i64 (Int.ofNat 6), .int .i64 (Int.ofNat 0)] 1 .multi,
    .cells [.int .i64 (Int.ofNat 3), .sl (.at 11 0 1) 6, .sl (.at 16 0 1) 6] 3 .own,
    .cells [.int .i64 (Int.ofNat 4), .str [(Int.ofNat 97)], .str [(Int.ofNat 107)], .str [(Int.ofNat 118)], .int .i64 (Int.ofNat 0)] 5 .own,
    .cells [.int .i64 (Int.ofNat 4), .int .i64 (Int.ofNat 0)] 1 .own,
    .cells [.str [(Int.ofNat 97)], .str [(Int.ofNat 107)], .str [(Int.ofNat 118)]] 1 .own,
    .cells [.str [(Int.ofNat 97)], .str [(Int.ofNat 107)], .str [(Int.ofNat 118)], .str [(Int.ofNat 98)], .str [], .str [(Int.ofNat 120)]] 1 .multi,
    .cells [.int .i64 (Int.ofNat 6), .str [(Int.ofNat 98)], .str [], .str [(Int.ofNat 120)], .int .i64 (Int.ofNat 0)] 5 .own,
    .cells [.int .i64 (Int.ofNat 6), .int .i64 (Int.ofNat 0)] 1 .own,
    .cells [.str [(Int.ofNat 98)], .str [], .str [(Int.ofNat 120)]] 1 .own,
    .cells [.int .i64 (Int.ofNat 3), .sl (.at 11 0 1) 6, .sl (.at 16 0 1) 6] 3 .own,
    .cells [.int .i64 (Int.ofNat 3), .sl (.at 11 0 1) 6, .sl (.at 16 0 1) 6] 3 .own,
    .cells [.int .i64 (Int.ofNat 1), .int .i64 (Int.ofNat 2)] 2 .own,
    .cells [.int .i64 (Int.ofNat 1), .int .i64 (Int.ofNat 2)] 2 .own,
    .cells [.int .i64 (Int.ofNat 4), .str [(Int.ofNat 97)], .str [(Int.ofNat 107)], .str [(Int.ofNat 118)], .int .i64 (Int.ofNat 0)] 5 .own,
    .dead,
    .cells [.int .i64 (Int.ofNat 6), .str [(Int.ofNat 98)], .str [], .str [(Int.ofNat 120)], .int .i64 (Int.ofNat 0)] 5 .own,
    .cells [.int .i64 (Int.ofNat 4), .str [(Int.ofNat 97)], .str [(Int.ofNat 107)], .str [(Int.ofNat 118)], .int .i64 (Int.ofNat 0), .int .i64 (Int.ofNat 6), .str [(Int.ofNat 98)], .str [], .str [(Int.ofNat 120)], .int .i64 (Int.ofNat 0)] 5 .own,
    .cells [.int .i64 (Int.ofNat 1), .int .i64 (Int.ofNat 2)] 2 .own,
    .cells [.int .i64 (Int.ofNat 3), .sl (.at 37 0 1) 6, .sl (.at 42 0 1) 6] 3 .own,
    .cells [.int .i64 (Int.ofNat 1), .int .i64 (Int.ofNat 2)] 2 .own,
    .cells [.int .i64 (Int.ofNat 4), .str [(Int.ofNat 97)], .str [(Int.ofNat 107)], .str [(Int.ofNat 118)], .int .i64 (Int.ofNat 0)] 5 .own,
    .cells [.int .i64 (Int.ofNat 4), .str [(Int.ofNat 97)], .str [(Int.ofNat 107)], .str [(Int.ofNat 118)], .int .i64 (Int.ofNat 0)] 5 .own,
    .siter [(Int.ofNat 97)] 1,
    .cells [.int .i64 (Int.ofNat 6), .str [(Int.ofNat 98)], .str [], .str [(Int.ofNat 120)], .int .i64 (Int.ofNat 0)] 5 .own,
    .cells [.int .i64 (Int.ofNat 6), .str [(Int.ofNat 98)], .str [], .str [(Int.ofNat 120)], .int .i64 (Int.ofNat 0)] 5 .own,
    .siter [(Int.ofNat 98)] 1,
    .cells [.int .i64 (Int.ofNat 1), .int .i64 (Int.ofNat 2), .int .i64 (Int.ofNat 4), .int .i64 (Int.ofNat 0), .int .i64 (Int.ofNat 6), .int .i64 (Int.ofNat 0)] 1 .multi,
    .cells [.int .i64 (Int.ofNat 3), .sl (.at 37 0 1) 6, .sl (.at 42 0 1) 6] 3 .own,
    .cells [.int .i64 (Int.ofNat 4), .str [(Int.ofNat 97)], .str [(Int.ofNat 107)], .str [(Int.ofNat 118)], .int .i64 (Int.ofNat 0)] 5 .own,
    .cells [.int .i64 (Int.ofNat 4), .int .i64 (Int.ofNat 0)] 1 .own,
    .cells [.str [(Int.ofNat 97)], .str [(Int.ofNat 107)], .str [(Int.ofNat 118)]] 1 .own,
    .cells [.str [(Int.ofNat 97)], .str [(Int.ofNat 107)], .str [(Int.ofNat 118)], .str [(Int.ofNat 98)], .str [], .str [(Int.ofNat 120)]] 1 .multi,
    .cells [.int .i64 (Int.ofNat 6), .str [(Int.ofNat 98)], .str [], .str [(Int.ofNat 120)], .int .i64 (Int.ofNat 0)] 5 .own,
    .cells [.int .i64 (Int.ofNat 6), .int .i64 (Int.ofNat 0)] 1 .own,
    .cells [.str [(Int.ofNat 98)], .str [], .str [(Int.ofNat 120)]] 1 .own,
    .cells [.int .i64 (Int.ofNat 3), .sl (.at 37 0 1) 6, .sl (.at 42 0 1) 6] 3 .own,
    .cells [.int .i64 (Int.ofNat 3), .sl (.at 37 0 1) 6, .sl (.at 42 0 1) 6] 3 .own,
    .cells [.int .i64 (Int.ofNat 3), .sl (.at 11 0 1) 6, .sl (.at 16 0 1) 6] 3 .own,
    .cells [.int .i64 (Int.ofNat 1), .int .i64 (Int.ofNat 2)] 2 .own,
    .cells [.str []] 1 .own,
    .cells [.int .i64 (Int.ofNat 1), .int .i64 (Int.ofNat 2), .int .i64 (Int.ofNat 0), .int .i64 (Int.ofNat 1), .int .i64 (Int.ofNat 3)] 1 .own,
    .cells [.str []] 1 .own,
    .cells [.int .i64 (Int.ofNat 5), .sl (.at 51 0 1) 5, .sl (.at 52 0 1) 1] 3 .own,
    .cells [.str []] 1 .own,
    .cells [.int .i64 (Int.ofNat 1), .int .i64 (Int.ofNat 2), .int .i64 (Int.ofNat 0), .bool true, .int .i64 (Int.ofNat 3), .sl (.at 54 0 1) 1] 6 .own,
    .cells [.int .i64 (Int.ofNat 1), .int .i64 (Int.ofNat 2)] 2 .own,
    .cells [.int .i64 (Int.ofNat 7), .sl (.at 59 0 1) 4, .sl .nil 0] 3 .own,
    .cells [.int .i64 (Int.ofNat 1), .int .i64 (Int.ofNat 2)] 2 .own,
    .cells [.int .i64 (Int.ofNat 1), .int .i64 (Int.ofNat 2), .int .i64 (Int.ofNat 1), .int .i64 (Int.ofNat 1)] 1 .own,
    .cells [.int .i64 (Int.ofNat 7), .sl (.at 59 0 1) 4, .sl .nil 0] 3 .own,
    .cells [.int .i64 (Int.ofNat 7), .sl (.at 59 0 1) 4, .sl .nil 0] 3 .own,
    .cells [.int .i64 (Int.ofNat 1), .int .i64 (Int.ofNat 2)] 2 .own,
    .cells [.int .i64 (Int.ofNat 1), .int .i64 (Int.ofNat 2)] 2 .own,
    .cells [.int .i64 (Int.ofNat 1), .int .i64 (Int.ofNat 2)] 2 .own,
    .cells [.int .i64 (Int.ofNat 7), .sl (.at 67 0 1) 4, .sl .nil 0] 3 .own,
    .cells [.int .i64 (Int.ofNat 1), .int .i64 (Int.ofNat 2)] 2 .own,
    .cells [.int .i64 (Int.ofNat 1), .int .i64 (Int.ofNat 2), .int .i64 (Int.ofNat 1), .int .i64 (Int.ofNat 1)] 1 .own,
    .cells [.int .i64 (Int.ofNat 7), .sl (.at 67 0 1) 4, .sl .nil 0] 3 .own,
    .cells [.int .i64 (Int.ofNat 7), .sl (.at 67 0 1) 4, .sl .nil 0] 3 .own,
    .cells [.int .i64 (Int.ofNat 7), .sl (.at 59 0 1) 4, .sl .nil 0] 3 .own,
    .cells [.int .i64 (Int.ofNat 1), .int .i64 (Int.ofNat 2)] 2 .own,
    .cells [.int .i64 (Int.ofNat 4), .str [(Int.ofNat 97)], .str [(Int.ofNat 107)], .str [(Int.ofNat 118)], .int .i64 (Int.ofNat 0)] 5 .own,
    .cells [.str [(Int.ofNat 97)], .str [(Int.ofNat 107)], .bool false] 3 .own,
    .dead,
    .cells [.int .i64 (Int.ofNat 6), .str [(Int.ofNat 98)], .str [], .str [(Int.ofNat 120)], .int .i64 (Int.ofNat 0)] 5 .own,
    .cells [.str [(Int.ofNat 98)], .str [], .bool true] 3 .own,
    .cells [.str [(Int.ofNat 97)], .str [(Int.ofNat 107)], .bool false, .str [(Int.ofNat 98)], .str [], .bool true] 3 .own,
    .cells [.str [(Int.ofNat 98)], .str [], .bool true] 3 .own,
    .cells [.str [(Int.ofNat 97)], .str [(Int.ofNat 107)], .bool false] 3 .own,
    .cells [.int .i64 (Int.ofNat 1), .int .i64 (Int.negSucc 0), .int .i64 (Int.negSucc 0)] 1 .own,
    .map [⟨.agg [.str [(Int.ofNat 97)], .str [(Int.ofNat 107)], .bool false], .agg [.int .i64 (Int.ofNat 1), .int .i64 (Int.ofNat 2)], 0⟩, ⟨.agg [.str [(Int.ofNat 98)], .str [], .bool true], .agg [.int .i64 (Int.ofNat 1), .int .i64 (Int.ofNat 2)], 1⟩] 2,
    .cells [.map (some 81)] 1 .own,
    .cells [.int .i64 (Int.ofNat 1), .int .i64 (Int.ofNat 2)] 2 .own,
    .cells [.str [(Int.ofNat 97)], .str [(Int.ofNat 107)], .bool false, .str [(Int.ofNat 98)], .str [], .bool true] 3 .own]
def e44x0 : Ent := ⟨[.ptr (some ⟨82, 0, 0, 1⟩), .agg [.int .i64 (Int.ofNat 1), .int .i64 (Int.ofNat 2)]], heap10, .sl (.at 84 0 3) 2, heap11⟩
theorem run44x0 : acall Tryz.prog tab44 (drawRegion Tryz.prog) 300 44 e44x0.args e44x0.old (chk e44x0.old.length e44x0.val e44x0.new) = true := by kernel_rfl
def es44 : List Ent := [e44x0]
theorem ok44 : ∀ e ∈ es44, EntOK Tryz.prog tab44 44 e := fun e h => by
  unfold es44 at h
  rcases List.mem_cons.1 h with rfl | h
  · exact ⟨300, run44x0⟩
  cases h
theorem con44 : SoundAt Tryz.prog 44 (entF es44) := ent_sound tab44OK L1.mix L1.noCount ok44
def tab14 : Tab := ⟨fun g => bif Nat.beq g 51 then some (closedF) else bif Nat.beq g 47 then some (entF es47) else bif Nat.beq g 48 then some (entF es48) else bif Nat.beq g 42 then some (entF es42) else bif Nat.beq g 44 then some (entF es44) else none, fun _ _ => 0⟩
theorem tab14OK : TabOK Tryz.prog tab14 := fun g F h => by
  unfold tab14 at h
  simp only at h
  cases hq : Nat.beq g 51 with
  | true =>
    rw [hq] at h
    obtain rfl := Nat.eq_of_beq_eq_true hq
    obtain rfl := (Option.some.inj h).symm
    exact L1.closed51
  | false =>
    rw [hq] at h
    clear hq
    cases hq : Nat.beq g 47 with
    | true =>
      rw [hq] at h
      obtain rfl := Nat.eq_of_beq_eq_true hq
      obtain rfl := (Option.some.inj h).symm
      exact con47
    | false =>
      rw [hq] at h
      clear hq
      cases hq : Nat.beq g 48 with
      | true =>
        rw [hq] at h
        obtain rfl := Nat.eq_of_beq_eq_true hq
        obtain rfl := (Option.some.inj h).symm
        exact con48
      | false =>
        rw [hq] at h
        clear hq
        cases hq : Nat.beq g 42 with
        | true =>
          rw [hq] at h
          obtain rfl := Nat.eq_of_beq_eq_true hq
          obtain rfl := (Option.some.inj h).symm
          exact con42
        | false =>
          rw [hq] at h
          clear hq
          cases hq : Nat.beq g 44 with
          | true =>
            rw [hq] at h
            obtain rfl := Nat.eq_of_beq_eq_true hq
            obtain rfl := (Option.some.inj h).symm
            exact con44
          | false =>
            rw [hq] at h
            clear hq
            cases h
theorem run14 : acall Tryz.prog tab14 (drawRegion Tryz.prog) 300 14 [] [] isTrue = true := by kernel_rfl
theorem closed14 : SoundAt Tryz.prog 14 closedF := closed_sound L1.noCount Tryz.func14 rfl fun w => law0 L1.mix L1.noCount tab14OK 300 14 run14 w
end Ent
end Go.Proofs.YtajincfelnmlhaaGreat
