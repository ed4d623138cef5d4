/- What the laws begin with, run from heaps that are known, call by call. -/
import Derived.Test.YtjcpopoinaeemaaGreatL22Begun
import Derived.Test.YtjcpopoinaeemaaGreatAmGc
import Derived.KernelRfl
namespace Go.Proofs.YtjcpopoinaeemaaGreat
set_option maxRecDepth 100000
open Go Go.RowKit Go.AM
namespace Ent
def tab39 : Tab := ⟨fun g => bif Nat.beq g 46 then some (closedF) else none, fun _ _ => 0⟩
theorem tab39OK : TabOK Tryz.prog tab39 := fun g F h => by
  unfold tab39 at h
  simp only at h
  cases hq : Nat.beq g 46 with
  | true =>
    rw [hq] at h
    obtain rfl := Nat.eq_of_beq_eq_true hq
    obtain rfl := (Option.some.inj h).symm
    exact L1.closed46
  | false =>
    rw [hq] at h
    clear hq
    cases h
def heap0 : H := [.cells [.int .i64 (Int.ofNat 4), .str [(Int.ofNat 97)], .str [(Int.ofNat 107)], .str [(Int.ofNat 118)], .int .i64 (Int.ofNat 0), .int .i64 (Int.ofNat 6), .str [(Int.ofNat 98)], .str [], .str [(Int.ofNat 120)], .int .i64 (Int.ofNat 0)] 5 .own,
    .cells [.int .i64 (Int.ofNat 1), .int .i64 (Int.ofNat 2)] 2 .own,
    .cells [.int .i64 (Int.ofNat 1), .int .i64 (Int.ofNat 2)] 2 .own,
    .cells [.int .i64 (Int.ofNat 3), .sl (.at 11 0 1) 6, .sl (.at 16 0 1) 6] 3 .own,
    .cells [.int .i64 (Int.ofNat 1), .int .i64 (Int.ofNat 2)] 2 .own,
    .cells [.int .i64 (Int.ofNat 4), .str [(Int.ofNat 97)], .str [(Int.ofNat 107)], .str [(Int.ofNat 118)], .int .i64 (Int.ofNat 0)] 5 .own,
    .cells [.int .i64 (Int.ofNat 4), .str [(Int.ofNat 97)], .str [(Int.ofNat 107)], .str [(Int.ofNat 118)], .int .i64 (Int.ofNat 0)] 5 .own,
    .siter [(Int.ofNat 97)] 1,
    .cells [.int .i64 (Int.ofNat 6), .str [(Int.ofNat 98)], .str [], .str [(Int.ofNat 120)], .int .i64 (Int.ofNat 0)] 5 .own,
    .cells [.int .i64 (Int.ofNat 6), .str [(Int.ofNat 98)], .str [], .str [(Int.ofNat 120)], .int .i64 (Int.ofNat 0)] 5 .own,
    .siter [(Int.ofNat 98)] 1,
    .cells [.int .i64 (Int.ofNat 1), .int .i64 (Int.ofNat 2), .int .i64 (Int.ofNat 4), .int .i64 (Int.ofNat 0), .int .i64 (Int.ofNat 6), .int .i64 (Int.ofNat 0)] 1 .multi,
    .cells [.int .i64 (Int.ofNat 3), .sl (.at 11 0 1) 6, .sl (.at 16 0 1) 6] 3 .own,
    .cells [.int .i64 (Int.ofNat 4), .str [(Int.ofNat 97)], .str [(Int.ofNat 107)], .str [(Int.ofNat 118)], .int .i64 (Int.ofNat 0)] 5 .own,
    .cells [.int .i64 (Int.ofNat 4), .int .i64 (Int.ofNat 0)] 1 .own,
    .cells [.str [(Int.ofNat 97)], .str [(Int.ofNat 107)], .str [(Int.ofNat 118)]] 1 .own,
    .cells [.str [(Int.ofNat 97)], .str [(Int.ofNat 107)], .str [(Int.ofNat 118)], .str [(Int.ofNat 98)], .str [], .str [(Int.ofNat 120)]] 1 .multi,
    .cells [.int .i64 (Int.ofNat 6), .str [(Int.ofNat 98)], .str [], .str [(Int.ofNat 120)], .int .i64 (Int.ofNat 0)] 5 .own,
    .cells [.int .i64 (Int.ofNat 6), .int .i64 (Int.ofNat 0)] 1 .own,
    .cells [.str [(Int.ofNat 98)], .str [], .str [(Int.ofNat 120)]] 1 .own,
    .cells [.int .i64 (Int.ofNat 3), .sl (.at 11 0 1) 6, .sl (.at 16 0 1) 6] 3 .own,
    .cells [.int .i64 (Int.ofNat 3), .sl (.at 11 0 1) 6, .sl (.at 16 0 1) 6] 3 .own,
    .cells [.int .i64 (Int.ofNat 1), .int .i64 (Int.ofNat 2)] 2 .own,
    .cells [.int .i64 (Int.ofNat 1), .int .i64 (Int.ofNat 2)] 2 .own,
    .cells [.int .i64 (Int.ofNat 4), .str [(Int.ofNat 97)], .str [(Int.ofNat 107)], .str [(Int.ofNat 118)], .int .i64 (Int.ofNat 0)] 5 .own,
    .dead,
    .cells [.int .i64 (Int.ofNat 6), .str [(Int.ofNat 98)], .str [], .str [(Int.ofNat 120)], .int .i64 (Int.ofNat 0)] 5 .own,
    .cells [.int .i64 (Int.ofNat 4), .str [(Int.ofNat 97)], .str [(Int.ofNat 107)], .str [(Int.ofNat 118)], .int .i64 (Int.ofNat 0), .int .i64 (Int.ofNat 6), .str [(Int.ofNat 98)], .str [], .str [(Int.ofNat 120)], .int .i64 (Int.ofNat 0)] 5 .own,
    .cells [.int .i64 (Int.ofNat 1), .int .i64 (Int.ofNat 2)] 2 .own,
    .cells [.int .i64 (Int.ofNat 3), .sl (.at 37 0 1) 6, .sl (.at 42 0 1) 6] 3 .own,
    .cells [.int .i64 (Int.ofNat 1), .int .i64 (Int.ofNat 2)] 2 .own,
    .cells [.int .i64 (Int.ofNat 4), .str [(Int.ofNat 97)], .str [(Int.ofNat 107)], .str [(Int.ofNat 118)], .int .i64 (Int.ofNat 0)] 5 .own,
    .cells [.int .i64 (Int.ofNat 4), .str [(Int.ofNat 97)], .str [(Int.ofNat 107)], .str [(Int.ofNat 118)], .int .i64 (Int.ofNat 0)] 5 .own,
    .siter [(Int.ofNat 97)] 1,
    .cells [.int .i64 (Int.ofNat 6), .str [(Int.ofNat 98)], .str [], .str [(Int.ofNat 120)], .int .i64 (Int.ofNat 0)] 5 .own,
    .cells [.int .i64 (Int.ofNat 6), .str [(Int.ofNat 98)], .str [], .str [(Int.ofNat 120)], .int .i64 (Int.ofNat 0)] 5 .own,
    .siter [(Int.ofNat 98)] 1,
    .cells [.int .i64 (Int.ofNat 1), .int .i64 (Int.ofNat 2), .int .i64 (Int.ofNat 4), .int .i64 (Int.ofNat 0), .int .i64 (Int.ofNat 6), .int .i64 (Int.ofNat 0)] 1 .multi,
    .cells [.int .i64 (Int.ofNat 3), .sl (.at 37 0 1) 6, .sl (.at 42 0 1) 6] 3 .own,
    .cells [.int .i64 (Int.ofNat 4), .str [(Int.ofNat 97)], .str [(Int.ofNat 107)], .str [(Int.ofNat 118)], .int .i64 (Int.ofNat 0)] 5 .own,
    .cells [.int .i64 (Int.ofNat 4), .int .i64 (Int.ofNat 0)] 1 .own,
    .cells [.str [(Int.ofNat 97)], .str [(Int.ofNat 107)], .str [(Int.ofNat 118)]] 1 .own,
    .cells [.str [(Int.ofNat 97)], .str [(Int.ofNat 107)], .str [(Int.ofNat 118)], .str [(Int.ofNat 98)], .str [], .str [(Int.ofNat 120)]] 1 .multi,
    .cells [.int .i64 (Int.ofNat 6), .str [(Int.ofNat 98)], .str [], .str [(Int.ofNat 120)], .int .i64 (Int.ofNat 0)] 5 .own,
    .cells [.int .i64 (Int.ofNat 6), .int .i64 (Int.ofNat 0)] 1 .own,
    .cells [.str [(Int.ofNat 98)], .str [], .str [(Int.ofNat 120)]] 1 .own,
    .cells [.int .i64 (Int.ofNat 3), .sl (.at 37 0 1) 6, .sl (.at 42 0 1) 6] 3 .own,
    .cells [.int .i64 (Int.ofNat 3), .sl (.at 37 0 1) 6, .sl (.at 42 0 1) 6] 3 .own,
    .cells [.int .i64 (Int.ofNat 3), .sl (.at 11 0 1) 6, .sl (.at 16 0 1) 6] 3 .own,
    .cells [.int .i64 (Int.ofNat 1), .int .i64 (Int.ofNat 2)] 2 .own,
    .cells [.str []] 1 .own]
def heap1 : H := [.cells [.int .i64 (Int.ofNat 4), .str [(Int.ofNat 97)], .str [(Int.ofNat 107)], .str [(Int.ofNat 118)], .int .i64 (Int.ofNat 0), .int .i64 (Int.ofNat 6), .str [(Int.ofNat 98)], .str [], .str [(Int.ofNat 120)], .int .i64 (Int.ofNat 0)] 5 .own,
    .cells [.int .i64 (Int.ofNat 1), .int .i64 (Int.ofNat 2)] 2 .own,
    .cells [.int .i64 (Int.ofNat 1), .int .i64 (Int.ofNat 2)] 2 .own,
    .cells [.int .i64 (Int.ofNat 3), .sl (.at 11 0 1) 6, .sl (.at 16 0 1) 6] 3 .own,
    .cells [.int .i64 (Int.ofNat 1), .int .i64 (Int.ofNat 2)] 2 .own,
    .cells [.int .i64 (Int.ofNat 4), .str [(Int.ofNat 97)], .str [(Int.ofNat 107)], .str [(Int.ofNat 118)], .int .i64 (Int.ofNat 0)] 5 .own,
    .cells [.int .i64 (Int.ofNat 4), .str [(Int.ofNat 97)], .str [(Int.ofNat 107)], .str [(Int.ofNat 118)], .int .i64 (Int.ofNat 0)] 5 .own,
    .siter [(Int.ofNat 97)] 1,
    .cells [.int .i64 (Int.ofNat 6), .str [(Int.ofNat 98)], .str [], .str [(Int.ofNat 120)], .int .i64 (Int.ofNat 0)] 5 .own,
    .cells [.int .i64 (Int.ofNat 6), .str [(Int.ofNat 98)], .str [], .str [(Int.ofNat 120)], .int .i64 (Int.ofNat 0)] 5 .own,
    .siter [(Int.ofNat 98)] 1,
    .cells [.int .i64 (Int.ofNat 1), .int .i64 (Int.ofNat 2), .int .i64 (Int.ofNat 4), .int .i64 (Int.ofNat 0), .int .i64 (Int.ofNat 6), .int .i64 (Int.ofNat 0)] 1 .multi,
    .cells [.int .i64 (Int.ofNat 3), .sl (.at 11 0 1) 6, .sl (.at 16 0 1) 6] 3 .own,
    .cells [.int .i64 (Int.ofNat 4), .str [(Int.ofNat 97)], .str [(Int.ofNat 107)], .str [(Int.ofNat 118)], .int .i64 (Int.ofNat 0)] 5 .own,
    .cells [.int .i64 (Int.ofNat 4), .int .i64 (Int.ofNat 0)] 1 .own,
    .cells [.str [(Int.ofNat 97)], .str [(Int.ofNat 107)], .str [(Int.ofNat 118)]] 1 .own,
    .cells [.str [(Int.ofNat 97)], .str [(Int.ofNat 107)], .str [(Int.ofNat 118)], .str [(Int.ofNat 98)], .str [], .str [(Int.ofNat 120)]] 1 .multi,
    .cells [.int .i64 (Int.ofNat 6), .str [(Int.ofNat 98)], .str [], .str [(Int.ofNat 120)], .int .i64 (Int.ofNat 0)] 5 .own,
    .cells [.int .i64 (Int.ofNat 6), .int .i64 (Int.ofNat 0)] 1 .own,
    .cells [.str [(Int.ofNat 98)], .str [], .str [(Int.ofNat 120)]] 1 .own,
    .cells [.int .i64 (Int.ofNat 3), .sl (.at 11 0 1) 6, .sl (.at 16 0 1) 6] 3 .own,
    .cells [.int .i64 (Int.ofNat 3), .sl (.at 11 0 1) 6, .sl (.at 16 0 1) 6] 3 .own,
    .cells [.int .i64 (Int.ofNat 1), .int .i64 (Int.ofNat 2)] 2 .own,
    .cells [.int .i64 (Int.ofNat 1), .int .i64 (Int.ofNat 2)] 2 .own,
    .cells [.int .i64 (Int.ofNat 4), .str [(Int.ofNat 97)], .str [(Int.ofNat 107)], .str [(Int.ofNat 118)], .int .i64 (Int.ofNat 0)] 5 .own,
    .dead,
    .cells [.int .i64 (Int.ofNat 6), .str [(Int.ofNat 98)], .str [], .str [(Int.ofNat 120)], .int .i64 (Int.ofNat 0)] 5 .own,
    .cells [.int .i64 (Int.ofNat 4), .str [(Int.ofNat 97)], .str [(Int.ofNat 107)], .str [(Int.ofNat 118)], .int .i64 (Int.ofNat 0), .int .i64 (Int.ofNat 6), .str [(Int.ofNat 98)], .str [], .str [(Int.ofNat 120)], .int .i64 (Int.ofNat 0)] 5 .own,
    .cells [.int .i64 (Int.ofNat 1), .int .i64 (Int.ofNat 2)] 2 .own,
    .cells [.int .i64 (Int.ofNat 3), .sl (.at 37 0 1) 6, .sl (.at 42 0 1) 6] 3 .own,
    .cells [.int .i64 (Int.ofNat 1), .int .i64 (Int.ofNat 2)] 2 .own,
    .cells [.int .i64 (Int.ofNat 4), .str [(Int.ofNat 97)], .str [(Int.ofNat 107)], .str [(Int.ofNat 118)], .int .i64 (Int.ofNat 0)] 5 .own,
    .cells [.int .i64 (Int.ofNat 4), .str [(Int.ofNat 97)], .str [(Int.ofNat 107)], .str [(Int.ofNat 118)], .int .i64 (Int.ofNat 0)] 5 .own,
    .siter [(Int.ofNat 97)] 1,
    .cells [.int .i64 (Int.ofNat 6), .str [(Int.ofNat 98)], .str [], .str [(Int.ofNat 120)], .int .i64 (Int.ofNat 0)] 5 .own,
    .cells [.int .i64 (Int.ofNat 6), .str [(Int.ofNat 98)], .str [], .str [(Int.ofNat 120)], .int .i64 (Int.ofNat 0)] 5 .own,
    .siter [(Int.ofNat 98)] 1,
    .cells [.int .i64 (Int.ofNat 1), .int .i64 (Int.ofNat 2), .int .i64 (Int.ofNat 4), .int .i64 (Int.ofNat 0), .int .i64 (Int.ofNat 6), .int .i64 (Int.ofNat 0)] 1 .multi,
    .cells [.int .i64 (Int.ofNat 3), .sl (.at 37 0 1) 6, .sl (.at 42 0 1) 6] 3 .own,
    .cells [.int .i64 (Int.ofNat 4), .str [(Int.ofNat 97)], .str [(Int.ofNat 107)], .str [(Int.ofNat 118)], .int .i64 (Int.ofNat 0)] 5 .own,
    .cells [.int .i64 (Int.ofNat 4), .int .i64 (Int.ofNat 0)] 1 .own,
    .cells [.str [(Int.ofNat 97)], .str [(Int.ofNat 107)], .str [(Int.ofNat 118)]] 1 .own,
    .cells [.str [(Int.ofNat 97)], .str [(Int.ofNat 107)], .str [(Int.ofNat 118)], .str [(Int.ofNat 98)], .str [], .str [(Int.ofNat 120)]] 1 .multi,
    .cells [.int .i64 (Int.ofNat 6), .str [(Int.ofNat 98)], .str [], .str [(Int.ofNat 120)], .int .i64 (Int.ofNat 0)] 5 .own,
    .cells [.int .i64 (Int.ofNat 6), .int .i64 (Int.ofNat 0)] 1 .own,
    .cells [.str [(Int.ofNat 98)], .str [], .str [(Int.ofNat 120)]] 1 .own,
    .cells [.int .i64 (Int.ofNat 3), .sl (.at 37 0 1) 6, .sl (.at 42 0 1) 6] 3 .own,
    .cells [.int .i64 (Int.ofNat 3), .sl (.at 37 0 1) 6, .sl (.at 42 0 1) 6] 3 .own,
    .cells [.int .i64 (Int.ofNat 3), .sl (.at 11 0 1) 6, .sl (.at 16 0 1) 6] 3 .own,
    .cells [.int .i64 (Int.ofNat 1), .int .i64 (Int.ofNat 2)] 2 .own,
    .cells [.str []] 1 .own,
    .cells [.int .i64 (Int.ofNat 1), .int .i64 (Int.ofNat 2), .int .i64 (Int.ofNat 0), .int .i64 (Int.ofNat 1), .int .i64 (Int.ofNat 3)] 1 .own,
    .cells [.str []] 1 .own]
def e39x0 : Ent := ⟨[.agg [.int .i64 (Int.ofNat 1), .int .i64 (Int.ofNat 2), .int .i64 (Int.ofNat 0), .bool true, .int .i64 (Int.ofNat 3), .sl (.at 50 0 1) 1]], heap0, .tup [.agg [.int .i64 (Int.ofNat 5), .sl (.at 51 0 1) 5, .sl (.at 52 0 1) 1], .bool true], heap1⟩
theorem run39x0 : acall Tryz.prog tab39 (drawRegion Tryz.prog) 400 39 e39x0.args e39x0.old (chk e39x0.old.length e39x0.val e39x0.new) = true := by kernel_rfl
def heap2 : H := [.cells [.int .i64 (Int.ofNat 4), .str [(Int.ofNat 97)], .str [(Int.ofNat 107)], .str [(Int.ofNat 118)], .int .i64 (Int.ofNat 0), .int .i64 (Int.ofNat 6), .str [(Int.ofNat 98)], .str [], .str [(Int.ofNat 120)], .int .i64 (Int.ofNat 0)] 5 .own,
    .cells [.int .i64 (Int.ofNat 1), .int .i64 (Int.ofNat 2)] 2 .own,
    .cells [.int .i64 (Int.ofNat 1), .int .i64 (Int.ofNat 2)] 2 .own,
    .cells [.int .i64 (Int.ofNat 3), .sl (.at 11 0 1) 6, .sl (.at 16 0 1) 6] 3 .own,
    .cells [.int .i64 (Int.ofNat 1), .int .i64 (Int.ofNat 2)] 2 .own,
    .cells [.int .i64 (Int.ofNat 4), .str [(Int.ofNat 97)], .str [(Int.ofNat 107)], .str [(Int.ofNat 118)], .int .i64 (Int.ofNat 0)] 5 .own,
    .cells [.int .i64 (Int.ofNat 4), .str [(Int.ofNat 97)], .str [(Int.ofNat 107)], .str [(Int.ofNat 118)], .int .i64 (Int.ofNat 0)] 5 .own,
    .siter [(Int.ofNat 97)] 1,
    .cells [.int .i64 (Int.ofNat 6), .str [(Int.ofNat 98)], .str [], .str [(Int.ofNat 120)], .int .i64 (Int.ofNat 0)] 5 .own,
    .cells [.int .i64 (Int.ofNat 6), .str [(Int.ofNat 98)], .str [], .str [(Int.ofNat 120)], .int .i64 (Int.ofNat 0)] 5 .own,
    .siter [(Int.ofNat 98)] 1,
    .cells [.int .i64 (Int.ofNat 1), .int .i64 (Int.ofNat 2), .int .i64 (Int.ofNat 4), .int .i64 (Int.ofNat 0), .int .i64 (Int.ofNat 6), .int .i64 (Int.ofNat 0)] 1 .multi,
    .cells [.int .i64 (Int.ofNat 3), .sl (.at 11 0 1) 6, .sl (.at 16 0 1) 6] 3 .own,
    .cells [.int .i64 (Int.ofNat 4), .str [(Int.ofNat 97)], .str [(Int.ofNat 107)], .str [(Int.ofNat 118)], .int .i64 (Int.ofNat 0)] 5 .own,
    .cells [.int .i64 (Int.ofNat 4), .int .i64 (Int.ofNat 0)] 1 .own,
    .cells [.str [(Int.ofNat 97)], .str [(Int.ofNat 107)], .str [(Int.ofNat 118)]] 1 .own,
    .cells [.str [(Int.ofNat 97)], .str [(Int.ofNat 107)], .str [(Int.ofNat 118)], .str [(Int.ofNat 98)], .str [], .str [(Int.ofNat 120)]] 1 .multi,
    .cells [.int .i64 (Int.ofNat 6), .str [(Int.ofNat 98)], .str [], .str [(Int.ofNat 120)], .int .i64 (Int.ofNat 0)] 5 .own,
    .cells [.int .i64 (Int.ofNat 6), .int .i64 (Int.ofNat 0)] 1 .own,
    .cells [.str [(Int.ofNat 98)], .str [], .str [(Int.ofNat 120)]] 1 .own,
    .cells [.int .i64 (Int.ofNat 3), .sl (.at 11 0 1) 6, .sl (.at 16 0 1) 6] 3 .own,
    .cells [.int .i64 (Int.ofNat 3), .sl (.at 11 0 1) 6, .sl (.at 16 0 1) 6] 3 .own,
    .cells [.int .i64 (Int.ofNat 1), .int .i64 (Int.ofNat 2)] 2 .own,
    .cells [.int .i64 (Int.ofNat 1), .int .i64 (Int.ofNat 2)] 2 .own,
    .cells [.int .i64 (Int.ofNat 4), .str [(Int.ofNat 97)], .str [(Int.ofNat 107)], .str [(Int.ofNat 118)], .int .i64 (Int.ofNat 0)] 5 .own,
    .dead,
    .cells [.int .i64 (Int.ofNat 6), .str [(Int.ofNat 98)], .str [], .str [(Int.ofNat 120)], .int .i64 (Int.ofNat 0)] 5 .own,
    .cells [.int .i64 (Int.ofNat 4), .str [(Int.ofNat 97)], .str [(Int.ofNat 107)], .str [(Int.ofNat 118)], .int .i64 (Int.ofNat 0), .int .i64 (Int.ofNat 6), .str [(Int.ofNat 98)], .str [], .str [(Int.ofNat 120)], .int .i64 (Int.ofNat 0)] 5 .own,
    .cells [.int .i64 (Int.ofNat 1), .int .i64 (Int.ofNat 2)] 2 .own,
    .cells [.int .i64 (Int.ofNat 3), .sl (.at 37 0 1) 6, .sl (.at 42 0 1) 6] 3 .own,
    .cells [.int .i64 (Int.ofNat 1), .int .i64 (Int.ofNat 2)] 2 .own,
    .cells [.int .i64 (Int.ofNat 4), .str [(Int.ofNat 97)], .str [(Int.ofNat 107)], .str [(Int.ofNat 118)], .int .i64 (Int.ofNat 0)] 5 .own,
    .cells [.int .i64 (Int.ofNat 4), .str [(Int.ofNat 97)], .str [(Int.ofNat 107)], .str [(Int.ofNat 118)], .int .i64 (Int.ofNat 0)] 5 .own,
    .siter [(Int.ofNat 97)] 1,
    .cells [.int .i64 (Int.ofNat 6), .str [(Int.ofNat 98)], .str [], .str [(Int.ofNat 120)], .int .i64 (Int.ofNat 0)] 5 .own,
    .cells [.int .i64 (Int.ofNat 6), .str [(Int.ofNat 98)], .str [], .str [(Int.ofNat 120)], .int .i64 (Int.ofNat 0)] 5 .own,
    .siter [(Int.ofNat 98)] 1,
    .cells [.int .i64 (Int.ofNat 1), .int .i64 (Int.ofNat 2), .int .i64 (Int.ofNat 4), .int .i64 (Int.ofNat 0), .int .i64 (Int.ofNat 6), .int .i64 (Int.ofNat 0)] 1 .multi,
    .cells [.int .i64 (Int.ofNat 3), .sl (.at 37 0 1) 6, .sl (.at 42 0 1) 6] 3 .own,
    .cells [.int .i64 (Int.ofNat 4), .str [(Int.ofNat 97)], .str [(Int.ofNat 107)], .str [(Int.ofNat 118)], .int .i64 (Int.ofNat 0)] 5 .own,
    .cells [.int .i64 (Int.ofNat 4), .int .i64 (Int.ofNat 0)] 1 .own,
    .cells [.str [(Int.ofNat 97)], .str [(Int.ofNat 107)], .str [(Int.ofNat 118)]] 1 .own,
    .cells [.str [(Int.ofNat 97)], .str [(Int.ofNat 107)], .str [(Int.ofNat 118)], .str [(Int.ofNat 98)], .str [], .str [(Int.ofNat 120)]] 1 .multi,
    .cells [.int .i64 (Int.ofNat 6), .str [(Int.ofNat 98)], .str [], .str [(Int.ofNat 120)], .int .i64 (Int.ofNat 0)] 5 .own,
    .cells [.int .i64 (Int.ofNat 6), .int .i64 (Int.ofNat 0)] 1 .own,
    .cells [.str [(Int.ofNat 98)], .str [], .str [(Int.ofNat 120)]] 1 .own,
    .cells [.int .i64 (Int.ofNat 3), .sl (.at 37 0 1) 6, .sl (.at 42 0 1) 6] 3 .own,
    .cells [.int .i64 (Int.ofNat 3), .sl (.at 37 0 1) 6, .sl (.at 42 0 1) 6] 3 .own,
    .cells [.int .i64 (Int.ofNat 3), .sl (.at 11 0 1) 6, .sl (.at 16 0 1) 6] 3 .own,
    .cells [.int .i64 (Int.ofNat 1), .int .i64 (Int.ofNat 2)] 2 .own,
    .cells [.str []] 1 .own,
    .cells [.int .i64 (Int.ofNat 1), .int .i64 (Int.ofNat 2), .int .i64 (Int.ofNat 0), .int .i64 (Int.ofNat 1), .int .i64 (Int.ofNat 3)] 1 .own,
    .cells [.str []] 1 .own,
    .cells [.int .i64 (Int.ofNat 5), .sl (.at 51 0 1) 5, .sl (.at 52 0 1) 1] 3 .own,
    .cells [.int .i64 (Int.ofNat 5), .sl (.at 51 0 1) 5, .sl (.at 52 0 1) 1] 3 .own,
    .cells [.int .i64 (Int.ofNat 0), .int .i64 (Int.ofNat 0), .int .i64 (Int.ofNat 0), .bool false, .int .i64 (Int.ofNat 0), .sl .nil 0] 6 .own,
    .cells [.str []] 1 .own,
    .cells [.int .i64 (Int.ofNat 1), .int .i64 (Int.ofNat 2), .int .i64 (Int.ofNat 0), .bool true, .int .i64 (Int.ofNat 3), .sl (.at 56 0 1) 1] 6 .own]
def heap3 : H := [.cells [.int .i64 (Int.ofNat 4), .str [(Int.ofNat 97)], .str [(Int.ofNat 107)], .str [(Int.ofNat 118)], .int .i64 (Int.ofNat 0), .int .i64 (Int.ofNat 6), .str [(Int.ofNat 98)], .str [], .str [(Int.ofNat 120)], .int .i64 (Int.ofNat 0)] 5 .own,
    .cells [.int .i64 (Int.ofNat 1), .int .i64 (Int.ofNat 2)] 2 .own,
    .cells [.int .i64 (Int.ofNat 1), .int .i64 (Int.ofNat 2)] 2 .own,
    .cells [.int .i64 (Int.ofNat 3), .sl (.at 11 0 1) 6, .sl (.at 16 0 1) 6] 3 .own,
    .cells [.int .i64 (Int.ofNat 1), .int .i64 (Int.ofNat 2)] 2 .own,
    .cells [.int .i64 (Int.ofNat 4), .str [(Int.ofNat 97)], .str [(Int.ofNat 107)], .str [(Int.ofNat 118)], .int .i64 (Int.ofNat 0)] 5 .own,
    .cells [.int .i64 (Int.ofNat 4), .str [(Int.ofNat 97)], .str [(Int.ofNat 107)], .str [(Int.ofNat 118)], .int .i64 (Int.ofNat 0)] 5 .own,
    .siter [(Int.ofNat 97)] 1,
    .cells [.int .i64 (Int.ofNat 6), .str [(Int.ofNat 98)], .str [], .str [(Int.ofNat 120)], .int .i64 (Int.ofNat 0)] 5 .own,
    .cells [.int .i64 (Int.ofNat 6), .str [(Int.ofNat 98)], .str [], .str [(Int.ofNat 120)], .int .i64 (Int.ofNat 0)] 5 .own,
    .siter [(Int.ofNat 98)] 1,
    .cells [.int .i64 (Int.ofNat 1), .int .i64 (Int.ofNat 2), .int .i64 (Int.ofNat 4), .int .i64 (Int.ofNat 0), .int .i64 (Int.ofNat 6), .int .i64 (Int.ofNat 0)] 1 .multi,
    .cells [.int .i64 (Int.ofNat 3), .sl (.at 11 0 1) 6, .sl (.at 16 0 1) 6] 3 .own,
    .cells [.int .i64 (Int.ofNat 4), .str [(Int.ofNat 97)], .str [(Int.ofNat 107)], .str [(Int.ofNat 118)], .int .i64 (Int.ofNat 0)] 5 .own,
    .cells [.int .i64 (Int.ofNat 4), .int .i64 (Int.ofNat 0)] 1 .own,
    .cells [.str [(Int.ofNat 97)], .str [(Int.ofNat 107)], .str [(Int.ofNat 118)]] 1 .own,
    .cells [.str [(Int.ofNat 97)], .str [(Int.ofNat 107)], .str [(Int.ofNat 118)], .str [(Int.ofNat 98)], .str [], .str [(Int.ofNat 120)]] 1 .multi,
    .cells [.int .i64 (Int.ofNat 6), .str [(Int.ofNat 98)], .str [], .str [(Int.ofNat 120)], .int .i64 (Int.ofNat 0)] 5 .own,
    .cells [.int .i64 (Int.ofNat 6), .int .i64 (Int.ofNat 0)] 1 .own,
    .cells [.str [(Int.ofNat 98)], .str [], .str [(Int.ofNat 120)]] 1 .own,
    .cells [.int .i64 (Int.ofNat 3), .sl (.at 11 0 1) 6, .sl (.at 16 0 1) 6] 3 .own,
    .cells [.int .i64 (Int.ofNat 3), .sl (.at 11 0 1) 6, .sl (.at 16 0 1) 6] 3 .own,
    .cells [.int .i64 (Int.ofNat 1), .int .i64 (Int.ofNat 2)] 2 .own,
    .cells [.int .i64 (Int.ofNat 1), .int .i64 (Int.ofNat 2)] 2 .own,
    .cells [.int .i64 (Int.ofNat 4), .str [(Int.ofNat 97)], .str [(Int.ofNat 107)], .str [(Int.ofNat 118)], .int .i64 (Int.ofNat 0)] 5 .own,
    .dead,
    .cells [.int .i64 (Int.ofNat 6), .str [(Int.ofNat 98)], .str [], .str [(Int.ofNat 120)], .int .i64 (Int.ofNat 0)] 5 .own,
    .cells [.int .i64 (Int.ofNat 4), .str [(Int.ofNat 97)], .str [(Int.ofNat 107)], .str [(Int.ofNat 118)], .int .i64 (Int.ofNat 0), .int .i64 (Int.ofNat 6), .str [(Int.ofNat 98)], .str [], .str [(Int.ofNat 120)], .int .i64 (Int.ofNat 0)] 5 .own,
    .cells [.int .i64 (Int.ofNat 1), .int .i64 (Int.ofNat 2)] 2 .own,
    .cells [.int .i64 (Int.ofNat 3), .sl (.at 37 0 1) 6, .sl (.at 42 0 1) 6] 3 .own,
    .cells [.int .i64 (Int.ofNat 1), .int .i64 (Int.ofNat 2)] 2 .own,
    .cells [.int .i64 (Int.ofNat 4), .str [(Int.ofNat 97)], .str [(Int.ofNat 107)], .str [(Int.ofNat 118)], .int .i64 (Int.ofNat 0)] 5 .own,
    .cells [.int .i64 (Int.ofNat 4), .str [(Int.ofNat 97)], .str [(Int.ofNat 107)], .str [(Int.ofNat 118)], .int .i64 (Int.ofNat 0)] 5 .own,
    .siter [(Int.ofNat 97)] 1,
    .cells [.int .i64 (Int.ofNat 6), .str [(Int.ofNat 98)], .str [], .str [(Int.ofNat 120)], .int .i64 (Int.ofNat 0)] 5 .own,
    .cells [.int .i64 (Int.ofNat 6), .str [(Int.ofNat 98)], .str [], .str [(Int.ofNat 120)], .int .i64 (Int.ofNat 0)] 5 .own,
    .siter [(Int.ofNat 98)] 1,
    .cells [.int .i64 (Int.ofNat 1), .int .i64 (Int.ofNat 2), .int .i64 (Int.ofNat 4), .int .i64 (Int.ofNat 0), .int .i64 (Int.ofNat 6), .int .i64 (Int.ofNat 0)] 1 .multi,
    .cells [.int .i64 (Int.ofNat 3), .sl (.at 37 0 1) 6, .sl (.at 42 0 1) 6] 3 .own,
    .cells [.int .i64 (Int.ofNat 4), .str [(Int.ofNat 97)], .str [(Int.ofNat 107)], .str [(Int.ofNat 118)], .int .i64 (Int.ofNat 0)] 5 .own,
    .cells [.int .i64 (Int.ofNat 4), .int .i64 (Int.ofNat 0)] 1 .own,
    .cells [.str [(Int.ofNat 97)], .str [(Int.ofNat 107)], .str [(Int.ofNat 118)]] 1 .own,
    .cells [.str [(Int.ofNat 97)], .str [(Int.ofNat 107)], .str [(Int.ofNat 118)], .str [(Int.ofNat 98)], .str [], .str [(Int.ofNat 120)]] 1 .multi,
    .cells [.int .i64 (Int.ofNat 6), .str [(Int.ofNat 98)], .str [], .str [(Int.ofNat 120)], .int .i64 (Int.ofNat 0)] 5 .own,
    .cells [.int .i64 (Int.ofNat 6), .int .i64 (Int.ofNat 0)] 1 .own,
    .cells [.str [(Int.ofNat 98)], .str [], .str [(Int.ofNat 120)]] 1 .own,
    .cells [.int .i64 (Int.ofNat 3), .sl (.at 37 0 1) 6, .sl (.at 42 0 1) 6] 3 .own,
    .cells [.int .i64 (Int.ofNat 3), .sl (.at 37 0 1) 6, .sl (.at 42 0 1) 6] 3 .own,
    .cells [.int .i64 (Int.ofNat 3), .sl (.at 11 0 1) 6, .sl (.at 16 0 1) 6] 3 .own,
    .cells [.int .i64 (Int.ofNat 1), .int .i64 (Int.ofNat 2)] 2 .own,
    .cells [.str []] 1 .own,
    .cells [.int .i64 (Int.ofNat 1), .int .i64 (Int.ofNat 2), .int .i64 (Int.ofNat 0), .int .i64 (Int.ofNat 1), .int .i64 (Int.ofNat 3)] 1 .own,
    .cells [.str []] 1 .own,
    .cells [.int .i64 (Int.ofNat 5), .sl (.at 51 0 1) 5, .sl (.at 52 0 1) 1] 3 .own,
    .cells [.int .i64 (Int.ofNat 5), .sl (.at 51 0 1) 5, .sl (.at 52 0 1) 1] 3 .own,
    .cells [.int .i64 (Int.ofNat 0), .int .i64 (Int.ofNat 0), .int .i64 (Int.ofNat 0), .bool false, .int .i64 (Int.ofNat 0), .sl .nil 0] 6 .own,
    .cells [.str []] 1 .own,
    .cells [.int .i64 (Int.ofNat 1), .int .i64 (Int.ofNat 2), .int .i64 (Int.ofNat 0), .bool true, .int .i64 (Int.ofNat 3), .sl (.at 56 0 1) 1] 6 .own,
    .cells [.int .i64 (Int.ofNat 1), .int .i64 (Int.ofNat 2), .int .i64 (Int.ofNat 0), .int .i64 (Int.ofNat 1), .int .i64 (Int.ofNat 3)] 1 .own,
    .cells [.str []] 1 .own]
def e39x1 : Ent := ⟨[.agg [.int .i64 (Int.ofNat 1), .int .i64 (Int.ofNat 2), .int .i64 (Int.ofNat 0), .bool true, .int .i64 (Int.ofNat 3), .sl (.at 56 0 1) 1]], heap2, .tup [.agg [.int .i64 (Int.ofNat 5), .sl (.at 58 0 1) 5, .sl (.at 59 0 1) 1], .bool true], heap3⟩
theorem run39x1 : acall Tryz.prog tab39 (drawRegion Tryz.prog) 400 39 e39x1.args e39x1.old (chk e39x1.old.length e39x1.val e39x1.new) = true := by kernel_rfl
def heap4 : H := [.cells [.int .i64 (Int.ofNat 4), .str [(Int.ofNat 97)], .str [(Int.ofNat 107)], .str [(Int.ofNat 118)], .int .i64 (Int.ofNat 0), .int .i64 (Int.ofNat 6), .str [(Int.ofNat 98)], .str [], .str [(Int.ofNat 120)], .int .i64 (Int.ofNat 0)] 5 .own,
    .cells [.int .i64 (Int.ofNat 1), .int .i64 (Int.ofNat 2)] 2 .own,
    .cells [.int .i64 (Int.ofNat 1), .int .i64 (Int.ofNat 2)] 2 .own,
    .cells [.int .i64 (Int.ofNat 3), .sl (.at 11 0 1) 6, .sl (.at 16 0 1) 6] 3 .own,
    .cells [.int .i64 (Int.ofNat 1), .int .i64 (Int.ofNat 2)] 2 .own,
    .cells [.int .i64 (Int.ofNat 4), .str [(Int.ofNat 97)], .str [(Int.ofNat 107)], .str [(Int.ofNat 118)], .int .i64 (Int.ofNat 0)] 5 .own,
    .cells [.int .i64 (Int.ofNat 4), .str [(Int.ofNat 97)], .str [(Int.ofNat 107)], .str [(Int.ofNat 118)], .int .i64 (Int.ofNat 0)] 5 .own,
    .siter [(Int.ofNat 97)] 1,
    .cells [.int .i64 (Int.ofNat 6), .str [(Int.ofNat 98)], .str [], .str [(Int.ofNat 120)], .int .i64 (Int.ofNat 0)] 5 .own,
    .cells [.int .i64 (Int.ofNat 6), .str [(Int.ofNat 98)], .str [], .str [(Int.ofNat 120)], .int .i64 (Int.ofNat 0)] 5 .own,
    .siter [(Int.ofNat 98)] 1,
    .cells [.int .i64 (Int.ofNat 1), .int .i64 (Int.ofNat 2), .int .i64 (Int.ofNat 4), .int .i64 (Int.ofNat 0), .int .i64 (Int.ofNat 6), .int .i64 (Int.ofNat 0)] 1 .multi,
    .cells [.int .i64 (Int.ofNat 3), .sl (.at 11 0 1) 6, .sl (.at 16 0 1) 6] 3 .own,
    .cells [.int .i64 (Int.ofNat 4), .str [(Int.ofNat 97)], .str [(Int.ofNat 107)], .str [(Int.ofNat 118)], .int .i64 (Int.ofNat 0)] 5 .own,
    .cells [.int .i64 (Int.ofNat 4), .int .i64 (Int.ofNat 0)] 1 .own,
    .cells [.str [(Int.ofNat 97)], .str [(Int.ofNat 107)], .str [(Int.ofNat 118)]] 1 .own,
    .cells [.str [(Int.ofNat 97)], .str [(Int.ofNat 107)], .str [(Int.ofNat 118)], .str [(Int.ofNat 98)], .str [], .str [(Int.ofNat 120)]] 1 .multi,
    .cells [.int .i64 (Int.ofNat 6), .str [(Int.ofNat 98)], .str [], .str [(Int.ofNat 120)], .int .i64 (Int.ofNat 0)] 5 .own,
    .cells [.int .i64 (Int.ofNat 6), .int .i64 (Int.ofNat 0)] 1 .own,
    .cells [.str [(Int.ofNat 98)], .str [], .str [(Int.ofNat 120)]] 1 .own,
    .cells [.int .i64 (Int.ofNat 3), .sl (.at 11 0 1) 6, .sl (.at 16 0 1) 6] 3 .own,
    .cells [.int .i64 (Int.ofNat 3), .sl (.at 11 0 1) 6, .sl (.at 16 0 1) 6] 3 .own,
    .cells [.int .i64 (Int.ofNat 1), .int .i64 (Int.ofNat 2)] 2 .own,
    .cells [.int .i64 (Int.ofNat 1), .int .i64 (Int.ofNat 2)] 2 .own,
    .cells [.int .i64 (Int.ofNat 4), .str [(Int.ofNat 97)], .str [(Int.ofNat 107)], .str [(Int.ofNat 118)], .int .i64 (Int.ofNat 0)] 5 .own,
    .dead,
    .cells [.int .i64 (Int.ofNat 6), .str [(Int.ofNat 98)], .str [], .str [(Int.ofNat 120)], .int .i64 (Int.ofNat 0)] 5 .own,
    .cells [.int .i64 (Int.ofNat 4), .str [(Int.ofNat 97)], .str [(Int.ofNat 107)], .str [(Int.ofNat 118)], .int .i64 (Int.ofNat 0), .int .i64 (Int.ofNat 6), .str [(Int.ofNat 98)], .str [], .str [(Int.ofNat 120)], .int .i64 (Int.ofNat 0)] 5 .own,
    .cells [.int .i64 (Int.ofNat 1), .int .i64 (Int.ofNat 2)] 2 .own,
    .cells [.int .i64 (Int.ofNat 3), .sl (.at 37 0 1) 6, .sl (.at 42 0 1) 6] 3 .own,
    .cells [.int .i64 (Int.ofNat 1), .int .i64 (Int.ofNat 2)] 2 .own,
    .cells [.int .i64 (Int.ofNat 4), .str [(Int.ofNat 97)], .str [(Int.ofNat 107)], .str [(Int.ofNat 118)], .int .i64 (Int.ofNat 0)] 5 .own,
    .cells [.int .i64 (Int.ofNat 4), .str [(Int.ofNat 97)], .str [(Int.ofNat 107)], .str [(Int.ofNat 118)], .int .i64 (Int.ofNat 0)] 5 .own,
    .siter [(Int.ofNat 97)] 1,
    .cells [.int .i64 (Int.ofNat 6), .str [(Int.ofNat 98)], .str [], .str [(Int.ofNat 120)], .int .i64 (Int.ofNat 0)] 5 .own,
    .cells [.int .i64 (Int.ofNat 6), .str [(Int.ofNat 98)], .str [], .str [(Int.ofNat 120)], .int .i64 (Int.ofNat 0)] 5 .own,
    .siter [(Int.ofNat 98)] 1,
    .cells [.int .i64 (Int.ofNat 1), .int .i64 (Int.ofNat 2), .int .i64 (Int.ofNat 4), .int .i64 (Int.ofNat 0), .int .i64 (Int.ofNat 6), .int .i64 (Int.ofNat 0)] 1 .multi,
    .cells [.int .i64 (Int.ofNat 3), .sl (.at 37 0 1) 6, .sl (.at 42 0 1) 6] 3 .own,
    .cells [.int .i64 (Int.ofNat 4), .str [(Int.ofNat 97)], .str [(Int.ofNat 107)], .str [(Int.ofNat 118)], .int .i64 (Int.ofNat 0)] 5 .own,
    .cells [.int .i64 (Int.ofNat 4), .int .i64 (Int.ofNat 0)] 1 .own,
    .cells [.str [(Int.ofNat 97)], .str [(Int.ofNat 107)], .str [(Int.ofNat 118)]] 1 .own,
    .cells [.str [(Int.ofNat 97)], .str [(Int.ofNat 107)], .str [(Int.ofNat 118)], .str [(Int.ofNat 98)], .str [], .str [(Int.ofNat 120)]] 1 .multi,
    .cells [.int .i64 (Int.ofNat 6), .str [(Int.ofNat 98)], .str [], .str [(Int.ofNat 120)], .int .i64 (Int.ofNat 0)] 5 .own,
    .cells [.int .i64 (Int.ofNat 6), .int .i64 (Int.ofNat 0)] 1 .own,
    .cells [.str [(Int.ofNat 98)], .str [], .str [(Int.ofNat 120)]] 1 .own,
    .cells [.int .i64 (Int.ofNat 3), .sl (.at 37 0 1) 6, .sl (.at 42 0 1) 6] 3 .own,
    .cells [.int .i64 (Int.ofNat 3), .sl (.at 37 0 1) 6, .sl (.at 42 0 1) 6] 3 .own,
    .cells [.int .i64 (Int.ofNat 3), .sl (.at 11 0 1) 6, .sl (.at 16 0 1) 6] 3 .own,
    .cells [.int .i64 (Int.ofNat 1), .int .i64 (Int.ofNat 2)] 2 .own,
    .cells [.str []] 1 .own,
    .cells [.int .i64 (Int.ofNat 1), .int .i64 (Int.ofNat 2), .int .i64 (Int.ofNat 0), .int .i64 (Int.ofNat 1), .int .i64 (Int.ofNat 3)] 1 .own,
    .cells [.str []] 1 .own,
    .cells [.int .i64 (Int.ofNat 5), .sl (.at 51 0 1) 5, .sl (.at 52 0 1) 1] 3 .own,
    .cells [.int .i64 (Int.ofNat 5), .sl (.at 51 0 1) 5, .sl (.at 52 0 1) 1] 3 .own,
    .cells [.int .i64 (Int.ofNat 0), .int .i64 (Int.ofNat 0), .int .i64 (Int.ofNat 0), .bool false, .int .i64 (Int.ofNat 0), .sl .nil 0] 6 .own,
    .cells [.int .i64 (Int.ofNat 1), .int .i64 (Int.ofNat 2), .int .i64 (Int.ofNat 0), .bool true, .int .i64 (Int.ofNat 3), .sl (.at 57 0 1) 1] 6 .own,
    .cells [.str []] 1 .own]
def heap5 : H := [.cells [.int .i64 (Int.ofNat 4), .str [(Int.ofNat 97)], .str [(Int.ofNat 107)], .str [(Int.ofNat 118)], .int .i64 (Int.ofNat 0), .int .i64 (Int.ofNat 6), .str [(Int.ofNat 98)], .str [], .str [(Int.ofNat 120)], .int .i64 (Int.ofNat 0)] 5 .own,
    .cells [.int .i64 (Int.ofNat 1), .int .i64 (Int.ofNat 2)] 2 .own,
    .cells [.int .i64 (Int.ofNat 1), .int .i64 (Int.ofNat 2)] 2 .own,
    .cells [.int .i64 (Int.ofNat 3), .sl (.at 11 0 1) 6, .sl (.at 16 0 1) 6] 3 .own,
    .cells [.int .i64 (Int.ofNat 1), .int .i64 (Int.ofNat 2)] 2 .own,
    .cells [.int .i64 (Int.ofNat 4), .str [(Int.ofNat 97)], .str [(Int.ofNat 107)], .str [(Int.ofNat 118)], .int .i64 (Int.ofNat 0)] 5 .own,
    .cells [.int .i64 (Int.ofNat 4), .str [(Int.ofNat 97)], .str [(Int.ofNat 107)], .str [(Int.ofNat 118)], .int .i64 (Int.ofNat 0)] 5 .own,
    .siter [(Int.ofNat 97)] 1,
    .cells [.int .i64 (Int.ofNat 6), .str [(Int.ofNat 98)], .str [], .str [(Int.ofNat 120)], .int .i64 (Int.ofNat 0)] 5 .own,
    .cells [.int .i64 (Int.ofNat 6), .str [(Int.ofNat 98)], .str [], .str [(Int.ofNat 120)], .int .i64 (Int.ofNat 0)] 5 .own,
    .siter [(Int.ofNat 98)] 1,
    .cells [.int .i64 (Int.ofNat 1), .int .i64 (Int.ofNat 2), .int .i64 (Int.ofNat 4), .int .i64 (Int.ofNat 0), .int .i64 (Int.ofNat 6), .int .i64 (Int.ofNat 0)] 1 .multi,
    .cells [.int .i64 (Int.ofNat 3), .sl (.at 11 0 1) 6, .sl (.at 16 0 1) 6] 3 .own,
    .cells [.int .i64 (Int.ofNat 4), .str [(Int.ofNat 97)], .str [(Int.ofNat 107)], .str [(Int.ofNat 118)], .int .i64 (Int.ofNat 0)] 5 .own,
    .cells [.int .i64 (Int.ofNat 4), .int .i64 (Int.ofNat 0)] 1 .own,
    .cells [.str [(Int.ofNat 97)], .str [(Int.ofNat 107)], .str [(Int.ofNat 118)]] 1 .own,
    .cells [.str [(Int.ofNat 97)], .str [(Int.ofNat 107)], .str [(Int.ofNat 118)], .str [(Int.ofNat 98)], .str [], .str [(Int.ofNat 120)]] 1 .multi,
    .cells [.int .i64 (Int.ofNat 6), .str [(Int.ofNat 98)], .str [], .str [(Int.ofNat 120)], .int .i64 (Int.ofNat 0)] 5 .own,
    .cells [.int .i64 (Int.ofNat 6), .int .i64 (Int.ofNat 0)] 1 .own,
    .cells [.str [(Int.ofNat 98)], .str [], .str [(Int.ofNat 120)]] 1 .own,
    .cells [.int .i64 (Int.ofNat 3), .sl (.at 11 0 1) 6, .sl (.at 16 0 1) 6] 3 .own,
    .cells [.int .i64 (Int.ofNat 3), .sl (.at 11 0 1) 6, .sl (.at 16 0 1) 6] 3 .own,
    .cells [.int .i64 (Int.ofNat 1), .int .i64 (Int.ofNat 2)] 2 .own,
    .cells [.int .i64 (Int.ofNat 1), .int .i64 (Int.ofNat 2)] 2 .own,
    .cells [.int .i64 (Int.ofNat 4), .str [(Int.ofNat 97)], .str [(Int.ofNat 107)], .str [(Int.ofNat 118)], .int .i64 (Int.ofNat 0)] 5 .own,
    .dead,
    .cells [.int .i64 (Int.ofNat 6), .str [(Int.ofNat 98)], .str [], .str [(Int.ofNat 120)], .int .i64 (Int.ofNat 0)] 5 .own,
    .cells [.int .i64 (Int.ofNat 4), .str [(Int.ofNat 97)], .str [(Int.ofNat 107)], .str [(Int.ofNat 118)], .int .i64 (Int.ofNat 0), .int .i64 (Int.ofNat 6), .str [(Int.ofNat 98)], .str [], .str [(Int.ofNat 120)], .int .i64 (Int.ofNat 0)] 5 .own,
    .cells [.int .i64 (Int.ofNat 1), .int .i64 (Int.ofNat 2)] 2 .own,
    .cells [.int .i64 (Int.ofNat 3), .sl (.at 37 0 1) 6, .sl (.at 42 0 1) 6] 3 .own,
    .cells [.int .i64 (Int.ofNat 1), .int .i64 (Int.ofNat 2)] 2 .own,
    .cells [.int .i64 (Int.ofNat 4), .str [(Int.ofNat 97)], .str [(Int.ofNat 107)], .str [(Int.ofNat 118)], .int .i64 (Int.ofNat 0)] 5 .own,
    .cells [.int .i64 (Int.ofNat 4), .str [(Int.ofNat 97)], .str [(Int.ofNat 107)], .str [(Int.ofNat 118)], .int .i64 (Int.ofNat 0)] 5 .own,
    .siter [(Int.ofNat 97)] 1,
    .cells [.int .i64 (Int.ofNat 6), .str [(Int.ofNat 98)], .str [], .str [(Int.ofNat 120)], .int .i64 (Int.ofNat 0)] 5 .own,
    .cells [.int .i64 (Int.ofNat 6), .str [(Int.ofNat 98)], .str [], .str [(Int.ofNat 120)], .int .i64 (Int.ofNat 0)] 5 .own,
    .siter [(Int.ofNat 98)] 1,
    .cells [.int .i64 (Int.ofNat 1), .int .i64 (Int.ofNat 2), .int .i64 (Int.ofNat 4), .int .i64 (Int.ofNat 0), .int .i64 (Int.ofNat 6), .int .i64 (Int.ofNat 0)] 1 .multi,
    .cells [.int .i64 (Int.ofNat 3), .sl (.at 37 0 1) 6, .sl (.at 42 0 1) 6] 3 .own,
    .cells [.int .i64 (Int.ofNat 4), .str [(Int.ofNat 97)], .str [(Int.ofNat 107)], .str [(Int.ofNat 118)], .int .i64 (Int.ofNat 0)] 5 .own,
    .cells [.int .i64 (Int.ofNat 4), .int .i64 (Int.ofNat 0)] 1 .own,
    .cells [.str [(Int.ofNat 97)], .str [(Int.ofNat 107)], .str [(Int.ofNat 118)]] 1 .own,
    .cells [.str [(Int.ofNat 97)], .str [(Int.ofNat 107)], .str [(Int.ofNat 118)], .str [(Int.ofNat 98)], .str [], .str [(Int.ofNat 120)]] 1 .multi,
    .cells [.int .i64 (Int.ofNat 6), .str [(Int.ofNat 98)], .str [], .str [(Int.ofNat 120)], .int .i64 (Int.ofNat 0)] 5 .own,
    .cells [.int .i64 (Int.ofNat 6), .int .i64 (Int.ofNat 0)] 1 .own,
    .cells [.str [(Int.ofNat 98)], .str [], .str [(Int.ofNat 120)]] 1 .own,
    .cells [.int .i64 (Int.ofNat 3), .sl (.at 37 0 1) 6, .sl (.at 42 0 1) 6] 3 .own,
    .cells [.int .i64 (Int.ofNat 3), .sl (.at 37 0 1) 6, .sl (.at 42 0 1) 6] 3 .own,
    .cells [.int .i64 (Int.ofNat 3), .sl (.at 11 0 1) 6, .sl (.at 16 0 1) 6] 3 .own,
    .cells [.int .i64 (Int.ofNat 1), .int .i64 (Int.ofNat 2)] 2 .own,
    .cells [.str []] 1 .own,
    .cells [.int .i64 (Int.ofNat 1), .int .i64 (Int.ofNat 2), .int .i64 (Int.ofNat 0), .int .i64 (Int.ofNat 1), .int .i64 (Int.ofNat 3)] 1 .own,
    .cells [.str []] 1 .own,
    .cells [.int .i64 (Int.ofNat 5), .sl (.at 51 0 1) 5, .sl (.at 52 0 1) 1] 3 .own,
    .cells [.int .i64 (Int.ofNat 5), .sl (.at 51 0 1) 5, .sl (.at 52 0 1) 1] 3 .own,
    .cells [.int .i64 (Int.ofNat 0), .int .i64 (Int.ofNat 0), .int .i64 (Int.ofNat 0), .bool false, .int .i64 (Int.ofNat 0), .sl .nil 0] 6 .own,
    .cells [.int .i64 (Int.ofNat 1), .int .i64 (Int.ofNat 2), .int .i64 (Int.ofNat 0), .bool true, .int .i64 (Int.ofNat 3), .sl (.at 57 0 1) 1] 6 .own,
    .cells [.str []] 1 .own,
    .cells [.int .i64 (Int.ofNat 1), .int .i64 (Int.ofNat 2), .int .i64 (Int.ofNat 0), .int .i64 (Int.ofNat 1), .int .i64 (Int.ofNat 3)] 1 .own,
    .cells [.str []] 1 .own]
def e39x2 : Ent := ⟨[.agg [.int .i64 (Int.ofNat 1), .int .i64 (Int.ofNat 2), .int .i64 (Int.ofNat 0), .bool true, .int .i64 (Int.ofNat 3), .sl (.at 57 0 1) 1]], heap4, .tup [.agg [.int .i64 (Int.ofNat 5), .sl (.at 58 0 1) 5, .sl (.at 59 0 1) 1], .bool true], heap5⟩
theorem run39x2 : acall Tryz.prog tab39 (drawRegion Tryz.prog) 400 39 e39x2.args e39x2.old (chk e39x2.old.length e39x2.val e39x2.new) = true := by kernel_rfl
def es39 : List Ent := [e39x0, e39x1, e39x2]
theorem ok39 : ∀ e ∈ es39, EntOK Tryz.prog tab39 39 e := fun e h => by
  unfold es39 at h
  rcases List.mem_cons.1 h with rfl | h
  · exact ⟨400, run39x0⟩
  rcases List.mem_cons.1 h with rfl | h
  · exact ⟨400, run39x1⟩
  rcases List.mem_cons.1 h with rfl | h
  · exact ⟨400, run39x2⟩
  cases h
theorem con39 : SoundAt Tryz.prog 39 (entF es39) := ent_sound tab39OK L1.mix L1.noCount ok39
def tab40 : Tab := ⟨fun g => bif Nat.beq g 46 then some (closedF) else bif Nat.beq g 39 then some (entF es39) else none, fun _ _ => 0⟩
theorem tab40OK : TabOK Tryz.prog tab40 := fun g F h => by
  unfold tab40 at h
  simp only at h
  cases hq : Nat.beq g 46 with
  | true =>
    rw [hq] at h
    obtain rfl := Nat.eq_of_beq_eq_true hq
    obtain rfl := (Option.some.inj h).symm
    exact L1.closed46
  | false =>
    rw [hq] at h
    clear hq
    cases hq : Nat.beq g 39 with
    | true =>
      rw [hq] at h
      obtain rfl := Nat.eq_of_beq_eq_true hq
      obtain rfl := (Option.some.inj h).symm
      exact con39
    | false =>
      rw [hq] at h
      clear hq
      cases h
def heap6 : H := [.cells [.int .i64 (Int.ofNat 4), .str [(Int.ofNat 97)], .str [(Int.ofNat 107)], .str [(Int.ofNat 118)], .int .i64 (Int.ofNat 0), .int .i64 (Int.ofNat 6), .str [(Int.ofNat 98)], .str [], .str [(Int.ofNat 120)], .int .i64 (Int.ofNat 0)] 5 .own,
    .cells [.int .i64 (Int.ofNat 1), .int .i64 (Int.ofNat 2)] 2 .own,
    .cells [.int .i64 (Int.ofNat 1), .int .i64 (Int.ofNat 2)] 2 .own,
    .cells [.int .i64 (Int.ofNat 3), .sl (.at 11 0 1) 6, .sl (.at 16 0 1) 6] 3 .own,
    .cells [.int .i64 (Int.ofNat 1), .int .i64 (Int.ofNat 2)] 2 .own,
    .cells [.int .i64 (Int.ofNat 4), .str [(Int.ofNat 97)], .str [(Int.ofNat 107)], .str [(Int.ofNat 118)], .int .i64 (Int.ofNat 0)] 5 .own,
    .cells [.int .i64 (Int.ofNat 4), .str [(Int.ofNat 97)], .str [(Int.ofNat 107)], .str [(Int.ofNat 118)], .int .i64 (Int.ofNat 0)] 5 .own,
    .siter [(Int.ofNat 97)] 1,
    .cells [.int .i64 (Int.ofNat 6), .str [(Int.ofNat 98)], .str [], .str [(Int.ofNat 120)], .int .i64 (Int.ofNat 0)] 5 .own,
    .cells [.int .i64 (Int.ofNat 6), .str [(Int.ofNat 98)], .str [], .str [(Int.ofNat 120)], .int .i64 (Int.ofNat 0)] 5 .own,
    .siter [(Int.ofNat 98)] 1,
    .cells [.int .i64 (Int.ofNat 1), .int .i64 (Int.ofNat 2), .int .i64 (Int.ofNat 4), .int .i64 (Int.ofNat 0), .int .i64 (Int.ofNat 6), .int .i64 (Int.ofNat 0)] 1 .multi,
    .cells [.int .i64 (Int.ofNat 3), .sl (.at 11 0 1) 6, .sl (.at 16 0 1) 6] 3 .own,
    .cells [.int .i64 (Int.ofNat 4), .str [(Int.ofNat 97)], .str [(Int.ofNat 107)], .str [(Int.ofNat 118)], .int .i64 (Int.ofNat 0)] 5 .own,
    .cells [.int .i64 (Int.ofNat 4), .int .i64 (Int.ofNat 0)] 1 .own,
    .cells [.str [(Int.ofNat 97)], .str [(Int.ofNat 107)], .str [(Int.ofNat 118)]] 1 .own,
    .cells [.str [(Int.ofNat 97)], .str [(Int.ofNat 107)], .str [(Int.ofNat 118)], .str [(Int.ofNat 98)], .str [], .str [(Int.ofNat 120)]] 1 .multi,
    .cells [.int .i64 (Int.ofNat 6), .str [(Int.ofNat 98)], .str [], .str [(Int.ofNat 120)], .int .i64 (Int.ofNat 0)] 5 .own,
    .cells [.int .i64 (Int.ofNat 6), .int .i64 (Int.ofNat 0)] 1 .own,
    .cells [.str [(Int.ofNat 98)], .str [], .str [(Int.ofNat 120)]] 1 .own,
    .cells [.int .i64 (Int.ofNat 3), .sl (.at 11 0 1) 6, .sl (.at 16 0 1) 6] 3 .own,
    .cells [.int .i64 (Int.ofNat 3), .sl (.at 11 0 1) 6, .sl (.at 16 0 1) 6] 3 .own,
    .cells [.int .i64 (Int.ofNat 1), .int .i64 (Int.ofNat 2)] 2 .own,
    .cells [.int .i64 (Int.ofNat 1), .int .i64 (Int.ofNat 2)] 2 .own,
    .cells [.int .i64 (Int.ofNat 4), .str [(Int.ofNat 97)], .str [(Int.ofNat 107)], .str [(Int.ofNat 118)], .int .i64 (Int.ofNat 0)] 5 .own,
    .dead,
    .cells [.int .i64 (Int.ofNat 6), .str [(Int.ofNat 98)], .str [], .str [(Int.ofNat 120)], .int .i64 (Int.ofNat 0)] 5 .own,
    .cells [.int .i64 (Int.ofNat 4), .str [(Int.ofNat 97)], .str [(Int.ofNat 107)], .str [(Int.ofNat 118)], .int .i64 (Int.ofNat 0), .int .i64 (Int.ofNat 6), .str [(Int.ofNat 98)], .str [], .str [(Int.ofNat 120)], .int .i64 (Int.ofNat 0)] 5 .own,
    .cells [.int .i64 (Int.ofNat 1), .int .i64 (Int.ofNat 2)] 2 .own,
    .cells [.int .i64 (Int.ofNat 3), .sl (.at 37 0 1) 6, .sl (.at 42 0 1) 6] 3 .own,
    .cells [.int .i64 (Int.ofNat 1), .int .i64 (Int.ofNat 2)] 2 .own,
    .cells [.int .i64 (Int.ofNat 4), .str [(Int.ofNat 97)], .str [(Int.ofNat 107)], .str [(Int.ofNat 118)], .int .i64 (Int.ofNat 0)] 5 .own,
    .cells [.int .i64 (Int.ofNat 4), .str [(Int.ofNat 97)], .str [(Int.ofNat 107)], .str [(Int.ofNat 118)], .int .i64 (Int.ofNat 0)] 5 .own,
    .siter [(Int.ofNat 97)] 1,
    .cells [.int .i64 (Int.ofNat 6), .str [(Int.ofNat 98)], .str [], .str [(Int.ofNat 120)], .int .i64 (Int.ofNat 0)] 5 .own,
    .cells [.int .i64 (Int.ofNat 6), .str [(Int.ofNat 98)], .str [], .str [(Int.ofNat 120)], .int .i64 (Int.ofNat 0)] 5 .own,
    .siter [(Int.ofNat 98)] 1,
    .cells [.int .i64 (Int.ofNat 1), .int .i64 (Int.ofNat 2), .int .i64 (Int.ofNat 4), .int .i64 (Int.ofNat 0), .int .i64 (Int.ofNat 6), .int .i64 (Int.ofNat 0)] 1 .multi,
    .cells [.int .i64 (Int.ofNat 3), .sl (.at 37 0 1) 6, .sl (.at 42 0 1) 6] 3 .own,
    .cells [.int .i64 (Int.ofNat 4), .str [(Int.ofNat 97)], .str [(Int.ofNat 107)], .str [(Int.ofNat 118)], .int .i64 (Int.ofNat 0)] 5 .own,
    .cells [.int .i64 (Int.ofNat 4), .int .i64 (Int.ofNat 0)] 1 .own,
    .cells [.str [(Int.ofNat 97)], .str [(Int.ofNat 107)], .str [(Int.ofNat 118)]] 1 .own,
    .cells [.str [(Int.ofNat 97)], .str [(Int.ofNat 107)], .str [(Int.ofNat 118)], .str [(Int.ofNat 98)], .str [], .str [(Int.ofNat 120)]] 1 .multi,
    .cells [.int .i64 (Int.ofNat 6), .str [(Int.ofNat 98)], .str [], .str [(Int.ofNat 120)], .int .i64 (Int.ofNat 0)] 5 .own,
    .cells [.int .i64 (Int.ofNat 6), .int .i64 (Int.ofNat 0)] 1 .own,
    .cells [.str [(Int.ofNat 98)], .str [], .str [(Int.ofNat 120)]] 1 .own,
    .cells [.int .i64 (Int.ofNat 3), .sl (.at 37 0 1) 6, .sl (.at 42 0 1) 6] 3 .own,
    .cells [.int .i64 (Int.ofNat 3), .sl (.at 37 0 1) 6, .sl (.at 42 0 1) 6] 3 .own,
    .cells [.int .i64 (Int.ofNat 3), .sl (.at 11 0 1) 6, .sl (.at 16 0 1) 6] 3 .own,
    .cells [.int .i64 (Int.ofNat 1), .int .i64 (Int.ofNat 2)] 2 .own,
    .cells [.str []] 1 .own,
    .cells [.int .i64 (Int.ofNat 1), .int .i64 (Int.ofNat 2), .int .i64 (Int.ofNat 0), .int .i64 (Int.ofNat 1), .int .i64 (Int.ofNat 3)] 1 .own,
    .cells [.str []] 1 .own,
    .cells [.int .i64 (Int.ofNat 5), .sl (.at 51 0 1) 5, .sl (.at 52 0 1) 1] 3 .own]
def heap7 : H := [.cells [.int .i64 (Int.ofNat 4), .str [(Int.ofNat 97)], .str [(Int.ofNat 107)], .str [(Int.ofNat 118)], .int .i64 (Int.ofNat 0), .int .i64 (Int.ofNat 6), .str [(Int.ofNat 98)], .str [], .str [(Int.ofNat 120)], .int .i64 (Int.ofNat 0)] 5 .own,
    .cells [.int .i64 (Int.ofNat 1), .int .i64 (Int.ofNat 2)] 2 .own,
    .cells [.int .i64 (Int.ofNat 1), .int .i64 (Int.ofNat 2)] 2 .own,
    .cells [.int .i64 (Int.ofNat 3), .sl (.at 11 0 1) 6, .sl (.at 16 0 1) 6] 3 .own,
    .cells [.int .i64 (Int.ofNat 1), .int .i64 (Int.ofNat 2)] 2 .own,
    .cells [.int .i64 (Int.ofNat 4), .str [(Int.ofNat 97)], .str [(Int.ofNat 107)], .str [(Int.ofNat 118)], .int .i64 (Int.ofNat 0)] 5 .own,
    .cells [.int .i64 (Int.ofNat 4), .str [(Int.ofNat 97)], .str [(Int.ofNat 107)], .str [(Int.ofNat 118)], .int .i64 (Int.ofNat 0)] 5 .own,
    .siter [(Int.ofNat 97)] 1,
    .cells [.int .i64 (Int.ofNat 6), .str [(Int.ofNat 98)], .str [], .str [(Int.ofNat 120)], .int .i64 (Int.ofNat 0)] 5 .own,
    .cells [.int .i64 (Int.ofNat 6), .str [(Int.ofNat 98)], .str [], .str [(Int.ofNat 120)], .int .i64 (Int.ofNat 0)] 5 .own,
    .siter [(Int.ofNat 98)] 1,
    .cells [.int .i64 (Int.ofNat 1), .int .i64 (Int.ofNat 2), .int .i64 (Int.ofNat 4), .int .i64 (Int.ofNat 0), .int .i64 (Int.ofNat 6), .int .i64 (Int.ofNat 0)] 1 .multi,
    .cells [.int .i64 (Int.ofNat 3), .sl (.at 11 0 1) 6, .sl (.at 16 0 1) 6] 3 .own,
    .cells [.int .i64 (Int.ofNat 4), .str [(Int.ofNat 97)], .str [(Int.ofNat 107)], .str [(Int.ofNat 118)], .int .i64 (Int.ofNat 0)] 5 .own,
    .cells [.int .i64 (Int.ofNat 4), .int .i64 (Int.ofNat 0)] 1 .own,
    .cells [.str [(Int.ofNat 97)], .str [(Int.ofNat 107)], .str [(Int.ofNat 118)]] 1 .own,
    .cells [.str [(Int.ofNat 97)], .str [(Int.ofNat 107)], .str [(Int.ofNat 118)], .str [(Int.ofNat 98)], .str [], .str [(Int.ofNat 120)]] 1 .multi,
    .cells [.int .i64 (Int.ofNat 6), .str [(Int.ofNat 98)], .str [], .str [(Int.ofNat 120)], .int .i64 (Int.ofNat 0)] 5 .own,
    .cells [.int .i64 (Int.ofNat 6), .int .i64 (Int.ofNat 0)] 1 .own,
    .cells [.str [(Int.ofNat 98)], .str [], .str [(Int.ofNat 120)]] 1 .own,
    .cells [.int .i64 (Int.ofNat 3), .sl (.at 11 0 1) 6, .sl (.at 16 0 1) 6] 3 .own,
    .cells [.int .i64 (Int.ofNat 3), .sl (.at 11 0 1) 6, .sl (.at 16 0 1) 6] 3 .own,
    .cells [.int .i64 (Int.ofNat 1), .int .i64 (Int.ofNat 2)] 2 .own,
    .cells [.int .i64 (Int.ofNat 1), .int .i64 (Int.ofNat 2)] 2 .own,
    .cells [.int .i64 (Int.ofNat 4), .str [(Int.ofNat 97)], .str [(Int.ofNat 107)], .str [(Int.ofNat 118)], .int .i64 (Int.ofNat 0)] 5 .own,
    .dead,
    .cells [.int .i64 (Int.ofNat 6), .str [(Int.ofNat 98)], .str [], .str [(Int.ofNat 120)], .int .i64 (Int.ofNat 0)] 5 .own,
    .cells [.int .i64 (Int.ofNat 4), .str [(Int.ofNat 97)], .str [(Int.ofNat 107)], .str [(Int.ofNat 118)], .int .i64 (Int.ofNat 0), .int .i64 (Int.ofNat 6), .str [(Int.ofNat 98)], .str [], .str [(Int.ofNat 120)], .int .i64 (Int.ofNat 0)] 5 .own,
    .cells [.int .i64 (Int.ofNat 1), .int .i64 (Int.ofNat 2)] 2 .own,
    .cells [.int .i64 (Int.ofNat 3), .sl (.at 37 0 1) 6, .sl (.at 42 0 1) 6] 3 .own,
    .cells [.int .i64 (Int.ofNat 1), .int .i64 (Int.ofNat 2)] 2 .own,
    .cells [.int .i64 (Int.ofNat 4), .str [(Int.ofNat 97)], .str [(Int.ofNat 107)], .str [(Int.ofNat 118)], .int .i64 (Int.ofNat 0)] 5 .own,
    .cells [.int .i64 (Int.ofNat 4), .str [(Int.ofNat 97)], .str [(Int.ofNat 107)], .str [(Int.ofNat 118)], .int .i64 (Int.ofNat 0)] 5 .own,
    .siter [(Int.ofNat 97)] 1,
    .cells [.int .i64 (Int.ofNat 6), .str [(Int.ofNat 98)], .str [], .str [(Int.ofNat 120)], .int .i64 (Int.ofNat 0)] 5 .own,
    .cells [.int .i64 (Int.ofNat 6), .str [(Int.ofNat 98)], .str [], .str [(Int.ofNat 120)], .int .i64 (Int.ofNat 0)] 5 .own,
    .siter [(Int.ofNat 98)] 1,
    .cells [.int .i64 (Int.ofNat 1), .int .i64 (Int.ofNat 2), .int .i64 (Int.ofNat 4), .int .i64 (Int.ofNat 0), .int .i64 (Int.ofNat 6), .int .i64 (Int.ofNat 0)] 1 .multi,
    .cells [.int .i64 (Int.ofNat 3), .sl (.at 37 0 1) 6, .sl (.at 42 0 1) 6] 3 .own,
    .cells [.int .i64 (Int.ofNat 4), .str [(Int.ofNat 97)], .str [(Int.ofNat 107)], .str [(Int.ofNat 118)], .int .i64 (Int.ofNat 0)] 5 .own,
    .cells [.int .i64 (Int.ofNat 4), .int .i64 (Int.ofNat 0)] 1 .own,
    .cells [.str [(Int.ofNat 97)], .str [(Int.ofNat 107)], .str [(Int.ofNat 118)]] 1 .own,
    .cells [.str [(Int.ofNat 97)], .str [(Int.ofNat 107)], .str [(Int.ofNat 118)], .str [(Int.ofNat 98)], .str [], .str [(Int.ofNat 120)]] 1 .multi,
    .cells [.int .i64 (Int.ofNat 6), .str [(Int.ofNat 98)], .str [], .str [(Int.ofNat 120)], .int .i64 (Int.ofNat 0)] 5 .own,
    .cells [.int .i64 (Int.ofNat 6), .int .i64 (Int.ofNat 0)] 1 .own,
    .cells [.str [(Int.ofNat 98)], .str [], .str [(Int.ofNat 120)]] 1 .own,
    .cells [.int .i64 (Int.ofNat 3), .sl (.at 37 0 1) 6, .sl (.at 42 0 1) 6] 3 .own,
    .cells [.int .i64 (Int.ofNat 3), .sl (.at 37 0 1) 6, .sl (.at 42 0 1) 6] 3 .own,
    .cells [.int .i64 (Int.ofNat 3), .sl (.at 11 0 1) 6, .sl (.at 16 0 1) 6] 3 .own,
    .cells [.int .i64 (Int.ofNat 1), .int .i64 (Int.ofNat 2)] 2 .own,
    .cells [.str []] 1 .own,
    .cells [.int .i64 (Int.ofNat 1), .int .i64 (Int.ofNat 2), .int .i64 (Int.ofNat 0), .int .i64 (Int.ofNat 1), .int .i64 (Int.ofNat 3)] 1 .own,
    .cells [.str []] 1 .own,
    .cells [.int .i64 (Int.ofNat 5), .sl (.at 51 0 1) 5, .sl (.at 52 0 1) 1] 3 .own,
    .cells [.str []] 1 .own]
def e40x0 : Ent := ⟨[.agg [.int .i64 (Int.ofNat 5), .sl (.at 51 0 1) 5, .sl (.at 52 0 1) 1]], heap6, .tup [.agg [.int .i64 (Int.ofNat 1), .int .i64 (Int.ofNat 2), .int .i64 (Int.ofNat 0), .bool true, .int .i64 (Int.ofNat 3), .sl (.at 54 0 1) 1], .bool true], heap7⟩
theorem run40x0 : acall Tryz.prog tab40 (drawRegion Tryz.prog) 400 40 e40x0.args e40x0.old (chk e40x0.old.length e40x0.val e40x0.new) = true := by kernel_rfl
def es40 : List Ent := [e40x0]
theorem ok40 : ∀ e ∈ es40, EntOK Tryz.prog tab40 40 e := fun e h => by
  unfold es40 at h
  rcases List.mem_cons.1 h with rfl | h
  · exact ⟨400, run40x0⟩
  cases h
theorem con40 : SoundAt Tryz.prog 40 (entF es40) := ent_sound tab40OK L1.mix L1.noCount ok40
def tab45 : Tab := ⟨fun g => bif Nat.beq g 46 then some (closedF) else bif Nat.beq g 39 then some (entF es39) else bif Nat.beq g 40 then some (entF es40) else none, fun _ _ => 0⟩
theorem tab45OK : TabOK Tryz.prog tab45 := fun g F h => by
  unfold tab45 at h
  simp only at h
  cases hq : Nat.beq g 46 with
  | true =>
    rw [hq] at h
    obtain rfl := Nat.eq_of_beq_eq_true hq
    obtain rfl := (Option.some.inj h).symm
    exact L1.closed46
  | false =>
    rw [hq] at h
    clear hq
    cases hq : Nat.beq g 39 with
    | true =>
      rw [hq] at h
      obtain rfl := Nat.eq_of_beq_eq_true hq
      obtain rfl := (Option.some.inj h).symm
      exact con39
    | false =>
      rw [hq] at h
      clear hq
      cases hq : Nat.beq g 40 with
      | true =>
        rw [hq] at h
        obtain rfl := Nat.eq_of_beq_eq_true hq
        obtain rfl := (Option.some.inj h).symm
        exact con40
      | false =>
        rw [hq] at h
        clear hq
        cases h
def heap8 : H := [.cells [.int .i64 (Int.ofNat 4), .str [(Int.ofNat 97)], .str [(Int.ofNat 107)], .str [(Int.ofNat 118)], .int .i64 (Int.ofNat 0), .int .i64 (Int.ofNat 6), .str [(Int.ofNat 98)], .str [], .str [(Int.ofNat 120)], .int .i64 (Int.ofNat 0)] 5 .own,
    .cells [.int .i64 (Int.ofNat 1), .int .i64 (Int.ofNat 2)] 2 .own,
    .cells [.int .i64 (Int.ofNat 1), .int .i64 (Int.ofNat 2)] 2 .own,
    .cells [.int .i64 (Int.ofNat 3), .sl (.at 11 0 1) 6, .sl (.at 16 0 1) 6] 3 .own,
    .cells [.int .i64 (Int.ofNat 1), .int .i64 (Int.ofNat 2)] 2 .own,
    .cells [.int .i64 (Int.ofNat 4), .str [(Int.ofNat 97)], .str [(Int.ofNat 107)], .str [(Int.ofNat 118)], .int .i64 (Int.ofNat 0)] 5 .own,
    .cells [.int .i64 (Int.ofNat 4), .str [(Int.ofNat 97)], .str [(Int.ofNat 107)], .str [(Int.ofNat 118)], .int .i64 (Int.ofNat 0)] 5 .own,
    .siter [(Int.ofNat 97)] 1,
    .cells [.int .i64 (Int.ofNat 6), .str [(Int.ofNat 98)], .str [], .str [(Int.ofNat 120)], .int .i64 (Int.ofNat 0)] 5 .own,
    .cells [.int .i64 (Int.ofNat 6), .str [(Int.ofNat 98)], .str [], .str [(Int.ofNat 120)], .int .i64 (Int.ofNat 0)] 5 .own,
    .siter [(Int.ofNat 98)] 1,
    .cells [.int .i64 (Int.ofNat 1), .int .i64 (Int.ofNat 2), .int .i64 (Int.ofNat 4), .int .i64 (Int.ofNat 0), .int .i64 (Int.ofNat 6), .int .i64 (Int.ofNat 0)] 1 .multi,
    .cells [.int .i64 (Int.ofNat 3), .sl (.at 11 0 1) 6, .sl (.at 16 0 1) 6] 3 .own,
    .cells [.int .i64 (Int.ofNat 4), .str [(Int.ofNat 97)], .str [(Int.ofNat 107)], .str [(Int.ofNat 118)], .int .i64 (Int.ofNat 0)] 5 .own,
    .cells [.int .i64 (Int.ofNat 4), .int .i64 (Int.ofNat 0)] 1 .own,
    .cells [.str [(Int.ofNat 97)], .str [(Int.ofNat 107)], .str [(Int.ofNat 118)]] 1 .own,
    .cells [.str [(Int.ofNat 97)], .str [(Int.ofNat 107)], .str [(Int.ofNat 118)], .str [(Int.ofNat 98)], .str [], .str [(Int.ofNat 120)]] 1 .multi,
    .cells [.int .i64 (Int.ofNat 6), .str [(Int.ofNat 98)], .str [], .str [(Int.ofNat 120)], .int .i64 (Int.ofNat 0)] 5 .own,
    .cells [.int .i64 (Int.ofNat 6), .int .i64 (Int.ofNat 0)] 1 .own,
    .cells [.str [(Int.ofNat 98)], .str [], .str [(Int.ofNat 120)]] 1 .own,
    .cells [.int .i64 (Int.ofNat 3), .sl (.at 11 0 1) 6, .sl (.at 16 0 1) 6] 3 .own,
    .cells [.int .i64 (Int.ofNat 3), .sl (.at 11 0 1) 6, .sl (.at 16 0 1) 6] 3 .own,
    .cells [.int .i64 (Int.ofNat 1), .int .i64 (Int.ofNat 2)] 2 .own,
    .cells [.int .i64 (Int.ofNat 1), .int .i64 (Int.ofNat 2)] 2 .own,
    .cells [.int .i64 (Int.ofNat 4), .str [(Int.ofNat 97)], .str [(Int.ofNat 107)], .str [(Int.ofNat 118)], .int .i64 (Int.ofNat 0)] 5 .own,
    .dead,
    .cells [.int .i64 (Int.ofNat 6), .str [(Int.ofNat 98)], .str [], .str [(Int.ofNat 120)], .int .i64 (Int.ofNat 0)] 5 .own,
    .cells [.int .i64 (Int.ofNat 4), .str [(Int.ofNat 97)], .str [(Int.ofNat 107)], .str [(Int.ofNat 118)], .int .i64 (Int.ofNat 0), .int .i64 (Int.ofNat 6), .str [(Int.ofNat 98)], .str [], .str [(Int.ofNat 120)], .int .i64 (Int.ofNat 0)] 5 .own,
    .cells [.int .i64 (Int.ofNat 1), .int .i64 (Int.ofNat 2)] 2 .own,
    .cells [.int .i64 (Int.ofNat 3), .sl (.at 37 0 1) 6, .sl (.at 42 0 1) 6] 3 .own,
    .cells [.int .i64 (Int.ofNat 1), .int .i64 (Int.ofNat 2)] 2 .own,
    .cells [.int .i64 (Int.ofNat 4), .str [(Int.ofNat 97)], .str [(Int.ofNat 107)], .str [(Int.ofNat 118)], .int .i64 (Int.ofNat 0)] 5 .own,
    .cells [.int .i64 (Int.ofNat 4), .str [(Int.ofNat 97)], .str [(Int.ofNat 107)], .str [(Int.ofNat 118)], .int .i64 (Int.ofNat 0)] 5 .own,
    .siter [(Int.ofNat 97)] 1,
    .cells [.int .i64 (Int.ofNat 6), .str [(Int.ofNat 98)], .str [], .str [(Int.ofNat 120)], .int .i64 (Int.ofNat 0)] 5 .own,
    .cells [.int .i64 (Int.ofNat 6), .str [(Int.ofNat 98)], .str [], .str [(Int.ofNat 120)], .int .i64 (Int.ofNat 0)] 5 .own,
    .siter [(Int.ofNat 98)] 1,
    .cells [.int .i64 (Int.ofNat 1), .int .i64 (Int.ofNat 2), .int .i64 (Int.ofNat 4), .int .i64 (Int.ofNat 0), .int .i64 (Int.ofNat 6), .int .i64 (Int.ofNat 0)] 1 .multi,
    .cells [.int .i64 (Int.ofNat 3), .sl (.at 37 0 1) 6, .sl (.at 42 0 1) 6] 3 .own,
    .cells [.int .i64 (Int.ofNat 4), .str [(Int.ofNat 97)], .str [(Int.ofNat 107)], .str [(Int.ofNat 118)], .int .i64 (Int.ofNat 0)] 5 .own,
    .cells [.int .i64 (Int.ofNat 4), .int .i64 (Int.ofNat 0)] 1 .own,
    .cells [.str [(Int.ofNat 97)], .str [(Int.ofNat 107)], .str [(Int.ofNat 118)]] 1 .own,
    .cells [.str [(Int.ofNat 97)], .str [(Int.ofNat 107)], .str [(Int.ofNat 118)], .str [(Int.ofNat 98)], .str [], .str [(Int.ofNat 120)]] 1 .multi,
    .cells [.int .i64 (Int.ofNat 6), .str [(Int.ofNat 98)], .str [], .str [(Int.ofNat 120)], .int .i64 (Int.ofNat 0)] 5 .own,
    .cells [.int .i64 (Int.ofNat 6), .int .i64 (Int.ofNat 0)] 1 .own,
    .cells [.str [(Int.ofNat 98)], .str [], .str [(Int.ofNat 120)]] 1 .own,
    .cells [.int .i64 (Int.ofNat 3), .sl (.at 37 0 1) 6, .sl (.at 42 0 1) 6] 3 .own,
    .cells [.int .i64 (Int.ofNat 3), .sl (.at 37 0 1) 6, .sl (.at 42 0 1) 6] 3 .own,
    .cells [.int .i64 (Int.ofNat 3), .sl (.at 11 0 1) 6, .sl (.at 16 0 1) 6] 3 .own,
    .cells [.int .i64 (Int.ofNat 1), .int .i64 (Int.ofNat 2)] 2 .own,
    .cells [.str []] 1 .own,
    .cells [.int .i64 (Int.ofNat 1), .int .i64 (Int.ofNat 2), .int .i64 (Int.ofNat 0), .int .i64 (Int.ofNat 1), .int .i64 (Int.ofNat 3)] 1 .own,
    .cells [.str []] 1 .own,
    .cells [.int .i64 (Int.ofNat 5), .sl (.at 51 0 1) 5, .sl (.at 52 0 1) 1] 3 .own,
    .cells [.str []] 1 .own,
    .cells [.int .i64 (Int.ofNat 1), .int .i64 (Int.ofNat 2), .int .i64 (Int.ofNat 0), .bool true, .int .i64 (Int.ofNat 3), .sl (.at 54 0 1) 1] 6 .own,
    .cells [.int .i64 (Int.ofNat 1), .int .i64 (Int.ofNat 2)] 2 .own,
    .cells [.int .i64 (Int.ofNat 7), .sl (.at 59 0 1) 4, .sl .nil 0] 3 .own,
    .cells [.int .i64 (Int.ofNat 1), .int .i64 (Int.ofNat 2)] 2 .own,
    .cells [.int .i64 (Int.ofNat 1), .int .i64 (Int.ofNat 2), .int .i64 (Int.ofNat 1), .int .i64 (Int.ofNat 1)] 1 .own,
    .cells [.int .i64 (Int.ofNat 7), .sl (.at 59 0 1) 4, .sl .nil 0] 3 .own,
    .cells [.int .i64 (Int.ofNat 7), .sl (.at 59 0 1) 4, .sl .nil 0] 3 .own,
    .cells [.int .i64 (Int.ofNat 1), .int .i64 (Int.ofNat 2)] 2 .own,
    .cells [.int .i64 (Int.ofNat 1), .int .i64 (Int.ofNat 2)] 2 .own,
    .cells [.int .i64 (Int.ofNat 1), .int .i64 (Int.ofNat 2)] 2 .own,
    .cells [.int .i64 (Int.ofNat 7), .sl (.at 67 0 1) 4, .sl .nil 0] 3 .own,
    .cells [.int .i64 (Int.ofNat 1), .int .i64 (Int.ofNat 2)] 2 .own,
    .cells [.int .i64 (Int.ofNat 1), .int .i64 (Int.ofNat 2), .int .i64 (Int.ofNat 1), .int .i64 (Int.ofNat 1)] 1 .own,
    .cells [.int .i64 (Int.ofNat 7), .sl (.at 67 0 1) 4, .sl .nil 0] 3 .own,
    .cells [.int .i64 (Int.ofNat 7), .sl (.at 67 0 1) 4, .sl .nil 0] 3 .own,
    .cells [.int .i64 (Int.ofNat 7), .sl (.at 59 0 1) 4, .sl .nil 0] 3 .own,
    .cells [.int .i64 (Int.ofNat 1), .int .i64 (Int.ofNat 2)] 2 .own,
    .cells [.int .i64 (Int.ofNat 4), .str [(Int.ofNat 97)], .str [(Int.ofNat 107)], .str [(Int.ofNat 118)], .int .i64 (Int.ofNat 0)] 5 .own,
    .cells [.str [(Int.ofNat 97)], .str [(Int.ofNat 107)], .bool false] 3 .own,
    .dead,
    .cells [.int .i64 (Int.ofNat 6), .str [(Int.ofNat 98)], .str [], .str [(Int.ofNat 120)], .int .i64 (Int.ofNat 0)] 5 .own,
    .cells [.str [(Int.ofNat 98)], .str [], .bool true] 3 .own,
    .cells [.str [(Int.ofNat 97)], .str [(Int.ofNat 107)], .bool false, .str [(Int.ofNat 98)], .str [], .bool true] 3 .own,
    .cells [.str [(Int.ofNat 98)], .str [], .bool true] 3 .own,
    .cells [.str [(Int.ofNat 97)], .str [(Int.ofNat 107)], .bool false] 3 .own,
    .cells [.int .i64 (Int.ofNat 1), .int .i64 (Int.negSucc 0), .int .i64 (Int.negSucc 0)] 1 .own,
    .map [] 0,
    .cells [.map (some 81)] 1 .own]
def heap9 : H := [.cells [.int .i64 (Int.ofNat 4), .str [(Int.ofNat 97)], .str [(Int.ofNat 107)], .str [(Int.ofNat 118)], .int .i64 (Int.ofNat 0), .int .i64 (Int.ofNat 6), .str [(Int.ofNat 98)], .str [], .str [(Int.ofNat 120)], .int .i64 (Int.ofNat 0)] 5 .own,
    .cells [.int .i64 (Int.ofNat 1), .int .i64 (Int.ofNat 2)] 2 .own,
    .cells [.int .i64 (Int.ofNat 1), .int .i64 (Int.ofNat 2)] 2 .own,
    .cells [.int .i64 (Int.ofNat 3), .sl (.at 11 0 1) 6, .sl (.at 16 0 1) 6] 3 .own,
    .cells [.int .i64 (Int.ofNat 1), .int .i64 (Int.ofNat 2)] 2 .own,
    .cells [.int .i64 (Int.ofNat 4), .str [(Int.ofNat 97)], .str [(Int.ofNat 107)], .str [(Int.ofNat 118)], .int .i64 (Int.ofNat 0)] 5 .own,
    .cells [.int .i64 (Int.ofNat 4), .str [(Int.ofNat 97)], .str [(Int.ofNat 107)], .str [(Int.ofNat 118)], .int .i64 (Int.ofNat 0)] 5 .own,
    .siter [(Int.ofNat 97)] 1,
    .cells [.int .i64 (Int.ofNat 6), .str [(Int.ofNat 98)], .str [], .str [(Int.ofNat 120)], .int .i64 (Int.ofNat 0)] 5 .own,
    .cells [.int .i64 (Int.ofNat 6), .str [(Int.ofNat 98)], .str [], .str [(Int.ofNat 120)], .int .i64 (Int.ofNat 0)] 5 .own,
    .siter [(Int.ofNat 98)] 1,
    .cells [.int .i64 (Int.ofNat 1), .int .i64 (Int.ofNat 2), .int .i64 (Int.ofNat 4), .int .i64 (Int.ofNat 0), .int .i64 (Int.ofNat 6), .int .i64 (Int.ofNat 0)] 1 .multi,
    .cells [.int .i64 (Int.ofNat 3), .sl (.at 11 0 1) 6, .sl (.at 16 0 1) 6] 3 .own,
    .cells [.int .i64 (Int.ofNat 4), .str [(Int.ofNat 97)], .str [(Int.ofNat 107)], .str [(Int.ofNat 118)], .int .i64 (Int.ofNat 0)] 5 .own,
    .cells [.int .i64 (Int.ofNat 4), .int .i64 (Int.ofNat 0)] 1 .own,
    .cells [.str [(Int.ofNat 97)], .str [(Int.ofNat 107)], .str [(Int.ofNat 118)]] 1 .own,
    .cells [.str [(Int.ofNat 97)], .str [(Int.ofNat 107)], .str [(Int.ofNat 118)], .str [(Int.ofNat 98)], .str [], .str [(Int.ofNat 120)]] 1 .multi,
    .cells [.int .i64 (Int.ofNat 6), .str [(Int.ofNat 98)], .str [], .str [(Int.ofNat 120)], .int .i64 (Int.ofNat 0)] 5 .own,
    .cells [.int .i64 (Int.ofNat 6), .int .i64 (Int.ofNat 0)] 1 .own,
    .cells [.str [(Int.ofNat 98)], .str [], .str [(Int.ofNat 120)]] 1 .own,
    .cells [.int .i64 (Int.ofNat 3), .sl (.at 11 0 1) 6, .sl (.at 16 0 1) 6] 3 .own,
    .cells [.int .i64 (Int.ofNat 3), .sl (.at 11 0 1) 6, .sl (.at 16 0 1) 6] 3 .own,
    .cells [.int .i64 (Int.ofNat 1), .int .i64 (Int.ofNat 2)] 2 .own,
    .cells [.int .i64 (Int.ofNat 1), .int .i64 (Int.ofNat 2)] 2 .own,
    .cells [.int .i64 (Int.ofNat 4), .str [(Int.ofNat 97)], .str [(Int.ofNat 107)], .str [(Int.ofNat 118)], .int .i64 (Int.ofNat 0)] 5 .own,
    .dead,
    .cells [.int .i64 (Int.ofNat 6), .str [(Int.ofNat 98)], .str [], .str [(Int.ofNat 120)], .int .i64 (Int.ofNat 0)] 5 .own,
    .cells [.int .i64 (Int.ofNat 4), .str [(Int.ofNat 97)], .str [(Int.ofNat 107)], .str [(Int.ofNat 118)], .int .i64 (Int.ofNat 0), .int .i64 (Int.ofNat 6), .str [(Int.ofNat 98)], .str [], .str [(Int.ofNat 120)], .int .i64 (Int.ofNat 0)] 5 .own,
    .cells [.int .i64 (Int.ofNat 1), .int .i64 (Int.ofNat 2)] 2 .own,
    .cells [.int .i64 (Int.ofNat 3), .sl (.at 37 0 1) 6, .sl (.at 42 0 1) 6] 3 .own,
    .cells [.int .i64 (Int.ofNat 1), .int .i64 (Int.ofNat 2)] 2 .own,
    .cells [.int .i64 (Int.ofNat 4), .str [(Int.ofNat 97)], .str [(Int.ofNat 107)], .str [(Int.ofNat 118)], .int .i64 (Int.ofNat 0)] 5 .own,
    .cells [.int .i64 (Int.ofNat 4), .str [(Int.ofNat 97)], .str [(Int.ofNat 107)], .str [(Int.ofNat 118)], .int .i64 (Int.ofNat 0)] 5 .own,
    .siter [(Int.ofNat 97)] 1,
    .cells [.int .i64 (Int.ofNat 6), .str [(Int.ofNat 98)], .str [], .str [(Int.ofNat 120)], .int .i64 (Int.ofNat 0)] 5 .own,
    .cells [.int .i64 (Int.ofNat 6), .str [(Int.ofNat 98)], .str [], .str [(Int.ofNat 120)], .int .i64 (Int.ofNat 0)] 5 .own,
    .siter [(Int.ofNat 98)] 1,
    .cells [.int .i64 (Int.ofNat 1), .int .i64 (Int.ofNat 2), .int .i64 (Int.ofNat 4), .int .i64 (Int.ofNat 0), .int .i64 (Int.ofNat 6), .int .i64 (Int.ofNat 0)] 1 .multi,
    .cells [.int .i64 (Int.ofNat 3), .sl (.at 37 0 1) 6, .sl (.at 42 0 1) 6] 3 .own,
    .cells [.int .i64 (Int.ofNat 4), .str [(Int.ofNat 97)], .str [(Int.ofNat 107)], .str [(Int.ofNat 118)], .int .i64 (Int.ofNat 0)] 5 .own,
    .cells [.int .i64 (Int.ofNat 4), .int .i64 (Int.ofNat 0)] 1 .own,
    .cells [.str [(Int.ofNat 97)], .str [(Int.ofNat 107)], .str [(Int.ofNat 118)]] 1 .own,
    .cells [.str [(Int.ofNat 97)], .str [(Int.ofNat 107)], .str [(Int.ofNat 118)], .str [(Int.ofNat 98)], .str [], .str [(Int.ofNat 120)]] 1 .multi,
    .cells [.int .i64 (Int.ofNat 6), .str [(Int.ofNat 98)], .str [], .str [(Int.ofNat 120)], .int .i64 (Int.ofNat 0)] 5 .own,
    .cells [.int .i64 (Int.ofNat 6), .int .i64 (Int.ofNat 0)] 1 .own,
    .cells [.str [(Int.ofNat 98)], .str [], .str [(Int.ofNat 120)]] 1 .own,
    .cells [.int .i64 (Int.ofNat 3), .sl (.at 37 0 1) 6, .sl (.at 42 0 1) 6] 3 .own,
    .cells [.int .i64 (Int.ofNat 3), .sl (.at 37 0 1) 6, .sl (.at 42 0 1) 6] 3 .own,
    .cells [.int .i64 (Int.ofNat 3), .sl (.at 11 0 1) 6, .sl (.at 16 0 1) 6] 3 .own,
    .cells [.int .i64 (Int.ofNat 1), .int .i64 (Int.ofNat 2)] 2 .own,
    .cells [.str []] 1 .own,
    .cells [.int .i64 (Int.ofNat 1), .int .i64 (Int.ofNat 2), .int .i64 (Int.ofNat 0), .int .i64 (Int.ofNat 1), .int .i64 (Int.ofNat 3)] 1 .own,
    .cells [.str []] 1 .own,
    .cells [.int .i64 (Int.ofNat 5), .sl (.at 51 0 1) 5, .sl (.at 52 0 1) 1] 3 .own,
    .cells [.str []] 1 .own,
    .cells [.int .i64 (Int.ofNat 1), .int .i64 (Int.ofNat 2), .int .i64 (Int.ofNat 0), .bool true, .int .i64 (Int.ofNat 3), .sl (.at 54 0 1) 1] 6 .own,
    .cells [.int .i64 (Int.ofNat 1), .int .i64 (Int.ofNat 2)] 2 .own,
    .cells [.int .i64 (Int.ofNat 7), .sl (.at 59 0 1) 4, .sl .nil 0] 3 .own,
    .cells [.int .i64 (Int.ofNat 1), .int .i64 (Int.ofNat 2)] 2 .own,
    .cells [.int .i64 (Int.ofNat 1), .int .i64 (Int.ofNat 2), .int .i64 (Int.ofNat 1), .int .i64 (Int.ofNat 1)] 1 .own,
    .cells [.int .i64 (Int.ofNat 7), .sl (.at 59 0 1) 4, .sl .nil 0] 3 .own,
    .cells [.int .i64 (Int.ofNat 7), .sl (.at 59 0 1) 4, .sl .nil 0] 3 .own,
    .cells [.int .i64 (Int.ofNat 1), .int .i64 (Int.ofNat 2)] 2 .own,
    .cells [.int .i64 (Int.ofNat 1), .int .i64 (Int.ofNat 2)] 2 .own,
    .cells [.int .i64 (Int.ofNat 1), .int .i64 (Int.ofNat 2)] 2 .own,
    .cells [.int .i64 (Int.ofNat 7), .sl (.at 67 0 1) 4, .sl .nil 0] 3 .own,
    .cells [.int .i64 (Int.ofNat 1), .int .i64 (Int.ofNat 2)] 2 .own,
    .cells [.int .i64 (Int.ofNat 1), .int .i64 (Int.ofNat 2), .int .i64 (Int.ofNat 1), .int .i64 (Int.ofNat 1)] 1 .own,
    .cells [.int .i64 (Int.ofNat 7), .sl (.at 67 0 1) 4, .sl .nil 0] 3 .own,
    .cells [.int .i64 (Int.ofNat 7), .sl (.at 67 0 1) 4, .sl .nil 0] 3 .own,
    .cells [.int .i64 (Int.ofNat 7), .sl (.at 59 0 1) 4, .sl .nil 0] 3 .own,
    .cells [.int .i64 (Int.ofNat 1), .int .i64 (Int.ofNat 2)] 2 .own,
    .cells [.int .i64 (Int.ofNat 4), .str [(Int.ofNat 97)], .str [(Int.ofNat 107)], .str [(Int.ofNat 118)], .int .i64 (Int.ofNat 0)] 5 .own,
    .cells [.str [(Int.ofNat 97)], .str [(Int.ofNat 107)], .bool false] 3 .own,
    .dead,
    .cells [.int .i64 (Int.ofNat 6), .str [(Int.ofNat 98)], .str [], .str [(Int.ofNat 120)], .int .i64 (Int.ofNat 0)] 5 .own,
    .cells [.str [(Int.ofNat 98)], .str [], .bool true] 3 .own,
    .cells [.str [(Int.ofNat 97)], .str [(Int.ofNat 107)], .bool false, .str [(Int.ofNat 98)], .str [], .bool true] 3 .own,
    .cells [.str [(Int.ofNat 98)], .str [], .bool true] 3 .own,
    .cells [.str [(Int.ofNat 97)], .str [(Int.ofNat 107)], .bool false] 3 .own,
    .cells [.int .i64 (Int.ofNat 1), .int .i64 (Int.negSucc 0), .int .i64 (Int.negSucc 0)] 1 .own,
    .map [⟨.agg [.str [(Int.ofNat 97)], .str [(Int.ofNat 107)], .bool false], .agg [.int .i64 (Int.ofNat 1), .int .i64 (Int.ofNat 2)], 0⟩, ⟨.agg [.str [(Int.ofNat 98)], .str [], .bool true], .agg [.int .i64 (Int.ofNat 1), .int .i64 (Int.ofNat 2)], 1⟩] 2,
    .cells [.map (some 81)] 1 .own]
def e45x0 : Ent := ⟨[.ptr (some ⟨82, 0, 0, 1⟩), .agg [.int .i64 (Int.ofNat 1), .int .i64 (Int.ofNat 2)], .sl (.at 77 0 3) 2], heap8, .bool true, heap9⟩
theorem run45x0 : acall Tryz.prog tab45 (drawRegion Tryz.prog) 400 45 e45x0.args e45x0.old (chk e45x0.old.length e45x0.val e45x0.new) = true := by kernel_rfl
def e45x1 : Ent := ⟨[.ptr (some ⟨82, 0, 0, 1⟩), .agg [.int .i64 (Int.ofNat 2), .int .i64 (Int.ofNat 1)], .sl (.at 77 0 3) 1], heap9, .bool false, heap9⟩
theorem run45x1 : acall Tryz.prog tab45 (drawRegion Tryz.prog) 400 45 e45x1.args e45x1.old (chk e45x1.old.length e45x1.val e45x1.new) = true := by kernel_rfl
def es45 : List Ent := [e45x0, e45x1]
theorem ok45 : ∀ e ∈ es45, EntOK Tryz.prog tab45 45 e := fun e h => by
  unfold es45 at h
  rcases List.mem_cons.1 h with rfl | h
  · exact ⟨400, run45x0⟩
  rcases List.mem_cons.1 h with rfl | h
  · exact ⟨400, run45x1⟩
  cases h
theorem con45 : SoundAt Tryz.prog 45 (entF es45) := ent_sound tab45OK L1.mix L1.noCount ok45
def tab80 : Tab := ⟨fun g => bif Nat.beq g 46 then some (closedF) else bif Nat.beq g 39 then some (entF es39) else bif Nat.beq g 40 then some (entF es40) else bif Nat.beq g 45 then some (entF es45) else none, fun _ _ => 0⟩
theorem tab80OK : TabOK Tryz.prog tab80 := fun g F h => by
  unfold tab80 at h
  simp only at h
  cases hq : Nat.beq g 46 with
  | true =>
    rw [hq] at h
    obtain rfl := Nat.eq_of_beq_eq_true hq
    obtain rfl := (Option.some.inj h).symm
    exact L1.closed46
  | false =>
    rw [hq] at h
    clear hq
    cases hq : Nat.beq g 39 with
    | true =>
      rw [hq] at h
      obtain rfl := Nat.eq_of_beq_eq_true hq
      obtain rfl := (Option.some.inj h).symm
      exact con39
    | false =>
      rw [hq] at h
      clear hq
      cases hq : Nat.beq g 40 with
      | true =>
        rw [hq] at h
        obtain rfl := Nat.eq_of_beq_eq_true hq
        obtain rfl := (Option.some.inj h).symm
        exact con40
      | false =>
        rw [hq] at h
        clear hq
        cases hq : Nat.beq g 45 with
        | true =>
          rw [hq] at h
          obtain rfl := Nat.eq_of_beq_eq_true hq
          obtain rfl := (Option.some.inj h).symm
          exact con45
        | false =>
          rw [hq] at h
          clear hq
          cases h
def heap10 : H := [.cells [.int .i64 (Int.ofNat 4), .str [(Int.ofNat 97)], .str [(Int.ofNat 107)], .str [(Int.ofNat 118)], .int .i64 (Int.ofNat 0), .int .i64 (Int.ofNat 6), .str [(Int.ofNat 98)], .str [], .str [(Int.ofNat 120)], .int .i64 (Int.ofNat 0)] 5 .own,
    .cells [.int .i64 (Int.ofNat 1), .int .i64 (Int.ofNat 2)] 2 .own,
    .cells [.int .i64 (Int.ofNat 1), .int .i64 (Int.ofNat 2)] 2 .own,
    .cells [.int .i64 (Int.ofNat 3), .sl (.at 11 0 1) 6, .sl (.at 16 0 1) 6] 3 .own,
    .cells [.int .i64 (Int.ofNat 1), .int .i64 (Int.ofNat 2)] 2 .own,
    .cells [.int .i64 (Int.ofNat 4), .str [(Int.ofNat 97)], .str [(Int.ofNat 107)], .str [(Int.ofNat 118)], .int .i64 (Int.ofNat 0)] 5 .own,
    .cells [.int .i64 (Int.ofNat 4), .str [(Int.ofNat 97)], .str [(Int.ofNat 107)], .str [(Int.ofNat 118)], .int .i64 (Int.ofNat 0)] 5 .own,
    .siter [(Int.ofNat 97)] 1,
    .cells [.int .i64 (Int.ofNat 6), .str [(Int.ofNat 98)], .str [], .str [(Int.ofNat 120)], .int .i64 (Int.ofNat 0)] 5 .own,
    .cells [.int .i64 (Int.ofNat 6), .str [(Int.ofNat 98)], .str [], .str [(Int.ofNat 120)], .int .i64 (Int.ofNat 0)] 5 .own,
    .siter [(Int.ofNat 98)] 1,
    .cells [.int .i64 (Int.ofNat 1), .int .i64 (Int.ofNat 2), .int .i64 (Int.ofNat 4), .int .i64 (Int.ofNat 0), .int .i64 (Int.ofNat 6), .int .i64 (Int.ofNat 0)] 1 .multi,
    .cells [.int .i64 (Int.ofNat 3), .sl (.at 11 0 1) 6, .sl (.at 16 0 1) 6] 3 .own,
    .cells [.int .i64 (Int.ofNat 4), .str [(Int.ofNat 97)], .str [(Int.ofNat 107)], .str [(Int.ofNat 118)], .int .i64 (Int.ofNat 0)] 5 .own,
    .cells [.int .i64 (Int.ofNat 4), .int .i64 (Int.ofNat 0)] 1 .own,
    .cells [.str [(Int.ofNat 97)], .str [(Int.ofNat 107)], .str [(Int.ofNat 118)]] 1 .own,
    .cells [.str [(Int.ofNat 97)], .str [(Int.ofNat 107)], .str [(Int.ofNat 118)], .str [(Int.ofNat 98)], .str [], .str [(Int.ofNat 120)]] 1 .multi,
    .cells [.int .i64 (Int.ofNat 6), .str [(Int.ofNat 98)], .str [], .str [(Int.ofNat 120)], .int .i64 (Int.ofNat 0)] 5 .own,
    .cells [.int .i64 (Int.ofNat 6), .int .i64 (Int.ofNat 0)] 1 .own,
    .cells [.str [(Int.ofNat 98)], .str [], .str [(Int.ofNat 120)]] 1 .own,
    .cells [.int .i64 (Int.ofNat 3), .sl (.at 11 0 1) 6, .sl (.at 16 0 1) 6] 3 .own,
    .cells [.int .i64 (Int.ofNat 3), .sl (.at 11 0 1) 6, .sl (.at 16 0 1) 6] 3 .own,
    .cells [.int .i64 (Int.ofNat 1), .int .i64 (Int.ofNat 2)] 2 .own,
    .cells [.int .i64 (Int.ofNat 1), .int .i64 (Int.ofNat 2)] 2 .own,
    .cells [.int .i64 (Int.ofNat 4), .str [(Int.ofNat 97)], .str [(Int.ofNat 107)], .str [(Int.ofNat 118)], .int .i64 (Int.ofNat 0)] 5 .own,
    .dead,
    .cells [.int .i64 (Int.ofNat 6), .str [(Int.ofNat 98)], .str [], .str [(Int.ofNat 120)], .int .i64 (Int.ofNat 0)] 5 .own,
    .cells [.int .i64 (Int.ofNat 4), .str [(Int.ofNat 97)], .str [(Int.ofNat 107)], .str [(Int.ofNat 118)], .int .i64 (Int.ofNat 0), .int .i64 (Int.ofNat 6), .str [(Int.ofNat 98)], .str [], .str [(Int.ofNat 120)], .int .i64 (Int.ofNat 0)] 5 .own,
    .cells [.int .i64 (Int.ofNat 1), .int .i64 (Int.ofNat 2)] 2 .own,
    .cells [.int .i64 (Int.ofNat 3), .sl (.at 37 0 1) 6, .sl (.at 42 0 1) 6] 3 .own,
    .cells [.int .i64 (Int.ofNat 1), .int .i64 (Int.ofNat 2)] 2 .own,
    .cells [.int .i64 (Int.ofNat 4), .str [(Int.ofNat 97)], .str [(Int.ofNat 107)], .str [(Int.ofNat 118)], .int .i64 (Int.ofNat 0)] 5 .own,
    .cells [.int .i64 (Int.ofNat 4), .str [(Int.ofNat 97)], .str [(Int.ofNat 107)], .str [(Int.ofNat 118)], .int .i64 (Int.ofNat 0)] 5 .own,
    .siter [(Int.ofNat 97)] 1,
    .cells [.int .i64 (Int.ofNat 6), .str [(Int.ofNat 98)], .str [], .str [(Int.ofNat 120)], .int .i64 (Int.ofNat 0)] 5 .own,
    .cells [.int .i64 (Int.ofNat 6), .str [(Int.ofNat 98)], .str [], .str [(Int.ofNat 120)], .int .i64 (Int.ofNat 0)] 5 .own,
    .siter [(Int.ofNat 98)] 1,
    .cells [.int .i64 (Int.ofNat 1), .int .i64 (Int.ofNat 2), .int .i64 (Int.ofNat 4), .int .i64 (Int.ofNat 0), .int .i64 (Int.ofNat 6), .int .i64 (Int.ofNat 0)] 1 .multi,
    .cells [.int .i64 (Int.ofNat 3), .sl (.at 37 0 1) 6, .sl (.at 42 0 1) 6] 3 .own,
    .cells [.int .i64 (Int.ofNat 4), .str [(Int.ofNat 97)], .str [(Int.ofNat 107)], .str [(Int.ofNat 118)], .int .i64 (Int.ofNat 0)] 5 .own,
    .cells [.int .i64 (Int.ofNat 4), .int .i64 (Int.ofNat 0)] 1 .own,
    .cells [.str [(Int.ofNat 97)], .str [(Int.ofNat 107)], .str [(Int.ofNat 118)]] 1 .own,
    .cells [.str [(Int.ofNat 97)], .str [(Int.ofNat 107)], .str [(Int.ofNat 118)], .str [(Int.ofNat 98)], .str [], .str [(Int.ofNat 120)]] 1 .multi,
    .cells [.int .i64 (Int.ofNat 6), .str [(Int.ofNat 98)], .str [], .str [(Int.ofNat 120)], .int .i64 (Int.ofNat 0)] 5 .own,
    .cells [.int .i64 (Int.ofNat 6), .int .i64 (Int.ofNat 0)] 1 .own,
    .cells [.str [(Int.ofNat 98)], .str [], .str [(Int.ofNat 120)]] 1 .own,
    .cells [.int .i64 (Int.ofNat 3), .sl (.at 37 0 1) 6, .sl (.at 42 0 1) 6] 3 .own,
    .cells [.int .i64 (Int.ofNat 3), .sl (.at 37 0 1) 6, .sl (.at 42 0 1) 6] 3 .own,
    .cells [.int .i64 (Int.ofNat 3), .sl (.at 11 0 1) 6, .sl (.at 16 0 1) 6] 3 .own,
    .cells [.int .i64 (Int.ofNat 1), .int .i64 (Int.ofNat 2)] 2 .own,
    .cells [.str []] 1 .own,
    .cells [.int .i64 (Int.ofNat 1), .int .i64 (Int.ofNat 2), .int .i64 (Int.ofNat 0), .int .i64 (Int.ofNat 1), .int .i64 (Int.ofNat 3)] 1 .own,
    .cells [.str []] 1 .own,
    .cells [.int .i64 (Int.ofNat 5), .sl (.at 51 0 1) 5, .sl (.at 52 0 1) 1] 3 .own,
    .cells [.str []] 1 .own,
    .cells [.int .i64 (Int.ofNat 1), .int .i64 (Int.ofNat 2), .int .i64 (Int.ofNat 0), .bool true, .int .i64 (Int.ofNat 3), .sl (.at 54 0 1) 1] 6 .own,
    .cells [.int .i64 (Int.ofNat 1), .int .i64 (Int.ofNat 2)] 2 .own,
    .cells [.int .i64 (Int.ofNat 7), .sl (.at 59 0 1) 4, .sl .nil 0] 3 .own,
    .cells [.int .i64 (Int.ofNat 1), .int .i64 (Int.ofNat 2)] 2 .own,
    .cells [.int .i64 (Int.ofNat 1), .int .i64 (Int.ofNat 2), .int .i64 (Int.ofNat 1), .int .i64 (Int.ofNat 1)] 1 .own,
    .cells [.int .i64 (Int.ofNat 7), .sl (.at 59 0 1) 4, .sl .nil 0] 3 .own,
    .cells [.int .i64 (Int.ofNat 7), .sl (.at 59 0 1) 4, .sl .nil 0] 3 .own,
    .cells [.int .i64 (Int.ofNat 1), .int .i64 (Int.ofNat 2)] 2 .own,
    .cells [.int .i64 (Int.ofNat 1), .int .i64 (Int.ofNat 2)] 2 .own,
    .cells [.int .i64 (Int.ofNat 1), .int .i64 (Int.ofNat 2)] 2 .own,
    .cells [.int .i64 (Int.ofNat 7), .sl (.at 67 0 1) 4, .sl .nil 0] 3 .own,
    .cells [.int .i64 (Int.ofNat 1), .int .i64 (Int.ofNat 2)] 2 .own,
    .cells [.int .i64 (Int.ofNat 1), .int .i64 (Int.ofNat 2), .int .i64 (Int.ofNat 1), .int .i64 (Int.ofNat 1)] 1 .own,
    .cells [.int .i64 (Int.ofNat 7), .sl (.at 67 0 1) 4, .sl .nil 0] 3 .own,
    .cells [.int .i64 (Int.ofNat 7), .sl (.at 67 0 1) 4, .sl .nil 0] 3 .own,
    .cells [.int .i64 (Int.ofNat 7), .sl (.at 59 0 1) 4, .sl .nil 0] 3 .own,
    .cells [.int .i64 (Int.ofNat 1), .int .i64 (Int.ofNat 2)] 2 .own,
    .cells [.int .i64 (Int.ofNat 4), .str [(Int.ofNat 97)], .str [(Int.ofNat 107)], .str [(Int.ofNat 118)], .int .i64 (Int.ofNat 0)] 5 .own,
    .cells [.str [(Int.ofNat 97)], .str [(Int.ofNat 107)], .bool false] 3 .own,
    .dead,
    .cells [.int .i64 (Int.ofNat 6), .str [(Int.ofNat 98)], .str [], .str [(Int.ofNat 120)], .int .i64 (Int.ofNat 0)] 5 .own,
    .cells [.str [(Int.ofNat 98)], .str [], .bool true] 3 .own,
    .cells [.str [(Int.ofNat 97)], .str [(Int.ofNat 107)], .bool false, .str [(Int.ofNat 98)], .str [], .bool true] 3 .own,
    .cells [.str [(Int.ofNat 98)], .str [], .bool true] 3 .own,
    .cells [.str [(Int.ofNat 97)], .str [(Int.ofNat 107)], .bool false] 3 .own,
    .cells [.int .i64 (Int.ofNat 1), .int .i64 (Int.negSucc 0), .int .i64 (Int.negSucc 0)] 1 .own,
    .map [⟨.agg [.str [(Int.ofNat 97)], .str [(Int.ofNat 107)], .bool false], .agg [.int .i64 (Int.ofNat 1), .int .i64 (Int.ofNat 2)], 0⟩, ⟨.agg [.str [(Int.ofNat 98)], .str [], .bool true], .agg [.int .i64 (Int.ofNat 1), .int .i64 (Int.ofNat 2)], 1⟩] 2,
    .cells [.map (some 81)] 1 .own,
    .cells [.int .i64 (Int.ofNat 1), .int .i64 (Int.ofNat 2)] 2 .own]
def heap11 : H := [.cells [.int .i64 (Int.ofNat 4), .str [(Int.ofNat 97)], .str [(Int.ofNat 107)], .str [(Int.ofNat 118)], .int .i64 (Int.ofNat 0), .int .i64 (Int.ofNat 6), .str [(Int.ofNat 98)], .str [], .str [(Int.ofNat 120)], .int .i64 (Int.ofNat 0)] 5 .own,
    .cells [.int .i64 (Int.ofNat 1), .int .i64 (Int.ofNat 2)] 2 .own,
    .cells [.int .i64 (Int.ofNat 1), .int .i64 (Int.ofNat 2)] 2 .own,
    .cells [.int .i64 (Int.ofNat 3), .sl (.at 11 0 1) 6, .sl (.at 16 0 1) 6] 3 .own,
    .cells [.int .i64 (Int.ofNat 1), .int .i64 (Int.ofNat 2)] 2 .own,
    .cells [.int .i64 (Int.ofNat 4), .str [(Int.ofNat 97)], .str [(Int.ofNat 107)], .str [(Int.ofNat 118)], .int .i64 (Int.ofNat 0)] 5 .own,
    .cells [.int .i64 (Int.ofNat 4), .str [(Int.ofNat 97)], .str [(Int.ofNat 107)], .str [(Int.ofNat 118)], .int .i64 (Int.ofNat 0)] 5 .own,
    .siter [(Int.ofNat 97)] 1,
    .cells [.int .i64 (Int.ofNat 6), .str [(Int.ofNat 98)], .str [], .str [(Int.ofNat 120)], .int .i64 (Int.ofNat 0)] 5 .own,
    .cells [.int .i64 (Int.ofNat 6), .str [(Int.ofNat 98)], .str [], .str [(Int.ofNat 120)], .int .i64 (Int.ofNat 0)] 5 .own,
    .siter [(Int.ofNat 98)] 1,
    .cells [.int .i64 (Int.ofNat 1), .int .i64 (Int.ofNat 2), .int .i64 (Int.ofNat 4), .int .i64 (Int.ofNat 0), .int .i64 (Int.ofNat 6), .int .i64 (Int.ofNat 0)] 1 .multi,
    .cells [.int .i64 (Int.ofNat 3), .sl (.at 11 0 1) 6, .sl (.at 16 0 1) 6] 3 .own,
    .cells [.int .i64 (Int.ofNat 4), .str [(Int.ofNat 97)], .str [(Int.ofNat 107)], .str [(Int.ofNat 118)], .int .i64 (Int.ofNat 0)] 5 .own,
    .cells [.int .i64 (Int.ofNat 4), .int .i64 (Int.ofNat 0)] 1 .own,
    .cells [.str [(Int.ofNat 97)], .str [(Int.ofNat 107)], .str [(Int.ofNat 118)]] 1 .own,
    .cells [.str [(Int.ofNat 97)], .str [(Int.ofNat 107)], .str [(Int.ofNat 118)], .str [(Int.ofNat 98)], .str [], .str [(Int.ofNat 120)]] 1 .multi,
    .cells [.int .i64 (Int.ofNat 6), .str [(Int.ofNat 98)], .str [], .str [(Int.ofNat 120)], .int .i64 (Int.ofNat 0)] 5 .own,
    .cells [.int .i64 (Int.ofNat 6), .int .i64 (Int.ofNat 0)] 1 .own,
    .cells [.str [(Int.ofNat 98)], .str [], .str [(Int.ofNat 120)]] 1 .own,
    .cells [.int .i64 (Int.ofNat 3), .sl (.at 11 0 1) 6, .sl (.at 16 0 1) 6] 3 .own,
    .cells [.int .i64 (Int.ofNat 3), .sl (.at 11 0 1) 6, .sl (.at 16 0 1) 6] 3 .own,
    .cells [.int .i64 (Int.ofNat 1), .int .i64 (Int.ofNat 2)] 2 .own,
    .cells [.int .i64 (Int.ofNat 1), .int .i64 (Int.ofNat 2)] 2 .own,
    .cells [.int .i64 (Int.ofNat 4), .str [(Int.ofNat 97)], .str [(Int.ofNat 107)], .str [(Int.ofNat 118)], .int .i64 (Int.ofNat 0)] 5 .own,
    .dead,
    .cells [.int .i64 (Int.ofNat 6), .str [(Int.ofNat 98)], .str [], .str [(Int.ofNat 120)], .int .i64 (Int.ofNat 0)] 5 .own,
    .cells [.int .i64 (Int.ofNat 4), .str [(Int.ofNat 97)], .str [(Int.ofNat 107)], .str [(Int.ofNat 118)], .int .i64 (Int.ofNat 0), .int .i64 (Int.ofNat 6), .str [(Int.ofNat 98)], .str [], .str [(Int.ofNat 120)], .int .i64 (Int.ofNat 0)] 5 .own,
    .cells [.int .i64 (Int.ofNat 1), .int .i64 (Int.ofNat 2)] 2 .own,
    .cells [.int .i64 (Int.ofNat 3), .sl (.at 37 0 1) 6, .sl (.at 42 0 1) 6] 3 .own,
    .cells [.int .i64 (Int.ofNat 1), .int .i64 (Int.ofNat 2)] 2 .own,
    .cells [.int .i64 (Int.ofNat 4), .str [(Int.ofNat 97)], .str [(Int.ofNat 107)], .str [(Int.ofNat 118)], .int .i64 (Int.ofNat 0)] 5 .own,
    .cells [.int .i64 (Int.ofNat 4), .str [(Int.ofNat 97)], .str [(Int.ofNat 107)], .str [(Int.ofNat 118)], .int .i64 (Int.ofNat 0)] 5 .own,
    .siter [(Int.ofNat 97)] 1,
    .cells [.int .i64 (Int.ofNat 6), .str [(Int.ofNat 98)], .str [], .str [(Int.ofNat 120)], .int .i64 (Int.ofNat 0)] 5 .own,
    .cells [.int .i64 (Int.ofNat 6), .str [(Int.ofNat 98)], .str [], .str [(Int.ofNat 120)], .int .i64 (Int.ofNat 0)] 5 .own,
    .siter [(Int.ofNat 98)] 1,
    .cells [.int .i64 (Int.ofNat 1), .int .i64 (Int.ofNat 2), .int .i64 (Int.ofNat 4), .int .i64 (Int.ofNat 0), .int .i64 (Int.ofNat 6), .int .i64 (Int.ofNat 0)] 1 .multi,
    .cells [.int .i64 (Int.ofNat 3), .sl (.at 37 0 1) 6, .sl (.at 42 0 1) 6] 3 .own,
    .cells [.int .i64 (Int.ofNat 4), .str [(Int.ofNat 97)], .str [(Int.ofNat 107)], .str [(Int.ofNat 118)], .int .i64 (Int.ofNat 0)] 5 .own,
    .cells [.int .i64 (Int.ofNat 4), .int .i64 (Int.ofNat 0)] 1 .own,
    .cells [.str [(Int.ofNat 97)], .str [(Int.ofNat 107)], .str [(Int.ofNat 118)]] 1 .own,
    .cells [.str [(Int.ofNat 97)], .str [(Int.ofNat 107)], .str [(Int.ofNat 118)], .str [(Int.ofNat 98)], .str [], .str [(Int.ofNat 120)]] 1 .multi,
    .cells [.int .i64 (Int.ofNat 6), .str [(Int.ofNat 98)], .str [], .str [(Int.ofNat 120)], .int .i64 (Int.ofNat 0)] 5 .own,
    .cells [.int .i64 (Int.ofNat 6), .int .i64 (Int.ofNat 0)] 1 .own,
    .cells [.str [(Int.ofNat 98)], .str [], .str [(Int.ofNat 120)]] 1 .own,
    .cells [.int .i64 (Int.ofNat 3), .sl (.at 37 0 1) 6, .sl (.at 42 0 1) 6] 3 .own,
    .cells [.int .i64 (Int.ofNat 3), .sl (.at 37 0 1) 6, .sl (.at 42 0 1) 6] 3 .own,
    .cells [.int .i64 (Int.ofNat 3), .sl (.at 11 0 1) 6, .sl (.at 16 0 1) 6] 3 .own,
    .cells [.int .i64 (Int.ofNat 1), .int .i64 (Int.ofNat 2)] 2 .own,
    .cells [.str []] 1 .own,
    .cells [.int .i64 (Int.ofNat 1), .int .i64 (Int.ofNat 2), .int .i64 (Int.ofNat 0), .int .i64 (Int.ofNat 1), .int .i64 (Int.ofNat 3)] 1 .own,
    .cells [.str []] 1 .own,
    .cells [.int .i64 (Int.ofNat 5), .sl (.at 51 0 1) 5, .sl (.at 52 0 1) 1] 3 .own,
    .cells [.str []] 1 .own,
    .cells [.int .i64 (Int.ofNat 1), .int .i64 (Int.ofNat 2), .int .i64 (Int.ofNat 0), .bool true, .int .i64 (Int.ofNat 3), .sl (.at 54 0 1) 1] 6 .own,
    .cells [.int .i64 (Int.ofNat 1), .int .i64 (Int.ofNat 2)] 2 .own,
    .cells [.int .i64 (Int.ofNat 7), .sl (.at 59 0 1) 4, .sl .nil 0] 3 .own,
    .cells [.int .i64 (Int.ofNat 1), .int .i64 (Int.ofNat 2)] 2 .own,
    .cells [.int .i64 (Int.ofNat 1), .int .i64 (Int.ofNat 2), .int .i64 (Int.ofNat 1), .int .i64 (Int.ofNat 1)] 1 .own,
    .cells [.int .i64 (Int.ofNat 7), .sl (.at 59 0 1) 4, .sl .nil 0] 3 .own,
    .cells [.int .i64 (Int.ofNat 7), .sl (.at 59 0 1) 4, .sl .nil 0] 3 .own,
    .cells [.int .i64 (Int.ofNat 1), .int .i64 (Int.ofNat 2)] 2 .own,
    .cells [.int .i64 (Int.ofNat 1), .int .i64 (Int.ofNat 2)] 2 .own,
    .cells [.int .i64 (Int.ofNat 1), .int .i64 (Int.ofNat 2)] 2 .own,
    .cells [.int .i64 (Int.ofNat 7), .sl (.at 67 0 1) 4, .sl .nil 0] 3 .own,
    .cells [.int .i64 (Int.ofNat 1), .int .i64 (Int.ofNat 2)] 2 .own,
    .cells [.int .i64 (Int.ofNat 1), .int .i64 (Int.ofNat 2), .int .i64 (Int.ofNat 1), .int .i64 (Int.ofNat 1)] 1 .own,
    .cells [.int .i64 (Int.ofNat 7), .sl (.at 67 0 1) 4, .sl .nil 0] 3 .own,
    .cells [.int .i64 (Int.ofNat 7), .sl (.at 67 0 1) 4, .sl .nil 0] 3 .own,
    .cells [.int .i64 (Int.ofNat 7), .sl (.at 59 0 1) 4, .sl .nil 0] 3 .own,
    .cells [.int .i64 (Int.ofNat 1), .int .i64 (Int.ofNat 2)] 2 .own,
    .cells [.int .i64 (Int.ofNat 4), .str [(Int.ofNat 97)], .str [(Int.ofNat 107)], .str [(Int.ofNat 118)], .int .i64 (Int.ofNat 0)] 5 .own,
    .cells [.str [(Int.ofNat 97)], .str [(Int.ofNat 107)], .bool false] 3 .own,
    .dead,
    .cells [.int .i64 (Int.ofNat 6), .str [(Int.ofNat 98)], .str [], .str [(Int.ofNat 120)], .int .i64 (Int.ofNat 0)] 5 .own,
    .cells [.str [(Int.ofNat 98)], .str [], .bool true] 3 .own,
    .cells [.str [(Int.ofNat 97)], .str [(Int.ofNat 107)], .bool false, .str [(Int.ofNat 98)], .str [], .bool true] 3 .own,
    .cells [.str [(Int.ofNat 98)], .str [], .bool true] 3 .own,
    .cells [.str [(Int.ofNat 97)], .str [(Int.ofNat 107)], .bool false] 3 .own,
    .cells [.int .i64 (Int.ofNat 1), .int .i64 (Int.negSucc 0), .int .i64 (Int.negSucc 0)] 1 .own,
    .map [⟨.agg [.str [(Int.ofNat 97)], .str [(Int.ofNat 107)], .bool false], .agg [.int .i64 (Int.ofNat 1), .int .i64 (Int.ofNat 2)], 0⟩, ⟨.agg [.str [(Int.ofNat 98)], .str [], .bool true], .agg [.int .i64 (Int.ofNat 1), .int .i64 (Int.ofNat 2)], 1⟩] 2,
    .cells [.map (some 81)] 1 .own,
    .cells [.int .i64 (Int.ofNat 1), .int .i64 (Int.ofNat 2)] 2 .own,
    .cells [.str [(Int.ofNat 97)], .str [(Int.ofNat 107)], .bool false, .str [(Int.ofNat 98)], .str [], .bool true] 3 .own]
def e80x0 : Ent := ⟨[.ptr (some ⟨82, 0, 0, 1⟩), .agg [.int .i64 (Int.ofNat 1), .int .i64 (Int.ofNat 2)]], heap10, .sl (.at 84 0 3) 2, heap11⟩
theorem run80x0 : acall Tryz.prog tab80 (drawRegion Tryz.prog) 400 80 e80x0.args e80x0.old (chk e80x0.old.length e80x0.val e80x0.new) = true := by kernel_rfl
def es80 : List Ent := [e80x0]
theorem ok80 : ∀ e ∈ es80, EntOK Tryz.prog tab80 80 e := fun e h => by
  unfold es80 at h
  rcases List.mem_cons.1 h with rfl | h
  · exact ⟨400, run80x0⟩
  cases h
theorem con80 : SoundAt Tryz.prog 80 (entF es80) := ent_sound tab80OK L1.mix L1.noCount ok80
def tab29 : Tab := ⟨fun g => bif Nat.beq g 46 then some (closedF) else bif Nat.beq g 39 then some (entF es39) else bif Nat.beq g 40 then some (entF es40) else bif Nat.beq g 45 then some (entF es45) else bif Nat.beq g 80 then some (entF es80) else none, fun _ _ => 0⟩
theorem tab29OK : TabOK Tryz.prog tab29 := fun g F h => by
  unfold tab29 at h
  simp only at h
  cases hq : Nat.beq g 46 with
  | true =>
    rw [hq] at h
    obtain rfl := Nat.eq_of_beq_eq_true hq
    obtain rfl := (Option.some.inj h).symm
    exact L1.closed46
  | false =>
    rw [hq] at h
    clear hq
    cases hq : Nat.beq g 39 with
    | true =>
      rw [hq] at h
      obtain rfl := Nat.eq_of_beq_eq_true hq
      obtain rfl := (Option.some.inj h).symm
      exact con39
    | false =>
      rw [hq] at h
      clear hq
      cases hq : Nat.beq g 40 with
      | true =>
        rw [hq] at h
        obtain rfl := Nat.eq_of_beq_eq_true hq
        obtain rfl := (Option.some.inj h).symm
        exact con40
      | false =>
        rw [hq] at h
        clear hq
        cases hq : Nat.beq g 45 with
        | true =>
          rw [hq] at h
          obtain rfl := Nat.eq_of_beq_eq_true hq
          obtain rfl := (Option.some.inj h).symm
          exact con45
        | false =>
          rw [hq] at h
          clear hq
          cases hq : Nat.beq g 80 with
          | true =>
            rw [hq] at h
            obtain rfl := Nat.eq_of_beq_eq_true hq
            obtain rfl := (Option.some.inj h).symm
            exact con80
          | false =>
            rw [hq] at h
            clear hq
            cases h
theorem run29 : acall Tryz.prog tab29 (drawRegion Tryz.prog) 400 29 [] [] isTrue = true := by kernel_rfl
theorem closed29 : SoundAt Tryz.prog 29 closedF := closed_sound L1.noCount Tryz.func29 rfl fun w => law0 L1.mix L1.noCount tab29OK 400 29 run29 w
end Ent
end Go.Proofs.YtjcpopoinaeemaaGreat
