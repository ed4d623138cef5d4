/- The table of contracts, the masks and the plans of this seat's functions. -/
import Derived.Test.YtpagagiojnhhfabProg
import Derived.Test.YtpagagiojnhhfabGmStep
namespace Go.Proofs.Ytpagagiojnhhfab
open Go.AM Go.AM.St
def masks (g k : Nat) : Nat :=
  bif Nat.beq g 7 then (bif Nat.beq k 0 then 2 else bif Nat.beq k 5 then 10 else bif Nat.beq k 2 then 10 else 0) else
  bif Nat.beq g 9 then (bif Nat.beq k 0 then 12 else bif Nat.beq k 7 then 49 else bif Nat.beq k 2 then 49 else 0) else
  bif Nat.beq g 10 then (bif Nat.beq k 0 then 16 else bif Nat.beq k 9 then 24 else bif Nat.beq k 2 then 24 else 0) else
  bif Nat.beq g 11 then (bif Nat.beq k 7 then 14352 else bif Nat.beq k 2 then 14352 else 0) else
  bif Nat.beq g 12 then (bif Nat.beq k 0 then 18 else bif Nat.beq k 11 then 14680082 else bif Nat.beq k 2 then 14680082 else bif Nat.beq k 4 then 16 else bif Nat.beq k 23 then 3848290697232 else bif Nat.beq k 6 then 3848290697232 else 0) else
  bif Nat.beq g 13 then (bif Nat.beq k 0 then 100 else bif Nat.beq k 9 then 49252 else bif Nat.beq k 2 then 49252 else bif Nat.beq k 4 then 100 else bif Nat.beq k 17 then 201326692 else bif Nat.beq k 6 then 201326692 else 0) else
  bif Nat.beq g 17 then (bif Nat.beq k 0 then 32 else bif Nat.beq k 11 then 196641 else bif Nat.beq k 2 then 196641 else 0) else
  bif Nat.beq g 18 then (bif Nat.beq k 0 then 8 else bif Nat.beq k 7 then 7176 else bif Nat.beq k 2 then 7176 else 0) else
  bif Nat.beq g 25 then (bif Nat.beq k 9 then 12291 else bif Nat.beq k 2 then 12291 else 0) else
  bif Nat.beq g 26 then (bif Nat.beq k 9 then 12291 else bif Nat.beq k 2 then 12291 else 0) else
  bif Nat.beq g 27 then (bif Nat.beq k 0 then 96 else bif Nat.beq k 7 then 229472 else bif Nat.beq k 2 then 229472 else 0) else
  bif Nat.beq g 30 then (bif Nat.beq k 7 then 1826 else bif Nat.beq k 2 then 1826 else 0) else
  bif Nat.beq g 31 then (bif Nat.beq k 5 then 387 else bif Nat.beq k 2 then 387 else 0) else
  0
abbrev plan6x1 : Plan := [(0, []), (1, []), (2, []), (3, []), (4, []), (5, []), (6, []), (7, []), (8, []), (10, []), (11, []), (12, []), (13, []), (14, []), (15, []), (16, []), (9, [13, 11, 1]), (17, [1]), (18, []), (19, [])]
abbrev plan8x7 : Plan := [(0, []), (1, []), (2, []), (3, []), (4, []), (5, []), (6, []), (7, []), (8, []), (9, []), (10, []), (12, []), (13, []), (14, []), (11, []), (15, []), (16, []), (17, []), (18, [])]
abbrev plan12x3 : Plan := [(0, []), (1, []), (3, []), (4, []), (5, []), (2, [4]), (6, []), (7, []), (8, [])]
abbrev plan13x5 : Plan := [(0, []), (1, []), (2, []), (3, [1]), (4, [1]), (5, []), (6, []), (7, [])]
abbrev plan13x9 : Plan := [(0, []), (1, []), (2, []), (3, [1]), (4, [1]), (5, []), (6, []), (7, [])]
abbrev plan13x12 : Plan := [(0, []), (1, []), (2, []), (3, []), (4, []), (5, [4]), (6, [4]), (7, [])]
abbrev plan13x13 : Plan := [(0, []), (1, []), (2, []), (3, []), (4, []), (5, [4]), (6, []), (7, [])]
abbrev plan23x3 : Plan := [(0, []), (1, []), (2, []), (3, []), (4, []), (5, []), (6, []), (7, []), (8, []), (9, []), (10, []), (11, []), (12, []), (13, []), (14, [])]
abbrev plan23x8 : Plan := [(0, []), (1, []), (2, []), (3, []), (4, []), (5, []), (6, []), (7, []), (8, []), (9, []), (10, []), (11, []), (12, []), (13, []), (14, []), (15, [])]
abbrev plan24x4 : Plan := [(0, []), (1, []), (2, []), (3, []), (4, []), (5, []), (6, []), (7, []), (8, []), (9, []), (10, []), (11, [])]
abbrev plan24x8 : Plan := [(0, []), (1, []), (2, []), (3, []), (4, []), (5, []), (6, []), (7, []), (8, []), (9, []), (10, []), (11, []), (12, []), (13, []), (14, []), (15, []), (16, [])]
abbrev plan25x6 : Plan := [(0, []), (1, []), (2, []), (3, []), (4, []), (5, []), (6, []), (7, []), (8, [])]
abbrev plan26x6 : Plan := [(0, []), (1, []), (2, []), (3, []), (4, []), (5, []), (6, []), (7, []), (8, [])]
def tab : Tab := ⟨fun g => bif Nat.beq g 4 then some closedF else none, masks⟩
theorem bt : BT Try.prog 27 5 := ⟨Try.underlying27, Try.underlying5, fun _ => rfl, ⟨_, rfl, rfl, rfl, rfl⟩, fun _ => rfl⟩
theorem it42 : IT Try.prog 22 2 .i64 := ⟨Try.underlying22, Try.underlying2, fun _ => rfl, ⟨_, rfl, rfl, rfl, by decide⟩⟩
theorem tt43 : TT Try.prog 23 9 := ⟨Try.underlying23, Try.underlying9, fun _ => rfl, ⟨_, rfl, rfl, rfl, by decide⟩⟩
end Go.Proofs.Ytpagagiojnhhfab
