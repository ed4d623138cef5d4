/- The table of contracts, the masks and the plans of this seat's functions. -/
import Derived.Test.YtpagagiojnhhfaaProg
import Derived.Test.YtpagagiojnhhfaaGmStep
namespace Go.Proofs.Ytpagagiojnhhfaa
open Go.AM Go.AM.St
def masks (g k : Nat) : Nat :=
  bif Nat.beq g 3 then (bif Nat.beq k 13 then 14 else bif Nat.beq k 2 then 14 else 0) else
  bif Nat.beq g 10 then (bif Nat.beq k 23 then 31525197391593472 else bif Nat.beq k 2 then 31525197391593472 else 0) else
  bif Nat.beq g 11 then (bif Nat.beq k 0 then 7182 else bif Nat.beq k 17 then 15375 else bif Nat.beq k 2 then 15375 else bif Nat.beq k 4 then 1842188 else bif Nat.beq k 41 then 1842190 else bif Nat.beq k 6 then 1842190 else bif Nat.beq k 8 then 1036 else bif Nat.beq k 51 then 3413004 else bif Nat.beq k 10 then 3413004 else bif Nat.beq k 73 then 176160768 else bif Nat.beq k 14 then 176160768 else 0) else
  bif Nat.beq g 13 then (bif Nat.beq k 0 then 17 else bif Nat.beq k 15 then 49 else bif Nat.beq k 2 then 49 else bif Nat.beq k 4 then 16 else bif Nat.beq k 23 then 81 else bif Nat.beq k 6 then 81 else 0) else
  bif Nat.beq g 14 then (bif Nat.beq k 0 then 81 else bif Nat.beq k 17 then 209 else bif Nat.beq k 2 then 209 else bif Nat.beq k 4 then 1 else bif Nat.beq k 29 then 273 else bif Nat.beq k 6 then 273 else 0) else
  bif Nat.beq g 16 then (bif Nat.beq k 0 then 48 else bif Nat.beq k 15 then 113 else bif Nat.beq k 2 then 113 else bif Nat.beq k 4 then 16 else bif Nat.beq k 27 then 560 else bif Nat.beq k 6 then 560 else 0) else
  bif Nat.beq g 19 then (bif Nat.beq k 0 then 16 else bif Nat.beq k 9 then 24 else bif Nat.beq k 2 then 24 else 0) else
  bif Nat.beq g 20 then (bif Nat.beq k 7 then 14352 else bif Nat.beq k 2 then 14352 else 0) else
  bif Nat.beq g 21 then (bif Nat.beq k 7 then 49 else bif Nat.beq k 2 then 49 else 0) else
  bif Nat.beq g 22 then (bif Nat.beq k 0 then 16 else bif Nat.beq k 9 then 24 else bif Nat.beq k 2 then 24 else 0) else
  bif Nat.beq g 27 then (bif Nat.beq k 0 then 32 else bif Nat.beq k 11 then 196641 else bif Nat.beq k 2 then 196641 else 0) else
  bif Nat.beq g 28 then (bif Nat.beq k 0 then 32 else bif Nat.beq k 7 then 99 else bif Nat.beq k 2 then 99 else 0) else
  bif Nat.beq g 29 then (bif Nat.beq k 0 then 8 else bif Nat.beq k 7 then 7176 else bif Nat.beq k 2 then 7176 else 0) else
  bif Nat.beq g 30 then (bif Nat.beq k 0 then 8 else bif Nat.beq k 7 then 57 else bif Nat.beq k 2 then 57 else 0) else
  bif Nat.beq g 33 then (bif Nat.beq k 0 then 96 else bif Nat.beq k 7 then 229472 else bif Nat.beq k 2 then 229472 else 0) else
  bif Nat.beq g 34 then (bif Nat.beq k 0 then 96 else bif Nat.beq k 7 then 226 else bif Nat.beq k 2 then 226 else 0) else
  bif Nat.beq g 38 then (bif Nat.beq k 0 then 18 else bif Nat.beq k 11 then 14680082 else bif Nat.beq k 2 then 14680082 else bif Nat.beq k 4 then 16 else bif Nat.beq k 23 then 3848290697232 else bif Nat.beq k 6 then 3848290697232 else 0) else
  bif Nat.beq g 40 then (bif Nat.beq k 0 then 2 else bif Nat.beq k 5 then 10 else bif Nat.beq k 2 then 10 else 0) else
  bif Nat.beq g 42 then (bif Nat.beq k 0 then 12 else bif Nat.beq k 9 then 44 else bif Nat.beq k 2 then 44 else bif Nat.beq k 19 then 76 else bif Nat.beq k 6 then 76 else 0) else
  bif Nat.beq g 43 then (bif Nat.beq k 0 then 100 else bif Nat.beq k 9 then 49252 else bif Nat.beq k 2 then 49252 else bif Nat.beq k 4 then 100 else bif Nat.beq k 17 then 201326692 else bif Nat.beq k 6 then 201326692 else 0) else
  bif Nat.beq g 44 then (bif Nat.beq k 0 then 10 else bif Nat.beq k 7 then 26 else bif Nat.beq k 2 then 26 else bif Nat.beq k 4 then 8 else bif Nat.beq k 17 then 42 else bif Nat.beq k 6 then 42 else 0) else
  bif Nat.beq g 50 then (bif Nat.beq k 0 then 12 else bif Nat.beq k 7 then 49 else bif Nat.beq k 2 then 49 else 0) else
  bif Nat.beq g 51 then (bif Nat.beq k 0 then 12 else bif Nat.beq k 7 then 49 else bif Nat.beq k 2 then 49 else 0) else
  bif Nat.beq g 55 then (bif Nat.beq k 9 then 12291 else bif Nat.beq k 2 then 12291 else 0) else
  bif Nat.beq g 56 then (bif Nat.beq k 9 then 12291 else bif Nat.beq k 2 then 12291 else 0) else
  bif Nat.beq g 60 then (bif Nat.beq k 0 then 100 else bif Nat.beq k 9 then 228 else bif Nat.beq k 2 then 228 else bif Nat.beq k 4 then 100 else bif Nat.beq k 17 then 356 else bif Nat.beq k 6 then 356 else bif Nat.beq k 8 then 100 else 0) else
  bif Nat.beq g 61 then (bif Nat.beq k 5 then 387 else bif Nat.beq k 2 then 387 else 0) else
  bif Nat.beq g 62 then (bif Nat.beq k 7 then 1826 else bif Nat.beq k 2 then 1826 else 0) else
  bif Nat.beq g 65 then (bif Nat.beq k 0 then 8 else bif Nat.beq k 7 then 25 else bif Nat.beq k 2 then 25 else 0) else
  bif Nat.beq g 66 then (bif Nat.beq k 9 then 133 else bif Nat.beq k 2 then 133 else 0) else
  0
abbrev plan3x8 : Plan := [(0, []), (1, []), (2, []), (3, []), (4, []), (5, []), (6, []), (7, []), (8, [])]
abbrev plan4x11 : Plan := [(0, []), (1, []), (2, []), (3, [1]), (4, []), (5, []), (6, []), (7, []), (8, []), (9, []), (10, []), (11, []), (12, []), (13, []), (14, []), (15, []), (16, []), (17, []), (18, []), (19, []), (20, []), (21, []), (22, []), (23, []), (24, []), (25, []), (26, []), (27, []), (28, []), (30, []), (29, []), (31, []), (32, []), (33, []), (34, []), (35, []), (37, []), (36, []), (38, []), (39, []), (40, []), (41, []), (42, []), (45, []), (43, []), (44, []), (46, []), (47, []), (48, []), (49, []), (50, []), (53, []), (54, []), (51, []), (52, []), (55, [52]), (56, []), (57, []), (58, []), (59, []), (60, []), (62, []), (61, []), (63, []), (64, []), (65, []), (66, []), (67, []), (70, []), (68, []), (69, []), (71, []), (72, []), (73, [])]
abbrev plan8x4 : Plan := [(0, []), (2, []), (1, [2]), (3, []), (4, []), (5, [])]
abbrev plan8x7 : Plan := [(0, []), (2, []), (1, [2]), (3, []), (4, []), (5, []), (6, []), (7, []), (8, []), (9, []), (10, []), (11, []), (12, []), (13, []), (15, []), (16, []), (14, [16, 15]), (17, []), (18, []), (19, []), (20, []), (21, []), (22, []), (23, []), (24, []), (25, [])]
abbrev plan8x12 : Plan := [(0, []), (1, []), (2, []), (3, [1]), (4, []), (5, []), (6, []), (7, []), (8, []), (9, []), (10, []), (11, []), (12, []), (13, []), (14, []), (15, []), (16, []), (17, []), (18, []), (19, []), (20, []), (21, []), (22, []), (23, []), (24, []), (25, []), (26, []), (27, []), (28, []), (29, []), (30, []), (31, []), (32, [28, 26]), (33, []), (34, []), (35, []), (36, [])]
abbrev plan11x12 : Plan := [(0, []), (1, []), (3, []), (4, []), (5, []), (6, []), (7, []), (2, [7]), (8, []), (9, []), (10, []), (11, []), (12, [])]
abbrev plan11x17 : Plan := [(0, []), (1, []), (2, []), (3, []), (4, []), (5, []), (6, []), (7, []), (8, []), (9, []), (10, [])]
abbrev plan11x27 : Plan := [(0, []), (1, []), (2, []), (3, []), (4, []), (5, []), (6, []), (7, []), (8, []), (9, [])]
abbrev plan11x38 : Plan := [(0, []), (1, []), (2, []), (3, []), (4, []), (5, []), (6, []), (7, []), (8, []), (9, [])]
abbrev plan15x9 : Plan := [(0, []), (1, []), (2, []), (3, []), (4, []), (5, []), (6, []), (7, []), (8, []), (9, []), (10, []), (11, []), (12, []), (13, []), (14, []), (15, []), (16, []), (17, [])]
abbrev plan15x10 : Plan := [(0, []), (2, []), (5, []), (6, []), (7, []), (8, []), (9, []), (10, []), (11, []), (12, []), (13, []), (14, []), (1, [13, 8]), (3, [13, 8]), (4, []), (15, []), (16, [])]
abbrev plan16x11 : Plan := [(0, []), (1, []), (3, []), (4, []), (5, []), (6, []), (7, []), (2, [7]), (8, []), (9, []), (10, []), (11, []), (12, [])]
abbrev plan16x16 : Plan := [(0, []), (1, []), (2, []), (3, []), (4, []), (5, []), (6, []), (7, []), (8, []), (9, []), (10, []), (11, []), (12, []), (13, []), (14, []), (15, []), (16, []), (17, []), (18, []), (19, []), (20, [])]
abbrev plan37x1 : Plan := [(0, []), (1, []), (2, []), (3, []), (4, []), (5, []), (6, []), (7, []), (8, []), (10, []), (11, []), (12, []), (13, []), (14, []), (15, []), (16, []), (9, [13, 11, 1]), (17, [1]), (18, []), (19, [])]
abbrev plan38x3 : Plan := [(0, []), (1, []), (3, []), (4, []), (5, []), (2, [4]), (6, []), (7, []), (8, [])]
abbrev plan42x6 : Plan := [(0, []), (1, []), (2, []), (3, []), (4, []), (5, []), (6, []), (7, []), (8, []), (9, []), (10, [])]
abbrev plan42x11 : Plan := [(0, []), (1, []), (2, []), (3, []), (4, []), (5, []), (6, []), (7, []), (8, []), (9, []), (10, [])]
abbrev plan43x5 : Plan := [(0, []), (1, []), (2, []), (3, [1]), (4, [1]), (5, []), (6, []), (7, [])]
abbrev plan43x9 : Plan := [(0, []), (1, []), (2, []), (3, [1]), (4, [1]), (5, []), (6, []), (7, [])]
abbrev plan43x12 : Plan := [(0, []), (1, []), (2, []), (3, []), (4, []), (5, [4]), (6, [4]), (7, [])]
abbrev plan43x13 : Plan := [(0, []), (1, []), (2, []), (3, []), (4, []), (5, [4]), (6, []), (7, [])]
abbrev plan44x1 : Plan := [(0, []), (1, []), (3, []), (4, []), (5, []), (2, [4]), (6, []), (7, []), (8, [])]
abbrev plan44x10 : Plan := [(0, []), (1, []), (2, []), (3, []), (4, []), (5, []), (6, []), (9, []), (10, []), (11, []), (12, []), (13, []), (7, [13, 10]), (8, [13, 10]), (14, []), (15, [])]
abbrev plan48x7 : Plan := [(0, []), (1, []), (2, []), (3, []), (4, []), (5, []), (6, []), (7, []), (8, []), (9, []), (10, []), (12, []), (13, []), (14, []), (11, []), (15, []), (16, []), (17, []), (18, [])]
abbrev plan49x5 : Plan := [(0, []), (1, []), (2, []), (3, []), (4, []), (5, []), (6, []), (7, []), (8, []), (9, []), (10, []), (11, []), (14, []), (15, []), (12, []), (13, []), (16, []), (17, []), (18, [])]
abbrev plan55x6 : Plan := [(0, []), (1, []), (2, []), (3, []), (4, []), (5, []), (6, []), (7, []), (8, [])]
abbrev plan56x6 : Plan := [(0, []), (1, []), (2, []), (3, []), (4, []), (5, []), (6, []), (7, []), (8, [])]
abbrev plan58x3 : Plan := [(0, []), (1, []), (2, []), (3, []), (4, []), (5, []), (6, []), (7, []), (8, []), (9, []), (10, []), (11, []), (12, []), (13, []), (14, [])]
abbrev plan58x8 : Plan := [(0, []), (1, []), (2, []), (3, []), (4, []), (5, []), (6, []), (7, []), (8, []), (9, []), (10, []), (11, []), (12, []), (13, []), (14, []), (15, [])]
abbrev plan59x4 : Plan := [(0, []), (1, []), (2, []), (3, []), (4, []), (5, []), (6, []), (7, []), (8, []), (9, []), (10, []), (11, [])]
abbrev plan59x8 : Plan := [(0, []), (1, []), (2, []), (3, []), (4, []), (5, []), (6, []), (7, []), (8, []), (9, []), (10, []), (11, []), (12, []), (13, []), (14, []), (15, []), (16, [])]
abbrev plan60x6 : Plan := [(0, []), (1, []), (2, []), (3, [1]), (4, [1]), (5, []), (6, []), (7, [])]
abbrev plan60x10 : Plan := [(0, []), (1, []), (2, []), (3, []), (4, [1]), (5, [1]), (6, [1]), (7, []), (8, []), (9, [])]
abbrev plan60x15 : Plan := [(0, []), (1, []), (2, []), (3, []), (4, []), (5, [4]), (6, []), (7, [])]
abbrev plan63x3 : Plan := [(0, []), (1, []), (2, []), (3, []), (4, []), (5, []), (6, []), (7, []), (8, []), (9, []), (10, []), (11, []), (12, []), (13, []), (14, [])]
abbrev plan63x8 : Plan := [(0, []), (1, []), (2, []), (3, []), (4, []), (5, []), (6, []), (7, []), (8, []), (9, []), (10, []), (11, []), (12, []), (13, []), (14, []), (15, []), (16, []), (17, []), (18, []), (19, []), (20, []), (21, []), (22, []), (23, []), (24, []), (25, []), (26, []), (27, []), (28, [])]
abbrev plan64x3 : Plan := [(0, []), (1, []), (2, []), (3, []), (4, []), (5, []), (6, []), (7, []), (8, []), (9, []), (10, []), (11, [])]
abbrev plan64x7 : Plan := [(0, []), (1, []), (2, []), (3, []), (4, []), (5, []), (6, []), (7, []), (8, []), (9, []), (10, []), (11, []), (12, []), (13, []), (14, []), (15, []), (16, [])]
abbrev plan66x7 : Plan := [(0, []), (1, []), (2, []), (3, []), (4, []), (5, []), (6, []), (7, []), (8, []), (9, []), (10, []), (11, []), (12, []), (13, []), (14, [])]
def tab : Tab := ⟨fun g => bif Nat.beq g 17 then some closedF else none, masks⟩
theorem bt : BT Try.prog 25 5 := ⟨Try.underlying25, Try.underlying5, fun _ => rfl, ⟨_, rfl, rfl, rfl, rfl⟩, fun _ => rfl⟩
theorem it42 : IT Try.prog 42 2 .i64 := ⟨Try.underlying42, Try.underlying2, fun _ => rfl, ⟨_, rfl, rfl, rfl, by decide⟩⟩
theorem tt43 : TT Try.prog 43 9 := ⟨Try.underlying43, Try.underlying9, fun _ => rfl, ⟨_, rfl, rfl, rfl, by decide⟩⟩
end Go.Proofs.Ytpagagiojnhhfaa
