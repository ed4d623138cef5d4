/- The table of contracts, the masks and the plans of this seat's functions. -/
import Derived.Test.YtahhajakgakdhaaProg
import Derived.Test.YtahhajakgakdhaaAmStrKeys
import Derived.Test.YtahhajakgakdhaaGmStep
namespace Go.Proofs.Ytahhajakgakdhaa
open Go.AM Go.AM.St
set_option maxRecDepth 100000
def masks (g k : Nat) : Nat :=
  bif Nat.beq g 4 then (bif Nat.beq k 0 then 289 else bif Nat.beq k 17 then 803 else bif Nat.beq k 2 then 803 else 0) else
  bif Nat.beq g 6 then (bif Nat.beq k 0 then 48 else bif Nat.beq k 19 then 50331697 else bif Nat.beq k 2 then 50331697 else bif Nat.beq k 4 then 48 else bif Nat.beq k 35 then 105553116266672 else bif Nat.beq k 6 then 105553116266672 else 0) else
  bif Nat.beq g 7 then (bif Nat.beq k 0 then 259 else bif Nat.beq k 25 then 234247 else bif Nat.beq k 2 then 234247 else 0) else
  bif Nat.beq g 9 then (bif Nat.beq k 0 then 67 else bif Nat.beq k 17 then 195 else bif Nat.beq k 2 then 195 else 0) else
  bif Nat.beq g 11 then (bif Nat.beq k 0 then 48 else bif Nat.beq k 13 then 113 else bif Nat.beq k 2 then 113 else 0) else
  bif Nat.beq g 12 then (bif Nat.beq k 0 then 1088 else bif Nat.beq k 23 then 3267 else bif Nat.beq k 2 then 3267 else bif Nat.beq k 4 then 3267 else 0) else
  bif Nat.beq g 20 then (bif Nat.beq k 0 then 1 else bif Nat.beq k 5 then 8195 else bif Nat.beq k 2 then 8195 else 0) else
  bif Nat.beq g 22 then (bif Nat.beq k 0 then 32 else bif Nat.beq k 7 then 99 else bif Nat.beq k 2 then 99 else 0) else
  bif Nat.beq g 24 then (bif Nat.beq k 0 then 12 else bif Nat.beq k 7 then 49 else bif Nat.beq k 2 then 49 else 0) else
  bif Nat.beq g 26 then (bif Nat.beq k 9 then 35 else bif Nat.beq k 2 then 35 else 0) else
  bif Nat.beq g 29 then (bif Nat.beq k 0 then 2 else bif Nat.beq k 5 then 10 else bif Nat.beq k 2 then 10 else 0) else
  bif Nat.beq g 39 then (bif Nat.beq k 19 then 99 else bif Nat.beq k 2 then 99 else 0) else
  bif Nat.beq g 40 then (bif Nat.beq k 0 then 17 else bif Nat.beq k 5 then 51 else bif Nat.beq k 2 then 51 else 0) else
  bif Nat.beq g 49 then (bif Nat.beq k 0 then 10 else bif Nat.beq k 7 then 26 else bif Nat.beq k 2 then 26 else bif Nat.beq k 4 then 8 else bif Nat.beq k 17 then 42 else bif Nat.beq k 6 then 42 else 0) else
  bif Nat.beq g 50 then (bif Nat.beq k 0 then 32 else bif Nat.beq k 7 then 99 else bif Nat.beq k 2 then 99 else 0) else
  bif Nat.beq g 53 then (bif Nat.beq k 0 then 12 else bif Nat.beq k 7 then 49 else bif Nat.beq k 2 then 49 else 0) else
  bif Nat.beq g 54 then (bif Nat.beq k 0 then 12 else bif Nat.beq k 9 then 44 else bif Nat.beq k 2 then 44 else bif Nat.beq k 19 then 76 else bif Nat.beq k 6 then 76 else 0) else
  bif Nat.beq g 55 then (bif Nat.beq k 0 then 16 else bif Nat.beq k 7 then 3600 else bif Nat.beq k 2 then 3600 else 0) else
  bif Nat.beq g 67 then (bif Nat.beq k 0 then 16 else bif Nat.beq k 9 then 24 else bif Nat.beq k 2 then 24 else 0) else
  bif Nat.beq g 68 then (bif Nat.beq k 0 then 96 else bif Nat.beq k 7 then 226 else bif Nat.beq k 2 then 226 else 0) else
  bif Nat.beq g 69 then (bif Nat.beq k 0 then 8 else bif Nat.beq k 7 then 57 else bif Nat.beq k 2 then 57 else 0) else
  bif Nat.beq g 70 then (bif Nat.beq k 0 then 100 else bif Nat.beq k 9 then 228 else bif Nat.beq k 2 then 228 else bif Nat.beq k 4 then 100 else bif Nat.beq k 17 then 356 else bif Nat.beq k 6 then 356 else bif Nat.beq k 8 then 100 else 0) else
  bif Nat.beq g 75 then (bif Nat.beq k 3 then 33 else bif Nat.beq k 2 then 33 else 0) else
  bif Nat.beq g 77 then (bif Nat.beq k 0 then 67 else bif Nat.beq k 5 then 67 else bif Nat.beq k 2 then 67 else 0) else
  bif Nat.beq g 78 then (bif Nat.beq k 0 then 16 else bif Nat.beq k 9 then 24 else bif Nat.beq k 2 then 24 else 0) else
  bif Nat.beq g 79 then (bif Nat.beq k 7 then 14352 else bif Nat.beq k 2 then 14352 else 0) else
  bif Nat.beq g 80 then (bif Nat.beq k 0 then 18 else bif Nat.beq k 11 then 14680082 else bif Nat.beq k 2 then 14680082 else bif Nat.beq k 4 then 16 else bif Nat.beq k 23 then 3848290697232 else bif Nat.beq k 6 then 3848290697232 else 0) else
  bif Nat.beq g 81 then (bif Nat.beq k 0 then 100 else bif Nat.beq k 9 then 49252 else bif Nat.beq k 2 then 49252 else bif Nat.beq k 4 then 100 else bif Nat.beq k 17 then 201326692 else bif Nat.beq k 6 then 201326692 else 0) else
  bif Nat.beq g 88 then (bif Nat.beq k 0 then 8 else bif Nat.beq k 7 then 7176 else bif Nat.beq k 2 then 7176 else 0) else
  bif Nat.beq g 89 then (bif Nat.beq k 0 then 32 else bif Nat.beq k 11 then 196641 else bif Nat.beq k 2 then 196641 else 0) else
  bif Nat.beq g 91 then (bif Nat.beq k 5 then 783 else bif Nat.beq k 2 then 783 else 0) else
  bif Nat.beq g 99 then (bif Nat.beq k 9 then 12291 else bif Nat.beq k 2 then 12291 else 0) else
  bif Nat.beq g 100 then (bif Nat.beq k 9 then 12291 else bif Nat.beq k 2 then 12291 else 0) else
  bif Nat.beq g 101 then (bif Nat.beq k 0 then 96 else bif Nat.beq k 7 then 229472 else bif Nat.beq k 2 then 229472 else 0) else
  bif Nat.beq g 102 then (bif Nat.beq k 7 then 49 else bif Nat.beq k 2 then 49 else 0) else
  bif Nat.beq g 103 then (bif Nat.beq k 0 then 8 else bif Nat.beq k 7 then 25 else bif Nat.beq k 2 then 25 else 0) else
  bif Nat.beq g 104 then (bif Nat.beq k 9 then 133 else bif Nat.beq k 2 then 133 else 0) else
  bif Nat.beq g 105 then (bif Nat.beq k 3 then 71 else bif Nat.beq k 2 then 71 else bif Nat.beq k 4 then 71 else bif Nat.beq k 9 then 199 else bif Nat.beq k 6 then 199 else 0) else
  bif Nat.beq g 106 then (bif Nat.beq k 0 then 449 else bif Nat.beq k 9 then 961 else bif Nat.beq k 2 then 961 else bif Nat.beq k 17 then 1217 else bif Nat.beq k 6 then 1217 else 0) else
  bif Nat.beq g 107 then (bif Nat.beq k 11 then 963 else bif Nat.beq k 2 then 963 else 0) else
  bif Nat.beq g 109 then (bif Nat.beq k 5 then 193 else bif Nat.beq k 2 then 193 else 0) else
  bif Nat.beq g 110 then (bif Nat.beq k 7 then 391 else bif Nat.beq k 2 then 391 else bif Nat.beq k 4 then 391 else bif Nat.beq k 11 then 391 else bif Nat.beq k 6 then 391 else bif Nat.beq k 8 then 391 else bif Nat.beq k 29 then 903 else bif Nat.beq k 10 then 903 else bif Nat.beq k 12 then 391 else bif Nat.beq k 41 then 1415 else bif Nat.beq k 14 then 1415 else 0) else
  bif Nat.beq g 112 then (bif Nat.beq k 0 then 512 else bif Nat.beq k 7 then 1539 else bif Nat.beq k 2 then 1539 else bif Nat.beq k 4 then 1539 else bif Nat.beq k 7 then 1539 else bif Nat.beq k 6 then 1539 else bif Nat.beq k 8 then 1539 else bif Nat.beq k 11 then 1539 else bif Nat.beq k 10 then 1539 else 0) else
  bif Nat.beq g 113 then (bif Nat.beq k 0 then 3075 else bif Nat.beq k 7 then 3075 else bif Nat.beq k 2 then 3075 else bif Nat.beq k 4 then 3075 else bif Nat.beq k 11 then 3075 else bif Nat.beq k 6 then 3075 else bif Nat.beq k 8 then 2051 else bif Nat.beq k 27 then 3075 else bif Nat.beq k 10 then 3075 else bif Nat.beq k 12 then 3075 else bif Nat.beq k 27 then 3075 else bif Nat.beq k 14 then 3075 else bif Nat.beq k 16 then 3075 else bif Nat.beq k 31 then 3075 else bif Nat.beq k 18 then 3075 else 0) else
  bif Nat.beq g 118 then (bif Nat.beq k 7 then 1826 else bif Nat.beq k 2 then 1826 else 0) else
  bif Nat.beq g 120 then (bif Nat.beq k 3 then 269 else bif Nat.beq k 2 then 269 else 0) else
  bif Nat.beq g 126 then (bif Nat.beq k 5 then 387 else bif Nat.beq k 2 then 387 else 0) else
  0
abbrev plan3x11 : Plan := [(0, []), (1, []), (2, []), (3, []), (4, []), (5, []), (7, []), (9, []), (6, [4]), (8, [4]), (10, []), (11, []), (12, []), (13, []), (14, [])]
abbrev plan11x9 : Plan := [(0, []), (1, []), (2, []), (3, []), (4, []), (5, []), (6, []), (7, []), (8, []), (9, []), (10, []), (11, []), (12, []), (13, []), (14, []), (15, []), (16, []), (17, [])]
abbrev plan20x4 : Plan := [(0, []), (1, []), (2, []), (3, []), (4, []), (5, []), (6, []), (7, []), (8, []), (9, []), (10, []), (11, []), (12, []), (13, []), (14, []), (15, []), (16, []), (17, []), (18, [])]
abbrev plan26x6 : Plan := [(0, []), (1, []), (2, []), (3, []), (4, []), (5, []), (6, []), (7, []), (8, []), (9, [])]
abbrev plan28x1 : Plan := [(0, []), (1, []), (2, []), (3, []), (4, []), (5, []), (6, []), (7, []), (8, []), (10, []), (11, []), (12, []), (13, []), (14, []), (15, []), (16, []), (9, [13, 11, 1]), (17, [1]), (18, []), (19, [])]
abbrev plan38x7 : Plan := [(0, []), (1, []), (2, []), (3, []), (5, []), (6, []), (7, []), (8, []), (4, [7]), (9, []), (10, []), (11, [])]
abbrev plan38x9 : Plan := [(0, []), (1, []), (2, []), (4, []), (5, []), (6, []), (3, [6]), (7, []), (8, []), (9, [])]
abbrev plan38x11 : Plan := [(0, []), (1, []), (2, []), (3, []), (4, []), (6, []), (7, []), (8, []), (9, []), (10, []), (5, [10, 8]), (11, []), (12, []), (13, [])]
abbrev plan38x13 : Plan := [(0, []), (1, []), (2, []), (3, []), (4, []), (6, []), (7, []), (8, []), (9, []), (10, []), (5, [10, 8]), (11, []), (12, []), (13, [])]
abbrev plan39x1 : Plan := [(0, []), (2, []), (3, []), (4, []), (5, []), (1, [5]), (6, []), (7, []), (8, []), (10, []), (11, []), (12, []), (13, []), (9, [13]), (14, []), (15, [])]
abbrev plan39x12 : Plan := [(0, []), (1, []), (2, []), (3, []), (4, []), (5, []), (6, []), (7, []), (8, []), (9, []), (10, []), (11, []), (12, []), (13, []), (14, []), (15, []), (16, []), (17, []), (18, []), (19, []), (20, []), (21, []), (22, []), (23, []), (24, []), (25, []), (26, []), (27, []), (28, []), (29, []), (30, [])]
abbrev plan41x6 : Plan := [(0, []), (1, []), (2, []), (3, []), (4, []), (5, []), (6, []), (7, []), (8, []), (9, []), (10, [])]
abbrev plan41x10 : Plan := [(0, []), (1, []), (2, []), (3, []), (4, []), (5, []), (6, []), (7, []), (8, []), (9, []), (10, []), (11, []), (12, []), (13, []), (14, [])]
abbrev plan49x1 : Plan := [(0, []), (1, []), (3, []), (4, []), (5, []), (2, [4]), (6, []), (7, []), (8, [])]
abbrev plan49x10 : Plan := [(0, []), (1, []), (2, []), (3, []), (4, []), (5, []), (6, []), (9, []), (10, []), (11, []), (12, []), (13, []), (7, [13, 10]), (8, [13, 10]), (14, []), (15, [])]
abbrev plan52x5 : Plan := [(0, []), (1, []), (2, []), (3, []), (4, []), (5, []), (6, []), (7, []), (8, []), (9, []), (10, []), (11, []), (14, []), (15, []), (12, []), (13, []), (16, []), (17, []), (18, [])]
abbrev plan54x6 : Plan := [(0, []), (1, []), (2, []), (3, []), (4, []), (5, []), (6, []), (7, []), (8, []), (9, []), (10, [])]
abbrev plan54x11 : Plan := [(0, []), (1, []), (2, []), (3, []), (4, []), (5, []), (6, []), (7, []), (8, []), (9, []), (10, [])]
abbrev plan60x10 : Plan := [(0, []), (1, []), (2, []), (3, []), (4, []), (5, []), (6, []), (7, []), (8, []), (9, []), (10, []), (11, []), (12, []), (14, []), (13, [3]), (15, [3]), (16, []), (17, []), (18, [])]
abbrev plan61x8 : Plan := [(0, []), (1, []), (2, []), (3, []), (4, []), (5, []), (6, []), (7, []), (8, []), (9, []), (10, []), (11, []), (12, []), (13, []), (14, []), (15, []), (16, []), (17, []), (18, []), (19, []), (20, []), (21, []), (22, []), (23, []), (24, [])]
abbrev plan62x10 : Plan := [(0, []), (1, []), (2, []), (3, []), (4, []), (5, []), (6, []), (7, []), (8, []), (9, []), (10, []), (11, []), (12, []), (13, []), (14, []), (15, []), (16, []), (17, []), (18, []), (19, []), (20, []), (21, []), (22, []), (23, []), (24, []), (25, []), (26, []), (27, []), (28, []), (29, []), (30, []), (31, []), (32, []), (33, []), (34, []), (35, [])]
abbrev plan63x12 : Plan := [(0, []), (1, []), (2, []), (3, []), (4, []), (5, []), (6, []), (8, []), (9, []), (10, []), (11, []), (12, []), (13, []), (14, []), (7, [11]), (15, []), (16, []), (17, []), (18, [])]
abbrev plan63x15 : Plan := [(0, []), (1, []), (2, []), (3, []), (4, []), (5, []), (6, []), (7, [])]
abbrev plan70x6 : Plan := [(0, []), (1, []), (2, []), (3, [1]), (4, [1]), (5, []), (6, []), (7, [])]
abbrev plan70x10 : Plan := [(0, []), (1, []), (2, []), (3, []), (4, [1]), (5, [1]), (6, [1]), (7, []), (8, []), (9, [])]
abbrev plan70x15 : Plan := [(0, []), (1, []), (2, []), (3, []), (4, []), (5, [4]), (6, []), (7, [])]
abbrev plan71x7 : Plan := [(0, []), (1, []), (2, []), (3, []), (4, []), (5, []), (6, []), (7, []), (8, []), (9, []), (10, []), (12, []), (13, []), (14, []), (11, []), (15, []), (16, []), (17, []), (18, [])]
abbrev plan77x4 : Plan := [(0, []), (1, []), (2, []), (3, []), (4, []), (5, []), (6, []), (7, []), (8, []), (9, []), (10, []), (11, []), (12, []), (13, []), (14, []), (15, []), (16, []), (17, []), (18, []), (19, []), (20, [16, 12]), (21, [])]
abbrev plan80x3 : Plan := [(0, []), (1, []), (3, []), (4, []), (5, []), (2, [4]), (6, []), (7, []), (8, [])]
abbrev plan81x5 : Plan := [(0, []), (1, []), (2, []), (3, [1]), (4, [1]), (5, []), (6, []), (7, [])]
abbrev plan81x9 : Plan := [(0, []), (1, []), (2, []), (3, [1]), (4, [1]), (5, []), (6, []), (7, [])]
abbrev plan81x12 : Plan := [(0, []), (1, []), (2, []), (3, []), (4, []), (5, [4]), (6, [4]), (7, [])]
abbrev plan81x13 : Plan := [(0, []), (1, []), (2, []), (3, []), (4, []), (5, [4]), (6, []), (7, [])]
abbrev plan86x3 : Plan := [(0, []), (1, []), (2, []), (3, []), (4, []), (5, []), (6, []), (7, []), (8, []), (9, []), (10, []), (11, []), (12, []), (13, []), (14, [])]
abbrev plan86x8 : Plan := [(0, []), (1, []), (2, []), (3, []), (4, []), (5, []), (6, []), (7, []), (8, []), (9, []), (10, []), (11, []), (12, []), (13, []), (14, []), (15, []), (16, []), (17, []), (18, []), (19, []), (20, []), (21, []), (22, []), (23, []), (24, []), (25, []), (26, []), (27, []), (28, [])]
abbrev plan87x3 : Plan := [(0, []), (1, []), (2, []), (3, []), (4, []), (5, []), (6, []), (7, []), (8, []), (9, []), (10, []), (11, [])]
abbrev plan87x7 : Plan := [(0, []), (1, []), (2, []), (3, []), (4, []), (5, []), (6, []), (7, []), (8, []), (9, []), (10, []), (11, []), (12, []), (13, []), (14, []), (15, []), (16, [])]
abbrev plan91x17 : Plan := [(0, []), (1, []), (2, []), (3, []), (4, []), (5, []), (6, []), (7, []), (8, []), (9, []), (10, []), (11, []), (12, []), (13, []), (14, [])]
abbrev plan97x3 : Plan := [(0, []), (1, []), (2, []), (3, []), (4, []), (5, []), (6, []), (7, []), (8, []), (9, []), (10, []), (11, []), (12, []), (13, []), (14, [])]
abbrev plan97x8 : Plan := [(0, []), (1, []), (2, []), (3, []), (4, []), (5, []), (6, []), (7, []), (8, []), (9, []), (10, []), (11, []), (12, []), (13, []), (14, []), (15, [])]
abbrev plan98x4 : Plan := [(0, []), (1, []), (2, []), (3, []), (4, []), (5, []), (6, []), (7, []), (8, []), (9, []), (10, []), (11, [])]
abbrev plan98x8 : Plan := [(0, []), (1, []), (2, []), (3, []), (4, []), (5, []), (6, []), (7, []), (8, []), (9, []), (10, []), (11, []), (12, []), (13, []), (14, []), (15, []), (16, [])]
abbrev plan99x6 : Plan := [(0, []), (1, []), (2, []), (3, []), (4, []), (5, []), (6, []), (7, []), (8, [])]
abbrev plan100x6 : Plan := [(0, []), (1, []), (2, []), (3, []), (4, []), (5, []), (6, []), (7, []), (8, [])]
abbrev plan104x7 : Plan := [(0, []), (1, []), (2, []), (3, []), (4, []), (5, []), (6, []), (7, []), (8, []), (9, []), (10, []), (11, []), (12, []), (13, []), (14, [])]
abbrev plan105x4 : Plan := [(0, []), (1, []), (2, []), (3, []), (4, []), (5, []), (6, []), (7, []), (8, []), (9, []), (10, []), (11, []), (12, []), (13, []), (14, [])]
abbrev plan105x6 : Plan := [(0, []), (1, []), (2, []), (3, []), (4, []), (5, []), (6, []), (7, []), (8, []), (9, []), (10, []), (11, []), (12, []), (13, []), (14, []), (15, []), (16, []), (17, [])]
abbrev plan106x10 : Plan := [(0, []), (1, []), (2, []), (3, []), (4, []), (5, []), (6, []), (7, []), (8, []), (9, []), (10, []), (11, []), (12, []), (13, []), (14, []), (15, []), (16, []), (17, []), (18, []), (19, [])]
abbrev plan107x10 : Plan := [(0, []), (1, []), (2, []), (3, []), (4, []), (5, []), (6, []), (7, []), (8, []), (9, []), (10, []), (11, []), (12, []), (13, []), (14, []), (15, []), (16, []), (17, []), (18, []), (19, [])]
abbrev plan109x3 : Plan := [(0, []), (1, []), (2, []), (3, []), (4, []), (5, []), (6, []), (7, []), (8, []), (9, []), (10, []), (11, []), (12, []), (13, []), (14, []), (15, [])]
abbrev plan110x5 : Plan := [(0, []), (1, []), (2, []), (3, []), (4, []), (5, []), (6, []), (7, []), (8, []), (9, []), (10, []), (11, []), (12, []), (13, []), (14, []), (15, [])]
abbrev plan110x11 : Plan := [(0, []), (1, []), (2, []), (3, []), (4, []), (5, []), (6, []), (7, []), (8, []), (9, []), (10, []), (11, []), (12, []), (13, []), (14, []), (15, []), (16, []), (17, [])]
abbrev plan110x16 : Plan := [(0, []), (1, []), (2, []), (3, []), (4, []), (5, []), (6, []), (7, []), (8, []), (9, []), (10, [])]
abbrev plan110x17 : Plan := [(0, []), (1, []), (2, []), (3, []), (4, []), (5, []), (6, []), (7, []), (8, []), (9, []), (10, []), (11, []), (12, []), (13, []), (14, []), (15, []), (16, []), (17, [])]
abbrev plan110x22 : Plan := [(0, []), (1, []), (2, []), (3, []), (4, []), (5, []), (6, []), (7, []), (8, []), (9, []), (10, [])]
abbrev plan110x23 : Plan := [(0, []), (1, []), (2, []), (3, []), (4, []), (5, []), (6, []), (7, []), (8, []), (9, []), (10, []), (11, []), (12, []), (13, []), (14, []), (15, []), (16, []), (17, [])]
abbrev plan112x1 : Plan := [(0, []), (1, []), (2, []), (3, []), (4, []), (5, []), (6, []), (7, []), (8, []), (9, []), (10, []), (11, []), (12, []), (13, []), (14, []), (15, [])]
abbrev plan112x3 : Plan := [(0, []), (1, []), (2, []), (3, []), (4, []), (5, []), (6, []), (7, []), (8, []), (9, []), (10, []), (11, []), (12, []), (13, []), (14, [])]
abbrev plan112x5 : Plan := [(0, []), (1, []), (2, []), (3, []), (4, []), (5, []), (6, []), (7, []), (8, []), (9, []), (10, []), (11, []), (12, []), (13, [])]
abbrev plan112x8 : Plan := [(0, []), (1, []), (2, []), (3, []), (4, []), (5, []), (6, []), (7, []), (8, []), (9, []), (10, []), (11, []), (12, []), (13, []), (14, []), (15, [])]
abbrev plan113x1 : Plan := [(0, []), (1, []), (2, []), (3, []), (4, []), (5, []), (6, []), (7, []), (8, []), (9, []), (10, []), (11, []), (12, []), (13, []), (14, []), (15, [])]
abbrev plan113x3 : Plan := [(0, []), (1, []), (2, []), (3, []), (4, []), (5, []), (6, []), (7, []), (8, []), (9, []), (10, []), (11, []), (12, []), (13, [])]
abbrev plan113x5 : Plan := [(0, []), (1, []), (2, []), (3, []), (4, []), (5, []), (6, []), (7, []), (8, []), (9, []), (10, []), (11, []), (12, []), (13, []), (14, [])]
abbrev plan113x8 : Plan := [(0, []), (1, []), (2, []), (3, []), (4, []), (5, []), (6, []), (7, []), (8, []), (9, []), (10, []), (11, []), (12, []), (13, []), (14, []), (15, [])]
abbrev plan113x10 : Plan := [(0, []), (1, []), (2, []), (3, []), (4, []), (5, []), (6, []), (7, []), (8, []), (9, []), (10, []), (11, []), (12, []), (13, []), (14, []), (15, [])]
abbrev plan113x13 : Plan := [(0, []), (1, []), (2, []), (3, []), (4, []), (5, []), (6, []), (7, []), (8, []), (9, []), (10, []), (11, []), (12, []), (13, [])]
abbrev plan113x15 : Plan := [(0, []), (1, []), (2, []), (3, []), (4, []), (5, []), (6, []), (7, []), (8, []), (9, []), (10, []), (11, []), (12, []), (13, []), (14, [])]
abbrev plan113x18 : Plan := [(0, []), (1, []), (2, []), (3, []), (4, []), (5, []), (6, []), (7, []), (8, []), (9, []), (10, []), (11, []), (12, []), (13, []), (14, []), (15, [])]
abbrev plan113x21 : Plan := [(0, []), (1, []), (2, []), (3, []), (4, []), (5, []), (6, []), (7, []), (8, []), (9, []), (10, []), (11, []), (12, []), (13, []), (14, []), (15, [])]
abbrev plan120x3 : Plan := [(0, []), (1, []), (2, []), (3, []), (4, []), (5, []), (6, []), (7, []), (8, []), (9, []), (10, []), (11, []), (12, []), (13, []), (14, []), (15, []), (16, []), (17, []), (18, []), (19, [])]
abbrev plan120x5 : Plan := [(0, []), (1, []), (2, []), (3, []), (4, []), (5, []), (6, []), (7, []), (8, []), (9, []), (10, []), (11, []), (12, []), (13, [])]
abbrev plan120x6 : Plan := [(0, []), (1, []), (2, []), (3, []), (4, []), (5, []), (6, []), (7, []), (8, []), (9, []), (10, []), (11, []), (12, []), (13, []), (14, []), (15, []), (16, []), (17, []), (18, []), (19, []), (20, []), (21, []), (22, []), (23, [])]
abbrev plan122x1 : Plan := [(0, []), (1, []), (2, []), (3, []), (4, []), (5, []), (6, []), (7, []), (8, []), (9, [])]
abbrev plan122x2 : Plan := [(0, []), (1, []), (2, []), (3, []), (4, []), (5, []), (6, []), (7, []), (8, []), (9, [])]
abbrev plan122x3 : Plan := [(0, []), (1, []), (2, []), (3, []), (4, []), (5, []), (6, []), (7, []), (8, []), (9, [])]
abbrev plan127x1 : Plan := [(0, []), (1, []), (2, []), (3, []), (4, []), (5, []), (6, []), (7, []), (8, [])]
def tab : Tab := ⟨fun g => bif Nat.beq g 15 then some closedF else bif Nat.beq g 58 then some (keysF 75) else none, masks⟩
theorem bt : BT Try.prog 22 5 := ⟨Try.underlying22, Try.underlying5, fun _ => rfl, ⟨_, rfl, rfl, rfl, rfl⟩, fun _ => rfl⟩
theorem it42 : IT Try.prog 35 2 .i64 := ⟨Try.underlying35, Try.underlying2, fun _ => rfl, ⟨_, rfl, rfl, rfl, by decide⟩⟩
theorem tt43 : TT Try.prog 36 9 := ⟨Try.underlying36, Try.underlying9, fun _ => rfl, ⟨_, rfl, rfl, rfl, by decide⟩⟩
theorem it44 : IT Try.prog 70 3 .i64 := ⟨Try.underlying70, Try.underlying3, fun _ => rfl, ⟨_, rfl, rfl, rfl, by decide⟩⟩
end Go.Proofs.Ytahhajakgakdhaa
