/- The table of contracts, the masks and the plans of this seat's functions. -/
import Derived.Test.YtndchfpagiohnaaProg
import Derived.Test.YtndchfpagiohnaaGmStep
import Derived.Test.YtndchfpagiohnaaAmSeq
namespace Go.Proofs.Ytndchfpagiohnaa
open Go.AM Go.AM.St
set_option maxRecDepth 100000
def masks (g k : Nat) : Nat :=
  bif Nat.beq g 4 then (bif Nat.beq k 0 then 48 else bif Nat.beq k 17 then 6291505 else bif Nat.beq k 2 then 6291505 else bif Nat.beq k 4 then 6291505 else bif Nat.beq k 25 then 103085506673 else bif Nat.beq k 6 then 103085506673 else bif Nat.beq k 8 then 48 else bif Nat.beq k 39 then 13510798882111792 else bif Nat.beq k 10 then 13510798882111792 else bif Nat.beq k 12 then 13510798882111792 else bif Nat.beq k 47 then 442735368567911351088 else bif Nat.beq k 14 then 442735368567911351088 else 0) else
  bif Nat.beq g 6 then (bif Nat.beq k 19 then 963 else bif Nat.beq k 2 then 963 else 0) else
  bif Nat.beq g 9 then (bif Nat.beq k 0 then 97 else bif Nat.beq k 21 then 241 else bif Nat.beq k 2 then 241 else 0) else
  bif Nat.beq g 11 then (bif Nat.beq k 0 then 67 else bif Nat.beq k 15 then 12884901955 else bif Nat.beq k 2 then 12884901955 else 0) else
  bif Nat.beq g 14 then (bif Nat.beq k 0 then 8 else bif Nat.beq k 7 then 25 else bif Nat.beq k 2 then 25 else 0) else
  bif Nat.beq g 16 then (bif Nat.beq k 0 then 2058 else bif Nat.beq k 11 then 120259086347 else bif Nat.beq k 2 then 120259086347 else 0) else
  bif Nat.beq g 19 then (bif Nat.beq k 9 then 35 else bif Nat.beq k 2 then 35 else 0) else
  bif Nat.beq g 24 then (bif Nat.beq k 0 then 8 else bif Nat.beq k 7 then 57 else bif Nat.beq k 2 then 57 else bif Nat.beq k 4 then 121 else bif Nat.beq k 15 then 249 else bif Nat.beq k 6 then 249 else 0) else
  bif Nat.beq g 32 then (bif Nat.beq k 0 then 1 else bif Nat.beq k 7 then 385 else bif Nat.beq k 2 then 385 else 0) else
  bif Nat.beq g 35 then (bif Nat.beq k 0 then 12 else bif Nat.beq k 9 then 44 else bif Nat.beq k 2 then 44 else bif Nat.beq k 19 then 76 else bif Nat.beq k 6 then 76 else 0) else
  bif Nat.beq g 43 then (bif Nat.beq k 3 then 225 else bif Nat.beq k 2 then 225 else 0) else
  bif Nat.beq g 44 then (bif Nat.beq k 0 then 16 else bif Nat.beq k 9 then 24 else bif Nat.beq k 2 then 24 else 0) else
  bif Nat.beq g 45 then (bif Nat.beq k 7 then 14352 else bif Nat.beq k 2 then 14352 else 0) else
  bif Nat.beq g 46 then (bif Nat.beq k 0 then 18 else bif Nat.beq k 11 then 14680082 else bif Nat.beq k 2 then 14680082 else bif Nat.beq k 4 then 16 else bif Nat.beq k 23 then 3848290697232 else bif Nat.beq k 6 then 3848290697232 else 0) else
  bif Nat.beq g 47 then (bif Nat.beq k 0 then 100 else bif Nat.beq k 9 then 49252 else bif Nat.beq k 2 then 49252 else bif Nat.beq k 4 then 100 else bif Nat.beq k 17 then 201326692 else bif Nat.beq k 6 then 201326692 else 0) else
  bif Nat.beq g 49 then (bif Nat.beq k 0 then 12 else bif Nat.beq k 7 then 49 else bif Nat.beq k 2 then 49 else 0) else
  bif Nat.beq g 54 then (bif Nat.beq k 5 then 783 else bif Nat.beq k 2 then 783 else 0) else
  bif Nat.beq g 62 then (bif Nat.beq k 0 then 32 else bif Nat.beq k 11 then 196641 else bif Nat.beq k 2 then 196641 else 0) else
  bif Nat.beq g 64 then (bif Nat.beq k 9 then 12291 else bif Nat.beq k 2 then 12291 else 0) else
  bif Nat.beq g 65 then (bif Nat.beq k 9 then 12291 else bif Nat.beq k 2 then 12291 else 0) else
  bif Nat.beq g 66 then (bif Nat.beq k 0 then 96 else bif Nat.beq k 7 then 229472 else bif Nat.beq k 2 then 229472 else 0) else
  bif Nat.beq g 67 then (bif Nat.beq k 3 then 71 else bif Nat.beq k 2 then 71 else bif Nat.beq k 4 then 71 else bif Nat.beq k 9 then 199 else bif Nat.beq k 6 then 199 else 0) else
  bif Nat.beq g 68 then (bif Nat.beq k 0 then 449 else bif Nat.beq k 9 then 961 else bif Nat.beq k 2 then 961 else bif Nat.beq k 17 then 1217 else bif Nat.beq k 6 then 1217 else 0) else
  bif Nat.beq g 69 then (bif Nat.beq k 11 then 963 else bif Nat.beq k 2 then 963 else 0) else
  bif Nat.beq g 71 then (bif Nat.beq k 5 then 193 else bif Nat.beq k 2 then 193 else 0) else
  bif Nat.beq g 72 then (bif Nat.beq k 7 then 391 else bif Nat.beq k 2 then 391 else bif Nat.beq k 4 then 391 else bif Nat.beq k 11 then 391 else bif Nat.beq k 6 then 391 else bif Nat.beq k 8 then 391 else bif Nat.beq k 29 then 903 else bif Nat.beq k 10 then 903 else bif Nat.beq k 12 then 391 else bif Nat.beq k 41 then 1415 else bif Nat.beq k 14 then 1415 else 0) else
  bif Nat.beq g 74 then (bif Nat.beq k 0 then 512 else bif Nat.beq k 7 then 1539 else bif Nat.beq k 2 then 1539 else bif Nat.beq k 4 then 1539 else bif Nat.beq k 7 then 1539 else bif Nat.beq k 6 then 1539 else bif Nat.beq k 8 then 1539 else bif Nat.beq k 11 then 1539 else bif Nat.beq k 10 then 1539 else 0) else
  bif Nat.beq g 75 then (bif Nat.beq k 0 then 3075 else bif Nat.beq k 7 then 3075 else bif Nat.beq k 2 then 3075 else bif Nat.beq k 4 then 3075 else bif Nat.beq k 11 then 3075 else bif Nat.beq k 6 then 3075 else bif Nat.beq k 8 then 2051 else bif Nat.beq k 27 then 3075 else bif Nat.beq k 10 then 3075 else bif Nat.beq k 12 then 3075 else bif Nat.beq k 27 then 3075 else bif Nat.beq k 14 then 3075 else bif Nat.beq k 16 then 3075 else bif Nat.beq k 31 then 3075 else bif Nat.beq k 18 then 3075 else 0) else
  bif Nat.beq g 80 then (bif Nat.beq k 7 then 1826 else bif Nat.beq k 2 then 1826 else 0) else
  bif Nat.beq g 81 then (bif Nat.beq k 0 then 8 else bif Nat.beq k 7 then 7176 else bif Nat.beq k 2 then 7176 else 0) else
  bif Nat.beq g 82 then (bif Nat.beq k 3 then 269 else bif Nat.beq k 2 then 269 else 0) else
  bif Nat.beq g 88 then (bif Nat.beq k 5 then 387 else bif Nat.beq k 2 then 387 else 0) else
  0
abbrev plan3x16 : Plan := [(0, []), (1, []), (2, []), (3, []), (5, []), (6, []), (7, []), (4, []), (8, []), (9, []), (10, []), (11, []), (12, []), (13, []), (14, []), (15, [])]
abbrev plan8x15 : Plan := [(0, []), (1, []), (2, []), (3, []), (4, []), (5, []), (7, []), (8, []), (6, []), (9, []), (10, []), (11, []), (12, []), (13, []), (14, []), (16, []), (15, []), (17, []), (18, []), (19, []), (20, []), (21, []), (23, []), (24, []), (25, []), (22, []), (26, []), (27, []), (28, [])]
abbrev plan11x13 : Plan := [(0, []), (1, []), (2, []), (3, []), (5, []), (6, []), (7, []), (4, []), (8, []), (9, []), (10, []), (11, []), (12, []), (13, []), (14, []), (15, [])]
abbrev plan14x5 : Plan := [(0, []), (1, []), (2, []), (3, []), (4, []), (5, []), (6, []), (7, []), (8, []), (9, []), (10, []), (11, [5]), (12, []), (13, []), (14, []), (15, [])]
abbrev plan16x8 : Plan := [(0, []), (1, []), (2, []), (3, []), (4, []), (5, []), (6, []), (8, []), (9, []), (7, [9]), (10, []), (11, [])]
abbrev plan16x11 : Plan := [(0, []), (1, []), (2, []), (3, []), (4, []), (5, []), (6, []), (7, []), (9, []), (10, []), (11, []), (8, []), (12, []), (13, []), (14, []), (15, []), (16, [])]
abbrev plan18x3 : Plan := [(0, []), (1, []), (2, []), (3, []), (4, []), (5, []), (6, []), (7, []), (8, []), (9, []), (10, []), (11, []), (12, [3]), (13, []), (14, []), (15, []), (16, [])]
abbrev plan19x6 : Plan := [(0, []), (1, []), (2, []), (3, []), (4, []), (5, []), (6, []), (7, []), (8, []), (9, []), (10, []), (11, []), (12, []), (13, []), (14, []), (15, []), (16, []), (17, []), (18, []), (19, []), (20, []), (21, []), (22, []), (23, []), (24, [])]
abbrev plan24x9 : Plan := [(0, []), (1, []), (2, []), (3, []), (4, []), (5, []), (6, []), (7, []), (8, [])]
abbrev plan27x1 : Plan := [(0, []), (1, []), (2, []), (3, []), (4, []), (5, []), (6, []), (7, []), (8, []), (9, []), (10, []), (11, []), (12, []), (13, []), (14, []), (15, [])]
abbrev plan30x3 : Plan := [(0, []), (1, []), (2, []), (3, []), (4, []), (5, []), (6, [4]), (7, []), (8, []), (9, []), (10, [])]
abbrev plan32x5 : Plan := [(0, []), (1, []), (2, []), (3, []), (4, []), (5, []), (6, []), (7, []), (8, []), (9, []), (11, []), (12, []), (13, []), (14, []), (15, []), (16, []), (10, [16]), (17, []), (18, []), (19, []), (20, []), (21, []), (22, []), (23, []), (24, []), (25, [])]
abbrev plan33x1 : Plan := [(0, []), (1, []), (2, []), (3, []), (4, []), (5, []), (6, []), (7, []), (8, []), (10, []), (11, []), (12, []), (13, []), (14, []), (15, []), (16, []), (9, [13, 11, 1]), (17, [1]), (18, []), (19, [])]
abbrev plan35x6 : Plan := [(0, []), (1, []), (2, []), (3, []), (4, []), (5, []), (6, []), (7, []), (8, []), (9, []), (10, [])]
abbrev plan35x11 : Plan := [(0, []), (1, []), (2, []), (3, []), (4, []), (5, []), (6, []), (7, []), (8, []), (9, []), (10, [])]
abbrev plan46x3 : Plan := [(0, []), (1, []), (3, []), (4, []), (5, []), (2, [4]), (6, []), (7, []), (8, [])]
abbrev plan47x5 : Plan := [(0, []), (1, []), (2, []), (3, [1]), (4, [1]), (5, []), (6, []), (7, [])]
abbrev plan47x9 : Plan := [(0, []), (1, []), (2, []), (3, [1]), (4, [1]), (5, []), (6, []), (7, [])]
abbrev plan47x12 : Plan := [(0, []), (1, []), (2, []), (3, []), (4, []), (5, [4]), (6, [4]), (7, [])]
abbrev plan47x13 : Plan := [(0, []), (1, []), (2, []), (3, []), (4, []), (5, [4]), (6, []), (7, [])]
abbrev plan54x17 : Plan := [(0, []), (1, []), (2, []), (3, []), (4, []), (5, []), (6, []), (7, []), (8, []), (9, []), (10, []), (11, []), (12, []), (13, []), (14, [])]
abbrev plan60x3 : Plan := [(0, []), (1, []), (2, []), (3, []), (4, []), (5, []), (6, []), (7, []), (8, []), (9, []), (10, []), (11, []), (12, []), (13, []), (14, [])]
abbrev plan60x8 : Plan := [(0, []), (1, []), (2, []), (3, []), (4, []), (5, []), (6, []), (7, []), (8, []), (9, []), (10, []), (11, []), (12, []), (13, []), (14, []), (15, [])]
abbrev plan61x4 : Plan := [(0, []), (1, []), (2, []), (3, []), (4, []), (5, []), (6, []), (7, []), (8, []), (9, []), (10, []), (11, [])]
abbrev plan61x8 : Plan := [(0, []), (1, []), (2, []), (3, []), (4, []), (5, []), (6, []), (7, []), (8, []), (9, []), (10, []), (11, []), (12, []), (13, []), (14, []), (15, []), (16, [])]
abbrev plan63x7 : Plan := [(0, []), (1, []), (2, []), (3, []), (4, []), (5, []), (6, []), (7, []), (8, []), (9, []), (10, []), (12, []), (13, []), (14, []), (11, []), (15, []), (16, []), (17, []), (18, [])]
abbrev plan64x6 : Plan := [(0, []), (1, []), (2, []), (3, []), (4, []), (5, []), (6, []), (7, []), (8, [])]
abbrev plan65x6 : Plan := [(0, []), (1, []), (2, []), (3, []), (4, []), (5, []), (6, []), (7, []), (8, [])]
abbrev plan67x4 : Plan := [(0, []), (1, []), (2, []), (3, []), (4, []), (5, []), (6, []), (7, []), (8, []), (9, []), (10, []), (11, []), (12, []), (13, []), (14, [])]
abbrev plan67x6 : Plan := [(0, []), (1, []), (2, []), (3, []), (4, []), (5, []), (6, []), (7, []), (8, []), (9, []), (10, []), (11, []), (12, []), (13, []), (14, []), (15, []), (16, []), (17, [])]
abbrev plan68x10 : Plan := [(0, []), (1, []), (2, []), (3, []), (4, []), (5, []), (6, []), (7, []), (8, []), (9, []), (10, []), (11, []), (12, []), (13, []), (14, []), (15, []), (16, []), (17, []), (18, []), (19, [])]
abbrev plan69x10 : Plan := [(0, []), (1, []), (2, []), (3, []), (4, []), (5, []), (6, []), (7, []), (8, []), (9, []), (10, []), (11, []), (12, []), (13, []), (14, []), (15, []), (16, []), (17, []), (18, []), (19, [])]
abbrev plan71x3 : Plan := [(0, []), (1, []), (2, []), (3, []), (4, []), (5, []), (6, []), (7, []), (8, []), (9, []), (10, []), (11, []), (12, []), (13, []), (14, []), (15, [])]
abbrev plan72x5 : Plan := [(0, []), (1, []), (2, []), (3, []), (4, []), (5, []), (6, []), (7, []), (8, []), (9, []), (10, []), (11, []), (12, []), (13, []), (14, []), (15, [])]
abbrev plan72x11 : Plan := [(0, []), (1, []), (2, []), (3, []), (4, []), (5, []), (6, []), (7, []), (8, []), (9, []), (10, []), (11, []), (12, []), (13, []), (14, []), (15, []), (16, []), (17, [])]
abbrev plan72x16 : Plan := [(0, []), (1, []), (2, []), (3, []), (4, []), (5, []), (6, []), (7, []), (8, []), (9, []), (10, [])]
abbrev plan72x17 : Plan := [(0, []), (1, []), (2, []), (3, []), (4, []), (5, []), (6, []), (7, []), (8, []), (9, []), (10, []), (11, []), (12, []), (13, []), (14, []), (15, []), (16, []), (17, [])]
abbrev plan72x22 : Plan := [(0, []), (1, []), (2, []), (3, []), (4, []), (5, []), (6, []), (7, []), (8, []), (9, []), (10, [])]
abbrev plan72x23 : Plan := [(0, []), (1, []), (2, []), (3, []), (4, []), (5, []), (6, []), (7, []), (8, []), (9, []), (10, []), (11, []), (12, []), (13, []), (14, []), (15, []), (16, []), (17, [])]
abbrev plan74x1 : Plan := [(0, []), (1, []), (2, []), (3, []), (4, []), (5, []), (6, []), (7, []), (8, []), (9, []), (10, []), (11, []), (12, []), (13, []), (14, []), (15, [])]
abbrev plan74x3 : Plan := [(0, []), (1, []), (2, []), (3, []), (4, []), (5, []), (6, []), (7, []), (8, []), (9, []), (10, []), (11, []), (12, []), (13, []), (14, [])]
abbrev plan74x5 : Plan := [(0, []), (1, []), (2, []), (3, []), (4, []), (5, []), (6, []), (7, []), (8, []), (9, []), (10, []), (11, []), (12, []), (13, [])]
abbrev plan74x8 : Plan := [(0, []), (1, []), (2, []), (3, []), (4, []), (5, []), (6, []), (7, []), (8, []), (9, []), (10, []), (11, []), (12, []), (13, []), (14, []), (15, [])]
abbrev plan75x1 : Plan := [(0, []), (1, []), (2, []), (3, []), (4, []), (5, []), (6, []), (7, []), (8, []), (9, []), (10, []), (11, []), (12, []), (13, []), (14, []), (15, [])]
abbrev plan75x3 : Plan := [(0, []), (1, []), (2, []), (3, []), (4, []), (5, []), (6, []), (7, []), (8, []), (9, []), (10, []), (11, []), (12, []), (13, [])]
abbrev plan75x5 : Plan := [(0, []), (1, []), (2, []), (3, []), (4, []), (5, []), (6, []), (7, []), (8, []), (9, []), (10, []), (11, []), (12, []), (13, []), (14, [])]
abbrev plan75x8 : Plan := [(0, []), (1, []), (2, []), (3, []), (4, []), (5, []), (6, []), (7, []), (8, []), (9, []), (10, []), (11, []), (12, []), (13, []), (14, []), (15, [])]
abbrev plan75x10 : Plan := [(0, []), (1, []), (2, []), (3, []), (4, []), (5, []), (6, []), (7, []), (8, []), (9, []), (10, []), (11, []), (12, []), (13, []), (14, []), (15, [])]
abbrev plan75x13 : Plan := [(0, []), (1, []), (2, []), (3, []), (4, []), (5, []), (6, []), (7, []), (8, []), (9, []), (10, []), (11, []), (12, []), (13, [])]
abbrev plan75x15 : Plan := [(0, []), (1, []), (2, []), (3, []), (4, []), (5, []), (6, []), (7, []), (8, []), (9, []), (10, []), (11, []), (12, []), (13, []), (14, [])]
abbrev plan75x18 : Plan := [(0, []), (1, []), (2, []), (3, []), (4, []), (5, []), (6, []), (7, []), (8, []), (9, []), (10, []), (11, []), (12, []), (13, []), (14, []), (15, [])]
abbrev plan75x21 : Plan := [(0, []), (1, []), (2, []), (3, []), (4, []), (5, []), (6, []), (7, []), (8, []), (9, []), (10, []), (11, []), (12, []), (13, []), (14, []), (15, [])]
abbrev plan82x3 : Plan := [(0, []), (1, []), (2, []), (3, []), (4, []), (5, []), (6, []), (7, []), (8, []), (9, []), (10, []), (11, []), (12, []), (13, []), (14, []), (15, []), (16, []), (17, []), (18, []), (19, [])]
abbrev plan82x5 : Plan := [(0, []), (1, []), (2, []), (3, []), (4, []), (5, []), (6, []), (7, []), (8, []), (9, []), (10, []), (11, []), (12, []), (13, [])]
abbrev plan82x6 : Plan := [(0, []), (1, []), (2, []), (3, []), (4, []), (5, []), (6, []), (7, []), (8, []), (9, []), (10, []), (11, []), (12, []), (13, []), (14, []), (15, []), (16, []), (17, []), (18, []), (19, []), (20, []), (21, []), (22, []), (23, [])]
abbrev plan84x1 : Plan := [(0, []), (1, []), (2, []), (3, []), (4, []), (5, []), (6, []), (7, []), (8, []), (9, [])]
abbrev plan84x2 : Plan := [(0, []), (1, []), (2, []), (3, []), (4, []), (5, []), (6, []), (7, []), (8, []), (9, [])]
abbrev plan84x3 : Plan := [(0, []), (1, []), (2, []), (3, []), (4, []), (5, []), (6, []), (7, []), (8, []), (9, [])]
abbrev plan89x1 : Plan := [(0, []), (1, []), (2, []), (3, []), (4, []), (5, []), (6, []), (7, []), (8, [])]
def tab : Tab := ⟨fun g => bif Nat.beq g 12 then some closedF else bif Nat.beq g 36 then some (valsF 43) else none, masks⟩
theorem bt : BT Try.prog 72 5 := ⟨Try.underlying72, Try.underlying5, fun _ => rfl, ⟨_, rfl, rfl, rfl, rfl⟩, fun _ => rfl⟩
theorem it42 : IT Try.prog 34 2 .i64 := ⟨Try.underlying34, Try.underlying2, fun _ => rfl, ⟨_, rfl, rfl, rfl, by decide⟩⟩
theorem tt43 : TT Try.prog 35 9 := ⟨Try.underlying35, Try.underlying9, fun _ => rfl, ⟨_, rfl, rfl, rfl, by decide⟩⟩
theorem it44 : IT Try.prog 44 3 .i64 := ⟨Try.underlying44, Try.underlying3, fun _ => rfl, ⟨_, rfl, rfl, rfl, by decide⟩⟩
end Go.Proofs.Ytndchfpagiohnaa
