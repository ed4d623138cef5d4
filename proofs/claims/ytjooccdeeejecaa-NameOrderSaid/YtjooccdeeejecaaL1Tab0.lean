/- The table of contracts, the masks and the plans of this seat's functions. -/
import Derived.Test.YtjooccdeeejecaaProg
import Derived.Test.YtjooccdeeejecaaGmStep
namespace Go.Proofs.Ytjooccdeeejecaa
open Go.AM Go.AM.St
set_option maxRecDepth 100000
def masks (g k : Nat) : Nat :=
  bif Nat.beq g 3 then (bif Nat.beq k 0 then 67 else bif Nat.beq k 13 then 195 else bif Nat.beq k 2 then 195 else bif Nat.beq k 4 then 320 else bif Nat.beq k 23 then 834 else bif Nat.beq k 6 then 834 else bif Nat.beq k 8 then 3906 else bif Nat.beq k 33 then 8002 else bif Nat.beq k 10 then 8002 else bif Nat.beq k 12 then 834 else bif Nat.beq k 14 then 8962 else bif Nat.beq k 63 then 26434 else bif Nat.beq k 16 then 26434 else bif Nat.beq k 18 then 32832 else bif Nat.beq k 81 then 98368 else bif Nat.beq k 20 then 98368 else 0) else
  bif Nat.beq g 6 then (bif Nat.beq k 0 then 49 else bif Nat.beq k 17 then 201326641 else bif Nat.beq k 2 then 201326641 else bif Nat.beq k 4 then 49 else bif Nat.beq k 29 then 216172782113783857 else bif Nat.beq k 6 then 216172782113783857 else bif Nat.beq k 8 then 49 else bif Nat.beq k 41 then 1770887431076116955185 else bif Nat.beq k 10 then 1770887431076116955185 else bif Nat.beq k 12 then 1584 else bif Nat.beq k 55 then 7253554917687775048238641 else bif Nat.beq k 14 then 7253554917687775048238641 else bif Nat.beq k 16 then 7253554917687775048238641 else bif Nat.beq k 61 then 239367312283696576591826481 else bif Nat.beq k 18 then 239367312283696576591826481 else 0) else
  bif Nat.beq g 9 then (bif Nat.beq k 0 then 73 else bif Nat.beq k 5 then 73 else bif Nat.beq k 2 then 73 else 0) else
  bif Nat.beq g 10 then (bif Nat.beq k 0 then 8 else bif Nat.beq k 7 then 3592 else bif Nat.beq k 2 then 3592 else 0) else
  bif Nat.beq g 30 then (bif Nat.beq k 3 then 33 else bif Nat.beq k 2 then 33 else 0) else
  bif Nat.beq g 31 then (bif Nat.beq k 0 then 8 else bif Nat.beq k 7 then 456 else bif Nat.beq k 2 then 456 else 0) else
  bif Nat.beq g 35 then (bif Nat.beq k 0 then 96 else bif Nat.beq k 7 then 226 else bif Nat.beq k 2 then 226 else 0) else
  bif Nat.beq g 36 then (bif Nat.beq k 0 then 16 else bif Nat.beq k 9 then 24 else bif Nat.beq k 2 then 24 else 0) else
  bif Nat.beq g 37 then (bif Nat.beq k 7 then 14352 else bif Nat.beq k 2 then 14352 else 0) else
  bif Nat.beq g 38 then (bif Nat.beq k 0 then 18 else bif Nat.beq k 11 then 14680082 else bif Nat.beq k 2 then 14680082 else bif Nat.beq k 4 then 16 else bif Nat.beq k 23 then 3848290697232 else bif Nat.beq k 6 then 3848290697232 else 0) else
  bif Nat.beq g 39 then (bif Nat.beq k 0 then 100 else bif Nat.beq k 9 then 49252 else bif Nat.beq k 2 then 49252 else bif Nat.beq k 4 then 100 else bif Nat.beq k 17 then 201326692 else bif Nat.beq k 6 then 201326692 else 0) else
  bif Nat.beq g 41 then (bif Nat.beq k 0 then 12 else bif Nat.beq k 7 then 49 else bif Nat.beq k 2 then 49 else 0) else
  bif Nat.beq g 44 then (bif Nat.beq k 5 then 3103 else bif Nat.beq k 2 then 3103 else 0) else
  bif Nat.beq g 48 then (bif Nat.beq k 0 then 96 else bif Nat.beq k 7 then 229472 else bif Nat.beq k 2 then 229472 else 0) else
  bif Nat.beq g 55 then (bif Nat.beq k 0 then 32 else bif Nat.beq k 11 then 196641 else bif Nat.beq k 2 then 196641 else 0) else
  bif Nat.beq g 57 then (bif Nat.beq k 9 then 12291 else bif Nat.beq k 2 then 12291 else 0) else
  bif Nat.beq g 58 then (bif Nat.beq k 9 then 12291 else bif Nat.beq k 2 then 12291 else 0) else
  bif Nat.beq g 59 then (bif Nat.beq k 3 then 271 else bif Nat.beq k 2 then 271 else bif Nat.beq k 4 then 271 else bif Nat.beq k 9 then 783 else bif Nat.beq k 6 then 783 else 0) else
  bif Nat.beq g 60 then (bif Nat.beq k 0 then 1801 else bif Nat.beq k 9 then 3849 else bif Nat.beq k 2 then 3849 else bif Nat.beq k 17 then 4873 else bif Nat.beq k 6 then 4873 else 0) else
  bif Nat.beq g 61 then (bif Nat.beq k 11 then 3843 else bif Nat.beq k 2 then 3843 else 0) else
  bif Nat.beq g 63 then (bif Nat.beq k 5 then 769 else bif Nat.beq k 2 then 769 else 0) else
  bif Nat.beq g 64 then (bif Nat.beq k 7 then 1551 else bif Nat.beq k 2 then 1551 else bif Nat.beq k 4 then 1551 else bif Nat.beq k 11 then 1551 else bif Nat.beq k 6 then 1551 else bif Nat.beq k 8 then 1551 else bif Nat.beq k 29 then 3599 else bif Nat.beq k 10 then 3599 else bif Nat.beq k 12 then 1551 else bif Nat.beq k 41 then 5647 else bif Nat.beq k 14 then 5647 else 0) else
  bif Nat.beq g 65 then (bif Nat.beq k 0 then 2048 else bif Nat.beq k 7 then 6163 else bif Nat.beq k 2 then 6163 else bif Nat.beq k 4 then 6163 else bif Nat.beq k 7 then 6163 else bif Nat.beq k 6 then 6163 else bif Nat.beq k 8 then 6163 else bif Nat.beq k 11 then 6163 else bif Nat.beq k 10 then 6163 else 0) else
  bif Nat.beq g 66 then (bif Nat.beq k 0 then 12307 else bif Nat.beq k 7 then 12307 else bif Nat.beq k 2 then 12307 else bif Nat.beq k 4 then 12307 else bif Nat.beq k 11 then 12307 else bif Nat.beq k 6 then 12307 else bif Nat.beq k 8 then 8195 else bif Nat.beq k 27 then 12307 else bif Nat.beq k 10 then 12307 else bif Nat.beq k 12 then 12307 else bif Nat.beq k 27 then 12307 else bif Nat.beq k 14 then 12307 else bif Nat.beq k 16 then 12307 else bif Nat.beq k 31 then 12307 else bif Nat.beq k 18 then 12307 else 0) else
  bif Nat.beq g 71 then (bif Nat.beq k 7 then 1826 else bif Nat.beq k 2 then 1826 else 0) else
  bif Nat.beq g 72 then (bif Nat.beq k 0 then 8 else bif Nat.beq k 7 then 7176 else bif Nat.beq k 2 then 7176 else 0) else
  bif Nat.beq g 73 then (bif Nat.beq k 3 then 1053 else bif Nat.beq k 2 then 1053 else 0) else
  bif Nat.beq g 78 then (bif Nat.beq k 5 then 387 else bif Nat.beq k 2 then 387 else 0) else
  0
abbrev plan3x18 : Plan := [(0, []), (1, []), (2, []), (3, []), (4, []), (5, []), (6, []), (7, []), (8, []), (9, []), (10, [])]
abbrev plan3x33 : Plan := [(0, []), (1, []), (2, []), (3, []), (4, []), (5, []), (6, [])]
abbrev plan3x42 : Plan := [(0, []), (1, []), (2, []), (3, []), (4, []), (5, []), (6, []), (7, []), (8, [])]
abbrev plan4x10 : Plan := [(0, []), (1, []), (3, []), (4, []), (2, [4, 3]), (5, []), (6, []), (7, [])]
abbrev plan6x10 : Plan := [(0, []), (1, []), (2, []), (3, []), (4, []), (5, []), (6, []), (7, []), (8, []), (9, []), (10, []), (11, []), (12, []), (13, []), (14, []), (15, []), (16, []), (17, []), (18, []), (19, []), (20, []), (21, []), (22, []), (23, [])]
abbrev plan6x32 : Plan := [(0, []), (1, []), (2, []), (3, []), (4, []), (5, []), (6, []), (7, []), (8, [])]
abbrev plan8x6 : Plan := [(0, []), (1, []), (2, []), (3, []), (4, []), (5, []), (6, []), (7, []), (8, []), (9, []), (10, []), (11, []), (12, []), (13, []), (14, []), (15, []), (16, []), (17, []), (18, []), (19, []), (20, []), (21, []), (22, []), (23, []), (24, []), (25, []), (26, []), (27, []), (28, []), (29, []), (30, []), (31, []), (32, []), (33, []), (34, []), (35, []), (36, []), (37, []), (38, []), (39, []), (40, []), (41, []), (42, []), (43, []), (44, []), (45, []), (46, []), (47, []), (48, []), (49, []), (50, []), (51, []), (52, []), (53, []), (54, []), (55, []), (56, []), (57, []), (58, []), (59, []), (60, []), (61, []), (62, []), (63, []), (64, [])]
abbrev plan9x2 : Plan := [(0, []), (1, []), (2, []), (3, []), (4, []), (5, []), (6, []), (7, []), (8, []), (9, []), (10, []), (11, [])]
abbrev plan9x4 : Plan := [(0, []), (1, []), (2, []), (3, []), (4, []), (5, []), (6, []), (7, []), (8, []), (9, []), (10, []), (11, [])]
abbrev plan10x5 : Plan := [(0, []), (1, []), (2, []), (3, []), (4, []), (5, [])]
abbrev plan11x1 : Plan := [(0, []), (1, []), (2, []), (3, []), (4, []), (5, []), (6, []), (7, []), (8, []), (9, [])]
abbrev plan11x3 : Plan := [(0, []), (1, []), (2, []), (3, []), (4, []), (5, [])]
abbrev plan12x3 : Plan := [(0, []), (1, []), (2, []), (3, []), (4, []), (5, [])]
abbrev plan13x1 : Plan := [(0, []), (1, []), (2, []), (3, []), (4, []), (5, []), (6, []), (7, []), (8, []), (9, []), (10, [])]
abbrev plan24x1 : Plan := [(0, []), (1, []), (2, []), (3, []), (5, []), (6, []), (7, []), (8, []), (4, [8, 6]), (9, []), (10, []), (11, []), (12, [])]
abbrev plan38x3 : Plan := [(0, []), (1, []), (3, []), (4, []), (5, []), (2, [4]), (6, []), (7, []), (8, [])]
abbrev plan39x5 : Plan := [(0, []), (1, []), (2, []), (3, [1]), (4, [1]), (5, []), (6, []), (7, [])]
abbrev plan39x9 : Plan := [(0, []), (1, []), (2, []), (3, [1]), (4, [1]), (5, []), (6, []), (7, [])]
abbrev plan39x12 : Plan := [(0, []), (1, []), (2, []), (3, []), (4, []), (5, [4]), (6, [4]), (7, [])]
abbrev plan39x13 : Plan := [(0, []), (1, []), (2, []), (3, []), (4, []), (5, [4]), (6, []), (7, [])]
abbrev plan44x17 : Plan := [(0, []), (1, []), (2, []), (3, []), (4, []), (5, []), (6, []), (7, []), (8, []), (9, []), (10, []), (11, []), (12, []), (13, []), (14, []), (15, []), (16, [])]
abbrev plan53x3 : Plan := [(0, []), (1, []), (2, []), (3, []), (4, []), (5, []), (6, []), (7, []), (8, []), (9, []), (10, []), (11, []), (12, []), (13, []), (14, [])]
abbrev plan53x8 : Plan := [(0, []), (1, []), (2, []), (3, []), (4, []), (5, []), (6, []), (7, []), (8, []), (9, []), (10, []), (11, []), (12, []), (13, []), (14, []), (15, [])]
abbrev plan54x4 : Plan := [(0, []), (1, []), (2, []), (3, []), (4, []), (5, []), (6, []), (7, []), (8, []), (9, []), (10, []), (11, [])]
abbrev plan54x8 : Plan := [(0, []), (1, []), (2, []), (3, []), (4, []), (5, []), (6, []), (7, []), (8, []), (9, []), (10, []), (11, []), (12, []), (13, []), (14, []), (15, []), (16, [])]
abbrev plan56x7 : Plan := [(0, []), (1, []), (2, []), (3, []), (4, []), (5, []), (6, []), (7, []), (8, []), (9, []), (10, []), (12, []), (13, []), (14, []), (11, []), (15, []), (16, []), (17, []), (18, [])]
abbrev plan57x6 : Plan := [(0, []), (1, []), (2, []), (3, []), (4, []), (5, []), (6, []), (7, []), (8, [])]
abbrev plan58x6 : Plan := [(0, []), (1, []), (2, []), (3, []), (4, []), (5, []), (6, []), (7, []), (8, [])]
abbrev plan59x4 : Plan := [(0, []), (1, []), (2, []), (3, []), (4, []), (5, []), (6, []), (7, []), (8, []), (9, []), (10, []), (11, []), (12, []), (13, []), (14, []), (15, []), (16, [])]
abbrev plan59x6 : Plan := [(0, []), (1, []), (2, []), (3, []), (4, []), (5, []), (6, []), (7, []), (8, []), (9, []), (10, []), (11, []), (12, []), (13, []), (14, []), (15, []), (16, []), (17, [])]
abbrev plan60x10 : Plan := [(0, []), (1, []), (2, []), (3, []), (4, []), (5, []), (6, []), (7, []), (8, []), (9, []), (10, []), (11, []), (12, []), (13, []), (14, []), (15, []), (16, []), (17, []), (18, []), (19, [])]
abbrev plan61x10 : Plan := [(0, []), (1, []), (2, []), (3, []), (4, []), (5, []), (6, []), (7, []), (8, []), (9, []), (10, []), (11, []), (12, []), (13, []), (14, []), (15, []), (16, []), (17, []), (18, []), (19, [])]
abbrev plan63x3 : Plan := [(0, []), (1, []), (2, []), (3, []), (4, []), (5, []), (6, []), (7, []), (8, []), (9, []), (10, []), (11, []), (12, []), (13, []), (14, []), (15, [])]
abbrev plan64x5 : Plan := [(0, []), (1, []), (2, []), (3, []), (4, []), (5, []), (6, []), (7, []), (8, []), (9, []), (10, []), (11, []), (12, []), (13, []), (14, []), (15, []), (16, []), (17, [])]
abbrev plan64x11 : Plan := [(0, []), (1, []), (2, []), (3, []), (4, []), (5, []), (6, []), (7, []), (8, []), (9, []), (10, []), (11, []), (12, []), (13, []), (14, []), (15, []), (16, []), (17, [])]
abbrev plan64x16 : Plan := [(0, []), (1, []), (2, []), (3, []), (4, []), (5, []), (6, []), (7, []), (8, []), (9, []), (10, []), (11, []), (12, [])]
abbrev plan64x17 : Plan := [(0, []), (1, []), (2, []), (3, []), (4, []), (5, []), (6, []), (7, []), (8, []), (9, []), (10, []), (11, []), (12, []), (13, []), (14, []), (15, []), (16, []), (17, [])]
abbrev plan64x22 : Plan := [(0, []), (1, []), (2, []), (3, []), (4, []), (5, []), (6, []), (7, []), (8, []), (9, []), (10, []), (11, []), (12, [])]
abbrev plan64x23 : Plan := [(0, []), (1, []), (2, []), (3, []), (4, []), (5, []), (6, []), (7, []), (8, []), (9, []), (10, []), (11, []), (12, []), (13, []), (14, []), (15, []), (16, []), (17, [])]
abbrev plan65x1 : Plan := [(0, []), (1, []), (2, []), (3, []), (4, []), (5, []), (6, []), (7, []), (8, []), (9, []), (10, []), (11, []), (12, []), (13, []), (14, []), (15, [])]
abbrev plan65x3 : Plan := [(0, []), (1, []), (2, []), (3, []), (4, []), (5, []), (6, []), (7, []), (8, []), (9, []), (10, []), (11, []), (12, []), (13, []), (14, []), (15, []), (16, [])]
abbrev plan65x5 : Plan := [(0, []), (1, []), (2, []), (3, []), (4, []), (5, []), (6, []), (7, []), (8, []), (9, []), (10, []), (11, []), (12, []), (13, []), (14, []), (15, [])]
abbrev plan65x8 : Plan := [(0, []), (1, []), (2, []), (3, []), (4, []), (5, []), (6, []), (7, []), (8, []), (9, []), (10, []), (11, []), (12, []), (13, []), (14, []), (15, [])]
abbrev plan66x1 : Plan := [(0, []), (1, []), (2, []), (3, []), (4, []), (5, []), (6, []), (7, []), (8, []), (9, []), (10, []), (11, []), (12, []), (13, []), (14, []), (15, [])]
abbrev plan66x3 : Plan := [(0, []), (1, []), (2, []), (3, []), (4, []), (5, []), (6, []), (7, []), (8, []), (9, []), (10, []), (11, []), (12, []), (13, []), (14, []), (15, [])]
abbrev plan66x5 : Plan := [(0, []), (1, []), (2, []), (3, []), (4, []), (5, []), (6, []), (7, []), (8, []), (9, []), (10, []), (11, []), (12, []), (13, []), (14, []), (15, []), (16, [])]
abbrev plan66x8 : Plan := [(0, []), (1, []), (2, []), (3, []), (4, []), (5, []), (6, []), (7, []), (8, []), (9, []), (10, []), (11, []), (12, []), (13, []), (14, []), (15, [])]
abbrev plan66x10 : Plan := [(0, []), (1, []), (2, []), (3, []), (4, []), (5, []), (6, []), (7, []), (8, []), (9, []), (10, []), (11, []), (12, []), (13, []), (14, []), (15, [])]
abbrev plan66x13 : Plan := [(0, []), (1, []), (2, []), (3, []), (4, []), (5, []), (6, []), (7, []), (8, []), (9, []), (10, []), (11, []), (12, []), (13, []), (14, []), (15, [])]
abbrev plan66x15 : Plan := [(0, []), (1, []), (2, []), (3, []), (4, []), (5, []), (6, []), (7, []), (8, []), (9, []), (10, []), (11, []), (12, []), (13, []), (14, []), (15, []), (16, [])]
abbrev plan66x18 : Plan := [(0, []), (1, []), (2, []), (3, []), (4, []), (5, []), (6, []), (7, []), (8, []), (9, []), (10, []), (11, []), (12, []), (13, []), (14, []), (15, [])]
abbrev plan66x21 : Plan := [(0, []), (1, []), (2, []), (3, []), (4, []), (5, []), (6, []), (7, []), (8, []), (9, []), (10, []), (11, []), (12, []), (13, []), (14, []), (15, [])]
abbrev plan73x3 : Plan := [(0, []), (1, []), (2, []), (3, []), (4, []), (5, []), (6, []), (7, []), (8, []), (9, []), (10, []), (11, []), (12, []), (13, []), (14, []), (15, []), (16, []), (17, []), (18, []), (19, []), (20, []), (21, [])]
abbrev plan73x5 : Plan := [(0, []), (1, []), (2, []), (3, []), (4, []), (5, []), (6, []), (7, []), (8, []), (9, []), (10, []), (11, []), (12, []), (13, []), (14, []), (15, [])]
abbrev plan73x6 : Plan := [(0, []), (1, []), (2, []), (3, []), (4, []), (5, []), (6, []), (7, []), (8, []), (9, []), (10, []), (11, []), (12, []), (13, []), (14, []), (15, []), (16, []), (17, []), (18, []), (19, []), (20, []), (21, []), (22, []), (23, [])]
abbrev plan75x1 : Plan := [(0, []), (1, []), (2, []), (3, []), (4, []), (5, []), (6, []), (7, []), (8, []), (9, [])]
abbrev plan75x2 : Plan := [(0, []), (1, []), (2, []), (3, []), (4, []), (5, []), (6, []), (7, []), (8, []), (9, [])]
abbrev plan75x3 : Plan := [(0, []), (1, []), (2, []), (3, []), (4, []), (5, []), (6, []), (7, []), (8, []), (9, [])]
abbrev plan79x1 : Plan := [(0, []), (1, []), (2, []), (3, []), (4, []), (5, []), (6, []), (7, []), (8, []), (9, []), (10, [])]
/-- The table without contracts. -/
def tab0 : Tab := ⟨fun _ => none, masks⟩
theorem bt : BT Try.prog 53 5 := ⟨Try.underlying53, Try.underlying5, fun _ => rfl, ⟨_, rfl, rfl, rfl, rfl⟩, fun _ => rfl⟩
theorem it42 : IT Try.prog 63 2 .i64 := ⟨Try.underlying63, Try.underlying2, fun _ => rfl, ⟨_, rfl, rfl, rfl, by decide⟩⟩
theorem tt43 : TT Try.prog 64 9 := ⟨Try.underlying64, Try.underlying9, fun _ => rfl, ⟨_, rfl, rfl, rfl, by decide⟩⟩
theorem it44 : IT Try.prog 80 3 .i64 := ⟨Try.underlying80, Try.underlying3, fun _ => rfl, ⟨_, rfl, rfl, rfl, by decide⟩⟩
end Go.Proofs.Ytjooccdeeejecaa
