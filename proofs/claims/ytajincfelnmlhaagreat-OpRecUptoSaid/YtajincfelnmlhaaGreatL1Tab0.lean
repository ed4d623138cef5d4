/- The table of contracts, the masks and the plans of this seat's functions. -/
import Derived.Test.YtajincfelnmlhaaGreatProg
import Derived.Test.YtajincfelnmlhaaGreatGmStep
namespace Go.Proofs.YtajincfelnmlhaaGreat
open Go.AM Go.AM.St
set_option maxRecDepth 100000
def masks (g k : Nat) : Nat :=
  bif Nat.beq g 3 then (bif Nat.beq k 23 then 28672 else bif Nat.beq k 2 then 28672 else bif Nat.beq k 4 then 28672 else bif Nat.beq k 33 then 61440 else bif Nat.beq k 6 then 61440 else 0) else
  bif Nat.beq g 6 then (bif Nat.beq k 0 then 64 else bif Nat.beq k 23 then 451 else bif Nat.beq k 2 then 451 else bif Nat.beq k 4 then 451 else bif Nat.beq k 35 then 1987 else bif Nat.beq k 6 then 1987 else bif Nat.beq k 49 then 4160 else bif Nat.beq k 10 then 4160 else 0) else
  bif Nat.beq g 7 then (bif Nat.beq k 15 then 113 else bif Nat.beq k 2 then 113 else bif Nat.beq k 4 then 497 else bif Nat.beq k 25 then 1009 else bif Nat.beq k 6 then 1009 else bif Nat.beq k 8 then 14833 else bif Nat.beq k 59 then 31217 else bif Nat.beq k 10 then 31217 else bif Nat.beq k 12 then 31217 else bif Nat.beq k 65 then 283953734451123385935261518035441 else bif Nat.beq k 14 then 283953734451123385935261518035441 else bif Nat.beq k 16 then 283953734451123385935261518035441 else bif Nat.beq k 71 then 18456992739323020085791998670371313 else bif Nat.beq k 18 then 18456992739323020085791998670371313 else bif Nat.beq k 20 then 113 else bif Nat.beq k 93 then 19981467697883438334816003572292931909358453105 else bif Nat.beq k 22 then 19981467697883438334816003572292931909358453105 else bif Nat.beq k 24 then 2097265 else bif Nat.beq k 105 then 6291569 else bif Nat.beq k 26 then 6291569 else 0) else
  bif Nat.beq g 11 then (bif Nat.beq k 0 then 73 else bif Nat.beq k 15 then 201 else bif Nat.beq k 2 then 201 else 0) else
  bif Nat.beq g 12 then (bif Nat.beq k 0 then 17 else bif Nat.beq k 13 then 49 else bif Nat.beq k 2 then 49 else bif Nat.beq k 31 then 2115620184325601055735824 else bif Nat.beq k 6 then 2115620184325601055735824 else bif Nat.beq k 8 then 2115620184325601055736848 else bif Nat.beq k 39 then 137515311981164068622829072 else bif Nat.beq k 10 then 137515311981164068622829072 else 0) else
  bif Nat.beq g 19 then (bif Nat.beq k 0 then 1 else bif Nat.beq k 5 then 9 else bif Nat.beq k 2 then 9 else 0) else
  bif Nat.beq g 24 then (bif Nat.beq k 9 then 35 else bif Nat.beq k 2 then 35 else 0) else
  bif Nat.beq g 25 then (bif Nat.beq k 0 then 256 else bif Nat.beq k 13 then 234881281 else bif Nat.beq k 2 then 234881281 else 0) else
  bif Nat.beq g 26 then (bif Nat.beq k 0 then 128 else bif Nat.beq k 9 then 899 else bif Nat.beq k 2 then 899 else 0) else
  bif Nat.beq g 27 then (bif Nat.beq k 0 then 32 else bif Nat.beq k 11 then 917538 else bif Nat.beq k 2 then 917538 else 0) else
  bif Nat.beq g 28 then (bif Nat.beq k 0 then 32 else bif Nat.beq k 11 then 99 else bif Nat.beq k 2 then 99 else 0) else
  bif Nat.beq g 29 then (bif Nat.beq k 0 then 320 else bif Nat.beq k 11 then 240518168896 else bif Nat.beq k 2 then 240518168896 else 0) else
  bif Nat.beq g 30 then (bif Nat.beq k 0 then 320 else bif Nat.beq k 11 then 834 else bif Nat.beq k 2 then 834 else 0) else
  bif Nat.beq g 31 then (bif Nat.beq k 0 then 12 else bif Nat.beq k 9 then 44 else bif Nat.beq k 2 then 44 else bif Nat.beq k 19 then 76 else bif Nat.beq k 6 then 76 else 0) else
  bif Nat.beq g 32 then (bif Nat.beq k 0 then 198 else bif Nat.beq k 15 then 12884902086 else bif Nat.beq k 2 then 12884902086 else 0) else
  bif Nat.beq g 33 then (bif Nat.beq k 0 then 198 else bif Nat.beq k 15 then 486 else bif Nat.beq k 2 then 486 else 0) else
  bif Nat.beq g 36 then (bif Nat.beq k 0 then 32 else bif Nat.beq k 7 then 14369 else bif Nat.beq k 2 then 14369 else 0) else
  bif Nat.beq g 37 then (bif Nat.beq k 0 then 8 else bif Nat.beq k 7 then 456 else bif Nat.beq k 2 then 456 else 0) else
  bif Nat.beq g 38 then (bif Nat.beq k 0 then 8 else bif Nat.beq k 7 then 25 else bif Nat.beq k 2 then 25 else 0) else
  bif Nat.beq g 39 then (bif Nat.beq k 9 then 35 else bif Nat.beq k 2 then 35 else 0) else
  bif Nat.beq g 40 then (bif Nat.beq k 0 then 8 else bif Nat.beq k 7 then 25 else bif Nat.beq k 2 then 25 else 0) else
  bif Nat.beq g 42 then (bif Nat.beq k 0 then 21 else bif Nat.beq k 9 then 131093 else bif Nat.beq k 2 then 131093 else bif Nat.beq k 19 then 15032385553 else bif Nat.beq k 6 then 15032385553 else 0) else
  bif Nat.beq g 43 then (bif Nat.beq k 0 then 41 else bif Nat.beq k 5 then 41 else bif Nat.beq k 2 then 41 else 0) else
  bif Nat.beq g 44 then (bif Nat.beq k 0 then 32 else bif Nat.beq k 11 then 16424 else bif Nat.beq k 2 then 16424 else 0) else
  bif Nat.beq g 46 then (bif Nat.beq k 0 then 8 else bif Nat.beq k 7 then 25 else bif Nat.beq k 2 then 25 else 0) else
  bif Nat.beq g 56 then (bif Nat.beq k 0 then 1 else bif Nat.beq k 5 then 9 else bif Nat.beq k 2 then 9 else 0) else
  bif Nat.beq g 74 then (bif Nat.beq k 5 then 387 else bif Nat.beq k 2 then 387 else 0) else
  bif Nat.beq g 76 then (bif Nat.beq k 9 then 12291 else bif Nat.beq k 2 then 12291 else 0) else
  bif Nat.beq g 77 then (bif Nat.beq k 9 then 12291 else bif Nat.beq k 2 then 12291 else 0) else
  bif Nat.beq g 78 then (bif Nat.beq k 0 then 96 else bif Nat.beq k 7 then 226 else bif Nat.beq k 2 then 226 else 0) else
  bif Nat.beq g 81 then (bif Nat.beq k 0 then 1 else bif Nat.beq k 9 then 9 else bif Nat.beq k 2 then 9 else bif Nat.beq k 4 then 9 else bif Nat.beq k 19 then 57 else bif Nat.beq k 6 then 57 else 0) else
  bif Nat.beq g 82 then (bif Nat.beq k 5 then 387 else bif Nat.beq k 2 then 387 else 0) else
  bif Nat.beq g 83 then (bif Nat.beq k 5 then 387 else bif Nat.beq k 2 then 387 else 0) else
  bif Nat.beq g 84 then (bif Nat.beq k 0 then 8 else bif Nat.beq k 7 then 3592 else bif Nat.beq k 2 then 3592 else 0) else
  bif Nat.beq g 93 then (bif Nat.beq k 5 then 1030 else bif Nat.beq k 2 then 1030 else 0) else
  bif Nat.beq g 95 then (bif Nat.beq k 5 then 3103 else bif Nat.beq k 2 then 3103 else 0) else
  bif Nat.beq g 97 then (bif Nat.beq k 0 then 8 else bif Nat.beq k 7 then 456 else bif Nat.beq k 2 then 456 else 0) else
  bif Nat.beq g 103 then (bif Nat.beq k 0 then 96 else bif Nat.beq k 7 then 229472 else bif Nat.beq k 2 then 229472 else 0) else
  bif Nat.beq g 104 then (bif Nat.beq k 3 then 271 else bif Nat.beq k 2 then 271 else bif Nat.beq k 4 then 271 else bif Nat.beq k 9 then 783 else bif Nat.beq k 6 then 783 else 0) else
  bif Nat.beq g 105 then (bif Nat.beq k 0 then 1801 else bif Nat.beq k 9 then 3849 else bif Nat.beq k 2 then 3849 else bif Nat.beq k 17 then 4873 else bif Nat.beq k 6 then 4873 else 0) else
  bif Nat.beq g 106 then (bif Nat.beq k 11 then 3843 else bif Nat.beq k 2 then 3843 else 0) else
  bif Nat.beq g 108 then (bif Nat.beq k 5 then 769 else bif Nat.beq k 2 then 769 else 0) else
  bif Nat.beq g 109 then (bif Nat.beq k 7 then 1551 else bif Nat.beq k 2 then 1551 else bif Nat.beq k 4 then 1551 else bif Nat.beq k 11 then 1551 else bif Nat.beq k 6 then 1551 else bif Nat.beq k 8 then 1551 else bif Nat.beq k 29 then 3599 else bif Nat.beq k 10 then 3599 else bif Nat.beq k 12 then 1551 else bif Nat.beq k 41 then 5647 else bif Nat.beq k 14 then 5647 else 0) else
  bif Nat.beq g 110 then (bif Nat.beq k 0 then 2048 else bif Nat.beq k 7 then 6163 else bif Nat.beq k 2 then 6163 else bif Nat.beq k 4 then 6163 else bif Nat.beq k 7 then 6163 else bif Nat.beq k 6 then 6163 else bif Nat.beq k 8 then 6163 else bif Nat.beq k 11 then 6163 else bif Nat.beq k 10 then 6163 else 0) else
  bif Nat.beq g 111 then (bif Nat.beq k 0 then 12307 else bif Nat.beq k 7 then 12307 else bif Nat.beq k 2 then 12307 else bif Nat.beq k 4 then 12307 else bif Nat.beq k 11 then 12307 else bif Nat.beq k 6 then 12307 else bif Nat.beq k 8 then 8195 else bif Nat.beq k 27 then 12307 else bif Nat.beq k 10 then 12307 else bif Nat.beq k 12 then 12307 else bif Nat.beq k 27 then 12307 else bif Nat.beq k 14 then 12307 else bif Nat.beq k 16 then 12307 else bif Nat.beq k 31 then 12307 else bif Nat.beq k 18 then 12307 else 0) else
  bif Nat.beq g 117 then (bif Nat.beq k 3 then 33 else bif Nat.beq k 2 then 33 else 0) else
  bif Nat.beq g 120 then (bif Nat.beq k 0 then 16 else bif Nat.beq k 9 then 24 else bif Nat.beq k 2 then 24 else 0) else
  bif Nat.beq g 121 then (bif Nat.beq k 7 then 14352 else bif Nat.beq k 2 then 14352 else 0) else
  bif Nat.beq g 122 then (bif Nat.beq k 0 then 18 else bif Nat.beq k 11 then 14680082 else bif Nat.beq k 2 then 14680082 else bif Nat.beq k 4 then 16 else bif Nat.beq k 23 then 3848290697232 else bif Nat.beq k 6 then 3848290697232 else 0) else
  bif Nat.beq g 123 then (bif Nat.beq k 0 then 100 else bif Nat.beq k 9 then 49252 else bif Nat.beq k 2 then 49252 else bif Nat.beq k 4 then 100 else bif Nat.beq k 17 then 201326692 else bif Nat.beq k 6 then 201326692 else 0) else
  bif Nat.beq g 125 then (bif Nat.beq k 0 then 12 else bif Nat.beq k 7 then 49 else bif Nat.beq k 2 then 49 else 0) else
  bif Nat.beq g 126 then (bif Nat.beq k 3 then 1053 else bif Nat.beq k 2 then 1053 else 0) else
  bif Nat.beq g 132 then (bif Nat.beq k 5 then 3103 else bif Nat.beq k 2 then 3103 else 0) else
  bif Nat.beq g 141 then (bif Nat.beq k 0 then 32 else bif Nat.beq k 11 then 196641 else bif Nat.beq k 2 then 196641 else 0) else
  bif Nat.beq g 144 then (bif Nat.beq k 3 then 271 else bif Nat.beq k 2 then 271 else bif Nat.beq k 4 then 271 else bif Nat.beq k 9 then 783 else bif Nat.beq k 6 then 783 else 0) else
  bif Nat.beq g 145 then (bif Nat.beq k 0 then 1801 else bif Nat.beq k 9 then 3849 else bif Nat.beq k 2 then 3849 else bif Nat.beq k 17 then 4873 else bif Nat.beq k 6 then 4873 else 0) else
  bif Nat.beq g 146 then (bif Nat.beq k 11 then 3843 else bif Nat.beq k 2 then 3843 else 0) else
  bif Nat.beq g 148 then (bif Nat.beq k 5 then 769 else bif Nat.beq k 2 then 769 else 0) else
  bif Nat.beq g 149 then (bif Nat.beq k 7 then 1551 else bif Nat.beq k 2 then 1551 else bif Nat.beq k 4 then 1551 else bif Nat.beq k 11 then 1551 else bif Nat.beq k 6 then 1551 else bif Nat.beq k 8 then 1551 else bif Nat.beq k 29 then 3599 else bif Nat.beq k 10 then 3599 else bif Nat.beq k 12 then 1551 else bif Nat.beq k 41 then 5647 else bif Nat.beq k 14 then 5647 else 0) else
  bif Nat.beq g 150 then (bif Nat.beq k 0 then 2048 else bif Nat.beq k 7 then 6163 else bif Nat.beq k 2 then 6163 else bif Nat.beq k 4 then 6163 else bif Nat.beq k 7 then 6163 else bif Nat.beq k 6 then 6163 else bif Nat.beq k 8 then 6163 else bif Nat.beq k 11 then 6163 else bif Nat.beq k 10 then 6163 else 0) else
  bif Nat.beq g 151 then (bif Nat.beq k 0 then 12307 else bif Nat.beq k 7 then 12307 else bif Nat.beq k 2 then 12307 else bif Nat.beq k 4 then 12307 else bif Nat.beq k 11 then 12307 else bif Nat.beq k 6 then 12307 else bif Nat.beq k 8 then 8195 else bif Nat.beq k 27 then 12307 else bif Nat.beq k 10 then 12307 else bif Nat.beq k 12 then 12307 else bif Nat.beq k 27 then 12307 else bif Nat.beq k 14 then 12307 else bif Nat.beq k 16 then 12307 else bif Nat.beq k 31 then 12307 else bif Nat.beq k 18 then 12307 else 0) else
  bif Nat.beq g 153 then (bif Nat.beq k 7 then 1826 else bif Nat.beq k 2 then 1826 else 0) else
  bif Nat.beq g 154 then (bif Nat.beq k 0 then 8 else bif Nat.beq k 7 then 7176 else bif Nat.beq k 2 then 7176 else 0) else
  bif Nat.beq g 155 then (bif Nat.beq k 3 then 1053 else bif Nat.beq k 2 then 1053 else 0) else
  0
abbrev plan3x5 : Plan := [(0, []), (2, []), (1, [2]), (3, []), (4, []), (5, []), (6, []), (8, []), (7, []), (9, []), (10, []), (11, []), (12, []), (13, []), (14, []), (16, []), (17, []), (15, [17]), (18, []), (19, []), (20, []), (21, []), (22, []), (24, []), (23, [24]), (25, []), (26, []), (27, []), (28, []), (29, []), (30, []), (31, []), (33, []), (34, []), (35, []), (32, []), (36, []), (37, []), (38, []), (39, [])]
abbrev plan3x13 : Plan := [(0, []), (1, []), (2, []), (3, []), (4, []), (5, []), (6, []), (7, []), (8, []), (9, []), (10, [])]
abbrev plan3x18 : Plan := [(0, []), (1, []), (2, []), (3, []), (4, []), (5, []), (6, []), (7, []), (8, []), (9, []), (10, []), (11, []), (12, []), (13, []), (14, [])]
abbrev plan4x14 : Plan := [(0, []), (2, []), (1, [2]), (3, []), (4, []), (5, [])]
abbrev plan6x20 : Plan := [(0, []), (1, []), (2, []), (3, []), (4, []), (5, []), (6, []), (7, []), (8, []), (9, []), (10, []), (11, []), (12, []), (13, []), (14, []), (15, []), (16, []), (17, []), (18, []), (19, []), (20, []), (21, []), (22, []), (23, []), (24, []), (25, []), (26, []), (27, []), (28, []), (29, []), (30, []), (31, []), (32, []), (33, []), (34, []), (35, []), (36, []), (37, []), (38, []), (39, []), (40, []), (41, []), (43, []), (42, []), (44, []), (45, [])]
abbrev plan7x14 : Plan := [(0, []), (1, []), (2, []), (3, []), (4, []), (5, []), (6, []), (7, [])]
abbrev plan7x20 : Plan := [(0, []), (1, []), (2, []), (4, []), (5, []), (6, []), (7, []), (3, []), (8, []), (9, [])]
abbrev plan7x48 : Plan := [(0, []), (1, []), (2, []), (3, []), (4, []), (5, []), (6, []), (7, []), (8, []), (9, []), (10, []), (11, [])]
abbrev plan7x55 : Plan := [(0, []), (1, []), (2, []), (3, []), (4, []), (5, []), (8, []), (9, []), (10, []), (11, []), (12, []), (6, [12]), (7, [12]), (13, []), (14, [])]
abbrev plan14x13 : Plan := [(0, []), (1, []), (2, []), (4, []), (5, []), (6, []), (7, []), (3, []), (8, []), (9, []), (10, [])]
abbrev plan17x3 : Plan := [(0, []), (1, []), (2, []), (3, []), (4, []), (5, []), (6, []), (7, []), (8, []), (9, [7, 4]), (10, [7]), (11, [])]
abbrev plan24x6 : Plan := [(0, []), (1, []), (2, []), (3, []), (4, []), (5, []), (6, []), (7, []), (8, [])]
abbrev plan30x7 : Plan := [(0, []), (1, []), (2, []), (3, []), (4, []), (5, []), (6, []), (7, []), (8, []), (9, []), (10, []), (11, []), (12, [1]), (13, []), (14, []), (15, [])]
abbrev plan30x8 : Plan := [(0, []), (1, []), (2, []), (3, []), (4, []), (5, []), (6, []), (7, []), (8, []), (9, []), (10, []), (11, []), (12, []), (13, []), (14, []), (15, []), (16, []), (17, [1]), (18, []), (19, []), (20, [])]
abbrev plan31x6 : Plan := [(0, []), (1, []), (2, []), (3, []), (4, []), (5, []), (6, []), (7, []), (8, []), (9, []), (10, [])]
abbrev plan31x11 : Plan := [(0, []), (1, []), (2, []), (3, []), (4, []), (5, []), (6, []), (7, []), (8, []), (9, []), (10, [])]
abbrev plan32x4 : Plan := [(0, []), (1, []), (2, []), (3, []), (4, []), (5, []), (6, []), (7, []), (8, []), (9, [7, 5, 3, 1]), (10, [])]
abbrev plan32x9 : Plan := [(0, []), (1, []), (2, []), (3, []), (4, []), (5, []), (6, []), (7, []), (8, []), (9, []), (10, []), (11, []), (12, []), (13, []), (14, []), (15, []), (16, []), (17, []), (18, []), (19, []), (20, []), (21, []), (22, []), (23, []), (24, []), (25, []), (26, []), (27, []), (28, []), (29, []), (30, []), (31, []), (32, []), (33, []), (34, []), (35, []), (36, []), (37, []), (38, [])]
abbrev plan33x4 : Plan := [(0, []), (1, []), (2, []), (3, []), (4, []), (5, []), (6, []), (7, []), (8, []), (9, [7, 5, 3, 1]), (10, [])]
abbrev plan33x11 : Plan := [(0, []), (1, []), (2, []), (3, []), (4, []), (5, []), (6, []), (7, []), (8, []), (9, []), (10, []), (11, []), (12, []), (13, []), (14, []), (15, []), (16, []), (17, []), (18, []), (19, []), (20, []), (21, []), (22, []), (23, []), (24, []), (25, []), (26, []), (27, []), (28, []), (29, []), (30, []), (31, []), (32, []), (33, []), (34, []), (35, []), (36, []), (37, []), (38, [])]
abbrev plan36x5 : Plan := [(0, []), (1, []), (2, []), (3, []), (4, []), (5, [])]
abbrev plan38x5 : Plan := [(0, []), (1, []), (2, []), (3, []), (4, []), (5, []), (6, []), (7, []), (8, []), (9, []), (10, []), (11, []), (12, []), (13, []), (14, []), (15, []), (16, []), (17, []), (18, []), (19, [])]
abbrev plan39x6 : Plan := [(0, []), (1, []), (2, []), (3, []), (4, []), (5, []), (6, []), (7, []), (8, [])]
abbrev plan40x7 : Plan := [(0, []), (1, []), (2, []), (3, []), (4, []), (5, []), (6, []), (7, []), (8, []), (9, []), (10, []), (11, [])]
abbrev plan42x11 : Plan := [(0, []), (1, []), (2, []), (3, []), (4, []), (5, []), (6, [])]
abbrev plan43x2 : Plan := [(0, []), (1, []), (2, []), (3, []), (4, []), (5, []), (6, []), (7, []), (8, []), (9, []), (10, []), (11, [])]
abbrev plan43x4 : Plan := [(0, []), (1, []), (2, []), (3, []), (4, []), (5, []), (6, []), (7, []), (8, []), (9, []), (10, []), (11, [])]
abbrev plan49x3 : Plan := [(0, []), (1, []), (2, []), (3, []), (4, []), (5, []), (6, []), (7, [4, 2]), (8, []), (9, []), (10, []), (11, [])]
abbrev plan50x3 : Plan := [(0, []), (1, []), (2, []), (3, []), (4, []), (5, []), (6, []), (7, []), (8, []), (9, []), (10, []), (11, []), (12, []), (13, []), (14, []), (15, []), (16, []), (17, []), (18, [16, 14, 12, 10, 7, 5, 3, 1]), (19, [16, 14, 12, 10]), (20, [16, 14]), (21, [])]
abbrev plan72x6 : Plan := [(0, []), (1, []), (2, []), (3, []), (4, []), (5, []), (6, []), (7, []), (8, []), (9, []), (10, []), (11, []), (12, []), (13, []), (14, []), (15, []), (16, []), (17, []), (18, []), (19, []), (20, []), (21, []), (22, []), (23, []), (24, []), (25, []), (26, []), (27, []), (28, []), (29, []), (30, []), (31, []), (32, []), (33, []), (34, []), (35, []), (36, []), (37, []), (38, []), (39, []), (40, []), (41, []), (42, []), (43, []), (44, []), (45, []), (46, []), (47, []), (48, []), (49, []), (50, []), (51, []), (52, []), (53, []), (54, []), (55, []), (56, []), (57, []), (58, []), (59, []), (60, []), (61, []), (62, []), (63, []), (64, [])]
abbrev plan76x6 : Plan := [(0, []), (1, []), (2, []), (3, []), (4, []), (5, []), (6, []), (7, []), (8, [])]
abbrev plan77x6 : Plan := [(0, []), (1, []), (2, []), (3, []), (4, []), (5, []), (6, []), (7, []), (8, [])]
abbrev plan80x6 : Plan := [(0, []), (1, []), (2, []), (3, []), (5, []), (6, []), (7, []), (8, []), (9, []), (4, [9, 7]), (10, []), (11, []), (12, []), (13, [])]
abbrev plan81x6 : Plan := [(0, []), (1, []), (2, []), (3, []), (4, []), (5, []), (6, []), (7, []), (8, []), (9, [])]
abbrev plan81x11 : Plan := [(0, []), (1, []), (2, []), (3, []), (4, []), (5, []), (6, []), (7, []), (8, []), (9, [])]
abbrev plan84x5 : Plan := [(0, []), (1, []), (2, []), (3, []), (4, []), (5, [])]
abbrev plan85x1 : Plan := [(0, []), (1, []), (2, []), (3, []), (4, []), (5, []), (6, []), (7, []), (8, []), (9, [])]
abbrev plan85x3 : Plan := [(0, []), (1, []), (2, []), (3, []), (4, []), (5, [])]
abbrev plan88x1 : Plan := [(0, []), (1, []), (2, []), (3, []), (4, []), (5, []), (6, []), (7, []), (8, []), (9, []), (10, [])]
abbrev plan89x3 : Plan := [(0, []), (1, []), (2, []), (3, []), (4, []), (5, [])]
abbrev plan95x17 : Plan := [(0, []), (1, []), (2, []), (3, []), (4, []), (5, []), (6, []), (7, []), (8, []), (9, []), (10, []), (11, []), (12, []), (13, []), (14, []), (15, []), (16, [])]
abbrev plan101x1 : Plan := [(0, []), (1, []), (2, []), (3, []), (5, []), (6, []), (7, []), (8, []), (4, [8, 6]), (9, []), (10, []), (11, []), (12, [])]
abbrev plan104x4 : Plan := [(0, []), (1, []), (2, []), (3, []), (4, []), (5, []), (6, []), (7, []), (8, []), (9, []), (10, []), (11, []), (12, []), (13, []), (14, []), (15, []), (16, [])]
abbrev plan104x6 : Plan := [(0, []), (1, []), (2, []), (3, []), (4, []), (5, []), (6, []), (7, []), (8, []), (9, []), (10, []), (11, []), (12, []), (13, []), (14, []), (15, []), (16, []), (17, [])]
abbrev plan105x10 : Plan := [(0, []), (1, []), (2, []), (3, []), (4, []), (5, []), (6, []), (7, []), (8, []), (9, []), (10, []), (11, []), (12, []), (13, []), (14, []), (15, []), (16, []), (17, []), (18, []), (19, [])]
abbrev plan106x10 : Plan := [(0, []), (1, []), (2, []), (3, []), (4, []), (5, []), (6, []), (7, []), (8, []), (9, []), (10, []), (11, []), (12, []), (13, []), (14, []), (15, []), (16, []), (17, []), (18, []), (19, [])]
abbrev plan108x3 : Plan := [(0, []), (1, []), (2, []), (3, []), (4, []), (5, []), (6, []), (7, []), (8, []), (9, []), (10, []), (11, []), (12, []), (13, []), (14, []), (15, [])]
abbrev plan109x5 : Plan := [(0, []), (1, []), (2, []), (3, []), (4, []), (5, []), (6, []), (7, []), (8, []), (9, []), (10, []), (11, []), (12, []), (13, []), (14, []), (15, []), (16, []), (17, [])]
abbrev plan109x11 : Plan := [(0, []), (1, []), (2, []), (3, []), (4, []), (5, []), (6, []), (7, []), (8, []), (9, []), (10, []), (11, []), (12, []), (13, []), (14, []), (15, []), (16, []), (17, [])]
abbrev plan109x16 : Plan := [(0, []), (1, []), (2, []), (3, []), (4, []), (5, []), (6, []), (7, []), (8, []), (9, []), (10, []), (11, []), (12, [])]
abbrev plan109x17 : Plan := [(0, []), (1, []), (2, []), (3, []), (4, []), (5, []), (6, []), (7, []), (8, []), (9, []), (10, []), (11, []), (12, []), (13, []), (14, []), (15, []), (16, []), (17, [])]
abbrev plan109x22 : Plan := [(0, []), (1, []), (2, []), (3, []), (4, []), (5, []), (6, []), (7, []), (8, []), (9, []), (10, []), (11, []), (12, [])]
abbrev plan109x23 : Plan := [(0, []), (1, []), (2, []), (3, []), (4, []), (5, []), (6, []), (7, []), (8, []), (9, []), (10, []), (11, []), (12, []), (13, []), (14, []), (15, []), (16, []), (17, [])]
abbrev plan110x1 : Plan := [(0, []), (1, []), (2, []), (3, []), (4, []), (5, []), (6, []), (7, []), (8, []), (9, []), (10, []), (11, []), (12, []), (13, []), (14, []), (15, [])]
abbrev plan110x3 : Plan := [(0, []), (1, []), (2, []), (3, []), (4, []), (5, []), (6, []), (7, []), (8, []), (9, []), (10, []), (11, []), (12, []), (13, []), (14, []), (15, []), (16, [])]
abbrev plan110x5 : Plan := [(0, []), (1, []), (2, []), (3, []), (4, []), (5, []), (6, []), (7, []), (8, []), (9, []), (10, []), (11, []), (12, []), (13, []), (14, []), (15, [])]
abbrev plan110x8 : Plan := [(0, []), (1, []), (2, []), (3, []), (4, []), (5, []), (6, []), (7, []), (8, []), (9, []), (10, []), (11, []), (12, []), (13, []), (14, []), (15, [])]
abbrev plan111x1 : Plan := [(0, []), (1, []), (2, []), (3, []), (4, []), (5, []), (6, []), (7, []), (8, []), (9, []), (10, []), (11, []), (12, []), (13, []), (14, []), (15, [])]
abbrev plan111x3 : Plan := [(0, []), (1, []), (2, []), (3, []), (4, []), (5, []), (6, []), (7, []), (8, []), (9, []), (10, []), (11, []), (12, []), (13, []), (14, []), (15, [])]
abbrev plan111x5 : Plan := [(0, []), (1, []), (2, []), (3, []), (4, []), (5, []), (6, []), (7, []), (8, []), (9, []), (10, []), (11, []), (12, []), (13, []), (14, []), (15, []), (16, [])]
abbrev plan111x8 : Plan := [(0, []), (1, []), (2, []), (3, []), (4, []), (5, []), (6, []), (7, []), (8, []), (9, []), (10, []), (11, []), (12, []), (13, []), (14, []), (15, [])]
abbrev plan111x10 : Plan := [(0, []), (1, []), (2, []), (3, []), (4, []), (5, []), (6, []), (7, []), (8, []), (9, []), (10, []), (11, []), (12, []), (13, []), (14, []), (15, [])]
abbrev plan111x13 : Plan := [(0, []), (1, []), (2, []), (3, []), (4, []), (5, []), (6, []), (7, []), (8, []), (9, []), (10, []), (11, []), (12, []), (13, []), (14, []), (15, [])]
abbrev plan111x15 : Plan := [(0, []), (1, []), (2, []), (3, []), (4, []), (5, []), (6, []), (7, []), (8, []), (9, []), (10, []), (11, []), (12, []), (13, []), (14, []), (15, []), (16, [])]
abbrev plan111x18 : Plan := [(0, []), (1, []), (2, []), (3, []), (4, []), (5, []), (6, []), (7, []), (8, []), (9, []), (10, []), (11, []), (12, []), (13, []), (14, []), (15, [])]
abbrev plan111x21 : Plan := [(0, []), (1, []), (2, []), (3, []), (4, []), (5, []), (6, []), (7, []), (8, []), (9, []), (10, []), (11, []), (12, []), (13, []), (14, []), (15, [])]
abbrev plan122x3 : Plan := [(0, []), (1, []), (3, []), (4, []), (5, []), (2, [4]), (6, []), (7, []), (8, [])]
abbrev plan123x5 : Plan := [(0, []), (1, []), (2, []), (3, [1]), (4, [1]), (5, []), (6, []), (7, [])]
abbrev plan123x9 : Plan := [(0, []), (1, []), (2, []), (3, [1]), (4, [1]), (5, []), (6, []), (7, [])]
abbrev plan123x12 : Plan := [(0, []), (1, []), (2, []), (3, []), (4, []), (5, [4]), (6, [4]), (7, [])]
abbrev plan123x13 : Plan := [(0, []), (1, []), (2, []), (3, []), (4, []), (5, [4]), (6, []), (7, [])]
abbrev plan126x3 : Plan := [(0, []), (1, []), (2, []), (3, []), (4, []), (5, []), (6, []), (7, []), (8, []), (9, []), (10, []), (11, []), (12, []), (13, []), (14, []), (15, []), (16, []), (17, []), (18, []), (19, []), (20, []), (21, [])]
abbrev plan126x5 : Plan := [(0, []), (1, []), (2, []), (3, []), (4, []), (5, []), (6, []), (7, []), (8, []), (9, []), (10, []), (11, []), (12, []), (13, []), (14, []), (15, [])]
abbrev plan126x6 : Plan := [(0, []), (1, []), (2, []), (3, []), (4, []), (5, []), (6, []), (7, []), (8, []), (9, []), (10, []), (11, []), (12, []), (13, []), (14, []), (15, []), (16, []), (17, []), (18, []), (19, []), (20, []), (21, []), (22, []), (23, [])]
abbrev plan128x1 : Plan := [(0, []), (1, []), (2, []), (3, []), (4, []), (5, []), (6, []), (7, []), (8, []), (9, [])]
abbrev plan128x2 : Plan := [(0, []), (1, []), (2, []), (3, []), (4, []), (5, []), (6, []), (7, []), (8, []), (9, [])]
abbrev plan128x3 : Plan := [(0, []), (1, []), (2, []), (3, []), (4, []), (5, []), (6, []), (7, []), (8, []), (9, [])]
abbrev plan132x17 : Plan := [(0, []), (1, []), (2, []), (3, []), (4, []), (5, []), (6, []), (7, []), (8, []), (9, []), (10, []), (11, []), (12, []), (13, []), (14, []), (15, []), (16, [])]
abbrev plan139x3 : Plan := [(0, []), (1, []), (2, []), (3, []), (4, []), (5, []), (6, []), (7, []), (8, []), (9, []), (10, []), (11, []), (12, []), (13, []), (14, [])]
abbrev plan139x8 : Plan := [(0, []), (1, []), (2, []), (3, []), (4, []), (5, []), (6, []), (7, []), (8, []), (9, []), (10, []), (11, []), (12, []), (13, []), (14, []), (15, [])]
abbrev plan140x4 : Plan := [(0, []), (1, []), (2, []), (3, []), (4, []), (5, []), (6, []), (7, []), (8, []), (9, []), (10, []), (11, [])]
abbrev plan140x8 : Plan := [(0, []), (1, []), (2, []), (3, []), (4, []), (5, []), (6, []), (7, []), (8, []), (9, []), (10, []), (11, []), (12, []), (13, []), (14, []), (15, []), (16, [])]
abbrev plan142x7 : Plan := [(0, []), (1, []), (2, []), (3, []), (4, []), (5, []), (6, []), (7, []), (8, []), (9, []), (10, []), (12, []), (13, []), (14, []), (11, []), (15, []), (16, []), (17, []), (18, [])]
abbrev plan143x1 : Plan := [(0, []), (1, []), (2, []), (3, []), (4, []), (5, []), (6, []), (7, []), (8, []), (9, []), (10, [])]
abbrev plan144x4 : Plan := [(0, []), (1, []), (2, []), (3, []), (4, []), (5, []), (6, []), (7, []), (8, []), (9, []), (10, []), (11, []), (12, []), (13, []), (14, []), (15, []), (16, [])]
abbrev plan144x6 : Plan := [(0, []), (1, []), (2, []), (3, []), (4, []), (5, []), (6, []), (7, []), (8, []), (9, []), (10, []), (11, []), (12, []), (13, []), (14, []), (15, []), (16, []), (17, [])]
abbrev plan145x10 : Plan := [(0, []), (1, []), (2, []), (3, []), (4, []), (5, []), (6, []), (7, []), (8, []), (9, []), (10, []), (11, []), (12, []), (13, []), (14, []), (15, []), (16, []), (17, []), (18, []), (19, [])]
abbrev plan146x10 : Plan := [(0, []), (1, []), (2, []), (3, []), (4, []), (5, []), (6, []), (7, []), (8, []), (9, []), (10, []), (11, []), (12, []), (13, []), (14, []), (15, []), (16, []), (17, []), (18, []), (19, [])]
abbrev plan148x3 : Plan := [(0, []), (1, []), (2, []), (3, []), (4, []), (5, []), (6, []), (7, []), (8, []), (9, []), (10, []), (11, []), (12, []), (13, []), (14, []), (15, [])]
abbrev plan149x5 : Plan := [(0, []), (1, []), (2, []), (3, []), (4, []), (5, []), (6, []), (7, []), (8, []), (9, []), (10, []), (11, []), (12, []), (13, []), (14, []), (15, []), (16, []), (17, [])]
abbrev plan149x11 : Plan := [(0, []), (1, []), (2, []), (3, []), (4, []), (5, []), (6, []), (7, []), (8, []), (9, []), (10, []), (11, []), (12, []), (13, []), (14, []), (15, []), (16, []), (17, [])]
abbrev plan149x16 : Plan := [(0, []), (1, []), (2, []), (3, []), (4, []), (5, []), (6, []), (7, []), (8, []), (9, []), (10, []), (11, []), (12, [])]
abbrev plan149x17 : Plan := [(0, []), (1, []), (2, []), (3, []), (4, []), (5, []), (6, []), (7, []), (8, []), (9, []), (10, []), (11, []), (12, []), (13, []), (14, []), (15, []), (16, []), (17, [])]
abbrev plan149x22 : Plan := [(0, []), (1, []), (2, []), (3, []), (4, []), (5, []), (6, []), (7, []), (8, []), (9, []), (10, []), (11, []), (12, [])]
abbrev plan149x23 : Plan := [(0, []), (1, []), (2, []), (3, []), (4, []), (5, []), (6, []), (7, []), (8, []), (9, []), (10, []), (11, []), (12, []), (13, []), (14, []), (15, []), (16, []), (17, [])]
abbrev plan150x1 : Plan := [(0, []), (1, []), (2, []), (3, []), (4, []), (5, []), (6, []), (7, []), (8, []), (9, []), (10, []), (11, []), (12, []), (13, []), (14, []), (15, [])]
abbrev plan150x3 : Plan := [(0, []), (1, []), (2, []), (3, []), (4, []), (5, []), (6, []), (7, []), (8, []), (9, []), (10, []), (11, []), (12, []), (13, []), (14, []), (15, []), (16, [])]
abbrev plan150x5 : Plan := [(0, []), (1, []), (2, []), (3, []), (4, []), (5, []), (6, []), (7, []), (8, []), (9, []), (10, []), (11, []), (12, []), (13, []), (14, []), (15, [])]
abbrev plan150x8 : Plan := [(0, []), (1, []), (2, []), (3, []), (4, []), (5, []), (6, []), (7, []), (8, []), (9, []), (10, []), (11, []), (12, []), (13, []), (14, []), (15, [])]
abbrev plan151x1 : Plan := [(0, []), (1, []), (2, []), (3, []), (4, []), (5, []), (6, []), (7, []), (8, []), (9, []), (10, []), (11, []), (12, []), (13, []), (14, []), (15, [])]
abbrev plan151x3 : Plan := [(0, []), (1, []), (2, []), (3, []), (4, []), (5, []), (6, []), (7, []), (8, []), (9, []), (10, []), (11, []), (12, []), (13, []), (14, []), (15, [])]
abbrev plan151x5 : Plan := [(0, []), (1, []), (2, []), (3, []), (4, []), (5, []), (6, []), (7, []), (8, []), (9, []), (10, []), (11, []), (12, []), (13, []), (14, []), (15, []), (16, [])]
abbrev plan151x8 : Plan := [(0, []), (1, []), (2, []), (3, []), (4, []), (5, []), (6, []), (7, []), (8, []), (9, []), (10, []), (11, []), (12, []), (13, []), (14, []), (15, [])]
abbrev plan151x10 : Plan := [(0, []), (1, []), (2, []), (3, []), (4, []), (5, []), (6, []), (7, []), (8, []), (9, []), (10, []), (11, []), (12, []), (13, []), (14, []), (15, [])]
abbrev plan151x13 : Plan := [(0, []), (1, []), (2, []), (3, []), (4, []), (5, []), (6, []), (7, []), (8, []), (9, []), (10, []), (11, []), (12, []), (13, []), (14, []), (15, [])]
abbrev plan151x15 : Plan := [(0, []), (1, []), (2, []), (3, []), (4, []), (5, []), (6, []), (7, []), (8, []), (9, []), (10, []), (11, []), (12, []), (13, []), (14, []), (15, []), (16, [])]
abbrev plan151x18 : Plan := [(0, []), (1, []), (2, []), (3, []), (4, []), (5, []), (6, []), (7, []), (8, []), (9, []), (10, []), (11, []), (12, []), (13, []), (14, []), (15, [])]
abbrev plan151x21 : Plan := [(0, []), (1, []), (2, []), (3, []), (4, []), (5, []), (6, []), (7, []), (8, []), (9, []), (10, []), (11, []), (12, []), (13, []), (14, []), (15, [])]
abbrev plan155x3 : Plan := [(0, []), (1, []), (2, []), (3, []), (4, []), (5, []), (6, []), (7, []), (8, []), (9, []), (10, []), (11, []), (12, []), (13, []), (14, []), (15, []), (16, []), (17, []), (18, []), (19, []), (20, []), (21, [])]
abbrev plan155x5 : Plan := [(0, []), (1, []), (2, []), (3, []), (4, []), (5, []), (6, []), (7, []), (8, []), (9, []), (10, []), (11, []), (12, []), (13, []), (14, []), (15, [])]
abbrev plan155x6 : Plan := [(0, []), (1, []), (2, []), (3, []), (4, []), (5, []), (6, []), (7, []), (8, []), (9, []), (10, []), (11, []), (12, []), (13, []), (14, []), (15, []), (16, []), (17, []), (18, []), (19, []), (20, []), (21, []), (22, []), (23, [])]
abbrev plan158x1 : Plan := [(0, []), (1, []), (2, []), (3, []), (4, []), (5, []), (6, []), (7, []), (8, []), (9, []), (10, [])]
theorem bt : BT Tryz.prog 97 5 := ⟨Tryz.underlying97, Tryz.underlying5, fun _ => rfl, ⟨_, rfl, rfl, rfl, rfl⟩, fun _ => rfl⟩
theorem it42 : IT Tryz.prog 40 2 .i64 := ⟨Tryz.underlying40, Tryz.underlying2, fun _ => rfl, ⟨_, rfl, rfl, rfl, by decide⟩⟩
theorem tt43 : TT Tryz.prog 41 9 := ⟨Tryz.underlying41, Tryz.underlying9, fun _ => rfl, ⟨_, rfl, rfl, rfl, by decide⟩⟩
theorem it44 : IT Tryz.prog 37 3 .i64 := ⟨Tryz.underlying37, Tryz.underlying3, fun _ => rfl, ⟨_, rfl, rfl, rfl, by decide⟩⟩
end Go.Proofs.YtajincfelnmlhaaGreat
