/- The table of contracts, the masks and the plans of this seat's functions. -/
import Derived.Test.YtjcpopoinaeemaaGreatProg
import Derived.Test.YtjcpopoinaeemaaGreatGmStep
namespace Go.Proofs.YtjcpopoinaeemaaGreat
open Go.AM Go.AM.St
set_option maxRecDepth 100000
def masks (g k : Nat) : Nat :=
  bif Nat.beq g 3 then (bif Nat.beq k 0 then 48 else bif Nat.beq k 21 then 805306418 else bif Nat.beq k 2 then 805306418 else bif Nat.beq k 4 then 48 else bif Nat.beq k 31 then 30786325577776 else bif Nat.beq k 6 then 30786325577776 else bif Nat.beq k 8 then 30786325578032 else bif Nat.beq k 41 then 55340263007454232880 else bif Nat.beq k 10 then 55340263007454232880 else bif Nat.beq k 12 then 30786325577776 else bif Nat.beq k 51 then 14507109835406336422052144 else bif Nat.beq k 14 then 14507109835406336422052144 else 0) else
  bif Nat.beq g 5 then (bif Nat.beq k 0 then 67 else bif Nat.beq k 15 then 195 else bif Nat.beq k 2 then 195 else bif Nat.beq k 4 then 320 else bif Nat.beq k 31 then 1688849860264258 else bif Nat.beq k 6 then 1688849860264258 else bif Nat.beq k 8 then 1344 else bif Nat.beq k 45 then 4132070672510939563328 else bif Nat.beq k 10 then 4132070672510939563328 else 0) else
  bif Nat.beq g 10 then (bif Nat.beq k 0 then 8 else bif Nat.beq k 11 then 14344 else bif Nat.beq k 2 then 14344 else 0) else
  bif Nat.beq g 18 then (bif Nat.beq k 0 then 8 else bif Nat.beq k 7 then 25 else bif Nat.beq k 2 then 25 else 0) else
  bif Nat.beq g 21 then (bif Nat.beq k 0 then 6 else bif Nat.beq k 9 then 393222 else bif Nat.beq k 2 then 393222 else 0) else
  bif Nat.beq g 22 then (bif Nat.beq k 0 then 12 else bif Nat.beq k 9 then 44 else bif Nat.beq k 2 then 44 else bif Nat.beq k 19 then 76 else bif Nat.beq k 6 then 76 else 0) else
  bif Nat.beq g 23 then (bif Nat.beq k 9 then 35 else bif Nat.beq k 2 then 35 else 0) else
  bif Nat.beq g 25 then (bif Nat.beq k 0 then 33 else bif Nat.beq k 11 then 99 else bif Nat.beq k 2 then 99 else 0) else
  bif Nat.beq g 31 then (bif Nat.beq k 5 then 387 else bif Nat.beq k 2 then 387 else 0) else
  bif Nat.beq g 35 then (bif Nat.beq k 9 then 12291 else bif Nat.beq k 2 then 12291 else 0) else
  bif Nat.beq g 36 then (bif Nat.beq k 9 then 12291 else bif Nat.beq k 2 then 12291 else 0) else
  bif Nat.beq g 70 then (bif Nat.beq k 9 then 229382 else bif Nat.beq k 2 then 229382 else 0) else
  0
abbrev plan3x17 : Plan := [(0, []), (1, []), (2, []), (3, []), (4, []), (5, []), (6, []), (7, []), (8, []), (9, []), (10, [])]
abbrev plan9x3 : Plan := [(0, []), (1, []), (2, []), (3, []), (4, []), (5, []), (6, [4]), (7, [4]), (8, []), (9, []), (10, []), (11, [])]
abbrev plan9x4 : Plan := [(0, []), (1, []), (2, []), (3, []), (4, []), (5, []), (6, []), (7, []), (8, []), (9, []), (10, []), (11, []), (12, []), (13, []), (14, []), (15, []), (16, []), (17, []), (18, []), (19, [])]
abbrev plan17x1 : Plan := [(0, []), (1, []), (2, []), (3, []), (4, []), (5, []), (6, []), (7, []), (8, []), (10, []), (11, []), (12, []), (13, []), (14, []), (15, []), (16, []), (9, [13, 11, 1]), (17, [1]), (18, []), (19, [])]
abbrev plan18x5 : Plan := [(0, []), (1, []), (2, []), (3, []), (4, []), (5, []), (6, []), (7, []), (8, []), (9, []), (10, []), (11, [5]), (12, []), (13, []), (14, []), (15, [])]
abbrev plan21x6 : Plan := [(0, []), (1, []), (2, []), (3, []), (4, []), (5, []), (6, []), (7, []), (8, []), (9, []), (10, []), (11, [2]), (12, []), (13, []), (14, [])]
abbrev plan22x6 : Plan := [(0, []), (1, []), (2, []), (3, []), (4, []), (5, []), (6, []), (7, []), (8, []), (9, []), (10, [])]
abbrev plan22x11 : Plan := [(0, []), (1, []), (2, []), (3, []), (4, []), (5, []), (6, []), (7, []), (8, []), (9, []), (10, [])]
abbrev plan23x6 : Plan := [(0, []), (1, []), (2, []), (3, []), (4, []), (5, []), (6, []), (7, []), (8, []), (9, []), (10, []), (11, []), (12, []), (13, []), (14, []), (15, []), (16, []), (17, []), (18, []), (19, []), (20, []), (21, []), (22, []), (23, []), (24, [])]
abbrev plan24x5 : Plan := [(0, []), (1, []), (2, []), (3, []), (4, []), (5, []), (6, []), (7, [])]
abbrev plan32x1 : Plan := [(0, []), (1, []), (3, []), (4, []), (2, [4]), (6, []), (5, []), (7, []), (8, []), (9, [])]
abbrev plan35x6 : Plan := [(0, []), (1, []), (2, []), (3, []), (4, []), (5, []), (6, []), (7, []), (8, [])]
abbrev plan36x6 : Plan := [(0, []), (1, []), (2, []), (3, []), (4, []), (5, []), (6, []), (7, []), (8, [])]
def tab : Tab := ⟨fun g => bif Nat.beq g 6 then some closedF else none, masks⟩
theorem bt : BT Tryz.prog 147 5 := ⟨Tryz.underlying147, Tryz.underlying5, fun _ => rfl, ⟨_, rfl, rfl, rfl, rfl⟩, fun _ => rfl⟩
theorem it42 : IT Tryz.prog 25 2 .i64 := ⟨Tryz.underlying25, Tryz.underlying2, fun _ => rfl, ⟨_, rfl, rfl, rfl, by decide⟩⟩
theorem tt43 : TT Tryz.prog 26 9 := ⟨Tryz.underlying26, Tryz.underlying9, fun _ => rfl, ⟨_, rfl, rfl, rfl, by decide⟩⟩
theorem it44 : IT Tryz.prog 122 3 .i64 := ⟨Tryz.underlying122, Tryz.underlying3, fun _ => rfl, ⟨_, rfl, rfl, rfl, by decide⟩⟩
end Go.Proofs.YtjcpopoinaeemaaGreat
