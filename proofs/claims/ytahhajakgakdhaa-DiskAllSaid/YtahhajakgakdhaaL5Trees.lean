/- The trees of this seat's drawn regions. -/
import Derived.Test.YtahhajakgakdhaaL1Tab
import Derived.Test.YtahhajakgakdhaaGmCode
import Derived.KernelRfl
namespace Go.Proofs.Ytahhajakgakdhaa
open Go.AM Go.AM.St
abbrev tree4x26 : PT := (.step 0 [] (.step 1 [] (.step 2 [] (.step 3 [] (.step 4 [] (.step 6 [] (.alt 5 [6] (.step 7 [] (.step 8 [] (.step 9 [] (.step 10 [] (.step 11 [] .done))))) (.step 7 [] (.step 5 [6] (.step 8 [] (.step 9 [] (.step 10 [] (.step 11 [] .done)))))))))))))
theorem ordT4x26 : ordTOk Try.prog (opsOf Try.prog 4 26) tree4x26 = true := by kernel_rfl
abbrev tree12x19 : PT := (.step 0 [] (.step 2 [] (.step 3 [] (.step 4 [] (.step 5 [] (.alt 1 [5] (.step 6 [] (.step 7 [] (.step 8 [] .done))) (.step 6 [] (.step 1 [5] (.step 7 [] (.step 8 [] .done))))))))))
theorem ordT12x19 : ordTOk Try.prog (opsOf Try.prog 12 19) tree12x19 = true := by kernel_rfl
abbrev tree60x9 : PT := (.step 0 [] (.step 1 [] (.step 2 [] (.step 3 [] (.step 4 [] (.step 5 [] (.step 6 [] (.step 8 [] (.step 9 [] (.step 12 [] (.step 13 [] (.step 14 [] (.step 15 [] (.step 16 [] (.step 17 [] (.alt 7 [15] (.step 10 [15, 4] (.step 11 [15] (.step 18 [] (.step 19 [] (.step 20 [] (.step 21 [] .done)))))) (.step 10 [15, 4] (.step 7 [15] (.step 11 [15] (.step 18 [] (.step 19 [] (.step 20 [] (.step 21 [] .done)))))))))))))))))))))))
theorem ordT60x9 : ordTOk Try.prog (opsOf Try.prog 60 9) tree60x9 = true := by kernel_rfl
abbrev tree63x16 : PT := (.step 0 [] (.step 1 [] (.step 2 [] (.step 3 [] (.step 4 [] (.step 5 [] (.step 6 [] (.step 8 [] (.step 11 [] (.step 12 [] (.step 13 [] (.step 14 [] (.step 15 [] (.step 16 [] (.alt 7 [14, 8] (.step 9 [14, 4] (.step 10 [14] (.step 17 [] (.step 18 [] (.step 19 [] (.step 20 [] .done)))))) (.step 9 [14, 4] (.step 7 [14, 8] (.step 10 [14] (.step 17 [] (.step 18 [] (.step 19 [] (.step 20 [] .done))))))))))))))))))))))
theorem ordT63x16 : ordTOk Try.prog (opsOf Try.prog 63 16) tree63x16 = true := by kernel_rfl
end Go.Proofs.Ytahhajakgakdhaa
