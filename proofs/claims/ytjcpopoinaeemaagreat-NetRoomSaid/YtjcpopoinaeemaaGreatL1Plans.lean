/- The plans of this seat's drawn regions are plans. -/
import Derived.Test.YtjcpopoinaeemaaGreatL1Tab
import Derived.Test.YtjcpopoinaeemaaGreatGmCode
import Derived.KernelRfl
namespace Go.Proofs.YtjcpopoinaeemaaGreat
open Go.AM Go.AM.St
theorem ord3x17 : ordOk Tryz.prog (opsOf Tryz.prog 3 17) plan3x17 = true := by kernel_rfl
theorem ord9x3 : ordOk Tryz.prog (opsOf Tryz.prog 9 3) plan9x3 = true := by kernel_rfl
theorem ord9x4 : ordOk Tryz.prog (opsOf Tryz.prog 9 4) plan9x4 = true := by kernel_rfl
theorem ord17x1 : ordOk Tryz.prog (opsOf Tryz.prog 17 1) plan17x1 = true := by kernel_rfl
theorem ord18x5 : ordOk Tryz.prog (opsOf Tryz.prog 18 5) plan18x5 = true := by kernel_rfl
theorem ord21x6 : ordOk Tryz.prog (opsOf Tryz.prog 21 6) plan21x6 = true := by kernel_rfl
theorem ord22x6 : ordOk Tryz.prog (opsOf Tryz.prog 22 6) plan22x6 = true := by kernel_rfl
theorem ord22x11 : ordOk Tryz.prog (opsOf Tryz.prog 22 11) plan22x11 = true := by kernel_rfl
theorem ord23x6 : ordOk Tryz.prog (opsOf Tryz.prog 23 6) plan23x6 = true := by kernel_rfl
theorem ord24x5 : ordOk Tryz.prog (opsOf Tryz.prog 24 5) plan24x5 = true := by kernel_rfl
theorem ord32x1 : ordOk Tryz.prog (opsOf Tryz.prog 32 1) plan32x1 = true := by kernel_rfl
theorem ord35x6 : ordOk Tryz.prog (opsOf Tryz.prog 35 6) plan35x6 = true := by kernel_rfl
theorem ord36x6 : ordOk Tryz.prog (opsOf Tryz.prog 36 6) plan36x6 = true := by kernel_rfl
abbrev tree11x1 : PT := (.step 0 [] (.step 1 [] (.step 2 [] (.step 3 [] (.alt 4 [3, 1] (.step 5 [3, 1] (.step 6 [3] (.step 7 [] .done))) (.step 5 [3, 1] (.step 4 [3, 1] (.step 6 [3] (.step 7 [] .done)))))))))
theorem ordT11x1 : ordTOk Tryz.prog (opsOf Tryz.prog 11 1) tree11x1 = true := by kernel_rfl
end Go.Proofs.YtjcpopoinaeemaaGreat
