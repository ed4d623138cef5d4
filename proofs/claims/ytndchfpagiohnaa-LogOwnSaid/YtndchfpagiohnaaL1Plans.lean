/- The plans of this seat's drawn regions are plans. -/
import Derived.Test.YtndchfpagiohnaaL1Tab
import Derived.KernelRfl
namespace Go.Proofs.Ytndchfpagiohnaa
open Go.AM Go.AM.St
theorem ord3x16 : ordOk Try.prog (opsOf Try.prog 3 16) plan3x16 = true := by kernel_rfl
theorem ord8x15 : ordOk Try.prog (opsOf Try.prog 8 15) plan8x15 = true := by kernel_rfl
theorem ord11x13 : ordOk Try.prog (opsOf Try.prog 11 13) plan11x13 = true := by kernel_rfl
theorem ord14x5 : ordOk Try.prog (opsOf Try.prog 14 5) plan14x5 = true := by kernel_rfl
theorem ord16x8 : ordOk Try.prog (opsOf Try.prog 16 8) plan16x8 = true := by kernel_rfl
theorem ord16x11 : ordOk Try.prog (opsOf Try.prog 16 11) plan16x11 = true := by kernel_rfl
theorem ord18x3 : ordOk Try.prog (opsOf Try.prog 18 3) plan18x3 = true := by kernel_rfl
theorem ord19x6 : ordOk Try.prog (opsOf Try.prog 19 6) plan19x6 = true := by kernel_rfl
theorem ord24x9 : ordOk Try.prog (opsOf Try.prog 24 9) plan24x9 = true := by kernel_rfl
theorem ord27x1 : ordOk Try.prog (opsOf Try.prog 27 1) plan27x1 = true := by kernel_rfl
theorem ord30x3 : ordOk Try.prog (opsOf Try.prog 30 3) plan30x3 = true := by kernel_rfl
theorem ord32x5 : ordOk Try.prog (opsOf Try.prog 32 5) plan32x5 = true := by kernel_rfl
theorem ord33x1 : ordOk Try.prog (opsOf Try.prog 33 1) plan33x1 = true := by kernel_rfl
theorem ord35x6 : ordOk Try.prog (opsOf Try.prog 35 6) plan35x6 = true := by kernel_rfl
theorem ord35x11 : ordOk Try.prog (opsOf Try.prog 35 11) plan35x11 = true := by kernel_rfl
theorem ord46x3 : ordOk Try.prog (opsOf Try.prog 46 3) plan46x3 = true := by kernel_rfl
theorem ord47x5 : ordOk Try.prog (opsOf Try.prog 47 5) plan47x5 = true := by kernel_rfl
theorem ord47x9 : ordOk Try.prog (opsOf Try.prog 47 9) plan47x9 = true := by kernel_rfl
theorem ord47x12 : ordOk Try.prog (opsOf Try.prog 47 12) plan47x12 = true := by kernel_rfl
theorem ord47x13 : ordOk Try.prog (opsOf Try.prog 47 13) plan47x13 = true := by kernel_rfl
theorem ord54x17 : ordOk Try.prog (opsOf Try.prog 54 17) plan54x17 = true := by kernel_rfl
theorem ord60x3 : ordOk Try.prog (opsOf Try.prog 60 3) plan60x3 = true := by kernel_rfl
theorem ord60x8 : ordOk Try.prog (opsOf Try.prog 60 8) plan60x8 = true := by kernel_rfl
theorem ord61x4 : ordOk Try.prog (opsOf Try.prog 61 4) plan61x4 = true := by kernel_rfl
theorem ord61x8 : ordOk Try.prog (opsOf Try.prog 61 8) plan61x8 = true := by kernel_rfl
theorem ord63x7 : ordOk Try.prog (opsOf Try.prog 63 7) plan63x7 = true := by kernel_rfl
theorem ord64x6 : ordOk Try.prog (opsOf Try.prog 64 6) plan64x6 = true := by kernel_rfl
theorem ord65x6 : ordOk Try.prog (opsOf Try.prog 65 6) plan65x6 = true := by kernel_rfl
theorem ord67x4 : ordOk Try.prog (opsOf Try.prog 67 4) plan67x4 = true := by kernel_rfl
theorem ord67x6 : ordOk Try.prog (opsOf Try.prog 67 6) plan67x6 = true := by kernel_rfl
theorem ord68x10 : ordOk Try.prog (opsOf Try.prog 68 10) plan68x10 = true := by kernel_rfl
theorem ord69x10 : ordOk Try.prog (opsOf Try.prog 69 10) plan69x10 = true := by kernel_rfl
theorem ord71x3 : ordOk Try.prog (opsOf Try.prog 71 3) plan71x3 = true := by kernel_rfl
theorem ord72x5 : ordOk Try.prog (opsOf Try.prog 72 5) plan72x5 = true := by kernel_rfl
theorem ord72x11 : ordOk Try.prog (opsOf Try.prog 72 11) plan72x11 = true := by kernel_rfl
theorem ord72x16 : ordOk Try.prog (opsOf Try.prog 72 16) plan72x16 = true := by kernel_rfl
theorem ord72x17 : ordOk Try.prog (opsOf Try.prog 72 17) plan72x17 = true := by kernel_rfl
theorem ord72x22 : ordOk Try.prog (opsOf Try.prog 72 22) plan72x22 = true := by kernel_rfl
theorem ord72x23 : ordOk Try.prog (opsOf Try.prog 72 23) plan72x23 = true := by kernel_rfl
theorem ord74x1 : ordOk Try.prog (opsOf Try.prog 74 1) plan74x1 = true := by kernel_rfl
theorem ord74x3 : ordOk Try.prog (opsOf Try.prog 74 3) plan74x3 = true := by kernel_rfl
theorem ord74x5 : ordOk Try.prog (opsOf Try.prog 74 5) plan74x5 = true := by kernel_rfl
theorem ord74x8 : ordOk Try.prog (opsOf Try.prog 74 8) plan74x8 = true := by kernel_rfl
theorem ord75x1 : ordOk Try.prog (opsOf Try.prog 75 1) plan75x1 = true := by kernel_rfl
theorem ord75x3 : ordOk Try.prog (opsOf Try.prog 75 3) plan75x3 = true := by kernel_rfl
theorem ord75x5 : ordOk Try.prog (opsOf Try.prog 75 5) plan75x5 = true := by kernel_rfl
theorem ord75x8 : ordOk Try.prog (opsOf Try.prog 75 8) plan75x8 = true := by kernel_rfl
theorem ord75x10 : ordOk Try.prog (opsOf Try.prog 75 10) plan75x10 = true := by kernel_rfl
theorem ord75x13 : ordOk Try.prog (opsOf Try.prog 75 13) plan75x13 = true := by kernel_rfl
theorem ord75x15 : ordOk Try.prog (opsOf Try.prog 75 15) plan75x15 = true := by kernel_rfl
theorem ord75x18 : ordOk Try.prog (opsOf Try.prog 75 18) plan75x18 = true := by kernel_rfl
theorem ord75x21 : ordOk Try.prog (opsOf Try.prog 75 21) plan75x21 = true := by kernel_rfl
theorem ord82x3 : ordOk Try.prog (opsOf Try.prog 82 3) plan82x3 = true := by kernel_rfl
theorem ord82x5 : ordOk Try.prog (opsOf Try.prog 82 5) plan82x5 = true := by kernel_rfl
theorem ord82x6 : ordOk Try.prog (opsOf Try.prog 82 6) plan82x6 = true := by kernel_rfl
theorem ord84x1 : ordOk Try.prog (opsOf Try.prog 84 1) plan84x1 = true := by kernel_rfl
theorem ord84x2 : ordOk Try.prog (opsOf Try.prog 84 2) plan84x2 = true := by kernel_rfl
theorem ord84x3 : ordOk Try.prog (opsOf Try.prog 84 3) plan84x3 = true := by kernel_rfl
theorem ord89x1 : ordOk Try.prog (opsOf Try.prog 89 1) plan89x1 = true := by kernel_rfl
end Go.Proofs.Ytndchfpagiohnaa
