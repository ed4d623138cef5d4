/- The plans of this seat's drawn regions are plans. -/
import Derived.Test.YtpagagiojnhhfabL1Tab
import Derived.KernelRfl
namespace Go.Proofs.Ytpagagiojnhhfab
open Go.AM Go.AM.St
theorem ord6x1 : ordOk Try.prog (opsOf Try.prog 6 1) plan6x1 = true := by kernel_rfl
theorem ord8x7 : ordOk Try.prog (opsOf Try.prog 8 7) plan8x7 = true := by kernel_rfl
theorem ord12x3 : ordOk Try.prog (opsOf Try.prog 12 3) plan12x3 = true := by kernel_rfl
theorem ord13x5 : ordOk Try.prog (opsOf Try.prog 13 5) plan13x5 = true := by kernel_rfl
theorem ord13x9 : ordOk Try.prog (opsOf Try.prog 13 9) plan13x9 = true := by kernel_rfl
theorem ord13x12 : ordOk Try.prog (opsOf Try.prog 13 12) plan13x12 = true := by kernel_rfl
theorem ord13x13 : ordOk Try.prog (opsOf Try.prog 13 13) plan13x13 = true := by kernel_rfl
theorem ord23x3 : ordOk Try.prog (opsOf Try.prog 23 3) plan23x3 = true := by kernel_rfl
theorem ord23x8 : ordOk Try.prog (opsOf Try.prog 23 8) plan23x8 = true := by kernel_rfl
theorem ord24x4 : ordOk Try.prog (opsOf Try.prog 24 4) plan24x4 = true := by kernel_rfl
theorem ord24x8 : ordOk Try.prog (opsOf Try.prog 24 8) plan24x8 = true := by kernel_rfl
theorem ord25x6 : ordOk Try.prog (opsOf Try.prog 25 6) plan25x6 = true := by kernel_rfl
theorem ord26x6 : ordOk Try.prog (opsOf Try.prog 26 6) plan26x6 = true := by kernel_rfl
end Go.Proofs.Ytpagagiojnhhfab
