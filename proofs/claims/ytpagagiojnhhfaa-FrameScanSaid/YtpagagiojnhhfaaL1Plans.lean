/- The plans of this seat's drawn regions are plans. -/
import Derived.Test.YtpagagiojnhhfaaL1Tab
import Derived.KernelRfl
namespace Go.Proofs.Ytpagagiojnhhfaa
open Go.AM Go.AM.St
theorem ord3x8 : ordOk Try.prog (opsOf Try.prog 3 8) plan3x8 = true := by kernel_rfl
theorem ord4x11 : ordOk Try.prog (opsOf Try.prog 4 11) plan4x11 = true := by kernel_rfl
theorem ord8x4 : ordOk Try.prog (opsOf Try.prog 8 4) plan8x4 = true := by kernel_rfl
theorem ord8x7 : ordOk Try.prog (opsOf Try.prog 8 7) plan8x7 = true := by kernel_rfl
theorem ord8x12 : ordOk Try.prog (opsOf Try.prog 8 12) plan8x12 = true := by kernel_rfl
theorem ord11x12 : ordOk Try.prog (opsOf Try.prog 11 12) plan11x12 = true := by kernel_rfl
theorem ord11x17 : ordOk Try.prog (opsOf Try.prog 11 17) plan11x17 = true := by kernel_rfl
theorem ord11x27 : ordOk Try.prog (opsOf Try.prog 11 27) plan11x27 = true := by kernel_rfl
theorem ord11x38 : ordOk Try.prog (opsOf Try.prog 11 38) plan11x38 = true := by kernel_rfl
theorem ord15x9 : ordOk Try.prog (opsOf Try.prog 15 9) plan15x9 = true := by kernel_rfl
theorem ord15x10 : ordOk Try.prog (opsOf Try.prog 15 10) plan15x10 = true := by kernel_rfl
theorem ord16x11 : ordOk Try.prog (opsOf Try.prog 16 11) plan16x11 = true := by kernel_rfl
theorem ord16x16 : ordOk Try.prog (opsOf Try.prog 16 16) plan16x16 = true := by kernel_rfl
theorem ord37x1 : ordOk Try.prog (opsOf Try.prog 37 1) plan37x1 = true := by kernel_rfl
theorem ord38x3 : ordOk Try.prog (opsOf Try.prog 38 3) plan38x3 = true := by kernel_rfl
theorem ord42x6 : ordOk Try.prog (opsOf Try.prog 42 6) plan42x6 = true := by kernel_rfl
theorem ord42x11 : ordOk Try.prog (opsOf Try.prog 42 11) plan42x11 = true := by kernel_rfl
theorem ord43x5 : ordOk Try.prog (opsOf Try.prog 43 5) plan43x5 = true := by kernel_rfl
theorem ord43x9 : ordOk Try.prog (opsOf Try.prog 43 9) plan43x9 = true := by kernel_rfl
theorem ord43x12 : ordOk Try.prog (opsOf Try.prog 43 12) plan43x12 = true := by kernel_rfl
theorem ord43x13 : ordOk Try.prog (opsOf Try.prog 43 13) plan43x13 = true := by kernel_rfl
theorem ord44x1 : ordOk Try.prog (opsOf Try.prog 44 1) plan44x1 = true := by kernel_rfl
theorem ord44x10 : ordOk Try.prog (opsOf Try.prog 44 10) plan44x10 = true := by kernel_rfl
theorem ord48x7 : ordOk Try.prog (opsOf Try.prog 48 7) plan48x7 = true := by kernel_rfl
theorem ord49x5 : ordOk Try.prog (opsOf Try.prog 49 5) plan49x5 = true := by kernel_rfl
theorem ord55x6 : ordOk Try.prog (opsOf Try.prog 55 6) plan55x6 = true := by kernel_rfl
theorem ord56x6 : ordOk Try.prog (opsOf Try.prog 56 6) plan56x6 = true := by kernel_rfl
theorem ord58x3 : ordOk Try.prog (opsOf Try.prog 58 3) plan58x3 = true := by kernel_rfl
theorem ord58x8 : ordOk Try.prog (opsOf Try.prog 58 8) plan58x8 = true := by kernel_rfl
theorem ord59x4 : ordOk Try.prog (opsOf Try.prog 59 4) plan59x4 = true := by kernel_rfl
theorem ord59x8 : ordOk Try.prog (opsOf Try.prog 59 8) plan59x8 = true := by kernel_rfl
theorem ord60x6 : ordOk Try.prog (opsOf Try.prog 60 6) plan60x6 = true := by kernel_rfl
theorem ord60x10 : ordOk Try.prog (opsOf Try.prog 60 10) plan60x10 = true := by kernel_rfl
theorem ord60x15 : ordOk Try.prog (opsOf Try.prog 60 15) plan60x15 = true := by kernel_rfl
theorem ord63x3 : ordOk Try.prog (opsOf Try.prog 63 3) plan63x3 = true := by kernel_rfl
theorem ord63x8 : ordOk Try.prog (opsOf Try.prog 63 8) plan63x8 = true := by kernel_rfl
theorem ord64x3 : ordOk Try.prog (opsOf Try.prog 64 3) plan64x3 = true := by kernel_rfl
theorem ord64x7 : ordOk Try.prog (opsOf Try.prog 64 7) plan64x7 = true := by kernel_rfl
theorem ord66x7 : ordOk Try.prog (opsOf Try.prog 66 7) plan66x7 = true := by kernel_rfl
end Go.Proofs.Ytpagagiojnhhfaa
