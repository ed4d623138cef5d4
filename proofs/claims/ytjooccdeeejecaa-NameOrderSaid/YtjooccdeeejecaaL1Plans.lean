/- The plans of this seat's drawn regions are plans. -/
import Derived.Test.YtjooccdeeejecaaL1Tab0
import Derived.Test.YtjooccdeeejecaaGmCode
import Derived.KernelRfl
namespace Go.Proofs.Ytjooccdeeejecaa
open Go.AM Go.AM.St
theorem ord3x18 : ordOk Try.prog (opsOf Try.prog 3 18) plan3x18 = true := by kernel_rfl
theorem ord3x33 : ordOk Try.prog (opsOf Try.prog 3 33) plan3x33 = true := by kernel_rfl
theorem ord3x42 : ordOk Try.prog (opsOf Try.prog 3 42) plan3x42 = true := by kernel_rfl
theorem ord4x10 : ordOk Try.prog (opsOf Try.prog 4 10) plan4x10 = true := by kernel_rfl
theorem ord6x10 : ordOk Try.prog (opsOf Try.prog 6 10) plan6x10 = true := by kernel_rfl
theorem ord6x32 : ordOk Try.prog (opsOf Try.prog 6 32) plan6x32 = true := by kernel_rfl
theorem ord8x6 : ordOk Try.prog (opsOf Try.prog 8 6) plan8x6 = true := by kernel_rfl
theorem ord9x2 : ordOk Try.prog (opsOf Try.prog 9 2) plan9x2 = true := by kernel_rfl
theorem ord9x4 : ordOk Try.prog (opsOf Try.prog 9 4) plan9x4 = true := by kernel_rfl
theorem ord10x5 : ordOk Try.prog (opsOf Try.prog 10 5) plan10x5 = true := by kernel_rfl
theorem ord11x1 : ordOk Try.prog (opsOf Try.prog 11 1) plan11x1 = true := by kernel_rfl
theorem ord11x3 : ordOk Try.prog (opsOf Try.prog 11 3) plan11x3 = true := by kernel_rfl
theorem ord12x3 : ordOk Try.prog (opsOf Try.prog 12 3) plan12x3 = true := by kernel_rfl
theorem ord13x1 : ordOk Try.prog (opsOf Try.prog 13 1) plan13x1 = true := by kernel_rfl
theorem ord24x1 : ordOk Try.prog (opsOf Try.prog 24 1) plan24x1 = true := by kernel_rfl
theorem ord38x3 : ordOk Try.prog (opsOf Try.prog 38 3) plan38x3 = true := by kernel_rfl
theorem ord39x5 : ordOk Try.prog (opsOf Try.prog 39 5) plan39x5 = true := by kernel_rfl
theorem ord39x9 : ordOk Try.prog (opsOf Try.prog 39 9) plan39x9 = true := by kernel_rfl
theorem ord39x12 : ordOk Try.prog (opsOf Try.prog 39 12) plan39x12 = true := by kernel_rfl
theorem ord39x13 : ordOk Try.prog (opsOf Try.prog 39 13) plan39x13 = true := by kernel_rfl
theorem ord44x17 : ordOk Try.prog (opsOf Try.prog 44 17) plan44x17 = true := by kernel_rfl
theorem ord53x3 : ordOk Try.prog (opsOf Try.prog 53 3) plan53x3 = true := by kernel_rfl
theorem ord53x8 : ordOk Try.prog (opsOf Try.prog 53 8) plan53x8 = true := by kernel_rfl
theorem ord54x4 : ordOk Try.prog (opsOf Try.prog 54 4) plan54x4 = true := by kernel_rfl
theorem ord54x8 : ordOk Try.prog (opsOf Try.prog 54 8) plan54x8 = true := by kernel_rfl
theorem ord56x7 : ordOk Try.prog (opsOf Try.prog 56 7) plan56x7 = true := by kernel_rfl
theorem ord57x6 : ordOk Try.prog (opsOf Try.prog 57 6) plan57x6 = true := by kernel_rfl
theorem ord58x6 : ordOk Try.prog (opsOf Try.prog 58 6) plan58x6 = true := by kernel_rfl
theorem ord59x4 : ordOk Try.prog (opsOf Try.prog 59 4) plan59x4 = true := by kernel_rfl
theorem ord59x6 : ordOk Try.prog (opsOf Try.prog 59 6) plan59x6 = true := by kernel_rfl
theorem ord60x10 : ordOk Try.prog (opsOf Try.prog 60 10) plan60x10 = true := by kernel_rfl
theorem ord61x10 : ordOk Try.prog (opsOf Try.prog 61 10) plan61x10 = true := by kernel_rfl
theorem ord63x3 : ordOk Try.prog (opsOf Try.prog 63 3) plan63x3 = true := by kernel_rfl
theorem ord64x5 : ordOk Try.prog (opsOf Try.prog 64 5) plan64x5 = true := by kernel_rfl
theorem ord64x11 : ordOk Try.prog (opsOf Try.prog 64 11) plan64x11 = true := by kernel_rfl
theorem ord64x16 : ordOk Try.prog (opsOf Try.prog 64 16) plan64x16 = true := by kernel_rfl
theorem ord64x17 : ordOk Try.prog (opsOf Try.prog 64 17) plan64x17 = true := by kernel_rfl
theorem ord64x22 : ordOk Try.prog (opsOf Try.prog 64 22) plan64x22 = true := by kernel_rfl
theorem ord64x23 : ordOk Try.prog (opsOf Try.prog 64 23) plan64x23 = true := by kernel_rfl
theorem ord65x1 : ordOk Try.prog (opsOf Try.prog 65 1) plan65x1 = true := by kernel_rfl
theorem ord65x3 : ordOk Try.prog (opsOf Try.prog 65 3) plan65x3 = true := by kernel_rfl
theorem ord65x5 : ordOk Try.prog (opsOf Try.prog 65 5) plan65x5 = true := by kernel_rfl
theorem ord65x8 : ordOk Try.prog (opsOf Try.prog 65 8) plan65x8 = true := by kernel_rfl
theorem ord66x1 : ordOk Try.prog (opsOf Try.prog 66 1) plan66x1 = true := by kernel_rfl
theorem ord66x3 : ordOk Try.prog (opsOf Try.prog 66 3) plan66x3 = true := by kernel_rfl
theorem ord66x5 : ordOk Try.prog (opsOf Try.prog 66 5) plan66x5 = true := by kernel_rfl
theorem ord66x8 : ordOk Try.prog (opsOf Try.prog 66 8) plan66x8 = true := by kernel_rfl
theorem ord66x10 : ordOk Try.prog (opsOf Try.prog 66 10) plan66x10 = true := by kernel_rfl
theorem ord66x13 : ordOk Try.prog (opsOf Try.prog 66 13) plan66x13 = true := by kernel_rfl
theorem ord66x15 : ordOk Try.prog (opsOf Try.prog 66 15) plan66x15 = true := by kernel_rfl
theorem ord66x18 : ordOk Try.prog (opsOf Try.prog 66 18) plan66x18 = true := by kernel_rfl
theorem ord66x21 : ordOk Try.prog (opsOf Try.prog 66 21) plan66x21 = true := by kernel_rfl
theorem ord73x3 : ordOk Try.prog (opsOf Try.prog 73 3) plan73x3 = true := by kernel_rfl
theorem ord73x5 : ordOk Try.prog (opsOf Try.prog 73 5) plan73x5 = true := by kernel_rfl
theorem ord73x6 : ordOk Try.prog (opsOf Try.prog 73 6) plan73x6 = true := by kernel_rfl
theorem ord75x1 : ordOk Try.prog (opsOf Try.prog 75 1) plan75x1 = true := by kernel_rfl
theorem ord75x2 : ordOk Try.prog (opsOf Try.prog 75 2) plan75x2 = true := by kernel_rfl
theorem ord75x3 : ordOk Try.prog (opsOf Try.prog 75 3) plan75x3 = true := by kernel_rfl
theorem ord79x1 : ordOk Try.prog (opsOf Try.prog 79 1) plan79x1 = true := by kernel_rfl
abbrev tree9x6 : PT := (.step 0 [] (.step 1 [] (.step 2 [] (.step 4 [] (.step 7 [] (.step 8 [] (.step 9 [] (.alt 3 [4] (.step 5 [] (.step 6 [] (.step 10 [] (.step 11 [] (.step 12 [] .done))))) (.step 5 [] (.step 3 [4] (.step 6 [] (.step 10 [] (.step 11 [] (.step 12 [] .done))))))))))))))
theorem ordT9x6 : ordTOk Try.prog (opsOf Try.prog 9 6) tree9x6 = true := by kernel_rfl
end Go.Proofs.Ytjooccdeeejecaa
