/- The reference's records: their bytes. -/
import Derived.Test.YtpagagiojnhhfabL1RefR
namespace Go.Proofs.Ytpagagiojnhhfab
open Go Go.AM Go.AM.St
attribute [local irreducible] IntKind.wrap Int.fdiv Int.tdiv Int.tmod BitVec.ofInt appendK sliceK indexAddrK ldK storeK seenK makeSliceK
set_option maxRecDepth 100000
variable {D : Drawer}

end Go.Proofs.Ytpagagiojnhhfab
