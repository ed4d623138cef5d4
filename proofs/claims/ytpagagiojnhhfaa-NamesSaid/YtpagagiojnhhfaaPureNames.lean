/- The constants of package api have the document's numbers: the law Names returns true. It takes no input and has no condition. -/
import Derived.Test.YtpagagiojnhhfaaPNamesx1
namespace Go.Proofs.Ytpagagiojnhhfaa.Pure
open Go.RowKit Go.Proofs.Ytpagagiojnhhfaa.PNames Go.Proofs.YtpagagiojnhhfaaW.PrintWords Go.Proofs.YtpagagiojnhhfaaW.PrintLast

theorem Names : estafettelaw0_Names.Pure := by
  exact ⟨100, by decide +kernel⟩

end Go.Proofs.Ytpagagiojnhhfaa.Pure
