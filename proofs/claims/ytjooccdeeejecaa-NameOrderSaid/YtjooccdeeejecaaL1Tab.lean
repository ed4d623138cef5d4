/- The table of contracts: what the laws begin with; slices.Collect over maps.Keys; the library's sorting of names. -/
import Derived.Test.YtjooccdeeejecaaL1Tab0
import Derived.Test.YtjooccdeeejecaaL7OK
import Derived.Test.YtjooccdeeejecaaAmKeys
namespace Go.Proofs.Ytjooccdeeejecaa
open Go Go.AM
/-- Where there is nothing to sort, the machine runs. -/
noncomputable def run29 : List AV → H → (AV → H → Bool) → Bool := acall Try.prog noTab (drawRegion Try.prog) 100 29
noncomputable def sort29 : List AV → H → (AV → H → Bool) → Bool := sortF run29 24 2 rowsI avP srtI
noncomputable def tab : Tab := ⟨fun g => bif Nat.beq g 8 then some closedF else bif Nat.beq g 28 then some (collF 30) else bif Nat.beq g 29 then some sort29 else none, masks⟩
end Go.Proofs.Ytjooccdeeejecaa
