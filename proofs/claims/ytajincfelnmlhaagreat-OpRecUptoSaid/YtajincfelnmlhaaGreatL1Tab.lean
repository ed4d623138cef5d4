/- The table of contracts: what the laws begin with; the library's sorting of locks. -/
import Derived.Test.YtajincfelnmlhaaGreatL1Tab0
import Derived.Test.YtajincfelnmlhaaGreatL12SortK
namespace Go.Proofs.YtajincfelnmlhaaGreat
open Go Go.AM
/-- Where there is nothing to sort, the machine runs. -/
noncomputable def run79 : List AV → H → (AV → H → Bool) → Bool := acall Tryz.prog noTab (drawRegion Tryz.prog) 100 79
noncomputable def sort79 : List AV → H → (AV → H → Bool) → Bool := sortF run79 80 3 rowsK avK sortK
noncomputable def tab : Tab := ⟨fun g => bif Nat.beq g 14 then some closedF else bif Nat.beq g 79 then some sort79 else none, masks⟩
end Go.Proofs.YtajincfelnmlhaaGreat
