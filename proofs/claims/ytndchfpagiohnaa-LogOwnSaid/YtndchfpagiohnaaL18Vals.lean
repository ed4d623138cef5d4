/- The contract of slices.Sorted over slices.Values is borne out. -/
import Derived.Test.YtndchfpagiohnaaL18Seq
import Derived.Test.YtndchfpagiohnaaL18Plain
import Derived.KernelRfl
namespace Go.Proofs.Ytndchfpagiohnaa
open Go Go.RowKit Go.Shelf Go.AM Go.Sort Go.Proofs
theorem sorts (m : Nat) : SortsIn Fence.wide m :=
  ⟨fun blk off cap ss W hH hblk hsz => callsIn_wide.2 (AnyM.slices_Sort_int Try.sortA blk off cap ss W hH hblk hsz),
   fun p cap W => callsIn_wide.2 (AnyM.slices_Sort_int_none Try.sortA p cap W)⟩
theorem vals_calls (w : World) (Bs : Nat) (sv : Value) (zs : List Int) (hlen : zs.length ≤ 1000000) (hBs : w.cell? ⟨Bs, 0, none⟩ = some sv) (hI : IntsAt w sv zs) :
    Calls Try.prog 36 #[.func (.func 43) #[] #[.pointer (some ⟨Bs, 0, none⟩)]] w fun e w' => ∃ v, e = .returned v ∧ w'.ownsRow w.heap.size 2 1 v zs.length ((sortI zs).map (Value.int .i64 ·)) ∧ (v = .slice none 0 0 ↔ zs = []) ∧ Below w.heap.size w w' :=
  (callsIn_wide (n := 6)).1 (sorted_in Fence.wide 6 trivial trivial trivial trivial trivial rfl (by omega) (sorts _) Bs sv zs hlen w hBs hI)
namespace L1
theorem mix : Try.prog.follows .mixedOrders = true := by kernel_rfl
theorem free : countFree Try.prog = true := by kernel_rfl
theorem noCount : NoCount Try.prog := noCount_of free
end L1
theorem vals_ok : SoundAt Try.prog 36 (valsF 43) := vals_sound L1.noCount Try.func36 rfl vals_calls
end Go.Proofs.Ytndchfpagiohnaa
