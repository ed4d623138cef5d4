/- The library's sorting of names: its contract, by the kit's law. -/
import Derived.Test.YtjooccdeeejecaaL1Tab
import Derived.Test.YtjooccdeeejecaaL7Lay
import Derived.Test.YtjooccdeeejecaaL7Begun
namespace Go.Proofs.Ytjooccdeeejecaa
set_option maxRecDepth 100000
open Go Go.AM Go.AM.St Go.Proofs Go.Sort Go.Shelf Go.RowKit
theorem nameVR (ρ : Rho) (x : Nm) : VR ρ (.agg (avP x)) (.agg (encP x).toArray) := by
  refine VR.mk_agg (.cons (.int _ _) (.cons (.int _ _) .nil))
theorem cmpP (blk off size : Nat) (w : World) : CmpLays Try.prog 24 #[] encP 2 ordI blk off size w := fun m os dk _ x y => by
  refine calls_grown (T := tab0) (args := [.agg (avP x), .agg (avP y)]) (fun _ => rfl) L1.mix L1.noCount (n := 10) (.cons (nameVR _ x) (.cons (nameVR _ y) .nil)) ?_ _
  refine order24_spec (p := x) (q := y) (by decide) (byPlan _) _ fun _ _ => ?_
  simp
theorem run29_sound : SoundAt Try.prog 29 run29 := fun B w0 ρ σ w args argsc K hs ha hF => acall_ok (T := noTab) TabOK.none L1.mix L1.noCount 100 B w0 ρ σ w 29 args argsc K hs ha hF
theorem con29 : SoundAt Try.prog 29 sort29 :=
  sort_sound (cf := ordI) (enc := encP) (by decide) (fun _ => rfl) (fun _ => rfl) rowsI_eq relP backP srtP run29_sound
    (enters_of Try.func29 (by kernel_rfl) rfl)
    fun blk off cap d w hH hblk hsz =>
      AnyQ.slices_SortFunc Try.sortIds 2 Try.isAgg28 Try.sizeOf28 encP (fun _ => rfl) (fun x v hv => by simp [encP] at hv; rcases hv with rfl | rfl <;> rfl) ordI swoI 24 #[] blk off cap d w
        (enters_of Try.func24 (by kernel_rfl) rfl) (cmpP blk off d.size w) hH hblk hsz
end Go.Proofs.Ytjooccdeeejecaa
