/- The library's sorting of locks: its contract, by the kit's law. -/
import Derived.Test.YtajincfelnmlhaaGreatL1Tab
import Derived.Test.YtajincfelnmlhaaGreatL12Lay
import Derived.Test.YtajincfelnmlhaaGreatL12Begun
namespace Go.Proofs.YtajincfelnmlhaaGreat
set_option maxRecDepth 100000
open Go Go.AM Go.AM.St Go.Proofs Go.Sort Go.Shelf Go.RowKit
theorem keyVR (ρ : Rho) (x : KeyB) : VR ρ (.agg (keyc x.1)) (.agg (encK x).toArray) := by
  refine VR.mk_agg (.cons (strRel (okB_s x)) (.cons (strRel (okB_k x)) (.cons (.bool _) .nil)))
theorem cmpK (blk off size : Nat) (w : World) : CmpLays Tryz.prog 80 #[] encK 3 ordB blk off size w := fun m os dk _ x y => by
  refine calls_grown (T := tab0) (args := [.agg (keyc x.1), .agg (keyc y.1)]) (fun _ => rfl) L1.mix L1.noCount (n := 10) (.cons (keyVR _ x) (.cons (keyVR _ y) .nil)) ?_ _
  refine order_spec (byPlan _) (Nat.le_refl _) fun _ => ?_
  simp [ordB]
theorem run79_sound : SoundAt Tryz.prog 79 run79 := fun B w0 ρ σ w args argsc K hs ha hF => acall_ok (T := noTab) TabOK.none L1.mix L1.noCount 100 B w0 ρ σ w 79 args argsc K hs ha hF
theorem con79 : SoundAt Tryz.prog 79 sort79 :=
  sort_sound (cf := ordB) (enc := encK) (by decide) (fun _ => rfl) (fun _ => rfl) rowsK_eq relK backK srtK run79_sound
    (enters_of Tryz.func79 (by kernel_rfl) rfl)
    fun blk off cap d w hH hblk hsz =>
      AnyQ.slices_SortFunc Tryz.sortKeys 3 Tryz.isAgg75 Tryz.sizeOf75 encK (fun _ => rfl) (fun x v hv => by simp [encK] at hv; rcases hv with rfl | rfl | rfl <;> rfl) ordB swoK 80 #[] blk off cap d w
        (enters_of Tryz.func80 (by kernel_rfl) rfl) (cmpK blk off d.size w) hH hblk hsz
end Go.Proofs.YtajincfelnmlhaaGreat
