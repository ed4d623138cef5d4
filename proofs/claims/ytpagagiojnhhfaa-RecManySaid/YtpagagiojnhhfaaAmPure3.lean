/- Pure operations: addresses, parts, aggregates; and all of them in one law. -/
import Derived.Test.YtpagagiojnhhfaaAmPure2
namespace Go.AM
open Go Go.RowKit

theorem indexAddr_ok {P : Program} {ρ : Rho} {x i : AV} {xc ic : Value} (hx : VR ρ x xc) (hi : VR ρ i ic) (t : TypeId) : PureOK P ρ (indexAddrK P t x i) (Instr.indexAt t xc ic) := by
  intro K h
  unfold indexAddrK at h
  split at h
  · rename_i e id off z n k' k ht
    obtain rfl := hi.of_int
    obtain ⟨ie, hie, hz, h, ez⟩ := esizeK_of h
    cases hc : (ie.size == z && (decide (0 ≤ k) && decide (k < (n : Int)))) with
    | false => rw [hc] at h; cases h
    | true =>
      rw [hc, cond_true] at h
      have hc' := hc
      simp only [Bool.and_eq_true, beq_iff_eq, decide_eq_true_eq] at hc'
      obtain ⟨hzz, h0, h1⟩ := hc'
      have hK : ∀ K', indexAddrK P t (.sl (.at id off z) n) (.int k' k) K' = K' (.ptr (some ⟨id, off + k.toNat * z, 0, z⟩)) := fun K' => by
        simp only [indexAddrK, ht]; rw [ez]; simp only [hc, cond_true]
      cases hx with
      | @sl _ _ _ _ cap cs c hcs hcm h1' h2 h3 h4 =>
        have e1 : (k.toNat + 1) * z ≤ n * z := Nat.mul_le_mul_right z (by omega)
        rw [Nat.add_mul] at e1
        refine ⟨_, _, h, VR.ptr (d := 0) hcs hcm (by omega) (by omega) (by omega), hK, fun w => ?_⟩
        have : (⟨c.blk, c.boff + (off - c.lo), none⟩ : Addr).add (k.toNat * ie.size) = ⟨c.blk, c.boff + (off + k.toNat * z + 0 - c.lo), none⟩ := by
          rw [Addr.add_none, hzz]; congr 1; omega
        simp [Instr.indexAt, asIntOf, run_underlying ht, h0, h1, run_sizeOf_of hie, this]
      | slEnd a hcs => omega
  · rename_i n e id b d z k' k ht
    obtain rfl := hi.of_int
    obtain ⟨ie, hie, hz, h, ez⟩ := esizeK_of h
    cases hc : (decide (0 ≤ k) && decide (k < (n : Int)) && decide (d + k.toNat * ie.size < z)) with
    | false => rw [hc] at h; cases h
    | true =>
      rw [hc, cond_true] at h
      have hc' := hc
      simp only [Bool.and_eq_true, decide_eq_true_eq] at hc'
      obtain ⟨⟨h0, h1⟩, h2⟩ := hc'
      have hK : ∀ K', indexAddrK P t (.ptr (some ⟨id, b, d, z⟩)) (.int k' k) K' = K' (.ptr (some ⟨id, b, d + k.toNat * ie.size, z⟩)) := fun K' => by
        simp only [indexAddrK, ht]; rw [ez]; simp only [hc, cond_true]
      cases hx with
      | @ptr _ _ _ _ cs c hcs hcm h1' h2' h3 =>
        refine ⟨_, _, h, VR.ptr (d := d + k.toNat * ie.size) hcs hcm h1' h2' h2, hK, fun w => ?_⟩
        have : (⟨c.blk, c.boff + (b + d - c.lo), none⟩ : Addr).add (k.toNat * ie.size) = ⟨c.blk, c.boff + (b + (d + k.toNat * ie.size) - c.lo), none⟩ := by
          rw [Addr.add_none]; congr 1; omega
        simp [Instr.indexAt, Instr.sureAddr, asIntOf, run_underlying ht, h0, h1, run_sizeOf_of hie, this]
  · cases h

theorem part_ok {P : Program} {ρ : Rho} {cs : List AV} {vs : Array Value} (hv : VRs ρ cs vs.toList) (t : TypeId) (off : Nat) : PureOK P ρ (partK P t cs off) (part t vs off) := by
  have agg : ∀ (i : TypeInfo) (K : AV → Bool), P.info? t = some i → (isAgg t).run P = (fun w => .ok true w) → (∀ K', partK P t cs off K' = bif decide (off + i.size ≤ cs.length) then K' (.agg ((cs.drop off).take i.size)) else false) →
      (bif decide (off + i.size ≤ cs.length) then K (.agg ((cs.drop off).take i.size)) else false) = true →
      ∃ v vc, K v = true ∧ VR ρ v vc ∧ (∀ K', partK P t cs off K' = K' v) ∧ ∀ w, (part t vs off).run P w = .ok vc w := by
    intro i K hi hag hK h
    cases hc : decide (off + i.size ≤ cs.length) with
    | false => rw [hc] at h; cases h
    | true =>
      rw [hc, cond_true] at h
      refine ⟨_, .agg (vs.extract off (off + i.size)), h, ?_, fun K' => by rw [hK, hc, cond_true], fun w => ?_⟩
      · have := VR.mk_agg ((hv.drop off).take i.size)
        have e : ((vs.toList.drop off).take i.size).toArray = vs.extract off (off + i.size) := by
          apply Array.ext'
          rw [Array.toList_extract, List.extract_eq_take_drop]
          simp
        rw [e] at this; exact this
      · have := congrFun hag w
        simp [part, this, run_sizeOf_of hi]
  intro K h
  unfold partK at h
  split at h
  · rename_i fs i ht hi
    exact agg i K hi (funext fun w => by simp [isAgg, run_underlying ht]) (fun K' => by unfold partK; simp only [ht, hi]) h
  · rename_i n e i ht hi
    exact agg i K hi (funext fun w => by simp [isAgg, run_underlying ht]) (fun K' => by unfold partK; simp only [ht, hi]) h
  · rename_i d i hn1 hn2 ht hi
    split at h
    · rename_i v hv'
      obtain ⟨vc, hvc, hr⟩ := hv.get hv'
      refine ⟨v, vc, h, hr, fun K' => ?_, fun w => ?_⟩
      · unfold partK; rw [ht, hi]
        cases d <;> first | exact (hn1 _ rfl).elim | exact (hn2 _ _ rfl).elim | simp only [hv']
      · have hag : (isAgg t).run P w = .ok false w := by
          cases d <;> first | exact (hn1 _ rfl).elim | exact (hn2 _ _ rfl).elim | simp [isAgg, run_underlying ht]
        have hvc' : vs[off]? = some vc := by simpa using hvc
        simp [part, hag, hvc']
    · cases h
  · cases h

theorem index_ok {P : Program} {ρ : Rho} {x i : AV} {xc ic : Value} (hx : VR ρ x xc) (hi : VR ρ i ic) (t : TypeId) : PureOK P ρ (indexK P t x i) (Instr.index t xc ic) := by
  intro K h
  unfold indexK at h
  split at h
  · rename_i s k' k ht
    obtain rfl := hi.of_int
    obtain ⟨b, rfl, rfl⟩ := hx.of_str
    cases hc : (decide (0 ≤ k) && decide (k < ((bytesL b).length : Int))) with
    | false => rw [hc] at h; cases h
    | true =>
      rw [hc, cond_true] at h
      have hc' := hc
      simp only [Bool.and_eq_true, decide_eq_true_eq, bytesL_length] at hc'
      have hlt : k.toNat < b.size := by omega
      have e := bytesL_get b k.toNat hlt
      refine ⟨_, _, h, .int .u8 _, fun K' => by simp only [indexK, ht, hc, cond_true], fun w => ?_⟩
      rw [run_index_string w t b k' k ht, dif_pos hc', e]
  · rename_i n e cs k' k ht
    obtain rfl := hi.of_int
    obtain ⟨vs, rfl, hv⟩ := hx.of_agg
    split at h
    · rename_i ie hie
      cases hc : (decide (0 ≤ k) && decide (k < (n : Int))) with
      | false => rw [hc] at h; cases h
      | true =>
        rw [hc, cond_true] at h
        have hc' := hc
        simp only [Bool.and_eq_true, decide_eq_true_eq] at hc'
        obtain ⟨v, vc, h1, h2, h3, h4⟩ := part_ok (P := P) hv e (k.toNat * ie.size) K h
        exact ⟨v, vc, h1, h2, fun K' => by simp only [indexK, ht, hie, hc, cond_true]; exact h3 K', fun w => by simp [Instr.index, asIntOf, run_underlying ht, hc', run_sizeOf_of hie, h4]⟩
    · cases h
  · cases h

end Go.AM
