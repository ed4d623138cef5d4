/- Pure operations, the rest; and all of them in one law. -/
import Derived.Test.YtpagagiojnhhfaaAmPure
namespace Go.AM
open Go Go.RowKit

theorem run_sizeOf_of {P : Program} {t : TypeId} {i : TypeInfo} (h : P.info? t = some i) (w : World) : (sizeOf t).run P w = .ok i.size w := by
  simp [sizeOf, typeInfo, h]
theorem run_typeInfo_of {P : Program} {t : TypeId} {i : TypeInfo} (h : P.info? t = some i) (w : World) : (typeInfo t).run P w = .ok i w := by
  simp [typeInfo, h]

theorem esizeK_of {P : Program} {e : TypeId} {K : Nat → Bool} (h : esizeK P e K = true) :
    ∃ i, P.info? e = some i ∧ 0 < i.size ∧ K i.size = true ∧ ∀ K', esizeK P e K' = K' i.size := by
  unfold esizeK at h
  split at h
  · rename_i i hi
    cases hz : (i.size == 0) with
    | true => rw [hz] at h; cases h
    | false =>
      rw [hz] at h
      have : i.size ≠ 0 := by simpa using hz
      exact ⟨i, hi, by omega, h, fun K' => by unfold esizeK; simp only [hi, hz, cond_false]⟩
  · cases h

theorem boundK_of {v : Option AV} {d lo hi : Nat} {K : Nat → Bool} (h : boundK v d lo hi K = true) :
    ∃ n, K n = true ∧ (∀ K', boundK v d lo hi K' = K' n) ∧ ((v = none ∧ n = d) ∨ ∃ k i, v = some (.int k i) ∧ (lo : Int) ≤ i ∧ i ≤ (hi : Int) ∧ n = i.toNat) := by
  unfold boundK at h
  split at h
  · exact ⟨d, h, fun K' => rfl, .inl ⟨rfl, rfl⟩⟩
  · rename_i k i
    cases hc : (decide ((lo : Int) ≤ i) && decide (i ≤ (hi : Int))) with
    | false => rw [hc] at h; cases h
    | true =>
      rw [hc] at h
      have hc' := hc
      simp only [Bool.and_eq_true, decide_eq_true_eq] at hc'
      exact ⟨i.toNat, h, fun K' => by simp only [boundK, hc, cond_true], .inr ⟨k, i, rfl, hc'.1, hc'.2, rfl⟩⟩
  · cases h

/-- Optional operands. -/
def OVR (ρ : Rho) : Option AV → Option Value → Prop
  | none, none => True
  | some v, some vc => VR ρ v vc
  | _, _ => False
theorem OVR.int {ρ : Rho} {k : IntKind} {i : Int} {o : Option Value} (h : OVR ρ (some (.int k i)) o) : o = some (.int k i) := by
  cases o with
  | none => exact h.elim
  | some v => rw [VR.of_int h]
theorem OVR.none {ρ : Rho} {o : Option Value} (h : OVR ρ none o) : o = none := by
  cases o with
  | none => rfl
  | some v => exact h.elim

theorem run_sliceBound {P : Program} (w : World) (k : IntKind) (i : Int) (y : Nat) (code : BoundsCode) (h0 : 0 ≤ i) (h1 : i ≤ (y : Int)) :
    (Instr.sliceBound (.int k i) y code).run P w = .ok i.toNat w := by
  simp [Instr.sliceBound, asIntOf, h0, h1]

/-- The three bounds. -/
theorem bounds_ok {P : Program} {ρ : Rho} {lo hi mx : Option AV} {loc hic mxc : Option Value} (hlo : OVR ρ lo loc) (hhi : OVR ρ hi hic) (hmx : OVR ρ mx mxc) {n cap : Nat} (hn : n ≤ cap)
    (b : Bool) {m h l : Nat} (hg : mx = none ∨ hi ≠ none)
    (em : (mx = none ∧ m = n) ∨ ∃ k i, mx = some (.int k i) ∧ ((0 : Nat) : Int) ≤ i ∧ i ≤ (n : Int) ∧ m = i.toNat)
    (eh : (hi = none ∧ h = n) ∨ ∃ k i, hi = some (.int k i) ∧ ((0 : Nat) : Int) ≤ i ∧ i ≤ (m : Int) ∧ h = i.toNat)
    (el : (lo = none ∧ l = 0) ∨ ∃ k i, lo = some (.int k i) ∧ ((0 : Nat) : Int) ≤ i ∧ i ≤ (h : Int) ∧ l = i.toNat) :
    l ≤ h ∧ h ≤ n ∧ ∃ m', (m' = if mx = none then cap else m) ∧ h ≤ m' ∧ m' ≤ cap ∧ ∀ w, (Instr.sliceBounds b n cap loc hic mxc).run P w = .ok (l, h, m') w := by
  rcases em with ⟨rfl, rfl⟩ | ⟨km, im, rfl, m0, m1, rfl⟩
  · obtain rfl := hmx.none
    rcases eh with ⟨rfl, rfl⟩ | ⟨kh, ih, rfl, h0, h1, rfl⟩
    · obtain rfl := hhi.none
      rcases el with ⟨rfl, rfl⟩ | ⟨kl, il, rfl, l0, l1, rfl⟩
      · obtain rfl := hlo.none
        exact ⟨by omega, by omega, cap, by simp, hn, by omega, fun w => by simp [Instr.sliceBounds]⟩
      · obtain rfl := hlo.int
        exact ⟨by omega, by omega, cap, by simp, hn, by omega, fun w => by simp [Instr.sliceBounds, run_sliceBound (P := P) w kl il _ _ (by omega) l1]⟩
    · obtain rfl := hhi.int
      have hh : ∀ w c, (Instr.sliceBound (.int kh ih) cap c).run P w = .ok ih.toNat w := fun w c => run_sliceBound w kh ih cap _ (by omega) (by omega)
      rcases el with ⟨rfl, rfl⟩ | ⟨kl, il, rfl, l0, l1, rfl⟩
      · obtain rfl := hlo.none
        exact ⟨by omega, by omega, cap, by simp, by omega, by omega, fun w => by simp [Instr.sliceBounds, hh]⟩
      · obtain rfl := hlo.int
        exact ⟨by omega, by omega, cap, by simp, by omega, by omega, fun w => by simp [Instr.sliceBounds, hh, run_sliceBound (P := P) w kl il ih.toNat _ (by omega) l1]⟩
  · obtain rfl := hmx.int
    have hm : ∀ w c, (Instr.sliceBound (.int km im) cap c).run P w = .ok im.toNat w := fun w c => run_sliceBound w km im cap _ (by omega) (by omega)
    rcases eh with ⟨rfl, rfl⟩ | ⟨kh, ih, rfl, h0, h1, rfl⟩
    · rcases hg with hg | hg
      · cases hg
      · exact absurd rfl hg
    · obtain rfl := hhi.int
      have hh : ∀ w c, (Instr.sliceBound (.int kh ih) im.toNat c).run P w = .ok ih.toNat w := fun w c => run_sliceBound w kh ih im.toNat _ (by omega) (by omega)
      rcases el with ⟨rfl, rfl⟩ | ⟨kl, il, rfl, l0, l1, rfl⟩
      · obtain rfl := hlo.none
        exact ⟨by omega, by omega, im.toNat, by simp, by omega, by omega, fun w => by simp [Instr.sliceBounds, hm, hh]⟩
      · obtain rfl := hlo.int
        exact ⟨by omega, by omega, im.toNat, by simp, by omega, by omega, fun w => by simp [Instr.sliceBounds, hm, hh, run_sliceBound (P := P) w kl il ih.toNat _ (by omega) l1]⟩

theorem Addr.add_none (b o n : Nat) : (⟨b, o, none⟩ : Addr).add n = ⟨b, o + n, none⟩ := by
  unfold Addr.add; split
  · rename_i h; subst h; rfl
  · rfl

theorem slice_ok {P : Program} {ρ : Rho} {x : AV} {xc : Value} (hx : VR ρ x xc) {lo hi mx : Option AV} {loc hic mxc : Option Value} (hlo : OVR ρ lo loc) (hhi : OVR ρ hi hic) (hmx : OVR ρ mx mxc)
    (t : TypeId) : PureOK P ρ (sliceK P t x lo hi mx) (Instr.sliceAt t xc loc hic mxc) := by
  intro K h
  unfold sliceK at h
  split at h
  · rename_i ht
    split at h
    · rename_i s _
      obtain ⟨s', rfl, rfl⟩ := hx.of_str
      obtain rfl := hmx.none
      obtain ⟨nh, h, eh, ch⟩ := boundK_of h
      obtain ⟨nl, h, el, cl⟩ := boundK_of h
      obtain ⟨a1, a2, m', rfl, a3, a4, hb⟩ := bounds_ok (P := P) (n := (bytesL s').length) (cap := (bytesL s').length) hlo hhi hmx (Nat.le_refl _) false (.inl rfl) (.inl ⟨rfl, rfl⟩) ch cl
      rw [bytesL_length] at hb
      refine ⟨_, .string (s'.extract nl nh), h, by rw [← bytesL_extract]; exact .str _, fun K' => by simp only [sliceK, ht]; rw [eh, el], fun w => ?_⟩
      simp [Instr.sliceAt, Instr.slice, run_underlying ht, hb]
    · cases h
  · rename_i e ht
    split at h
    · rename_i n
      cases hc : (n == 0 && (mx.isNone || hi.isSome)) with
      | false => rw [hc] at h; cases h
      | true =>
        rw [hc, cond_true] at h
        simp only [Bool.and_eq_true, beq_iff_eq, Bool.or_eq_true] at hc
        obtain ⟨rfl, hg⟩ := hc
        obtain rfl : xc = .slice none 0 0 := by cases hx; rfl
        obtain ⟨nm, h, em, cm⟩ := boundK_of h
        obtain ⟨nh, h, eh, ch⟩ := boundK_of h
        obtain ⟨nl, h, el, cl⟩ := boundK_of h
        obtain ⟨i, hi', hz, h, ez⟩ := esizeK_of h
        have hnm : nm = 0 := by rcases cm with ⟨_, e⟩ | ⟨_, _, _, _, _, e⟩ <;> omega
        have hnh : nh = 0 := by rcases ch with ⟨_, e⟩ | ⟨_, _, _, _, _, e⟩ <;> omega
        subst hnm hnh
        obtain ⟨a1, a2, m', rfl, a3, a4, hb⟩ := bounds_ok (P := P) (n := 0) (cap := 0) (l := nl) (h := 0) (m := 0) hlo hhi hmx (Nat.le_refl _) true
          (by rcases hg with hg | hg; exact .inl (by simpa using hg); exact .inr (by intro e; rw [e] at hg; cases hg)) cm ch cl
        have hnl : nl = 0 := by omega
        subst hnl
        refine ⟨_, .slice none 0 0, h, .slNil, fun K' => ?_, fun w => ?_⟩
        · simp only [sliceK, ht, beq_self_eq_true, Bool.true_and]
          rw [show (mx.isNone || hi.isSome) = true by simpa using hg, cond_true, em, eh, el, ez]
        · have hm0 : (if mx = none then 0 else 0) = 0 := by split <;> rfl
          rw [hm0] at hb
          simp [Instr.sliceAt, Instr.slice, run_underlying ht, hb, run_sizeOf_of hi']
    · rename_i n
      cases hc : (n == 0 && (mx.isNone || hi.isSome)) with
      | false => rw [hc] at h; cases h
      | true =>
        rw [hc, cond_true] at h
        simp only [Bool.and_eq_true, beq_iff_eq, Bool.or_eq_true] at hc
        obtain ⟨rfl, hg⟩ := hc
        obtain ⟨a, rfl⟩ : ∃ a, xc = .slice (some a) 0 0 := by cases hx; exact ⟨_, rfl⟩
        obtain ⟨nm, h, em, cm⟩ := boundK_of h
        obtain ⟨nh, h, eh, ch⟩ := boundK_of h
        obtain ⟨nl, h, el, cl⟩ := boundK_of h
        obtain ⟨i, hi', hz, h, ez⟩ := esizeK_of h
        have hnm : nm = 0 := by rcases cm with ⟨_, e⟩ | ⟨_, _, _, _, _, e⟩ <;> omega
        have hnh : nh = 0 := by rcases ch with ⟨_, e⟩ | ⟨_, _, _, _, _, e⟩ <;> omega
        subst hnm hnh
        obtain ⟨a1, a2, m', rfl, a3, a4, hb⟩ := bounds_ok (P := P) (n := 0) (cap := 0) (l := nl) (h := 0) (m := 0) hlo hhi hmx (Nat.le_refl _) true
          (by rcases hg with hg | hg; exact .inl (by simpa using hg); exact .inr (by intro e; rw [e] at hg; cases hg)) cm ch cl
        have hnl : nl = 0 := by omega
        subst hnl
        refine ⟨_, .slice (some a) 0 0, h, .slZero a, fun K' => ?_, fun w => ?_⟩
        · simp only [sliceK, ht, beq_self_eq_true, Bool.true_and]
          rw [show (mx.isNone || hi.isSome) = true by simpa using hg, cond_true, em, eh, el, ez]
        · have hm0 : (if mx = none then 0 else 0) = 0 := by split <;> rfl
          rw [hm0] at hb
          simp [Instr.sliceAt, Instr.slice, run_underlying ht, hb, run_sizeOf_of hi']
    · rename_i id off z n
      obtain ⟨i, hi', hz, h, ez⟩ := esizeK_of h
      cases hc : (i.size == z && (mx.isNone || hi.isSome)) with
      | false => rw [hc] at h; cases h
      | true =>
        rw [hc, cond_true] at h
        have hc' := hc
        simp only [Bool.and_eq_true, beq_iff_eq, Bool.or_eq_true] at hc'
        obtain ⟨hiz, hg⟩ := hc'
        obtain ⟨nm, h, em, cm⟩ := boundK_of h
        obtain ⟨nh, h, eh, ch⟩ := boundK_of h
        obtain ⟨nl, h, el, cl⟩ := boundK_of h
        have hK : ∀ K', sliceK P t (.sl (.at id off z) n) lo hi mx K' = bif mx.isSome && nm == nl then K' (.sl .zero 0) else K' (.sl (.at id (off + nl * z) z) (nh - nl)) := fun K' => by
          simp only [sliceK, ht]
          rw [ez]
          simp only [hc, cond_true]
          rw [em, eh, el]
        have hg' : mx = none ∨ hi ≠ none := by
          rcases hg with hg | hg
          · exact .inl (by simpa using hg)
          · exact .inr (by intro e; rw [e] at hg; cases hg)
        -- what the model does, and what comes of it
        have fin : ∀ (a : Addr) (cap : Nat), xc = .slice (some a) n cap → n ≤ cap →
            (∀ (l h m : Nat), l ≤ h → h ≤ n → h ≤ m → m ≤ cap → l < m → VR ρ (.sl (.at id (off + l * z) z) (h - l)) (.slice (some (a.add (l * z))) (h - l) (m - l))) →
            (∃ cs, ρ id = some (.cells z cs)) → ∃ v vc, K v = true ∧ VR ρ v vc ∧ (∀ K', sliceK P t (.sl (.at id off z) n) lo hi mx K' = K' v) ∧ ∀ w, (Instr.sliceAt t xc loc hic mxc).run P w = .ok vc w := by
          rintro a cap rfl hcap hv ⟨cs, hcs⟩
          obtain ⟨a1, a2, m', em', a3, a4, hb⟩ := bounds_ok (P := P) (n := n) (cap := cap) hlo hhi hmx hcap true hg' cm ch cl
          have hrun : ∀ w, (Instr.sliceAt t (.slice (some a) n cap) loc hic mxc).run P w = .ok (.slice (if m' = nl then some a else some (a.add (nl * z))) (nh - nl) (m' - nl)) w := fun w => by
            simp only [Instr.sliceAt, Sem.run_bind, run_underlying ht, Result.andThen_ok, Instr.slice, hb, run_sizeOf_of hi', hiz, Sem.run_pure, Option.map_some]
          cases hb' : (mx.isSome && nm == nl) with
          | true =>
            rw [hb', cond_true] at h
            simp only [Bool.and_eq_true, beq_iff_eq] at hb'
            have hmn : mx ≠ none := by intro e; rw [e] at hb'; exact absurd hb'.1 (by simp)
            rw [if_neg hmn] at em'
            have e1 : m' = nl := by omega
            refine ⟨_, _, h, .slZero a, fun K' => ?_, fun w => ?_⟩
            · rw [hK]; simp only [hb'.1, hb'.2, beq_self_eq_true, Bool.and_self, cond_true]
            · rw [hrun, if_pos e1, show nh - nl = 0 by omega, show m' - nl = 0 by omega]
          | false =>
            rw [hb', cond_false] at h
            by_cases e1 : m' = nl
            · refine ⟨_, _, h, ?_, fun K' => by rw [hK, hb', cond_false], fun w => by rw [hrun, if_pos e1]⟩
              rw [show nh - nl = 0 by omega, show m' - nl = 0 by omega]
              exact .slEnd a hcs
            · exact ⟨_, _, h, hv nl nh m' a1 a2 a3 a4 (by omega), fun K' => by rw [hK, hb', cond_false], fun w => by rw [hrun, if_neg e1]⟩
        cases hx with
        | @sl _ _ _ _ cap cs c hcs hcm h1 h2 h3 h4 =>
          refine fin _ cap rfl h3 (fun l h m q1 q2 q3 q4 q5 => ?_) ⟨cs, hcs⟩
          rw [Addr.add_none]
          have e1 : l * z ≤ n * z := Nat.mul_le_mul_right z (by omega)
          have e2 : h * z ≤ n * z := Nat.mul_le_mul_right z q2
          have e3 : m * z ≤ cap * z := Nat.mul_le_mul_right z q4
          have e4 : l * z ≤ h * z := Nat.mul_le_mul_right z q1
          have e5 : l * z ≤ m * z := Nat.mul_le_mul_right z (by omega)
          have := VR.sl (ρ := ρ) (off := off + l * z) (len := h - l) (cap := m - l) hcs hcm (by omega) (by rw [Nat.sub_mul]; omega) (by omega) (by rw [Nat.sub_mul]; omega)
          rw [show c.boff + (off + l * z - c.lo) = c.boff + (off - c.lo) + l * z by omega] at this
          exact this
        | slEnd a hcs => exact fin a 0 rfl (Nat.le_refl _) (fun l h m q1 q2 q3 q4 q5 => by omega) ⟨_, hcs⟩
    · cases h
  · cases h

end Go.AM
