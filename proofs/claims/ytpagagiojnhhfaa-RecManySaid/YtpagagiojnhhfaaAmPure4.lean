/- Pure operations: aggregates, lengths, least and greatest; and all of them in one law. -/
import Derived.Test.YtpagagiojnhhfaaAmPure3
namespace Go.AM
open Go Go.RowKit

theorem foldSet (off : Nat) : ∀ (L : List Value) (j0 : Nat) (A : Array Value), off + j0 + L.length ≤ A.size →
    ((L.zipIdx j0).foldl (fun cs (x : Value × Nat) => cs.setIfInBounds (off + x.2) x.1) A).toList = A.toList.take (off + j0) ++ L ++ A.toList.drop (off + j0 + L.length)
  | [], j0, A, h => by simp
  | c :: L, j0, A, h => by
    simp only [List.length_cons] at h
    have hlt : off + j0 < A.toList.length := by rw [Array.length_toList]; omega
    simp only [List.zipIdx_cons, List.foldl_cons]
    rw [foldSet off L (j0 + 1) _ (by rw [Array.size_setIfInBounds]; omega), Array.toList_setIfInBounds]
    have e1 : (A.toList.set (off + j0) c).take (off + (j0 + 1)) = A.toList.take (off + j0) ++ [c] := by
      rw [show off + (j0 + 1) = off + j0 + 1 by omega, List.take_succ_eq_append_getElem (by rw [List.length_set]; exact hlt)]
      rw [List.take_set_of_le (Nat.le_refl _)]
      simp
    have e2 : (A.toList.set (off + j0) c).drop (off + (j0 + 1) + L.length) = A.toList.drop (off + j0 + (L.length + 1)) := by
      rw [List.drop_set_of_lt (by omega)]
      congr 1; omega
    rw [e1, e2]
    simp

theorem fill_ok {ρ : Rho} {pA : Nat → Option (Nat × Nat)} : ∀ {parts : List (Nat × AV)} {partsC : List (Nat × Value)} {cs cs' : List AV} {vs : Array Value},
    parts.length = partsC.length → (∀ (j : Nat) p q, parts[j]? = some p → partsC[j]? = some q → p.1 = q.1 ∧ VR ρ p.2 q.2) → VRs ρ cs vs.toList → fillA pA cs parts = some cs' →
    ∃ vs' : Array Value, Instr.fill pA vs partsC = some vs' ∧ VRs ρ cs' vs'.toList
  | [], partsC, cs, cs', vs, hl, _, hv, h => by
    have : partsC = [] := by cases partsC with | nil => rfl | cons a b => simp at hl
    subst this
    simp only [fillA, Option.some.injEq] at h
    subst h
    exact ⟨vs, rfl, hv⟩
  | (i, v) :: rest, partsC, cs, cs', vs, hl, hp, hv, h => by
    cases partsC with
    | nil => simp at hl
    | cons q restC =>
      obtain ⟨iq, vq⟩ := q
      obtain ⟨e1, hvr⟩ := hp 0 (i, v) (iq, vq) rfl rfl
      obtain rfl : i = iq := e1
      simp only [fillA] at h
      cases hpl : pA i with
      | none => rw [hpl] at h; cases h
      | some os =>
        obtain ⟨off, size⟩ := os
        rw [hpl] at h
        simp only at h
        cases hc : (v.cells.length != size || decide (off + size > cs.length)) with
        | true => rw [hc] at h; cases h
        | false =>
          rw [hc, cond_false] at h
          simp only [Bool.or_eq_false_iff, bne_eq_false_iff_eq, decide_eq_false_iff_not] at hc
          obtain ⟨hsz, hfit⟩ := hc
          have hcell := hvr.cells
          have hszc : vq.cells.size = size := by rw [← Array.length_toList, ← hcell.1]; exact hsz
          have hlv : cs.length = vs.size := by rw [← Array.length_toList]; exact hv.1
          have hfold : (vq.cells.zipIdx.foldl (fun cs (x : Value × Nat) => cs.setIfInBounds (off + x.2) x.1) vs).toList = vs.toList.take off ++ vq.cells.toList ++ vs.toList.drop (off + size) := by
            rw [← Array.foldl_toList, Array.toList_zipIdx]
            have := foldSet off vq.cells.toList 0 vs (by rw [Array.length_toList]; omega)
            rw [this, Array.length_toList, hszc]; simp
          have hv' : VRs ρ (cs.take off ++ v.cells ++ cs.drop (off + size)) (vq.cells.zipIdx.foldl (fun cs (x : Value × Nat) => cs.setIfInBounds (off + x.2) x.1) vs).toList := by
            rw [hfold]; exact ((hv.take off).append hcell).append (hv.drop (off + size))
          obtain ⟨vs', h1, h2⟩ := fill_ok (pA := pA) (partsC := restC) (by simpa using hl) (fun j p q a b => hp (j + 1) p q (by simpa using a) (by simpa using b)) hv' h
          refine ⟨vs', ?_, h2⟩
          rw [Instr.fill, hpl]
          simp only
          rw [if_neg (by rw [hszc]; simp; omega)]
          exact h1

theorem zeroK_of {P : Program} {ρ : Rho} {t : TypeId} {K : AV → Bool} (h : zeroK P t K = true) :
    ∃ v vc, K v = true ∧ VR ρ v vc ∧ (∀ K', zeroK P t K' = K' v) ∧ (∀ w, (zeroValue t).run P w = .ok vc w) ∧ ∃ i, P.info? t = some i ∧ i.zero = some vc ∧ v = ofConst vc := by
  unfold zeroK at h
  split at h
  · rename_i i hi
    split at h
    · rename_i z hz
      cases hc : constOk z with
      | false => rw [hc] at h; cases h
      | true =>
        rw [hc, cond_true] at h
        exact ⟨_, z, h, constOk_VR hc, fun K' => by simp only [zeroK, hi, hz, hc, cond_true], fun w => by simp [zeroValue, typeInfo, hi, hz], i, hi, hz, rfl⟩
    · cases h
  · cases h

/-- Parts of an aggregate, evaluated. -/
def PartsR (ρ : Rho) (parts : List (Nat × AV)) (partsC : List (Nat × Value)) : Prop :=
  parts.length = partsC.length ∧ ∀ (j : Nat) p q, parts[j]? = some p → partsC[j]? = some q → p.1 = q.1 ∧ VR ρ p.2 q.2

theorem mapM_places {P : Program} (w : World) (fs : Array Field) : ∀ (l : List Field), (∀ f ∈ l, (P.info? f.type).isSome = true) →
    (l.mapM fun f => (do pure (f.offset, ← sizeOf f.type) : Sem (Nat × Nat))).run P w = .ok (l.map fun f => (f.offset, P.cellsOf f.type)) w
  | [], _ => by simp
  | f :: l, h => by
    obtain ⟨i, hi⟩ := Option.isSome_iff_exists.1 (h f (by simp))
    have := mapM_places (P := P) w fs l (fun g hg => h g (by simp [hg]))
    simp only [List.mapM_cons, Sem.run_bind, run_sizeOf_of hi, Result.andThen_ok, Sem.run_pure, this]
    simp [Program.cellsOf, hi]

theorem minmax_ok {P : Program} {ρ : Rho} (mn : Bool) : ∀ {rest : List AV} {restC : List Value} {x : AV} {xc : Value}, VR ρ x xc → VRs ρ rest restC →
    PureOK P ρ (minmaxK mn x rest) (restC.foldlM (if mn then Builtin.min2 else Builtin.max2) xc)
  | [], restC, x, xc, hx, hr => by
    obtain rfl := hr.inv_nil
    exact .one hx (fun K => by cases x <;> rfl) (fun w => by simp)
  | y :: rest, restC, x, xc, hx, hr => by
    obtain ⟨yc, restC', rfl, hy, hr'⟩ := hr.inv_cons
    cases hx with
    | int k a =>
      cases hy with
      | int k' b =>
        intro K h
        cases hk : (k == k') with
        | false => rw [minmaxK, hk] at h; cases h
        | true =>
          rw [minmaxK, hk, cond_true] at h
          obtain ⟨v, vc, h1, h2, h3, h4⟩ := minmax_ok (P := P) (ρ := ρ) mn (.int k (bif mn then (if b < a then b else a) else (if a < b then b else a))) hr' K h
          refine ⟨v, vc, h1, h2, fun K' => ?_, fun w => ?_⟩
          · rw [minmaxK, hk, cond_true]; exact h3 K'
          · rw [← h4 w]
            cases mn <;> simp [Builtin.min2, Builtin.max2]
      | _ => exact .no fun K => by rw [minmaxK]; all_goals (intros; simp_all)
    | _ => exact .no fun K => by rw [minmaxK]; all_goals (intros; simp_all)

end Go.AM
