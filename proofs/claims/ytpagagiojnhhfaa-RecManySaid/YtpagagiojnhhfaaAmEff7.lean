/- Every effect. -/
import Derived.Test.YtpagagiojnhhfaaAmEff6
namespace Go.AM
open Go Go.RowKit

section
variable {P : Program} {B : Nat} {w0 : World} {ρ : Rho} {σ : H} {w w' : World} (hsim : Sim B w0 ρ σ w)
include hsim

theorem freeze_ok {id off z n : Nat} {xc : Value} (hx : VR ρ (.sl (.at id off z) n) xc) (hn : n ≠ 0) {xs : List AV} {z' : Nat} {md : Md} (hs : σ[id]? = some (.cells xs z' md)) (hmd : md ≠ .ro)
    {t e : TypeId} (ht : P.underlying t = some (.slice e)) (he : P.underlying e = some (.int .u8)) :
    ∃ ρ' w', ρ.le ρ' ∧ Sim B w0 ρ' σ w' ∧ (convert t t xc).run P w = .ok xc w' := by
  cases hx with
  | slEnd a h => exact absurd rfl hn
  | @sl _ _ _ _ cap cs c hl hcm h1 h2 h3 h4 =>
    have hor := hsim.cells hl hs
    obtain ⟨ez, hz, hcr, hnew⟩ := hor
    obtain ⟨hb0, hB, hsz, C, T, fz, hheap, hCs, hfz⟩ := (hcr c hcm).own hmd
    obtain ⟨w', hw'⟩ : ∃ w', w' = w.freeze ⟨c.blk, C.size, none⟩ 1 := ⟨_, rfl⟩
    have hblk : c.blk < w.heap.size := (Array.getElem?_eq_some_iff.1 hheap).1
    have hne : ∀ k, k ≠ c.blk → w'.heap[k]? = w.heap[k]? := fun k hk => by
      rw [hw']; unfold World.freeze; rw [if_neg (by decide)]
      show (w.heap.modify c.blk _)[k]? = _
      rw [Array.getElem?_modify, if_neg (Ne.symm hk)]
    obtain ⟨fz', hfz1, hfz2⟩ : ∃ fz' : Nat × Nat, w'.heap[c.blk]? = some (.cells C T fz') ∧ (fz'.1 = fz'.2 ∨ C.size ≤ fz'.1) := by
      obtain ⟨lo, hi⟩ := fz
      refine ⟨if lo == hi then (C.size, C.size + 1) else (min lo C.size, max hi (C.size + 1)), ?_, ?_⟩
      · rw [hw']; unfold World.freeze; rw [if_neg (by decide)]
        show (w.heap.modify c.blk _)[c.blk]? = _
        rw [Array.getElem?_modify, if_pos rfl, hheap]
        rfl
      · right
        simp only at hfz
        split
        · exact Nat.le_refl _
        · rename_i hh
          have : lo ≠ hi := by simpa using hh
          show C.size ≤ min lo C.size
          rcases hfz with q | q
          · exact absurd q this
          · omega
    have hbel : Below B w w' := ⟨by rw [hw']; unfold World.freeze; rw [if_neg (by decide)], by rw [hw']; unfold World.freeze; rw [if_neg (by decide)], by rw [hw']; unfold World.freeze; rw [if_neg (by decide)],
      by rw [hw']; unfold World.freeze; rw [if_neg (by decide)]; show _ ≤ (w.heap.modify c.blk _).size; rw [Array.size_modify]; exact Nat.le_refl _, fun k hk => hne k (by omega)⟩
    have hsame : ∀ l, ρ.upd id l = ρ → True := fun _ _ => trivial
    have hupd : ρ.upd id (.cells z cs) = ρ := by
      funext j
      by_cases e1 : j = id
      · subst e1; simp [Rho.upd, hl]
      · simp [Rho.upd, e1]
    have hset : σ.set id (.cells xs z' md) = σ := by
      apply List.ext_getElem?
      intro j
      by_cases e1 : id = j
      · subst e1; rw [List.getElem?_set_self (List.getElem?_eq_some_iff.1 hs).1, hs]
      · rw [List.getElem?_set_ne e1]
    have hcell : ∀ p : Addr, w'.cell? p = w.cell? p := fun p => by
      by_cases e1 : p.block = c.blk
      · simp only [World.cell?, e1, hfz1, hheap]
      · exact World.cell?_of_block (hne p.block e1)
    obtain ⟨hle, hsim'⟩ := hsim.change (w' := w') (o' := .cells xs z' md) (l' := .cells z cs) hl hs (.refl _) hbel
      (fun k _ hno => hne k fun e1 => hno ⟨hmd, c, hcm, e1.symm⟩)
      (by
        rw [hupd]
        refine ⟨ez, hz, fun c' hc' => ?_, hnew⟩
        have hq := hcr c' hc'
        refine ⟨hq.lo, hq.hi, fun j a b => ?_, hq.ro, fun hm => ?_⟩
        · obtain ⟨v, vc, q1, q2, q3, q4⟩ := hq.cell j a b
          exact ⟨v, vc, q1, by rw [hcell]; exact q2, q3, q4⟩
        · obtain ⟨o1, o2, o3, C2, T2, f2, o4, o5, o6⟩ := hq.own hm
          by_cases e1 : c'.blk = c.blk
          · rw [e1] at o4
            rw [hheap] at o4
            obtain ⟨rfl, rfl, _⟩ : C = C2 ∧ T = T2 ∧ fz = f2 := by
              have := Option.some.inj o4
              exact ⟨by injection this, by injection this, by injection this⟩
            exact ⟨o1, o2, o3, C, T, fz', by rw [e1]; exact hfz1, o5, hfz2⟩
          · exact ⟨o1, o2, o3, C2, T2, f2, (hne _ e1).trans o4, o5, o6⟩) (fun b hb => .inl hb)
    rw [hupd, hset] at hsim'
    refine ⟨ρ, w', .refl ρ, hsim', ?_⟩
    have hshape : w.shape? c.blk = some (T, C.size) := by unfold World.shape?; rw [hheap]
    simp [convert, run_underlying ht, run_underlying he, markStringish, hshape, hw']

theorem convEff_ok {x : AV} {xc : Value} (hx : VR ρ x xc) (s d : TypeId) : EffOK P B w0 ρ w (fun K => convEffK P s d x σ K) (convert s d xc) := by
  intro K h
  simp only at h
  unfold convEffK at h
  split at h
  · rename_i e hd
    split at h
    · rename_i he
      split at h
      · rename_i id off z n
        cases hc : (s == d && !(n == 0)) with
        | false => rw [hc] at h; cases h
        | true =>
          rw [hc, cond_true] at h
          simp only [Bool.and_eq_true, beq_iff_eq, Bool.not_eq_true', beq_eq_false_iff_ne] at hc
          obtain ⟨rfl, hn⟩ := hc
          obtain ⟨xs, z', md, hs, hq, _⟩ := rowK_of h
          cases hm : (md == Md.ro) with
          | true => rw [hm] at hq; cases hq
          | false =>
            rw [hm, cond_false] at hq
            obtain ⟨ρ', w', hle, hsim', hrun⟩ := freeze_ok (P := P) hsim hx hn hs (by intro e1; rw [e1] at hm; cases hm) hd he
            exact ⟨_, xc, σ, ρ', w', hle, hx.mono hle, hsim', hq, hrun⟩
      · rename_i str
        cases hs : isStrT P s with
        | false => rw [hs] at h; cases h
        | true =>
          rw [hs, cond_true] at h
          exact strBytes_ok (P := P) hsim hx s d e hs hd he K h
      · cases h
    · cases h
  · cases h

theorem eff_sound {callf : CallF} (o : Oper) {e : Operand → AV} {ec : Operand → Value} (he : EvR ρ e ec o.op) (hk : kindOf P o.op = .eff) (K : AV → H → Bool)
    (h : effK P callf o.op o.type e σ K = true) :
    (∃ v vc σ' ρ' w', ρ.le ρ' ∧ VR ρ' v vc ∧ Sim B w0 ρ' σ' w' ∧ K v σ' = true ∧ ((execOp ec o).run P w = .ok (.value vc) w' ∨ ((execOp ec o).run P w = .ok .skip w' ∧ vc = undef))) ∨
    (∃ g args argsc, VRs ρ args argsc.toList ∧ (execOp ec o).run P w = (callFunc g argsc).run P w ∧ callf g args σ (fun v σ => castRes P o.type v fun v => K v σ) = true) := by
  obtain ⟨dst, op, ty, pos, after, guard⟩ := o
  simp only at he hk h ⊢
  have val : ∀ {f : (AV → H → Bool) → Bool} {s : Sem Value}, EffOK P B w0 ρ w f s → f K = true → (execOp ec ⟨dst, op, ty, pos, after, guard⟩).run P w = (do pure (Next.value (← s)) : Sem Next).run P w →
      (∃ v vc σ' ρ' w', ρ.le ρ' ∧ VR ρ' v vc ∧ Sim B w0 ρ' σ' w' ∧ K v σ' = true ∧ ((execOp ec ⟨dst, op, ty, pos, after, guard⟩).run P w = .ok (.value vc) w' ∨ ((execOp ec ⟨dst, op, ty, pos, after, guard⟩).run P w = .ok .skip w' ∧ vc = undef))) := by
    intro f s hs hK hrun
    obtain ⟨v, vc, σ', ρ', w', h1, h2, h3, h4, h5⟩ := hs K hK
    exact ⟨v, vc, σ', ρ', w', h1, h2, h3, h4, .inl (by rw [hrun]; simp [h5])⟩
  have unt : ∀ {f : (H → Bool) → Bool} {s : Sem Unit}, UnitOK P B w0 ρ w f s → f (fun σ => K .undef σ) = true → (execOp ec ⟨dst, op, ty, pos, after, guard⟩).run P w = (do s; pure Next.skip : Sem Next).run P w →
      (∃ v vc σ' ρ' w', ρ.le ρ' ∧ VR ρ' v vc ∧ Sim B w0 ρ' σ' w' ∧ K v σ' = true ∧ ((execOp ec ⟨dst, op, ty, pos, after, guard⟩).run P w = .ok (.value vc) w' ∨ ((execOp ec ⟨dst, op, ty, pos, after, guard⟩).run P w = .ok .skip w' ∧ vc = undef))) := by
    intro f s hs hK hrun
    obtain ⟨σ', ρ', w', h1, h3, h4, h5⟩ := hs _ hK
    exact ⟨.undef, undef, σ', ρ', w', h1, VR.undef, h3, h4, .inr ⟨by rw [hrun]; simp [h5], rfl⟩⟩
  unfold effK at h
  split at h
  · rename_i t
    exact .inl (val (alloc_ok (P := P) hsim t) h rfl)
  · rename_i T x
    exact .inl (val (box_ok (P := P) hsim (he x (by simp [Op.operands])) T) h rfl)
  · rename_i t len parts
    have hp := parts_R (ps := parts) (ρ := ρ) (e := e) (ec := ec) fun p hp => he p.2 (by simp [Op.operands]; exact ⟨p.1, by simpa using hp⟩)
    exact .inl (val (buildSlice_ok (P := P) hsim t len hp) h rfl)
  · rename_i t r
    have hr : OVR ρ (r.map e) (r.map ec) := OVR_map fun y hy => he y (by simp only [Option.mem_def] at hy; subst hy; simp [Op.operands])
    exact .inl (val (makeMap_ok (P := P) hsim hr t) h rfl)
  · rename_i t l c
    exact .inl (val (makeSlice_ok (P := P) hsim (he l (by simp [Op.operands])) (he c (by simp [Op.operands])) t) h rfl)
  · rename_i s d x
    exact .inl (val (convEff_ok (P := P) hsim (he x (by simp [Op.operands])) s d) h rfl)
  · rename_i t a x
    exact .inl (unt (store_ok (P := P) hsim (he a (by simp [Op.operands])) (he x (by simp [Op.operands])) t) h rfl)
  · rename_i t m k x
    exact .inl (unt (update_ok (P := P) hsim (he m (by simp [Op.operands])) (he k (by simp [Op.operands])) (he x (by simp [Op.operands])) t) h rfl)
  · rename_i t m k x
    exact .inl (unt (update_ok (P := P) hsim (he m (by simp [Op.operands])) (he k (by simp [Op.operands])) (he x (by simp [Op.operands])) t) h rfl)
  · rename_i t x
    exact .inl (val (range_ok (P := P) hsim (he x (by simp [Op.operands])) t) h rfl)
  · rename_i it isS
    exact .inl (val (next_ok (P := P) hsim (he it (by simp [Op.operands])) isS ty) h rfl)
  · rename_i args argTypes
    split at h
    · rename_i s x t u ha ht
      have ha' : args = #[s, x] := by apply Array.ext'; rw [ha]
      have ht' : argTypes = #[t, u] := by apply Array.ext'; rw [ht]
      subst ha' ht'
      cases hu : (isSlT P u || isStrT P u) with
      | false => rw [hu] at h; cases h
      | true =>
        rw [hu, cond_true] at h
        have hno : NoInt P u := by
          simp only [Bool.or_eq_true] at hu
          rcases hu with hu | hu
          · unfold isSlT at hu; split at hu
            · rename_i e1 h1; exact .inr ⟨e1, h1⟩
            · cases hu
          · unfold isStrT at hu; split at hu
            · rename_i h1; exact .inl h1
            · cases hu
        exact .inl (val (append_ok (P := P) hsim ty hno (he s (by simp [Op.operands, Call.operands])) (he x (by simp [Op.operands, Call.operands]))) h
          (by simp [execOp, resolve, invoke, builtin]))
    · cases h
  · rename_i args argTypes
    split at h
    · rename_i m k t ts ha ht
      have ha' : args = #[m, k] := by apply Array.ext'; rw [ha]
      subst ha'
      have ht0 : argTypes[0]? = some t := by rw [← Array.getElem?_toList, ht]; rfl
      exact .inl (val (delete_ok (P := P) hsim (he m (by simp [Op.operands, Call.operands])) (he k (by simp [Op.operands, Call.operands])) t ty argTypes ht0) h
          (by simp [execOp, resolve, invoke, builtin]))
    · cases h
  · rename_i f args argTypes
    split at h
    · rename_i g caps hf
      have hfr := he f (by simp [Op.operands, Call.operands])
      rw [hf] at hfr
      obtain ⟨vs, hvs, hvr⟩ := hfr.of_fn
      have hargs := evals_VRs (l := args.toList) (ρ := ρ) (e := e) (ec := ec) fun x hx => he x (by simp [Op.operands, Call.operands]; right; simpa using hx)
      refine .inr ⟨g, _, args.map ec ++ vs, ?_, ?_, h⟩
      · rw [Array.toList_append, Array.toList_map]; exact hargs.append hvr
      · simp [execOp, resolve, hvs, Deferred.ofValue, invoke]
    · cases h
  · cases h

end
end Go.AM
