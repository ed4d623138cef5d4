/- Maps written; ranges; marks. -/
import Derived.Test.YtpagagiojnhhfaaAmEff4
namespace Go.AM
open Go Go.RowKit

theorem run_setObj_of {P : Program} {w : World} {r : Nat} {o o' : Obj} (h : w.heap[r]? = some o) (ho : ∀ c t f, o ≠ .cells c t f) :
    (setObj r o').run P w = .ok () { w with heap := w.heap.setIfInBounds r o' } := by
  unfold setObj
  simp only [Sem.run, h]

theorem keyEq_eq {k k' : AV} (h : keyEq k k' = some true) : k = k' := by
  unfold keyEq at h
  split at h
  · rename_i j a j' b
    cases hj : (j == j') with
    | false => rw [hj] at h; cases h
    | true =>
      rw [hj, cond_true] at h
      have h1 : j = j' := by simpa using hj
      have h2 : a = b := by simpa using h
      rw [h1, h2]
  · have := Option.some.inj h; rw [beq_iff_eq.1 this]
  · have := Option.some.inj h; rw [beq_iff_eq.1 this]
  · cases h

/-- What is found, once more: with the entry, and that it is the same key. -/
theorem find_hit {ρ : Rho} {d : TypeDesc} {k : AV} {kc : Value} (hk : VR ρ k kc) (hf : KeyFits d kc) : ∀ {es : List ME} {ces : List MapEntry} {i : Nat} {K : Option Nat → Bool},
    EntR ρ es ces → findK k es i K = true → ∃ r, K r = true ∧ (∀ K', findK k es i K' = K' r) ∧
      ((r = none ∧ Instr.findNow d kc ces i = some none) ∨
       ∃ j e ce, r = some (i + j) ∧ es[j]? = some e ∧ ces[j]? = some ce ∧ e.key = k ∧ Instr.sameNow d kc ce.key = some true ∧ Instr.findNow d kc ces i = some (some (i + j, ce.val)))
  | [], ces, i, K, he, h => by obtain rfl := he.inv_nil; exact ⟨none, h, fun K' => rfl, .inl ⟨rfl, rfl⟩⟩
  | e :: es, ces, i, K, he, h => by
    obtain ⟨ce, ces', rfl, h1, h2, h3, h4⟩ := he.inv_cons
    unfold findK at h
    split at h
    · rename_i b hb
      have hs := sameNow_ok hk h1 hf hb
      cases b with
      | true => exact ⟨some i, h, fun K' => by rw [findK, hb]; rfl, .inr ⟨0, e, ce, rfl, rfl, rfl, (keyEq_eq hb).symm, hs, by rw [Instr.findNow, hs]; rfl⟩⟩
      | false =>
        rw [cond_false] at h
        obtain ⟨r, r1, r2, r3⟩ := find_hit hk hf h4 h
        refine ⟨r, r1, fun K' => by rw [findK, hb]; exact r2 K', ?_⟩
        have hn : Instr.findNow d kc (ce :: ces') i = Instr.findNow d kc ces' (i + 1) := by rw [Instr.findNow, hs]
        rcases r3 with ⟨ra, rb⟩ | ⟨j, e', ce', ra, rb, rc, rd, re, rf⟩
        · exact .inl ⟨ra, hn.trans rb⟩
        · exact .inr ⟨j + 1, e', ce', by rw [ra]; congr 1; omega, by simpa using rb, by simpa using rc, rd, re, by rw [hn, rf, show i + 1 + j = i + (j + 1) by omega]⟩
    · cases h

section
variable {P : Program} {B : Nat} {w0 : World} {ρ : Rho} {σ : H} {w w' : World} (hsim : Sim B w0 ρ σ w)
include hsim

/-- An object that is no row turns. -/
theorem Sim.turn {id r : Nat} {o o' : AO} {oc : Obj} (hl : ρ id = some (.obj r)) (hs : σ[id]? = some o) (hor : ∀ ρ' : Rho, ρ.le ρ' → ∀ w' : World, w'.heap[r]? = some oc → OR B ρ' w' o' (.obj r))
    (hob : owns o (.obj r) r) (hr : r < w.heap.size) :
    ∃ ρ', ρ.le ρ' ∧ Sim B w0 ρ' (σ.set id o') { w with heap := w.heap.setIfInBounds r oc } := by
  have hB : B ≤ r := by
    obtain ⟨o1, ho1, h1⟩ := hsim.obj id _ hl
    rw [hs] at ho1
    obtain rfl := Option.some.inj ho1
    exact (h1.lt hob).1
  have hle1 : ρ.le (ρ.upd id (.obj r)) := by
    intro j lj hj
    by_cases e1 : j = id
    · subst e1; rw [hl] at hj; obtain rfl := Option.some.inj hj; exact ⟨_, by simp [Rho.upd], .refl _⟩
    · exact ⟨lj, by simp [Rho.upd, e1, hj], .refl _⟩
  have hne : ∀ k, k ≠ r → ({ w with heap := w.heap.setIfInBounds r oc } : World).heap[k]? = w.heap[k]? := fun k hk => by
    show (w.heap.setIfInBounds r oc)[k]? = _
    rw [Array.getElem?_setIfInBounds_ne (Ne.symm hk)]
  have hre : ({ w with heap := w.heap.setIfInBounds r oc } : World).heap[r]? = some oc := by
    show (w.heap.setIfInBounds r oc)[r]? = _
    rw [Array.getElem?_setIfInBounds_self_of_lt hr]
  obtain ⟨hle, hsim'⟩ := hsim.change (w' := { w with heap := w.heap.setIfInBounds r oc }) (o' := o') (l' := .obj r) hl hs (.refl _)
    ⟨rfl, rfl, rfl, by show _ ≤ (w.heap.setIfInBounds r oc).size; rw [Array.size_setIfInBounds]; exact Nat.le_refl _, fun k hk => hne k (by omega)⟩
    (fun k _ hno => hne k fun e => hno (by rw [e]; exact hob)) (hor _ hle1 _ hre) (fun b hb => by
      have hbr : r = b := by
        cases o' <;> simp only [owns] at hb <;> first | (exact hb.elim) | exact hb
      left; rw [← hbr]; exact hob)
  exact ⟨_, hle, hsim'⟩

omit hsim in
theorem keyStays {P : Program} {w : World} {kc kc' : Value} {d : TypeDesc} (hf : KeyFits d kc) (h : Instr.sameNow d kc kc' = some true) : (Instr.keyThatStays kc' kc).run P w = .ok kc w := by
  have : Instr.sameBits 10000 kc' kc = true := by
    have gen : ∀ n, Instr.sameBits n kc' kc = true := fun n => by
      cases d <;> cases kc <;> simp only [KeyFits] at hf <;> first | (exact hf.elim) | skip
      all_goals
        cases kc' <;> simp only [Instr.sameNow] at h <;> first | (cases h; done) | skip
      · simp [Instr.sameBits] at h ⊢; exact h.symm
      · split at h
        · rename_i hk
          simp at h
          simp [Instr.sameBits, hk, h]
        · cases h
      · rename_i a b
        have h2 : (a == b) = true := by simpa using h
        rw [← beq_bytes] at h2
        have h3 : (b == a) = true := by rw [← beq_bytes, beq_iff_eq]; exact (beq_iff_eq.1 h2).symm
        simp only [Instr.sameBits]; exact h3
    exact gen 10000
  simp [Instr.keyThatStays, this]

omit hsim in
/-- Entries in an array, as the model has them. -/
theorem EntR.obj {ρ : Rho} {es : List ME} {ces : Array MapEntry} (h : EntR ρ es ces.toList) : es.length = ces.size ∧
    ∀ (i : Nat) e ce, es[i]? = some e → ces[i]? = some ce → VR ρ e.key ce.key ∧ VR ρ e.val ce.val ∧ e.born = ce.born :=
  ⟨by rw [← Array.length_toList]; exact h.1, fun i e ce a b => h.2 i e ce a (by simpa using b)⟩

theorem update_ok {m k v : AV} {mc kc vc : Value} (hm : VR ρ m mc) (hk : VR ρ k kc) (hv : VR ρ v vc) (t : TypeId) : UnitOK P B w0 ρ w (updateK P t m k v σ) (Instr.mapUpdate t mc kc vc) := by
  intro K h
  unfold updateK at h
  split at h
  · rename_i kt et id ht
    cases hko : keyOkT P kt with
    | false => rw [hko] at h; cases h
    | true =>
      rw [hko, cond_true] at h
      obtain ⟨d, hd, hf⟩ := key_fits hk hko h
      obtain ⟨h2, _⟩ := castT_of h
      clear h
      split at h2
      · rename_i es clock hs
        cases hm with
        | @map _ r hl =>
          obtain ⟨ces, hB, hw, he⟩ := Sim.map hsim hl hs
          have hrl : r < w.heap.size := (Array.getElem?_eq_some_iff.1 hw).1
          obtain ⟨r', h, _, hr⟩ := find_hit hk hf he h2
          have hck : (Instr.checkKey false 10000 kt kc).run P w = .ok () w := checkKey_ok hd hf false 9999 w
          have hobj := he.obj
          rcases hr with ⟨rfl, hn⟩ | ⟨j, e, ce, rfl, hes, hce, hek, hsame, hn⟩
          · obtain ⟨ρ', hle, hsim'⟩ := Sim.turn hsim (o' := .map (es ++ [{ key := k, val := v, born := clock }]) (clock + 1)) (oc := .map (ces.push { key := kc, val := vc, born := clock }) (clock + 1)) hl hs
              (fun ρ' hle w' hw' => ⟨hB, _, hw', by simp [hobj.1], fun i e ce a b => by
                by_cases hi : i < es.length
                · rw [List.getElem?_append_left hi] at a
                  rw [Array.getElem?_push, if_neg (by omega)] at b
                  obtain ⟨x1, x2, x3⟩ := hobj.2 i e ce a b
                  exact ⟨x1.mono hle, x2.mono hle, x3⟩
                · have hi' : i = es.length := by
                    have := (List.getElem?_eq_some_iff.1 a).1
                    simp at this; omega
                  subst hi'
                  simp at a
                  rw [hobj.1, Array.getElem?_push, if_pos rfl] at b
                  obtain rfl := Option.some.inj b
                  subst a
                  exact ⟨hk.mono hle, hv.mono hle, rfl⟩⟩) rfl hrl
            refine ⟨_, ρ', _, hle, hsim', h, ?_⟩
            simp only [Instr.mapUpdate, Sem.run_bind, run_underlying ht, Result.andThen_ok, run_getObj_of hw (by simp), hck, Instr.findKey, run_underlying hd, hn, Sem.run_pure, run_setObj_of hw (by simp)]
          · simp only [Nat.zero_add] at h hn
            split at h
            · rename_i e' hes'
              rw [hes] at hes'
              obtain rfl := Option.some.inj hes'
              have hce' : ces[j]? = some ce := by simpa using hce
              have hjl : j < es.length := (List.getElem?_eq_some_iff.1 hes).1
              obtain ⟨x1, x2, x3⟩ := hobj.2 j e ce hes hce'
              obtain ⟨ρ', hle, hsim'⟩ := Sim.turn hsim (o' := .map (es.set j { e with val := v }) clock) (oc := .map (ces.modify j fun e => { e with key := kc, val := vc }) clock) hl hs
                (fun ρ' hle w' hw' => ⟨hB, _, hw', by simp [hobj.1], fun i f cf a b => by
                  rw [Array.getElem?_modify] at b
                  by_cases hi : j = i
                  · subst hi
                    rw [List.getElem?_set_self hjl] at a
                    rw [if_pos rfl, hce'] at b
                    simp only [Option.map_some, Option.some.injEq] at a b
                    subst a b
                    exact ⟨by show VR ρ' e.key kc; rw [hek]; exact hk.mono hle, hv.mono hle, x3⟩
                  · rw [List.getElem?_set_ne hi] at a
                    rw [if_neg hi] at b
                    obtain ⟨y1, y2, y3⟩ := hobj.2 i f cf a b
                    exact ⟨y1.mono hle, y2.mono hle, y3⟩⟩) rfl hrl
              refine ⟨_, ρ', _, hle, hsim', h, ?_⟩
              have hst : (Instr.keyThatStays (((ces[j]?).map (·.key)).getD kc) kc).run P w = .ok kc w := by rw [hce']; exact keyStays hf hsame
              simp only [Instr.mapUpdate, Sem.run_bind, run_underlying ht, Result.andThen_ok, run_getObj_of hw (by simp), hck, Instr.findKey, run_underlying hd, hn, Sem.run_pure, hst, run_setObj_of hw (by simp)]
            · cases h
      · cases h2
  · cases h

theorem delete_ok {m k : AV} {mc kc : Value} (hm : VR ρ m mc) (hk : VR ρ k kc) (t ty : TypeId) (ts : Array TypeId) (hts : ts[0]? = some t) :
    EffOK P B w0 ρ w (fun K => deleteK P t m k σ fun σ => K (.tup []) σ) (Builtin.delete_ ts ty #[mc, kc]) := by
  intro K h
  simp only at h
  unfold deleteK at h
  split at h
  · rename_i kt et rr ht
    cases hko : keyOkT P kt with
    | false => rw [hko] at h; cases h
    | true =>
      rw [hko, cond_true] at h
      obtain ⟨d, hd, hf⟩ := key_fits hk hko h
      obtain ⟨h2, _⟩ := castT_of h
      clear h
      have hck : ∀ b, (Instr.checkKey b 10000 kt kc).run P w = .ok () w := fun b => checkKey_ok hd hf b 9999 w
      cases rr with
      | none =>
        cases hm
        refine ⟨_, .tuple #[], σ, ρ, w, .refl ρ, VR.undef, hsim, h2, ?_⟩
        simp [Builtin.delete_, hts, run_underlying ht, hck]
      | some id =>
        simp only at h2
        split at h2
        · rename_i es clock hs
          cases hm with
          | @map _ r hl =>
            obtain ⟨ces, hB, hw, he⟩ := Sim.map hsim hl hs
            have hrl : r < w.heap.size := (Array.getElem?_eq_some_iff.1 hw).1
            obtain ⟨r', h, _, hr⟩ := find_hit hk hf he h2
            have hobj := he.obj
            rcases hr with ⟨rfl, hn⟩ | ⟨j, e, ce, rfl, hes, hce, hek, hsame, hn⟩
            · refine ⟨_, .tuple #[], σ, ρ, { w with heap := w.heap.setIfInBounds r (.map ces clock) }, .refl ρ, VR.undef, ?_, h, ?_⟩
              · have : w.heap.setIfInBounds r (.map ces clock) = w.heap := by
                  apply Array.ext_getElem?
                  intro i
                  by_cases hi : r = i
                  · subst hi; rw [Array.getElem?_setIfInBounds_self_of_lt hrl, hw]
                  · rw [Array.getElem?_setIfInBounds_ne hi]
                exact hsim.world this rfl rfl rfl
              · simp [Builtin.delete_, hts, run_underlying ht, hck, run_getObj_of hw (by simp), Instr.findKey, run_underlying hd, hn, run_setObj_of hw (by simp)]
            · simp only [Nat.zero_add] at h hn
              have hce' : ces[j]? = some ce := by simpa using hce
              have hjl : j < es.length := (List.getElem?_eq_some_iff.1 hes).1
              obtain ⟨ρ', hle, hsim'⟩ := Sim.turn hsim (o' := .map (es.eraseIdx j) clock) (oc := .map (ces.eraseIdxIfInBounds j) clock) hl hs
                (fun ρ' hle w' hw' => by
                  have hjc : j < ces.size := by rw [← hobj.1]; exact hjl
                  have etl : (ces.eraseIdxIfInBounds j).toList = ces.toList.eraseIdx j := by
                    rw [Array.eraseIdxIfInBounds, dif_pos hjc, Array.toList_eraseIdx]
                  refine ⟨hB, _, hw', ?_, fun i f cf a b => ?_⟩
                  · rw [← Array.length_toList, etl, List.length_eraseIdx, List.length_eraseIdx, he.1]
                  · rw [← Array.getElem?_toList, etl, List.getElem?_eraseIdx] at b
                    rw [List.getElem?_eraseIdx] at a
                    split at a
                    · rename_i hi; rw [if_pos hi] at b
                      obtain ⟨y1, y2, y3⟩ := he.2 i f cf a b
                      exact ⟨y1.mono hle, y2.mono hle, y3⟩
                    · rename_i hi; rw [if_neg hi] at b
                      obtain ⟨y1, y2, y3⟩ := he.2 _ f cf a b
                      exact ⟨y1.mono hle, y2.mono hle, y3⟩) rfl hrl
              refine ⟨_, .tuple #[], _, ρ', _, hle, VR.undef, hsim', h, ?_⟩
              simp [Builtin.delete_, hts, run_underlying ht, hck, run_getObj_of hw (by simp), Instr.findKey, run_underlying hd, hn, run_setObj_of hw (by simp)]
        · cases h2
  · cases h

end
end Go.AM
