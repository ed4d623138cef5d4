/- Ranges; marks; calls; and every effect. -/
import Derived.Test.YtpagagiojnhhfaaAmEff5
namespace Go.AM
open Go Go.RowKit

theorem ofBytesL_bytesL (b : ByteArray) : ofBytesL (bytesL b) = b := by
  cases b with
  | mk d =>
    unfold ofBytesL bytesL
    congr 1
    apply Array.ext'
    rw [List.map_map]
    have : ∀ l : List UInt8, l.map ((fun n : Int => UInt8.ofNat n.toNat) ∘ fun b : UInt8 => (b.toNat : Int)) = l := fun l => by
      induction l with
      | nil => rfl
      | cons a l ih =>
        rw [List.map_cons, ih]
        congr 1
        show UInt8.ofNat ((a.toNat : Int)).toNat = a
        rw [Int.toNat_natCast]
        exact UInt8.ofNat_toNat
    exact this _

section
variable {P : Program} {B : Nat} {w0 : World} {ρ : Rho} {σ : H} {w w' : World} (hsim : Sim B w0 ρ σ w)
include hsim

theorem range_ok {x : AV} {xc : Value} (hx : VR ρ x xc) (t : TypeId) : EffOK P B w0 ρ w (fun K => rangeK P t x σ K) (Instr.range t xc) := by
  intro K h
  simp only at h
  have fin : ∀ (o : AO) (oc : Obj), (∀ ρ' : Rho, ρ.le ρ' → ∀ w' : World, w'.heap[w.heap.size]? = some oc → OR B ρ' w' o (.obj w.heap.size)) → newK σ o (fun id σ => K (.it id) σ) = true →
      (Instr.range t xc).run P w = .ok (.pointer (some ⟨w.heap.size, 0, none⟩)) { w with heap := w.heap.push oc } →
      ∃ v vc σ' ρ' w', ρ.le ρ' ∧ VR ρ' v vc ∧ Sim B w0 ρ' σ' w' ∧ K v σ' = true ∧ (Instr.range t xc).run P w = .ok vc w' := by
    intro o oc hor hK hrun
    obtain ⟨ρ', hle, hloc, hs⟩ := Sim.newObj (w' := { w with heap := w.heap.push oc }) hsim (fun ρ' hle hb => hor ρ' hle _ hb) rfl rfl rfl rfl
    exact ⟨_, _, _, ρ', _, hle, .iter hloc, hs, hK, hrun⟩
  unfold rangeK at h
  split at h
  · rename_i s ht
    obtain ⟨b, rfl, rfl⟩ := hx.of_str
    exact fin (.siter (bytesL b) 0) (.stringIter b 0) (fun ρ' _ w' hw' => ⟨hsim.size, b, hw', rfl⟩) h (by simp [Instr.range, run_underlying ht])
  · rename_i kt et ht
    cases hx
    exact fin (.miter none 0 [] 0) (.mapIter none 0 #[] 0) (fun ρ' _ w' hw' => ⟨hsim.size, hw'⟩) h (by simp [Instr.range, run_underlying ht])
  · rename_i kt et m ht
    split at h
    · rename_i es clock hs
      cases hx with
      | @map _ r hl =>
        obtain ⟨ces, hB, hw, he⟩ := Sim.map hsim hl hs
        exact fin (.miter (some m) clock [] clock) (.mapIter (some r) clock #[] clock) (fun ρ' hle w' hw' => ⟨hsim.size, r, hle.obj hl, hw'⟩) h (by simp [Instr.range, run_underlying ht, run_getObj_of hw (by simp)])
    · cases h
  · cases h

omit hsim in
theorem filter_ent {ρ : Rho} (p : Nat → Bool) : ∀ {es : List ME} {ces : List MapEntry}, EntR ρ es ces → EntR ρ (es.filter fun e => p e.born) (ces.filter fun e => p e.born)
  | [], ces, he => by obtain rfl := he.inv_nil; exact ⟨rfl, fun i e ce a => by simp at a⟩
  | x :: es, ces, he => by
    obtain ⟨ce, ces', rfl, h1, h2, h3, h4⟩ := he.inv_cons
    have ih := filter_ent p h4
    rw [List.filter_cons, List.filter_cons, ← h3]
    cases hp : p x.born with
    | false => simpa using ih
    | true =>
      refine ⟨by simp [ih.1], fun i e ce' a b => ?_⟩
      cases i with
      | zero => simp at a b; subst a b; exact ⟨h1, h2, h3⟩
      | succ i => simp at a b; exact ih.2 i e ce' a b

omit hsim in
theorem EntR.all {ρ : Rho} (p : Nat → Bool) : ∀ {es : List ME} {ces : List MapEntry}, EntR ρ es ces → (es.all fun e => p e.born) = ces.all fun e => p e.born
  | [], ces, he => by obtain rfl := he.inv_nil; rfl
  | x :: es, ces, he => by
    obtain ⟨ce, ces', rfl, h1, h2, h3, h4⟩ := he.inv_cons
    rw [List.all_cons, List.all_cons, EntR.all p h4, h3]

omit hsim in
theorem EntR.mem {ρ : Rho} {es : List ME} {ces : List MapEntry} (he : EntR ρ es ces) {ce : MapEntry} (h : ce ∈ ces) : ∃ e ∈ es, VR ρ e.key ce.key ∧ VR ρ e.val ce.val ∧ e.born = ce.born := by
  obtain ⟨i, hi⟩ := List.getElem?_of_mem h
  have hlt : i < es.length := by rw [he.1]; exact (List.getElem?_eq_some_iff.1 hi).1
  exact ⟨es[i], List.getElem_mem hlt, he.2 i _ ce (List.getElem?_eq_getElem hlt) hi⟩

omit hsim in
/-- What a draw among n gives: one of them. -/
theorem run_pick (P : Program) (w : World) (n : Nat) (hn : 0 < n) : ∃ k w', k < n ∧ (choose (.mapNext n)).run P w = .ok k w' ∧ w'.heap = w.heap ∧ w'.os = w.os ∧ w'.tape = w.tape ∧ w'.output = w.output := by
  by_cases hf : n ≤ 1
  · exact ⟨0, w, hn, by simp [Question.forced, hf], rfl, rfl, rfl, rfl⟩
  · exact ⟨w.tape w.drawn (.mapNext n) % n, w.drew, Nat.mod_lt _ hn, by simp [Question.forced, hf, Question.cut], rfl, rfl, rfl, rfl⟩

theorem next_ok {it : AV} {itc : Value} (hi : VR ρ it itc) (isString : Bool) (ty : TypeId) : EffOK P B w0 ρ w (fun K => nextK it isString σ K) (Instr.next itc isString ty) := by
  intro K h
  simp only at h
  unfold nextK at h
  split at h
  · rename_i id
    cases hi with
    | @iter _ r hl =>
      split at h
      · rename_i s pos hs
        obtain ⟨o, ho, hor⟩ := hsim.obj id _ hl
        rw [hs] at ho
        obtain rfl := Option.some.inj ho
        obtain ⟨hB, b, hw, rfl⟩ := hor
        have hrl : r < w.heap.size := (Array.getElem?_eq_some_iff.1 hw).1
        rw [bytesL_length, ofBytesL_bytesL] at h
        cases hp : decide (pos < b.size) with
        | true =>
          rw [hp, cond_true] at h
          have hp' : pos < b.size := by simpa using hp
          obtain ⟨ρ', hle, hsim'⟩ := Sim.turn hsim (o' := .siter (bytesL b) (pos + (Utf8.decode b pos).2)) (oc := .stringIter b (pos + (Utf8.decode b pos).2)) hl hs
            (fun ρ' _ w' hw' => ⟨hB, b, hw', rfl⟩) rfl hrl
          refine ⟨_, .tuple #[.bool true, .int .i64 pos, .int .i32 (Utf8.decode b pos).1], _, ρ', _, hle, ?_, hsim', h, ?_⟩
          · exact VR.mk_tup (.cons (.bool true) (.cons (.int .i64 _) (.cons (.int .i32 _) .nil)))
          · simp [Instr.next, run_getObj_of hw (by simp), hp', run_setObj_of hw (by simp), goInt]
        | false =>
          rw [hp, cond_false] at h
          have hp' : ¬ pos < b.size := by simpa using hp
          exact ⟨_, .tuple #[.bool false], σ, ρ, w, .refl ρ, VR.mk_tup (.cons (.bool false) .nil), hsim, h, by simp [Instr.next, run_getObj_of hw (by simp), hp']⟩
      · rename_i since seen last hs
        obtain ⟨o, ho, hor⟩ := hsim.obj id _ hl
        rw [hs] at ho
        obtain rfl := Option.some.inj ho
        obtain ⟨hB, hw⟩ := hor
        exact ⟨_, .tuple #[.bool false], σ, ρ, w, .refl ρ, VR.mk_tup (.cons (.bool false) .nil), hsim, h, by simp [Instr.next, run_getObj_of hw (by simp)]⟩
      · rename_i m since seen last hs
        obtain ⟨rm, hB, hlm, hw⟩ := Sim.miter hsim hl hs
        have hrl : r < w.heap.size := (Array.getElem?_eq_some_iff.1 hw).1
        split at h
        · rename_i es clock hm
          obtain ⟨ces, hBm, hwm, hent⟩ := Sim.map hsim hlm hm
          cases hun : (!seen.isEmpty && !es.isEmpty && es.all (fun e => decide (last ≤ e.born))) with
          | true => rw [hun] at h; cases h
          | false =>
            rw [hun, cond_false] at h
            simp only [Bool.and_eq_true] at h
            obtain ⟨hover, hleft⟩ := h
            have hentL : EntR ρ (es.filter fun e => !seen.contains e.born) (ces.toList.filter fun e => !seen.contains e.born) := filter_ent (fun b => !seen.contains b) hent
            have hunc : (!(seen.toArray.isEmpty) && !ces.isEmpty && ces.all (fun e => decide (e.born ≥ last))) = false := by
              rw [← hun]
              have e1 : (es.all fun e => decide (last ≤ e.born)) = ces.all fun e => decide (e.born ≥ last) := by
                rw [← Array.all_toList]; exact EntR.all (fun b => decide (last ≤ b)) hent
              have e2 : es.isEmpty = ces.isEmpty := by
                rw [← Array.isEmpty_toList]
                have := hent.1
                cases es <;> cases hq : ces.toList <;> rw [hq] at this <;> simp_all
              rw [e1, e2]; simp
            obtain ⟨L, hL⟩ : ∃ L, L = ces.filter fun e => !seen.toArray.contains e.born := ⟨_, rfl⟩
            have hLl : L.toList = ces.toList.filter fun e => !seen.contains e.born := by
              rw [hL, Array.toList_filter]; congr 1; funext e; simp
            obtain ⟨cand, hcand⟩ : ∃ cand, cand = (if (L.filter (·.born < since)).isEmpty then #[none] else #[]) ++ ((L.filter (·.born < since)) ++ (L.filter (·.born ≥ since))).map some := ⟨_, rfl⟩
            have hpos : 0 < cand.size := by
              rw [hcand]
              by_cases he : (L.filter (·.born < since)).isEmpty
              · rw [if_pos he]; simp; omega
              · have : 0 < (L.filter (·.born < since)).size := by
                  rw [Array.isEmpty_iff_size_eq_zero] at he; omega
                rw [if_neg he]; simp only [Array.size_append, Array.size_map]; omega
            obtain ⟨k, w', hk, hpick, hwh, hwo, hwt, hwu⟩ := run_pick P w cand.size hpos
            have hsim1 : Sim B w0 ρ σ w' := hsim.world hwh hwo hwt hwu
            have hw1 : w'.heap[r]? = some (.mapIter (some rm) since seen.toArray last) := by rw [hwh]; exact hw
            have hck : cand[k]? = some cand[k] := Array.getElem?_eq_getElem hk
            cases hck0 : cand[k] with
            | none =>
              have hold : (L.filter (·.born < since)).isEmpty = true := by
                cases he : (L.filter (·.born < since)).isEmpty with
                | true => rfl
                | false =>
                  have hmem : (none : Option MapEntry) ∈ cand.toList := by rw [← hck0]; exact Array.mem_toList_iff.2 (Array.getElem_mem hk)
                  rw [hcand, he] at hmem
                  simp at hmem
              have hall : (es.filter fun e => !seen.contains e.born).all (fun e => decide (since ≤ e.born)) = true := by
                rw [EntR.all (fun b => decide (since ≤ b)) hentL, ← hLl, List.all_eq_true]
                intro e he
                rw [Array.isEmpty_iff_size_eq_zero, ← Array.length_toList, Array.toList_filter, List.length_eq_zero_iff, List.filter_eq_nil_iff] at hold
                have := hold e he
                simp at this ⊢; omega
              rw [hall, cond_true] at hover
              refine ⟨_, .tuple #[.bool false], σ, ρ, w', .refl ρ, VR.mk_tup (.cons (.bool false) .nil), hsim1, hover, ?_⟩
              simp only [Instr.next, Sem.run_bind, run_getObj_of hw (by simp), Result.andThen_ok, run_getObj_of hwm (by simp)]
              rw [hunc]
              simp only [Bool.false_eq_true, if_false, Sem.run_bind, Sem.run_pure, Result.andThen_ok, ← hL, ← hcand, hpick, hck, hck0]
            | some ce =>
              have hmem : ce ∈ L.toList := by
                have hm2 : (some ce : Option MapEntry) ∈ cand.toList := by rw [← hck0]; exact Array.mem_toList_iff.2 (Array.getElem_mem hk)
                rw [hcand] at hm2
                simp only [Array.toList_append, Array.toList_map, List.mem_append, List.mem_map, Option.some.injEq, exists_eq_right, Array.toList_filter, List.mem_filter] at hm2
                rcases hm2 with hm2 | hm2 | hm2
                · split at hm2 <;> simp at hm2
                · exact hm2.1
                · exact hm2.1
              rw [hLl] at hmem
              obtain ⟨e, hel, y1, y2, y3⟩ := hentL.mem hmem
              have hK := List.all_eq_true.1 hleft e hel
              obtain ⟨ρ', hle, hsim'⟩ := Sim.turn hsim1 (o' := .miter (some m) since (seen ++ [e.born]) clock) (oc := .mapIter (some rm) since (seen.toArray.push ce.born) clock) hl hs
                (fun ρ' hle w' hw' => ⟨hB, rm, hle.obj hlm, by rw [hw', y3]; simp⟩) rfl (by rw [hwh]; exact hrl)
              refine ⟨_, .tuple #[.bool true, ce.key, ce.val], _, ρ', _, hle, ?_, hsim', hK, ?_⟩
              · exact VR.mk_tup (.cons (.bool true) (.cons (y1.mono hle) (.cons (y2.mono hle) .nil)))
              · simp only [Instr.next, Sem.run_bind, run_getObj_of hw (by simp), Result.andThen_ok, run_getObj_of hwm (by simp)]
                rw [hunc]
                simp only [Bool.false_eq_true, if_false, Sem.run_bind, Sem.run_pure, Result.andThen_ok, ← hL, ← hcand, hpick, hck, hck0, run_setObj_of hw1 (by simp)]
        · cases h
      · cases h
  · cases h

end
end Go.AM
