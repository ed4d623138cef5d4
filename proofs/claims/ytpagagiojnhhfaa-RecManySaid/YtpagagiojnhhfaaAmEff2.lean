/- Operations that make new memory: the rest. -/
import Derived.Test.YtpagagiojnhhfaaAmEff1
namespace Go.AM
open Go Go.RowKit

theorem flat_get {α : Type} (L : List α) : ∀ (n j : Nat), j < n * L.length → ((List.replicate n L).flatten)[j]? = L[j % L.length]?
  | 0, j, h => by simp at h
  | n + 1, j, h => by
    rw [List.replicate_succ, List.flatten_cons]
    by_cases hj : j < L.length
    · rw [List.getElem?_append_left hj, Nat.mod_eq_of_lt hj]
    · rw [List.getElem?_append_right (by omega), flat_get L n (j - L.length) (by rw [Nat.add_mul, Nat.one_mul] at h; omega)]
      congr 1
      rw [← Nat.mod_eq_sub_mod (by omega)]

theorem flat_length {α : Type} (L : List α) (n : Nat) : ((List.replicate n L).flatten).length = n * L.length := by
  rw [List.length_flatten, List.map_replicate, List.sum_replicate_nat]

theorem VRs.flat {ρ : Rho} {L : List AV} {M : List Value} (h : VRs ρ L M) (n : Nat) : VRs ρ (List.replicate n L).flatten (List.replicate n M).flatten := by
  refine ⟨by rw [flat_length, flat_length, h.1], fun i v vc hv hc => ?_⟩
  have hi : i < n * L.length := by rw [← flat_length]; exact (List.getElem?_eq_some_iff.1 hv).1
  rw [flat_get L n i hi] at hv
  rw [flat_get M n i (by rw [← h.1]; exact hi), ← h.1] at hc
  exact h.2 _ v vc hv hc

theorem made_take (z : Array Value) (n m : Nat) (hm : m ≤ n) (hz : 0 < z.size) : (madeCells z (n * z.size)).toList.take (m * z.size) = (List.replicate m z.toList).flatten := by
  apply List.ext_getElem?
  intro j
  rw [List.getElem?_take]
  have hmn : m * z.size ≤ n * z.size := Nat.mul_le_mul_right _ hm
  by_cases hj : j < m * z.size
  · rw [if_pos hj, flat_get z.toList m j (by rw [Array.length_toList]; exact hj), Array.length_toList]
    have h2 : j % z.size < z.size := Nat.mod_lt _ hz
    have h3 : j < (madeCells z (n * z.size)).size := by rw [size_madeCells]; omega
    rw [Array.getElem?_toList, Array.getElem?_toList, Array.getElem?_eq_getElem h3, Array.getElem?_eq_getElem h2]
    congr 1
    simp [madeCells, h2]
  · rw [if_neg hj, List.getElem?_eq_none (by rw [flat_length, Array.length_toList]; omega)]

theorem made_eq (z : Array Value) (n : Nat) (hz : 0 < z.size) : ((Array.range (n * z.size)).map (z[· % z.size]!)).toList = (List.replicate n z.toList).flatten := by
  have := made_take z n n (Nat.le_refl _) hz
  rw [List.take_of_length_le (by rw [Array.length_toList, size_madeCells]; exact Nat.le_refl _)] at this
  exact this

section
variable {P : Program} {B : Nat} {w0 : World} {ρ : Rho} {σ : H} {w w' : World} (hsim : Sim B w0 ρ σ w)
include hsim

theorem Sim.more (hb : Below w.heap.size w w') : Sim B w0 ρ σ w' := by
  refine ⟨hsim.below.trans (hb.mono hsim.size), Nat.le_trans hsim.size hb.size, fun id l hl => ?_, hsim.apart⟩
  obtain ⟨o, ho, hr⟩ := hsim.obj id l hl
  refine ⟨o, ho, hr.keep (.refl ρ) fun k hk => hb.block k ?_⟩
  rcases hk with hk | hk
  · exact Nat.lt_of_lt_of_le hk hsim.size
  · exact (hr.lt hk).2

theorem alloc_ok (t : TypeId) : EffOK P B w0 ρ w (fun K => zeroK P t fun z => bif z.cells.isEmpty || !leafy z.cells then false else newK σ (.cells z.cells z.cells.length .own) fun id σ => K (.ptr (some ⟨id, 0, 0, z.cells.length⟩)) σ)
    (Instr.alloc t true (.tuple #[])) := by
  intro K h
  obtain ⟨z, zc, h, hz, ez, hzr, _⟩ := zeroK_of (ρ := ρ) h
  obtain ⟨v, vc, σ', ρ', w', h1, h2, h3, h4, h5⟩ := box_ok (P := P) hsim hz t K h
  refine ⟨v, vc, σ', ρ', w', h1, h2, h3, h4, ?_⟩
  simp only [Instr.alloc, Sem.run_bind, hzr, Result.andThen_ok]
  exact h5

theorem buildSlice_ok (t : TypeId) (len : Nat) {parts : List (Nat × AV)} {partsC : Array (Nat × Value)} (hp : PartsR ρ parts partsC.toList) :
    EffOK P B w0 ρ w (fun K => buildSliceK P t len parts σ K) (Instr.buildSlice t len partsC) := by
  intro K h
  simp only at h
  unfold buildSliceK at h
  split at h
  · rename_i e ht
    obtain ⟨i, hi, hpos, hq, _⟩ := esizeK_of h
    clear h
    have h := hq
    clear hq
    cases h0 : (len == 0) with
    | true =>
      rw [h0, cond_true] at h
      obtain rfl : len = 0 := by simpa using h0
      cases hpe : parts.isEmpty with
      | false => rw [hpe] at h; exact absurd h (by simp)
      | true =>
        rw [hpe, cond_true] at h
        obtain rfl : parts = [] := by simpa using hpe
        obtain rfl : partsC = #[] := by
          apply Array.ext'
          have := hp.1
          cases hq2 : partsC.toList with
          | nil => rfl
          | cons a b => rw [hq2] at this; simp at this
        refine ⟨_, .slice (some ⟨w.heap.size, 0, none⟩) 0 0, σ, ρ, { w with heap := w.heap.push (.cells #[] e) }, .refl ρ, .slZero _, hsim.more (below_push rfl rfl rfl rfl), h, ?_⟩
        simp [Instr.buildSlice, run_underlying ht, run_sizeOf_of hi, Instr.fill, newRow, show Array.range 0 = #[] from rfl]
    | false =>
      rw [h0, cond_false] at h
      have hlen : 0 < len := by have : len ≠ 0 := by simpa using h0
                                omega
      cases hc : decide (len * i.size ≤ 16777216) with
      | false => rw [hc] at h; cases h
      | true =>
        rw [hc, cond_true] at h
        have hc' : len * i.size ≤ 16777216 := by simpa using hc
        obtain ⟨z, zc, h, hz, ez, hzr, _⟩ := zeroK_of (ρ := ρ) h
        cases hzl : (z.cells.length == i.size) with
        | false => rw [hzl] at h; cases h
        | true =>
          rw [hzl, cond_true] at h
          have hzl' : z.cells.length = i.size := by simpa using hzl
          have hcz := hz.cells
          have hsz : zc.cells.size = i.size := by rw [← Array.length_toList, ← hcz.1]; exact hzl'
          split at h
          · rename_i xs hfill
            cases hl : leafy xs with
            | false => rw [hl] at h; cases h
            | true =>
              rw [hl, cond_true] at h
              have hbase : VRs ρ (List.replicate len z.cells).flatten ((Array.range (len * zc.cells.size)).map (zc.cells[· % zc.cells.size]!)).toList := by
                rw [made_eq _ _ (by omega)]; exact hcz.flat len
              obtain ⟨vs', h1, h2⟩ := fill_ok hp.1 hp.2 hbase hfill
              have hxl : xs.length = vs'.size := by rw [← Array.length_toList]; exact h2.1
              have htk : vs'.toList.take xs.length = vs'.toList := by rw [h2.1, List.take_length]
              have hlenx : xs.length = len * i.size := by
                have : ∀ (ps : List (Nat × AV)) (cs cs' : List AV), fillA (fun j => some (j * i.size, i.size)) cs ps = some cs' → cs'.length = cs.length := by
                  intro ps
                  induction ps with
                  | nil => intro cs cs' hh; simp only [fillA, Option.some.injEq] at hh; rw [hh]
                  | cons p ps ih =>
                    intro cs cs' hh
                    simp only [fillA] at hh
                    cases hq : (p.2.cells.length != i.size || decide (p.1 * i.size + i.size > cs.length)) with
                    | true => rw [hq] at hh; cases hh
                    | false =>
                      rw [hq, cond_false] at hh
                      simp only [Bool.or_eq_false_iff, bne_eq_false_iff_eq, decide_eq_false_iff_not] at hq
                      rw [ih _ _ hh]; simp; omega
                rw [this _ _ _ hfill, flat_length, hzl']
              obtain ⟨ρ', hle, hloc, hs⟩ := Sim.newCells (w' := { w with heap := w.heap.push (.cells vs' e) }) hsim (xs := xs) (C := vs') (T := e) hpos (by omega)
                (by rw [htk]; exact h2) (by rw [htk]; exact h2.one hl) (fz := (0, 0)) (.inl rfl) rfl rfl rfl rfl
              refine ⟨_, .slice (some ⟨w.heap.size, 0, none⟩) len len, _, ρ', _, hle, ?_, hs, h, ?_⟩
              · have := VR.sl (ρ := ρ') (off := 0) (len := len) (cap := len) hloc (List.mem_singleton.2 rfl) (Nat.zero_le _) (by simp [hlenx]) (Nat.le_refl _) (by simp; omega)
                exact this
              · have hne : len * i.size ≠ 0 := by have := Nat.mul_pos hlen hpos; omega
                have hfit : ¬ (2 ^ 24 < len * i.size) := by omega
                rw [hsz] at h1
                simp only [Instr.buildSlice, Sem.run_bind, run_underlying ht, Result.andThen_ok, run_sizeOf_of hi]
                simp [hne, hfit, hzr, hsz, h1, newRow]
          · cases h
  · cases h

theorem makeMap_ok {r : Option AV} {rc : Option Value} (hr : OVR ρ r rc) (t : TypeId) :
    EffOK P B w0 ρ w (fun K => makeMapK P t r σ K) (Instr.makeMap t rc) := by
  intro K h
  have key : (newK σ (.map [] 0) fun id σ => K (.map (some id)) σ) = true → (Instr.makeMap t rc).run P w = .ok (.map (some w.heap.size)) { w with heap := w.heap.push (.map #[] 0) } →
      ∃ v vc σ' ρ' w', ρ.le ρ' ∧ VR ρ' v vc ∧ Sim B w0 ρ' σ' w' ∧ K v σ' = true ∧ (Instr.makeMap t rc).run P w = .ok vc w' := by
    intro h hrun
    obtain ⟨ρ', hle, hloc, hs⟩ := Sim.newObj (w' := { w with heap := w.heap.push (.map #[] 0) }) hsim (o := .map [] 0) (oc := .map #[] 0)
      (fun ρ' _ hb => ⟨hsim.size, #[], hb, rfl, fun i e ce a => by simp at a⟩) rfl rfl rfl rfl
    exact ⟨_, _, _, ρ', _, hle, .map hloc, hs, h, hrun⟩
  simp only [makeMapK] at h
  cases hm : isMapT P t with
  | false => rw [hm] at h; cases h
  | true =>
    rw [hm, cond_true] at h
    unfold isMapT at hm
    split at hm
    · rename_i kt et ht
      cases r with
      | none =>
        obtain rfl := hr.none
        exact key h (by simp [Instr.makeMap])
      | some v =>
        cases v <;> simp only at h <;> first | (cases h; done) | skip
        obtain rfl := hr.int
        exact key h (by simp [Instr.makeMap, run_underlying ht, Go.asInt, asIntOf])
    · cases hm

theorem makeSlice_ok {l c : AV} {lc cc : Value} (hl : VR ρ l lc) (hc : VR ρ c cc) (t : TypeId) :
    EffOK P B w0 ρ w (fun K => makeSliceK P t l c σ K) (Instr.makeSlice t lc cc) := by
  intro K h
  simp only at h
  unfold makeSliceK at h
  split at h
  · rename_i e l c ht
    obtain rfl := hl.of_int
    obtain rfl := hc.of_int
    split at h
    · rename_i ie hie
      cases hg : (decide (0 ≤ l) && decide (l ≤ c) && decide ((ie.bytes : Int) * c ≤ 140737488355328) && decide (c ≤ 140737488355328) && !(ie.size == 0)) with
      | false => rw [hg] at h; cases h
      | true =>
        rw [hg, cond_true] at h
        simp only [Bool.and_eq_true, decide_eq_true_eq, Bool.not_eq_true', beq_eq_false_iff_ne] at hg
        obtain ⟨⟨⟨⟨g1, g2⟩, g3⟩, g4⟩, g5⟩ := hg
        obtain ⟨z, zc, hq, hz, ez, hzr, i, hi, hiz, _⟩ := zeroK_of (ρ := ρ) h
        clear h
        have h := hq
        clear hq
        rw [hie] at hi
        obtain rfl := Option.some.inj hi
        cases hzl : (z.cells.length == ie.size && leafy z.cells) with
        | false => rw [hzl] at h; cases h
        | true =>
          rw [hzl, cond_true] at h
          simp only [Bool.and_eq_true, beq_iff_eq] at hzl
          obtain ⟨hzl, hlf⟩ := hzl
          have hcz := hz.cells
          have hsz : zc.cells.size = ie.size := by rw [← Array.length_toList, ← hcz.1]; exact hzl
          have hrun := run_make (P := P) w t e ie zc ht hie hiz .i64 .i64 l c g1 g2 (by omega) (by omega)
          cases hc0 : (c == 0) with
          | true =>
            rw [hc0, cond_true] at h
            obtain rfl : c = 0 := by simpa using hc0
            obtain rfl : l = 0 := by omega
            exact ⟨_, _, σ, ρ, w.alloc _, .refl ρ, .slZero ⟨w.heap.size, 0, none⟩, hsim.more (below_push (o := .cells (madeCells zc.cells ((0 : Int).toNat * ie.size)) e) rfl rfl rfl rfl), h, hrun⟩
          | false =>
            rw [hc0, cond_false] at h
            have hlc : l.toNat ≤ c.toNat := by omega
            have hmul : l.toNat * ie.size ≤ c.toNat * ie.size := Nat.mul_le_mul_right _ hlc
            have hxl : ((List.replicate l.toNat z.cells).flatten).length = l.toNat * ie.size := by rw [flat_length, hzl]
            have htk : (madeCells zc.cells (c.toNat * ie.size)).toList.take ((List.replicate l.toNat z.cells).flatten).length = (List.replicate l.toNat zc.cells.toList).flatten := by
              rw [hxl, ← hsz]; exact made_take _ _ _ hlc (by omega)
            have h1 : ∀ u ∈ (List.replicate l.toNat zc.cells.toList).flatten, u.oneCell' = true := by
              intro u hu
              obtain ⟨L, hL, hu⟩ := List.mem_flatten.1 hu
              rw [List.eq_of_mem_replicate hL] at hu
              exact hcz.one hlf u hu
            obtain ⟨ρ', hle, hloc, hs⟩ := Sim.newCells (w' := w.alloc (.cells (madeCells zc.cells (c.toNat * ie.size)) e)) hsim (xs := (List.replicate l.toNat z.cells).flatten)
              (C := madeCells zc.cells (c.toNat * ie.size)) (T := e) (z := ie.size) (by omega) (by rw [size_madeCells, hxl]; exact hmul)
              (by rw [htk]; exact hcz.flat _) (by rw [htk]; exact h1) (fz := (0, 0)) (.inl rfl) rfl rfl rfl rfl
            refine ⟨_, _, _, ρ', _, hle, ?_, hs, h, hrun⟩
            have := VR.sl (ρ := ρ') (off := 0) (len := l.toNat) (cap := c.toNat) hloc (List.mem_singleton.2 rfl) (Nat.zero_le _) (by simp [hxl]) hlc (by simp [size_madeCells])
            exact this
    · cases h
  · cases h

theorem strBytes_ok {s : List Int} {sc : Value} (hs : VR ρ (.str s) sc) (src dst e : TypeId) (hsrc : isStrT P src = true) (hd : P.underlying dst = some (.slice e)) (he : P.underlying e = some (.int .u8)) :
    EffOK P B w0 ρ w (fun K => newK σ (.cells (s.map (AV.int .u8 ·)) 1 .own) fun id σ => K (.sl (.at id 0 1) s.length) σ) (convert src dst sc) := by
  intro K h
  obtain ⟨b, rfl, rfl⟩ := hs.of_str
  have hsrc' : P.underlying src = some .string := by
    unfold isStrT at hsrc
    split at hsrc
    · assumption
    · cases hsrc
  have hrun := run_bytes_of_string (P := P) w src dst e b hsrc' hd he
  have hcap := grownCap_ge w b.size 0 e
  have hC : (bytesRow b (grownCap w b.size 0 e)).size = grownCap w b.size 0 e := by
    unfold bytesRow
    rw [Array.size_append, Array.size_map, Array.size_replicate]
    show b.size + _ = _
    omega
  have htk : (bytesRow b (grownCap w b.size 0 e)).toList.take ((bytesL b).map (AV.int .u8 ·)).length = b.data.toList.map fun x => Value.int .u8 x.toNat := by
    unfold bytesRow
    rw [List.length_map, bytesL_length, Array.toList_append, Array.toList_map, List.take_append_of_le_length (by rw [List.length_map, Array.length_toList]; exact Nat.le_refl _)]
    exact List.take_of_length_le (by rw [List.length_map, Array.length_toList]; exact Nat.le_refl _)
  have hv : VRs ρ ((bytesL b).map (AV.int .u8 ·)) (b.data.toList.map fun x => Value.int .u8 x.toNat) := by
    unfold bytesL
    rw [List.map_map]
    generalize b.data.toList = l
    induction l with
    | nil => exact .nil
    | cons x l ih => exact .cons (.int .u8 _) ih
  obtain ⟨ρ', hle, hloc, hsim'⟩ := Sim.newCells (w' := w.drew.alloc (.cells (bytesRow b (grownCap w b.size 0 e)) e ((bytesRow b (grownCap w b.size 0 e)).size, (bytesRow b (grownCap w b.size 0 e)).size + 1))) hsim
    (xs := (bytesL b).map (AV.int .u8 ·)) (C := bytesRow b (grownCap w b.size 0 e)) (T := e) (z := 1) (by omega) (by rw [List.length_map, bytesL_length, hC]; exact hcap)
    (by rw [htk]; exact hv) (by rw [htk]; intro u hu; obtain ⟨x, _, rfl⟩ := List.mem_map.1 hu; rfl) (.inr (Nat.le_refl _)) rfl rfl rfl rfl
  refine ⟨_, _, _, ρ', _, hle, ?_, hsim', h, hrun⟩
  have := VR.sl (ρ := ρ') (off := 0) (len := (bytesL b).length) (cap := grownCap w b.size 0 e) hloc (List.mem_singleton.2 rfl) (Nat.zero_le _) (by simp) (by rw [bytesL_length]; exact hcap) (by simp [hC])
  rw [bytesL_length] at this ⊢
  exact this

end
end Go.AM
