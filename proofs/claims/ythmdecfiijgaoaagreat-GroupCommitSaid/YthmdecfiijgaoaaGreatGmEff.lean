/- Operations that make new memory. Operations that make new memory: the rest. Operations that write into rows. append. Maps written; ranges; marks. Ranges; marks; calls; and every effect. Every effect. -/
import Derived.Test.YthmdecfiijgaoaaGreatGmRead
import Derived.Lib.AppendStr
namespace Go.AM
open Go Go.RowKit
variable [Grade]

/-- An effect, in continuation form, stands for a run. -/
def EffOK (P : Program) (B : Nat) (w0 : World) (ρ : Rho) (w : World) (f : (AV → H → Bool) → Bool) (s : Sem Value) : Prop :=
  ∀ K, f K = true → ∃ v vc σ' ρ' w', ρ.le ρ' ∧ VR ρ' v vc ∧ Sim B w0 ρ' σ' w' ∧ K v σ' = true ∧ s.run P w = .ok vc w'
def UnitOK (P : Program) (B : Nat) (w0 : World) (ρ : Rho) (w : World) (f : (H → Bool) → Bool) (s : Sem Unit) : Prop :=
  ∀ K, f K = true → ∃ σ' ρ' w', ρ.le ρ' ∧ Sim B w0 ρ' σ' w' ∧ K σ' = true ∧ s.run P w = .ok () w'

omit [Grade] in
theorem leafy_mem {vs : List AV} (h : leafy vs = true) : ∀ v ∈ vs, isLeaf v = true := by
  induction vs with
  | nil => simp
  | cons a vs ih =>
    simp only [leafy, Bool.and_eq_true] at h
    intro v hv
    rcases List.mem_cons.1 hv with rfl | hv
    · exact h.1
    · exact ih h.2 v hv

omit [Grade] in
theorem VRs.one {ρ : Rho} {vs : List AV} {vcs : List Value} (h : VRs ρ vs vcs) (hl : leafy vs = true) : ∀ u ∈ vcs, u.oneCell' = true := by
  intro u hu
  obtain ⟨i, hi⟩ := List.getElem?_of_mem hu
  have hlt : i < vcs.length := (List.getElem?_eq_some_iff.1 hi).1
  have hlt' : i < vs.length := by rw [h.1]; exact hlt
  exact (h.2 i _ u (List.getElem?_eq_getElem hlt') hi).one (leafy_mem hl _ (List.getElem_mem hlt'))

theorem below_push {w w' : World} {o : Obj} (hh : w'.heap = w.heap.push o) (ho : w'.os = w.os) (ht : w'.tape = w.tape) (hu : w'.output = w.output) (hd : w.drawn ≤ w'.drawn := by first | exact Nat.le_refl _ | exact Nat.le_succ _) : Bel w.heap.size w w' :=
  ⟨⟨ho, ht, hu, by rw [hh, Array.size_push]; omega, fun k hk => by rw [hh, Array.getElem?_push, if_neg (by omega)]⟩, Grade.mono hd⟩

section
variable {P : Program} {B : Nat} {w0 : World} {ρ : Rho} {σ : H} {w w' : World} (hsim : Sim B w0 ρ σ w)
include hsim

/-- A new row of the call's own. -/
theorem Sim.newCells {xs : List AV} {C : Array Value} {T : TypeId} {z : Nat} (hz : 0 < z) (hle : xs.length ≤ C.size) (hx : VRs ρ xs (C.toList.take xs.length))
    (h1 : ∀ u ∈ C.toList.take xs.length, u.oneCell' = true) {fz : Nat × Nat} (hfz : fz.1 = fz.2 ∨ C.size ≤ fz.1) (hh : w'.heap = w.heap.push (.cells C T fz)) (ho : w'.os = w.os) (ht : w'.tape = w.tape) (hu : w'.output = w.output) (hd : w.drawn ≤ w'.drawn := by first | exact Nat.le_refl _ | exact Nat.le_succ _) :
    ∃ ρ', ρ.le ρ' ∧ ρ' σ.length = some (.cells z [⟨w.heap.size, 0, 0, xs.length, C.size⟩]) ∧ Sim B w0 ρ' (σ ++ [.cells xs z .own]) w' := by
  have hblk : w'.heap[w.heap.size]? = some (.cells C T fz) := by rw [hh, Array.getElem?_push, if_pos rfl]
  have hle' := hsim.upd_le (.cells z [⟨w.heap.size, 0, 0, xs.length, C.size⟩])
  refine ⟨_, hle', by simp [Rho.upd], hsim.extend (.cells xs z .own) _ (below_push hh ho ht hu hd) ?_ ?_⟩
  · refine ⟨rfl, hz, fun c hc => ?_, fun _ => ⟨_, [], rfl, rfl, fun c hc => by simp at hc, fun _ => rfl, fun c hc => by simp at hc⟩⟩
    obtain rfl : c = ⟨w.heap.size, 0, 0, xs.length, C.size⟩ := by simpa using hc
    refine ⟨Nat.zero_le _, Nat.le_refl _, fun j _ hj => ?_, fun h => (by cases h), fun _ => ⟨rfl, hsim.size, by simpa using hle, C, T, fz, hblk, rfl, hfz⟩⟩
    have hj' : j < xs.length := hj
    obtain ⟨vc, hvc, hr⟩ := hx.get (List.getElem?_eq_getElem hj')
    refine ⟨_, vc, List.getElem?_eq_getElem hj', ?_, hr.mono hle', h1 vc (List.mem_of_getElem? hvc)⟩
    have hC : C[j]? = some vc := by
      rw [List.getElem?_take, if_pos hj'] at hvc
      simpa using hvc
    simp only [World.cell?, hblk, Nat.sub_zero, Nat.zero_add, Option.isSome_none, Bool.false_eq_true, if_false, hC]
  · rintro b ⟨_, c, hc, rfl⟩
    obtain rfl : c = ⟨w.heap.size, 0, 0, xs.length, C.size⟩ := by simpa using hc
    exact Nat.le_refl _

theorem Sim.newObj {o : AO} {oc : Obj} (hor : ∀ ρ' : Rho, ρ.le ρ' → w'.heap[w.heap.size]? = some oc → OR B ρ' w' o (.obj w.heap.size)) (hh : w'.heap = w.heap.push oc) (ho : w'.os = w.os)
    (ht : w'.tape = w.tape) (hu : w'.output = w.output) (hd : w.drawn ≤ w'.drawn := by first | exact Nat.le_refl _ | exact Nat.le_succ _) : ∃ ρ', ρ.le ρ' ∧ ρ' σ.length = some (.obj w.heap.size) ∧ Sim B w0 ρ' (σ ++ [o]) w' := by
  have hblk : w'.heap[w.heap.size]? = some oc := by rw [hh, Array.getElem?_push, if_pos rfl]
  have hle' := hsim.upd_le (.obj w.heap.size)
  refine ⟨_, hle', by simp [Rho.upd], hsim.extend o _ (below_push hh ho ht hu hd) (hor _ hle' hblk) fun b hb => ?_⟩
  cases o <;> simp only [owns] at hb <;> first | (exact hb.elim) | omega

/-- A variable's new block. -/
theorem box_ok {v : AV} {vc : Value} (hv : VR ρ v vc) (T : TypeId) :
    EffOK P B w0 ρ w (fun K => bif v.cells.isEmpty || !leafy v.cells then false else newK σ (.cells v.cells v.cells.length .own) fun id σ => K (.ptr (some ⟨id, 0, 0, v.cells.length⟩)) σ)
      (do pure (.pointer (some (← newVar T vc)))) := by
  intro K h
  simp only at h
  cases hc : (v.cells.isEmpty || !leafy v.cells) with
  | true => rw [hc] at h; cases h
  | false =>
    rw [hc, cond_false] at h
    simp only [Bool.or_eq_false_iff, Bool.not_eq_false'] at hc
    obtain ⟨hne, hl⟩ := hc
    have hcs := hv.cells
    have hsz : v.cells.length = vc.cells.size := by rw [← Array.length_toList]; exact hcs.1
    have hpos : 0 < v.cells.length := by
      cases hq : v.cells with
      | nil => rw [hq] at hne; cases hne
      | cons a b => simp
    have htake : vc.cells.toList.take v.cells.length = vc.cells.toList := by rw [hcs.1, List.take_length]
    obtain ⟨ρ', hle, hloc, hs⟩ := Sim.newCells (w' := { w with heap := w.heap.push (.cells vc.cells T) }) hsim (xs := v.cells) (C := vc.cells) (T := T) hpos (by omega)
      (by rw [htake]; exact hcs) (by rw [htake]; exact hcs.one hl) (fz := (0, 0)) (.inl rfl) rfl rfl rfl rfl
    refine ⟨_, .pointer (some ⟨w.heap.size, 0, none⟩), _, ρ', _, hle, ?_, hs, h, by simp [newVar, newRow]⟩
    have := VR.ptr (ρ := ρ') (b := 0) (d := 0) hloc (List.mem_singleton.2 rfl) (Nat.zero_le _) (by simp) hpos
    exact this

end
end Go.AM
namespace Go.AM
open Go Go.RowKit
variable [Grade]

omit [Grade] in
theorem flat_get {α : Type} (L : List α) : ∀ (n j : Nat), j < n * L.length → ((List.replicate n L).flatten)[j]? = L[j % L.length]?
  | 0, j, h => by simp at h
  | n + 1, j, h => by
    rw [List.replicate_succ, List.flatten_cons]
    by_cases hj : j < L.length
    · rw [List.getElem?_append_left hj, Nat.mod_eq_of_lt hj]
    · rw [List.getElem?_append_right (by omega), flat_get L n (j - L.length) (by rw [Nat.add_mul, Nat.one_mul] at h; omega)]
      congr 1
      rw [← Nat.mod_eq_sub_mod (by omega)]

omit [Grade] in
theorem flat_length {α : Type} (L : List α) (n : Nat) : ((List.replicate n L).flatten).length = n * L.length := by
  rw [List.length_flatten, List.map_replicate, List.sum_replicate_nat]

omit [Grade] in
theorem VRs.flat {ρ : Rho} {L : List AV} {M : List Value} (h : VRs ρ L M) (n : Nat) : VRs ρ (List.replicate n L).flatten (List.replicate n M).flatten := by
  refine ⟨by rw [flat_length, flat_length, h.1], fun i v vc hv hc => ?_⟩
  have hi : i < n * L.length := by rw [← flat_length]; exact (List.getElem?_eq_some_iff.1 hv).1
  rw [flat_get L n i hi] at hv
  rw [flat_get M n i (by rw [← h.1]; exact hi), ← h.1] at hc
  exact h.2 _ v vc hv hc

omit [Grade] in
theorem made_take (z : Array Value) (n m : Nat) (hm : m ≤ n) (hz : 0 < z.size) : (madeCells z (n * z.size)).toList.take (m * z.size) = (List.replicate m z.toList).flatten := by
  apply List.ext_getElem?
  intro j
  rw [List.getElem?_take]
  have hmn : m * z.size ≤ n * z.size := Nat.mul_le_mul_right _ hm
  by_cases hj : j < m * z.size
  · rw [if_pos hj, flat_get z.toList m j (by rw [Array.length_toList]; exact hj), Array.length_toList]
    have h2 : j % z.size < z.size := Nat.mod_lt _ hz
    have h3 : j < (madeCells z (n * z.size)).size := by rw [size_madeCells]; omega
    rw [Array.getElem?_toList, Array.getElem?_toList, Array.getElem?_eq_getElem h3, Array.getElem?_eq_getElem h2]
    congr 1
    simp [madeCells, h2]
  · rw [if_neg hj, List.getElem?_eq_none (by rw [flat_length, Array.length_toList]; omega)]

omit [Grade] in
theorem made_eq (z : Array Value) (n : Nat) (hz : 0 < z.size) : ((Array.range (n * z.size)).map (z[· % z.size]!)).toList = (List.replicate n z.toList).flatten := by
  have := made_take z n n (Nat.le_refl _) hz
  rw [List.take_of_length_le (by rw [Array.length_toList, size_madeCells]; exact Nat.le_refl _)] at this
  exact this

section
variable {P : Program} {B : Nat} {w0 : World} {ρ : Rho} {σ : H} {w w' : World} (hsim : Sim B w0 ρ σ w)
include hsim

theorem Sim.more (hb : Bel w.heap.size w w') : Sim B w0 ρ σ w' := by
  refine ⟨hsim.below.trans (hb.mono hsim.size), Nat.le_trans hsim.size hb.size, fun id l hl => ?_, hsim.apart⟩
  obtain ⟨o, ho, hr⟩ := hsim.obj id l hl
  refine ⟨o, ho, hr.keep (.refl ρ) fun k hk => hb.block k ?_⟩
  rcases hk with hk | hk
  · exact Nat.lt_of_lt_of_le hk hsim.size
  · exact (hr.lt hk).2

theorem alloc_ok (t : TypeId) : EffOK P B w0 ρ w (fun K => zeroK P t fun z => bif z.cells.isEmpty || !leafy z.cells then false else newK σ (.cells z.cells z.cells.length .own) fun id σ => K (.ptr (some ⟨id, 0, 0, z.cells.length⟩)) σ)
    (Instr.alloc t true (.tuple #[])) := by
  intro K h
  obtain ⟨z, zc, h, hz, ez, hzr, _⟩ := zeroK_of (ρ := ρ) h
  obtain ⟨v, vc, σ', ρ', w', h1, h2, h3, h4, h5⟩ := box_ok (P := P) hsim hz t K h
  refine ⟨v, vc, σ', ρ', w', h1, h2, h3, h4, ?_⟩
  simp only [Instr.alloc, Sem.run_bind, hzr, Result.andThen_ok]
  exact h5

theorem buildSlice_ok (t : TypeId) (len : Nat) {parts : List (Nat × AV)} {partsC : Array (Nat × Value)} (hp : PartsR ρ parts partsC.toList) :
    EffOK P B w0 ρ w (fun K => buildSliceK P t len parts σ K) (Instr.buildSlice t len partsC) := by
  intro K h
  simp only at h
  unfold buildSliceK at h
  split at h
  · rename_i e ht
    obtain ⟨i, hi, hpos, hq, _⟩ := esizeK_of h
    clear h
    have h := hq
    clear hq
    cases h0 : (len == 0) with
    | true =>
      rw [h0, cond_true] at h
      obtain rfl : len = 0 := by simpa using h0
      cases hpe : parts.isEmpty with
      | false => rw [hpe] at h; exact absurd h (by simp)
      | true =>
        rw [hpe, cond_true] at h
        obtain rfl : parts = [] := by simpa using hpe
        obtain rfl : partsC = #[] := by
          apply Array.ext'
          have := hp.1
          cases hq2 : partsC.toList with
          | nil => rfl
          | cons a b => rw [hq2] at this; simp at this
        refine ⟨_, .slice (some ⟨w.heap.size, 0, none⟩) 0 0, σ, ρ, { w with heap := w.heap.push (.cells #[] e) }, .refl ρ, .slZero _, hsim.more (below_push rfl rfl rfl rfl), h, ?_⟩
        simp [Instr.buildSlice, run_underlying ht, run_sizeOf_of hi, Instr.fill, newRow, show Array.range 0 = #[] from rfl]
    | false =>
      rw [h0, cond_false] at h
      have hlen : 0 < len := by have : len ≠ 0 := by simpa using h0
                                omega
      cases hc : decide (len * i.size ≤ 16777216) with
      | false => rw [hc] at h; cases h
      | true =>
        rw [hc, cond_true] at h
        have hc' : len * i.size ≤ 16777216 := by simpa using hc
        obtain ⟨z, zc, h, hz, ez, hzr, _⟩ := zeroK_of (ρ := ρ) h
        cases hzl : (z.cells.length == i.size) with
        | false => rw [hzl] at h; cases h
        | true =>
          rw [hzl, cond_true] at h
          have hzl' : z.cells.length = i.size := by simpa using hzl
          have hcz := hz.cells
          have hsz : zc.cells.size = i.size := by rw [← Array.length_toList, ← hcz.1]; exact hzl'
          split at h
          · rename_i xs hfill
            cases hl : leafy xs with
            | false => rw [hl] at h; cases h
            | true =>
              rw [hl, cond_true] at h
              have hbase : VRs ρ (List.replicate len z.cells).flatten ((Array.range (len * zc.cells.size)).map (zc.cells[· % zc.cells.size]!)).toList := by
                rw [made_eq _ _ (by omega)]; exact hcz.flat len
              obtain ⟨vs', h1, h2⟩ := fill_ok hp.1 hp.2 hbase hfill
              have hxl : xs.length = vs'.size := by rw [← Array.length_toList]; exact h2.1
              have htk : vs'.toList.take xs.length = vs'.toList := by rw [h2.1, List.take_length]
              have hlenx : xs.length = len * i.size := by
                have : ∀ (ps : List (Nat × AV)) (cs cs' : List AV), fillA (fun j => some (j * i.size, i.size)) cs ps = some cs' → cs'.length = cs.length := by
                  intro ps
                  induction ps with
                  | nil => intro cs cs' hh; simp only [fillA, Option.some.injEq] at hh; rw [hh]
                  | cons p ps ih =>
                    intro cs cs' hh
                    simp only [fillA, forceO_eq] at hh
                    cases hq : (p.2.cells.length != i.size || decide (p.1 * i.size + i.size > cs.length)) with
                    | true => rw [hq] at hh; cases hh
                    | false =>
                      rw [hq, cond_false] at hh
                      simp only [Bool.or_eq_false_iff, bne_eq_false_iff_eq, decide_eq_false_iff_not] at hq
                      rw [ih _ _ hh]; simp; omega
                rw [this _ _ _ hfill, flat_length, hzl']
              obtain ⟨ρ', hle, hloc, hs⟩ := Sim.newCells (w' := { w with heap := w.heap.push (.cells vs' e) }) hsim (xs := xs) (C := vs') (T := e) hpos (by omega)
                (by rw [htk]; exact h2) (by rw [htk]; exact h2.one hl) (fz := (0, 0)) (.inl rfl) rfl rfl rfl rfl
              refine ⟨_, .slice (some ⟨w.heap.size, 0, none⟩) len len, _, ρ', _, hle, ?_, hs, h, ?_⟩
              · have := VR.sl (ρ := ρ') (off := 0) (len := len) (cap := len) hloc (List.mem_singleton.2 rfl) (Nat.zero_le _) (by simp [hlenx]) (Nat.le_refl _) (by simp; omega)
                exact this
              · have hne : len * i.size ≠ 0 := by have := Nat.mul_pos hlen hpos; omega
                have hfit : ¬ (2 ^ 24 < len * i.size) := by omega
                rw [hsz] at h1
                simp only [Instr.buildSlice, Sem.run_bind, run_underlying ht, Result.andThen_ok, run_sizeOf_of hi]
                simp [hne, hfit, hzr, hsz, h1, newRow]
          · cases h
  · cases h

theorem makeMap_ok {r : Option AV} {rc : Option Value} (hr : OVR ρ r rc) (t : TypeId) :
    EffOK P B w0 ρ w (fun K => makeMapK P t r σ K) (Instr.makeMap t rc) := by
  intro K h
  have key : (newK σ (.map [] 0) fun id σ => K (.map (some id)) σ) = true → (Instr.makeMap t rc).run P w = .ok (.map (some w.heap.size)) { w with heap := w.heap.push (.map #[] 0) } →
      ∃ v vc σ' ρ' w', ρ.le ρ' ∧ VR ρ' v vc ∧ Sim B w0 ρ' σ' w' ∧ K v σ' = true ∧ (Instr.makeMap t rc).run P w = .ok vc w' := by
    intro h hrun
    obtain ⟨ρ', hle, hloc, hs⟩ := Sim.newObj (w' := { w with heap := w.heap.push (.map #[] 0) }) hsim (o := .map [] 0) (oc := .map #[] 0)
      (fun ρ' _ hb => ⟨hsim.size, #[], hb, rfl, fun i e ce a => by simp at a⟩) rfl rfl rfl rfl
    exact ⟨_, _, _, ρ', _, hle, .map hloc, hs, h, hrun⟩
  simp only [makeMapK] at h
  cases hm : isMapT P t with
  | false => rw [hm] at h; cases h
  | true =>
    rw [hm, cond_true] at h
    unfold isMapT at hm
    split at hm
    · rename_i kt et ht
      cases r with
      | none =>
        obtain rfl := hr.none
        exact key h (by simp [Instr.makeMap])
      | some v =>
        cases v <;> simp only at h <;> first | (cases h; done) | skip
        obtain rfl := hr.int
        exact key h (by simp [Instr.makeMap, run_underlying ht, Go.asInt, asIntOf])
    · cases hm

theorem makeSlice_ok {l c : AV} {lc cc : Value} (hl : VR ρ l lc) (hc : VR ρ c cc) (t : TypeId) :
    EffOK P B w0 ρ w (fun K => makeSliceK P t l c σ K) (Instr.makeSlice t lc cc) := by
  intro K h
  simp only at h
  unfold makeSliceK at h
  split at h
  · rename_i e l c ht
    obtain rfl := hl.of_int
    obtain rfl := hc.of_int
    split at h
    · rename_i ie hie
      cases hg : (decide (0 ≤ l) && decide (l ≤ c) && decide ((ie.bytes : Int) * c ≤ 140737488355328) && decide (c ≤ 140737488355328) && !(ie.size == 0)) with
      | false => rw [hg] at h; cases h
      | true =>
        rw [hg, cond_true] at h
        simp only [Bool.and_eq_true, decide_eq_true_eq, Bool.not_eq_true', beq_eq_false_iff_ne] at hg
        obtain ⟨⟨⟨⟨g1, g2⟩, g3⟩, g4⟩, g5⟩ := hg
        obtain ⟨z, zc, hq, hz, ez, hzr, i, hi, hiz, _⟩ := zeroK_of (ρ := ρ) h
        clear h
        have h := hq
        clear hq
        rw [hie] at hi
        obtain rfl := Option.some.inj hi
        cases hzl : (z.cells.length == ie.size && leafy z.cells) with
        | false => rw [hzl] at h; cases h
        | true =>
          rw [hzl, cond_true] at h
          simp only [Bool.and_eq_true, beq_iff_eq] at hzl
          obtain ⟨hzl, hlf⟩ := hzl
          have hcz := hz.cells
          have hsz : zc.cells.size = ie.size := by rw [← Array.length_toList, ← hcz.1]; exact hzl
          have hrun := run_make (P := P) w t e ie zc ht hie hiz .i64 .i64 l c g1 g2 (by omega) (by omega)
          cases hc0 : (c == 0) with
          | true =>
            rw [hc0, cond_true] at h
            obtain rfl : c = 0 := by simpa using hc0
            obtain rfl : l = 0 := by omega
            exact ⟨_, _, σ, ρ, w.alloc _, .refl ρ, .slZero ⟨w.heap.size, 0, none⟩, hsim.more (below_push (o := .cells (madeCells zc.cells ((0 : Int).toNat * ie.size)) e) rfl rfl rfl rfl), h, hrun⟩
          | false =>
            rw [hc0, cond_false] at h
            have hlc : l.toNat ≤ c.toNat := by omega
            have hmul : l.toNat * ie.size ≤ c.toNat * ie.size := Nat.mul_le_mul_right _ hlc
            have hxl : ((List.replicate l.toNat z.cells).flatten).length = l.toNat * ie.size := by rw [flat_length, hzl]
            have htk : (madeCells zc.cells (c.toNat * ie.size)).toList.take ((List.replicate l.toNat z.cells).flatten).length = (List.replicate l.toNat zc.cells.toList).flatten := by
              rw [hxl, ← hsz]; exact made_take _ _ _ hlc (by omega)
            have h1 : ∀ u ∈ (List.replicate l.toNat zc.cells.toList).flatten, u.oneCell' = true := by
              intro u hu
              obtain ⟨L, hL, hu⟩ := List.mem_flatten.1 hu
              rw [List.eq_of_mem_replicate hL] at hu
              exact hcz.one hlf u hu
            obtain ⟨ρ', hle, hloc, hs⟩ := Sim.newCells (w' := w.alloc (.cells (madeCells zc.cells (c.toNat * ie.size)) e)) hsim (xs := (List.replicate l.toNat z.cells).flatten)
              (C := madeCells zc.cells (c.toNat * ie.size)) (T := e) (z := ie.size) (by omega) (by rw [size_madeCells, hxl]; exact hmul)
              (by rw [htk]; exact hcz.flat _) (by rw [htk]; exact h1) (fz := (0, 0)) (.inl rfl) rfl rfl rfl rfl
            refine ⟨_, _, _, ρ', _, hle, ?_, hs, h, hrun⟩
            have := VR.sl (ρ := ρ') (off := 0) (len := l.toNat) (cap := c.toNat) hloc (List.mem_singleton.2 rfl) (Nat.zero_le _) (by simp [hxl]) hlc (by simp [size_madeCells])
            exact this
    · cases h
  · cases h

theorem strBytes_ok {s : List Int} {sc : Value} (hs : VR ρ (.str s) sc) (src dst e : TypeId) (hsrc : isStrT P src = true) (hd : P.underlying dst = some (.slice e)) (he : P.underlying e = some (.int .u8)) :
    EffOK P B w0 ρ w (fun K => newK σ (.cells (s.map (AV.int .u8 ·)) 1 .own) fun id σ => K (.sl (.at id 0 1) s.length) σ) (convert src dst sc) := by
  intro K h
  obtain ⟨b, rfl, rfl⟩ := hs.of_str
  have hsrc' : P.underlying src = some .string := by
    unfold isStrT at hsrc
    split at hsrc
    · assumption
    · cases hsrc
  have hrun := run_bytes_of_string (P := P) w src dst e b hsrc' hd he
  have hcap := grownCap_ge w b.size 0 e
  have hC : (bytesRow b (grownCap w b.size 0 e)).size = grownCap w b.size 0 e := by
    unfold bytesRow
    rw [Array.size_append, Array.size_map, Array.size_replicate]
    show b.size + _ = _
    omega
  have htk : (bytesRow b (grownCap w b.size 0 e)).toList.take ((bytesL b).map (AV.int .u8 ·)).length = b.data.toList.map fun x => Value.int .u8 x.toNat := by
    unfold bytesRow
    rw [List.length_map, bytesL_length, Array.toList_append, Array.toList_map, List.take_append_of_le_length (by rw [List.length_map, Array.length_toList]; exact Nat.le_refl _)]
    exact List.take_of_length_le (by rw [List.length_map, Array.length_toList]; exact Nat.le_refl _)
  have hv : VRs ρ ((bytesL b).map (AV.int .u8 ·)) (b.data.toList.map fun x => Value.int .u8 x.toNat) := by
    unfold bytesL
    rw [List.map_map]
    generalize b.data.toList = l
    induction l with
    | nil => exact .nil
    | cons x l ih => exact .cons (.int .u8 _) ih
  obtain ⟨ρ', hle, hloc, hsim'⟩ := Sim.newCells (w' := w.drew.alloc (.cells (bytesRow b (grownCap w b.size 0 e)) e ((bytesRow b (grownCap w b.size 0 e)).size, (bytesRow b (grownCap w b.size 0 e)).size + 1))) hsim
    (xs := (bytesL b).map (AV.int .u8 ·)) (C := bytesRow b (grownCap w b.size 0 e)) (T := e) (z := 1) (by omega) (by rw [List.length_map, bytesL_length, hC]; exact hcap)
    (by rw [htk]; exact hv) (by rw [htk]; intro u hu; obtain ⟨x, _, rfl⟩ := List.mem_map.1 hu; rfl) (.inr (Nat.le_refl _)) rfl rfl rfl rfl
  refine ⟨_, _, _, ρ', _, hle, ?_, hsim', h, hrun⟩
  have := VR.sl (ρ := ρ') (off := 0) (len := (bytesL b).length) (cap := grownCap w b.size 0 e) hloc (List.mem_singleton.2 rfl) (Nat.zero_le _) (by simp) (by rw [bytesL_length]; exact hcap) (by simp [hC])
  rw [bytesL_length] at this ⊢
  exact this

end
end Go.AM
namespace Go.AM
open Go Go.RowKit
variable [Grade]

omit [Grade] in
theorem setCells_drawn (b : Nat) : ∀ (vs : List Value) (o : Nat) (w : World), (w.setCells b o vs).drawn = w.drawn
  | [], _, _ => rfl
  | v :: r, o, w => by rw [World.setCells, setCells_drawn b r (o + 1) (w.setCell ⟨b, o, none⟩ v)]; rfl
omit [Grade] in
theorem setCells_heap (b : Nat) : ∀ (vs : List Value) (o : Nat) (w : World), (w.setCells b o vs).heap.size = w.heap.size ∧ (w.setCells b o vs).os = w.os ∧ (w.setCells b o vs).tape = w.tape ∧
    (w.setCells b o vs).output = w.output ∧ (∀ k, k ≠ b → (w.setCells b o vs).heap[k]? = w.heap[k]?) ∧
    ∀ C T fz, w.heap[b]? = some (.cells C T fz) → ∃ C', (w.setCells b o vs).heap[b]? = some (.cells C' T fz) ∧ C'.size = C.size
  | [], o, w => ⟨rfl, rfl, rfl, rfl, fun _ _ => rfl, fun C T fz h => ⟨C, h, rfl⟩⟩
  | v :: r, o, w => by
    obtain ⟨h1, h2, h3, h4, h5, h6⟩ := setCells_heap b r (o + 1) (w.setCell ⟨b, o, none⟩ v)
    refine ⟨by rw [World.setCells, h1]; simp, by rw [World.setCells, h2]; rfl, by rw [World.setCells, h3]; rfl, by rw [World.setCells, h4]; rfl, fun k hk => ?_, fun C T fz h => ?_⟩
    · rw [World.setCells, h5 k hk]
      exact Below.heap_setCell _ _ _ _ hk
    · have hs : (w.setCell ⟨b, o, none⟩ v).heap[b]? = some (.cells (C.setIfInBounds o v) T fz) := by
        simp only [World.setCell, Array.getElem?_modify, h, Option.map_some]
        rfl
      obtain ⟨C', e1, e2⟩ := h6 _ T fz hs
      exact ⟨C', by rw [World.setCells]; exact e1, by rw [e2, Array.size_setIfInBounds]⟩

section
variable {P : Program} {B : Nat} {w0 : World} {ρ : Rho} {σ : H} {w w' : World} (hsim : Sim B w0 ρ σ w)
include hsim

/-- Cells of a row written, from a place on; the row may grow. -/
theorem Sim.write {id z : Nat} {xs ys : List AV} {md md' : Md} {c0 : Copy} {rest : List Copy} (hl : ρ id = some (.cells z (c0 :: rest))) (hs : σ[id]? = some (.cells xs z md)) (hmd : md ≠ .ro) (hmd' : md' ≠ .ro)
    (hown : md' = .own → rest = []) {off : Nat} (h1 : c0.lo ≤ off) (h2 : off ≤ xs.length) (hrest : ∀ c ∈ rest, c.hi ≤ off) {vs : List Value} (hv : VRs ρ ys vs) (hone : ∀ u ∈ vs, u.oneCell' = true)
    (hfit : off - c0.lo + ys.length ≤ c0.sz) :
    ∃ ρ', ρ.le ρ' ∧ (∃ c0', CopyLe c0 c0' ∧ c0'.hi = (xs.take off ++ ys ++ xs.drop (off + ys.length)).length ∧ ρ' id = some (.cells z (c0' :: rest))) ∧
      Sim B w0 ρ' (σ.set id (.cells (xs.take off ++ ys ++ xs.drop (off + ys.length)) z md')) (w.setCells c0.blk (off - c0.lo) vs) ∧
      (∀ i, (storeCells ⟨c0.blk, c0.boff + (off - c0.lo) - i, none⟩ vs i).run P w = .ok () (w.setCells c0.blk (off - c0.lo) vs) ∨ c0.boff + (off - c0.lo) < i) := by
  have hor := hsim.cells hl hs
  obtain ⟨_, hz, hcr, hnew⟩ := hor
  obtain ⟨c0', rest', e0, hhi, hlt, _, hne⟩ := hnew hmd
  obtain ⟨rfl, rfl⟩ := List.cons.inj e0
  have hc0 := hcr c0 (by simp)
  obtain ⟨hb0, hB, hsz, C, T, fz, hheap, hCs, hfz⟩ := hc0.own hmd
  obtain ⟨k1, k2, k3, k4, k5, k6⟩ := setCells_heap c0.blk vs (off - c0.lo) w
  obtain ⟨C', hheap', hCs'⟩ := k6 C T fz hheap
  have hyl : ys.length = vs.length := hv.1
  have hcell : ∀ j, j < C.size → (w.cell? ⟨c0.blk, j, none⟩).isSome = true := fun j hj => by
    simp [World.cell?, hheap, hj]
  have hlen : (xs.take off ++ ys ++ xs.drop (off + ys.length)).length = off + ys.length + (xs.length - (off + ys.length)) := by
    simp; omega
  have hfro : ∀ j, j < C.size → w.frozen? ⟨c0.blk, j, none⟩ = false := fun j hj => by
    simp only [World.frozen?, hheap]
    rcases hfz with hq | hq
    · simp; omega
    · simp; omega
  have hlo0 := hc0.lo
  have hch : CopyLe c0 { c0 with hi := (xs.take off ++ ys ++ xs.drop (off + ys.length)).length } := ⟨rfl, rfl, rfl, (by have := hlen; show c0.hi ≤ (xs.take off ++ ys ++ xs.drop (off + ys.length)).length; omega), rfl⟩
  have hle0 : LocLe (.cells z (c0 :: rest)) (.cells z ({ c0 with hi := (xs.take off ++ ys ++ xs.drop (off + ys.length)).length } :: rest)) := by
    refine ⟨rfl, fun c hc => ?_⟩
    rcases List.mem_cons.1 hc with rfl | hc
    · exact ⟨_, List.mem_cons_self, hch⟩
    · exact ⟨c, List.mem_cons_of_mem _ hc, .refl c⟩
  have hbel : Bel B w (w.setCells c0.blk (off - c0.lo) vs) := ⟨⟨k2, k3, k4, by rw [k1]; exact Nat.le_refl _, fun k hk => k5 k (by omega)⟩, Grade.mono (Nat.le_of_eq (setCells_drawn _ _ _ _).symm)⟩
  -- the reading of the row behind the write
  have hle1 : ρ.le (ρ.upd id (.cells z ({ c0 with hi := (xs.take off ++ ys ++ xs.drop (off + ys.length)).length } :: rest))) := by
    intro i li hi
    by_cases e : i = id
    · subst e; rw [hl] at hi; obtain rfl := Option.some.inj hi; exact ⟨_, by simp [Rho.upd], hle0⟩
    · exact ⟨li, by simp [Rho.upd, e, hi], .refl _⟩
  have hread : ∀ (c : Copy), c ∈ c0 :: rest → ∀ j, c.lo ≤ j → j < off → j < c.hi → ∃ v vc, (xs.take off ++ ys ++ xs.drop (off + ys.length))[j]? = some v ∧
      (w.setCells c0.blk (off - c0.lo) vs).cell? ⟨c.blk, c.boff + (j - c.lo), none⟩ = some vc ∧ VR ρ v vc ∧ vc.oneCell' = true := by
    intro c hc j hj1 hj2 hj3
    obtain ⟨v, vc, q1, q2, q3, q4⟩ := (hcr c hc).cell j hj1 hj3
    refine ⟨v, vc, ?_, ?_, q3, q4⟩
    · rw [List.append_assoc, List.getElem?_append_left (by simp; omega), List.getElem?_take, if_pos hj2]; exact q1
    · rw [World.cell?_setCells_out]
      · exact q2
      · intro hb _
        rcases List.mem_cons.1 hc with rfl | hc'
        · left; show c.boff + (j - c.lo) < _; omega
        · exact absurd hb (hne c hc')
  have hOR : OR B (ρ.upd id (.cells z ({ c0 with hi := (xs.take off ++ ys ++ xs.drop (off + ys.length)).length } :: rest))) (w.setCells c0.blk (off - c0.lo) vs)
      (.cells (xs.take off ++ ys ++ xs.drop (off + ys.length)) z md') (.cells z ({ c0 with hi := (xs.take off ++ ys ++ xs.drop (off + ys.length)).length } :: rest)) := by
    refine ⟨rfl, hz, fun c hc => ?_, fun _ => ⟨_, rest, rfl, rfl, fun c hc => ?_, hown, fun c hc => hne c hc⟩⟩
    · rcases List.mem_cons.1 hc with rfl | hc
      · refine ⟨?_, Nat.le_refl _, fun j hj1 hj2 => ?_, fun h => absurd h hmd', fun _ => ⟨hb0, hB, ?_, C', T, fz, hheap', hCs'.trans hCs, by rw [hCs']; exact hfz⟩⟩
        · have := hlen; show c0.lo ≤ (xs.take off ++ ys ++ xs.drop (off + ys.length)).length; omega
        · simp only at hj1 hj2 ⊢
          by_cases hlt1 : j < off
          · obtain ⟨v, vc, q1, q2, q3, q4⟩ := hread c0 (by simp) j hj1 hlt1 (by omega)
            exact ⟨v, vc, q1, q2, q3.mono hle1, q4⟩
          · by_cases hlt2 : j < off + ys.length
            · have hj3 : j - off < ys.length := by omega
              obtain ⟨vc, hvc, hr⟩ := hv.get (List.getElem?_eq_getElem hj3)
              refine ⟨ys[j - off], vc, ?_, ?_, hr.mono hle1, hone vc (List.mem_of_getElem? hvc)⟩
              · rw [List.append_assoc, List.getElem?_append_right (by simp; omega), List.getElem?_append_left (by simp; omega)]
                simp only [List.length_take, Nat.min_eq_left h2]
                exact List.getElem?_eq_getElem hj3
              · have hj4 : j - off < vs.length := by omega
                have := World.cell?_setCells_in c0.blk vs (off - c0.lo) w (fun i hi => hcell _ (by omega)) (j - off) hj4
                rw [hb0, Nat.zero_add, show j - c0.lo = off - c0.lo + (j - off) by omega, this]
                rw [List.getElem?_eq_getElem hj4] at hvc; exact hvc
            · have hjx : j < xs.length := by rw [hlen] at hj2; omega
              obtain ⟨v, vc, q1, q2, q3, q4⟩ := hc0.cell j hj1 (by omega)
              refine ⟨v, vc, ?_, ?_, q3.mono hle1, q4⟩
              · rw [List.getElem?_append_right (by simp; omega), List.getElem?_drop]
                simp only [List.length_append, List.length_take, Nat.min_eq_left h2]
                rw [show off + ys.length + (j - (off + ys.length)) = j by omega]; exact q1
              · rw [World.cell?_setCells_out]
                · exact q2
                · intro _ _; right; show _ ≤ c0.boff + (j - c0.lo); omega
        · show (xs.take off ++ ys ++ xs.drop (off + ys.length)).length - c0.lo ≤ c0.sz
          rw [hlen]; omega
      · have hcc := hcr c (List.mem_cons_of_mem _ hc)
        have hro := hrest c hc
        refine ⟨hcc.lo, by rw [hlen]; omega, fun j hj1 hj2 => ?_, fun h => absurd h hmd', fun _ => ?_⟩
        · obtain ⟨v, vc, q1, q2, q3, q4⟩ := hread c (List.mem_cons_of_mem _ hc) j hj1 (by omega) hj2
          exact ⟨v, vc, q1, q2, q3.mono hle1, q4⟩
        · obtain ⟨o1, o2, o3, C2, T2, fz2, o4, o5⟩ := hcc.own hmd
          exact ⟨o1, o2, o3, C2, T2, fz2, (k5 _ (hne c hc)).trans o4, o5⟩
    · have := hlt c hc; rw [hlen]; omega
  have hOW : ∀ b, owns (.cells (xs.take off ++ ys ++ xs.drop (off + ys.length)) z md') (.cells z ({ c0 with hi := (xs.take off ++ ys ++ xs.drop (off + ys.length)).length } :: rest)) b →
      owns (.cells xs z md) (.cells z (c0 :: rest)) b ∨ w.heap.size ≤ b := by
    rintro b ⟨_, c, hc, rfl⟩
    left
    refine ⟨hmd, ?_⟩
    rcases List.mem_cons.1 hc with rfl | hc
    · exact ⟨c0, by simp, rfl⟩
    · exact ⟨c, List.mem_cons_of_mem _ hc, rfl⟩
  obtain ⟨hle, hsim'⟩ := hsim.change (w' := w.setCells c0.blk (off - c0.lo) vs) hl hs hle0 hbel
    (fun k hk hno => k5 k fun e => hno ⟨hmd, c0, by simp, e.symm⟩) hOR hOW
  refine ⟨_, hle, ⟨_, hch, rfl, by simp [Rho.upd]⟩, hsim', fun i => ?_⟩
  by_cases hi : c0.boff + (off - c0.lo) < i
  · exact .inr hi
  · left
    have := run_storeCells_cells (P := P) c0.blk (c0.boff + (off - c0.lo) - i) vs i w (fun j hj => ?_) (fun j hj => ?_) hone
    · rw [show c0.boff + (off - c0.lo) - i + i = off - c0.lo by omega] at this; exact this
    · rw [show c0.boff + (off - c0.lo) - i + i + j = off - c0.lo + j by omega]; exact hcell _ (by omega)
    · rw [show c0.boff + (off - c0.lo) - i + i + j = off - c0.lo + j by omega]; exact hfro _ (by omega)

theorem store_ok {a v : AV} {ac vc : Value} (ha : VR ρ a ac) (hv : VR ρ v vc) (t : TypeId) : UnitOK P B w0 ρ w (storeK P t a v σ) (Instr.storeAt t ac vc) := by
  intro K h
  unfold storeK at h
  split at h
  · rename_i id b d z i hi
    obtain ⟨xs, y, md, hs, h, _⟩ := rowK_of h
    cases hc : (md == .own && v.cells.length == i.size && decide (d + i.size ≤ z) && decide (b + d + i.size ≤ xs.length) && leafy v.cells) with
    | false => rw [hc] at h; cases h
    | true =>
      rw [hc, cond_true] at h
      simp only [Bool.and_eq_true, beq_iff_eq, decide_eq_true_eq] at hc
      obtain ⟨⟨⟨⟨rfl, hvl⟩, hdz⟩, hfit⟩, hlf⟩ := hc
      cases ha with
      | @ptr _ _ _ _ cs c hl hcm h1 h2 h3 =>
        have hor := hsim.cells hl hs
        obtain ⟨ey, hz, hcr, hnew⟩ := hor
        subst ey
        obtain ⟨c0, rest, rfl, hhi, _, hrest, _⟩ := hnew (by simp)
        obtain rfl := hrest rfl
        obtain rfl : c = c0 := by simpa using hcm
        obtain ⟨hb0, _, hsz, _⟩ := (hcr c (by simp)).own (by simp)
        have hcv := hv.cells
        obtain ⟨ρ', hle, _, hsim', hrun⟩ := Sim.write (P := P) hsim (md' := .own) hl hs (by simp) (by simp) (fun _ => rfl) (off := b + d) (by omega) (by omega) (fun c hc => by simp at hc) hcv (hcv.one hlf) (by rw [hvl]; omega)
        rw [hvl] at hsim'
        refine ⟨_, ρ', _, hle, hsim', h, ?_⟩
        have := (hrun 0).resolve_right (by omega)
        rw [Nat.sub_zero] at this
        have hsz' : vc.cells.size = i.size := by rw [← Array.length_toList, ← hcv.1]; exact hvl
        simp [Instr.storeAt, Instr.sureAddr, storeVar, run_sizeOf_of hi, hsz', this]
  · cases h

theorem clear_ok {x : AV} {xc : Value} (hx : VR ρ x xc) (t ty : TypeId) (ts : Array TypeId) (hts : ts[0]? = some t) :
    EffOK P B w0 ρ w (fun K => clearK P t x σ fun σ => K (.tup []) σ) (Builtin.clear_ ts ty #[xc]) := by
  intro K h
  simp only at h
  unfold clearK at h
  split at h
  · rename_i e a n ht
    cases hn : (n == 0) with
    | true =>
      rw [hn, cond_true] at h
      obtain rfl : n = 0 := by simpa using hn
      refine ⟨_, .tuple #[], σ, ρ, w, .refl ρ, VR.undef, hsim, h, ?_⟩
      cases hx <;> simp [Builtin.clear_, hts, run_underlying ht]
    | false =>
      rw [hn, cond_false] at h
      have hn' : 0 < n := by have : n ≠ 0 := by simpa using hn
                             omega
      split at h
      · rename_i id off z
        obtain ⟨zr, zc, h, hz, ez, hzr, _⟩ := zeroK_of (ρ := ρ) h
        obtain ⟨xs, y, md, hs, h, _⟩ := rowK_of h
        cases hc : (md == .own && zr.cells.length == z && decide (off + n * z ≤ xs.length) && leafy zr.cells) with
        | false => rw [hc] at h; cases h
        | true =>
          rw [hc, cond_true] at h
          simp only [Bool.and_eq_true, beq_iff_eq, decide_eq_true_eq] at hc
          obtain ⟨⟨⟨rfl, hzl⟩, hfit⟩, hlf⟩ := hc
          cases hx with
          | slEnd ad hl => exact absurd hn' (by omega)
          | @sl _ _ _ _ cap cs c hl hcm h1 h2 h3 h4 =>
            have hor := hsim.cells hl hs
            obtain ⟨ey, hzp, hcr, hnew⟩ := hor
            subst ey
            obtain ⟨c0, rest, rfl, hhi, _, hrest, _⟩ := hnew (by simp)
            obtain rfl := hrest rfl
            obtain rfl : c = c0 := by simpa using hcm
            obtain ⟨hb0, _, hsz, _⟩ := (hcr c (by simp)).own (by simp)
            have hcz := hz.cells
            have hzs : zc.cells.size = z := by rw [← Array.length_toList, ← hcz.1]; exact hzl
            have hv : VRs ρ (List.replicate n zr.cells).flatten (Builtin.zeroCells zc.cells n).toList := by
              unfold Builtin.zeroCells
              rw [made_eq _ _ (by omega)]; exact hcz.flat n
            have hone : ∀ u ∈ (Builtin.zeroCells zc.cells n).toList, u.oneCell' = true := by
              unfold Builtin.zeroCells
              rw [made_eq _ _ (by omega)]
              intro u hu
              obtain ⟨L, hL, hu⟩ := List.mem_flatten.1 hu
              rw [List.eq_of_mem_replicate hL] at hu
              exact hcz.one hlf u hu
            have hyl : ((List.replicate n zr.cells).flatten).length = n * z := by rw [flat_length, hzl]
            obtain ⟨ρ', hle, _, hsim', hrun⟩ := Sim.write (P := P) hsim (md' := .own) hl hs (by simp) (by simp) (fun _ => rfl) (off := off) (by omega) (by omega) (fun c hc => by simp at hc) hv hone (by rw [hyl]; omega)
            rw [hyl] at hsim'
            refine ⟨_, .tuple #[], _, ρ', _, hle, VR.undef, hsim', h, ?_⟩
            have := (hrun 0).resolve_right (by omega)
            rw [Nat.sub_zero] at this
            obtain ⟨n', rfl⟩ : ∃ n', n = n' + 1 := ⟨n - 1, by omega⟩
            simp [Builtin.clear_, hts, run_underlying ht, hzr, this]
      · cases h
  · cases h

end
end Go.AM
namespace Go.AM
open Go Go.RowKit
variable [Grade]

/-- A type that is no integer's: what is appended is no make. -/
def NoInt (P : Program) (u : TypeId) : Prop := P.underlying u = some .string ∨ ∃ e, P.underlying u = some (.slice e)

omit [Grade] in
theorem run_append_fits_of {P : Program} {w w' : World} {t u ty e : TypeId} {i : TypeInfo} (ht : P.underlying t = some (.slice e)) (hu : NoInt P u) (hi : P.info? e = some i)
    {base : Option Addr} {n cap m : Nat} {x : Value} {news : Array Value} (hx : (Builtin.lenOf x).run P w = .ok m w) (hf : (Builtin.firstCells i.size m x).run P w = .ok news w) (hroom : n + m ≤ cap)
    (hst : ∀ a, base = some a → (storeCells (a.add (n * i.size)) news.toList).run P w = .ok () w') (hn : base = none → w' = w) :
    (Builtin.append_ #[t, u] ty #[.slice base n cap, x]).run P w = .ok (.slice base (n + m) cap) w' := by
  have key : ∀ d, P.underlying u = some d → (d = .string ∨ ∃ e, d = .slice e) → (Builtin.append_ #[t, u] ty #[.slice base n cap, x]).run P w = .ok (.slice base (n + m) cap) w' := by
    intro d hd hdd
    cases base with
    | none =>
      obtain rfl := hn rfl
      rcases hdd with rfl | ⟨e', rfl⟩ <;> simp [Builtin.append_, run_underlying ht, run_underlying hd, run_sizeOf_of hi, hx, hf, hroom]
    | some a =>
      have := hst a rfl
      rcases hdd with rfl | ⟨e', rfl⟩ <;> simp [Builtin.append_, run_underlying ht, run_underlying hd, run_sizeOf_of hi, hx, hf, hroom, this]
  rcases hu with hu | ⟨e', hu⟩
  · exact key _ hu (.inl rfl)
  · exact key _ hu (.inr ⟨_, rfl⟩)

omit [Grade] in
theorem run_append_grows_of {P : Program} {w : World} {t u ty e : TypeId} {i : TypeInfo} {z : Value} (ht : P.underlying t = some (.slice e)) (hu : NoInt P u) (hi : P.info? e = some i) (hz : i.zero = some z)
    {base : Option Addr} {n cap m : Nat} {x : Value} {olds news : Array Value} (hx : (Builtin.lenOf x).run P w = .ok m w) (hf : (Builtin.firstCells i.size m x).run P w.drew = .ok news w.drew)
    (ho : (Builtin.firstCells i.size n (.slice base n cap)).run P w.drew = .ok olds w.drew) (hroom : cap < n + m) (h63 : ((n + m : Nat) : Int) ≤ 9223372036854775807) (hfit : (n + m) * i.bytes ≤ 140737488355328) :
    (Builtin.append_ #[t, u] ty #[.slice base n cap, x]).run P w = .ok (.slice (some ⟨w.heap.size, 0, none⟩) (n + m) (grownCap w (n + m) cap e))
      (w.drew.alloc (.cells (olds ++ news ++ Builtin.zeroCells z.cells (grownCap w (n + m) cap e - (n + m))) e)) := by
  have hn : ¬ (n + m ≤ cap) := by omega
  have h63' : ¬ (9223372036854775807 < ((n : Int) + (m : Int))) := by omega
  have hfit' := growslice_fits hroom hfit
  have h48' : ¬ (281474976710656 < Builtin.nextslicecap (n + m) cap * i.bytes) := by omega
  rcases hu with hd | ⟨e', hd⟩ <;>
    simp [Builtin.append_, run_underlying ht, run_underlying hd, sizeOf, typeInfo, zeroValue, hi, hz, hx, hn, h63', h48', Question.forced, hf, ho, newRow, grownCap]

/-- What is appended: its cells, read now and behind the draw. -/
def Src (P : Program) (ρ : Rho) (w : World) (z m : Nat) (ys : List AV) (x : Value) : Prop :=
  ∃ vs : List Value, vs.length = m * z ∧ VRs ρ ys vs ∧ (∀ u ∈ vs, u.oneCell' = true) ∧ (Builtin.lenOf x).run P w = .ok m w ∧
    (Builtin.firstCells z m x).run P w = .ok vs.toArray w ∧ (Builtin.firstCells z m x).run P w.drew = .ok vs.toArray w.drew

section
variable {P : Program} {B : Nat} {w0 : World} {ρ : Rho} {σ : H} {w w' : World} (hsim : Sim B w0 ρ σ w)
include hsim

theorem into_ok {t u ty e : TypeId} {i : TypeInfo} {z : Value} (ht : P.underlying t = some (.slice e)) (hu : NoInt P u) (hi : P.info? e = some i) (hz : i.zero = some z) (hzs : z.cells.size = i.size) (hpos : 0 < i.size)
    {a : SA} {n m : Nat} {sc xc : Value} (hs : VR ρ (.sl a n) sc) {ys : List AV} (hx : Src P ρ w i.size m ys xc) (hm : 0 < m) (hfit : (n + m) * i.bytes ≤ 140737488355328)
    (h63 : ((n + m : Nat) : Int) ≤ 9223372036854775807) :
    EffOK P B w0 ρ w (fun K => appendK.into σ K a n m ys i.size) (Builtin.append_ #[t, u] ty #[sc, xc]) := by
  intro K h
  obtain ⟨vs, hvl, hv, hone, hx1, hx2, hx3⟩ := hx
  have hyl : ys.length = m * i.size := by rw [hv.1]; exact hvl
  have hmz : 0 < m * i.size := Nat.mul_pos hm hpos
  simp only at h
  -- a new row, where there was none
  have fresh : ∀ (base : Option Addr), sc = .slice base 0 0 → n = 0 → (newK σ (.cells ys i.size .own) fun id σ => K (.sl (.at id 0 i.size) m) σ) = true →
      ∃ v vc σ' ρ' w', ρ.le ρ' ∧ VR ρ' v vc ∧ Sim B w0 ρ' σ' w' ∧ K v σ' = true ∧ (Builtin.append_ #[t, u] ty #[sc, xc]).run P w = .ok vc w' := by
    rintro base rfl rfl h
    have ho : (Builtin.firstCells i.size 0 (.slice base 0 0)).run P w.drew = .ok #[] w.drew := by
      cases base <;> simp [Builtin.firstCells, loadCells, loadCellsFrom]
    have hrun := run_append_grows_of (ty := ty) ht hu hi hz hx1 hx3 ho (by omega) h63 hfit
    rw [Nat.zero_add] at hrun
    have hcap := grownCap_ge w m 0 e
    obtain ⟨C, hC⟩ : ∃ C, C = #[] ++ vs.toArray ++ Builtin.zeroCells z.cells (grownCap w m 0 e - m) := ⟨_, rfl⟩
    have hCs : C.size = grownCap w m 0 e * i.size := by
      rw [hC, Array.size_append, Array.size_append, size_zeroCells, hzs]
      simp only [List.size_toArray, hvl]
      show 0 + m * i.size + _ = _
      rw [Nat.sub_mul]
      have := Nat.mul_le_mul_right i.size hcap
      omega
    have htk : C.toList.take ys.length = vs := by
      rw [hC, hv.1, Array.toList_append, Array.toList_append]
      simp
    have hle2 : ys.length ≤ C.size := by rw [hyl, hCs]; exact Nat.mul_le_mul_right _ hcap
    rw [← hC] at hrun
    obtain ⟨ρ', hle, hloc, hsim'⟩ := Sim.newCells (w' := w.drew.alloc (.cells C e)) hsim (xs := ys) (C := C) (T := e) hpos hle2 (by rw [htk]; exact hv) (by rw [htk]; exact hone) (fz := (0, 0)) (.inl rfl) rfl rfl rfl rfl
    refine ⟨_, _, _, ρ', _, hle, ?_, hsim', h, hrun⟩
    have := VR.sl (ρ := ρ') (off := 0) (len := m) (cap := grownCap w m 0 e) hloc (List.mem_singleton.2 rfl) (Nat.zero_le _) (by simp [hyl]) hcap (by simp [hCs])
    exact this
  cases a with
  | nil => cases hs; exact fresh none rfl rfl h
  | zero => cases hs with | slZero ad => exact fresh (some ad) rfl rfl h
  | «at» id off z₂ =>
    unfold appendK.into at h
    simp only at h
    obtain ⟨xs, z', md, hσ, hq, _⟩ := rowK_of h
    clear h
    have h := hq
    clear hq
    cases hc : (z' == i.size && z₂ == i.size && !(md == .ro) && off + n * i.size == xs.length) with
    | false => rw [hc] at h; cases h
    | true =>
      rw [hc, cond_true] at h
      simp only [Bool.and_eq_true, beq_iff_eq, Bool.not_eq_true', beq_eq_false_iff_ne] at hc
      obtain ⟨⟨⟨rfl, rfl⟩, hmd⟩, htop⟩ := hc
      -- a new copy of what the slice shows
      have grow : ∀ (base : Option Addr) (cap : Nat) (olds : List Value) (cs : List Copy), sc = .slice base n cap → cap < n + m → ρ id = some (.cells i.size cs) → olds.length = n * i.size → VRs ρ (xs.drop off) olds → (∀ u ∈ olds, u.oneCell' = true) →
          (Builtin.firstCells i.size n (.slice base n cap)).run P w.drew = .ok olds.toArray w.drew →
          ∃ v vc σ' ρ' w', ρ.le ρ' ∧ VR ρ' v vc ∧ Sim B w0 ρ' σ' w' ∧ K v σ' = true ∧ (Builtin.append_ #[t, u] ty #[sc, xc]).run P w = .ok vc w' := by
        rintro base cap olds cs rfl hroom hl hol hov hoo ho
        have hrun := run_append_grows_of (ty := ty) ht hu hi hz hx1 hx3 ho hroom h63 hfit
        have hcap := grownCap_ge w (n + m) cap e
        obtain ⟨C, hC⟩ : ∃ C, C = olds.toArray ++ vs.toArray ++ Builtin.zeroCells z.cells (grownCap w (n + m) cap e - (n + m)) := ⟨_, rfl⟩
        have hmul := Nat.mul_le_mul_right i.size hcap
        rw [Nat.add_mul] at hmul
        have hCs : C.size = grownCap w (n + m) cap e * i.size := by
          rw [hC, Array.size_append, Array.size_append, size_zeroCells, hzs]
          simp only [List.size_toArray, hvl, hol]
          rw [Nat.sub_mul, Nat.add_mul]
          omega
        rw [← hC] at hrun
        have hCt : C.toList = olds ++ vs ++ (Builtin.zeroCells z.cells (grownCap w (n + m) cap e - (n + m))).toList := by
          rw [hC, Array.toList_append, Array.toList_append]
        have hcells : VRs ρ (xs.drop off ++ ys) (olds ++ vs) := hov.append hv
        have hxl : (xs ++ ys).length = off + (n * i.size + m * i.size) := by rw [List.length_append, hyl, ← htop]; omega
        have hor := hsim.cells hl hσ
        obtain ⟨_, hzp, hcr, hnew⟩ := hor
        obtain ⟨c0, rest, rfl, hhi, hlt, _, hne⟩ := hnew hmd
        have hlew : Bel w.heap.size w (w.drew.alloc (.cells C e)) := below_push (o := .cells C e) rfl rfl rfl rfl
        have hle0 : LocLe (.cells i.size (c0 :: rest)) (.cells i.size (⟨w.heap.size, 0, off, (xs ++ ys).length, C.size⟩ :: c0 :: rest)) := ⟨rfl, fun c hc => ⟨c, List.mem_cons_of_mem _ hc, .refl c⟩⟩
        have hle1 : ρ.le (ρ.upd id (.cells i.size (⟨w.heap.size, 0, off, (xs ++ ys).length, C.size⟩ :: c0 :: rest))) := by
          intro j lj hj
          by_cases e1 : j = id
          · subst e1; rw [hl] at hj; obtain rfl := Option.some.inj hj; exact ⟨_, by simp [Rho.upd], hle0⟩
          · exact ⟨lj, by simp [Rho.upd, e1, hj], .refl _⟩
        have hblk : (w.drew.alloc (.cells C e)).heap[w.heap.size]? = some (.cells C e) := by
          show (w.heap.push (.cells C e))[w.heap.size]? = _
          rw [Array.getElem?_push, if_pos rfl]
        have hold : ∀ c ∈ c0 :: rest, c.hi ≤ xs.length := fun c hc => by
          rcases List.mem_cons.1 hc with rfl | hc
          · omega
          · exact Nat.le_of_lt (hlt c hc)
        have hOR : OR B (ρ.upd id (.cells i.size (⟨w.heap.size, 0, off, (xs ++ ys).length, C.size⟩ :: c0 :: rest))) (w.drew.alloc (.cells C e)) (.cells (xs ++ ys) i.size .multi)
            (.cells i.size (⟨w.heap.size, 0, off, (xs ++ ys).length, C.size⟩ :: c0 :: rest)) := by
          refine ⟨rfl, hpos, fun c hc => ?_, fun _ => ⟨_, c0 :: rest, rfl, rfl, fun c hc => ?_, fun hh => (by cases hh), fun c hc => ?_⟩⟩
          · rcases List.mem_cons.1 hc with rfl | hc
            · refine ⟨by show off ≤ (xs ++ ys).length; omega, Nat.le_refl _, fun j hj1 hj2 => ?_, fun hh => (by cases hh), fun _ => ⟨rfl, hsim.size, by show (xs ++ ys).length - off ≤ C.size; rw [hCs, hxl]; omega, C, e, (0, 0), hblk, rfl, .inl rfl⟩⟩
              simp only at hj1 hj2 ⊢
              have e1 : (xs.drop off ++ ys)[j - off]? = (xs ++ ys)[j]? := by
                rw [← List.drop_append_of_le_length (by omega), List.getElem?_drop, show off + (j - off) = j by omega]
              obtain ⟨vc, hvc, hr⟩ := hcells.get (show (xs.drop off ++ ys)[j - off]? = some ((xs ++ ys)[j]'hj2) by rw [e1]; exact List.getElem?_eq_getElem hj2)
              refine ⟨_, vc, List.getElem?_eq_getElem hj2, ?_, hr.mono hle1, ?_⟩
              · have hlt2 : j - off < (olds ++ vs).length := (List.getElem?_eq_some_iff.1 hvc).1
                have : C[j - off]? = some vc := by
                  rw [← Array.getElem?_toList, hCt, List.getElem?_append_left hlt2]; exact hvc
                simp only [World.cell?, hblk, Nat.zero_add, Option.isSome_none, Bool.false_eq_true, if_false, this]
              · rcases List.mem_append.1 (List.mem_of_getElem? hvc) with hh | hh
                · exact hoo vc hh
                · exact hone vc hh
            · have hcc := hcr c hc
              have hcb : c.blk < w.heap.size := by
                obtain ⟨_, _, _, C2, T2, f2, hh, _⟩ := hcc.own hmd
                exact (Array.getElem?_eq_some_iff.1 hh).1
              have hk := hcc.keep (w' := w.drew.alloc (.cells C e)) hle1 (hlew.block c.blk hcb)
              have hhh := hold c hc
              refine ⟨hk.lo, by rw [List.length_append]; omega, fun j hj1 hj2 => ?_, fun hh => (by cases hh), fun _ => hk.own hmd⟩
              obtain ⟨v, vc, q1, q2, q3, q4⟩ := hk.cell j hj1 hj2
              exact ⟨v, vc, by rw [List.getElem?_append_left (by omega)]; exact q1, q2, q3, q4⟩
          · have := hold c hc; rw [List.length_append, hyl]; omega
          · have hcb : c.blk < w.heap.size := by
              obtain ⟨_, _, _, C2, T2, f2, hh, _⟩ := (hcr c hc).own hmd
              exact (Array.getElem?_eq_some_iff.1 hh).1
            show c.blk ≠ w.heap.size
            omega
        have hOW : ∀ b, owns (.cells (xs ++ ys) i.size .multi) (.cells i.size (⟨w.heap.size, 0, off, (xs ++ ys).length, C.size⟩ :: c0 :: rest)) b → owns (.cells xs i.size md) (.cells i.size (c0 :: rest)) b ∨ w.heap.size ≤ b := by
          rintro b ⟨_, c, hc, rfl⟩
          rcases List.mem_cons.1 hc with rfl | hc
          · right; exact Nat.le_refl _
          · left; exact ⟨hmd, c, hc, rfl⟩
        obtain ⟨hle, hsim'⟩ := hsim.change (w' := w.drew.alloc (.cells C e)) hl hσ hle0 (hlew.mono hsim.size) (fun k hk _ => hlew.block k hk) hOR hOW
        refine ⟨_, _, _, _, _, hle, ?_, hsim', h, hrun⟩
        have hloc : (ρ.upd id (.cells i.size (⟨w.heap.size, 0, off, (xs ++ ys).length, C.size⟩ :: c0 :: rest))) id = some (.cells i.size (⟨w.heap.size, 0, off, (xs ++ ys).length, C.size⟩ :: c0 :: rest)) := by simp only [Rho.upd, if_true]
        have := VR.sl (off := off) (len := n + m) (cap := grownCap w (n + m) cap e) hloc List.mem_cons_self (Nat.le_refl _)
          (by show off + (n + m) * i.size ≤ (xs ++ ys).length; rw [hxl, Nat.add_mul]; exact Nat.le_refl _) hcap (by show 0 + (off - off) + _ ≤ C.size; rw [hCs]; omega)
        rw [Nat.sub_self, Nat.zero_add] at this
        exact this
      cases hs with
      | @sl _ _ _ _ cap cs c hl hcm h1 h2 h3 h4 =>
        have hor := hsim.cells hl hσ
        obtain ⟨_, hzp, hcr, hnew⟩ := hor
        obtain ⟨c0, rest, rfl, hhi, hlt, _, hne⟩ := hnew hmd
        have hc0 : c = c0 := by
          rcases List.mem_cons.1 hcm with e1 | e1
          · exact e1
          · have := hlt c e1; omega
        subst hc0
        by_cases hroom : n + m ≤ cap
        · have hcap2 := Nat.mul_le_mul_right i.size hroom
          rw [Nat.add_mul] at hcap2
          obtain ⟨hb0, _⟩ := (hcr c (by simp)).own hmd
          obtain ⟨ρ', hle, ⟨c0', hcle, hchi, hl'⟩, hsim', hst⟩ := Sim.write (P := P) hsim (md' := .multi) hl hσ hmd (by simp) (fun hh => (by cases hh)) (off := xs.length) (by omega) (Nat.le_refl _) (fun c hc => Nat.le_of_lt (hlt c hc)) hv hone (by rw [hyl]; omega)
          have exs : xs.take xs.length ++ ys ++ xs.drop (xs.length + ys.length) = xs ++ ys := by
            rw [List.take_length, List.drop_eq_nil_of_le (by omega), List.append_nil]
          rw [exs] at hsim' hchi
          have hst0 := (hst 0).resolve_right (by omega)
          have hrun := run_append_fits_of (ty := ty) (w' := w.setCells c.blk (xs.length - c.lo) vs) ht hu hi (base := some ⟨c.blk, c.boff + (off - c.lo), none⟩) (n := n) (cap := cap) hx1 hx2 hroom (fun a ha => by
            obtain rfl := Option.some.inj ha
            rw [Addr.add_none]
            rw [Nat.sub_zero] at hst0
            rw [show c.boff + (off - c.lo) + n * i.size = c.boff + (xs.length - c.lo) by omega]
            simpa using hst0) (fun hh => by cases hh)
          refine ⟨_, _, _, ρ', _, hle, ?_, hsim', h, hrun⟩
          obtain ⟨e1, e2, e3, e4, e5⟩ := hcle
          have := VR.sl (ρ := ρ') (off := off) (len := n + m) (cap := cap) hl' List.mem_cons_self (by omega) (by rw [hchi, List.length_append, hyl, Nat.add_mul]; omega) hroom (by rw [e2, e3, e5]; exact h4)
          rw [e1, e2, e3] at this
          exact this
        · obtain ⟨olds, o1, o2, o3, o4⟩ := (hcr c (by simp)).list (off := off) (n := n * i.size) h1 h2
          rw [List.take_of_length_le (by rw [List.length_drop]; omega)] at o2
          refine grow _ cap olds _ rfl (by omega) hl o1 o2 o4 ?_
          exact run_firstCells_some w.drew i.size n _ n cap olds o1 fun j v hj => by rw [Addr.add_none]; exact o3 j v hj
      | slEnd ad hl =>
        refine grow (some ad) 0 [] _ rfl (by omega) hl (by simp) (by rw [List.drop_eq_nil_of_le (by omega)]; exact .nil) (fun u hu => by simp at hu) ?_
        exact run_firstCells_some w.drew i.size 0 ad 0 0 [] (by simp) (fun j v hj => by simp at hj)

omit hsim in
theorem Sim.kill (hsim : Sim B w0 ρ σ w) (id : Nat) : Sim B w0 ρ (σ.set id .dead) w := by
  have key : ∀ {j : Nat} {o' : AO}, (σ.set id .dead)[j]? = some o' → o' = .dead ∨ σ[j]? = some o' := fun {j o'} h => by
    by_cases e : id = j
    · subst e
      by_cases hlt : id < σ.length
      · rw [List.getElem?_set_self hlt] at h; exact .inl (Option.some.inj h).symm
      · rw [List.getElem?_eq_none (by rw [List.length_set]; omega)] at h; cases h
    · rw [List.getElem?_set_ne e] at h; exact .inr h
  refine ⟨hsim.below, hsim.size, fun j l hl => ?_, fun i j oi oj li lj b hi hj ei ej bi bj => ?_⟩
  · obtain ⟨o, ho, hr⟩ := hsim.obj j l hl
    by_cases e : id = j
    · subst e
      exact ⟨.dead, List.getElem?_set_self (List.getElem?_eq_some_iff.1 ho).1, trivial⟩
    · exact ⟨o, by rw [List.getElem?_set_ne e]; exact ho, hr⟩
  · rcases key ei with rfl | ei
    · exact bi.elim
    · rcases key ej with rfl | ej
      · exact bj.elim
      · exact hsim.apart i j oi oj li lj b hi hj ei ej bi bj

omit hsim in
theorem Sim.pad (hsim : Sim B w0 ρ σ w) : Sim B w0 ρ (σ ++ [.dead]) w := by
  refine ⟨hsim.below, hsim.size, fun j l hl => ?_, fun i j oi oj li lj b hi hj ei ej bi bj => ?_⟩
  · obtain ⟨o, ho, hr⟩ := hsim.obj j l hl
    exact ⟨o, by rw [List.getElem?_append_left (List.getElem?_eq_some_iff.1 ho).1]; exact ho, hr⟩
  · obtain ⟨o1, h1, _⟩ := hsim.obj i li hi
    obtain ⟨o2, h2, _⟩ := hsim.obj j lj hj
    rw [List.getElem?_append_left (List.getElem?_eq_some_iff.1 h1).1] at ei
    rw [List.getElem?_append_left (List.getElem?_eq_some_iff.1 h2).1] at ej
    exact hsim.apart i j oi oj li lj b hi hj ei ej bi bj

omit hsim in
/-- A row that nobody has is one's own. -/
theorem Sim.adopt (hsim : Sim B w0 ρ σ w) (o : AO) (l : Loc) (hor : OR B (ρ.upd σ.length l) w o l)
    (hown : ∀ b, owns o l b → ∀ j oj lj, ρ j = some lj → σ[j]? = some oj → ¬ owns oj lj b) : ρ.le (ρ.upd σ.length l) ∧ Sim B w0 (ρ.upd σ.length l) (σ ++ [o]) w := by
  have hle := hsim.upd_le l
  refine ⟨hle, hsim.below, hsim.size, fun id l' hl => ?_, fun i j oi oj li lj b hi hj ei ej bi bj => ?_⟩
  · by_cases e : id = σ.length
    · subst e
      simp [Rho.upd] at hl
      subst hl
      exact ⟨o, by simp, hor⟩
    · simp [Rho.upd, e] at hl
      obtain ⟨o', ho', hr⟩ := hsim.obj id l' hl
      exact ⟨o', by rw [List.getElem?_append_left (List.getElem?_eq_some_iff.1 ho').1]; exact ho', hr.keep hle fun k _ => rfl⟩
  · have key : ∀ (i : Nat) oi li, ρ.upd σ.length l i = some li → (σ ++ [o])[i]? = some oi → (i = σ.length ∧ oi = o ∧ li = l) ∨ (ρ i = some li ∧ σ[i]? = some oi) := by
      intro i oi li hi ei
      by_cases e : i = σ.length
      · subst e
        simp [Rho.upd] at hi
        simp at ei
        exact .inl ⟨rfl, ei.symm, hi.symm⟩
      · simp [Rho.upd, e] at hi
        obtain ⟨o', ho', hr⟩ := hsim.obj i li hi
        have hlt := (List.getElem?_eq_some_iff.1 ho').1
        rw [List.getElem?_append_left hlt] at ei
        exact .inr ⟨hi, ei⟩
    rcases key i oi li hi ei with ⟨a1, a2, a3⟩ | ⟨a1, a2⟩ <;> rcases key j oj lj hj ej with ⟨b1, b2, b3⟩ | ⟨b1, b2⟩
    · rw [a1, b1]
    · subst a2 a3; exact absurd bj (hown b bi j oj lj b1 b2)
    · subst b2 b3; exact absurd bi (hown b bj i oi li a1 a2)
    · exact hsim.apart i j oi oj li lj b a1 b1 a2 b2 bi bj

omit hsim in
/-- A row's beginning is moved to a place of its own; what spoke of the row is void. -/
theorem Sim.moveRow (hsim : Sim B w0 ρ σ w) {id z : Nat} {cs : List Copy} {c : Copy} {xs : List AV} {md : Md} (hl : ρ id = some (.cells z cs)) (hc : c ∈ cs) (hs : σ[id]? = some (.cells xs z md)) (hmd : md ≠ .ro)
    {k : Nat} (h1 : c.lo ≤ k) (h2 : k ≤ c.hi) :
    ρ.le (ρ.upd σ.length (.cells z [⟨c.blk, c.boff, c.lo, k, c.sz⟩])) ∧ Sim B w0 (ρ.upd σ.length (.cells z [⟨c.blk, c.boff, c.lo, k, c.sz⟩])) (σ.set id .dead ++ [.cells (xs.take k) z .own]) w := by
  have hor := hsim.cells hl hs
  obtain ⟨_, hz, hcr, _⟩ := hor
  have hcc := hcr c hc
  obtain ⟨hb0, hB, hsz, C, T, fz, hheap, hCs, hfz⟩ := hcc.own hmd
  have hlen : (xs.take k).length = k := by rw [List.length_take]; have := hcc.hi; omega
  have hsl : (σ.set id .dead).length = σ.length := List.length_set
  have hle' : ρ.le (ρ.upd σ.length (.cells z [⟨c.blk, c.boff, c.lo, k, c.sz⟩])) := hsim.upd_le _
  have := Sim.adopt (hsim.kill id) (.cells (xs.take k) z .own) (.cells z [⟨c.blk, c.boff, c.lo, k, c.sz⟩]) ?_ ?_
  · rw [hsl] at this; exact this
  · rw [hsl]
    refine ⟨rfl, hz, fun c' hc' => ?_, fun _ => ⟨_, [], rfl, hlen.symm, fun c hc => by simp at hc, fun _ => rfl, fun c hc => by simp at hc⟩⟩
    obtain rfl : c' = ⟨c.blk, c.boff, c.lo, k, c.sz⟩ := by simpa using hc'
    refine ⟨h1, Nat.le_of_eq hlen.symm, fun j a b => ?_, fun h => (by cases h), fun _ => ⟨hb0, hB, ?_, C, T, fz, hheap, hCs, hfz⟩⟩
    · simp only at a b
      obtain ⟨v, vc, q1, q2, q3, q4⟩ := hcc.cell j a (by omega)
      exact ⟨v, vc, by rw [List.getElem?_take, if_pos b]; exact q1, q2, q3.mono hle', q4⟩
    · show k - c.lo ≤ c.sz; omega
  · rintro b ⟨_, c', hc', rfl⟩ j oj lj hj ej bj
    obtain rfl : c' = ⟨c.blk, c.boff, c.lo, k, c.sz⟩ := by simpa using hc'
    by_cases e : id = j
    · subst e
      rw [List.getElem?_set_self (List.getElem?_eq_some_iff.1 hs).1] at ej
      obtain rfl := Option.some.inj ej
      exact bj
    · rw [List.getElem?_set_ne e] at ej
      exact e (hsim.apart id j _ oj _ lj c.blk hl hj hs ej ⟨hmd, c, hc, rfl⟩ bj)

theorem move_ok {t u ty e : TypeId} {i : TypeInfo} {z : Value} (ht : P.underlying t = some (.slice e)) (hu : NoInt P u) (hi : P.info? e = some i) (hz : i.zero = some z) (hzs : z.cells.size = i.size) (hpos : 0 < i.size)
    {a : SA} {n m : Nat} {ys : List AV} {sc xc : Value} (hs : VR ρ (.sl a n) sc) (hsrc : Src P ρ w i.size m ys xc) (hm : 0 < m) (hfit : (n + m) * i.bytes ≤ 140737488355328) (h63 : ((n + m : Nat) : Int) ≤ 9223372036854775807) :
    EffOK P B w0 ρ w (fun K => appendK.move σ K a n m ys i.size) (Builtin.append_ #[t, u] ty #[sc, xc]) := by
  intro K h
  simp only at h
  have fresh : (a = .nil ∨ a = .zero) → appendK.into σ K a n m ys i.size = true → ∃ v vc σ' ρ' w', ρ.le ρ' ∧ VR ρ' v vc ∧ Sim B w0 ρ' σ' w' ∧ K v σ' = true ∧ (Builtin.append_ #[t, u] ty #[sc, xc]).run P w = .ok vc w' := fun _ hh =>
    into_ok (P := P) (ty := ty) hsim ht hu hi hz hzs hpos hs hsrc hm hfit h63 K hh
  cases a with
  | nil => exact fresh (.inl rfl) h
  | zero => exact fresh (.inr rfl) h
  | «at» id off z₂ =>
    unfold appendK.move at h
    obtain ⟨xs, z', md, hσ, hq, _⟩ := rowK_of h
    clear h
    cases hc : (z' == i.size && z₂ == i.size && !(md == .ro) && decide (off + n * i.size ≤ xs.length)) with
    | false => rw [hc] at hq; cases hq
    | true =>
      rw [hc, cond_true] at hq
      simp only [Bool.and_eq_true, beq_iff_eq, Bool.not_eq_true', beq_eq_false_iff_ne, decide_eq_true_eq] at hc
      obtain ⟨⟨⟨rfl, rfl⟩, hmd⟩, hle⟩ := hc
      -- a full row: in place, then moved
      have full : ∀ {ρ1 : Rho} {σ1 : H} {xs1 : List AV} {md1 : Md} {id1 : Nat} {K1 : AV → H → Bool}, ρ.le ρ1 → Sim B w0 ρ1 σ1 w → VR ρ1 (.sl (.at id1 off i.size) n) sc → σ1[id1]? = some (.cells xs1 i.size md1) → md1 ≠ .ro →
          off + n * i.size = xs1.length → K1 (.sl (.at σ1.length off i.size) (n + m)) (σ1.set id1 .dead ++ [.cells (xs1 ++ ys) i.size .own]) = true →
          ∃ v vc σ' ρ' w', ρ.le ρ' ∧ VR ρ' v vc ∧ Sim B w0 ρ' σ' w' ∧ K1 v σ' = true ∧ (Builtin.append_ #[t, u] ty #[sc, xc]).run P w = .ok vc w' := by
        intro ρ1 σ1 xs1 md1 id1 K1 hle1 hsim1 hs1 hσ1 hmd1 heq hK1
        obtain ⟨vs, g1, g2, g3⟩ := hsrc
        have hsrc1 : Src P ρ1 w i.size m ys xc := ⟨vs, g1, g2.mono hle1, g3⟩
        have hyl : ys.length = m * i.size := by rw [g2.1, g1]
        have hinto : appendK.into σ1 (fun v σ' => @decide (v = .sl (.at id1 off i.size) (n + m) ∧ σ' = σ1.set id1 (.cells (xs1 ++ ys) i.size .multi)) (Classical.propDecidable _)) (.at id1 off i.size) n m ys i.size = true := by
          unfold appendK.into
          simp only [rowK, hσ1, beq_self_eq_true, Bool.true_and, Bool.and_eq_true, cond_eq_ite]
          rw [if_pos ⟨by simpa using hmd1, by simpa using heq⟩]
          rfl
        obtain ⟨v, vc, σ2, ρ2, w2, q1, q2, q3, q4, q5⟩ := into_ok (P := P) (ty := ty) hsim1 ht hu hi hz hzs hpos hs1 hsrc1 hm hfit h63 _ hinto
        obtain ⟨rfl, rfl⟩ := @of_decide_eq_true _ (Classical.propDecidable _) q4
        have hlt1 : id1 < σ1.length := (List.getElem?_eq_some_iff.1 hσ1).1
        have hrow : (σ1.set id1 (.cells (xs1 ++ ys) i.size .multi))[id1]? = some (.cells (xs1 ++ ys) i.size .multi) := List.getElem?_set_self hlt1
        obtain ⟨nm, hnm⟩ : ∃ nm, nm = n + m := ⟨_, rfl⟩
        rw [← hnm] at q2 hK1
        cases q2 with
        | slEnd ad hl => omega
        | @sl _ _ _ _ cap cs c hl hcm h1 h2 h3 h4 =>
          have hchi : c.hi ≤ (xs1 ++ ys).length := ((q3.cells hl hrow).2.2.1 c hcm).hi
          have hxl : off + nm * i.size = (xs1 ++ ys).length := by rw [hnm, List.length_append, hyl, Nat.add_mul]; omega
          obtain ⟨k1, k2⟩ := Sim.moveRow q3 hl hcm hrow (by simp) (k := (xs1 ++ ys).length) (by omega) (by omega)
          rw [List.length_set, List.take_length, List.set_set] at k2
          rw [List.length_set] at k1
          refine ⟨_, _, _, _, w2, hle1.trans (q1.trans k1), ?_, k2, hK1, q5⟩
          have hloc : (ρ2.upd σ1.length (.cells i.size [⟨c.blk, c.boff, c.lo, (xs1 ++ ys).length, c.sz⟩])) σ1.length = some (.cells i.size [⟨c.blk, c.boff, c.lo, (xs1 ++ ys).length, c.sz⟩]) := by simp [Rho.upd]
          exact VR.sl (c := ⟨c.blk, c.boff, c.lo, (xs1 ++ ys).length, c.sz⟩) hloc (List.mem_singleton.2 rfl) h1 (Nat.le_of_eq hxl) h3 h4
      cases hfull : (off + n * i.size == xs.length) with
      | true =>
        rw [hfull, cond_true] at hq
        exact full (.refl ρ) hsim hs hσ hmd (by simpa using hfull) hq
      | false =>
        rw [hfull, cond_false] at hq
        have htl : (xs.take (off + n * i.size)).length = off + n * i.size := by rw [List.length_take]; omega
        cases hs with
        | @sl _ _ _ _ cap cs c hl hcm h1 h2 h3 h4 =>
          obtain ⟨k1, k2⟩ := Sim.moveRow hsim hl hcm hσ hmd (k := off + n * i.size) (by omega) h2
          have hloc : (ρ.upd σ.length (.cells i.size [⟨c.blk, c.boff, c.lo, off + n * i.size, c.sz⟩])) σ.length = some (.cells i.size [⟨c.blk, c.boff, c.lo, off + n * i.size, c.sz⟩]) := by simp [Rho.upd]
          have hs1 := VR.sl (c := ⟨c.blk, c.boff, c.lo, off + n * i.size, c.sz⟩) hloc (List.mem_singleton.2 rfl) h1 (Nat.le_refl _) h3 h4
          have hrow1 : (σ.set id .dead ++ [.cells (xs.take (off + n * i.size)) i.size .own])[σ.length]? = some (.cells (xs.take (off + n * i.size)) i.size .own) := by
            rw [List.getElem?_append_right (by simp)]; simp
          refine full k1 k2 hs1 hrow1 (by simp) htl.symm ?_
          have e1 : (σ.set id .dead ++ [AO.cells (xs.take (off + n * i.size)) i.size .own]).length = σ.length + 1 := by simp
          have e2 : (σ.set id .dead ++ [AO.cells (xs.take (off + n * i.size)) i.size .own]).set σ.length .dead = σ.set id .dead ++ [.dead] := by
            rw [List.set_append_right _ _ (by simp)]; simp
          rw [e1, e2, List.append_assoc]
          exact hq
        | slEnd ad hl =>
          obtain ⟨vs, g1, g2, g3, g4, g5, g6⟩ := hsrc
          have ho : (Builtin.firstCells i.size 0 (.slice (some ad) 0 0)).run P w.drew = .ok #[] w.drew := by
            simp [Builtin.firstCells, loadCells, loadCellsFrom]
          have hrun := run_append_grows_of (ty := ty) ht hu hi hz g4 g6 ho (by omega) h63 hfit
          rw [Nat.zero_add] at hrun
          have hcap := grownCap_ge w m 0 e
          obtain ⟨C, hC⟩ : ∃ C, C = #[] ++ vs.toArray ++ Builtin.zeroCells z.cells (grownCap w m 0 e - m) := ⟨_, rfl⟩
          rw [← hC] at hrun
          have hCs : C.size = grownCap w m 0 e * i.size := by
            rw [hC, Array.size_append, Array.size_append, size_zeroCells, hzs]
            simp only [List.size_toArray, g1]
            show 0 + m * i.size + _ = _
            rw [Nat.sub_mul]
            have := Nat.mul_le_mul_right i.size hcap
            omega
          have hmc := Nat.mul_le_mul_right i.size hcap
          have hyl : ys.length = m * i.size := by rw [g2.1, g1]
          have hCt : ∀ j, j < vs.length → C[j]? = vs[j]? := fun j hj => by
            rw [← Array.getElem?_toList, hC, Array.toList_append, Array.toList_append]
            rw [List.getElem?_append_left (by simpa using hj)]
            simp
          have hsim2 := Sim.pad (Sim.kill hsim id)
          have hsl : (σ.set id .dead ++ [AO.dead]).length = σ.length + 1 := by simp
          have hlew : Bel w.heap.size w (w.drew.alloc (.cells C e)) := below_push (o := .cells C e) rfl rfl rfl rfl
          have hblk : (w.drew.alloc (.cells C e)).heap[w.heap.size]? = some (.cells C e) := by
            show (w.heap.push (.cells C e))[w.heap.size]? = _
            rw [Array.getElem?_push, if_pos rfl]
          simp only [Nat.zero_mul, Nat.add_zero] at htl hq hle
          have hll : (xs.take off ++ ys).length = off + m * i.size := by rw [List.length_append, htl, hyl]
          have hle2 := hsim2.upd_le (.cells i.size [⟨w.heap.size, 0, off, off + m * i.size, C.size⟩])
          have hsim3 := hsim2.extend (.cells (xs.take off ++ ys) i.size .own) (.cells i.size [⟨w.heap.size, 0, off, off + m * i.size, C.size⟩]) hlew ?_ ?_
          · refine ⟨_, _, _, _, _, hle2, ?_, hsim3, by rw [List.append_assoc]; exact hq, hrun⟩
            have hloc : (ρ.upd (σ.set id .dead ++ [AO.dead]).length (.cells i.size [⟨w.heap.size, 0, off, off + m * i.size, C.size⟩])) (σ.length + 1) = some (.cells i.size [⟨w.heap.size, 0, off, off + m * i.size, C.size⟩]) := by
              rw [hsl]; simp [Rho.upd]
            have := VR.sl (off := off) (len := 0 + m) (cap := grownCap w m 0 e) hloc (List.mem_singleton.2 rfl) (Nat.le_refl _) (by rw [Nat.zero_add]; exact Nat.le_refl _) (by rw [Nat.zero_add]; exact hcap) (by show 0 + (off - off) + _ ≤ C.size; rw [hCs]; omega)
            rw [Nat.sub_self, Nat.zero_add] at this
            rw [Nat.zero_add]
            exact this
          · refine ⟨rfl, hpos, fun c' hc' => ?_, fun _ => ⟨_, [], rfl, hll.symm, fun c hc => by simp at hc, fun _ => rfl, fun c hc => by simp at hc⟩⟩
            obtain rfl : c' = ⟨w.heap.size, 0, off, off + m * i.size, C.size⟩ := by simpa using hc'
            refine ⟨Nat.le_add_right _ _, Nat.le_of_eq hll.symm, fun j a b => ?_, fun h => (by cases h), fun _ => ⟨rfl, hsim.size, by show off + m * i.size - off ≤ C.size; rw [hCs]; omega, C, e, (0, 0), hblk, rfl, .inl rfl⟩⟩
            simp only at a b ⊢
            have hj : j - off < ys.length := by omega
            obtain ⟨vc, hvc, hr⟩ := g2.get (List.getElem?_eq_getElem hj)
            refine ⟨ys[j - off], vc, ?_, ?_, hr.mono hle2, g3 vc (List.mem_of_getElem? hvc)⟩
            · rw [List.getElem?_append_right (by omega), htl]; exact List.getElem?_eq_getElem hj
            · have := hCt (j - off) (List.getElem?_eq_some_iff.1 hvc).1
              simp only [World.cell?, hblk, Nat.zero_add, Option.isSome_none, Bool.false_eq_true, if_false, this]
              exact hvc
          · rintro b ⟨_, c', hc', rfl⟩
            obtain rfl : c' = ⟨w.heap.size, 0, off, off + m * i.size, C.size⟩ := by simpa using hc'
            exact Nat.le_refl _

theorem append_ok {t u : TypeId} (ty : TypeId) (hu : NoInt P u) {s x : AV} {sc xc : Value} (hs : VR ρ s sc) (hx : VR ρ x xc) :
    EffOK P B w0 ρ w (fun K => appendK P t s x σ K) (Builtin.append_ #[t, u] ty #[sc, xc]) := by
  intro K h
  simp only at h
  unfold appendK at h
  split at h
  · rename_i e ht
    split at h
    · rename_i ie hie
      cases hg : (ie.size == 0 || ie.bytes == 0 || !zeroFits ie) with
      | true => rw [hg] at h; cases h
      | false =>
        rw [hg, cond_false] at h
        simp only [Bool.or_eq_false_iff, beq_eq_false_iff_ne, Bool.not_eq_false'] at hg
        obtain ⟨⟨hpos, hbpos⟩, hzz⟩ := hg
        obtain ⟨z, hz, hzs⟩ : ∃ z, ie.zero = some z ∧ z.cells.size = ie.size := by
          unfold zeroFits at hzz
          cases hz : ie.zero with
          | none => rw [hz] at hzz; cases hzz
          | some z => rw [hz] at hzz; exact ⟨z, rfl, by simpa using hzz⟩
        -- nothing is appended
        have same : ∀ (a : SA) (n : Nat), VR ρ (.sl a n) sc → (Builtin.lenOf xc).run P w = .ok 0 w → (Builtin.firstCells ie.size 0 xc).run P w = .ok #[] w → K (.sl a n) σ = true →
            ∃ v vc σ' ρ' w', ρ.le ρ' ∧ VR ρ' v vc ∧ Sim B w0 ρ' σ' w' ∧ K v σ' = true ∧ (Builtin.append_ #[t, u] ty #[sc, xc]).run P w = .ok vc w' := by
          intro a n hsn h1 h2 hK
          obtain ⟨base, cap, rfl, hc⟩ : ∃ base cap, sc = .slice base n cap ∧ n ≤ cap := by
            cases hsn with
            | slNil => exact ⟨none, 0, rfl, Nat.le_refl _⟩
            | slZero ad => exact ⟨some ad, 0, rfl, Nat.le_refl _⟩
            | @sl _ _ _ _ cap _ _ _ _ _ _ h3 _ => exact ⟨_, cap, rfl, h3⟩
            | slEnd ad _ => exact ⟨some ad, 0, rfl, Nat.le_refl _⟩
          have hrun := run_append_fits_of (ty := ty) (w' := w) ht hu hie (base := base) h1 h2 (by omega) (fun a _ => by simp [storeCells]) (fun _ => rfl)
          exact ⟨_, _, σ, ρ, w, .refl ρ, hsn, hsim, hK, hrun⟩
        split at h
        · rename_i a n b m
          have hb := hx
          cases hm : (m == 0) with
          | true =>
            rw [hm, cond_true] at h
            obtain rfl : m = 0 := by simpa using hm
            refine same a n hs ?_ ?_ h
            · cases hb <;> simp [Builtin.lenOf]
            · cases hb <;> simp [Builtin.firstCells, loadCells, loadCellsFrom]
          | false =>
            rw [hm, cond_false] at h
            have hm' : 0 < m := by have : m ≠ 0 := by simpa using hm
                                   omega
            cases hf : decide ((n + m) * ie.bytes ≤ 140737488355328) with
            | false => rw [hf] at h; cases h
            | true =>
              rw [hf, cond_true] at h
              obtain ⟨vs, ys, h, hv, _, hvl, hone, hcase⟩ := seen_ok hsim hb h
              rcases hcase with ⟨ad, cap, rfl, hload, hcell⟩ | ⟨rfl, hm0⟩
              · have hmul : n + m ≤ (n + m) * ie.bytes := Nat.le_mul_of_pos_right _ (by omega)
                have hf' : (n + m) * ie.bytes ≤ 140737488355328 := by simpa using hf
                have hsrc : Src P ρ w ie.size m ys (.slice (some ad) m cap) := ⟨vs, hvl, hv, hone, by simp [Builtin.lenOf], hload, run_firstCells_some w.drew ie.size m ad m cap vs hvl hcell⟩
                cases hst : isStructT P e with
                | true => rw [hst, cond_true] at h; exact move_ok (P := P) (ty := ty) hsim ht hu hie hz hzs (by omega) hs hsrc hm' hf' (by omega) K h
                | false => rw [hst, cond_false] at h; exact into_ok (P := P) (ty := ty) hsim ht hu hie hz hzs (by omega) hs hsrc hm' hf' (by omega) K h
              · omega
        · rename_i a n bs
          obtain ⟨b, rfl, rfl⟩ := hx.of_str
          have hls : (Builtin.lenOf (.string b)).run P w = .ok b.size w := by simp [Builtin.lenOf]
          cases hm : (bytesL b).isEmpty with
          | true =>
            rw [hm, cond_true] at h
            have hb0 : b.size = 0 := by rw [← bytesL_length]; simpa using hm
            have hb1 : b.data = #[] := by apply Array.eq_empty_of_size_eq_zero; exact hb0
            refine same a n hs (by rw [hls, hb0]) ?_ h
            simp [Builtin.firstCells]
          | false =>
            rw [hm, cond_false] at h
            have hm' : 0 < b.size := by
              rw [← bytesL_length]
              cases hq : bytesL b with
              | nil => rw [hq] at hm; cases hm
              | cons x y => simp
            cases hf : (decide ((n + (bytesL b).length) * ie.bytes ≤ 140737488355328) && ie.size == 1) with
            | false => rw [hf] at h; cases h
            | true =>
              rw [hf, cond_true] at h
              simp only [Bool.and_eq_true, decide_eq_true_eq, beq_iff_eq, bytesL_length] at hf
              obtain ⟨hf', h1⟩ := hf
              rw [bytesL_length] at h
              have hmul : n + b.size ≤ (n + b.size) * ie.bytes := Nat.le_mul_of_pos_right _ (by omega)
              have hv : VRs ρ ((bytesL b).map (AV.int .u8 ·)) (b.data.toList.map fun x => Value.int .u8 x.toNat) := by
                unfold bytesL
                rw [List.map_map]
                generalize b.data.toList = l
                induction l with
                | nil => exact .nil
                | cons x l ih => exact .cons (.int .u8 _) ih
              have hfc : ∀ w', (Builtin.firstCells 1 b.size (.string b)).run P w' = .ok (b.data.toList.map fun x => Value.int .u8 x.toNat).toArray w' := fun w' => by
                have hex : b.extract 0 b.size = b := by
                  cases b with
                  | mk d =>
                    apply ByteArray.ext
                    rw [ByteArray.data_extract]
                    exact Array.extract_size
                simp only [Builtin.firstCells, hex, Sem.run_pure]
                congr 1
                apply Array.ext'
                simp
              have := into_ok (P := P) (ty := ty) hsim ht hu hie hz hzs (by omega) hs (ys := (bytesL b).map (AV.int .u8 ·)) (m := b.size) (xc := .string b)
                ⟨_, by rw [List.length_map, Array.length_toList, h1, Nat.mul_one]; rfl, hv, by intro u hu; obtain ⟨x, _, rfl⟩ := List.mem_map.1 hu; rfl, hls, by rw [h1]; exact hfc w, by rw [h1]; exact hfc w.drew⟩ hm' hf' (by omega) K
              rw [h1] at this
              exact this h
        · cases h
    · cases h
  · cases h

end
end Go.AM
namespace Go.AM
open Go Go.RowKit
variable [Grade]

omit [Grade] in
theorem run_setObj_of {P : Program} {w : World} {r : Nat} {o o' : Obj} (h : w.heap[r]? = some o) (ho : ∀ c t f, o ≠ .cells c t f) :
    (setObj r o').run P w = .ok () { w with heap := w.heap.setIfInBounds r o' } := by
  unfold setObj
  simp only [Sem.run, h]

section
variable {P : Program} {B : Nat} {w0 : World} {ρ : Rho} {σ : H} {w w' : World} (hsim : Sim B w0 ρ σ w)
include hsim

/-- An object that is no row turns. -/
theorem Sim.turn {id r : Nat} {o o' : AO} {oc : Obj} (hl : ρ id = some (.obj r)) (hs : σ[id]? = some o) (hor : ∀ ρ' : Rho, ρ.le ρ' → ∀ w' : World, w'.heap[r]? = some oc → OR B ρ' w' o' (.obj r))
    (hob : owns o (.obj r) r) (hr : r < w.heap.size) :
    ∃ ρ', ρ.le ρ' ∧ Sim B w0 ρ' (σ.set id o') { w with heap := w.heap.setIfInBounds r oc } := by
  have hB : B ≤ r := by
    obtain ⟨o1, ho1, h1⟩ := hsim.obj id _ hl
    rw [hs] at ho1
    obtain rfl := Option.some.inj ho1
    exact (h1.lt hob).1
  have hle1 : ρ.le (ρ.upd id (.obj r)) := by
    intro j lj hj
    by_cases e1 : j = id
    · subst e1; rw [hl] at hj; obtain rfl := Option.some.inj hj; exact ⟨_, by simp [Rho.upd], .refl _⟩
    · exact ⟨lj, by simp [Rho.upd, e1, hj], .refl _⟩
  have hne : ∀ k, k ≠ r → ({ w with heap := w.heap.setIfInBounds r oc } : World).heap[k]? = w.heap[k]? := fun k hk => by
    show (w.heap.setIfInBounds r oc)[k]? = _
    rw [Array.getElem?_setIfInBounds_ne (Ne.symm hk)]
  have hre : ({ w with heap := w.heap.setIfInBounds r oc } : World).heap[r]? = some oc := by
    show (w.heap.setIfInBounds r oc)[r]? = _
    rw [Array.getElem?_setIfInBounds_self_of_lt hr]
  obtain ⟨hle, hsim'⟩ := hsim.change (w' := { w with heap := w.heap.setIfInBounds r oc }) (o' := o') (l' := .obj r) hl hs (.refl _)
    ⟨⟨rfl, rfl, rfl, by show _ ≤ (w.heap.setIfInBounds r oc).size; rw [Array.size_setIfInBounds]; exact Nat.le_refl _, fun k hk => hne k (by omega)⟩, Grade.mono (Nat.le_refl _)⟩
    (fun k _ hno => hne k fun e => hno (by rw [e]; exact hob)) (hor _ hle1 _ hre) (fun b hb => by
      have hbr : r = b := by
        cases o' <;> simp only [owns] at hb <;> first | (exact hb.elim) | exact hb
      left; rw [← hbr]; exact hob)
  exact ⟨_, hle, hsim'⟩

omit hsim in
omit [Grade] in
/-- Entries in an array, as the model has them. -/
theorem EntR.obj {ρ : Rho} {es : List ME} {ces : Array MapEntry} (h : EntR ρ es ces.toList) : es.length = ces.size ∧
    ∀ (i : Nat) e ce, es[i]? = some e → ces[i]? = some ce → VR ρ e.key ce.key ∧ VR ρ e.val ce.val ∧ e.born = ce.born :=
  ⟨by rw [← Array.length_toList]; exact h.1, fun i e ce a b => h.2 i e ce a (by simpa using b)⟩

theorem update_ok {m k v : AV} {mc kc vc : Value} (hm : VR ρ m mc) (hk : VR ρ k kc) (hv : VR ρ v vc) (t : TypeId) : UnitOK P B w0 ρ w (updateK P t m k v σ) (Instr.mapUpdate t mc kc vc) := by
  intro K h
  unfold updateK at h
  split at h
  · rename_i kt et id ht
    cases hko : keyOkT P kt with
    | false => rw [hko] at h; cases h
    | true =>
      rw [hko, cond_true] at h
      have hf := key_fits hk hko h
      obtain ⟨h2, _⟩ := castT_of h
      clear h
      split at h2
      · rename_i es clock hs
        cases hm with
        | @map _ r hl =>
          obtain ⟨ces, hB, hw, he⟩ := Sim.map hsim hl hs
          have hrl : r < w.heap.size := (Array.getElem?_eq_some_iff.1 hw).1
          obtain ⟨r', h, _, hr⟩ := find_hit (P := P) w hk hf he h2
          have hck : (Instr.checkKey false 10000 kt kc).run P w = .ok () w := checkKey_ok hf false w
          have hobj := he.obj
          rcases hr with ⟨rfl, hn⟩ | ⟨j, e, ce, rfl, hes, hce, hek, hsame, hn⟩
          · obtain ⟨ρ', hle, hsim'⟩ := Sim.turn hsim (o' := .map (es ++ [{ key := k, val := v, born := clock }]) (clock + 1)) (oc := .map (ces.push { key := kc, val := vc, born := clock }) (clock + 1)) hl hs
              (fun ρ' hle w' hw' => ⟨hB, _, hw', by simp [hobj.1], fun i e ce a b => by
                by_cases hi : i < es.length
                · rw [List.getElem?_append_left hi] at a
                  rw [Array.getElem?_push, if_neg (by omega)] at b
                  obtain ⟨x1, x2, x3⟩ := hobj.2 i e ce a b
                  exact ⟨x1.mono hle, x2.mono hle, x3⟩
                · have hi' : i = es.length := by
                    have := (List.getElem?_eq_some_iff.1 a).1
                    simp at this; omega
                  subst hi'
                  simp at a
                  rw [hobj.1, Array.getElem?_push, if_pos rfl] at b
                  obtain rfl := Option.some.inj b
                  subst a
                  exact ⟨hk.mono hle, hv.mono hle, rfl⟩⟩) rfl hrl
            refine ⟨_, ρ', _, hle, hsim', h, ?_⟩
            simp only [Instr.mapUpdate, Sem.run_bind, run_underlying ht, Result.andThen_ok, run_getObj_of hw (by simp), hck, hn, run_setObj_of hw (by simp)]
          · simp only at h
            split at h
            · rename_i e' hes'
              rw [hes] at hes'
              obtain rfl := Option.some.inj hes'
              have hce' : ces[j]? = some ce := by simpa using hce
              have hjl : j < es.length := (List.getElem?_eq_some_iff.1 hes).1
              obtain ⟨x1, x2, x3⟩ := hobj.2 j e ce hes hce'
              obtain ⟨ρ', hle, hsim'⟩ := Sim.turn hsim (o' := .map (es.set j { e with val := v }) clock) (oc := .map (ces.modify j fun e => { e with key := kc, val := vc }) clock) hl hs
                (fun ρ' hle w' hw' => ⟨hB, _, hw', by simp [hobj.1], fun i f cf a b => by
                  rw [Array.getElem?_modify] at b
                  by_cases hi : j = i
                  · subst hi
                    rw [List.getElem?_set_self hjl] at a
                    rw [if_pos rfl, hce'] at b
                    simp only [Option.map_some, Option.some.injEq] at a b
                    subst a b
                    exact ⟨by show VR ρ' e.key kc; rw [hek]; exact hk.mono hle, hv.mono hle, x3⟩
                  · rw [List.getElem?_set_ne hi] at a
                    rw [if_neg hi] at b
                    obtain ⟨y1, y2, y3⟩ := hobj.2 i f cf a b
                    exact ⟨y1.mono hle, y2.mono hle, y3⟩⟩) rfl hrl
              refine ⟨_, ρ', _, hle, hsim', h, ?_⟩
              have hst : (Instr.keyThatStays (((ces[j]?).map (·.key)).getD kc) kc).run P w = .ok kc w := by rw [hce']; exact hsame
              simp only [Instr.mapUpdate, Sem.run_bind, run_underlying ht, Result.andThen_ok, run_getObj_of hw (by simp), hck, hn, hst, run_setObj_of hw (by simp)]
            · cases h
      · cases h2
  · cases h

theorem delete_ok {m k : AV} {mc kc : Value} (hm : VR ρ m mc) (hk : VR ρ k kc) (t ty : TypeId) (ts : Array TypeId) (hts : ts[0]? = some t) :
    EffOK P B w0 ρ w (fun K => deleteK P t m k σ fun σ => K (.tup []) σ) (Builtin.delete_ ts ty #[mc, kc]) := by
  intro K h
  simp only at h
  unfold deleteK at h
  split at h
  · rename_i kt et rr ht
    cases hko : keyOkT P kt with
    | false => rw [hko] at h; cases h
    | true =>
      rw [hko, cond_true] at h
      have hf := key_fits hk hko h
      obtain ⟨h2, _⟩ := castT_of h
      clear h
      have hck : ∀ b, (Instr.checkKey b 10000 kt kc).run P w = .ok () w := fun b => checkKey_ok hf b w
      cases rr with
      | none =>
        cases hm
        refine ⟨_, .tuple #[], σ, ρ, w, .refl ρ, VR.undef, hsim, h2, ?_⟩
        simp [Builtin.delete_, hts, run_underlying ht, hck]
      | some id =>
        simp only at h2
        split at h2
        · rename_i es clock hs
          cases hm with
          | @map _ r hl =>
            obtain ⟨ces, hB, hw, he⟩ := Sim.map hsim hl hs
            have hrl : r < w.heap.size := (Array.getElem?_eq_some_iff.1 hw).1
            obtain ⟨r', h, _, hr⟩ := find_hit (P := P) w hk hf he h2
            have hobj := he.obj
            rcases hr with ⟨rfl, hn⟩ | ⟨j, e, ce, rfl, hes, hce, hek, hsame, hn⟩
            · refine ⟨_, .tuple #[], σ, ρ, { w with heap := w.heap.setIfInBounds r (.map ces clock) }, .refl ρ, VR.undef, ?_, h, ?_⟩
              · have : w.heap.setIfInBounds r (.map ces clock) = w.heap := by
                  apply Array.ext_getElem?
                  intro i
                  by_cases hi : r = i
                  · subst hi; rw [Array.getElem?_setIfInBounds_self_of_lt hrl, hw]
                  · rw [Array.getElem?_setIfInBounds_ne hi]
                exact hsim.world this rfl rfl rfl (Nat.le_refl _)
              · simp [Builtin.delete_, hts, run_underlying ht, hck, run_getObj_of hw (by simp), hn, run_setObj_of hw (by simp)]
            · simp only at h
              have hce' : ces[j]? = some ce := by simpa using hce
              have hjl : j < es.length := (List.getElem?_eq_some_iff.1 hes).1
              obtain ⟨ρ', hle, hsim'⟩ := Sim.turn hsim (o' := .map (es.eraseIdx j) clock) (oc := .map (ces.eraseIdxIfInBounds j) clock) hl hs
                (fun ρ' hle w' hw' => by
                  have hjc : j < ces.size := by rw [← hobj.1]; exact hjl
                  have etl : (ces.eraseIdxIfInBounds j).toList = ces.toList.eraseIdx j := by
                    rw [Array.eraseIdxIfInBounds, dif_pos hjc, Array.toList_eraseIdx]
                  refine ⟨hB, _, hw', ?_, fun i f cf a b => ?_⟩
                  · rw [← Array.length_toList, etl, List.length_eraseIdx, List.length_eraseIdx, he.1]
                  · rw [← Array.getElem?_toList, etl, List.getElem?_eraseIdx] at b
                    rw [List.getElem?_eraseIdx] at a
                    split at a
                    · rename_i hi; rw [if_pos hi] at b
                      obtain ⟨y1, y2, y3⟩ := he.2 i f cf a b
                      exact ⟨y1.mono hle, y2.mono hle, y3⟩
                    · rename_i hi; rw [if_neg hi] at b
                      obtain ⟨y1, y2, y3⟩ := he.2 _ f cf a b
                      exact ⟨y1.mono hle, y2.mono hle, y3⟩) rfl hrl
              refine ⟨_, .tuple #[], _, ρ', _, hle, VR.undef, hsim', h, ?_⟩
              simp [Builtin.delete_, hts, run_underlying ht, hck, run_getObj_of hw (by simp), hn, run_setObj_of hw (by simp)]
        · cases h2
  · cases h

end
end Go.AM
namespace Go.AM
open Go Go.RowKit
variable [Grade]

omit [Grade] in
theorem ofBytesL_bytesL (b : ByteArray) : ofBytesL (bytesL b) = b := by
  cases b with
  | mk d =>
    unfold ofBytesL bytesL
    congr 1
    apply Array.ext'
    rw [List.map_map]
    have : ∀ l : List UInt8, l.map ((fun n : Int => UInt8.ofNat n.toNat) ∘ fun b : UInt8 => (b.toNat : Int)) = l := fun l => by
      induction l with
      | nil => rfl
      | cons a l ih =>
        rw [List.map_cons, ih]
        congr 1
        show UInt8.ofNat ((a.toNat : Int)).toNat = a
        rw [Int.toNat_natCast]
        exact UInt8.ofNat_toNat
    exact this _

section
variable {P : Program} {B : Nat} {w0 : World} {ρ : Rho} {σ : H} {w w' : World} (hsim : Sim B w0 ρ σ w)
include hsim

theorem range_ok {x : AV} {xc : Value} (hx : VR ρ x xc) (t : TypeId) : EffOK P B w0 ρ w (fun K => rangeK P t x σ K) (Instr.range t xc) := by
  intro K h
  simp only at h
  have fin : ∀ (o : AO) (oc : Obj), (∀ ρ' : Rho, ρ.le ρ' → ∀ w' : World, w'.heap[w.heap.size]? = some oc → OR B ρ' w' o (.obj w.heap.size)) → newK σ o (fun id σ => K (.it id) σ) = true →
      (Instr.range t xc).run P w = .ok (.pointer (some ⟨w.heap.size, 0, none⟩)) { w with heap := w.heap.push oc } →
      ∃ v vc σ' ρ' w', ρ.le ρ' ∧ VR ρ' v vc ∧ Sim B w0 ρ' σ' w' ∧ K v σ' = true ∧ (Instr.range t xc).run P w = .ok vc w' := by
    intro o oc hor hK hrun
    obtain ⟨ρ', hle, hloc, hs⟩ := Sim.newObj (w' := { w with heap := w.heap.push oc }) hsim (fun ρ' hle hb => hor ρ' hle _ hb) rfl rfl rfl rfl
    exact ⟨_, _, _, ρ', _, hle, .iter hloc, hs, hK, hrun⟩
  unfold rangeK at h
  split at h
  · rename_i s ht
    obtain ⟨b, rfl, rfl⟩ := hx.of_str
    exact fin (.siter (bytesL b) 0) (.stringIter b 0) (fun ρ' _ w' hw' => ⟨hsim.size, b, hw', rfl⟩) h (by simp [Instr.range, run_underlying ht])
  · rename_i kt et ht
    cases hx
    exact fin (.miter none 0 [] 0) (.mapIter none 0 #[] 0) (fun ρ' _ w' hw' => ⟨hsim.size, hw'⟩) h (by simp [Instr.range, run_underlying ht])
  · rename_i kt et m ht
    split at h
    · rename_i es clock hs
      cases hx with
      | @map _ r hl =>
        obtain ⟨ces, hB, hw, he⟩ := Sim.map hsim hl hs
        exact fin (.miter (some m) clock [] clock) (.mapIter (some r) clock #[] clock) (fun ρ' hle w' hw' => ⟨hsim.size, r, hle.obj hl, hw'⟩) h (by simp [Instr.range, run_underlying ht, run_getObj_of hw (by simp)])
    · cases h
  · cases h

omit [Grade] in
omit hsim in
theorem filter_ent {ρ : Rho} (p : Nat → Bool) : ∀ {es : List ME} {ces : List MapEntry}, EntR ρ es ces → EntR ρ (es.filter fun e => p e.born) (ces.filter fun e => p e.born)
  | [], ces, he => by obtain rfl := he.inv_nil; exact ⟨rfl, fun i e ce a => by simp at a⟩
  | x :: es, ces, he => by
    obtain ⟨ce, ces', rfl, h1, h2, h3, h4⟩ := he.inv_cons
    have ih := filter_ent p h4
    rw [List.filter_cons, List.filter_cons, ← h3]
    cases hp : p x.born with
    | false => simpa using ih
    | true =>
      refine ⟨by simp [ih.1], fun i e ce' a b => ?_⟩
      cases i with
      | zero => simp at a b; subst a b; exact ⟨h1, h2, h3⟩
      | succ i => simp at a b; exact ih.2 i e ce' a b

omit [Grade] in
omit hsim in
theorem EntR.all {ρ : Rho} (p : Nat → Bool) : ∀ {es : List ME} {ces : List MapEntry}, EntR ρ es ces → (es.all fun e => p e.born) = ces.all fun e => p e.born
  | [], ces, he => by obtain rfl := he.inv_nil; rfl
  | x :: es, ces, he => by
    obtain ⟨ce, ces', rfl, h1, h2, h3, h4⟩ := he.inv_cons
    rw [List.all_cons, List.all_cons, EntR.all p h4, h3]

omit [Grade] in
omit hsim in
theorem EntR.mem {ρ : Rho} {es : List ME} {ces : List MapEntry} (he : EntR ρ es ces) {ce : MapEntry} (h : ce ∈ ces) : ∃ e ∈ es, VR ρ e.key ce.key ∧ VR ρ e.val ce.val ∧ e.born = ce.born := by
  obtain ⟨i, hi⟩ := List.getElem?_of_mem h
  have hlt : i < es.length := by rw [he.1]; exact (List.getElem?_eq_some_iff.1 hi).1
  exact ⟨es[i], List.getElem_mem hlt, he.2 i _ ce (List.getElem?_eq_getElem hlt) hi⟩

omit hsim in
omit [Grade] in
/-- What a draw among n gives: one of them. -/
theorem run_pick (P : Program) (w : World) (n : Nat) (hn : 0 < n) : ∃ k w', k < n ∧ (choose (.mapNext n)).run P w = .ok k w' ∧ w'.heap = w.heap ∧ w'.os = w.os ∧ w'.tape = w.tape ∧ w'.output = w.output ∧ w.drawn ≤ w'.drawn := by
  by_cases hf : n ≤ 1
  · exact ⟨0, w, hn, by simp [Question.forced, hf], rfl, rfl, rfl, rfl, Nat.le_refl _⟩
  · exact ⟨w.tape w.drawn (.mapNext n) % n, w.drew, Nat.mod_lt _ hn, by simp [Question.forced, hf, Question.cut], rfl, rfl, rfl, rfl, Nat.le_succ _⟩

theorem next_ok {it : AV} {itc : Value} (hi : VR ρ it itc) (isString : Bool) (ty : TypeId) : EffOK P B w0 ρ w (fun K => nextK it isString σ K) (Instr.next itc isString ty) := by
  intro K h
  simp only at h
  unfold nextK at h
  split at h
  · rename_i id
    cases hi with
    | @iter _ r hl =>
      split at h
      · rename_i s pos hs
        obtain ⟨o, ho, hor⟩ := hsim.obj id _ hl
        rw [hs] at ho
        obtain rfl := Option.some.inj ho
        obtain ⟨hB, b, hw, rfl⟩ := hor
        have hrl : r < w.heap.size := (Array.getElem?_eq_some_iff.1 hw).1
        rw [bytesL_length, ofBytesL_bytesL] at h
        cases hp : decide (pos < b.size) with
        | true =>
          rw [hp, cond_true] at h
          have hp' : pos < b.size := by simpa using hp
          obtain ⟨ρ', hle, hsim'⟩ := Sim.turn hsim (o' := .siter (bytesL b) (pos + (Utf8.decode b pos).2)) (oc := .stringIter b (pos + (Utf8.decode b pos).2)) hl hs
            (fun ρ' _ w' hw' => ⟨hB, b, hw', rfl⟩) rfl hrl
          refine ⟨_, .tuple #[.bool true, .int .i64 pos, .int .i32 (Utf8.decode b pos).1], _, ρ', _, hle, ?_, hsim', h, ?_⟩
          · exact VR.mk_tup (.cons (.bool true) (.cons (.int .i64 _) (.cons (.int .i32 _) .nil)))
          · simp [Instr.next, run_getObj_of hw (by simp), hp', run_setObj_of hw (by simp), goInt]
        | false =>
          rw [hp, cond_false] at h
          have hp' : ¬ pos < b.size := by simpa using hp
          exact ⟨_, .tuple #[.bool false], σ, ρ, w, .refl ρ, VR.mk_tup (.cons (.bool false) .nil), hsim, h, by simp [Instr.next, run_getObj_of hw (by simp), hp']⟩
      · rename_i since seen last hs
        obtain ⟨o, ho, hor⟩ := hsim.obj id _ hl
        rw [hs] at ho
        obtain rfl := Option.some.inj ho
        obtain ⟨hB, hw⟩ := hor
        exact ⟨_, .tuple #[.bool false], σ, ρ, w, .refl ρ, VR.mk_tup (.cons (.bool false) .nil), hsim, h, by simp [Instr.next, run_getObj_of hw (by simp)]⟩
      · rename_i m since seen last hs
        obtain ⟨rm, hB, hlm, hw⟩ := Sim.miter hsim hl hs
        have hrl : r < w.heap.size := (Array.getElem?_eq_some_iff.1 hw).1
        split at h
        · rename_i es clock hm
          obtain ⟨ces, hBm, hwm, hent⟩ := Sim.map hsim hlm hm
          cases hun : (!seen.isEmpty && !es.isEmpty && es.all (fun e => decide (last ≤ e.born))) with
          | true => rw [hun] at h; cases h
          | false =>
            rw [hun, cond_false] at h
            simp only [Bool.and_eq_true] at h
            obtain ⟨hover, hleft⟩ := h
            have hentL : EntR ρ (es.filter fun e => !seen.contains e.born) (ces.toList.filter fun e => !seen.contains e.born) := filter_ent (fun b => !seen.contains b) hent
            have hunc : (!(seen.toArray.isEmpty) && !ces.isEmpty && ces.all (fun e => decide (e.born ≥ last))) = false := by
              rw [← hun]
              have e1 : (es.all fun e => decide (last ≤ e.born)) = ces.all fun e => decide (e.born ≥ last) := by
                rw [← Array.all_toList]; exact EntR.all (fun b => decide (last ≤ b)) hent
              have e2 : es.isEmpty = ces.isEmpty := by
                rw [← Array.isEmpty_toList]
                have := hent.1
                cases es <;> cases hq : ces.toList <;> rw [hq] at this <;> simp_all
              rw [e1, e2]; simp
            obtain ⟨L, hL⟩ : ∃ L, L = ces.filter fun e => !seen.toArray.contains e.born := ⟨_, rfl⟩
            have hLl : L.toList = ces.toList.filter fun e => !seen.contains e.born := by
              rw [hL, Array.toList_filter]; congr 1; funext e; simp
            obtain ⟨cand, hcand⟩ : ∃ cand, cand = (if (L.filter (·.born < since)).isEmpty then #[none] else #[]) ++ ((L.filter (·.born < since)) ++ (L.filter (·.born ≥ since))).map some := ⟨_, rfl⟩
            have hpos : 0 < cand.size := by
              rw [hcand]
              by_cases he : (L.filter (·.born < since)).isEmpty
              · rw [if_pos he]; simp; omega
              · have : 0 < (L.filter (·.born < since)).size := by
                  rw [Array.isEmpty_iff_size_eq_zero] at he; omega
                rw [if_neg he]; simp only [Array.size_append, Array.size_map]; omega
            obtain ⟨k, w', hk, hpick, hwh, hwo, hwt, hwu, hwd⟩ := run_pick P w cand.size hpos
            have hsim1 : Sim B w0 ρ σ w' := hsim.world hwh hwo hwt hwu hwd
            have hw1 : w'.heap[r]? = some (.mapIter (some rm) since seen.toArray last) := by rw [hwh]; exact hw
            have hck : cand[k]? = some cand[k] := Array.getElem?_eq_getElem hk
            cases hck0 : cand[k] with
            | none =>
              have hold : (L.filter (·.born < since)).isEmpty = true := by
                cases he : (L.filter (·.born < since)).isEmpty with
                | true => rfl
                | false =>
                  have hmem : (none : Option MapEntry) ∈ cand.toList := by rw [← hck0]; exact Array.mem_toList_iff.2 (Array.getElem_mem hk)
                  rw [hcand, he] at hmem
                  simp at hmem
              have hall : (es.filter fun e => !seen.contains e.born).all (fun e => decide (since ≤ e.born)) = true := by
                rw [EntR.all (fun b => decide (since ≤ b)) hentL, ← hLl, List.all_eq_true]
                intro e he
                rw [Array.isEmpty_iff_size_eq_zero, ← Array.length_toList, Array.toList_filter, List.length_eq_zero_iff, List.filter_eq_nil_iff] at hold
                have := hold e he
                simp at this ⊢; omega
              rw [hall, cond_true] at hover
              refine ⟨_, .tuple #[.bool false], σ, ρ, w', .refl ρ, VR.mk_tup (.cons (.bool false) .nil), hsim1, hover, ?_⟩
              simp only [Instr.next, Sem.run_bind, run_getObj_of hw (by simp), Result.andThen_ok, run_getObj_of hwm (by simp)]
              rw [hunc]
              simp only [Bool.false_eq_true, if_false, Sem.run_bind, Sem.run_pure, Result.andThen_ok, ← hL, ← hcand, hpick, hck, hck0]
            | some ce =>
              have hmem : ce ∈ L.toList := by
                have hm2 : (some ce : Option MapEntry) ∈ cand.toList := by rw [← hck0]; exact Array.mem_toList_iff.2 (Array.getElem_mem hk)
                rw [hcand] at hm2
                simp only [Array.toList_append, Array.toList_map, List.mem_append, List.mem_map, Option.some.injEq, exists_eq_right, Array.toList_filter, List.mem_filter] at hm2
                rcases hm2 with hm2 | hm2 | hm2
                · split at hm2 <;> simp at hm2
                · exact hm2.1
                · exact hm2.1
              rw [hLl] at hmem
              obtain ⟨e, hel, y1, y2, y3⟩ := hentL.mem hmem
              have hK := List.all_eq_true.1 hleft e hel
              obtain ⟨ρ', hle, hsim'⟩ := Sim.turn hsim1 (o' := .miter (some m) since (seen ++ [e.born]) clock) (oc := .mapIter (some rm) since (seen.toArray.push ce.born) clock) hl hs
                (fun ρ' hle w' hw' => ⟨hB, rm, hle.obj hlm, by rw [hw', y3]; simp⟩) rfl (by rw [hwh]; exact hrl)
              refine ⟨_, .tuple #[.bool true, ce.key, ce.val], _, ρ', _, hle, ?_, hsim', hK, ?_⟩
              · exact VR.mk_tup (.cons (.bool true) (.cons (y1.mono hle) (.cons (y2.mono hle) .nil)))
              · simp only [Instr.next, Sem.run_bind, run_getObj_of hw (by simp), Result.andThen_ok, run_getObj_of hwm (by simp)]
                rw [hunc]
                simp only [Bool.false_eq_true, if_false, Sem.run_bind, Sem.run_pure, Result.andThen_ok, ← hL, ← hcand, hpick, hck, hck0, run_setObj_of hw1 (by simp)]
        · cases h
      · cases h
  · cases h

end
end Go.AM
namespace Go.AM
open Go Go.RowKit
variable [Grade]

section
variable {P : Program} {B : Nat} {w0 : World} {ρ : Rho} {σ : H} {w w' : World} (hsim : Sim B w0 ρ σ w)
include hsim

theorem freeze_ok {id off z n : Nat} {xc : Value} (hx : VR ρ (.sl (.at id off z) n) xc) (hn : n ≠ 0) {xs : List AV} {z' : Nat} {md : Md} (hs : σ[id]? = some (.cells xs z' md)) (hmd : md ≠ .ro)
    {t e : TypeId} (ht : P.underlying t = some (.slice e)) (he : P.underlying e = some (.int .u8)) :
    ∃ ρ' w', ρ.le ρ' ∧ Sim B w0 ρ' σ w' ∧ (convert t t xc).run P w = .ok xc w' := by
  cases hx with
  | slEnd a h => exact absurd rfl hn
  | @sl _ _ _ _ cap cs c hl hcm h1 h2 h3 h4 =>
    have hor := hsim.cells hl hs
    obtain ⟨ez, hz, hcr, hnew⟩ := hor
    obtain ⟨hb0, hB, hsz, C, T, fz, hheap, hCs, hfz⟩ := (hcr c hcm).own hmd
    obtain ⟨w', hw'⟩ : ∃ w', w' = w.freeze ⟨c.blk, C.size, none⟩ 1 := ⟨_, rfl⟩
    have hblk : c.blk < w.heap.size := (Array.getElem?_eq_some_iff.1 hheap).1
    have hne : ∀ k, k ≠ c.blk → w'.heap[k]? = w.heap[k]? := fun k hk => by
      rw [hw']; unfold World.freeze; rw [if_neg (by decide)]
      show (w.heap.modify c.blk _)[k]? = _
      rw [Array.getElem?_modify, if_neg (Ne.symm hk)]
    obtain ⟨fz', hfz1, hfz2⟩ : ∃ fz' : Nat × Nat, w'.heap[c.blk]? = some (.cells C T fz') ∧ (fz'.1 = fz'.2 ∨ C.size ≤ fz'.1) := by
      obtain ⟨lo, hi⟩ := fz
      refine ⟨if lo == hi then (C.size, C.size + 1) else (min lo C.size, max hi (C.size + 1)), ?_, ?_⟩
      · rw [hw']; unfold World.freeze; rw [if_neg (by decide)]
        show (w.heap.modify c.blk _)[c.blk]? = _
        rw [Array.getElem?_modify, if_pos rfl, hheap]
        rfl
      · right
        simp only at hfz
        split
        · exact Nat.le_refl _
        · rename_i hh
          have : lo ≠ hi := by simpa using hh
          show C.size ≤ min lo C.size
          rcases hfz with q | q
          · exact absurd q this
          · omega
    have hbel : Bel B w w' := ⟨⟨by rw [hw']; unfold World.freeze; rw [if_neg (by decide)], by rw [hw']; unfold World.freeze; rw [if_neg (by decide)], by rw [hw']; unfold World.freeze; rw [if_neg (by decide)],
      by rw [hw']; unfold World.freeze; rw [if_neg (by decide)]; show _ ≤ (w.heap.modify c.blk _).size; rw [Array.size_modify]; exact Nat.le_refl _, fun k hk => hne k (by omega)⟩, Grade.mono (by rw [hw']; unfold World.freeze; rw [if_neg (by decide)]; exact Nat.le_refl _)⟩
    have hsame : ∀ l, ρ.upd id l = ρ → True := fun _ _ => trivial
    have hupd : ρ.upd id (.cells z cs) = ρ := by
      funext j
      by_cases e1 : j = id
      · subst e1; simp [Rho.upd, hl]
      · simp [Rho.upd, e1]
    have hset : σ.set id (.cells xs z' md) = σ := by
      apply List.ext_getElem?
      intro j
      by_cases e1 : id = j
      · subst e1; rw [List.getElem?_set_self (List.getElem?_eq_some_iff.1 hs).1, hs]
      · rw [List.getElem?_set_ne e1]
    have hcell : ∀ p : Addr, w'.cell? p = w.cell? p := fun p => by
      by_cases e1 : p.block = c.blk
      · simp only [World.cell?, e1, hfz1, hheap]
      · exact World.cell?_of_block (hne p.block e1)
    obtain ⟨hle, hsim'⟩ := hsim.change (w' := w') (o' := .cells xs z' md) (l' := .cells z cs) hl hs (.refl _) hbel
      (fun k _ hno => hne k fun e1 => hno ⟨hmd, c, hcm, e1.symm⟩)
      (by
        rw [hupd]
        refine ⟨ez, hz, fun c' hc' => ?_, hnew⟩
        have hq := hcr c' hc'
        refine ⟨hq.lo, hq.hi, fun j a b => ?_, hq.ro, fun hm => ?_⟩
        · obtain ⟨v, vc, q1, q2, q3, q4⟩ := hq.cell j a b
          exact ⟨v, vc, q1, by rw [hcell]; exact q2, q3, q4⟩
        · obtain ⟨o1, o2, o3, C2, T2, f2, o4, o5, o6⟩ := hq.own hm
          by_cases e1 : c'.blk = c.blk
          · rw [e1] at o4
            rw [hheap] at o4
            obtain ⟨rfl, rfl, _⟩ : C = C2 ∧ T = T2 ∧ fz = f2 := by
              have := Option.some.inj o4
              exact ⟨by injection this, by injection this, by injection this⟩
            exact ⟨o1, o2, o3, C, T, fz', by rw [e1]; exact hfz1, o5, hfz2⟩
          · exact ⟨o1, o2, o3, C2, T2, f2, (hne _ e1).trans o4, o5, o6⟩) (fun b hb => .inl hb)
    rw [hupd, hset] at hsim'
    refine ⟨ρ, w', .refl ρ, hsim', ?_⟩
    have hshape : w.shape? c.blk = some (T, C.size) := by unfold World.shape?; rw [hheap]
    simp [convert, run_underlying ht, run_underlying he, markStringish, hshape, hw']

theorem convEff_ok {x : AV} {xc : Value} (hx : VR ρ x xc) (s d : TypeId) : EffOK P B w0 ρ w (fun K => convEffK P s d x σ K) (convert s d xc) := by
  intro K h
  simp only at h
  unfold convEffK at h
  split at h
  · rename_i e hd
    split at h
    · rename_i he
      split at h
      · rename_i id off z n
        cases hc : (s == d && !(n == 0)) with
        | false => rw [hc] at h; cases h
        | true =>
          rw [hc, cond_true] at h
          simp only [Bool.and_eq_true, beq_iff_eq, Bool.not_eq_true', beq_eq_false_iff_ne] at hc
          obtain ⟨rfl, hn⟩ := hc
          obtain ⟨xs, z', md, hs, hq, _⟩ := rowK_of h
          cases hm : (md == Md.ro) with
          | true => rw [hm] at hq; cases hq
          | false =>
            rw [hm, cond_false] at hq
            obtain ⟨ρ', w', hle, hsim', hrun⟩ := freeze_ok (P := P) hsim hx hn hs (by intro e1; rw [e1] at hm; cases hm) hd he
            exact ⟨_, xc, σ, ρ', w', hle, hx.mono hle, hsim', hq, hrun⟩
      · rename_i str
        cases hs : isStrT P s with
        | false => rw [hs] at h; cases h
        | true =>
          rw [hs, cond_true] at h
          exact strBytes_ok (P := P) hsim hx s d e hs hd he K h
      · cases h
    · cases h
  · cases h

theorem eff_sound {callf : CallF} (o : Oper) {e : Operand → AV} {ec : Operand → Value} (he : EvR ρ e ec o.op) (hk : kindOf P o.op = .eff) (K : AV → H → Bool)
    (h : effK P callf o.op o.type e σ K = true) :
    (∃ v vc σ' ρ' w', ρ.le ρ' ∧ VR ρ' v vc ∧ Sim B w0 ρ' σ' w' ∧ K v σ' = true ∧ ((execOp ec o).run P w = .ok (.value vc) w' ∨ ((execOp ec o).run P w = .ok .skip w' ∧ vc = undef))) ∨
    (∃ g args argsc, VRs ρ args argsc.toList ∧ (execOp ec o).run P w = (callFunc g argsc).run P w ∧ callf g args σ (fun v σ => castRes P o.type v fun v => K v σ) = true) := by
  obtain ⟨dst, op, ty, pos, after, guard⟩ := o
  simp only at he hk h ⊢
  have val : ∀ {f : (AV → H → Bool) → Bool} {s : Sem Value}, EffOK P B w0 ρ w f s → f K = true → (execOp ec ⟨dst, op, ty, pos, after, guard⟩).run P w = (do pure (Next.value (← s)) : Sem Next).run P w →
      (∃ v vc σ' ρ' w', ρ.le ρ' ∧ VR ρ' v vc ∧ Sim B w0 ρ' σ' w' ∧ K v σ' = true ∧ ((execOp ec ⟨dst, op, ty, pos, after, guard⟩).run P w = .ok (.value vc) w' ∨ ((execOp ec ⟨dst, op, ty, pos, after, guard⟩).run P w = .ok .skip w' ∧ vc = undef))) := by
    intro f s hs hK hrun
    obtain ⟨v, vc, σ', ρ', w', h1, h2, h3, h4, h5⟩ := hs K hK
    exact ⟨v, vc, σ', ρ', w', h1, h2, h3, h4, .inl (by rw [hrun]; simp [h5])⟩
  have unt : ∀ {f : (H → Bool) → Bool} {s : Sem Unit}, UnitOK P B w0 ρ w f s → f (fun σ => K .undef σ) = true → (execOp ec ⟨dst, op, ty, pos, after, guard⟩).run P w = (do s; pure Next.skip : Sem Next).run P w →
      (∃ v vc σ' ρ' w', ρ.le ρ' ∧ VR ρ' v vc ∧ Sim B w0 ρ' σ' w' ∧ K v σ' = true ∧ ((execOp ec ⟨dst, op, ty, pos, after, guard⟩).run P w = .ok (.value vc) w' ∨ ((execOp ec ⟨dst, op, ty, pos, after, guard⟩).run P w = .ok .skip w' ∧ vc = undef))) := by
    intro f s hs hK hrun
    obtain ⟨σ', ρ', w', h1, h3, h4, h5⟩ := hs _ hK
    exact ⟨.undef, undef, σ', ρ', w', h1, VR.undef, h3, h4, .inr ⟨by rw [hrun]; simp [h5], rfl⟩⟩
  unfold effK at h
  split at h
  · rename_i t
    exact .inl (val (alloc_ok (P := P) hsim t) h rfl)
  · rename_i T x
    exact .inl (val (box_ok (P := P) hsim (he x (by simp [Op.operands])) T) h rfl)
  · rename_i t len parts
    have hp := parts_R (ps := parts) (ρ := ρ) (e := e) (ec := ec) fun p hp => he p.2 (by simp [Op.operands]; exact ⟨p.1, by simpa using hp⟩)
    exact .inl (val (buildSlice_ok (P := P) hsim t len hp) h rfl)
  · rename_i t r
    have hr : OVR ρ (r.map e) (r.map ec) := OVR_map fun y hy => he y (by simp only [Option.mem_def] at hy; subst hy; simp [Op.operands])
    exact .inl (val (makeMap_ok (P := P) hsim hr t) h rfl)
  · rename_i t l c
    exact .inl (val (makeSlice_ok (P := P) hsim (he l (by simp [Op.operands])) (he c (by simp [Op.operands])) t) h rfl)
  · rename_i s d x
    exact .inl (val (convEff_ok (P := P) hsim (he x (by simp [Op.operands])) s d) h rfl)
  · rename_i t a x
    exact .inl (unt (store_ok (P := P) hsim (he a (by simp [Op.operands])) (he x (by simp [Op.operands])) t) h rfl)
  · rename_i t m k x
    exact .inl (unt (update_ok (P := P) hsim (he m (by simp [Op.operands])) (he k (by simp [Op.operands])) (he x (by simp [Op.operands])) t) h rfl)
  · rename_i t m k x
    exact .inl (unt (update_ok (P := P) hsim (he m (by simp [Op.operands])) (he k (by simp [Op.operands])) (he x (by simp [Op.operands])) t) h rfl)
  · rename_i t x
    exact .inl (val (range_ok (P := P) hsim (he x (by simp [Op.operands])) t) h rfl)
  · rename_i it isS
    exact .inl (val (next_ok (P := P) hsim (he it (by simp [Op.operands])) isS ty) h rfl)
  · rename_i args argTypes
    split at h
    · rename_i s x t u ha ht
      have ha' : args = #[s, x] := by apply Array.ext'; rw [ha]
      have ht' : argTypes = #[t, u] := by apply Array.ext'; rw [ht]
      subst ha' ht'
      cases hu : (isSlT P u || isStrT P u) with
      | false => rw [hu] at h; cases h
      | true =>
        rw [hu, cond_true] at h
        have hno : NoInt P u := by
          simp only [Bool.or_eq_true] at hu
          rcases hu with hu | hu
          · unfold isSlT at hu; split at hu
            · rename_i e1 h1; exact .inr ⟨e1, h1⟩
            · cases hu
          · unfold isStrT at hu; split at hu
            · rename_i h1; exact .inl h1
            · cases hu
        exact .inl (val (append_ok (P := P) hsim ty hno (he s (by simp [Op.operands, Call.operands])) (he x (by simp [Op.operands, Call.operands]))) h
          (by simp [execOp, resolve, invoke, builtin]))
    · cases h
  · rename_i args argTypes
    split at h
    · rename_i m k t ts ha ht
      have ha' : args = #[m, k] := by apply Array.ext'; rw [ha]
      subst ha'
      have ht0 : argTypes[0]? = some t := by rw [← Array.getElem?_toList, ht]; rfl
      exact .inl (val (delete_ok (P := P) hsim (he m (by simp [Op.operands, Call.operands])) (he k (by simp [Op.operands, Call.operands])) t ty argTypes ht0) h
          (by simp [execOp, resolve, invoke, builtin]))
    · cases h
  · rename_i args argTypes
    split at h
    · rename_i x t ts ha ht
      have ha' : args = #[x] := by apply Array.ext'; rw [ha]
      subst ha'
      have ht0 : argTypes[0]? = some t := by rw [← Array.getElem?_toList, ht]; rfl
      exact .inl (val (clear_ok (P := P) hsim (he x (by simp [Op.operands, Call.operands])) t ty argTypes ht0) h
          (by simp [execOp, resolve, invoke, builtin]))
    · cases h
  · rename_i f args argTypes
    split at h
    · rename_i g caps hf
      have hfr := he f (by simp [Op.operands, Call.operands])
      rw [hf] at hfr
      obtain ⟨vs, hvs, hvr⟩ := hfr.of_fn
      have hargs := evals_VRs (l := args.toList) (ρ := ρ) (e := e) (ec := ec) fun x hx => he x (by simp [Op.operands, Call.operands]; right; simpa using hx)
      refine .inr ⟨g, _, args.map ec ++ vs, ?_, ?_, h⟩
      · rw [Array.toList_append, Array.toList_map]; exact hargs.append hvr
      · simp [execOp, resolve, hvs, Deferred.ofValue, invoke]
    · cases h
  · cases h

end
end Go.AM
