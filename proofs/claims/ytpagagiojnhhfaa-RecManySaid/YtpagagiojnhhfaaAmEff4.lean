/- append. -/
import Derived.Test.YtpagagiojnhhfaaAmEff3
import Derived.Lib.AppendStr
namespace Go.AM
open Go Go.RowKit

/-- A type that is no integer's: what is appended is no make. -/
def NoInt (P : Program) (u : TypeId) : Prop := P.underlying u = some .string ∨ ∃ e, P.underlying u = some (.slice e)

theorem run_append_fits_of {P : Program} {w w' : World} {t u ty e : TypeId} {i : TypeInfo} (ht : P.underlying t = some (.slice e)) (hu : NoInt P u) (hi : P.info? e = some i)
    {base : Option Addr} {n cap m : Nat} {x : Value} {news : Array Value} (hx : (Builtin.lenOf x).run P w = .ok m w) (hf : (Builtin.firstCells i.size m x).run P w = .ok news w) (hroom : n + m ≤ cap)
    (hst : ∀ a, base = some a → (storeCells (a.add (n * i.size)) news.toList).run P w = .ok () w') (hn : base = none → w' = w) :
    (Builtin.append_ #[t, u] ty #[.slice base n cap, x]).run P w = .ok (.slice base (n + m) cap) w' := by
  have key : ∀ d, P.underlying u = some d → (d = .string ∨ ∃ e, d = .slice e) → (Builtin.append_ #[t, u] ty #[.slice base n cap, x]).run P w = .ok (.slice base (n + m) cap) w' := by
    intro d hd hdd
    cases base with
    | none =>
      obtain rfl := hn rfl
      rcases hdd with rfl | ⟨e', rfl⟩ <;> simp [Builtin.append_, run_underlying ht, run_underlying hd, run_sizeOf_of hi, hx, hf, hroom]
    | some a =>
      have := hst a rfl
      rcases hdd with rfl | ⟨e', rfl⟩ <;> simp [Builtin.append_, run_underlying ht, run_underlying hd, run_sizeOf_of hi, hx, hf, hroom, this]
  rcases hu with hu | ⟨e', hu⟩
  · exact key _ hu (.inl rfl)
  · exact key _ hu (.inr ⟨_, rfl⟩)

theorem run_append_grows_of {P : Program} {w : World} {t u ty e : TypeId} {i : TypeInfo} {z : Value} (ht : P.underlying t = some (.slice e)) (hu : NoInt P u) (hi : P.info? e = some i) (hz : i.zero = some z)
    {base : Option Addr} {n cap m : Nat} {x : Value} {olds news : Array Value} (hx : (Builtin.lenOf x).run P w = .ok m w) (hf : (Builtin.firstCells i.size m x).run P w.drew = .ok news w.drew)
    (ho : (Builtin.firstCells i.size n (.slice base n cap)).run P w.drew = .ok olds w.drew) (hroom : cap < n + m) (h63 : ((n + m : Nat) : Int) ≤ 9223372036854775807) (hfit : (n + m) * i.bytes ≤ 140737488355328) :
    (Builtin.append_ #[t, u] ty #[.slice base n cap, x]).run P w = .ok (.slice (some ⟨w.heap.size, 0, none⟩) (n + m) (grownCap w (n + m) cap e))
      (w.drew.alloc (.cells (olds ++ news ++ Builtin.zeroCells z.cells (grownCap w (n + m) cap e - (n + m))) e)) := by
  have hn : ¬ (n + m ≤ cap) := by omega
  have h63' : ¬ (9223372036854775807 < ((n : Int) + (m : Int))) := by omega
  have hfit' := growslice_fits hroom hfit
  have h48' : ¬ (281474976710656 < Builtin.nextslicecap (n + m) cap * i.bytes) := by omega
  rcases hu with hd | ⟨e', hd⟩ <;>
    simp [Builtin.append_, run_underlying ht, run_underlying hd, sizeOf, typeInfo, zeroValue, hi, hz, hx, hn, h63', h48', Question.forced, hf, ho, newRow, grownCap]

/-- What is appended: its cells, read now and behind the draw. -/
def Src (P : Program) (ρ : Rho) (w : World) (z m : Nat) (ys : List AV) (x : Value) : Prop :=
  ∃ vs : List Value, vs.length = m * z ∧ VRs ρ ys vs ∧ (∀ u ∈ vs, u.oneCell' = true) ∧ (Builtin.lenOf x).run P w = .ok m w ∧
    (Builtin.firstCells z m x).run P w = .ok vs.toArray w ∧ (Builtin.firstCells z m x).run P w.drew = .ok vs.toArray w.drew

section
variable {P : Program} {B : Nat} {w0 : World} {ρ : Rho} {σ : H} {w w' : World} (hsim : Sim B w0 ρ σ w)
include hsim

theorem into_ok {t u ty e : TypeId} {i : TypeInfo} {z : Value} (ht : P.underlying t = some (.slice e)) (hu : NoInt P u) (hi : P.info? e = some i) (hz : i.zero = some z) (hzs : z.cells.size = i.size) (hpos : 0 < i.size)
    {a : SA} {n m : Nat} {sc xc : Value} (hs : VR ρ (.sl a n) sc) {ys : List AV} (hx : Src P ρ w i.size m ys xc) (hm : 0 < m) (hfit : (n + m) * i.bytes ≤ 140737488355328)
    (h63 : ((n + m : Nat) : Int) ≤ 9223372036854775807) :
    EffOK P B w0 ρ w (fun K => appendK.into σ K a n m ys i.size) (Builtin.append_ #[t, u] ty #[sc, xc]) := by
  intro K h
  obtain ⟨vs, hvl, hv, hone, hx1, hx2, hx3⟩ := hx
  have hyl : ys.length = m * i.size := by rw [hv.1]; exact hvl
  have hmz : 0 < m * i.size := Nat.mul_pos hm hpos
  simp only at h
  -- a new row, where there was none
  have fresh : ∀ (base : Option Addr), sc = .slice base 0 0 → n = 0 → (newK σ (.cells ys i.size .own) fun id σ => K (.sl (.at id 0 i.size) m) σ) = true →
      ∃ v vc σ' ρ' w', ρ.le ρ' ∧ VR ρ' v vc ∧ Sim B w0 ρ' σ' w' ∧ K v σ' = true ∧ (Builtin.append_ #[t, u] ty #[sc, xc]).run P w = .ok vc w' := by
    rintro base rfl rfl h
    have ho : (Builtin.firstCells i.size 0 (.slice base 0 0)).run P w.drew = .ok #[] w.drew := by
      cases base <;> simp [Builtin.firstCells, loadCells, loadCellsFrom]
    have hrun := run_append_grows_of (ty := ty) ht hu hi hz hx1 hx3 ho (by omega) h63 hfit
    rw [Nat.zero_add] at hrun
    have hcap := grownCap_ge w m 0 e
    obtain ⟨C, hC⟩ : ∃ C, C = #[] ++ vs.toArray ++ Builtin.zeroCells z.cells (grownCap w m 0 e - m) := ⟨_, rfl⟩
    have hCs : C.size = grownCap w m 0 e * i.size := by
      rw [hC, Array.size_append, Array.size_append, size_zeroCells, hzs]
      simp only [List.size_toArray, hvl]
      show 0 + m * i.size + _ = _
      rw [Nat.sub_mul]
      have := Nat.mul_le_mul_right i.size hcap
      omega
    have htk : C.toList.take ys.length = vs := by
      rw [hC, hv.1, Array.toList_append, Array.toList_append]
      simp
    have hle2 : ys.length ≤ C.size := by rw [hyl, hCs]; exact Nat.mul_le_mul_right _ hcap
    rw [← hC] at hrun
    obtain ⟨ρ', hle, hloc, hsim'⟩ := Sim.newCells (w' := w.drew.alloc (.cells C e)) hsim (xs := ys) (C := C) (T := e) hpos hle2 (by rw [htk]; exact hv) (by rw [htk]; exact hone) (fz := (0, 0)) (.inl rfl) rfl rfl rfl rfl
    refine ⟨_, _, _, ρ', _, hle, ?_, hsim', h, hrun⟩
    have := VR.sl (ρ := ρ') (off := 0) (len := m) (cap := grownCap w m 0 e) hloc (List.mem_singleton.2 rfl) (Nat.zero_le _) (by simp [hyl]) hcap (by simp [hCs])
    exact this
  cases a with
  | nil => cases hs; exact fresh none rfl rfl h
  | zero => cases hs with | slZero ad => exact fresh (some ad) rfl rfl h
  | «at» id off z₂ =>
    unfold appendK.into at h
    simp only at h
    obtain ⟨xs, z', md, hσ, hq, _⟩ := rowK_of h
    clear h
    have h := hq
    clear hq
    cases hc : (z' == i.size && z₂ == i.size && !(md == .ro) && off + n * i.size == xs.length) with
    | false => rw [hc] at h; cases h
    | true =>
      rw [hc, cond_true] at h
      simp only [Bool.and_eq_true, beq_iff_eq, Bool.not_eq_true', beq_eq_false_iff_ne] at hc
      obtain ⟨⟨⟨rfl, rfl⟩, hmd⟩, htop⟩ := hc
      -- a new copy of what the slice shows
      have grow : ∀ (base : Option Addr) (cap : Nat) (olds : List Value) (cs : List Copy), sc = .slice base n cap → cap < n + m → ρ id = some (.cells i.size cs) → olds.length = n * i.size → VRs ρ (xs.drop off) olds → (∀ u ∈ olds, u.oneCell' = true) →
          (Builtin.firstCells i.size n (.slice base n cap)).run P w.drew = .ok olds.toArray w.drew →
          ∃ v vc σ' ρ' w', ρ.le ρ' ∧ VR ρ' v vc ∧ Sim B w0 ρ' σ' w' ∧ K v σ' = true ∧ (Builtin.append_ #[t, u] ty #[sc, xc]).run P w = .ok vc w' := by
        rintro base cap olds cs rfl hroom hl hol hov hoo ho
        have hrun := run_append_grows_of (ty := ty) ht hu hi hz hx1 hx3 ho hroom h63 hfit
        have hcap := grownCap_ge w (n + m) cap e
        obtain ⟨C, hC⟩ : ∃ C, C = olds.toArray ++ vs.toArray ++ Builtin.zeroCells z.cells (grownCap w (n + m) cap e - (n + m)) := ⟨_, rfl⟩
        have hmul := Nat.mul_le_mul_right i.size hcap
        rw [Nat.add_mul] at hmul
        have hCs : C.size = grownCap w (n + m) cap e * i.size := by
          rw [hC, Array.size_append, Array.size_append, size_zeroCells, hzs]
          simp only [List.size_toArray, hvl, hol]
          rw [Nat.sub_mul, Nat.add_mul]
          omega
        rw [← hC] at hrun
        have hCt : C.toList = olds ++ vs ++ (Builtin.zeroCells z.cells (grownCap w (n + m) cap e - (n + m))).toList := by
          rw [hC, Array.toList_append, Array.toList_append]
        have hcells : VRs ρ (xs.drop off ++ ys) (olds ++ vs) := hov.append hv
        have hxl : (xs ++ ys).length = off + (n * i.size + m * i.size) := by rw [List.length_append, hyl, ← htop]; omega
        have hor := hsim.cells hl hσ
        obtain ⟨_, hzp, hcr, hnew⟩ := hor
        obtain ⟨c0, rest, rfl, hhi, hlt, _, hne⟩ := hnew hmd
        have hlew : Below w.heap.size w (w.drew.alloc (.cells C e)) := below_push (o := .cells C e) rfl rfl rfl rfl
        have hle0 : LocLe (.cells i.size (c0 :: rest)) (.cells i.size (⟨w.heap.size, 0, off, (xs ++ ys).length, C.size⟩ :: c0 :: rest)) := ⟨rfl, fun c hc => ⟨c, List.mem_cons_of_mem _ hc, .refl c⟩⟩
        have hle1 : ρ.le (ρ.upd id (.cells i.size (⟨w.heap.size, 0, off, (xs ++ ys).length, C.size⟩ :: c0 :: rest))) := by
          intro j lj hj
          by_cases e1 : j = id
          · subst e1; rw [hl] at hj; obtain rfl := Option.some.inj hj; exact ⟨_, by simp [Rho.upd], hle0⟩
          · exact ⟨lj, by simp [Rho.upd, e1, hj], .refl _⟩
        have hblk : (w.drew.alloc (.cells C e)).heap[w.heap.size]? = some (.cells C e) := by
          show (w.heap.push (.cells C e))[w.heap.size]? = _
          rw [Array.getElem?_push, if_pos rfl]
        have hold : ∀ c ∈ c0 :: rest, c.hi ≤ xs.length := fun c hc => by
          rcases List.mem_cons.1 hc with rfl | hc
          · omega
          · exact Nat.le_of_lt (hlt c hc)
        have hOR : OR B (ρ.upd id (.cells i.size (⟨w.heap.size, 0, off, (xs ++ ys).length, C.size⟩ :: c0 :: rest))) (w.drew.alloc (.cells C e)) (.cells (xs ++ ys) i.size .multi)
            (.cells i.size (⟨w.heap.size, 0, off, (xs ++ ys).length, C.size⟩ :: c0 :: rest)) := by
          refine ⟨rfl, hpos, fun c hc => ?_, fun _ => ⟨_, c0 :: rest, rfl, rfl, fun c hc => ?_, fun hh => (by cases hh), fun c hc => ?_⟩⟩
          · rcases List.mem_cons.1 hc with rfl | hc
            · refine ⟨by show off ≤ (xs ++ ys).length; omega, Nat.le_refl _, fun j hj1 hj2 => ?_, fun hh => (by cases hh), fun _ => ⟨rfl, hsim.size, by show (xs ++ ys).length - off ≤ C.size; rw [hCs, hxl]; omega, C, e, (0, 0), hblk, rfl, .inl rfl⟩⟩
              simp only at hj1 hj2 ⊢
              have e1 : (xs.drop off ++ ys)[j - off]? = (xs ++ ys)[j]? := by
                rw [← List.drop_append_of_le_length (by omega), List.getElem?_drop, show off + (j - off) = j by omega]
              obtain ⟨vc, hvc, hr⟩ := hcells.get (show (xs.drop off ++ ys)[j - off]? = some ((xs ++ ys)[j]'hj2) by rw [e1]; exact List.getElem?_eq_getElem hj2)
              refine ⟨_, vc, List.getElem?_eq_getElem hj2, ?_, hr.mono hle1, ?_⟩
              · have hlt2 : j - off < (olds ++ vs).length := (List.getElem?_eq_some_iff.1 hvc).1
                have : C[j - off]? = some vc := by
                  rw [← Array.getElem?_toList, hCt, List.getElem?_append_left hlt2]; exact hvc
                simp only [World.cell?, hblk, Nat.zero_add, Option.isSome_none, Bool.false_eq_true, if_false, this]
              · rcases List.mem_append.1 (List.mem_of_getElem? hvc) with hh | hh
                · exact hoo vc hh
                · exact hone vc hh
            · have hcc := hcr c hc
              have hcb : c.blk < w.heap.size := by
                obtain ⟨_, _, _, C2, T2, f2, hh, _⟩ := hcc.own hmd
                exact (Array.getElem?_eq_some_iff.1 hh).1
              have hk := hcc.keep (w' := w.drew.alloc (.cells C e)) hle1 (hlew.block c.blk hcb)
              have hhh := hold c hc
              refine ⟨hk.lo, by rw [List.length_append]; omega, fun j hj1 hj2 => ?_, fun hh => (by cases hh), fun _ => hk.own hmd⟩
              obtain ⟨v, vc, q1, q2, q3, q4⟩ := hk.cell j hj1 hj2
              exact ⟨v, vc, by rw [List.getElem?_append_left (by omega)]; exact q1, q2, q3, q4⟩
          · have := hold c hc; rw [List.length_append, hyl]; omega
          · have hcb : c.blk < w.heap.size := by
              obtain ⟨_, _, _, C2, T2, f2, hh, _⟩ := (hcr c hc).own hmd
              exact (Array.getElem?_eq_some_iff.1 hh).1
            show c.blk ≠ w.heap.size
            omega
        have hOW : ∀ b, owns (.cells (xs ++ ys) i.size .multi) (.cells i.size (⟨w.heap.size, 0, off, (xs ++ ys).length, C.size⟩ :: c0 :: rest)) b → owns (.cells xs i.size md) (.cells i.size (c0 :: rest)) b ∨ w.heap.size ≤ b := by
          rintro b ⟨_, c, hc, rfl⟩
          rcases List.mem_cons.1 hc with rfl | hc
          · right; exact Nat.le_refl _
          · left; exact ⟨hmd, c, hc, rfl⟩
        obtain ⟨hle, hsim'⟩ := hsim.change (w' := w.drew.alloc (.cells C e)) hl hσ hle0 (hlew.mono hsim.size) (fun k hk _ => hlew.block k hk) hOR hOW
        refine ⟨_, _, _, _, _, hle, ?_, hsim', h, hrun⟩
        have hloc : (ρ.upd id (.cells i.size (⟨w.heap.size, 0, off, (xs ++ ys).length, C.size⟩ :: c0 :: rest))) id = some (.cells i.size (⟨w.heap.size, 0, off, (xs ++ ys).length, C.size⟩ :: c0 :: rest)) := by simp only [Rho.upd, if_true]
        have := VR.sl (off := off) (len := n + m) (cap := grownCap w (n + m) cap e) hloc List.mem_cons_self (Nat.le_refl _)
          (by show off + (n + m) * i.size ≤ (xs ++ ys).length; rw [hxl, Nat.add_mul]; exact Nat.le_refl _) hcap (by show 0 + (off - off) + _ ≤ C.size; rw [hCs]; omega)
        rw [Nat.sub_self, Nat.zero_add] at this
        exact this
      cases hs with
      | @sl _ _ _ _ cap cs c hl hcm h1 h2 h3 h4 =>
        have hor := hsim.cells hl hσ
        obtain ⟨_, hzp, hcr, hnew⟩ := hor
        obtain ⟨c0, rest, rfl, hhi, hlt, _, hne⟩ := hnew hmd
        have hc0 : c = c0 := by
          rcases List.mem_cons.1 hcm with e1 | e1
          · exact e1
          · have := hlt c e1; omega
        subst hc0
        by_cases hroom : n + m ≤ cap
        · have hcap2 := Nat.mul_le_mul_right i.size hroom
          rw [Nat.add_mul] at hcap2
          obtain ⟨hb0, _⟩ := (hcr c (by simp)).own hmd
          obtain ⟨ρ', hle, ⟨c0', hcle, hchi, hl'⟩, hsim', hst⟩ := Sim.write (P := P) hsim (md' := .multi) hl hσ hmd (by simp) (fun hh => (by cases hh)) (off := xs.length) (by omega) (Nat.le_refl _) (fun c hc => Nat.le_of_lt (hlt c hc)) hv hone (by rw [hyl]; omega)
          have exs : xs.take xs.length ++ ys ++ xs.drop (xs.length + ys.length) = xs ++ ys := by
            rw [List.take_length, List.drop_eq_nil_of_le (by omega), List.append_nil]
          rw [exs] at hsim' hchi
          have hst0 := (hst 0).resolve_right (by omega)
          have hrun := run_append_fits_of (ty := ty) (w' := w.setCells c.blk (xs.length - c.lo) vs) ht hu hi (base := some ⟨c.blk, c.boff + (off - c.lo), none⟩) (n := n) (cap := cap) hx1 hx2 hroom (fun a ha => by
            obtain rfl := Option.some.inj ha
            rw [Addr.add_none]
            rw [Nat.sub_zero] at hst0
            rw [show c.boff + (off - c.lo) + n * i.size = c.boff + (xs.length - c.lo) by omega]
            simpa using hst0) (fun hh => by cases hh)
          refine ⟨_, _, _, ρ', _, hle, ?_, hsim', h, hrun⟩
          obtain ⟨e1, e2, e3, e4, e5⟩ := hcle
          have := VR.sl (ρ := ρ') (off := off) (len := n + m) (cap := cap) hl' List.mem_cons_self (by omega) (by rw [hchi, List.length_append, hyl, Nat.add_mul]; omega) hroom (by rw [e2, e3, e5]; exact h4)
          rw [e1, e2, e3] at this
          exact this
        · obtain ⟨olds, o1, o2, o3, o4⟩ := (hcr c (by simp)).list (off := off) (n := n * i.size) h1 h2
          rw [List.take_of_length_le (by rw [List.length_drop]; omega)] at o2
          refine grow _ cap olds _ rfl (by omega) hl o1 o2 o4 ?_
          exact run_firstCells_some w.drew i.size n _ n cap olds o1 fun j v hj => by rw [Addr.add_none]; exact o3 j v hj
      | slEnd ad hl =>
        refine grow (some ad) 0 [] _ rfl (by omega) hl (by simp) (by rw [List.drop_eq_nil_of_le (by omega)]; exact .nil) (fun u hu => by simp at hu) ?_
        exact run_firstCells_some w.drew i.size 0 ad 0 0 [] (by simp) (fun j v hj => by simp at hj)

theorem append_ok {t u : TypeId} (ty : TypeId) (hu : NoInt P u) {s x : AV} {sc xc : Value} (hs : VR ρ s sc) (hx : VR ρ x xc) :
    EffOK P B w0 ρ w (fun K => appendK P t s x σ K) (Builtin.append_ #[t, u] ty #[sc, xc]) := by
  intro K h
  simp only at h
  unfold appendK at h
  split at h
  · rename_i e ht
    split at h
    · rename_i ie hie
      cases hg : (ie.size == 0 || ie.bytes == 0 || !zeroFits ie) with
      | true => rw [hg] at h; cases h
      | false =>
        rw [hg, cond_false] at h
        simp only [Bool.or_eq_false_iff, beq_eq_false_iff_ne, Bool.not_eq_false'] at hg
        obtain ⟨⟨hpos, hbpos⟩, hzz⟩ := hg
        obtain ⟨z, hz, hzs⟩ : ∃ z, ie.zero = some z ∧ z.cells.size = ie.size := by
          unfold zeroFits at hzz
          cases hz : ie.zero with
          | none => rw [hz] at hzz; cases hzz
          | some z => rw [hz] at hzz; exact ⟨z, rfl, by simpa using hzz⟩
        -- nothing is appended
        have same : ∀ (a : SA) (n : Nat), VR ρ (.sl a n) sc → (Builtin.lenOf xc).run P w = .ok 0 w → (Builtin.firstCells ie.size 0 xc).run P w = .ok #[] w → K (.sl a n) σ = true →
            ∃ v vc σ' ρ' w', ρ.le ρ' ∧ VR ρ' v vc ∧ Sim B w0 ρ' σ' w' ∧ K v σ' = true ∧ (Builtin.append_ #[t, u] ty #[sc, xc]).run P w = .ok vc w' := by
          intro a n hsn h1 h2 hK
          obtain ⟨base, cap, rfl, hc⟩ : ∃ base cap, sc = .slice base n cap ∧ n ≤ cap := by
            cases hsn with
            | slNil => exact ⟨none, 0, rfl, Nat.le_refl _⟩
            | slZero ad => exact ⟨some ad, 0, rfl, Nat.le_refl _⟩
            | @sl _ _ _ _ cap _ _ _ _ _ _ h3 _ => exact ⟨_, cap, rfl, h3⟩
            | slEnd ad _ => exact ⟨some ad, 0, rfl, Nat.le_refl _⟩
          have hrun := run_append_fits_of (ty := ty) (w' := w) ht hu hie (base := base) h1 h2 (by omega) (fun a _ => by simp [storeCells]) (fun _ => rfl)
          exact ⟨_, _, σ, ρ, w, .refl ρ, hsn, hsim, hK, hrun⟩
        split at h
        · rename_i a n b m
          have hb := hx
          cases hm : (m == 0) with
          | true =>
            rw [hm, cond_true] at h
            obtain rfl : m = 0 := by simpa using hm
            refine same a n hs ?_ ?_ h
            · cases hb <;> simp [Builtin.lenOf]
            · cases hb <;> simp [Builtin.firstCells, loadCells, loadCellsFrom]
          | false =>
            rw [hm, cond_false] at h
            have hm' : 0 < m := by have : m ≠ 0 := by simpa using hm
                                   omega
            cases hf : decide ((n + m) * ie.bytes ≤ 140737488355328) with
            | false => rw [hf] at h; cases h
            | true =>
              rw [hf, cond_true] at h
              obtain ⟨vs, ys, h, hv, _, hvl, hone, hcase⟩ := seen_ok hsim hb h
              rcases hcase with ⟨ad, cap, rfl, hload, hcell⟩ | ⟨rfl, hm0⟩
              · have hmul : n + m ≤ (n + m) * ie.bytes := Nat.le_mul_of_pos_right _ (by omega)
                have hf' : (n + m) * ie.bytes ≤ 140737488355328 := by simpa using hf
                refine into_ok (P := P) (ty := ty) hsim ht hu hie hz hzs (by omega) hs ⟨vs, hvl, hv, hone, by simp [Builtin.lenOf], hload, ?_⟩ hm' hf' (by omega) K h
                exact run_firstCells_some w.drew ie.size m ad m cap vs hvl hcell
              · omega
        · rename_i a n bs
          obtain ⟨b, rfl, rfl⟩ := hx.of_str
          have hls : (Builtin.lenOf (.string b)).run P w = .ok b.size w := by simp [Builtin.lenOf]
          cases hm : (bytesL b).isEmpty with
          | true =>
            rw [hm, cond_true] at h
            have hb0 : b.size = 0 := by rw [← bytesL_length]; simpa using hm
            have hb1 : b.data = #[] := by apply Array.eq_empty_of_size_eq_zero; exact hb0
            refine same a n hs (by rw [hls, hb0]) ?_ h
            simp [Builtin.firstCells]
          | false =>
            rw [hm, cond_false] at h
            have hm' : 0 < b.size := by
              rw [← bytesL_length]
              cases hq : bytesL b with
              | nil => rw [hq] at hm; cases hm
              | cons x y => simp
            cases hf : (decide ((n + (bytesL b).length) * ie.bytes ≤ 140737488355328) && ie.size == 1) with
            | false => rw [hf] at h; cases h
            | true =>
              rw [hf, cond_true] at h
              simp only [Bool.and_eq_true, decide_eq_true_eq, beq_iff_eq, bytesL_length] at hf
              obtain ⟨hf', h1⟩ := hf
              rw [bytesL_length] at h
              have hmul : n + b.size ≤ (n + b.size) * ie.bytes := Nat.le_mul_of_pos_right _ (by omega)
              have hv : VRs ρ ((bytesL b).map (AV.int .u8 ·)) (b.data.toList.map fun x => Value.int .u8 x.toNat) := by
                unfold bytesL
                rw [List.map_map]
                generalize b.data.toList = l
                induction l with
                | nil => exact .nil
                | cons x l ih => exact .cons (.int .u8 _) ih
              have hfc : ∀ w', (Builtin.firstCells 1 b.size (.string b)).run P w' = .ok (b.data.toList.map fun x => Value.int .u8 x.toNat).toArray w' := fun w' => by
                have hex : b.extract 0 b.size = b := by
                  cases b with
                  | mk d =>
                    apply ByteArray.ext
                    rw [ByteArray.data_extract]
                    exact Array.extract_size
                simp only [Builtin.firstCells, hex, Sem.run_pure]
                congr 1
                apply Array.ext'
                simp
              have := into_ok (P := P) (ty := ty) hsim ht hu hie hz hzs (by omega) hs (ys := (bytesL b).map (AV.int .u8 ·)) (m := b.size) (xc := .string b)
                ⟨_, by rw [List.length_map, Array.length_toList, h1, Nat.mul_one]; rfl, hv, by intro u hu; obtain ⟨x, _, rfl⟩ := List.mem_map.1 hu; rfl, hls, by rw [h1]; exact hfc w, by rw [h1]; exact hfc w.drew⟩ hm' hf' (by omega) K
              rw [h1] at this
              exact this h
        · cases h
    · cases h
  · cases h

end
end Go.AM
