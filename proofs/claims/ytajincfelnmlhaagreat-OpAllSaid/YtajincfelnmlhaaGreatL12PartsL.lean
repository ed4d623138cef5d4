/- OpParts: each operation is of one shard; parts have them in their order; together they are all. -/
import Derived.Test.YtajincfelnmlhaaGreatL12Span
import Derived.Test.YtajincfelnmlhaaGreatGmParts
import Derived.Test.YtajincfelnmlhaaGreatPParts
namespace Go.Proofs.YtajincfelnmlhaaGreat
set_option maxRecDepth 100000
open Go Go.AM Go.AM.St
/-- A row that is read, off a place. -/
def RwN (o : Option Nat) (σ : H) (z : Nat) (a : AM.SA) (n : Nat) (cs : List AV) : Prop := Rw σ z a n cs ∧ ∀ id off z', o = some id → a ≠ .at id off z'
theorem RwN.mono {o : Option Nat} {σ σ' : H} {z n : Nat} {a : AM.SA} {cs : List AV} (h : RwN o σ z a n cs) (p : σ <+: σ') : RwN o σ' z a n cs := ⟨h.1.mono p, h.2⟩
theorem RwN.set {id : Nat} {σ : H} {z n : Nat} {a : AM.SA} {cs : List AV} (h : RwN (some id) σ z a n cs) (x : AO) : RwN (some id) (σ.set id x) z a n cs := by
  refine ⟨?_, h.2⟩
  rcases h.1 with g | g | ⟨j, off, xs, md, e, h2, h3, h4⟩
  · exact .inl g
  · exact .inr (.inl g)
  · refine .inr (.inr ⟨j, off, xs, md, e, get_set_ne h2 (fun ej => ?_) _, h3, h4⟩)
    subst ej
    exact h.2 _ _ _ rfl e
/-- The parts' row, off a place, and what they read. -/
structure PtN (o : Option Nat) (σ : H) (B : Nat) (ps : List PC) : Prop where
  row : ∃ md, σ[B]? = some (AO.cells (ps.map pcell) 1 md)
  base : ∀ id, o = some id → B ≠ id
  rw : ∀ p ∈ ps, RwN o σ 1 p.2.1 p.2.2.length (iks .i64 p.2.2)
theorem PtN.mono {o : Option Nat} {σ σ' : H} {B : Nat} {ps : List PC} (h : PtN o σ B ps) (p : σ <+: σ') : PtN o σ' B ps := by
  obtain ⟨md, hr⟩ := h.row
  exact ⟨⟨md, prefix_get p hr⟩, h.base, fun q hq => (h.rw q hq).mono p⟩
theorem PtN.set {id : Nat} {σ : H} {B : Nat} {ps : List PC} (h : PtN (some id) σ B ps) (x : AO) : PtN (some id) (σ.set id x) B ps := by
  obtain ⟨md, hr⟩ := h.row
  exact ⟨⟨md, get_set_ne hr (h.base _ rfl) _⟩, h.base, fun q hq => (h.rw q hq).set x⟩
/-- The row of what was seen. -/
def SeenAt (o : Option Nat) (σ : H) (a : AM.SA) (ys : List Int) : Prop :=
  match o with
  | none => a = .zero ∧ ys = []
  | some id => a = .at id 0 1 ∧ σ[id]? = some (AO.cells (iks .i64 ys) 1 .own)
theorem SeenAt.mono {o : Option Nat} {σ σ' : H} {a : AM.SA} {ys : List Int} (h : SeenAt o σ a ys) (p : σ <+: σ') : SeenAt o σ' a ys := by
  unfold SeenAt at h ⊢
  split at h
  · exact h
  · exact ⟨h.1, prefix_get p h.2⟩
theorem make37 {σ : H} {m : Nat} {K : AV → H → Bool} (hm : m ≤ 10) (h0 : m = 0 → K (.sl .zero 0) σ = true) (h1 : 1 ≤ m → K (.sl (.at σ.length 0 1) m) (σ ++ [.cells (iks .i64 (List.replicate m 0)) 1 .own]) = true) :
    makeSliceK Tryz.prog 37 (.int .i64 (m : Int)) (.int .i64 (m : Int)) σ K = true := by
  have : m = 0 ∨ m = 1 ∨ m = 2 ∨ m = 3 ∨ m = 4 ∨ m = 5 ∨ m = 6 ∨ m = 7 ∨ m = 8 ∨ m = 9 ∨ m = 10 := by omega
  rcases this with rfl | h
  · exact h0 rfl
  · rcases h with rfl | rfl | rfl | rfl | rfl | rfl | rfl | rfl | rfl | rfl
    all_goals exact h1 (by omega)
theorem makeS {σ : H} {m : Nat} {K : AV → H → Bool} (hm : m ≤ 10) (hK : ∀ oS a σ', σ <+: σ' → SeenAt oS σ' a (List.replicate m 0) → (∀ id, oS = some id → id = σ.length ∧ id < σ'.length) → K (.sl a m) σ' = true) :
    makeSliceK Tryz.prog 37 (.int .i64 (m : Int)) (.int .i64 (m : Int)) σ K = true :=
  make37 hm (fun e => by have := hK none .zero σ List.prefix_rfl ⟨rfl, by rw [e]; rfl⟩ nofun; rwa [e] at this)
    fun _ => hK (some σ.length) (.at σ.length 0 1) _ (List.prefix_append _ _) ⟨rfl, get_new _ _⟩ fun id e => by cases e; exact ⟨rfl, by simp⟩
theorem idx37 {id n : Nat} {i : Nat} {k : IntKind} {y : Int} {K : AV → Bool} (hy : y = (i : Int)) (hi : i < n) (hK : K (.ptr (some ⟨id, i, 0, 1⟩)) = true) : indexAddrK Tryz.prog 37 (.sl (.at id 0 1) n) (.int k y) K = true := by
  subst hy
  unfold indexAddrK
  rw [Tryz.underlying37]
  have e : ∀ K : Nat → Bool, esizeK Tryz.prog 3 K = K 1 := fun _ => rfl
  simp only
  rw [e]
  refine bif_pos ?_ ?_
  · simp only [beq_self_eq_true, Bool.true_and, Bool.and_eq_true, decide_eq_true_eq]; omega
  · simpa using hK
theorem modP {i : Int} : ∃ m : Nat, 1 ≤ m ∧ m ≤ 3 ∧ IntKind.i64.wrap (1 + (IntKind.i64.wrap (i.tmod 3 + 3)).tmod 3) = (m : Int) := by
  obtain ⟨k, hk, e⟩ := modN (i := i) 3 (by decide) (by decide)
  refine ⟨k + 1, by omega, by omega, ?_⟩
  have e' : (IntKind.i64.wrap (i.tmod 3 + 3)).tmod 3 = (k : Int) := e
  rw [e', wrap_i64 (by omega) (by omega)]
  omega
theorem pick_at {l : List OpV} {xs : List Int} {c k : Nat} (hc : c < xs.length) (hx : xs[c] = (k : Int)) (hk : k < l.length) : (pick l xs)[c]? = some l[k] := by
  unfold pick
  rw [List.getElem?_map, List.getElem?_eq_getElem hc, hx]
  show some (l.getD (Int.toNat (k : Int)) o0) = _
  rw [Int.toNat_natCast, List.getD_eq_getElem?_getD, List.getElem?_eq_getElem hk]
  rfl
theorem idxN {σ : H} {s : AM.SA} {l : List OpV} {N : Nat} (hN : N = l.length) (hs : Rw σ 5 s N (opvs l)) {k : IntKind} {y : Int} {i : Nat} {K : AV → Bool} (hy : y = (i : Int)) (hi : i < l.length) (hK : ∀ p, Elem σ 5 p (opv l[i]) → K (.ptr (some p)) = true) :
    indexAddrK Tryz.prog 24 (.sl s N) (.int k y) K = true := by
  subst hN
  exact idxV hs hy hi hK
theorem loop_seen {σ : H} {S k : Nat} {xs : List Int} {K : H → Bool} (hr : σ[S]? = some (AO.cells (iks .i64 xs) 1 .own)) (hk : k < xs.length) {v : Int} (hK : K (σ.set S (.cells (iks .i64 (xs.set k v)) 1 .own)) = true) :
    storeK Tryz.prog 3 (.ptr (some ⟨S, k, 0, 1⟩)) (.int .i64 v) σ K = true := by
  refine storeK_of rfl rfl (by decide) hr rfl (by rw [iks_len]; omega) ?_
  have e : (iks .i64 xs).set (k + 0) (.int .i64 v) = iks .i64 (xs.set k v) := by
    rw [Nat.add_zero]; simp [iks, List.map_set]
  rw [e]
  exact hK
attribute [local irreducible] IntKind.wrap Int.fdiv Int.tdiv Int.tmod BitVec.ofInt appendK sliceK indexAddrK ldK storeK seenK makeSliceK lookupK updateK deleteK mapK rangeK nextK buildSliceK indexK
variable {D : Drawer} {σ : H}
theorem opParts_run {n M : Nat} {s : AM.SA} {l : List OpV} {q : Int} (hD : ByPlan Tryz.prog D) (hM : M ≤ 9223372036854775808) (hn : M + 200000 ≤ n) (hs : Rw σ 5 s l.length (opvs l)) (ho : ∀ o ∈ l, ∀ b ∈ o.s, b < 256) (hb : ∀ o ∈ l, o.s.length < M) :
    acall Tryz.prog tab D n 6 [.sl s l.length, .int .i64 q] σ isTrue = true := by
  obtain ⟨n, rfl, hn⟩ := up (n := n) (k := M + 199999) (by omega)
  obtain ⟨m, m1, m3, em⟩ := modP (i := q)
  conv => lhs; whnf
  refine begun_spec ?_
  conv => lhs; whnf
  refine ops_spec (by omega) hs fun o a σ1 p1 ow => ?_
  have hl2 : (l.take 10).length ≤ 10 := by rw [List.length_take]; omega
  have ho2 : ∀ o ∈ l.take 10, ∀ b ∈ o.s, b < 256 := fun o h => ho o (List.mem_of_mem_take h)
  have hb2 : ∀ o ∈ l.take 10, o.s.length < M := fun o h => hb o (List.mem_of_mem_take h)
  clear hs ho hb
  generalize l.take 10 = l at ow hl2 ho2 hb2 ⊢
  conv => lhs; whnf
  generalize hx : IntKind.i64.wrap (1 + (IntKind.i64.wrap (q.tmod 3 + 3)).tmod 3) = x
  obtain rfl : x = (m : Int) := hx.symm.trans em
  clear hx em
  refine makeS hl2 fun oS aS σ2 p2 sn hS => ?_
  have hops : RwN oS σ2 5 a l.length (opvs l) := by
    refine ⟨ow.rw.mono p2, fun id off z e => ?_⟩
    obtain ⟨e1, _⟩ := hS id e
    intro e2
    cases o with
    | none =>
      rcases ow.1 with e3 | e3 <;> rw [e3] at e2 <;> cases e2
    | some j =>
      have := ow.lt
      have e3 := ow.1
      rw [e3] at e2
      cases e2
      omega
  conv => lhs; whnf
  refine parts_spec (l := l) hM (by omega) hl2 (by omega) hops.1 ho2 hb2 (fun h => absurd h (by omega)) fun m' hm' _ _ σ3 B ps p3 pt hps => ?_
  obtain rfl : m' = m := by omega
  clear hm'
  have ptn : PtN oS σ3 B ps := by
    refine ⟨⟨_, pt.row⟩, fun id e => ?_, fun p hp => ⟨(pt.own p hp).1.rw, fun id off z e e2 => ?_⟩⟩
    · have := pt.base
      have := (hS id e).2
      omega
    · have h1 := (pt.own p hp).1
      have h2 := (hS id e).2
      unfold Own at h1
      split at h1
      · rcases h1.1 with e3 | e3 <;> rw [e3] at e2 <;> cases e2
      · obtain ⟨off, xs, md, e3, h3, _⟩ := h1
        rw [e3] at e2
        cases e2
        omega
  have hf : ∀ i, i < l.length → shF l m' i < m' := fun i hi => shardN_lt m1
  have hpl : ps.length = m' := by rw [← partsI_len (shF l m') m' l.length]; exact (congrArg List.length hps).symm ▸ (List.length_map ..).symm
  have hpg : ∀ (i : Nat) (hi : i < ps.length), ps[i].2.2 = (partF (shF l m') l.length i).map fun (k : Nat) => (k : Int) := fun i hi => by
    have h1 := partsI_get hf i (by omega)
    rw [← show ps.map (fun p => p.2.2) = partsI (shF l m') m' l.length from hps, List.getElem?_map, List.getElem?_eq_getElem hi] at h1
    exact Option.some.inj h1
  have sn3 := sn.mono p3
  have hops3 := hops.mono p3
  rw [← seenV_start (shF l m')] at sn3
  clear sn hops pt hS p1 p2 p3 ow hps
  conv => lhs; whnf
  rw [show (!((m' : Int) == (m' : Int))) = false by simp]
  conv => lhs; whnf
  refine loop_rule (m := 451) (fun r fr τ => ∃ (z : Int) (i : Nat), z = (i : Int) ∧ i + r = m' ∧ RwN oS τ 5 a l.length (opvs l) ∧ PtN oS τ B ps ∧ SeenAt oS τ aS (seenV (shF l m') l.length i 0) ∧
    fr = [.sl a l.length, .int .i64 (m' : Int), .bad, .bad, .bad, .bad, .sl aS l.length, .sl (.at B 0 1) m', .int .i64 z, .bad, .bad, .bad, .bad, .bad, .bad, .bad, .bad, .bad, .bad, .bad, .bad, .bad, .bad, .bad, .bad, .bad, .bad, .bad, .bad, .bad, .bad, .bad, .bad, .bad, .bad, .bad, .bad, .bad, .bad, .bad, .bad, .bad, .bad, .bad, .bad, .bad, .bad, .bad, .bad, .bad, .bad, .bad, .bad, .bad, .bad, .bad, .bad, .bad, .bad, .bad, .bad, .bad, .bad, .bad, .bad, .bad, .bad, .bad, .bad, .bad, .bad, .bad, .bad, .bad, .bad, .bad, .bad, .bad, .bad, .bad, .bad, .bad, .bad, .bad, .bad, .bad, .bad, .bad, .bad, .bad, .bad, .bad, .bad, .bad, .bad, .bad, .bad, .bad, .bad, .bad, .bad, .bad, .bad, .bad, .bad, .bad, .bad, .bad, .bad, .bad, .bad, .bad, .bad, .bad, .bad, .bad, .bad, .bad, .bad, .bad, .bad, .bad, .bad, .bad, .bad, .bad, .bad, .bad, .bad]) ?_ _ m' _ _ (by omega) ⟨_, 0, rfl, by omega, hops3, ptn, sn3, rfl⟩
  rintro r fr τ C ⟨z, i, rfl, hq, hops, hpt, hsn, rfl⟩ next fin
  conv => lhs; whnf
  by_cases hi : i < m'
  · rw [show decide ((i : Int) < (m' : Int)) = true from decide_eq_true (by omega)]
    have hip : i < ps.length := by omega
    obtain ⟨ax, xs, hcell, hrdP, hxs⟩ : ∃ (ax : AM.SA) (xs : List Int), (ps.map pcell)[i]? = some (.sl ax xs.length) ∧ (∀ τ, PtN oS τ B ps → RwN oS τ 1 ax xs.length (iks .i64 xs)) ∧ xs = (partF (shF l m') l.length i).map fun (k : Nat) => (k : Int) :=
      ⟨ps[i].2.1, ps[i].2.2, by simp [hip, pcell], fun τ h => h.rw _ (List.getElem_mem hip), hpg i hip⟩
    obtain ⟨md, hrow⟩ := hpt.row
    conv => lhs; whnf
    refine of_op_spec hM (by omega) hl2 (by omega) hops.1 ho2 hb2 fun o4 a4 σ4 p4 w4 => ?_
    have eo : ofV l i m' = pick l xs := by
      unfold ofV
      rw [if_neg (by omega)]
      have e1 : ((m' : Int)).toNat = m' := rfl
      have e2 : ((i : Int)).toNat = i := rfl
      rw [e1, e2, List.getD_eq_getElem?_getD, partsI_get hf i hi, hxs]
      rfl
    rw [eo] at w4 ⊢
    have lp : (pick l xs).length = xs.length := by simp [pick]
    rw [lp] at w4
    conv => lhs; whnf
    refine idxRow rfl hi ?_
    conv => lhs; whnf
    refine ldRow (prefix_get p4 hrow) hcell rfl ?_
    conv => lhs; whnf
    rw [lp]
    rw [show (!((xs.length : Int) == (xs.length : Int))) = false by simp]
    conv => lhs; whnf
    have hopf : RwN oS σ4 5 a4 xs.length (opvs (pick l xs)) := by
      refine ⟨w4.rw, fun id off z e e2 => ?_⟩
      subst e
      have hlt := get_lt hsn.2
      cases o4 with
      | none => rcases w4.1 with e3 | e3 <;> rw [e3] at e2 <;> cases e2
      | some jj =>
        have e3 := w4.1
        have e4 := w4.2.1
        rw [e3] at e2
        cases e2
        omega
    have hops4 := hops.mono p4
    have hpt4 := hpt.mono p4
    have hsn4 := hsn.mono p4
    have hlen : xs.length = (partF (shF l m') l.length i).length := by rw [hxs, List.length_map]
    have hle : xs.length ≤ l.length := by
      have := List.length_filter_le (fun k => shF l m' k == i) (List.range l.length)
      rw [List.length_range] at this
      unfold partF at hlen
      omega
    clear hops hpt hsn hrow p4 w4
    refine loop_rule (m := 1987) (fun r2 fr τ => ∃ (z : Int) (c : Nat), z = (c : Int) ∧ c + r2 = xs.length ∧ RwN oS τ 5 a l.length (opvs l) ∧ PtN oS τ B ps ∧ RwN oS τ 5 a4 xs.length (opvs (pick l xs)) ∧ SeenAt oS τ aS (seenV (shF l m') l.length i c) ∧
      fr = [.sl a l.length, .int .i64 (m' : Int), .bad, .bad, .bad, .bad, .sl aS l.length, .sl (.at B 0 1) m', .int .i64 (i : Int), .sl a4 xs.length, .int .i64 z, .bad, .bad, .bad, .bad, .bad, .bad, .bad, .bad, .bad, .bad, .bad, .bad, .bad, .bad, .bad, .bad, .bad, .bad, .bad, .bad, .bad, .bad, .bad, .bad, .bad, .bad, .bad, .bad, .bad, .bad, .bad, .bad, .bad, .bad, .bad, .bad, .bad, .bad, .bad, .bad, .bad, .bad, .bad, .bad, .bad, .bad, .bad, .bad, .bad, .bad, .bad, .bad, .bad, .bad, .bad, .bad, .bad, .bad, .bad, .bad, .bad, .bad, .bad, .bad, .bad, .bad, .bad, .bad, .bad, .bad, .bad, .bad, .bad, .bad, .bad, .bad, .bad, .bad, .bad, .bad, .bad, .bad, .bad, .bad, .bad, .bad, .bad, .bad, .bad, .bad, .bad, .bad, .bad, .bad, .bad, .bad, .bad, .bad, .bad, .bad, .bad, .bad, .bad, .bad, .bad, .bad, .bad, .bad, .bad, .bad, .bad, .bad, .bad, .bad, .bad, .bad, .bad, .bad]) ?_ _ xs.length _ _ (by omega) ⟨_, 0, rfl, by omega, hops4, hpt4, hopf, hsn4, rfl⟩
    clear hops4 hpt4 hsn4 hopf
    rintro r2 fr τ2 C2 ⟨z, c, rfl, hq2, hops, hpt, hopf, hsn, rfl⟩ next2 fin2
    obtain ⟨md, hrow⟩ := hpt.row
    have hrd := (hrdP _ hpt).1
    with_unfolding_all conv => lhs; whnf
    refine bif_pos ?_ ?_
    · show (true && (decide (0 ≤ (i : Int)) && decide ((i : Int) < (m' : Int)))) = true
      rw [decide_eq_true (show 0 ≤ (i : Int) by omega), decide_eq_true (show (i : Int) < (m' : Int) by omega)]
      rfl
    rw [show (0 + Int.toNat (i : Int) * 1) = i by rw [Int.toNat_natCast]; omega]
    conv => lhs; whnf
    refine ldRow hrow hcell rfl ?_
    conv => lhs; whnf
    by_cases hc : c < xs.length
    · rw [show decide ((c : Int) < (xs.length : Int)) = true from decide_eq_true (by omega)]
      have hcP : c < (partF (shF l m') l.length i).length := by omega
      obtain ⟨hk1, hk2⟩ := partF_mem.1 (List.getElem_mem hcP)
      have hxc : xs[c] = ((partF (shF l m') l.length i)[c] : Int) := by simp only [hxs, List.getElem_map]
      have hnot := seenV_at hcP
      have hstep := seenV_step hcP
      have hord : ∀ (h : 0 < c), (partF (shF l m') l.length i)[c - 1] < (partF (shF l m') l.length i)[c] := fun h => List.pairwise_iff_getElem.1 (partF_sorted _ _ _) (c - 1) c (by omega) hcP (by omega)
      have hpk : ∀ (h : c < (pick l xs).length), (pick l xs)[c] = l[(partF (shF l m') l.length i)[c]] := fun h => by
        have := pick_at (l := l) (k := (partF (shF l m') l.length i)[c]) hc hxc hk1
        rw [List.getElem?_eq_getElem h] at this
        exact Option.some.inj this
      conv => lhs; whnf
      refine idxRow rfl hi ?_
      conv => lhs; whnf
      refine ldRow hrow hcell rfl ?_
      conv => lhs; whnf
      refine it44.idx hrd rfl hc fun pe he => ?_
      conv => lhs; whnf
      refine it44.ld he ?_
      rw [hxc]
      generalize hkk : (partF (shF l m') l.length i)[c] = k at *
      conv => lhs; whnf
      refine goK hD plan6x20 ord6x20 fun KK hKK => ?_
      conv => lhs; whnf
      rw [show decide ((k : Int) ≥ (l.length : Int)) = false from decide_eq_false (by omega)]
      conv => lhs; whnf
      by_cases hc0 : 0 < c
      case pos =>
        rw [show decide ((c : Int) > 0) = true from decide_eq_true (by omega)]
        have ho1 := hord hc0
        have hxc1 : xs[c - 1] = ((partF (shF l m') l.length i)[c - 1] : Int) := by simp only [hxs, List.getElem_map]
        with_unfolding_all conv => lhs; whnf
        refine bif_pos ?_ ?_
        · show (true && (decide (0 ≤ (i : Int)) && decide ((i : Int) < (m' : Int)))) = true
          rw [decide_eq_true (show 0 ≤ (i : Int) by omega), decide_eq_true (show (i : Int) < (m' : Int) by omega)]
          rfl
        rw [show (0 + Int.toNat (i : Int) * 1) = i by rw [Int.toNat_natCast]; omega]
        conv => lhs; whnf
        refine ldRow hrow hcell rfl ?_
        conv => lhs; whnf
        refine it44.idx (i := c - 1) hrd (by rw [wrap_i64 (by omega) (by omega)]; omega) (by omega) fun pg hg => ?_
        conv => lhs; whnf
        refine it44.ld hg ?_
        conv => lhs; whnf
        rw [hxc1]
        rw [show decide ((k : Int) ≤ (((partF (shF l m') l.length i)[c - 1] : Nat) : Int)) = false from decide_eq_false (by omega)]
        conv => lhs; whnf
        refine idxN lp.symm hopf.1 rfl (by omega) fun pf hf2 => ?_
        rw [hpk] at hf2
        conv => lhs; whnf
        refine ldE hf2 ?_
        conv => lhs; whnf
        refine idxV hops.1 rfl hk1 fun po ho3 => ?_
        conv => lhs; whnf
        refine ldE ho3 ?_
        conv => lhs; whnf
        rw [show (!(l[k].kind == l[k].kind && (ints l[k].s == ints l[k].s && (ints l[k].k == ints l[k].k && (ints l[k].t == ints l[k].t && (l[k].n == l[k].n && true)))))) = false by simp]
        conv => lhs; whnf
        refine idxV hops.1 rfl hk1 fun po ho4 => ?_
        obtain ⟨pid, pb, pd, pz⟩ := po
        obtain rfl : pd = 0 := ho4.1
        obtain rfl : pz = 5 := ho4.2.1
        conv => lhs; whnf
        refine ldEF ho4 ?_
        conv => lhs; whnf
        have hbk := hb2 _ (List.getElem_mem hk1)
        refine rshards_spec (by omega) (ho2 _ (List.getElem_mem hk1)) (by omega) _ fun σ5 p5 => ?_
        have hsh : shardN l[k].s m' = i := by
          rw [← hk2]
          unfold shF
          rw [List.getD_eq_getElem?_getD, List.getElem?_eq_getElem hk1]
          rfl
        rw [hsh]
        conv => lhs; whnf
        rw [show (!((i : Int) == (i : Int))) = false by simp]
        conv => lhs; whnf
        subst hKK
        have hsn5 := hsn.mono p5
        have hops5 := hops.mono p5
        have hopf5 := hopf.mono p5
        have hpt5 := hpt.mono p5
        cases oS with
        | none =>
          have := hsn.2
          rw [this] at hnot
          cases hnot
        | some S =>
          obtain ⟨rfl, hS⟩ := hsn5
          conv => lhs; whnf
          refine idx37 rfl hk1 ?_
          conv => lhs; whnf
          refine ldF Tryz.underlying3 rfl rfl hS (by rw [Nat.add_zero, iks, List.getElem?_map, hnot]; rfl) ?_
          conv => lhs; whnf
          refine idx37 rfl hk1 ?_
          conv => lhs; whnf
          refine loop_seen hS (by rw [seenV_len]; exact hk1) ?_
          rw [show IntKind.i64.wrap (0 + 1) = 1 from wrap_i64 (by omega) (by omega), hstep]
          conv => lhs; whnf
          refine next2 (r2 - 1) _ _ (by omega) ⟨_, c + 1, inc_i64 (by omega), by omega, hops5.set _, hpt5.set _, hopf5.set _, ⟨rfl, get_set hS _⟩, rfl⟩
      case neg =>
        rw [show decide ((c : Int) > 0) = false from decide_eq_false (by omega)]
        conv => lhs; whnf
        refine idxN lp.symm hopf.1 rfl (by omega) fun pf hf2 => ?_
        rw [hpk] at hf2
        conv => lhs; whnf
        refine ldE hf2 ?_
        conv => lhs; whnf
        refine idxV hops.1 rfl hk1 fun po ho3 => ?_
        conv => lhs; whnf
        refine ldE ho3 ?_
        conv => lhs; whnf
        rw [show (!(l[k].kind == l[k].kind && (ints l[k].s == ints l[k].s && (ints l[k].k == ints l[k].k && (ints l[k].t == ints l[k].t && (l[k].n == l[k].n && true)))))) = false by simp]
        conv => lhs; whnf
        refine idxV hops.1 rfl hk1 fun po ho4 => ?_
        obtain ⟨pid, pb, pd, pz⟩ := po
        obtain rfl : pd = 0 := ho4.1
        obtain rfl : pz = 5 := ho4.2.1
        conv => lhs; whnf
        refine ldEF ho4 ?_
        conv => lhs; whnf
        have hbk := hb2 _ (List.getElem_mem hk1)
        refine rshards_spec (by omega) (ho2 _ (List.getElem_mem hk1)) (by omega) _ fun σ5 p5 => ?_
        have hsh : shardN l[k].s m' = i := by
          rw [← hk2]
          unfold shF
          rw [List.getD_eq_getElem?_getD, List.getElem?_eq_getElem hk1]
          rfl
        rw [hsh]
        conv => lhs; whnf
        rw [show (!((i : Int) == (i : Int))) = false by simp]
        conv => lhs; whnf
        subst hKK
        have hsn5 := hsn.mono p5
        have hops5 := hops.mono p5
        have hopf5 := hopf.mono p5
        have hpt5 := hpt.mono p5
        cases oS with
        | none =>
          have := hsn.2
          rw [this] at hnot
          cases hnot
        | some S =>
          obtain ⟨rfl, hS⟩ := hsn5
          conv => lhs; whnf
          refine idx37 rfl hk1 ?_
          conv => lhs; whnf
          refine ldF Tryz.underlying3 rfl rfl hS (by rw [Nat.add_zero, iks, List.getElem?_map, hnot]; rfl) ?_
          conv => lhs; whnf
          refine idx37 rfl hk1 ?_
          conv => lhs; whnf
          refine loop_seen hS (by rw [seenV_len]; exact hk1) ?_
          rw [show IntKind.i64.wrap (0 + 1) = 1 from wrap_i64 (by omega) (by omega), hstep]
          conv => lhs; whnf
          refine next2 (r2 - 1) _ _ (by omega) ⟨_, c + 1, inc_i64 (by omega), by omega, hops5.set _, hpt5.set _, hopf5.set _, ⟨rfl, get_set hS _⟩, rfl⟩
    rw [show decide ((c : Int) < (xs.length : Int)) = false from decide_eq_false (by omega)]
    conv => lhs; whnf
    refine fin2 _ _ _ nofun ?_
    obtain rfl : c = xs.length := by omega
    rw [hlen, seenV_next] at hsn
    conv => lhs; whnf
    refine next (r - 1) _ _ (by omega) ⟨_, i + 1, inc_i64 (by omega), by omega, hops, hpt, hsn, rfl⟩
  rw [show decide ((i : Int) < (m' : Int)) = false from decide_eq_false (by omega)]
  obtain rfl : i = m' := by omega
  conv => lhs; whnf
  refine fin _ _ _ nofun ?_
  conv => lhs; whnf
  clear next fin
  refine loop_rule (m := 4160) (fun r fr ρ => ∃ (z : Int) (k : Nat), z = (k : Int) ∧ k + r = l.length ∧ ρ = τ ∧ fr = [.bad, .bad, .bad, .bad, .bad, .bad, .sl aS l.length, .bad, .bad, .bad, .bad, .bad, .int .i64 z, .bad, .bad, .bad, .bad, .bad, .bad, .bad, .bad, .bad, .bad, .bad, .bad, .bad, .bad, .bad, .bad, .bad, .bad, .bad, .bad, .bad, .bad, .bad, .bad, .bad, .bad, .bad, .bad, .bad, .bad, .bad, .bad, .bad, .bad, .bad, .bad, .bad, .bad, .bad, .bad, .bad, .bad, .bad, .bad, .bad, .bad, .bad, .bad, .bad, .bad, .bad, .bad, .bad, .bad, .bad, .bad, .bad, .bad, .bad, .bad, .bad, .bad, .bad, .bad, .bad, .bad, .bad, .bad, .bad, .bad, .bad, .bad, .bad, .bad, .bad, .bad, .bad, .bad, .bad, .bad, .bad, .bad, .bad, .bad, .bad, .bad, .bad, .bad, .bad, .bad, .bad, .bad, .bad, .bad, .bad, .bad, .bad, .bad, .bad, .bad, .bad, .bad, .bad, .bad, .bad, .bad, .bad, .bad, .bad, .bad, .bad, .bad, .bad, .bad, .bad, .bad]) ?_ _ l.length _ _ (by omega) ⟨_, 0, rfl, by omega, rfl, rfl⟩
  rintro r fr ρ C ⟨z, k, rfl, hq, rfl, rfl⟩ next fin
  conv => lhs; whnf
  by_cases hk : k < l.length
  · rw [show decide ((k : Int) < (l.length : Int)) = true from decide_eq_true (by omega)]
    have h1 := seenV_end hf hk
    conv => lhs; whnf
    cases oS with
    | none =>
      have := hsn.2
      rw [this] at h1
      cases h1
    | some S =>
      obtain ⟨rfl, hS⟩ := hsn
      refine idx37 rfl hk ?_
      conv => lhs; whnf
      refine ldF Tryz.underlying3 rfl rfl hS (by rw [Nat.add_zero, iks, List.getElem?_map, h1]; rfl) ?_
      conv => lhs; whnf
      refine next (r - 1) _ _ (by omega) ⟨_, k + 1, inc_i64 (by omega), by omega, rfl, rfl⟩
  rw [show decide ((k : Int) < (l.length : Int)) = false from decide_eq_false (by omega)]
  conv => lhs; whnf
  refine fin _ _ _ nofun ?_
  conv => lhs; whnf
theorem opParts_law (σ : H) (vs : List AV) (h : ArgsShp Tryz.prog σ 9 [24, 3] vs) : ∃ n, acall Tryz.prog tab (drawRegion Tryz.prog) n 6 vs σ isTrue = true := by
  obtain ⟨a, us, rfl, h1, h⟩ := args_cons h
  obtain ⟨b, us, rfl, h2, h⟩ := args_cons h
  obtain rfl := args_nil h
  obtain ⟨s, l, rfl, hs, ho, hl⟩ := arg_ops h1
  obtain ⟨q, rfl, _, _⟩ := arg_int Tryz.underlying3 h2
  have e : maxLen = 9223372036854775807 := by decide
  exact ⟨_, opParts_run (M := 9223372036854775808) (byPlan _) (Nat.le_refl _) (Nat.le_refl _) hs (fun o h => (ho o h).ok.s) fun o h => by have := (ho o h).s; omega⟩
end Go.Proofs.YtajincfelnmlhaaGreat
