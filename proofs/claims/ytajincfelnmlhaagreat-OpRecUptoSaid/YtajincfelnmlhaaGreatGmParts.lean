/- Rows of operations: ten of them; alike. Parts: whose operations lie on which shard. The document's parts; what of a shard is. What of a shard is. What of a shard is, the document's. -/
import Derived.Test.YtajincfelnmlhaaGreatGmOp
import Derived.Test.YtajincfelnmlhaaGreatAmOwn
import Derived.Test.YtajincfelnmlhaaGreatGmWord
namespace Go.Proofs.YtajincfelnmlhaaGreat
set_option maxRecDepth 100000
open Go Go.AM Go.AM.St
theorem opvs_take : ∀ (l : List OpV) (m : Nat), (opvs l).take (m * 5) = opvs (l.take m)
  | [], m => by simp [opvs]
  | o :: l, 0 => by simp [opvs]
  | o :: l, m + 1 => by
    rw [List.take_succ_cons, opvs, opvs, ← opvs_take l m, List.take_append, List.take_of_length_le (by simp; omega)]
    rw [show (m + 1) * 5 - (opv o).length = m * 5 by simp; omega]
attribute [local irreducible] IntKind.wrap Int.fdiv Int.tdiv Int.tmod BitVec.ofInt appendK sliceK indexAddrK ldK storeK seenK makeSliceK lookupK updateK deleteK mapK rangeK nextK buildSliceK indexK
variable {D : Drawer} {σ : H}
theorem ops_spec {n : Nat} {s : AM.SA} {l : List OpV} (hn : 1 ≤ n) (hs : Rw σ 5 s l.length (opvs l)) {K : AV → H → Bool}
    (hK : ∀ o a σ', σ <+: σ' → OwnS σ σ' 5 o a (l.take 10).length (opvs (l.take 10)) → K (.sl a (l.take 10).length) σ' = true) : acall Tryz.prog tab D n 15 [.sl s l.length] σ K = true := by
  obtain ⟨n, rfl, hn⟩ := up hn
  conv => lhs; whnf
  refine @sliceK_rw Tryz.prog 24 23 5 σ Tryz.underlying24 (fun _ => rfl) s l.length (opvs l) hs none (some _) 0 (min l.length 10) _ (.inl ⟨rfl, rfl⟩) (.inr ⟨_, _, rfl, ?_⟩) (Nat.zero_le _) (Nat.min_le_left _ _) (l.take 10).length (opvs (l.take 10)) ?_ ?_ fun a' ha' => ?_
  · show (if _ then _ else _) = _
    split <;> omega
  · rw [List.length_take]; omega
  · rw [Nat.zero_mul, List.drop_zero, opvs_take, Nat.min_comm, ← List.take_take, List.take_of_length_le (Nat.le_refl _)]
  conv => lhs; whnf
  refine appS Tryz.underlying24 rfl rfl rfl rfl (by decide) List.prefix_rfl (OwnS.nil _ _ _) ha' (Nat.zero_add _) (List.nil_append _) (by rw [List.length_take]; show _ * 64 ≤ _; omega) fun o' a'' σ' p _ _ _ _ ow => ?_
  have := hK o' a'' σ' p ow
  conv => lhs; whnf
  exact this
theorem eq_spec {n : Nat} {s t : AM.SA} {l m : List OpV} (hD : ByPlan Tryz.prog D) (hn : l.length + 2 ≤ n) (hl : l.length ≤ 9223372036854775806) (hs : Rw σ 5 s l.length (opvs l)) (ht : Rw σ 5 t m.length (opvs m)) {K : AV → H → Bool}
    (he : l = m) (hK : K (.bool true) σ = true) : acall Tryz.prog tab D n 24 [.sl s l.length, .sl t m.length] σ K = true := by
  subst he
  obtain ⟨n, rfl, hn⟩ := up (n := n) (k := l.length + 1) (by omega)
  conv => lhs; whnf
  rw [show (!((l.length : Int) == (l.length : Int))) = false by simp]
  conv => lhs; whnf
  refine loop_rule (m := 35) (fun q fr τ => ∃ (z : Int) (i : Nat), z = (i : Int) ∧ i + q = l.length ∧ τ = σ ∧ fr = [.sl s l.length, .sl t l.length, .bad, .bad, .bad, .int .i64 z, .bad, .bad, .bad, .bad, .bad, .bad, .bad, .bad, .bad, .bad, .bad, .bad, .bad, .bad, .bad, .bad, .bad, .bad, .bad, .bad]) ?_ _ l.length _ _ (by omega) ⟨_, 0, rfl, by omega, rfl, rfl⟩
  rintro q fr τ C ⟨z, i, rfl, hq, rfl, rfl⟩ next fin
  conv => lhs; whnf
  by_cases hi : i < l.length
  · rw [show decide ((i : Int) < (l.length : Int)) = true from decide_eq_true (by omega)]
    conv => lhs; whnf
    refine goK hD plan24x6 ord24x6 fun KK hKK => ?_
    conv => lhs; whnf
    refine idxV hs rfl hi fun p1 e1 => ?_
    conv => lhs; whnf
    refine ldE e1 ?_
    conv => lhs; whnf
    refine idxV ht rfl hi fun p2 e2 => ?_
    conv => lhs; whnf
    refine ldE e2 ?_
    conv => lhs; whnf
    rw [show (!(l[i].kind == l[i].kind && (ints l[i].s == ints l[i].s && (ints l[i].k == ints l[i].k && (ints l[i].t == ints l[i].t && (l[i].n == l[i].n && true)))))) = false by simp]
    conv => lhs; whnf
    subst hKK
    conv => lhs; whnf
    refine next (q - 1) _ _ (by omega) ⟨_, i + 1, inc_i64 (by omega), by omega, rfl, rfl⟩
  rw [show decide ((i : Int) < (l.length : Int)) = false from decide_eq_false (by omega)]
  conv => lhs; whnf
  refine fin _ _ _ nofun ?_
  conv => lhs; whnf
  exact hK
end Go.Proofs.YtajincfelnmlhaaGreat
namespace Go.Proofs.YtajincfelnmlhaaGreat
set_option maxRecDepth 100000
open Go Go.AM Go.AM.St
variable {σ : H}
theorem storeRow {id : Nat} {i : Nat} {v : AV} {xs : List AV} {K : H → Bool} (hr : σ[id]? = some (AO.cells xs 1 .own)) (hl : isLeaf v = true) (hi : i < xs.length) (hK : K (σ.set id (.cells (xs.set i v) 1 .own)) = true) :
    storeK Tryz.prog 37 (.ptr (some ⟨id, i, 0, 1⟩)) v σ K = true := storeK_of rfl rfl (by decide) hr hl (by omega) hK
theorem idxRow {id i n : Nat} {k : IntKind} {y : Int} {K : AV → Bool} (hy : y = (i : Int)) (hi : i < n) (hK : K (.ptr (some ⟨id, i, 0, 1⟩)) = true) : indexAddrK Tryz.prog 35 (.sl (.at id 0 1) n) (.int k y) K = true := by
  subst hy
  unfold indexAddrK
  rw [Tryz.underlying35]
  have e : ∀ K : Nat → Bool, esizeK Tryz.prog 37 K = K 1 := fun _ => rfl
  simp only
  rw [e]
  refine bif_pos ?_ ?_
  · simp only [beq_self_eq_true, Bool.true_and, Bool.and_eq_true, decide_eq_true_eq]; omega
  · simpa using hK
theorem makeRow {m : Nat} {K : AV → H → Bool} (h1 : 1 ≤ m) (h3 : m ≤ 3) (hK : K (.sl (.at σ.length 0 1) m) (σ ++ [.cells (List.replicate m (.sl .nil 0)) 1 .own]) = true) : makeSliceK Tryz.prog 35 (.int .i64 (m : Int)) (.int .i64 (m : Int)) σ K = true := by
  obtain rfl | rfl | rfl : m = 1 ∨ m = 2 ∨ m = 3 := by omega
  all_goals
    exact hK
theorem ldRow {id i : Nat} {v : AV} {xs : List AV} {md : Md} {a : AM.SA} {n : Nat} {K : AV → Bool} (hr : σ[id]? = some (AO.cells xs 1 md)) (hx : xs[i]? = some v) (hv : v = .sl a n) (hK : K (.sl a n) = true) : ldK Tryz.prog 37 σ ⟨id, i, 0, 1⟩ K = true := by
  subst hv
  refine ldF Tryz.underlying37 rfl rfl hr hx ?_
  conv => lhs; whnf
  exact hK
theorem buildI {y : Int} {K : AV → H → Bool} (hK : K (.sl (.at σ.length 0 1) 1) (σ ++ [.cells (iks .i64 [y]) 1 .own]) = true) : buildSliceK Tryz.prog 37 1 [(0, .int .i64 y)] σ K = true := by
  conv => lhs; whnf
  exact hK
/-- A part: its row, and what it reads. -/
abbrev PC := Option Nat × AM.SA × List Int
def pcell (p : PC) : AV := .sl p.2.1 p.2.2.length
structure PtA (σ0 σ : H) (B : Nat) (ps : List PC) : Prop where
  row : σ[B]? = some (AO.cells (ps.map pcell) 1 .own)
  base : σ0.length ≤ B
  own : ∀ p ∈ ps, Own σ0 σ 1 p.1 p.2.1 p.2.2.length (iks .i64 p.2.2) ∧ p.1 ≠ some B
  apart : ps.Pairwise fun p q => p.1 = none ∨ p.1 ≠ q.1
theorem PtA.keep {σ0 σ σ' : H} {B : Nat} {ps : List PC} (h : PtA σ0 σ B ps) (hk : σ <+: σ') : PtA σ0 σ' B ps :=
  ⟨prefix_get hk h.row, h.base, fun p hp => ⟨(h.own p hp).1.mono hk, (h.own p hp).2⟩, h.apart⟩
/-- What the parts are behind so many operations. -/
def partsI (f : Nat → Nat) (m : Nat) : Nat → List (List Int)
  | 0 => List.replicate m []
  | i + 1 => (partsI f m i).set (f i) ((partsI f m i).getD (f i) [] ++ [(i : Int)])
theorem partsI_len (f : Nat → Nat) (m : Nat) : ∀ i, (partsI f m i).length = m
  | 0 => List.length_replicate
  | i + 1 => by rw [partsI, List.length_set, partsI_len f m i]
theorem partsI_le (f : Nat → Nat) (m : Nat) : ∀ i, ∀ xs ∈ partsI f m i, xs.length ≤ i
  | 0, xs, h => by
    obtain rfl := (List.mem_replicate.1 h).2
    exact Nat.le_refl _
  | i + 1, xs, h => by
    rw [partsI] at h
    rcases List.mem_or_eq_of_mem_set h with h | rfl
    · exact Nat.le_succ_of_le (partsI_le f m i xs h)
    · rw [List.length_append, List.getD_eq_getElem?_getD]
      cases e : (partsI f m i)[f i]? with
      | none => simp
      | some ys =>
        have := partsI_le f m i ys (List.mem_of_getElem? e)
        simp
        exact this
theorem PtA.new {σ0 σ : H} (p : σ0 <+: σ) (m : Nat) : PtA σ0 (σ ++ [.cells (List.replicate m (.sl .nil 0)) 1 .own]) σ.length (List.replicate m (none, .nil, [])) := by
  refine ⟨?_, prefix_len p, fun q hq => ?_, ?_⟩
  · rw [get_new, List.map_replicate]; rfl
  · obtain rfl := (List.mem_replicate.1 hq).2
    exact ⟨Own.nil _ _ _, nofun⟩
  · exact List.pairwise_replicate.2 (.inr (.inl rfl))
theorem PtA.ne {σ0 σ : H} {B : Nat} {ps : List PC} (h : PtA σ0 σ B ps) {i j : Nat} (hi : i < ps.length) (hj : j < ps.length) (hij : i ≠ j) : ps[i].1 = none ∨ ps[i].1 ≠ ps[j].1 := by
  have hp := List.pairwise_iff_getElem.1 h.apart
  rcases Nat.lt_or_gt_of_ne hij with hl | hl
  · exact hp i j hi hj hl
  · rcases hp j i hj hi hl with e | e
    · by_cases e2 : ps[i].1 = none
      · exact .inl e2
      · exact .inr fun e3 => e2 (e3.trans e)
    · exact .inr fun e3 => e e3.symm
theorem PtA.add {σ0 σ σ1 : H} {B : Nat} {ps : List PC} (h : PtA σ0 σ B ps) {j : Nat} (hj : j < ps.length) {o' : Option Nat} {a' : AM.SA} {xs' : List Int} (hk : Keep ps[j].1 σ σ1)
    (h1 : ∀ id, ps[j].1 = some id → o' = ps[j].1) (h2 : ps[j].1 = none → o' = none ∨ o' = some σ.length) (hw : Own σ0 σ1 1 o' a' xs'.length (iks .i64 xs')) :
    σ1[B]? = some (AO.cells (ps.map pcell) 1 .own) ∧ PtA σ0 (σ1.set B (.cells ((ps.map pcell).set j (.sl a' xs'.length)) 1 .own)) B (ps.set j (o', a', xs')) := by
  have hB := get_lt h.row
  have oB := (h.own _ (List.getElem_mem hj)).2
  have r1 : σ1[B]? = some (AO.cells (ps.map pcell) 1 .own) := hk B _ oB.symm h.row
  have oB' : o' ≠ some B := by
    cases e : ps[j].1 with
    | none =>
      rcases h2 e with e' | e'
      · rw [e']; nofun
      · rw [e']; intro e2; cases e2; omega
    | some id => rw [h1 id e]; exact oB
  have kB : Keep (some B) σ1 (σ1.set B (.cells ((ps.map pcell).set j (.sl a' xs'.length)) 1 .own)) := fun id x hne hx => get_set_ne hx (fun e => hne (by rw [e])) _
  have own' : ∀ i (hi : i < ps.length), i ≠ j → Own σ0 (σ1.set B (.cells ((ps.map pcell).set j (.sl a' xs'.length)) 1 .own)) 1 ps[i].1 ps[i].2.1 ps[i].2.2.length (iks .i64 ps[i].2.2) ∧ ps[i].1 ≠ some B := fun i hi hij => by
    obtain ⟨w, nb⟩ := h.own _ (List.getElem_mem hi)
    exact ⟨(w.keep hk (h.ne hi hj hij)).keep kB (.inr nb), nb⟩
  have wn : Own σ0 (σ1.set B (.cells ((ps.map pcell).set j (.sl a' xs'.length)) 1 .own)) 1 o' a' xs'.length (iks .i64 xs') := hw.keep kB (.inr oB')
  have neo : ∀ i (hi : i < ps.length), i ≠ j → ps[i].1 = none ∨ ps[i].1 ≠ o' := fun i hi hij => by
    cases e : ps[j].1 with
    | some id => rw [h1 id e]; exact h.ne hi hj hij
    | none =>
      rcases h2 e with e' | e'
      · by_cases e3 : ps[i].1 = none
        · exact .inl e3
        · rw [e']; exact .inr e3
      · by_cases e3 : ps[i].1 = none
        · exact .inl e3
        · refine .inr fun e4 => ?_
          obtain ⟨w, _⟩ := h.own _ (List.getElem_mem hi)
          rw [e4, e'] at w
          obtain ⟨_, _, _, _, _, h3, _⟩ := w
          have := get_lt h3
          omega
  refine ⟨r1, ⟨?_, h.base, fun p hp => ?_, ?_⟩⟩
  · rw [get_set r1, List.map_set]; rfl
  · obtain ⟨i, hi, rfl⟩ := List.mem_iff_getElem.1 hp
    rw [List.length_set] at hi
    by_cases hij : i = j
    · subst hij
      rw [List.getElem_set_self]
      exact ⟨wn, oB'⟩
    · rw [List.getElem_set_ne (Ne.symm hij)]
      exact own' i hi hij
  · refine List.pairwise_iff_getElem.2 fun i k hi hk' hik => ?_
    have hi2 : i < ps.length := by simpa using hi
    have hk2 : k < ps.length := by simpa using hk'
    by_cases hij : i = j
    · subst hij
      rw [List.getElem_set_self, List.getElem_set_ne (by omega)]
      rcases neo k hk2 (by omega) with e | e
      · by_cases e2 : o' = none
        · exact .inl e2
        · exact .inr fun e3 => e2 (e3.trans e)
      · exact .inr fun e3 => e e3.symm
    · rw [List.getElem_set_ne (Ne.symm hij)]
      by_cases hkj : k = j
      · subst hkj
        rw [List.getElem_set_self]
        exact neo i hi2 hij
      · rw [List.getElem_set_ne (Ne.symm hkj)]
        exact List.pairwise_iff_getElem.1 h.apart i k hi2 hk2 hik
attribute [local irreducible] IntKind.wrap Int.fdiv Int.tdiv Int.tmod BitVec.ofInt appendK sliceK indexAddrK ldK storeK seenK makeSliceK lookupK updateK deleteK mapK rangeK nextK buildSliceK indexK
variable {D : Drawer}
theorem shard_spec {n : Nat} {bs : List Nat} {q : Int} (hn : bs.length + 5 ≤ n) (h2 : q ≤ 9223372036854775807) {σ : H} (hb : ∀ b ∈ bs, b < 256) (hl : bs.length < 9223372036854775808) (K : AV → H → Bool)
    (hK : ∀ σ', σ <+: σ' → K (.int .i64 (shardN bs q : Int)) σ' = true) : acall Tryz.prog tab D n 59 [.str (ints bs), .int .i64 q] σ K = true := by
  obtain ⟨n, rfl, hn⟩ := up (n := n) (k := bs.length + 4) (by omega)
  conv => lhs; whnf
  refine shards_spec (by omega) h2 hb hl _ fun σ' p => ?_
  have := hK σ' p
  conv => lhs; whnf
  exact this
theorem set_new (σ : H) (x y : AO) : (σ ++ [x]).set σ.length y = σ ++ [y] := by simp
theorem storeV {ρ : H} {id : Nat} {o : OpV} {x y z u v : AV} {K : H → Bool} (hg : ρ[id]? = some (AO.cells [x, y, z, u, v] 5 .own))
    (hK : K (ρ.set id (.cells (opv o) 5 .own)) = true) : storeK Tryz.prog 23 (.ptr (some ⟨id, 0, 0, 5⟩)) (.agg (opv o)) ρ K = true :=
  storeS rfl hg rfl rfl (Nat.le_refl 5) rfl hK
theorem shardN_lt {bs : List Nat} {m : Nat} (h : 1 ≤ m) : shardN bs (m : Int) < m := by
  unfold shardN
  rw [if_neg (by omega)]
  exact Nat.mod_lt _ (by show 0 < (m : Int).toNat; omega)
theorem parts_spec {n M : Nat} {s : AM.SA} {l : List OpV} {q : Int} (hM : M ≤ 9223372036854775808) (hn : M + 50000 ≤ n) (hl : l.length ≤ 10) (h2 : q ≤ 9223372036854775807) (hs : Rw σ 5 s l.length (opvs l)) (ho : ∀ o ∈ l, ∀ b ∈ o.s, b < 256) (hb : ∀ o ∈ l, o.s.length < M) {K : AV → H → Bool}
    (h0 : q < 1 ∨ q > 3 → K (.sl .nil 0) σ = true)
    (h1 : ∀ m : Nat, q = (m : Int) → 1 ≤ m → m ≤ 3 → ∀ σ' B ps, σ <+: σ' → PtA σ σ' B ps → ps.map (fun p => p.2.2) = partsI (fun i => shardN (l.getD i ⟨0, [], [], [], 0⟩).s m) m l.length → K (.sl (.at B 0 1) m) σ' = true) :
    acall Tryz.prog tab D n 27 [.sl s l.length, .int .i64 q] σ K = true := by
  obtain ⟨n, rfl, hn⟩ := up (n := n) (k := M + 49999) (by omega)
  conv => lhs; whnf
  by_cases h : q < 1
  · rw [show decide (q < 1) = true from decide_eq_true h]
    have := h0 (.inl h)
    conv => lhs; whnf
    exact this
  rw [show decide (q < 1) = false from decide_eq_false h]
  conv => lhs; whnf
  by_cases h3 : q > 3
  · rw [show decide (q > 3) = true from decide_eq_true h3]
    have := h0 (.inr h3)
    conv => lhs; whnf
    exact this
  rw [show decide (q > 3) = false from decide_eq_false h3]
  obtain ⟨m, rfl⟩ : ∃ m : Nat, q = (m : Int) := ⟨q.toNat, by omega⟩
  have m1 : 1 ≤ m := by omega
  have m3 : m ≤ 3 := by omega
  conv => lhs; whnf
  refine makeRow m1 m3 ?_
  conv => lhs; whnf
  refine loop_rule (m := 917538) (fun r fr τ => ∃ (z : Int) (i : Nat) (ps : List PC), z = (i : Int) ∧ i + r = l.length ∧ σ <+: τ ∧ PtA σ τ σ.length ps ∧ ps.map (fun p => p.2.2) = partsI (fun i => shardN (l.getD i ⟨0, [], [], [], 0⟩).s m) m i ∧
    fr = [.bad, .int .i64 (m : Int), .bad, .bad, .bad, .sl (.at σ.length 0 1) m, .bad, .bad, .bad, .bad, .bad, .bad, .bad, .bad, .bad, .bad, .bad, .sl s l.length, .int .i64 l.length, .int .i64 z, .bad, .bad, .bad, .bad, .bad, .bad, .bad, .bad, .bad, .bad, .bad, .bad, .bad, .bad, .bad, .bad, .bad, .bad, .bad, .bad]) ?_ _ l.length _ _ (by omega) ⟨_, 0, _, rfl, by omega, List.prefix_append _ _, PtA.new List.prefix_rfl m, by rw [List.map_replicate]; rfl, rfl⟩
  rintro r fr τ C ⟨z, i, ps, rfl, hq, p, pt, hps, rfl⟩ next fin
  have hpl : ps.length = m := by rw [← partsI_len (fun i => shardN (l.getD i ⟨0, [], [], [], 0⟩).s m) m i, ← hps, List.length_map]
  conv => lhs; whnf
  by_cases hi : i < l.length
  · rw [show decide ((i : Int) < (l.length : Int)) = true from decide_eq_true (by omega)]
    conv => lhs; whnf
    refine idxV (hs.mono p) rfl hi fun pe he => ?_
    conv => lhs; whnf
    refine ldE he ?_
    conv => lhs; whnf
    refine storeV (get_new _ _) ?_
    rw [set_new]
    have T := get_new τ (AO.cells (opv l[i]) 5 .own)
    have P := List.prefix_append τ [AO.cells (opv l[i]) 5 .own]
    conv => lhs; whnf
    refine ldF Tryz.underlying9 rfl rfl T rfl ?_
    conv => lhs; whnf
    have hob := hb _ (List.getElem_mem hi)
    refine shard_spec (by omega) h2 (ho _ (List.getElem_mem hi)) (by omega) _ fun σ1 p1 => ?_
    have ht := shardN_lt (bs := l[i].s) m1
    have hf : shardN (l.getD i ⟨0, [], [], [], 0⟩).s m = shardN l[i].s m := by simp [List.getD_eq_getElem?_getD, hi]
    generalize shardN l[i].s m = j at ht hf ⊢
    have pt1 := pt.keep (P.trans p1)
    have hj : j < ps.length := by omega
    conv => lhs; whnf
    refine idxRow rfl ht ?_
    conv => lhs; whnf
    refine ldRow pt1.row (v := pcell ps[j]) (by simp [hj]) rfl ?_
    conv => lhs; whnf
    refine buildI ?_
    have pt2 := pt1.keep (List.prefix_append σ1 [AO.cells (iks .i64 [(i : Int)]) 1 .own])
    have q2 := (p.trans (P.trans p1)).trans (List.prefix_append σ1 [AO.cells (iks .i64 [(i : Int)]) 1 .own])
    conv => lhs; whnf
    refine it44.app (xs := ps[j].2.2) (ys := [(i : Int)]) q2 (pt2.own _ (List.getElem_mem hj)).1 (Rw.new _ .own rfl) (ps[j].2.2 ++ [(i : Int)]) rfl ?_ fun o' a' σ3 p3 k3 e1 e2 w3 => ?_
    · have : ps[j].2.2 ∈ partsI (fun i => shardN (l.getD i ⟨0, [], [], [], 0⟩).s m) m i := hps ▸ List.mem_map_of_mem (f := fun p : PC => p.2.2) (List.getElem_mem hj)
      have := partsI_le _ _ _ _ this
      rw [List.length_append]
      show _ + 1 ≤ _
      omega
    obtain ⟨r3, pt3⟩ := pt2.add hj k3 e1 e2 w3
    conv => lhs; whnf
    refine idxRow rfl ht ?_
    conv => lhs; whnf
    refine storeRow r3 rfl (by rw [List.length_map]; exact hj) ?_
    conv => lhs; whnf
    refine next (r - 1) _ _ (by omega) ⟨_, i + 1, _, inc_i64 (by omega), by omega, set_past p3 _, pt3, ?_, rfl⟩
    rw [List.map_set, hps, partsI, hf]
    congr 2
    rw [List.getD_eq_getElem?_getD, ← hps, List.getElem?_map, List.getElem?_eq_getElem hj]
    rfl
  rw [show decide ((i : Int) < (l.length : Int)) = false from decide_eq_false (by omega)]
  obtain rfl : i = l.length := by omega
  have := h1 m rfl m1 m3 τ _ ps p pt hps
  conv => lhs; whnf
  refine fin _ _ _ nofun ?_
  conv => lhs; whnf
  exact this
end Go.Proofs.YtajincfelnmlhaaGreat
namespace Go.Proofs.YtajincfelnmlhaaGreat
set_option maxRecDepth 100000
open Go Go.AM Go.AM.St
theorem ldEF {σ : H} {p : PA} {o : OpV} {K : AV → Bool} (hp : Elem σ 5 p (opv o)) (hK : K (.str (ints o.s)) = true) : ldK Tryz.prog 9 σ ⟨p.id, p.base, p.d + 1, p.z⟩ K = true := by
  obtain ⟨h1, h2, xs, md, h3, h4, h5⟩ := hp
  have hx : xs[p.base + (p.d + 1)]? = some (.str (ints o.s)) := by
    have e : ((xs.drop p.base).take 5)[1]? = some (.str (ints o.s)) := by rw [h5]; rfl
    rw [List.getElem?_take_of_lt (by omega), List.getElem?_drop] at e
    rw [h1]
    simpa using e
  refine ldF Tryz.underlying9 rfl rfl h3 hx ?_
  conv => lhs; whnf
  exact hK
attribute [local irreducible] IntKind.wrap Int.fdiv Int.tdiv Int.tmod BitVec.ofInt appendK sliceK indexAddrK ldK storeK seenK makeSliceK lookupK updateK deleteK mapK rangeK nextK buildSliceK indexK
variable {D : Drawer} {σ : H}
theorem ref_parts_spec {n M : Nat} {s : AM.SA} {l : List OpV} {q : Int} (hM : M ≤ 9223372036854775808) (hn : M + 50000 ≤ n) (hl : l.length ≤ 10) (h2 : q ≤ 9223372036854775807) (hs : Rw σ 5 s l.length (opvs l)) (ho : ∀ o ∈ l, ∀ b ∈ o.s, b < 256) (hb : ∀ o ∈ l, o.s.length < M) {K : AV → H → Bool}
    (h0 : q < 1 ∨ q > 3 → K (.sl .nil 0) σ = true)
    (h1 : ∀ m : Nat, q = (m : Int) → 1 ≤ m → m ≤ 3 → ∀ σ' B ps, σ <+: σ' → PtA σ σ' B ps → ps.map (fun p => p.2.2) = partsI (fun i => shardN (l.getD i ⟨0, [], [], [], 0⟩).s m) m l.length → K (.sl (.at B 0 1) m) σ' = true) :
    acall Tryz.prog tab D n 28 [.sl s l.length, .int .i64 q] σ K = true := by
  obtain ⟨n, rfl, hn⟩ := up (n := n) (k := M + 49999) (by omega)
  conv => lhs; whnf
  by_cases h : q < 1
  · rw [show decide (q < 1) = true from decide_eq_true h]
    have := h0 (.inl h)
    conv => lhs; whnf
    exact this
  rw [show decide (q < 1) = false from decide_eq_false h]
  conv => lhs; whnf
  by_cases h3 : q > 3
  · rw [show decide (q > 3) = true from decide_eq_true h3]
    have := h0 (.inr h3)
    conv => lhs; whnf
    exact this
  rw [show decide (q > 3) = false from decide_eq_false h3]
  obtain ⟨m, rfl⟩ : ∃ m : Nat, q = (m : Int) := ⟨q.toNat, by omega⟩
  have m1 : 1 ≤ m := by omega
  have m3 : m ≤ 3 := by omega
  conv => lhs; whnf
  refine makeRow m1 m3 ?_
  conv => lhs; whnf
  refine loop_rule (m := 99) (fun r fr τ => ∃ (z : Int) (i : Nat) (ps : List PC), z = (i : Int) ∧ i + r = l.length ∧ σ <+: τ ∧ PtA σ τ σ.length ps ∧ ps.map (fun p => p.2.2) = partsI (fun i => shardN (l.getD i ⟨0, [], [], [], 0⟩).s m) m i ∧
    fr = [.sl s l.length, .int .i64 (m : Int), .bad, .bad, .bad, .sl (.at σ.length 0 1) m, .int .i64 z, .bad, .bad, .bad, .bad, .bad, .bad, .bad, .bad, .bad, .bad, .bad, .bad, .bad, .bad, .bad, .bad, .bad, .bad, .bad, .bad, .bad, .bad, .bad, .bad, .bad, .bad, .bad, .bad, .bad, .bad, .bad, .bad, .bad]) ?_ _ l.length _ _ (by omega) ⟨_, 0, _, rfl, by omega, List.prefix_append _ _, PtA.new List.prefix_rfl m, by rw [List.map_replicate]; rfl, rfl⟩
  rintro r fr τ C ⟨z, i, ps, rfl, hq, p, pt, hps, rfl⟩ next fin
  have hpl : ps.length = m := by rw [← partsI_len (fun i => shardN (l.getD i ⟨0, [], [], [], 0⟩).s m) m i, ← hps, List.length_map]
  conv => lhs; whnf
  by_cases hi : i < l.length
  · rw [show decide ((i : Int) < (l.length : Int)) = true from decide_eq_true (by omega)]
    conv => lhs; whnf
    refine idxV (hs.mono p) rfl hi fun pe he => ?_
    obtain ⟨pid, pb, pd, pz⟩ := pe
    obtain rfl : pd = 0 := he.1
    obtain rfl : pz = 5 := he.2.1
    conv => lhs; whnf
    refine ldEF he ?_
    conv => lhs; whnf
    have hob := hb _ (List.getElem_mem hi)
    refine rshards_spec (by omega) (ho _ (List.getElem_mem hi)) (by omega) _ fun σ1 p1 => ?_
    have ht := shardN_lt (bs := l[i].s) m1
    have hf : shardN (l.getD i ⟨0, [], [], [], 0⟩).s m = shardN l[i].s m := by simp [List.getD_eq_getElem?_getD, hi]
    generalize shardN l[i].s m = j at ht hf ⊢
    have pt1 := pt.keep p1
    have hj : j < ps.length := by omega
    conv => lhs; whnf
    refine idxRow rfl ht ?_
    conv => lhs; whnf
    refine ldRow pt1.row (v := pcell ps[j]) (by simp [hj]) rfl ?_
    conv => lhs; whnf
    refine buildI ?_
    have pt2 := pt1.keep (List.prefix_append σ1 [AO.cells (iks .i64 [(i : Int)]) 1 .own])
    have q2 := (p.trans p1).trans (List.prefix_append σ1 [AO.cells (iks .i64 [(i : Int)]) 1 .own])
    conv => lhs; whnf
    refine it44.app (xs := ps[j].2.2) (ys := [(i : Int)]) q2 (pt2.own _ (List.getElem_mem hj)).1 (Rw.new _ .own rfl) (ps[j].2.2 ++ [(i : Int)]) rfl ?_ fun o' a' σ3 p3 k3 e1 e2 w3 => ?_
    · have : ps[j].2.2 ∈ partsI (fun i => shardN (l.getD i ⟨0, [], [], [], 0⟩).s m) m i := hps ▸ List.mem_map_of_mem (f := fun p : PC => p.2.2) (List.getElem_mem hj)
      have := partsI_le _ _ _ _ this
      rw [List.length_append]
      show _ + 1 ≤ _
      omega
    obtain ⟨r3, pt3⟩ := pt2.add hj k3 e1 e2 w3
    conv => lhs; whnf
    refine idxRow rfl ht ?_
    conv => lhs; whnf
    refine storeRow r3 rfl (by rw [List.length_map]; exact hj) ?_
    conv => lhs; whnf
    refine next (r - 1) _ _ (by omega) ⟨_, i + 1, _, inc_i64 (by omega), by omega, set_past p3 _, pt3, ?_, rfl⟩
    rw [List.map_set, hps, partsI, hf]
    congr 2
    rw [List.getD_eq_getElem?_getD, ← hps, List.getElem?_map, List.getElem?_eq_getElem hj]
    rfl
  rw [show decide ((i : Int) < (l.length : Int)) = false from decide_eq_false (by omega)]
  obtain rfl : i = l.length := by omega
  have := h1 m rfl m1 m3 τ _ ps p pt hps
  conv => lhs; whnf
  refine fin _ _ _ nofun ?_
  conv => lhs; whnf
  exact this
end Go.Proofs.YtajincfelnmlhaaGreat
namespace Go.Proofs.YtajincfelnmlhaaGreat
set_option maxRecDepth 100000
open Go Go.AM Go.AM.St
abbrev o0 : OpV := ⟨0, [], [], [], 0⟩
def shF (l : List OpV) (m : Nat) (i : Nat) : Nat := shardN (l.getD i o0).s m
theorem partsI_in (f : Nat → Nat) (m : Nat) : ∀ i, ∀ xs ∈ partsI f m i, ∀ y ∈ xs, ∃ k : Nat, y = (k : Int) ∧ k < i
  | 0, xs, h => by
    obtain rfl := (List.mem_replicate.1 h).2
    intro y hy
    cases hy
  | i + 1, xs, h => by
    rw [partsI] at h
    intro y hy
    rcases List.mem_or_eq_of_mem_set h with h | rfl
    · obtain ⟨k, e, hk⟩ := partsI_in f m i xs h y hy
      exact ⟨k, e, by omega⟩
    · rcases List.mem_append.1 hy with hy | hy
      · rw [List.getD_eq_getElem?_getD] at hy
        cases e : (partsI f m i)[f i]? with
        | none => rw [e] at hy; cases hy
        | some ys =>
          rw [e] at hy
          obtain ⟨k, e2, hk⟩ := partsI_in f m i ys (List.mem_of_getElem? e) y hy
          exact ⟨k, e2, by omega⟩
      · rw [List.mem_singleton] at hy
        exact ⟨i, hy, by omega⟩
/-- The operations of a part. -/
def pick (l : List OpV) (xs : List Int) : List OpV := xs.map fun y => l.getD y.toNat o0
def ofV (l : List OpV) (j q : Int) : List OpV := if q < 1 ∨ q > 3 ∨ j < 0 ∨ j ≥ q then [] else pick l ((partsI (shF l q.toNat) q.toNat l.length).getD j.toNat [])
theorem buildV {σ : H} {o : OpV} {K : AV → H → Bool} (hK : K (.sl (.at σ.length 0 5) 1) (σ ++ [.cells (opvs [o]) 5 .own]) = true) : buildSliceK Tryz.prog 24 1 [(0, .agg (opv o))] σ K = true := by
  have e : opvs [o] = opv o := by simp [opvs]
  rw [e] at hK
  conv => lhs; whnf
  exact hK
attribute [local irreducible] IntKind.wrap Int.fdiv Int.tdiv Int.tmod BitVec.ofInt appendK sliceK indexAddrK ldK storeK seenK makeSliceK lookupK updateK deleteK mapK rangeK nextK buildSliceK indexK
variable {D : Drawer} {σ : H}
theorem of_op_spec {n M : Nat} {s : AM.SA} {l : List OpV} {q j : Int} (hM : M ≤ 9223372036854775808) (hn : M + 100000 ≤ n) (hl : l.length ≤ 10) (h2 : q ≤ 9223372036854775807) (hs : Rw σ 5 s l.length (opvs l)) (ho : ∀ o ∈ l, ∀ b ∈ o.s, b < 256) (hb : ∀ o ∈ l, o.s.length < M) {K : AV → H → Bool}
    (hK : ∀ o' a' σ', σ <+: σ' → OwnS σ σ' 5 o' a' (ofV l j q).length (opvs (ofV l j q)) → K (.sl a' (ofV l j q).length) σ' = true) :
    acall Tryz.prog tab D n 25 [.sl s l.length, .int .i64 j, .int .i64 q] σ K = true := by
  obtain ⟨n, rfl, hn⟩ := up (n := n) (k := M + 99999) (by omega)
  conv => lhs; whnf
  refine parts_spec hM (by omega) hl h2 hs ho hb (fun h => ?_) fun m hm m1 m3 σ1 B ps p1 pt hps => ?_
  · have e : ofV l j q = [] := by unfold ofV; rw [if_pos (by omega)]
    rw [e] at hK
    have := hK none .nil σ List.prefix_rfl (OwnS.nil _ _ _)
    conv => lhs; whnf
    by_cases h0 : j < 0
    · rw [show decide (j < 0) = true from decide_eq_true h0]
      conv => lhs; whnf
      exact this
    rw [show decide (j < 0) = false from decide_eq_false h0]
    conv => lhs; whnf
    rw [show decide (j ≥ ((0 : Nat) : Int)) = true from decide_eq_true (by omega)]
    conv => lhs; whnf
    exact this
  subst hm
  conv => lhs; whnf
  by_cases h0 : j < 0
  · have e : ofV l j m = [] := by unfold ofV; rw [if_pos (by omega)]
    rw [e] at hK
    have := hK none .nil _ p1 (OwnS.nil _ _ _)
    rw [show decide (j < 0) = true from decide_eq_true h0]
    conv => lhs; whnf
    exact this
  rw [show decide (j < 0) = false from decide_eq_false h0]
  conv => lhs; whnf
  by_cases h3 : j ≥ m
  · have e : ofV l j m = [] := by unfold ofV; rw [if_pos (by omega)]
    rw [e] at hK
    have := hK none .nil _ p1 (OwnS.nil _ _ _)
    rw [show decide (j ≥ (m : Int)) = true from decide_eq_true h3]
    conv => lhs; whnf
    exact this
  rw [show decide (j ≥ (m : Int)) = false from decide_eq_false h3]
  obtain ⟨i, rfl⟩ : ∃ i : Nat, j = (i : Int) := ⟨j.toNat, by omega⟩
  have him : i < m := by omega
  have hpl : ps.length = m := by rw [← partsI_len (shF l m) m l.length]; exact (congrArg List.length hps).symm ▸ (List.length_map ..).symm
  have hip : i < ps.length := by omega
  have e : ofV l i m = pick l ps[i].2.2 := by
    unfold ofV
    rw [if_neg (by omega)]
    have e1 : ((m : Int)).toNat = m := rfl
    have e2 : ((i : Int)).toNat = i := rfl
    rw [e1, e2]
    have : partsI (shF l m) m l.length = ps.map fun p => p.2.2 := hps.symm
    rw [this, List.getD_eq_getElem?_getD, List.getElem?_map, List.getElem?_eq_getElem hip]
    rfl
  have hin : ∀ y ∈ ps[i].2.2, ∃ k : Nat, y = (k : Int) ∧ k < l.length := fun y hy => partsI_in _ _ _ _ (hps ▸ List.mem_map_of_mem (f := fun p : PC => p.2.2) (List.getElem_mem hip)) y hy
  have hle : ps[i].2.2.length ≤ l.length := partsI_le _ _ _ _ (hps ▸ List.mem_map_of_mem (f := fun p : PC => p.2.2) (List.getElem_mem hip))
  rw [e] at hK
  conv => lhs; whnf
  refine idxRow rfl him ?_
  conv => lhs; whnf
  refine ldRow pt.row (v := pcell ps[i]) (by simp [hip]) rfl ?_
  have hr := (pt.own _ (List.getElem_mem hip)).1.rw
  generalize ps[i].2.2 = xs at hin hle hK hr ⊢
  generalize ps[i].2.1 = a at hr ⊢
  conv => lhs; whnf
  refine loop_rule (m := 234881281) (fun r fr τ => ∃ (z : Int) (c : Nat) (o' : Option Nat) (a' : AM.SA), z = (c : Int) ∧ c + r = xs.length ∧ σ1 <+: τ ∧ OwnS σ1 τ 5 o' a' (pick l (xs.take c)).length (opvs (pick l (xs.take c))) ∧
    fr = [.sl s l.length, .bad, .bad, .bad, .bad, .bad, .bad, .bad, .sl a' (pick l (xs.take c)).length, .bad, .bad, .bad, .bad, .bad, .bad, .bad, .bad, .bad, .bad, .bad, .bad, .bad, .bad, .bad, .bad, .sl a xs.length, .int .i64 xs.length, .int .i64 z, .bad, .bad, .bad, .bad, .bad, .bad, .bad, .bad, .bad, .bad, .bad, .bad]) ?_ _ xs.length _ _ (by omega) ⟨_, 0, none, .nil, rfl, by omega, List.prefix_rfl, OwnS.nil _ _ _, rfl⟩
  rintro r fr τ C ⟨z, c, o', a', rfl, hq, p, ow, rfl⟩ next fin
  conv => lhs; whnf
  by_cases hi : c < xs.length
  · rw [show decide ((c : Int) < (xs.length : Int)) = true from decide_eq_true (by omega)]
    obtain ⟨k, ek, hk⟩ := hin _ (List.getElem_mem hi)
    conv => lhs; whnf
    refine it44.idx (hr.mono p) rfl hi fun pe he => ?_
    conv => lhs; whnf
    refine it44.ld he ?_
    conv => lhs; whnf
    refine idxV (hs.mono (p1.trans p)) ek hk fun pv hv => ?_
    conv => lhs; whnf
    refine ldE hv ?_
    conv => lhs; whnf
    refine buildV ?_
    conv => lhs; whnf
    have ep : pick l (xs.take (c + 1)) = pick l (xs.take c) ++ [l[k]] := by
      unfold pick
      rw [List.take_succ_eq_append_getElem hi, List.map_append, ek]
      simp [List.getD_eq_getElem?_getD, hk]
    refine appS Tryz.underlying24 rfl rfl rfl rfl (by decide) (p.trans (List.prefix_append _ _)) (ow.mono (List.prefix_append _ _)) (Rw.new _ .own rfl) (N := (pick l (xs.take (c + 1))).length) (zs := opvs (pick l (xs.take (c + 1)))) (by rw [ep]; simp) (by rw [ep, opvs_app]) ?_ fun o2 a2 σ2 p2 _ _ _ _ w2 => ?_
    · show _ * 64 ≤ _
      unfold pick
      rw [List.length_map, List.length_take]
      omega
    conv => lhs; whnf
    refine next (r - 1) _ _ (by omega) ⟨_, c + 1, o2, a2, inc_i64 (by omega), by omega, p2, w2, rfl⟩
  rw [show decide ((c : Int) < (xs.length : Int)) = false from decide_eq_false (by omega)]
  rw [List.take_of_length_le (by omega)] at ow ⊢
  have := hK o' a' τ (p1.trans p) (ow.low (prefix_len p1))
  conv => lhs; whnf
  refine fin _ _ _ nofun ?_
  conv => lhs; whnf
  exact this
end Go.Proofs.YtajincfelnmlhaaGreat
namespace Go.Proofs.YtajincfelnmlhaaGreat
set_option maxRecDepth 100000
open Go Go.AM Go.AM.St
attribute [local irreducible] IntKind.wrap Int.fdiv Int.tdiv Int.tmod BitVec.ofInt appendK sliceK indexAddrK ldK storeK seenK makeSliceK lookupK updateK deleteK mapK rangeK nextK buildSliceK indexK
variable {D : Drawer} {σ : H}
theorem ref_of_spec {n M : Nat} {s : AM.SA} {l : List OpV} {q j : Int} (hM : M ≤ 9223372036854775808) (hn : M + 100000 ≤ n) (hl : l.length ≤ 10) (h2 : q ≤ 9223372036854775807) (hs : Rw σ 5 s l.length (opvs l)) (ho : ∀ o ∈ l, ∀ b ∈ o.s, b < 256) (hb : ∀ o ∈ l, o.s.length < M) {K : AV → H → Bool}
    (hK : ∀ o' a' σ', σ <+: σ' → OwnS σ σ' 5 o' a' (ofV l j q).length (opvs (ofV l j q)) → K (.sl a' (ofV l j q).length) σ' = true) :
    acall Tryz.prog tab D n 26 [.sl s l.length, .int .i64 j, .int .i64 q] σ K = true := by
  obtain ⟨n, rfl, hn⟩ := up (n := n) (k := M + 99999) (by omega)
  conv => lhs; whnf
  refine ref_parts_spec hM (by omega) hl h2 hs ho hb (fun h => ?_) fun m hm m1 m3 σ1 B ps p1 pt hps => ?_
  · have e : ofV l j q = [] := by unfold ofV; rw [if_pos (by omega)]
    rw [e] at hK
    have := hK none .nil σ List.prefix_rfl (OwnS.nil _ _ _)
    conv => lhs; whnf
    refine loop_rule (m := 899) (fun r fr τ => τ = σ ∧ fr = [.sl s l.length, .int .i64 j, .bad, .bad, .bad, .bad, .bad, .sl .nil 0, .sl .nil 0, .int .i64 0, .bad, .bad, .bad, .bad, .bad, .bad, .bad, .bad, .bad, .bad, .bad, .bad, .bad, .bad, .bad, .bad, .bad, .bad, .bad, .bad, .bad, .bad, .bad, .bad, .bad, .bad, .bad, .bad, .bad, .bad, .bad, .bad, .bad, .bad, .bad, .bad]) ?_ _ 0 _ _ (by omega) ⟨rfl, rfl⟩
    rintro r fr τ C ⟨rfl, rfl⟩ next fin
    conv => lhs; whnf
    by_cases h0 : j ≥ 0
    · rw [show decide (j ≥ 0) = true from decide_eq_true h0]
      conv => lhs; whnf
      rw [show decide (j < ((0 : Nat) : Int)) = false from decide_eq_false (by omega)]
      conv => lhs; whnf
      refine fin _ _ _ nofun ?_
      conv => lhs; whnf
      exact this
    rw [show decide (j ≥ 0) = false from decide_eq_false h0]
    conv => lhs; whnf
    refine fin _ _ _ nofun ?_
    conv => lhs; whnf
    exact this
  subst hm
  have hpl : ps.length = m := by rw [← partsI_len (shF l m) m l.length]; exact (congrArg List.length hps).symm ▸ (List.length_map ..).symm
  conv => lhs; whnf
  by_cases hj : j < 0 ∨ j ≥ m
  · have e : ofV l j m = [] := by unfold ofV; rw [if_pos (by omega)]
    rw [e] at hK
    have := hK none .nil _ p1 (OwnS.nil _ _ _)
    refine loop_rule (m := 899) (fun r fr τ => τ = σ1 ∧ fr = [.sl s l.length, .int .i64 j, .bad, .bad, .bad, .bad, .bad, .sl .nil 0, .sl (.at B 0 1) m, .int .i64 0, .bad, .bad, .bad, .bad, .bad, .bad, .bad, .bad, .bad, .bad, .bad, .bad, .bad, .bad, .bad, .bad, .bad, .bad, .bad, .bad, .bad, .bad, .bad, .bad, .bad, .bad, .bad, .bad, .bad, .bad, .bad, .bad, .bad, .bad, .bad, .bad]) ?_ _ 0 _ _ (by omega) ⟨rfl, rfl⟩
    rintro r fr τ C ⟨rfl, rfl⟩ next fin
    conv => lhs; whnf
    by_cases h0 : j ≥ 0
    · rw [show decide (j ≥ 0) = true from decide_eq_true h0]
      conv => lhs; whnf
      rw [show decide (j < (m : Int)) = false from decide_eq_false (by omega)]
      conv => lhs; whnf
      refine fin _ _ _ nofun ?_
      conv => lhs; whnf
      exact this
    rw [show decide (j ≥ 0) = false from decide_eq_false h0]
    conv => lhs; whnf
    refine fin _ _ _ nofun ?_
    conv => lhs; whnf
    exact this
  obtain ⟨i, rfl⟩ : ∃ i : Nat, j = (i : Int) := ⟨j.toNat, by omega⟩
  have him : i < m := by omega
  have hip : i < ps.length := by omega
  have e : ofV l i m = pick l ps[i].2.2 := by
    unfold ofV
    rw [if_neg (by omega)]
    have e1 : ((m : Int)).toNat = m := rfl
    have e2 : ((i : Int)).toNat = i := rfl
    rw [e1, e2]
    have : partsI (shF l m) m l.length = ps.map fun p => p.2.2 := hps.symm
    rw [this, List.getD_eq_getElem?_getD, List.getElem?_map, List.getElem?_eq_getElem hip]
    rfl
  have hin : ∀ y ∈ ps[i].2.2, ∃ k : Nat, y = (k : Int) ∧ k < l.length := fun y hy => partsI_in _ _ _ _ (hps ▸ List.mem_map_of_mem (f := fun p : PC => p.2.2) (List.getElem_mem hip)) y hy
  have hle : ps[i].2.2.length ≤ l.length := partsI_le _ _ _ _ (hps ▸ List.mem_map_of_mem (f := fun p : PC => p.2.2) (List.getElem_mem hip))
  rw [e] at hK
  have hrow : (ps.map pcell)[i]? = some (.sl ps[i].2.1 ps[i].2.2.length) := by simp [hip, pcell]
  have hr := (pt.own _ (List.getElem_mem hip)).1.rw
  have hB := pt.row
  generalize ps[i].2.2 = xs at hin hle hK hr hrow ⊢
  generalize ps[i].2.1 = a at hr hrow ⊢
  refine loop_rule (m := 899) (fun r fr τ => ∃ (z : Int) (c : Nat) (o' : Option Nat) (a' : AM.SA), z = (c : Int) ∧ c + r = xs.length ∧ σ1 <+: τ ∧ OwnS σ1 τ 5 o' a' (pick l (xs.take c)).length (opvs (pick l (xs.take c))) ∧
    fr = [.sl s l.length, .int .i64 (i : Int), .bad, .bad, .bad, .bad, .bad, .sl a' (pick l (xs.take c)).length, .sl (.at B 0 1) m, .int .i64 z, .bad, .bad, .bad, .bad, .bad, .bad, .bad, .bad, .bad, .bad, .bad, .bad, .bad, .bad, .bad, .bad, .bad, .bad, .bad, .bad, .bad, .bad, .bad, .bad, .bad, .bad, .bad, .bad, .bad, .bad, .bad, .bad, .bad, .bad, .bad, .bad]) ?_ _ xs.length _ _ (by omega) ⟨_, 0, none, .nil, rfl, by omega, List.prefix_rfl, OwnS.nil _ _ _, rfl⟩
  rintro r fr τ C ⟨z, c, o', a', rfl, hq, p, ow, rfl⟩ next fin
  conv => lhs; whnf
  rw [show decide ((i : Int) < (m : Int)) = true from decide_eq_true (by omega)]
  conv => lhs; whnf
  refine idxRow rfl him ?_
  conv => lhs; whnf
  refine ldRow (prefix_get p hB) hrow rfl ?_
  conv => lhs; whnf
  by_cases hi : c < xs.length
  · rw [show decide ((c : Int) < (xs.length : Int)) = true from decide_eq_true (by omega)]
    obtain ⟨k, ek, hk⟩ := hin _ (List.getElem_mem hi)
    conv => lhs; whnf
    refine idxRow rfl him ?_
    conv => lhs; whnf
    refine ldRow (prefix_get p hB) hrow rfl ?_
    conv => lhs; whnf
    refine it44.idx (hr.mono p) rfl hi fun pe he => ?_
    conv => lhs; whnf
    refine it44.ld he ?_
    conv => lhs; whnf
    refine idxV (hs.mono (p1.trans p)) ek hk fun pv hv => ?_
    conv => lhs; whnf
    refine ldE hv ?_
    conv => lhs; whnf
    refine buildV ?_
    conv => lhs; whnf
    have ep : pick l (xs.take (c + 1)) = pick l (xs.take c) ++ [l[k]] := by
      unfold pick
      rw [List.take_succ_eq_append_getElem hi, List.map_append, ek]
      simp [List.getD_eq_getElem?_getD, hk]
    refine appS Tryz.underlying24 rfl rfl rfl rfl (by decide) (p.trans (List.prefix_append _ _)) (ow.mono (List.prefix_append _ _)) (Rw.new _ .own rfl) (N := (pick l (xs.take (c + 1))).length) (zs := opvs (pick l (xs.take (c + 1)))) (by rw [ep]; simp) (by rw [ep, opvs_app]) ?_ fun o2 a2 σ2 p2 _ _ _ _ w2 => ?_
    · show _ * 64 ≤ _
      unfold pick
      rw [List.length_map, List.length_take]
      omega
    conv => lhs; whnf
    refine next (r - 1) _ _ (by omega) ⟨_, c + 1, o2, a2, inc_i64 (by omega), by omega, p2, w2, rfl⟩
  rw [show decide ((c : Int) < (xs.length : Int)) = false from decide_eq_false (by omega)]
  rw [List.take_of_length_le (by omega)] at ow ⊢
  have := hK o' a' τ (p1.trans p) (ow.low (prefix_len p1))
  conv => lhs; whnf
  refine fin _ _ _ nofun ?_
  conv => lhs; whnf
  exact this
end Go.Proofs.YtajincfelnmlhaaGreat
