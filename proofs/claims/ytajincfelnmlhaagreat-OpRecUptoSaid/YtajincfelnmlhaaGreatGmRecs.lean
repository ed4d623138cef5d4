/- The document's Put: transactions as records. Records as transactions, in plain lists. Records as transactions: Get, and the document's. -/
import Derived.Test.YtajincfelnmlhaaGreatL12Put2
import Derived.Test.YtajincfelnmlhaaGreatGmLock
namespace Go.Proofs.YtajincfelnmlhaaGreat
set_option maxRecDepth 100000
open Go Go.AM Go.AM.St
theorem ldEt {σ : H} {p : PA} {o : OpV} {K : AV → Bool} (hp : Elem σ 5 p (opv o)) (hK : K (.str (ints o.t)) = true) : ldK Tryz.prog 9 σ ⟨p.id, p.base, p.d + 3, p.z⟩ K = true := by
  obtain ⟨h1, h2, xs, md, h3, h4, h5⟩ := hp
  have hx : xs[p.base + (p.d + 3)]? = some (.str (ints o.t)) := by
    have e : ((xs.drop p.base).take 5)[3]? = some (.str (ints o.t)) := by rw [h5]; rfl
    rw [List.getElem?_take_of_lt (by omega), List.getElem?_drop] at e
    rw [h1]
    simpa using e
  refine ldF Tryz.underlying9 rfl rfl h3 hx ?_
  conv => lhs; whnf
  exact hK
theorem ldEn {σ : H} {p : PA} {o : OpV} {K : AV → Bool} (hp : Elem σ 5 p (opv o)) (hK : K (.int .i64 o.n) = true) : ldK Tryz.prog 2 σ ⟨p.id, p.base, p.d + 4, p.z⟩ K = true := by
  obtain ⟨h1, h2, xs, md, h3, h4, h5⟩ := hp
  have hx : xs[p.base + (p.d + 4)]? = some (.int .i64 o.n) := by
    have e : ((xs.drop p.base).take 5)[4]? = some (.int .i64 o.n) := by rw [h5]; rfl
    rw [List.getElem?_take_of_lt (by omega), List.getElem?_drop] at e
    rw [h1]
    simpa using e
  refine ldF Tryz.underlying2 rfl rfl h3 hx ?_
  conv => lhs; whnf
  exact hK
attribute [local irreducible] IntKind.wrap Int.fdiv Int.tdiv Int.tmod BitVec.ofInt appendK sliceK indexAddrK ldK storeK seenK makeSliceK lookupK updateK deleteK mapK rangeK nextK buildSliceK indexK
variable {D : Drawer} {σ : H}
theorem rput_no {n M : Nat} {s : AM.SA} {l : List OpV} {c e k : Int} (hD : ByPlan Tryz.prog D) (hn : l.length + 100 ≤ n) (hn2 : M + 200 ≤ n) (hM : M ≤ 9223372036854775808) (hb : ∀ o ∈ l, o.s.length < M) (hl : l.length ≤ 9223372036854775806) (hs : Rw σ 5 s l.length (opvs l)) {K : AV → H → Bool} (hp : putOk c e l k = false)
    (hK : ∀ σ', σ <+: σ' → K (.tup [.agg [.int .i64 0, .sl .nil 0, .sl .nil 0], .bool false]) σ' = true) :
    acall Tryz.prog tab D n 30 [.agg (idv c e), .sl s l.length, .int .i64 k] σ K = true := by
  obtain ⟨n, rfl, hn⟩ := up (n := n) (k := l.length + 99) (by omega)
  have T6 := get_new (σ ++ [AO.cells (idv c e) 2 .own]) (AO.cells [.int .i64 0, .sl .nil 0, .sl .nil 0] 3 .own)
  have T3 : (σ ++ [AO.cells (idv c e) 2 .own] ++ [AO.cells [.int .i64 0, .sl .nil 0, .sl .nil 0] 3 .own])[σ.length]? = some (AO.cells (idv c e) 2 .own) := prefix_get (List.prefix_append _ _) (get_new _ _)
  have P6 : σ <+: σ ++ [AO.cells (idv c e) 2 .own] ++ [AO.cells [.int .i64 0, .sl .nil 0, .sl .nil 0] 3 .own] := (List.prefix_append _ _).trans (List.prefix_append _ _)
  have hlen : (σ ++ [AO.cells (idv c e) 2 .own]).length = σ.length + 1 := by simp
  conv => lhs; whnf
  by_cases k34 : ¬ (k = 3 ∨ k = 4)
  · rw [show (k == 3) = false by rw [beq_eq_false_iff_ne]; omega]
    conv => lhs; whnf
    rw [show (k == 4) = false by rw [beq_eq_false_iff_ne]; omega]
    conv => lhs; whnf
    refine storeRec T6 rfl ?_
    rw [set_new]
    have := hK _ P6
    conv => lhs; whnf
    refine ldRec T6 ?_
    conv => lhs; whnf
    exact this
  have k34' : k = 3 ∨ k = 4 := Decidable.not_not.1 k34
  rcases k34' with rfl | rfl
  all_goals
    conv => lhs; whnf
    refine ldId T3 ?_
    conv => lhs; whnf
    refine ref_client_spec (by omega) fun σ1 p1 => ?_
    cases hc : clientV c e with
    | false =>
      conv => lhs; whnf
      refine storeRec (prefix_get p1 T6) rfl ?_
      have T7 := get_set (prefix_get p1 T6) (AO.cells [.int .i64 0, .sl .nil 0, .sl .nil 0] 3 .own)
      have := hK _ (prefix_set (P6.trans p1) (show σ.length ≤ (σ ++ [AO.cells (idv c e) 2 .own]).length by omega) (AO.cells [.int .i64 0, .sl .nil 0, .sl .nil 0] 3 .own))
      conv => lhs; whnf
      refine ldRec T7 ?_
      conv => lhs; whnf
      exact this
    | true =>
      conv => lhs; whnf
      refine ref_all_spec hD (by omega) (fun o h => by have := hb o h; omega) hl (hs.mono (P6.trans p1)) fun σ2 p2 => ?_
      cases ha : allV l with
      | false =>
        conv => lhs; whnf
        refine storeRec (prefix_get (p1.trans p2) T6) rfl ?_
        have T7 := get_set (prefix_get (p1.trans p2) T6) (AO.cells [.int .i64 0, .sl .nil 0, .sl .nil 0] 3 .own)
        have := hK _ (prefix_set (P6.trans (p1.trans p2)) (show σ.length ≤ (σ ++ [AO.cells (idv c e) 2 .own]).length by omega) (AO.cells [.int .i64 0, .sl .nil 0, .sl .nil 0] 3 .own))
        conv => lhs; whnf
        refine ldRec T7 ?_
        conv => lhs; whnf
        exact this
      | true =>
        unfold putOk at hp
        rw [hc, ha] at hp
        cases hp
theorem rput_yes {n M : Nat} {s : AM.SA} {l : List OpV} {c e k : Int} (hD : ByPlan Tryz.prog D) (hn : l.length + 100 ≤ n) (hn2 : M + 200 ≤ n) (hM : M ≤ 9223372036854775808) (hb : ∀ o ∈ l, o.s.length < M) (hl : l.length ≤ 1000) (hs : Rw σ 5 s l.length (opvs l)) {K : AV → H → Bool} (hp : putOk c e l k = true)
    (hK : ∀ o o' a b σ', σ <+: σ' → Own σ σ' 1 o a (putV c e l k).nums.length (iks .i64 (putV c e l k).nums) → Own σ σ' 1 o' b (putV c e l k).texts.length (txs (putV c e l k).texts) → K (.tup [recV a b (putV c e l k), .bool true]) σ' = true) :
    acall Tryz.prog tab D n 30 [.agg (idv c e), .sl s l.length, .int .i64 k] σ K = true := by
  obtain ⟨n, rfl, hn⟩ := up (n := n) (k := l.length + 99) (by omega)
  have T6 := get_new (σ ++ [AO.cells (idv c e) 2 .own]) (AO.cells [.int .i64 0, .sl .nil 0, .sl .nil 0] 3 .own)
  have T3 : (σ ++ [AO.cells (idv c e) 2 .own] ++ [AO.cells [.int .i64 0, .sl .nil 0, .sl .nil 0] 3 .own])[σ.length]? = some (AO.cells (idv c e) 2 .own) := prefix_get (List.prefix_append _ _) (get_new _ _)
  have P6 : σ <+: σ ++ [AO.cells (idv c e) 2 .own] ++ [AO.cells [.int .i64 0, .sl .nil 0, .sl .nil 0] 3 .own] := (List.prefix_append _ _).trans (List.prefix_append _ _)
  have k34 : k = 3 ∨ k = 4 := by
    unfold putOk at hp
    simp only [Bool.and_eq_true, Bool.or_eq_true, beq_iff_eq] at hp
    exact hp.1.1
  have hc : clientV c e = true := by
    unfold putOk at hp
    simp only [Bool.and_eq_true] at hp
    exact hp.1.2
  have ha : allV l = true := by
    unfold putOk at hp
    simp only [Bool.and_eq_true] at hp
    exact hp.2
  conv => lhs; whnf
  rcases k34 with rfl | rfl
  · conv => lhs; whnf
    refine ldId T3 ?_
    conv => lhs; whnf
    refine ref_client_spec (by omega) fun σ1 p1 => ?_
    rw [hc]
    conv => lhs; whnf
    refine ref_all_spec hD (by omega) (fun o h => by have := hb o h; omega) (by omega) (hs.mono (P6.trans p1)) fun σ2 p2 => ?_
    rw [ha]
    conv => lhs; whnf
    refine ldF Tryz.underlying3 rfl rfl (prefix_get (p1.trans p2) T3) rfl ?_
    conv => lhs; whnf
    refine ldF Tryz.underlying2 rfl rfl (prefix_get (p1.trans p2) T3) rfl ?_
    conv => lhs; whnf
    refine build2 ?_
    conv => lhs; whnf
    refine storeRec (get_new _ _) rfl ?_
    rw [set_new]
    have G0 : GrowAt (σ ++ [AO.cells (idv c e) 2 .own] ++ [AO.cells [.int .i64 0, .sl .nil 0, .sl .nil 0] 3 .own]) (σ2 ++ [AO.cells (iks .i64 [c, e]) 1 .own] ++ [AO.cells [.int .i64 3, .sl (.at σ2.length 0 1) 2, .sl .nil 0] 3 .own]) (σ2 ++ [AO.cells (iks .i64 [c, e]) 1 .own]).length 3 (some σ2.length) none (.at σ2.length 0 1) .nil [c, e] [] :=
      ⟨get_new _ _, Nat.le_trans (prefix_len (p1.trans p2)) (by simp), (Own.new (p1.trans p2) _ .own (by decide) rfl).mono (List.prefix_append _ _), Own.nil _ _ _, by simp, nofun, .inr nofun⟩
    generalize (σ2 ++ [AO.cells (iks .i64 [c, e]) 1 .own]).length = R at G0 ⊢
    conv => lhs; whnf
    have hbase : σ <+: σ ++ [AO.cells (idv c e) 2 .own] ++ [AO.cells [.int .i64 0, .sl .nil 0, .sl .nil 0] 3 .own] := P6
    have pp : σ ++ [AO.cells (idv c e) 2 .own] ++ [AO.cells [.int .i64 0, .sl .nil 0, .sl .nil 0] 3 .own] <+: σ2 ++ [AO.cells (iks .i64 [c, e]) 1 .own] ++ [AO.cells [.int .i64 3, .sl (.at σ2.length 0 1) 2, .sl .nil 0] 3 .own] := (p1.trans p2).trans ((List.prefix_append _ _).trans (List.prefix_append _ _))
    refine loop_rule (m := 834) (fun r fr τ => ∃ (z : Int) (i : Nat) (o o' : Option Nat) (a b : AM.SA), z = (i : Int) ∧ i + r = l.length ∧ σ ++ [AO.cells (idv c e) 2 .own] ++ [AO.cells [.int .i64 0, .sl .nil 0, .sl .nil 0] 3 .own] <+: τ ∧
      GrowAt (σ ++ [AO.cells (idv c e) 2 .own] ++ [AO.cells [.int .i64 0, .sl .nil 0, .sl .nil 0] 3 .own]) τ R 3 o o' a b ([c, e] ++ putNums (l.take i)) (putTexts (l.take i)) ∧
      fr = [.bad, .sl s l.length, .bad, .bad, .bad, .bad, .ptr (some ⟨(σ ++ [AO.cells (idv c e) 2 .own]).length, 0, 0, 3⟩), .bad, .ptr (some ⟨R, 0, 0, 3⟩), .int .i64 z, .bad, .bad, .bad, .bad, .bad, .bad, .bad, .bad, .bad, .bad, .bad, .bad, .bad, .bad, .bad, .bad, .bad, .bad, .bad, .bad, .bad, .bad, .bad, .bad, .bad, .bad, .bad, .bad, .bad, .bad, .bad, .bad, .bad, .bad, .bad, .bad, .bad, .bad, .bad, .bad, .bad, .bad, .bad, .bad, .bad, .bad, .bad, .bad, .bad, .bad, .bad, .bad, .bad, .bad, .bad, .bad, .bad, .bad, .bad, .bad, .bad, .bad, .bad, .bad, .bad, .bad]) ?_ _ l.length _ _ (by omega) ⟨_, 0, _, _, _, _, rfl, by omega, pp, G0, rfl⟩
    rintro r fr τ C ⟨z, i, o, o', a, b, rfl, hq, p, G, rfl⟩ next fin
    conv => lhs; whnf
    by_cases hi : i < l.length
    · rw [show decide ((i : Int) < (l.length : Int)) = true from decide_eq_true (by omega)]
      conv => lhs; whnf
      refine goK hD plan30x7 ord30x7 fun KK hKK => ?_
      conv => lhs; whnf
      refine ldF Tryz.underlying40 rfl rfl G.row rfl ?_
      conv => lhs; whnf
      refine idxV (hs.mono (hbase.trans p)) rfl hi fun pe he => ?_
      obtain ⟨pid, pb, pd, pz⟩ := pe
      obtain rfl : pd = 0 := he.1
      obtain rfl : pz = 5 := he.2.1
      conv => lhs; whnf
      refine ldE0 he ?_
      clear he
      conv => lhs; whnf
      refine idxV (hs.mono (hbase.trans p)) rfl hi fun pe he => ?_
      obtain ⟨pid, pb, pd, pz⟩ := pe
      obtain rfl : pd = 0 := he.1
      obtain rfl : pz = 5 := he.2.1
      conv => lhs; whnf
      refine ldEn he ?_
      clear he
      conv => lhs; whnf
      refine build2 ?_
      have PB := List.prefix_append τ [AO.cells (iks .i64 [l[i].kind, l[i].n]) 1 .own]
      have en : ([c, e] ++ putNums (l.take i)) ++ [l[i].kind, l[i].n] = [c, e] ++ putNums (l.take (i + 1)) := by
        rw [putNums_take hi, List.append_assoc]
      have et : putTexts (l.take i) ++ [l[i].s, l[i].k, l[i].t] = putTexts (l.take (i + 1)) := by
        rw [putTexts_take hi]
      have G2 := G.mono PB
      conv => lhs; whnf
      refine and_true (all_skip rfl (all_skip rfl (all_cons ?_ rfl))) ?_
      · conv => lhs; whnf
        refine ldF Tryz.underlying40 rfl rfl G2.row rfl ?_
        exact same_sl _ _
      conv => lhs; whnf
      refine it42.app (xs := [c, e] ++ putNums (l.take i)) (ys := [l[i].kind, l[i].n]) (p.trans PB) G2.nums (Rw.new _ .own rfl) _ en ?_ fun o2 a2 σ3 p3 k3 e1 e2 w3 => ?_
      · rw [List.length_append, putNums_len, List.length_take]
        show 2 + _ ≤ _
        omega
      obtain ⟨r3, G3⟩ := G2.addNums k3 e1 e2 w3
      conv => lhs; whnf
      refine storeK_of rfl rfl (by decide) r3 rfl (by show 0 + 1 < 3; decide) ?_
      have q3 := hbase.trans (prefix_set p3 G3.base (AO.cells [.int .i64 3, .sl a2 ([c, e] ++ putNums (l.take (i + 1))).length, .sl b (putTexts (l.take i)).length] 3 .own))
      conv => lhs; whnf
      subst hKK
      conv => lhs; whnf
      refine goK hD plan30x8 ord30x8 fun KK hKK => ?_
      conv => lhs; whnf
      refine ldF Tryz.underlying41 rfl rfl G3.row rfl ?_
      conv => lhs; whnf
      refine idxV (hs.mono q3) rfl hi fun pe he => ?_
      obtain ⟨pid, pb, pd, pz⟩ := pe
      obtain rfl : pd = 0 := he.1
      obtain rfl : pz = 5 := he.2.1
      conv => lhs; whnf
      refine ldEF he ?_
      clear he
      conv => lhs; whnf
      refine idxV (hs.mono q3) rfl hi fun pe he => ?_
      obtain ⟨pid, pb, pd, pz⟩ := pe
      obtain rfl : pd = 0 := he.1
      obtain rfl : pz = 5 := he.2.1
      conv => lhs; whnf
      refine ldEk he ?_
      clear he
      conv => lhs; whnf
      refine idxV (hs.mono q3) rfl hi fun pe he => ?_
      obtain ⟨pid, pb, pd, pz⟩ := pe
      obtain rfl : pd = 0 := he.1
      obtain rfl : pz = 5 := he.2.1
      conv => lhs; whnf
      refine ldEt he ?_
      clear he
      conv => lhs; whnf
      refine build3 ?_
      have G4 := G3.mono (List.prefix_append _ [AO.cells (txs [l[i].s, l[i].k, l[i].t]) 1 .own])
      conv => lhs; whnf
      refine and_true (all_skip rfl (all_skip rfl (all_skip rfl (all_cons ?_ rfl)))) ?_
      · conv => lhs; whnf
        refine ldF Tryz.underlying41 rfl rfl G4.row rfl ?_
        exact same_sl _ _
      conv => lhs; whnf
      refine tt43.app (xs := putTexts (l.take i)) (ys := [l[i].s, l[i].k, l[i].t]) ((prefix_set p3 G3.base _).trans (List.prefix_append _ _)) G4.texts (Rw.new _ .own rfl) _ et ?_ fun o4 b4 σ5 p5 k5 e3 e4 w5 => ?_
      · rw [putTexts_len, List.length_take]
        omega
      obtain ⟨r5, G5⟩ := G4.addTexts k5 e3 e4 w5
      conv => lhs; whnf
      refine storeK_of rfl rfl (by decide) r5 rfl (by show 0 + 2 < 3; decide) ?_
      conv => lhs; whnf
      subst hKK
      conv => lhs; whnf
      refine next (r - 1) _ _ (by omega) ⟨_, i + 1, o2, o4, a2, b4, inc_i64 (by omega), by omega, prefix_set p5 G5.base _, G5, rfl⟩
    rw [show decide ((i : Int) < (l.length : Int)) = false from decide_eq_false (by omega)]
    rw [List.take_of_length_le (by omega)] at G
    have T6' := prefix_get p T6
    have T7 := get_set T6' (AO.cells [.int .i64 3, .sl a ([c, e] ++ putNums l).length, .sl b (putTexts l).length] 3 .own)
    conv => lhs; whnf
    refine fin _ _ _ nofun ?_
    conv => lhs; whnf
    refine ldRec G.row ?_
    conv => lhs; whnf
    refine storeRec T6' rfl ?_
    conv => lhs; whnf
    refine ldRec T7 ?_
    have k6 : Keep (some (σ ++ [AO.cells (idv c e) 2 .own]).length) τ (τ.set (σ ++ [AO.cells (idv c e) 2 .own]).length (AO.cells [.int .i64 3, .sl a ([c, e] ++ putNums l).length, .sl b (putTexts l).length] 3 .own)) := fun id x hne hx => get_set_ne hx (fun e => hne (by rw [e])) _
    have l6 : (σ ++ [AO.cells (idv c e) 2 .own]).length < (σ ++ [AO.cells (idv c e) 2 .own] ++ [AO.cells [.int .i64 0, .sl .nil 0, .sl .nil 0] 3 .own]).length := by simp
    have := hK o o' a b _ (prefix_set (hbase.trans p) (by simp) _) ((G.nums.keep k6 (G.nums.off l6)).since hbase) ((G.texts.keep k6 (G.texts.off l6)).since hbase)
    conv => lhs; whnf
    exact this
  · conv => lhs; whnf
    refine ldId T3 ?_
    conv => lhs; whnf
    refine ref_client_spec (by omega) fun σ1 p1 => ?_
    rw [hc]
    conv => lhs; whnf
    refine ref_all_spec hD (by omega) (fun o h => by have := hb o h; omega) (by omega) (hs.mono (P6.trans p1)) fun σ2 p2 => ?_
    rw [ha]
    conv => lhs; whnf
    refine ldF Tryz.underlying3 rfl rfl (prefix_get (p1.trans p2) T3) rfl ?_
    conv => lhs; whnf
    refine ldF Tryz.underlying2 rfl rfl (prefix_get (p1.trans p2) T3) rfl ?_
    conv => lhs; whnf
    refine build2 ?_
    conv => lhs; whnf
    refine storeRec (get_new _ _) rfl ?_
    rw [set_new]
    have G0 : GrowAt (σ ++ [AO.cells (idv c e) 2 .own] ++ [AO.cells [.int .i64 0, .sl .nil 0, .sl .nil 0] 3 .own]) (σ2 ++ [AO.cells (iks .i64 [c, e]) 1 .own] ++ [AO.cells [.int .i64 4, .sl (.at σ2.length 0 1) 2, .sl .nil 0] 3 .own]) (σ2 ++ [AO.cells (iks .i64 [c, e]) 1 .own]).length 4 (some σ2.length) none (.at σ2.length 0 1) .nil [c, e] [] :=
      ⟨get_new _ _, Nat.le_trans (prefix_len (p1.trans p2)) (by simp), (Own.new (p1.trans p2) _ .own (by decide) rfl).mono (List.prefix_append _ _), Own.nil _ _ _, by simp, nofun, .inr nofun⟩
    generalize (σ2 ++ [AO.cells (iks .i64 [c, e]) 1 .own]).length = R at G0 ⊢
    conv => lhs; whnf
    have hbase : σ <+: σ ++ [AO.cells (idv c e) 2 .own] ++ [AO.cells [.int .i64 0, .sl .nil 0, .sl .nil 0] 3 .own] := P6
    have pp : σ ++ [AO.cells (idv c e) 2 .own] ++ [AO.cells [.int .i64 0, .sl .nil 0, .sl .nil 0] 3 .own] <+: σ2 ++ [AO.cells (iks .i64 [c, e]) 1 .own] ++ [AO.cells [.int .i64 4, .sl (.at σ2.length 0 1) 2, .sl .nil 0] 3 .own] := (p1.trans p2).trans ((List.prefix_append _ _).trans (List.prefix_append _ _))
    refine loop_rule (m := 834) (fun r fr τ => ∃ (z : Int) (i : Nat) (o o' : Option Nat) (a b : AM.SA), z = (i : Int) ∧ i + r = l.length ∧ σ ++ [AO.cells (idv c e) 2 .own] ++ [AO.cells [.int .i64 0, .sl .nil 0, .sl .nil 0] 3 .own] <+: τ ∧
      GrowAt (σ ++ [AO.cells (idv c e) 2 .own] ++ [AO.cells [.int .i64 0, .sl .nil 0, .sl .nil 0] 3 .own]) τ R 4 o o' a b ([c, e] ++ putNums (l.take i)) (putTexts (l.take i)) ∧
      fr = [.bad, .sl s l.length, .bad, .bad, .bad, .bad, .ptr (some ⟨(σ ++ [AO.cells (idv c e) 2 .own]).length, 0, 0, 3⟩), .bad, .ptr (some ⟨R, 0, 0, 3⟩), .int .i64 z, .bad, .bad, .bad, .bad, .bad, .bad, .bad, .bad, .bad, .bad, .bad, .bad, .bad, .bad, .bad, .bad, .bad, .bad, .bad, .bad, .bad, .bad, .bad, .bad, .bad, .bad, .bad, .bad, .bad, .bad, .bad, .bad, .bad, .bad, .bad, .bad, .bad, .bad, .bad, .bad, .bad, .bad, .bad, .bad, .bad, .bad, .bad, .bad, .bad, .bad, .bad, .bad, .bad, .bad, .bad, .bad, .bad, .bad, .bad, .bad, .bad, .bad, .bad, .bad, .bad, .bad]) ?_ _ l.length _ _ (by omega) ⟨_, 0, _, _, _, _, rfl, by omega, pp, G0, rfl⟩
    rintro r fr τ C ⟨z, i, o, o', a, b, rfl, hq, p, G, rfl⟩ next fin
    conv => lhs; whnf
    by_cases hi : i < l.length
    · rw [show decide ((i : Int) < (l.length : Int)) = true from decide_eq_true (by omega)]
      conv => lhs; whnf
      refine goK hD plan30x7 ord30x7 fun KK hKK => ?_
      conv => lhs; whnf
      refine ldF Tryz.underlying40 rfl rfl G.row rfl ?_
      conv => lhs; whnf
      refine idxV (hs.mono (hbase.trans p)) rfl hi fun pe he => ?_
      obtain ⟨pid, pb, pd, pz⟩ := pe
      obtain rfl : pd = 0 := he.1
      obtain rfl : pz = 5 := he.2.1
      conv => lhs; whnf
      refine ldE0 he ?_
      clear he
      conv => lhs; whnf
      refine idxV (hs.mono (hbase.trans p)) rfl hi fun pe he => ?_
      obtain ⟨pid, pb, pd, pz⟩ := pe
      obtain rfl : pd = 0 := he.1
      obtain rfl : pz = 5 := he.2.1
      conv => lhs; whnf
      refine ldEn he ?_
      clear he
      conv => lhs; whnf
      refine build2 ?_
      have PB := List.prefix_append τ [AO.cells (iks .i64 [l[i].kind, l[i].n]) 1 .own]
      have en : ([c, e] ++ putNums (l.take i)) ++ [l[i].kind, l[i].n] = [c, e] ++ putNums (l.take (i + 1)) := by
        rw [putNums_take hi, List.append_assoc]
      have et : putTexts (l.take i) ++ [l[i].s, l[i].k, l[i].t] = putTexts (l.take (i + 1)) := by
        rw [putTexts_take hi]
      have G2 := G.mono PB
      conv => lhs; whnf
      refine and_true (all_skip rfl (all_skip rfl (all_cons ?_ rfl))) ?_
      · conv => lhs; whnf
        refine ldF Tryz.underlying40 rfl rfl G2.row rfl ?_
        exact same_sl _ _
      conv => lhs; whnf
      refine it42.app (xs := [c, e] ++ putNums (l.take i)) (ys := [l[i].kind, l[i].n]) (p.trans PB) G2.nums (Rw.new _ .own rfl) _ en ?_ fun o2 a2 σ3 p3 k3 e1 e2 w3 => ?_
      · rw [List.length_append, putNums_len, List.length_take]
        show 2 + _ ≤ _
        omega
      obtain ⟨r3, G3⟩ := G2.addNums k3 e1 e2 w3
      conv => lhs; whnf
      refine storeK_of rfl rfl (by decide) r3 rfl (by show 0 + 1 < 3; decide) ?_
      have q3 := hbase.trans (prefix_set p3 G3.base (AO.cells [.int .i64 4, .sl a2 ([c, e] ++ putNums (l.take (i + 1))).length, .sl b (putTexts (l.take i)).length] 3 .own))
      conv => lhs; whnf
      subst hKK
      conv => lhs; whnf
      refine goK hD plan30x8 ord30x8 fun KK hKK => ?_
      conv => lhs; whnf
      refine ldF Tryz.underlying41 rfl rfl G3.row rfl ?_
      conv => lhs; whnf
      refine idxV (hs.mono q3) rfl hi fun pe he => ?_
      obtain ⟨pid, pb, pd, pz⟩ := pe
      obtain rfl : pd = 0 := he.1
      obtain rfl : pz = 5 := he.2.1
      conv => lhs; whnf
      refine ldEF he ?_
      clear he
      conv => lhs; whnf
      refine idxV (hs.mono q3) rfl hi fun pe he => ?_
      obtain ⟨pid, pb, pd, pz⟩ := pe
      obtain rfl : pd = 0 := he.1
      obtain rfl : pz = 5 := he.2.1
      conv => lhs; whnf
      refine ldEk he ?_
      clear he
      conv => lhs; whnf
      refine idxV (hs.mono q3) rfl hi fun pe he => ?_
      obtain ⟨pid, pb, pd, pz⟩ := pe
      obtain rfl : pd = 0 := he.1
      obtain rfl : pz = 5 := he.2.1
      conv => lhs; whnf
      refine ldEt he ?_
      clear he
      conv => lhs; whnf
      refine build3 ?_
      have G4 := G3.mono (List.prefix_append _ [AO.cells (txs [l[i].s, l[i].k, l[i].t]) 1 .own])
      conv => lhs; whnf
      refine and_true (all_skip rfl (all_skip rfl (all_skip rfl (all_cons ?_ rfl)))) ?_
      · conv => lhs; whnf
        refine ldF Tryz.underlying41 rfl rfl G4.row rfl ?_
        exact same_sl _ _
      conv => lhs; whnf
      refine tt43.app (xs := putTexts (l.take i)) (ys := [l[i].s, l[i].k, l[i].t]) ((prefix_set p3 G3.base _).trans (List.prefix_append _ _)) G4.texts (Rw.new _ .own rfl) _ et ?_ fun o4 b4 σ5 p5 k5 e3 e4 w5 => ?_
      · rw [putTexts_len, List.length_take]
        omega
      obtain ⟨r5, G5⟩ := G4.addTexts k5 e3 e4 w5
      conv => lhs; whnf
      refine storeK_of rfl rfl (by decide) r5 rfl (by show 0 + 2 < 3; decide) ?_
      conv => lhs; whnf
      subst hKK
      conv => lhs; whnf
      refine next (r - 1) _ _ (by omega) ⟨_, i + 1, o2, o4, a2, b4, inc_i64 (by omega), by omega, prefix_set p5 G5.base _, G5, rfl⟩
    rw [show decide ((i : Int) < (l.length : Int)) = false from decide_eq_false (by omega)]
    rw [List.take_of_length_le (by omega)] at G
    have T6' := prefix_get p T6
    have T7 := get_set T6' (AO.cells [.int .i64 4, .sl a ([c, e] ++ putNums l).length, .sl b (putTexts l).length] 3 .own)
    conv => lhs; whnf
    refine fin _ _ _ nofun ?_
    conv => lhs; whnf
    refine ldRec G.row ?_
    conv => lhs; whnf
    refine storeRec T6' rfl ?_
    conv => lhs; whnf
    refine ldRec T7 ?_
    have k6 : Keep (some (σ ++ [AO.cells (idv c e) 2 .own]).length) τ (τ.set (σ ++ [AO.cells (idv c e) 2 .own]).length (AO.cells [.int .i64 4, .sl a ([c, e] ++ putNums l).length, .sl b (putTexts l).length] 3 .own)) := fun id x hne hx => get_set_ne hx (fun e => hne (by rw [e])) _
    have l6 : (σ ++ [AO.cells (idv c e) 2 .own]).length < (σ ++ [AO.cells (idv c e) 2 .own] ++ [AO.cells [.int .i64 0, .sl .nil 0, .sl .nil 0] 3 .own]).length := by simp
    have := hK o o' a b _ (prefix_set (hbase.trans p) (by simp) _) ((G.nums.keep k6 (G.nums.off l6)).since hbase) ((G.texts.keep k6 (G.texts.off l6)).since hbase)
    conv => lhs; whnf
    exact this
end Go.Proofs.YtajincfelnmlhaaGreat
namespace Go.Proofs.YtajincfelnmlhaaGreat
open Go Go.AM Go.AM.St
def nOps (r : RecP) : Nat := r.texts.length / 3
def opAt (r : RecP) (i : Nat) : OpV := ⟨r.nums.getD (2 + 2 * i) 0, r.texts.getD (3 * i) [], r.texts.getD (3 * i + 1) [], r.texts.getD (3 * i + 2) [], r.nums.getD (3 + 2 * i) 0⟩
def opsAt (r : RecP) (n : Nat) : List OpV := (List.range n).map (opAt r)
theorem opsAt_len (r : RecP) (n : Nat) : (opsAt r n).length = n := by simp [opsAt]
theorem opsAt_succ (r : RecP) (n : Nat) : opsAt r (n + 1) = opsAt r n ++ [opAt r n] := by simp [opsAt, List.range_succ]
def cOf (r : RecP) : Int := r.nums.getD 0 0
def eOf (r : RecP) : Int := r.nums.getD 1 0
def getOk (r : RecP) : Bool := decide (r.nums.length = 2 + 2 * nOps r) && (decide (r.texts.length = 3 * nOps r) && putOk (cOf r) (eOf r) (opsAt r (nOps r)) r.kind)
theorem take_getD {α : Type} {l : List α} {i : Nat} (h : i < l.length) (d : α) : l.take (i + 1) = l.take i ++ [l.getD i d] := by
  rw [List.take_succ_eq_append_getElem h, List.getD_eq_getElem?_getD, List.getElem?_eq_getElem h]
  rfl
theorem nums_take {r : RecP} : ∀ m : Nat, 2 + 2 * m ≤ r.nums.length → [cOf r, eOf r] ++ putNums (opsAt r m) = r.nums.take (2 + 2 * m)
  | 0, h => by
    have e : r.nums.take 2 = [cOf r, eOf r] := by
      rw [take_getD (i := 1) (by omega) 0, take_getD (i := 0) (by omega) 0, List.take_zero]
      rfl
    show [cOf r, eOf r] ++ [] = r.nums.take 2
    rw [e]; rfl
  | m + 1, h => by
    have ih := nums_take (r := r) m (by omega)
    rw [opsAt_succ, putNums, List.flatMap_append, ← putNums, ← List.append_assoc, ih]
    rw [show 2 + 2 * (m + 1) = (2 + 2 * m) + 1 + 1 by omega, take_getD (i := 2 + 2 * m + 1) (by omega) 0, take_getD (i := 2 + 2 * m) (by omega) 0, List.append_assoc]
    have : 2 + 2 * m + 1 = 3 + 2 * m := by omega
    rw [this]
    rfl
theorem texts_take {r : RecP} : ∀ m : Nat, 3 * m ≤ r.texts.length → putTexts (opsAt r m) = r.texts.take (3 * m)
  | 0, _ => rfl
  | m + 1, h => by
    have ih := texts_take (r := r) m (by omega)
    rw [opsAt_succ, putTexts, List.flatMap_append, ← putTexts, ih]
    rw [show 3 * (m + 1) = 3 * m + 1 + 1 + 1 by omega, take_getD (i := 3 * m + 1 + 1) (by omega) [], take_getD (i := 3 * m + 1) (by omega) [], take_getD (i := 3 * m) (by omega) [], List.append_assoc, List.append_assoc]
    rfl
/-- What was read is written as it was. -/
theorem put_back {r : RecP} (h : r.nums.length = 2 + 2 * nOps r) : recEq (putV (cOf r) (eOf r) (opsAt r (nOps r)) r.kind) r = decide (r.texts.length = 3 * nOps r) := by
  have h3 : 3 * nOps r ≤ r.texts.length := by unfold nOps; omega
  have e1 : (putV (cOf r) (eOf r) (opsAt r (nOps r)) r.kind).nums = r.nums := by
    show [cOf r, eOf r] ++ putNums (opsAt r (nOps r)) = r.nums
    rw [nums_take _ (by omega), ← h, List.take_length]
  have e2 : (putV (cOf r) (eOf r) (opsAt r (nOps r)) r.kind).texts = r.texts.take (3 * nOps r) := texts_take _ h3
  have e3 : (putV (cOf r) (eOf r) (opsAt r (nOps r)) r.kind).kind = r.kind := rfl
  unfold recEq
  rw [e1, e2, e3, decide_eq_true rfl, decide_eq_true rfl, Bool.true_and, Bool.true_and]
  by_cases ht : r.texts.length = 3 * nOps r
  · rw [decide_eq_true ht, ← ht, List.take_length, decide_eq_true rfl]
  · rw [decide_eq_false ht]
    refine decide_eq_false fun e => ht ?_
    have := congrArg List.length e
    rw [List.length_take] at this
    omega
theorem getD_mem {α : Type} {l : List α} {i : Nat} {d : α} : l.getD i d ∈ l ∨ l.getD i d = d := by
  rw [List.getD_eq_getElem?_getD]
  cases h : l[i]? with
  | none => exact .inr rfl
  | some x => exact .inl (List.mem_of_getElem? h)
theorem opAt_ok {r : RecP} (h : OkR r) (i : Nat) : OkV (opAt r i) := by
  have ht : ∀ j, ∀ b ∈ r.texts.getD j [], b < 256 := fun j b hb => by
    rcases getD_mem (l := r.texts) (i := j) (d := []) with h1 | h1
    · exact (h.ts _ h1).1 b hb
    · rw [h1] at hb; simp at hb
  have hnn : ∀ j, -9223372036854775808 ≤ r.nums.getD j 0 ∧ r.nums.getD j 0 ≤ 9223372036854775807 := fun j => by
    rcases getD_mem (l := r.nums) (i := j) (d := 0) with h1 | h1
    · exact h.ns _ h1
    · rw [h1]; decide
  exact ⟨ht _, ht _, ht _, (hnn _).1, (hnn _).2, (hnn _).1, (hnn _).2⟩
theorem opsAt_ok {r : RecP} (h : OkR r) (n : Nat) : ∀ o ∈ opsAt r n, OkV o := fun o ho => by
  obtain ⟨i, _, rfl⟩ := List.mem_map.1 ho
  exact opAt_ok h i
theorem opsAt_s {r : RecP} {M : Nat} (h0 : 0 < M) (h : ∀ t ∈ r.texts, t.length < M) (n : Nat) : ∀ o ∈ opsAt r n, o.s.length < M := fun o ho => by
  obtain ⟨i, _, rfl⟩ := List.mem_map.1 ho
  rcases getD_mem (l := r.texts) (i := 3 * i) (d := []) with h1 | h1
  · exact h _ h1
  · show (r.texts.getD (3 * i) []).length < M
    rw [h1]; exact h0
theorem quo3 (k : Nat) (h : k ≤ 1000000000) : IntKind.i64.wrap ((k : Int).tdiv 3) = ((k / 3 : Nat) : Int) := by
  have : (k : Int).tdiv 3 = ((k / 3 : Nat) : Int) := Int.ofNat_tdiv k 3
  rw [this, wrap_i64 (by omega) (by omega)]
theorem w22 (i : Nat) (h : i ≤ 1000000000) : IntKind.i64.wrap (2 + IntKind.i64.wrap (2 * (i : Int))) = ((2 + 2 * i : Nat) : Int) := by
  rw [wrap_i64 (x := 2 * (i : Int)) (by omega) (by omega), wrap_i64 (by omega) (by omega)]; omega
theorem w32 (i : Nat) (h : i ≤ 1000000000) : IntKind.i64.wrap (3 + IntKind.i64.wrap (2 * (i : Int))) = ((3 + 2 * i : Nat) : Int) := by
  rw [wrap_i64 (x := 2 * (i : Int)) (by omega) (by omega), wrap_i64 (by omega) (by omega)]; omega
theorem w3 (i : Nat) (h : i ≤ 1000000000) : IntKind.i64.wrap (3 * (i : Int)) = ((3 * i : Nat) : Int) := by
  rw [wrap_i64 (by omega) (by omega)]; omega
theorem w31 (i : Nat) (h : i ≤ 1000000000) : IntKind.i64.wrap (IntKind.i64.wrap (3 * (i : Int)) + 1) = ((3 * i + 1 : Nat) : Int) := by
  rw [w3 i h, wrap_i64 (by omega) (by omega)]; omega
theorem w3b (i : Nat) (h : i ≤ 1000000000) : IntKind.i64.wrap (IntKind.i64.wrap (3 * (i : Int)) + 2) = ((3 * i + 2 : Nat) : Int) := by
  rw [w3 i h, wrap_i64 (by omega) (by omega)]; omega
theorem getD_at {α : Type} {l : List α} {i : Nat} (h : i < l.length) (d : α) : l[i] = l.getD i d := by
  rw [List.getD_eq_getElem?_getD, List.getElem?_eq_getElem h]
  rfl
theorem kinds_of {r : RecP} {n : Nat} {c e k : Int} (h : putOk c e (opsAt r n) k = true) : (0 ≤ c ∧ c ≤ 8) ∧ ∀ i, i < n → 1 ≤ r.nums.getD (2 + 2 * i) 0 ∧ r.nums.getD (2 + 2 * i) 0 ≤ 12 := by
  unfold putOk at h
  simp only [Bool.and_eq_true] at h
  obtain ⟨⟨_, h2⟩, h3⟩ := h
  constructor
  · unfold clientV at h2
    by_cases a : c < 0
    · rw [if_pos a] at h2; cases h2
    · rw [if_neg a] at h2
      by_cases b : c > 8
      · rw [if_pos b] at h2; cases h2
      · omega
  · intro i hi
    unfold allV at h3
    split at h3
    · cases h3
    · split at h3
      · cases h3
      · have := List.all_eq_true.1 h3 (opAt r i) (List.mem_map.2 ⟨i, List.mem_range.2 hi, rfl⟩)
        unfold mayV at this
        have hk : (opAt r i).kind = r.nums.getD (2 + 2 * i) 0 := rfl
        rw [hk] at this
        by_cases a : r.nums.getD (2 + 2 * i) 0 < 1
        · rw [if_pos a] at this; cases this
        · rw [if_neg a] at this
          by_cases b : r.nums.getD (2 + 2 * i) 0 > 12
          · rw [if_pos b] at this; cases this
          · omega
end Go.Proofs.YtajincfelnmlhaaGreat
namespace Go.Proofs.YtajincfelnmlhaaGreat
set_option maxRecDepth 100000
open Go Go.AM Go.AM.St
theorem buildO {σ : H} {o : OpV} {K : AV → H → Bool} (hK : K (.sl (.at σ.length 0 5) 1) (σ ++ [.cells (opvs [o]) 5 .own]) = true) : buildSliceK Tryz.prog 24 1 [(0, .agg (opv o))] σ K = true := by
  conv => lhs; whnf
  exact hK
theorem same_idv2 (c e : Int) : sameV (.agg (idv c e)) (.agg (idv c e)) = true := by simp [sameV, sameL, sameLeaf]
/-- A record as a row of its own. -/
abbrev rcs (a b : AM.SA) (r : RecP) : List AV := [.int .i64 r.kind, .sl a r.nums.length, .sl b r.texts.length]
attribute [local irreducible] IntKind.wrap Int.fdiv Int.tdiv Int.tmod BitVec.ofInt appendK sliceK indexAddrK ldK storeK seenK makeSliceK lookupK updateK deleteK mapK rangeK nextK buildSliceK indexK
variable {D : Drawer} {σ : H}
theorem in_spec {n : Nat} {x lo hi : Int} (hn : 1 ≤ n) {K : AV → H → Bool} (hK : K (.bool (decide (lo ≤ x) && decide (x ≤ hi))) σ = true) : acall Tryz.prog tab D n 61 [.int .i64 x, .int .i64 lo, .int .i64 hi] σ K = true := by
  obtain ⟨n, rfl, hn⟩ := up hn
  conv => lhs; whnf
  by_cases h1 : lo ≤ x
  · rw [decide_eq_true h1] at hK
    rw [show decide (x ≥ lo) = true from decide_eq_true h1]
    conv => lhs; whnf
    by_cases h2 : x ≤ hi
    · rw [decide_eq_true h2] at hK ⊢
      conv => lhs; whnf
      exact hK
    · rw [decide_eq_false h2] at hK ⊢
      conv => lhs; whnf
      exact hK
  · rw [decide_eq_false h1] at hK
    rw [show decide (x ≥ lo) = false from decide_eq_false h1]
    conv => lhs; whnf
    exact hK
theorem oget_spec {n M : Nat} {a b : AM.SA} {r : RecP} (hD : ByPlan Tryz.prog D) (hn : M + 4000000 ≤ n) (rI : IsR σ a b r) (ok : OkR r) (hnl : r.nums.length ≤ 1048576) (htl : r.texts.length ≤ 1048576) {K : AV → H → Bool}
    (h1 : getOk r = true → ∀ a' σ', σ <+: σ' → Rw σ' 5 a' (opsAt r (nOps r)).length (opvs (opsAt r (nOps r))) → K (.tup [.agg (idv (cOf r) (eOf r)), .sl a' (opsAt r (nOps r)).length, .bool true]) σ' = true)
    (h0 : getOk r = false → ∀ σ', σ <+: σ' → K (.tup [.agg (idv 0 0), .sl .nil 0, .bool false]) σ' = true) : acall Tryz.prog tab D n 32 [recV a b r] σ K = true := by
  obtain ⟨n, rfl, hn⟩ := up (n := n) (k := M + 3999999) (by omega)
  have P1 : σ <+: (σ ++ [AO.cells (rcs a b r) 3 .own] ++ [AO.cells (idv 0 0) 2 .own]) := (List.prefix_append _ _).trans (List.prefix_append _ _)
  have T1 := get_old (get_new σ (AO.cells (rcs a b r) 3 .own)) (AO.cells (idv 0 0) 2 .own)
  have T2 := get_two σ (AO.cells (rcs a b r) 3 .own) (AO.cells (idv 0 0) 2 .own) (AO.cells (rcs a b r) 3 .own)
  have L2 : (σ ++ [AO.cells (rcs a b r) 3 .own]).length = σ.length + 1 := by simp
  have L3 : (σ ++ [AO.cells (rcs a b r) 3 .own] ++ [AO.cells (idv 0 0) 2 .own]).length = σ.length + 2 := by simp
  conv => lhs; whnf
  refine ldF Tryz.underlying41 rfl rfl T1 rfl ?_
  conv => lhs; whnf
  rw [quo3 _ (by omega)]
  refine ldF Tryz.underlying40 rfl rfl T1 rfl ?_
  conv => lhs; whnf
  rw [w22 _ (by omega)]
  by_cases hN : r.nums.length = 2 + 2 * (r.texts.length / 3)
  case neg =>
    rw [show (!((r.nums.length : Int) == ((2 + 2 * (r.texts.length / 3) : Nat) : Int))) = true from by rw [Bool.not_eq_true', beq_eq_false_iff_ne]; omega]
    have hg : getOk r = false := by unfold getOk nOps; rw [decide_eq_false hN]; rfl
    conv => lhs; whnf
    refine storeI (i := (0, 0)) T2 ?_
    have TZ := get_set T2 (AO.cells (idv 0 0) 2 .own)
    have := h0 hg _ (prefix_set P1 (show σ.length ≤ (σ ++ [AO.cells (rcs a b r) 3 .own]).length by omega) (AO.cells (idv 0 0) 2 .own))
    conv => lhs; whnf
    refine ldI (i := (0, 0)) TZ ?_
    conv => lhs; whnf
    exact this
  rw [show (!((r.nums.length : Int) == ((2 + 2 * (r.texts.length / 3) : Nat) : Int))) = false from by rw [Bool.not_eq_false', beq_iff_eq]; omega]
  conv => lhs; whnf
  refine goK hD plan32x4 ord32x4 fun KK hKK => ?_
  conv => lhs; whnf
  refine ldF Tryz.underlying40 rfl rfl T1 rfl ?_
  conv => lhs; whnf
  refine it42.idx (rI.nums.mono P1) (i := 0) rfl (by omega) fun pe he0 => ?_
  rw [getD_at (by omega) 0] at he0
  conv => lhs; whnf
  refine it42.ld he0 ?_
  conv => lhs; whnf
  refine ldF Tryz.underlying40 rfl rfl T1 rfl ?_
  conv => lhs; whnf
  refine it42.idx (rI.nums.mono P1) (i := 1) rfl (by omega) fun pe he1 => ?_
  rw [getD_at (by omega) 0] at he1
  conv => lhs; whnf
  refine it42.ld he1 ?_
  conv => lhs; whnf
  refine and_true (all_cons ?_ (all_cons ?_ (all_cons ?_ (all_cons ?_ rfl)))) ?_
  · conv => lhs; whnf
    refine it42.ld (he1.mono (List.prefix_append _ _)) ?_
    exact same_int _ _
  · conv => lhs; whnf
    refine ldF Tryz.underlying40 rfl rfl (get_old T1 _) rfl ?_
    exact same_sl _ _
  · conv => lhs; whnf
    refine it42.ld (he0.mono (List.prefix_append _ _)) ?_
    exact same_int _ _
  · conv => lhs; whnf
    refine ldF Tryz.underlying40 rfl rfl (get_old T1 _) rfl ?_
    exact same_sl _ _
  conv => lhs; whnf
  refine storeI (i := (cOf r, eOf r)) (get_new _ _) ?_
  rw [set_new]
  clear he0 he1
  have P2 : σ <+: (σ ++ [AO.cells (rcs a b r) 3 .own] ++ [AO.cells (idv 0 0) 2 .own] ++ [AO.cells (idv (cOf r) (eOf r)) 2 .own]) := P1.trans (List.prefix_append _ _)
  have T6 := get_new (σ ++ [AO.cells (rcs a b r) 3 .own] ++ [AO.cells (idv 0 0) 2 .own]) (AO.cells (idv (cOf r) (eOf r)) 2 .own)
  replace T1 := get_old T1 (AO.cells (idv (cOf r) (eOf r)) 2 .own)
  replace T2 := get_old T2 (AO.cells (idv (cOf r) (eOf r)) 2 .own)
  conv => lhs; whnf
  subst hKK
  conv => lhs; whnf
  refine loop_rule (m := 12884902086) (fun q fr τ => ∃ (z : Int) (i : Nat) (o : Option Nat) (a7 : AM.SA), z = (i : Int) ∧ i + q = r.texts.length / 3 ∧ (σ ++ [AO.cells (rcs a b r) 3 .own] ++ [AO.cells (idv 0 0) 2 .own] ++ [AO.cells (idv (cOf r) (eOf r)) 2 .own]) <+: τ ∧ OwnS (σ ++ [AO.cells (rcs a b r) 3 .own] ++ [AO.cells (idv 0 0) 2 .own] ++ [AO.cells (idv (cOf r) (eOf r)) 2 .own]) τ 5 o a7 (opsAt r i).length (opvs (opsAt r i)) ∧
    fr = [.bad, .ptr (some ⟨σ.length, 0, 0, 3⟩), .ptr (some ⟨(σ ++ [AO.cells (rcs a b r) 3 .own]).length, 0, 0, 2⟩), .bad, .bad, .bad, .ptr (some ⟨(σ ++ [AO.cells (rcs a b r) 3 .own] ++ [AO.cells (idv 0 0) 2 .own]).length, 0, 0, 2⟩), .sl a7 (opsAt r i).length, .bad, .bad, .bad, .bad, .bad, .bad, .bad, .bad, .bad, .bad, .bad, .bad, .bad, .bad, .bad, .bad, .bad, .bad, .bad, .bad, .bad, .bad, .bad, .bad, .int .i64 ((r.texts.length / 3 : Nat) : Int), .int .i64 z, .bad, .bad, .bad, .bad, .bad, .bad, .bad, .bad, .bad, .bad, .bad, .bad, .bad, .bad, .bad, .bad, .bad, .bad, .bad, .bad, .bad, .bad, .bad, .bad, .bad, .bad, .bad, .bad, .bad, .bad, .bad, .bad, .bad, .bad, .bad, .bad, .bad, .bad, .bad, .bad, .bad, .bad, .bad, .bad, .bad, .bad, .bad, .bad, .bad, .bad, .bad, .bad, .bad, .bad, .bad, .bad, .bad, .bad, .bad, .bad]) ?_ _ (r.texts.length / 3) _ _ (by omega) ⟨_, 0, none, .nil, rfl, by omega, List.prefix_rfl, OwnS.nil _ _ _, rfl⟩
  rintro q fr τ C ⟨z, i, o, a7, rfl, hq, p, ow, rfl⟩ next fin
  have Pτ := P2.trans p
  replace T1 := prefix_get p T1
  replace T2 := prefix_get p T2
  replace T6 := prefix_get p T6
  conv => lhs; whnf
  by_cases hi : i < r.texts.length / 3
  case pos =>
    rw [show decide ((i : Int) < ((r.texts.length / 3 : Nat) : Int)) = true from decide_eq_true (by omega)]
    conv => lhs; whnf
    refine goK hD plan32x9 ord32x9 fun KK hKK => ?_
    conv => lhs; whnf
    refine ldF Tryz.underlying40 rfl rfl T1 rfl ?_
    conv => lhs; whnf
    refine it42.idx (rI.nums.mono Pτ) (i := 2 + 2 * i) (w22 i (by omega)) (by omega) fun pe he0 => ?_
    rw [getD_at (by omega) 0] at he0
    conv => lhs; whnf
    refine it42.ld he0 ?_
    conv => lhs; whnf
    clear he0
    refine ldF Tryz.underlying41 rfl rfl T1 rfl ?_
    conv => lhs; whnf
    refine tt43.idx (rI.texts.mono Pτ) (i := 3 * i) (w3 i (by omega)) (by omega) fun pe he0 => ?_
    rw [getD_at (by omega) []] at he0
    conv => lhs; whnf
    refine tt43.ld he0 ?_
    clear he0
    conv => lhs; whnf
    refine ldF Tryz.underlying41 rfl rfl T1 rfl ?_
    conv => lhs; whnf
    refine tt43.idx (rI.texts.mono Pτ) (i := 3 * i + 1) (w31 i (by omega)) (by omega) fun pe he0 => ?_
    rw [getD_at (by omega) []] at he0
    conv => lhs; whnf
    refine tt43.ld he0 ?_
    clear he0
    conv => lhs; whnf
    refine ldF Tryz.underlying41 rfl rfl T1 rfl ?_
    conv => lhs; whnf
    refine tt43.idx (rI.texts.mono Pτ) (i := 3 * i + 2) (w3b i (by omega)) (by omega) fun pe he0 => ?_
    rw [getD_at (by omega) []] at he0
    conv => lhs; whnf
    refine tt43.ld he0 ?_
    clear he0
    conv => lhs; whnf
    refine ldF Tryz.underlying40 rfl rfl T1 rfl ?_
    conv => lhs; whnf
    refine it42.idx (rI.nums.mono Pτ) (i := 3 + 2 * i) (w32 i (by omega)) (by omega) fun pe he0 => ?_
    rw [getD_at (by omega) 0] at he0
    conv => lhs; whnf
    refine it42.ld he0 ?_
    conv => lhs; whnf
    clear he0
    refine buildO (o := opAt r i) ?_
    have P4 := List.prefix_append τ [AO.cells (opvs [opAt r i]) 5 .own]
    conv => lhs; whnf
    refine appS (n := (opsAt r i).length) (m := 1) (ys := opvs [opAt r i]) Tryz.underlying24 rfl rfl rfl rfl (by decide) (p.trans P4) (ow.mono P4) (Rw.new _ .own rfl) (N := (opsAt r (i + 1)).length) (zs := opvs (opsAt r (i + 1))) (by rw [opsAt_len, opsAt_len]) (by rw [opsAt_succ, opvs_app]) (by rw [opsAt_len]; show (i + 1) * 64 ≤ _; omega) fun o2 a2 σ2 p2 _ _ _ _ w2 => ?_
    conv => lhs; whnf
    subst hKK
    conv => lhs; whnf
    refine next (q - 1) _ _ (by omega) ⟨_, i + 1, o2, a2, inc_i64 (by omega), by omega, p2, w2, rfl⟩
  rw [show decide ((i : Int) < ((r.texts.length / 3 : Nat) : Int)) = false from decide_eq_false (by omega)]
  obtain rfl : i = nOps r := by unfold nOps; omega
  have hol : (opsAt r (nOps r)).length ≤ 400000 := by rw [opsAt_len]; unfold nOps; omega
  clear hi next
  conv => lhs; whnf
  refine fin _ _ _ nofun ?_
  conv => lhs; whnf
  refine ldI (i := (cOf r, eOf r)) T6 ?_
  conv => lhs; whnf
  refine ldF Tryz.underlying3 rfl rfl T1 rfl ?_
  conv => lhs; whnf
  cases hp : putOk (cOf r) (eOf r) (opsAt r (nOps r)) r.kind with
  | false =>
    have hg : getOk r = false := by unfold getOk; rw [hp, Bool.and_false, Bool.and_false]
    refine put_no (by omega) (by omega) ow.rw (opsAt_ok ok _) hp fun σ3 p3 => ?_
    have P3 := Pτ.trans p3
    have PR := List.prefix_append σ3 [AO.cells [.int .i64 0, .sl .nil 0, .sl .nil 0] 3 .own]
    have T2' := prefix_get (p3.trans PR) T2
    conv => lhs; whnf
    refine storeRec (get_new _ _) rfl ?_
    rw [set_new]
    conv => lhs; whnf
    refine storeI (i := (0, 0)) T2' ?_
    have TZ := get_set T2' (AO.cells (idv 0 0) 2 .own)
    have := h0 hg _ (prefix_set (P3.trans PR) (show σ.length ≤ (σ ++ [AO.cells (rcs a b r) 3 .own]).length by omega) (AO.cells (idv 0 0) 2 .own))
    conv => lhs; whnf
    refine ldI (i := (0, 0)) TZ ?_
    conv => lhs; whnf
    exact this
  | true =>
    have hl8 : (opsAt r (nOps r)).length ≤ 1000 := by
      have : allV (opsAt r (nOps r)) = true := by
        unfold putOk at hp
        simp only [Bool.and_eq_true] at hp
        exact hp.2
      unfold allV at this
      split at this
      · cases this
      · split at this
        · cases this
        · omega
    have hl9 : (opsAt r (nOps r)).length ≤ 8 := by
      have : allV (opsAt r (nOps r)) = true := by
        unfold putOk at hp
        simp only [Bool.and_eq_true] at hp
        exact hp.2
      unfold allV at this
      split at this
      · cases this
      · split at this
        · cases this
        · omega
    refine put_yes (by omega) hl8 ow.rw (opsAt_ok ok _) hp fun oN oT aN aT σ3 p3 wN wT => ?_
    have P3 := Pτ.trans p3
    have PR := List.prefix_append σ3 [AO.cells (rcs aN aT (putV (cOf r) (eOf r) (opsAt r (nOps r)) r.kind)) 3 .own]
    conv => lhs; whnf
    refine storeRec (get_new _ _) rfl ?_
    rw [set_new]
    have TP := get_new σ3 (AO.cells (rcs aN aT (putV (cOf r) (eOf r) (opsAt r (nOps r)) r.kind)) 3 .own)
    conv => lhs; whnf
    refine ldRec TP ?_
    conv => lhs; whnf
    refine ldRec (prefix_get (p3.trans PR) T1) ?_
    conv => lhs; whnf
    refine receq_spec (r := putV (cOf r) (eOf r) (opsAt r (nOps r)) r.kind) (s := r) (by omega) (by show ([cOf r, eOf r] ++ putNums (opsAt r (nOps r))).length ≤ 50; rw [List.length_append, putNums_len]; show 2 + _ ≤ 50; omega) (by show (putTexts (opsAt r (nOps r))).length ≤ 50; rw [putTexts_len]; omega) hD (⟨wN.rw.mono PR, wT.rw.mono PR⟩ : IsR _ aN aT (putV (cOf r) (eOf r) (opsAt r (nOps r)) r.kind)) (rI.mono (P3.trans PR)) fun σ4 p4 => ?_
    rw [put_back hN]
    have PQ := (P3.trans PR).trans p4
    have TQ := prefix_get ((p3.trans PR).trans p4) T2
    have TS := prefix_get ((p3.trans PR).trans p4) T6
    have owQ := ow.mono ((p3.trans PR).trans p4)
    by_cases hT : r.texts.length = 3 * nOps r
    case neg =>
      rw [decide_eq_false hT]
      have hg : getOk r = false := by unfold getOk; rw [decide_eq_false hT, Bool.false_and, Bool.and_false]
      conv => lhs; whnf
      refine storeI (i := (0, 0)) TQ ?_
      have TZ := get_set TQ (AO.cells (idv 0 0) 2 .own)
      have := h0 hg _ (prefix_set PQ (show σ.length ≤ (σ ++ [AO.cells (rcs a b r) 3 .own]).length by omega) (AO.cells (idv 0 0) 2 .own))
      conv => lhs; whnf
      refine ldI (i := (0, 0)) TZ ?_
      conv => lhs; whnf
      exact this
    rw [decide_eq_true hT]
    have hg : getOk r = true := by unfold getOk; rw [decide_eq_true hT, hp, decide_eq_true (show r.nums.length = 2 + 2 * nOps r from hN)]; rfl
    conv => lhs; whnf
    refine ldI (i := (cOf r, eOf r)) TS ?_
    conv => lhs; whnf
    refine storeI (i := (cOf r, eOf r)) TQ ?_
    have TZ := get_set TQ (AO.cells (idv (cOf r) (eOf r)) 2 .own)
    have oR : ∀ id, o = some id → (σ ++ [AO.cells (rcs a b r) 3 .own]).length ≠ id := fun id e e2 => by
      have h3 := ow
      rw [e] at h3
      have h4 := h3.2.1
      rw [List.length_append, L3] at h4
      have h5 : σ.length + 2 + 1 ≤ id := h4
      omega
    have := h1 hg _ _ (prefix_set PQ (show σ.length ≤ (σ ++ [AO.cells (rcs a b r) 3 .own]).length by omega) (AO.cells (idv (cOf r) (eOf r)) 2 .own)) ((owQ.keep fun id e => List.getElem?_set_ne (oR id e)).rw)
    conv => lhs; whnf
    refine ldI (i := (cOf r, eOf r)) TZ ?_
    conv => lhs; whnf
    exact this
theorem orget_spec {n M : Nat} {a b : AM.SA} {r : RecP} (hD : ByPlan Tryz.prog D) (hn : M + 4000000 ≤ n) (hM : M ≤ 9223372036854775808) (rI : IsR σ a b r) (hnl : r.nums.length ≤ 1048576) (htl : r.texts.length ≤ 1048576) (h0M : 0 < M) (hts : ∀ t ∈ r.texts, t.length < M) {K : AV → H → Bool}
    (h1 : getOk r = true → ∀ a' σ', σ <+: σ' → Rw σ' 5 a' (opsAt r (nOps r)).length (opvs (opsAt r (nOps r))) → K (.tup [.agg (idv (cOf r) (eOf r)), .sl a' (opsAt r (nOps r)).length, .bool true]) σ' = true)
    (h0 : getOk r = false → ∀ σ', σ <+: σ' → K (.tup [.agg (idv 0 0), .sl .nil 0, .bool false]) σ' = true) : acall Tryz.prog tab D n 33 [recV a b r] σ K = true := by
  obtain ⟨n, rfl, hn⟩ := up (n := n) (k := M + 3999999) (by omega)
  have P1 : σ <+: (σ ++ [AO.cells (rcs a b r) 3 .own] ++ [AO.cells (idv 0 0) 2 .own]) := (List.prefix_append _ _).trans (List.prefix_append _ _)
  have T1 := get_old (get_new σ (AO.cells (rcs a b r) 3 .own)) (AO.cells (idv 0 0) 2 .own)
  have T2 := get_two σ (AO.cells (rcs a b r) 3 .own) (AO.cells (idv 0 0) 2 .own) (AO.cells (rcs a b r) 3 .own)
  have L2 : (σ ++ [AO.cells (rcs a b r) 3 .own]).length = σ.length + 1 := by simp
  have L3 : (σ ++ [AO.cells (rcs a b r) 3 .own] ++ [AO.cells (idv 0 0) 2 .own]).length = σ.length + 2 := by simp
  conv => lhs; whnf
  refine ldF Tryz.underlying41 rfl rfl T1 rfl ?_
  conv => lhs; whnf
  rw [quo3 _ (by omega)]
  refine ldF Tryz.underlying40 rfl rfl T1 rfl ?_
  conv => lhs; whnf
  rw [w22 _ (by omega)]
  by_cases hN : r.nums.length = 2 + 2 * (r.texts.length / 3)
  case neg =>
    rw [show (!((r.nums.length : Int) == ((2 + 2 * (r.texts.length / 3) : Nat) : Int))) = true from by rw [Bool.not_eq_true', beq_eq_false_iff_ne]; omega]
    have hg : getOk r = false := by unfold getOk nOps; rw [decide_eq_false hN]; rfl
    conv => lhs; whnf
    refine storeI (i := (0, 0)) T2 ?_
    have TZ := get_set T2 (AO.cells (idv 0 0) 2 .own)
    have := h0 hg _ (prefix_set P1 (show σ.length ≤ (σ ++ [AO.cells (rcs a b r) 3 .own]).length by omega) (AO.cells (idv 0 0) 2 .own))
    conv => lhs; whnf
    refine ldI (i := (0, 0)) TZ ?_
    conv => lhs; whnf
    exact this
  rw [show (!((r.nums.length : Int) == ((2 + 2 * (r.texts.length / 3) : Nat) : Int))) = false from by rw [Bool.not_eq_false', beq_iff_eq]; omega]
  conv => lhs; whnf
  refine ldF Tryz.underlying41 rfl rfl T1 rfl ?_
  conv => lhs; whnf
  rw [w3 _ (by omega)]
  by_cases hT : r.texts.length = 3 * (r.texts.length / 3)
  case neg =>
    rw [show (!((r.texts.length : Int) == ((3 * (r.texts.length / 3) : Nat) : Int))) = true from by rw [Bool.not_eq_true', beq_eq_false_iff_ne]; omega]
    have hg : getOk r = false := by unfold getOk nOps; rw [decide_eq_false hT, Bool.false_and, Bool.and_false]
    conv => lhs; whnf
    refine storeI (i := (0, 0)) T2 ?_
    have TZ := get_set T2 (AO.cells (idv 0 0) 2 .own)
    have := h0 hg _ (prefix_set P1 (show σ.length ≤ (σ ++ [AO.cells (rcs a b r) 3 .own]).length by omega) (AO.cells (idv 0 0) 2 .own))
    conv => lhs; whnf
    refine ldI (i := (0, 0)) TZ ?_
    conv => lhs; whnf
    exact this
  rw [show (!((r.texts.length : Int) == ((3 * (r.texts.length / 3) : Nat) : Int))) = false from by rw [Bool.not_eq_false', beq_iff_eq]; omega]
  conv => lhs; whnf
  refine ldF Tryz.underlying40 rfl rfl T1 rfl ?_
  conv => lhs; whnf
  refine it42.idx (rI.nums.mono P1) (i := 0) rfl (by omega) fun pe he0 => ?_
  rw [getD_at (by omega) 0] at he0
  conv => lhs; whnf
  refine it42.ld he0 ?_
  conv => lhs; whnf
  refine in_spec (by omega) ?_
  by_cases hc8 : 0 ≤ r.nums.getD 0 0 ∧ r.nums.getD 0 0 ≤ 8
  case neg =>
    rw [show (decide (0 ≤ r.nums.getD 0 0) && decide (r.nums.getD 0 0 ≤ 8)) = false from by
      rw [Bool.and_eq_false_iff, decide_eq_false_iff_not, decide_eq_false_iff_not]; omega]
    have hg : getOk r = false := by
      rw [Bool.eq_false_iff]
      intro h
      unfold getOk at h
      simp only [Bool.and_eq_true] at h
      exact hc8 (kinds_of h.2.2).1
    conv => lhs; whnf
    refine storeI (i := (0, 0)) T2 ?_
    have TZ := get_set T2 (AO.cells (idv 0 0) 2 .own)
    have := h0 hg _ (prefix_set P1 (show σ.length ≤ (σ ++ [AO.cells (rcs a b r) 3 .own]).length by omega) (AO.cells (idv 0 0) 2 .own))
    conv => lhs; whnf
    refine ldI (i := (0, 0)) TZ ?_
    conv => lhs; whnf
    exact this
  rw [show (decide (0 ≤ r.nums.getD 0 0) && decide (r.nums.getD 0 0 ≤ 8)) = true from by rw [decide_eq_true hc8.1, decide_eq_true hc8.2]; rfl]
  clear he0
  conv => lhs; whnf
  refine goK hD plan33x4 ord33x4 fun KK hKK => ?_
  conv => lhs; whnf
  refine ldF Tryz.underlying40 rfl rfl T1 rfl ?_
  conv => lhs; whnf
  refine it42.idx (rI.nums.mono P1) (i := 0) rfl (by omega) fun pe he0 => ?_
  rw [getD_at (by omega) 0] at he0
  conv => lhs; whnf
  refine it42.ld he0 ?_
  conv => lhs; whnf
  refine ldF Tryz.underlying40 rfl rfl T1 rfl ?_
  conv => lhs; whnf
  refine it42.idx (rI.nums.mono P1) (i := 1) rfl (by omega) fun pe he1 => ?_
  rw [getD_at (by omega) 0] at he1
  conv => lhs; whnf
  refine it42.ld he1 ?_
  conv => lhs; whnf
  refine and_true (all_cons ?_ (all_cons ?_ (all_cons ?_ (all_cons ?_ rfl)))) ?_
  · conv => lhs; whnf
    refine it42.ld (he1.mono (List.prefix_append _ _)) ?_
    exact same_int _ _
  · conv => lhs; whnf
    refine ldF Tryz.underlying40 rfl rfl (get_old T1 _) rfl ?_
    exact same_sl _ _
  · conv => lhs; whnf
    refine it42.ld (he0.mono (List.prefix_append _ _)) ?_
    exact same_int _ _
  · conv => lhs; whnf
    refine ldF Tryz.underlying40 rfl rfl (get_old T1 _) rfl ?_
    exact same_sl _ _
  conv => lhs; whnf
  refine storeI (i := (cOf r, eOf r)) (get_new _ _) ?_
  rw [set_new]
  clear he0 he1
  have P2 : σ <+: (σ ++ [AO.cells (rcs a b r) 3 .own] ++ [AO.cells (idv 0 0) 2 .own] ++ [AO.cells (idv (cOf r) (eOf r)) 2 .own]) := P1.trans (List.prefix_append _ _)
  have T6 := get_new (σ ++ [AO.cells (rcs a b r) 3 .own] ++ [AO.cells (idv 0 0) 2 .own]) (AO.cells (idv (cOf r) (eOf r)) 2 .own)
  replace T1 := get_old T1 (AO.cells (idv (cOf r) (eOf r)) 2 .own)
  replace T2 := get_old T2 (AO.cells (idv (cOf r) (eOf r)) 2 .own)
  conv => lhs; whnf
  subst hKK
  conv => lhs; whnf
  refine loop_rule (m := 486) (fun q fr τ => ∃ (z : Int) (i : Nat) (o : Option Nat) (a7 : AM.SA), z = (i : Int) ∧ i + q = r.texts.length / 3 ∧ (σ ++ [AO.cells (rcs a b r) 3 .own] ++ [AO.cells (idv 0 0) 2 .own] ++ [AO.cells (idv (cOf r) (eOf r)) 2 .own]) <+: τ ∧ OwnS (σ ++ [AO.cells (rcs a b r) 3 .own] ++ [AO.cells (idv 0 0) 2 .own] ++ [AO.cells (idv (cOf r) (eOf r)) 2 .own]) τ 5 o a7 (opsAt r i).length (opvs (opsAt r i)) ∧
    fr = [.bad, .ptr (some ⟨σ.length, 0, 0, 3⟩), .ptr (some ⟨(σ ++ [AO.cells (rcs a b r) 3 .own]).length, 0, 0, 2⟩), .bad, .bad, .int .i64 ((r.texts.length / 3 : Nat) : Int), .ptr (some ⟨(σ ++ [AO.cells (rcs a b r) 3 .own] ++ [AO.cells (idv 0 0) 2 .own]).length, 0, 0, 2⟩), .sl a7 (opsAt r i).length, .int .i64 z, .bad, .bad, .bad, .bad, .bad, .bad, .bad, .bad, .bad, .bad, .bad, .bad, .bad, .bad, .bad, .bad, .bad, .bad, .bad, .bad, .bad, .bad, .bad, .bad, .bad, .bad, .bad, .bad, .bad, .bad, .bad, .bad, .bad, .bad, .bad, .bad, .bad, .bad, .bad, .bad, .bad, .bad, .bad, .bad, .bad, .bad, .bad, .bad, .bad, .bad, .bad, .bad, .bad, .bad, .bad, .bad, .bad, .bad, .bad, .bad, .bad, .bad, .bad, .bad, .bad, .bad, .bad, .bad, .bad, .bad, .bad, .bad, .bad, .bad, .bad, .bad, .bad, .bad, .bad, .bad, .bad, .bad, .bad, .bad, .bad, .bad, .bad, .bad, .bad, .bad, .bad, .bad, .bad, .bad, .bad, .bad, .bad, .bad, .bad, .bad, .bad, .bad, .bad, .bad, .bad]) ?_ _ (r.texts.length / 3) _ _ (by omega) ⟨_, 0, none, .nil, rfl, by omega, List.prefix_rfl, OwnS.nil _ _ _, rfl⟩
  rintro q fr τ C ⟨z, i, o, a7, rfl, hq, p, ow, rfl⟩ next fin
  have Pτ := P2.trans p
  replace T1 := prefix_get p T1
  replace T2 := prefix_get p T2
  replace T6 := prefix_get p T6
  conv => lhs; whnf
  by_cases hi : i < r.texts.length / 3
  case pos =>
    rw [show decide ((i : Int) < ((r.texts.length / 3 : Nat) : Int)) = true from decide_eq_true (by omega)]
    conv => lhs; whnf
    refine ldF Tryz.underlying40 rfl rfl T1 rfl ?_
    conv => lhs; whnf
    refine it42.idx (rI.nums.mono Pτ) (i := 2 + 2 * i) (w22 i (by omega)) (by omega) fun pe he0 => ?_
    rw [getD_at (by omega) 0] at he0
    conv => lhs; whnf
    refine it42.ld he0 ?_
    conv => lhs; whnf
    refine in_spec (by omega) ?_
    by_cases hk12 : 1 ≤ r.nums.getD (2 + 2 * i) 0 ∧ r.nums.getD (2 + 2 * i) 0 ≤ 12
    case neg =>
      rw [show (decide (1 ≤ r.nums.getD (2 + 2 * i) 0) && decide (r.nums.getD (2 + 2 * i) 0 ≤ 12)) = false from by
        rw [Bool.and_eq_false_iff, decide_eq_false_iff_not, decide_eq_false_iff_not]; omega]
      have hg : getOk r = false := by
        rw [Bool.eq_false_iff]
        intro h
        unfold getOk at h
        simp only [Bool.and_eq_true] at h
        exact hk12 ((kinds_of h.2.2).2 i hi)
      conv => lhs; whnf
      refine storeI (i := (0, 0)) T2 ?_
      have TZ := get_set T2 (AO.cells (idv 0 0) 2 .own)
      have := h0 hg _ (prefix_set Pτ (show σ.length ≤ (σ ++ [AO.cells (rcs a b r) 3 .own]).length by omega) (AO.cells (idv 0 0) 2 .own))
      conv => lhs; whnf
      refine fin _ _ _ nofun ?_
      conv => lhs; whnf
      refine ldI (i := (0, 0)) TZ ?_
      conv => lhs; whnf
      exact this
    rw [show (decide (1 ≤ r.nums.getD (2 + 2 * i) 0) && decide (r.nums.getD (2 + 2 * i) 0 ≤ 12)) = true from by rw [decide_eq_true hk12.1, decide_eq_true hk12.2]; rfl]
    clear he0
    conv => lhs; whnf
    refine goK hD plan33x11 ord33x11 fun KK hKK => ?_
    conv => lhs; whnf
    refine ldF Tryz.underlying40 rfl rfl T1 rfl ?_
    conv => lhs; whnf
    refine it42.idx (rI.nums.mono Pτ) (i := 2 + 2 * i) (w22 i (by omega)) (by omega) fun pe he0 => ?_
    rw [getD_at (by omega) 0] at he0
    conv => lhs; whnf
    refine it42.ld he0 ?_
    conv => lhs; whnf
    clear he0
    refine ldF Tryz.underlying40 rfl rfl T1 rfl ?_
    conv => lhs; whnf
    refine it42.idx (rI.nums.mono Pτ) (i := 3 + 2 * i) (w32 i (by omega)) (by omega) fun pe he0 => ?_
    rw [getD_at (by omega) 0] at he0
    conv => lhs; whnf
    refine it42.ld he0 ?_
    conv => lhs; whnf
    clear he0
    refine ldF Tryz.underlying41 rfl rfl T1 rfl ?_
    conv => lhs; whnf
    refine tt43.idx (rI.texts.mono Pτ) (i := 3 * i) (w3 i (by omega)) (by omega) fun pe he0 => ?_
    rw [getD_at (by omega) []] at he0
    conv => lhs; whnf
    refine tt43.ld he0 ?_
    clear he0
    conv => lhs; whnf
    refine ldF Tryz.underlying41 rfl rfl T1 rfl ?_
    conv => lhs; whnf
    refine tt43.idx (rI.texts.mono Pτ) (i := 3 * i + 1) (w31 i (by omega)) (by omega) fun pe he0 => ?_
    rw [getD_at (by omega) []] at he0
    conv => lhs; whnf
    refine tt43.ld he0 ?_
    clear he0
    conv => lhs; whnf
    refine ldF Tryz.underlying41 rfl rfl T1 rfl ?_
    conv => lhs; whnf
    refine tt43.idx (rI.texts.mono Pτ) (i := 3 * i + 2) (w3b i (by omega)) (by omega) fun pe he0 => ?_
    rw [getD_at (by omega) []] at he0
    conv => lhs; whnf
    refine tt43.ld he0 ?_
    clear he0
    conv => lhs; whnf
    refine buildO (o := opAt r i) ?_
    have P4 := List.prefix_append τ [AO.cells (opvs [opAt r i]) 5 .own]
    conv => lhs; whnf
    refine appS (n := (opsAt r i).length) (m := 1) (ys := opvs [opAt r i]) Tryz.underlying24 rfl rfl rfl rfl (by decide) (p.trans P4) (ow.mono P4) (Rw.new _ .own rfl) (N := (opsAt r (i + 1)).length) (zs := opvs (opsAt r (i + 1))) (by rw [opsAt_len, opsAt_len]) (by rw [opsAt_succ, opvs_app]) (by rw [opsAt_len]; show (i + 1) * 64 ≤ _; omega) fun o2 a2 σ2 p2 _ _ _ _ w2 => ?_
    conv => lhs; whnf
    subst hKK
    conv => lhs; whnf
    refine next (q - 1) _ _ (by omega) ⟨_, i + 1, o2, a2, inc_i64 (by omega), by omega, p2, w2, rfl⟩
  rw [show decide ((i : Int) < ((r.texts.length / 3 : Nat) : Int)) = false from decide_eq_false (by omega)]
  obtain rfl : i = nOps r := by unfold nOps; omega
  have hol : (opsAt r (nOps r)).length ≤ 400000 := by rw [opsAt_len]; unfold nOps; omega
  clear hi next
  conv => lhs; whnf
  refine fin _ _ _ nofun ?_
  conv => lhs; whnf
  refine ldI (i := (cOf r, eOf r)) T6 ?_
  conv => lhs; whnf
  refine ldF Tryz.underlying3 rfl rfl T1 rfl ?_
  conv => lhs; whnf
  cases hp : putOk (cOf r) (eOf r) (opsAt r (nOps r)) r.kind with
  | false =>
    have hg : getOk r = false := by unfold getOk; rw [hp, Bool.and_false, Bool.and_false]
    refine rput_no hD (by omega) (by omega) hM (opsAt_s h0M hts _) (by omega) ow.rw hp fun σ3 p3 => ?_
    have P3 := Pτ.trans p3
    have PR := List.prefix_append σ3 [AO.cells [.int .i64 0, .sl .nil 0, .sl .nil 0] 3 .own]
    have T2' := prefix_get (p3.trans PR) T2
    conv => lhs; whnf
    refine storeRec (get_new _ _) rfl ?_
    rw [set_new]
    conv => lhs; whnf
    refine storeI (i := (0, 0)) T2' ?_
    have TZ := get_set T2' (AO.cells (idv 0 0) 2 .own)
    have := h0 hg _ (prefix_set (P3.trans PR) (show σ.length ≤ (σ ++ [AO.cells (rcs a b r) 3 .own]).length by omega) (AO.cells (idv 0 0) 2 .own))
    conv => lhs; whnf
    refine ldI (i := (0, 0)) TZ ?_
    conv => lhs; whnf
    exact this
  | true =>
    have hl8 : (opsAt r (nOps r)).length ≤ 1000 := by
      have : allV (opsAt r (nOps r)) = true := by
        unfold putOk at hp
        simp only [Bool.and_eq_true] at hp
        exact hp.2
      unfold allV at this
      split at this
      · cases this
      · split at this
        · cases this
        · omega
    have hl9 : (opsAt r (nOps r)).length ≤ 8 := by
      have : allV (opsAt r (nOps r)) = true := by
        unfold putOk at hp
        simp only [Bool.and_eq_true] at hp
        exact hp.2
      unfold allV at this
      split at this
      · cases this
      · split at this
        · cases this
        · omega
    refine rput_yes hD (by omega) (by omega) hM (opsAt_s h0M hts _) hl8 ow.rw hp fun oN oT aN aT σ3 p3 wN wT => ?_
    have P3 := Pτ.trans p3
    have PR := List.prefix_append σ3 [AO.cells (rcs aN aT (putV (cOf r) (eOf r) (opsAt r (nOps r)) r.kind)) 3 .own]
    conv => lhs; whnf
    refine storeRec (get_new _ _) rfl ?_
    rw [set_new]
    have PQ := P3.trans PR
    have TQ := prefix_get (p3.trans PR) T2
    have TS := prefix_get (p3.trans PR) T6
    have owQ := ow.mono (p3.trans PR)
    have hg : getOk r = true := by unfold getOk; rw [decide_eq_true (show r.texts.length = 3 * nOps r from hT), hp, decide_eq_true (show r.nums.length = 2 + 2 * nOps r from hN)]; rfl
    conv => lhs; whnf
    refine ldI (i := (cOf r, eOf r)) TS ?_
    conv => lhs; whnf
    refine storeI (i := (cOf r, eOf r)) TQ ?_
    have TZ := get_set TQ (AO.cells (idv (cOf r) (eOf r)) 2 .own)
    have oR : ∀ id, o = some id → (σ ++ [AO.cells (rcs a b r) 3 .own]).length ≠ id := fun id e e2 => by
      have h3 := ow
      rw [e] at h3
      have h4 := h3.2.1
      rw [List.length_append, L3] at h4
      have h5 : σ.length + 2 + 1 ≤ id := h4
      omega
    have := h1 hg _ _ (prefix_set PQ (show σ.length ≤ (σ ++ [AO.cells (rcs a b r) 3 .own]).length by omega) (AO.cells (idv (cOf r) (eOf r)) 2 .own)) ((owQ.keep fun id e => List.getElem?_set_ne (oR id e)).rw)
    conv => lhs; whnf
    refine ldI (i := (cOf r, eOf r)) TZ ?_
    conv => lhs; whnf
    exact this
end Go.Proofs.YtajincfelnmlhaaGreat
