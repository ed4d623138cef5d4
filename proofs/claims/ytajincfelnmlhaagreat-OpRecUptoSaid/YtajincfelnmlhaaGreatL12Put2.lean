/- Package op: transactions as records, those that may be. -/
import Derived.Test.YtajincfelnmlhaaGreatL12Put
namespace Go.Proofs.YtajincfelnmlhaaGreat
set_option maxRecDepth 100000
open Go Go.AM Go.AM.St
/-- A record that grows: its row, its numbers, its texts. -/
structure GrowAt (σ0 σ : H) (R : Nat) (k : Int) (o o' : Option Nat) (a b : AM.SA) (xs : List Int) (ts : List (List Nat)) : Prop where
  row : σ[R]? = some (AO.cells [.int .i64 k, .sl a xs.length, .sl b ts.length] 3 .own)
  base : σ0.length ≤ R
  nums : Own σ0 σ 1 o a xs.length (iks .i64 xs)
  texts : Own σ0 σ 1 o' b ts.length (txs ts)
  n1 : o ≠ some R
  n2 : o' ≠ some R
  apart : o = none ∨ o ≠ o'
theorem GrowAt.mono {σ0 σ σ' : H} {R : Nat} {k : Int} {o o' : Option Nat} {a b : AM.SA} {xs : List Int} {ts : List (List Nat)} (h : GrowAt σ0 σ R k o o' a b xs ts) (p : σ <+: σ') : GrowAt σ0 σ' R k o o' a b xs ts :=
  ⟨prefix_get p h.row, h.base, h.nums.mono p, h.texts.mono p, h.n1, h.n2, h.apart⟩
theorem GrowAt.addNums {σ0 σ σ1 : H} {R : Nat} {k : Int} {o o' oN : Option Nat} {a b aN : AM.SA} {xs xs' : List Int} {ts : List (List Nat)} (h : GrowAt σ0 σ R k o o' a b xs ts) (hk : Keep o σ σ1)
    (h1 : ∀ id, o = some id → oN = o) (h2 : o = none → oN = none ∨ oN = some σ.length) (hw : Own σ0 σ1 1 oN aN xs'.length (iks .i64 xs')) :
    σ1[R]? = some (AO.cells [.int .i64 k, .sl a xs.length, .sl b ts.length] 3 .own) ∧ GrowAt σ0 (σ1.set R (.cells [.int .i64 k, .sl aN xs'.length, .sl b ts.length] 3 .own)) R k oN o' aN b xs' ts := by
  have hR := get_lt h.row
  have r1 := hk R _ h.n1.symm h.row
  have kR : Keep (some R) σ1 (σ1.set R (.cells [.int .i64 k, .sl aN xs'.length, .sl b ts.length] 3 .own)) := fun id x hne hx => get_set_ne hx (fun e => hne (by rw [e])) _
  have nN : oN ≠ some R := by
    cases e : o with
    | none =>
      rcases h2 e with e' | e'
      · rw [e']; nofun
      · rw [e']; intro e2; cases e2; omega
    | some id => rw [h1 id e]; exact h.n1
  have ap : o' = none ∨ o' ≠ o := by
    rcases h.apart with e | e
    · by_cases e2 : o' = none
      · exact .inl e2
      · exact .inr fun e3 => e2 (e3.trans e)
    · exact .inr fun e3 => e e3.symm
  have ap2 : oN = none ∨ oN ≠ o' := by
    cases e : o with
    | some id => rw [h1 id e]; exact h.apart
    | none =>
      rcases h2 e with e' | e'
      · exact .inl e'
      · refine .inr fun e4 => ?_
        have w := h.texts
        rw [← e4, e'] at w
        obtain ⟨_, _, _, _, _, h3, _⟩ := w
        have := get_lt h3
        omega
  exact ⟨r1, ⟨get_set r1 _, h.base, hw.keep kR (.inr nN), (h.texts.keep hk ap).keep kR (.inr h.n2), nN, h.n2, ap2⟩⟩
theorem GrowAt.addTexts {σ0 σ σ1 : H} {R : Nat} {k : Int} {o o' oN : Option Nat} {a b bN : AM.SA} {xs : List Int} {ts ts' : List (List Nat)} (h : GrowAt σ0 σ R k o o' a b xs ts) (hk : Keep o' σ σ1)
    (h1 : ∀ id, o' = some id → oN = o') (h2 : o' = none → oN = none ∨ oN = some σ.length) (hw : Own σ0 σ1 1 oN bN ts'.length (txs ts')) :
    σ1[R]? = some (AO.cells [.int .i64 k, .sl a xs.length, .sl b ts.length] 3 .own) ∧ GrowAt σ0 (σ1.set R (.cells [.int .i64 k, .sl a xs.length, .sl bN ts'.length] 3 .own)) R k o oN a bN xs ts' := by
  have hR := get_lt h.row
  have r1 := hk R _ h.n2.symm h.row
  have kR : Keep (some R) σ1 (σ1.set R (.cells [.int .i64 k, .sl a xs.length, .sl bN ts'.length] 3 .own)) := fun id x hne hx => get_set_ne hx (fun e => hne (by rw [e])) _
  have nN : oN ≠ some R := by
    cases e : o' with
    | none =>
      rcases h2 e with e' | e'
      · rw [e']; nofun
      · rw [e']; intro e2; cases e2; omega
    | some id => rw [h1 id e]; exact h.n2
  have ap2 : o = none ∨ o ≠ oN := by
    cases e : o' with
    | some id => rw [h1 id e]; exact h.apart
    | none =>
      by_cases e3 : o = none
      · exact .inl e3
      · rcases h2 e with e' | e'
        · rw [e']; exact .inr e3
        · refine .inr fun e4 => ?_
          have w := h.nums
          rw [e4, e'] at w
          obtain ⟨_, _, _, _, _, h3, _⟩ := w
          have := get_lt h3
          omega
  exact ⟨r1, ⟨get_set r1 _, h.base, (h.nums.keep hk h.apart).keep kR (.inr h.n1), hw.keep kR (.inr nN), h.n1, nN, ap2⟩⟩
theorem putNums_len : ∀ l : List OpV, (putNums l).length = 2 * l.length
  | [] => rfl
  | o :: l => by
    have := putNums_len l
    unfold putNums at this ⊢
    rw [List.flatMap_cons, List.length_append, this, List.length_cons, List.length_cons, List.length_cons, List.length_nil]
    omega
theorem putTexts_len : ∀ l : List OpV, (putTexts l).length = 3 * l.length
  | [] => rfl
  | o :: l => by
    have := putTexts_len l
    unfold putTexts at this ⊢
    rw [List.flatMap_cons, List.length_append, this, List.length_cons, List.length_cons, List.length_cons, List.length_cons, List.length_nil]
    omega
theorem putNums_take {l : List OpV} {i : Nat} (hi : i < l.length) : putNums (l.take (i + 1)) = putNums (l.take i) ++ [l[i].kind, l[i].n] := by
  unfold putNums
  rw [List.take_succ_eq_append_getElem hi, List.flatMap_append]
  rfl
theorem putTexts_take {l : List OpV} {i : Nat} (hi : i < l.length) : putTexts (l.take (i + 1)) = putTexts (l.take i) ++ [l[i].s, l[i].k, l[i].t] := by
  unfold putTexts
  rw [List.take_succ_eq_append_getElem hi, List.flatMap_append]
  rfl
attribute [local irreducible] IntKind.wrap Int.fdiv Int.tdiv Int.tmod BitVec.ofInt appendK sliceK indexAddrK ldK storeK seenK makeSliceK lookupK updateK deleteK mapK rangeK nextK buildSliceK indexK
variable {D : Drawer} {σ : H}
theorem put_yes {n : Nat} {s : AM.SA} {l : List OpV} {c e k : Int} (hn : l.length + 100 ≤ n) (hl : l.length ≤ 1000) (hs : Rw σ 5 s l.length (opvs l)) (ho : ∀ o ∈ l, OkV o) {K : AV → H → Bool} (hp : putOk c e l k = true)
    (hK : ∀ o o' a b σ', σ <+: σ' → Own σ σ' 1 o a (putV c e l k).nums.length (iks .i64 (putV c e l k).nums) → Own σ σ' 1 o' b (putV c e l k).texts.length (txs (putV c e l k).texts) → K (.tup [recV a b (putV c e l k), .bool true]) σ' = true) :
    acall Tryz.prog tab D n 29 [.agg (idv c e), .sl s l.length, .int .i64 k] σ K = true := by
  obtain ⟨n, rfl, hn⟩ := up (n := n) (k := l.length + 99) (by omega)
  have T6 := get_new (σ ++ [AO.cells (idv c e) 2 .own]) (AO.cells [.int .i64 0, .sl .nil 0, .sl .nil 0] 3 .own)
  have T3 : (σ ++ [AO.cells (idv c e) 2 .own] ++ [AO.cells [.int .i64 0, .sl .nil 0, .sl .nil 0] 3 .own])[σ.length]? = some (AO.cells (idv c e) 2 .own) := prefix_get (List.prefix_append _ _) (get_new _ _)
  have P6 : σ <+: σ ++ [AO.cells (idv c e) 2 .own] ++ [AO.cells [.int .i64 0, .sl .nil 0, .sl .nil 0] 3 .own] := (List.prefix_append _ _).trans (List.prefix_append _ _)
  have k34 : k = 3 ∨ k = 4 := by
    unfold putOk at hp
    simp only [Bool.and_eq_true, Bool.or_eq_true, beq_iff_eq] at hp
    exact hp.1.1
  have hc : clientV c e = true := by
    unfold putOk at hp
    simp only [Bool.and_eq_true] at hp
    exact hp.1.2
  have ha : allV l = true := by
    unfold putOk at hp
    simp only [Bool.and_eq_true] at hp
    exact hp.2
  conv => lhs; whnf
  rcases k34 with rfl | rfl
  · conv => lhs; whnf
    refine ldId T3 ?_
    conv => lhs; whnf
    refine client_spec (by omega) fun σ1 p1 => ?_
    rw [hc]
    conv => lhs; whnf
    refine all_spec (by omega) (by omega) (hs.mono (P6.trans p1)) ho fun σ2 p2 => ?_
    rw [ha]
    conv => lhs; whnf
    refine ldF Tryz.underlying3 rfl rfl (prefix_get (p1.trans p2) T3) rfl ?_
    conv => lhs; whnf
    refine ldF Tryz.underlying2 rfl rfl (prefix_get (p1.trans p2) T3) rfl ?_
    conv => lhs; whnf
    refine build2 ?_
    conv => lhs; whnf
    refine storeRec (get_new _ _) rfl ?_
    rw [set_new]
    have G0 : GrowAt (σ ++ [AO.cells (idv c e) 2 .own] ++ [AO.cells [.int .i64 0, .sl .nil 0, .sl .nil 0] 3 .own]) (σ2 ++ [AO.cells (iks .i64 [c, e]) 1 .own] ++ [AO.cells [.int .i64 3, .sl (.at σ2.length 0 1) 2, .sl .nil 0] 3 .own]) (σ2 ++ [AO.cells (iks .i64 [c, e]) 1 .own]).length 3 (some σ2.length) none (.at σ2.length 0 1) .nil [c, e] [] :=
      ⟨get_new _ _, Nat.le_trans (prefix_len (p1.trans p2)) (by simp), (Own.new (p1.trans p2) _ .own (by decide) rfl).mono (List.prefix_append _ _), Own.nil _ _ _, by simp, nofun, .inr nofun⟩
    generalize (σ2 ++ [AO.cells (iks .i64 [c, e]) 1 .own]).length = R at G0 ⊢
    conv => lhs; whnf
    have hbase : σ <+: σ ++ [AO.cells (idv c e) 2 .own] ++ [AO.cells [.int .i64 0, .sl .nil 0, .sl .nil 0] 3 .own] := P6
    have pp : σ ++ [AO.cells (idv c e) 2 .own] ++ [AO.cells [.int .i64 0, .sl .nil 0, .sl .nil 0] 3 .own] <+: σ2 ++ [AO.cells (iks .i64 [c, e]) 1 .own] ++ [AO.cells [.int .i64 3, .sl (.at σ2.length 0 1) 2, .sl .nil 0] 3 .own] := (p1.trans p2).trans ((List.prefix_append _ _).trans (List.prefix_append _ _))
    refine loop_rule (m := 240518168896) (fun r fr τ => ∃ (z : Int) (i : Nat) (o o' : Option Nat) (a b : AM.SA), z = (i : Int) ∧ i + r = l.length ∧ σ ++ [AO.cells (idv c e) 2 .own] ++ [AO.cells [.int .i64 0, .sl .nil 0, .sl .nil 0] 3 .own] <+: τ ∧
      GrowAt (σ ++ [AO.cells (idv c e) 2 .own] ++ [AO.cells [.int .i64 0, .sl .nil 0, .sl .nil 0] 3 .own]) τ R 3 o o' a b ([c, e] ++ putNums (l.take i)) (putTexts (l.take i)) ∧
      fr = [.bad, .bad, .bad, .bad, .bad, .bad, .ptr (some ⟨(σ ++ [AO.cells (idv c e) 2 .own]).length, 0, 0, 3⟩), .bad, .ptr (some ⟨R, 0, 0, 3⟩), .bad, .bad, .bad, .bad, .bad, .bad, .bad, .bad, .bad, .bad, .bad, .bad, .bad, .bad, .bad, .bad, .bad, .bad, .bad, .bad, .bad, .bad, .bad, .bad, .bad, .bad, .sl s l.length, .int .i64 l.length, .int .i64 z, .bad, .bad, .bad, .bad, .bad, .bad, .bad, .bad, .bad, .bad, .bad, .bad, .bad, .bad, .bad, .bad, .bad, .bad, .bad, .bad, .bad, .bad, .bad, .bad, .bad]) ?_ _ l.length _ _ (by omega) ⟨_, 0, _, _, _, _, rfl, by omega, pp, G0, rfl⟩
    rintro r fr τ C ⟨z, i, o, o', a, b, rfl, hq, p, G, rfl⟩ next fin
    conv => lhs; whnf
    by_cases hi : i < l.length
    · rw [show decide ((i : Int) < (l.length : Int)) = true from decide_eq_true (by omega)]
      conv => lhs; whnf
      refine idxV (hs.mono (hbase.trans p)) rfl hi fun pe he => ?_
      conv => lhs; whnf
      refine ldE he ?_
      conv => lhs; whnf
      refine storeV (get_new _ _) ?_
      rw [set_new]
      have TO := get_new τ (AO.cells (opv l[i]) 5 .own)
      have G1 := G.mono (List.prefix_append τ [AO.cells (opv l[i]) 5 .own])
      conv => lhs; whnf
      refine ldF Tryz.underlying40 rfl rfl G1.row rfl ?_
      conv => lhs; whnf
      refine ldF Tryz.underlying3 rfl rfl TO rfl ?_
      conv => lhs; whnf
      refine ldF Tryz.underlying2 rfl rfl TO rfl ?_
      conv => lhs; whnf
      refine build2 ?_
      conv => lhs; whnf
      have en : ([c, e] ++ putNums (l.take i)) ++ [l[i].kind, l[i].n] = [c, e] ++ putNums (l.take (i + 1)) := by
        rw [putNums_take hi, List.append_assoc]
      have et : putTexts (l.take i) ++ [l[i].s, l[i].k, l[i].t] = putTexts (l.take (i + 1)) := by
        rw [putTexts_take hi]
      have G2 := G1.mono (List.prefix_append _ [AO.cells (iks .i64 [l[i].kind, l[i].n]) 1 .own])
      refine it42.app (xs := [c, e] ++ putNums (l.take i)) (ys := [l[i].kind, l[i].n]) (p.trans ((List.prefix_append _ _).trans (List.prefix_append _ _))) G2.nums (Rw.new _ .own rfl) _ en ?_ fun o2 a2 σ3 p3 k3 e1 e2 w3 => ?_
      · rw [List.length_append, putNums_len, List.length_take]
        show 2 + _ ≤ _
        omega
      obtain ⟨r3, G3⟩ := G2.addNums k3 e1 e2 w3
      conv => lhs; whnf
      refine storeK_of rfl rfl (by decide) r3 rfl (by show 0 + 1 < 3; decide) ?_
      have TO2 := prefix_get (List.prefix_append _ [AO.cells (iks .i64 [l[i].kind, l[i].n]) 1 .own]) TO
      have nz : some τ.length ≠ o := fun e => by
        have w := G.nums
        rw [← e] at w
        obtain ⟨_, _, _, _, _, h3, _⟩ := w
        exact Nat.lt_irrefl _ (get_lt h3)
      have TO3 := get_set_ne (k3 _ _ nz TO2) (Nat.ne_of_gt (get_lt G.row)) (AO.cells [.int .i64 3, .sl a2 ([c, e] ++ putNums (l.take (i + 1))).length, .sl b (putTexts (l.take i)).length] 3 .own)
      conv => lhs; whnf
      refine ldF Tryz.underlying41 rfl rfl G3.row rfl ?_
      conv => lhs; whnf
      refine ldF Tryz.underlying9 rfl rfl TO3 rfl ?_
      conv => lhs; whnf
      refine ldF Tryz.underlying9 rfl rfl TO3 rfl ?_
      conv => lhs; whnf
      refine ldF Tryz.underlying9 rfl rfl TO3 rfl ?_
      conv => lhs; whnf
      refine build3 ?_
      have G4 := G3.mono (List.prefix_append _ [AO.cells (txs [l[i].s, l[i].k, l[i].t]) 1 .own])
      conv => lhs; whnf
      refine tt43.app (xs := putTexts (l.take i)) (ys := [l[i].s, l[i].k, l[i].t]) ((prefix_set p3 G3.base _).trans (List.prefix_append _ _)) G4.texts (Rw.new _ .own rfl) _ et ?_ fun o4 b4 σ5 p5 k5 e3 e4 w5 => ?_
      · rw [putTexts_len, List.length_take]
        omega
      obtain ⟨r5, G5⟩ := G4.addTexts k5 e3 e4 w5
      conv => lhs; whnf
      refine storeK_of rfl rfl (by decide) r5 rfl (by show 0 + 2 < 3; decide) ?_
      conv => lhs; whnf
      refine next (r - 1) _ _ (by omega) ⟨_, i + 1, o2, o4, a2, b4, inc_i64 (by omega), by omega, prefix_set p5 G5.base _, G5, rfl⟩
    rw [show decide ((i : Int) < (l.length : Int)) = false from decide_eq_false (by omega)]
    rw [List.take_of_length_le (by omega)] at G
    have T6' := prefix_get p T6
    have T7 := get_set T6' (AO.cells [.int .i64 3, .sl a ([c, e] ++ putNums l).length, .sl b (putTexts l).length] 3 .own)
    conv => lhs; whnf
    refine fin _ _ _ nofun ?_
    conv => lhs; whnf
    refine ldRec G.row ?_
    conv => lhs; whnf
    refine storeRec T6' rfl ?_
    conv => lhs; whnf
    refine ldRec T7 ?_
    have k6 : Keep (some (σ ++ [AO.cells (idv c e) 2 .own]).length) τ (τ.set (σ ++ [AO.cells (idv c e) 2 .own]).length (AO.cells [.int .i64 3, .sl a ([c, e] ++ putNums l).length, .sl b (putTexts l).length] 3 .own)) := fun id x hne hx => get_set_ne hx (fun e => hne (by rw [e])) _
    have l6 : (σ ++ [AO.cells (idv c e) 2 .own]).length < (σ ++ [AO.cells (idv c e) 2 .own] ++ [AO.cells [.int .i64 0, .sl .nil 0, .sl .nil 0] 3 .own]).length := by simp
    have := hK o o' a b _ (prefix_set (hbase.trans p) (by simp) _) ((G.nums.keep k6 (G.nums.off l6)).since hbase) ((G.texts.keep k6 (G.texts.off l6)).since hbase)
    conv => lhs; whnf
    exact this
  · conv => lhs; whnf
    refine ldId T3 ?_
    conv => lhs; whnf
    refine client_spec (by omega) fun σ1 p1 => ?_
    rw [hc]
    conv => lhs; whnf
    refine all_spec (by omega) (by omega) (hs.mono (P6.trans p1)) ho fun σ2 p2 => ?_
    rw [ha]
    conv => lhs; whnf
    refine ldF Tryz.underlying3 rfl rfl (prefix_get (p1.trans p2) T3) rfl ?_
    conv => lhs; whnf
    refine ldF Tryz.underlying2 rfl rfl (prefix_get (p1.trans p2) T3) rfl ?_
    conv => lhs; whnf
    refine build2 ?_
    conv => lhs; whnf
    refine storeRec (get_new _ _) rfl ?_
    rw [set_new]
    have G0 : GrowAt (σ ++ [AO.cells (idv c e) 2 .own] ++ [AO.cells [.int .i64 0, .sl .nil 0, .sl .nil 0] 3 .own]) (σ2 ++ [AO.cells (iks .i64 [c, e]) 1 .own] ++ [AO.cells [.int .i64 4, .sl (.at σ2.length 0 1) 2, .sl .nil 0] 3 .own]) (σ2 ++ [AO.cells (iks .i64 [c, e]) 1 .own]).length 4 (some σ2.length) none (.at σ2.length 0 1) .nil [c, e] [] :=
      ⟨get_new _ _, Nat.le_trans (prefix_len (p1.trans p2)) (by simp), (Own.new (p1.trans p2) _ .own (by decide) rfl).mono (List.prefix_append _ _), Own.nil _ _ _, by simp, nofun, .inr nofun⟩
    generalize (σ2 ++ [AO.cells (iks .i64 [c, e]) 1 .own]).length = R at G0 ⊢
    conv => lhs; whnf
    have hbase : σ <+: σ ++ [AO.cells (idv c e) 2 .own] ++ [AO.cells [.int .i64 0, .sl .nil 0, .sl .nil 0] 3 .own] := P6
    have pp : σ ++ [AO.cells (idv c e) 2 .own] ++ [AO.cells [.int .i64 0, .sl .nil 0, .sl .nil 0] 3 .own] <+: σ2 ++ [AO.cells (iks .i64 [c, e]) 1 .own] ++ [AO.cells [.int .i64 4, .sl (.at σ2.length 0 1) 2, .sl .nil 0] 3 .own] := (p1.trans p2).trans ((List.prefix_append _ _).trans (List.prefix_append _ _))
    refine loop_rule (m := 240518168896) (fun r fr τ => ∃ (z : Int) (i : Nat) (o o' : Option Nat) (a b : AM.SA), z = (i : Int) ∧ i + r = l.length ∧ σ ++ [AO.cells (idv c e) 2 .own] ++ [AO.cells [.int .i64 0, .sl .nil 0, .sl .nil 0] 3 .own] <+: τ ∧
      GrowAt (σ ++ [AO.cells (idv c e) 2 .own] ++ [AO.cells [.int .i64 0, .sl .nil 0, .sl .nil 0] 3 .own]) τ R 4 o o' a b ([c, e] ++ putNums (l.take i)) (putTexts (l.take i)) ∧
      fr = [.bad, .bad, .bad, .bad, .bad, .bad, .ptr (some ⟨(σ ++ [AO.cells (idv c e) 2 .own]).length, 0, 0, 3⟩), .bad, .ptr (some ⟨R, 0, 0, 3⟩), .bad, .bad, .bad, .bad, .bad, .bad, .bad, .bad, .bad, .bad, .bad, .bad, .bad, .bad, .bad, .bad, .bad, .bad, .bad, .bad, .bad, .bad, .bad, .bad, .bad, .bad, .sl s l.length, .int .i64 l.length, .int .i64 z, .bad, .bad, .bad, .bad, .bad, .bad, .bad, .bad, .bad, .bad, .bad, .bad, .bad, .bad, .bad, .bad, .bad, .bad, .bad, .bad, .bad, .bad, .bad, .bad, .bad]) ?_ _ l.length _ _ (by omega) ⟨_, 0, _, _, _, _, rfl, by omega, pp, G0, rfl⟩
    rintro r fr τ C ⟨z, i, o, o', a, b, rfl, hq, p, G, rfl⟩ next fin
    conv => lhs; whnf
    by_cases hi : i < l.length
    · rw [show decide ((i : Int) < (l.length : Int)) = true from decide_eq_true (by omega)]
      conv => lhs; whnf
      refine idxV (hs.mono (hbase.trans p)) rfl hi fun pe he => ?_
      conv => lhs; whnf
      refine ldE he ?_
      conv => lhs; whnf
      refine storeV (get_new _ _) ?_
      rw [set_new]
      have TO := get_new τ (AO.cells (opv l[i]) 5 .own)
      have G1 := G.mono (List.prefix_append τ [AO.cells (opv l[i]) 5 .own])
      conv => lhs; whnf
      refine ldF Tryz.underlying40 rfl rfl G1.row rfl ?_
      conv => lhs; whnf
      refine ldF Tryz.underlying3 rfl rfl TO rfl ?_
      conv => lhs; whnf
      refine ldF Tryz.underlying2 rfl rfl TO rfl ?_
      conv => lhs; whnf
      refine build2 ?_
      conv => lhs; whnf
      have en : ([c, e] ++ putNums (l.take i)) ++ [l[i].kind, l[i].n] = [c, e] ++ putNums (l.take (i + 1)) := by
        rw [putNums_take hi, List.append_assoc]
      have et : putTexts (l.take i) ++ [l[i].s, l[i].k, l[i].t] = putTexts (l.take (i + 1)) := by
        rw [putTexts_take hi]
      have G2 := G1.mono (List.prefix_append _ [AO.cells (iks .i64 [l[i].kind, l[i].n]) 1 .own])
      refine it42.app (xs := [c, e] ++ putNums (l.take i)) (ys := [l[i].kind, l[i].n]) (p.trans ((List.prefix_append _ _).trans (List.prefix_append _ _))) G2.nums (Rw.new _ .own rfl) _ en ?_ fun o2 a2 σ3 p3 k3 e1 e2 w3 => ?_
      · rw [List.length_append, putNums_len, List.length_take]
        show 2 + _ ≤ _
        omega
      obtain ⟨r3, G3⟩ := G2.addNums k3 e1 e2 w3
      conv => lhs; whnf
      refine storeK_of rfl rfl (by decide) r3 rfl (by show 0 + 1 < 3; decide) ?_
      have TO2 := prefix_get (List.prefix_append _ [AO.cells (iks .i64 [l[i].kind, l[i].n]) 1 .own]) TO
      have nz : some τ.length ≠ o := fun e => by
        have w := G.nums
        rw [← e] at w
        obtain ⟨_, _, _, _, _, h3, _⟩ := w
        exact Nat.lt_irrefl _ (get_lt h3)
      have TO3 := get_set_ne (k3 _ _ nz TO2) (Nat.ne_of_gt (get_lt G.row)) (AO.cells [.int .i64 4, .sl a2 ([c, e] ++ putNums (l.take (i + 1))).length, .sl b (putTexts (l.take i)).length] 3 .own)
      conv => lhs; whnf
      refine ldF Tryz.underlying41 rfl rfl G3.row rfl ?_
      conv => lhs; whnf
      refine ldF Tryz.underlying9 rfl rfl TO3 rfl ?_
      conv => lhs; whnf
      refine ldF Tryz.underlying9 rfl rfl TO3 rfl ?_
      conv => lhs; whnf
      refine ldF Tryz.underlying9 rfl rfl TO3 rfl ?_
      conv => lhs; whnf
      refine build3 ?_
      have G4 := G3.mono (List.prefix_append _ [AO.cells (txs [l[i].s, l[i].k, l[i].t]) 1 .own])
      conv => lhs; whnf
      refine tt43.app (xs := putTexts (l.take i)) (ys := [l[i].s, l[i].k, l[i].t]) ((prefix_set p3 G3.base _).trans (List.prefix_append _ _)) G4.texts (Rw.new _ .own rfl) _ et ?_ fun o4 b4 σ5 p5 k5 e3 e4 w5 => ?_
      · rw [putTexts_len, List.length_take]
        omega
      obtain ⟨r5, G5⟩ := G4.addTexts k5 e3 e4 w5
      conv => lhs; whnf
      refine storeK_of rfl rfl (by decide) r5 rfl (by show 0 + 2 < 3; decide) ?_
      conv => lhs; whnf
      refine next (r - 1) _ _ (by omega) ⟨_, i + 1, o2, o4, a2, b4, inc_i64 (by omega), by omega, prefix_set p5 G5.base _, G5, rfl⟩
    rw [show decide ((i : Int) < (l.length : Int)) = false from decide_eq_false (by omega)]
    rw [List.take_of_length_le (by omega)] at G
    have T6' := prefix_get p T6
    have T7 := get_set T6' (AO.cells [.int .i64 4, .sl a ([c, e] ++ putNums l).length, .sl b (putTexts l).length] 3 .own)
    conv => lhs; whnf
    refine fin _ _ _ nofun ?_
    conv => lhs; whnf
    refine ldRec G.row ?_
    conv => lhs; whnf
    refine storeRec T6' rfl ?_
    conv => lhs; whnf
    refine ldRec T7 ?_
    have k6 : Keep (some (σ ++ [AO.cells (idv c e) 2 .own]).length) τ (τ.set (σ ++ [AO.cells (idv c e) 2 .own]).length (AO.cells [.int .i64 4, .sl a ([c, e] ++ putNums l).length, .sl b (putTexts l).length] 3 .own)) := fun id x hne hx => get_set_ne hx (fun e => hne (by rw [e])) _
    have l6 : (σ ++ [AO.cells (idv c e) 2 .own]).length < (σ ++ [AO.cells (idv c e) 2 .own] ++ [AO.cells [.int .i64 0, .sl .nil 0, .sl .nil 0] 3 .own]).length := by simp
    have := hK o o' a b _ (prefix_set (hbase.trans p) (by simp) _) ((G.nums.keep k6 (G.nums.off l6)).since hbase) ((G.texts.keep k6 (G.texts.off l6)).since hbase)
    conv => lhs; whnf
    exact this
end Go.Proofs.YtajincfelnmlhaaGreat
