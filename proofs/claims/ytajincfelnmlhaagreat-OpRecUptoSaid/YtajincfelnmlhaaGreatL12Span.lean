/- OpSpan: names, keys, texts, numbers at their limits. -/
import Derived.Test.YtajincfelnmlhaaGreatGmOp
import Derived.Test.YtajincfelnmlhaaGreatGmParts
namespace Go.Proofs.YtajincfelnmlhaaGreat
set_option maxRecDepth 100000
open Go Go.AM Go.AM.St
theorem modN {i : Int} (m : Nat) (hm : 0 < m) (hb : m ≤ 1000) : ∃ k : Nat, k < m ∧ (IntKind.i64.wrap (i.tmod m + m)).tmod m = (k : Int) := by
  have h1 : i.tmod m < m := Int.tmod_lt_of_pos i (by omega)
  have h2 : -(m : Int) < i.tmod m := by
    have := Int.lt_tmod_of_pos i (b := (m : Int)) (by omega)
    omega
  rw [wrap_i64 (by omega) (by omega)]
  refine ⟨((i.tmod m + m).toNat) % m, Nat.mod_lt _ hm, ?_⟩
  have e : i.tmod m + m = ((i.tmod m + m).toNat : Int) := by omega
  have e2 := Int.ofNat_tmod (i.tmod m + m).toNat m
  rw [e]
  exact e2.symm
abbrev letV (k : Nat) : List Nat := List.replicate k 97
theorem let_one (i : Nat) : ints (letV i) ++ [97] = ints (letV (i + 1)) := by
  simp [ints, letV, List.replicate_succ']
attribute [local irreducible] IntKind.wrap Int.fdiv Int.tdiv Int.tmod BitVec.ofInt appendK sliceK indexAddrK ldK storeK seenK makeSliceK lookupK updateK deleteK mapK rangeK nextK buildSliceK indexK
variable {D : Drawer} {σ : H}
theorem letters_spec {n k : Nat} (hn : k + 5 ≤ n) (hk : k ≤ 110) {K : AV → H → Bool} (hK : K (.str (ints (letV k))) σ = true) : acall Tryz.prog tab D n 46 [.int .i64 (k : Int)] σ K = true := by
  obtain ⟨n, rfl, hn⟩ := up (n := n) (k := k + 4) (by omega)
  conv => lhs; whnf
  refine loop_rule (m := 25) (fun q fr τ => ∃ (z : Int) (i : Nat), z = (i : Int) ∧ i + q = k ∧ τ = σ ∧ fr = [.int .i64 (k : Int), .bad, .bad, .str (ints (letV i)), .int .i64 z, .bad, .bad, .bad, .bad, .bad, .bad, .bad, .bad]) ?_ _ k _ _ (by omega) ⟨_, 0, rfl, by omega, rfl, rfl⟩
  rintro q fr τ C ⟨z, i, rfl, hq, rfl, rfl⟩ next fin
  conv => lhs; whnf
  by_cases hi : i < k
  · rw [show decide ((i : Int) < (k : Int)) = true from decide_eq_true (by omega)]
    conv => lhs; whnf
    refine bif_pos (Nat.ble_eq_true_of_le ?_) ?_
    · show (ints (letV i)).length + 1 ≤ _
      simp [ints, letV]
      omega
    conv => lhs; whnf
    refine next (q - 1) _ _ (by omega) ⟨_, i + 1, inc_i64 (by omega), by omega, rfl, ?_⟩
    rw [← let_one]
    rfl
  rw [show decide ((i : Int) < (k : Int)) = false from decide_eq_false (by omega)]
  obtain rfl : i = k := by omega
  conv => lhs; whnf
  refine fin _ _ _ nofun ?_
  conv => lhs; whnf
  exact hK
theorem let_low (k : Nat) : lowS (letV k) = true := by
  unfold lowS letV
  rw [List.all_eq_true]
  intro x hx
  rw [(List.mem_replicate.1 hx).2]
  decide
def spanP (a b c : Nat) : OpV := ⟨4, letV a, letV b, letV c, 0⟩
theorem span_may (a b c : Nat) : mayV (spanP a b c) = (decide (1 ≤ a) && decide (a ≤ 20) && decide (b ≤ 20) && decide (c ≤ 100)) := by
  have hl : lowS (letV a) = true := let_low a
  have e1 : (letV a).length = a := List.length_replicate
  have e2 : (letV b).length = b := List.length_replicate
  have e3 : (letV c).length = c := List.length_replicate
  have e4 : (letV a = []) ↔ a = 0 := by rw [← List.length_eq_zero_iff, e1]
  unfold mayV fitsV spanP
  simp only [e1, e2, e3, e4, hl]
  have k1 : ¬ ((4 : Int) < 1) := by decide
  have k2 : ¬ ((4 : Int) > 12) := by decide
  have k3 : nKey 4 = true := by decide
  have k4 : nText 4 = true := by decide
  have k6 : ¬ ((4 : Int) = 1) := by decide
  simp only [k1, k2, k3, k4, k6, if_false]
  by_cases a0 : a = 0
  · subst a0; simp
  by_cases a1 : a > 20
  · have : ¬ a ≤ 20 := by omega
    simp [a0, a1, this]
  by_cases b1 : b > 20
  · have : ¬ b ≤ 20 := by omega
    simp [a0, a1, b1, this]
  by_cases c1 : c > 100
  · have : ¬ c ≤ 100 := by omega
    simp [a0, a1, b1, c1, this]
  have x1 : 1 ≤ a := by omega
  have x2 : a ≤ 20 := by omega
  have x3 : b ≤ 20 := by omega
  have x4 : c ≤ 100 := by omega
  simp [a0, a1, b1, c1, x1, x2, x3, x4]
theorem recv_may (j : Int) : mayV ⟨7, [113], [], [], j⟩ = (decide (0 ≤ j) && decide (j ≤ 1099511627776)) := by
  unfold mayV fitsV
  have k1 : ¬ ((7 : Int) < 1) := by decide
  have k2 : ¬ ((7 : Int) > 12) := by decide
  have k4 : lowS [113] = true := by decide
  have k5 : nNum 7 = true := by decide
  have k6 : ¬ ((7 : Int) = 1) := by decide
  simp only [k1, k2, k4, k5, k6, if_false]
  by_cases a0 : j < 0
  · have : ¬ 0 ≤ j := by omega
    simp [a0, this]
  by_cases a1 : j > 1099511627776
  · have : ¬ j ≤ 1099511627776 := by omega
    simp [a0, a1, this]
  have x1 : 0 ≤ j := by omega
  have x2 : j ≤ 1099511627776 := by omega
  simp [a0, a1, x1, x2]
theorem let_ok (k : Nat) : ∀ b ∈ letV k, b < 256 := fun b hb => by rw [(List.mem_replicate.1 hb).2]; decide
theorem recv_ok {l : Int} (l1 : -9223372036854775808 ≤ l) (l2 : l ≤ 9223372036854775807) : OkV ⟨7, [113], [], [], l⟩ :=
  ⟨fun b hb => by simp at hb; omega, fun b hb => by simp at hb, fun b hb => by simp at hb, l1, l2, by simp, by simp⟩
theorem opSpan_run {n : Nat} {i j k l : Int} (hn : 1000 ≤ n) (l1 : -9223372036854775808 ≤ l) (l2 : l ≤ 9223372036854775807) :
    acall Tryz.prog tab D n 10 [.int .i64 i, .int .i64 j, .int .i64 k, .int .i64 l] σ isTrue = true := by
  obtain ⟨n, rfl, hn⟩ := up (n := n) (k := 999) (by omega)
  obtain ⟨a, ha, ea⟩ := modN (i := i) 25 (by decide) (by decide)
  obtain ⟨b, hb, eb⟩ := modN (i := j) 25 (by decide) (by decide)
  obtain ⟨c, hc, ec⟩ := modN (i := k) 110 (by decide) (by decide)
  conv => lhs; whnf
  refine begun_spec ?_
  conv => lhs; whnf
  generalize hx : (IntKind.i64.wrap (i.tmod 25 + 25)).tmod 25 = x
  generalize hy : (IntKind.i64.wrap (j.tmod 25 + 25)).tmod 25 = y
  generalize hz : (IntKind.i64.wrap (k.tmod 110 + 110)).tmod 110 = z
  obtain rfl : x = (a : Int) := hx.symm.trans ea
  obtain rfl : y = (b : Int) := hy.symm.trans eb
  obtain rfl : z = (c : Int) := hz.symm.trans ec
  refine letters_spec (by omega) (by omega) ?_
  conv => lhs; whnf
  refine letters_spec (by omega) (by omega) ?_
  conv => lhs; whnf
  refine letters_spec (by omega) (by omega) ?_
  have S1 := get_new σ (AO.cells (opv (spanP a b c)) 5 .own)
  conv => lhs; whnf
  refine storeV (o := spanP a b c) (get_new _ _) ?_
  rw [set_new]
  conv => lhs; whnf
  refine storeV (o := ⟨7, [113], [], [], l⟩) (get_new _ _) ?_
  rw [set_new]
  have T1 := get_new σ (AO.cells (opv (spanP a b c)) 5 .own)
  have T2 := get_new (σ ++ [AO.cells (opv (spanP a b c)) 5 .own]) (AO.cells (opv ⟨7, [113], [], [], l⟩) 5 .own)
  have T1' := get_old T1 (AO.cells (opv ⟨7, [113], [], [], l⟩) 5 .own)
  conv => lhs; whnf
  refine ldV T1' ?_
  conv => lhs; whnf
  refine may_spec (by omega) ⟨let_ok _, let_ok _, let_ok _, by simp [spanP], by simp [spanP], by simp [spanP], by simp [spanP]⟩ fun σ1 p1 => ?_
  rw [span_may]
  have T3 := prefix_get p1 T2
  by_cases x1 : 1 ≤ a
  case neg =>
    rw [show (decide (1 ≤ a) && decide (a ≤ 20) && decide (b ≤ 20) && decide (c ≤ 100)) = false by simp [x1]]
    conv => lhs; whnf
    rw [show decide ((a : Int) ≥ 1) = false from decide_eq_false (by omega)]
    conv => lhs; whnf
    refine ldV T3 ?_
    conv => lhs; whnf
    refine may_spec (by omega) (recv_ok l1 l2) fun σ2 p2 => ?_
    rw [recv_may]
    by_cases y1 : 0 ≤ l
    · by_cases y2 : l ≤ 1099511627776
      · rw [decide_eq_true y1, decide_eq_true y2]
        conv => lhs; whnf
        rw [show decide (l ≥ 0) = true from decide_eq_true y1]
        conv => lhs; whnf
        rw [show decide (l ≤ 1099511627776) = true from decide_eq_true y2]
        conv => lhs; whnf
      · rw [decide_eq_true y1, decide_eq_false y2]
        conv => lhs; whnf
        rw [show decide (l ≥ 0) = true from decide_eq_true y1]
        conv => lhs; whnf
        rw [show decide (l ≤ 1099511627776) = false from decide_eq_false y2]
        conv => lhs; whnf
    · rw [decide_eq_false y1]
      conv => lhs; whnf
      rw [show decide (l ≥ 0) = false from decide_eq_false y1]
      conv => lhs; whnf
  by_cases x2 : a ≤ 20
  case neg =>
    rw [show (decide (1 ≤ a) && decide (a ≤ 20) && decide (b ≤ 20) && decide (c ≤ 100)) = false by simp [x2]]
    conv => lhs; whnf
    rw [show decide ((a : Int) ≥ 1) = true from decide_eq_true (by omega)]
    conv => lhs; whnf
    rw [show decide ((a : Int) ≤ 20) = false from decide_eq_false (by omega)]
    conv => lhs; whnf
    refine ldV T3 ?_
    conv => lhs; whnf
    refine may_spec (by omega) (recv_ok l1 l2) fun σ2 p2 => ?_
    rw [recv_may]
    by_cases y1 : 0 ≤ l
    · by_cases y2 : l ≤ 1099511627776
      · rw [decide_eq_true y1, decide_eq_true y2]
        conv => lhs; whnf
        rw [show decide (l ≥ 0) = true from decide_eq_true y1]
        conv => lhs; whnf
        rw [show decide (l ≤ 1099511627776) = true from decide_eq_true y2]
        conv => lhs; whnf
      · rw [decide_eq_true y1, decide_eq_false y2]
        conv => lhs; whnf
        rw [show decide (l ≥ 0) = true from decide_eq_true y1]
        conv => lhs; whnf
        rw [show decide (l ≤ 1099511627776) = false from decide_eq_false y2]
        conv => lhs; whnf
    · rw [decide_eq_false y1]
      conv => lhs; whnf
      rw [show decide (l ≥ 0) = false from decide_eq_false y1]
      conv => lhs; whnf
  by_cases x3 : b ≤ 20
  case neg =>
    rw [show (decide (1 ≤ a) && decide (a ≤ 20) && decide (b ≤ 20) && decide (c ≤ 100)) = false by simp [x3]]
    conv => lhs; whnf
    rw [show decide ((a : Int) ≥ 1) = true from decide_eq_true (by omega)]
    conv => lhs; whnf
    rw [show decide ((a : Int) ≤ 20) = true from decide_eq_true (by omega)]
    conv => lhs; whnf
    rw [show decide ((b : Int) ≤ 20) = false from decide_eq_false (by omega)]
    conv => lhs; whnf
    refine ldV T3 ?_
    conv => lhs; whnf
    refine may_spec (by omega) (recv_ok l1 l2) fun σ2 p2 => ?_
    rw [recv_may]
    by_cases y1 : 0 ≤ l
    · by_cases y2 : l ≤ 1099511627776
      · rw [decide_eq_true y1, decide_eq_true y2]
        conv => lhs; whnf
        rw [show decide (l ≥ 0) = true from decide_eq_true y1]
        conv => lhs; whnf
        rw [show decide (l ≤ 1099511627776) = true from decide_eq_true y2]
        conv => lhs; whnf
      · rw [decide_eq_true y1, decide_eq_false y2]
        conv => lhs; whnf
        rw [show decide (l ≥ 0) = true from decide_eq_true y1]
        conv => lhs; whnf
        rw [show decide (l ≤ 1099511627776) = false from decide_eq_false y2]
        conv => lhs; whnf
    · rw [decide_eq_false y1]
      conv => lhs; whnf
      rw [show decide (l ≥ 0) = false from decide_eq_false y1]
      conv => lhs; whnf
  by_cases x4 : c ≤ 100
  case neg =>
    rw [show (decide (1 ≤ a) && decide (a ≤ 20) && decide (b ≤ 20) && decide (c ≤ 100)) = false by simp [x4]]
    conv => lhs; whnf
    rw [show decide ((a : Int) ≥ 1) = true from decide_eq_true (by omega)]
    conv => lhs; whnf
    rw [show decide ((a : Int) ≤ 20) = true from decide_eq_true (by omega)]
    conv => lhs; whnf
    rw [show decide ((b : Int) ≤ 20) = true from decide_eq_true (by omega)]
    conv => lhs; whnf
    rw [show decide ((c : Int) ≤ 100) = false from decide_eq_false (by omega)]
    conv => lhs; whnf
    refine ldV T3 ?_
    conv => lhs; whnf
    refine may_spec (by omega) (recv_ok l1 l2) fun σ2 p2 => ?_
    rw [recv_may]
    by_cases y1 : 0 ≤ l
    · by_cases y2 : l ≤ 1099511627776
      · rw [decide_eq_true y1, decide_eq_true y2]
        conv => lhs; whnf
        rw [show decide (l ≥ 0) = true from decide_eq_true y1]
        conv => lhs; whnf
        rw [show decide (l ≤ 1099511627776) = true from decide_eq_true y2]
        conv => lhs; whnf
      · rw [decide_eq_true y1, decide_eq_false y2]
        conv => lhs; whnf
        rw [show decide (l ≥ 0) = true from decide_eq_true y1]
        conv => lhs; whnf
        rw [show decide (l ≤ 1099511627776) = false from decide_eq_false y2]
        conv => lhs; whnf
    · rw [decide_eq_false y1]
      conv => lhs; whnf
      rw [show decide (l ≥ 0) = false from decide_eq_false y1]
      conv => lhs; whnf
  case pos =>
    rw [show (decide (1 ≤ a) && decide (a ≤ 20) && decide (b ≤ 20) && decide (c ≤ 100)) = true by simp [x1, x2, x3, x4]]
    conv => lhs; whnf
    rw [show decide ((a : Int) ≥ 1) = true from decide_eq_true (by omega)]
    conv => lhs; whnf
    rw [show decide ((a : Int) ≤ 20) = true from decide_eq_true (by omega)]
    conv => lhs; whnf
    rw [show decide ((b : Int) ≤ 20) = true from decide_eq_true (by omega)]
    conv => lhs; whnf
    rw [show decide ((c : Int) ≤ 100) = true from decide_eq_true (by omega)]
    conv => lhs; whnf
    refine ldV T3 ?_
    conv => lhs; whnf
    refine may_spec (by omega) (recv_ok l1 l2) fun σ2 p2 => ?_
    rw [recv_may]
    by_cases y1 : 0 ≤ l
    · by_cases y2 : l ≤ 1099511627776
      · rw [decide_eq_true y1, decide_eq_true y2]
        conv => lhs; whnf
        rw [show decide (l ≥ 0) = true from decide_eq_true y1]
        conv => lhs; whnf
        rw [show decide (l ≤ 1099511627776) = true from decide_eq_true y2]
        conv => lhs; whnf
      · rw [decide_eq_true y1, decide_eq_false y2]
        conv => lhs; whnf
        rw [show decide (l ≥ 0) = true from decide_eq_true y1]
        conv => lhs; whnf
        rw [show decide (l ≤ 1099511627776) = false from decide_eq_false y2]
        conv => lhs; whnf
    · rw [decide_eq_false y1]
      conv => lhs; whnf
      rw [show decide (l ≥ 0) = false from decide_eq_false y1]
      conv => lhs; whnf
theorem opSpan_law (σ : H) (vs : List AV) (h : ArgsShp Tryz.prog σ 9 [3, 3, 3, 2] vs) : ∃ n, acall Tryz.prog tab (drawRegion Tryz.prog) n 10 vs σ isTrue = true := by
  obtain ⟨a, us, rfl, h1, h⟩ := args_cons h
  obtain ⟨b, us, rfl, h2, h⟩ := args_cons h
  obtain ⟨c, us, rfl, h3, h⟩ := args_cons h
  obtain ⟨d, us, rfl, h4, h⟩ := args_cons h
  obtain rfl := args_nil h
  obtain ⟨i, rfl, _, _⟩ := arg_int Tryz.underlying3 h1
  obtain ⟨j, rfl, _, _⟩ := arg_int Tryz.underlying3 h2
  obtain ⟨k, rfl, _, _⟩ := arg_int Tryz.underlying3 h3
  obtain ⟨l, rfl, l1, l2⟩ := arg_int Tryz.underlying2 h4
  exact ⟨1000, opSpan_run (Nat.le_refl _) l1 l2⟩
end Go.Proofs.YtajincfelnmlhaaGreat
