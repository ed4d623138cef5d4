/- Package rec: May, Put. Package rec: Eq; copies of records. The reference's records: May, Eq, Rec. -/
import Derived.Test.YthmdecfiijgaoaaGreatGmWord
import Derived.Test.YthmdecfiijgaoaaGreatL1Plans
import Derived.Test.YthmdecfiijgaoaaGreatGmPlain
namespace Go.Proofs.YthmdecfiijgaoaaGreat
open Go Go.AM Go.AM.St

/-- A record's value. -/
abbrev recV (a b : SA) (r : RecP) : AV := .agg [.int .i64 r.kind, .sl a r.nums.length, .sl b r.texts.length]
/-- .. whose rows read so. -/
structure IsR (σ : H) (a b : SA) (r : RecP) : Prop where
  nums : Rw σ 1 a r.nums.length (iks .i64 r.nums)
  texts : Rw σ 1 b r.texts.length (txs r.texts)
theorem IsR.mono {σ σ' : H} {a b : SA} {r : RecP} (h : IsR σ a b r) (hp : σ <+: σ') : IsR σ' a b r := ⟨h.nums.mono hp, h.texts.mono hp⟩
structure OkR (r : RecP) : Prop where
  k1 : -9223372036854775808 ≤ r.kind
  k2 : r.kind ≤ 9223372036854775807
  ns : ∀ x ∈ r.nums, -9223372036854775808 ≤ x ∧ x ≤ 9223372036854775807
  nl : r.nums.length ≤ maxLen
  ts : ∀ t ∈ r.texts, (∀ b ∈ t, b < 256) ∧ t.length ≤ maxLen
  tl : r.texts.length ≤ maxLen
attribute [local irreducible] IntKind.wrap Int.fdiv Int.tdiv Int.tmod BitVec.ofInt appendK sliceK indexAddrK ldK storeK seenK makeSliceK
set_option maxRecDepth 100000
variable {D : Drawer}

theorem long_spec {n : Nat} (hn : 1 ≤ n) {t : List Nat} {σ : H} {K : AV → H → Bool} (hK : K (.bool (decide (200 < t.length))) σ = true) : acall Tryz.prog tab D n 94 [.str (ints t)] σ K = true := by
  obtain ⟨n, rfl, hn⟩ := up hn
  have hl : (ints t).length = t.length := by simp [ints]
  conv => lhs; whnf
  by_cases h : 200 < t.length
  · refine bif_pos (by rw [hl]; simp; omega) ?_
    conv => lhs; whnf
    rw [decide_eq_true h] at hK
    exact hK
  · refine bif_neg (by rw [hl]; simp; omega) ?_
    conv => lhs; whnf
    rw [decide_eq_false h] at hK
    exact hK

theorem idxf_spec {n : Nat} {b : SA} {ts : List (List Nat)} (hn : ts.length + 3 ≤ n) (hl : ts.length < 1000) {σ : H} (hb : Rw σ 1 b ts.length (txs ts)) {K : AV → H → Bool}
    (hK : ∀ y : Int, (0 ≤ y ↔ ∃ t ∈ ts, 200 < t.length) → K (.int .i64 y) σ = true) : acall Tryz.prog tab D n 119 [.sl b ts.length, .fn 94 []] σ K = true := by
  obtain ⟨n, rfl, hn⟩ := up hn
  conv => lhs; whnf
  refine loop_rule (m := 387) (fun r fr τ => ∃ (z : Int) (i : Nat), z = (i : Int) ∧ i + r = ts.length ∧ τ = σ ∧ (∀ t ∈ ts.take i, ¬ 200 < t.length) ∧
      fr = [.sl b ts.length, .fn 94 [], .bad, .bad, .bad, .bad, .bad, .int .i64 (ts.length : Int), .int .i64 z, .bad, .bad, .bad, .bad, .bad, .bad, .bad, .bad, .bad, .bad]) ?_ _ ts.length _ _ (by omega) ⟨_, 0, rfl, by omega, rfl, fun t h => by simp at h, rfl⟩
  rintro r fr τ C ⟨z, i, rfl, hi, rfl, ha, rfl⟩ next fin
  conv => lhs; whnf
  refine bif_case (fun h => ?_) (fun h => ?_)
  · have hlt : i < ts.length := by simpa using h
    conv => lhs; whnf
    refine tt43.idx hb rfl hlt fun p hp => ?_
    conv => lhs; whnf
    refine tt43.ld hp ?_
    conv => lhs; whnf
    refine long_spec (by omega) ?_
    by_cases hc : 200 < ts[i].length
    · rw [decide_eq_true hc]
      conv => lhs; whnf
      refine fin _ _ _ nofun ?_
      conv => lhs; whnf
      exact hK _ ⟨fun _ => ⟨_, List.getElem_mem hlt, hc⟩, fun _ => Int.natCast_nonneg _⟩
    · rw [decide_eq_false hc]
      conv => lhs; whnf
      refine next (r - 1) _ _ (by omega) ⟨_, i + 1, inc_i64 (by omega), by omega, rfl, fun t ht => ?_, rfl⟩
      rw [← List.take_append_getElem hlt] at ht
      rcases List.mem_append.1 ht with ht | ht
      · exact ha t ht
      · rw [List.mem_singleton] at ht; rw [ht]; exact hc
  · obtain rfl : i = ts.length := by have : ¬ i < ts.length := by simpa using h
                                     omega
    rw [List.take_length] at ha
    conv => lhs; whnf
    refine fin _ _ _ nofun ?_
    conv => lhs; whnf
    exact hK _ ⟨fun h => absurd h (by decide), fun ⟨t, h1, h2⟩ => absurd h2 (ha t h1)⟩

theorem contains_spec {n : Nat} {b : SA} {ts : List (List Nat)} (hn : ts.length + 4 ≤ n) (hl : ts.length < 1000) {σ : H} (hb : Rw σ 1 b ts.length (txs ts)) {K : AV → H → Bool}
    (hK : K (.bool (!ts.all fun t => decide (t.length ≤ 200))) σ = true) : acall Tryz.prog tab D n 95 [.sl b ts.length, .fn 94 []] σ K = true := by
  obtain ⟨n, rfl, hn⟩ := up hn
  conv => lhs; whnf
  refine idxf_spec (by omega) hl hb fun y hy => ?_
  conv => lhs; whnf
  by_cases h : 0 ≤ y
  · refine bif_pos (by simpa using h) ?_
    conv => lhs; whnf
    obtain ⟨t, h1, h2⟩ := hy.1 h
    have : (ts.all fun t => decide (t.length ≤ 200)) = false := by
      rw [List.all_eq_false]
      exact ⟨t, h1, by simp; omega⟩
    rw [this] at hK
    exact hK
  · refine bif_neg (by simp; omega) ?_
    conv => lhs; whnf
    have : (ts.all fun t => decide (t.length ≤ 200)) = true := by
      rw [List.all_eq_true]
      intro t ht
      have : ¬ 200 < t.length := fun h2 => h (hy.2 ⟨t, ht, h2⟩)
      simp; omega
    rw [this] at hK
    exact hK

theorem may_spec {n : Nat} (hn : 60 ≤ n) {a b : SA} {r : RecP} {σ : H} (hr : IsR σ a b r) {K : AV → H → Bool} (hK : ∀ σ', σ <+: σ' → K (.bool (mayR r)) σ' = true) :
    acall Tryz.prog tab D n 52 [recV a b r] σ K = true := by
  obtain ⟨n, rfl, hn⟩ := up hn
  have g := get_new σ (AO.cells [.int .i64 r.kind, .sl a r.nums.length, .sl b r.texts.length] 3 .own)
  have pf := List.prefix_append σ [AO.cells [AV.int .i64 r.kind, .sl a r.nums.length, .sl b r.texts.length] 3 .own]
  have hK' := hK _ pf
  have hm : mayR r = (decide (0 ≤ r.kind) && decide (r.kind ≤ 255) && decide (r.nums.length ≤ 40) && decide (r.texts.length ≤ 40) && r.texts.all fun t => decide (t.length ≤ 200)) := rfl
  conv => lhs; whnf
  refine ldF rfl rfl rfl g rfl ?_
  conv => lhs; whnf
  by_cases h1 : 0 ≤ r.kind
  case' neg =>
    rw [show mayR r = false by rw [hm, decide_eq_false h1]; rfl] at hK'
    refine bif_neg (by simpa using h1) ?_
    conv => lhs; whnf
    exact hK'
  case' pos =>
    refine bif_pos (by simpa using h1) ?_
    conv => lhs; whnf
    refine ldF rfl rfl rfl g rfl ?_
    conv => lhs; whnf
    by_cases h2 : r.kind ≤ 255
    case' neg =>
      rw [show mayR r = false by rw [hm, decide_eq_false h2]; simp] at hK'
      refine bif_neg (by simpa using h2) ?_
      conv => lhs; whnf
      exact hK'
    case' pos =>
      refine bif_pos (by simpa using h2) ?_
      conv => lhs; whnf
      refine ldF rfl rfl rfl g rfl ?_
      conv => lhs; whnf
      by_cases h3 : r.nums.length ≤ 40
      case' neg =>
        rw [show mayR r = false by rw [hm, decide_eq_false h3]; simp] at hK'
        refine bif_neg (by simp; omega) ?_
        conv => lhs; whnf
        exact hK'
      case' pos =>
        refine bif_pos (by simp; omega) ?_
        conv => lhs; whnf
        refine ldF rfl rfl rfl g rfl ?_
        conv => lhs; whnf
        by_cases h4 : r.texts.length ≤ 40
        case' neg =>
          rw [show mayR r = false by rw [hm, decide_eq_false h4]; simp] at hK'
          refine bif_neg (by simp; omega) ?_
          conv => lhs; whnf
          exact hK'
        case' pos =>
          refine bif_pos (by simp; omega) ?_
          conv => lhs; whnf
          refine ldF rfl rfl rfl g rfl ?_
          conv => lhs; whnf
          refine contains_spec (by omega) (by omega) (hr.texts.mono pf) ?_
          rw [hm, decide_eq_true h1, decide_eq_true h2, decide_eq_true h3, decide_eq_true h4, Bool.true_and, Bool.true_and, Bool.true_and, Bool.true_and] at hK'
          cases hq : r.texts.all fun t => decide (t.length ≤ 200) with
          | true =>
            rw [hq] at hK'
            conv => lhs; whnf
            exact hK'
          | false =>
            rw [hq] at hK'
            conv => lhs; whnf
            exact hK'

theorem put_spec_rec {n : Nat} (hn : 70 ≤ n) {a b : SA} {r : RecP} {σ : H} (hr : IsR σ a b r) (ho : OkR r) (hD : ByPlan Tryz.prog D) {K : AV → H → Bool}
    (hK0 : mayR r = false → ∀ σ', σ <+: σ' → K (.tup [.sl .nil 0, .bool false]) σ' = true)
    (hK1 : mayR r = true → ∀ o a σ', σ <+: σ' → Own σ σ' 1 o a (putR r).length (u8s (putR r)) → K (.tup [.sl a (putR r).length, .bool true]) σ' = true) :
    acall Tryz.prog tab D n 143 [recV a b r] σ K = true := by
  obtain ⟨n, rfl, hn⟩ := up hn
  have g := get_new σ (AO.cells [.int .i64 r.kind, .sl a r.nums.length, .sl b r.texts.length] 3 .own)
  have pf := List.prefix_append σ [AO.cells [AV.int .i64 r.kind, .sl a r.nums.length, .sl b r.texts.length] 3 .own]
  conv => lhs; whnf
  refine ldS Tryz.underlying25 rfl g (Nat.le_refl 3) (Nat.le_refl 3) rfl ?_
  conv => lhs; whnf
  refine may_spec (by omega) (hr.mono pf) fun σ1 p1 => ?_
  have pf1 := List.IsPrefix.trans pf p1
  have g1 := prefix_get p1 g
  cases hm : mayR r with
  | false =>
    conv => lhs; whnf
    exact hK0 hm _ pf1
  | true =>
    have hK1 := hK1 hm
    obtain ⟨⟨m1, m2⟩, m3, m4, m5⟩ := may_iff.1 hm
    conv => lhs; whnf
    refine hD.go plan143x3 ord143x3 ?_
    conv => lhs; whnf
    refine ldF rfl rfl rfl g1 rfl ?_
    conv => lhs; whnf
    refine ldF rfl rfl rfl g1 rfl ?_
    conv => lhs; whnf
    refine put_spec (by omega) ho.k1 ho.k2 σ1 _ fun o2 a2 σ2 p2 r2 => ?_
    conv => lhs; whnf
    refine and_true (all_cons ?_ (all_skip rfl rfl)) ?_
    · conv => lhs; whnf
      refine ldF rfl rfl rfl (prefix_get p2 g1) rfl ?_
      exact same_sl _ _
    conv => lhs; whnf
    refine put_spec (by omega) (by omega) (by omega) σ2 _ fun o3 a3 σ3 p3 r3 => ?_
    have c1 := enc_len (zigN r.kind)
    have c2 := enc_len (zigN (r.nums.length : Int))
    have c3 := enc_len (zigN (r.texts.length : Int))
    have c4 := encI_len r.nums
    have c5 := encT_len r.texts m5
    conv => lhs; whnf
    refine bt.app (List.IsPrefix.trans p2 p3) (r2.mono p3) r3.rw (enc (zigN r.kind) ++ enc (zigN (r.nums.length : Int))) rfl (by rw [List.length_append]; omega) fun o4 a4 σ4 p4 _ _ _ r4 => ?_
    generalize hA : enc (zigN r.kind) ++ enc (zigN (r.nums.length : Int)) = A at r4
    have cA : A.length ≤ 22 := by rw [← hA, List.length_append]; omega
    conv => lhs; whnf
    refine ldF rfl rfl rfl (prefix_get p4 g1) rfl ?_
    conv => lhs; whnf
    refine loop_rule (m := 14680082) (fun q fr τ => ∃ (z : Int) (i : Nat) (o : Option Nat) (b : SA), z = (i : Int) ∧ i + q = r.nums.length ∧
        fr = [.bad, .ptr (some ⟨σ.length, 0, 0, 3⟩), .bad, .bad, .sl b (A ++ St.encI (r.nums.take i)).length, .bad, .bad, .bad, .bad, .bad, .bad, .bad, .bad, .bad, .bad, .bad, .bad, .bad, .bad, .bad, .bad, .sl a r.nums.length, .int .i64 (r.nums.length : Int), .int .i64 z, .bad, .bad, .bad, .bad, .bad, .bad, .bad, .bad, .bad, .bad, .bad, .bad, .bad, .bad, .bad, .bad, .bad, .bad, .bad, .bad, .bad, .bad, .bad, .bad, .bad, .bad, .bad, .bad, .bad, .bad] ∧
        σ1 <+: τ ∧ Own σ1 τ 1 o b (A ++ St.encI (r.nums.take i)).length (u8s (A ++ St.encI (r.nums.take i)))) ?_ _ r.nums.length _ _ (by omega)
        ⟨_, 0, o4, a4, rfl, by omega, by rw [List.take_zero, St.encI, List.append_nil]; rfl, p4, by rw [List.take_zero, St.encI, List.append_nil]; exact r4⟩
    rintro q fr τ C ⟨z, i, o, b', rfl, hi, rfl, hp, hown⟩ next fin
    conv => lhs; whnf
    refine bif_case (fun h => ?_) (fun h => ?_)
    · have hlt : i < r.nums.length := by simpa using h
      have hx := ho.ns _ (List.getElem_mem hlt)
      have hs := encI_snoc (r.nums.take i) r.nums[i]
      rw [List.take_append_getElem hlt] at hs
      have hn := ((hr.nums.mono pf1).mono hp)
      conv => lhs; whnf
      refine it42.idx hn rfl hlt fun p hq => ?_
      conv => lhs; whnf
      refine it42.ld hq ?_
      conv => lhs; whnf
      refine put_spec (by omega) hx.1 hx.2 τ _ fun o5 a5 σ5 p5 r5 => ?_
      have ce := encI_len (r.nums.take (i + 1))
      rw [List.length_take] at ce
      conv => lhs; whnf
      refine bt.app (List.IsPrefix.trans hp p5) (hown.mono p5) r5.rw (A ++ St.encI (r.nums.take (i + 1))) (by rw [hs, List.append_assoc]) (by rw [List.length_append]; omega) fun o6 a6 σ6 p6 _ _ _ r6 => ?_
      conv => lhs; whnf
      exact next (q - 1) _ _ (by omega) ⟨_, i + 1, o6, a6, inc_i64 (by omega), by omega, rfl, p6, r6⟩
    · obtain rfl : i = r.nums.length := by have : ¬ i < r.nums.length := by simpa using h
                                           omega
      rw [List.take_length] at hown
      clear next
      conv => lhs; whnf
      refine fin _ _ _ nofun ?_
      conv => lhs; whnf
      rw [List.take_length]
      refine ldF rfl rfl rfl (prefix_get hp g1) rfl ?_
      conv => lhs; whnf
      refine put_spec (by omega) (by omega) (by omega) τ _ fun o5 a5 σ5 p5 r5 => ?_
      conv => lhs; whnf
      refine bt.app (List.IsPrefix.trans hp p5) (hown.mono p5) r5.rw (A ++ St.encI r.nums ++ enc (zigN (r.texts.length : Int))) rfl (by simp only [List.length_append]; omega) fun o6 a6 σ6 p6 _ _ _ r6 => ?_
      have cB : (A ++ St.encI r.nums ++ enc (zigN (r.texts.length : Int))).length ≤ 500 := by simp only [List.length_append]; omega
      have hP : putR r = A ++ St.encI r.nums ++ enc (zigN (r.texts.length : Int)) ++ encT r.texts := by rw [← hA]; rfl
      generalize A ++ St.encI r.nums ++ enc (zigN (r.texts.length : Int)) = B at r6 cB hP
      conv => lhs; whnf
      refine ldF rfl rfl rfl (prefix_get p6 g1) rfl ?_
      conv => lhs; whnf
      refine loop_rule (m := 3848290697232) (fun q fr τ => ∃ (z : Int) (i : Nat) (o : Option Nat) (b' : SA), z = (i : Int) ∧ i + q = r.texts.length ∧
          fr = [.bad, .bad, .bad, .bad, .sl b' (B ++ encT (r.texts.take i)).length, .bad, .bad, .bad, .bad, .bad, .bad, .bad, .bad, .bad, .bad, .bad, .bad, .bad, .bad, .bad, .bad, .bad, .bad, .bad, .bad, .bad, .bad, .bad, .bad, .bad, .bad, .bad, .bad, .bad, .bad, .bad, .bad, .bad, .bad, .sl b r.texts.length, .int .i64 (r.texts.length : Int), .int .i64 z, .bad, .bad, .bad, .bad, .bad, .bad, .bad, .bad, .bad, .bad, .bad, .bad] ∧
          σ1 <+: τ ∧ Own σ1 τ 1 o b' (B ++ encT (r.texts.take i)).length (u8s (B ++ encT (r.texts.take i)))) ?_ _ r.texts.length _ _ (by omega)
          ⟨_, 0, o6, a6, rfl, by omega, by rw [List.take_zero, encT, List.append_nil]; rfl, p6, by rw [List.take_zero, encT, List.append_nil]; exact r6⟩
      clear hown fin
      rintro q fr τ C ⟨z, i, o, b', rfl, hi, rfl, hp, hown⟩ next fin
      conv => lhs; whnf
      refine bif_case (fun h => ?_) (fun h => ?_)
      · have hlt : i < r.texts.length := by simpa using h
        have hx := m5 _ (List.getElem_mem hlt)
        have hs := encT_snoc (r.texts.take i) r.texts[i]
        rw [List.take_append_getElem hlt] at hs
        have ce := encT_len (r.texts.take (i + 1)) fun t ht => m5 t (List.mem_of_mem_take ht)
        rw [List.length_take] at ce
        have ce2 := congrArg List.length hs
        simp only [List.length_append] at ce2
        conv => lhs; whnf
        refine tt43.idx ((hr.texts.mono pf1).mono hp) rfl hlt fun p hq => ?_
        conv => lhs; whnf
        refine tt43.ld hq ?_
        conv => lhs; whnf
        have hl : (ints r.texts[i]).length = r.texts[i].length := by simp [ints]
        rw [hl]
        refine put_spec (by omega) (by omega) (by omega) τ _ fun o5 a5 σ5 p5 r5 => ?_
        conv => lhs; whnf
        refine bt.app (List.IsPrefix.trans hp p5) (hown.mono p5) r5.rw _ rfl (by simp only [List.length_append]; omega) fun o6 a6 σ6 p6 _ _ _ r6 => ?_
        conv => lhs; whnf
        refine bt.appS p6 r6 (B ++ encT (r.texts.take (i + 1))) (by rw [hs]; simp only [List.append_assoc]) (by simp only [List.length_append]; omega) fun o7 a7 σ7 p7 _ _ _ r7 => ?_
        conv => lhs; whnf
        exact next (q - 1) _ _ (by omega) ⟨_, i + 1, o7, a7, inc_i64 (by omega), by omega, rfl, p7, r7⟩
      · obtain rfl : i = r.texts.length := by have : ¬ i < r.texts.length := by simpa using h
                                              omega
        rw [List.take_length] at hown
        conv => lhs; whnf
        refine fin _ _ _ nofun ?_
        conv => lhs; whnf
        rw [List.take_length, ← hP]
        rw [← hP] at hown
        exact hK1 _ _ _ (List.IsPrefix.trans pf1 hp) (hown.since pf1)
end Go.Proofs.YthmdecfiijgaoaaGreat
namespace Go.Proofs.YthmdecfiijgaoaaGreat
open Go Go.AM Go.AM.St

theorem take_eq {α : Type} {xs ys : List α} {i : Nat} (h : xs.take i = ys.take i) (hx : i < xs.length) (hy : i < ys.length) (he : xs[i] = ys[i]) : xs.take (i + 1) = ys.take (i + 1) := by
  rw [← List.take_append_getElem hx, ← List.take_append_getElem hy, h, he]
theorem ints_eq {a b : List Nat} : ints a = ints b ↔ a = b := by
  constructor
  · intro h
    have := congrArg (List.map Int.toNat) h
    simpa [ints, List.map_map, Function.comp_def] using this
  · intro h; rw [h]
def recEq (r s : RecP) : Bool := decide (r.kind = s.kind) && decide (r.nums = s.nums) && decide (r.texts = s.texts)
attribute [local irreducible] IntKind.wrap Int.fdiv Int.tdiv Int.tmod BitVec.ofInt appendK sliceK indexAddrK ldK storeK seenK makeSliceK
set_option maxRecDepth 100000
variable {D : Drawer}

theorem eqI_spec {n : Nat} {a b : SA} {xs ys : List Int} (hn : xs.length + 2 ≤ n) (hl : xs.length < 1000000) (hD : ByPlan Tryz.prog D) {σ : H} (ha : Rw σ 1 a xs.length (iks .i64 xs)) (hb : Rw σ 1 b ys.length (iks .i64 ys)) {K : AV → H → Bool}
    (hK : K (.bool (decide (xs = ys))) σ = true) : acall Tryz.prog tab D n 159 [.sl a xs.length, .sl b ys.length] σ K = true := by
  obtain ⟨n, rfl, hn⟩ := up hn
  conv => lhs; whnf
  by_cases he : xs.length = ys.length
  · refine bif_neg (by simp [he]) ?_
    conv => lhs; whnf
    refine loop_rule (m := 12291) (fun r fr τ => ∃ (z : Int) (i : Nat), z = (i : Int) ∧ i + r = xs.length ∧ τ = σ ∧ xs.take i = ys.take i ∧
        fr = [.sl a xs.length, .sl b ys.length, .bad, .bad, .bad, .bad, .bad, .bad, .bad, .bad, .bad, .bad, .int .i64 (xs.length : Int), .int .i64 z, .bad, .bad, .bad, .bad, .bad, .bad, .bad, .bad, .bad, .bad, .bad, .bad]) ?_ _ xs.length _ _ (by omega) ⟨_, 0, rfl, by omega, rfl, rfl, rfl⟩
    rintro r fr τ C ⟨z, i, rfl, hi, rfl, ht, rfl⟩ next fin
    conv => lhs; whnf
    refine bif_case (fun h => ?_) (fun h => ?_)
    · have hlt : i < xs.length := by simpa using h
      have hlt' : i < ys.length := by omega
      conv => lhs; whnf
      refine hD.go plan159x6 ord159x6 ?_
      conv => lhs; whnf
      refine it42.idx ha rfl hlt fun p hp => ?_
      conv => lhs; whnf
      refine it42.ld hp ?_
      conv => lhs; whnf
      refine it42.idx hb rfl hlt' fun p hp => ?_
      conv => lhs; whnf
      refine it42.ld hp ?_
      conv => lhs; whnf
      by_cases hc : xs[i] = ys[i]
      · refine bif_neg (by simp [hc]) ?_
        conv => lhs; whnf
        exact next (r - 1) _ _ (by omega) ⟨_, i + 1, inc_i64 (by omega), by omega, rfl, take_eq ht hlt hlt' hc, rfl⟩
      · refine bif_pos (by simp [hc]) ?_
        conv => lhs; whnf
        refine fin _ _ _ nofun ?_
        conv => lhs; whnf
        rw [decide_eq_false (fun e => hc (by simp only [e]))] at hK
        exact hK
    · obtain rfl : i = xs.length := by have : ¬ i < xs.length := by simpa using h
                                       omega
      rw [List.take_length, he, List.take_length] at ht
      conv => lhs; whnf
      refine fin _ _ _ nofun ?_
      conv => lhs; whnf
      rw [decide_eq_true ht] at hK
      exact hK
  · refine bif_pos (by simp; omega) ?_
    conv => lhs; whnf
    rw [decide_eq_false (fun e => he (by rw [e]))] at hK
    exact hK

theorem eqT_spec {n : Nat} {a b : SA} {xs ys : List (List Nat)} (hn : xs.length + 2 ≤ n) (hl : xs.length < 1000000) (hD : ByPlan Tryz.prog D) {σ : H} (ha : Rw σ 1 a xs.length (txs xs)) (hb : Rw σ 1 b ys.length (txs ys)) {K : AV → H → Bool}
    (hK : K (.bool (decide (xs = ys))) σ = true) : acall Tryz.prog tab D n 160 [.sl a xs.length, .sl b ys.length] σ K = true := by
  obtain ⟨n, rfl, hn⟩ := up hn
  conv => lhs; whnf
  by_cases he : xs.length = ys.length
  · refine bif_neg (by simp [he]) ?_
    conv => lhs; whnf
    refine loop_rule (m := 12291) (fun r fr τ => ∃ (z : Int) (i : Nat), z = (i : Int) ∧ i + r = xs.length ∧ τ = σ ∧ xs.take i = ys.take i ∧
        fr = [.sl a xs.length, .sl b ys.length, .bad, .bad, .bad, .bad, .bad, .bad, .bad, .bad, .bad, .bad, .int .i64 (xs.length : Int), .int .i64 z, .bad, .bad, .bad, .bad, .bad, .bad, .bad, .bad, .bad, .bad, .bad, .bad]) ?_ _ xs.length _ _ (by omega) ⟨_, 0, rfl, by omega, rfl, rfl, rfl⟩
    rintro r fr τ C ⟨z, i, rfl, hi, rfl, ht, rfl⟩ next fin
    conv => lhs; whnf
    refine bif_case (fun h => ?_) (fun h => ?_)
    · have hlt : i < xs.length := by simpa using h
      have hlt' : i < ys.length := by omega
      conv => lhs; whnf
      refine hD.go plan160x6 ord160x6 ?_
      conv => lhs; whnf
      refine tt43.idx ha rfl hlt fun p hp => ?_
      conv => lhs; whnf
      refine tt43.ld hp ?_
      conv => lhs; whnf
      refine tt43.idx hb rfl hlt' fun p hp => ?_
      conv => lhs; whnf
      refine tt43.ld hp ?_
      conv => lhs; whnf
      by_cases hc : xs[i] = ys[i]
      · refine bif_neg (by simp [hc]) ?_
        conv => lhs; whnf
        exact next (r - 1) _ _ (by omega) ⟨_, i + 1, inc_i64 (by omega), by omega, rfl, take_eq ht hlt hlt' hc, rfl⟩
      · refine bif_pos (by simp [ints_eq, hc]) ?_
        conv => lhs; whnf
        refine fin _ _ _ nofun ?_
        conv => lhs; whnf
        rw [decide_eq_false (fun e => hc (by simp only [e]))] at hK
        exact hK
    · obtain rfl : i = xs.length := by have : ¬ i < xs.length := by simpa using h
                                       omega
      rw [List.take_length, he, List.take_length] at ht
      conv => lhs; whnf
      refine fin _ _ _ nofun ?_
      conv => lhs; whnf
      rw [decide_eq_true ht] at hK
      exact hK
  · refine bif_pos (by simp; omega) ?_
    conv => lhs; whnf
    rw [decide_eq_false (fun e => he (by rw [e]))] at hK
    exact hK

theorem eq_spec {n : Nat} {a b a' b' : SA} {r s : RecP} (hn : 60 ≤ n) (h1 : r.nums.length ≤ 50) (h2 : r.texts.length ≤ 50) (hD : ByPlan Tryz.prog D) {σ : H} (hr : IsR σ a b r) (hs : IsR σ a' b' s) {K : AV → H → Bool}
    (hK : ∀ σ', σ <+: σ' → K (.bool (recEq r s)) σ' = true) : acall Tryz.prog tab D n 144 [recV a b r, recV a' b' s] σ K = true := by
  obtain ⟨n, rfl, hn⟩ := up hn
  have g := get_old (get_new σ (AO.cells [.int .i64 r.kind, .sl a r.nums.length, .sl b r.texts.length] 3 .own)) (AO.cells [.int .i64 s.kind, .sl a' s.nums.length, .sl b' s.texts.length] 3 .own)
  have g' := get_new (σ ++ [AO.cells [.int .i64 r.kind, .sl a r.nums.length, .sl b r.texts.length] 3 .own]) (AO.cells [.int .i64 s.kind, .sl a' s.nums.length, .sl b' s.texts.length] 3 .own)
  have pf : σ <+: σ ++ [AO.cells [AV.int .i64 r.kind, .sl a r.nums.length, .sl b r.texts.length] 3 .own] ++ [AO.cells [.int .i64 s.kind, .sl a' s.nums.length, .sl b' s.texts.length] 3 .own] :=
    List.IsPrefix.trans (List.prefix_append _ _) (List.prefix_append _ _)
  have hK' := hK _ pf
  have hm : recEq r s = (decide (r.kind = s.kind) && decide (r.nums = s.nums) && decide (r.texts = s.texts)) := rfl
  conv => lhs; whnf
  refine ldF rfl rfl rfl g rfl ?_
  conv => lhs; whnf
  refine ldF rfl rfl rfl g' rfl ?_
  conv => lhs; whnf
  by_cases hk : r.kind = s.kind
  · refine bif_pos (by simp [hk]) ?_
    conv => lhs; whnf
    refine ldF rfl rfl rfl g rfl ?_
    conv => lhs; whnf
    refine ldF rfl rfl rfl g' rfl ?_
    conv => lhs; whnf
    refine eqI_spec (by omega) (by omega) hD (hr.nums.mono pf) (hs.nums.mono pf) ?_
    cases hc : decide (r.nums = s.nums) with
    | false =>
      rw [hm, hc, Bool.and_false, Bool.false_and] at hK'
      conv => lhs; whnf
      exact hK'
    | true =>
      rw [hm, hc, decide_eq_true hk, Bool.true_and, Bool.true_and] at hK'
      conv => lhs; whnf
      refine ldF rfl rfl rfl g rfl ?_
      conv => lhs; whnf
      refine ldF rfl rfl rfl g' rfl ?_
      conv => lhs; whnf
      refine eqT_spec (by omega) (by omega) hD (hr.texts.mono pf) (hs.texts.mono pf) ?_
      cases hc : decide (r.texts = s.texts) with
      | false =>
        rw [hc] at hK'
        conv => lhs; whnf
        exact hK'
      | true =>
        rw [hc] at hK'
        conv => lhs; whnf
        exact hK'
  · refine bif_neg (by simp [hk]) ?_
    conv => lhs; whnf
    rw [hm, decide_eq_false hk, Bool.false_and, Bool.false_and] at hK'
    exact hK'

def cutR (r : RecP) : RecP := ⟨r.kind, r.nums.take 45, r.texts.take 45⟩
theorem OkR.cut {r : RecP} (h : OkR r) : OkR (cutR r) := ⟨h.k1, h.k2, fun x hx => h.ns x (List.mem_of_mem_take hx), by show (r.nums.take 45).length ≤ _; rw [List.length_take]; have := h.nl; omega,
  fun t ht => h.ts t (List.mem_of_mem_take ht), by show (r.texts.take 45).length ≤ _; rw [List.length_take]; have := h.tl; omega⟩

theorem rec_spec {n : Nat} {a b : SA} {r : RecP} (hn : 1 ≤ n) (hD : ByPlan Tryz.prog D) {σ : H} (hr : IsR σ a b r) {K : AV → H → Bool}
    (hK : ∀ a' b' σ', σ <+: σ' → IsR σ' a' b' (cutR r) → K (recV a' b' (cutR r)) σ' = true) : acall Tryz.prog tab D n 13 [recV a b r] σ K = true := by
  obtain ⟨n, rfl, hn⟩ := up hn
  have g := get_old (get_new σ (AO.cells [.int .i64 r.kind, .sl a r.nums.length, .sl b r.texts.length] 3 .own)) (AO.cells [.int .i64 0, .sl .nil 0, .sl .nil 0] 3 .own)
  have g' := get_new (σ ++ [AO.cells [.int .i64 r.kind, .sl a r.nums.length, .sl b r.texts.length] 3 .own]) (AO.cells [.int .i64 0, .sl .nil 0, .sl .nil 0] 3 .own)
  have pf : σ <+: σ ++ [AO.cells [AV.int .i64 r.kind, .sl a r.nums.length, .sl b r.texts.length] 3 .own] ++ [AO.cells [.int .i64 0, .sl .nil 0, .sl .nil 0] 3 .own] :=
    List.IsPrefix.trans (List.prefix_append _ _) (List.prefix_append _ _)
  conv => lhs; whnf
  refine hD.go plan13x1 ord13x1 ?_
  conv => lhs; whnf
  refine ldF rfl rfl rfl g rfl ?_
  conv => lhs; whnf
  refine ldF rfl rfl rfl g rfl ?_
  conv => lhs; whnf
  refine ldF rfl rfl rfl g rfl ?_
  conv => lhs; whnf
  refine it42.slice (hr.nums.mono pf) 0 (min r.nums.length 45) (.inl ⟨rfl, rfl⟩) (.inr ⟨_, _, rfl, ?_⟩) (Nat.zero_le _) (Nat.min_le_left _ _) (r.nums.take 45) ?_ fun a1 r1 => ?_
  · show (if _ then _ else _) = _
    split <;> omega
  · rw [List.drop_zero, Nat.min_comm, ← List.take_take, List.take_of_length_le (Nat.le_refl _)]
  conv => lhs; whnf
  refine ldF rfl rfl rfl g rfl ?_
  conv => lhs; whnf
  refine ldF rfl rfl rfl g rfl ?_
  conv => lhs; whnf
  refine tt43.slice (hr.texts.mono pf) 0 (min r.texts.length 45) (.inl ⟨rfl, rfl⟩) (.inr ⟨_, _, rfl, ?_⟩) (Nat.zero_le _) (Nat.min_le_left _ _) (r.texts.take 45) ?_ fun b1 r2 => ?_
  · show (if _ then _ else _) = _
    split <;> omega
  · rw [List.drop_zero, Nat.min_comm, ← List.take_take, List.take_of_length_le (Nat.le_refl _)]
  conv => lhs; whnf
  refine it42.app (List.prefix_refl _) (xs := []) (Own.nil _ _ _) r1 (r.nums.take 45) rfl (by rw [List.length_take]; omega) fun o3 a3 σ3 p3 _ _ _ r3 => ?_
  conv => lhs; whnf
  refine and_true (all_cons ?_ (all_cons ?_ (all_skip rfl (all_skip rfl (all_cons ?_ rfl))))) ?_
  · conv => lhs; whnf
    refine ldF rfl rfl rfl (prefix_get p3 g) rfl ?_
    exact same_sl _ _
  · conv => lhs; whnf
    refine ldF rfl rfl rfl (prefix_get p3 g) rfl ?_
    exact same_sl _ _
  · conv => lhs; whnf
    refine ldF rfl rfl rfl (prefix_get p3 g) rfl ?_
    exact same_int .i64 r.kind
  conv => lhs; whnf
  refine tt43.app (List.prefix_refl _) (xs := []) (Own.nil _ _ _) (r2.mono p3) (r.texts.take 45) rfl (by rw [List.length_take]; omega) fun o4 b4 σ4 p4 _ _ _ r4 => ?_
  conv => lhs; whnf
  refine and_true (all_skip rfl (all_skip rfl (all_skip rfl (all_skip rfl (all_cons ?_ rfl))))) ?_
  · conv => lhs; whnf
    refine ldF rfl rfl rfl (prefix_get (List.IsPrefix.trans p3 p4) g) rfl ?_
    exact same_int .i64 r.kind
  have g4 := prefix_get (List.IsPrefix.trans p3 p4) g'
  conv => lhs; whnf
  refine storeS rfl g4 rfl rfl (Nat.le_refl 3) rfl ?_
  conv => lhs; whnf
  refine ldS Tryz.underlying25 rfl (get_set g4 _) (Nat.le_refl 3) (Nat.le_refl 3) rfl ?_
  conv => lhs; whnf
  have hid : (σ ++ [AO.cells [AV.int .i64 r.kind, .sl a r.nums.length, .sl b r.texts.length] 3 .own]).length < (σ ++ [AO.cells [AV.int .i64 r.kind, .sl a r.nums.length, .sl b r.texts.length] 3 .own] ++ [AO.cells [AV.int .i64 0, .sl .nil 0, .sl .nil 0] 3 .own]).length := by
    simp
  exact hK a3 b4 _ (prefix_set (List.IsPrefix.trans pf (List.IsPrefix.trans p3 p4)) (prefix_len (List.prefix_append _ _)) _)
    ⟨((r3.mono p4).keep (keep_set _ _ _) (r3.off hid)).rw, (((r4.since p3).keep (keep_set _ _ _) ((r4.since p3).off hid))).rw⟩
end Go.Proofs.YthmdecfiijgaoaaGreat
namespace Go.Proofs.YthmdecfiijgaoaaGreat
open Go Go.AM Go.AM.St
attribute [local irreducible] IntKind.wrap Int.fdiv Int.tdiv Int.tmod BitVec.ofInt appendK sliceK indexAddrK ldK storeK seenK makeSliceK
set_option maxRecDepth 100000
variable {D : Drawer}

theorem req_spec {n : Nat} {a b a' b' : SA} {r s : RecP} (hn : 60 ≤ n) (h1 : r.nums.length ≤ 50) (h2 : r.texts.length ≤ 50) (hD : ByPlan Tryz.prog D) {σ : H} (hr : IsR σ a b r) (hs : IsR σ a' b' s) {K : AV → H → Bool}
    (hK : ∀ σ', σ <+: σ' → K (.bool (recEq r s)) σ' = true) : acall Tryz.prog tab D n 55 [recV a b r, recV a' b' s] σ K = true := by
  obtain ⟨n, rfl, hn⟩ := up hn
  have g := get_old (get_new σ (AO.cells [.int .i64 r.kind, .sl a r.nums.length, .sl b r.texts.length] 3 .own)) (AO.cells [.int .i64 s.kind, .sl a' s.nums.length, .sl b' s.texts.length] 3 .own)
  have g' := get_new (σ ++ [AO.cells [.int .i64 r.kind, .sl a r.nums.length, .sl b r.texts.length] 3 .own]) (AO.cells [.int .i64 s.kind, .sl a' s.nums.length, .sl b' s.texts.length] 3 .own)
  have pf : σ <+: σ ++ [AO.cells [AV.int .i64 r.kind, .sl a r.nums.length, .sl b r.texts.length] 3 .own] ++ [AO.cells [.int .i64 s.kind, .sl a' s.nums.length, .sl b' s.texts.length] 3 .own] :=
    List.IsPrefix.trans (List.prefix_append _ _) (List.prefix_append _ _)
  have hK' := hK _ pf
  have no : ∀ {p : Prop}, (r = s → p) → ¬ p → recEq r s = false := fun {p} h hp => by
    unfold recEq
    rw [Bool.and_eq_false_iff, Bool.and_eq_false_iff]
    simp only [decide_eq_false_iff_not]
    by_cases e1 : r.kind = s.kind
    · by_cases e2 : r.nums = s.nums
      · by_cases e3 : r.texts = s.texts
        · exfalso
          refine hp (h ?_)
          cases r; cases s; simp only at e1 e2 e3; rw [e1, e2, e3]
        · exact .inr e3
      · exact .inl (.inr e2)
    · exact .inl (.inl e1)
  conv => lhs; whnf
  refine ldF rfl rfl rfl g rfl ?_
  conv => lhs; whnf
  refine ldF rfl rfl rfl g' rfl ?_
  conv => lhs; whnf
  by_cases hk : r.kind = s.kind
  case neg =>
    rw [no (fun e => by rw [e]) hk] at hK'
    refine bif_pos (by simp [hk]) ?_
    conv => lhs; whnf
    exact hK'
  refine bif_neg (by simp [hk]) ?_
  conv => lhs; whnf
  refine ldF rfl rfl rfl g rfl ?_
  conv => lhs; whnf
  refine ldF rfl rfl rfl g' rfl ?_
  conv => lhs; whnf
  by_cases hln : r.nums.length = s.nums.length
  case neg =>
    rw [no (fun e => by rw [e]) hln] at hK'
    refine bif_pos (by simp; omega) ?_
    conv => lhs; whnf
    exact hK'
  refine bif_neg (by simp [hln]) ?_
  conv => lhs; whnf
  refine ldF rfl rfl rfl g rfl ?_
  conv => lhs; whnf
  refine ldF rfl rfl rfl g' rfl ?_
  conv => lhs; whnf
  by_cases hlt : r.texts.length = s.texts.length
  case neg =>
    rw [no (fun e => by rw [e]) hlt] at hK'
    refine bif_pos (by simp; omega) ?_
    conv => lhs; whnf
    exact hK'
  refine bif_neg (by simp [hlt]) ?_
  conv => lhs; whnf
  refine loop_rule (m := 44) (fun q fr τ => ∃ (z : Int) (i : Nat), z = (i : Int) ∧ i + q = r.nums.length ∧ τ = σ ++ [AO.cells [AV.int .i64 r.kind, .sl a r.nums.length, .sl b r.texts.length] 3 .own] ++ [AO.cells [.int .i64 s.kind, .sl a' s.nums.length, .sl b' s.texts.length] 3 .own] ∧
      r.nums.take i = s.nums.take i ∧
      fr = [.bad, .bad, .ptr (some ⟨σ.length, 0, 0, 3⟩), .ptr (some ⟨(σ ++ [AO.cells [AV.int .i64 r.kind, .sl a r.nums.length, .sl b r.texts.length] 3 .own]).length, 0, 0, 3⟩), .bad, .int .i64 z, .bad, .bad, .bad, .bad, .bad, .bad, .bad, .bad, .bad, .bad, .bad, .bad, .bad, .bad, .bad, .bad, .bad, .bad, .bad, .bad, .bad, .bad, .bad, .bad, .bad, .bad, .bad, .bad, .bad, .bad, .bad, .bad, .bad, .bad, .bad, .bad, .bad, .bad, .bad, .bad, .bad, .bad, .bad, .bad, .bad, .bad, .bad, .bad, .bad, .bad, .bad, .bad, .bad, .bad, .bad, .bad, .bad, .bad, .bad, .bad]) ?_ _ r.nums.length _ _ (by omega) ⟨_, 0, rfl, by omega, rfl, rfl, rfl⟩
  rintro q fr τ C ⟨z, i, rfl, hi, rfl, ht, rfl⟩ next fin
  conv => lhs; whnf
  refine ldF rfl rfl rfl g rfl ?_
  conv => lhs; whnf
  refine bif_case (fun h => ?_) (fun h => ?_)
  · have hl1 : i < r.nums.length := by simpa using h
    have hl2 : i < s.nums.length := by omega
    conv => lhs; whnf
    refine hD.go plan55x6 ord55x6 ?_
    conv => lhs; whnf
    refine ldF rfl rfl rfl g rfl ?_
    conv => lhs; whnf
    refine it42.idx (hr.nums.mono pf) rfl hl1 fun p hp => ?_
    conv => lhs; whnf
    refine it42.ld hp ?_
    conv => lhs; whnf
    refine ldF rfl rfl rfl g' rfl ?_
    conv => lhs; whnf
    refine it42.idx (hs.nums.mono pf) rfl hl2 fun p hp => ?_
    conv => lhs; whnf
    refine it42.ld hp ?_
    conv => lhs; whnf
    by_cases hc : r.nums[i] = s.nums[i]
    · refine bif_neg (by simp [hc]) ?_
      conv => lhs; whnf
      exact next (q - 1) _ _ (by omega) ⟨_, i + 1, inc_i64 (by omega), by omega, rfl, take_eq ht hl1 hl2 hc, rfl⟩
    · refine bif_pos (by simp [hc]) ?_
      conv => lhs; whnf
      refine fin _ _ _ nofun ?_
      rw [no (fun e => by subst e; rfl) hc] at hK'
      conv => lhs; whnf
      exact hK'
  · obtain rfl : i = r.nums.length := by have : ¬ i < r.nums.length := by simpa using h
                                         omega
    rw [List.take_length, hln, List.take_length] at ht
    clear next
    conv => lhs; whnf
    refine fin _ _ _ nofun ?_
    conv => lhs; whnf
    refine loop_rule (m := 76) (fun q fr τ => ∃ (z : Int) (i : Nat), z = (i : Int) ∧ i + q = r.texts.length ∧ τ = σ ++ [AO.cells [AV.int .i64 r.kind, .sl a r.nums.length, .sl b r.texts.length] 3 .own] ++ [AO.cells [.int .i64 s.kind, .sl a' s.nums.length, .sl b' s.texts.length] 3 .own] ∧
        r.texts.take i = s.texts.take i ∧
        fr = [.bad, .bad, .ptr (some ⟨σ.length, 0, 0, 3⟩), .ptr (some ⟨(σ ++ [AO.cells [AV.int .i64 r.kind, .sl a r.nums.length, .sl b r.texts.length] 3 .own]).length, 0, 0, 3⟩), .bad, .bad, .int .i64 z, .bad, .bad, .bad, .bad, .bad, .bad, .bad, .bad, .bad, .bad, .bad, .bad, .bad, .bad, .bad, .bad, .bad, .bad, .bad, .bad, .bad, .bad, .bad, .bad, .bad, .bad, .bad, .bad, .bad, .bad, .bad, .bad, .bad, .bad, .bad, .bad, .bad, .bad, .bad, .bad, .bad, .bad, .bad, .bad, .bad, .bad, .bad, .bad, .bad, .bad, .bad, .bad, .bad, .bad, .bad, .bad, .bad, .bad, .bad]) ?_ _ r.texts.length _ _ (by omega) ⟨_, 0, rfl, by omega, rfl, rfl, rfl⟩
    clear fin
    rintro q fr τ C ⟨z, i, rfl, hi, rfl, ht2, rfl⟩ next fin
    conv => lhs; whnf
    refine ldF rfl rfl rfl g rfl ?_
    conv => lhs; whnf
    refine bif_case (fun h => ?_) (fun h => ?_)
    · have hl1 : i < r.texts.length := by simpa using h
      have hl2 : i < s.texts.length := by omega
      conv => lhs; whnf
      refine hD.go plan55x11 ord55x11 ?_
      conv => lhs; whnf
      refine ldF rfl rfl rfl g rfl ?_
      conv => lhs; whnf
      refine tt43.idx (hr.texts.mono pf) rfl hl1 fun p hp => ?_
      conv => lhs; whnf
      refine tt43.ld hp ?_
      conv => lhs; whnf
      refine ldF rfl rfl rfl g' rfl ?_
      conv => lhs; whnf
      refine tt43.idx (hs.texts.mono pf) rfl hl2 fun p hp => ?_
      conv => lhs; whnf
      refine tt43.ld hp ?_
      conv => lhs; whnf
      by_cases hc : r.texts[i] = s.texts[i]
      · refine bif_neg (by simp [hc]) ?_
        conv => lhs; whnf
        exact next (q - 1) _ _ (by omega) ⟨_, i + 1, inc_i64 (by omega), by omega, rfl, take_eq ht2 hl1 hl2 hc, rfl⟩
      · refine bif_pos (by simp [ints_eq, hc]) ?_
        conv => lhs; whnf
        refine fin _ _ _ nofun ?_
        rw [no (fun e => by subst e; rfl) hc] at hK'
        conv => lhs; whnf
        exact hK'
    · obtain rfl : i = r.texts.length := by have : ¬ i < r.texts.length := by simpa using h
                                            omega
      rw [List.take_length, hlt, List.take_length] at ht2
      have : recEq r s = true := by unfold recEq; rw [decide_eq_true hk, decide_eq_true ht, decide_eq_true ht2]; rfl
      rw [this] at hK'
      conv => lhs; whnf
      refine fin _ _ _ nofun ?_
      conv => lhs; whnf
      exact hK'
end Go.Proofs.YthmdecfiijgaoaaGreat
