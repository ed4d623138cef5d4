/- Package op: which operations may be. The document's May; the two are the same. Package op: kinds, clients. Package op: many operations. Operations as arguments. -/
import Derived.Test.YtajincfelnmlhaaGreatL1Tab
import Derived.Test.YtajincfelnmlhaaGreatL1Plans
import Derived.Test.YtajincfelnmlhaaGreatPUtf
import Derived.Test.YtajincfelnmlhaaGreatGmStep
namespace Go.Proofs.YtajincfelnmlhaaGreat
set_option maxRecDepth 100000
open Go Go.AM Go.AM.St
/-- An operation. -/
structure OpV where
  kind : Int
  s : List Nat
  k : List Nat
  t : List Nat
  n : Int
abbrev opv (o : OpV) : List AV := [.int .i64 o.kind, .str (ints o.s), .str (ints o.k), .str (ints o.t), .int .i64 o.n]
def lowS (s : List Nat) : Bool := s.all fun b => decide (97 ≤ b) && decide (b ≤ 122)
def nKey (k : Int) : Bool := k == 1 || k == 8 || k == 11 || k == 3 || k == 5 || k == 4 || k == 12
def nText (k : Int) : Bool := k == 4 || k == 6 || k == 10 || k == 12
def nNum (k : Int) : Bool := k == 1 || k == 8 || k == 11 || k == 7 || k == 12
def makesV (o : OpV) : Bool :=
  if o.n < 1 then false else if o.n > 3 then false else
  if o.k.length = 1 then
    (if o.k.getD 0 0 ≥ 49 then (if o.k.getD 0 0 ≤ 57 then true else false) else false)
  else if o.k = [] then !(o.n == 2) else false
def fitsV (o : OpV) : Bool :=
  if o.k.length > 20 then false else if o.t.length > 100 then false else if o.n < 0 then false else if o.n > 1099511627776 then false else true
def mayV (o : OpV) : Bool :=
  if o.kind < 1 then false else if o.kind > 12 then false else if o.s = [] then false else if o.s.length > 20 then false else if lowS o.s = false then false else
  if fitsV o = false then false else
  if nKey o.kind = false ∧ o.k ≠ [] then false else if nText o.kind = false ∧ o.t ≠ [] then false else if nNum o.kind = false ∧ o.n ≠ 0 then false else
  if o.kind = 1 then makesV o else true
structure OkV (o : OpV) : Prop where
  s : ∀ b ∈ o.s, b < 256
  k : ∀ b ∈ o.k, b < 256
  t : ∀ b ∈ o.t, b < 256
  n1 : -9223372036854775808 ≤ o.n
  n2 : o.n ≤ 9223372036854775807
  k1 : -9223372036854775808 ≤ o.kind
  k2 : o.kind ≤ 9223372036854775807
attribute [local irreducible] IntKind.wrap Int.fdiv Int.tdiv Int.tmod BitVec.ofInt appendK sliceK indexAddrK ldK storeK seenK makeSliceK lookupK updateK deleteK mapK rangeK nextK buildSliceK indexK
variable {D : Drawer} {σ : H}
theorem names_spec {n : Nat} {k : Int} (hn : 1 ≤ n) {K : AV → H → Bool} (hK : K (.tup [.bool (nKey k), .bool (nText k), .bool (nNum k)]) σ = true) : acall Tryz.prog tab D n 52 [.int .i64 k] σ K = true := by
  obtain ⟨n, rfl, hn⟩ := up hn
  by_cases hh : 1 ≤ k ∧ k ≤ 12
  · have : k = 1 ∨ k = 2 ∨ k = 3 ∨ k = 4 ∨ k = 5 ∨ k = 6 ∨ k = 7 ∨ k = 8 ∨ k = 9 ∨ k = 10 ∨ k = 11 ∨ k = 12 := by omega
    rcases this with rfl | rfl | rfl | rfl | rfl | rfl | rfl | rfl | rfl | rfl | rfl | rfl
    all_goals
      conv => lhs; whnf
      exact hK
  have e1 : (k == 1) = false := by rw [beq_eq_false_iff_ne]; omega
  have e2 : (k == 2) = false := by rw [beq_eq_false_iff_ne]; omega
  have e3 : (k == 3) = false := by rw [beq_eq_false_iff_ne]; omega
  have e4 : (k == 4) = false := by rw [beq_eq_false_iff_ne]; omega
  have e5 : (k == 5) = false := by rw [beq_eq_false_iff_ne]; omega
  have e6 : (k == 6) = false := by rw [beq_eq_false_iff_ne]; omega
  have e7 : (k == 7) = false := by rw [beq_eq_false_iff_ne]; omega
  have e8 : (k == 8) = false := by rw [beq_eq_false_iff_ne]; omega
  have e9 : (k == 9) = false := by rw [beq_eq_false_iff_ne]; omega
  have e10 : (k == 10) = false := by rw [beq_eq_false_iff_ne]; omega
  have e11 : (k == 11) = false := by rw [beq_eq_false_iff_ne]; omega
  have e12 : (k == 12) = false := by rw [beq_eq_false_iff_ne]; omega
  rw [show nKey k = false by unfold nKey; rw [e1, e8, e11, e3, e5, e4, e12]; rfl, show nText k = false by unfold nText; rw [e4, e6, e10, e12]; rfl, show nNum k = false by unfold nNum; rw [e1, e8, e11, e7, e12]; rfl] at hK
  conv => lhs; whnf
  rw [e1]
  conv => lhs; whnf
  rw [e8]
  conv => lhs; whnf
  rw [e11]
  conv => lhs; whnf
  rw [e3]
  conv => lhs; whnf
  rw [e5]
  conv => lhs; whnf
  rw [e4]
  conv => lhs; whnf
  rw [e6]
  conv => lhs; whnf
  rw [e10]
  conv => lhs; whnf
  rw [e7]
  conv => lhs; whnf
  rw [e12]
  conv => lhs; whnf
  exact hK
theorem rangeS {s : List Nat} {K : AV → H → Bool} (hK : K (.it σ.length) (σ ++ [.siter (ints s) 0]) = true) : rangeK Tryz.prog 9 (.str (ints s)) σ K = true := by
  unfold rangeK
  rw [Tryz.underlying9]
  exact hK
theorem nextS {s : List Nat} {id i : Nat} {K : AV → H → Bool} (hr : σ[id]? = some (.siter (ints s) i)) (h : ∀ b ∈ s, b < 256)
    (h0 : i = s.length → K (.tup [.bool false]) σ = true)
    (h1 : ∀ hi : i < s.length, s[i] < 128 → K (.tup [.bool true, .int .i64 (i : Int), .int .i32 (s[i] : Int)]) (σ.set id (.siter (ints s) (i + 1))) = true)
    (h2 : ∀ hi : i < s.length, 128 ≤ s[i] → ∀ (x w : Nat), 128 ≤ x → x ≤ 2147483647 → K (.tup [.bool true, .int .i64 (i : Int), .int .i32 (x : Int)]) (σ.set id (.siter (ints s) (i + w))) = true)
    (hi : i ≤ s.length) : nextK (.it id) true σ K = true := by
  unfold nextK
  simp only [hr]
  have e : (ints s).length = s.length := by simp [ints]
  rw [e]
  by_cases hl : i < s.length
  · rw [show decide (i < s.length) = true from decide_eq_true hl]
    by_cases hb : s[i] < 128
    · have := decode_low hl hb
      rw [this]
      exact h1 hl hb
    · have hb' := Nat.not_lt.1 hb
      obtain ⟨a, b⟩ := decode_high hl hb' (h _ (List.getElem_mem hl))
      exact h2 hl hb' _ _ a b
  · rw [show decide (i < s.length) = false from decide_eq_false hl]
    exact h0 (by omega)
theorem low_spec {n : Nat} {x : Int} (hn : 1 ≤ n) {K : AV → H → Bool} (hK : K (.bool (decide (x < 97) || decide (x > 122))) σ = true) : acall Tryz.prog tab D n 53 [.int .i32 x] σ K = true := by
  obtain ⟨n, rfl, hn⟩ := up hn
  conv => lhs; whnf
  generalize decide (x < 97) = a at hK ⊢
  cases a with
  | true =>
    conv => lhs; whnf
    exact hK
  | false =>
    conv => lhs; whnf
    generalize decide (x > 122) = b at hK ⊢
    cases b with
    | true =>
      conv => lhs; whnf
      exact hK
    | false =>
      conv => lhs; whnf
      exact hK
theorem lowS_take {s : List Nat} {i : Nat} (hi : i < s.length) (h : lowS (s.take i) = true) (hb : 97 ≤ s[i] ∧ s[i] ≤ 122) : lowS (s.take (i + 1)) = true := by
  rw [List.take_succ_eq_append_getElem hi]
  unfold lowS at h ⊢
  rw [List.all_append, h]
  simp [hb]
theorem lowS_no {s : List Nat} {i : Nat} (hi : i < s.length) (hb : ¬ (97 ≤ s[i] ∧ s[i] ≤ 122)) : lowS s = false := by
  rw [Bool.eq_false_iff]
  intro h
  unfold lowS at h
  have := List.all_eq_true.1 h _ (List.getElem_mem hi)
  simp at this
  exact hb this
theorem idxS {s : List Nat} {k : IntKind} {i : Nat} {K : AV → Bool} (hi : i < s.length) (hK : K (.int .u8 (s[i] : Int)) = true) : indexK Tryz.prog 9 (.str (ints s)) (.int k (i : Int)) K = true := by
  unfold indexK
  rw [Tryz.underlying9]
  refine bif_pos ?_ ?_
  · simp [ints, hi]
  · have : (ints s).getD (i : Int).toNat 0 = (s[i] : Int) := by simp [ints, hi]
    rw [this]
    exact hK
theorem small_spec {n : Nat} {s : List Nat} (hn : s.length + 2 ≤ n) (hl : s.length ≤ 9223372036854775807) {K : AV → H → Bool} (hK : K (.bool (!s.isEmpty && decide (s.length ≤ 20) && lowS s)) σ = true) : acall Tryz.prog tab D n 56 [.str (ints s)] σ K = true := by
  obtain ⟨n, rfl, hn⟩ := up hn
  have el : (ints s).length = s.length := by simp [ints]
  conv => lhs; whnf
  refine loop_rule (m := 9) (fun q fr τ => ∃ (z : Int) (i : Nat), z = (i : Int) ∧ i + q = s.length ∧ lowS (s.take i) = true ∧ τ = σ ∧ fr = [.str (ints s), .bad, .bad, .int .i64 z, .bad, .bad, .bad, .bad, .bad, .bad, .bad, .bad, .bad, .bad, .bad, .bad, .bad, .bad, .bad, .bad, .bad, .bad, .bad, .bad, .bad, .bad, .bad, .bad]) ?_ _ s.length _ _ (by omega) ⟨_, 0, rfl, by omega, rfl, rfl, rfl⟩
  rintro q fr τ C ⟨z, i, rfl, hq, hlo, rfl, rfl⟩ next fin
  conv => lhs; whnf
  by_cases hi : i < s.length
  · rw [show decide ((i : Int) < ((ints s).length : Int)) = true from decide_eq_true (by rw [el]; omega)]
    conv => lhs; whnf
    refine idxS hi ?_
    conv => lhs; whnf
    by_cases b1 : s[i] < 97
    · rw [show decide ((s[i] : Int) < 97) = true from decide_eq_true (by omega)]
      rw [lowS_no hi (by omega), Bool.and_false] at hK
      conv => lhs; whnf
      refine fin _ _ _ nofun ?_
      exact hK
    rw [show decide ((s[i] : Int) < 97) = false from decide_eq_false (by omega)]
    conv => lhs; whnf
    refine idxS hi ?_
    conv => lhs; whnf
    by_cases b2 : s[i] > 122
    · rw [show decide ((s[i] : Int) > 122) = true from decide_eq_true (by omega)]
      rw [lowS_no hi (by omega), Bool.and_false] at hK
      conv => lhs; whnf
      refine fin _ _ _ nofun ?_
      exact hK
    rw [show decide ((s[i] : Int) > 122) = false from decide_eq_false (by omega)]
    conv => lhs; whnf
    refine next (q - 1) _ _ (by omega) ⟨_, i + 1, inc_i64 (by omega), by omega, lowS_take hi hlo (by omega), rfl, rfl⟩
  rw [show decide ((i : Int) < ((ints s).length : Int)) = false from decide_eq_false (by rw [el]; omega)]
  rw [List.take_of_length_le (by omega)] at hlo
  rw [hlo, Bool.and_true] at hK
  conv => lhs; whnf
  refine fin _ _ _ nofun ?_
  conv => lhs; whnf
  by_cases h1 : s = []
  · subst h1
    conv => lhs; whnf
    exact hK
  have hp : 0 < s.length := List.length_pos_iff.2 h1
  rw [show s.isEmpty = false by cases s <;> first | rfl | exact absurd rfl h1] at hK
  rw [show decide (((ints s).length : Int) ≥ 1) = true from decide_eq_true (by rw [el]; omega)]
  conv => lhs; whnf
  by_cases h2 : s.length ≤ 20
  · rw [show decide (((ints s).length : Int) ≤ 20) = true from decide_eq_true (by rw [el]; omega)]
    rw [show decide (s.length ≤ 20) = true from decide_eq_true h2] at hK
    conv => lhs; whnf
    exact hK
  rw [show decide (((ints s).length : Int) ≤ 20) = false from decide_eq_false (by rw [el]; omega)]
  rw [show decide (s.length ≤ 20) = false from decide_eq_false h2] at hK
  conv => lhs; whnf
  exact hK
theorem set_past {τ σ : H} (p : σ <+: τ) (o : AO) : σ <+: τ.set σ.length o := by
  obtain ⟨ρ, rfl⟩ := p
  rw [List.set_append_right _ _ (Nat.le_refl _)]
  exact List.prefix_append _ _
theorem ix_spec {n : Nat} {s : List Nat} (hn : s.length + 2 ≤ n) (hs : ∀ b ∈ s, b < 256) {K : AV → H → Bool} (h0 : lowS s = true → ∀ σ', σ <+: σ' → K (.int .i64 (-1)) σ' = true)
    (h1 : lowS s = false → ∀ (i : Nat) σ', σ <+: σ' → K (.int .i64 (i : Int)) σ' = true) : acall Tryz.prog tab D n 93 [.str (ints s), .fn 53 [], .bool true] σ K = true := by
  obtain ⟨n, rfl, hn⟩ := up hn
  conv => lhs; whnf
  refine rangeS ?_
  conv => lhs; whnf
  refine loop_rule (m := 1030) (fun q fr τ => ∃ (i : Nat), i + q = s.length ∧ lowS (s.take i) = true ∧ σ <+: τ ∧ τ[σ.length]? = some (.siter (ints s) i) ∧ fr = [.bad, .fn 53 [], .bool true, .bad, .bad, .bad, .bad, .bad, .bad, .bad, .it σ.length, .bad, .bad, .bad, .bad, .bad, .bad, .bad, .bad, .bad, .bad]) ?_ _ s.length _ _ (by omega) ⟨0, by omega, rfl, List.prefix_append _ _, get_new _ _, rfl⟩
  rintro q fr τ C ⟨i, hq, hlo, p, hr, rfl⟩ next fin
  conv => lhs; whnf
  refine nextS hr hs (fun e => ?_) (fun hi hb => ?_) (fun hi hb x w' x1 x2 => ?_) (by omega)
  · rw [List.take_of_length_le (by omega)] at hlo
    have := h0 hlo _ p
    conv => lhs; whnf
    refine fin _ _ _ nofun ?_
    conv => lhs; whnf
    exact this
  · conv => lhs; whnf
    refine low_spec (by omega) ?_
    by_cases hb2 : 97 ≤ s[i] ∧ s[i] ≤ 122
    · rw [show decide ((s[i] : Int) < 97) = false from decide_eq_false (by omega), show decide ((s[i] : Int) > 122) = false from decide_eq_false (by omega)]
      conv => lhs; whnf
      refine next (q - 1) _ _ (by omega) ⟨i + 1, by omega, lowS_take hi hlo hb2, set_past p _, get_set hr _, rfl⟩
    · rw [show (decide ((s[i] : Int) < 97) || decide ((s[i] : Int) > 122)) = true by
        rw [Bool.or_eq_true, decide_eq_true_eq, decide_eq_true_eq]; omega]
      have := h1 (lowS_no hi hb2) i _ (set_past p (.siter (ints s) (i + 1)))
      conv => lhs; whnf
      refine fin _ _ _ nofun ?_
      conv => lhs; whnf
      exact this
  · conv => lhs; whnf
    refine low_spec (by omega) ?_
    rw [show (decide ((x : Int) < 97) || decide ((x : Int) > 122)) = true by
        rw [Bool.or_eq_true, decide_eq_true_eq, decide_eq_true_eq]; omega]
    have := h1 (lowS_no hi (by omega)) i _ (set_past p (.siter (ints s) (i + w')))
    conv => lhs; whnf
    refine fin _ _ _ nofun ?_
    conv => lhs; whnf
    exact this
theorem has_spec {n : Nat} {s : List Nat} (hn : s.length + 5 ≤ n) (hs : ∀ b ∈ s, b < 256) {K : AV → H → Bool} (hK : ∀ σ', σ <+: σ' → K (.bool (!lowS s)) σ' = true) : acall Tryz.prog tab D n 54 [.str (ints s), .fn 53 []] σ K = true := by
  obtain ⟨n, rfl, hn⟩ := up (n := n) (k := s.length + 4) (by omega)
  conv => lhs; whnf
  obtain ⟨n, rfl, hn'⟩ := up (n := n) (k := s.length + 3) (by omega)
  conv => lhs; whnf
  refine ix_spec (by omega) hs (fun h σ' p => ?_) fun h i σ' p => ?_
  · have := hK σ' p
    rw [h] at this
    conv => lhs; whnf
    exact this
  · have := hK σ' p
    rw [h] at this
    conv => lhs; whnf
    exact this
theorem ints_len (s : List Nat) : (ints s).length = s.length := by simp [ints]
theorem strNil {s : List Nat} : (ints s == bytesL ⟨#[]⟩) = decide (s = []) := by
  cases s <;> rfl
theorem makes_spec {n : Nat} {o : OpV} (hn : 1 ≤ n) {K : AV → H → Bool} (hK : ∀ σ', σ <+: σ' → K (.bool (makesV o)) σ' = true) : acall Tryz.prog tab D n 55 [.agg (opv o)] σ K = true := by
  obtain ⟨n, rfl, hn⟩ := up hn
  have T := get_new σ (AO.cells (opv o) 5 .own)
  have P := List.prefix_append σ [AO.cells (opv o) 5 .own]
  replace hK := hK _ P
  unfold makesV at hK
  conv => lhs; whnf
  refine ldF Tryz.underlying2 rfl rfl T rfl ?_
  conv => lhs; whnf
  by_cases h : o.n < 1
  · rw [if_pos h] at hK
    rw [show decide (o.n < 1) = true from decide_eq_true (by omega)]
    conv => lhs; whnf
    exact hK
  rw [if_neg h] at hK
  rw [show decide (o.n < 1) = false from decide_eq_false (by omega)]
  clear h
  conv => lhs; whnf
  refine ldF Tryz.underlying2 rfl rfl T rfl ?_
  conv => lhs; whnf
  by_cases h : o.n > 3
  · rw [if_pos h] at hK
    rw [show decide (o.n > 3) = true from decide_eq_true (by omega)]
    conv => lhs; whnf
    exact hK
  rw [if_neg h] at hK
  rw [show decide (o.n > 3) = false from decide_eq_false (by omega)]
  clear h
  conv => lhs; whnf
  refine ldF Tryz.underlying9 rfl rfl T rfl ?_
  conv => lhs; whnf
  by_cases h1 : o.k.length = 1
  · rw [if_pos h1] at hK
    rw [show (((ints o.k).length : Int) == 1) = true by rw [ints_len, h1]; rfl]
    have hz : o.k.getD 0 0 = o.k[0] := by simp [List.getD_eq_getElem?_getD, h1]
    rw [hz] at hK
    conv => lhs; whnf
    refine ldF Tryz.underlying9 rfl rfl T rfl ?_
    conv => lhs; whnf
    refine idxS (i := 0) (by omega) ?_
    conv => lhs; whnf
    by_cases h2 : o.k[0] ≥ 49
    · rw [if_pos h2] at hK
      rw [show decide ((o.k[0] : Int) ≥ 49) = true from decide_eq_true (by omega)]
      conv => lhs; whnf
      refine ldF Tryz.underlying9 rfl rfl T rfl ?_
      conv => lhs; whnf
      refine idxS (i := 0) (by omega) ?_
      conv => lhs; whnf
      by_cases h3 : o.k[0] ≤ 57
      · rw [if_pos h3] at hK
        rw [show decide ((o.k[0] : Int) ≤ 57) = true from decide_eq_true (by omega)]
        conv => lhs; whnf
        exact hK
      rw [if_neg h3] at hK
      rw [show decide ((o.k[0] : Int) ≤ 57) = false from decide_eq_false (by omega)]
      conv => lhs; whnf
      refine ldF Tryz.underlying9 rfl rfl T rfl ?_
      conv => lhs; whnf
      rw [strNil, show decide (o.k = []) = false from decide_eq_false fun e => by rw [e] at h1; cases h1]
      conv => lhs; whnf
      exact hK
    rw [if_neg h2] at hK
    rw [show decide ((o.k[0] : Int) ≥ 49) = false from decide_eq_false (by omega)]
    conv => lhs; whnf
    refine ldF Tryz.underlying9 rfl rfl T rfl ?_
    conv => lhs; whnf
    rw [strNil, show decide (o.k = []) = false from decide_eq_false fun e => by rw [e] at h1; cases h1]
    conv => lhs; whnf
    exact hK
  rw [if_neg h1] at hK
  rw [show (((ints o.k).length : Int) == 1) = false by rw [ints_len, beq_eq_false_iff_ne]; omega]
  conv => lhs; whnf
  refine ldF Tryz.underlying9 rfl rfl T rfl ?_
  conv => lhs; whnf
  rw [strNil]
  by_cases h2 : o.k = []
  · rw [if_pos h2] at hK
    rw [show decide (o.k = []) = true from decide_eq_true h2]
    conv => lhs; whnf
    refine ldF Tryz.underlying2 rfl rfl T rfl ?_
    conv => lhs; whnf
    generalize (!(o.n == 2)) = b at hK ⊢
    cases b with
    | true =>
      conv => lhs; whnf
      exact hK
    | false =>
      conv => lhs; whnf
      exact hK
  rw [if_neg h2] at hK
  rw [show decide (o.k = []) = false from decide_eq_false h2]
  conv => lhs; whnf
  exact hK
theorem ldV {σ : H} {id : Nat} {md : Md} {o : OpV} {K : AV → Bool} (hr : σ[id]? = some (AO.cells (opv o) 5 md)) (hK : K (.agg (opv o)) = true) : ldK Tryz.prog 23 σ ⟨id, 0, 0, 5⟩ K = true := by
  refine ldK_struct Tryz.underlying23 rfl rfl (es := opv o) ⟨rfl, rfl, opv o, md, hr, by show 0 + 5 ≤ 5; decide, rfl⟩ ?_
  conv => lhs; whnf
  exact hK
set_option maxHeartbeats 4000000 in
theorem may_spec {n : Nat} {o : OpV} (hn : 30 ≤ n) (ho : OkV o) {K : AV → H → Bool} (hK : ∀ σ', σ <+: σ' → K (.bool (mayV o)) σ' = true) : acall Tryz.prog tab D n 16 [.agg (opv o)] σ K = true := by
  obtain ⟨n, rfl, hn⟩ := up hn
  have T := get_new σ (AO.cells (opv o) 5 .own)
  have P := List.prefix_append σ [AO.cells (opv o) 5 .own]
  unfold mayV fitsV at hK
  conv => lhs; whnf
  refine ldF Tryz.underlying3 rfl rfl T rfl ?_
  conv => lhs; whnf
  refine names_spec (by omega) ?_
  generalize nKey o.kind = bk at hK ⊢
  generalize nText o.kind = bt at hK ⊢
  generalize nNum o.kind = bn at hK ⊢
  conv => lhs; whnf
  cases bk with
  | true =>
    conv => lhs; whnf
    cases bt with
    | true =>
      conv => lhs; whnf
      cases bn with
      | true =>
        conv => lhs; whnf
        refine ldF Tryz.underlying3 rfl rfl T rfl ?_
        conv => lhs; whnf
        by_cases h : o.kind < 1
        · rw [if_pos h] at hK
          rw [show decide (o.kind < 1) = true from decide_eq_true (by omega)]
          conv => lhs; whnf
          exact hK _ P
        rw [if_neg h] at hK
        rw [show decide (o.kind < 1) = false from decide_eq_false (by omega)]
        conv => lhs; whnf
        refine ldF Tryz.underlying3 rfl rfl T rfl ?_
        conv => lhs; whnf
        by_cases h : o.kind > 12
        · rw [if_pos h] at hK
          rw [show decide (o.kind > 12) = true from decide_eq_true (by omega)]
          conv => lhs; whnf
          exact hK _ P
        rw [if_neg h] at hK
        rw [show decide (o.kind > 12) = false from decide_eq_false (by omega)]
        conv => lhs; whnf
        refine ldF Tryz.underlying9 rfl rfl T rfl ?_
        conv => lhs; whnf
        rw [strNil]
        by_cases h : o.s = []
        · rw [if_pos h] at hK
          rw [show decide (o.s = []) = true from decide_eq_true h]
          conv => lhs; whnf
          exact hK _ P
        rw [if_neg h] at hK
        rw [show decide (o.s = []) = false from decide_eq_false h]
        conv => lhs; whnf
        refine ldF Tryz.underlying9 rfl rfl T rfl ?_
        conv => lhs; whnf
        by_cases h : o.s.length > 20
        · rw [if_pos h] at hK
          rw [show decide (((ints o.s).length : Int) > 20) = true from decide_eq_true (by rw [ints_len]; omega)]
          conv => lhs; whnf
          exact hK _ P
        rw [if_neg h] at hK
        rw [show decide (((ints o.s).length : Int) > 20) = false from decide_eq_false (by rw [ints_len]; omega)]
        conv => lhs; whnf
        refine ldF Tryz.underlying9 rfl rfl T rfl ?_
        conv => lhs; whnf
        refine has_spec (by omega) ho.s fun σ1 p1 => ?_
        have T1 := prefix_get p1 T
        have P1 := P.trans p1
        by_cases h : lowS o.s = false
        · rw [if_pos h] at hK
          rw [h]
          conv => lhs; whnf
          exact hK _ P1
        rw [if_neg h] at hK
        rw [Bool.not_eq_false] at h
        rw [h]
        clear h
        conv => lhs; whnf
        refine ldF Tryz.underlying9 rfl rfl T1 rfl ?_
        conv => lhs; whnf
        by_cases h : o.k.length > 20
        · rw [if_pos h, if_pos rfl] at hK
          rw [show decide (((ints o.k).length : Int) > 20) = true from decide_eq_true (by rw [ints_len]; omega)]
          conv => lhs; whnf
          exact hK _ P1
        rw [if_neg h] at hK
        rw [show decide (((ints o.k).length : Int) > 20) = false from decide_eq_false (by rw [ints_len]; omega)]
        clear h
        conv => lhs; whnf
        refine ldF Tryz.underlying9 rfl rfl T1 rfl ?_
        conv => lhs; whnf
        by_cases h : o.t.length > 100
        · rw [if_pos h, if_pos rfl] at hK
          rw [show decide (((ints o.t).length : Int) > 100) = true from decide_eq_true (by rw [ints_len]; omega)]
          conv => lhs; whnf
          exact hK _ P1
        rw [if_neg h] at hK
        rw [show decide (((ints o.t).length : Int) > 100) = false from decide_eq_false (by rw [ints_len]; omega)]
        clear h
        conv => lhs; whnf
        refine ldF Tryz.underlying2 rfl rfl T1 rfl ?_
        conv => lhs; whnf
        by_cases h : o.n < 0
        · rw [if_pos h, if_pos rfl] at hK
          rw [show decide (o.n < 0) = true from decide_eq_true (by omega)]
          conv => lhs; whnf
          exact hK _ P1
        rw [if_neg h] at hK
        rw [show decide (o.n < 0) = false from decide_eq_false (by omega)]
        conv => lhs; whnf
        refine ldF Tryz.underlying2 rfl rfl T1 rfl ?_
        conv => lhs; whnf
        by_cases h : o.n > 1099511627776
        · rw [if_pos h, if_pos rfl] at hK
          rw [show decide (o.n > 1099511627776) = true from decide_eq_true (by omega)]
          conv => lhs; whnf
          exact hK _ P1
        rw [if_neg h] at hK
        rw [show decide (o.n > 1099511627776) = false from decide_eq_false (by omega)]
        conv => lhs; whnf
        rw [if_neg (by decide)] at hK
        rw [if_neg (by simp)] at hK
        rw [if_neg (by simp)] at hK
        rw [if_neg (by simp)] at hK
        refine ldF Tryz.underlying3 rfl rfl T1 rfl ?_
        conv => lhs; whnf
        by_cases h : o.kind = 1
        · rw [if_pos h] at hK
          rw [show (o.kind == 1) = true from beq_iff_eq.2 h]
          conv => lhs; whnf
          refine ldV T1 ?_
          conv => lhs; whnf
          refine makes_spec (by omega) fun σ2 p2 => ?_
          replace hK := hK _ (P1.trans p2)
          generalize makesV o = mv at hK ⊢
          cases mv with
          | true =>
            conv => lhs; whnf
            exact hK
          | false =>
            conv => lhs; whnf
            exact hK
        rw [if_neg h] at hK
        rw [show (o.kind == 1) = false from beq_eq_false_iff_ne.2 h]
        conv => lhs; whnf
        exact hK _ P1
      | false =>
        conv => lhs; whnf
        refine ldF Tryz.underlying3 rfl rfl T rfl ?_
        conv => lhs; whnf
        by_cases h : o.kind < 1
        · rw [if_pos h] at hK
          rw [show decide (o.kind < 1) = true from decide_eq_true (by omega)]
          conv => lhs; whnf
          exact hK _ P
        rw [if_neg h] at hK
        rw [show decide (o.kind < 1) = false from decide_eq_false (by omega)]
        conv => lhs; whnf
        refine ldF Tryz.underlying3 rfl rfl T rfl ?_
        conv => lhs; whnf
        by_cases h : o.kind > 12
        · rw [if_pos h] at hK
          rw [show decide (o.kind > 12) = true from decide_eq_true (by omega)]
          conv => lhs; whnf
          exact hK _ P
        rw [if_neg h] at hK
        rw [show decide (o.kind > 12) = false from decide_eq_false (by omega)]
        conv => lhs; whnf
        refine ldF Tryz.underlying9 rfl rfl T rfl ?_
        conv => lhs; whnf
        rw [strNil]
        by_cases h : o.s = []
        · rw [if_pos h] at hK
          rw [show decide (o.s = []) = true from decide_eq_true h]
          conv => lhs; whnf
          exact hK _ P
        rw [if_neg h] at hK
        rw [show decide (o.s = []) = false from decide_eq_false h]
        conv => lhs; whnf
        refine ldF Tryz.underlying9 rfl rfl T rfl ?_
        conv => lhs; whnf
        by_cases h : o.s.length > 20
        · rw [if_pos h] at hK
          rw [show decide (((ints o.s).length : Int) > 20) = true from decide_eq_true (by rw [ints_len]; omega)]
          conv => lhs; whnf
          exact hK _ P
        rw [if_neg h] at hK
        rw [show decide (((ints o.s).length : Int) > 20) = false from decide_eq_false (by rw [ints_len]; omega)]
        conv => lhs; whnf
        refine ldF Tryz.underlying9 rfl rfl T rfl ?_
        conv => lhs; whnf
        refine has_spec (by omega) ho.s fun σ1 p1 => ?_
        have T1 := prefix_get p1 T
        have P1 := P.trans p1
        by_cases h : lowS o.s = false
        · rw [if_pos h] at hK
          rw [h]
          conv => lhs; whnf
          exact hK _ P1
        rw [if_neg h] at hK
        rw [Bool.not_eq_false] at h
        rw [h]
        clear h
        conv => lhs; whnf
        refine ldF Tryz.underlying9 rfl rfl T1 rfl ?_
        conv => lhs; whnf
        by_cases h : o.k.length > 20
        · rw [if_pos h, if_pos rfl] at hK
          rw [show decide (((ints o.k).length : Int) > 20) = true from decide_eq_true (by rw [ints_len]; omega)]
          conv => lhs; whnf
          exact hK _ P1
        rw [if_neg h] at hK
        rw [show decide (((ints o.k).length : Int) > 20) = false from decide_eq_false (by rw [ints_len]; omega)]
        clear h
        conv => lhs; whnf
        refine ldF Tryz.underlying9 rfl rfl T1 rfl ?_
        conv => lhs; whnf
        by_cases h : o.t.length > 100
        · rw [if_pos h, if_pos rfl] at hK
          rw [show decide (((ints o.t).length : Int) > 100) = true from decide_eq_true (by rw [ints_len]; omega)]
          conv => lhs; whnf
          exact hK _ P1
        rw [if_neg h] at hK
        rw [show decide (((ints o.t).length : Int) > 100) = false from decide_eq_false (by rw [ints_len]; omega)]
        clear h
        conv => lhs; whnf
        refine ldF Tryz.underlying2 rfl rfl T1 rfl ?_
        conv => lhs; whnf
        by_cases h : o.n < 0
        · rw [if_pos h, if_pos rfl] at hK
          rw [show decide (o.n < 0) = true from decide_eq_true (by omega)]
          conv => lhs; whnf
          exact hK _ P1
        rw [if_neg h] at hK
        rw [show decide (o.n < 0) = false from decide_eq_false (by omega)]
        conv => lhs; whnf
        refine ldF Tryz.underlying2 rfl rfl T1 rfl ?_
        conv => lhs; whnf
        by_cases h : o.n > 1099511627776
        · rw [if_pos h, if_pos rfl] at hK
          rw [show decide (o.n > 1099511627776) = true from decide_eq_true (by omega)]
          conv => lhs; whnf
          exact hK _ P1
        rw [if_neg h] at hK
        rw [show decide (o.n > 1099511627776) = false from decide_eq_false (by omega)]
        conv => lhs; whnf
        rw [if_neg (by decide)] at hK
        rw [if_neg (by simp)] at hK
        rw [if_neg (by simp)] at hK
        refine ldF Tryz.underlying2 rfl rfl T1 rfl ?_
        conv => lhs; whnf
        by_cases h : o.n ≠ 0
        · rw [if_pos ⟨rfl, h⟩] at hK
          rw [show (o.n == 0) = false from beq_eq_false_iff_ne.2 h]
          conv => lhs; whnf
          exact hK _ P1
        rw [if_neg fun e => h e.2] at hK
        rw [show (o.n == 0) = true from beq_iff_eq.2 (Decidable.not_not.1 h)]
        clear h
        conv => lhs; whnf
        refine ldF Tryz.underlying3 rfl rfl T1 rfl ?_
        conv => lhs; whnf
        by_cases h : o.kind = 1
        · rw [if_pos h] at hK
          rw [show (o.kind == 1) = true from beq_iff_eq.2 h]
          conv => lhs; whnf
          refine ldV T1 ?_
          conv => lhs; whnf
          refine makes_spec (by omega) fun σ2 p2 => ?_
          replace hK := hK _ (P1.trans p2)
          generalize makesV o = mv at hK ⊢
          cases mv with
          | true =>
            conv => lhs; whnf
            exact hK
          | false =>
            conv => lhs; whnf
            exact hK
        rw [if_neg h] at hK
        rw [show (o.kind == 1) = false from beq_eq_false_iff_ne.2 h]
        conv => lhs; whnf
        exact hK _ P1
    | false =>
      conv => lhs; whnf
      cases bn with
      | true =>
        conv => lhs; whnf
        refine ldF Tryz.underlying3 rfl rfl T rfl ?_
        conv => lhs; whnf
        by_cases h : o.kind < 1
        · rw [if_pos h] at hK
          rw [show decide (o.kind < 1) = true from decide_eq_true (by omega)]
          conv => lhs; whnf
          exact hK _ P
        rw [if_neg h] at hK
        rw [show decide (o.kind < 1) = false from decide_eq_false (by omega)]
        conv => lhs; whnf
        refine ldF Tryz.underlying3 rfl rfl T rfl ?_
        conv => lhs; whnf
        by_cases h : o.kind > 12
        · rw [if_pos h] at hK
          rw [show decide (o.kind > 12) = true from decide_eq_true (by omega)]
          conv => lhs; whnf
          exact hK _ P
        rw [if_neg h] at hK
        rw [show decide (o.kind > 12) = false from decide_eq_false (by omega)]
        conv => lhs; whnf
        refine ldF Tryz.underlying9 rfl rfl T rfl ?_
        conv => lhs; whnf
        rw [strNil]
        by_cases h : o.s = []
        · rw [if_pos h] at hK
          rw [show decide (o.s = []) = true from decide_eq_true h]
          conv => lhs; whnf
          exact hK _ P
        rw [if_neg h] at hK
        rw [show decide (o.s = []) = false from decide_eq_false h]
        conv => lhs; whnf
        refine ldF Tryz.underlying9 rfl rfl T rfl ?_
        conv => lhs; whnf
        by_cases h : o.s.length > 20
        · rw [if_pos h] at hK
          rw [show decide (((ints o.s).length : Int) > 20) = true from decide_eq_true (by rw [ints_len]; omega)]
          conv => lhs; whnf
          exact hK _ P
        rw [if_neg h] at hK
        rw [show decide (((ints o.s).length : Int) > 20) = false from decide_eq_false (by rw [ints_len]; omega)]
        conv => lhs; whnf
        refine ldF Tryz.underlying9 rfl rfl T rfl ?_
        conv => lhs; whnf
        refine has_spec (by omega) ho.s fun σ1 p1 => ?_
        have T1 := prefix_get p1 T
        have P1 := P.trans p1
        by_cases h : lowS o.s = false
        · rw [if_pos h] at hK
          rw [h]
          conv => lhs; whnf
          exact hK _ P1
        rw [if_neg h] at hK
        rw [Bool.not_eq_false] at h
        rw [h]
        clear h
        conv => lhs; whnf
        refine ldF Tryz.underlying9 rfl rfl T1 rfl ?_
        conv => lhs; whnf
        by_cases h : o.k.length > 20
        · rw [if_pos h, if_pos rfl] at hK
          rw [show decide (((ints o.k).length : Int) > 20) = true from decide_eq_true (by rw [ints_len]; omega)]
          conv => lhs; whnf
          exact hK _ P1
        rw [if_neg h] at hK
        rw [show decide (((ints o.k).length : Int) > 20) = false from decide_eq_false (by rw [ints_len]; omega)]
        clear h
        conv => lhs; whnf
        refine ldF Tryz.underlying9 rfl rfl T1 rfl ?_
        conv => lhs; whnf
        by_cases h : o.t.length > 100
        · rw [if_pos h, if_pos rfl] at hK
          rw [show decide (((ints o.t).length : Int) > 100) = true from decide_eq_true (by rw [ints_len]; omega)]
          conv => lhs; whnf
          exact hK _ P1
        rw [if_neg h] at hK
        rw [show decide (((ints o.t).length : Int) > 100) = false from decide_eq_false (by rw [ints_len]; omega)]
        clear h
        conv => lhs; whnf
        refine ldF Tryz.underlying2 rfl rfl T1 rfl ?_
        conv => lhs; whnf
        by_cases h : o.n < 0
        · rw [if_pos h, if_pos rfl] at hK
          rw [show decide (o.n < 0) = true from decide_eq_true (by omega)]
          conv => lhs; whnf
          exact hK _ P1
        rw [if_neg h] at hK
        rw [show decide (o.n < 0) = false from decide_eq_false (by omega)]
        conv => lhs; whnf
        refine ldF Tryz.underlying2 rfl rfl T1 rfl ?_
        conv => lhs; whnf
        by_cases h : o.n > 1099511627776
        · rw [if_pos h, if_pos rfl] at hK
          rw [show decide (o.n > 1099511627776) = true from decide_eq_true (by omega)]
          conv => lhs; whnf
          exact hK _ P1
        rw [if_neg h] at hK
        rw [show decide (o.n > 1099511627776) = false from decide_eq_false (by omega)]
        conv => lhs; whnf
        rw [if_neg (by decide)] at hK
        rw [if_neg (by simp)] at hK
        refine ldF Tryz.underlying9 rfl rfl T1 rfl ?_
        conv => lhs; whnf
        rw [strNil]
        by_cases h : o.t ≠ []
        · rw [if_pos ⟨rfl, h⟩] at hK
          rw [show decide (o.t = []) = false from decide_eq_false h]
          conv => lhs; whnf
          exact hK _ P1
        rw [if_neg fun e => h e.2] at hK
        rw [show decide (o.t = []) = true from decide_eq_true (Decidable.not_not.1 h)]
        clear h
        conv => lhs; whnf
        rw [if_neg (by simp)] at hK
        refine ldF Tryz.underlying3 rfl rfl T1 rfl ?_
        conv => lhs; whnf
        by_cases h : o.kind = 1
        · rw [if_pos h] at hK
          rw [show (o.kind == 1) = true from beq_iff_eq.2 h]
          conv => lhs; whnf
          refine ldV T1 ?_
          conv => lhs; whnf
          refine makes_spec (by omega) fun σ2 p2 => ?_
          replace hK := hK _ (P1.trans p2)
          generalize makesV o = mv at hK ⊢
          cases mv with
          | true =>
            conv => lhs; whnf
            exact hK
          | false =>
            conv => lhs; whnf
            exact hK
        rw [if_neg h] at hK
        rw [show (o.kind == 1) = false from beq_eq_false_iff_ne.2 h]
        conv => lhs; whnf
        exact hK _ P1
      | false =>
        conv => lhs; whnf
        refine ldF Tryz.underlying3 rfl rfl T rfl ?_
        conv => lhs; whnf
        by_cases h : o.kind < 1
        · rw [if_pos h] at hK
          rw [show decide (o.kind < 1) = true from decide_eq_true (by omega)]
          conv => lhs; whnf
          exact hK _ P
        rw [if_neg h] at hK
        rw [show decide (o.kind < 1) = false from decide_eq_false (by omega)]
        conv => lhs; whnf
        refine ldF Tryz.underlying3 rfl rfl T rfl ?_
        conv => lhs; whnf
        by_cases h : o.kind > 12
        · rw [if_pos h] at hK
          rw [show decide (o.kind > 12) = true from decide_eq_true (by omega)]
          conv => lhs; whnf
          exact hK _ P
        rw [if_neg h] at hK
        rw [show decide (o.kind > 12) = false from decide_eq_false (by omega)]
        conv => lhs; whnf
        refine ldF Tryz.underlying9 rfl rfl T rfl ?_
        conv => lhs; whnf
        rw [strNil]
        by_cases h : o.s = []
        · rw [if_pos h] at hK
          rw [show decide (o.s = []) = true from decide_eq_true h]
          conv => lhs; whnf
          exact hK _ P
        rw [if_neg h] at hK
        rw [show decide (o.s = []) = false from decide_eq_false h]
        conv => lhs; whnf
        refine ldF Tryz.underlying9 rfl rfl T rfl ?_
        conv => lhs; whnf
        by_cases h : o.s.length > 20
        · rw [if_pos h] at hK
          rw [show decide (((ints o.s).length : Int) > 20) = true from decide_eq_true (by rw [ints_len]; omega)]
          conv => lhs; whnf
          exact hK _ P
        rw [if_neg h] at hK
        rw [show decide (((ints o.s).length : Int) > 20) = false from decide_eq_false (by rw [ints_len]; omega)]
        conv => lhs; whnf
        refine ldF Tryz.underlying9 rfl rfl T rfl ?_
        conv => lhs; whnf
        refine has_spec (by omega) ho.s fun σ1 p1 => ?_
        have T1 := prefix_get p1 T
        have P1 := P.trans p1
        by_cases h : lowS o.s = false
        · rw [if_pos h] at hK
          rw [h]
          conv => lhs; whnf
          exact hK _ P1
        rw [if_neg h] at hK
        rw [Bool.not_eq_false] at h
        rw [h]
        clear h
        conv => lhs; whnf
        refine ldF Tryz.underlying9 rfl rfl T1 rfl ?_
        conv => lhs; whnf
        by_cases h : o.k.length > 20
        · rw [if_pos h, if_pos rfl] at hK
          rw [show decide (((ints o.k).length : Int) > 20) = true from decide_eq_true (by rw [ints_len]; omega)]
          conv => lhs; whnf
          exact hK _ P1
        rw [if_neg h] at hK
        rw [show decide (((ints o.k).length : Int) > 20) = false from decide_eq_false (by rw [ints_len]; omega)]
        clear h
        conv => lhs; whnf
        refine ldF Tryz.underlying9 rfl rfl T1 rfl ?_
        conv => lhs; whnf
        by_cases h : o.t.length > 100
        · rw [if_pos h, if_pos rfl] at hK
          rw [show decide (((ints o.t).length : Int) > 100) = true from decide_eq_true (by rw [ints_len]; omega)]
          conv => lhs; whnf
          exact hK _ P1
        rw [if_neg h] at hK
        rw [show decide (((ints o.t).length : Int) > 100) = false from decide_eq_false (by rw [ints_len]; omega)]
        clear h
        conv => lhs; whnf
        refine ldF Tryz.underlying2 rfl rfl T1 rfl ?_
        conv => lhs; whnf
        by_cases h : o.n < 0
        · rw [if_pos h, if_pos rfl] at hK
          rw [show decide (o.n < 0) = true from decide_eq_true (by omega)]
          conv => lhs; whnf
          exact hK _ P1
        rw [if_neg h] at hK
        rw [show decide (o.n < 0) = false from decide_eq_false (by omega)]
        conv => lhs; whnf
        refine ldF Tryz.underlying2 rfl rfl T1 rfl ?_
        conv => lhs; whnf
        by_cases h : o.n > 1099511627776
        · rw [if_pos h, if_pos rfl] at hK
          rw [show decide (o.n > 1099511627776) = true from decide_eq_true (by omega)]
          conv => lhs; whnf
          exact hK _ P1
        rw [if_neg h] at hK
        rw [show decide (o.n > 1099511627776) = false from decide_eq_false (by omega)]
        conv => lhs; whnf
        rw [if_neg (by decide)] at hK
        rw [if_neg (by simp)] at hK
        refine ldF Tryz.underlying9 rfl rfl T1 rfl ?_
        conv => lhs; whnf
        rw [strNil]
        by_cases h : o.t ≠ []
        · rw [if_pos ⟨rfl, h⟩] at hK
          rw [show decide (o.t = []) = false from decide_eq_false h]
          conv => lhs; whnf
          exact hK _ P1
        rw [if_neg fun e => h e.2] at hK
        rw [show decide (o.t = []) = true from decide_eq_true (Decidable.not_not.1 h)]
        clear h
        conv => lhs; whnf
        refine ldF Tryz.underlying2 rfl rfl T1 rfl ?_
        conv => lhs; whnf
        by_cases h : o.n ≠ 0
        · rw [if_pos ⟨rfl, h⟩] at hK
          rw [show (o.n == 0) = false from beq_eq_false_iff_ne.2 h]
          conv => lhs; whnf
          exact hK _ P1
        rw [if_neg fun e => h e.2] at hK
        rw [show (o.n == 0) = true from beq_iff_eq.2 (Decidable.not_not.1 h)]
        clear h
        conv => lhs; whnf
        refine ldF Tryz.underlying3 rfl rfl T1 rfl ?_
        conv => lhs; whnf
        by_cases h : o.kind = 1
        · rw [if_pos h] at hK
          rw [show (o.kind == 1) = true from beq_iff_eq.2 h]
          conv => lhs; whnf
          refine ldV T1 ?_
          conv => lhs; whnf
          refine makes_spec (by omega) fun σ2 p2 => ?_
          replace hK := hK _ (P1.trans p2)
          generalize makesV o = mv at hK ⊢
          cases mv with
          | true =>
            conv => lhs; whnf
            exact hK
          | false =>
            conv => lhs; whnf
            exact hK
        rw [if_neg h] at hK
        rw [show (o.kind == 1) = false from beq_eq_false_iff_ne.2 h]
        conv => lhs; whnf
        exact hK _ P1
  | false =>
    conv => lhs; whnf
    cases bt with
    | true =>
      conv => lhs; whnf
      cases bn with
      | true =>
        conv => lhs; whnf
        refine ldF Tryz.underlying3 rfl rfl T rfl ?_
        conv => lhs; whnf
        by_cases h : o.kind < 1
        · rw [if_pos h] at hK
          rw [show decide (o.kind < 1) = true from decide_eq_true (by omega)]
          conv => lhs; whnf
          exact hK _ P
        rw [if_neg h] at hK
        rw [show decide (o.kind < 1) = false from decide_eq_false (by omega)]
        conv => lhs; whnf
        refine ldF Tryz.underlying3 rfl rfl T rfl ?_
        conv => lhs; whnf
        by_cases h : o.kind > 12
        · rw [if_pos h] at hK
          rw [show decide (o.kind > 12) = true from decide_eq_true (by omega)]
          conv => lhs; whnf
          exact hK _ P
        rw [if_neg h] at hK
        rw [show decide (o.kind > 12) = false from decide_eq_false (by omega)]
        conv => lhs; whnf
        refine ldF Tryz.underlying9 rfl rfl T rfl ?_
        conv => lhs; whnf
        rw [strNil]
        by_cases h : o.s = []
        · rw [if_pos h] at hK
          rw [show decide (o.s = []) = true from decide_eq_true h]
          conv => lhs; whnf
          exact hK _ P
        rw [if_neg h] at hK
        rw [show decide (o.s = []) = false from decide_eq_false h]
        conv => lhs; whnf
        refine ldF Tryz.underlying9 rfl rfl T rfl ?_
        conv => lhs; whnf
        by_cases h : o.s.length > 20
        · rw [if_pos h] at hK
          rw [show decide (((ints o.s).length : Int) > 20) = true from decide_eq_true (by rw [ints_len]; omega)]
          conv => lhs; whnf
          exact hK _ P
        rw [if_neg h] at hK
        rw [show decide (((ints o.s).length : Int) > 20) = false from decide_eq_false (by rw [ints_len]; omega)]
        conv => lhs; whnf
        refine ldF Tryz.underlying9 rfl rfl T rfl ?_
        conv => lhs; whnf
        refine has_spec (by omega) ho.s fun σ1 p1 => ?_
        have T1 := prefix_get p1 T
        have P1 := P.trans p1
        by_cases h : lowS o.s = false
        · rw [if_pos h] at hK
          rw [h]
          conv => lhs; whnf
          exact hK _ P1
        rw [if_neg h] at hK
        rw [Bool.not_eq_false] at h
        rw [h]
        clear h
        conv => lhs; whnf
        refine ldF Tryz.underlying9 rfl rfl T1 rfl ?_
        conv => lhs; whnf
        by_cases h : o.k.length > 20
        · rw [if_pos h, if_pos rfl] at hK
          rw [show decide (((ints o.k).length : Int) > 20) = true from decide_eq_true (by rw [ints_len]; omega)]
          conv => lhs; whnf
          exact hK _ P1
        rw [if_neg h] at hK
        rw [show decide (((ints o.k).length : Int) > 20) = false from decide_eq_false (by rw [ints_len]; omega)]
        clear h
        conv => lhs; whnf
        refine ldF Tryz.underlying9 rfl rfl T1 rfl ?_
        conv => lhs; whnf
        by_cases h : o.t.length > 100
        · rw [if_pos h, if_pos rfl] at hK
          rw [show decide (((ints o.t).length : Int) > 100) = true from decide_eq_true (by rw [ints_len]; omega)]
          conv => lhs; whnf
          exact hK _ P1
        rw [if_neg h] at hK
        rw [show decide (((ints o.t).length : Int) > 100) = false from decide_eq_false (by rw [ints_len]; omega)]
        clear h
        conv => lhs; whnf
        refine ldF Tryz.underlying2 rfl rfl T1 rfl ?_
        conv => lhs; whnf
        by_cases h : o.n < 0
        · rw [if_pos h, if_pos rfl] at hK
          rw [show decide (o.n < 0) = true from decide_eq_true (by omega)]
          conv => lhs; whnf
          exact hK _ P1
        rw [if_neg h] at hK
        rw [show decide (o.n < 0) = false from decide_eq_false (by omega)]
        conv => lhs; whnf
        refine ldF Tryz.underlying2 rfl rfl T1 rfl ?_
        conv => lhs; whnf
        by_cases h : o.n > 1099511627776
        · rw [if_pos h, if_pos rfl] at hK
          rw [show decide (o.n > 1099511627776) = true from decide_eq_true (by omega)]
          conv => lhs; whnf
          exact hK _ P1
        rw [if_neg h] at hK
        rw [show decide (o.n > 1099511627776) = false from decide_eq_false (by omega)]
        conv => lhs; whnf
        rw [if_neg (by decide)] at hK
        refine ldF Tryz.underlying9 rfl rfl T1 rfl ?_
        conv => lhs; whnf
        rw [strNil]
        by_cases h : o.k ≠ []
        · rw [if_pos ⟨rfl, h⟩] at hK
          rw [show decide (o.k = []) = false from decide_eq_false h]
          conv => lhs; whnf
          exact hK _ P1
        rw [if_neg fun e => h e.2] at hK
        rw [show decide (o.k = []) = true from decide_eq_true (Decidable.not_not.1 h)]
        clear h
        conv => lhs; whnf
        rw [if_neg (by simp)] at hK
        rw [if_neg (by simp)] at hK
        refine ldF Tryz.underlying3 rfl rfl T1 rfl ?_
        conv => lhs; whnf
        by_cases h : o.kind = 1
        · rw [if_pos h] at hK
          rw [show (o.kind == 1) = true from beq_iff_eq.2 h]
          conv => lhs; whnf
          refine ldV T1 ?_
          conv => lhs; whnf
          refine makes_spec (by omega) fun σ2 p2 => ?_
          replace hK := hK _ (P1.trans p2)
          generalize makesV o = mv at hK ⊢
          cases mv with
          | true =>
            conv => lhs; whnf
            exact hK
          | false =>
            conv => lhs; whnf
            exact hK
        rw [if_neg h] at hK
        rw [show (o.kind == 1) = false from beq_eq_false_iff_ne.2 h]
        conv => lhs; whnf
        exact hK _ P1
      | false =>
        conv => lhs; whnf
        refine ldF Tryz.underlying3 rfl rfl T rfl ?_
        conv => lhs; whnf
        by_cases h : o.kind < 1
        · rw [if_pos h] at hK
          rw [show decide (o.kind < 1) = true from decide_eq_true (by omega)]
          conv => lhs; whnf
          exact hK _ P
        rw [if_neg h] at hK
        rw [show decide (o.kind < 1) = false from decide_eq_false (by omega)]
        conv => lhs; whnf
        refine ldF Tryz.underlying3 rfl rfl T rfl ?_
        conv => lhs; whnf
        by_cases h : o.kind > 12
        · rw [if_pos h] at hK
          rw [show decide (o.kind > 12) = true from decide_eq_true (by omega)]
          conv => lhs; whnf
          exact hK _ P
        rw [if_neg h] at hK
        rw [show decide (o.kind > 12) = false from decide_eq_false (by omega)]
        conv => lhs; whnf
        refine ldF Tryz.underlying9 rfl rfl T rfl ?_
        conv => lhs; whnf
        rw [strNil]
        by_cases h : o.s = []
        · rw [if_pos h] at hK
          rw [show decide (o.s = []) = true from decide_eq_true h]
          conv => lhs; whnf
          exact hK _ P
        rw [if_neg h] at hK
        rw [show decide (o.s = []) = false from decide_eq_false h]
        conv => lhs; whnf
        refine ldF Tryz.underlying9 rfl rfl T rfl ?_
        conv => lhs; whnf
        by_cases h : o.s.length > 20
        · rw [if_pos h] at hK
          rw [show decide (((ints o.s).length : Int) > 20) = true from decide_eq_true (by rw [ints_len]; omega)]
          conv => lhs; whnf
          exact hK _ P
        rw [if_neg h] at hK
        rw [show decide (((ints o.s).length : Int) > 20) = false from decide_eq_false (by rw [ints_len]; omega)]
        conv => lhs; whnf
        refine ldF Tryz.underlying9 rfl rfl T rfl ?_
        conv => lhs; whnf
        refine has_spec (by omega) ho.s fun σ1 p1 => ?_
        have T1 := prefix_get p1 T
        have P1 := P.trans p1
        by_cases h : lowS o.s = false
        · rw [if_pos h] at hK
          rw [h]
          conv => lhs; whnf
          exact hK _ P1
        rw [if_neg h] at hK
        rw [Bool.not_eq_false] at h
        rw [h]
        clear h
        conv => lhs; whnf
        refine ldF Tryz.underlying9 rfl rfl T1 rfl ?_
        conv => lhs; whnf
        by_cases h : o.k.length > 20
        · rw [if_pos h, if_pos rfl] at hK
          rw [show decide (((ints o.k).length : Int) > 20) = true from decide_eq_true (by rw [ints_len]; omega)]
          conv => lhs; whnf
          exact hK _ P1
        rw [if_neg h] at hK
        rw [show decide (((ints o.k).length : Int) > 20) = false from decide_eq_false (by rw [ints_len]; omega)]
        clear h
        conv => lhs; whnf
        refine ldF Tryz.underlying9 rfl rfl T1 rfl ?_
        conv => lhs; whnf
        by_cases h : o.t.length > 100
        · rw [if_pos h, if_pos rfl] at hK
          rw [show decide (((ints o.t).length : Int) > 100) = true from decide_eq_true (by rw [ints_len]; omega)]
          conv => lhs; whnf
          exact hK _ P1
        rw [if_neg h] at hK
        rw [show decide (((ints o.t).length : Int) > 100) = false from decide_eq_false (by rw [ints_len]; omega)]
        clear h
        conv => lhs; whnf
        refine ldF Tryz.underlying2 rfl rfl T1 rfl ?_
        conv => lhs; whnf
        by_cases h : o.n < 0
        · rw [if_pos h, if_pos rfl] at hK
          rw [show decide (o.n < 0) = true from decide_eq_true (by omega)]
          conv => lhs; whnf
          exact hK _ P1
        rw [if_neg h] at hK
        rw [show decide (o.n < 0) = false from decide_eq_false (by omega)]
        conv => lhs; whnf
        refine ldF Tryz.underlying2 rfl rfl T1 rfl ?_
        conv => lhs; whnf
        by_cases h : o.n > 1099511627776
        · rw [if_pos h, if_pos rfl] at hK
          rw [show decide (o.n > 1099511627776) = true from decide_eq_true (by omega)]
          conv => lhs; whnf
          exact hK _ P1
        rw [if_neg h] at hK
        rw [show decide (o.n > 1099511627776) = false from decide_eq_false (by omega)]
        conv => lhs; whnf
        rw [if_neg (by decide)] at hK
        refine ldF Tryz.underlying9 rfl rfl T1 rfl ?_
        conv => lhs; whnf
        rw [strNil]
        by_cases h : o.k ≠ []
        · rw [if_pos ⟨rfl, h⟩] at hK
          rw [show decide (o.k = []) = false from decide_eq_false h]
          conv => lhs; whnf
          exact hK _ P1
        rw [if_neg fun e => h e.2] at hK
        rw [show decide (o.k = []) = true from decide_eq_true (Decidable.not_not.1 h)]
        clear h
        conv => lhs; whnf
        rw [if_neg (by simp)] at hK
        refine ldF Tryz.underlying2 rfl rfl T1 rfl ?_
        conv => lhs; whnf
        by_cases h : o.n ≠ 0
        · rw [if_pos ⟨rfl, h⟩] at hK
          rw [show (o.n == 0) = false from beq_eq_false_iff_ne.2 h]
          conv => lhs; whnf
          exact hK _ P1
        rw [if_neg fun e => h e.2] at hK
        rw [show (o.n == 0) = true from beq_iff_eq.2 (Decidable.not_not.1 h)]
        clear h
        conv => lhs; whnf
        refine ldF Tryz.underlying3 rfl rfl T1 rfl ?_
        conv => lhs; whnf
        by_cases h : o.kind = 1
        · rw [if_pos h] at hK
          rw [show (o.kind == 1) = true from beq_iff_eq.2 h]
          conv => lhs; whnf
          refine ldV T1 ?_
          conv => lhs; whnf
          refine makes_spec (by omega) fun σ2 p2 => ?_
          replace hK := hK _ (P1.trans p2)
          generalize makesV o = mv at hK ⊢
          cases mv with
          | true =>
            conv => lhs; whnf
            exact hK
          | false =>
            conv => lhs; whnf
            exact hK
        rw [if_neg h] at hK
        rw [show (o.kind == 1) = false from beq_eq_false_iff_ne.2 h]
        conv => lhs; whnf
        exact hK _ P1
    | false =>
      conv => lhs; whnf
      cases bn with
      | true =>
        conv => lhs; whnf
        refine ldF Tryz.underlying3 rfl rfl T rfl ?_
        conv => lhs; whnf
        by_cases h : o.kind < 1
        · rw [if_pos h] at hK
          rw [show decide (o.kind < 1) = true from decide_eq_true (by omega)]
          conv => lhs; whnf
          exact hK _ P
        rw [if_neg h] at hK
        rw [show decide (o.kind < 1) = false from decide_eq_false (by omega)]
        conv => lhs; whnf
        refine ldF Tryz.underlying3 rfl rfl T rfl ?_
        conv => lhs; whnf
        by_cases h : o.kind > 12
        · rw [if_pos h] at hK
          rw [show decide (o.kind > 12) = true from decide_eq_true (by omega)]
          conv => lhs; whnf
          exact hK _ P
        rw [if_neg h] at hK
        rw [show decide (o.kind > 12) = false from decide_eq_false (by omega)]
        conv => lhs; whnf
        refine ldF Tryz.underlying9 rfl rfl T rfl ?_
        conv => lhs; whnf
        rw [strNil]
        by_cases h : o.s = []
        · rw [if_pos h] at hK
          rw [show decide (o.s = []) = true from decide_eq_true h]
          conv => lhs; whnf
          exact hK _ P
        rw [if_neg h] at hK
        rw [show decide (o.s = []) = false from decide_eq_false h]
        conv => lhs; whnf
        refine ldF Tryz.underlying9 rfl rfl T rfl ?_
        conv => lhs; whnf
        by_cases h : o.s.length > 20
        · rw [if_pos h] at hK
          rw [show decide (((ints o.s).length : Int) > 20) = true from decide_eq_true (by rw [ints_len]; omega)]
          conv => lhs; whnf
          exact hK _ P
        rw [if_neg h] at hK
        rw [show decide (((ints o.s).length : Int) > 20) = false from decide_eq_false (by rw [ints_len]; omega)]
        conv => lhs; whnf
        refine ldF Tryz.underlying9 rfl rfl T rfl ?_
        conv => lhs; whnf
        refine has_spec (by omega) ho.s fun σ1 p1 => ?_
        have T1 := prefix_get p1 T
        have P1 := P.trans p1
        by_cases h : lowS o.s = false
        · rw [if_pos h] at hK
          rw [h]
          conv => lhs; whnf
          exact hK _ P1
        rw [if_neg h] at hK
        rw [Bool.not_eq_false] at h
        rw [h]
        clear h
        conv => lhs; whnf
        refine ldF Tryz.underlying9 rfl rfl T1 rfl ?_
        conv => lhs; whnf
        by_cases h : o.k.length > 20
        · rw [if_pos h, if_pos rfl] at hK
          rw [show decide (((ints o.k).length : Int) > 20) = true from decide_eq_true (by rw [ints_len]; omega)]
          conv => lhs; whnf
          exact hK _ P1
        rw [if_neg h] at hK
        rw [show decide (((ints o.k).length : Int) > 20) = false from decide_eq_false (by rw [ints_len]; omega)]
        clear h
        conv => lhs; whnf
        refine ldF Tryz.underlying9 rfl rfl T1 rfl ?_
        conv => lhs; whnf
        by_cases h : o.t.length > 100
        · rw [if_pos h, if_pos rfl] at hK
          rw [show decide (((ints o.t).length : Int) > 100) = true from decide_eq_true (by rw [ints_len]; omega)]
          conv => lhs; whnf
          exact hK _ P1
        rw [if_neg h] at hK
        rw [show decide (((ints o.t).length : Int) > 100) = false from decide_eq_false (by rw [ints_len]; omega)]
        clear h
        conv => lhs; whnf
        refine ldF Tryz.underlying2 rfl rfl T1 rfl ?_
        conv => lhs; whnf
        by_cases h : o.n < 0
        · rw [if_pos h, if_pos rfl] at hK
          rw [show decide (o.n < 0) = true from decide_eq_true (by omega)]
          conv => lhs; whnf
          exact hK _ P1
        rw [if_neg h] at hK
        rw [show decide (o.n < 0) = false from decide_eq_false (by omega)]
        conv => lhs; whnf
        refine ldF Tryz.underlying2 rfl rfl T1 rfl ?_
        conv => lhs; whnf
        by_cases h : o.n > 1099511627776
        · rw [if_pos h, if_pos rfl] at hK
          rw [show decide (o.n > 1099511627776) = true from decide_eq_true (by omega)]
          conv => lhs; whnf
          exact hK _ P1
        rw [if_neg h] at hK
        rw [show decide (o.n > 1099511627776) = false from decide_eq_false (by omega)]
        conv => lhs; whnf
        rw [if_neg (by decide)] at hK
        refine ldF Tryz.underlying9 rfl rfl T1 rfl ?_
        conv => lhs; whnf
        rw [strNil]
        by_cases h : o.k ≠ []
        · rw [if_pos ⟨rfl, h⟩] at hK
          rw [show decide (o.k = []) = false from decide_eq_false h]
          conv => lhs; whnf
          exact hK _ P1
        rw [if_neg fun e => h e.2] at hK
        rw [show decide (o.k = []) = true from decide_eq_true (Decidable.not_not.1 h)]
        clear h
        conv => lhs; whnf
        refine ldF Tryz.underlying9 rfl rfl T1 rfl ?_
        conv => lhs; whnf
        rw [strNil]
        by_cases h : o.t ≠ []
        · rw [if_pos ⟨rfl, h⟩] at hK
          rw [show decide (o.t = []) = false from decide_eq_false h]
          conv => lhs; whnf
          exact hK _ P1
        rw [if_neg fun e => h e.2] at hK
        rw [show decide (o.t = []) = true from decide_eq_true (Decidable.not_not.1 h)]
        clear h
        conv => lhs; whnf
        rw [if_neg (by simp)] at hK
        refine ldF Tryz.underlying3 rfl rfl T1 rfl ?_
        conv => lhs; whnf
        by_cases h : o.kind = 1
        · rw [if_pos h] at hK
          rw [show (o.kind == 1) = true from beq_iff_eq.2 h]
          conv => lhs; whnf
          refine ldV T1 ?_
          conv => lhs; whnf
          refine makes_spec (by omega) fun σ2 p2 => ?_
          replace hK := hK _ (P1.trans p2)
          generalize makesV o = mv at hK ⊢
          cases mv with
          | true =>
            conv => lhs; whnf
            exact hK
          | false =>
            conv => lhs; whnf
            exact hK
        rw [if_neg h] at hK
        rw [show (o.kind == 1) = false from beq_eq_false_iff_ne.2 h]
        conv => lhs; whnf
        exact hK _ P1
      | false =>
        conv => lhs; whnf
        refine ldF Tryz.underlying3 rfl rfl T rfl ?_
        conv => lhs; whnf
        by_cases h : o.kind < 1
        · rw [if_pos h] at hK
          rw [show decide (o.kind < 1) = true from decide_eq_true (by omega)]
          conv => lhs; whnf
          exact hK _ P
        rw [if_neg h] at hK
        rw [show decide (o.kind < 1) = false from decide_eq_false (by omega)]
        conv => lhs; whnf
        refine ldF Tryz.underlying3 rfl rfl T rfl ?_
        conv => lhs; whnf
        by_cases h : o.kind > 12
        · rw [if_pos h] at hK
          rw [show decide (o.kind > 12) = true from decide_eq_true (by omega)]
          conv => lhs; whnf
          exact hK _ P
        rw [if_neg h] at hK
        rw [show decide (o.kind > 12) = false from decide_eq_false (by omega)]
        conv => lhs; whnf
        refine ldF Tryz.underlying9 rfl rfl T rfl ?_
        conv => lhs; whnf
        rw [strNil]
        by_cases h : o.s = []
        · rw [if_pos h] at hK
          rw [show decide (o.s = []) = true from decide_eq_true h]
          conv => lhs; whnf
          exact hK _ P
        rw [if_neg h] at hK
        rw [show decide (o.s = []) = false from decide_eq_false h]
        conv => lhs; whnf
        refine ldF Tryz.underlying9 rfl rfl T rfl ?_
        conv => lhs; whnf
        by_cases h : o.s.length > 20
        · rw [if_pos h] at hK
          rw [show decide (((ints o.s).length : Int) > 20) = true from decide_eq_true (by rw [ints_len]; omega)]
          conv => lhs; whnf
          exact hK _ P
        rw [if_neg h] at hK
        rw [show decide (((ints o.s).length : Int) > 20) = false from decide_eq_false (by rw [ints_len]; omega)]
        conv => lhs; whnf
        refine ldF Tryz.underlying9 rfl rfl T rfl ?_
        conv => lhs; whnf
        refine has_spec (by omega) ho.s fun σ1 p1 => ?_
        have T1 := prefix_get p1 T
        have P1 := P.trans p1
        by_cases h : lowS o.s = false
        · rw [if_pos h] at hK
          rw [h]
          conv => lhs; whnf
          exact hK _ P1
        rw [if_neg h] at hK
        rw [Bool.not_eq_false] at h
        rw [h]
        clear h
        conv => lhs; whnf
        refine ldF Tryz.underlying9 rfl rfl T1 rfl ?_
        conv => lhs; whnf
        by_cases h : o.k.length > 20
        · rw [if_pos h, if_pos rfl] at hK
          rw [show decide (((ints o.k).length : Int) > 20) = true from decide_eq_true (by rw [ints_len]; omega)]
          conv => lhs; whnf
          exact hK _ P1
        rw [if_neg h] at hK
        rw [show decide (((ints o.k).length : Int) > 20) = false from decide_eq_false (by rw [ints_len]; omega)]
        clear h
        conv => lhs; whnf
        refine ldF Tryz.underlying9 rfl rfl T1 rfl ?_
        conv => lhs; whnf
        by_cases h : o.t.length > 100
        · rw [if_pos h, if_pos rfl] at hK
          rw [show decide (((ints o.t).length : Int) > 100) = true from decide_eq_true (by rw [ints_len]; omega)]
          conv => lhs; whnf
          exact hK _ P1
        rw [if_neg h] at hK
        rw [show decide (((ints o.t).length : Int) > 100) = false from decide_eq_false (by rw [ints_len]; omega)]
        clear h
        conv => lhs; whnf
        refine ldF Tryz.underlying2 rfl rfl T1 rfl ?_
        conv => lhs; whnf
        by_cases h : o.n < 0
        · rw [if_pos h, if_pos rfl] at hK
          rw [show decide (o.n < 0) = true from decide_eq_true (by omega)]
          conv => lhs; whnf
          exact hK _ P1
        rw [if_neg h] at hK
        rw [show decide (o.n < 0) = false from decide_eq_false (by omega)]
        conv => lhs; whnf
        refine ldF Tryz.underlying2 rfl rfl T1 rfl ?_
        conv => lhs; whnf
        by_cases h : o.n > 1099511627776
        · rw [if_pos h, if_pos rfl] at hK
          rw [show decide (o.n > 1099511627776) = true from decide_eq_true (by omega)]
          conv => lhs; whnf
          exact hK _ P1
        rw [if_neg h] at hK
        rw [show decide (o.n > 1099511627776) = false from decide_eq_false (by omega)]
        conv => lhs; whnf
        rw [if_neg (by decide)] at hK
        refine ldF Tryz.underlying9 rfl rfl T1 rfl ?_
        conv => lhs; whnf
        rw [strNil]
        by_cases h : o.k ≠ []
        · rw [if_pos ⟨rfl, h⟩] at hK
          rw [show decide (o.k = []) = false from decide_eq_false h]
          conv => lhs; whnf
          exact hK _ P1
        rw [if_neg fun e => h e.2] at hK
        rw [show decide (o.k = []) = true from decide_eq_true (Decidable.not_not.1 h)]
        clear h
        conv => lhs; whnf
        refine ldF Tryz.underlying9 rfl rfl T1 rfl ?_
        conv => lhs; whnf
        rw [strNil]
        by_cases h : o.t ≠ []
        · rw [if_pos ⟨rfl, h⟩] at hK
          rw [show decide (o.t = []) = false from decide_eq_false h]
          conv => lhs; whnf
          exact hK _ P1
        rw [if_neg fun e => h e.2] at hK
        rw [show decide (o.t = []) = true from decide_eq_true (Decidable.not_not.1 h)]
        clear h
        conv => lhs; whnf
        refine ldF Tryz.underlying2 rfl rfl T1 rfl ?_
        conv => lhs; whnf
        by_cases h : o.n ≠ 0
        · rw [if_pos ⟨rfl, h⟩] at hK
          rw [show (o.n == 0) = false from beq_eq_false_iff_ne.2 h]
          conv => lhs; whnf
          exact hK _ P1
        rw [if_neg fun e => h e.2] at hK
        rw [show (o.n == 0) = true from beq_iff_eq.2 (Decidable.not_not.1 h)]
        clear h
        conv => lhs; whnf
        refine ldF Tryz.underlying3 rfl rfl T1 rfl ?_
        conv => lhs; whnf
        by_cases h : o.kind = 1
        · rw [if_pos h] at hK
          rw [show (o.kind == 1) = true from beq_iff_eq.2 h]
          conv => lhs; whnf
          refine ldV T1 ?_
          conv => lhs; whnf
          refine makes_spec (by omega) fun σ2 p2 => ?_
          replace hK := hK _ (P1.trans p2)
          generalize makesV o = mv at hK ⊢
          cases mv with
          | true =>
            conv => lhs; whnf
            exact hK
          | false =>
            conv => lhs; whnf
            exact hK
        rw [if_neg h] at hK
        rw [show (o.kind == 1) = false from beq_eq_false_iff_ne.2 h]
        conv => lhs; whnf
        exact hK _ P1
end Go.Proofs.YtajincfelnmlhaaGreat
namespace Go.Proofs.YtajincfelnmlhaaGreat
set_option maxRecDepth 100000
set_option linter.unusedSimpArgs false
open Go Go.AM Go.AM.St
theorem same_dec (n : Int) : decide (n = n) = true := decide_eq_true rfl
def smallV (s : List Nat) : Bool := !s.isEmpty && decide (s.length ≤ 20) && lowS s
def sixV (k : List Nat) : Bool := if k.length = 1 then (if k.getD 0 0 ≥ 49 then (if k.getD 0 0 ≤ 57 then true else false) else false) else false
def oneV (bk bt : Bool) (o : OpV) : Bool := if o.n < 1 then false else if o.n > 3 then false else bt && (sixV o.k || (bk && !(o.n == 2)))
def kindV (bk bt bn : Bool) (o : OpV) : Bool :=
  if o.kind = 1 then oneV bk bt o else if o.kind = 2 ∨ o.kind = 9 then bk && bt && bn else if o.kind = 3 ∨ o.kind = 5 then bt && bn else if o.kind = 4 then bn else
  if o.kind = 6 ∨ o.kind = 10 then bk && bn else if o.kind = 7 then bk && bt else if o.kind = 8 ∨ o.kind = 11 then bt else if o.kind = 12 then true else false
def refV (o : OpV) : Bool := if smallV o.s = false then false else if fitsV o = false then false else kindV (decide (o.k = [])) (decide (o.t = [])) (o.n == 0) o
theorem kind_cases (k : Int) : k < 1 ∨ k > 12 ∨ k = 1 ∨ k = 2 ∨ k = 3 ∨ k = 4 ∨ k = 5 ∨ k = 6 ∨ k = 7 ∨ k = 8 ∨ k = 9 ∨ k = 10 ∨ k = 11 ∨ k = 12 := by omega
theorem makes_one {o : OpV} (ht : o.t = []) : makesV o = oneV (decide (o.k = [])) (decide (o.t = [])) o := by
  unfold makesV oneV sixV
  rw [ht]
  by_cases h1 : o.n < 1
  · rw [if_pos h1, if_pos h1]
  rw [if_neg h1, if_neg h1]
  by_cases h2 : o.n > 3
  · rw [if_pos h2, if_pos h2]
  rw [if_neg h2, if_neg h2]
  by_cases h3 : o.k.length = 1
  · have : o.k ≠ [] := fun e => by rw [e] at h3; cases h3
    simp [h3, this]
  · by_cases h4 : o.k = []
    · simp [h4]
    · simp [h3, h4]
theorem refV_eq (o : OpV) : refV o = mayV o := by
  unfold refV mayV
  by_cases hs : o.s = []
  · rw [show smallV o.s = false by unfold smallV; rw [hs]; rfl, if_pos rfl, if_pos hs]
    split
    · rfl
    · split <;> rfl
  have hi : o.s.isEmpty = false := by cases h : o.s <;> first | rfl | exact absurd h hs
  by_cases h20 : o.s.length > 20
  · rw [show smallV o.s = false by unfold smallV; rw [hi, decide_eq_false (by omega)]; rfl, if_pos rfl, if_neg hs, if_pos h20]
    split
    · rfl
    · split <;> rfl
  rw [if_neg hs, if_neg h20]
  have e : smallV o.s = lowS o.s := by unfold smallV; rw [hi, decide_eq_true (by omega)]; rfl
  rw [e]
  by_cases hl : lowS o.s = false
  · rw [if_pos hl, if_pos hl]
    split
    · rfl
    · split <;> rfl
  rw [if_neg hl, if_neg hl]
  by_cases hf : fitsV o = false
  · rw [if_pos hf, if_pos hf]
    split
    · rfl
    · split <;> rfl
  rw [if_neg hf, if_neg hf]
  obtain ⟨kind, s, k, t, n⟩ := o
  simp only at *
  have hmk : t = [] → makesV ⟨kind, s, k, t, n⟩ = oneV (decide (k = [])) (decide (t = [])) ⟨kind, s, k, t, n⟩ := fun h => makes_one h
  have hot : t ≠ [] → oneV (decide (k = [])) (decide (t = [])) ⟨kind, s, k, t, n⟩ = false := fun h => by unfold oneV; rw [decide_eq_false h]; simp
  generalize makesV ⟨kind, s, k, t, n⟩ = mk at hmk ⊢
  unfold kindV
  generalize oneV (decide (k = [])) (decide (t = [])) ⟨kind, s, k, t, n⟩ = on at hmk hot ⊢
  simp only
  rcases kind_cases kind with h | h | h
  · rw [if_pos h]
    simp only [show kind ≠ 1 by omega, show kind ≠ 2 by omega, show kind ≠ 3 by omega, show kind ≠ 4 by omega, show kind ≠ 5 by omega, show kind ≠ 6 by omega, show kind ≠ 7 by omega, show kind ≠ 8 by omega, show kind ≠ 9 by omega, show kind ≠ 10 by omega, show kind ≠ 11 by omega, show kind ≠ 12 by omega, or_self, if_false]
  · rw [if_neg (show ¬ kind < 1 by omega), if_pos h]
    simp only [show kind ≠ 1 by omega, show kind ≠ 2 by omega, show kind ≠ 3 by omega, show kind ≠ 4 by omega, show kind ≠ 5 by omega, show kind ≠ 6 by omega, show kind ≠ 7 by omega, show kind ≠ 8 by omega, show kind ≠ 9 by omega, show kind ≠ 10 by omega, show kind ≠ 11 by omega, show kind ≠ 12 by omega, or_self, if_false]
  · by_cases hk : k = [] <;> by_cases ht : t = [] <;> by_cases hn : n = 0 <;> rcases h with rfl | rfl | rfl | rfl | rfl | rfl | rfl | rfl | rfl | rfl | rfl | rfl <;> simp [hk, ht, hn, nKey, nText, nNum] <;> first | exact (hmk ht).symm | exact hot ht
attribute [local irreducible] IntKind.wrap Int.fdiv Int.tdiv Int.tmod BitVec.ofInt appendK sliceK indexAddrK ldK storeK seenK makeSliceK lookupK updateK deleteK mapK rangeK nextK buildSliceK indexK
variable {D : Drawer} {σ : H}
set_option maxHeartbeats 4000000 in
theorem ref_may_spec {n : Nat} {o : OpV} (hD : ByPlan Tryz.prog D) (hn : o.s.length + 30 ≤ n) (hs : o.s.length ≤ 9223372036854775807) {K : AV → H → Bool} (hK : ∀ σ', σ <+: σ' → K (.bool (refV o)) σ' = true) : acall Tryz.prog tab D n 17 [.agg (opv o)] σ K = true := by
  obtain ⟨n, rfl, hn⟩ := up (n := n) (k := o.s.length + 29) (by omega)
  have T := get_new σ (AO.cells (opv o) 5 .own)
  have P := List.prefix_append σ [AO.cells (opv o) 5 .own]
  unfold refV fitsV at hK
  conv => lhs; whnf
  refine ldF Tryz.underlying9 rfl rfl T rfl ?_
  conv => lhs; whnf
  refine small_spec (by omega) hs ?_
  by_cases h : smallV o.s = false
  · rw [if_pos h] at hK
    rw [show (!o.s.isEmpty && decide (o.s.length ≤ 20) && lowS o.s) = false from h]
    conv => lhs; whnf
    exact hK _ P
  rw [if_neg h] at hK
  rw [Bool.not_eq_false] at h
  rw [show (!o.s.isEmpty && decide (o.s.length ≤ 20) && lowS o.s) = true from h]
  clear h
  conv => lhs; whnf
  refine ldF Tryz.underlying9 rfl rfl T rfl ?_
  conv => lhs; whnf
  by_cases h : o.k.length > 20
  · rw [if_pos h, if_pos rfl] at hK
    rw [show decide (((ints o.k).length : Int) > 20) = true from decide_eq_true (by rw [ints_len]; omega)]
    conv => lhs; whnf
    exact hK _ P
  rw [if_neg h] at hK
  rw [show decide (((ints o.k).length : Int) > 20) = false from decide_eq_false (by rw [ints_len]; omega)]
  conv => lhs; whnf
  refine ldF Tryz.underlying9 rfl rfl T rfl ?_
  conv => lhs; whnf
  by_cases h : o.t.length > 100
  · rw [if_pos h, if_pos rfl] at hK
    rw [show decide (((ints o.t).length : Int) > 100) = true from decide_eq_true (by rw [ints_len]; omega)]
    conv => lhs; whnf
    exact hK _ P
  rw [if_neg h] at hK
  rw [show decide (((ints o.t).length : Int) > 100) = false from decide_eq_false (by rw [ints_len]; omega)]
  conv => lhs; whnf
  refine ldF Tryz.underlying2 rfl rfl T rfl ?_
  conv => lhs; whnf
  by_cases h : o.n < 0
  · rw [if_pos h, if_pos rfl] at hK
    rw [show decide (o.n < 0) = true from decide_eq_true (by omega)]
    conv => lhs; whnf
    exact hK _ P
  rw [if_neg h] at hK
  rw [show decide (o.n < 0) = false from decide_eq_false (by omega)]
  conv => lhs; whnf
  refine ldF Tryz.underlying2 rfl rfl T rfl ?_
  conv => lhs; whnf
  by_cases h : o.n > 1099511627776
  · rw [if_pos h, if_pos rfl] at hK
    rw [show decide (o.n > 1099511627776) = true from decide_eq_true (by omega)]
    conv => lhs; whnf
    exact hK _ P
  rw [if_neg h] at hK
  rw [show decide (o.n > 1099511627776) = false from decide_eq_false (by omega)]
  conv => lhs; whnf
  rw [if_neg (by decide)] at hK
  refine goK hD plan17x3 ord17x3 fun KK hKK => ?_
  obtain ⟨kind, s, k, t, n0⟩ := o
  simp only at hK hn hs
  generalize hbk : decide (k = []) = bk at hK
  generalize hbt : decide (t = []) = bt at hK
  generalize hbn : (n0 == 0) = bn at hK
  conv => lhs; whnf
  refine ldF Tryz.underlying9 rfl rfl T rfl ?_
  conv => lhs; whnf
  rw [strNil, hbk]
  cases bk with
  | true =>
    conv => lhs; whnf
    refine ldF Tryz.underlying9 rfl rfl T rfl ?_
    conv => lhs; whnf
    rw [strNil, hbt]
    cases bt with
    | true =>
      conv => lhs; whnf
      refine ldF Tryz.underlying2 rfl rfl T rfl ?_
      conv => lhs; whnf
      rw [show (n0 == 0) = bn from hbn]
      cases bn with
      | true =>
        conv => lhs; whnf
        refine and_true (all_cons ?_ (all_cons ?_ (all_skip rfl rfl))) ?_
        · conv => lhs; whnf
          refine ldF Tryz.underlying2 rfl rfl T rfl ?_
          conv => lhs; whnf
          exact same_dec _
        · conv => lhs; whnf
          refine ldF Tryz.underlying9 rfl rfl T rfl ?_
          exact same_str _
        conv => lhs; whnf
        refine and_true (all_cons ?_ (all_skip rfl (all_skip rfl rfl))) ?_
        · conv => lhs; whnf
          refine ldF Tryz.underlying2 rfl rfl T rfl ?_
          conv => lhs; whnf
          exact same_dec _
        conv => lhs; whnf
        subst hKK
        conv => lhs; whnf
        refine ldF Tryz.underlying3 rfl rfl T rfl ?_
        conv => lhs; whnf
        rcases kind_cases kind with h | h | rfl | rfl | rfl | rfl | rfl | rfl | rfl | rfl | rfl | rfl | rfl | rfl
        · unfold kindV at hK
          simp only [show kind ≠ 1 by omega, show kind ≠ 2 by omega, show kind ≠ 3 by omega, show kind ≠ 4 by omega, show kind ≠ 5 by omega, show kind ≠ 6 by omega, show kind ≠ 7 by omega, show kind ≠ 8 by omega, show kind ≠ 9 by omega, show kind ≠ 10 by omega, show kind ≠ 11 by omega, show kind ≠ 12 by omega, or_self, if_false] at hK
          rw [show (kind == 1) = false by rw [beq_eq_false_iff_ne]; omega]
          conv => lhs; whnf
          rw [show (kind == 2) = false by rw [beq_eq_false_iff_ne]; omega]
          conv => lhs; whnf
          rw [show (kind == 9) = false by rw [beq_eq_false_iff_ne]; omega]
          conv => lhs; whnf
          rw [show (kind == 3) = false by rw [beq_eq_false_iff_ne]; omega]
          conv => lhs; whnf
          rw [show (kind == 5) = false by rw [beq_eq_false_iff_ne]; omega]
          conv => lhs; whnf
          rw [show (kind == 4) = false by rw [beq_eq_false_iff_ne]; omega]
          conv => lhs; whnf
          rw [show (kind == 6) = false by rw [beq_eq_false_iff_ne]; omega]
          conv => lhs; whnf
          rw [show (kind == 10) = false by rw [beq_eq_false_iff_ne]; omega]
          conv => lhs; whnf
          rw [show (kind == 7) = false by rw [beq_eq_false_iff_ne]; omega]
          conv => lhs; whnf
          rw [show (kind == 8) = false by rw [beq_eq_false_iff_ne]; omega]
          conv => lhs; whnf
          rw [show (kind == 11) = false by rw [beq_eq_false_iff_ne]; omega]
          conv => lhs; whnf
          rw [show (kind == 12) = false by rw [beq_eq_false_iff_ne]; omega]
          conv => lhs; whnf
          exact hK _ P
        · unfold kindV at hK
          simp only [show kind ≠ 1 by omega, show kind ≠ 2 by omega, show kind ≠ 3 by omega, show kind ≠ 4 by omega, show kind ≠ 5 by omega, show kind ≠ 6 by omega, show kind ≠ 7 by omega, show kind ≠ 8 by omega, show kind ≠ 9 by omega, show kind ≠ 10 by omega, show kind ≠ 11 by omega, show kind ≠ 12 by omega, or_self, if_false] at hK
          rw [show (kind == 1) = false by rw [beq_eq_false_iff_ne]; omega]
          conv => lhs; whnf
          rw [show (kind == 2) = false by rw [beq_eq_false_iff_ne]; omega]
          conv => lhs; whnf
          rw [show (kind == 9) = false by rw [beq_eq_false_iff_ne]; omega]
          conv => lhs; whnf
          rw [show (kind == 3) = false by rw [beq_eq_false_iff_ne]; omega]
          conv => lhs; whnf
          rw [show (kind == 5) = false by rw [beq_eq_false_iff_ne]; omega]
          conv => lhs; whnf
          rw [show (kind == 4) = false by rw [beq_eq_false_iff_ne]; omega]
          conv => lhs; whnf
          rw [show (kind == 6) = false by rw [beq_eq_false_iff_ne]; omega]
          conv => lhs; whnf
          rw [show (kind == 10) = false by rw [beq_eq_false_iff_ne]; omega]
          conv => lhs; whnf
          rw [show (kind == 7) = false by rw [beq_eq_false_iff_ne]; omega]
          conv => lhs; whnf
          rw [show (kind == 8) = false by rw [beq_eq_false_iff_ne]; omega]
          conv => lhs; whnf
          rw [show (kind == 11) = false by rw [beq_eq_false_iff_ne]; omega]
          conv => lhs; whnf
          rw [show (kind == 12) = false by rw [beq_eq_false_iff_ne]; omega]
          conv => lhs; whnf
          exact hK _ P
        · replace hK : ∀ σ', _ <+: σ' → K (.bool (oneV true true ⟨1, s, k, t, n0⟩)) σ' = true := hK
          refine ldF Tryz.underlying9 rfl rfl T rfl ?_
          conv => lhs; whnf
          by_cases h1 : k.length = 1
          · have hz : k.getD 0 0 = k[0] := by simp [List.getD_eq_getElem?_getD, h1]
            rw [show (((ints k).length : Int) == 1) = true by rw [ints_len, h1]; rfl]
            conv => lhs; whnf
            refine ldF Tryz.underlying9 rfl rfl T rfl ?_
            conv => lhs; whnf
            refine idxS (s := k) (i := 0) (show 0 < k.length by omega) ?_
            conv => lhs; whnf
            by_cases h2 : k[0] ≥ 49
            · rw [show decide ((k[0] : Int) ≥ 49) = true from decide_eq_true (by omega)]
              conv => lhs; whnf
              refine ldF Tryz.underlying9 rfl rfl T rfl ?_
              conv => lhs; whnf
              refine idxS (s := k) (i := 0) (show 0 < k.length by omega) ?_
              conv => lhs; whnf
              by_cases h3 : k[0] ≤ 57
              · rw [show decide ((k[0] : Int) ≤ 57) = true from decide_eq_true (by omega)]
                conv => lhs; whnf
                have hsix : sixV k = true := by unfold sixV; rw [if_pos h1, hz, if_pos h2, if_pos h3]
                unfold oneV at hK
                simp only [hsix] at hK
                refine ldF Tryz.underlying2 rfl rfl T rfl ?_
                conv => lhs; whnf
                by_cases h : n0 < 1
                · rw [if_pos h] at hK
                  rw [show decide (n0 ≥ 1) = false from decide_eq_false (by omega)]
                  conv => lhs; whnf
                  exact hK _ P
                rw [if_neg h] at hK
                rw [show decide (n0 ≥ 1) = true from decide_eq_true (by omega)]
                conv => lhs; whnf
                refine ldF Tryz.underlying2 rfl rfl T rfl ?_
                conv => lhs; whnf
                by_cases h : n0 > 3
                · rw [if_pos h] at hK
                  rw [show decide (n0 ≤ 3) = false from decide_eq_false (by omega)]
                  conv => lhs; whnf
                  exact hK _ P
                rw [if_neg h] at hK
                rw [show decide (n0 ≤ 3) = true from decide_eq_true (by omega)]
                conv => lhs; whnf
                exact hK _ P
              rw [show decide ((k[0] : Int) ≤ 57) = false from decide_eq_false (by omega)]
              conv => lhs; whnf
              have hsix : sixV k = false := by unfold sixV; rw [if_pos h1, hz, if_pos h2, if_neg h3]
              unfold oneV at hK
              simp only [hsix] at hK
              refine ldF Tryz.underlying2 rfl rfl T rfl ?_
              conv => lhs; whnf
              by_cases h : n0 < 1
              · rw [if_pos h] at hK
                rw [show decide (n0 ≥ 1) = false from decide_eq_false (by omega)]
                conv => lhs; whnf
                exact hK _ P
              rw [if_neg h] at hK
              rw [show decide (n0 ≥ 1) = true from decide_eq_true (by omega)]
              conv => lhs; whnf
              refine ldF Tryz.underlying2 rfl rfl T rfl ?_
              conv => lhs; whnf
              by_cases h : n0 > 3
              · rw [if_pos h] at hK
                rw [show decide (n0 ≤ 3) = false from decide_eq_false (by omega)]
                conv => lhs; whnf
                exact hK _ P
              rw [if_neg h] at hK
              rw [show decide (n0 ≤ 3) = true from decide_eq_true (by omega)]
              conv => lhs; whnf
              refine ldF Tryz.underlying2 rfl rfl T rfl ?_
              conv => lhs; whnf
              generalize (n0 == 2) = b at hK ⊢
              cases b with
              | true =>
                conv => lhs; whnf
                exact hK _ P
              | false =>
                conv => lhs; whnf
                exact hK _ P
            rw [show decide ((k[0] : Int) ≥ 49) = false from decide_eq_false (by omega)]
            conv => lhs; whnf
            have hsix : sixV k = false := by unfold sixV; rw [if_pos h1, hz, if_neg h2]
            unfold oneV at hK
            simp only [hsix] at hK
            refine ldF Tryz.underlying2 rfl rfl T rfl ?_
            conv => lhs; whnf
            by_cases h : n0 < 1
            · rw [if_pos h] at hK
              rw [show decide (n0 ≥ 1) = false from decide_eq_false (by omega)]
              conv => lhs; whnf
              exact hK _ P
            rw [if_neg h] at hK
            rw [show decide (n0 ≥ 1) = true from decide_eq_true (by omega)]
            conv => lhs; whnf
            refine ldF Tryz.underlying2 rfl rfl T rfl ?_
            conv => lhs; whnf
            by_cases h : n0 > 3
            · rw [if_pos h] at hK
              rw [show decide (n0 ≤ 3) = false from decide_eq_false (by omega)]
              conv => lhs; whnf
              exact hK _ P
            rw [if_neg h] at hK
            rw [show decide (n0 ≤ 3) = true from decide_eq_true (by omega)]
            conv => lhs; whnf
            refine ldF Tryz.underlying2 rfl rfl T rfl ?_
            conv => lhs; whnf
            generalize (n0 == 2) = b at hK ⊢
            cases b with
            | true =>
              conv => lhs; whnf
              exact hK _ P
            | false =>
              conv => lhs; whnf
              exact hK _ P
          rw [show (((ints k).length : Int) == 1) = false by rw [ints_len, beq_eq_false_iff_ne]; omega]
          conv => lhs; whnf
          have hsix : sixV k = false := by unfold sixV; rw [if_neg h1]
          unfold oneV at hK
          simp only [hsix] at hK
          refine ldF Tryz.underlying2 rfl rfl T rfl ?_
          conv => lhs; whnf
          by_cases h : n0 < 1
          · rw [if_pos h] at hK
            rw [show decide (n0 ≥ 1) = false from decide_eq_false (by omega)]
            conv => lhs; whnf
            exact hK _ P
          rw [if_neg h] at hK
          rw [show decide (n0 ≥ 1) = true from decide_eq_true (by omega)]
          conv => lhs; whnf
          refine ldF Tryz.underlying2 rfl rfl T rfl ?_
          conv => lhs; whnf
          by_cases h : n0 > 3
          · rw [if_pos h] at hK
            rw [show decide (n0 ≤ 3) = false from decide_eq_false (by omega)]
            conv => lhs; whnf
            exact hK _ P
          rw [if_neg h] at hK
          rw [show decide (n0 ≤ 3) = true from decide_eq_true (by omega)]
          conv => lhs; whnf
          refine ldF Tryz.underlying2 rfl rfl T rfl ?_
          conv => lhs; whnf
          generalize (n0 == 2) = b at hK ⊢
          cases b with
          | true =>
            conv => lhs; whnf
            exact hK _ P
          | false =>
            conv => lhs; whnf
            exact hK _ P
        all_goals
          exact hK _ P
      | false =>
        conv => lhs; whnf
        refine and_true (all_cons ?_ (all_cons ?_ (all_skip rfl rfl))) ?_
        · conv => lhs; whnf
          refine ldF Tryz.underlying2 rfl rfl T rfl ?_
          conv => lhs; whnf
          exact same_dec _
        · conv => lhs; whnf
          refine ldF Tryz.underlying9 rfl rfl T rfl ?_
          exact same_str _
        conv => lhs; whnf
        refine and_true (all_cons ?_ (all_skip rfl (all_skip rfl rfl))) ?_
        · conv => lhs; whnf
          refine ldF Tryz.underlying2 rfl rfl T rfl ?_
          conv => lhs; whnf
          exact same_dec _
        conv => lhs; whnf
        subst hKK
        conv => lhs; whnf
        refine ldF Tryz.underlying3 rfl rfl T rfl ?_
        conv => lhs; whnf
        rcases kind_cases kind with h | h | rfl | rfl | rfl | rfl | rfl | rfl | rfl | rfl | rfl | rfl | rfl | rfl
        · unfold kindV at hK
          simp only [show kind ≠ 1 by omega, show kind ≠ 2 by omega, show kind ≠ 3 by omega, show kind ≠ 4 by omega, show kind ≠ 5 by omega, show kind ≠ 6 by omega, show kind ≠ 7 by omega, show kind ≠ 8 by omega, show kind ≠ 9 by omega, show kind ≠ 10 by omega, show kind ≠ 11 by omega, show kind ≠ 12 by omega, or_self, if_false] at hK
          rw [show (kind == 1) = false by rw [beq_eq_false_iff_ne]; omega]
          conv => lhs; whnf
          rw [show (kind == 2) = false by rw [beq_eq_false_iff_ne]; omega]
          conv => lhs; whnf
          rw [show (kind == 9) = false by rw [beq_eq_false_iff_ne]; omega]
          conv => lhs; whnf
          rw [show (kind == 3) = false by rw [beq_eq_false_iff_ne]; omega]
          conv => lhs; whnf
          rw [show (kind == 5) = false by rw [beq_eq_false_iff_ne]; omega]
          conv => lhs; whnf
          rw [show (kind == 4) = false by rw [beq_eq_false_iff_ne]; omega]
          conv => lhs; whnf
          rw [show (kind == 6) = false by rw [beq_eq_false_iff_ne]; omega]
          conv => lhs; whnf
          rw [show (kind == 10) = false by rw [beq_eq_false_iff_ne]; omega]
          conv => lhs; whnf
          rw [show (kind == 7) = false by rw [beq_eq_false_iff_ne]; omega]
          conv => lhs; whnf
          rw [show (kind == 8) = false by rw [beq_eq_false_iff_ne]; omega]
          conv => lhs; whnf
          rw [show (kind == 11) = false by rw [beq_eq_false_iff_ne]; omega]
          conv => lhs; whnf
          rw [show (kind == 12) = false by rw [beq_eq_false_iff_ne]; omega]
          conv => lhs; whnf
          exact hK _ P
        · unfold kindV at hK
          simp only [show kind ≠ 1 by omega, show kind ≠ 2 by omega, show kind ≠ 3 by omega, show kind ≠ 4 by omega, show kind ≠ 5 by omega, show kind ≠ 6 by omega, show kind ≠ 7 by omega, show kind ≠ 8 by omega, show kind ≠ 9 by omega, show kind ≠ 10 by omega, show kind ≠ 11 by omega, show kind ≠ 12 by omega, or_self, if_false] at hK
          rw [show (kind == 1) = false by rw [beq_eq_false_iff_ne]; omega]
          conv => lhs; whnf
          rw [show (kind == 2) = false by rw [beq_eq_false_iff_ne]; omega]
          conv => lhs; whnf
          rw [show (kind == 9) = false by rw [beq_eq_false_iff_ne]; omega]
          conv => lhs; whnf
          rw [show (kind == 3) = false by rw [beq_eq_false_iff_ne]; omega]
          conv => lhs; whnf
          rw [show (kind == 5) = false by rw [beq_eq_false_iff_ne]; omega]
          conv => lhs; whnf
          rw [show (kind == 4) = false by rw [beq_eq_false_iff_ne]; omega]
          conv => lhs; whnf
          rw [show (kind == 6) = false by rw [beq_eq_false_iff_ne]; omega]
          conv => lhs; whnf
          rw [show (kind == 10) = false by rw [beq_eq_false_iff_ne]; omega]
          conv => lhs; whnf
          rw [show (kind == 7) = false by rw [beq_eq_false_iff_ne]; omega]
          conv => lhs; whnf
          rw [show (kind == 8) = false by rw [beq_eq_false_iff_ne]; omega]
          conv => lhs; whnf
          rw [show (kind == 11) = false by rw [beq_eq_false_iff_ne]; omega]
          conv => lhs; whnf
          rw [show (kind == 12) = false by rw [beq_eq_false_iff_ne]; omega]
          conv => lhs; whnf
          exact hK _ P
        · replace hK : ∀ σ', _ <+: σ' → K (.bool (oneV true true ⟨1, s, k, t, n0⟩)) σ' = true := hK
          refine ldF Tryz.underlying9 rfl rfl T rfl ?_
          conv => lhs; whnf
          by_cases h1 : k.length = 1
          · have hz : k.getD 0 0 = k[0] := by simp [List.getD_eq_getElem?_getD, h1]
            rw [show (((ints k).length : Int) == 1) = true by rw [ints_len, h1]; rfl]
            conv => lhs; whnf
            refine ldF Tryz.underlying9 rfl rfl T rfl ?_
            conv => lhs; whnf
            refine idxS (s := k) (i := 0) (show 0 < k.length by omega) ?_
            conv => lhs; whnf
            by_cases h2 : k[0] ≥ 49
            · rw [show decide ((k[0] : Int) ≥ 49) = true from decide_eq_true (by omega)]
              conv => lhs; whnf
              refine ldF Tryz.underlying9 rfl rfl T rfl ?_
              conv => lhs; whnf
              refine idxS (s := k) (i := 0) (show 0 < k.length by omega) ?_
              conv => lhs; whnf
              by_cases h3 : k[0] ≤ 57
              · rw [show decide ((k[0] : Int) ≤ 57) = true from decide_eq_true (by omega)]
                conv => lhs; whnf
                have hsix : sixV k = true := by unfold sixV; rw [if_pos h1, hz, if_pos h2, if_pos h3]
                unfold oneV at hK
                simp only [hsix] at hK
                refine ldF Tryz.underlying2 rfl rfl T rfl ?_
                conv => lhs; whnf
                by_cases h : n0 < 1
                · rw [if_pos h] at hK
                  rw [show decide (n0 ≥ 1) = false from decide_eq_false (by omega)]
                  conv => lhs; whnf
                  exact hK _ P
                rw [if_neg h] at hK
                rw [show decide (n0 ≥ 1) = true from decide_eq_true (by omega)]
                conv => lhs; whnf
                refine ldF Tryz.underlying2 rfl rfl T rfl ?_
                conv => lhs; whnf
                by_cases h : n0 > 3
                · rw [if_pos h] at hK
                  rw [show decide (n0 ≤ 3) = false from decide_eq_false (by omega)]
                  conv => lhs; whnf
                  exact hK _ P
                rw [if_neg h] at hK
                rw [show decide (n0 ≤ 3) = true from decide_eq_true (by omega)]
                conv => lhs; whnf
                exact hK _ P
              rw [show decide ((k[0] : Int) ≤ 57) = false from decide_eq_false (by omega)]
              conv => lhs; whnf
              have hsix : sixV k = false := by unfold sixV; rw [if_pos h1, hz, if_pos h2, if_neg h3]
              unfold oneV at hK
              simp only [hsix] at hK
              refine ldF Tryz.underlying2 rfl rfl T rfl ?_
              conv => lhs; whnf
              by_cases h : n0 < 1
              · rw [if_pos h] at hK
                rw [show decide (n0 ≥ 1) = false from decide_eq_false (by omega)]
                conv => lhs; whnf
                exact hK _ P
              rw [if_neg h] at hK
              rw [show decide (n0 ≥ 1) = true from decide_eq_true (by omega)]
              conv => lhs; whnf
              refine ldF Tryz.underlying2 rfl rfl T rfl ?_
              conv => lhs; whnf
              by_cases h : n0 > 3
              · rw [if_pos h] at hK
                rw [show decide (n0 ≤ 3) = false from decide_eq_false (by omega)]
                conv => lhs; whnf
                exact hK _ P
              rw [if_neg h] at hK
              rw [show decide (n0 ≤ 3) = true from decide_eq_true (by omega)]
              conv => lhs; whnf
              refine ldF Tryz.underlying2 rfl rfl T rfl ?_
              conv => lhs; whnf
              generalize (n0 == 2) = b at hK ⊢
              cases b with
              | true =>
                conv => lhs; whnf
                exact hK _ P
              | false =>
                conv => lhs; whnf
                exact hK _ P
            rw [show decide ((k[0] : Int) ≥ 49) = false from decide_eq_false (by omega)]
            conv => lhs; whnf
            have hsix : sixV k = false := by unfold sixV; rw [if_pos h1, hz, if_neg h2]
            unfold oneV at hK
            simp only [hsix] at hK
            refine ldF Tryz.underlying2 rfl rfl T rfl ?_
            conv => lhs; whnf
            by_cases h : n0 < 1
            · rw [if_pos h] at hK
              rw [show decide (n0 ≥ 1) = false from decide_eq_false (by omega)]
              conv => lhs; whnf
              exact hK _ P
            rw [if_neg h] at hK
            rw [show decide (n0 ≥ 1) = true from decide_eq_true (by omega)]
            conv => lhs; whnf
            refine ldF Tryz.underlying2 rfl rfl T rfl ?_
            conv => lhs; whnf
            by_cases h : n0 > 3
            · rw [if_pos h] at hK
              rw [show decide (n0 ≤ 3) = false from decide_eq_false (by omega)]
              conv => lhs; whnf
              exact hK _ P
            rw [if_neg h] at hK
            rw [show decide (n0 ≤ 3) = true from decide_eq_true (by omega)]
            conv => lhs; whnf
            refine ldF Tryz.underlying2 rfl rfl T rfl ?_
            conv => lhs; whnf
            generalize (n0 == 2) = b at hK ⊢
            cases b with
            | true =>
              conv => lhs; whnf
              exact hK _ P
            | false =>
              conv => lhs; whnf
              exact hK _ P
          rw [show (((ints k).length : Int) == 1) = false by rw [ints_len, beq_eq_false_iff_ne]; omega]
          conv => lhs; whnf
          have hsix : sixV k = false := by unfold sixV; rw [if_neg h1]
          unfold oneV at hK
          simp only [hsix] at hK
          refine ldF Tryz.underlying2 rfl rfl T rfl ?_
          conv => lhs; whnf
          by_cases h : n0 < 1
          · rw [if_pos h] at hK
            rw [show decide (n0 ≥ 1) = false from decide_eq_false (by omega)]
            conv => lhs; whnf
            exact hK _ P
          rw [if_neg h] at hK
          rw [show decide (n0 ≥ 1) = true from decide_eq_true (by omega)]
          conv => lhs; whnf
          refine ldF Tryz.underlying2 rfl rfl T rfl ?_
          conv => lhs; whnf
          by_cases h : n0 > 3
          · rw [if_pos h] at hK
            rw [show decide (n0 ≤ 3) = false from decide_eq_false (by omega)]
            conv => lhs; whnf
            exact hK _ P
          rw [if_neg h] at hK
          rw [show decide (n0 ≤ 3) = true from decide_eq_true (by omega)]
          conv => lhs; whnf
          refine ldF Tryz.underlying2 rfl rfl T rfl ?_
          conv => lhs; whnf
          generalize (n0 == 2) = b at hK ⊢
          cases b with
          | true =>
            conv => lhs; whnf
            exact hK _ P
          | false =>
            conv => lhs; whnf
            exact hK _ P
        all_goals
          exact hK _ P
    | false =>
      conv => lhs; whnf
      refine ldF Tryz.underlying2 rfl rfl T rfl ?_
      conv => lhs; whnf
      rw [show (n0 == 0) = bn from hbn]
      cases bn with
      | true =>
        conv => lhs; whnf
        refine and_true (all_cons ?_ (all_cons ?_ (all_skip rfl rfl))) ?_
        · conv => lhs; whnf
          refine ldF Tryz.underlying2 rfl rfl T rfl ?_
          conv => lhs; whnf
          exact same_dec _
        · conv => lhs; whnf
          refine ldF Tryz.underlying9 rfl rfl T rfl ?_
          exact same_str _
        conv => lhs; whnf
        refine and_true (all_cons ?_ (all_skip rfl (all_skip rfl rfl))) ?_
        · conv => lhs; whnf
          refine ldF Tryz.underlying2 rfl rfl T rfl ?_
          conv => lhs; whnf
          exact same_dec _
        conv => lhs; whnf
        subst hKK
        conv => lhs; whnf
        refine ldF Tryz.underlying3 rfl rfl T rfl ?_
        conv => lhs; whnf
        rcases kind_cases kind with h | h | rfl | rfl | rfl | rfl | rfl | rfl | rfl | rfl | rfl | rfl | rfl | rfl
        · unfold kindV at hK
          simp only [show kind ≠ 1 by omega, show kind ≠ 2 by omega, show kind ≠ 3 by omega, show kind ≠ 4 by omega, show kind ≠ 5 by omega, show kind ≠ 6 by omega, show kind ≠ 7 by omega, show kind ≠ 8 by omega, show kind ≠ 9 by omega, show kind ≠ 10 by omega, show kind ≠ 11 by omega, show kind ≠ 12 by omega, or_self, if_false] at hK
          rw [show (kind == 1) = false by rw [beq_eq_false_iff_ne]; omega]
          conv => lhs; whnf
          rw [show (kind == 2) = false by rw [beq_eq_false_iff_ne]; omega]
          conv => lhs; whnf
          rw [show (kind == 9) = false by rw [beq_eq_false_iff_ne]; omega]
          conv => lhs; whnf
          rw [show (kind == 3) = false by rw [beq_eq_false_iff_ne]; omega]
          conv => lhs; whnf
          rw [show (kind == 5) = false by rw [beq_eq_false_iff_ne]; omega]
          conv => lhs; whnf
          rw [show (kind == 4) = false by rw [beq_eq_false_iff_ne]; omega]
          conv => lhs; whnf
          rw [show (kind == 6) = false by rw [beq_eq_false_iff_ne]; omega]
          conv => lhs; whnf
          rw [show (kind == 10) = false by rw [beq_eq_false_iff_ne]; omega]
          conv => lhs; whnf
          rw [show (kind == 7) = false by rw [beq_eq_false_iff_ne]; omega]
          conv => lhs; whnf
          rw [show (kind == 8) = false by rw [beq_eq_false_iff_ne]; omega]
          conv => lhs; whnf
          rw [show (kind == 11) = false by rw [beq_eq_false_iff_ne]; omega]
          conv => lhs; whnf
          rw [show (kind == 12) = false by rw [beq_eq_false_iff_ne]; omega]
          conv => lhs; whnf
          exact hK _ P
        · unfold kindV at hK
          simp only [show kind ≠ 1 by omega, show kind ≠ 2 by omega, show kind ≠ 3 by omega, show kind ≠ 4 by omega, show kind ≠ 5 by omega, show kind ≠ 6 by omega, show kind ≠ 7 by omega, show kind ≠ 8 by omega, show kind ≠ 9 by omega, show kind ≠ 10 by omega, show kind ≠ 11 by omega, show kind ≠ 12 by omega, or_self, if_false] at hK
          rw [show (kind == 1) = false by rw [beq_eq_false_iff_ne]; omega]
          conv => lhs; whnf
          rw [show (kind == 2) = false by rw [beq_eq_false_iff_ne]; omega]
          conv => lhs; whnf
          rw [show (kind == 9) = false by rw [beq_eq_false_iff_ne]; omega]
          conv => lhs; whnf
          rw [show (kind == 3) = false by rw [beq_eq_false_iff_ne]; omega]
          conv => lhs; whnf
          rw [show (kind == 5) = false by rw [beq_eq_false_iff_ne]; omega]
          conv => lhs; whnf
          rw [show (kind == 4) = false by rw [beq_eq_false_iff_ne]; omega]
          conv => lhs; whnf
          rw [show (kind == 6) = false by rw [beq_eq_false_iff_ne]; omega]
          conv => lhs; whnf
          rw [show (kind == 10) = false by rw [beq_eq_false_iff_ne]; omega]
          conv => lhs; whnf
          rw [show (kind == 7) = false by rw [beq_eq_false_iff_ne]; omega]
          conv => lhs; whnf
          rw [show (kind == 8) = false by rw [beq_eq_false_iff_ne]; omega]
          conv => lhs; whnf
          rw [show (kind == 11) = false by rw [beq_eq_false_iff_ne]; omega]
          conv => lhs; whnf
          rw [show (kind == 12) = false by rw [beq_eq_false_iff_ne]; omega]
          conv => lhs; whnf
          exact hK _ P
        · replace hK : ∀ σ', _ <+: σ' → K (.bool (oneV true false ⟨1, s, k, t, n0⟩)) σ' = true := hK
          refine ldF Tryz.underlying9 rfl rfl T rfl ?_
          conv => lhs; whnf
          by_cases h1 : k.length = 1
          · have hz : k.getD 0 0 = k[0] := by simp [List.getD_eq_getElem?_getD, h1]
            rw [show (((ints k).length : Int) == 1) = true by rw [ints_len, h1]; rfl]
            conv => lhs; whnf
            refine ldF Tryz.underlying9 rfl rfl T rfl ?_
            conv => lhs; whnf
            refine idxS (s := k) (i := 0) (show 0 < k.length by omega) ?_
            conv => lhs; whnf
            by_cases h2 : k[0] ≥ 49
            · rw [show decide ((k[0] : Int) ≥ 49) = true from decide_eq_true (by omega)]
              conv => lhs; whnf
              refine ldF Tryz.underlying9 rfl rfl T rfl ?_
              conv => lhs; whnf
              refine idxS (s := k) (i := 0) (show 0 < k.length by omega) ?_
              conv => lhs; whnf
              by_cases h3 : k[0] ≤ 57
              · rw [show decide ((k[0] : Int) ≤ 57) = true from decide_eq_true (by omega)]
                conv => lhs; whnf
                have hsix : sixV k = true := by unfold sixV; rw [if_pos h1, hz, if_pos h2, if_pos h3]
                unfold oneV at hK
                simp only [hsix] at hK
                refine ldF Tryz.underlying2 rfl rfl T rfl ?_
                conv => lhs; whnf
                by_cases h : n0 < 1
                · rw [if_pos h] at hK
                  rw [show decide (n0 ≥ 1) = false from decide_eq_false (by omega)]
                  conv => lhs; whnf
                  exact hK _ P
                rw [if_neg h] at hK
                rw [show decide (n0 ≥ 1) = true from decide_eq_true (by omega)]
                conv => lhs; whnf
                refine ldF Tryz.underlying2 rfl rfl T rfl ?_
                conv => lhs; whnf
                by_cases h : n0 > 3
                · rw [if_pos h] at hK
                  rw [show decide (n0 ≤ 3) = false from decide_eq_false (by omega)]
                  conv => lhs; whnf
                  exact hK _ P
                rw [if_neg h] at hK
                rw [show decide (n0 ≤ 3) = true from decide_eq_true (by omega)]
                conv => lhs; whnf
                exact hK _ P
              rw [show decide ((k[0] : Int) ≤ 57) = false from decide_eq_false (by omega)]
              conv => lhs; whnf
              have hsix : sixV k = false := by unfold sixV; rw [if_pos h1, hz, if_pos h2, if_neg h3]
              unfold oneV at hK
              simp only [hsix] at hK
              refine ldF Tryz.underlying2 rfl rfl T rfl ?_
              conv => lhs; whnf
              by_cases h : n0 < 1
              · rw [if_pos h] at hK
                rw [show decide (n0 ≥ 1) = false from decide_eq_false (by omega)]
                conv => lhs; whnf
                exact hK _ P
              rw [if_neg h] at hK
              rw [show decide (n0 ≥ 1) = true from decide_eq_true (by omega)]
              conv => lhs; whnf
              refine ldF Tryz.underlying2 rfl rfl T rfl ?_
              conv => lhs; whnf
              by_cases h : n0 > 3
              · rw [if_pos h] at hK
                rw [show decide (n0 ≤ 3) = false from decide_eq_false (by omega)]
                conv => lhs; whnf
                exact hK _ P
              rw [if_neg h] at hK
              rw [show decide (n0 ≤ 3) = true from decide_eq_true (by omega)]
              conv => lhs; whnf
              exact hK _ P
            rw [show decide ((k[0] : Int) ≥ 49) = false from decide_eq_false (by omega)]
            conv => lhs; whnf
            have hsix : sixV k = false := by unfold sixV; rw [if_pos h1, hz, if_neg h2]
            unfold oneV at hK
            simp only [hsix] at hK
            refine ldF Tryz.underlying2 rfl rfl T rfl ?_
            conv => lhs; whnf
            by_cases h : n0 < 1
            · rw [if_pos h] at hK
              rw [show decide (n0 ≥ 1) = false from decide_eq_false (by omega)]
              conv => lhs; whnf
              exact hK _ P
            rw [if_neg h] at hK
            rw [show decide (n0 ≥ 1) = true from decide_eq_true (by omega)]
            conv => lhs; whnf
            refine ldF Tryz.underlying2 rfl rfl T rfl ?_
            conv => lhs; whnf
            by_cases h : n0 > 3
            · rw [if_pos h] at hK
              rw [show decide (n0 ≤ 3) = false from decide_eq_false (by omega)]
              conv => lhs; whnf
              exact hK _ P
            rw [if_neg h] at hK
            rw [show decide (n0 ≤ 3) = true from decide_eq_true (by omega)]
            conv => lhs; whnf
            exact hK _ P
          rw [show (((ints k).length : Int) == 1) = false by rw [ints_len, beq_eq_false_iff_ne]; omega]
          conv => lhs; whnf
          have hsix : sixV k = false := by unfold sixV; rw [if_neg h1]
          unfold oneV at hK
          simp only [hsix] at hK
          refine ldF Tryz.underlying2 rfl rfl T rfl ?_
          conv => lhs; whnf
          by_cases h : n0 < 1
          · rw [if_pos h] at hK
            rw [show decide (n0 ≥ 1) = false from decide_eq_false (by omega)]
            conv => lhs; whnf
            exact hK _ P
          rw [if_neg h] at hK
          rw [show decide (n0 ≥ 1) = true from decide_eq_true (by omega)]
          conv => lhs; whnf
          refine ldF Tryz.underlying2 rfl rfl T rfl ?_
          conv => lhs; whnf
          by_cases h : n0 > 3
          · rw [if_pos h] at hK
            rw [show decide (n0 ≤ 3) = false from decide_eq_false (by omega)]
            conv => lhs; whnf
            exact hK _ P
          rw [if_neg h] at hK
          rw [show decide (n0 ≤ 3) = true from decide_eq_true (by omega)]
          conv => lhs; whnf
          exact hK _ P
        all_goals
          exact hK _ P
      | false =>
        conv => lhs; whnf
        refine and_true (all_cons ?_ (all_cons ?_ (all_skip rfl rfl))) ?_
        · conv => lhs; whnf
          refine ldF Tryz.underlying2 rfl rfl T rfl ?_
          conv => lhs; whnf
          exact same_dec _
        · conv => lhs; whnf
          refine ldF Tryz.underlying9 rfl rfl T rfl ?_
          exact same_str _
        conv => lhs; whnf
        refine and_true (all_cons ?_ (all_skip rfl (all_skip rfl rfl))) ?_
        · conv => lhs; whnf
          refine ldF Tryz.underlying2 rfl rfl T rfl ?_
          conv => lhs; whnf
          exact same_dec _
        conv => lhs; whnf
        subst hKK
        conv => lhs; whnf
        refine ldF Tryz.underlying3 rfl rfl T rfl ?_
        conv => lhs; whnf
        rcases kind_cases kind with h | h | rfl | rfl | rfl | rfl | rfl | rfl | rfl | rfl | rfl | rfl | rfl | rfl
        · unfold kindV at hK
          simp only [show kind ≠ 1 by omega, show kind ≠ 2 by omega, show kind ≠ 3 by omega, show kind ≠ 4 by omega, show kind ≠ 5 by omega, show kind ≠ 6 by omega, show kind ≠ 7 by omega, show kind ≠ 8 by omega, show kind ≠ 9 by omega, show kind ≠ 10 by omega, show kind ≠ 11 by omega, show kind ≠ 12 by omega, or_self, if_false] at hK
          rw [show (kind == 1) = false by rw [beq_eq_false_iff_ne]; omega]
          conv => lhs; whnf
          rw [show (kind == 2) = false by rw [beq_eq_false_iff_ne]; omega]
          conv => lhs; whnf
          rw [show (kind == 9) = false by rw [beq_eq_false_iff_ne]; omega]
          conv => lhs; whnf
          rw [show (kind == 3) = false by rw [beq_eq_false_iff_ne]; omega]
          conv => lhs; whnf
          rw [show (kind == 5) = false by rw [beq_eq_false_iff_ne]; omega]
          conv => lhs; whnf
          rw [show (kind == 4) = false by rw [beq_eq_false_iff_ne]; omega]
          conv => lhs; whnf
          rw [show (kind == 6) = false by rw [beq_eq_false_iff_ne]; omega]
          conv => lhs; whnf
          rw [show (kind == 10) = false by rw [beq_eq_false_iff_ne]; omega]
          conv => lhs; whnf
          rw [show (kind == 7) = false by rw [beq_eq_false_iff_ne]; omega]
          conv => lhs; whnf
          rw [show (kind == 8) = false by rw [beq_eq_false_iff_ne]; omega]
          conv => lhs; whnf
          rw [show (kind == 11) = false by rw [beq_eq_false_iff_ne]; omega]
          conv => lhs; whnf
          rw [show (kind == 12) = false by rw [beq_eq_false_iff_ne]; omega]
          conv => lhs; whnf
          exact hK _ P
        · unfold kindV at hK
          simp only [show kind ≠ 1 by omega, show kind ≠ 2 by omega, show kind ≠ 3 by omega, show kind ≠ 4 by omega, show kind ≠ 5 by omega, show kind ≠ 6 by omega, show kind ≠ 7 by omega, show kind ≠ 8 by omega, show kind ≠ 9 by omega, show kind ≠ 10 by omega, show kind ≠ 11 by omega, show kind ≠ 12 by omega, or_self, if_false] at hK
          rw [show (kind == 1) = false by rw [beq_eq_false_iff_ne]; omega]
          conv => lhs; whnf
          rw [show (kind == 2) = false by rw [beq_eq_false_iff_ne]; omega]
          conv => lhs; whnf
          rw [show (kind == 9) = false by rw [beq_eq_false_iff_ne]; omega]
          conv => lhs; whnf
          rw [show (kind == 3) = false by rw [beq_eq_false_iff_ne]; omega]
          conv => lhs; whnf
          rw [show (kind == 5) = false by rw [beq_eq_false_iff_ne]; omega]
          conv => lhs; whnf
          rw [show (kind == 4) = false by rw [beq_eq_false_iff_ne]; omega]
          conv => lhs; whnf
          rw [show (kind == 6) = false by rw [beq_eq_false_iff_ne]; omega]
          conv => lhs; whnf
          rw [show (kind == 10) = false by rw [beq_eq_false_iff_ne]; omega]
          conv => lhs; whnf
          rw [show (kind == 7) = false by rw [beq_eq_false_iff_ne]; omega]
          conv => lhs; whnf
          rw [show (kind == 8) = false by rw [beq_eq_false_iff_ne]; omega]
          conv => lhs; whnf
          rw [show (kind == 11) = false by rw [beq_eq_false_iff_ne]; omega]
          conv => lhs; whnf
          rw [show (kind == 12) = false by rw [beq_eq_false_iff_ne]; omega]
          conv => lhs; whnf
          exact hK _ P
        · replace hK : ∀ σ', _ <+: σ' → K (.bool (oneV true false ⟨1, s, k, t, n0⟩)) σ' = true := hK
          refine ldF Tryz.underlying9 rfl rfl T rfl ?_
          conv => lhs; whnf
          by_cases h1 : k.length = 1
          · have hz : k.getD 0 0 = k[0] := by simp [List.getD_eq_getElem?_getD, h1]
            rw [show (((ints k).length : Int) == 1) = true by rw [ints_len, h1]; rfl]
            conv => lhs; whnf
            refine ldF Tryz.underlying9 rfl rfl T rfl ?_
            conv => lhs; whnf
            refine idxS (s := k) (i := 0) (show 0 < k.length by omega) ?_
            conv => lhs; whnf
            by_cases h2 : k[0] ≥ 49
            · rw [show decide ((k[0] : Int) ≥ 49) = true from decide_eq_true (by omega)]
              conv => lhs; whnf
              refine ldF Tryz.underlying9 rfl rfl T rfl ?_
              conv => lhs; whnf
              refine idxS (s := k) (i := 0) (show 0 < k.length by omega) ?_
              conv => lhs; whnf
              by_cases h3 : k[0] ≤ 57
              · rw [show decide ((k[0] : Int) ≤ 57) = true from decide_eq_true (by omega)]
                conv => lhs; whnf
                have hsix : sixV k = true := by unfold sixV; rw [if_pos h1, hz, if_pos h2, if_pos h3]
                unfold oneV at hK
                simp only [hsix] at hK
                refine ldF Tryz.underlying2 rfl rfl T rfl ?_
                conv => lhs; whnf
                by_cases h : n0 < 1
                · rw [if_pos h] at hK
                  rw [show decide (n0 ≥ 1) = false from decide_eq_false (by omega)]
                  conv => lhs; whnf
                  exact hK _ P
                rw [if_neg h] at hK
                rw [show decide (n0 ≥ 1) = true from decide_eq_true (by omega)]
                conv => lhs; whnf
                refine ldF Tryz.underlying2 rfl rfl T rfl ?_
                conv => lhs; whnf
                by_cases h : n0 > 3
                · rw [if_pos h] at hK
                  rw [show decide (n0 ≤ 3) = false from decide_eq_false (by omega)]
                  conv => lhs; whnf
                  exact hK _ P
                rw [if_neg h] at hK
                rw [show decide (n0 ≤ 3) = true from decide_eq_true (by omega)]
                conv => lhs; whnf
                exact hK _ P
              rw [show decide ((k[0] : Int) ≤ 57) = false from decide_eq_false (by omega)]
              conv => lhs; whnf
              have hsix : sixV k = false := by unfold sixV; rw [if_pos h1, hz, if_pos h2, if_neg h3]
              unfold oneV at hK
              simp only [hsix] at hK
              refine ldF Tryz.underlying2 rfl rfl T rfl ?_
              conv => lhs; whnf
              by_cases h : n0 < 1
              · rw [if_pos h] at hK
                rw [show decide (n0 ≥ 1) = false from decide_eq_false (by omega)]
                conv => lhs; whnf
                exact hK _ P
              rw [if_neg h] at hK
              rw [show decide (n0 ≥ 1) = true from decide_eq_true (by omega)]
              conv => lhs; whnf
              refine ldF Tryz.underlying2 rfl rfl T rfl ?_
              conv => lhs; whnf
              by_cases h : n0 > 3
              · rw [if_pos h] at hK
                rw [show decide (n0 ≤ 3) = false from decide_eq_false (by omega)]
                conv => lhs; whnf
                exact hK _ P
              rw [if_neg h] at hK
              rw [show decide (n0 ≤ 3) = true from decide_eq_true (by omega)]
              conv => lhs; whnf
              exact hK _ P
            rw [show decide ((k[0] : Int) ≥ 49) = false from decide_eq_false (by omega)]
            conv => lhs; whnf
            have hsix : sixV k = false := by unfold sixV; rw [if_pos h1, hz, if_neg h2]
            unfold oneV at hK
            simp only [hsix] at hK
            refine ldF Tryz.underlying2 rfl rfl T rfl ?_
            conv => lhs; whnf
            by_cases h : n0 < 1
            · rw [if_pos h] at hK
              rw [show decide (n0 ≥ 1) = false from decide_eq_false (by omega)]
              conv => lhs; whnf
              exact hK _ P
            rw [if_neg h] at hK
            rw [show decide (n0 ≥ 1) = true from decide_eq_true (by omega)]
            conv => lhs; whnf
            refine ldF Tryz.underlying2 rfl rfl T rfl ?_
            conv => lhs; whnf
            by_cases h : n0 > 3
            · rw [if_pos h] at hK
              rw [show decide (n0 ≤ 3) = false from decide_eq_false (by omega)]
              conv => lhs; whnf
              exact hK _ P
            rw [if_neg h] at hK
            rw [show decide (n0 ≤ 3) = true from decide_eq_true (by omega)]
            conv => lhs; whnf
            exact hK _ P
          rw [show (((ints k).length : Int) == 1) = false by rw [ints_len, beq_eq_false_iff_ne]; omega]
          conv => lhs; whnf
          have hsix : sixV k = false := by unfold sixV; rw [if_neg h1]
          unfold oneV at hK
          simp only [hsix] at hK
          refine ldF Tryz.underlying2 rfl rfl T rfl ?_
          conv => lhs; whnf
          by_cases h : n0 < 1
          · rw [if_pos h] at hK
            rw [show decide (n0 ≥ 1) = false from decide_eq_false (by omega)]
            conv => lhs; whnf
            exact hK _ P
          rw [if_neg h] at hK
          rw [show decide (n0 ≥ 1) = true from decide_eq_true (by omega)]
          conv => lhs; whnf
          refine ldF Tryz.underlying2 rfl rfl T rfl ?_
          conv => lhs; whnf
          by_cases h : n0 > 3
          · rw [if_pos h] at hK
            rw [show decide (n0 ≤ 3) = false from decide_eq_false (by omega)]
            conv => lhs; whnf
            exact hK _ P
          rw [if_neg h] at hK
          rw [show decide (n0 ≤ 3) = true from decide_eq_true (by omega)]
          conv => lhs; whnf
          exact hK _ P
        all_goals
          exact hK _ P
  | false =>
    conv => lhs; whnf
    refine ldF Tryz.underlying9 rfl rfl T rfl ?_
    conv => lhs; whnf
    rw [strNil, hbt]
    cases bt with
    | true =>
      conv => lhs; whnf
      refine ldF Tryz.underlying2 rfl rfl T rfl ?_
      conv => lhs; whnf
      rw [show (n0 == 0) = bn from hbn]
      cases bn with
      | true =>
        conv => lhs; whnf
        refine and_true (all_cons ?_ (all_cons ?_ (all_skip rfl rfl))) ?_
        · conv => lhs; whnf
          refine ldF Tryz.underlying2 rfl rfl T rfl ?_
          conv => lhs; whnf
          exact same_dec _
        · conv => lhs; whnf
          refine ldF Tryz.underlying9 rfl rfl T rfl ?_
          exact same_str _
        conv => lhs; whnf
        refine and_true (all_cons ?_ (all_skip rfl (all_skip rfl rfl))) ?_
        · conv => lhs; whnf
          refine ldF Tryz.underlying2 rfl rfl T rfl ?_
          conv => lhs; whnf
          exact same_dec _
        conv => lhs; whnf
        subst hKK
        conv => lhs; whnf
        refine ldF Tryz.underlying3 rfl rfl T rfl ?_
        conv => lhs; whnf
        rcases kind_cases kind with h | h | rfl | rfl | rfl | rfl | rfl | rfl | rfl | rfl | rfl | rfl | rfl | rfl
        · unfold kindV at hK
          simp only [show kind ≠ 1 by omega, show kind ≠ 2 by omega, show kind ≠ 3 by omega, show kind ≠ 4 by omega, show kind ≠ 5 by omega, show kind ≠ 6 by omega, show kind ≠ 7 by omega, show kind ≠ 8 by omega, show kind ≠ 9 by omega, show kind ≠ 10 by omega, show kind ≠ 11 by omega, show kind ≠ 12 by omega, or_self, if_false] at hK
          rw [show (kind == 1) = false by rw [beq_eq_false_iff_ne]; omega]
          conv => lhs; whnf
          rw [show (kind == 2) = false by rw [beq_eq_false_iff_ne]; omega]
          conv => lhs; whnf
          rw [show (kind == 9) = false by rw [beq_eq_false_iff_ne]; omega]
          conv => lhs; whnf
          rw [show (kind == 3) = false by rw [beq_eq_false_iff_ne]; omega]
          conv => lhs; whnf
          rw [show (kind == 5) = false by rw [beq_eq_false_iff_ne]; omega]
          conv => lhs; whnf
          rw [show (kind == 4) = false by rw [beq_eq_false_iff_ne]; omega]
          conv => lhs; whnf
          rw [show (kind == 6) = false by rw [beq_eq_false_iff_ne]; omega]
          conv => lhs; whnf
          rw [show (kind == 10) = false by rw [beq_eq_false_iff_ne]; omega]
          conv => lhs; whnf
          rw [show (kind == 7) = false by rw [beq_eq_false_iff_ne]; omega]
          conv => lhs; whnf
          rw [show (kind == 8) = false by rw [beq_eq_false_iff_ne]; omega]
          conv => lhs; whnf
          rw [show (kind == 11) = false by rw [beq_eq_false_iff_ne]; omega]
          conv => lhs; whnf
          rw [show (kind == 12) = false by rw [beq_eq_false_iff_ne]; omega]
          conv => lhs; whnf
          exact hK _ P
        · unfold kindV at hK
          simp only [show kind ≠ 1 by omega, show kind ≠ 2 by omega, show kind ≠ 3 by omega, show kind ≠ 4 by omega, show kind ≠ 5 by omega, show kind ≠ 6 by omega, show kind ≠ 7 by omega, show kind ≠ 8 by omega, show kind ≠ 9 by omega, show kind ≠ 10 by omega, show kind ≠ 11 by omega, show kind ≠ 12 by omega, or_self, if_false] at hK
          rw [show (kind == 1) = false by rw [beq_eq_false_iff_ne]; omega]
          conv => lhs; whnf
          rw [show (kind == 2) = false by rw [beq_eq_false_iff_ne]; omega]
          conv => lhs; whnf
          rw [show (kind == 9) = false by rw [beq_eq_false_iff_ne]; omega]
          conv => lhs; whnf
          rw [show (kind == 3) = false by rw [beq_eq_false_iff_ne]; omega]
          conv => lhs; whnf
          rw [show (kind == 5) = false by rw [beq_eq_false_iff_ne]; omega]
          conv => lhs; whnf
          rw [show (kind == 4) = false by rw [beq_eq_false_iff_ne]; omega]
          conv => lhs; whnf
          rw [show (kind == 6) = false by rw [beq_eq_false_iff_ne]; omega]
          conv => lhs; whnf
          rw [show (kind == 10) = false by rw [beq_eq_false_iff_ne]; omega]
          conv => lhs; whnf
          rw [show (kind == 7) = false by rw [beq_eq_false_iff_ne]; omega]
          conv => lhs; whnf
          rw [show (kind == 8) = false by rw [beq_eq_false_iff_ne]; omega]
          conv => lhs; whnf
          rw [show (kind == 11) = false by rw [beq_eq_false_iff_ne]; omega]
          conv => lhs; whnf
          rw [show (kind == 12) = false by rw [beq_eq_false_iff_ne]; omega]
          conv => lhs; whnf
          exact hK _ P
        · replace hK : ∀ σ', _ <+: σ' → K (.bool (oneV false true ⟨1, s, k, t, n0⟩)) σ' = true := hK
          refine ldF Tryz.underlying9 rfl rfl T rfl ?_
          conv => lhs; whnf
          by_cases h1 : k.length = 1
          · have hz : k.getD 0 0 = k[0] := by simp [List.getD_eq_getElem?_getD, h1]
            rw [show (((ints k).length : Int) == 1) = true by rw [ints_len, h1]; rfl]
            conv => lhs; whnf
            refine ldF Tryz.underlying9 rfl rfl T rfl ?_
            conv => lhs; whnf
            refine idxS (s := k) (i := 0) (show 0 < k.length by omega) ?_
            conv => lhs; whnf
            by_cases h2 : k[0] ≥ 49
            · rw [show decide ((k[0] : Int) ≥ 49) = true from decide_eq_true (by omega)]
              conv => lhs; whnf
              refine ldF Tryz.underlying9 rfl rfl T rfl ?_
              conv => lhs; whnf
              refine idxS (s := k) (i := 0) (show 0 < k.length by omega) ?_
              conv => lhs; whnf
              by_cases h3 : k[0] ≤ 57
              · rw [show decide ((k[0] : Int) ≤ 57) = true from decide_eq_true (by omega)]
                conv => lhs; whnf
                have hsix : sixV k = true := by unfold sixV; rw [if_pos h1, hz, if_pos h2, if_pos h3]
                unfold oneV at hK
                simp only [hsix] at hK
                refine ldF Tryz.underlying2 rfl rfl T rfl ?_
                conv => lhs; whnf
                by_cases h : n0 < 1
                · rw [if_pos h] at hK
                  rw [show decide (n0 ≥ 1) = false from decide_eq_false (by omega)]
                  conv => lhs; whnf
                  exact hK _ P
                rw [if_neg h] at hK
                rw [show decide (n0 ≥ 1) = true from decide_eq_true (by omega)]
                conv => lhs; whnf
                refine ldF Tryz.underlying2 rfl rfl T rfl ?_
                conv => lhs; whnf
                by_cases h : n0 > 3
                · rw [if_pos h] at hK
                  rw [show decide (n0 ≤ 3) = false from decide_eq_false (by omega)]
                  conv => lhs; whnf
                  exact hK _ P
                rw [if_neg h] at hK
                rw [show decide (n0 ≤ 3) = true from decide_eq_true (by omega)]
                conv => lhs; whnf
                exact hK _ P
              rw [show decide ((k[0] : Int) ≤ 57) = false from decide_eq_false (by omega)]
              conv => lhs; whnf
              have hsix : sixV k = false := by unfold sixV; rw [if_pos h1, hz, if_pos h2, if_neg h3]
              unfold oneV at hK
              simp only [hsix] at hK
              refine ldF Tryz.underlying2 rfl rfl T rfl ?_
              conv => lhs; whnf
              by_cases h : n0 < 1
              · rw [if_pos h] at hK
                rw [show decide (n0 ≥ 1) = false from decide_eq_false (by omega)]
                conv => lhs; whnf
                exact hK _ P
              rw [if_neg h] at hK
              rw [show decide (n0 ≥ 1) = true from decide_eq_true (by omega)]
              conv => lhs; whnf
              refine ldF Tryz.underlying2 rfl rfl T rfl ?_
              conv => lhs; whnf
              by_cases h : n0 > 3
              · rw [if_pos h] at hK
                rw [show decide (n0 ≤ 3) = false from decide_eq_false (by omega)]
                conv => lhs; whnf
                exact hK _ P
              rw [if_neg h] at hK
              rw [show decide (n0 ≤ 3) = true from decide_eq_true (by omega)]
              conv => lhs; whnf
              exact hK _ P
            rw [show decide ((k[0] : Int) ≥ 49) = false from decide_eq_false (by omega)]
            conv => lhs; whnf
            have hsix : sixV k = false := by unfold sixV; rw [if_pos h1, hz, if_neg h2]
            unfold oneV at hK
            simp only [hsix] at hK
            refine ldF Tryz.underlying2 rfl rfl T rfl ?_
            conv => lhs; whnf
            by_cases h : n0 < 1
            · rw [if_pos h] at hK
              rw [show decide (n0 ≥ 1) = false from decide_eq_false (by omega)]
              conv => lhs; whnf
              exact hK _ P
            rw [if_neg h] at hK
            rw [show decide (n0 ≥ 1) = true from decide_eq_true (by omega)]
            conv => lhs; whnf
            refine ldF Tryz.underlying2 rfl rfl T rfl ?_
            conv => lhs; whnf
            by_cases h : n0 > 3
            · rw [if_pos h] at hK
              rw [show decide (n0 ≤ 3) = false from decide_eq_false (by omega)]
              conv => lhs; whnf
              exact hK _ P
            rw [if_neg h] at hK
            rw [show decide (n0 ≤ 3) = true from decide_eq_true (by omega)]
            conv => lhs; whnf
            exact hK _ P
          rw [show (((ints k).length : Int) == 1) = false by rw [ints_len, beq_eq_false_iff_ne]; omega]
          conv => lhs; whnf
          have hsix : sixV k = false := by unfold sixV; rw [if_neg h1]
          unfold oneV at hK
          simp only [hsix] at hK
          refine ldF Tryz.underlying2 rfl rfl T rfl ?_
          conv => lhs; whnf
          by_cases h : n0 < 1
          · rw [if_pos h] at hK
            rw [show decide (n0 ≥ 1) = false from decide_eq_false (by omega)]
            conv => lhs; whnf
            exact hK _ P
          rw [if_neg h] at hK
          rw [show decide (n0 ≥ 1) = true from decide_eq_true (by omega)]
          conv => lhs; whnf
          refine ldF Tryz.underlying2 rfl rfl T rfl ?_
          conv => lhs; whnf
          by_cases h : n0 > 3
          · rw [if_pos h] at hK
            rw [show decide (n0 ≤ 3) = false from decide_eq_false (by omega)]
            conv => lhs; whnf
            exact hK _ P
          rw [if_neg h] at hK
          rw [show decide (n0 ≤ 3) = true from decide_eq_true (by omega)]
          conv => lhs; whnf
          exact hK _ P
        all_goals
          exact hK _ P
      | false =>
        conv => lhs; whnf
        refine and_true (all_cons ?_ (all_cons ?_ (all_skip rfl rfl))) ?_
        · conv => lhs; whnf
          refine ldF Tryz.underlying2 rfl rfl T rfl ?_
          conv => lhs; whnf
          exact same_dec _
        · conv => lhs; whnf
          refine ldF Tryz.underlying9 rfl rfl T rfl ?_
          exact same_str _
        conv => lhs; whnf
        refine and_true (all_cons ?_ (all_skip rfl (all_skip rfl rfl))) ?_
        · conv => lhs; whnf
          refine ldF Tryz.underlying2 rfl rfl T rfl ?_
          conv => lhs; whnf
          exact same_dec _
        conv => lhs; whnf
        subst hKK
        conv => lhs; whnf
        refine ldF Tryz.underlying3 rfl rfl T rfl ?_
        conv => lhs; whnf
        rcases kind_cases kind with h | h | rfl | rfl | rfl | rfl | rfl | rfl | rfl | rfl | rfl | rfl | rfl | rfl
        · unfold kindV at hK
          simp only [show kind ≠ 1 by omega, show kind ≠ 2 by omega, show kind ≠ 3 by omega, show kind ≠ 4 by omega, show kind ≠ 5 by omega, show kind ≠ 6 by omega, show kind ≠ 7 by omega, show kind ≠ 8 by omega, show kind ≠ 9 by omega, show kind ≠ 10 by omega, show kind ≠ 11 by omega, show kind ≠ 12 by omega, or_self, if_false] at hK
          rw [show (kind == 1) = false by rw [beq_eq_false_iff_ne]; omega]
          conv => lhs; whnf
          rw [show (kind == 2) = false by rw [beq_eq_false_iff_ne]; omega]
          conv => lhs; whnf
          rw [show (kind == 9) = false by rw [beq_eq_false_iff_ne]; omega]
          conv => lhs; whnf
          rw [show (kind == 3) = false by rw [beq_eq_false_iff_ne]; omega]
          conv => lhs; whnf
          rw [show (kind == 5) = false by rw [beq_eq_false_iff_ne]; omega]
          conv => lhs; whnf
          rw [show (kind == 4) = false by rw [beq_eq_false_iff_ne]; omega]
          conv => lhs; whnf
          rw [show (kind == 6) = false by rw [beq_eq_false_iff_ne]; omega]
          conv => lhs; whnf
          rw [show (kind == 10) = false by rw [beq_eq_false_iff_ne]; omega]
          conv => lhs; whnf
          rw [show (kind == 7) = false by rw [beq_eq_false_iff_ne]; omega]
          conv => lhs; whnf
          rw [show (kind == 8) = false by rw [beq_eq_false_iff_ne]; omega]
          conv => lhs; whnf
          rw [show (kind == 11) = false by rw [beq_eq_false_iff_ne]; omega]
          conv => lhs; whnf
          rw [show (kind == 12) = false by rw [beq_eq_false_iff_ne]; omega]
          conv => lhs; whnf
          exact hK _ P
        · unfold kindV at hK
          simp only [show kind ≠ 1 by omega, show kind ≠ 2 by omega, show kind ≠ 3 by omega, show kind ≠ 4 by omega, show kind ≠ 5 by omega, show kind ≠ 6 by omega, show kind ≠ 7 by omega, show kind ≠ 8 by omega, show kind ≠ 9 by omega, show kind ≠ 10 by omega, show kind ≠ 11 by omega, show kind ≠ 12 by omega, or_self, if_false] at hK
          rw [show (kind == 1) = false by rw [beq_eq_false_iff_ne]; omega]
          conv => lhs; whnf
          rw [show (kind == 2) = false by rw [beq_eq_false_iff_ne]; omega]
          conv => lhs; whnf
          rw [show (kind == 9) = false by rw [beq_eq_false_iff_ne]; omega]
          conv => lhs; whnf
          rw [show (kind == 3) = false by rw [beq_eq_false_iff_ne]; omega]
          conv => lhs; whnf
          rw [show (kind == 5) = false by rw [beq_eq_false_iff_ne]; omega]
          conv => lhs; whnf
          rw [show (kind == 4) = false by rw [beq_eq_false_iff_ne]; omega]
          conv => lhs; whnf
          rw [show (kind == 6) = false by rw [beq_eq_false_iff_ne]; omega]
          conv => lhs; whnf
          rw [show (kind == 10) = false by rw [beq_eq_false_iff_ne]; omega]
          conv => lhs; whnf
          rw [show (kind == 7) = false by rw [beq_eq_false_iff_ne]; omega]
          conv => lhs; whnf
          rw [show (kind == 8) = false by rw [beq_eq_false_iff_ne]; omega]
          conv => lhs; whnf
          rw [show (kind == 11) = false by rw [beq_eq_false_iff_ne]; omega]
          conv => lhs; whnf
          rw [show (kind == 12) = false by rw [beq_eq_false_iff_ne]; omega]
          conv => lhs; whnf
          exact hK _ P
        · replace hK : ∀ σ', _ <+: σ' → K (.bool (oneV false true ⟨1, s, k, t, n0⟩)) σ' = true := hK
          refine ldF Tryz.underlying9 rfl rfl T rfl ?_
          conv => lhs; whnf
          by_cases h1 : k.length = 1
          · have hz : k.getD 0 0 = k[0] := by simp [List.getD_eq_getElem?_getD, h1]
            rw [show (((ints k).length : Int) == 1) = true by rw [ints_len, h1]; rfl]
            conv => lhs; whnf
            refine ldF Tryz.underlying9 rfl rfl T rfl ?_
            conv => lhs; whnf
            refine idxS (s := k) (i := 0) (show 0 < k.length by omega) ?_
            conv => lhs; whnf
            by_cases h2 : k[0] ≥ 49
            · rw [show decide ((k[0] : Int) ≥ 49) = true from decide_eq_true (by omega)]
              conv => lhs; whnf
              refine ldF Tryz.underlying9 rfl rfl T rfl ?_
              conv => lhs; whnf
              refine idxS (s := k) (i := 0) (show 0 < k.length by omega) ?_
              conv => lhs; whnf
              by_cases h3 : k[0] ≤ 57
              · rw [show decide ((k[0] : Int) ≤ 57) = true from decide_eq_true (by omega)]
                conv => lhs; whnf
                have hsix : sixV k = true := by unfold sixV; rw [if_pos h1, hz, if_pos h2, if_pos h3]
                unfold oneV at hK
                simp only [hsix] at hK
                refine ldF Tryz.underlying2 rfl rfl T rfl ?_
                conv => lhs; whnf
                by_cases h : n0 < 1
                · rw [if_pos h] at hK
                  rw [show decide (n0 ≥ 1) = false from decide_eq_false (by omega)]
                  conv => lhs; whnf
                  exact hK _ P
                rw [if_neg h] at hK
                rw [show decide (n0 ≥ 1) = true from decide_eq_true (by omega)]
                conv => lhs; whnf
                refine ldF Tryz.underlying2 rfl rfl T rfl ?_
                conv => lhs; whnf
                by_cases h : n0 > 3
                · rw [if_pos h] at hK
                  rw [show decide (n0 ≤ 3) = false from decide_eq_false (by omega)]
                  conv => lhs; whnf
                  exact hK _ P
                rw [if_neg h] at hK
                rw [show decide (n0 ≤ 3) = true from decide_eq_true (by omega)]
                conv => lhs; whnf
                exact hK _ P
              rw [show decide ((k[0] : Int) ≤ 57) = false from decide_eq_false (by omega)]
              conv => lhs; whnf
              have hsix : sixV k = false := by unfold sixV; rw [if_pos h1, hz, if_pos h2, if_neg h3]
              unfold oneV at hK
              simp only [hsix] at hK
              refine ldF Tryz.underlying2 rfl rfl T rfl ?_
              conv => lhs; whnf
              by_cases h : n0 < 1
              · rw [if_pos h] at hK
                rw [show decide (n0 ≥ 1) = false from decide_eq_false (by omega)]
                conv => lhs; whnf
                exact hK _ P
              rw [if_neg h] at hK
              rw [show decide (n0 ≥ 1) = true from decide_eq_true (by omega)]
              conv => lhs; whnf
              refine ldF Tryz.underlying2 rfl rfl T rfl ?_
              conv => lhs; whnf
              by_cases h : n0 > 3
              · rw [if_pos h] at hK
                rw [show decide (n0 ≤ 3) = false from decide_eq_false (by omega)]
                conv => lhs; whnf
                exact hK _ P
              rw [if_neg h] at hK
              rw [show decide (n0 ≤ 3) = true from decide_eq_true (by omega)]
              conv => lhs; whnf
              exact hK _ P
            rw [show decide ((k[0] : Int) ≥ 49) = false from decide_eq_false (by omega)]
            conv => lhs; whnf
            have hsix : sixV k = false := by unfold sixV; rw [if_pos h1, hz, if_neg h2]
            unfold oneV at hK
            simp only [hsix] at hK
            refine ldF Tryz.underlying2 rfl rfl T rfl ?_
            conv => lhs; whnf
            by_cases h : n0 < 1
            · rw [if_pos h] at hK
              rw [show decide (n0 ≥ 1) = false from decide_eq_false (by omega)]
              conv => lhs; whnf
              exact hK _ P
            rw [if_neg h] at hK
            rw [show decide (n0 ≥ 1) = true from decide_eq_true (by omega)]
            conv => lhs; whnf
            refine ldF Tryz.underlying2 rfl rfl T rfl ?_
            conv => lhs; whnf
            by_cases h : n0 > 3
            · rw [if_pos h] at hK
              rw [show decide (n0 ≤ 3) = false from decide_eq_false (by omega)]
              conv => lhs; whnf
              exact hK _ P
            rw [if_neg h] at hK
            rw [show decide (n0 ≤ 3) = true from decide_eq_true (by omega)]
            conv => lhs; whnf
            exact hK _ P
          rw [show (((ints k).length : Int) == 1) = false by rw [ints_len, beq_eq_false_iff_ne]; omega]
          conv => lhs; whnf
          have hsix : sixV k = false := by unfold sixV; rw [if_neg h1]
          unfold oneV at hK
          simp only [hsix] at hK
          refine ldF Tryz.underlying2 rfl rfl T rfl ?_
          conv => lhs; whnf
          by_cases h : n0 < 1
          · rw [if_pos h] at hK
            rw [show decide (n0 ≥ 1) = false from decide_eq_false (by omega)]
            conv => lhs; whnf
            exact hK _ P
          rw [if_neg h] at hK
          rw [show decide (n0 ≥ 1) = true from decide_eq_true (by omega)]
          conv => lhs; whnf
          refine ldF Tryz.underlying2 rfl rfl T rfl ?_
          conv => lhs; whnf
          by_cases h : n0 > 3
          · rw [if_pos h] at hK
            rw [show decide (n0 ≤ 3) = false from decide_eq_false (by omega)]
            conv => lhs; whnf
            exact hK _ P
          rw [if_neg h] at hK
          rw [show decide (n0 ≤ 3) = true from decide_eq_true (by omega)]
          conv => lhs; whnf
          exact hK _ P
        all_goals
          exact hK _ P
    | false =>
      conv => lhs; whnf
      refine ldF Tryz.underlying2 rfl rfl T rfl ?_
      conv => lhs; whnf
      rw [show (n0 == 0) = bn from hbn]
      cases bn with
      | true =>
        conv => lhs; whnf
        refine and_true (all_cons ?_ (all_cons ?_ (all_skip rfl rfl))) ?_
        · conv => lhs; whnf
          refine ldF Tryz.underlying2 rfl rfl T rfl ?_
          conv => lhs; whnf
          exact same_dec _
        · conv => lhs; whnf
          refine ldF Tryz.underlying9 rfl rfl T rfl ?_
          exact same_str _
        conv => lhs; whnf
        refine and_true (all_cons ?_ (all_skip rfl (all_skip rfl rfl))) ?_
        · conv => lhs; whnf
          refine ldF Tryz.underlying2 rfl rfl T rfl ?_
          conv => lhs; whnf
          exact same_dec _
        conv => lhs; whnf
        subst hKK
        conv => lhs; whnf
        refine ldF Tryz.underlying3 rfl rfl T rfl ?_
        conv => lhs; whnf
        rcases kind_cases kind with h | h | rfl | rfl | rfl | rfl | rfl | rfl | rfl | rfl | rfl | rfl | rfl | rfl
        · unfold kindV at hK
          simp only [show kind ≠ 1 by omega, show kind ≠ 2 by omega, show kind ≠ 3 by omega, show kind ≠ 4 by omega, show kind ≠ 5 by omega, show kind ≠ 6 by omega, show kind ≠ 7 by omega, show kind ≠ 8 by omega, show kind ≠ 9 by omega, show kind ≠ 10 by omega, show kind ≠ 11 by omega, show kind ≠ 12 by omega, or_self, if_false] at hK
          rw [show (kind == 1) = false by rw [beq_eq_false_iff_ne]; omega]
          conv => lhs; whnf
          rw [show (kind == 2) = false by rw [beq_eq_false_iff_ne]; omega]
          conv => lhs; whnf
          rw [show (kind == 9) = false by rw [beq_eq_false_iff_ne]; omega]
          conv => lhs; whnf
          rw [show (kind == 3) = false by rw [beq_eq_false_iff_ne]; omega]
          conv => lhs; whnf
          rw [show (kind == 5) = false by rw [beq_eq_false_iff_ne]; omega]
          conv => lhs; whnf
          rw [show (kind == 4) = false by rw [beq_eq_false_iff_ne]; omega]
          conv => lhs; whnf
          rw [show (kind == 6) = false by rw [beq_eq_false_iff_ne]; omega]
          conv => lhs; whnf
          rw [show (kind == 10) = false by rw [beq_eq_false_iff_ne]; omega]
          conv => lhs; whnf
          rw [show (kind == 7) = false by rw [beq_eq_false_iff_ne]; omega]
          conv => lhs; whnf
          rw [show (kind == 8) = false by rw [beq_eq_false_iff_ne]; omega]
          conv => lhs; whnf
          rw [show (kind == 11) = false by rw [beq_eq_false_iff_ne]; omega]
          conv => lhs; whnf
          rw [show (kind == 12) = false by rw [beq_eq_false_iff_ne]; omega]
          conv => lhs; whnf
          exact hK _ P
        · unfold kindV at hK
          simp only [show kind ≠ 1 by omega, show kind ≠ 2 by omega, show kind ≠ 3 by omega, show kind ≠ 4 by omega, show kind ≠ 5 by omega, show kind ≠ 6 by omega, show kind ≠ 7 by omega, show kind ≠ 8 by omega, show kind ≠ 9 by omega, show kind ≠ 10 by omega, show kind ≠ 11 by omega, show kind ≠ 12 by omega, or_self, if_false] at hK
          rw [show (kind == 1) = false by rw [beq_eq_false_iff_ne]; omega]
          conv => lhs; whnf
          rw [show (kind == 2) = false by rw [beq_eq_false_iff_ne]; omega]
          conv => lhs; whnf
          rw [show (kind == 9) = false by rw [beq_eq_false_iff_ne]; omega]
          conv => lhs; whnf
          rw [show (kind == 3) = false by rw [beq_eq_false_iff_ne]; omega]
          conv => lhs; whnf
          rw [show (kind == 5) = false by rw [beq_eq_false_iff_ne]; omega]
          conv => lhs; whnf
          rw [show (kind == 4) = false by rw [beq_eq_false_iff_ne]; omega]
          conv => lhs; whnf
          rw [show (kind == 6) = false by rw [beq_eq_false_iff_ne]; omega]
          conv => lhs; whnf
          rw [show (kind == 10) = false by rw [beq_eq_false_iff_ne]; omega]
          conv => lhs; whnf
          rw [show (kind == 7) = false by rw [beq_eq_false_iff_ne]; omega]
          conv => lhs; whnf
          rw [show (kind == 8) = false by rw [beq_eq_false_iff_ne]; omega]
          conv => lhs; whnf
          rw [show (kind == 11) = false by rw [beq_eq_false_iff_ne]; omega]
          conv => lhs; whnf
          rw [show (kind == 12) = false by rw [beq_eq_false_iff_ne]; omega]
          conv => lhs; whnf
          exact hK _ P
        · replace hK : ∀ σ', _ <+: σ' → K (.bool (oneV false false ⟨1, s, k, t, n0⟩)) σ' = true := hK
          refine ldF Tryz.underlying9 rfl rfl T rfl ?_
          conv => lhs; whnf
          by_cases h1 : k.length = 1
          · have hz : k.getD 0 0 = k[0] := by simp [List.getD_eq_getElem?_getD, h1]
            rw [show (((ints k).length : Int) == 1) = true by rw [ints_len, h1]; rfl]
            conv => lhs; whnf
            refine ldF Tryz.underlying9 rfl rfl T rfl ?_
            conv => lhs; whnf
            refine idxS (s := k) (i := 0) (show 0 < k.length by omega) ?_
            conv => lhs; whnf
            by_cases h2 : k[0] ≥ 49
            · rw [show decide ((k[0] : Int) ≥ 49) = true from decide_eq_true (by omega)]
              conv => lhs; whnf
              refine ldF Tryz.underlying9 rfl rfl T rfl ?_
              conv => lhs; whnf
              refine idxS (s := k) (i := 0) (show 0 < k.length by omega) ?_
              conv => lhs; whnf
              by_cases h3 : k[0] ≤ 57
              · rw [show decide ((k[0] : Int) ≤ 57) = true from decide_eq_true (by omega)]
                conv => lhs; whnf
                have hsix : sixV k = true := by unfold sixV; rw [if_pos h1, hz, if_pos h2, if_pos h3]
                unfold oneV at hK
                simp only [hsix] at hK
                refine ldF Tryz.underlying2 rfl rfl T rfl ?_
                conv => lhs; whnf
                by_cases h : n0 < 1
                · rw [if_pos h] at hK
                  rw [show decide (n0 ≥ 1) = false from decide_eq_false (by omega)]
                  conv => lhs; whnf
                  exact hK _ P
                rw [if_neg h] at hK
                rw [show decide (n0 ≥ 1) = true from decide_eq_true (by omega)]
                conv => lhs; whnf
                refine ldF Tryz.underlying2 rfl rfl T rfl ?_
                conv => lhs; whnf
                by_cases h : n0 > 3
                · rw [if_pos h] at hK
                  rw [show decide (n0 ≤ 3) = false from decide_eq_false (by omega)]
                  conv => lhs; whnf
                  exact hK _ P
                rw [if_neg h] at hK
                rw [show decide (n0 ≤ 3) = true from decide_eq_true (by omega)]
                conv => lhs; whnf
                exact hK _ P
              rw [show decide ((k[0] : Int) ≤ 57) = false from decide_eq_false (by omega)]
              conv => lhs; whnf
              have hsix : sixV k = false := by unfold sixV; rw [if_pos h1, hz, if_pos h2, if_neg h3]
              unfold oneV at hK
              simp only [hsix] at hK
              refine ldF Tryz.underlying2 rfl rfl T rfl ?_
              conv => lhs; whnf
              by_cases h : n0 < 1
              · rw [if_pos h] at hK
                rw [show decide (n0 ≥ 1) = false from decide_eq_false (by omega)]
                conv => lhs; whnf
                exact hK _ P
              rw [if_neg h] at hK
              rw [show decide (n0 ≥ 1) = true from decide_eq_true (by omega)]
              conv => lhs; whnf
              refine ldF Tryz.underlying2 rfl rfl T rfl ?_
              conv => lhs; whnf
              by_cases h : n0 > 3
              · rw [if_pos h] at hK
                rw [show decide (n0 ≤ 3) = false from decide_eq_false (by omega)]
                conv => lhs; whnf
                exact hK _ P
              rw [if_neg h] at hK
              rw [show decide (n0 ≤ 3) = true from decide_eq_true (by omega)]
              conv => lhs; whnf
              exact hK _ P
            rw [show decide ((k[0] : Int) ≥ 49) = false from decide_eq_false (by omega)]
            conv => lhs; whnf
            have hsix : sixV k = false := by unfold sixV; rw [if_pos h1, hz, if_neg h2]
            unfold oneV at hK
            simp only [hsix] at hK
            refine ldF Tryz.underlying2 rfl rfl T rfl ?_
            conv => lhs; whnf
            by_cases h : n0 < 1
            · rw [if_pos h] at hK
              rw [show decide (n0 ≥ 1) = false from decide_eq_false (by omega)]
              conv => lhs; whnf
              exact hK _ P
            rw [if_neg h] at hK
            rw [show decide (n0 ≥ 1) = true from decide_eq_true (by omega)]
            conv => lhs; whnf
            refine ldF Tryz.underlying2 rfl rfl T rfl ?_
            conv => lhs; whnf
            by_cases h : n0 > 3
            · rw [if_pos h] at hK
              rw [show decide (n0 ≤ 3) = false from decide_eq_false (by omega)]
              conv => lhs; whnf
              exact hK _ P
            rw [if_neg h] at hK
            rw [show decide (n0 ≤ 3) = true from decide_eq_true (by omega)]
            conv => lhs; whnf
            exact hK _ P
          rw [show (((ints k).length : Int) == 1) = false by rw [ints_len, beq_eq_false_iff_ne]; omega]
          conv => lhs; whnf
          have hsix : sixV k = false := by unfold sixV; rw [if_neg h1]
          unfold oneV at hK
          simp only [hsix] at hK
          refine ldF Tryz.underlying2 rfl rfl T rfl ?_
          conv => lhs; whnf
          by_cases h : n0 < 1
          · rw [if_pos h] at hK
            rw [show decide (n0 ≥ 1) = false from decide_eq_false (by omega)]
            conv => lhs; whnf
            exact hK _ P
          rw [if_neg h] at hK
          rw [show decide (n0 ≥ 1) = true from decide_eq_true (by omega)]
          conv => lhs; whnf
          refine ldF Tryz.underlying2 rfl rfl T rfl ?_
          conv => lhs; whnf
          by_cases h : n0 > 3
          · rw [if_pos h] at hK
            rw [show decide (n0 ≤ 3) = false from decide_eq_false (by omega)]
            conv => lhs; whnf
            exact hK _ P
          rw [if_neg h] at hK
          rw [show decide (n0 ≤ 3) = true from decide_eq_true (by omega)]
          conv => lhs; whnf
          exact hK _ P
        all_goals
          exact hK _ P
      | false =>
        conv => lhs; whnf
        refine and_true (all_cons ?_ (all_cons ?_ (all_skip rfl rfl))) ?_
        · conv => lhs; whnf
          refine ldF Tryz.underlying2 rfl rfl T rfl ?_
          conv => lhs; whnf
          exact same_dec _
        · conv => lhs; whnf
          refine ldF Tryz.underlying9 rfl rfl T rfl ?_
          exact same_str _
        conv => lhs; whnf
        refine and_true (all_cons ?_ (all_skip rfl (all_skip rfl rfl))) ?_
        · conv => lhs; whnf
          refine ldF Tryz.underlying2 rfl rfl T rfl ?_
          conv => lhs; whnf
          exact same_dec _
        conv => lhs; whnf
        subst hKK
        conv => lhs; whnf
        refine ldF Tryz.underlying3 rfl rfl T rfl ?_
        conv => lhs; whnf
        rcases kind_cases kind with h | h | rfl | rfl | rfl | rfl | rfl | rfl | rfl | rfl | rfl | rfl | rfl | rfl
        · unfold kindV at hK
          simp only [show kind ≠ 1 by omega, show kind ≠ 2 by omega, show kind ≠ 3 by omega, show kind ≠ 4 by omega, show kind ≠ 5 by omega, show kind ≠ 6 by omega, show kind ≠ 7 by omega, show kind ≠ 8 by omega, show kind ≠ 9 by omega, show kind ≠ 10 by omega, show kind ≠ 11 by omega, show kind ≠ 12 by omega, or_self, if_false] at hK
          rw [show (kind == 1) = false by rw [beq_eq_false_iff_ne]; omega]
          conv => lhs; whnf
          rw [show (kind == 2) = false by rw [beq_eq_false_iff_ne]; omega]
          conv => lhs; whnf
          rw [show (kind == 9) = false by rw [beq_eq_false_iff_ne]; omega]
          conv => lhs; whnf
          rw [show (kind == 3) = false by rw [beq_eq_false_iff_ne]; omega]
          conv => lhs; whnf
          rw [show (kind == 5) = false by rw [beq_eq_false_iff_ne]; omega]
          conv => lhs; whnf
          rw [show (kind == 4) = false by rw [beq_eq_false_iff_ne]; omega]
          conv => lhs; whnf
          rw [show (kind == 6) = false by rw [beq_eq_false_iff_ne]; omega]
          conv => lhs; whnf
          rw [show (kind == 10) = false by rw [beq_eq_false_iff_ne]; omega]
          conv => lhs; whnf
          rw [show (kind == 7) = false by rw [beq_eq_false_iff_ne]; omega]
          conv => lhs; whnf
          rw [show (kind == 8) = false by rw [beq_eq_false_iff_ne]; omega]
          conv => lhs; whnf
          rw [show (kind == 11) = false by rw [beq_eq_false_iff_ne]; omega]
          conv => lhs; whnf
          rw [show (kind == 12) = false by rw [beq_eq_false_iff_ne]; omega]
          conv => lhs; whnf
          exact hK _ P
        · unfold kindV at hK
          simp only [show kind ≠ 1 by omega, show kind ≠ 2 by omega, show kind ≠ 3 by omega, show kind ≠ 4 by omega, show kind ≠ 5 by omega, show kind ≠ 6 by omega, show kind ≠ 7 by omega, show kind ≠ 8 by omega, show kind ≠ 9 by omega, show kind ≠ 10 by omega, show kind ≠ 11 by omega, show kind ≠ 12 by omega, or_self, if_false] at hK
          rw [show (kind == 1) = false by rw [beq_eq_false_iff_ne]; omega]
          conv => lhs; whnf
          rw [show (kind == 2) = false by rw [beq_eq_false_iff_ne]; omega]
          conv => lhs; whnf
          rw [show (kind == 9) = false by rw [beq_eq_false_iff_ne]; omega]
          conv => lhs; whnf
          rw [show (kind == 3) = false by rw [beq_eq_false_iff_ne]; omega]
          conv => lhs; whnf
          rw [show (kind == 5) = false by rw [beq_eq_false_iff_ne]; omega]
          conv => lhs; whnf
          rw [show (kind == 4) = false by rw [beq_eq_false_iff_ne]; omega]
          conv => lhs; whnf
          rw [show (kind == 6) = false by rw [beq_eq_false_iff_ne]; omega]
          conv => lhs; whnf
          rw [show (kind == 10) = false by rw [beq_eq_false_iff_ne]; omega]
          conv => lhs; whnf
          rw [show (kind == 7) = false by rw [beq_eq_false_iff_ne]; omega]
          conv => lhs; whnf
          rw [show (kind == 8) = false by rw [beq_eq_false_iff_ne]; omega]
          conv => lhs; whnf
          rw [show (kind == 11) = false by rw [beq_eq_false_iff_ne]; omega]
          conv => lhs; whnf
          rw [show (kind == 12) = false by rw [beq_eq_false_iff_ne]; omega]
          conv => lhs; whnf
          exact hK _ P
        · replace hK : ∀ σ', _ <+: σ' → K (.bool (oneV false false ⟨1, s, k, t, n0⟩)) σ' = true := hK
          refine ldF Tryz.underlying9 rfl rfl T rfl ?_
          conv => lhs; whnf
          by_cases h1 : k.length = 1
          · have hz : k.getD 0 0 = k[0] := by simp [List.getD_eq_getElem?_getD, h1]
            rw [show (((ints k).length : Int) == 1) = true by rw [ints_len, h1]; rfl]
            conv => lhs; whnf
            refine ldF Tryz.underlying9 rfl rfl T rfl ?_
            conv => lhs; whnf
            refine idxS (s := k) (i := 0) (show 0 < k.length by omega) ?_
            conv => lhs; whnf
            by_cases h2 : k[0] ≥ 49
            · rw [show decide ((k[0] : Int) ≥ 49) = true from decide_eq_true (by omega)]
              conv => lhs; whnf
              refine ldF Tryz.underlying9 rfl rfl T rfl ?_
              conv => lhs; whnf
              refine idxS (s := k) (i := 0) (show 0 < k.length by omega) ?_
              conv => lhs; whnf
              by_cases h3 : k[0] ≤ 57
              · rw [show decide ((k[0] : Int) ≤ 57) = true from decide_eq_true (by omega)]
                conv => lhs; whnf
                have hsix : sixV k = true := by unfold sixV; rw [if_pos h1, hz, if_pos h2, if_pos h3]
                unfold oneV at hK
                simp only [hsix] at hK
                refine ldF Tryz.underlying2 rfl rfl T rfl ?_
                conv => lhs; whnf
                by_cases h : n0 < 1
                · rw [if_pos h] at hK
                  rw [show decide (n0 ≥ 1) = false from decide_eq_false (by omega)]
                  conv => lhs; whnf
                  exact hK _ P
                rw [if_neg h] at hK
                rw [show decide (n0 ≥ 1) = true from decide_eq_true (by omega)]
                conv => lhs; whnf
                refine ldF Tryz.underlying2 rfl rfl T rfl ?_
                conv => lhs; whnf
                by_cases h : n0 > 3
                · rw [if_pos h] at hK
                  rw [show decide (n0 ≤ 3) = false from decide_eq_false (by omega)]
                  conv => lhs; whnf
                  exact hK _ P
                rw [if_neg h] at hK
                rw [show decide (n0 ≤ 3) = true from decide_eq_true (by omega)]
                conv => lhs; whnf
                exact hK _ P
              rw [show decide ((k[0] : Int) ≤ 57) = false from decide_eq_false (by omega)]
              conv => lhs; whnf
              have hsix : sixV k = false := by unfold sixV; rw [if_pos h1, hz, if_pos h2, if_neg h3]
              unfold oneV at hK
              simp only [hsix] at hK
              refine ldF Tryz.underlying2 rfl rfl T rfl ?_
              conv => lhs; whnf
              by_cases h : n0 < 1
              · rw [if_pos h] at hK
                rw [show decide (n0 ≥ 1) = false from decide_eq_false (by omega)]
                conv => lhs; whnf
                exact hK _ P
              rw [if_neg h] at hK
              rw [show decide (n0 ≥ 1) = true from decide_eq_true (by omega)]
              conv => lhs; whnf
              refine ldF Tryz.underlying2 rfl rfl T rfl ?_
              conv => lhs; whnf
              by_cases h : n0 > 3
              · rw [if_pos h] at hK
                rw [show decide (n0 ≤ 3) = false from decide_eq_false (by omega)]
                conv => lhs; whnf
                exact hK _ P
              rw [if_neg h] at hK
              rw [show decide (n0 ≤ 3) = true from decide_eq_true (by omega)]
              conv => lhs; whnf
              exact hK _ P
            rw [show decide ((k[0] : Int) ≥ 49) = false from decide_eq_false (by omega)]
            conv => lhs; whnf
            have hsix : sixV k = false := by unfold sixV; rw [if_pos h1, hz, if_neg h2]
            unfold oneV at hK
            simp only [hsix] at hK
            refine ldF Tryz.underlying2 rfl rfl T rfl ?_
            conv => lhs; whnf
            by_cases h : n0 < 1
            · rw [if_pos h] at hK
              rw [show decide (n0 ≥ 1) = false from decide_eq_false (by omega)]
              conv => lhs; whnf
              exact hK _ P
            rw [if_neg h] at hK
            rw [show decide (n0 ≥ 1) = true from decide_eq_true (by omega)]
            conv => lhs; whnf
            refine ldF Tryz.underlying2 rfl rfl T rfl ?_
            conv => lhs; whnf
            by_cases h : n0 > 3
            · rw [if_pos h] at hK
              rw [show decide (n0 ≤ 3) = false from decide_eq_false (by omega)]
              conv => lhs; whnf
              exact hK _ P
            rw [if_neg h] at hK
            rw [show decide (n0 ≤ 3) = true from decide_eq_true (by omega)]
            conv => lhs; whnf
            exact hK _ P
          rw [show (((ints k).length : Int) == 1) = false by rw [ints_len, beq_eq_false_iff_ne]; omega]
          conv => lhs; whnf
          have hsix : sixV k = false := by unfold sixV; rw [if_neg h1]
          unfold oneV at hK
          simp only [hsix] at hK
          refine ldF Tryz.underlying2 rfl rfl T rfl ?_
          conv => lhs; whnf
          by_cases h : n0 < 1
          · rw [if_pos h] at hK
            rw [show decide (n0 ≥ 1) = false from decide_eq_false (by omega)]
            conv => lhs; whnf
            exact hK _ P
          rw [if_neg h] at hK
          rw [show decide (n0 ≥ 1) = true from decide_eq_true (by omega)]
          conv => lhs; whnf
          refine ldF Tryz.underlying2 rfl rfl T rfl ?_
          conv => lhs; whnf
          by_cases h : n0 > 3
          · rw [if_pos h] at hK
            rw [show decide (n0 ≤ 3) = false from decide_eq_false (by omega)]
            conv => lhs; whnf
            exact hK _ P
          rw [if_neg h] at hK
          rw [show decide (n0 ≤ 3) = true from decide_eq_true (by omega)]
          conv => lhs; whnf
          exact hK _ P
        all_goals
          exact hK _ P
end Go.Proofs.YtajincfelnmlhaaGreat
namespace Go.Proofs.YtajincfelnmlhaaGreat
set_option maxRecDepth 100000
open Go Go.AM Go.AM.St
def kindOf (k : Int) : Int := if k < 3 then 0 else if k ≤ 5 then 1 else if k ≤ 9 then 2 else if k ≤ 12 then 3 else 0
/-- A client's name. -/
abbrev idv (a b : Int) : List AV := [.int .i64 a, .int .i64 b]
def clientV (a b : Int) : Bool := if a < 0 then false else if a > 8 then false else if b < 1 then false else if b > 1099511627776 then false else true
attribute [local irreducible] IntKind.wrap Int.fdiv Int.tdiv Int.tmod BitVec.ofInt appendK sliceK indexAddrK ldK storeK seenK makeSliceK lookupK updateK deleteK mapK rangeK nextK buildSliceK indexK
variable {D : Drawer} {σ : H}
theorem kind_spec {n : Nat} {k : Int} (hn : 1 ≤ n) {K : AV → H → Bool} (hK : K (.int .i64 (kindOf k)) σ = true) : acall Tryz.prog tab D n 20 [.int .i64 k] σ K = true := by
  obtain ⟨n, rfl, hn⟩ := up hn
  by_cases h : 1 ≤ k ∧ k ≤ 12
  · have : k = 1 ∨ k = 2 ∨ k = 3 ∨ k = 4 ∨ k = 5 ∨ k = 6 ∨ k = 7 ∨ k = 8 ∨ k = 9 ∨ k = 10 ∨ k = 11 ∨ k = 12 := by omega
    rcases this with rfl | rfl | rfl | rfl | rfl | rfl | rfl | rfl | rfl | rfl | rfl | rfl
    all_goals
      conv => lhs; whnf
      exact hK
  · rw [show kindOf k = 0 by unfold kindOf; split <;> first | rfl | (split <;> first | omega | (split <;> first | omega | (split <;> first | omega | rfl)))] at hK
    by_cases h1 : k < 1
    · conv => lhs; whnf
      rw [show decide (k ≥ 3) = false from decide_eq_false (by omega)]
      conv => lhs; whnf
      rw [show decide (k ≥ 6) = false from decide_eq_false (by omega)]
      conv => lhs; whnf
      rw [show decide (k ≥ 10) = false from decide_eq_false (by omega)]
      conv => lhs; whnf
      exact hK
    · conv => lhs; whnf
      rw [show decide (k ≥ 3) = true from decide_eq_true (by omega)]
      conv => lhs; whnf
      rw [show decide (k ≤ 5) = false from decide_eq_false (by omega)]
      conv => lhs; whnf
      rw [show decide (k ≥ 6) = true from decide_eq_true (by omega)]
      conv => lhs; whnf
      rw [show decide (k ≤ 9) = false from decide_eq_false (by omega)]
      conv => lhs; whnf
      rw [show decide (k ≥ 10) = true from decide_eq_true (by omega)]
      conv => lhs; whnf
      rw [show decide (k ≤ 12) = false from decide_eq_false (by omega)]
      conv => lhs; whnf
      exact hK
theorem ref_kind_spec {n : Nat} {k : Int} (hn : 1 ≤ n) {K : AV → H → Bool} (hK : K (.int .i64 (kindOf k)) σ = true) : acall Tryz.prog tab D n 21 [.int .i64 k] σ K = true := by
  obtain ⟨n, rfl, hn⟩ := up hn
  by_cases h : 1 ≤ k ∧ k ≤ 12
  · have : k = 1 ∨ k = 2 ∨ k = 3 ∨ k = 4 ∨ k = 5 ∨ k = 6 ∨ k = 7 ∨ k = 8 ∨ k = 9 ∨ k = 10 ∨ k = 11 ∨ k = 12 := by omega
    rcases this with rfl | rfl | rfl | rfl | rfl | rfl | rfl | rfl | rfl | rfl | rfl | rfl
    all_goals
      conv => lhs; whnf
      exact hK
  · rw [show kindOf k = 0 by unfold kindOf; split <;> first | rfl | (split <;> first | omega | (split <;> first | omega | (split <;> first | omega | rfl)))] at hK
    conv => lhs; whnf
    rw [show (k == 3) = false by rw [beq_eq_false_iff_ne]; omega]
    conv => lhs; whnf
    rw [show (k == 4) = false by rw [beq_eq_false_iff_ne]; omega]
    conv => lhs; whnf
    rw [show (k == 5) = false by rw [beq_eq_false_iff_ne]; omega]
    conv => lhs; whnf
    rw [show (k == 6) = false by rw [beq_eq_false_iff_ne]; omega]
    conv => lhs; whnf
    rw [show (k == 7) = false by rw [beq_eq_false_iff_ne]; omega]
    conv => lhs; whnf
    rw [show (k == 8) = false by rw [beq_eq_false_iff_ne]; omega]
    conv => lhs; whnf
    rw [show (k == 9) = false by rw [beq_eq_false_iff_ne]; omega]
    conv => lhs; whnf
    rw [show (k == 10) = false by rw [beq_eq_false_iff_ne]; omega]
    conv => lhs; whnf
    rw [show (k == 11) = false by rw [beq_eq_false_iff_ne]; omega]
    conv => lhs; whnf
    rw [show (k == 12) = false by rw [beq_eq_false_iff_ne]; omega]
    conv => lhs; whnf
    exact hK
theorem client_spec {n : Nat} {a b : Int} (hn : 1 ≤ n) {K : AV → H → Bool} (hK : ∀ σ', σ <+: σ' → K (.bool (clientV a b)) σ' = true) : acall Tryz.prog tab D n 22 [.agg (idv a b)] σ K = true := by
  obtain ⟨n, rfl, hn⟩ := up hn
  have T := get_new σ (AO.cells (idv a b) 2 .own)
  have P := List.prefix_append σ [AO.cells (idv a b) 2 .own]
  replace hK := hK _ P
  unfold clientV at hK
  conv => lhs; whnf
  refine ldF Tryz.underlying3 rfl rfl T rfl ?_
  conv => lhs; whnf
  by_cases h : a < 0
  · rw [if_pos h] at hK
    rw [show decide (a ≥ 0) = false from decide_eq_false (by omega)]
    conv => lhs; whnf
    exact hK
  rw [if_neg h] at hK
  rw [show decide (a ≥ 0) = true from decide_eq_true (by omega)]
  conv => lhs; whnf
  refine ldF Tryz.underlying3 rfl rfl T rfl ?_
  conv => lhs; whnf
  by_cases h : a > 8
  · rw [if_pos h] at hK
    rw [show decide (a ≤ 8) = false from decide_eq_false (by omega)]
    conv => lhs; whnf
    exact hK
  rw [if_neg h] at hK
  rw [show decide (a ≤ 8) = true from decide_eq_true (by omega)]
  conv => lhs; whnf
  refine ldF Tryz.underlying2 rfl rfl T rfl ?_
  conv => lhs; whnf
  by_cases h : b < 1
  · rw [if_pos h] at hK
    rw [show decide (b ≥ 1) = false from decide_eq_false (by omega)]
    conv => lhs; whnf
    exact hK
  rw [if_neg h] at hK
  rw [show decide (b ≥ 1) = true from decide_eq_true (by omega)]
  conv => lhs; whnf
  refine ldF Tryz.underlying2 rfl rfl T rfl ?_
  conv => lhs; whnf
  by_cases h : b > 1099511627776
  · rw [if_pos h] at hK
    rw [show decide (b ≤ 1099511627776) = false from decide_eq_false (by omega)]
    conv => lhs; whnf
    exact hK
  rw [if_neg h] at hK
  rw [show decide (b ≤ 1099511627776) = true from decide_eq_true (by omega)]
  conv => lhs; whnf
  exact hK
theorem ref_client_spec {n : Nat} {a b : Int} (hn : 1 ≤ n) {K : AV → H → Bool} (hK : ∀ σ', σ <+: σ' → K (.bool (clientV a b)) σ' = true) : acall Tryz.prog tab D n 23 [.agg (idv a b)] σ K = true := by
  obtain ⟨n, rfl, hn⟩ := up hn
  have T := get_new σ (AO.cells (idv a b) 2 .own)
  have P := List.prefix_append σ [AO.cells (idv a b) 2 .own]
  replace hK := hK _ P
  unfold clientV at hK
  conv => lhs; whnf
  refine ldF Tryz.underlying3 rfl rfl T rfl ?_
  conv => lhs; whnf
  by_cases h : a < 0
  · rw [if_pos h] at hK
    rw [show decide (a ≥ 0) = false from decide_eq_false (by omega)]
    conv => lhs; whnf
    exact hK
  rw [if_neg h] at hK
  rw [show decide (a ≥ 0) = true from decide_eq_true (by omega)]
  conv => lhs; whnf
  refine ldF Tryz.underlying3 rfl rfl T rfl ?_
  conv => lhs; whnf
  by_cases h : a > 8
  · rw [if_pos h] at hK
    rw [show decide (a ≤ 8) = false from decide_eq_false (by omega)]
    conv => lhs; whnf
    exact hK
  rw [if_neg h] at hK
  rw [show decide (a ≤ 8) = true from decide_eq_true (by omega)]
  conv => lhs; whnf
  refine ldF Tryz.underlying2 rfl rfl T rfl ?_
  conv => lhs; whnf
  by_cases h : b < 1
  · rw [if_pos h] at hK
    rw [show decide (b ≥ 1) = false from decide_eq_false (by omega)]
    conv => lhs; whnf
    exact hK
  rw [if_neg h] at hK
  rw [show decide (b ≥ 1) = true from decide_eq_true (by omega)]
  conv => lhs; whnf
  refine ldF Tryz.underlying2 rfl rfl T rfl ?_
  conv => lhs; whnf
  by_cases h : b > 1099511627776
  · rw [if_pos h] at hK
    rw [show decide (b ≤ 1099511627776) = false from decide_eq_false (by omega)]
    conv => lhs; whnf
    exact hK
  rw [if_neg h] at hK
  rw [show decide (b ≤ 1099511627776) = true from decide_eq_true (by omega)]
  conv => lhs; whnf
  exact hK
end Go.Proofs.YtajincfelnmlhaaGreat
namespace Go.Proofs.YtajincfelnmlhaaGreat
set_option maxRecDepth 100000
open Go Go.AM Go.AM.St
def opvs : List OpV → List AV
  | [] => []
  | o :: l => opv o ++ opvs l
theorem opvs_len : ∀ l : List OpV, (opvs l).length = l.length * 5
  | [] => rfl
  | e :: l => by rw [opvs, List.length_append, opvs_len l, List.length_cons]; simp; omega
theorem opvs_app : ∀ a b : List OpV, opvs a ++ opvs b = opvs (a ++ b)
  | [], _ => rfl
  | e :: l, b => by rw [opvs, List.append_assoc, opvs_app l b]; rfl
theorem opvs_at : ∀ {l : List OpV} {i : Nat} (h : i < l.length), ((opvs l).drop (i * 5)).take 5 = opv l[i]
  | e :: l, 0, _ => rfl
  | e :: l, i + 1, h => by
    have := opvs_at (l := l) (i := i) (by simpa using h)
    rw [opvs, List.drop_append, List.drop_eq_nil_of_le (by simp; omega), List.nil_append]
    rw [show (i + 1) * 5 - (opv e).length = i * 5 by simp; omega]
    exact this
def allV (l : List OpV) : Bool := if l.length < 1 then false else if l.length > 8 then false else l.all mayV
theorem all_take {l : List OpV} {i : Nat} (hi : i < l.length) (h : (l.take i).all mayV = true) (hb : mayV l[i] = true) : (l.take (i + 1)).all mayV = true := by
  rw [List.take_succ_eq_append_getElem hi, List.all_append, h]
  simp [hb]
theorem all_no {l : List OpV} {i : Nat} (hi : i < l.length) (hb : mayV l[i] = false) : l.all mayV = false := by
  rw [Bool.eq_false_iff]
  intro h
  have := List.all_eq_true.1 h _ (List.getElem_mem hi)
  rw [hb] at this
  cases this
attribute [local irreducible] IntKind.wrap Int.fdiv Int.tdiv Int.tmod BitVec.ofInt appendK sliceK indexAddrK ldK storeK seenK makeSliceK lookupK updateK deleteK mapK rangeK nextK buildSliceK indexK
variable {D : Drawer} {σ : H}
theorem idxV {σ : H} {s : AM.SA} {l : List OpV} (hs : Rw σ 5 s l.length (opvs l)) {k : IntKind} {y : Int} {i : Nat} {K : AV → Bool} (hy : y = (i : Int)) (hi : i < l.length) (hK : ∀ p, Elem σ 5 p (opv l[i]) → K (.ptr (some p)) = true) :
    indexAddrK Tryz.prog 24 (.sl s l.length) (.int k y) K = true := indexAddrK_rw Tryz.underlying24 (fun _ => rfl) hs hy hi (opvs_at hi) hK
theorem ldE {σ : H} {p : PA} {o : OpV} {K : AV → Bool} (hp : Elem σ 5 p (opv o)) (hK : K (.agg (opv o)) = true) : ldK Tryz.prog 23 σ p K = true := by
  refine ldK_struct Tryz.underlying23 rfl rfl hp ?_
  conv => lhs; whnf
  exact hK
theorem not_may {n : Nat} {o : OpV} (hn : 31 ≤ n) (ho : OkV o) {K : AV → H → Bool} (hK : ∀ σ', σ <+: σ' → K (.bool (!mayV o)) σ' = true) : acall Tryz.prog tab D n 58 [.agg (opv o)] σ K = true := by
  obtain ⟨n, rfl, hn⟩ := up (n := n) (k := 30) (by omega)
  conv => lhs; whnf
  refine ldV (get_new σ (AO.cells (opv o) 5 .own)) ?_
  conv => lhs; whnf
  refine may_spec (by omega) ho fun σ1 p1 => ?_
  have := hK _ ((List.prefix_append σ [AO.cells (opv o) 5 .own]).trans p1)
  generalize mayV o = b at this ⊢
  cases b with
  | true =>
    conv => lhs; whnf
    exact this
  | false =>
    conv => lhs; whnf
    exact this
theorem ix_ops {n : Nat} {s : AM.SA} {l : List OpV} (hn : l.length + 40 ≤ n) (hl : l.length ≤ 9223372036854775806) (hs : Rw σ 5 s l.length (opvs l)) (ho : ∀ o ∈ l, OkV o) {K : AV → H → Bool}
    (h0 : l.all mayV = true → ∀ σ', σ <+: σ' → K (.int .i64 (-1)) σ' = true) (h1 : l.all mayV = false → ∀ (i : Nat) σ', σ <+: σ' → K (.int .i64 (i : Int)) σ' = true) :
    acall Tryz.prog tab D n 74 [.sl s l.length, .fn 58 []] σ K = true := by
  obtain ⟨n, rfl, hn⟩ := up (n := n) (k := l.length + 39) (by omega)
  conv => lhs; whnf
  refine loop_rule (m := 387) (fun q fr τ => ∃ (z : Int) (i : Nat), z = (i : Int) ∧ i + q = l.length ∧ (l.take i).all mayV = true ∧ σ <+: τ ∧ fr = [.sl s l.length, .fn 58 [], .bad, .bad, .bad, .bad, .bad, .int .i64 l.length, .int .i64 z, .bad, .bad, .bad, .bad, .bad, .bad, .bad, .bad, .bad, .bad]) ?_ _ l.length _ _ (by omega) ⟨_, 0, rfl, by omega, rfl, List.prefix_rfl, rfl⟩
  rintro q fr τ C ⟨z, i, rfl, hq, hlo, p, rfl⟩ next fin
  conv => lhs; whnf
  by_cases hi : i < l.length
  · rw [show decide ((i : Int) < (l.length : Int)) = true from decide_eq_true (by omega)]
    conv => lhs; whnf
    refine idxV (hs.mono p) rfl hi fun pe he => ?_
    conv => lhs; whnf
    refine ldE he ?_
    conv => lhs; whnf
    refine not_may (by omega) (ho _ (List.getElem_mem hi)) fun σ1 p1 => ?_
    cases hm : mayV l[i] with
    | false =>
      have := h1 (all_no hi hm) i _ (p.trans p1)
      conv => lhs; whnf
      refine fin _ _ _ nofun ?_
      conv => lhs; whnf
      exact this
    | true =>
      conv => lhs; whnf
      refine next (q - 1) _ _ (by omega) ⟨_, i + 1, inc_i64 (by omega), by omega, all_take hi hlo hm, p.trans p1, rfl⟩
  rw [show decide ((i : Int) < (l.length : Int)) = false from decide_eq_false (by omega)]
  rw [List.take_of_length_le (by omega)] at hlo
  have := h0 hlo _ p
  conv => lhs; whnf
  refine fin _ _ _ nofun ?_
  conv => lhs; whnf
  exact this
theorem has_ops {n : Nat} {s : AM.SA} {l : List OpV} (hn : l.length + 45 ≤ n) (hl : l.length ≤ 9223372036854775806) (hs : Rw σ 5 s l.length (opvs l)) (ho : ∀ o ∈ l, OkV o) {K : AV → H → Bool}
    (hK : ∀ σ', σ <+: σ' → K (.bool (!l.all mayV)) σ' = true) : acall Tryz.prog tab D n 57 [.sl s l.length, .fn 58 []] σ K = true := by
  obtain ⟨n, rfl, hn⟩ := up (n := n) (k := l.length + 44) (by omega)
  conv => lhs; whnf
  refine ix_ops (by omega) hl hs ho (fun h σ' p => ?_) fun h i σ' p => ?_
  · have := hK σ' p
    rw [h] at this
    conv => lhs; whnf
    exact this
  · have := hK σ' p
    rw [h] at this
    conv => lhs; whnf
    exact this
theorem all_spec {n : Nat} {s : AM.SA} {l : List OpV} (hn : l.length + 50 ≤ n) (hl : l.length ≤ 9223372036854775806) (hs : Rw σ 5 s l.length (opvs l)) (ho : ∀ o ∈ l, OkV o) {K : AV → H → Bool}
    (hK : ∀ σ', σ <+: σ' → K (.bool (allV l)) σ' = true) : acall Tryz.prog tab D n 18 [.sl s l.length] σ K = true := by
  obtain ⟨n, rfl, hn⟩ := up (n := n) (k := l.length + 49) (by omega)
  unfold allV at hK
  conv => lhs; whnf
  by_cases h : l.length < 1
  · rw [if_pos h] at hK
    rw [show decide ((l.length : Int) ≥ 1) = false from decide_eq_false (by omega)]
    conv => lhs; whnf
    exact hK _ List.prefix_rfl
  rw [if_neg h] at hK
  rw [show decide ((l.length : Int) ≥ 1) = true from decide_eq_true (by omega)]
  conv => lhs; whnf
  by_cases h : l.length > 8
  · rw [if_pos h] at hK
    rw [show decide ((l.length : Int) ≤ 8) = false from decide_eq_false (by omega)]
    conv => lhs; whnf
    exact hK _ List.prefix_rfl
  rw [if_neg h] at hK
  rw [show decide ((l.length : Int) ≤ 8) = true from decide_eq_true (by omega)]
  conv => lhs; whnf
  refine has_ops (by omega) hl hs ho fun σ1 p1 => ?_
  have := hK _ p1
  generalize l.all mayV = b at this ⊢
  cases b with
  | true =>
    conv => lhs; whnf
    exact this
  | false =>
    conv => lhs; whnf
    exact this
theorem ref_all_spec {n : Nat} {s : AM.SA} {l : List OpV} (hD : ByPlan Tryz.prog D) (hn : l.length + 50 ≤ n) (hn2 : ∀ o ∈ l, o.s.length + 40 ≤ n ∧ o.s.length ≤ 9223372036854775807) (hl : l.length ≤ 9223372036854775806) (hs : Rw σ 5 s l.length (opvs l)) {K : AV → H → Bool}
    (hK : ∀ σ', σ <+: σ' → K (.bool (allV l)) σ' = true) : acall Tryz.prog tab D n 19 [.sl s l.length] σ K = true := by
  obtain ⟨n, rfl, hn⟩ := up (n := n) (k := l.length + 49) (by omega)
  unfold allV at hK
  conv => lhs; whnf
  refine loop_rule (m := 9) (fun q fr τ => ∃ (z : Int) (i : Nat), z = (i : Int) ∧ i + q = l.length ∧ (l.take i).all mayV = true ∧ σ <+: τ ∧ fr = [.sl s l.length, .bad, .bad, .int .i64 z, .bad, .bad, .bad, .bad, .bad, .bad, .bad, .bad, .bad, .bad, .bad, .bad, .bad, .bad, .bad, .bad, .bad, .bad, .bad, .bad]) ?_ _ l.length _ _ (by omega) ⟨_, 0, rfl, by omega, rfl, List.prefix_rfl, rfl⟩
  rintro q fr τ C ⟨z, i, rfl, hq, hlo, p, rfl⟩ next fin
  conv => lhs; whnf
  by_cases hi : i < l.length
  · rw [show decide ((i : Int) < (l.length : Int)) = true from decide_eq_true (by omega)]
    conv => lhs; whnf
    refine idxV (hs.mono p) rfl hi fun pe he => ?_
    conv => lhs; whnf
    refine ldE he ?_
    conv => lhs; whnf
    have hz := hn2 _ (List.getElem_mem hi)
    refine ref_may_spec hD (by omega) hz.2 fun σ1 p1 => ?_
    rw [refV_eq]
    cases hm : mayV l[i] with
    | false =>
      have := hK _ (p.trans p1)
      rw [all_no hi hm] at this
      conv => lhs; whnf
      refine fin _ _ _ nofun ?_
      conv => lhs; whnf
      split at this
      · exact this
      · split at this <;> exact this
    | true =>
      conv => lhs; whnf
      refine next (q - 1) _ _ (by omega) ⟨_, i + 1, inc_i64 (by omega), by omega, all_take hi hlo hm, p.trans p1, rfl⟩
  rw [show decide ((i : Int) < (l.length : Int)) = false from decide_eq_false (by omega)]
  rw [List.take_of_length_le (by omega)] at hlo
  rw [hlo] at hK
  conv => lhs; whnf
  refine fin _ _ _ nofun ?_
  conv => lhs; whnf
  by_cases h : l.length < 1
  · rw [if_pos h] at hK
    rw [show decide ((l.length : Int) ≥ 1) = false from decide_eq_false (by omega)]
    conv => lhs; whnf
    exact hK _ p
  rw [if_neg h] at hK
  rw [show decide ((l.length : Int) ≥ 1) = true from decide_eq_true (by omega)]
  conv => lhs; whnf
  by_cases h : l.length > 8
  · rw [if_pos h] at hK
    rw [show decide ((l.length : Int) ≤ 8) = false from decide_eq_false (by omega)]
    conv => lhs; whnf
    exact hK _ p
  rw [if_neg h] at hK
  rw [show decide ((l.length : Int) ≤ 8) = true from decide_eq_true (by omega)]
  conv => lhs; whnf
  exact hK _ p
end Go.Proofs.YtajincfelnmlhaaGreat
namespace Go.Proofs.YtajincfelnmlhaaGreat
set_option maxRecDepth 100000
open Go Go.AM Go.AM.St
theorem shp_i {σ : H} {m : Nat} {t : TypeId} {k : IntKind} {cs : List AV} (ht : Tryz.prog.underlying t = some (.int k)) (h : Shp Tryz.prog σ (m + 1) t cs) : ∃ i, cs = [.int k i] ∧ k.min ≤ i ∧ i ≤ k.max := by
  unfold Shp at h
  rw [ht] at h
  obtain ⟨i, h1, h2⟩ := h
  simp only [Lit.wf, Bool.and_eq_true, decide_eq_true_eq] at h2
  exact ⟨i, h1, h2.1, h2.2⟩
theorem shp_s {σ : H} {m : Nat} {t : TypeId} {cs : List AV} (ht : Tryz.prog.underlying t = some .string) (h : Shp Tryz.prog σ (m + 1) t cs) : ∃ bs : List Nat, cs = [.str (ints bs)] ∧ (∀ b ∈ bs, b < 256) ∧ bs.length ≤ maxLen := by
  unfold Shp at h
  rw [ht] at h
  obtain ⟨s, h1, h2⟩ := h
  obtain ⟨bs, e1, e2, e3⟩ := ints_bytesL s
  exact ⟨bs, by rw [h1, e1], e2, by omega⟩
/-- An operation whose texts are not too long. -/
structure OkL (o : OpV) : Prop where
  ok : OkV o
  s : o.s.length ≤ maxLen
  k : o.k.length ≤ maxLen
  t : o.t.length ≤ maxLen
theorem op_shp {σ : H} {m : Nat} {cs : List AV} (hl : cs.length = 5) (h : Shp Tryz.prog σ (m + 2) 23 cs) : ∃ o, cs = opv o ∧ OkL o := by
  match cs, hl with
  | [x, y, z, u, v], _ =>
    unfold Shp at h
    rw [Tryz.underlying23] at h
    obtain ⟨k, e1, k1, k2⟩ := shp_i (m := m) (cs := [x]) Tryz.underlying3 (h _ (.head _))
    cases e1
    obtain ⟨s, e2, s1, s2⟩ := shp_s (m := m) (cs := [y]) Tryz.underlying9 (h _ (.tail _ (.head _)))
    cases e2
    obtain ⟨s', e3, s3, s4⟩ := shp_s (m := m) (cs := [z]) Tryz.underlying9 (h _ (.tail _ (.tail _ (.head _))))
    cases e3
    obtain ⟨s'', e4, s5, s6⟩ := shp_s (m := m) (cs := [u]) Tryz.underlying9 (h _ (.tail _ (.tail _ (.tail _ (.head _)))))
    cases e4
    obtain ⟨n, e5, k3, k4⟩ := shp_i (m := m) (cs := [v]) Tryz.underlying2 (h _ (.tail _ (.tail _ (.tail _ (.tail _ (.head _))))))
    cases e5
    exact ⟨⟨k, s, s', s'', n⟩, rfl, ⟨⟨s1, s3, s5, k3, k4, k1, k2⟩, s2, s4, s6⟩⟩
theorem arg_op {σ : H} {a : AV} (ha : ArgShp Tryz.prog σ 9 23 a) : ∃ o, a = .agg (opv o) ∧ OkL o := by
  unfold ArgShp at ha
  rw [Tryz.underlying23] at ha
  obtain ⟨cs, rfl, hl, h⟩ := ha
  obtain ⟨o, rfl, ho⟩ := op_shp (m := 7) hl h
  exact ⟨o, rfl, ho⟩
theorem shp_ops {σ : H} {m : Nat} : ∀ {k : Nat} {xs : List AV}, xs.length = k * 5 → (∀ i, i < k → Shp Tryz.prog σ (m + 2) 23 ((xs.drop (i * 5)).take 5)) → ∃ l : List OpV, xs = opvs l ∧ l.length = k ∧ ∀ o ∈ l, OkL o := by
  intro k
  induction k with
  | zero => intro xs hl _; exact ⟨[], List.length_eq_zero_iff.1 (by omega), rfl, fun o ho => by simp at ho⟩
  | succ k ih =>
    intro xs hl h
    have h0 := h 0 (by omega)
    rw [Nat.zero_mul, List.drop_zero] at h0
    obtain ⟨o, e1, i1⟩ := op_shp (by rw [List.length_take]; omega) h0
    obtain ⟨l, e2, hlen, i2⟩ := ih (xs := xs.drop 5) (by rw [List.length_drop]; omega) (fun i hi => by
      have := h (i + 1) (by omega)
      rw [List.drop_drop]
      rwa [show 5 + i * 5 = (i + 1) * 5 by omega])
    refine ⟨o :: l, ?_, by simp [hlen], fun e he => ?_⟩
    · rw [opvs, ← e2]
      conv => lhs; rw [← List.take_append_drop 5 xs, e1]
    · rcases List.mem_cons.1 he with rfl | he
      · exact i1
      · exact i2 e he
theorem arg_ops {σ : H} {a : AV} (ha : ArgShp Tryz.prog σ 9 24 a) : ∃ (s : AM.SA) (l : List OpV), a = .sl s l.length ∧ Rw σ 5 s l.length (opvs l) ∧ (∀ o ∈ l, OkL o) ∧ l.length ≤ maxLen := by
  obtain ⟨s, m, xs, rfl, h2, h3, h4⟩ := arg_slice Tryz.underlying24 ha
  have hl := h2.len
  obtain ⟨l, rfl, hk, i1⟩ := shp_ops (m := 6) hl h4
  subst hk
  exact ⟨s, l, rfl, h2, i1, h3⟩
theorem arg_cid {σ : H} {a : AV} (ha : ArgShp Tryz.prog σ 9 26 a) : ∃ c e : Int, a = .agg (idv c e) ∧ -9223372036854775808 ≤ c ∧ c ≤ 9223372036854775807 ∧ -9223372036854775808 ≤ e ∧ e ≤ 9223372036854775807 := by
  unfold ArgShp at ha
  rw [Tryz.underlying26] at ha
  obtain ⟨cs, rfl, hl, h⟩ := ha
  match cs, hl with
  | [x, y], _ =>
    unfold Shp at h
    rw [Tryz.underlying26] at h
    obtain ⟨k, e1, k1, k2⟩ := shp_i (m := 7) (cs := [x]) Tryz.underlying3 (h _ (.head _))
    cases e1
    obtain ⟨k', e2, k3, k4⟩ := shp_i (m := 7) (cs := [y]) Tryz.underlying2 (h _ (.tail _ (.head _)))
    cases e2
    exact ⟨k, k', rfl, k1, k2, k3, k4⟩
variable {D : Drawer}
/-- What the laws begin with. -/
theorem begun_spec {n : Nat} {σ : H} {K : AV → H → Bool} (hK : K (.bool true) σ = true) : acall Tryz.prog tab D n 14 [] σ K = true := by
  cases n <;> exact hK
end Go.Proofs.YtajincfelnmlhaaGreat
