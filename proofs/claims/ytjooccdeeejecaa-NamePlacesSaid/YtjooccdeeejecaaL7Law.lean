/- The laws on places of names. -/
import Derived.Test.YtjooccdeeejecaaL7Name
import Derived.KernelRfl
namespace Go.Proofs.Ytjooccdeeejecaa
open Go Go.AM Go.AM.St

theorem tmod_lo {c n : Int} (h : 1 ≤ n) : -n < c.tmod n ∧ c.tmod n < n := by
  have h1 := Int.tmod_lt_of_pos c (by omega : 0 < n)
  have h2 := Int.neg_tmod (a := c) (b := n)
  have h3 := Int.tmod_lt_of_pos (-c) (by omega : 0 < n)
  rw [h2] at h3
  omega
def coordN (c n : Int) : Int := if n < 1 then 0 else if c.tmod n < 0 then c.tmod n + n else c.tmod n
attribute [local irreducible] IntKind.wrap Int.fdiv Int.tdiv Int.tmod BitVec.ofInt appendK sliceK indexAddrK ldK storeK seenK makeSliceK eqSK
set_option maxRecDepth 100000
variable {D : Drawer}

theorem coord_spec {n : Nat} {c q : Int} (hn : 1 ≤ n) (h2 : q ≤ 9223372036854775807) {σ : H} (K : AV → H → Bool) (hK : K (.int .i64 (coordN c q)) σ = true) : acall Try.prog tab D n 19 [.int .i64 c, .int .i64 q] σ K = true := by
  obtain ⟨n, rfl, hn⟩ := up hn
  unfold coordN at hK
  conv => lhs; whnf
  refine bif_case (fun h => ?_) (fun h => ?_)
  · rw [if_pos (by simpa using h)] at hK
    exact hK
  · have h1 : ¬ q < 1 := by simpa using h
    rw [if_neg h1] at hK
    conv => lhs; whnf
    refine bif_neg (by simp; omega) ?_
    conv => lhs; whnf
    refine bif_case (fun h => ?_) (fun h => ?_)
    · rw [if_pos (by simpa using h)] at hK
      conv => lhs; whnf
      have := tmod_lo (c := c) (n := q) (by omega)
      have h0 : c.tmod q < 0 := by simpa using h
      rw [wrap_i64 (by omega) (by omega)]
      exact hK
    · rw [if_neg (by simpa using h)] at hK
      exact hK
theorem shard17_spec {n : Nat} {bs : List Nat} {q : Int} (hn : bs.length + 5 ≤ n) (h2 : q ≤ 9223372036854775807) {σ : H} (hb : ∀ b ∈ bs, b < 256) (hl : bs.length < 1000000) (K : AV → H → Bool)
    (hK : ∀ σ', σ <+: σ' → K (.int .i64 (shardN bs q : Int)) σ' = true) : acall Try.prog tab D n 17 [.str (ints bs), .int .i64 q] σ K = true := by
  obtain ⟨n, rfl, hn⟩ := up hn
  conv => lhs; whnf
  refine shards_spec (by omega) h2 hb hl _ fun σ' h => ?_
  conv => lhs; whnf
  exact hK _ h
theorem less16_spec {n : Nat} {p q : Int × Int} (hn : 7 ≤ n) (hD : ByPlan Try.prog D) {σ : H} (K : AV → H → Bool) (hK : ∀ σ', σ <+: σ' → K (.bool (ltI p q)) σ' = true) : acall Try.prog tab D n 16 [idA p, idA q] σ K = true := by
  obtain ⟨n, rfl, hn⟩ := up hn
  conv => lhs; whnf
  have g2 := get_old (get_new σ (AO.cells [AV.int .i64 p.1, .int .i64 p.2] 2 .own)) (AO.cells [AV.int .i64 q.1, .int .i64 q.2] 2 .own)
  have g3 := get_new (σ ++ [AO.cells [AV.int .i64 p.1, .int .i64 p.2] 2 .own]) (AO.cells [AV.int .i64 q.1, .int .i64 q.2] 2 .own)
  have p2 : σ <+: σ ++ [AO.cells [AV.int .i64 p.1, .int .i64 p.2] 2 .own] ++ [AO.cells [AV.int .i64 q.1, .int .i64 q.2] 2 .own] := prefix_add (prefix_add (List.prefix_refl _) _) _
  refine ldId g2 rfl (Nat.le_refl _) ?_
  conv => lhs; whnf
  refine ldId g3 rfl (Nat.le_refl _) ?_
  conv => lhs; whnf
  refine order24_spec (p := p) (q := q) (by omega) hD _ fun σ' h => ?_
  have := hK σ' (List.IsPrefix.trans p2 h)
  rw [← ordI_neg] at this
  conv => lhs; whnf
  refine bif_case (fun h => ?_) (fun h => ?_)
  · rw [h] at this; exact this
  · rw [h] at this; exact this
theorem rless_spec {n : Nat} {p q : Int × Int} (hn : 1 ≤ n) {σ : H} (K : AV → H → Bool) (hK : ∀ σ', σ <+: σ' → K (.bool (ltI p q)) σ' = true) : acall Try.prog tab D n 20 [idA p, idA q] σ K = true := by
  obtain ⟨n, rfl, hn⟩ := up hn
  conv => lhs; whnf
  have g2 := get_old (get_new σ (AO.cells [AV.int .i64 p.1, .int .i64 p.2] 2 .own)) (AO.cells [AV.int .i64 q.1, .int .i64 q.2] 2 .own)
  have g3 := get_new (σ ++ [AO.cells [AV.int .i64 p.1, .int .i64 p.2] 2 .own]) (AO.cells [AV.int .i64 q.1, .int .i64 q.2] 2 .own)
  have p2 : σ <+: σ ++ [AO.cells [AV.int .i64 p.1, .int .i64 p.2] 2 .own] ++ [AO.cells [AV.int .i64 q.1, .int .i64 q.2] 2 .own] := prefix_add (prefix_add (List.prefix_refl _) _) _
  have hk := hK _ p2
  unfold ltI at hk
  refine ldC g2 ?_
  conv => lhs; whnf
  refine ldC g3 ?_
  conv => lhs; whnf
  refine bif_case (fun h => ?_) (fun h => ?_)
  · rw [h] at hk
    conv => lhs; whnf
    exact hk
  · rw [h] at hk
    conv => lhs; whnf
    refine ldC g2 ?_
    conv => lhs; whnf
    refine ldC g3 ?_
    conv => lhs; whnf
    refine bif_case (fun h' => ?_) (fun h' => ?_)
    · have e : decide (p.1 = q.1) = true := by simpa using h'
      rw [e] at hk
      conv => lhs; whnf
      refine ldQ g2 ?_
      conv => lhs; whnf
      refine ldQ g3 ?_
      conv => lhs; whnf
      refine bif_case (fun h'' => ?_) (fun h'' => ?_)
      · rw [h''] at hk; exact hk
      · rw [h''] at hk; exact hk
    · have e : decide (p.1 = q.1) = false := by simpa using h'
      rw [e] at hk
      conv => lhs; whnf
      exact hk

theorem shardN_lt {bs : List Nat} {q : Int} (h : 1 ≤ q) : (shardN bs q : Int) < q := by
  unfold shardN
  rw [if_neg (by omega)]
  have : markN 1 bs % q.toNat < q.toNat := Nat.mod_lt _ (by omega)
  omega
theorem turnN (q : Int) : ∃ r : Int, 1 ≤ r ∧ r ≤ 3 ∧ IntKind.i64.wrap (1 + (IntKind.i64.wrap (q.tmod 3 + 3)).tmod 3) = r := by
  have h1 := tmod_lo (c := q) (n := 3) (by decide)
  rw [wrap_i64 (x := q.tmod 3 + 3) (by omega) (by omega)]
  have h2 : (q.tmod 3 + 3).tmod 3 = (((q.tmod 3 + 3).toNat % 3 : Nat) : Int) := by
    have : q.tmod 3 + 3 = ((q.tmod 3 + 3).toNat : Int) := by omega
    rw [this]
    exact tmod_nat _ _
  have h3 : (q.tmod 3 + 3).toNat % 3 < 3 := Nat.mod_lt _ (by decide)
  rw [h2, wrap_i64 (by omega) (by omega)]
  exact ⟨_, by omega, by omega, rfl⟩
theorem coordN_lo {c q : Int} (h : 1 ≤ q) : 0 ≤ coordN c q ∧ coordN c q < q := by
  have := tmod_lo (c := c) (n := q) h
  unfold coordN
  rw [if_neg (by omega)]
  split <;> omega
theorem coordN_one (c : Int) : coordN c 1 = 0 := by
  have := coordN_lo (c := c) (q := 1) (by decide)
  omega
theorem shardN_one (bs : List Nat) : (shardN bs 1 : Int) = 0 := by
  have := shardN_lt (bs := bs) (q := 1) (by decide)
  omega
theorem spread_run {n : Nat} (hn : 400 ≤ n) {c q : Int} {bs : List Nat} (hb : ∀ b ∈ bs, b < 256) {σ : H} : acall Try.prog tab D n 7 [.int .i64 c, .int .i64 q, .str (ints bs)] σ isTrue = true := by
  obtain ⟨n, rfl, hn⟩ := up hn
  conv => lhs; whnf
  refine begun_spec ?_
  conv => lhs; whnf
  refine sliceK_str Try.underlying9 0 (min bs.length 30) (.inl ⟨rfl, rfl⟩) (.inr ⟨_, _, rfl, ?_⟩) (Nat.zero_le _) (Nat.min_le_left _ _) (bs.take 30) ?_ ?_
  · simp [ints]; omega
  · rw [List.drop_zero, Nat.min_comm, ← List.take_take, List.take_length]
  have lz : ∀ b ∈ bs.take 30, b < 256 := fun b h => hb b (List.mem_of_mem_take h)
  have sz : (bs.take 30).length ≤ 30 := by rw [List.length_take]; omega
  show (splitB (.str (ints (bs.take 30))) _) = true
  generalize bs.take 30 = zs at lz sz ⊢
  conv => lhs; whnf
  obtain ⟨r, r1, r2, e⟩ := turnN q
  rw [e]
  refine coord_spec (by omega) (by omega) _ ?_
  conv => lhs; whnf
  refine shard17_spec (by omega) (by omega) lz (by omega) _ fun σ1 p1 => ?_
  have k1 := coordN_lo (c := c) (q := r) r1
  have s1 := shardN_lt (bs := zs) (q := r) r1
  conv => lhs; whnf
  refine bif_pos (by simpa using k1.1) ?_
  conv => lhs; whnf
  refine bif_pos (by simpa using k1.2) ?_
  conv => lhs; whnf
  refine bif_pos (by simpa using s1) ?_
  conv => lhs; whnf
  refine coord_spec (by omega) (by decide) _ ?_
  conv => lhs; whnf
  refine bif_pos (by rw [coordN_one]; rfl) ?_
  conv => lhs; whnf
  refine shard17_spec (by omega) (by decide) lz (by omega) _ fun σ2 p2 => ?_
  conv => lhs; whnf
  refine bif_pos (by rw [shardN_one]; rfl) ?_
  rfl

theorem ltI_asym {p q : Int × Int} : (ltI p q && ltI q p) = false := by
  unfold ltI
  rw [Bool.eq_false_iff]
  simp only [ne_eq, Bool.and_eq_true, Bool.or_eq_true, decide_eq_true_eq]
  omega
theorem ltI_tot {p q : Int × Int} : (ltI p q || ltI q p) = !(decide (p.1 = q.1) && decide (p.2 = q.2)) := by
  unfold ltI
  rw [Bool.eq_iff_iff]
  simp only [Bool.and_eq_true, Bool.or_eq_true, decide_eq_true_eq, Bool.not_eq_true', Bool.and_eq_false_iff, decide_eq_false_iff_not]
  omega
theorem ltI_trans {p q r : Int × Int} (h : ltI p q = true) (k : ltI q r = true) : ltI p r = true := by
  unfold ltI at *
  simp only [Bool.and_eq_true, Bool.or_eq_true, decide_eq_true_eq] at *
  omega

theorem plain28 : plainS Try.prog 28 = true := by kernel_rfl
theorem eqId {x y : Int × Int} {b : Bool} (hb : (x.1 == y.1 && (x.2 == y.2 && true)) = b) {K : Bool → Bool} (h : K b = true) : eqSK Try.prog 28 [.int .i64 x.1, .int .i64 x.2] [.int .i64 y.1, .int .i64 y.2] K = true := by
  subst hb
  unfold eqSK
  rw [plain28]
  exact h
theorem same_id (p : Int × Int) : sameV (idA p) (idA p) = true := by simp [sameV, sameL, sameLeaf]

theorem spread_law (σ : H) (vs : List AV) (h : ArgsShp Try.prog σ 9 [3, 3, 9] vs) : ∃ n, acall Try.prog tab (drawRegion Try.prog) n 7 vs σ isTrue = true := by
  obtain ⟨a, vs, rfl, h1, h⟩ := args_cons h
  obtain ⟨b, vs, rfl, h2, h⟩ := args_cons h
  obtain ⟨c, vs, rfl, h3, h⟩ := args_cons h
  obtain rfl := args_nil h
  obtain ⟨x, rfl, _, _⟩ := arg_int Try.underlying3 h1
  obtain ⟨y, rfl, _, _⟩ := arg_int Try.underlying3 h2
  obtain ⟨bs, rfl, hb, _⟩ := arg_str Try.underlying9 h3
  exact ⟨400, spread_run (Nat.le_refl _) hb⟩
end Go.Proofs.Ytjooccdeeejecaa
