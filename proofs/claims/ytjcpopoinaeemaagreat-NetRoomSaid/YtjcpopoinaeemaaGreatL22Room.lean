/- Package net: parcels of one kind. -/
import Derived.Test.YtjcpopoinaeemaaGreatL1Tab
import Derived.Test.YtjcpopoinaeemaaGreatL1Plans
import Derived.Test.YtjcpopoinaeemaaGreatGmStep
import Derived.Test.YtjcpopoinaeemaaGreatAmFlat
import Derived.KernelRfl
namespace Go.Proofs.YtjcpopoinaeemaaGreat
set_option maxRecDepth 100000
open Go Go.AM Go.AM.St
abbrev Pq := Int × Int
abbrev pq (p : Pq) : List AV := [.int .i64 p.1, .int .i64 p.2, .int .i64 0, .int .i64 0, .int .i64 0, .int .i64 0, .int .i64 0, .int .i64 0, .int .i64 0, .bool false, .sl .nil 0, .int .i64 4, .sl .nil 0, .sl .nil 0, .bool true]
theorem pq_len (p : Pq) : (pq p).length = 15 := rfl
theorem same_pq (p : Pq) : sameV (.agg (pq p)) (.agg (pq p)) = true := by simp [sameV, sameL, sameLeaf]
theorem up {n k : Nat} (h : k + 1 ≤ n) : ∃ m, n = Nat.succ m ∧ k ≤ m := ⟨n - 1, by omega, by omega⟩
variable {σ : H}
theorem ldP {p : PA} {x : Pq} {K : AV → Bool} (hp : Elem σ 15 p (pq x)) (hK : K (.agg (pq x)) = true) : ldK Tryz.prog 30 σ p K = true := by
  refine ldK_struct Tryz.underlying30 rfl rfl hp ?_
  conv => lhs; whnf
  exact hK
theorem ldP1 {h : Nat} {x : Pq} {md : Md} {K : AV → Bool} (hh : σ[h]? = some (.cells (pq x) 15 md)) (hK : K (.agg (pq x)) = true) : ldK Tryz.prog 30 σ ⟨h, 0, 0, 15⟩ K = true := ldP ⟨rfl, rfl, _, _, hh, Nat.le_refl 15, rfl⟩ hK
theorem storeP {h : Nat} {xs : List AV} {x : Pq} {K : H → Bool} (hx : xs.length = 15) (hh : σ[h]? = some (.cells xs 15 .own)) (hK : K (σ.set h (.cells (pq x) 15 .own)) = true) : storeK Tryz.prog 30 (.ptr (some ⟨h, 0, 0, 15⟩)) (.agg (pq x)) σ K = true :=
  storeS (i := Tryz.prog.types[30]) rfl hh rfl hx (Nat.le_refl 15) rfl hK
theorem storeNP {xs : List AV} {x : Pq} {K : H → Bool} (hx : xs.length = 15) (hK : K (σ ++ [AO.cells (pq x) 15 .own]) = true) : storeK Tryz.prog 30 (.ptr (some ⟨σ.length, 0, 0, 15⟩)) (.agg (pq x)) (σ ++ [AO.cells xs 15 .own]) K = true :=
  storeP hx (get_new _ _) (by simpa using hK)
theorem set_same {σ : H} {id : Nat} {x : AO} (h : σ[id]? = some x) : σ.set id x = σ := by
  obtain ⟨h1, e⟩ := List.getElem?_eq_some_iff.1 h
  rw [← e, List.set_getElem_self]
theorem storeK_same {t : TypeId} {i : TypeInfo} (hi : Tryz.prog.info? t = some i) (hz : i.size = 1) {id b d zz y : Nat} {v : AV} {xs : List AV} {K : H → Bool} (hd : d + 1 ≤ zz) (hr : σ[id]? = some (AO.cells xs y .own)) (hl : isLeaf v = true) (hx : xs[b + d]? = some v)
    (hK : K σ = true) : storeK Tryz.prog t (.ptr (some ⟨id, b, d, zz⟩)) v σ K = true := by
  obtain ⟨h1, e⟩ := List.getElem?_eq_some_iff.1 hx
  refine storeK_of hi hz hd hr hl h1 ?_
  rw [← e, List.set_getElem_self, set_same hr]
  exact hK
theorem storeS_same {t : TypeId} {i : TypeInfo} (hi : Tryz.prog.info? t = some i) {id b d zz y : Nat} {v : AV} {xs : List AV} {K : H → Bool} (hv : v.cells.length = i.size) (hd : d + i.size ≤ zz) (hr : σ[id]? = some (AO.cells xs y .own)) (hl : leafy v.cells = true) (hb : b + d + i.size ≤ xs.length)
    (hx : (xs.drop (b + d)).take i.size = v.cells) (hK : K σ = true) : storeK Tryz.prog t (.ptr (some ⟨id, b, d, zz⟩)) v σ K = true := by
  unfold storeK
  rw [hi]
  simp only
  refine rowK_of hr ?_
  refine bif_pos (by simp [hv, hd, hb, hl]) ?_
  rw [← hx, show xs.drop (b + d + i.size) = (xs.drop (b + d)).drop i.size from (List.drop_drop).symm, List.append_assoc, List.take_append_drop, List.take_append_drop, set_same hr]
  exact hK
/-- A row's part from its k-th parcel to its end. -/
def Cut (σ : H) (a : AM.SA) (n : Nat) (L : List Pq) (k : Nat) : Prop := (L = [] ∧ k = 0 ∧ a = .nil ∧ n = 0) ∨ ∃ id, σ[id]? = some (.cells (L.flatMap pq) 15 .own) ∧ a = .at id (k * 15) 15 ∧ n + k = L.length
theorem Cut.len {a : AM.SA} {n k : Nat} {L : List Pq} (h : Cut σ a n L k) : n + k = L.length := by
  rcases h with ⟨rfl, rfl, rfl, rfl⟩ | ⟨id, h1, h2, h3⟩
  · rfl
  · exact h3
theorem Cut.rw {a : AM.SA} {n k : Nat} {L : List Pq} (h : Cut σ a n L k) : Rw σ 15 a n ((L.drop k).flatMap pq) := by
  rcases h with ⟨rfl, rfl, rfl, rfl⟩ | ⟨id, h1, rfl, h3⟩
  · exact Rw.nil _ _
  · refine .inr (.inr ⟨id, k * 15, _, _, rfl, h1, ?_, ?_⟩)
    · rw [fm_len pq_len, ← h3]; omega
    · rw [fm_drop pq_len]
      refine List.take_of_length_le ?_
      rw [fm_len pq_len, List.length_drop, ← h3]; omega
theorem Cut.keep {σ' : H} {a : AM.SA} {n k : Nat} {L : List Pq} (h : Cut σ a n L k) (hk : ∀ (id : Nat) (cs : List AV) (md : Md), σ[id]? = some (AO.cells cs 15 md) → σ'[id]? = some (AO.cells cs 15 md)) : Cut σ' a n L k := by
  rcases h with h | ⟨id, h1, h2, h3⟩
  · exact .inl h
  · exact .inr ⟨id, hk _ _ _ h1, h2, h3⟩
theorem appP {a b : AM.SA} {n k : Nat} {L : List Pq} {p : Pq} (hC : Cut σ a n L k) (hx : Rw σ 15 b 1 (pq p)) (hn : n ≤ 1000000) {K : AV → H → Bool}
    (hK : ∀ a' σ', Cut σ' a' (n + 1) (L ++ [p]) k → (∀ (j z : Nat) (cs : List AV) (md : Md), z ≠ 15 → σ[j]? = some (AO.cells cs z md) → σ'[j]? = some (AO.cells cs z md)) → K (.sl a' (n + 1)) σ' = true) : appendK Tryz.prog 36 (.sl a n) (.sl b 1) σ K = true := by
  unfold appendK
  rw [Tryz.underlying36]
  simp only
  rw [show Tryz.prog.info? 30 = some Tryz.prog.types[30] from rfl]
  simp only
  refine bif_neg rfl (bif_neg rfl (bif_pos (decide_eq_true (by show (n + 1) * 168 ≤ _; omega)) ?_))
  refine seenK_rw (z := 15) hx ?_
  rw [show isStructT Tryz.prog 30 = true from rfl]
  show appendK.move σ K a n 1 (pq p) 15 = true
  rcases hC with ⟨rfl, rfl, rfl, rfl⟩ | ⟨id, h1, rfl, h3⟩
  · refine hK _ _ (.inr ⟨_, get_new _ _, rfl, rfl⟩) fun j z cs md _ h => get_old h _
  · unfold appendK.move
    refine rowK_of h1 ?_
    have hl : k * 15 + n * 15 = (L.flatMap pq).length := by rw [fm_len pq_len, ← h3]; omega
    refine bif_pos (by simp only [beq_self_eq_true, Bool.true_and, hl, Nat.le_refl, decide_true, Bool.and_true]; rfl) ?_
    refine bif_pos (by rw [hl]; exact beq_self_eq_true _) ?_
    refine hK _ _ (.inr ⟨σ.length, ?_, rfl, by rw [List.length_append, ← h3, List.length_singleton]; omega⟩) fun j z cs md hz h => ?_
    · have e : σ.length = (σ.set id AO.dead).length := List.length_set.symm
      rw [List.flatMap_append]
      simp
    · refine get_old (get_set_ne h (fun e => ?_) _) _
      subst e
      rw [h1] at h
      cases h
      exact hz rfl
theorem cutP {a : AM.SA} {n k j : Nat} {y : Int} {L : List Pq} (hC : Cut σ a n L k) (hy : y = (j : Int)) (hj : j ≤ n) {K : AV → Bool} (hK : ∀ a', Cut σ a' (n - j) L (k + j) → K (.sl a' (n - j)) = true) :
    sliceK Tryz.prog 36 (.sl a n) (some (.int .i64 y)) none none K = true := by
  subst hy
  unfold sliceK
  rw [Tryz.underlying36]
  simp only
  rcases hC with ⟨rfl, rfl, rfl, rfl⟩ | ⟨id, h1, rfl, h3⟩
  · obtain rfl : j = 0 := by omega
    exact hK .nil (.inl ⟨rfl, rfl, rfl, rfl⟩)
  · simp only
    rw [show ∀ K, esizeK Tryz.prog 30 K = K 15 from fun _ => rfl]
    refine bif_pos rfl (boundK_of (.inl ⟨rfl, rfl⟩) (Nat.zero_le _) (Nat.le_refl _) (boundK_of (.inl ⟨rfl, rfl⟩) (Nat.zero_le _) (Nat.le_refl _) (boundK_of (.inr ⟨_, _, rfl, rfl⟩) (Nat.zero_le _) hj ?_)))
    exact hK _ (.inr ⟨id, h1, by rw [Nat.add_mul], by omega⟩)
theorem idxE {id off n i : Nat} {k : IntKind} {y : Int} {K : AV → Bool} (hy : y = (i : Int)) (hi : i < n) (hK : K (.ptr (some ⟨id, off + i * 15, 0, 15⟩)) = true) : indexAddrK Tryz.prog 36 (.sl (.at id off 15) n) (.int k y) K = true := by
  subst hy
  unfold indexAddrK
  rw [Tryz.underlying36]
  simp only
  rw [show ∀ K, esizeK Tryz.prog 30 K = K 15 from fun _ => rfl]
  refine bif_pos (by simp; omega) ?_
  simpa using hK
theorem storeE {id k i : Nat} {pre V : List Pq} {x : Pq} {K : H → Bool} (hp : pre.length = k) (hi : i < V.length) (hr : σ[id]? = some (AO.cells ((pre ++ V).flatMap pq) 15 .own)) (hK : K (σ.set id (AO.cells ((pre ++ V.set i x).flatMap pq) 15 .own)) = true) :
    storeK Tryz.prog 30 (.ptr (some ⟨id, k * 15 + i * 15, 0, 15⟩)) (.agg (pq x)) σ K = true := by
  subst hp
  unfold storeK
  rw [show Tryz.prog.info? 30 = some Tryz.prog.types[30] from rfl]
  simp only
  refine rowK_of hr ?_
  have hl : ((pre ++ V).flatMap pq).length = (pre.length + V.length) * 15 := by rw [fm_len pq_len, List.length_append]
  refine bif_pos ?_ ?_
  · have h1 : decide (pre.length * 15 + i * 15 + 0 + 15 ≤ ((pre ++ V).flatMap pq).length) = true := decide_eq_true (by rw [hl]; omega)
    show (true && true && true && decide (pre.length * 15 + i * 15 + 0 + 15 ≤ ((pre ++ V).flatMap pq).length) && true) = true
    rw [h1]; rfl
  · have e := fm_set pq_len (l := pre ++ V) (i := pre.length + i) (by rw [List.length_append]; omega) x
    rw [Nat.add_mul, List.set_append_right _ _ (by omega), Nat.add_sub_cancel_left] at e
    show K (σ.set id (AO.cells (((pre ++ V).flatMap pq).take (pre.length * 15 + i * 15) ++ pq x ++ ((pre ++ V).flatMap pq).drop (pre.length * 15 + i * 15 + 15)) 15 .own)) = true
    rw [e]
    exact hK
theorem cutA {id k : Nat} {pre V : List Pq} (hp : pre.length = k) (hr : σ[id]? = some (AO.cells ((pre ++ V).flatMap pq) 15 .own)) : Rw σ 15 (.at id (k * 15) 15) V.length (V.flatMap pq) := by
  have h : Cut σ (.at id (k * 15) 15) V.length (pre ++ V) k := .inr ⟨id, hr, rfl, by rw [List.length_append, hp]; omega⟩
  have := h.rw
  rw [← hp, List.drop_left] at this
  rw [← hp]
  exact this
theorem slE {id off n lo : Nat} {y : Int} {K : AV → Bool} (hy : y = (lo : Int)) (hlo : lo ≤ n) (hK : K (.sl (.at id (off + lo * 15) 15) (n - lo)) = true) : sliceK Tryz.prog 36 (.sl (.at id off 15) n) (some (.int .i64 y)) none none K = true := by
  subst hy
  unfold sliceK
  rw [Tryz.underlying36]
  simp only
  rw [show ∀ K, esizeK Tryz.prog 30 K = K 15 from fun _ => rfl]
  exact bif_pos rfl (boundK_of (.inl ⟨rfl, rfl⟩) (Nat.zero_le _) (Nat.le_refl _) (boundK_of (.inl ⟨rfl, rfl⟩) (Nat.zero_le _) (Nat.le_refl _) (boundK_of (.inr ⟨_, _, rfl, rfl⟩) (Nat.zero_le _) hlo hK)))
theorem slF {id off n hi : Nat} {y : Int} {K : AV → Bool} (hy : y = (hi : Int)) (hhi : hi ≤ n) (hK : K (.sl (.at id off 15) hi) = true) : sliceK Tryz.prog 36 (.sl (.at id off 15) n) none (some (.int .i64 y)) none K = true := by
  subst hy
  unfold sliceK
  rw [Tryz.underlying36]
  simp only
  rw [show ∀ K, esizeK Tryz.prog 30 K = K 15 from fun _ => rfl]
  exact bif_pos rfl (boundK_of (.inl ⟨rfl, rfl⟩) (Nat.zero_le _) (Nat.le_refl _) (boundK_of (.inr ⟨_, _, rfl, rfl⟩) (Nat.zero_le _) hhi (boundK_of (.inl ⟨rfl, rfl⟩) (Nat.zero_le _) (Nat.zero_le _) (by simpa using hK))))
theorem clearE {id k i n : Nat} {pre V : List Pq} {K : H → Bool} (hp : pre.length = k) (hi : i < V.length) (hn : n = V.length - i) (hr : σ[id]? = some (AO.cells ((pre ++ V).flatMap pq) 15 .own))
    (hK : ∀ xs, Rw (σ.set id (AO.cells xs 15 .own)) 15 (.at id (k * 15) 15) i ((V.take i).flatMap pq) → K (σ.set id (AO.cells xs 15 .own)) = true) : clearK Tryz.prog 36 (.sl (.at id (k * 15 + i * 15) 15) n) σ K = true := by
  subst hp hn
  unfold clearK
  rw [Tryz.underlying36]
  simp only
  refine bif_neg (by simp; omega) ?_
  rw [show ∀ K, zeroK Tryz.prog 30 K = K (.agg [.int .i64 0, .int .i64 0, .int .i64 0, .int .i64 0, .int .i64 0, .int .i64 0, .int .i64 0, .int .i64 0, .int .i64 0, .bool false, .sl .nil 0, .int .i64 0, .sl .nil 0, .sl .nil 0, .bool false]) from fun _ => rfl]
  refine rowK_of hr ?_
  have hl : ((pre ++ V).flatMap pq).length = (pre.length + V.length) * 15 := by rw [fm_len pq_len, List.length_append]
  refine bif_pos ?_ ?_
  · have h1 : decide (pre.length * 15 + i * 15 + (V.length - i) * 15 ≤ ((pre ++ V).flatMap pq).length) = true := decide_eq_true (by rw [hl]; omega)
    show (true && true && decide (pre.length * 15 + i * 15 + (V.length - i) * 15 ≤ ((pre ++ V).flatMap pq).length) && true) = true
    rw [h1]; rfl
  · refine hK _ (.inr (.inr ⟨id, _, _, _, rfl, get_set hr _, ?_, ?_⟩))
    · rw [List.length_append, List.length_append, List.length_take, hl]; omega
    · have e : ((pre ++ V).flatMap pq).take (pre.length * 15 + i * 15) = pre.flatMap pq ++ (V.take i).flatMap pq := by
        rw [← Nat.add_mul, fm_take pq_len, List.take_append, List.take_of_length_le (by omega), Nat.add_sub_cancel_left, List.flatMap_append]
      rw [e, List.append_assoc, List.append_assoc]
      have e1 : (pre.flatMap pq).length = pre.length * 15 := fm_len pq_len _
      have e2 : ((V.take i).flatMap pq).length = i * 15 := by rw [fm_len pq_len, List.length_take, Nat.min_eq_left (by omega)]
      rw [← e1, List.drop_left, ← e2, List.take_left]
theorem build36 {x : Pq} {K : AV → H → Bool} (hK : K (.sl (.at σ.length 0 15) 1) (σ ++ [.cells (pq x) 15 .own]) = true) : buildSliceK Tryz.prog 36 1 [(0, .agg (pq x))] σ K = true := by
  conv => lhs; whnf
  exact hK
attribute [local irreducible] IntKind.wrap Int.fdiv Int.tdiv Int.tmod BitVec.ofInt appendK sliceK indexAddrK ldK storeK seenK makeSliceK lookupK updateK clearK buildSliceK
variable {D : Drawer}
theorem begun_spec {n : Nat} {K : AV → H → Bool} (hK : K (.bool true) σ = true) : acall Tryz.prog tab D n 6 [] σ K = true := by
  cases n <;> exact hK
theorem neq_spec {n : Nat} {p q : Pq} (hn : 1 ≤ n) (h : p.1 ≠ q.1) {K : AV → H → Bool} (hK : ∀ σ', σ <+: σ' → K (.bool false) σ' = true) : acall Tryz.prog tab D n 14 [.agg (pq p), .agg (pq q)] σ K = true := by
  obtain ⟨n, rfl, hn⟩ := up hn
  have g2 := get_new (σ ++ [AO.cells (pq p) 15 .own]) (AO.cells (pq q) 15 .own)
  have g1 := get_old (get_new σ (AO.cells (pq p) 15 .own)) (AO.cells (pq q) 15 .own)
  conv => lhs; whnf
  refine ldF rfl rfl rfl g1 rfl ?_
  conv => lhs; whnf
  refine ldF rfl rfl rfl g2 rfl ?_
  conv => lhs; whnf
  have e : (p.1 == q.1) = false := by simpa using h
  rw [e]
  conv => lhs; whnf
  exact hK _ (prefix_add (List.prefix_append _ _) _)

theorem own32 {n : Nat} {k : Int} (hn : 2 ≤ n) (hD : ByPlan Tryz.prog D) {K : AV → H → Bool} (hK : ∀ σ', σ <+: σ' → K (.agg [.int .i64 k, .sl .nil 0, .sl .nil 0]) σ' = true) : acall Tryz.prog tab D n 32 [.agg [.int .i64 k, .sl .nil 0, .sl .nil 0]] σ K = true := by
  obtain ⟨n, rfl⟩ : ∃ m, n = Nat.succ (Nat.succ m) := ⟨n - 2, by omega⟩
  have g2 := get_new (σ ++ [AO.cells [.int .i64 k, .sl .nil 0, .sl .nil 0] 3 .own]) (AO.cells [.int .i64 0, .sl .nil 0, .sl .nil 0] 3 .own)
  have g1 := get_old (get_new σ (AO.cells [.int .i64 k, .sl .nil 0, .sl .nil 0] 3 .own)) (AO.cells [.int .i64 0, .sl .nil 0, .sl .nil 0] 3 .own)
  conv => lhs; whnf
  refine hD.go plan32x1 ord32x1 ?_
  conv => lhs; whnf
  refine ldF rfl rfl rfl g1 rfl ?_
  conv => lhs; whnf
  refine ldF rfl rfl rfl g1 rfl ?_
  conv => lhs; whnf
  refine and_true (all_cons ?_ (all_skip rfl rfl)) ?_
  · conv => lhs; whnf
    refine ldF rfl rfl rfl g1 rfl ?_
    rfl
  conv => lhs; whnf
  refine storeK_same (i := Tryz.prog.types[25]) rfl rfl (by show 1 + 1 ≤ 3; decide) g1 rfl rfl ?_
  conv => lhs; whnf
  refine storeK_same (i := Tryz.prog.types[26]) rfl rfl (by show 2 + 1 ≤ 3; decide) g1 rfl rfl ?_
  conv => lhs; whnf
  refine ldS Tryz.underlying28 rfl g1 (Nat.le_refl 3) (Nat.le_refl 3) rfl ?_
  conv => lhs; whnf
  refine storeS rfl g2 rfl rfl (Nat.le_refl 3) rfl ?_
  conv => lhs; whnf
  refine ldS Tryz.underlying28 rfl (get_set g2 _) (Nat.le_refl 3) (Nat.le_refl 3) rfl ?_
  conv => lhs; whnf
  refine hK _ ?_
  exact prefix_set (List.IsPrefix.trans (List.prefix_append _ _) (List.prefix_append _ _)) (prefix_len (List.prefix_append _ _)) _

theorem clone33 {n : Nat} (hn : 1 ≤ n) {K : AV → H → Bool} (hK : K (.sl .nil 0) σ = true) : acall Tryz.prog tab D n 33 [.sl .nil 0] σ K = true := by
  obtain ⟨n, rfl, hn⟩ := up hn
  conv => lhs; whnf
  exact hK
abbrev pq0 : List AV := [.int .i64 0, .int .i64 0, .int .i64 0, .int .i64 0, .int .i64 0, .int .i64 0, .int .i64 0, .int .i64 0, .int .i64 0, .bool false, .sl .nil 0, .int .i64 0, .sl .nil 0, .sl .nil 0, .bool false]
theorem own_spec {n : Nat} {p : Pq} (hn : 3 ≤ n) (hD : ByPlan Tryz.prog D) {K : AV → H → Bool} (hK : ∀ σ', σ <+: σ' → K (.agg (pq p)) σ' = true) : acall Tryz.prog tab D n 21 [.agg (pq p)] σ K = true := by
  obtain ⟨n, rfl, hn⟩ := up hn
  have g2 := get_new (σ ++ [AO.cells (pq p) 15 .own]) (AO.cells pq0 15 .own)
  have g1 := get_old (get_new σ (AO.cells (pq p) 15 .own)) (AO.cells pq0 15 .own)
  conv => lhs; whnf
  refine ldS Tryz.underlying28 rfl g1 (by show 11 + 3 ≤ 15; decide) (by show 0 + 11 + 3 ≤ 15; decide) rfl ?_
  conv => lhs; whnf
  refine own32 (by omega) hD fun σ1 p1 => ?_
  have h1 := prefix_get p1 g1
  have h2 := prefix_get p1 g2
  conv => lhs; whnf
  refine storeS_same (i := Tryz.prog.types[28]) rfl rfl (by show 11 + 3 ≤ 15; decide) h1 rfl (by show 0 + 11 + 3 ≤ 15; decide) rfl ?_
  conv => lhs; whnf
  refine ldF rfl rfl rfl h1 rfl ?_
  conv => lhs; whnf
  refine clone33 (by omega) ?_
  conv => lhs; whnf
  refine storeK_same (i := Tryz.prog.types[22]) rfl rfl (by show 10 + 1 ≤ 15; decide) h1 rfl rfl ?_
  conv => lhs; whnf
  refine ldF rfl rfl rfl h1 rfl ?_
  conv => lhs; whnf
  refine loop_rule (m := 393222) (fun q fr τ => τ = σ1 ∧ fr = [.bad, .ptr (some ⟨σ.length, 0, 0, 15⟩), .ptr (some ⟨(σ ++ [AO.cells (pq p) 15 .own]).length, 0, 0, 15⟩), .bad, .bad, .bad, .bad, .bad, .bad, .bad, .bad, .bad, .bad, .bad, .bad, .bad, .bad, .int .i64 0, .int .i64 0, .bad, .bad, .bad, .bad, .bad, .bad, .bad, .bad, .bad, .bad, .bad, .bad, .bad, .bad, .bad, .bad, .bad, .bad]) ?_ _ 1 _ _ (by omega) ⟨rfl, rfl⟩
  rintro q fr τ C ⟨rfl, rfl⟩ next fin
  conv => lhs; whnf
  refine fin _ _ _ nofun ?_
  conv => lhs; whnf
  refine ldP1 h1 ?_
  conv => lhs; whnf
  refine storeP rfl h2 ?_
  conv => lhs; whnf
  refine ldP1 (get_set h2 _) ?_
  conv => lhs; whnf
  refine hK _ ?_
  exact prefix_set (List.IsPrefix.trans (List.IsPrefix.trans (List.prefix_append _ _) (List.prefix_append _ _)) p1) (prefix_len (List.prefix_append _ _)) _
theorem sent_spec {n c : Nat} {p q : Pq} {md : Md} (hn : 2 ≤ n) (h : p.1 ≠ q.1) (hc : σ[c]? = some (AO.cells (pq p) 15 md)) {K : AV → H → Bool} (hK : ∀ σ', σ <+: σ' → K (.bool false) σ' = true) : acall Tryz.prog tab D n 20 [.agg (pq q), .ptr (some ⟨c, 0, 0, 15⟩)] σ K = true := by
  obtain ⟨n, rfl, hn⟩ := up hn
  conv => lhs; whnf
  refine ldP1 (get_old hc _) ?_
  conv => lhs; whnf
  refine ldP1 (get_new _ _) ?_
  conv => lhs; whnf
  refine neq_spec (by omega) h fun σ1 p1 => ?_
  conv => lhs; whnf
  exact hK _ (List.IsPrefix.trans (List.prefix_append _ _) p1)
theorem to_spec {n c : Nat} {q : Pq} {y : Int} {md : Md} (hn : 1 ≤ n) (hc : σ[c]? = some (AO.cells [.int .i64 y] 1 md)) {K : AV → H → Bool} (hK : ∀ σ', σ <+: σ' → K (.bool (q.2 == y)) σ' = true) : acall Tryz.prog tab D n 26 [.agg (pq q), .ptr (some ⟨c, 0, 0, 1⟩)] σ K = true := by
  obtain ⟨n, rfl, hn⟩ := up hn
  have g1 := get_new σ (AO.cells (pq q) 15 .own)
  have g2 := get_old hc (AO.cells (pq q) 15 .own)
  conv => lhs; whnf
  refine ldF rfl rfl rfl g1 rfl ?_
  conv => lhs; whnf
  refine ldF rfl rfl rfl g2 rfl ?_
  have h := hK _ (List.prefix_append σ [AO.cells (pq q) 15 .own])
  conv => lhs; whnf
  generalize (q.2 == y) = b at h ⊢
  cases b
  · conv => lhs; whnf
    exact h
  · conv => lhs; whnf
    exact h

theorem idxP {s : AM.SA} {l : List Pq} (hs : Rw σ 15 s l.length (l.flatMap pq)) {k : IntKind} {y : Int} {i : Nat} {K : AV → Bool} (hy : y = (i : Int)) (hi : i < l.length) (hK : ∀ p, Elem σ 15 p (pq l[i]) → K (.ptr (some p)) = true) :
    indexAddrK Tryz.prog 36 (.sl s l.length) (.int k y) K = true := indexAddrK_rw Tryz.underlying36 (fun _ => rfl) hs hy hi (fm_at pq_len hi) hK
theorem idxF {s : AM.SA} {l : List Pq} (hs : Rw σ 15 s l.length (l.flatMap pq)) {k : IntKind} {y : Int} {i : Nat} {K : AV → Bool} (hy : y = (i : Int)) (hi : i < l.length)
    (hK : ∀ (id b : Nat) (xs : List AV) (md : Md), σ[id]? = some (AO.cells xs 15 md) → xs[b + 0]? = some (.int .i64 l[i].1) → xs[b + 1]? = some (.int .i64 l[i].2) → K (.ptr (some ⟨id, b, 0, 15⟩)) = true) :
    indexAddrK Tryz.prog 36 (.sl s l.length) (.int k y) K = true := by
  refine idxP hs hy hi fun p hp => ?_
  obtain ⟨id, b, d, z⟩ := p
  obtain ⟨h1, h2, xs, md, h3, h4, h5⟩ := hp
  simp only at h1 h2 h3 h4 h5
  subst h1 h2
  have g : ∀ j, j < 15 → xs[b + j]? = (pq l[i])[j]? := fun j hj => by rw [← h5, List.getElem?_take_of_lt hj, List.getElem?_drop]
  exact hK id b xs md h3 (g 0 (by decide)) (g 1 (by decide))
def fidx (P : Pq → Bool) (l : List Pq) : Int := if l.findIdx P < l.length then (l.findIdx P : Int) else -1
theorem idxf_spec {n g : Nat} {a : PA} {P : Pq → Bool} {l : List Pq} {s : AM.SA} (hn : l.length + 3 ≤ n) (hl : l.length ≤ 10000) (hs : Rw σ 15 s l.length (l.flatMap pq))
    (hc : ∀ m x τ, n ≤ m + 1 → x ∈ l → σ <+: τ → ∀ K : AV → H → Bool, (∀ τ', τ <+: τ' → K (.bool (P x)) τ' = true) → acall Tryz.prog tab D m g [.agg (pq x), .ptr (some a)] τ K = true)
    {K : AV → H → Bool} (hK : ∀ σ', σ <+: σ' → K (.int .i64 (fidx P l)) σ' = true) : acall Tryz.prog tab D n 31 [.sl s l.length, .fn g [.ptr (some a)]] σ K = true := by
  obtain ⟨n, rfl, hn⟩ := up hn
  conv => lhs; whnf
  refine loop_rule (m := 387) (fun q fr τ => ∃ (z : Int) (i : Nat), z = (i : Int) ∧ i + q = l.length ∧ σ <+: τ ∧ i ≤ l.findIdx P ∧ fr = [.sl s l.length, .fn g [.ptr (some a)], .bad, .bad, .bad, .bad, .bad, .int .i64 l.length, .int .i64 z, .bad, .bad, .bad, .bad, .bad, .bad, .bad, .bad, .bad, .bad]) ?_ _ l.length _ _ (by omega)
    ⟨_, 0, rfl, by omega, List.prefix_refl _, Nat.zero_le _, rfl⟩
  rintro q fr τ C ⟨z, i, rfl, hq, hp, hf, rfl⟩ next fin
  conv => lhs; whnf
  by_cases hi : i < l.length
  case neg =>
    rw [show decide ((i : Int) < (l.length : Int)) = false from decide_eq_false (by omega)]
    conv => lhs; whnf
    refine fin _ _ _ nofun ?_
    conv => lhs; whnf
    have h := hK _ hp
    rw [fidx, if_neg (by omega)] at h
    exact h
  rw [show decide ((i : Int) < (l.length : Int)) = true from decide_eq_true (by omega)]
  conv => lhs; whnf
  refine idxP (hs.mono hp) rfl hi fun p1 e1 => ?_
  conv => lhs; whnf
  refine ldP e1 ?_
  conv => lhs; whnf
  refine hc _ _ _ (by omega) (List.getElem_mem hi) hp _ fun τ1 q1 => ?_
  cases hP : P l[i] with
  | true =>
    conv => lhs; whnf
    refine fin _ _ _ nofun ?_
    have e : l.findIdx P = i := (List.findIdx_eq hi).2 ⟨hP, fun j hj => by
      have := List.not_of_lt_findIdx (p := P) (xs := l) (i := j) (by omega)
      simpa using this⟩
    have h := hK _ (List.IsPrefix.trans hp q1)
    rw [fidx, e, if_pos hi] at h
    conv => lhs; whnf
    exact h
  | false =>
    conv => lhs; whnf
    refine next (q - 1) _ _ (by omega) ⟨_, i + 1, inc_i64 (by omega), by omega, List.IsPrefix.trans hp q1, ?_, rfl⟩
    rcases Nat.lt_or_ge i (l.findIdx P) with h | h
    · exact h
    · have e : l.findIdx P = i := by omega
      have h2 := List.findIdx_getElem (p := P) (xs := l) (w := by omega)
      simp only [e, hP] at h2
      cases h2
theorem fidx_none {P : Pq → Bool} {l : List Pq} (h : ∀ x ∈ l, P x = false) : fidx P l = -1 := by
  unfold fidx
  rw [if_neg]
  intro hlt
  have h1 := List.findIdx_getElem (p := P) (xs := l) (w := hlt)
  rw [h _ (List.getElem_mem hlt)] at h1
  cases h1
theorem cont_no {n g : Nat} {a : PA} {l : List Pq} {s : AM.SA} (hn : l.length + 4 ≤ n) (hl : l.length ≤ 10000) (hs : Rw σ 15 s l.length (l.flatMap pq))
    (hc : ∀ m x τ, n ≤ m + 2 → x ∈ l → σ <+: τ → ∀ K : AV → H → Bool, (∀ τ', τ <+: τ' → K (.bool false) τ' = true) → acall Tryz.prog tab D m g [.agg (pq x), .ptr (some a)] τ K = true)
    {K : AV → H → Bool} (hK : ∀ σ', σ <+: σ' → K (.bool false) σ' = true) : acall Tryz.prog tab D n 19 [.sl s l.length, .fn g [.ptr (some a)]] σ K = true := by
  obtain ⟨n, rfl, hn⟩ := up hn
  conv => lhs; whnf
  refine idxf_spec (P := fun _ => false) (by omega) hl hs (fun m x τ hm hx p K hK => hc m x τ (by omega) hx p K hK) fun σ' p => ?_
  rw [fidx_none fun _ _ => rfl]
  conv => lhs; whnf
  exact hK σ' p

theorem send_spec {n B m k : Nat} {room : Nat} {a : AM.SA} {L : List Pq} {p : Pq} (hD : ByPlan Tryz.prog D) (hn : m + 10 ≤ n) (hm : m ≤ 1000) (h1 : 1 ≤ room) (h2 : room ≤ 1000) (hB : σ[B]? = some (AO.cells [.int .i64 (room : Int), .sl a m] 2 .own)) (hC : Cut σ a m L k)
    (hne : ∀ q ∈ L.drop k, p.1 ≠ q.1) {K : AV → H → Bool} (hK : ∀ a' m' k' σ', σ'[B]? = some (AO.cells [.int .i64 (room : Int), .sl a' m'] 2 .own) → Cut σ' a' m' (L ++ [p]) k' → m' = min (m + 1) room → K (.bool true) σ' = true) :
    acall Tryz.prog tab D n 9 [.ptr (some ⟨B, 0, 0, 2⟩), .agg (pq p)] σ K = true := by
  obtain ⟨n, rfl, hn⟩ := up hn
  have hB1 := get_old hB (AO.cells (pq p) 15 .own)
  have hP1 := get_new σ (AO.cells (pq p) 15 .own)
  have hlen : (L.drop k).length = m := by rw [List.length_drop, ← hC.len]; omega
  have hC1 : Cut (σ ++ [AO.cells (pq p) 15 .own]) a m L k := hC.keep fun id cs md h => get_old h _
  conv => lhs; whnf
  refine ldF rfl rfl rfl hB1 rfl ?_
  conv => lhs; whnf
  have hs := hC1.rw
  rw [← hlen] at hs ⊢
  refine cont_no (by omega) (by omega) hs (fun m' x τ hm' hx q K hK => sent_spec (by omega) (hne x hx) (prefix_get q hP1) hK) fun σ2 p2 => ?_
  rw [hlen]
  have hB2 := prefix_get p2 hB1
  have hP2 := prefix_get p2 hP1
  have hC2 : Cut σ2 a m L k := hC1.keep fun id cs md h => prefix_get p2 h
  conv => lhs; whnf
  refine hD.go plan9x3 ord9x3 ?_
  conv => lhs; whnf
  refine ldF rfl rfl rfl hB2 rfl ?_
  conv => lhs; whnf
  refine ldP1 hP2 ?_
  conv => lhs; whnf
  refine own_spec (by omega) hD fun σ3 p3 => ?_
  have hB3 := prefix_get p3 hB2
  have hC3 : Cut σ3 a m L k := hC2.keep fun id cs md h => prefix_get p3 h
  conv => lhs; whnf
  refine and_true (all_skip rfl (all_cons ?_ rfl)) ?_
  · conv => lhs; whnf
    refine ldF rfl rfl rfl hB3 rfl ?_
    exact same_sl _ _
  conv => lhs; whnf
  refine build36 ?_
  have hB4 := get_old hB3 (AO.cells (pq p) 15 .own)
  have hC4 : Cut (σ3 ++ [AO.cells (pq p) 15 .own]) a m L k := hC3.keep fun id cs md h => get_old h _
  conv => lhs; whnf
  refine and_true (all_skip rfl (all_cons ?_ rfl)) ?_
  · conv => lhs; whnf
    refine ldF rfl rfl rfl hB4 rfl ?_
    exact same_sl _ _
  conv => lhs; whnf
  refine appP hC4 (Rw.new _ _ rfl) (by omega) fun a5 σ5 hC5 k5 => ?_
  have hB5 := k5 _ _ _ _ (by decide) hB4
  conv => lhs; whnf
  refine storeK_of (i := Tryz.prog.types[36]) rfl rfl (by show 1 + 1 ≤ 2; decide) hB5 rfl (by show 0 + 1 < 2; decide) ?_
  have hB6 := get_set hB5 (AO.cells [.int .i64 (room : Int), .sl a5 (m + 1)] 2 .own)
  have k6 : ∀ (id : Nat) (cs : List AV) (md : Md), σ5[id]? = some (AO.cells cs 15 md) → (σ5.set B (AO.cells [.int .i64 (room : Int), .sl a5 (m + 1)] 2 .own))[id]? = some (AO.cells cs 15 md) := fun id cs md h => get_set_ne h (fun e => by
    subst e
    rw [hB5] at h
    cases h) _
  have hC6 := hC5.keep k6
  conv => lhs; whnf
  refine hD.go plan9x4 ord9x4 ?_
  conv => lhs; whnf
  refine ldF rfl rfl rfl hB6 rfl ?_
  conv => lhs; whnf
  refine ldF rfl rfl rfl hB6 rfl ?_
  conv => lhs; whnf
  refine ldF rfl rfl rfl hB6 rfl ?_
  conv => lhs; whnf
  have hlt : (IntKind.i64.wrap (((m + 1 : Nat) : Int) - (room : Int))) = ((m + 1 : Nat) : Int) - (room : Int) := wrap_i64 (by omega) (by omega)
  refine cutP hC6 (j := m + 1 - room) ?_ (by omega) fun a7 hC7 => ?_
  · show (if _ < _ then _ else _) = _
    rw [hlt]
    split <;> omega
  conv => lhs; whnf
  refine storeK_of (i := Tryz.prog.types[36]) rfl rfl (by show 1 + 1 ≤ 2; decide) hB6 rfl (by show 0 + 1 < 2; decide) ?_
  conv => lhs; whnf
  refine hK a7 (m + 1 - (m + 1 - room)) _ _ (get_set hB6 _) (hC7.keep fun id cs md h => get_set_ne h (fun e => by
    subst e
    rw [hB6] at h
    cases h) _) (by omega)

theorem all_spec {n B : Nat} {a : AM.SA} {l : List Pq} {x : Int} {md : Md} (hD : ByPlan Tryz.prog D) (hn : l.length + 10 ≤ n) (hl : l.length ≤ 1000) (hB : σ[B]? = some (AO.cells [.int .i64 x, .sl a l.length] 2 md)) (hs : Rw σ 15 a l.length (l.flatMap pq))
    {K : AV → H → Bool} (hK : ∀ o w σ', σ <+: σ' → OwnS σ σ' 15 o w l.length (l.flatMap pq) → K (.sl w l.length) σ' = true) :
    acall Tryz.prog tab D n 10 [.ptr (some ⟨B, 0, 0, 2⟩)] σ K = true := by
  obtain ⟨n, rfl, hn⟩ := up hn
  conv => lhs; whnf
  refine ldF rfl rfl rfl hB rfl ?_
  conv => lhs; whnf
  refine loop_rule (m := 14344) (fun q fr τ => ∃ (z : Int) (i : Nat) (o : Option Nat) (w : AM.SA), z = (i : Int) ∧ i + q = l.length ∧ σ <+: τ ∧ OwnS σ τ 15 o w i ((l.take i).flatMap pq) ∧
      fr = [.bad, .bad, .bad, .sl w i, .bad, .bad, .bad, .bad, .bad, .bad, .bad, .sl a l.length, .int .i64 l.length, .int .i64 z, .bad, .bad, .bad, .bad, .bad, .bad, .bad, .bad, .bad, .bad]) ?_ _ l.length _ _ (by omega) ⟨_, 0, none, .nil, rfl, by omega, List.prefix_refl _, OwnS.nil _ _ _, rfl⟩
  rintro q fr τ C ⟨z, i, o, w, rfl, hq, hp, hO, rfl⟩ next fin
  conv => lhs; whnf
  by_cases hi : i < l.length
  case neg =>
    obtain rfl : i = l.length := by omega
    rw [show decide ((l.length : Int) < (l.length : Int)) = false from decide_eq_false (by omega)]
    conv => lhs; whnf
    refine fin _ _ _ nofun ?_
    rw [List.take_of_length_le (Nat.le_refl _)] at hO
    conv => lhs; whnf
    exact hK o w τ hp hO
  rw [show decide ((i : Int) < (l.length : Int)) = true from decide_eq_true (by omega)]
  conv => lhs; whnf
  refine idxP (hs.mono hp) rfl hi fun p1 e1 => ?_
  conv => lhs; whnf
  refine ldP e1 ?_
  conv => lhs; whnf
  refine storeNP rfl ?_
  conv => lhs; whnf
  refine ldP1 (get_new τ _) ?_
  conv => lhs; whnf
  refine own_spec (by omega) hD fun τ1 p1 => ?_
  conv => lhs; whnf
  refine build36 ?_
  have p2 := List.IsPrefix.trans (List.prefix_append τ [AO.cells (pq l[i]) 15 .own]) (prefix_add p1 (AO.cells (pq l[i]) 15 .own))
  have hO2 := hO.mono p2
  conv => lhs; whnf
  refine appS Tryz.underlying36 rfl rfl rfl rfl (by decide) (List.IsPrefix.trans hp p2) hO2 (Rw.new _ _ rfl) (N := i + 1) (zs := (l.take (i + 1)).flatMap pq) rfl ?_ ?_ fun o3 w3 σ3 p3 _ _ _ _ hO3 => ?_
  · rw [List.take_succ_eq_append_getElem hi, List.flatMap_append]
    simp
  · show (i + 1) * 168 ≤ _
    omega
  conv => lhs; whnf
  exact next (q - 1) _ _ (by omega) ⟨_, i + 1, o3, w3, inc_i64 (by omega), by omega, p3, hO3, rfl⟩

theorem fidx_some {P : Pq → Bool} {l : List Pq} (h : l.findIdx P < l.length) : fidx P l = (l.findIdx P : Int) := by unfold fidx; rw [if_pos h]
theorem filter_none {P : Pq → Bool} {l : List Pq} (h : ¬ l.findIdx P < l.length) : l.filter (fun x => !P x) = l := by
  rw [List.filter_eq_self]
  intro x hx
  cases hP : P x with
  | false => rfl
  | true => exact absurd (List.findIdx_lt_length_of_exists ⟨x, hx, hP⟩) h
theorem take_filter {P : Pq → Bool} {l : List Pq} {i : Nat} (h : i ≤ l.findIdx P) : (l.take i).filter (fun x => !P x) = l.take i := by
  rw [List.filter_eq_self]
  intro x hx
  obtain ⟨j, hj, rfl⟩ := List.getElem_of_mem hx
  rw [List.length_take] at hj
  have := List.not_of_lt_findIdx (p := P) (xs := l) (i := j) (by omega)
  rw [List.getElem_take]
  simpa using this
def Far (σ σ' : H) : Prop := ∀ (j z : Nat) (cs : List AV) (md : Md), z ≠ 15 → σ[j]? = some (AO.cells cs z md) → σ'[j]? = some (AO.cells cs z md)
theorem Far.pre {σ σ' : H} (h : σ <+: σ') : Far σ σ' := fun _ _ _ _ _ g => prefix_get h g
theorem Far.trans {σ σ' σ'' : H} (h : Far σ σ') (h' : Far σ' σ'') : Far σ σ'' := fun j z cs md hz g => h' j z cs md hz (h j z cs md hz g)
theorem Far.set {σ : H} {id : Nat} {xs ys : List AV} {md md' : Md} (h : σ[id]? = some (AO.cells xs 15 md)) : Far σ (σ.set id (AO.cells ys 15 md')) := fun j z cs md hz g => get_set_ne g (fun e => by
  subst e
  rw [h] at g
  cases g
  exact hz rfl) _
theorem del_spec {n c m k : Nat} {y : Int} {a : AM.SA} {L : List Pq} {md : Md} (hn : m + 10 ≤ n) (hm : m ≤ 1000) (hC : Cut σ a m L k) (hc : σ[c]? = some (AO.cells [.int .i64 y] 1 md))
    {K : AV → H → Bool} (hK : ∀ a' σ', Far σ σ' → Rw σ' 15 a' ((L.drop k).filter (fun x => !(x.2 == y))).length (((L.drop k).filter (fun x => !(x.2 == y))).flatMap pq) → K (.sl a' ((L.drop k).filter (fun x => !(x.2 == y))).length) σ' = true) :
    acall Tryz.prog tab D n 25 [.sl a m, .fn 26 [.ptr (some ⟨c, 0, 0, 1⟩)]] σ K = true := by
  obtain ⟨n, rfl, hn⟩ := up hn
  have hlen : (L.drop k).length = m := by rw [List.length_drop, ← hC.len]; omega
  have hs := hC.rw
  rw [← hlen] at hs
  conv => lhs; whnf
  rw [← hlen]
  refine idxf_spec (P := fun x => x.2 == y) (by omega) (by omega) hs (fun m' x τ hm' hx q K hK => to_spec (by omega) (prefix_get q hc) hK) fun σ1 q1 => ?_
  have hc1 := prefix_get q1 hc
  by_cases hf : (L.drop k).findIdx (fun x => x.2 == y) < (L.drop k).length
  case neg =>
    rw [filter_none hf] at hK
    rw [fidx, if_neg hf]
    conv => lhs; whnf
    exact hK a σ1 (Far.pre q1) (hs.mono q1)
  rw [fidx_some hf]
  rcases hC with ⟨rfl, rfl, rfl, rfl⟩ | ⟨id, h1, rfl, h3⟩
  · simp at hf
  have hpl : (L.take k).length = k := by rw [List.length_take]; omega
  have hr1 : σ1[id]? = some (AO.cells ((L.take k ++ L.drop k).flatMap pq) 15 .own) := by rw [List.take_append_drop]; exact prefix_get q1 h1
  generalize L.take k = pre at hpl hr1
  generalize L.drop k = l at *
  clear hs h1
  have hP0 : (l.take (l.findIdx (fun x => x.2 == y) + 1)).filter (fun x => !(x.2 == y)) = l.take (l.findIdx (fun x => x.2 == y)) := by
    rw [List.take_succ_eq_append_getElem hf, List.filter_append, take_filter (Nat.le_refl _), List.filter_cons_of_neg, List.filter_nil, List.append_nil]
    have := List.findIdx_getElem (p := fun x : Pq => x.2 == y) (xs := l) (w := hf)
    simpa using this
  generalize l.findIdx (fun x => x.2 == y) = i0 at *
  conv => lhs; whnf
  refine loop_rule (m := 99) (fun q fr τ => ∃ (zi zj : Int) (i j : Nat) (V : List Pq), zi = (i : Int) ∧ zj = (j : Int) ∧ j + q = l.length ∧ i < j ∧ Far σ τ ∧ V.length = l.length ∧ V.drop j = l.drop j ∧ V.take i = (l.take j).filter (fun x => !(x.2 == y)) ∧
      τ[id]? = some (AO.cells ((pre ++ V).flatMap pq) 15 .own) ∧
      fr = [.sl (.at id (k * 15) 15) l.length, .fn 26 [.ptr (some ⟨c, 0, 0, 1⟩)], .bad, .bad, .bad, .int .i64 zi, .int .i64 zj, .bad, .bad, .bad, .bad, .bad, .bad, .bad, .bad, .bad, .bad, .bad, .bad, .bad, .bad, .bad, .bad, .bad, .bad, .bad, .bad, .bad, .bad, .bad, .bad, .bad, .bad, .bad, .bad, .bad, .bad, .bad, .bad, .bad, .bad, .bad]) ?_ _ (l.length - (i0 + 1)) _ _ (by omega)
      ⟨_, _, i0, i0 + 1, l, rfl, inc_i64 (by omega), by omega, by omega, Far.pre q1, rfl, rfl, hP0.symm, hr1, rfl⟩
  clear hr1 hc1
  rintro q fr τ C ⟨zi, zj, i, j, V, rfl, rfl, hq, hij, hF, hVl, hVd, hVt, hr, rfl⟩ next fin
  conv => lhs; whnf
  by_cases hj : j < l.length
  case neg =>
    rw [show decide ((j : Int) < (l.length : Int)) = false from decide_eq_false (by omega)]
    conv => lhs; whnf
    refine fin _ _ _ nofun ?_
    conv => lhs; whnf
    refine slE rfl (by omega) ?_
    conv => lhs; whnf
    refine clearE hpl (by omega) (by rw [hVl]) hr fun xs hR => ?_
    conv => lhs; whnf
    refine slF rfl (by omega) ?_
    obtain rfl : j = l.length := by omega
    rw [List.take_of_length_le (Nat.le_refl _)] at hVt
    have hi2 : (l.filter (fun x => !(x.2 == y))).length = i := by rw [← hVt, List.length_take]; omega
    rw [hVt] at hR
    have h := hK (.at id (k * 15) 15) _ (Far.trans hF (Far.set (ys := xs) (md' := .own) hr)) (by rw [hi2]; exact hR)
    rw [hi2] at h
    conv => lhs; whnf
    exact h
  rw [show decide ((j : Int) < (l.length : Int)) = true from decide_eq_true (by omega)]
  conv => lhs; whnf
  have hA := cutA hpl hr
  rw [← hVl]
  refine idxP hA rfl (by omega) fun p1 e1 => ?_
  conv => lhs; whnf
  refine ldP e1 ?_
  have ej : V[j]'(by omega) = l[j] := by
    have h1 := List.drop_eq_getElem_cons (l := V) (i := j) (by omega)
    have h2 := List.drop_eq_getElem_cons (l := l) (i := j) hj
    rw [hVd, h2] at h1
    exact ((List.cons.inj h1).1).symm
  rw [ej]
  conv => lhs; whnf
  refine storeNP rfl ?_
  conv => lhs; whnf
  refine ldP1 (get_new τ _) ?_
  conv => lhs; whnf
  refine to_spec (by omega) (get_old (hF _ _ _ _ (by decide) hc) _) fun τ1 q2 => ?_
  have p2 := List.IsPrefix.trans (List.prefix_append τ [AO.cells (pq l[j]) 15 .own]) q2
  have hF1 := Far.trans hF (Far.pre p2)
  have hr1 := prefix_get p2 hr
  have hx1 := prefix_get q2 (get_new τ (AO.cells (pq l[j]) 15 .own))
  have hVt2 : ∀ b, ((l[j]).2 == y) = b → (l.take (j + 1)).filter (fun x => !(x.2 == y)) = V.take i ++ (if b = true then [] else [l[j]]) := fun b hb => by
    rw [List.take_succ_eq_append_getElem hj, List.filter_append, ← hVt]
    cases b
    · rw [List.filter_cons_of_pos (by rw [hb]; rfl)]; rfl
    · rw [List.filter_cons_of_neg (by rw [hb]; simp)]; rfl
  have hVd2 : V.drop (j + 1) = l.drop (j + 1) := by
    have h1 := congrArg (List.drop 1) hVd
    rw [List.drop_drop, List.drop_drop] at h1
    exact h1
  cases hP : (l[j]).2 == y with
  | true =>
    conv => lhs; whnf
    exact next (q - 1) _ _ (by omega) ⟨_, _, i, j + 1, V, rfl, inc_i64 (by omega), by omega, by omega, hF1, hVl, hVd2, by rw [hVt2 _ hP, if_pos rfl, List.append_nil], hr1, by rw [hVl]; rfl⟩
  | false =>
    conv => lhs; whnf
    refine ldP1 hx1 ?_
    conv => lhs; whnf
    refine idxE rfl (by omega) ?_
    conv => lhs; whnf
    refine storeE hpl (by omega) hr1 ?_
    conv => lhs; whnf
    refine next (q - 1) _ _ (by omega) ⟨_, _, i + 1, j + 1, V.set i l[j], inc_i64 (by omega), inc_i64 (by omega), by omega, by omega, Far.trans hF1 (Far.set hr1), by rw [List.length_set]; exact hVl, ?_, ?_, get_set hr1 _, by rw [hVl]; rfl⟩
    · rw [List.drop_set_of_lt (by omega)]
      exact hVd2
    · rw [hVt2 _ hP, if_neg (by decide), List.take_succ_eq_append_getElem (by rw [List.length_set]; omega), List.getElem_set_self, List.take_set_of_le (Nat.le_refl _)]

theorem rwSet {B n : Nat} {a : AM.SA} {cs xs ys : List AV} {md md' : Md} (h : Rw σ 15 a n cs) (hB : σ[B]? = some (AO.cells xs 2 md)) : Rw (σ.set B (AO.cells ys 2 md')) 15 a n cs := by
  rcases h with h | h | ⟨id, off, zs, m, e, h1, h2, h3⟩
  · exact .inl h
  · exact .inr (.inl h)
  · refine .inr (.inr ⟨id, off, zs, m, e, get_set_ne h1 (fun e => ?_) _, h2, h3⟩)
    subst e
    rw [h1] at hB
    cases hB
theorem forget_spec {n B m k : Nat} {x y : Int} {a : AM.SA} {L : List Pq} (hn : m + 12 ≤ n) (hm : m ≤ 1000) (hB : σ[B]? = some (AO.cells [.int .i64 x, .sl a m] 2 .own)) (hC : Cut σ a m L k)
    {K : AV → H → Bool} (hK : ∀ F a' σ', F = (L.drop k).filter (fun x => !(x.2 == y)) → F.length ≤ m → σ'[B]? = some (AO.cells [.int .i64 x, .sl a' F.length] 2 .own) → Rw σ' 15 a' F.length (F.flatMap pq) → K (.int .i64 ((m - F.length : Nat) : Int)) σ' = true) :
    acall Tryz.prog tab D n 13 [.ptr (some ⟨B, 0, 0, 2⟩), .int .i64 y] σ K = true := by
  obtain ⟨n, rfl, hn⟩ := up hn
  have hB1 := get_old hB (AO.cells [.int .i64 y] 1 .own)
  have hC1 : Cut (σ ++ [AO.cells [.int .i64 y] 1 .own]) a m L k := hC.keep fun id cs md h => get_old h _
  have hlen : (L.drop k).length = m := by rw [List.length_drop, ← hC.len]; omega
  conv => lhs; whnf
  refine ldF rfl rfl rfl hB1 rfl ?_
  conv => lhs; whnf
  refine ldF rfl rfl rfl hB1 rfl ?_
  conv => lhs; whnf
  refine del_spec (by omega) hm hC1 (get_new σ _) fun a' σ2 hF hR => ?_
  have hle : ((L.drop k).filter (fun x => !(x.2 == y))).length ≤ m := by
    have := List.length_filter_le (fun x : Pq => !(x.2 == y)) (L.drop k)
    omega
  have hB2 := hF _ _ _ _ (by decide) hB1
  have hK' := fun σ' => hK _ a' σ' rfl hle
  generalize (L.drop k).filter (fun x => !(x.2 == y)) = F at *
  conv => lhs; whnf
  refine storeK_of (i := Tryz.prog.types[36]) rfl rfl (by show 1 + 1 ≤ 2; decide) hB2 rfl (by show 0 + 1 < 2; decide) ?_
  have hB3 := get_set hB2 (AO.cells [.int .i64 x, .sl a' F.length] 2 .own)
  have hR3 := rwSet (ys := [.int .i64 x, .sl a' F.length]) (md' := .own) hR hB2
  conv => lhs; whnf
  refine ldF rfl rfl rfl hB3 rfl ?_
  have h := hK' _ hB3 hR3
  conv => lhs; whnf
  rw [wrap_i64 (by omega) (by omega), show (m : Int) - (F.length : Int) = ((m - F.length : Nat) : Int) by omega]
  exact h
theorem new_spec {n : Nat} {x : Int} (hn : 1 ≤ n) (h1 : 1 ≤ x) (h2 : x ≤ 1000) {K : AV → H → Bool} (hK : K (.ptr (some ⟨σ.length, 0, 0, 2⟩)) (σ ++ [AO.cells [.int .i64 x, .sl .nil 0] 2 .own]) = true) :
    acall Tryz.prog tab D n 8 [.int .i64 x] σ K = true := by
  obtain ⟨n, rfl, hn⟩ := up hn
  conv => lhs; whnf
  show K (.ptr (some ⟨σ.length, 0, 0, 2⟩)) (σ ++ [AO.cells [.int .i64 (if (1000 : Int) < (if x < 1 then 1 else x) then 1000 else (if x < 1 then 1 else x)), .sl .nil 0] 2 .own]) = true
  rw [if_neg (show ¬ x < 1 by omega), if_neg (show ¬ (1000 : Int) < x by omega)]
  exact hK

theorem mod_val (x b : Int) (hb : 0 < b) (hb2 : b ≤ 1000) : ∃ v : Nat, (IntKind.i64.wrap (x.tmod b + b)).tmod b = (v : Int) ∧ (v : Int) < b := by
  have t1 := Int.tmod_lt_of_pos x hb
  have t2 := Int.lt_tmod_of_pos x hb
  rw [wrap_i64 (by omega) (by omega)]
  have t3 := Int.tmod_nonneg b (show 0 ≤ x.tmod b + b by omega)
  have t4 := Int.tmod_lt_of_pos (x.tmod b + b) hb
  exact ⟨((x.tmod b + b).tmod b).toNat, by omega, by omega⟩
def SL (i : Nat) : List Pq := (List.range i).map fun (j : Nat) => ((j : Int), (j : Int).tmod 3)
theorem SL_len (i : Nat) : (SL i).length = i := by simp [SL]
theorem SL_succ (i : Nat) : SL i ++ [((i : Int), (i : Int).tmod 3)] = SL (i + 1) := by simp [SL, List.range_succ]
theorem SL_get {i k : Nat} (h : k < (SL i).length) : (SL i)[k].1 = (k : Int) := by simp [SL]
theorem SL_ne {i k : Nat} : ∀ q ∈ (SL i).drop k, (i : Int) ≠ q.1 := fun q hq => by
  have h := List.mem_of_mem_drop hq
  unfold SL at h
  obtain ⟨j, hj, rfl⟩ := List.mem_map.1 h
  rw [List.mem_range] at hj
  show (i : Int) ≠ (j : Int)
  omega
theorem netRoom_run {n : Nat} {x y : Int} (hD : ByPlan Tryz.prog D) (hn : 5000 ≤ n) : acall Tryz.prog tab D n 5 [.int .i64 x, .int .i64 y] σ isTrue = true := by
  obtain ⟨n, rfl, hn⟩ := up hn
  obtain ⟨v, ev, hv⟩ := mod_val x 40 (by decide) (by decide)
  obtain ⟨N, eN, hN⟩ := mod_val y 90 (by decide) (by decide)
  have er : IntKind.i64.wrap (1 + (v : Int)) = ((1 + v : Nat) : Int) := by rw [wrap_i64 (by omega) (by omega)]; omega
  conv => lhs; whnf
  refine begun_spec ?_
  conv => lhs; whnf
  rw [ev, er, eN]
  generalize hroom : 1 + v = room at *
  refine new_spec (by omega) (by omega) (by omega) ?_
  conv => lhs; whnf
  have hB0 := get_new σ (AO.cells [.int .i64 (room : Int), .sl .nil 0] 2 .own)
  generalize σ ++ [AO.cells [.int .i64 (room : Int), .sl .nil 0] 2 .own] = σ0 at hB0 ⊢
  generalize σ.length = B at hB0 ⊢
  refine loop_rule (m := 195) (fun q fr τ => ∃ (z : Int) (i : Nat) (a : AM.SA) (m k : Nat), z = (i : Int) ∧ i + q = N ∧ τ[B]? = some (AO.cells [.int .i64 (room : Int), .sl a m] 2 .own) ∧ Cut τ a m (SL i) k ∧ m = min i room ∧
      fr = [.int .i64 (room : Int), .int .i64 (N : Int), .bad, .bad, .bad, .bad, .ptr (some ⟨B, 0, 0, 2⟩), .int .i64 z, .bad, .bad, .bad, .bad, .bad, .bad, .bad, .bad, .bad, .bad, .bad, .bad, .bad, .bad, .bad, .bad, .bad, .bad, .bad, .bad, .bad, .bad, .bad, .bad, .bad, .bad, .bad, .bad, .bad, .bad, .bad, .bad, .bad, .bad, .bad, .bad, .bad, .bad, .bad, .bad, .bad, .bad, .bad, .bad, .bad, .bad, .bad, .bad, .bad, .bad, .bad, .bad, .bad, .bad, .bad, .bad, .bad, .bad, .bad, .bad, .bad, .bad, .bad, .bad, .bad, .bad, .bad, .bad, .bad, .bad, .bad, .bad, .bad, .bad, .bad, .bad, .bad, .bad, .bad]) ?_ _ N _ _ (by omega) ⟨_, 0, .nil, 0, 0, rfl, by omega, hB0, .inl ⟨rfl, rfl, rfl, rfl⟩, by omega, rfl⟩
  rintro q fr τ C ⟨z, i, a, m, k, rfl, hq, hB, hC, hm, rfl⟩ next fin
  conv => lhs; whnf
  by_cases hi : i < N
  case pos =>
    rw [show decide ((i : Int) < (N : Int)) = true from decide_eq_true (by omega)]
    conv => lhs; whnf
    refine send_spec (p := ((i : Int), (i : Int).tmod 3)) hD (by omega) (by omega) (by omega) (by omega) hB hC SL_ne fun a' m' k' τ' hB' hC' hm' => ?_
    rw [SL_succ] at hC'
    conv => lhs; whnf
    exact next (q - 1) _ _ (by omega) ⟨_, i + 1, a', m', k', inc_i64 (by omega), by omega, hB', hC', by omega, rfl⟩
  rw [show decide ((i : Int) < (N : Int)) = false from decide_eq_false (by omega)]
  conv => lhs; whnf
  refine fin _ _ _ nofun ?_
  clear next fin
  obtain rfl : i = N := by omega
  have hlen : ((SL i).drop k).length = m := by rw [List.length_drop, ← hC.len]; omega
  have hk := hC.len
  rw [SL_len] at hk
  conv => lhs; whnf
  have hB2 := hB
  have hR2 := hC.rw
  rw [← hlen] at hB2 hR2
  refine all_spec hD (by omega) (by omega) hB2 hR2 fun o1 w1 τ1 p1 hO1 => ?_
  rw [hlen]
  rw [hlen] at hO1
  have hB1 := prefix_get p1 hB
  have hC1 : Cut τ1 a m (SL i) k := hC.keep fun id cs md h => prefix_get p1 h
  conv => lhs; whnf
  have emin : (!((m : Int) == bif true then (if (i : Int) < (room : Int) then (i : Int) else (room : Int)) else (if (room : Int) < (i : Int) then (i : Int) else (room : Int)))) = false := by
    have e : (if (i : Int) < (room : Int) then (i : Int) else (room : Int)) = (m : Int) := by split <;> omega
    show (!((m : Int) == (if (i : Int) < (room : Int) then (i : Int) else (room : Int)))) = false
    rw [e]
    simp
  rw [emin]
  conv => lhs; whnf
  have hR3 := hO1.rw
  generalize hl : (SL i).drop k = l at *
  have hget : ∀ j (h : j < l.length), l[j].1 = ((k + j : Nat) : Int) := fun j h => by
    subst hl
    rw [List.getElem_drop, SL_get]
  refine loop_rule (m := 1688849860264258) (fun q fr τ => ∃ (z : Int) (j : Nat), z = (j : Int) ∧ j + q = m ∧ τ = τ1 ∧
      fr = [.bad, .int .i64 (i : Int), .bad, .bad, .bad, .bad, .ptr (some ⟨B, 0, 0, 2⟩), .bad, .sl w1 m, .bad, .bad, .bad, .bad, .bad, .bad, .bad, .bad, .bad, .bad, .bad, .bad, .bad, .bad, .bad, .bad, .bad, .bad, .bad, .bad, .bad, .bad, .bad, .bad, .bad, .bad, .bad, .bad, .bad, .bad, .bad, .bad, .bad, .bad, .bad, .bad, .bad, .bad, .bad, .bad, .int .i64 (m : Int), .int .i64 z, .bad, .bad, .bad, .bad, .bad, .bad, .bad, .bad, .bad, .bad, .bad, .bad, .bad, .bad, .bad, .bad, .bad, .bad, .bad, .bad, .bad, .bad, .bad, .bad, .bad, .bad, .bad, .bad, .bad, .bad, .bad, .bad, .bad, .bad, .bad, .bad]) ?_ _ m _ _ (by omega) ⟨_, 0, rfl, by omega, rfl, rfl⟩
  rintro q fr τ' C' ⟨z, j, rfl, hq2, rfl, rfl⟩ next fin
  conv => lhs; whnf
  by_cases hj : j < m
  case pos =>
    rw [show decide ((j : Int) < (m : Int)) = true from decide_eq_true (by omega)]
    conv => lhs; whnf
    subst hlen
    refine idxF hR3 rfl hj fun id b xs md g0 g1 _ => ?_
    conv => lhs; whnf
    refine ldF rfl rfl rfl g0 g1 ?_
    have e : (!(l[j].1 == IntKind.i64.wrap (IntKind.i64.wrap ((i : Int) - (l.length : Int)) + (j : Int)))) = false := by
      rw [wrap_i64 (x := (i : Int) - (l.length : Int)) (by omega) (by omega), wrap_i64 (by omega) (by omega), hget j hj]
      simp
      omega
    conv => lhs; whnf
    rw [e]
    conv => lhs; whnf
    exact next (q - 1) _ _ (by omega) ⟨_, j + 1, inc_i64 (by omega), by omega, rfl, rfl⟩
  rw [show decide ((j : Int) < (m : Int)) = false from decide_eq_false (by omega)]
  conv => lhs; whnf
  refine fin _ _ _ nofun ?_
  clear next fin
  conv => lhs; whnf
  refine forget_spec (by omega) (by omega) hB1 hC1 fun F a' σ2 eF hF hB3 hR4 => ?_
  conv => lhs; whnf
  refine all_spec hD (by omega) (by omega) hB3 hR4 fun o3 w3 σ3 p3 hO3 => ?_
  have hB4 := prefix_get p3 hB3
  conv => lhs; whnf
  have hne : ∀ x ∈ F, (x.2 == 1) = false := fun x hx => by
    rw [eF] at hx
    have := (List.mem_filter.1 hx).2
    simpa using this
  refine loop_rule (m := 4132070672510939563328) (fun q fr τ => ∃ (z : Int) (j : Nat), z = (j : Int) ∧ j + q = F.length ∧ σ3 <+: τ ∧
      fr = [.bad, .bad, .bad, .bad, .bad, .bad, .ptr (some ⟨B, 0, 0, 2⟩), .bad, .sl w1 m, .bad, .int .i64 ((m - F.length : Nat) : Int), .bad, .bad, .bad, .bad, .bad, .bad, .bad, .bad, .bad, .bad, .bad, .bad, .bad, .bad, .bad, .bad, .bad, .bad, .bad, .bad, .bad, .bad, .bad, .bad, .bad, .bad, .bad, .bad, .bad, .bad, .bad, .bad, .bad, .bad, .bad, .bad, .bad, .bad, .bad, .bad, .bad, .bad, .bad, .bad, .bad, .bad, .bad, .bad, .bad, .bad, .bad, .bad, .bad, .bad, .bad, .bad, .bad, .bad, .sl w3 F.length, .int .i64 (F.length : Int), .int .i64 z, .bad, .bad, .bad, .bad, .bad, .bad, .bad, .bad, .bad, .bad, .bad, .bad, .bad, .bad, .bad]) ?_ _ F.length _ _ (by omega) ⟨_, 0, rfl, by omega, List.prefix_refl _, rfl⟩
  rintro q3 fr τ5 C5 ⟨z, j5, rfl, hq3, hp5, rfl⟩ next fin
  conv => lhs; whnf
  by_cases hj5 : j5 < F.length
  case pos =>
    rw [show decide ((j5 : Int) < (F.length : Int)) = true from decide_eq_true (by omega)]
    conv => lhs; whnf
    refine idxP (hO3.rw.mono hp5) rfl hj5 fun p2 e2 => ?_
    conv => lhs; whnf
    refine ldP e2 ?_
    conv => lhs; whnf
    refine storeNP rfl ?_
    conv => lhs; whnf
    refine ldF rfl rfl rfl (get_new τ5 _) rfl ?_
    conv => lhs; whnf
    rw [hne _ (List.getElem_mem hj5)]
    conv => lhs; whnf
    exact next (q3 - 1) _ _ (by omega) ⟨_, j5 + 1, inc_i64 (by omega), by omega, prefix_add hp5 _, rfl⟩
  rw [show decide ((j5 : Int) < (F.length : Int)) = false from decide_eq_false (by omega)]
  conv => lhs; whnf
  refine fin _ _ _ nofun ?_
  clear next fin
  conv => lhs; whnf
  refine all_spec hD (by omega) (by omega) (prefix_get hp5 hB4) ((hR4.mono p3).mono hp5) fun o7 w7 σ7 p7 hO7 => ?_
  have e : (IntKind.i64.wrap ((F.length : Int) + ((m - F.length : Nat) : Int)) == (m : Int)) = true := by
    rw [wrap_i64 (by omega) (by omega)]
    simp
    omega
  conv => lhs; whnf
  rw [e]
  conv => lhs; whnf
theorem netRoom_law (σ : H) (vs : List AV) (h : ArgsShp Tryz.prog σ 9 [3, 3] vs) : ∃ n, acall Tryz.prog tab (drawRegion Tryz.prog) n 5 vs σ isTrue = true := by
  obtain ⟨a, us, rfl, h1, h⟩ := args_cons h
  obtain ⟨b, us, rfl, h2, h⟩ := args_cons h
  obtain rfl := args_nil h
  obtain ⟨x, rfl, _, _⟩ := arg_int Tryz.underlying3 h1
  obtain ⟨y, rfl, _, _⟩ := arg_int Tryz.underlying3 h2
  exact ⟨5000, netRoom_run (byPlan _) (Nat.le_refl _)⟩
end Go.Proofs.YtjcpopoinaeemaaGreat
