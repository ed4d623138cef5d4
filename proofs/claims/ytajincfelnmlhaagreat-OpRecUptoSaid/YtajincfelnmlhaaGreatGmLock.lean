/- Locks in plain lists: neighbours that are alike, once. Rows of locks: read, written, cut, sorted. slices.Compact on rows of locks. lock.sorted: in their order, each once. lock.Of: what operations lock. LockOrder, in plain lists. Locks in plain lists: what strict order tells; who holds what. Rows of locks, read wherever they lie; the program's and the document's. Do two locks meet? Which one is ahead? Locks: new ones, taking, having, freeing, counting. The document's locks: Lay, Keys; rows of locks turned, compared. -/
import Derived.Test.YtajincfelnmlhaaGreatL12SortK
import Derived.Test.YtajincfelnmlhaaGreatGmOp
import Derived.Test.YtajincfelnmlhaaGreatAmOwn
import Derived.Test.YtajincfelnmlhaaGreatL12Put
import Derived.Test.YtajincfelnmlhaaGreatAmMap
import Derived.Test.YtajincfelnmlhaaGreatGmParts
namespace Go.Proofs.YtajincfelnmlhaaGreat
open Go Go.AM Go.AM.St
instance instDecKeyV : DecidableEq KeyV := fun a b =>
  if h : a.s = b.s ∧ a.k = b.k ∧ a.all = b.all then isTrue (by cases a; cases b; obtain ⟨h1, h2, h3⟩ := h; simp only at h1 h2 h3; rw [h1, h2, h3]) else isFalse fun e => h (by rw [e]; exact ⟨rfl, rfl, rfl⟩)
theorem keyEq_iff (x y : KeyV) : (ints x.s == ints y.s && (ints x.k == ints y.k && (x.all == y.all && true))) = decide (x = y) := by
  by_cases h : x = y
  · subst h; simp
  · rw [decide_eq_false h, Bool.eq_false_iff]
    intro h2
    simp only [Bool.and_eq_true, beq_iff_eq] at h2
    refine h ?_
    cases x; cases y
    have h3 := h2
    simp only at h3
    rw [ints_inj h3.1, ints_inj h3.2.1, h3.2.2.1]
/-- Neighbours that are alike, once. -/
def ddK {α : Type} [DecidableEq α] : List α → List α
  | [] => []
  | [x] => [x]
  | x :: y :: l => if x = y then ddK (y :: l) else x :: ddK (y :: l)
section
variable {α : Type} [DecidableEq α]
theorem ddK_two (a b : α) : ∀ l : List α, ddK (l ++ [a, b]) = ddK (l ++ [a]) ++ (if a = b then [] else [b])
  | [] => by
    show ddK [a, b] = _
    unfold ddK
    by_cases h : a = b
    · rw [if_pos h, if_pos h, h]; rfl
    · rw [if_neg h, if_neg h]; rfl
  | [x] => by
    have ih := ddK_two a b []
    simp only [List.nil_append] at ih
    have e1 : ddK (x :: a :: [b]) = if x = a then ddK (a :: [b]) else x :: ddK (a :: [b]) := by conv => lhs; unfold ddK
    have e2 : ddK (x :: a :: []) = if x = a then ddK [a] else x :: ddK [a] := by conv => lhs; unfold ddK
    show ddK (x :: a :: [b]) = ddK (x :: a :: []) ++ _
    rw [e1, e2, ih]
    by_cases h : x = a
    · rw [if_pos h, if_pos h]
    · rw [if_neg h, if_neg h]; rfl
  | x :: y :: l => by
    have ih := ddK_two a b (y :: l)
    show ddK (x :: y :: (l ++ [a, b])) = ddK (x :: y :: (l ++ [a])) ++ _
    rw [ddK, ddK]
    simp only [List.cons_append] at ih
    rw [ih]
    by_cases h : x = y
    · rw [if_pos h, if_pos h]
    · rw [if_neg h, if_neg h]; rfl
theorem ddK_take {l : List α} {i : Nat} (h0 : 0 < i) (h : i < l.length) : ddK (l.take (i + 1)) = ddK (l.take i) ++ (if l[i - 1]'(by omega) = l[i] then [] else [l[i]]) := by
  obtain ⟨j, rfl⟩ : ∃ j, i = j + 1 := ⟨i - 1, by omega⟩
  have e1 : l.take (j + 1 + 1) = l.take j ++ [l[j]'(by omega), l[j + 1]] := by
    rw [List.take_succ_eq_append_getElem h, List.take_succ_eq_append_getElem (show j < l.length by omega), List.append_assoc]
    rfl
  have e2 : l.take (j + 1) = l.take j ++ [l[j]'(by omega)] := List.take_succ_eq_append_getElem (by omega)
  rw [e1, e2]
  exact ddK_two _ _ _
theorem ddK_len : ∀ l : List α, (ddK l).length ≤ l.length
  | [] => Nat.le_refl _
  | [_] => Nat.le_refl _
  | x :: y :: l => by
    have := ddK_len (y :: l)
    unfold ddK
    split
    · exact Nat.le_succ_of_le this
    · exact Nat.succ_le_succ this
theorem ddK_mem {a : α} : ∀ {l : List α}, a ∈ ddK l ↔ a ∈ l
  | [] => Iff.rfl
  | [_] => Iff.rfl
  | x :: y :: l => by
    have ih := ddK_mem (a := a) (l := y :: l)
    unfold ddK
    split
    · rename_i h
      subst h
      rw [ih]
      simp
    · rw [List.mem_cons, ih, List.mem_cons (a := a) (l := y :: l)]
/-- No neighbours alike: as it was. -/
theorem ddK_id : ∀ {l : List α}, (∀ (i : Nat) (h : i + 1 < l.length), l[i]'(by omega) ≠ l[i + 1]) → ddK l = l
  | [], _ => rfl
  | [_], _ => rfl
  | x :: y :: l, h => by
    have h0 := h 0 (by simp)
    unfold ddK
    rw [if_neg (by simpa using h0), ddK_id (l := y :: l) fun i hi => h (i + 1) (by simpa using hi)]
theorem ddK_pairwise {r : α → α → Prop} : ∀ {l : List α}, l.Pairwise r → (ddK l).Pairwise r
  | [], _ => List.Pairwise.nil
  | [_], h => h
  | x :: y :: l, h => by
    rw [List.pairwise_cons] at h
    have ih := ddK_pairwise h.2
    unfold ddK
    split
    · exact ih
    · rw [List.pairwise_cons]
      exact ⟨fun z hz => h.1 z (ddK_mem.1 hz), ih⟩
end
/-- In its order, and each once. -/
theorem ddK_strict : ∀ {l : List KeyB}, l.Pairwise leB → (ddK l).Pairwise (fun x y => ltK x.1 y.1)
  | [], _ => List.Pairwise.nil
  | [_], _ => List.pairwise_singleton _ _
  | x :: y :: l, h => by
    have h2 := List.pairwise_cons.1 h
    have ih := ddK_strict h2.2
    unfold ddK
    split
    · exact ih
    · rename_i hne
      rw [List.pairwise_cons]
      refine ⟨fun z hz => ?_, ih⟩
      have hz := ddK_mem.1 hz
      have hxy : ltK x.1 y.1 := by
        rcases ltK_tri x.1 y.1 with a | a | a
        · exact a
        · exact absurd (Subtype.ext a) hne
        · exact absurd a (h2.1 y List.mem_cons_self)
      rcases List.mem_cons.1 hz with rfl | hz
      · exact hxy
      · have hyz : leB y z := (List.pairwise_cons.1 h2.2).1 z hz
        rcases ltK_tri x.1 z.1 with a | a | a
        · exact a
        · rw [a] at hxy; exact absurd hxy hyz
        · exact absurd (ltK_trans a hxy) hyz
end Go.Proofs.YtajincfelnmlhaaGreat
namespace Go.Proofs.YtajincfelnmlhaaGreat
set_option maxRecDepth 100000
open Go Go.AM Go.AM.St
abbrev kcs (l : List KeyB) : List AV := l.flatMap avK
theorem kcs_len : ∀ l : List KeyB, (kcs l).length = l.length * 3
  | [] => rfl
  | x :: l => by
    have := kcs_len l
    rw [kcs, List.flatMap_cons, List.length_append, List.length_cons, Nat.add_mul]
    show 3 + (kcs l).length = _
    omega
theorem kcs_app (a b : List KeyB) : kcs a ++ kcs b = kcs (a ++ b) := by simp [kcs]
theorem kcs_drop : ∀ (l : List KeyB) (i : Nat), (kcs l).drop (i * 3) = kcs (l.drop i)
  | [], i => by simp [kcs]
  | x :: l, 0 => by simp
  | x :: l, i + 1 => by
    rw [kcs, List.flatMap_cons, Nat.add_mul, Nat.add_comm (i * 3), ← List.drop_drop]
    show ((avK x ++ kcs l).drop 3).drop (i * 3) = _
    rw [List.drop_append_of_le_length (by exact Nat.le_refl 3)]
    show ([] ++ kcs l).drop (i * 3) = _
    rw [List.nil_append, kcs_drop l i]
    rfl
theorem kcs_take : ∀ (l : List KeyB) (i : Nat), (kcs l).take (i * 3) = kcs (l.take i)
  | [], i => by simp [kcs]
  | x :: l, 0 => by simp [kcs]
  | x :: l, i + 1 => by
    rw [kcs, List.flatMap_cons, Nat.add_mul, Nat.add_comm (i * 3), List.take_append, List.take_of_length_le (by show 3 ≤ _; omega)]
    show avK x ++ (kcs l).take (1 * 3 + i * 3 - 3) = _
    rw [show 1 * 3 + i * 3 - 3 = i * 3 by omega, kcs_take l i]
    rfl
theorem kcs_at {l : List KeyB} {i : Nat} (h : i < l.length) : ((kcs l).drop (i * 3)).take 3 = avK l[i] := by
  rw [kcs_drop, List.drop_eq_getElem_cons h]
  rfl
theorem kcs_set {l : List KeyB} {i : Nat} (h : i < l.length) (x : KeyB) : (kcs l).take (i * 3) ++ avK x ++ (kcs l).drop (i * 3 + 3) = kcs (l.set i x) := by
  rw [show i * 3 + 3 = (i + 1) * 3 by omega, kcs_take, kcs_drop, List.set_eq_take_append_cons_drop, if_pos h]
  simp [kcs]
variable {σ : H}
/-- An element of a row that begins anywhere. -/
theorem idxK {id off n i : Nat} {k : IntKind} {y : Int} {K : AV → Bool} (hy : y = (i : Int)) (hi : i < n) (hK : K (.ptr (some ⟨id, off + i * 3, 0, 3⟩)) = true) : indexAddrK Tryz.prog 62 (.sl (.at id off 3) n) (.int k y) K = true := by
  subst hy
  unfold indexAddrK
  rw [Tryz.underlying62]
  have e : ∀ K : Nat → Bool, esizeK Tryz.prog 75 K = K 3 := fun _ => rfl
  simp only
  rw [e]
  refine bif_pos ?_ ?_
  · simp only [beq_self_eq_true, Bool.true_and, Bool.and_eq_true, decide_eq_true_eq]; omega
  · simpa using hK
theorem ldKey {id j : Nat} {l : List KeyB} {md : Md} {K : AV → Bool} (hr : σ[id]? = some (AO.cells (kcs l) 3 md)) (hj : j < l.length) (hK : K (.agg (avK l[j])) = true) : ldK Tryz.prog 75 σ ⟨id, j * 3, 0, 3⟩ K = true := by
  refine ldK_struct Tryz.underlying75 rfl rfl (es := avK l[j]) ⟨rfl, rfl, kcs l, md, hr, by rw [kcs_len]; show j * 3 + 3 ≤ _; omega, kcs_at hj⟩ ?_
  conv => lhs; whnf
  exact hK
theorem stKey {id j : Nat} {l : List KeyB} {x : KeyB} {K : H → Bool} (hr : σ[id]? = some (AO.cells (kcs l) 3 .own)) (hj : j < l.length) (hK : K (σ.set id (.cells (kcs (l.set j x)) 3 .own)) = true) :
    storeK Tryz.prog 75 (.ptr (some ⟨id, j * 3, 0, 3⟩)) (.agg (avK x)) σ K = true := by
  unfold storeK
  have e : Tryz.prog.info? 75 = some Tryz.prog.types[75] := rfl
  rw [e]
  refine rowK_of hr (bif_pos ?_ ?_)
  · have h1 : (avK x).length = Tryz.prog.types[75].size := rfl
    have h2 : leafy (avK x) = true := rfl
    show ((Md.own == .own) && ((avK x).length == Tryz.prog.types[75].size) && decide (0 + Tryz.prog.types[75].size ≤ 3) && decide (j * 3 + 0 + Tryz.prog.types[75].size ≤ (kcs l).length) && leafy (avK x)) = true
    rw [h2, kcs_len, ← h1]
    show (true && (3 == 3) && decide (0 + 3 ≤ 3) && decide (j * 3 + 0 + 3 ≤ l.length * 3) && true) = true
    rw [decide_eq_true (show j * 3 + 0 + 3 ≤ l.length * 3 by omega)]
    rfl
  · show K (σ.set id (.cells ((kcs l).take (j * 3 + 0) ++ avK x ++ (kcs l).drop (j * 3 + 0 + 3)) 3 .own)) = true
    rw [Nat.add_zero, kcs_set hj]
    exact hK
/-- The library's sorting: the row is in its order. -/
theorem sort_spec {n id : Nat} {l : List KeyB} {D : Drawer} (hl : l.length ≤ 1000000) (h0 : 0 < l.length) {K : AV → H → Bool} (hr : σ[id]? = some (AO.cells (kcs l) 3 .own)) (hK : K (.tup []) (σ.set id (.cells (kcs (sortK l)) 3 .own)) = true) :
    acall Tryz.prog tab D n 79 [.sl (.at id 0 3) l.length, .fn 80 []] σ K = true := by
  have key : sort79 [.sl (.at id 0 3) l.length, .fn 80 []] σ K = true := by
    unfold sort79 sortF
    simp only
    rw [show Nat.beq l.length 0 = false from by rw [← Bool.not_eq_true, Nat.beq_eq]; omega, cond_false]
    rw [show (Nat.beq 80 80 && Nat.beq 3 3 && Nat.ble l.length 1000000) = true by rw [Nat.ble_eq_true_of_le hl]; rfl, cond_true, hr]
    simp only
    rw [show (Nat.beq 3 3 && isOwn Md.own && Nat.ble (0 + l.length * 3) (kcs l).length) = true by rw [Nat.ble_eq_true_of_le (by rw [kcs_len]; omega)]; rfl, cond_true]
    rw [List.drop_zero, List.take_of_length_le (by rw [kcs_len]; exact Nat.le_refl _), rowsK_of]
    simp only
    rw [show Nat.beq l.length l.length = true from Nat.beq_refl _, cond_true, List.take_zero, List.nil_append, List.drop_eq_nil_of_le (by rw [kcs_len]; omega), List.append_nil]
    exact hK
  cases n <;> exact key
end Go.Proofs.YtajincfelnmlhaaGreat
namespace Go.Proofs.YtajincfelnmlhaaGreat
set_option maxRecDepth 100000
open Go Go.AM Go.AM.St
variable {σ : H}
theorem slFrom {id n k : Nat} {y : Int} {K : AV → Bool} (hy : y = (k : Int)) (hk : k ≤ n) (hK : K (.sl (.at id (k * 3) 3) (n - k)) = true) : sliceK Tryz.prog 62 (.sl (.at id 0 3) n) (some (.int .i64 y)) none none K = true := by
  subst hy
  unfold sliceK
  rw [Tryz.underlying62]
  have e : ∀ K : Nat → Bool, esizeK Tryz.prog 75 K = K 3 := fun _ => rfl
  simp only
  rw [e]
  refine bif_pos rfl (boundK_of (.inl ⟨rfl, rfl⟩) (Nat.zero_le _) (Nat.le_refl _) (boundK_of (.inl ⟨rfl, rfl⟩) (Nat.zero_le _) (Nat.le_refl _) (boundK_of (.inr ⟨_, k, rfl, rfl⟩) (Nat.zero_le _) hk ?_)))
  show K (.sl (.at id (0 + k * 3) 3) (n - k)) = true
  rw [Nat.zero_add]
  exact hK
theorem slTo {id n k : Nat} {y : Int} {K : AV → Bool} (hy : y = (k : Int)) (hk : k ≤ n) (hK : K (.sl (.at id 0 3) k) = true) : sliceK Tryz.prog 62 (.sl (.at id 0 3) n) none (some (.int .i64 y)) none K = true := by
  subst hy
  unfold sliceK
  rw [Tryz.underlying62]
  have e : ∀ K : Nat → Bool, esizeK Tryz.prog 75 K = K 3 := fun _ => rfl
  simp only
  rw [e]
  refine bif_pos rfl (boundK_of (.inl ⟨rfl, rfl⟩) (Nat.zero_le _) (Nat.le_refl _) (boundK_of (.inr ⟨_, k, rfl, rfl⟩) (Nat.zero_le _) hk (boundK_of (.inl ⟨rfl, rfl⟩) (Nat.zero_le _) (Nat.zero_le _) ?_)))
  show K (.sl (.at id (0 + 0 * 3) 3) (k - 0)) = true
  exact hK
theorem kcs_zero (n : Nat) : (List.replicate n [AV.str [], AV.str [], AV.bool false]).flatten = kcs (List.replicate n default) := by
  induction n with
  | zero => rfl
  | succ n ih => rw [List.replicate_succ, List.flatten_cons, ih]; rfl
theorem clearKeys {id kk : Nat} {R : List KeyB} {K : H → Bool} (hr : σ[id]? = some (AO.cells (kcs R) 3 .own)) (hk : kk < R.length) (hK : K (σ.set id (.cells (kcs (R.take kk ++ List.replicate (R.length - kk) default)) 3 .own)) = true) :
    clearK Tryz.prog 62 (.sl (.at id (kk * 3) 3) (R.length - kk)) σ K = true := by
  unfold clearK
  rw [Tryz.underlying62]
  simp only
  refine bif_neg (by simp; omega) ?_
  have e : ∀ K : AV → Bool, zeroK Tryz.prog 75 K = K (.agg [.str [], .str [], .bool false]) := fun _ => rfl
  rw [e]
  refine rowK_of hr (bif_pos ?_ ?_)
  · show (true && true && decide (kk * 3 + (R.length - kk) * 3 ≤ (kcs R).length) && true) = true
    rw [decide_eq_true (by rw [kcs_len]; omega)]
    rfl
  · show K (σ.set id (.cells ((kcs R).take (kk * 3) ++ (List.replicate (R.length - kk) [AV.str [], AV.str [], AV.bool false]).flatten ++ (kcs R).drop (kk * 3 + (R.length - kk) * 3)) 3 .own)) = true
    rw [kcs_take, kcs_zero, kcs_app, List.drop_eq_nil_of_le (by rw [kcs_len]; omega), List.append_nil]
    exact hK
theorem inR {i n : Nat} (h : i < n) : (true && (decide (0 ≤ (i : Int)) && decide ((i : Int) < (n : Int)))) = true := by
  rw [decide_eq_true (show 0 ≤ (i : Int) by omega), decide_eq_true (show (i : Int) < (n : Int) by omega)]
  rfl
theorem atR (i : Nat) : (0 + Int.toNat (i : Int) * 3) = i * 3 := by rw [Int.toNat_natCast]; omega
attribute [local irreducible] IntKind.wrap Int.fdiv Int.tdiv Int.tmod BitVec.ofInt appendK sliceK ldK storeK seenK makeSliceK lookupK updateK deleteK mapK rangeK nextK buildSliceK indexK clearK
variable {D : Drawer}
theorem compact_spec {n id : Nat} {l : List KeyB} (hD : ByPlan Tryz.prog D) (hn : l.length + 10 ≤ n) (hl : l.length ≤ 1000000) {K : AV → H → Bool} (hr : σ[id]? = some (AO.cells (kcs l) 3 .own))
    (hK : K (.sl (.at id 0 3) (ddK l).length) (σ.set id (.cells (kcs (ddK l ++ List.replicate (l.length - (ddK l).length) default)) 3 .own)) = true) :
    acall Tryz.prog tab D n 81 [.sl (.at id 0 3) l.length] σ K = true := by
  obtain ⟨n, rfl, hn⟩ := up (n := n) (k := l.length + 9) (by omega)
  have same : ddK l = l → K (.sl (.at id 0 3) l.length) σ = true := fun e => by
    rw [e, Nat.sub_self, List.replicate_zero, List.append_nil] at hK
    have e2 : σ.set id (.cells (kcs l) 3 .own) = σ := by
      apply List.ext_getElem?
      intro j
      by_cases hj : id = j
      · subst hj; rw [List.getElem?_set_self (get_lt hr), hr]
      · rw [List.getElem?_set_ne hj]
    rwa [e2] at hK
  conv => lhs; whnf
  by_cases h2 : l.length < 2
  · rw [show decide ((l.length : Int) < 2) = true from decide_eq_true (by omega)]
    have := same (ddK_id fun i h => by omega)
    conv => lhs; whnf
    exact this
  rw [show decide ((l.length : Int) < 2) = false from decide_eq_false (by omega)]
  conv => lhs; whnf
  refine loop_rule (m := 9) (fun r fr τ => ∃ (z : Int) (k : Nat), z = (k : Int) ∧ k + r = l.length ∧ 1 ≤ k ∧ τ = σ ∧ (∀ (i : Nat) (h : i + 1 < l.length), i + 1 < k → l[i]'(by omega) ≠ l[i + 1]) ∧
    fr = [.sl (.at id 0 3) l.length, .bad, .bad, .int .i64 z, .bad, .bad, .bad, .bad, .bad, .bad, .bad, .bad, .bad, .bad, .bad, .bad, .bad, .bad, .bad, .bad, .bad, .bad, .bad, .bad, .bad, .bad, .bad, .bad, .bad, .bad, .bad, .bad, .bad, .bad, .bad, .bad, .bad, .bad, .bad, .bad, .bad, .bad, .bad, .bad, .bad, .bad, .bad, .bad, .bad, .bad, .bad, .bad, .bad, .bad, .bad, .bad, .bad, .bad, .bad, .bad, .bad]) ?_ _ (l.length - 1) _ _ (by omega) ⟨_, 1, rfl, by omega, Nat.le_refl _, rfl, fun i h h2 => by omega, rfl⟩
  rintro r fr τ C ⟨z, k, rfl, hq, hk1, rfl, hne, rfl⟩ next fin
  conv => lhs; whnf
  by_cases hk : k < l.length
  case neg =>
    rw [show decide ((k : Int) < (l.length : Int)) = false from decide_eq_false (by omega)]
    have := same (ddK_id fun i h => hne i h (by omega))
    conv => lhs; whnf
    refine fin _ _ _ nofun ?_
    conv => lhs; whnf
    exact this
  rw [show decide ((k : Int) < (l.length : Int)) = true from decide_eq_true (by omega)]
  conv => lhs; whnf
  refine goK hD plan81x6 ord81x6 fun KK hKK => ?_
  conv => lhs; whnf
  refine bif_pos (inR hk) ?_
  rw [atR]
  conv => lhs; whnf
  refine ldKey hr hk ?_
  conv => lhs; whnf
  rw [show IntKind.i64.wrap ((k : Int) - 1) = ((k - 1 : Nat) : Int) by rw [wrap_i64 (by omega) (by omega)]; omega]
  refine bif_pos (inR (by omega)) ?_
  rw [atR]
  conv => lhs; whnf
  refine ldKey hr (by omega) ?_
  conv => lhs; whnf
  rw [keyEq_iff]
  by_cases he : l[k].1 = (l[k - 1]'(by omega)).1
  case neg =>
    rw [decide_eq_false he]
    conv => lhs; whnf
    subst hKK
    conv => lhs; whnf
    refine next (r - 1) _ _ (by omega) ⟨_, k + 1, inc_i64 (by omega), by omega, by omega, rfl, fun i h h2 => ?_, rfl⟩
    by_cases hik : i + 1 < k
    · exact hne i h hik
    · obtain rfl : k = i + 1 := by omega
      exact fun e => he (congrArg Subtype.val e.symm)
  rw [decide_eq_true he]
  conv => lhs; whnf
  subst hKK
  conv => lhs; whnf
  refine slFrom rfl (by omega) ?_
  have hd0 : ddK (l.take (k + 1)) = l.take k := by
    rw [ddK_take (by omega) hk, if_pos (Subtype.ext he.symm), List.append_nil]
    exact ddK_id fun i h => by
      have h' : i + 1 < k := by rw [List.length_take] at h; omega
      rw [List.getElem_take, List.getElem_take]
      exact hne i (by omega) h'
  conv => lhs; whnf
  refine loop_rule (m := 57) (fun r2 fr ρ => ∃ (z z3 : Int) (k2 kk : Nat) (R : List KeyB), z = (k2 : Int) ∧ z3 = (kk : Int) ∧ k2 + r2 = l.length - k ∧ 1 ≤ k2 ∧ kk + 1 ≤ k + k2 ∧ R.length = l.length ∧ R.take kk = ddK (l.take (k + k2)) ∧ (ddK (l.take (k + k2))).length = kk ∧
      (∀ j, k + k2 - 1 ≤ j → R[j]? = l[j]?) ∧ ρ[id]? = some (AO.cells (kcs R) 3 .own) ∧ (∀ x, ρ.set id x = τ.set id x) ∧
      fr = [.sl (.at id 0 3) l.length, .bad, .bad, .int .i64 z3, .sl (.at id (k * 3) 3) (l.length - k), .int .i64 z, .bad, .bad, .bad, .bad, .bad, .bad, .bad, .bad, .bad, .bad, .bad, .bad, .bad, .bad, .bad, .bad, .bad, .bad, .bad, .bad, .bad, .bad, .bad, .bad, .bad, .bad, .bad, .bad, .bad, .bad, .bad, .bad, .bad, .bad, .bad, .bad, .bad, .bad, .bad, .bad, .bad, .bad, .bad, .bad, .bad, .bad, .bad, .bad, .bad, .bad, .bad, .bad, .bad, .bad, .bad]) ?_ _ (l.length - k - 1) _ _ (by omega)
    ⟨_, _, 1, k, l, rfl, rfl, by omega, Nat.le_refl _, by omega, rfl, hd0.symm, by rw [hd0, List.length_take]; omega, fun j _ => rfl, hr, fun _ => rfl, rfl⟩
  clear hne next hd0
  rintro r2 fr ρ C2 ⟨z, z3, k2, kk, R, rfl, rfl, hq2, hk2, hkk, hRl, hRt, hRn, hRj, hρ, hset, rfl⟩ next2 fin2
  conv => lhs; whnf
  by_cases hk3 : k2 < l.length - k
  case neg =>
    have el : k + k2 = l.length := by omega
    rw [show decide ((k2 : Int) < ((l.length - k : Nat) : Int)) = false from decide_eq_false (by omega)]
    rw [el, List.take_length] at hRt hRn
    conv => lhs; whnf
    refine fin2 _ _ _ nofun ?_
    conv => lhs; whnf
    refine slFrom rfl (by omega) ?_
    rw [show l.length - kk = R.length - kk by omega]
    conv => lhs; whnf
    refine clearKeys hρ (by omega) ?_
    rw [hset, hRt, ← hRn, hRl]
    conv => lhs; whnf
    refine slTo rfl (ddK_len l) ?_
    conv => lhs; whnf
    refine fin _ _ _ nofun ?_
    conv => lhs; whnf
    exact hK
  rw [show decide ((k2 : Int) < ((l.length - k : Nat) : Int)) = true from decide_eq_true (by omega)]
  have a1 : ∀ m : Nat, (k * 3 + Int.toNat (m : Int) * 3) = (k + m) * 3 := fun m => by rw [Int.toNat_natCast]; omega
  have g1 : R[k + k2]'(by omega) = l[k + k2]'(by omega) := by
    have := hRj (k + k2) (by omega)
    rw [List.getElem?_eq_getElem (by omega), List.getElem?_eq_getElem (by omega)] at this
    exact Option.some.inj this
  have g2 : R[k + (k2 - 1)]'(by omega) = l[k + (k2 - 1)]'(by omega) := by
    have := hRj (k + (k2 - 1)) (by omega)
    rw [List.getElem?_eq_getElem (by omega), List.getElem?_eq_getElem (by omega)] at this
    exact Option.some.inj this
  have dt := ddK_take (l := l) (i := k + k2) (by omega) (by omega)
  conv => lhs; whnf
  refine goK hD plan81x11 ord81x11 fun KK hKK => ?_
  conv => lhs; whnf
  refine bif_pos (inR hk3) ?_
  rw [a1]
  conv => lhs; whnf
  refine ldKey hρ (by omega) ?_
  rw [g1]
  conv => lhs; whnf
  rw [show IntKind.i64.wrap ((k2 : Int) - 1) = ((k2 - 1 : Nat) : Int) by rw [wrap_i64 (by omega) (by omega)]; omega]
  refine bif_pos (inR (by omega)) ?_
  rw [a1]
  conv => lhs; whnf
  refine ldKey hρ (by omega) ?_
  rw [g2]
  conv => lhs; whnf
  rw [keyEq_iff]
  by_cases hq : (l[k + k2]'(by omega)).1 = (l[k + (k2 - 1)]'(by omega)).1
  · rw [decide_eq_true hq]
    have hd : ddK (l.take (k + (k2 + 1))) = ddK (l.take (k + k2)) := by
      rw [← Nat.add_assoc, dt, if_pos, List.append_nil]
      have h3 : l[k + k2 - 1]'(by omega) = l[k + (k2 - 1)]'(by omega) := by congr 1; omega
      rw [h3]
      exact Subtype.ext hq.symm
    conv => lhs; whnf
    subst hKK
    conv => lhs; whnf
    refine next2 (r2 - 1) _ _ (by omega) ⟨_, _, k2 + 1, kk, R, inc_i64 (by omega), rfl, by omega, by omega, by omega, hRl, by rw [hd]; exact hRt, by rw [hd]; exact hRn, fun j hj => hRj j (by omega), hρ, hset, rfl⟩
  · rw [decide_eq_false hq]
    have hd : ddK (l.take (k + (k2 + 1))) = ddK (l.take (k + k2)) ++ [l[k + k2]'(by omega)] := by
      rw [← Nat.add_assoc, dt, if_neg]
      have h3 : l[k + k2 - 1]'(by omega) = l[k + (k2 - 1)]'(by omega) := by congr 1; omega
      rw [h3]
      exact fun e => hq (congrArg Subtype.val e.symm)
    conv => lhs; whnf
    subst hKK
    conv => lhs; whnf
    refine bif_pos (inR hk3) ?_
    rw [a1]
    conv => lhs; whnf
    refine ldKey hρ (by omega) ?_
    rw [g1]
    conv => lhs; whnf
    refine bif_pos (inR (show kk < l.length by omega)) ?_
    rw [atR]
    conv => lhs; whnf
    refine stKey hρ (by omega) ?_
    conv => lhs; whnf
    refine next2 (r2 - 1) _ _ (by omega) ⟨_, _, k2 + 1, kk + 1, R.set kk (l[k + k2]'(by omega)), inc_i64 (by omega), inc_i64 (by omega), by omega, by omega, by omega, by rw [List.length_set]; exact hRl, ?_, by rw [hd, List.length_append, hRn]; rfl, fun j hj => ?_, get_set hρ _, fun x => ?_, rfl⟩
    · rw [hd, ← hRt, List.take_succ_eq_append_getElem (by rw [List.length_set]; omega), List.take_set_of_le (Nat.le_refl _), List.getElem_set_self]
    · rw [List.getElem?_set_ne (by omega)]
      exact hRj j (by omega)
    · rw [List.set_set]
      exact hset x
end Go.Proofs.YtajincfelnmlhaaGreat
namespace Go.Proofs.YtajincfelnmlhaaGreat
set_option maxRecDepth 100000
open Go Go.AM Go.AM.St
variable {σ : H} {D : Drawer}
theorem sort_nil {n : Nat} {a : AM.SA} (ha : a = .nil ∨ a = .zero) {K : AV → H → Bool} (hK : K (.tup []) σ = true) : acall Tryz.prog tab D n 79 [.sl a 0, .fn 80 []] σ K = true := by
  have key : run79 [.sl a 0, .fn 80 []] σ K = true := by
    unfold run79
    rcases ha with rfl | rfl
    · conv => lhs; whnf
      exact hK
    · conv => lhs; whnf
      exact hK
  have key2 : sort79 [.sl a 0, .fn 80 []] σ K = true := by rcases ha with rfl | rfl <;> exact key
  cases n <;> exact key2
theorem compact_nil {n : Nat} {a : AM.SA} (hn : 1 ≤ n) (ha : a = .nil ∨ a = .zero) {K : AV → H → Bool} (hK : K (.sl a 0) σ = true) : acall Tryz.prog tab D n 81 [.sl a 0] σ K = true := by
  obtain ⟨n, rfl, hn⟩ := up hn
  rcases ha with rfl | rfl
  · conv => lhs; whnf
    exact hK
  · conv => lhs; whnf
    exact hK
/-- Locks in their order, each once. -/
def srtV (l : List KeyB) : List KeyB := ddK (sortK l)
theorem sorted_spec {n : Nat} {σ0 : H} {o : Option Nat} {a : AM.SA} {l : List KeyB} (hD : ByPlan Tryz.prog D) (hn : l.length + 20 ≤ n) (hl : l.length ≤ 1000000) (hpos : ∀ id, o = some id → 0 < l.length) (ow : OwnS σ0 σ 3 o a l.length (kcs l)) {K : AV → H → Bool}
    (hK : ∀ a' σ', (∀ j, o ≠ some j → σ'[j]? = σ[j]?) → Rw σ' 3 a' (srtV l).length (kcs (srtV l)) → (∀ j off z, a' = .at j off z → o = some j) → σ'.length = σ.length → K (.sl a' (srtV l).length) σ' = true) : acall Tryz.prog tab D n 63 [.sl a l.length] σ K = true := by
  obtain ⟨n, rfl, hn⟩ := up (n := n) (k := l.length + 19) (by omega)
  cases o with
  | none =>
    obtain ⟨h1, h2, _⟩ := ow
    obtain rfl := List.length_eq_zero_iff.1 h2
    have := hK a σ (fun _ _ => rfl) (by rcases h1 with rfl | rfl
                                        · exact Rw.nil _ _
                                        · exact Rw.zero _ _) (fun j off z e => by rcases h1 with rfl | rfl <;> cases e) rfl
    conv => lhs; whnf
    refine sort_nil h1 ?_
    conv => lhs; whnf
    refine compact_nil (by omega) h1 ?_
    rcases h1 with rfl | rfl
    · conv => lhs; whnf
      exact this
    · conv => lhs; whnf
      exact this
  | some id =>
    obtain ⟨rfl, h2, h3, _⟩ := ow
    have h0 := hpos id rfl
    have lsrt : (sortK l).length = l.length := (sortK_perm l).length_eq
    conv => lhs; whnf
    refine sort_spec hl h0 h3 ?_
    conv => lhs; whnf
    rw [← lsrt]
    refine compact_spec hD (by omega) (by omega) (get_set h3 _) ?_
    rw [List.set_set]
    have := hK (.at id 0 3) (σ.set id (.cells (kcs (ddK (sortK l) ++ List.replicate ((sortK l).length - (ddK (sortK l)).length) default)) 3 .own)) (fun j hj => List.getElem?_set_ne (fun e => hj (by rw [e]))) (.inr (.inr ⟨id, 0, _, .own, rfl, get_set h3 _, by rw [kcs_len, List.length_append]; unfold srtV; omega, by
      unfold srtV
      rw [List.drop_zero, kcs_take, List.take_left]⟩)) (fun j off z e => by cases e; rfl) List.length_set
    unfold srtV at this
    conv => lhs; whnf
    exact this
end Go.Proofs.YtajincfelnmlhaaGreat
namespace Go.Proofs.YtajincfelnmlhaaGreat
set_option maxRecDepth 100000
open Go Go.AM Go.AM.St
variable {σ : H} {D : Drawer}
/-- What an operation locks. -/
def keyOf (o : OpV) : KeyV := if kindOf o.kind = 1 then ⟨o.s, o.k, false⟩ else ⟨o.s, [], true⟩
theorem keyOf_ok {o : OpV} (h : OkV o) : okB (keyOf o) = true := by
  have hs : o.s.all (fun b => Nat.blt b 256) = true := List.all_eq_true.2 fun b hb => by rw [Nat.blt_eq]; exact h.s b hb
  have hk : o.k.all (fun b => Nat.blt b 256) = true := List.all_eq_true.2 fun b hb => by rw [Nat.blt_eq]; exact h.k b hb
  unfold keyOf okB
  split
  · simp only [hs, hk]; rfl
  · simp only [hs]; rfl
def keyB (o : {o : OpV // OkV o}) : KeyB := ⟨keyOf o.1, keyOf_ok o.2⟩
def keysOf (l : List OpV) (h : ∀ o ∈ l, OkV o) : List KeyB := l.attach.map fun o => ⟨keyOf o.1, keyOf_ok (h o.1 o.2)⟩
theorem keysOf_len (l : List OpV) (h : ∀ o ∈ l, OkV o) : (keysOf l h).length = l.length := by simp [keysOf]
theorem keysOf_get (l : List OpV) (h : ∀ o ∈ l, OkV o) {i : Nat} (hi : i < l.length) : (keysOf l h)[i]'(by rw [keysOf_len]; exact hi) = ⟨keyOf l[i], keyOf_ok (h _ (List.getElem_mem hi))⟩ := by
  simp [keysOf]
theorem buildK {x : KeyB} {K : AV → H → Bool} (hK : K (.sl (.at σ.length 0 3) 1) (σ ++ [.cells (kcs [x]) 3 .own]) = true) : buildSliceK Tryz.prog 62 1 [(0, .agg (avK x))] σ K = true := by
  conv => lhs; whnf
  exact hK
theorem buildK' {x : KeyB} {s k : List Nat} {b : Bool} (e : x.1 = ⟨s, k, b⟩) {K : AV → H → Bool} (hK : K (.sl (.at σ.length 0 3) 1) (σ ++ [.cells (kcs [x]) 3 .own]) = true) : buildSliceK Tryz.prog 62 1 [(0, .agg [.str (ints s), .str (ints k), .bool b])] σ K = true := by
  have := buildK (x := x) hK
  unfold avK at this
  rw [e] at this
  exact this
theorem prefix_of {σ σ' : H} (h : ∀ j, j < σ.length → σ'[j]? = σ[j]?) : σ <+: σ' := by
  rw [List.prefix_iff_eq_take]
  apply List.ext_getElem?
  intro j
  rw [List.getElem?_take]
  by_cases hj : j < σ.length
  · rw [if_pos hj, h j hj]
  · rw [if_neg hj, List.getElem?_eq_none (by omega)]
attribute [local irreducible] IntKind.wrap Int.fdiv Int.tdiv Int.tmod BitVec.ofInt appendK sliceK indexAddrK ldK storeK seenK makeSliceK lookupK updateK deleteK mapK rangeK nextK buildSliceK indexK clearK
theorem lockOf_spec {n : Nat} {s : AM.SA} {l : List OpV} (hD : ByPlan Tryz.prog D) (hn : l.length + 50 ≤ n) (hl : l.length ≤ 1000) (hs : Rw σ 5 s l.length (opvs l)) (ho : ∀ o ∈ l, OkV o) {K : AV → H → Bool}
    (hK : ∀ a' σ', σ <+: σ' → Rw σ' 3 a' (srtV (keysOf l ho)).length (kcs (srtV (keysOf l ho))) → (∀ j off z, a' = .at j off z → σ.length ≤ j) → K (.sl a' (srtV (keysOf l ho)).length) σ' = true) : acall Tryz.prog tab D n 37 [.sl s l.length] σ K = true := by
  obtain ⟨n, rfl, hn⟩ := up (n := n) (k := l.length + 49) (by omega)
  have hL := keysOf_len l ho
  have hG := fun (i : Nat) (hi : i < l.length) => keysOf_get l ho hi
  conv => lhs; whnf
  refine loop_rule (m := 456) (fun r fr τ => ∃ (z : Int) (i : Nat) (o : Option Nat) (a : AM.SA), z = (i : Int) ∧ i + r = l.length ∧ σ <+: τ ∧ OwnS σ τ 3 o a ((keysOf l ho).take i).length (kcs ((keysOf l ho).take i)) ∧ (∀ id, o = some id → 0 < i) ∧
    fr = [.bad, .bad, .bad, .sl a ((keysOf l ho).take i).length, .bad, .bad, .sl s l.length, .int .i64 l.length, .int .i64 z, .bad, .bad, .bad, .bad, .bad, .bad, .bad, .bad, .bad, .bad, .bad, .bad, .bad, .bad, .bad, .bad, .bad, .bad, .bad, .bad, .bad, .bad, .bad, .bad]) ?_ _ l.length _ _ (by omega) ⟨_, 0, none, .nil, rfl, by omega, List.prefix_rfl, OwnS.nil _ _ _, nofun, rfl⟩
  rintro r fr τ C ⟨z, i, o, a, rfl, hq, p, ow, hpos, rfl⟩ next fin
  conv => lhs; whnf
  by_cases hi : i < l.length
  case neg =>
    rw [show decide ((i : Int) < (l.length : Int)) = false from decide_eq_false (by omega)]
    rw [List.take_of_length_le (by rw [hL]; omega)] at ow
    rw [List.take_of_length_le (by rw [hL]; omega)]
    conv => lhs; whnf
    refine fin _ _ _ nofun ?_
    conv => lhs; whnf
    refine sorted_spec hD (by rw [hL]; omega) (by rw [hL]; omega) (fun id e => by have := hpos id e; rw [hL]; omega) ow fun a' σ' k1 k2 k3 _ => ?_
    have hlow : ∀ id, o = some id → σ.length ≤ id := fun id e => by subst e; exact ow.2.1
    have := hK a' σ' (prefix_of fun j hj => by
      rw [k1 j fun e => by have := hlow j e; omega]
      rw [List.getElem?_eq_getElem hj, prefix_get p (List.getElem?_eq_getElem hj)]) k2 (fun j off z e => hlow j (k3 j off z e))
    conv => lhs; whnf
    exact this
  rw [show decide ((i : Int) < (l.length : Int)) = true from decide_eq_true (by omega)]
  conv => lhs; whnf
  refine idxV (hs.mono p) rfl hi fun pe he => ?_
  conv => lhs; whnf
  refine ldE he ?_
  conv => lhs; whnf
  refine storeV (get_new _ _) ?_
  rw [set_new]
  have TO := get_new τ (AO.cells (opv l[i]) 5 .own)
  conv => lhs; whnf
  refine ldF Tryz.underlying3 rfl rfl TO rfl ?_
  conv => lhs; whnf
  refine kind_spec (by omega) ?_
  have et : (keysOf l ho).take (i + 1) = (keysOf l ho).take i ++ [⟨keyOf l[i], keyOf_ok (ho _ (List.getElem_mem hi))⟩] := by
    rw [List.take_succ_eq_append_getElem (by rw [hL]; exact hi), hG i hi]
  have hx := keyOf_ok (ho _ (List.getElem_mem hi))
  generalize hxe : (⟨keyOf l[i], keyOf_ok (ho _ (List.getElem_mem hi))⟩ : KeyB) = x at et
  by_cases hk : kindOf l[i].kind = 1
  · have ek : x.1 = ⟨l[i].s, l[i].k, false⟩ := by rw [← hxe]; show keyOf l[i] = _; unfold keyOf; rw [if_pos hk]
    conv => lhs; whnf
    rw [show (kindOf l[i].kind == 1) = true from beq_iff_eq.2 hk]
    conv => lhs; whnf
    refine ldF Tryz.underlying9 rfl rfl TO rfl ?_
    conv => lhs; whnf
    refine ldF Tryz.underlying9 rfl rfl TO rfl ?_
    conv => lhs; whnf
    refine buildK' ek ?_
    conv => lhs; whnf
    refine appS (n := ((keysOf l ho).take i).length) (m := 1) (ys := kcs [x]) Tryz.underlying62 rfl rfl rfl rfl (by decide) (p.trans ((List.prefix_append _ _).trans (List.prefix_append _ _))) (ow.mono ((List.prefix_append _ _).trans (List.prefix_append _ _))) (Rw.new _ .own rfl) (N := ((keysOf l ho).take (i + 1)).length) (zs := kcs ((keysOf l ho).take (i + 1))) (by rw [et, List.length_append]; rfl) (by rw [et, kcs_app]) (by rw [List.length_take, hL]; show _ * 40 ≤ _; omega) fun o2 a2 σ2 p2 _ _ _ _ w2 => ?_
    conv => lhs; whnf
    refine next (r - 1) _ _ (by omega) ⟨_, i + 1, o2, a2, inc_i64 (by omega), by omega, p2, w2, fun _ _ => Nat.succ_pos _, rfl⟩
  · have ek : x.1 = ⟨l[i].s, [], true⟩ := by rw [← hxe]; show keyOf l[i] = _; unfold keyOf; rw [if_neg hk]
    conv => lhs; whnf
    rw [show (kindOf l[i].kind == 1) = false from beq_eq_false_iff_ne.2 hk]
    conv => lhs; whnf
    refine ldF Tryz.underlying9 rfl rfl TO rfl ?_
    conv => lhs; whnf
    refine buildK' ek ?_
    conv => lhs; whnf
    refine appS (n := ((keysOf l ho).take i).length) (m := 1) (ys := kcs [x]) Tryz.underlying62 rfl rfl rfl rfl (by decide) (p.trans ((List.prefix_append _ _).trans (List.prefix_append _ _))) (ow.mono ((List.prefix_append _ _).trans (List.prefix_append _ _))) (Rw.new _ .own rfl) (N := ((keysOf l ho).take (i + 1)).length) (zs := kcs ((keysOf l ho).take (i + 1))) (by rw [et, List.length_append]; rfl) (by rw [et, kcs_app]) (by rw [List.length_take, hL]; show _ * 40 ≤ _; omega) fun o2 a2 σ2 p2 _ _ _ _ w2 => ?_
    conv => lhs; whnf
    refine next (r - 1) _ _ (by omega) ⟨_, i + 1, o2, a2, inc_i64 (by omega), by omega, p2, w2, fun _ _ => Nat.succ_pos _, rfl⟩
end Go.Proofs.YtajincfelnmlhaaGreat
namespace Go.Proofs.YtajincfelnmlhaaGreat
open Go Go.AM Go.AM.St
theorem srtV_strict (l : List KeyB) : (srtV l).Pairwise (fun x y => ltK x.1 y.1) := ddK_strict (sortK_sorted l)
theorem srtV_mem {l : List KeyB} {x : KeyB} : x ∈ srtV l ↔ x ∈ l := by
  unfold srtV
  rw [ddK_mem]
  exact (sortK_perm l).mem_iff
theorem srtV_len (l : List KeyB) : (srtV l).length ≤ l.length := by
  unfold srtV
  exact Nat.le_trans (ddK_len _) (Nat.le_of_eq (sortK_perm l).length_eq)
/-- A lock of a whole space names no key. -/
def plainK (x : KeyV) : Prop := x.all = true → x.k = []
theorem keyOf_plain (o : OpV) : plainK (keyOf o) := by
  unfold plainK keyOf
  split
  · intro h; cases h
  · intro _; rfl
theorem keysOf_mem {l : List OpV} {h : ∀ o ∈ l, OkV o} {x : KeyB} : x ∈ keysOf l h ↔ ∃ o ∈ l, keyOf o = x.1 := by
  unfold keysOf
  rw [List.mem_map]
  constructor
  · rintro ⟨⟨o, ho⟩, _, rfl⟩
    exact ⟨o, ho, rfl⟩
  · rintro ⟨o, ho, e⟩
    exact ⟨⟨o, ho⟩, List.mem_attach _ _, Subtype.ext e⟩
/-- Does a lock stand for an operation? -/
def matchK (x : KeyV) (o : OpV) : Bool := decide (x.s = o.s) && (x.all && !(kindOf o.kind == 1) || (!x.all && kindOf o.kind == 1 && decide (x.k = o.k)))
theorem matchK_iff {x : KeyV} (hx : plainK x) (o : OpV) : matchK x o = true ↔ x = keyOf o := by
  unfold matchK keyOf
  obtain ⟨s, k, a⟩ := x
  cases hk : kindOf o.kind == 1 with
  | true =>
    rw [if_pos (beq_iff_eq.1 hk)]
    cases a <;> simp
  | false =>
    rw [if_neg (beq_eq_false_iff_ne.1 hk)]
    cases a with
    | true => have := hx rfl; simp only at this; simp [this]
    | false => simp
end Go.Proofs.YtajincfelnmlhaaGreat
namespace Go.Proofs.YtajincfelnmlhaaGreat
open Go Go.AM Go.AM.St
abbrev StrictK (l : List KeyB) : Prop := l.Pairwise (fun x y => ltK x.1 y.1)
theorem ltK_asymm {x y : KeyV} (h : ltK x y) : ¬ ltK y x := fun h2 => ltK_irrefl _ (ltK_trans h h2)
theorem strict_nodup {l : List KeyB} (h : StrictK l) : l.Nodup := by
  refine List.Pairwise.imp ?_ h
  intro a b hab e
  subst e
  exact ltK_irrefl _ hab
theorem strict_ext {a b : List KeyB} (ha : StrictK a) (hb : StrictK b) (h : ∀ x, x ∈ a ↔ x ∈ b) : a = b :=
  List.Perm.eq_of_pairwise (fun _ _ _ _ h1 h2 => absurd h2 (ltK_asymm h1)) ha hb ((List.perm_ext_iff_of_nodup (strict_nodup ha) (strict_nodup hb)).2 h)
theorem nodup_len {α : Type} {a b : List α} (ha : a.Nodup) (hb : b.Nodup) (h : ∀ x, x ∈ a ↔ x ∈ b) : a.length = b.length :=
  ((List.perm_ext_iff_of_nodup ha hb).2 h).length_eq
/-- Two locks meet. -/
def meetV (a b : KeyV) : Bool := decide (a.s = b.s) && (a.all || (b.all || decide (a.k = b.k)))
theorem meet_self (a : KeyV) : meetV a a = true := by
  unfold meetV
  simp
theorem meet_comm (a b : KeyV) : meetV a b = meetV b a := by
  unfold meetV
  rw [Bool.eq_iff_iff]
  simp only [Bool.and_eq_true, Bool.or_eq_true, decide_eq_true_eq]
  constructor
  · rintro ⟨h1, h2 | h2 | h2⟩
    · exact ⟨h1.symm, .inr (.inl h2)⟩
    · exact ⟨h1.symm, .inl h2⟩
    · exact ⟨h1.symm, .inr (.inr h2.symm)⟩
  · rintro ⟨h1, h2 | h2 | h2⟩
    · exact ⟨h1.symm, .inr (.inl h2)⟩
    · exact ⟨h1.symm, .inl h2⟩
    · exact ⟨h1.symm, .inr (.inr h2.symm)⟩
end Go.Proofs.YtajincfelnmlhaaGreat
namespace Go.Proofs.YtajincfelnmlhaaGreat
set_option maxRecDepth 100000
open Go Go.AM Go.AM.St
/-- An element of a row of locks, wherever it lies. -/
theorem idxKV {σ : H} {s : AM.SA} {l : List KeyB} (hs : Rw σ 3 s l.length (kcs l)) {k : IntKind} {y : Int} {i : Nat} {K : AV → Bool} (hy : y = (i : Int)) (hi : i < l.length) (hK : ∀ p, Elem σ 3 p (avK l[i]) → K (.ptr (some p)) = true) :
    indexAddrK Tryz.prog 62 (.sl s l.length) (.int k y) K = true := indexAddrK_rw Tryz.underlying62 (fun _ => rfl) hs hy hi (kcs_at hi) hK
/-! Fields of such an element. -/
theorem ldKs {σ : H} {p : PA} {x : KeyB} {K : AV → Bool} (hp : Elem σ 3 p (avK x)) (hK : K (.str (ints x.1.s)) = true) : ldK Tryz.prog 9 σ ⟨p.id, p.base, p.d + 0, p.z⟩ K = true := by
  obtain ⟨h1, h2, xs, md, h3, h4, h5⟩ := hp
  have hx : xs[p.base + (p.d + 0)]? = some (.str (ints x.1.s)) := by
    have e : ((xs.drop p.base).take 3)[0]? = some (.str (ints x.1.s)) := by rw [h5]; rfl
    rw [List.getElem?_take_of_lt (by omega), List.getElem?_drop] at e
    rw [h1]
    simpa using e
  refine ldF Tryz.underlying9 rfl rfl h3 hx ?_
  conv => lhs; whnf
  exact hK
theorem ldKk {σ : H} {p : PA} {x : KeyB} {K : AV → Bool} (hp : Elem σ 3 p (avK x)) (hK : K (.str (ints x.1.k)) = true) : ldK Tryz.prog 9 σ ⟨p.id, p.base, p.d + 1, p.z⟩ K = true := by
  obtain ⟨h1, h2, xs, md, h3, h4, h5⟩ := hp
  have hx : xs[p.base + (p.d + 1)]? = some (.str (ints x.1.k)) := by
    have e : ((xs.drop p.base).take 3)[1]? = some (.str (ints x.1.k)) := by rw [h5]; rfl
    rw [List.getElem?_take_of_lt (by omega), List.getElem?_drop] at e
    rw [h1]
    simpa using e
  refine ldF Tryz.underlying9 rfl rfl h3 hx ?_
  conv => lhs; whnf
  exact hK
theorem ldKa {σ : H} {p : PA} {x : KeyB} {K : AV → Bool} (hp : Elem σ 3 p (avK x)) (hK : K (.bool x.1.all) = true) : ldK Tryz.prog 4 σ ⟨p.id, p.base, p.d + 2, p.z⟩ K = true := by
  obtain ⟨h1, h2, xs, md, h3, h4, h5⟩ := hp
  have hx : xs[p.base + (p.d + 2)]? = some (.bool x.1.all) := by
    have e : ((xs.drop p.base).take 3)[2]? = some (.bool x.1.all) := by rw [h5]; rfl
    rw [List.getElem?_take_of_lt (by omega), List.getElem?_drop] at e
    rw [h1]
    simpa using e
  refine ldF Tryz.underlying4 rfl rfl h3 hx ?_
  conv => lhs; whnf
  exact hK
theorem ldKv {σ : H} {p : PA} {x : KeyB} {K : AV → Bool} (hp : Elem σ 3 p (avK x)) (hK : K (.agg (avK x)) = true) : ldK Tryz.prog 75 σ p K = true := by
  refine ldK_struct Tryz.underlying75 rfl rfl hp ?_
  conv => lhs; whnf
  exact hK
theorem idxRV {σ : H} {s : AM.SA} {l : List KeyB} (hs : Rw σ 3 s l.length (kcs l)) {k : IntKind} {y : Int} {i : Nat} {K : AV → Bool} (hy : y = (i : Int)) (hi : i < l.length) (hK : ∀ p, Elem σ 3 p (avK l[i]) → K (.ptr (some p)) = true) :
    indexAddrK Tryz.prog 58 (.sl s l.length) (.int k y) K = true := indexAddrK_rw Tryz.underlying58 (fun _ => rfl) hs hy hi (kcs_at hi) hK
theorem ldRv {σ : H} {p : PA} {x : KeyB} {K : AV → Bool} (hp : Elem σ 3 p (avK x)) (hK : K (.agg (avK x)) = true) : ldK Tryz.prog 68 σ p K = true := by
  refine ldK_struct Tryz.underlying68 rfl rfl hp ?_
  conv => lhs; whnf
  exact hK
theorem elem1 {σ : H} {h : Nat} {x : KeyB} {md : Md} (hh : σ[h]? = some (.cells (avK x) 3 md)) : Elem σ 3 ⟨h, 0, 0, 3⟩ (avK x) := ⟨rfl, rfl, _, _, hh, Nat.le_refl 3, rfl⟩
theorem ldKv1 {σ : H} {h : Nat} {x : KeyB} {md : Md} {K : AV → Bool} (hh : σ[h]? = some (.cells (avK x) 3 md)) (hK : K (.agg (avK x)) = true) : ldK Tryz.prog 75 σ ⟨h, 0, 0, 3⟩ K = true := ldKv (elem1 hh) hK
theorem ldRv1 {σ : H} {h : Nat} {x : KeyB} {md : Md} {K : AV → Bool} (hh : σ[h]? = some (.cells (avK x) 3 md)) (hK : K (.agg (avK x)) = true) : ldK Tryz.prog 68 σ ⟨h, 0, 0, 3⟩ K = true := ldRv (elem1 hh) hK
/-- A lock is laid into a row of its own. -/
theorem storeKv {σ : H} {h : Nat} {u v w : AV} {x : KeyB} {K : H → Bool} (hh : σ[h]? = some (.cells [u, v, w] 3 .own)) (hK : K (σ.set h (.cells (avK x) 3 .own)) = true) : storeK Tryz.prog 75 (.ptr (some ⟨h, 0, 0, 3⟩)) (.agg (avK x)) σ K = true :=
  storeS (i := Tryz.prog.types[75]) rfl hh rfl rfl (Nat.le_refl 3) rfl hK
theorem storeRv {σ : H} {h : Nat} {u v w : AV} {x : KeyB} {K : H → Bool} (hh : σ[h]? = some (.cells [u, v, w] 3 .own)) (hK : K (σ.set h (.cells (avK x) 3 .own)) = true) : storeK Tryz.prog 68 (.ptr (some ⟨h, 0, 0, 3⟩)) (.agg (avK x)) σ K = true :=
  storeS (i := Tryz.prog.types[68]) rfl hh rfl rfl (Nat.le_refl 3) rfl hK
end Go.Proofs.YtajincfelnmlhaaGreat
namespace Go.Proofs.YtajincfelnmlhaaGreat
set_option maxRecDepth 100000
open Go Go.AM Go.AM.St
theorem ints_beqK (a b : List Nat) : (ints a == ints b) = decide (a = b) := by
  rw [Bool.eq_iff_iff, beq_iff_eq, decide_eq_true_iff]
  exact ⟨ints_inj, fun h => by rw [h]⟩
attribute [local irreducible] IntKind.wrap Int.fdiv Int.tdiv Int.tmod BitVec.ofInt appendK sliceK indexAddrK ldK storeK seenK makeSliceK lookupK updateK deleteK mapK rangeK nextK buildSliceK indexK clearK
variable {σ : H} {D : Drawer}
theorem meet_spec {n : Nat} {x y : KeyB} (hn : 1 ≤ n) {K : AV → H → Bool} (hK : ∀ σ', σ <+: σ' → K (.bool (meetV x.1 y.1)) σ' = true) : acall Tryz.prog tab D n 66 [.agg (avK x), .agg (avK y)] σ K = true := by
  obtain ⟨n, rfl, hn⟩ := up hn
  have P := (List.prefix_append σ [AO.cells (avK x) 3 .own]).trans (List.prefix_append _ [AO.cells (avK y) 3 .own])
  replace hK := hK _ P
  have T1 := get_old (get_new σ (AO.cells (avK x) 3 .own)) (AO.cells (avK y) 3 .own)
  have T2 := get_new (σ ++ [AO.cells (avK x) 3 .own]) (AO.cells (avK y) 3 .own)
  obtain ⟨⟨xs, xk, xa⟩, hx⟩ := x
  obtain ⟨⟨ys, yk, ya⟩, hy⟩ := y
  unfold meetV at hK
  simp only at hK
  conv => lhs; whnf
  refine ldF Tryz.underlying9 rfl rfl T1 rfl ?_
  conv => lhs; whnf
  refine ldF Tryz.underlying9 rfl rfl T2 rfl ?_
  conv => lhs; whnf
  rw [ints_beqK]
  by_cases hs : xs = ys
  case neg =>
    rw [decide_eq_false hs] at hK ⊢
    conv => lhs; whnf
    exact hK
  rw [decide_eq_true hs] at hK ⊢
  conv => lhs; whnf
  refine ldF Tryz.underlying4 rfl rfl T1 rfl ?_
  cases xa with
  | true =>
    conv => lhs; whnf
    exact hK
  | false =>
    conv => lhs; whnf
    refine ldF Tryz.underlying4 rfl rfl T2 rfl ?_
    cases ya with
    | true =>
      conv => lhs; whnf
      exact hK
    | false =>
      conv => lhs; whnf
      refine ldF Tryz.underlying9 rfl rfl T1 rfl ?_
      conv => lhs; whnf
      refine ldF Tryz.underlying9 rfl rfl T2 rfl ?_
      conv => lhs; whnf
      rw [ints_beqK]
      by_cases hk : xk = yk
      · rw [decide_eq_true hk] at hK ⊢
        conv => lhs; whnf
        exact hK
      · rw [decide_eq_false hk] at hK ⊢
        conv => lhs; whnf
        exact hK
theorem rmeet_spec {n : Nat} {x y : KeyB} (hn : 1 ≤ n) {K : AV → H → Bool} (hK : ∀ σ', σ <+: σ' → K (.bool (meetV x.1 y.1)) σ' = true) : acall Tryz.prog tab D n 41 [.agg (avK x), .agg (avK y)] σ K = true := by
  obtain ⟨n, rfl, hn⟩ := up hn
  have P := (List.prefix_append σ [AO.cells (avK x) 3 .own]).trans (List.prefix_append _ [AO.cells (avK y) 3 .own])
  replace hK := hK _ P
  have T1 := get_old (get_new σ (AO.cells (avK x) 3 .own)) (AO.cells (avK y) 3 .own)
  have T2 := get_new (σ ++ [AO.cells (avK x) 3 .own]) (AO.cells (avK y) 3 .own)
  obtain ⟨⟨xs, xk, xa⟩, hx⟩ := x
  obtain ⟨⟨ys, yk, ya⟩, hy⟩ := y
  unfold meetV at hK
  simp only at hK
  conv => lhs; whnf
  refine ldF Tryz.underlying9 rfl rfl T1 rfl ?_
  conv => lhs; whnf
  refine ldF Tryz.underlying9 rfl rfl T2 rfl ?_
  conv => lhs; whnf
  rw [ints_beqK]
  by_cases hs : xs = ys
  case neg =>
    rw [decide_eq_false hs] at hK ⊢
    conv => lhs; whnf
    exact hK
  rw [decide_eq_true hs] at hK ⊢
  conv => lhs; whnf
  refine ldF Tryz.underlying4 rfl rfl T1 rfl ?_
  cases xa with
  | true =>
    conv => lhs; whnf
    exact hK
  | false =>
    conv => lhs; whnf
    refine ldF Tryz.underlying4 rfl rfl T2 rfl ?_
    cases ya with
    | true =>
      conv => lhs; whnf
      exact hK
    | false =>
      conv => lhs; whnf
      refine ldF Tryz.underlying9 rfl rfl T1 rfl ?_
      conv => lhs; whnf
      refine ldF Tryz.underlying9 rfl rfl T2 rfl ?_
      conv => lhs; whnf
      rw [ints_beqK]
      by_cases hk : xk = yk
      · rw [decide_eq_true hk] at hK ⊢
        conv => lhs; whnf
        exact hK
      · rw [decide_eq_false hk] at hK ⊢
        conv => lhs; whnf
        exact hK
/-- The document's order. -/
def befV (x y : KeyV) : Bool := if x.s = y.s then (if x.all = y.all then ltL (ints x.k) (ints y.k) else x.all) else ltL (ints x.s) (ints y.s)
theorem befV_iff (x y : KeyV) : befV x y = true ↔ ltK x y := by
  unfold befV ltK
  by_cases h1 : x.s = y.s
  · rw [if_pos h1]
    have hn : ¬ ltL (ints x.s) (ints y.s) = true := by rw [h1, ltL_irrefl]; simp
    cases hx : x.all <;> cases hy : y.all <;> simp [h1, ltL_irrefl]
  · rw [if_neg h1]
    constructor
    · exact .inl
    · rintro (h | ⟨h, _⟩)
      · exact h
      · exact absurd h h1
theorem before_spec {n : Nat} {x y : KeyB} (hn : 1 ≤ n) {K : AV → H → Bool} (hK : ∀ σ', σ <+: σ' → K (.bool (befV x.1 y.1)) σ' = true) : acall Tryz.prog tab D n 67 [.agg (avK x), .agg (avK y)] σ K = true := by
  obtain ⟨n, rfl, hn⟩ := up hn
  have P := (List.prefix_append σ [AO.cells (avK x) 3 .own]).trans (List.prefix_append _ [AO.cells (avK y) 3 .own])
  replace hK := hK _ P
  have T1 := get_old (get_new σ (AO.cells (avK x) 3 .own)) (AO.cells (avK y) 3 .own)
  have T2 := get_new (σ ++ [AO.cells (avK x) 3 .own]) (AO.cells (avK y) 3 .own)
  obtain ⟨⟨xs, xk, xa⟩, hx⟩ := x
  obtain ⟨⟨ys, yk, ya⟩, hy⟩ := y
  unfold befV at hK
  simp only at hK
  conv => lhs; whnf
  refine ldF Tryz.underlying9 rfl rfl T1 rfl ?_
  conv => lhs; whnf
  refine ldF Tryz.underlying9 rfl rfl T2 rfl ?_
  conv => lhs; whnf
  rw [ints_beqK]
  by_cases hs : xs = ys
  case neg =>
    rw [decide_eq_false hs]
    rw [if_neg hs] at hK
    conv => lhs; whnf
    refine ldF Tryz.underlying9 rfl rfl T1 rfl ?_
    conv => lhs; whnf
    refine ldF Tryz.underlying9 rfl rfl T2 rfl ?_
    conv => lhs; whnf
    generalize ltL (ints xs) (ints ys) = b at hK ⊢
    cases b with
    | true =>
      conv => lhs; whnf
      exact hK
    | false =>
      conv => lhs; whnf
      exact hK
  rw [decide_eq_true hs]
  rw [if_pos hs] at hK
  conv => lhs; whnf
  refine ldF Tryz.underlying4 rfl rfl T1 rfl ?_
  conv => lhs; whnf
  cases xa <;> cases ya
  case false.true =>
    conv => lhs; whnf
    refine ldF Tryz.underlying4 rfl rfl T2 rfl ?_
    conv => lhs; whnf
    refine ldF Tryz.underlying4 rfl rfl T1 rfl ?_
    conv => lhs; whnf
    exact hK
  case true.false =>
    conv => lhs; whnf
    refine ldF Tryz.underlying4 rfl rfl T2 rfl ?_
    conv => lhs; whnf
    refine ldF Tryz.underlying4 rfl rfl T1 rfl ?_
    conv => lhs; whnf
    exact hK
  all_goals
    conv => lhs; whnf
    refine ldF Tryz.underlying4 rfl rfl T2 rfl ?_
    conv => lhs; whnf
    refine ldF Tryz.underlying9 rfl rfl T1 rfl ?_
    conv => lhs; whnf
    refine ldF Tryz.underlying9 rfl rfl T2 rfl ?_
    conv => lhs; whnf
    rw [if_pos rfl] at hK
    generalize ltL (ints xk) (ints yk) = b at hK ⊢
    cases b with
    | true =>
      conv => lhs; whnf
      exact hK
    | false =>
      conv => lhs; whnf
      exact hK
/-- What Take asks of a lock. -/
theorem took_spec {n h : Nat} {x y : KeyB} (hn : 2 ≤ n) {md : Md} (hh : σ[h]? = some (.cells (avK y) 3 md)) {K : AV → H → Bool} (hK : ∀ σ', σ <+: σ' → K (.bool (meetV x.1 y.1)) σ' = true) : acall Tryz.prog tab D n 65 [.agg (avK x), .ptr (some ⟨h, 0, 0, 3⟩)] σ K = true := by
  obtain ⟨n, rfl, hn⟩ := up (n := n) (k := 1) (by omega)
  conv => lhs; whnf
  refine ldKv1 (get_new σ (AO.cells (avK x) 3 .own)) ?_
  conv => lhs; whnf
  refine ldKv1 (get_old hh _) ?_
  conv => lhs; whnf
  refine meet_spec (by omega) fun σ1 p1 => ?_
  have := hK _ ((List.prefix_append σ [AO.cells (avK x) 3 .own]).trans p1)
  conv => lhs; whnf
  generalize meetV x.1 y.1 = b at this ⊢
  cases b with
  | true =>
    conv => lhs; whnf
    exact this
  | false =>
    conv => lhs; whnf
    exact this
theorem ix_keys {n h : Nat} {s : AM.SA} {l : List KeyB} {y : KeyB} {md : Md} (hn : l.length + 10 ≤ n) (hl : l.length ≤ 1000000) (hs : Rw σ 3 s l.length (kcs l)) (hh : σ[h]? = some (.cells (avK y) 3 md)) {K : AV → H → Bool}
    (h0 : (∀ x ∈ l, meetV x.1 y.1 = false) → ∀ σ', σ <+: σ' → K (.int .i64 (-1)) σ' = true) (h1 : (∃ x ∈ l, meetV x.1 y.1 = true) → ∀ (i : Nat) σ', σ <+: σ' → K (.int .i64 (i : Int)) σ' = true) :
    acall Tryz.prog tab D n 82 [.sl s l.length, .fn 65 [.ptr (some ⟨h, 0, 0, 3⟩)]] σ K = true := by
  obtain ⟨n, rfl, hn⟩ := up (n := n) (k := l.length + 9) (by omega)
  conv => lhs; whnf
  refine loop_rule (m := 387) (fun q fr τ => ∃ (z : Int) (i : Nat), z = (i : Int) ∧ i + q = l.length ∧ (∀ x ∈ l.take i, meetV x.1 y.1 = false) ∧ σ <+: τ ∧ fr = [.sl s l.length, .fn 65 [.ptr (some ⟨h, 0, 0, 3⟩)], .bad, .bad, .bad, .bad, .bad, .int .i64 l.length, .int .i64 z, .bad, .bad, .bad, .bad, .bad, .bad, .bad, .bad, .bad, .bad]) ?_ _ l.length _ _ (by omega) ⟨_, 0, rfl, by omega, fun x hx => by simp at hx, List.prefix_rfl, rfl⟩
  rintro q fr τ C ⟨z, i, rfl, hq, hlo, p, rfl⟩ next fin
  conv => lhs; whnf
  by_cases hi : i < l.length
  · rw [show decide ((i : Int) < (l.length : Int)) = true from decide_eq_true (by omega)]
    conv => lhs; whnf
    refine idxKV (hs.mono p) rfl hi fun pe he => ?_
    conv => lhs; whnf
    refine ldKv he ?_
    conv => lhs; whnf
    refine took_spec (by omega) (prefix_get p hh) fun σ1 p1 => ?_
    cases hm : meetV l[i].1 y.1 with
    | true =>
      have := h1 ⟨_, List.getElem_mem hi, hm⟩ i _ (p.trans p1)
      conv => lhs; whnf
      refine fin _ _ _ nofun ?_
      conv => lhs; whnf
      exact this
    | false =>
      conv => lhs; whnf
      refine next (q - 1) _ _ (by omega) ⟨_, i + 1, inc_i64 (by omega), by omega, fun x hx => ?_, p.trans p1, rfl⟩
      rw [List.take_succ_eq_append_getElem hi] at hx
      rcases List.mem_append.1 hx with hx | hx
      · exact hlo x hx
      · simp at hx
        subst hx
        exact hm
  rw [show decide ((i : Int) < (l.length : Int)) = false from decide_eq_false (by omega)]
  rw [List.take_of_length_le (by omega)] at hlo
  have := h0 hlo _ p
  conv => lhs; whnf
  refine fin _ _ _ nofun ?_
  conv => lhs; whnf
  exact this
theorem has_keys {n h : Nat} {s : AM.SA} {l : List KeyB} {y : KeyB} {md : Md} (hn : l.length + 12 ≤ n) (hl : l.length ≤ 1000000) (hs : Rw σ 3 s l.length (kcs l)) (hh : σ[h]? = some (.cells (avK y) 3 md)) {K : AV → H → Bool}
    (h0 : (∀ x ∈ l, meetV x.1 y.1 = false) → ∀ σ', σ <+: σ' → K (.bool false) σ' = true) (h1 : (∃ x ∈ l, meetV x.1 y.1 = true) → ∀ σ', σ <+: σ' → K (.bool true) σ' = true) :
    acall Tryz.prog tab D n 64 [.sl s l.length, .fn 65 [.ptr (some ⟨h, 0, 0, 3⟩)]] σ K = true := by
  obtain ⟨n, rfl, hn⟩ := up (n := n) (k := l.length + 11) (by omega)
  conv => lhs; whnf
  refine ix_keys (by omega) hl hs hh (fun h σ' p => ?_) fun h i σ' p => ?_
  · have := h0 h σ' p
    conv => lhs; whnf
    exact this
  · have := h1 h σ' p
    conv => lhs; whnf
    exact this
end Go.Proofs.YtajincfelnmlhaaGreat
namespace Go.Proofs.YtajincfelnmlhaaGreat
set_option maxRecDepth 100000
open Go Go.AM Go.AM.St
abbrev encKy (k : KeyB) : AV := .agg (avK k)
abbrev valI (i : Int × Int) : AV := .agg (idv i.1 i.2)
theorem keyOk75 : keyOkT Tryz.prog 75 = true := by kernel_rfl
theorem keyT : KT Tryz.prog 75 encKy where
  ok := keyOk75
  cast k K := by
    unfold castT
    rw [Tryz.underlying75]
    rfl
  eq a b := by
    show some (ints a.1.s == ints b.1.s && (ints a.1.k == ints b.1.k && (a.1.all == b.1.all && true))) = _
    rw [keyEq_iff]
    exact congrArg some (decide_eq_decide.2 Subtype.ext_iff.symm)
/-- Who holds what. -/
abbrev Own1 := KeyB → Option (Int × Int)
structure LkAt (σ : H) (B m : Nat) (f : Own1) : Prop where
  b : σ[B]? = some (.cells [.map (some m)] 1 .own)
  m : MapAt encKy valI σ m f
theorem LkAt.mono {σ σ' : H} {B m : Nat} {f : Own1} (h : LkAt σ B m f) (p : σ <+: σ') : LkAt σ' B m f := ⟨prefix_get p h.b, h.m.mono p⟩
theorem LkAt.lt {σ : H} {B m : Nat} {f : Own1} (h : LkAt σ B m f) : m < σ.length := by
  obtain ⟨es, c, h⟩ := h.m.isMap
  exact get_lt h
theorem LkAt.frm {σ σ' : H} {B m : Nat} {f g : Own1} (h : LkAt σ B m f) (hf : Frm m σ σ') (hm : MapAt encKy valI σ' m g) : LkAt σ' B m g := ⟨h.m.cells hf h.b, hm⟩
theorem Frm.one {m : Nat} {σ σ' : H} (h : ∀ id, id ≠ m → σ'[id]? = σ[id]?) (l : σ'.length = σ.length) : Frm m σ σ' := ⟨Nat.le_of_eq l.symm, fun id _ h2 => h id h2⟩
attribute [local irreducible] IntKind.wrap Int.fdiv Int.tdiv Int.tmod BitVec.ofInt appendK sliceK indexAddrK ldK storeK seenK makeSliceK lookupK updateK deleteK mapK rangeK nextK buildSliceK indexK clearK
variable {σ : H} {D : Drawer} {B m : Nat} {f : Own1}
theorem lnew_spec {n : Nat} (hn : 1 ≤ n) {K : AV → H → Bool} (hK : ∀ B m σ', σ <+: σ' → LkAt σ' B m (fun _ => none) → σ.length ≤ B → σ.length ≤ m → K (.ptr (some ⟨B, 0, 0, 1⟩)) σ' = true) : acall Tryz.prog tab D n 35 [] σ K = true := by
  obtain ⟨n, rfl, hn⟩ := up hn
  have := hK (σ ++ [AO.map [] 0]).length σ.length ((σ ++ [.map [] 0]) ++ [.cells [.map (some σ.length)] 1 .own]) ((List.prefix_append _ _).trans (List.prefix_append _ _))
    ⟨get_new _ _, [], 0, get_old (get_new _ _) _, ⟨by simp, by simp, fun e he => by simp at he⟩, fun k v => ⟨nofun, fun ⟨e, he, _⟩ => by simp at he⟩⟩ (by simp) (Nat.le_refl _)
  conv => lhs; whnf
  exact this
theorem llen_spec {n : Nat} (hn : 1 ≤ n) (hl : LkAt σ B m f) {K : AV → H → Bool} (hK : ∀ L : List KeyB, L.Nodup → (∀ k, k ∈ L ↔ f k ≠ none) → K (.int .i64 (L.length : Int)) σ = true) : acall Tryz.prog tab D n 45 [.ptr (some ⟨B, 0, 0, 1⟩)] σ K = true := by
  obtain ⟨n, rfl, hn⟩ := up hn
  obtain ⟨E, c, hE⟩ := hl.m
  conv => lhs; whnf
  refine ldF Tryz.underlying98 rfl rfl hl.b rfl ?_
  conv => lhs; whnf
  refine lenG hE fun L es h0 h1 h2 => ?_
  have := hK L h1 h2
  rw [h0]
  conv => lhs; whnf
  exact this
/-- The name is laid down, and found again. -/
theorem ldI {σ : H} {h : Nat} {i : Int × Int} {md : Md} {K : AV → Bool} (hh : σ[h]? = some (.cells (idv i.1 i.2) 2 md)) (hK : K (.agg (idv i.1 i.2)) = true) : ldK Tryz.prog 26 σ ⟨h, 0, 0, 2⟩ K = true := by
  refine ldK_struct (es := idv i.1 i.2) Tryz.underlying26 rfl rfl ⟨rfl, rfl, _, _, hh, Nat.le_refl 2, rfl⟩ ?_
  conv => lhs; whnf
  exact hK
theorem storeI {σ : H} {h : Nat} {u v : AV} {i : Int × Int} {K : H → Bool} (hh : σ[h]? = some (.cells [u, v] 2 .own)) (hK : K (σ.set h (.cells (idv i.1 i.2) 2 .own)) = true) : storeK Tryz.prog 26 (.ptr (some ⟨h, 0, 0, 2⟩)) (.agg (idv i.1 i.2)) σ K = true :=
  storeS (i := Tryz.prog.types[26]) rfl hh rfl rfl (Nat.le_refl 2) rfl hK
theorem idEqK (i j : Int × Int) : (i.1 == j.1 && (i.2 == j.2 && true)) = decide (i = j) := by
  rw [Bool.eq_iff_iff, decide_eq_true_iff]
  obtain ⟨a, b⟩ := i
  obtain ⟨c, d⟩ := j
  simp
theorem set_two (σ : H) (a b x : AO) : (σ ++ [a] ++ [b]).set σ.length x = σ ++ [x] ++ [b] := by simp
theorem get_two (σ : H) (a b x : AO) : (σ ++ [a] ++ [b])[(σ ++ [x]).length]? = some b := by simp
theorem set_two' (σ : H) (a b x y : AO) : (σ ++ [a] ++ [b]).set (σ ++ [x]).length y = σ ++ [a] ++ [y] := by simp
theorem take_spec {n : Nat} {id : Int × Int} {a : AM.SA} {ks : List KeyB} (hD : ByPlan Tryz.prog D) (hB : ∀ L : List KeyB, L.Nodup → (∀ k ∈ L, f k ≠ none) → L.length + 50 ≤ n) (hn : ks.length + 50 ≤ n) (hks : ks.length ≤ 1000000) (hl : LkAt σ B m f) (hs : Rw σ 3 a ks.length (kcs ks)) {K : AV → H → Bool}
    (h0 : (∃ k' i, f k' = some i ∧ i ≠ id ∧ ∃ k ∈ ks, meetV k.1 k'.1 = true) → ∀ σ', σ <+: σ' → K (.bool false) σ' = true)
    (h1 : (∀ k' i, f k' = some i → i ≠ id → ∀ k ∈ ks, meetV k.1 k'.1 = false) → ∀ σ', Frm m σ σ' → LkAt σ' B m (fun k => if k ∈ ks then some id else f k) → K (.bool true) σ' = true) :
    acall Tryz.prog tab D n 42 [.ptr (some ⟨B, 0, 0, 1⟩), .agg (idv id.1 id.2), .sl a ks.length] σ K = true := by
  obtain ⟨n, rfl, hn⟩ := up (n := n) (k := ks.length + 49) (by omega)
  obtain ⟨E, c, hE⟩ := hl.m
  have hEl : E.length + 50 ≤ n + 1 := by
    have := hB (E.map LE.k) hE.ok.keys fun k hk => by
      obtain ⟨e, he, rfl⟩ := List.mem_map.1 hk
      rw [(hE.f e.k e.v).2 ⟨e, he, rfl, rfl⟩]
      nofun
    simpa using this
  have P1 := List.prefix_append σ [AO.cells (idv id.1 id.2) 2 .own]
  have T4 := get_new σ (AO.cells (idv id.1 id.2) 2 .own)
  have hE1 : MapE encKy valI (σ ++ [AO.cells (idv id.1 id.2) 2 .own]) m f E c := hE.frm (by rw [prefix_get P1 hE.m, hE.m])
  conv => lhs; whnf
  refine ldF Tryz.underlying98 rfl rfl (prefix_get P1 hl.b) rfl ?_
  conv => lhs; whnf
  refine rangeG Tryz.underlying98 hE1 ?_
  have P2 := List.prefix_append (σ ++ [AO.cells (idv id.1 id.2) 2 .own]) [AO.miter (some m) c [] c]
  have TI := get_new (σ ++ [AO.cells (idv id.1 id.2) 2 .own]) (AO.miter (some m) c [] c)
  conv => lhs; whnf
  refine loop_rule (m := 131093) (fun q fr τ => ∃ it seen, (σ ++ [AO.cells (idv id.1 id.2) 2 .own]) <+: τ ∧ σ.length + 1 ≤ it ∧ τ[it]? = some (.miter (some m) c seen c) ∧ unseenG seen E = q ∧ (∀ e ∈ E, e.born ∈ seen → e.v = id ∨ ∀ k ∈ ks, meetV k.1 e.k.1 = false) ∧
    fr = [.ptr (some ⟨B, 0, 0, 1⟩), .bad, .sl a ks.length, .bad, .ptr (some ⟨σ.length, 0, 0, 2⟩), .bad, .bad, .bad, .bad, .bad, .bad, .bad, .bad, .bad, .bad, .bad, .bad, .it it, .bad, .bad, .bad, .bad, .bad, .bad, .bad, .bad, .bad, .bad, .bad, .bad, .bad, .bad, .bad, .bad, .bad, .bad, .bad, .bad, .bad, .bad, .bad, .bad, .bad, .bad]) ?_ _ (unseenG [] E) _ _ (by have := List.length_filter_le (fun e : LE KeyB (Int × Int) => !([] : List Nat).contains e.born) E; unfold unseenG; omega)
    ⟨_, [], P2, by simp, TI, rfl, fun e _ h => by simp at h, rfl⟩
  clear TI P2
  rintro q fr τ C ⟨it, seen, p, hit, hi, rfl, hno, rfl⟩ next fin
  have hEτ := hE1.frm (σ' := τ) (by rw [prefix_get p hE1.m, hE1.m])
  conv => lhs; whnf
  refine nextG hi hEτ (fun hall => ?_) fun e he hns => ?_
  · have hall2 : ∀ k' i, f k' = some i → i ≠ id → ∀ k ∈ ks, meetV k.1 k'.1 = false := fun k' i h2 h3 => by
      obtain ⟨e, he, rfl, rfl⟩ := (hE.f k' i).1 h2
      rcases hno e he (hall e he) with h4 | h4
      · exact absurd h4 h3
      · exact h4
    have h1' := h1 hall2
    clear h0 h1
    conv => lhs; whnf
    refine fin _ _ _ nofun ?_
    conv => lhs; whnf
    refine loop_rule (m := 15032385553) (fun r fr ρ => ∃ (z : Int) (i : Nat), z = (i : Int) ∧ i + r = ks.length ∧ Frm m σ ρ ∧ ρ[σ.length]? = some (.cells (idv id.1 id.2) 2 .own) ∧ LkAt ρ B m (fun k => if k ∈ ks.take i then some id else f k) ∧
      fr = [.ptr (some ⟨B, 0, 0, 1⟩), .bad, .bad, .bad, .ptr (some ⟨σ.length, 0, 0, 2⟩), .bad, .bad, .bad, .bad, .bad, .bad, .bad, .bad, .bad, .bad, .bad, .bad, .bad, .bad, .bad, .bad, .bad, .bad, .bad, .bad, .bad, .bad, .bad, .bad, .bad, .bad, .sl a ks.length, .int .i64 ks.length, .int .i64 z, .bad, .bad, .bad, .bad, .bad, .bad, .bad, .bad, .bad, .bad]) ?_ _ ks.length _ _ (by omega)
      ⟨_, 0, rfl, by omega, Frm.pre (P1.trans p), prefix_get p T4, by simpa using hl.mono (P1.trans p), rfl⟩
    clear next fin
    rintro r fr ρ C2 ⟨z, i, rfl, hq, fr1, T5, lk, rfl⟩ next fin
    conv => lhs; whnf
    by_cases hi : i < ks.length
    case neg =>
      rw [show decide ((i : Int) < (ks.length : Int)) = false from decide_eq_false (by omega)]
      rw [List.take_of_length_le (by omega)] at lk
      have := h1' ρ fr1 lk
      conv => lhs; whnf
      refine fin _ _ _ nofun ?_
      conv => lhs; whnf
      exact this
    rw [show decide ((i : Int) < (ks.length : Int)) = true from decide_eq_true (by omega)]
    have hsρ := hl.m.rw fr1 hs
    conv => lhs; whnf
    refine idxKV hsρ rfl hi fun pe he => ?_
    conv => lhs; whnf
    refine ldKv he ?_
    conv => lhs; whnf
    refine storeKv (get_new _ _) ?_
    rw [set_new]
    have P3 := List.prefix_append ρ [AO.cells (avK ks[i]) 3 .own]
    have T6 := get_new ρ (AO.cells (avK ks[i]) 3 .own)
    have lk2 := lk.mono P3
    have T7 := prefix_get P3 T5
    conv => lhs; whnf
    refine goK hD plan42x11 ord42x11 fun KK hKK => ?_
    conv => lhs; whnf
    refine ldF Tryz.underlying98 rfl rfl lk2.b rfl ?_
    conv => lhs; whnf
    refine ldKv1 T6 ?_
    conv => lhs; whnf
    refine ldI (i := id) T7 ?_
    obtain ⟨E2, c2, hE2⟩ := lk2.m
    conv => lhs; whnf
    refine updG Tryz.underlying98 keyT hE2 ks[i] id fun σ2 m2 s2 l2 => ?_
    have F2 := Frm.one s2 l2
    have F3 := (Frm.pre (m := m) P3).trans F2
    conv => lhs; whnf
    subst hKK
    conv => lhs; whnf
    refine next (r - 1) _ _ (by omega) ⟨_, i + 1, inc_i64 (by omega), by omega, fr1.trans F3, lk.m.cells F3 T5, lk2.frm F2 ?_, rfl⟩
    have : updF (fun k => if k ∈ ks.take i then some id else f k) ks[i] id = fun k => if k ∈ ks.take (i + 1) then some id else f k := by
      funext k
      unfold updF
      rw [List.take_succ_eq_append_getElem hi]
      by_cases h5 : k = ks[i]
      · rw [if_pos h5, if_pos (List.mem_append_right _ (by rw [h5]; exact List.mem_singleton_self _))]
      · rw [if_neg h5]
        show (if k ∈ ks.take i then some id else f k) = _
        by_cases h6 : k ∈ ks.take i
        · rw [if_pos h6, if_pos (List.mem_append_left _ h6)]
        · rw [if_neg h6, if_neg fun h7 => (List.mem_append.1 h7).elim h6 fun h8 => h5 (List.mem_singleton.1 h8)]
    rw [← this]
    exact m2
  · have l0 := get_lt hi
    have i1 : (τ.set it (.miter (some m) c (seen ++ [e.born]) c))[it]? = some (.miter (some m) c (seen ++ [e.born]) c) := get_set hi _
    have p1 : (σ ++ [AO.cells (idv id.1 id.2) 2 .own]) <+: τ.set it (.miter (some m) c (seen ++ [e.born]) c) := prefix_set p (by simpa using hit) _
    have hE2 := hE1.frm (σ' := τ.set it (.miter (some m) c (seen ++ [e.born]) c)) (by rw [prefix_get p1 hE1.m, hE1.m])
    generalize τ.set it (.miter (some m) c (seen ++ [e.born]) c) = τ1 at i1 p1 hE2 ⊢
    conv => lhs; whnf
    rw [i1]
    conv => lhs; whnf
    rw [hE2.m, List.getLast?_concat]
    conv => lhs; whnf
    refine bif_pos (by simp) ?_
    rw [find_bornG hE2.ok.borns he]
    conv => lhs; whnf
    refine storeKv (x := e.k) (get_old (get_new _ _) _) ?_
    rw [set_two]
    conv => lhs; whnf
    refine storeI (i := e.v) (get_two _ _ _ _) ?_
    rw [set_two']
    have P3 := (List.prefix_append τ1 [AO.cells (avK e.k) 3 .own]).trans (List.prefix_append _ [AO.cells (idv e.v.1 e.v.2) 2 .own])
    have T5 := get_old (get_new τ1 (AO.cells (avK e.k) 3 .own)) (AO.cells (idv e.v.1 e.v.2) 2 .own)
    have T6 := get_two τ1 (AO.cells (avK e.k) 3 .own) (AO.cells (idv e.v.1 e.v.2) 2 .own)
    have T7 := prefix_get (p1.trans P3) T4
    have i2 := prefix_get P3 i1
    have hu := unseenG_lt he hns
    conv => lhs; whnf
    refine ldI (T6 _) ?_
    conv => lhs; whnf
    refine ldI T7 ?_
    conv => lhs; whnf
    rw [idEqK]
    by_cases hid : e.v = id
    · rw [decide_eq_true hid]
      conv => lhs; whnf
      refine next _ _ _ hu ⟨it, _, p1.trans P3, hit, i2, rfl, fun x hx hb => ?_, rfl⟩
      rcases List.mem_append.1 hb with hb | hb
      · exact hno x hx hb
      · simp at hb
        rw [nodup_inj hE.ok.borns hx he hb]
        exact .inl hid
    rw [decide_eq_false hid]
    conv => lhs; whnf
    refine has_keys (by omega) hks (hs.mono (P1.trans (p1.trans P3))) T5 (fun h2 σ2 p2 => ?_) fun h2 σ2 p2 => ?_
    · conv => lhs; whnf
      refine next _ _ _ hu ⟨it, _, p1.trans (P3.trans p2), hit, prefix_get p2 i2, rfl, fun x hx hb => ?_, rfl⟩
      rcases List.mem_append.1 hb with hb | hb
      · exact hno x hx hb
      · simp at hb
        rw [nodup_inj hE.ok.borns hx he hb]
        exact .inr h2
    · have := h0 ⟨e.k, e.v, (hE.f _ _).2 ⟨e, he, rfl, rfl⟩, hid, h2⟩ σ2 (P1.trans (p1.trans (P3.trans p2)))
      conv => lhs; whnf
      refine fin _ _ _ nofun ?_
      conv => lhs; whnf
      exact this
theorem build75 {x : KeyB} {K : AV → H → Bool} (hK : K (.sl (.at σ.length 0 3) 1) (σ ++ [.cells (kcs [x]) 3 .own]) = true) : buildSliceK Tryz.prog 62 1 [(0, .agg (avK x))] σ K = true := buildK hK
/-- Someone's locks, in their order. -/
theorem lhas_spec {n N : Nat} {id : Int × Int} (hD : ByPlan Tryz.prog D) (hN : N + 60 ≤ n) (hN2 : N ≤ 100000) (hB : ∀ L : List KeyB, L.Nodup → (∀ k ∈ L, f k ≠ none) → L.length ≤ N) (hl : LkAt σ B m f) {K : AV → H → Bool}
    (hK : ∀ a' L σ', σ <+: σ' → StrictK L → (∀ k, k ∈ L ↔ f k = some id) → Rw σ' 3 a' L.length (kcs L) → K (.sl a' L.length) σ' = true) :
    acall Tryz.prog tab D n 44 [.ptr (some ⟨B, 0, 0, 1⟩), .agg (idv id.1 id.2)] σ K = true := by
  obtain ⟨n, rfl, hn⟩ := up (n := n) (k := N + 59) (by omega)
  obtain ⟨E, c, hE⟩ := hl.m
  have hEl : E.length ≤ N := by
    have := hB (E.map LE.k) hE.ok.keys fun k hk => by
      obtain ⟨e, he, rfl⟩ := List.mem_map.1 hk
      rw [(hE.f e.k e.v).2 ⟨e, he, rfl, rfl⟩]
      nofun
    simpa using this
  have P1 := List.prefix_append σ [AO.cells (idv id.1 id.2) 2 .own]
  have T4 := get_new σ (AO.cells (idv id.1 id.2) 2 .own)
  have hE1 : MapE encKy valI (σ ++ [AO.cells (idv id.1 id.2) 2 .own]) m f E c := hE.frm (by rw [prefix_get P1 hE.m, hE.m])
  conv => lhs; whnf
  refine ldF Tryz.underlying98 rfl rfl (prefix_get P1 hl.b) rfl ?_
  conv => lhs; whnf
  refine rangeG Tryz.underlying98 hE1 ?_
  have P2 := List.prefix_append (σ ++ [AO.cells (idv id.1 id.2) 2 .own]) [AO.miter (some m) c [] c]
  have TI := get_new (σ ++ [AO.cells (idv id.1 id.2) 2 .own]) (AO.miter (some m) c [] c)
  conv => lhs; whnf
  refine loop_rule (m := 16424) (fun q fr τ => ∃ it seen o a L, (σ ++ [AO.cells (idv id.1 id.2) 2 .own]) <+: τ ∧ σ.length + 1 ≤ it ∧ τ[it]? = some (.miter (some m) c seen c) ∧ unseenG seen E = q ∧
    OwnS (σ ++ [AO.cells (idv id.1 id.2) 2 .own]) τ 3 o a L.length (kcs L) ∧ (∀ j, o = some j → 0 < L.length) ∧ L.Nodup ∧ (∀ k, k ∈ L ↔ ∃ e ∈ E, e.born ∈ seen ∧ e.k = k ∧ e.v = id) ∧
    fr = [.bad, .bad, .bad, .ptr (some ⟨σ.length, 0, 0, 2⟩), .bad, .sl a L.length, .bad, .bad, .bad, .bad, .bad, .bad, .bad, .bad, .it it, .bad, .bad, .bad, .bad, .bad, .bad, .bad, .bad, .bad, .bad, .bad, .bad, .bad, .bad]) ?_ _ (unseenG [] E) _ _ (by have := List.length_filter_le (fun e : LE KeyB (Int × Int) => !([] : List Nat).contains e.born) E; unfold unseenG; omega)
    ⟨_, [], none, .nil, [], P2, by simp, TI, rfl, OwnS.nil _ _ _, nofun, List.nodup_nil, fun k => ⟨fun h => by simp at h, fun ⟨e, _, h, _⟩ => by simp at h⟩, rfl⟩
  clear TI P2
  rintro q fr τ C ⟨it, seen, o, a, L, p, hit, hi, rfl, ow, hpos, hnd, hmem, rfl⟩ next fin
  have hEτ := hE1.frm (σ' := τ) (by rw [prefix_get p hE1.m, hE1.m])
  have hLl : L.length ≤ N := hB L hnd fun k hk => by
    obtain ⟨e, he, _, h1, h2⟩ := (hmem k).1 hk
    rw [(hE.f k id).2 ⟨e, he, h1, h2⟩]
    nofun
  conv => lhs; whnf
  refine nextG hi hEτ (fun hall => ?_) fun e he hns => ?_
  · conv => lhs; whnf
    refine fin _ _ _ nofun ?_
    conv => lhs; whnf
    refine sorted_spec hD (by omega) (by omega) (fun j e => hpos j e) ow fun a' σ' k1 k2 k3 _ => ?_
    have hlow : ∀ j, o = some j → σ.length < j := fun j e => by subst e; have := ow.2.1; simp at this; omega
    have := hK a' (srtV L) σ' (prefix_of fun j hj => by
      rw [k1 j fun e => by have := hlow j e; omega]
      rw [List.getElem?_eq_getElem hj, prefix_get (P1.trans p) (List.getElem?_eq_getElem hj)]) (srtV_strict L) (fun k => by
        rw [srtV_mem, hmem, hE.f]
        constructor
        · rintro ⟨e, he, _, h1, h2⟩; exact ⟨e, he, h1, h2⟩
        · rintro ⟨e, he, h1, h2⟩; exact ⟨e, he, hall e he, h1, h2⟩) k2
    conv => lhs; whnf
    exact this
  · have l0 := get_lt hi
    have hit2 : (σ ++ [AO.cells (idv id.1 id.2) 2 .own]).length ≤ it := by simpa using hit
    have i1 : (τ.set it (.miter (some m) c (seen ++ [e.born]) c))[it]? = some (.miter (some m) c (seen ++ [e.born]) c) := get_set hi _
    have p1 : (σ ++ [AO.cells (idv id.1 id.2) 2 .own]) <+: τ.set it (.miter (some m) c (seen ++ [e.born]) c) := prefix_set p hit2 _
    have hE2 := hE1.frm (σ' := τ.set it (.miter (some m) c (seen ++ [e.born]) c)) (by rw [prefix_get p1 hE1.m, hE1.m])
    have ow1 : OwnS (σ ++ [AO.cells (idv id.1 id.2) 2 .own]) (τ.set it (.miter (some m) c (seen ++ [e.born]) c)) 3 o a L.length (kcs L) := ow.keep fun j hj => List.getElem?_set_ne fun e => by
      subst hj
      have := ow.2.2.1
      rw [← e, hi] at this
      cases this
    generalize τ.set it (.miter (some m) c (seen ++ [e.born]) c) = τ1 at i1 p1 hE2 ow1 ⊢
    conv => lhs; whnf
    rw [i1]
    conv => lhs; whnf
    rw [hE2.m, List.getLast?_concat]
    conv => lhs; whnf
    refine bif_pos (by simp) ?_
    rw [find_bornG hE2.ok.borns he]
    conv => lhs; whnf
    refine storeKv (x := e.k) (get_old (get_new _ _) _) ?_
    rw [set_two]
    conv => lhs; whnf
    refine storeI (i := e.v) (get_two _ _ _ _) ?_
    rw [set_two']
    have P3 := (List.prefix_append τ1 [AO.cells (avK e.k) 3 .own]).trans (List.prefix_append _ [AO.cells (idv e.v.1 e.v.2) 2 .own])
    have T5 := get_old (get_new τ1 (AO.cells (avK e.k) 3 .own)) (AO.cells (idv e.v.1 e.v.2) 2 .own)
    have T6 := get_two τ1 (AO.cells (avK e.k) 3 .own) (AO.cells (idv e.v.1 e.v.2) 2 .own)
    have T7 := prefix_get (p1.trans P3) T4
    have i2 := prefix_get P3 i1
    have hu := unseenG_lt he hns
    conv => lhs; whnf
    refine ldI (T6 _) ?_
    conv => lhs; whnf
    refine ldI T7 ?_
    conv => lhs; whnf
    rw [idEqK]
    by_cases hid : e.v = id
    case neg =>
      rw [decide_eq_false hid]
      conv => lhs; whnf
      refine next _ _ _ hu ⟨it, _, o, a, L, p1.trans P3, hit, i2, rfl, ow1.mono P3, hpos, hnd, fun k => ?_, rfl⟩
      rw [hmem]
      constructor
      · rintro ⟨x, hx, h1, h2⟩; exact ⟨x, hx, by simp [h1], h2⟩
      · rintro ⟨x, hx, h1, h2, h3⟩
        rcases List.mem_append.1 h1 with h1 | h1
        · exact ⟨x, hx, h1, h2, h3⟩
        · simp at h1
          rw [nodup_inj hE.ok.borns hx he h1] at h3
          exact absurd h3 hid
    rw [decide_eq_true hid]
    conv => lhs; whnf
    refine ldKv1 T5 ?_
    conv => lhs; whnf
    refine build75 (x := e.k) ?_
    have P4 := List.prefix_append (τ1 ++ [AO.cells (avK e.k) 3 .own] ++ [AO.cells (idv e.v.1 e.v.2) 2 .own]) [AO.cells (kcs [e.k]) 3 .own]
    conv => lhs; whnf
    refine appS (n := L.length) (m := 1) (ys := kcs [e.k]) Tryz.underlying62 rfl rfl rfl rfl (by decide) (p1.trans (P3.trans P4)) (ow1.mono (P3.trans P4)) (Rw.new _ .own rfl) (N := (L ++ [e.k]).length) (zs := kcs (L ++ [e.k])) (by simp) (by rw [kcs_app]) (by rw [List.length_append]; show (_ + 1) * 40 ≤ _; omega) fun o2 a2 σ2 p2 l2 kk _ _ w2 => ?_
    have i3 : σ2[it]? = some (.miter (some m) c (seen ++ [e.born]) c) := by
      have i4 := prefix_get P4 i2
      rw [kk it (get_lt i4) fun e => by
        have := ow1.mono (P3.trans P4)
        rw [e] at this
        have := this.2.2.1
        rw [i4] at this
        cases this]
      exact i4
    conv => lhs; whnf
    have hek : e.k ∉ L := fun h => by
      obtain ⟨x, hx, h1, h2, _⟩ := (hmem _).1 h
      rw [nodup_inj hE.ok.keys hx he h2] at h1
      exact hns h1
    refine next _ _ _ hu ⟨it, _, o2, a2, L ++ [e.k], p2, hit, i3, rfl, w2, fun _ _ => by simp, ?_, fun k => ?_, rfl⟩
    · rw [List.nodup_append]
      exact ⟨hnd, by simp, fun x hx y hy => by simp at hy; subst hy; exact fun e => hek (by rw [← e]; exact hx)⟩
    · rw [List.mem_append, hmem]
      constructor
      · rintro (⟨x, hx, h1, h2⟩ | h)
        · exact ⟨x, hx, by simp [h1], h2⟩
        · simp at h
          exact ⟨e, he, by simp, h.symm, hid⟩
      · rintro ⟨x, hx, h1, h2, h3⟩
        rcases List.mem_append.1 h1 with h1 | h1
        · exact .inl ⟨x, hx, h1, h2, h3⟩
        · simp at h1
          right
          rw [nodup_inj hE.ok.borns hx he h1] at h2
          simp [h2]
/-- All of someone's locks are freed. -/
theorem lfree_spec {n N : Nat} {id : Int × Int} (hD : ByPlan Tryz.prog D) (hN : N + 61 ≤ n) (hN2 : N ≤ 100000) (hB : ∀ L : List KeyB, L.Nodup → (∀ k ∈ L, f k ≠ none) → L.length ≤ N) (hl : LkAt σ B m f) {K : AV → H → Bool}
    (hK : ∀ (L : List KeyB) σ', Frm m σ σ' → StrictK L → (∀ k, k ∈ L ↔ f k = some id) → LkAt σ' B m (fun k => if f k = some id then none else f k) → K (.int .i64 (L.length : Int)) σ' = true) :
    acall Tryz.prog tab D n 36 [.ptr (some ⟨B, 0, 0, 1⟩), .agg (idv id.1 id.2)] σ K = true := by
  obtain ⟨n, rfl, hn⟩ := up (n := n) (k := N + 60) (by omega)
  have P1 := List.prefix_append σ [AO.cells (idv id.1 id.2) 2 .own]
  have T4 := get_new σ (AO.cells (idv id.1 id.2) 2 .own)
  conv => lhs; whnf
  refine ldI T4 ?_
  conv => lhs; whnf
  refine lhas_spec hD (by omega) hN2 hB (hl.mono P1) fun a L σ1 p1 hst hmem rw1 => ?_
  have hLl : L.length ≤ N := hB L (strict_nodup hst) fun k hk => by
    rw [(hmem k).1 hk]
    nofun
  conv => lhs; whnf
  refine loop_rule (m := 14369) (fun r fr ρ => ∃ (z : Int) (i : Nat), z = (i : Int) ∧ i + r = L.length ∧ Frm m σ1 ρ ∧ LkAt ρ B m (fun k => if k ∈ L.take i then none else f k) ∧
    fr = [.ptr (some ⟨B, 0, 0, 1⟩), .bad, .bad, .bad, .bad, .sl a L.length, .bad, .bad, .bad, .bad, .bad, .sl a L.length, .int .i64 L.length, .int .i64 z, .bad, .bad, .bad, .bad, .bad, .bad, .bad, .bad, .bad, .bad, .bad]) ?_ _ L.length _ _ (by omega)
    ⟨_, 0, rfl, by omega, Frm.refl _ _, by simpa using hl.mono (P1.trans p1), rfl⟩
  rintro r fr ρ C2 ⟨z, i, rfl, hq, fr1, lk, rfl⟩ next fin
  conv => lhs; whnf
  by_cases hi : i < L.length
  case neg =>
    rw [show decide ((i : Int) < (L.length : Int)) = false from decide_eq_false (by omega)]
    rw [List.take_of_length_le (by omega)] at lk
    have := hK L ρ ((Frm.pre (P1.trans p1)).trans fr1) hst hmem (by
      have e : (fun k => if f k = some id then none else f k) = fun k => if k ∈ L then none else f k := by
        funext k
        by_cases h : f k = some id
        · rw [if_pos h, if_pos ((hmem k).2 h)]
        · rw [if_neg h, if_neg fun h2 => h ((hmem k).1 h2)]
      rw [e]
      exact lk)
    conv => lhs; whnf
    refine fin _ _ _ nofun ?_
    conv => lhs; whnf
    exact this
  rw [show decide ((i : Int) < (L.length : Int)) = true from decide_eq_true (by omega)]
  have hsρ := (hl.m.mono (P1.trans p1)).rw fr1 rw1
  conv => lhs; whnf
  refine idxKV hsρ rfl hi fun pe he => ?_
  conv => lhs; whnf
  refine ldKv he ?_
  conv => lhs; whnf
  refine storeKv (get_new _ _) ?_
  rw [set_new]
  have P3 := List.prefix_append ρ [AO.cells (avK L[i]) 3 .own]
  have T6 := get_new ρ (AO.cells (avK L[i]) 3 .own)
  have lk2 := lk.mono P3
  conv => lhs; whnf
  refine goK hD plan36x5 ord36x5 fun KK hKK => ?_
  conv => lhs; whnf
  refine ldF Tryz.underlying98 rfl rfl lk2.b rfl ?_
  conv => lhs; whnf
  refine ldKv1 T6 ?_
  obtain ⟨E2, c2, hE2⟩ := lk2.m
  conv => lhs; whnf
  refine delG Tryz.underlying98 keyT hE2 L[i] fun σ2 m2 s2 l2 => ?_
  have F2 := Frm.one s2 l2
  have F3 := (Frm.pre (m := m) P3).trans F2
  conv => lhs; whnf
  subst hKK
  conv => lhs; whnf
  refine next (r - 1) _ _ (by omega) ⟨_, i + 1, inc_i64 (by omega), by omega, fr1.trans F3, lk2.frm F2 ?_, rfl⟩
  have : delF (fun k => if k ∈ L.take i then none else f k) L[i] = fun k => if k ∈ L.take (i + 1) then none else f k := by
    funext k
    unfold delF
    rw [List.take_succ_eq_append_getElem hi]
    by_cases h5 : k = L[i]
    · rw [if_pos h5, if_pos (List.mem_append_right _ (by rw [h5]; exact List.mem_singleton_self _))]
    · rw [if_neg h5]
      show (if k ∈ L.take i then none else f k) = _
      by_cases h6 : k ∈ L.take i
      · rw [if_pos h6, if_pos (List.mem_append_left _ h6)]
      · rw [if_neg h6, if_neg fun h7 => (List.mem_append.1 h7).elim h6 fun h8 => h5 (List.mem_singleton.1 h8)]
  rw [← this]
  exact m2
end Go.Proofs.YtajincfelnmlhaaGreat
namespace Go.Proofs.YtajincfelnmlhaaGreat
set_option maxRecDepth 100000
open Go Go.AM Go.AM.St
theorem same_key (x : KeyB) : sameV (.agg (avK x)) (.agg (avK x)) = true := by
  obtain ⟨⟨s, k, a⟩, h⟩ := x
  simp [avK, keyc, sameV, sameL, sameLeaf]
theorem ldEk {σ : H} {p : PA} {o : OpV} {K : AV → Bool} (hp : Elem σ 5 p (opv o)) (hK : K (.str (ints o.k)) = true) : ldK Tryz.prog 9 σ ⟨p.id, p.base, p.d + 2, p.z⟩ K = true := by
  obtain ⟨h1, h2, xs, md, h3, h4, h5⟩ := hp
  have hx : xs[p.base + (p.d + 2)]? = some (.str (ints o.k)) := by
    have e : ((xs.drop p.base).take 5)[2]? = some (.str (ints o.k)) := by rw [h5]; rfl
    rw [List.getElem?_take_of_lt (by omega), List.getElem?_drop] at e
    rw [h1]
    simpa using e
  refine ldF Tryz.underlying9 rfl rfl h3 hx ?_
  conv => lhs; whnf
  exact hK
theorem ldE0 {σ : H} {p : PA} {o : OpV} {K : AV → Bool} (hp : Elem σ 5 p (opv o)) (hK : K (.int .i64 o.kind) = true) : ldK Tryz.prog 3 σ ⟨p.id, p.base, p.d + 0, p.z⟩ K = true := by
  obtain ⟨h1, h2, xs, md, h3, h4, h5⟩ := hp
  have hx : xs[p.base + (p.d + 0)]? = some (.int .i64 o.kind) := by
    have e : ((xs.drop p.base).take 5)[0]? = some (.int .i64 o.kind) := by rw [h5]; rfl
    rw [List.getElem?_take_of_lt (by omega), List.getElem?_drop] at e
    rw [h1]
    simpa using e
  refine ldF Tryz.underlying3 rfl rfl h3 hx ?_
  conv => lhs; whnf
  exact hK
theorem build58 {σ : H} {x : KeyB} {K : AV → H → Bool} (hK : K (.sl (.at σ.length 0 3) 1) (σ ++ [.cells (kcs [x]) 3 .own]) = true) : buildSliceK Tryz.prog 58 1 [(0, .agg (avK x))] σ K = true := by
  conv => lhs; whnf
  exact hK
theorem build58' {σ : H} {x : KeyB} {s k : List Nat} {b : Bool} (e : x.1 = ⟨s, k, b⟩) {K : AV → H → Bool} (hK : K (.sl (.at σ.length 0 3) 1) (σ ++ [.cells (kcs [x]) 3 .own]) = true) : buildSliceK Tryz.prog 58 1 [(0, .agg [.str (ints s), .str (ints k), .bool b])] σ K = true := by
  have := build58 (x := x) hK
  unfold avK at this
  rw [e] at this
  exact this
theorem storeRv' {σ : H} {h : Nat} {u v w : AV} {x : KeyB} {s k : List Nat} {b : Bool} (e : x.1 = ⟨s, k, b⟩) {K : H → Bool} (hh : σ[h]? = some (.cells [u, v, w] 3 .own)) (hK : K (σ.set h (.cells (avK x) 3 .own)) = true) : storeK Tryz.prog 68 (.ptr (some ⟨h, 0, 0, 3⟩)) (.agg [.str (ints s), .str (ints k), .bool b]) σ K = true := by
  have := storeRv (x := x) hh hK
  unfold avK at this
  rw [e] at this
  exact this
theorem own_ge {σ0 σ : H} {o : Option Nat} {a : AM.SA} {n z : Nat} {cs : List AV} (h : OwnS σ0 σ z o a n cs) {j off z' : Nat} (e : a = .at j off z') : σ0.length ≤ j := by
  subst e
  unfold OwnS at h
  split at h
  · rcases h.1 with h | h <;> cases h
  · obtain ⟨h1, h2, _⟩ := h
    cases h1
    exact h2
theorem allOf {x : KeyV} (b : Bool) (h : x.all = b) : x = ⟨x.s, x.k, b⟩ := by rw [← h]
theorem slT {σ : H} {a : AM.SA} {l : List KeyB} {j : Nat} (hs : Rw σ 3 a l.length (kcs l)) (hj : j ≤ l.length) {K : AV → Bool} (hK : ∀ a', Rw σ 3 a' j (kcs (l.take j)) → K (.sl a' j) = true) :
    sliceK Tryz.prog 58 (.sl a l.length) none (some (.int .i64 (j : Int))) none K = true :=
  sliceK_rw (z := 3) Tryz.underlying58 (fun K => rfl) hs (.inl ⟨rfl, rfl⟩) (.inr ⟨_, _, rfl, rfl⟩) (Nat.zero_le _) hj (Nat.sub_zero _) (by rw [kcs_take]; simp) hK
theorem slD {σ : H} {a : AM.SA} {l : List KeyB} {j : Nat} (hs : Rw σ 3 a l.length (kcs l)) (hj : j ≤ l.length) {K : AV → Bool} (hK : ∀ a', Rw σ 3 a' (l.length - j) (kcs (l.drop j)) → K (.sl a' (l.length - j)) = true) :
    sliceK Tryz.prog 58 (.sl a l.length) (some (.int .i64 (j : Int))) none none K = true :=
  sliceK_rw (z := 3) Tryz.underlying58 (fun K => rfl) hs (.inr ⟨_, _, rfl, rfl⟩) (.inl ⟨rfl, rfl⟩) hj (Nat.le_refl _) rfl (by rw [List.take_of_length_le (by rw [kcs_len]; exact Nat.le_refl _), kcs_drop]) hK
theorem appR {σ σ0 : H} (h0 : σ0 <+: σ) {o : Option Nat} {a b : AM.SA} {n m : Nat} {l ys : List KeyB} {K : AV → H → Bool} (hs : OwnS σ0 σ 3 o a n (kcs l)) (hn : l.length = n) (hx : Rw σ 3 b m (kcs ys)) (hm : ys.length = m) (hb : (l ++ ys).length ≤ 1000000)
    (hK : ∀ o' a' σ', σ0 <+: σ' → σ.length ≤ σ'.length → (∀ id, id < σ.length → o ≠ some id → σ'[id]? = σ[id]?) → OwnS σ0 σ' 3 o' a' (l ++ ys).length (kcs (l ++ ys)) → K (.sl a' (l ++ ys).length) σ' = true) :
    appendK Tryz.prog 58 (.sl a n) (.sl b m) σ K = true :=
  appS Tryz.underlying58 rfl rfl rfl rfl (by decide) h0 hs hx (N := (l ++ ys).length) (zs := kcs (l ++ ys)) (by rw [List.length_append, hn, hm]) (kcs_app _ _) (by show (l ++ ys).length * 40 ≤ _; omega) fun o' a' σ' p l2 kk _ _ w => hK o' a' σ' p l2 kk w
/-- A lock among others, in their order. -/
theorem lay_strict {l : List KeyB} (hl : StrictK l) {j : Nat} {k : KeyB} (h1 : ∀ x ∈ l.take j, ltK x.1 k.1) (h2 : ∀ (h : j < l.length), ltK k.1 l[j].1) : StrictK (l.take j ++ [k] ++ l.drop j) := by
  have hd : ∀ x ∈ l.drop j, ltK k.1 x.1 := fun x hx => by
    by_cases hj : j < l.length
    · rw [List.drop_eq_getElem_cons hj] at hx
      rcases List.mem_cons.1 hx with rfl | hx2
      · exact h2 hj
      · have h3 : StrictK (l.drop j) := hl.sublist (List.drop_sublist _ _)
        rw [List.drop_eq_getElem_cons hj, StrictK, List.pairwise_cons] at h3
        exact ltK_trans (h2 hj) (h3.1 x hx2)
    · rw [List.drop_eq_nil_of_le (by omega)] at hx
      simp at hx
  rw [StrictK, List.append_assoc, List.pairwise_append]
  refine ⟨hl.sublist (List.take_sublist _ _), ?_, fun a ha b hb => ?_⟩
  · rw [List.singleton_append, List.pairwise_cons]
    exact ⟨hd, hl.sublist (List.drop_sublist _ _)⟩
  · rw [List.singleton_append] at hb
    rcases List.mem_cons.1 hb with rfl | hb
    · exact h1 a ha
    · exact ltK_trans (h1 a ha) (hd b hb)
theorem lay_mem {l : List KeyB} {j : Nat} {k x : KeyB} : x ∈ l.take j ++ [k] ++ l.drop j ↔ x ∈ l ∨ x = k := by
  have : x ∈ l ↔ x ∈ l.take j ++ l.drop j := by rw [List.take_append_drop]
  rw [this]
  simp only [List.mem_append, List.mem_singleton]
  constructor
  · rintro ((h | h) | h)
    · exact .inl (.inl h)
    · exact .inr h
    · exact .inl (.inr h)
  · rintro ((h | h) | h)
    · exact .inl (.inl h)
    · exact .inr h
    · exact .inl (.inr h)
theorem lay_len {l L : List KeyB} {k : KeyB} {i : Nat} (h1 : StrictK l) (h2 : StrictK L) (hm : ∀ x, x ∈ L ↔ x ∈ l ∨ x = k) (hl : l.length ≤ i) : L.length ≤ i + 1 := by
  by_cases hk : k ∈ l
  · have : L = l := strict_ext h2 h1 fun x => by
      rw [hm]
      exact ⟨fun h => h.elim id fun h => by rw [h]; exact hk, .inl⟩
    rw [this]; omega
  · have := nodup_len (strict_nodup h2) (List.nodup_cons.2 ⟨hk, strict_nodup h1⟩) fun x => by rw [hm, List.mem_cons]; exact Or.comm
    rw [this, List.length_cons]; omega
attribute [local irreducible] IntKind.wrap Int.fdiv Int.tdiv Int.tmod BitVec.ofInt appendK sliceK indexAddrK ldK storeK seenK makeSliceK lookupK updateK deleteK mapK rangeK nextK buildSliceK indexK clearK
variable {σ : H} {D : Drawer}
theorem keys_spec {n : Nat} {s : AM.SA} {l : List KeyB} (hD : ByPlan Tryz.prog D) (hn : l.length + 10 ≤ n) (hl : l.length ≤ 1000000) (hs : Rw σ 3 s l.length (kcs l)) {K : AV → H → Bool}
    (hK : ∀ o a' σ', σ <+: σ' → OwnS σ σ' 3 o a' l.length (kcs l) → K (.sl a' l.length) σ' = true) : acall Tryz.prog tab D n 38 [.sl s l.length] σ K = true := by
  obtain ⟨n, rfl, hn⟩ := up (n := n) (k := l.length + 9) (by omega)
  conv => lhs; whnf
  refine loop_rule (m := 25) (fun r fr τ => ∃ (z : Int) (i : Nat) (o : Option Nat) (a : AM.SA), z = (i : Int) ∧ i + r = l.length ∧ σ <+: τ ∧ OwnS σ τ 3 o a (l.take i).length (kcs (l.take i)) ∧
    fr = [.sl s l.length, .bad, .bad, .sl a (l.take i).length, .int .i64 z, .bad, .bad, .bad, .bad, .bad, .bad, .bad, .bad, .bad, .bad, .bad, .bad, .bad, .bad, .bad, .bad, .bad, .bad, .bad, .bad, .bad, .bad, .bad, .bad, .bad, .bad]) ?_ _ l.length _ _ (by omega) ⟨_, 0, none, .nil, rfl, by omega, List.prefix_rfl, OwnS.nil _ _ _, rfl⟩
  rintro r fr τ C ⟨z, i, o, a, rfl, hq, p, ow, rfl⟩ next fin
  conv => lhs; whnf
  by_cases hi : i < l.length
  case neg =>
    rw [show decide ((i : Int) < (l.length : Int)) = false from decide_eq_false (by omega)]
    rw [List.take_of_length_le (by omega)] at ow ⊢
    have := hK o a τ p ow
    conv => lhs; whnf
    refine fin _ _ _ nofun ?_
    conv => lhs; whnf
    exact this
  rw [show decide ((i : Int) < (l.length : Int)) = true from decide_eq_true (by omega)]
  conv => lhs; whnf
  refine goK hD plan38x5 ord38x5 fun KK hKK => ?_
  conv => lhs; whnf
  refine idxKV (hs.mono p) rfl hi fun pe he => ?_
  obtain ⟨pid, pb, pd, pz⟩ := pe
  obtain rfl : pd = 0 := he.1
  obtain rfl : pz = 3 := he.2.1
  conv => lhs; whnf
  refine ldKs he ?_
  conv => lhs; whnf
  refine idxKV (hs.mono p) rfl hi fun pe he => ?_
  obtain ⟨pid, pb, pd, pz⟩ := pe
  obtain rfl : pd = 0 := he.1
  obtain rfl : pz = 3 := he.2.1
  conv => lhs; whnf
  refine ldKk he ?_
  conv => lhs; whnf
  refine idxKV (hs.mono p) rfl hi fun pe he => ?_
  obtain ⟨pid, pb, pd, pz⟩ := pe
  obtain rfl : pd = 0 := he.1
  obtain rfl : pz = 3 := he.2.1
  conv => lhs; whnf
  refine ldKa he ?_
  cases ha : l[i].1.all
  all_goals
    conv => lhs; whnf
    refine build58' (x := l[i]) (allOf _ ha) ?_
    have P4 := List.prefix_append τ [AO.cells (kcs [l[i]]) 3 .own]
    conv => lhs; whnf
    refine appR (p.trans P4) (ow.mono P4) rfl (Rw.new _ .own rfl) (m := 1) rfl (by rw [List.length_append, List.length_take]; show _ + 1 ≤ _; omega) fun o2 a2 σ2 p2 _ _ w2 => ?_
    rw [show l.take i ++ [l[i]] = l.take (i + 1) from (List.take_succ_eq_append_getElem hi).symm] at w2 ⊢
    conv => lhs; whnf
    subst hKK
    conv => lhs; whnf
    refine next (r - 1) _ _ (by omega) ⟨_, i + 1, o2, a2, inc_i64 (by omega), by omega, p2, w2, rfl⟩
theorem same_spec {n : Nat} {s t : AM.SA} {l m : List KeyB} (hD : ByPlan Tryz.prog D) (hn : l.length + 10 ≤ n) (hl : l.length ≤ 1000000) (hs : Rw σ 3 s l.length (kcs l)) (ht : Rw σ 3 t m.length (kcs m)) {K : AV → H → Bool}
    (he : l = m) (hK : K (.bool true) σ = true) : acall Tryz.prog tab D n 39 [.sl s l.length, .sl t m.length] σ K = true := by
  subst he
  obtain ⟨n, rfl, hn⟩ := up (n := n) (k := l.length + 9) (by omega)
  conv => lhs; whnf
  rw [show (!((l.length : Int) == (l.length : Int))) = false by simp]
  conv => lhs; whnf
  refine loop_rule (m := 35) (fun q fr τ => ∃ (z : Int) (i : Nat), z = (i : Int) ∧ i + q = l.length ∧ τ = σ ∧ fr = [.sl s l.length, .sl t l.length, .bad, .bad, .bad, .int .i64 z, .bad, .bad, .bad, .bad, .bad, .bad, .bad, .bad, .bad, .bad, .bad, .bad, .bad, .bad, .bad, .bad, .bad, .bad, .bad, .bad]) ?_ _ l.length _ _ (by omega) ⟨_, 0, rfl, by omega, rfl, rfl⟩
  rintro q fr τ C ⟨z, i, rfl, hq, rfl, rfl⟩ next fin
  conv => lhs; whnf
  by_cases hi : i < l.length
  · rw [show decide ((i : Int) < (l.length : Int)) = true from decide_eq_true (by omega)]
    conv => lhs; whnf
    refine goK hD plan39x6 ord39x6 fun KK hKK => ?_
    conv => lhs; whnf
    refine idxRV hs rfl hi fun p1 e1 => ?_
    conv => lhs; whnf
    refine ldRv e1 ?_
    conv => lhs; whnf
    refine idxRV ht rfl hi fun p2 e2 => ?_
    conv => lhs; whnf
    refine ldRv e2 ?_
    conv => lhs; whnf
    rw [keyEq_iff, decide_eq_true rfl]
    conv => lhs; whnf
    subst hKK
    conv => lhs; whnf
    refine next (q - 1) _ _ (by omega) ⟨_, i + 1, inc_i64 (by omega), by omega, rfl, rfl⟩
  rw [show decide ((i : Int) < (l.length : Int)) = false from decide_eq_false (by omega)]
  conv => lhs; whnf
  refine fin _ _ _ nofun ?_
  conv => lhs; whnf
  exact hK
theorem lay_spec {n : Nat} {s : AM.SA} {l : List KeyB} {k : KeyB} (hD : ByPlan Tryz.prog D) (hT : ByTree Tryz.prog D) (hn : l.length + 10 ≤ n) (hl : l.length ≤ 100000) (hs : Rw σ 3 s l.length (kcs l)) (hst : StrictK l) {K : AV → H → Bool}
    (hK : ∀ a' L σ', σ <+: σ' → StrictK L → (∀ x, x ∈ L ↔ x ∈ l ∨ x = k) → Rw σ' 3 a' L.length (kcs L) → (∀ j off z, a' = .at j off z → s = a' ∨ σ.length ≤ j) → K (.sl a' L.length) σ' = true) : acall Tryz.prog tab D n 43 [.sl s l.length, .agg (avK k)] σ K = true := by
  obtain ⟨n, rfl, hn⟩ := up (n := n) (k := l.length + 9) (by omega)
  have P1 := List.prefix_append σ [AO.cells (avK k) 3 .own]
  have TK := get_new σ (AO.cells (avK k) 3 .own)
  conv => lhs; whnf
  refine loop_rule (m := 41) (fun r fr τ => ∃ (z : Int) (j : Nat), z = (j : Int) ∧ j + r = l.length ∧ (σ ++ [AO.cells (avK k) 3 .own]) <+: τ ∧ (∀ x ∈ l.take j, ltK x.1 k.1) ∧
    fr = [.sl s l.length, .bad, .bad, .ptr (some ⟨σ.length, 0, 0, 3⟩), .bad, .int .i64 z, .bad, .bad, .bad, .bad, .bad, .bad, .bad, .bad, .bad, .bad, .bad, .bad, .bad, .bad, .bad, .bad, .bad, .bad, .bad, .bad, .bad, .bad, .bad, .bad, .bad, .bad, .bad, .bad, .bad, .bad, .bad, .bad, .bad, .bad, .bad, .bad, .bad, .bad]) ?_ _ l.length _ _ (by omega) ⟨_, 0, rfl, by omega, List.prefix_rfl, fun x hx => by simp at hx, rfl⟩
  rintro r fr τ C ⟨z, j, rfl, hq, p0, hlo, rfl⟩ next fin
  have p := P1.trans p0
  have T3 := prefix_get p0 TK
  have hj : j ≤ l.length := by omega
  have htl : (l.take j).length = j := by rw [List.length_take]; omega
  conv => lhs; whnf
  refine goK hD plan43x2 ord43x2 fun KK hKK => ?_
  conv => lhs; whnf
  by_cases hi : j < l.length
  case neg =>
    rw [show decide ((j : Int) < (l.length : Int)) = false from decide_eq_false (by omega)]
    conv => lhs; whnf
    subst hKK
    conv => lhs; whnf
    refine fin _ _ _ nofun ?_
    conv => lhs; whnf
    refine goK hD plan43x4 ord43x4 fun KK hKK => ?_
    conv => lhs; whnf
    rw [show decide ((j : Int) < (l.length : Int)) = false from decide_eq_false (by omega)]
    conv => lhs; whnf
    subst hKK
    conv => lhs; whnf
    have hhi : ∀ (h : j < l.length), ltK k.1 l[j].1 := fun h => absurd h hi
    clear next fin
    refine goT hT tree43x6 ordT43x6 fun KK hKK => ?_
    conv => lhs; whnf
    refine slT (hs.mono p) hj fun a1 r1 => ?_
    conv => lhs; whnf
    refine ldRv1 T3 ?_
    conv => lhs; whnf
    refine slD (hs.mono p) hj fun a2 r2 => ?_
    conv => lhs; whnf
    refine and_true ?_ ?_
    · conv => lhs; whnf
      refine appR (l := []) List.prefix_rfl (OwnS.nil _ _ _) rfl r1 htl (by rw [List.nil_append]; omega) fun o3 a3 σ3 p3 _ _ w3 => ?_
      rw [List.nil_append] at w3 ⊢
      conv => lhs; whnf
      refine and_true (all_cons ?_ rfl) ?_
      · conv => lhs; whnf
        refine ldRv1 (prefix_get p3 T3) ?_
        exact same_key _
      have P4 := List.prefix_append σ3 [AO.cells (kcs [k]) 3 .own]
      conv => lhs; whnf
      refine build58 (x := k) ?_
      conv => lhs; whnf
      refine appR (p3.trans P4) (w3.mono P4) rfl (Rw.new _ .own rfl) (m := 1) rfl (by rw [List.length_append]; show _ + 1 ≤ _; omega) fun o4 a4 σ4 p4 _ _ w4 => ?_
      conv => lhs; whnf
      refine appR p4 w4 rfl (r2.mono p4) (by rw [List.length_drop]) (by rw [List.length_append, List.length_append, List.length_drop]; show _ + 1 + _ ≤ _; omega) fun o5 a5 σ5 p5 _ _ w5 => ?_
      have := hK a5 _ σ5 (p.trans p5) (lay_strict hst hlo hhi) (fun x => lay_mem) w5.rw (fun j off z e => .inr (Nat.le_trans (prefix_len p) (own_ge w5 e)))
      conv => lhs; whnf
      subst hKK
      conv => lhs; whnf
      exact this
    · have P4 := List.prefix_append τ [AO.cells (kcs [k]) 3 .own]
      show Go.AM.stepT Tryz.prog _ _ 5 [] _ _ _ _ _ = true
      refine stepT_hide fun ih hih => ?_
      conv => lhs; whnf
      refine build58 (x := k) ?_
      conv => lhs; whnf
      subst hih
      conv => lhs; whnf
      refine appR (σ0 := τ) (l := []) P4 (OwnS.nil _ _ _) rfl (r1.mono P4) htl (by rw [List.nil_append]; omega) fun o3 a3 σ3 p3 l3 kk3 w3 => ?_
      rw [List.nil_append] at w3 ⊢
      have q3 : (τ ++ [AO.cells (kcs [k]) 3 .own]) <+: σ3 := prefix_of fun j hj => kk3 j hj nofun
      conv => lhs; whnf
      refine and_true (all_cons ?_ rfl) ?_
      · conv => lhs; whnf
        refine ldRv1 (prefix_get p3 T3) ?_
        exact same_key _
      conv => lhs; whnf
      refine appR p3 w3 rfl ((Rw.new (σ := τ) (z := 3) (n := 1) (kcs [k]) .own rfl).mono q3) (m := 1) rfl (by rw [List.length_append]; show _ + 1 ≤ _; omega) fun o4 a4 σ4 p4 _ _ w4 => ?_
      conv => lhs; whnf
      refine appR p4 w4 rfl (r2.mono p4) (by rw [List.length_drop]) (by rw [List.length_append, List.length_append, List.length_drop]; show _ + 1 + _ ≤ _; omega) fun o5 a5 σ5 p5 _ _ w5 => ?_
      have := hK a5 _ σ5 (p.trans p5) (lay_strict hst hlo hhi) (fun x => lay_mem) w5.rw (fun j off z e => .inr (Nat.le_trans (prefix_len p) (own_ge w5 e)))
      conv => lhs; whnf
      subst hKK
      conv => lhs; whnf
      exact this
  rw [show decide ((j : Int) < (l.length : Int)) = true from decide_eq_true (by omega)]
  conv => lhs; whnf
  refine idxRV (hs.mono p) rfl hi fun pe he => ?_
  conv => lhs; whnf
  refine ldRv he ?_
  conv => lhs; whnf
  refine ldRv1 T3 ?_
  conv => lhs; whnf
  refine before_spec (by omega) fun σ1 p1 => ?_
  cases hb : befV l[j].1 k.1 with
  | true =>
    conv => lhs; whnf
    subst hKK
    conv => lhs; whnf
    refine next (r - 1) _ _ (by omega) ⟨_, j + 1, inc_i64 (by omega), by omega, p0.trans p1, fun x hx => ?_, rfl⟩
    rw [List.take_succ_eq_append_getElem hi] at hx
    rcases List.mem_append.1 hx with hx | hx
    · exact hlo x hx
    · simp at hx
      subst hx
      exact (befV_iff _ _).1 hb
  | false =>
    have hnb : ¬ ltK l[j].1 k.1 := fun h => by rw [(befV_iff _ _).2 h] at hb; cases hb
    replace T3 := prefix_get p1 T3
    replace p := p.trans p1
    conv => lhs; whnf
    subst hKK
    conv => lhs; whnf
    refine fin _ _ _ nofun ?_
    conv => lhs; whnf
    refine goK hD plan43x4 ord43x4 fun KK hKK => ?_
    conv => lhs; whnf
    rw [show decide ((j : Int) < (l.length : Int)) = true from decide_eq_true (by omega)]
    conv => lhs; whnf
    refine idxRV (hs.mono p) rfl hi fun pe he => ?_
    conv => lhs; whnf
    refine ldRv he ?_
    conv => lhs; whnf
    refine ldRv1 T3 ?_
    conv => lhs; whnf
    rw [keyEq_iff]
    by_cases hk : l[j].1 = k.1
    · rw [decide_eq_true hk]
      have := hK s l σ1 p hst (fun x => ⟨.inl, fun h => h.elim id fun h => by
        rw [h, ← Subtype.ext hk]
        exact List.getElem_mem hi⟩) (hs.mono p) (fun _ _ _ _ => .inl rfl)
      conv => lhs; whnf
      subst hKK
      conv => lhs; whnf
      exact this
    rw [decide_eq_false hk]
    conv => lhs; whnf
    subst hKK
    conv => lhs; whnf
    have hhi : ∀ (h : j < l.length), ltK k.1 l[j].1 := fun h => by
      rcases ltK_tri l[j].1 k.1 with a | a | a
      · exact absurd a hnb
      · exact absurd a hk
      · exact a
    clear next fin hq p0
    clear p1
    refine goT hT tree43x6 ordT43x6 fun KK hKK => ?_
    conv => lhs; whnf
    refine slT (hs.mono p) hj fun a1 r1 => ?_
    conv => lhs; whnf
    refine ldRv1 T3 ?_
    conv => lhs; whnf
    refine slD (hs.mono p) hj fun a2 r2 => ?_
    conv => lhs; whnf
    refine and_true ?_ ?_
    · conv => lhs; whnf
      refine appR (l := []) List.prefix_rfl (OwnS.nil _ _ _) rfl r1 htl (by rw [List.nil_append]; omega) fun o3 a3 σ3 p3 _ _ w3 => ?_
      rw [List.nil_append] at w3 ⊢
      conv => lhs; whnf
      refine and_true (all_cons ?_ rfl) ?_
      · conv => lhs; whnf
        refine ldRv1 (prefix_get p3 T3) ?_
        exact same_key _
      have P4 := List.prefix_append σ3 [AO.cells (kcs [k]) 3 .own]
      conv => lhs; whnf
      refine build58 (x := k) ?_
      conv => lhs; whnf
      refine appR (p3.trans P4) (w3.mono P4) rfl (Rw.new _ .own rfl) (m := 1) rfl (by rw [List.length_append]; show _ + 1 ≤ _; omega) fun o4 a4 σ4 p4 _ _ w4 => ?_
      conv => lhs; whnf
      refine appR p4 w4 rfl (r2.mono p4) (by rw [List.length_drop]) (by rw [List.length_append, List.length_append, List.length_drop]; show _ + 1 + _ ≤ _; omega) fun o5 a5 σ5 p5 _ _ w5 => ?_
      have := hK a5 _ σ5 (p.trans p5) (lay_strict hst hlo hhi) (fun x => lay_mem) w5.rw (fun j off z e => .inr (Nat.le_trans (prefix_len p) (own_ge w5 e)))
      conv => lhs; whnf
      subst hKK
      conv => lhs; whnf
      exact this
    · have P4 := List.prefix_append σ1 [AO.cells (kcs [k]) 3 .own]
      show Go.AM.stepT Tryz.prog _ _ 5 [] _ _ _ _ _ = true
      refine stepT_hide fun ih hih => ?_
      conv => lhs; whnf
      refine build58 (x := k) ?_
      conv => lhs; whnf
      subst hih
      conv => lhs; whnf
      refine appR (σ0 := σ1) (l := []) P4 (OwnS.nil _ _ _) rfl (r1.mono P4) htl (by rw [List.nil_append]; omega) fun o3 a3 σ3 p3 l3 kk3 w3 => ?_
      rw [List.nil_append] at w3 ⊢
      have q3 : (σ1 ++ [AO.cells (kcs [k]) 3 .own]) <+: σ3 := prefix_of fun j hj => kk3 j hj nofun
      conv => lhs; whnf
      refine and_true (all_cons ?_ rfl) ?_
      · conv => lhs; whnf
        refine ldRv1 (prefix_get p3 T3) ?_
        exact same_key _
      conv => lhs; whnf
      refine appR p3 w3 rfl ((Rw.new (σ := σ1) (z := 3) (n := 1) (kcs [k]) .own rfl).mono q3) (m := 1) rfl (by rw [List.length_append]; show _ + 1 ≤ _; omega) fun o4 a4 σ4 p4 _ _ w4 => ?_
      conv => lhs; whnf
      refine appR p4 w4 rfl (r2.mono p4) (by rw [List.length_drop]) (by rw [List.length_append, List.length_append, List.length_drop]; show _ + 1 + _ ≤ _; omega) fun o5 a5 σ5 p5 _ _ w5 => ?_
      have := hK a5 _ σ5 (p.trans p5) (lay_strict hst hlo hhi) (fun x => lay_mem) w5.rw (fun j off z e => .inr (Nat.le_trans (prefix_len p) (own_ge w5 e)))
      conv => lhs; whnf
      subst hKK
      conv => lhs; whnf
      exact this
theorem rkeys_spec {n : Nat} {s : AM.SA} {l : List OpV} (hD : ByPlan Tryz.prog D) (hT : ByTree Tryz.prog D) (hn : l.length + 50 ≤ n) (hl : l.length ≤ 1000) (hs : Rw σ 5 s l.length (opvs l)) (ho : ∀ o ∈ l, OkV o) {K : AV → H → Bool}
    (hK : ∀ a' σ', σ <+: σ' → Rw σ' 3 a' (srtV (keysOf l ho)).length (kcs (srtV (keysOf l ho))) → K (.sl a' (srtV (keysOf l ho)).length) σ' = true) : acall Tryz.prog tab D n 40 [.sl s l.length] σ K = true := by
  obtain ⟨n, rfl, hn⟩ := up (n := n) (k := l.length + 49) (by omega)
  conv => lhs; whnf
  refine loop_rule (m := 25) (fun r fr τ => ∃ (z : Int) (i : Nat) (a : AM.SA) (L : List KeyB), z = (i : Int) ∧ i + r = l.length ∧ σ <+: τ ∧ Rw τ 3 a L.length (kcs L) ∧ StrictK L ∧ L.length ≤ i ∧ (∀ x : KeyB, x ∈ L ↔ ∃ o ∈ l.take i, keyOf o = x.1) ∧
    fr = [.sl s l.length, .bad, .bad, .sl a L.length, .int .i64 z, .bad, .bad, .bad, .bad, .bad, .bad, .bad, .bad, .bad, .bad, .bad, .bad, .bad, .bad, .bad, .bad, .bad, .bad, .bad, .bad, .bad, .bad, .bad, .bad, .bad, .bad, .bad, .bad, .bad, .bad, .bad, .bad, .bad, .bad, .bad]) ?_ _ l.length _ _ (by omega) ⟨_, 0, .nil, [], rfl, by omega, List.prefix_rfl, Rw.nil _ _, List.Pairwise.nil, Nat.le_refl _, fun x => by simp, rfl⟩
  rintro r fr τ C ⟨z, i, a, L, rfl, hq, p, rw1, hst, hLi, hmem, rfl⟩ next fin
  conv => lhs; whnf
  by_cases hi : i < l.length
  case neg =>
    rw [show decide ((i : Int) < (l.length : Int)) = false from decide_eq_false (by omega)]
    rw [List.take_of_length_le (by omega)] at hmem
    have eL : L = srtV (keysOf l ho) := strict_ext hst (srtV_strict _) fun x => by rw [hmem, srtV_mem, keysOf_mem]
    subst eL
    have := hK a τ p rw1
    conv => lhs; whnf
    refine fin _ _ _ nofun ?_
    conv => lhs; whnf
    exact this
  rw [show decide ((i : Int) < (l.length : Int)) = true from decide_eq_true (by omega)]
  have hok := ho _ (List.getElem_mem hi)
  have more : ∀ L' : List KeyB, (∀ x, x ∈ L' ↔ x ∈ L ∨ x = ⟨keyOf l[i], keyOf_ok hok⟩) → ∀ x : KeyB, x ∈ L' ↔ ∃ o ∈ l.take (i + 1), keyOf o = x.1 := fun L' h x => by
    rw [h, hmem, List.take_succ_eq_append_getElem hi]
    constructor
    · rintro (⟨o, h1, h2⟩ | rfl)
      · exact ⟨o, List.mem_append_left _ h1, h2⟩
      · exact ⟨l[i], List.mem_append_right _ (List.mem_singleton_self _), rfl⟩
    · rintro ⟨o, h1, h2⟩
      rcases List.mem_append.1 h1 with h1 | h1
      · exact .inl ⟨o, h1, h2⟩
      · simp at h1
        subst h1
        exact .inr (Subtype.ext h2.symm)
  generalize hxe : (⟨keyOf l[i], keyOf_ok hok⟩ : KeyB) = x at more
  conv => lhs; whnf
  refine idxV (hs.mono p) rfl hi fun pe he => ?_
  obtain ⟨pid, pb, pd, pz⟩ := pe
  obtain rfl : pd = 0 := he.1
  obtain rfl : pz = 5 := he.2.1
  conv => lhs; whnf
  refine ldEF he ?_
  have hoks : okB ⟨l[i].s, [], true⟩ = true := by
    have hs : l[i].s.all (fun b => Nat.blt b 256) = true := List.all_eq_true.2 fun b hb => by rw [Nat.blt_eq]; exact hok.s b hb
    unfold okB
    simp only [hs]; rfl
  conv => lhs; whnf
  refine storeRv (x := ⟨⟨l[i].s, [], true⟩, hoks⟩) (get_new _ _) ?_
  rw [set_new]
  have P1 := List.prefix_append τ [AO.cells (avK ⟨⟨l[i].s, [], true⟩, hoks⟩) 3 .own]
  have T5 := get_new τ (AO.cells (avK ⟨⟨l[i].s, [], true⟩, hoks⟩) 3 .own)
  conv => lhs; whnf
  refine idxV (hs.mono (p.trans P1)) rfl hi fun pe he => ?_
  obtain ⟨pid, pb, pd, pz⟩ := pe
  obtain rfl : pd = 0 := he.1
  obtain rfl : pz = 5 := he.2.1
  conv => lhs; whnf
  refine ldE0 he ?_
  conv => lhs; whnf
  refine ref_kind_spec (by omega) ?_
  conv => lhs; whnf
  by_cases hk : kindOf l[i].kind = 1
  · have ek : x.1 = ⟨l[i].s, l[i].k, false⟩ := by rw [← hxe]; show keyOf l[i] = _; unfold keyOf; rw [if_pos hk]
    rw [show (kindOf l[i].kind == 1) = true from beq_iff_eq.2 hk]
    conv => lhs; whnf
    refine goK hD plan40x7 ord40x7 fun KK hKK => ?_
    conv => lhs; whnf
    refine idxV (hs.mono (p.trans P1)) rfl hi fun pe he => ?_
    obtain ⟨pid, pb, pd, pz⟩ := pe
    obtain rfl : pd = 0 := he.1
    obtain rfl : pz = 5 := he.2.1
    conv => lhs; whnf
    refine ldEF he ?_
    conv => lhs; whnf
    refine idxV (hs.mono (p.trans P1)) rfl hi fun pe he => ?_
    obtain ⟨pid, pb, pd, pz⟩ := pe
    obtain rfl : pd = 0 := he.1
    obtain rfl : pz = 5 := he.2.1
    conv => lhs; whnf
    refine ldEk he ?_
    conv => lhs; whnf
    refine storeRv' ek T5 ?_
    rw [set_new]
    have P2 := List.prefix_append τ [AO.cells (avK x) 3 .own]
    have T6 := get_new τ (AO.cells (avK x) 3 .own)
    conv => lhs; whnf
    subst hKK
    conv => lhs; whnf
    refine ldRv1 T6 ?_
    conv => lhs; whnf
    refine lay_spec hD hT (by omega) (by omega) (rw1.mono P2) hst fun a2 L2 σ2 p2 hst2 hm2 rw2 _ => ?_
    conv => lhs; whnf
    refine next (r - 1) _ _ (by omega) ⟨_, i + 1, a2, L2, inc_i64 (by omega), by omega, (p.trans P2).trans p2, rw2, hst2, lay_len hst hst2 hm2 hLi, more L2 hm2, rfl⟩
  · have ek : x.1 = ⟨l[i].s, [], true⟩ := by rw [← hxe]; show keyOf l[i] = _; unfold keyOf; rw [if_neg hk]
    have hx2 : (⟨⟨l[i].s, [], true⟩, hoks⟩ : KeyB) = x := Subtype.ext ek.symm
    rw [show (kindOf l[i].kind == 1) = false from beq_eq_false_iff_ne.2 hk]
    rw [hx2] at T5 P1 ⊢
    conv => lhs; whnf
    refine ldRv1 T5 ?_
    conv => lhs; whnf
    refine lay_spec hD hT (by omega) (by omega) (rw1.mono P1) hst fun a2 L2 σ2 p2 hst2 hm2 rw2 _ => ?_
    conv => lhs; whnf
    refine next (r - 1) _ _ (by omega) ⟨_, i + 1, a2, L2, inc_i64 (by omega), by omega, (p.trans P1).trans p2, rw2, hst2, lay_len hst hst2 hm2 hLi, more L2 hm2, rfl⟩
end Go.Proofs.YtajincfelnmlhaaGreat
