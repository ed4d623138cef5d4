/- VoteBox. -/
import Derived.Test.YthmdecfiijgaoaaGreatL18Vote
namespace Go.Proofs.YthmdecfiijgaoaaGreat
open Go Go.AM Go.AM.St

def bools (S : List Int) (n : Nat) : List AV := (List.range n).map fun (j : Nat) => AV.bool (decide ((j : Int) ∈ S))
theorem bools_len (S : List Int) (n : Nat) : (bools S n).length = n := by simp [bools]
theorem bools_at {S : List Int} {n x : Nat} (h : x < n) : (bools S n)[x]? = some (.bool (decide ((x : Int) ∈ S))) := by simp [bools, h]
theorem bools_set {S : List Int} {n x : Nat} (h : x < n) : (bools S n).set x (.bool true) = bools (S ++ [(x : Int)]) n := by
  apply List.ext_getElem?
  intro j
  by_cases hj : j < n
  · rw [bools_at hj, List.getElem?_set]
    by_cases e : x = j
    · subst e
      rw [if_pos rfl, if_pos (by rw [bools_len]; exact h)]
      simp
    · rw [if_neg e, bools_at hj]
      have : ((j : Int) ∈ S ++ [(x : Int)]) ↔ (j : Int) ∈ S := by
        rw [List.mem_append, List.mem_singleton]
        exact ⟨fun h => h.elim id fun h => absurd (by omega) e, .inl⟩
      simp only [this]
  · rw [List.getElem?_eq_none (by rw [List.length_set, bools_len]; omega), List.getElem?_eq_none (by rw [bools_len]; omega)]
theorem bools_nil (n : Nat) : List.replicate n (AV.bool false) = bools [] n := by
  apply List.ext_getElem?
  intro j
  by_cases hj : j < n
  · rw [bools_at hj, List.getElem?_replicate, if_pos hj]; simp
  · rw [List.getElem?_eq_none (by simp; omega), List.getElem?_eq_none (by rw [bools_len]; omega)]

/-- The entries of a set of whole numbers. -/
def Ents (es : List ME) (S : List Int) : Prop := es.map (fun e => (e.key, e.val)) = S.map fun s => (AV.int .i64 s, AV.bool true)
theorem Ents.len {es : List ME} {S : List Int} (h : Ents es S) : es.length = S.length := by
  have := congrArg List.length h
  rwa [List.length_map, List.length_map] at this
theorem Ents.snoc {es : List ME} {S : List Int} (h : Ents es S) (x : Int) (b : Nat) : Ents (es ++ [{ key := .int .i64 x, val := .bool true, born := b }]) (S ++ [x]) := by
  unfold Ents at h ⊢
  rw [List.map_append, List.map_append, h]; rfl
theorem findK_none {x : Int} : ∀ {es : List ME} {S : List Int}, Ents es S → x ∉ S → ∀ (i : Nat) (K : Option Nat → Bool), findK (.int .i64 x) es i K = K none
  | [], _, _, _, _, _ => rfl
  | e :: es, [], h, _, _, _ => by cases h
  | e :: es, s :: S, h, hx, i, K => by
    obtain ⟨h1, h2⟩ := List.cons.inj h
    have hk : e.key = .int .i64 s := congrArg Prod.fst h1
    rw [findK, hk]
    have hne : x ≠ s := fun e => hx (by rw [e]; exact List.mem_cons_self)
    have : keyEq (.int .i64 x) (.int .i64 s) = some false := by simp [keyEq, keyEqLeaf, hne]
    rw [this]
    exact findK_none h2 (fun h => hx (List.mem_cons_of_mem _ h)) _ _
theorem findK_some {x : Int} : ∀ {es : List ME} {S : List Int}, Ents es S → x ∈ S → ∀ (i : Nat), ∃ j e, es[j]? = some e ∧ e.val = .bool true ∧ ∀ (K : Option Nat → Bool), findK (.int .i64 x) es i K = K (some (i + j))
  | [], S, h, hx, _ => by
    cases S with
    | nil => cases hx
    | cons s S => cases h
  | e :: es, [], h, _, _ => by cases h
  | e :: es, s :: S, h, hx, i => by
    obtain ⟨h1, h2⟩ := List.cons.inj h
    have hk : e.key = .int .i64 s := congrArg Prod.fst h1
    by_cases hxs : x = s
    · have : keyEq (.int .i64 x) (.int .i64 s) = some true := by simp [keyEq, keyEqLeaf, hxs]
      exact ⟨0, e, rfl, congrArg Prod.snd h1, fun K => by rw [findK, hk, this]; rfl⟩
    · have : keyEq (.int .i64 x) (.int .i64 s) = some false := by simp [keyEq, keyEqLeaf, hxs]
      have hm : x ∈ S := (List.mem_cons.1 hx).resolve_left hxs
      obtain ⟨j, e', a, b, c⟩ := findK_some h2 hm (i + 1)
      exact ⟨j + 1, e', a, b, fun K => by rw [findK, hk, this, show i + (j + 1) = i + 1 + j by omega]; exact c K⟩

set_option maxRecDepth 100000 in
theorem look_spec {M c : Nat} {es : List ME} {S : List Int} {x : Int} {σ : H} {K : AV → Bool} (hM : σ[M]? = some (AO.map es c)) (he : Ents es S) (h : K (.bool (decide (x ∈ S))) = true) :
    lookupK Tryz.prog 150 σ (.map (some M)) (.int .i64 x) false K = true := by
  unfold lookupK
  rw [Tryz.underlying150]
  simp only
  refine bif_pos (by unfold keyOkT plainAt; rw [Tryz.underlying3]; rfl) ?_
  unfold castT
  rw [Tryz.underlying3]
  show mapK σ (some M) _ = true
  unfold mapK
  simp only [hM]
  by_cases hx : x ∈ S
  · obtain ⟨j, e, h1, h2, h3⟩ := findK_some he hx 0
    rw [h3, Nat.zero_add]
    simp only [h1, h2]
    rw [Tryz.underlying4]
    rw [decide_eq_true hx] at h
    exact h
  · rw [findK_none he hx 0]
    rw [decide_eq_false hx] at h
    exact h
theorem upd_spec {M c : Nat} {es : List ME} {S : List Int} {x : Int} {σ : H} {K : H → Bool} (hM : σ[M]? = some (AO.map es c)) (he : Ents es S) (hx : x ∉ S)
    (h : K (σ.set M (.map (es ++ [{ key := .int .i64 x, val := .bool true, born := c }]) (c + 1))) = true) : updateK Tryz.prog 150 (.map (some M)) (.int .i64 x) (.bool true) σ K = true := by
  unfold updateK
  rw [Tryz.underlying150]
  simp only
  refine bif_pos (by unfold keyOkT plainAt; rw [Tryz.underlying3]; rfl) ?_
  unfold castT
  rw [Tryz.underlying3]
  simp only [castLeaf, AM.asInt, show (IntKind.i64 == IntKind.i64) = true from rfl, cond_true, hM]
  refine Eq.trans (findK_none he hx 0 _) ?_
  exact h
theorem mapK_of {M c : Nat} {es : List ME} {σ : H} {K : List ME → Bool} (hM : σ[M]? = some (AO.map es c)) (h : K es = true) : mapK σ (some M) K = true := by
  unfold mapK
  simp only [hM]
  exact h

set_option maxRecDepth 100000
theorem mk_bools {y : Int} {N : Nat} {σ : H} {K : AV → H → Bool} (hy : y = (N : Int)) (h0 : 0 < N) (hN : N ≤ 1000) (hK : K (.sl (.at σ.length 0 1) N) (σ ++ [AO.cells (bools [] N) 1 .own]) = true) : makeSliceK Tryz.prog 39 (.int .i64 y) (.int .i64 y) σ K = true := by
  subst hy
  obtain ⟨ie, hi, g1, g2⟩ : ∃ ie, Tryz.prog.info? 4 = some ie ∧ ie.size = 1 ∧ ie.bytes = 1 := ⟨_, rfl, rfl, rfl⟩
  unfold makeSliceK
  rw [Tryz.underlying39]
  simp only
  rw [hi]
  simp only
  refine bif_pos ?_ ?_
  · rw [g1, g2]
    simp only [Bool.and_eq_true, decide_eq_true_eq, Bool.not_eq_true', beq_eq_false_iff_ne]
    omega
  · rw [show ∀ K, zeroK Tryz.prog 4 K = K (.bool false) from fun _ => rfl, g1]
    refine bif_pos rfl ?_
    refine bif_neg (by simp; omega) ?_
    have e1 : (List.replicate (N : Int).toNat (AV.bool false).cells).flatten = bools [] N := by
      rw [Int.toNat_natCast, ← bools_nil]
      simp [AV.cells]
    rw [e1]
    exact hK
theorem idxBool {id n x : Nat} {y : Int} {k : IntKind} {K : AV → Bool} (hy : y = (x : Int)) (hx : x < n) (hK : K (.ptr (some ⟨id, x, 0, 1⟩)) = true) : indexAddrK Tryz.prog 39 (.sl (.at id 0 1) n) (.int k y) K = true := by
  subst hy
  unfold indexAddrK
  rw [Tryz.underlying39]
  simp only
  rw [show ∀ K, esizeK Tryz.prog 4 K = K 1 from fun _ => rfl]
  refine bif_pos (by simp; omega) ?_
  simpa using hK
theorem ldBool {σ : H} {id n x : Nat} {S : List Int} {md : Md} {K : AV → Bool} (hr : σ[id]? = some (AO.cells (bools S n) 1 md)) (hx : x < n) (hK : K (.bool (decide ((x : Int) ∈ S))) = true) : ldK Tryz.prog 4 σ ⟨id, x, 0, 1⟩ K = true :=
  ldF Tryz.underlying4 rfl rfl hr (bools_at hx) (by unfold castT; rw [Tryz.underlying4]; exact hK)
theorem stBool {σ : H} {id n x : Nat} {S : List Int} {K : H → Bool} (hr : σ[id]? = some (AO.cells (bools S n) 1 .own)) (hx : x < n) (hK : K (σ.set id (.cells (bools (S ++ [(x : Int)]) n) 1 .own)) = true) : storeK Tryz.prog 4 (.ptr (some ⟨id, x, 0, 1⟩)) (.bool true) σ K = true := by
  obtain ⟨ie, hi, g1⟩ : ∃ ie, Tryz.prog.info? 4 = some ie ∧ ie.size = 1 := ⟨_, rfl, rfl⟩
  refine storeK_of hi g1 (Nat.le_refl _) hr rfl (by rw [bools_len]; exact hx) ?_
  rw [Nat.add_zero, bools_set hx]
  exact hK

attribute [local irreducible] IntKind.wrap Int.fdiv Int.tdiv Int.tmod BitVec.ofInt appendK sliceK indexAddrK ldK storeK seenK makeSliceK valsF lookupK updateK mapK
set_option maxRecDepth 100000
variable {D : Drawer}

theorem vnew_spec {n : Nat} {y : Int} (hn : 1 ≤ n) {σ : H} {K : AV → H → Bool} (h : K (.ptr (some ⟨(σ ++ [AO.map [] 0]).length, 0, 0, 2⟩)) (σ ++ [AO.map [] 0] ++ [AO.cells [.int .i64 y, .map (some σ.length)] 2 .own]) = true) :
    acall Tryz.prog tab D n 67 [.int .i64 y] σ K = true := by
  obtain ⟨n, rfl, hn⟩ := up hn
  conv => lhs; whnf
  exact h
theorem ldBn {τ : H} {id M : Nat} {y : Int} {md : Md} {K : AV → Bool} (h : τ[id]? = some (AO.cells [.int .i64 y, .map (some M)] 2 md)) (hK : K (.int .i64 y) = true) : ldK Tryz.prog 3 τ ⟨id, 0, 0, 2⟩ K = true :=
  ldF Tryz.underlying3 rfl rfl h rfl (by unfold castT; rw [Tryz.underlying3]; exact hK)
theorem ldBm {τ : H} {id M : Nat} {y : Int} {md : Md} {K : AV → Bool} (h : τ[id]? = some (AO.cells [.int .i64 y, .map (some M)] 2 md)) (hK : K (.map (some M)) = true) : ldK Tryz.prog 150 τ ⟨id, 0, 1, 2⟩ K = true :=
  ldF Tryz.underlying150 rfl rfl h rfl (by unfold castT; rw [Tryz.underlying150]; exact hK)

/-- Add: in a vote, if it is one's of those, and not there yet. -/
theorem vadd_spec {n B M c N : Nat} {x : Int} {es : List ME} {S : List Int} {md : Md} (hn : 1 ≤ n) {σ : H} (hB : σ[B]? = some (AO.cells [.int .i64 (N : Int), .map (some M)] 2 md)) (hM : σ[M]? = some (AO.map es c)) (he : Ents es S) {K : AV → H → Bool}
    (h0 : ¬ (0 ≤ x ∧ x < (N : Int) ∧ x ∉ S) → K (.bool false) σ = true)
    (h1 : 0 ≤ x ∧ x < (N : Int) ∧ x ∉ S → K (.bool true) (σ.set M (.map (es ++ [{ key := .int .i64 x, val := .bool true, born := c }]) (c + 1))) = true) :
    acall Tryz.prog tab D n 68 [.ptr (some ⟨B, 0, 0, 2⟩), .int .i64 x] σ K = true := by
  obtain ⟨n, rfl, hn⟩ := up hn
  conv => lhs; whnf
  by_cases hx0 : x < 0
  · refine bif_pos (decide_eq_true hx0) ?_
    conv => lhs; whnf
    exact h0 (by omega)
  refine bif_neg (decide_eq_false hx0) ?_
  conv => lhs; whnf
  refine ldBn hB ?_
  conv => lhs; whnf
  by_cases hxn : x ≥ (N : Int)
  · refine bif_pos (decide_eq_true hxn) ?_
    conv => lhs; whnf
    exact h0 (by omega)
  refine bif_neg (decide_eq_false hxn) ?_
  conv => lhs; whnf
  refine ldBm hB ?_
  conv => lhs; whnf
  refine look_spec hM he ?_
  conv => lhs; whnf
  by_cases hS : x ∈ S
  · refine bif_pos (decide_eq_true hS) ?_
    conv => lhs; whnf
    exact h0 fun h => h.2.2 hS
  refine bif_neg (decide_eq_false hS) ?_
  conv => lhs; whnf
  refine ldBm hB ?_
  conv => lhs; whnf
  refine upd_spec hM he hS ?_
  conv => lhs; whnf
  exact h1 ⟨by omega, by omega, hS⟩

theorem vwon_spec {n B M c N : Nat} {es : List ME} {md : Md} (hn : 2 ≤ n) (hD : ByPlan Tryz.prog D) (hN : N ≤ 1000000) {σ : H} (hB : σ[B]? = some (AO.cells [.int .i64 (N : Int), .map (some M)] 2 md)) (hM : σ[M]? = some (AO.map es c)) {K : AV → H → Bool}
    (h : K (.bool (decide ((es.length : Int) ≥ (mostN N : Int)))) σ = true) : acall Tryz.prog tab D n 99 [.ptr (some ⟨B, 0, 0, 2⟩)] σ K = true := by
  obtain ⟨n, rfl, hn⟩ := up hn
  conv => lhs; whnf
  refine hD.go plan99x1 ord99x1 ?_
  conv => lhs; whnf
  refine ldBm hB ?_
  conv => lhs; whnf
  refine mapK_of hM ?_
  conv => lhs; whnf
  refine ldBn hB ?_
  conv => lhs; whnf
  refine most_spec (by omega) rfl (by omega) ?_
  conv => lhs; whnf
  exact bif_case (fun hc => by rw [hc] at h; exact h) (fun hc => by rw [hc] at h; exact h)

theorem mod9 (x : Int) : ∃ N : Nat, 1 ≤ N ∧ N ≤ 9 ∧ IntKind.i64.wrap (1 + (IntKind.i64.wrap (x.tmod 9 + 9)).tmod 9) = (N : Int) := by
  have h1 : -9 < x.tmod 9 ∧ x.tmod 9 < 9 := by
    constructor
    · have := Int.lt_tmod_of_pos x (by decide : (0 : Int) < 9); omega
    · exact Int.tmod_lt_of_pos x (by decide)
  rw [wrap_i64 (x := x.tmod 9 + 9) (by omega) (by omega)]
  have h2 : 0 ≤ (x.tmod 9 + 9).tmod 9 := Int.tmod_nonneg 9 (by omega)
  have h3 : (x.tmod 9 + 9).tmod 9 < 9 := Int.tmod_lt_of_pos _ (by decide)
  refine ⟨(1 + (x.tmod 9 + 9).tmod 9).toNat, by omega, by omega, ?_⟩
  rw [wrap_i64 (by omega) (by omega)]; omega

end Go.Proofs.YthmdecfiijgaoaaGreat
