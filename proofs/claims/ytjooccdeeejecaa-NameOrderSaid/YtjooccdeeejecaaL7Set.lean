/- Package name: sets of names; names among others. -/
import Derived.Test.YtjooccdeeejecaaL1Tab
import Derived.Test.YtjooccdeeejecaaL1Plans
import Derived.Test.YtjooccdeeejecaaGmStep
import Derived.KernelRfl
namespace Go.Proofs.Ytjooccdeeejecaa
set_option maxRecDepth 100000
open Go Go.AM Go.AM.St
abbrev ids (l : List Nm) : List AV := l.flatMap avP
theorem ids_app (a b : List Nm) : ids a ++ ids b = ids (a ++ b) := List.flatMap_append.symm
theorem idEq (i j : Nm) : (i.1 == j.1 && (i.2 == j.2 && true)) = decide (i = j) := by
  rw [Bool.eq_iff_iff, decide_eq_true_iff]
  obtain ⟨a, b⟩ := i
  obtain ⟨c, d⟩ := j
  simp
theorem same_nm (p : Nm) : sameV (.agg (avP p)) (.agg (avP p)) = true := by simp [avP, sameV, sameL, sameLeaf]
variable {σ : H}
theorem idxN {s : AM.SA} {l : List Nm} (hs : Rw σ 2 s l.length (ids l)) {k : IntKind} {y : Int} {i : Nat} {K : AV → Bool} (hy : y = (i : Int)) (hi : i < l.length) (hK : ∀ p, Elem σ 2 p (avP l[i]) → K (.ptr (some p)) = true) :
    indexAddrK Try.prog 22 (.sl s l.length) (.int k y) K = true := indexAddrK_rw Try.underlying22 (fun _ => rfl) hs hy hi (fm_at avP_len hi) hK
theorem ldN {p : PA} {x : Nm} {K : AV → Bool} (hp : Elem σ 2 p (avP x)) (hK : K (.agg (avP x)) = true) : ldK Try.prog 28 σ p K = true := by
  refine ldK_struct Try.underlying28 rfl rfl hp ?_
  conv => lhs; whnf
  exact hK
theorem ldN1 {h : Nat} {x : Nm} {md : Md} {K : AV → Bool} (hh : σ[h]? = some (.cells (avP x) 2 md)) (hK : K (.agg (avP x)) = true) : ldK Try.prog 28 σ ⟨h, 0, 0, 2⟩ K = true := ldN ⟨rfl, rfl, _, _, hh, Nat.le_refl 2, rfl⟩ hK
theorem storeN {h : Nat} {u v : AV} {x : Nm} {K : H → Bool} (hh : σ[h]? = some (.cells [u, v] 2 .own)) (hK : K (σ.set h (.cells (avP x) 2 .own)) = true) : storeK Try.prog 28 (.ptr (some ⟨h, 0, 0, 2⟩)) (.agg (avP x)) σ K = true :=
  storeS (i := Try.prog.types[28]) rfl hh rfl rfl (Nat.le_refl 2) rfl hK
theorem build22 {x : Nm} {K : AV → H → Bool} (hK : K (.sl (.at σ.length 0 2) 1) (σ ++ [.cells (ids [x]) 2 .own]) = true) : buildSliceK Try.prog 22 1 [(0, .agg (avP x))] σ K = true := by
  conv => lhs; whnf
  exact hK
theorem set_new (σ : H) (x y : AO) : (σ ++ [x]).set σ.length y = σ ++ [y] := by simp
theorem slNT {a : AM.SA} {l : List Nm} {j : Nat} {y : Int} (hs : Rw σ 2 a l.length (ids l)) (hy : y = (j : Int)) (hj : j ≤ l.length) {K : AV → Bool} (hK : ∀ a', Rw σ 2 a' j (ids (l.take j)) → K (.sl a' j) = true) :
    sliceK Try.prog 22 (.sl a l.length) none (some (.int .i64 y)) none K = true := by
  subst hy
  exact sliceK_rw (z := 2) Try.underlying22 (fun K => rfl) hs (.inl ⟨rfl, rfl⟩) (.inr ⟨_, _, rfl, rfl⟩) (Nat.zero_le _) hj (Nat.sub_zero _) (by rw [fm_take avP_len]; simp) hK
theorem slND {a : AM.SA} {l : List Nm} {j : Nat} (hs : Rw σ 2 a l.length (ids l)) (hj : j ≤ l.length) {K : AV → Bool} (hK : ∀ a', Rw σ 2 a' (l.length - j) (ids (l.drop j)) → K (.sl a' (l.length - j)) = true) :
    sliceK Try.prog 22 (.sl a l.length) (some (.int .i64 (j : Int))) none none K = true :=
  sliceK_rw (z := 2) Try.underlying22 (fun K => rfl) hs (.inr ⟨_, _, rfl, rfl⟩) (.inl ⟨rfl, rfl⟩) hj (Nat.le_refl _) rfl (by rw [List.take_of_length_le (by rw [fm_len avP_len]; exact Nat.le_refl _), fm_drop avP_len]) hK
theorem appN {σ0 : H} (h0 : σ0 <+: σ) {o : Option Nat} {a b : AM.SA} {n m : Nat} {l ys : List Nm} {K : AV → H → Bool} (hs : OwnS σ0 σ 2 o a n (ids l)) (hn : l.length = n) (hx : Rw σ 2 b m (ids ys)) (hm : ys.length = m) (hb : (l ++ ys).length ≤ 1000000)
    (hK : ∀ o' a' σ', σ0 <+: σ' → σ.length ≤ σ'.length → (∀ id, id < σ.length → o ≠ some id → σ'[id]? = σ[id]?) → OwnS σ0 σ' 2 o' a' (l ++ ys).length (ids (l ++ ys)) → K (.sl a' (l ++ ys).length) σ' = true) :
    appendK Try.prog 22 (.sl a n) (.sl b m) σ K = true :=
  appS Try.underlying22 rfl rfl rfl rfl (by decide) h0 hs hx (N := (l ++ ys).length) (zs := ids (l ++ ys)) (by rw [List.length_append, hn, hm]) (ids_app _ _) (by show (l ++ ys).length * 16 ≤ _; omega) fun o' a' σ' p l2 kk _ _ w => hK o' a' σ' p l2 kk w
theorem prefix_of {σ σ' : H} (h : ∀ j, j < σ.length → σ'[j]? = σ[j]?) : σ <+: σ' := by
  rw [List.prefix_iff_eq_take]
  apply List.ext_getElem?
  intro j
  rw [List.getElem?_take]
  by_cases hj : j < σ.length
  · rw [if_pos hj, h j hj]
  · rw [if_neg hj, List.getElem?_eq_none (by omega)]
theorem layI_strict {l : List Nm} (hl : StrictI l) {j : Nat} {k : Nm} (h1 : ∀ x ∈ l.take j, ltI x k = true) (h2 : ∀ (h : j < l.length), ltI k l[j] = true) : StrictI (l.take j ++ [k] ++ l.drop j) := by
  have hd : ∀ x ∈ l.drop j, ltI k x = true := fun x hx => by
    by_cases hj : j < l.length
    · rw [List.drop_eq_getElem_cons hj] at hx
      rcases List.mem_cons.1 hx with rfl | hx2
      · exact h2 hj
      · have h3 : StrictI (l.drop j) := hl.sublist (List.drop_sublist _ _)
        rw [List.drop_eq_getElem_cons hj, StrictI, List.pairwise_cons] at h3
        exact ltI_tr (h2 hj) (h3.1 x hx2)
    · rw [List.drop_eq_nil_of_le (by omega)] at hx
      simp at hx
  rw [StrictI, List.append_assoc, List.pairwise_append]
  refine ⟨hl.sublist (List.take_sublist _ _), ?_, fun a ha b hb => ?_⟩
  · rw [List.singleton_append, List.pairwise_cons]
    exact ⟨hd, hl.sublist (List.drop_sublist _ _)⟩
  · rw [List.singleton_append] at hb
    rcases List.mem_cons.1 hb with rfl | hb
    · exact h1 a ha
    · exact ltI_tr (h1 a ha) (hd b hb)
theorem layI_mem {l : List Nm} {j : Nat} {k x : Nm} : x ∈ l.take j ++ [k] ++ l.drop j ↔ x ∈ l ∨ x = k := by
  have : x ∈ l ↔ x ∈ l.take j ++ l.drop j := by rw [List.take_append_drop]
  rw [this]
  simp only [List.mem_append, List.mem_singleton]
  constructor
  · rintro ((h | h) | h)
    · exact .inl (.inl h)
    · exact .inr h
    · exact .inl (.inr h)
  · rintro ((h | h) | h)
    · exact .inl (.inl h)
    · exact .inr h
    · exact .inl (.inr h)
theorem layI_len {l L : List Nm} {k : Nm} {i : Nat} (h1 : StrictI l) (h2 : StrictI L) (hm : ∀ x, x ∈ L ↔ x ∈ l ∨ x = k) (hl : l.length ≤ i) : L.length ≤ i + 1 := by
  by_cases hk : k ∈ l
  · have : L = l := strictI_ext h2 h1 fun x => by
      rw [hm]
      exact ⟨fun h => h.elim id fun h => by rw [h]; exact hk, .inl⟩
    rw [this]; omega
  · have := nodup_lenI (strictI_nodup h2) (List.nodup_cons.2 ⟨hk, strictI_nodup h1⟩) fun x => by rw [hm, List.mem_cons]; exact Or.comm
    rw [this, List.length_cons]; omega
/-! Sets. -/
abbrev encId (p : Nm) : AV := .agg (avP p)
theorem keyOk28 : keyOkT Try.prog 28 = true := by kernel_rfl
theorem nameT : KT Try.prog 28 encId where
  ok := keyOk28
  cast k K := by
    unfold castT
    rw [Try.underlying28]
    rfl
  eq a b := by
    show some (a.1 == b.1 && (a.2 == b.2 && true)) = _
    rw [idEq]
abbrev setF (L : List Nm) : Nm → Option Bool := fun k => if k ∈ L then some true else none
structure IdsAt (σ : H) (B m : Nat) (L : List Nm) : Prop where
  b : σ[B]? = some (.cells [.map (some m)] 1 .own)
  m : MapAt encId AV.bool σ m (setF L)
theorem setF_ext {L M : List Nm} (h : ∀ x, x ∈ L ↔ x ∈ M) : setF L = setF M := by
  funext k
  by_cases hk : k ∈ L
  · rw [setF, setF, if_pos hk, if_pos ((h k).1 hk)]
  · rw [setF, setF, if_neg hk, if_neg fun h2 => hk ((h k).2 h2)]
theorem IdsAt.ext {σ : H} {B m : Nat} {L M : List Nm} (h : IdsAt σ B m L) (e : ∀ x, x ∈ L ↔ x ∈ M) : IdsAt σ B m M := ⟨h.b, by rw [← setF_ext e]; exact h.m⟩
theorem IdsAt.mono {σ σ' : H} {B m : Nat} {L : List Nm} (h : IdsAt σ B m L) (p : σ <+: σ') : IdsAt σ' B m L := ⟨prefix_get p h.b, h.m.mono p⟩
theorem IdsAt.frm {σ σ' : H} {B m : Nat} {L M : List Nm} (h : IdsAt σ B m L) (hf : Frm m σ σ') (hm : MapAt encId AV.bool σ' m (setF M)) : IdsAt σ' B m M := ⟨h.m.cells hf h.b, hm⟩
theorem frm_one {m : Nat} {σ σ' : H} (h : ∀ id, id ≠ m → σ'[id]? = σ[id]?) (l : σ'.length = σ.length) : Frm m σ σ' := ⟨Nat.le_of_eq l.symm, fun id _ h2 => h id h2⟩
theorem bool4 {v : Bool} (K : AV → Bool) : castT Try.prog 4 (.bool v) K = K (.bool v) := by
  unfold castT
  rw [Try.underlying4]
  rfl
theorem pairs_map : ∀ E : List (LE Nm Bool), pairsOf (E.map (entG encId AV.bool)) = some (E.map LE.k)
  | [] => rfl
  | e :: E => by
    have ih := pairs_map E
    obtain ⟨⟨c, q⟩, v, b⟩ := e
    rw [List.map_cons, pairsOf, ih]
    rfl
theorem cells_ids : ∀ l : List Nm, cellsI l = ids l := fun _ => rfl
/-- What slices.Collect over maps.Keys gives: the names, in whatever order. -/
theorem coll_rule {D : Drawer} {n R m : Nat} {L : List Nm} {xs : List AV} {md : Md} (hmd : md ≠ .ro) (hR : σ[R]? = some (.cells (.map (some m) :: xs) 1 md)) (h : MapAt encId AV.bool σ m (setF L)) (hB : ∀ M : List Nm, M.Nodup → (∀ x ∈ M, x ∈ L) → M.length ≤ 1000000) {K : AV → H → Bool}
    (hK : ∀ M : List Nm, M.Nodup → (∀ x, x ∈ M ↔ x ∈ L) → (M = [] → K (.sl .nil 0) σ = true) ∧ (M ≠ [] → K (.sl (.at σ.length 0 2) M.length) (σ ++ [AO.cells (ids M) 2 .own]) = true)) :
    acall Try.prog tab D n 28 [.fn 30 [.ptr (some ⟨R, 0, 0, 1⟩)]] σ K = true := by
  obtain ⟨E, c, hE⟩ := h
  have hkeys : ∀ x, x ∈ E.map LE.k ↔ x ∈ L := fun x => by
    constructor
    · intro hx
      obtain ⟨e, he, rfl⟩ := List.mem_map.1 hx
      have := (hE.f e.k e.v).2 ⟨e, he, rfl, rfl⟩
      by_cases hk : e.k ∈ L
      · exact hk
      · rw [setF, if_neg hk] at this; cases this
    · intro hx
      obtain ⟨e, he, h1, _⟩ := (hE.f x true).1 (by rw [setF, if_pos hx])
      rw [← h1]
      exact List.mem_map_of_mem he
  have key : collF 30 [.fn 30 [.ptr (some ⟨R, 0, 0, 1⟩)]] σ K = true := by
    unfold collF
    simp only
    refine bif_pos rfl (rowK_of hR ?_)
    simp only
    refine bif_pos ?_ ?_
    · cases md <;> first | rfl | exact absurd rfl hmd
    simp only [hE.m]
    refine bif_pos ?_ ?_
    · simp only [Bool.and_eq_true, decide_eq_true_eq]
      refine ⟨List.all_eq_true.2 fun e he => ?_, nodupB_to ?_, ?_⟩
      · obtain ⟨x, hx, rfl⟩ := List.mem_map.1 he
        exact decide_eq_true (hE.ok.lt x hx)
      · have : (E.map (entG encId AV.bool)).map (·.born) = E.map LE.born := by rw [List.map_map]; rfl
        rw [this]
        exact hE.ok.borns
      · have := hB (E.map LE.k) hE.ok.keys fun x hx => (hkeys x).1 hx
        simpa using this
    rw [pairs_map]
    simp only
    refine List.all_eq_true.2 fun M hM => ?_
    have hp := perms_perm _ _ hM
    obtain ⟨k1, k2⟩ := hK M (hp.nodup_iff.2 hE.ok.keys) fun x => by rw [hp.mem_iff, hkeys]
    cases M with
    | nil => exact k1 rfl
    | cons x M => exact k2 nofun
  cases n <;> exact key
theorem sort_rule {D : Drawer} {n id : Nat} {l : List Nm} (hl : l.length ≤ 1000000) (h0 : 0 < l.length) {K : AV → H → Bool} (hr : σ[id]? = some (AO.cells (ids l) 2 .own)) (hK : K (.tup []) (σ.set id (.cells (ids (srtI l)) 2 .own)) = true) :
    acall Try.prog tab D n 29 [.sl (.at id 0 2) l.length, .fn 24 []] σ K = true := by
  have key : sort29 [.sl (.at id 0 2) l.length, .fn 24 []] σ K = true := by
    unfold sort29 sortF
    simp only
    have hil : (ids l).length = l.length * 2 := fm_len avP_len l
    rw [show Nat.beq l.length 0 = false from by rw [← Bool.not_eq_true, Nat.beq_eq]; omega, cond_false]
    rw [show (Nat.beq 24 24 && Nat.beq 2 2 && Nat.ble l.length 1000000) = true by rw [Nat.ble_eq_true_of_le hl]; rfl, cond_true, hr]
    simp only
    rw [show (Nat.beq 2 2 && isOwn Md.own && Nat.ble (0 + l.length * 2) (ids l).length) = true by rw [Nat.ble_eq_true_of_le (by rw [hil]; omega)]; rfl, cond_true]
    rw [List.drop_zero, List.take_of_length_le (by rw [hil]; exact Nat.le_refl _), rowsI_of]
    simp only
    rw [show Nat.beq l.length l.length = true from Nat.beq_refl _, cond_true, List.take_zero, List.nil_append, List.drop_eq_nil_of_le (by rw [hil]; omega), List.append_nil]
    exact hK
  cases n <;> exact key
theorem sort_none {D : Drawer} {n : Nat} {K : AV → H → Bool} (hK : K (.tup []) σ = true) : acall Try.prog tab D n 29 [.sl .nil 0, .fn 24 []] σ K = true := by
  have key : run29 [.sl .nil 0, .fn 24 []] σ K = true := by
    unfold run29
    conv => lhs; whnf
    exact hK
  have key2 : sort29 [.sl .nil 0, .fn 24 []] σ K = true := key
  cases n <;> exact key2
attribute [local irreducible] IntKind.wrap Int.fdiv Int.tdiv Int.tmod BitVec.ofInt appendK sliceK indexAddrK ldK storeK seenK makeSliceK lookupK updateK deleteK mapK rangeK nextK buildSliceK indexK clearK
variable {D : Drawer} {B m : Nat} {L : List Nm}
theorem begun_spec {n : Nat} {K : AV → H → Bool} (hK : K (.bool true) σ = true) : acall Try.prog tab D n 8 [] σ K = true := by
  cases n <;> exact hK
theorem rless_spec {n : Nat} {p q : Nm} (hn : 1 ≤ n) {K : AV → H → Bool} (hK : ∀ σ', σ <+: σ' → K (.bool (ltI p q)) σ' = true) : acall Try.prog tab D n 20 [.agg (avP p), .agg (avP q)] σ K = true := by
  obtain ⟨n, rfl, hn⟩ := up hn
  have P := (List.prefix_append σ [AO.cells (avP p) 2 .own]).trans (List.prefix_append _ [AO.cells (avP q) 2 .own])
  replace hK := hK _ P
  have T1 := get_old (get_new σ (AO.cells (avP p) 2 .own)) (AO.cells (avP q) 2 .own)
  have T2 := get_new (σ ++ [AO.cells (avP p) 2 .own]) (AO.cells (avP q) 2 .own)
  unfold ltI at hK
  conv => lhs; whnf
  refine ldF Try.underlying3 rfl rfl T1 rfl ?_
  conv => lhs; whnf
  refine ldF Try.underlying3 rfl rfl T2 rfl ?_
  conv => lhs; whnf
  by_cases h1 : p.1 < q.1
  · rw [decide_eq_true h1] at hK ⊢
    conv => lhs; whnf
    exact hK
  rw [decide_eq_false h1] at hK ⊢
  conv => lhs; whnf
  refine ldF Try.underlying3 rfl rfl T1 rfl ?_
  conv => lhs; whnf
  refine ldF Try.underlying3 rfl rfl T2 rfl ?_
  conv => lhs; whnf
  rw [show (p.1 == q.1) = decide (p.1 = q.1) from by rw [Bool.eq_iff_iff]; simp]
  by_cases h2 : p.1 = q.1
  case neg =>
    rw [decide_eq_false h2] at hK ⊢
    conv => lhs; whnf
    exact hK
  rw [decide_eq_true h2] at hK ⊢
  conv => lhs; whnf
  refine ldF Try.underlying2 rfl rfl T1 rfl ?_
  conv => lhs; whnf
  refine ldF Try.underlying2 rfl rfl T2 rfl ?_
  conv => lhs; whnf
  by_cases h3 : p.2 < q.2
  · rw [decide_eq_true h3] at hK ⊢
    conv => lhs; whnf
    exact hK
  · rw [decide_eq_false h3] at hK ⊢
    conv => lhs; whnf
    exact hK
theorem nlen_spec {n : Nat} (hn : 1 ≤ n) (h : IdsAt σ B m L) {K : AV → H → Bool} (hK : ∀ M : List Nm, M.Nodup → (∀ k, k ∈ M ↔ k ∈ L) → K (.int .i64 (M.length : Int)) σ = true) : acall Try.prog tab D n 14 [.ptr (some ⟨B, 0, 0, 1⟩)] σ K = true := by
  obtain ⟨n, rfl, hn⟩ := up hn
  obtain ⟨E, c, hE⟩ := h.m
  conv => lhs; whnf
  refine ldF Try.underlying43 rfl rfl h.b rfl ?_
  conv => lhs; whnf
  refine lenG hE fun M es h0 h1 h2 => ?_
  have := hK M h1 fun k => by
    rw [h2]
    by_cases hk : k ∈ L
    · simp [setF, hk]
    · simp [setF, hk]
  rw [h0]
  conv => lhs; whnf
  exact this
theorem nhas_spec {n : Nat} {id : Nm} (hD : ByPlan Try.prog D) (hn : 1 ≤ n) (h : IdsAt σ B m L) {K : AV → H → Bool} (hK : ∀ σ', σ <+: σ' → K (.bool (decide (id ∈ L))) σ' = true) : acall Try.prog tab D n 13 [.ptr (some ⟨B, 0, 0, 1⟩), .agg (avP id)] σ K = true := by
  obtain ⟨n, rfl, hn⟩ := up hn
  have P := List.prefix_append σ [AO.cells (avP id) 2 .own]
  have T := get_new σ (AO.cells (avP id) 2 .own)
  have h2 := h.mono P
  replace hK := hK _ P
  obtain ⟨E, c, hE⟩ := h2.m
  conv => lhs; whnf
  refine goK hD plan13x1 ord13x1 fun KK hKK => ?_
  conv => lhs; whnf
  refine ldF Try.underlying43 rfl rfl h2.b rfl ?_
  conv => lhs; whnf
  refine ldN1 (x := id) T ?_
  conv => lhs; whnf
  refine lookG Try.underlying43 nameT hE id (.bool false) (fun _ => rfl) (fun _ K => bool4 K) (fun hf => ?_) fun v hf => ?_
  · have hk : id ∉ L := fun hk => by rw [setF, if_pos hk] at hf; cases hf
    rw [decide_eq_false hk] at hK
    conv => lhs; whnf
    subst hKK
    conv => lhs; whnf
    exact hK
  · have hk : id ∈ L := Classical.byContradiction fun hk => by rw [setF, if_neg hk] at hf; cases hf
    obtain rfl : v = true := by
      rw [setF, if_pos hk] at hf
      exact (Option.some.inj hf).symm
    rw [decide_eq_true hk] at hK
    conv => lhs; whnf
    subst hKK
    conv => lhs; whnf
    exact hK
theorem nadd_spec {n : Nat} {id : Nm} (hD : ByPlan Try.prog D) (hn : 1 ≤ n) (h : IdsAt σ B m L) {K : AV → H → Bool} (hK : ∀ σ', Frm m σ σ' → IdsAt σ' B m (id :: L) → K (.bool (!decide (id ∈ L))) σ' = true) : acall Try.prog tab D n 11 [.ptr (some ⟨B, 0, 0, 1⟩), .agg (avP id)] σ K = true := by
  obtain ⟨n, rfl, hn⟩ := up hn
  have P := List.prefix_append σ [AO.cells (avP id) 2 .own]
  have T := get_new σ (AO.cells (avP id) 2 .own)
  have h2 := h.mono P
  obtain ⟨E, c, hE⟩ := h2.m
  conv => lhs; whnf
  refine goK hD plan11x1 ord11x1 fun KK hKK => ?_
  conv => lhs; whnf
  refine ldF Try.underlying43 rfl rfl h2.b rfl ?_
  conv => lhs; whnf
  refine ldN1 (x := id) T ?_
  conv => lhs; whnf
  refine lookG Try.underlying43 nameT hE id (.bool false) (fun _ => rfl) (fun _ K => bool4 K) (fun hf => ?_) fun v hf => ?_
  · have hk : id ∉ L := fun hk => by rw [setF, if_pos hk] at hf; cases hf
    rw [decide_eq_false hk] at hK
    conv => lhs; whnf
    subst hKK
    conv => lhs; whnf
    refine goK hD plan11x3 ord11x3 fun KK hKK => ?_
    conv => lhs; whnf
    refine ldF Try.underlying43 rfl rfl h2.b rfl ?_
    conv => lhs; whnf
    refine ldN1 (x := id) T ?_
    conv => lhs; whnf
    refine updG Try.underlying43 nameT hE id true fun σ2 m2 s2 l2 => ?_
    have F2 := frm_one s2 l2
    have := hK σ2 ((Frm.pre (m := m) P).trans F2) (h2.frm F2 (by
      have e : updF (setF L) id true = setF (id :: L) := by
        funext k
        unfold updF setF
        by_cases hki : k = id
        · rw [if_pos hki, if_pos (by simp [hki])]
        · rw [if_neg hki]
          by_cases hkl : k ∈ L
          · rw [if_pos hkl, if_pos (by simp [hkl])]
          · rw [if_neg hkl, if_neg (by simp [hki, hkl])]
      rw [← e]
      exact m2))
    conv => lhs; whnf
    subst hKK
    conv => lhs; whnf
    exact this
  · have hk : id ∈ L := Classical.byContradiction fun hk => by rw [setF, if_neg hk] at hf; cases hf
    obtain rfl : v = true := by
      rw [setF, if_pos hk] at hf
      exact (Option.some.inj hf).symm
    rw [decide_eq_true hk] at hK
    have := hK _ (Frm.pre (m := m) P) (h2.ext fun x => ⟨fun hx => List.mem_cons_of_mem _ hx, fun hx => (List.mem_cons.1 hx).elim (fun e => by rw [e]; exact hk) fun hx => hx⟩)
    conv => lhs; whnf
    subst hKK
    conv => lhs; whnf
    exact this
theorem ndrop_spec {n : Nat} {id : Nm} (hD : ByPlan Try.prog D) (hn : 2 ≤ n) (h : IdsAt σ B m L) {K : AV → H → Bool} (hK : ∀ σ', Frm m σ σ' → IdsAt σ' B m (L.filter fun x => !decide (x = id)) → K (.bool (decide (id ∈ L))) σ' = true) : acall Try.prog tab D n 12 [.ptr (some ⟨B, 0, 0, 1⟩), .agg (avP id)] σ K = true := by
  obtain ⟨n, rfl, hn⟩ := up (n := n) (k := 1) (by omega)
  have P := List.prefix_append σ [AO.cells (avP id) 2 .own]
  have T := get_new σ (AO.cells (avP id) 2 .own)
  conv => lhs; whnf
  refine ldN1 (x := id) T ?_
  conv => lhs; whnf
  refine nhas_spec hD (by omega) (h.mono P) fun σ1 p1 => ?_
  have h2 := h.mono (P.trans p1)
  by_cases hk : id ∈ L
  case neg =>
    rw [decide_eq_false hk] at hK ⊢
    have := hK σ1 (Frm.pre (P.trans p1)) (h2.ext fun x => by
      rw [List.mem_filter]
      constructor
      · intro hx
        refine ⟨hx, ?_⟩
        have : x ≠ id := fun e => hk (by rw [← e]; exact hx)
        simp [this]
      · exact And.left)
    conv => lhs; whnf
    exact this
  rw [decide_eq_true hk] at hK ⊢
  obtain ⟨E, c, hE⟩ := h2.m
  conv => lhs; whnf
  refine goK hD plan12x3 ord12x3 fun KK hKK => ?_
  conv => lhs; whnf
  refine ldF Try.underlying43 rfl rfl h2.b rfl ?_
  conv => lhs; whnf
  refine ldN1 (x := id) (prefix_get p1 T) ?_
  conv => lhs; whnf
  refine delG Try.underlying43 nameT hE id fun σ2 m2 s2 l2 => ?_
  have F2 := frm_one s2 l2
  have := hK σ2 ((Frm.pre (m := m) (P.trans p1)).trans F2) (h2.frm F2 (by
    have e : delF (setF L) id = setF (L.filter fun x => !decide (x = id)) := by
      funext k
      unfold delF setF
      by_cases hki : k = id
      · rw [if_pos hki, if_neg (by simp [hki])]
      · rw [if_neg hki]
        by_cases hkl : k ∈ L
        · rw [if_pos hkl, if_pos (by simp [hki, hkl])]
        · rw [if_neg hkl, if_neg (by simp [hkl])]
    rw [← e]
    exact m2))
  conv => lhs; whnf
  subst hKK
  conv => lhs; whnf
  exact this
theorem nnew_spec {n : Nat} {s : AM.SA} {l : List Nm} (hD : ByPlan Try.prog D) (hn : l.length + 10 ≤ n) (hl : l.length ≤ 1000000) (hs : Rw σ 2 s l.length (ids l)) {K : AV → H → Bool}
    (hK : ∀ B m σ', Frm σ.length σ σ' → IdsAt σ' B m l → σ.length ≤ B → σ.length ≤ m → K (.ptr (some ⟨B, 0, 0, 1⟩)) σ' = true) : acall Try.prog tab D n 10 [.sl s l.length] σ K = true := by
  obtain ⟨n, rfl, hn⟩ := up (n := n) (k := l.length + 9) (by omega)
  have P := (List.prefix_append σ [AO.map [] 0]).trans (List.prefix_append _ [AO.cells [.map (some σ.length)] 1 .own])
  have i0 : IdsAt ((σ ++ [AO.map [] 0]) ++ [AO.cells [.map (some σ.length)] 1 .own]) (σ ++ [AO.map [] 0]).length σ.length [] :=
    ⟨get_new _ _, [], 0, get_old (get_new _ _) _, ⟨by simp, by simp, fun e he => by simp at he⟩, fun k v => ⟨fun h => by simp [setF] at h, fun ⟨e, he, _⟩ => by simp at he⟩⟩
  have hlB : σ.length ≤ (σ ++ [AO.map [] 0]).length := by simp
  conv => lhs; whnf
  refine loop_rule (m := 3592) (fun r fr τ => ∃ (z : Int) (i : Nat), z = (i : Int) ∧ i + r = l.length ∧ Frm σ.length σ τ ∧ IdsAt τ (σ ++ [AO.map [] 0]).length σ.length (l.take i) ∧
    fr = [.bad, .bad, .bad, .ptr (some ⟨(σ ++ [AO.map [] 0]).length, 0, 0, 1⟩), .bad, .bad, .bad, .bad, .bad, .sl s l.length, .int .i64 l.length, .int .i64 z, .bad, .bad, .bad, .bad, .bad, .bad, .bad, .bad, .bad, .bad]) ?_ _ l.length _ _ (by omega) ⟨_, 0, rfl, by omega, Frm.pre P, i0, rfl⟩
  rintro r fr τ C ⟨z, i, rfl, hq, F, h, rfl⟩ next fin
  conv => lhs; whnf
  by_cases hi : i < l.length
  case neg =>
    rw [show decide ((i : Int) < (l.length : Int)) = false from decide_eq_false (by omega)]
    rw [List.take_of_length_le (by omega)] at h
    have := hK _ _ τ F h hlB (Nat.le_refl _)
    conv => lhs; whnf
    refine fin _ _ _ nofun ?_
    conv => lhs; whnf
    exact this
  rw [show decide ((i : Int) < (l.length : Int)) = true from decide_eq_true (by omega)]
  have hsτ : Rw τ 2 s l.length (ids l) := hs.keep fun id xs z md hx => ⟨[], md, by rw [List.append_nil]; exact F.get hx (Nat.ne_of_lt (get_lt hx))⟩
  conv => lhs; whnf
  refine idxN hsτ rfl hi fun pe he => ?_
  conv => lhs; whnf
  refine ldN he ?_
  conv => lhs; whnf
  refine storeN (x := l[i]) (get_new _ _) ?_
  rw [set_new]
  have PX := List.prefix_append τ [AO.cells (avP l[i]) 2 .own]
  have TX := get_new τ (AO.cells (avP l[i]) 2 .own)
  have h2 := h.mono PX
  obtain ⟨E, c, hE⟩ := h2.m
  conv => lhs; whnf
  refine goK hD plan10x5 ord10x5 fun KK hKK => ?_
  conv => lhs; whnf
  refine ldF Try.underlying43 rfl rfl h2.b rfl ?_
  conv => lhs; whnf
  refine ldN1 (x := l[i]) TX ?_
  conv => lhs; whnf
  refine updG Try.underlying43 nameT hE l[i] true fun σ2 m2 s2 l2 => ?_
  have F2 := frm_one s2 l2
  conv => lhs; whnf
  subst hKK
  conv => lhs; whnf
  refine next (r - 1) _ _ (by omega) ⟨_, i + 1, inc_i64 (by omega), by omega, F.trans ((Frm.pre PX).trans F2), h2.frm F2 ?_, rfl⟩
  have e : updF (setF (l.take i)) l[i] true = setF (l.take (i + 1)) := by
    rw [List.take_succ_eq_append_getElem hi]
    funext k
    unfold updF setF
    by_cases hki : k = l[i]
    · rw [if_pos hki, if_pos (List.mem_append_right _ (by rw [hki]; exact List.mem_singleton_self _))]
    · rw [if_neg hki]
      by_cases hkl : k ∈ l.take i
      · rw [if_pos hkl, if_pos (List.mem_append_left _ hkl)]
      · rw [if_neg hkl, if_neg fun h7 => (List.mem_append.1 h7).elim hkl fun h8 => hki (List.mem_singleton.1 h8)]
  rw [← e]
  exact m2
/-- All names, in their order. -/
theorem nall_spec {n : Nat} (hn : 10 ≤ n) (hB : ∀ M : List Nm, M.Nodup → (∀ x ∈ M, x ∈ L) → M.length ≤ 1000000) (h : IdsAt σ B m L) {K : AV → H → Bool}
    (hK : ∀ o a' M σ', σ <+: σ' → StrictI M → (∀ x, x ∈ M ↔ x ∈ L) → OwnS σ σ' 2 o a' M.length (ids M) → K (.sl a' M.length) σ' = true) : acall Try.prog tab D n 15 [.ptr (some ⟨B, 0, 0, 1⟩)] σ K = true := by
  obtain ⟨n, rfl, hn⟩ := up (n := n) (k := 9) (by omega)
  obtain ⟨n, rfl, hn⟩ := up (n := n) (k := 8) (by omega)
  conv => lhs; whnf
  refine ldF Try.underlying43 rfl rfl h.b rfl ?_
  have P := List.prefix_append σ [AO.cells [.map (some m)] 1 .own]
  conv => lhs; whnf
  refine coll_rule (md := .own) nofun (get_new _ _) (h.m.mono P) hB fun M hM hm => ⟨fun hM0 => ?_, fun hM1 => ?_⟩
  · subst hM0
    have := hK none .nil [] _ P List.Pairwise.nil hm (OwnS.nil _ _ _)
    conv => lhs; whnf
    refine sort_none ?_
    conv => lhs; whnf
    exact this
  · have h0 : 0 < M.length := List.length_pos_iff.2 hM1
    have hl : M.length ≤ 1000000 := hB M hM fun x hx => (hm x).1 hx
    have P2 := List.prefix_append (σ ++ [AO.cells [.map (some m)] 1 .own]) [AO.cells (ids M) 2 .own]
    conv => lhs; whnf
    refine sort_rule hl h0 (get_new _ _) ?_
    rw [set_new]
    have hsl : (srtI M).length = M.length := (srtI_perm M).length_eq
    have := hK (some (σ ++ [AO.cells [.map (some m)] 1 .own]).length) (.at (σ ++ [AO.cells [.map (some m)] 1 .own]).length 0 2) (srtI M) _ (P.trans (List.prefix_append _ [AO.cells (ids (srtI M)) 2 .own])) (srtI_strict hM) (fun x => by rw [srtI_mem, hm])
      ⟨rfl, by simp, get_new _ _, (fm_len avP_len _).symm⟩
    rw [hsl] at this
    conv => lhs; whnf
    exact this
theorem nlay_spec {n : Nat} {s : AM.SA} {l : List Nm} {k : Nm} (hD : ByPlan Try.prog D) (hT : ByTree Try.prog D) (hn : l.length + 10 ≤ n) (hl : l.length ≤ 100000) (hs : Rw σ 2 s l.length (ids l)) (hst : StrictI l) {K : AV → H → Bool}
    (hK : ∀ a' L b σ', σ <+: σ' → StrictI L → (∀ x, x ∈ L ↔ x ∈ l ∨ x = k) → Rw σ' 2 a' L.length (ids L) → K (.tup [.sl a' L.length, .bool b]) σ' = true) : acall Try.prog tab D n 9 [.sl s l.length, .agg (avP k)] σ K = true := by
  obtain ⟨n, rfl, hn⟩ := up (n := n) (k := l.length + 9) (by omega)
  have P1 := List.prefix_append σ [AO.cells (avP k) 2 .own]
  have TK := get_new σ (AO.cells (avP k) 2 .own)
  conv => lhs; whnf
  refine loop_rule (m := 73) (fun r fr τ => ∃ (z : Int) (j : Nat), z = (j : Int) ∧ j + r = l.length ∧ (σ ++ [AO.cells (avP k) 2 .own]) <+: τ ∧ (∀ x ∈ l.take j, ltI x k = true) ∧
    fr = [.sl s l.length, .bad, .bad, .ptr (some ⟨σ.length, 0, 0, 2⟩), .bad, .bad, .int .i64 z, .bad, .bad, .bad, .bad, .bad, .bad, .bad, .bad, .bad, .bad, .bad, .bad, .bad, .bad, .bad, .bad, .bad, .bad, .bad, .bad, .bad, .bad, .bad, .bad, .bad, .bad, .bad, .bad, .bad, .bad, .bad, .bad, .bad, .bad, .bad, .bad, .bad, .bad]) ?_ _ l.length _ _ (by omega) ⟨_, 0, rfl, by omega, List.prefix_rfl, fun x hx => by simp at hx, rfl⟩
  rintro r fr τ C ⟨z, j, rfl, hq, p0, hlo, rfl⟩ next fin
  have p := P1.trans p0
  have T3 := prefix_get p0 TK
  have hj : j ≤ l.length := by omega
  have htl : (l.take j).length = j := by rw [List.length_take]; omega
  conv => lhs; whnf
  refine goK hD plan9x2 ord9x2 fun KK hKK => ?_
  conv => lhs; whnf
  by_cases hi : j < l.length
  case neg =>
    rw [show decide ((j : Int) < (l.length : Int)) = false from decide_eq_false (by omega)]
    conv => lhs; whnf
    subst hKK
    conv => lhs; whnf
    refine fin _ _ _ nofun ?_
    conv => lhs; whnf
    refine goK hD plan9x4 ord9x4 fun KK hKK => ?_
    conv => lhs; whnf
    rw [show decide ((j : Int) < (l.length : Int)) = false from decide_eq_false (by omega)]
    conv => lhs; whnf
    subst hKK
    conv => lhs; whnf
    have hhi : ∀ (h : j < l.length), ltI k l[j] = true := fun h => absurd h hi
    clear next fin
    refine goT hT tree9x6 ordT9x6 fun KK hKK => ?_
    conv => lhs; whnf
    refine slNT (hs.mono p) rfl hj fun a1 r1 => ?_
    conv => lhs; whnf
    refine ldN1 (x := k) T3 ?_
    conv => lhs; whnf
    refine slND (hs.mono p) hj fun a2 r2 => ?_
    conv => lhs; whnf
    refine and_true ?_ ?_
    · conv => lhs; whnf
      refine appN (l := []) List.prefix_rfl (OwnS.nil _ _ _) rfl r1 htl (by rw [List.nil_append]; omega) fun o3 a3 σ3 p3 _ _ w3 => ?_
      rw [List.nil_append] at w3 ⊢
      conv => lhs; whnf
      refine and_true (all_cons ?_ rfl) ?_
      · conv => lhs; whnf
        refine ldN1 (x := k) (prefix_get p3 T3) ?_
        exact same_nm _
      have P4 := List.prefix_append σ3 [AO.cells (ids [k]) 2 .own]
      conv => lhs; whnf
      refine build22 (x := k) ?_
      conv => lhs; whnf
      refine appN (p3.trans P4) (w3.mono P4) rfl (Rw.new _ .own rfl) (m := 1) rfl (by rw [List.length_append]; show _ + 1 ≤ _; omega) fun o4 a4 σ4 p4 _ _ w4 => ?_
      conv => lhs; whnf
      refine appN p4 w4 rfl (r2.mono p4) (by rw [List.length_drop]) (by rw [List.length_append, List.length_append, List.length_drop]; show _ + 1 + _ ≤ _; omega) fun o5 a5 σ5 p5 _ _ w5 => ?_
      have := hK a5 _ true σ5 (p.trans p5) (layI_strict hst hlo hhi) (fun x => layI_mem) w5.rw
      conv => lhs; whnf
      subst hKK
      conv => lhs; whnf
      exact this
    · have P4 := List.prefix_append τ [AO.cells (ids [k]) 2 .own]
      show Go.AM.stepT Try.prog _ _ 5 [] _ _ _ _ _ = true
      refine stepT_hide fun ih hih => ?_
      conv => lhs; whnf
      refine build22 (x := k) ?_
      conv => lhs; whnf
      subst hih
      conv => lhs; whnf
      refine appN (σ0 := τ) (l := []) P4 (OwnS.nil _ _ _) rfl (r1.mono P4) htl (by rw [List.nil_append]; omega) fun o3 a3 σ3 p3 l3 kk3 w3 => ?_
      rw [List.nil_append] at w3 ⊢
      have q3 : (τ ++ [AO.cells (ids [k]) 2 .own]) <+: σ3 := prefix_of fun j hj => kk3 j hj nofun
      conv => lhs; whnf
      refine and_true (all_cons ?_ rfl) ?_
      · conv => lhs; whnf
        refine ldN1 (x := k) (prefix_get p3 T3) ?_
        exact same_nm _
      conv => lhs; whnf
      refine appN p3 w3 rfl ((Rw.new (σ := τ) (z := 2) (n := 1) (ids [k]) .own rfl).mono q3) (m := 1) rfl (by rw [List.length_append]; show _ + 1 ≤ _; omega) fun o4 a4 σ4 p4 _ _ w4 => ?_
      conv => lhs; whnf
      refine appN p4 w4 rfl (r2.mono p4) (by rw [List.length_drop]) (by rw [List.length_append, List.length_append, List.length_drop]; show _ + 1 + _ ≤ _; omega) fun o5 a5 σ5 p5 _ _ w5 => ?_
      have := hK a5 _ true σ5 (p.trans p5) (layI_strict hst hlo hhi) (fun x => layI_mem) w5.rw
      conv => lhs; whnf
      subst hKK
      conv => lhs; whnf
      exact this
  rw [show decide ((j : Int) < (l.length : Int)) = true from decide_eq_true (by omega)]
  conv => lhs; whnf
  refine idxN (hs.mono p) rfl hi fun pe he => ?_
  conv => lhs; whnf
  refine ldN he ?_
  conv => lhs; whnf
  refine ldN1 (x := k) T3 ?_
  conv => lhs; whnf
  refine rless_spec (by omega) fun σ1 p1 => ?_
  cases hb : ltI l[j] k with
  | true =>
    conv => lhs; whnf
    subst hKK
    conv => lhs; whnf
    refine next (r - 1) _ _ (by omega) ⟨_, j + 1, inc_i64 (by omega), by omega, p0.trans p1, fun x hx => ?_, rfl⟩
    rw [List.take_succ_eq_append_getElem hi] at hx
    rcases List.mem_append.1 hx with hx | hx
    · exact hlo x hx
    · rw [List.mem_singleton.1 hx]
      exact hb
  | false =>
    replace T3 := prefix_get p1 T3
    replace p := p.trans p1
    conv => lhs; whnf
    subst hKK
    conv => lhs; whnf
    refine fin _ _ _ nofun ?_
    conv => lhs; whnf
    refine goK hD plan9x4 ord9x4 fun KK hKK => ?_
    conv => lhs; whnf
    rw [show decide ((j : Int) < (l.length : Int)) = true from decide_eq_true (by omega)]
    conv => lhs; whnf
    refine idxN (hs.mono p) rfl hi fun pe he => ?_
    conv => lhs; whnf
    refine ldN he ?_
    conv => lhs; whnf
    refine ldN1 (x := k) T3 ?_
    conv => lhs; whnf
    rw [idEq]
    by_cases hk : l[j] = k
    · rw [decide_eq_true hk]
      have := hK s l false σ1 p hst (fun x => ⟨.inl, fun h => h.elim id fun h => by
        rw [h, ← hk]
        exact List.getElem_mem hi⟩) (hs.mono p)
      conv => lhs; whnf
      subst hKK
      conv => lhs; whnf
      exact this
    rw [decide_eq_false hk]
    conv => lhs; whnf
    subst hKK
    conv => lhs; whnf
    have hhi : ∀ (h : j < l.length), ltI k l[j] = true := fun h => by
      rcases ltI_tri l[j] k with a | a | a
      · rw [a] at hb; cases hb
      · exact absurd a hk
      · exact a
    clear next fin hq p0
    clear p1
    refine goT hT tree9x6 ordT9x6 fun KK hKK => ?_
    conv => lhs; whnf
    refine slNT (hs.mono p) rfl hj fun a1 r1 => ?_
    conv => lhs; whnf
    refine ldN1 (x := k) T3 ?_
    conv => lhs; whnf
    refine slND (hs.mono p) hj fun a2 r2 => ?_
    conv => lhs; whnf
    refine and_true ?_ ?_
    · conv => lhs; whnf
      refine appN (l := []) List.prefix_rfl (OwnS.nil _ _ _) rfl r1 htl (by rw [List.nil_append]; omega) fun o3 a3 σ3 p3 _ _ w3 => ?_
      rw [List.nil_append] at w3 ⊢
      conv => lhs; whnf
      refine and_true (all_cons ?_ rfl) ?_
      · conv => lhs; whnf
        refine ldN1 (x := k) (prefix_get p3 T3) ?_
        exact same_nm _
      have P4 := List.prefix_append σ3 [AO.cells (ids [k]) 2 .own]
      conv => lhs; whnf
      refine build22 (x := k) ?_
      conv => lhs; whnf
      refine appN (p3.trans P4) (w3.mono P4) rfl (Rw.new _ .own rfl) (m := 1) rfl (by rw [List.length_append]; show _ + 1 ≤ _; omega) fun o4 a4 σ4 p4 _ _ w4 => ?_
      conv => lhs; whnf
      refine appN p4 w4 rfl (r2.mono p4) (by rw [List.length_drop]) (by rw [List.length_append, List.length_append, List.length_drop]; show _ + 1 + _ ≤ _; omega) fun o5 a5 σ5 p5 _ _ w5 => ?_
      have := hK a5 _ true σ5 (p.trans p5) (layI_strict hst hlo hhi) (fun x => layI_mem) w5.rw
      conv => lhs; whnf
      subst hKK
      conv => lhs; whnf
      exact this
    · have P4 := List.prefix_append σ1 [AO.cells (ids [k]) 2 .own]
      show Go.AM.stepT Try.prog _ _ 5 [] _ _ _ _ _ = true
      refine stepT_hide fun ih hih => ?_
      conv => lhs; whnf
      refine build22 (x := k) ?_
      conv => lhs; whnf
      subst hih
      conv => lhs; whnf
      refine appN (σ0 := σ1) (l := []) P4 (OwnS.nil _ _ _) rfl (r1.mono P4) htl (by rw [List.nil_append]; omega) fun o3 a3 σ3 p3 l3 kk3 w3 => ?_
      rw [List.nil_append] at w3 ⊢
      have q3 : (σ1 ++ [AO.cells (ids [k]) 2 .own]) <+: σ3 := prefix_of fun j hj => kk3 j hj nofun
      conv => lhs; whnf
      refine and_true (all_cons ?_ rfl) ?_
      · conv => lhs; whnf
        refine ldN1 (x := k) (prefix_get p3 T3) ?_
        exact same_nm _
      conv => lhs; whnf
      refine appN p3 w3 rfl ((Rw.new (σ := σ1) (z := 2) (n := 1) (ids [k]) .own rfl).mono q3) (m := 1) rfl (by rw [List.length_append]; show _ + 1 ≤ _; omega) fun o4 a4 σ4 p4 _ _ w4 => ?_
      conv => lhs; whnf
      refine appN p4 w4 rfl (r2.mono p4) (by rw [List.length_drop]) (by rw [List.length_append, List.length_append, List.length_drop]; show _ + 1 + _ ≤ _; omega) fun o5 a5 σ5 p5 _ _ w5 => ?_
      have := hK a5 _ true σ5 (p.trans p5) (layI_strict hst hlo hhi) (fun x => layI_mem) w5.rw
      conv => lhs; whnf
      subst hKK
      conv => lhs; whnf
      exact this
end Go.Proofs.Ytjooccdeeejecaa
