/- More steps: fields of a row that is known, rows of texts. -/
import Derived.Test.YtpagagiojnhhfaaAmStep
import Derived.Test.YtpagagiojnhhfaaAmShp
namespace Go.AM.St
open Go Go.AM
section
variable {P : Program} {t e : TypeId} {z : Nat} {σ : H}

def leafT : TypeDesc → Bool
  | .struct _ | .array _ _ => false
  | _ => true

/-- One cell of a row that is known. -/
theorem ldF {d : TypeDesc} {i : TypeInfo} (ht : P.underlying t = some d) (hi : P.info? t = some i) (hl : leafT d = true) {id b o z' z : Nat} {xs : List AV} {md : Md} {v : AV} {K : AV → Bool} (hr : σ[id]? = some (AO.cells xs z md))
    (hx : xs[b + o]? = some v) (h : castT P t v K = true) : ldK P t σ ⟨id, b, o, z'⟩ K = true := by
  refine rowK_of hr ?_
  rw [ht, hi]
  split
  · rename_i e _; cases e; cases hl
  · rename_i e _; cases e; cases hl
  · simp only [hx]; exact h
  · rename_i hq; exact absurd rfl (hq _ _ rfl)

/-- All cells of a struct that is known. -/
theorem ldS {fs : Array Field} {i : TypeInfo} (ht : P.underlying t = some (.struct fs)) (hi : P.info? t = some i) {id b o z' z : Nat} {xs ys : List AV} {md : Md} {K : AV → Bool} (hr : σ[id]? = some (AO.cells xs z md))
    (hz : o + i.size ≤ z') (hb : b + o + i.size ≤ xs.length) (hx : (xs.drop (b + o)).take i.size = ys) (h : castT P t (.agg ys) K = true) : ldK P t σ ⟨id, b, o, z'⟩ K = true := by
  refine rowK_of hr ?_
  rw [ht, hi]
  simp only
  rw [hx]
  refine bif_pos ?_ h
  simp only [Bool.and_eq_true, decide_eq_true_eq]
  exact ⟨hz, hb⟩

/-- A whole struct stored over a row that is ours alone. -/
theorem storeS {i : TypeInfo} (hi : P.info? t = some i) {id z' y : Nat} {v : AV} {xs : List AV} {K : H → Bool} (hr : σ[id]? = some (AO.cells xs y .own)) (hv : v.cells.length = i.size) (hx : xs.length = i.size) (hz : i.size ≤ z') (hl : leafy v.cells = true)
    (hK : K (σ.set id (.cells v.cells y .own)) = true) : storeK P t (.ptr (some ⟨id, 0, 0, z'⟩)) v σ K = true := by
  unfold storeK
  rw [hi]
  simp only
  refine rowK_of hr (bif_pos ?_ ?_)
  · simp only [Bool.and_eq_true, beq_iff_eq, decide_eq_true_eq]
    refine ⟨⟨⟨⟨by first | rfl | trivial, hv⟩, by omega⟩, by omega⟩, hl⟩
  · rw [show xs.take (0 + 0) ++ v.cells ++ xs.drop (0 + 0 + i.size) = v.cells by rw [← hx]; simp]
    exact hK
theorem keep_set (σ : H) (id : Nat) (o : AO) : Keep (some id) σ (σ.set id o) := fun j x hj hx => get_set_ne hx (fun e => hj (by rw [e])) o
theorem Own.off {σ0 σ : H} {z n : Nat} {o : Option Nat} {a : SA} {cs : List AV} (h : Own σ0 σ z o a n cs) {id : Nat} (hid : id < σ0.length) : o = none ∨ o ≠ some id := by
  unfold Own at h
  split at h
  · exact .inl rfl
  · obtain ⟨off, xs, md, h1, h2, _⟩ := h
    exact .inr fun e => by cases e; omega

theorem Elem.mono {σ' : H} {p : PA} {es : List AV} (h : Elem σ z p es) (hp : σ <+: σ') : Elem σ' z p es := by
  obtain ⟨h1, h2, xs, md, h3, h4⟩ := h
  exact ⟨h1, h2, xs, md, prefix_get hp h3, h4⟩

/-- A row of texts. -/
structure TT (P : Program) (t e : TypeId) : Prop where
  ht : P.underlying t = some (.slice e)
  he : P.underlying e = some .string
  hz : ∀ K, esizeK P e K = K 1
  hi : ∃ ie, P.info? e = some ie ∧ ie.size = 1 ∧ (ie.size == 0 || ie.bytes == 0 || !zeroFits ie) = false ∧ ie.bytes ≤ 16

def txs (ts : List (List Nat)) : List AV := ts.map fun t => AV.str (ints t)
theorem txs_len (bs : List (List Nat)) : (txs bs).length = bs.length := by simp [txs]
theorem txs_take (bs : List (List Nat)) (n : Nat) : (txs bs).take (n * 1) = txs (bs.take n) := by simp [txs, List.map_take]
theorem txs_drop (bs : List (List Nat)) (n : Nat) : (txs bs).drop (n * 1) = txs (bs.drop n) := by simp [txs, List.map_drop]
theorem txs_app (a b : List (List Nat)) : txs a ++ txs b = txs (a ++ b) := by simp [txs]
theorem txs_at {bs : List (List Nat)} {i : Nat} (h : i < bs.length) : ((txs bs).drop (i * 1)).take 1 = [.str (ints bs[i])] := by
  rw [txs_drop, List.drop_eq_getElem_cons h]; rfl

theorem TT.slice (B : TT P t e) {a : SA} {bs : List (List Nat)} (ha : Rw σ 1 a bs.length (txs bs)) {lo hi : Option AV} (l h : Nat) {K : AV → Bool}
    (hlo : Bd lo 0 l) (hhi : Bd hi bs.length h) (h1 : l ≤ h) (h2 : h ≤ bs.length) (ds : List (List Nat)) (hd : (bs.take h).drop l = ds)
    (hK : ∀ a', Rw σ 1 a' ds.length (txs ds) → K (.sl a' ds.length) = true) : sliceK P t (.sl a bs.length) lo hi none K = true := by
  subst hd
  refine sliceK_rw B.ht B.hz ha hlo hhi h1 h2 ?_ ?_ hK
  · rw [List.length_drop, List.length_take]; omega
  · rw [txs_take, txs_drop]
theorem TT.idx (B : TT P t e) {a : SA} {bs : List (List Nat)} (ha : Rw σ 1 a bs.length (txs bs)) {k' : IntKind} {y : Int} {i : Nat} {K : AV → Bool} (hy : y = (i : Int)) (hi : i < bs.length)
    (hK : ∀ p, Elem σ 1 p [.str (ints bs[i])] → K (.ptr (some p)) = true) : indexAddrK P t (.sl a bs.length) (.int k' y) K = true :=
  indexAddrK_rw B.ht B.hz ha hy hi (txs_at hi) hK
theorem TT.ld (B : TT P t e) {p : PA} {s : List Int} {K : AV → Bool} (hp : Elem σ 1 p [.str s]) (h : K (.str s) = true) : ldK P e σ p K = true := by
  obtain ⟨ie, hi, _⟩ := B.hi
  exact ldK_text B.he hi hp h
theorem TT.app (B : TT P t e) {σ0 : H} (h0 : σ0 <+: σ) {o : Option Nat} {a b : SA} {xs ys : List (List Nat)} {K : AV → H → Bool} (hs : Own σ0 σ 1 o a xs.length (txs xs)) (hx : Rw σ 1 b ys.length (txs ys)) (zs : List (List Nat)) (hz : xs ++ ys = zs)
    (hb : zs.length ≤ 1000000000)
    (hK : ∀ o' a' σ', σ0 <+: σ' → Keep o σ σ' → (∀ id, o = some id → o' = o) → (o = none → o' = none ∨ o' = some σ.length) → Own σ0 σ' 1 o' a' zs.length (txs zs) → K (.sl a' zs.length) σ' = true) :
    appendK P t (.sl a xs.length) (.sl b ys.length) σ K = true := by
  subst hz
  obtain ⟨ie, hi, h1, h2, h3⟩ := B.hi
  have hm : (xs ++ ys).length * ie.bytes ≤ 1000000000 * 16 := Nat.mul_le_mul hb h3
  exact appendK_rw B.ht hi h1 h2 h0 hs hx (List.length_append).symm (txs_app xs ys) (by omega) hK
theorem shp_texts {n : Nat} {cs : List AV} (ht : P.underlying t = some (.slice e)) (he : P.underlying e = some .string) (hc : P.cellsOf e = 1) (h : Shp P σ (n + 2) t cs) :
    ∃ (s : SA) (ts : List (List Nat)), cs = [.sl s ts.length] ∧ Rw σ 1 s ts.length (txs ts) ∧ ts.length ≤ maxLen ∧ ∀ t ∈ ts, (∀ b ∈ t, b < 256) ∧ t.length ≤ maxLen := by
  obtain ⟨s, m, xs, h1, h2, h3, h4⟩ := shp_slice ht h
  rw [hc] at h2 h4
  have hl := h2.len
  rw [Nat.mul_one] at hl
  have key : ∀ {m : Nat} {xs : List AV}, xs.length = m → (∀ i, i < m → Shp P σ (n + 1) e ((xs.drop (i * 1)).take 1)) → ∃ ts : List (List Nat), xs = txs ts ∧ ∀ t ∈ ts, (∀ b ∈ t, b < 256) ∧ t.length ≤ maxLen := by
    intro m
    induction m with
    | zero => intro xs hl _; exact ⟨[], by simpa [txs] using List.length_eq_zero_iff.1 hl, fun y hy => by simp at hy⟩
    | succ m ih =>
      intro xs hl h
      cases xs with
      | nil => simp at hl
      | cons x xs =>
        obtain ⟨ys, rfl, hy⟩ := ih (xs := xs) (by simpa using hl) (fun i hi => by simpa using h (i + 1) (by omega))
        have h0 := h 0 (by omega)
        unfold Shp at h0
        rw [he] at h0
        obtain ⟨s, h1, h2⟩ := h0
        obtain ⟨bs, e1, e2, e3⟩ := ints_bytesL s
        refine ⟨bs :: ys, ?_, fun y hy' => ?_⟩
        · simp at h1
          rw [h1, e1]; rfl
        · rcases List.mem_cons.1 hy' with rfl | hy'
          · exact ⟨e2, by omega⟩
          · exact hy y hy'
  obtain ⟨ts, rfl, hy⟩ := key hl h4
  rw [txs_len] at hl
  subst hl
  exact ⟨s, ts, h1, h2, h3, hy⟩
end
end Go.AM.St
