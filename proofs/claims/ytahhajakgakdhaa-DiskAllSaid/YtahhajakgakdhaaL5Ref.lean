/- The document's disk: its small functions. -/
import Derived.Test.YtahhajakgakdhaaL5RefP
import Derived.Test.YtahhajakgakdhaaL5Trees
namespace Go.Proofs.Ytahhajakgakdhaa
set_option maxRecDepth 100000
open Go Go.AM Go.AM.St
structure RG where
  name : List Nat
  bytes : List Nat
  synced : Nat
  lasts : Bool
  a : AM.SA
def RG.v (g : RG) : FV := ⟨g.name, g.bytes, g.synced, g.lasts⟩
abbrev rgc (g : RG) : List AV := [.str (ints g.name), .sl g.a g.bytes.length, .int .i64 (g.synced : Int), .bool g.lasts]
def rgs : List RG → List AV
  | [] => []
  | g :: L => rgc g ++ rgs L
theorem rgs_len : ∀ L : List RG, (rgs L).length = L.length * 4
  | [] => rfl
  | g :: L => by rw [rgs, List.length_append, rgs_len L, List.length_cons]; simp; omega
theorem rgs_app : ∀ (a b : List RG), rgs a ++ rgs b = rgs (a ++ b)
  | [], _ => rfl
  | g :: a, b => by rw [rgs, List.append_assoc, rgs_app a b]; rfl
theorem rgs_take : ∀ (L : List RG) (k : Nat), (rgs L).take (k * 4) = rgs (L.take k)
  | [], k => by simp [rgs]
  | e :: L, 0 => by simp [rgs]
  | e :: L, k + 1 => by
    rw [List.take_succ_cons, rgs, rgs, ← rgs_take L k, List.take_append]
    rw [List.take_of_length_le (by simp; omega), show (k + 1) * 4 - (rgc e).length = k * 4 by simp; omega]
theorem rgs_drop : ∀ (L : List RG) (k : Nat), (rgs L).drop (k * 4) = rgs (L.drop k)
  | [], k => by simp [rgs]
  | e :: L, 0 => by simp
  | e :: L, k + 1 => by
    rw [List.drop_succ_cons, rgs, ← rgs_drop L k, List.drop_append]
    rw [List.drop_eq_nil_of_le (by simp; omega), show (k + 1) * 4 - (rgc e).length = k * 4 by simp; omega, List.nil_append]
theorem rgs_at : ∀ {L : List RG} {i : Nat} (h : i < L.length) (f : Nat), f < 4 → (rgs L)[i * 4 + f]? = (rgc L[i])[f]?
  | g :: L, 0, _, f, hf => by rw [rgs, Nat.zero_mul, Nat.zero_add, List.getElem?_append_left (by simpa using hf)]; rfl
  | g :: L, i + 1, h, f, hf => by
    rw [rgs, List.getElem?_append_right (by simp; omega), show (i + 1) * 4 + f - (rgc g).length = i * 4 + f by simp; omega, rgs_at (by simpa using h) f hf]; rfl
theorem rgs_set : ∀ {L : List RG} {i : Nat} (h : i < L.length) (f : Nat) (v : AV) (g' : RG), f < 4 → rgc g' = (rgc L[i]).set f v → (rgs L).set (i * 4 + f) v = rgs (L.set i g')
  | g :: L, 0, _, f, v, g', hf, e => by
    rw [rgs, Nat.zero_mul, Nat.zero_add, List.set_append_left _ _ (by simpa using hf), List.set_cons_zero, rgs, e]; rfl
  | g :: L, i + 1, h, f, v, g', hf, e => by
    rw [rgs, List.set_append_right _ _ (by simp; omega), show (i + 1) * 4 + f - (rgc g).length = i * 4 + f by simp; omega, rgs_set (L := L) (i := i) (by simpa using h) f v g' hf e]; rfl
structure RefAt (σ : H) (Q : Nat) (S : DS) (L : List RG) (w : AM.SA) (o : Option Nat) : Prop where
  row : σ[Q]? = some (AO.cells [.sl w L.length, .int .i64 S.left, .int .i64 (S.ops : Int), .bool S.down] 4 .own)
  own : OwnS [] σ 4 o w L.length (rgs L)
  ne : o ≠ some Q
  v : L.map RG.v = S.V
  rd : ∀ g ∈ L, Rw σ 1 g.a g.bytes.length (u8s g.bytes)
def FR' (Q : Nat) (o : Option Nat) (id : Nat) : Prop := id = Q ∨ o = some id
def RV (σ : H) (Q : Nat) (S : DS) (F : Nat → Prop) : Prop := ∃ L w o, RefAt σ Q S L w o ∧ F = FR' Q o
theorem RefAt.step {σ σ' : H} {Q : Nat} {S : DS} {L : List RG} {w : AM.SA} {o : Option Nat} {G G' : Nat → Prop} (h : RefAt σ Q S L w o) (s : Stp G G' σ σ') (hd : ∀ id, FR' Q o id → ¬ G id) : RefAt σ' Q S L w o :=
  ⟨(s.keep Q (get_lt h.row) (hd Q (.inl rfl))).trans h.row, h.own.keep fun id e => s.keep id (by subst e; exact h.own.lt) (hd id (.inr e)), h.ne, h.v, fun g hg => (h.rd g hg).ext s.ext⟩
theorem RefAt.lt {σ : H} {Q : Nat} {S : DS} {L : List RG} {w : AM.SA} {o : Option Nat} (h : RefAt σ Q S L w o) {id : Nat} (hf : FR' Q o id) : id < σ.length := by
  rcases hf with rfl | e
  · exact get_lt h.row
  · subst e; exact h.own.lt
theorem RV.step {σ σ' : H} {Q : Nat} {S : DS} {F G G' : Nat → Prop} (h : RV σ Q S F) (s : Stp G G' σ σ') (hd : ∀ id, F id → ¬ G id) : RV σ' Q S F := by
  obtain ⟨L, w, o, r, rfl⟩ := h
  exact ⟨L, w, o, r.step s hd, rfl⟩
theorem RV.lt {σ : H} {Q : Nat} {S : DS} {F : Nat → Prop} (h : RV σ Q S F) {id : Nat} (hf : F id) : id < σ.length := by
  obtain ⟨L, w, o, r, rfl⟩ := h
  exact r.lt hf
/-- The struct's row turns. -/
theorem RefAt.turn {σ : H} {Q : Nat} {S : DS} {L : List RG} {w : AM.SA} {o : Option Nat} (h : RefAt σ Q S L w o) (S' : DS) (hV : S'.V = S.V) {τ : H}
    (hr : τ[Q]? = some (AO.cells [.sl w L.length, .int .i64 S'.left, .int .i64 (S'.ops : Int), .bool S'.down] 4 .own)) (hk : ∀ id, id ≠ Q → τ[id]? = σ[id]?) (hl : τ.length = σ.length) : RefAt τ Q S' L w o ∧ Stp (FR' Q o) (FR' Q o) σ τ := by
  have x := Ext.ne h.row nofun hk
  exact ⟨⟨hr, h.own.keep fun id e => hk id fun e' => h.ne (by rw [e, e']), h.ne, h.v.trans hV.symm, fun g hg => (h.rd g hg).ext x⟩, ⟨Nat.le_of_eq hl.symm, fun id _ hf => hk id fun e => hf (.inl e), fun _ h => .inl h, x⟩⟩
theorem storeQ {σ : H} {Q : Nat} {S : DS} {L : List RG} {w : AM.SA} {o : Option Nat} (h : RefAt σ Q S L w o) {t : TypeId} {i : TypeInfo} (hi : Try.prog.info? t = some i) (hz : i.size = 1) (f : Nat) (hf : f < 4) (S' : DS) (hV : S'.V = S.V) {v : AV} (hv : isLeaf v = true)
    (hr : [.sl w L.length, .int .i64 S'.left, .int .i64 (S'.ops : Int), .bool S'.down] = [AV.sl w L.length, .int .i64 S.left, .int .i64 (S.ops : Int), .bool S.down].set f v) {K : H → Bool}
    (hK : ∀ τ, RefAt τ Q S' L w o → Stp (FR' Q o) (FR' Q o) σ τ → K τ = true) : storeK Try.prog t (.ptr (some ⟨Q, 0, f, 4⟩)) v σ K = true := by
  refine storeK_of hi hz (by omega) h.row hv (by simpa using hf) ?_
  rw [Nat.zero_add, ← hr]
  obtain ⟨a, b⟩ := h.turn S' hV (τ := σ.set Q (AO.cells [.sl w L.length, .int .i64 S'.left, .int .i64 (S'.ops : Int), .bool S'.down] 4 .own)) (get_set h.row _) (fun id hne => List.getElem?_set_ne (Ne.symm hne)) (List.length_set ..)
  exact hK _ a b
theorem rAt_rest {name : List Nat} : ∀ {V : List FV} {i : Nat}, (∀ x ∈ V.take i, ltN x.name name = true) → i ≤ V.length → rAt name V = i + rAt name (V.drop i)
  | V, 0, _, _ => by rw [List.drop_zero, Nat.zero_add]
  | [], i + 1, _, h => by simp at h
  | x :: V, i + 1, h, hl => by
    rw [rAt, if_pos (h x (by simp)), List.drop_succ_cons, rAt_rest (i := i) (fun y hy => h y (by rw [List.take_succ_cons]; exact List.mem_cons_of_mem _ hy)) (by simpa using hl)]
    omega
attribute [local irreducible] IntKind.wrap Int.fdiv Int.tdiv Int.tmod BitVec.ofInt appendK sliceK indexAddrK ldK storeK seenK makeSliceK lookupK updateK deleteK mapK rangeK nextK keysF
variable {D : Drawer}
variable {Q : Nat} {S : DS} {F : Nat → Prop} {σ : H} {L : List RG} {w : AM.SA} {o : Option Nat}
theorem ref_new {n : Nat} (hn : 1 ≤ n) {K : AV → H → Bool} (hK : ∀ σ' Q F, σ <+: σ' → RV σ' Q ⟨[], -1, false, 0⟩ F → (∀ id, F id → σ.length ≤ id) → K (.ptr (some ⟨Q, 0, 0, 4⟩)) σ' = true) : acall Try.prog tab D n 37 [] σ K = true := by
  obtain ⟨n, rfl, hn⟩ := up hn
  have := hK (σ ++ [AO.cells [.sl .nil 0, .int .i64 (-1), .int .i64 0, .bool false] 4 .own]) σ.length _ (List.prefix_append _ _) ⟨[], .nil, none, ⟨get_new _ _, OwnS.nil _ _ _, nofun, rfl, fun g hg => by cases hg⟩, rfl⟩ (fun id h => by
    rcases h with rfl | h
    · exact Nat.le_refl _
    · cases h)
  conv => lhs; whnf
  exact this
theorem rop_spec {n : Nat} (hn : 1 ≤ n) (h : RefAt σ Q S L w o) (hl : -1 ≤ S.left) (hl2 : S.left ≤ 9223372036854775807) (ho : S.ops < 1000000000) {K : AV → H → Bool}
    (h0 : S.left = 0 → ∀ τ, RefAt τ Q ⟨S.V, S.left, true, S.ops⟩ L w o → Stp (FR' Q o) (FR' Q o) σ τ → K (.bool false) τ = true)
    (h1 : S.left ≠ 0 → ∀ τ, RefAt τ Q ⟨S.V, max (S.left - 1) (-1), S.down, S.ops + 1⟩ L w o → Stp (FR' Q o) (FR' Q o) σ τ → K (.bool true) τ = true) :
    acall Try.prog tab D n 76 [.ptr (some ⟨Q, 0, 0, 4⟩)] σ K = true := by
  obtain ⟨n, rfl, hn⟩ := up hn
  conv => lhs; whnf
  refine ldF Try.underlying3 rfl rfl h.row rfl ?_
  conv => lhs; whnf
  by_cases hz : S.left = 0
  · rw [show (S.left == 0) = true by rw [beq_iff_eq]; exact hz]
    conv => lhs; whnf
    refine storeQ h rfl rfl 3 (by decide) ⟨S.V, S.left, true, S.ops⟩ rfl (v := .bool true) rfl rfl fun τ h2 s2 => ?_
    have := h0 hz τ h2 s2
    conv => lhs; whnf
    exact this
  rw [show (S.left == 0) = false by rw [beq_eq_false_iff_ne]; exact hz]
  conv => lhs; whnf
  refine ldF Try.underlying3 rfl rfl h.row rfl ?_
  conv => lhs; whnf
  by_cases hp : S.left > 0
  · rw [show decide (S.left > 0) = true from decide_eq_true hp]
    conv => lhs; whnf
    refine ldF Try.underlying3 rfl rfl h.row rfl ?_
    conv => lhs; whnf
    refine storeQ h rfl rfl 1 (by decide) ⟨S.V, max (S.left - 1) (-1), S.down, S.ops⟩ rfl (v := .int .i64 (IntKind.wrap .i64 (S.left - 1))) rfl (by rw [wrap_i64 (by omega) (by omega), show max (S.left - 1) (-1) = S.left - 1 by omega]; rfl) fun τ h2 s2 => ?_
    conv => lhs; whnf
    refine ldF Try.underlying3 rfl rfl h2.row rfl ?_
    conv => lhs; whnf
    refine storeQ h2 rfl rfl 2 (by decide) ⟨S.V, max (S.left - 1) (-1), S.down, S.ops + 1⟩ rfl (v := .int .i64 (IntKind.wrap .i64 ((S.ops : Int) + 1))) rfl (by rw [inc_i64 (by omega)]; rfl) fun τ3 h3 s3 => ?_
    have := h1 hz τ3 h3 (s2.trans s3)
    conv => lhs; whnf
    exact this
  · rw [show decide (S.left > 0) = false from decide_eq_false hp]
    conv => lhs; whnf
    refine ldF Try.underlying3 rfl rfl h.row rfl ?_
    conv => lhs; whnf
    refine storeQ h rfl rfl 2 (by decide) ⟨S.V, max (S.left - 1) (-1), S.down, S.ops + 1⟩ rfl (v := .int .i64 (IntKind.wrap .i64 ((S.ops : Int) + 1))) rfl (by rw [inc_i64 (by omega), show max (S.left - 1) (-1) = S.left by omega]; rfl) fun τ3 h3 s3 => ?_
    have := h1 hz τ3 h3 s3
    conv => lhs; whnf
    exact this
theorem ref_fuse {n : Nat} {x : Int} (hn : 1 ≤ n) (hd : RV σ Q S F) {K : AV → H → Bool} (hK : ∀ σ' F', RV σ' Q (dFuse x S) F' → Stp F F' σ σ' → K (.tup []) σ' = true) :
    acall Try.prog tab D n 64 [.ptr (some ⟨Q, 0, 0, 4⟩), .int .i64 x] σ K = true := by
  obtain ⟨n, rfl, hn⟩ := up hn
  obtain ⟨L, w', o, h, rfl⟩ := hd
  unfold dFuse at hK
  conv => lhs; whnf
  refine ldF Try.underlying4 rfl rfl h.row rfl ?_
  cases hdn : S.down with
  | true =>
    rw [if_pos hdn] at hK
    have := hK σ _ ⟨L, w', o, h, rfl⟩ Stp.refl
    conv => lhs; whnf
    exact this
  | false =>
    rw [if_neg (by rw [hdn]; decide)] at hK
    conv => lhs; whnf
    refine storeQ h rfl rfl 1 (by decide) ⟨S.V, max x (-1), S.down, S.ops⟩ rfl (v := .int .i64 (if x < -1 then -1 else x)) rfl (by
      have e : (if x < -1 then -1 else x) = max x (-1) := by split <;> omega
      rw [e]; rfl) fun τ h2 s2 => ?_
    have := hK τ _ ⟨L, w', o, h2, rfl⟩ s2
    conv => lhs; whnf
    exact this
theorem ldL {K : AV → Bool} (h : RefAt σ Q S L w o) (hK : K (.sl w L.length) = true) : ldK Try.prog 101 σ ⟨Q, 0, 0, 4⟩ K = true := by
  refine ldF Try.underlying101 rfl rfl h.row rfl ?_
  conv => lhs; whnf
  exact hK
theorem idxL {k : IntKind} {y : Int} {i : Nat} (h : RefAt σ Q S L w o) (hy : y = (i : Int)) (hi : i < L.length) {K : AV → Bool}
    (hK : ∀ id, o = some id → σ[id]? = some (AO.cells (rgs L) 4 .own) → K (.ptr (some ⟨id, i * 4, 0, 4⟩)) = true) : indexAddrK Try.prog 101 (.sl w L.length) (.int k y) K = true :=
  idxS Try.underlying101 (fun _ => rfl) h.own hy hi hK
theorem at_spec {n : Nat} {name : List Nat} (hD : ByPlan Try.prog D) (hn : L.length + 10 ≤ n) (hlen : L.length ≤ 1000000) (h : RefAt σ Q S L w o) {K : AV → H → Bool}
    (hK : K (.tup [.int .i64 (rAt name S.V : Nat), .bool (rHas name S.V)]) σ = true) : acall Try.prog tab D n 77 [.ptr (some ⟨Q, 0, 0, 4⟩), .str (ints name)] σ K = true := by
  obtain ⟨n, rfl, hn⟩ := up (n := n) (k := L.length + 9) (by omega)
  have hVl : S.V.length = L.length := by rw [← h.v, List.length_map]
  conv => lhs; whnf
  refine loop_rule (m := 67) (fun q fr τ => ∃ (z : Int) (i : Nat), z = (i : Int) ∧ i + q = L.length ∧ (∀ x ∈ S.V.take i, ltN x.name name = true) ∧ τ = σ ∧
    fr = [.ptr (some ⟨Q, 0, 0, 4⟩), .str (ints name), .bad, .bad, .bad, .bad, .int .i64 z, .bad, .bad, .bad, .bad, .bad, .bad, .bad, .bad, .bad, .bad, .bad, .bad, .bad, .bad, .bad, .bad, .bad, .bad, .bad, .bad, .bad, .bad, .bad, .bad, .bad, .bad, .bad, .bad, .bad, .bad, .bad, .bad, .bad, .bad, .bad, .bad, .bad, .bad, .bad, .bad, .bad]) ?_ _ L.length _ _ (by omega) ⟨_, 0, rfl, by omega, by simp, rfl, rfl⟩
  rintro q fr τ C ⟨z, i, rfl, hq, hlt, rfl, rfl⟩ next fin
  have hrest := rAt_rest hlt (by omega)
  conv => lhs; whnf
  refine ldL h ?_
  conv => lhs; whnf
  by_cases hi : i < L.length
  · rw [show decide ((i : Int) < (L.length : Int)) = true from decide_eq_true (by omega)]
    have hVi : S.V[i]? = some L[i].v := by rw [← h.v, List.getElem?_map, List.getElem?_eq_getElem hi]; rfl
    have hVd : S.V.drop i = L[i].v :: S.V.drop (i + 1) := by
      rw [List.drop_eq_getElem_cons (by omega)]
      congr 1
      have := List.getElem?_eq_getElem (l := S.V) (i := i) (by omega)
      rw [hVi] at this
      exact (Option.some.inj this).symm
    conv => lhs; whnf
    refine ldL h ?_
    conv => lhs; whnf
    refine idxL h rfl hi fun id ho hr => ?_
    conv => lhs; whnf
    refine ldF Try.underlying9 rfl rfl hr (rgs_at hi 0 (by decide)) ?_
    conv => lhs; whnf
    cases hl : ltL (ints L[i].name) (ints name) with
    | true =>
      conv => lhs; whnf
      refine next (q - 1) _ _ (by omega) ⟨_, i + 1, inc_i64 (by omega), by omega, fun x hx => ?_, rfl, rfl⟩
      rw [List.take_add_one, hVi, List.mem_append] at hx
      rcases hx with hx | hx
      · exact hlt x hx
      · have : x = L[i].v := by simpa using hx
        subst this
        exact hl
    | false =>
      have hrA : rAt name S.V = i := by
        rw [hrest, hVd, rAt, if_neg (by show ¬ ltL (ints L[i].name) (ints name) = true; rw [hl]; decide)]
        rfl
      have hrH : rHas name S.V = (ints L[i].name == ints name) := by
        unfold rHas
        rw [hrA, hVi]; rfl
      rw [hrA, hrH] at hK
      conv => lhs; whnf
      refine fin _ _ _ nofun ?_
      conv => lhs; whnf
      refine goK hD plan77x4 ord77x4 fun KK hKK => ?_
      conv => lhs; whnf
      refine ldL h ?_
      conv => lhs; whnf
      rw [show decide ((i : Int) < (L.length : Int)) = true from decide_eq_true (by omega)]
      conv => lhs; whnf
      refine ldL h ?_
      conv => lhs; whnf
      refine idxL h rfl hi fun id ho hr => ?_
      conv => lhs; whnf
      refine ldF Try.underlying9 rfl rfl hr (rgs_at hi 0 (by decide)) ?_
      cases he : (ints L[i].name == ints name) with
      | true =>
        rw [he] at hK
        conv => lhs; whnf
        rw [he]
        conv => lhs; whnf
        refine and_true (all_cons ?_ (all_cons ?_ (all_skip rfl rfl))) ?_
        · conv => lhs; whnf
          refine ldF Try.underlying9 rfl rfl hr (rgs_at hi 0 (by decide)) ?_
          exact same_str _
        · conv => lhs; whnf
          refine ldL h ?_
          exact same_sl _ _
        conv => lhs; whnf
        subst hKK
        conv => lhs; whnf
        exact hK
      | false =>
        rw [he] at hK
        conv => lhs; whnf
        rw [he]
        conv => lhs; whnf
        refine and_true (all_cons ?_ (all_cons ?_ (all_skip rfl rfl))) ?_
        · conv => lhs; whnf
          refine ldF Try.underlying9 rfl rfl hr (rgs_at hi 0 (by decide)) ?_
          exact same_str _
        · conv => lhs; whnf
          refine ldL h ?_
          exact same_sl _ _
        conv => lhs; whnf
        subst hKK
        conv => lhs; whnf
        exact hK
  · rw [show decide ((i : Int) < (L.length : Int)) = false from decide_eq_false (by omega)]
    have hrA : rAt name S.V = i := by rw [hrest, List.drop_eq_nil_of_le (by omega)]; rfl
    have hrH : rHas name S.V = false := by
      unfold rHas
      rw [hrA, List.getElem?_eq_none (by omega)]
    rw [hrA, hrH] at hK
    conv => lhs; whnf
    refine fin _ _ _ nofun ?_
    conv => lhs; whnf
    refine goK hD plan77x4 ord77x4 fun KK hKK => ?_
    conv => lhs; whnf
    refine ldL h ?_
    conv => lhs; whnf
    rw [show decide ((i : Int) < (L.length : Int)) = false from decide_eq_false (by omega)]
    conv => lhs; whnf
    subst hKK
    conv => lhs; whnf
    exact hK
end Go.Proofs.Ytahhajakgakdhaa
