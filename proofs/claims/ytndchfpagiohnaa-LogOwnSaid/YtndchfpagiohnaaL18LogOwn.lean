/- LogOwn. -/
import Derived.Test.YtndchfpagiohnaaL18S
set_option maxRecDepth 100000
namespace Go.Proofs.Ytndchfpagiohnaa
open Go Go.AM Go.AM.St
theorem ents_set0 : ∀ {V : List En} {i : Nat} (h : i < V.length) (x : Int), (ents V).set (i * 4 + 0) (.int .i64 x) = ents (V.set i (x, V[i].2))
  | e :: V, 0, _, a => rfl
  | e :: V, i + 1, h, a => by
    have := ents_set0 (V := V) (i := i) (by simpa using h) a
    rw [List.set_cons_succ, ents, ents, List.getElem_cons_succ, ← this]
    rw [show (i + 1) * 4 + 0 = (i * 4 + 0) + 1 + 1 + 1 + 1 by omega]
    rfl
theorem ents_set1 : ∀ {V : List En} {i : Nat} (h : i < V.length) (x : Int), (ents V).set (i * 4 + 1) (.int .i64 x) = ents (V.set i (V[i].1, V[i].2.1, V[i].2.2.1, ⟨x, V[i].2.2.2.nums, V[i].2.2.2.texts⟩))
  | e :: V, 0, _, a => rfl
  | e :: V, i + 1, h, a => by
    have := ents_set1 (V := V) (i := i) (by simpa using h) a
    rw [List.set_cons_succ, ents, ents, List.getElem_cons_succ, ← this]
    rw [show (i + 1) * 4 + 1 = (i * 4 + 1) + 1 + 1 + 1 + 1 by omega]
    rfl
theorem cutE_cut (l : List EnV) : cutE (cutE l) = cutE l := by
  unfold cutE
  rw [← List.map_take, List.take_take, Nat.min_self, List.map_map]
  congr 1
  funext e
  unfold cutV cutR
  simp [List.take_take]
/-- Numbers, whichever they are. -/
def WkN (L : Nat) (σ τ : H) (e : En) : Prop := ∃ o cs, OwnS σ τ 1 o e.2.1 e.2.2.2.nums.length (iks .i64 cs) ∧ (∀ id, o = some id → id < L) ∧ e.2.2.2.nums.length ≤ 45
def WkT (σ τ : H) (e : En) : Prop := ∃ o cs, OwnS σ τ 1 o e.2.2.1 e.2.2.2.texts.length (txs cs) ∧ e.2.2.2.texts.length ≤ 45
theorem EnS.wkN {σ τ : H} {e : En} (h : EnS σ τ e) (hs : e.2.2.2.nums.length ≤ 45) : WkN τ.length σ τ e := by
  obtain ⟨⟨o, h1⟩, _⟩ := h
  exact ⟨o, _, h1, fun id e => by subst e; exact h1.lt, hs⟩
theorem EnS.wkT {σ τ : H} {e : En} (h : EnS σ τ e) (hs : e.2.2.2.texts.length ≤ 45) : WkT σ τ e := by
  obtain ⟨_, o, h1⟩ := h
  exact ⟨o, _, h1, hs⟩
theorem WkN.mono {L : Nat} {σ τ τ' : H} {e : En} (h : WkN L σ τ e) (p : τ <+: τ') : WkN L σ τ' e := by
  obtain ⟨o, cs, h1, h2⟩ := h
  exact ⟨o, cs, h1.mono p, h2⟩
theorem WkN.keepR {L : Nat} {σ τ : H} {e : En} {xs ys : List AV} {id : Nat} {md md' : Md} (h : WkN L σ τ e) (hr : τ[id]? = some (AO.cells xs 4 md)) : WkN L σ (τ.set id (.cells ys 4 md')) e := by
  obtain ⟨o, cs, h1, h2⟩ := h
  exact ⟨o, cs, Ytndchfpagiohnaa.keepR h1 hr, h2⟩
theorem WkT.keepR {σ τ : H} {e : En} {xs ys : List AV} {id : Nat} {md md' : Md} (h : WkT σ τ e) (hr : τ[id]? = some (AO.cells xs 4 md)) : WkT σ (τ.set id (.cells ys 4 md')) e := by
  obtain ⟨o, cs, h1, h2⟩ := h
  exact ⟨o, cs, Ytndchfpagiohnaa.keepR h1 hr, h2⟩
theorem WkN.set {L : Nat} {σ τ : H} {e : En} {cs ds : List Int} {id : Nat} (h : WkN L σ τ e) (hr : τ[id]? = some (AO.cells (iks .i64 cs) 1 .own)) (hl : ds.length = cs.length) : WkN L σ (τ.set id (.cells (iks .i64 ds) 1 .own)) e := by
  obtain ⟨o, es, h1, h2⟩ := h
  cases o with
  | none => exact ⟨none, es, h1, h2⟩
  | some j =>
    by_cases hj : j = id
    · subst hj
      obtain ⟨a1, a2, a3, a4⟩ := h1
      rw [hr] at a3
      have e1 : iks .i64 es = iks .i64 cs := by
        have := Option.some.inj a3
        injection this with h _ _
        exact h.symm
      rw [e1, iks_len] at a4
      exact ⟨some j, ds, ⟨a1, a2, get_set hr _, by rw [iks_len]; omega⟩, h2⟩
    · exact ⟨some j, es, h1.keep fun k e => by cases e; exact List.getElem?_set_ne (Ne.symm hj), h2⟩
theorem WkT.set {σ τ : H} {e : En} {cs ds : List (List Nat)} {id : Nat} (h : WkT σ τ e) (hr : τ[id]? = some (AO.cells (txs cs) 1 .own)) (hl : ds.length = cs.length) : WkT σ (τ.set id (.cells (txs ds) 1 .own)) e := by
  obtain ⟨o, es, h1, h2⟩ := h
  cases o with
  | none => exact ⟨none, es, h1, h2⟩
  | some j =>
    by_cases hj : j = id
    · subst hj
      obtain ⟨a1, a2, a3, a4⟩ := h1
      rw [hr] at a3
      have e1 : txs es = txs cs := by
        have := Option.some.inj a3
        injection this with h _ _
        exact h.symm
      rw [e1, txs_len] at a4
      exact ⟨some j, ds, ⟨a1, a2, get_set hr _, by rw [txs_len]; omega⟩, h2⟩
    · exact ⟨some j, es, h1.keep fun k e => by cases e; exact List.getElem?_set_ne (Ne.symm hj), h2⟩
theorem keep1 {σ0 σ : H} {o : Option Nat} {a : SA} {n : Nat} {cs xs ys : List AV} {id : Nat} {md md' : Md} (h : OwnS σ0 σ 4 o a n cs) (hr : σ[id]? = some (AO.cells xs 1 md)) : OwnS σ0 (σ.set id (.cells ys 1 md')) 4 o a n cs :=
  h.keep fun j e => by
    subst e
    refine List.getElem?_set_ne fun e => ?_
    have := h.2.2.1
    rw [← e, hr] at this
    cases this
theorem idxO {σ0 σ : H} {o : Option Nat} {s : SA} {V : List En} {m : Nat} (hs : OwnS σ0 σ 4 o s m (ents V)) {k : IntKind} {y : Int} {i : Nat} {K : AV → Bool} (hy : y = (i : Int)) (hi : i < m)
    (hK : ∀ id, o = some id → σ[id]? = some (AO.cells (ents V) 4 .own) → K (.ptr (some ⟨id, i * 4, 0, 4⟩)) = true) : indexAddrK Try.prog 22 (.sl s m) (.int k y) K = true :=
  idxS Try.underlying22 (fun _ => rfl) hs hy hi hK
theorem idxN {σ0 σ : H} {o : Option Nat} {s : SA} {cs : List Int} {m : Nat} (hs : OwnS σ0 σ 1 o s m (iks .i64 cs)) {k : IntKind} {y : Int} {i : Nat} {K : AV → Bool} (hy : y = (i : Int)) (hi : i < m)
    (hK : ∀ id, o = some id → σ[id]? = some (AO.cells (iks .i64 cs) 1 .own) → K (.ptr (some ⟨id, i * 1, 0, 1⟩)) = true) : indexAddrK Try.prog 34 (.sl s m) (.int k y) K = true :=
  idxS Try.underlying34 (fun _ => rfl) hs hy hi hK
theorem idxT {σ0 σ : H} {o : Option Nat} {s : SA} {cs : List (List Nat)} {m : Nat} (hs : OwnS σ0 σ 1 o s m (txs cs)) {k : IntKind} {y : Int} {i : Nat} {K : AV → Bool} (hy : y = (i : Int)) (hi : i < m)
    (hK : ∀ id, o = some id → σ[id]? = some (AO.cells (txs cs) 1 .own) → K (.ptr (some ⟨id, i * 1, 0, 1⟩)) = true) : indexAddrK Try.prog 35 (.sl s m) (.int k y) K = true :=
  idxS Try.underlying35 (fun _ => rfl) hs hy hi hK
theorem stTerm {V : List En} {i : Nat} (hi : i < V.length) {σ : H} {id : Nat} {x : Int} (hr : σ[id]? = some (AO.cells (ents V) 4 .own)) {K : H → Bool}
    (hK : K (σ.set id (AO.cells (ents (V.set i (x, V[i].2))) 4 .own)) = true) : storeK Try.prog 2 (.ptr (some ⟨id, i * 4, 0, 4⟩)) (.int .i64 x) σ K = true := by
  obtain ⟨ie, hie, g1⟩ : ∃ ie, Try.prog.info? 2 = some ie ∧ ie.size = 1 := ⟨_, rfl, rfl⟩
  refine storeK_of hie g1 (by decide) hr rfl (by rw [ents_len]; omega) ?_
  rw [ents_set0 hi]
  exact hK
theorem stKind {V : List En} {i : Nat} (hi : i < V.length) {σ : H} {id : Nat} {x : Int} (hr : σ[id]? = some (AO.cells (ents V) 4 .own)) {K : H → Bool}
    (hK : K (σ.set id (AO.cells (ents (V.set i (V[i].1, V[i].2.1, V[i].2.2.1, ⟨x, V[i].2.2.2.nums, V[i].2.2.2.texts⟩))) 4 .own)) = true) : storeK Try.prog 3 (.ptr (some ⟨id, i * 4, 1, 4⟩)) (.int .i64 x) σ K = true := by
  obtain ⟨ie, hie, g1⟩ : ∃ ie, Try.prog.info? 3 = some ie ∧ ie.size = 1 := ⟨_, rfl, rfl⟩
  refine storeK_of hie g1 (by decide) hr rfl (by rw [ents_len]; omega) ?_
  rw [ents_set1 hi]
  exact hK
theorem stN {cs : List Int} {k : Nat} (hk : k < cs.length) {σ : H} {id : Nat} {x : Int} (hr : σ[id]? = some (AO.cells (iks .i64 cs) 1 .own)) {K : H → Bool}
    (hK : K (σ.set id (AO.cells (iks .i64 (cs.set k x)) 1 .own)) = true) : storeK Try.prog 2 (.ptr (some ⟨id, k * 1, 0, 1⟩)) (.int .i64 x) σ K = true := by
  obtain ⟨ie, hie, g1⟩ : ∃ ie, Try.prog.info? 2 = some ie ∧ ie.size = 1 := ⟨_, rfl, rfl⟩
  refine storeK_of hie g1 (by decide) hr rfl (by rw [iks_len]; omega) ?_
  have e : (iks .i64 cs).set (k * 1 + 0) (.int .i64 x) = iks .i64 (cs.set k x) := by rw [Nat.mul_one, Nat.add_zero]; simp [iks, List.map_set]
  rw [e]
  exact hK
theorem stT {cs : List (List Nat)} {k : Nat} (hk : k < cs.length) {σ : H} {id : Nat} {t : List Nat} {s : List Int} (hs : s = ints t) (hr : σ[id]? = some (AO.cells (txs cs) 1 .own)) {K : H → Bool}
    (hK : K (σ.set id (AO.cells (txs (cs.set k t)) 1 .own)) = true) : storeK Try.prog 9 (.ptr (some ⟨id, k * 1, 0, 1⟩)) (.str s) σ K = true := by
  subst hs
  obtain ⟨ie, hie, g1⟩ : ∃ ie, Try.prog.info? 9 = some ie ∧ ie.size = 1 := ⟨_, rfl, rfl⟩
  refine storeK_of hie g1 (by decide) hr rfl (by rw [txs_len]; omega) ?_
  have e : (txs cs).set (k * 1 + 0) (.str (ints t)) = txs (cs.set k t) := by rw [Nat.mul_one, Nat.add_zero]; simp [txs, List.map_set]
  rw [e]
  exact hK
/-- Of a heap, all from a place on, and all below a place. -/
def Hi (L : Nat) (σ τ : H) : Prop := τ.length = σ.length ∧ ∀ id, L ≤ id → τ[id]? = σ[id]?
def Lo (L : Nat) (σ τ : H) : Prop := ∀ id, id < L → τ[id]? = σ[id]?
theorem Hi.set {L : Nat} {σ τ : H} (h : Hi L σ τ) {id : Nat} (hid : id < L) (x : AO) : Hi L σ (τ.set id x) := ⟨by rw [List.length_set]; exact h.1, fun j hj => by rw [List.getElem?_set_ne (by omega)]; exact h.2 j hj⟩
theorem Lo.set {L : Nat} {σ τ : H} (h : Lo L σ τ) {id : Nat} (hid : L ≤ id) (x : AO) : Lo L σ (τ.set id x) := fun j hj => by rw [List.getElem?_set_ne (by omega)]; exact h j hj
attribute [local irreducible] IntKind.wrap Int.fdiv Int.tdiv Int.tmod BitVec.ofInt appendK sliceK indexAddrK ldK storeK seenK makeSliceK valsF lookupK updateK mapK
variable {D : Drawer}
theorem lbegun {n : Nat} {σ : H} {K : AV → H → Bool} (hK : K (.bool true) σ = true) : acall Try.prog tab D n 12 [] σ K = true := by
  cases n <;> exact hK
theorem logOwn_run {n : Nat} (hn : 20000 ≤ n) (hD : ByPlan Try.prog D) {s : SA} {l : List En} {σ : H} (hs : Rw σ 4 s l.length (ents l)) (hi : IsEs σ l) :
    acall Try.prog tab D n 4 [.sl s l.length] σ isTrue = true := by
  obtain ⟨n, rfl, hn⟩ := up hn
  conv => lhs; whnf
  refine lbegun ?_
  conv => lhs; whnf
  refine entries_own (by omega) hD hs hi fun o1 w1 W1 σ1 p1 i1 v1 r1 => ?_
  have sm1 : Small (vals W1) := by rw [v1]; exact cutE_small _
  have l1 : W1.length ≤ 12 := by rw [← vals_len, v1]; exact cutE_len _
  conv => lhs; whnf
  refine entries_own (by omega) hD r1.rw i1.es fun o2 w2 W2 σ2 p2 i2 v2 r2 => ?_
  conv => lhs; whnf
  refine new_own (by omega) (by omega) hD (r1.mono p2).rw (i1.mono p2).es (by rw [v1]; exact cutE_small _) fun B W3 o3 w3 σ3 p3 hB i3 v3 b3 r3 => ?_
  have v3' : vals W3 = vals W1 := by rw [v3, List.take_of_length_le (by rw [vals_len]; omega)]
  have v2' : vals W2 = vals W1 := by rw [v2, v1, cutE_cut]
  have p23 := p2.trans p3
  have lp2 := prefix_len p2
  have lp3 := prefix_len p3
  conv => lhs; whnf
  refine loop_rule (m := 6291505) (fun q fr τ => ∃ (z : Int) (i : Nat) (V : List En), z = (i : Int) ∧ i + q = W1.length ∧ V.length = W1.length ∧ OwnS σ τ 4 o1 w1 W1.length (ents V) ∧ (∀ e ∈ V, WkN σ1.length σ τ e) ∧ Hi σ1.length σ3 τ ∧
      fr = [.sl w1 W1.length, .bad, .bad, .bad, .sl w2 W2.length, .ptr (some ⟨B, 0, 0, 1⟩), .bad, .bad, .bad, .bad, .bad, .bad, .bad, .bad, .bad, .bad, .bad, .bad, .bad, .bad, .bad, .int .i64 (W1.length : Int), .int .i64 z, .bad, .bad, .bad, .bad, .bad, .bad, .bad, .bad, .bad, .bad, .bad, .bad, .bad, .bad, .bad, .bad, .bad, .bad, .bad, .bad, .bad, .bad, .bad, .bad, .bad, .bad, .bad, .bad, .bad, .bad, .bad, .bad, .bad, .bad, .bad, .bad, .bad, .bad, .bad, .bad, .bad, .bad, .bad, .bad, .bad, .bad, .bad, .bad, .bad, .bad, .bad, .bad, .bad, .bad, .bad, .bad, .bad, .bad, .bad, .bad, .bad, .bad]) ?_ _ W1.length _ _ (by omega)
      ⟨_, 0, W1, rfl, Nat.zero_add _, rfl, r1.mono p23, fun e he => ((i1 e he).wkN (sm1 _ (List.mem_map.2 ⟨e, he, rfl⟩)).1).mono p23, ⟨rfl, fun _ _ => rfl⟩, rfl⟩
  have ho1 : ∀ id, o1 = some id → id < σ1.length := fun id e => by subst e; exact r1.lt
  rintro q fr τ C ⟨z, i, V, rfl, hq, hV, hO, hN, hH, rfl⟩ next fin
  conv => lhs; whnf
  by_cases hlt : i < W1.length
  case pos =>
    refine bif_pos (by simpa using hlt) ?_
    have hiV : i < V.length := by omega
    conv => lhs; whnf
    refine idxO hO rfl hlt fun id e0 g0 => ?_
    conv => lhs; whnf
    refine stTerm hiV g0 ?_
    have hid := ho1 id e0
    have g1 := get_set g0 (AO.cells (ents (V.set i (99, V[i].2))) 4 .own)
    have hO1 : OwnS σ (τ.set id (AO.cells (ents (V.set i (99, V[i].2))) 4 .own)) 4 o1 w1 W1.length (ents (V.set i (99, V[i].2))) := by
      subst e0
      exact ⟨hO.1, hO.2.1, g1, by rw [ents_len, List.length_set, hV]⟩
    have hN1 : ∀ e ∈ V.set i (99, V[i].2), WkN σ1.length σ (τ.set id (AO.cells (ents (V.set i (99, V[i].2))) 4 .own)) e := fun e he => by
      rcases List.mem_or_eq_of_mem_set he with he | rfl
      · exact (hN e he).keepR g0
      · exact (show WkN σ1.length σ τ (99, V[i].2) from hN V[i] (List.getElem_mem hiV)).keepR g0
    have hH1 := hH.set hid (AO.cells (ents (V.set i (99, V[i].2))) 4 .own)
    have hV1 : (V.set i (99, V[i].2)).length = W1.length := by rw [List.length_set]; exact hV
    have hi1 : i < (V.set i (99, V[i].2)).length := by rw [List.length_set]; exact hiV
    clear hO hN hH g0 g1
    generalize V.set i (99, V[i].2) = V1 at hO1 hN1 hH1 hV1 hi1 ⊢
    generalize τ.set id (AO.cells (ents V1) 4 .own) = τ1 at hO1 hN1 hH1 ⊢
    conv => lhs; whnf
    refine idxO hO1 rfl hlt fun id1 e1 g1 => ?_
    conv => lhs; whnf
    refine ldNums (ents_getAt hi1 g1) ?_
    conv => lhs; whnf
    have hb45 : V1[i].2.2.2.nums.length ≤ 45 := by
      obtain ⟨_, _, _, _, h⟩ := hN1 _ (List.getElem_mem hi1)
      exact h
    refine loop_rule (m := 103085506673) (fun q2 fr τ => ∃ (z : Int) (k : Nat), z = (k : Int) ∧ k + q2 = V1[i].2.2.2.nums.length ∧ OwnS σ τ 4 o1 w1 W1.length (ents V1) ∧ (∀ e ∈ V1, WkN σ1.length σ τ e) ∧ Hi σ1.length σ3 τ ∧
        fr = [.sl w1 W1.length, .bad, .bad, .bad, .sl w2 W2.length, .ptr (some ⟨B, 0, 0, 1⟩), .int .i64 (i : Int), .bad, .bad, .bad, .bad, .bad, .bad, .bad, .bad, .bad, .bad, .bad, .bad, .bad, .bad, .int .i64 (W1.length : Int), .int .i64 (i : Int), .bad, .bad, .bad, .bad, .bad, .bad, .bad, .bad, .bad, .bad, .bad, .bad, .int .i64 (V1[i].2.2.2.nums.length : Int), .int .i64 z, .bad, .bad, .bad, .bad, .bad, .bad, .bad, .bad, .bad, .bad, .bad, .bad, .bad, .bad, .bad, .bad, .bad, .bad, .bad, .bad, .bad, .bad, .bad, .bad, .bad, .bad, .bad, .bad, .bad, .bad, .bad, .bad, .bad, .bad, .bad, .bad, .bad, .bad, .bad, .bad, .bad, .bad, .bad, .bad, .bad, .bad, .bad, .bad]) ?_ _ V1[i].2.2.2.nums.length _ _ (by omega)
        ⟨_, 0, rfl, Nat.zero_add _, hO1, hN1, hH1, rfl⟩
    clear hO1 hN1 hH1 g1 e1
    rintro q2 fr τ2 C2 ⟨z, k, rfl, hq2, hO1, hN1, hH1, rfl⟩ next2 fin2
    conv => lhs; whnf
    by_cases hk : k < V1[i].2.2.2.nums.length
    case pos =>
      refine bif_pos (by simpa using hk) ?_
      conv => lhs; whnf
      refine idxO hO1 rfl hlt fun id1 e1 g1 => ?_
      conv => lhs; whnf
      refine ldNums (ents_getAt hi1 g1) ?_
      obtain ⟨o, cs, hR, hL, _⟩ := hN1 _ (List.getElem_mem hi1)
      have hcl := hR.own.len
      rw [iks_len, Nat.mul_one] at hcl
      conv => lhs; whnf
      refine idxN hR rfl hk fun id2 e2 g2 => ?_
      conv => lhs; whnf
      refine stN (by omega) g2 ?_
      conv => lhs; whnf
      refine next2 (q2 - 1) _ _ (by omega) ⟨_, k + 1, inc_i64 (by omega), by omega, keep1 hO1 g2, fun e he => (hN1 e he).set g2 (by rw [List.length_set]), hH1.set (hL _ e2) _, rfl⟩
    refine bif_neg (by simpa using hk) ?_
    conv => lhs; whnf
    refine fin2 _ _ _ nofun ?_
    conv => lhs; whnf
    exact next (q - 1) _ _ (by omega) ⟨_, i + 1, V1, inc_i64 (by omega), by omega, hV1, hO1, hN1, hH1, rfl⟩
  refine bif_neg (by simpa using hlt) ?_
  conv => lhs; whnf
  refine fin _ _ _ nofun ?_
  clear next fin
  have hL3 : IsLog τ B W3 := by
    have hh : ∀ id x, σ1.length ≤ id → σ3[id]? = some x → τ[id]? = some x := fun id x h1 h2 => (hH.2 id h1).trans h2
    refine ⟨w3, .own, hh _ _ (by omega) b3, (r3.keep (σ' := τ) fun id e => ?_).rw, fun e he => ?_⟩
    · subst e; exact hH.2 id (Nat.le_trans lp2 r3.2.1)
    · obtain ⟨⟨oa, ha⟩, ob, hb⟩ := i3 e he
      exact ⟨(ha.keep (σ' := τ) fun id e => by subst e; exact hH.2 id (Nat.le_trans lp2 ha.2.1)).rw, (hb.keep (σ' := τ) fun id e => by subst e; exact hH.2 id (Nat.le_trans lp2 hb.2.1)).rw⟩
  have hW2r : Rw τ 4 w2 W2.length (ents W2) := ((r2.mono p3).keep (σ' := τ) fun id e => by subst e; exact hH.2 id r2.2.1).rw
  have hW2i : IsEs τ W2 := fun e he => by
    obtain ⟨⟨oa, ha⟩, ob, hb⟩ := i2 e he
    exact ⟨((ha.mono p3).keep (σ' := τ) fun id e => by subst e; exact hH.2 id ha.2.1).rw, ((hb.mono p3).keep (σ' := τ) fun id e => by subst e; exact hH.2 id hb.2.1).rw⟩
  have l3 : W3.length = W1.length := by rw [← vals_len, v3', vals_len]
  have sm : Small (vals W3) := by rw [v3', v1]; exact cutE_small _
  clear hO hN hH r1 r2 r3 b3 i1 i2 i3
  conv => lhs; whnf
  refine from_own (m := 100) (by omega) rfl rfl (by omega) hD hL3 sm fun o4 w4 W4 σ4 p4 i4 v4 r4 => ?_
  have l4 : W4.length = W1.length := by rw [← vals_len, v4, v3', List.take_of_length_le (by rw [vals_len]; omega), vals_len]
  have lp4 := prefix_len p4
  have sm4 : Small (vals W4) := by rw [v4, v3', v1]; exact fun e he => cutE_small _ e (List.mem_of_mem_take he)
  conv => lhs; whnf
  refine loop_rule (m := 13510798882111792) (fun q fr τ' => ∃ (z : Int) (i : Nat) (V : List En), z = (i : Int) ∧ i + q = W4.length ∧ V.length = W4.length ∧ OwnS τ τ' 4 o4 w4 W4.length (ents V) ∧ (∀ e ∈ V, WkT τ τ' e) ∧ Lo τ.length σ4 τ' ∧
      fr = [.bad, .bad, .bad, .bad, .sl w2 W2.length, .ptr (some ⟨B, 0, 0, 1⟩), .bad, .bad, .sl w4 W4.length, .bad, .bad, .bad, .bad, .bad, .bad, .bad, .bad, .bad, .bad, .bad, .bad, .bad, .bad, .bad, .bad, .bad, .bad, .bad, .bad, .bad, .bad, .bad, .bad, .bad, .bad, .bad, .bad, .bad, .bad, .bad, .bad, .bad, .bad, .bad, .bad, .bad, .bad, .bad, .bad, .bad, .bad, .bad, .int .i64 (W4.length : Int), .int .i64 z, .bad, .bad, .bad, .bad, .bad, .bad, .bad, .bad, .bad, .bad, .bad, .bad, .bad, .bad, .bad, .bad, .bad, .bad, .bad, .bad, .bad, .bad, .bad, .bad, .bad, .bad, .bad, .bad, .bad, .bad, .bad]) ?_ _ W4.length _ _ (by omega)
      ⟨_, 0, W4, rfl, Nat.zero_add _, rfl, r4, fun e he => (i4 e he).wkT (sm4 _ (List.mem_map.2 ⟨e, he, rfl⟩)).2, fun _ _ => rfl, rfl⟩
  rintro q fr τ5 C5 ⟨z, i, V, rfl, hq, hV, hO, hN, hH, rfl⟩ next fin
  conv => lhs; whnf
  by_cases hlt : i < W4.length
  case pos =>
    refine bif_pos (by simpa using hlt) ?_
    have hiV : i < V.length := by omega
    conv => lhs; whnf
    refine idxO hO rfl hlt fun id e0 g0 => ?_
    conv => lhs; whnf
    refine stKind hiV g0 ?_
    have hid : τ.length ≤ id := by subst e0; exact hO.2.1
    have g1 := get_set g0 (AO.cells (ents (V.set i (V[i].1, V[i].2.1, V[i].2.2.1, ⟨99, V[i].2.2.2.nums, V[i].2.2.2.texts⟩))) 4 .own)
    have hO1 : OwnS τ (τ5.set id (AO.cells (ents (V.set i (V[i].1, V[i].2.1, V[i].2.2.1, ⟨99, V[i].2.2.2.nums, V[i].2.2.2.texts⟩))) 4 .own)) 4 o4 w4 W4.length (ents (V.set i (V[i].1, V[i].2.1, V[i].2.2.1, ⟨99, V[i].2.2.2.nums, V[i].2.2.2.texts⟩))) := by
      subst e0
      exact ⟨hO.1, hO.2.1, g1, by rw [ents_len, List.length_set, hV]⟩
    have hN1 : ∀ e ∈ V.set i (V[i].1, V[i].2.1, V[i].2.2.1, ⟨99, V[i].2.2.2.nums, V[i].2.2.2.texts⟩), WkT τ (τ5.set id (AO.cells (ents (V.set i (V[i].1, V[i].2.1, V[i].2.2.1, ⟨99, V[i].2.2.2.nums, V[i].2.2.2.texts⟩))) 4 .own)) e := fun e he => by
      rcases List.mem_or_eq_of_mem_set he with he | rfl
      · exact (hN e he).keepR g0
      · exact (show WkT τ τ5 (V[i].1, V[i].2.1, V[i].2.2.1, ⟨99, V[i].2.2.2.nums, V[i].2.2.2.texts⟩) from hN V[i] (List.getElem_mem hiV)).keepR g0
    have hH1 := hH.set hid (AO.cells (ents (V.set i (V[i].1, V[i].2.1, V[i].2.2.1, ⟨99, V[i].2.2.2.nums, V[i].2.2.2.texts⟩))) 4 .own)
    have hV1 : (V.set i (V[i].1, V[i].2.1, V[i].2.2.1, ⟨99, V[i].2.2.2.nums, V[i].2.2.2.texts⟩)).length = W4.length := by rw [List.length_set]; exact hV
    have hi1 : i < (V.set i (V[i].1, V[i].2.1, V[i].2.2.1, ⟨99, V[i].2.2.2.nums, V[i].2.2.2.texts⟩)).length := by rw [List.length_set]; exact hiV
    clear hO hN hH g0 g1
    generalize V.set i (V[i].1, V[i].2.1, V[i].2.2.1, ⟨99, V[i].2.2.2.nums, V[i].2.2.2.texts⟩) = V1 at hO1 hN1 hH1 hV1 hi1 ⊢
    generalize τ5.set id (AO.cells (ents V1) 4 .own) = τ6 at hO1 hN1 hH1 ⊢
    conv => lhs; whnf
    refine idxO hO1 rfl hlt fun id1 e1 g1 => ?_
    conv => lhs; whnf
    refine ldTexts (ents_getAt hi1 g1) ?_
    conv => lhs; whnf
    have hb45 : V1[i].2.2.2.texts.length ≤ 45 := by
      obtain ⟨_, _, _, h⟩ := hN1 _ (List.getElem_mem hi1)
      exact h
    refine loop_rule (m := 442735368567911351088) (fun q2 fr τ' => ∃ (z : Int) (k : Nat), z = (k : Int) ∧ k + q2 = V1[i].2.2.2.texts.length ∧ OwnS τ τ' 4 o4 w4 W4.length (ents V1) ∧ (∀ e ∈ V1, WkT τ τ' e) ∧ Lo τ.length σ4 τ' ∧
        fr = [.bad, .bad, .bad, .bad, .sl w2 W2.length, .ptr (some ⟨B, 0, 0, 1⟩), .bad, .bad, .sl w4 W4.length, .int .i64 (i : Int), .bad, .bad, .bad, .bad, .bad, .bad, .bad, .bad, .bad, .bad, .bad, .bad, .bad, .bad, .bad, .bad, .bad, .bad, .bad, .bad, .bad, .bad, .bad, .bad, .bad, .bad, .bad, .bad, .bad, .bad, .bad, .bad, .bad, .bad, .bad, .bad, .bad, .bad, .bad, .bad, .bad, .bad, .int .i64 (W4.length : Int), .int .i64 (i : Int), .bad, .bad, .bad, .bad, .bad, .bad, .bad, .bad, .bad, .bad, .bad, .bad, .bad, .int .i64 (V1[i].2.2.2.texts.length : Int), .int .i64 z, .bad, .bad, .bad, .bad, .bad, .bad, .bad, .bad, .bad, .bad, .bad, .bad, .bad, .bad, .bad, .bad]) ?_ _ V1[i].2.2.2.texts.length _ _ (by omega)
        ⟨_, 0, rfl, Nat.zero_add _, hO1, hN1, hH1, rfl⟩
    clear hO1 hN1 hH1 g1 e1
    rintro q2 fr τ7 C2 ⟨z, k, rfl, hq2, hO1, hN1, hH1, rfl⟩ next2 fin2
    conv => lhs; whnf
    by_cases hk : k < V1[i].2.2.2.texts.length
    case pos =>
      refine bif_pos (by simpa using hk) ?_
      conv => lhs; whnf
      refine idxO hO1 rfl hlt fun id1 e1 g1 => ?_
      conv => lhs; whnf
      refine ldTexts (ents_getAt hi1 g1) ?_
      obtain ⟨o, cs, hR, _⟩ := hN1 _ (List.getElem_mem hi1)
      have hcl := hR.own.len
      rw [txs_len, Nat.mul_one] at hcl
      conv => lhs; whnf
      refine idxT hR rfl hk fun id2 e2 g2 => ?_
      conv => lhs; whnf
      refine stT (t := [116, 117, 114, 110, 101, 100]) (by omega) rfl g2 ?_
      have hid2 : τ.length ≤ id2 := by subst e2; exact hR.2.1
      conv => lhs; whnf
      refine next2 (q2 - 1) _ _ (by omega) ⟨_, k + 1, inc_i64 (by omega), by omega, keep1 hO1 g2, fun e he => (hN1 e he).set g2 (by rw [List.length_set]), hH1.set hid2 _, rfl⟩
    refine bif_neg (by simpa using hk) ?_
    conv => lhs; whnf
    refine fin2 _ _ _ nofun ?_
    conv => lhs; whnf
    exact next (q - 1) _ _ (by omega) ⟨_, i + 1, V1, inc_i64 (by omega), by omega, hV1, hO1, hN1, hH1, rfl⟩
  refine bif_neg (by simpa using hlt) ?_
  conv => lhs; whnf
  refine fin _ _ _ nofun ?_
  clear next fin
  -- below τ's length the heap is as it was
  have low : τ <+: τ5 ∨ True := .inr trivial
  have hh : ∀ id x, τ[id]? = some x → τ5[id]? = some x := fun id x h => (hH id (get_lt h)).trans (prefix_get p4 h)
  have hk : ∀ (id : Nat) (xs : List AV) (z : Nat) (md : Md), τ[id]? = some (AO.cells xs z md) → ∃ ys md', τ5[id]? = some (AO.cells (xs ++ ys) z md') := fun id xs z md h => ⟨[], md, by rw [List.append_nil]; exact hh _ _ h⟩
  have hL5 : IsLog τ5 B W3 := by
    obtain ⟨a, md, x1, x2, x3⟩ := hL3
    exact ⟨a, md, hh _ _ x1, x2.keep hk, fun e he => ⟨(x3 e he).nums.keep hk, (x3 e he).texts.keep hk⟩⟩
  conv => lhs; whnf
  refine from_own (m := 100) (by omega) rfl rfl (by omega) hD hL5 sm fun o6 w6 W6 σ6 p6 i6 v6 r6 => ?_
  have l6 : W6.length = W1.length := by rw [← vals_len, v6, v3', List.take_of_length_le (by rw [vals_len]; omega), vals_len]
  have v6' : vals W6 = vals W2 := by rw [v6, v3', List.take_of_length_le (by rw [vals_len]; omega), v2']
  conv => lhs; whnf
  refine eqE_spec (by omega) (by omega) hD r6.rw ((hW2r.keep hk).mono p6) i6.es (fun e he => (⟨(hW2i e he).nums.keep hk, (hW2i e he).texts.keep hk⟩ : IsR τ5 _ _ _).mono p6) (by rw [v6', v2', v1]; exact cutE_small _) v6' fun σ7 p7 => ?_
  conv => lhs; whnf
theorem logOwn_law (σ : H) (vs : List AV) (h : ArgsShp Try.prog σ 9 [22] vs) : ∃ n, acall Try.prog tab (drawRegion Try.prog) n 4 vs σ isTrue = true := by
  obtain ⟨a, vs, rfl, ha, h⟩ := args_cons h
  obtain rfl := args_nil h
  obtain ⟨s, l, rfl, a1, a2⟩ := arg_ents ha
  exact ⟨20000, logOwn_run (Nat.le_refl _) (byPlan _) a1 a2⟩
end Go.Proofs.Ytndchfpagiohnaa
