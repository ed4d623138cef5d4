/- Package log: own. -/
import Derived.Test.YthmdecfiijgaoaaGreatL18Ent
namespace Go.Proofs.YthmdecfiijgaoaaGreat
open Go Go.AM Go.AM.St

theorem ents_setN : ∀ {V : List En} {i : Nat} (h : i < V.length) (a : SA), (ents V).set (i * 4 + 2) (.sl a V[i].2.2.2.nums.length) = ents (V.set i (V[i].1, a, V[i].2.2.1, V[i].2.2.2))
  | e :: V, 0, _, a => rfl
  | e :: V, i + 1, h, a => by
    have := ents_setN (V := V) (i := i) (by simpa using h) a
    rw [List.set_cons_succ, ents, ents, List.getElem_cons_succ, ← this]
    rw [show (i + 1) * 4 + 2 = (i * 4 + 2) + 1 + 1 + 1 + 1 by omega]
    rfl
theorem ents_setT : ∀ {V : List En} {i : Nat} (h : i < V.length) (a : SA), (ents V).set (i * 4 + 3) (.sl a V[i].2.2.2.texts.length) = ents (V.set i (V[i].1, V[i].2.1, a, V[i].2.2.2))
  | e :: V, 0, _, a => rfl
  | e :: V, i + 1, h, a => by
    have := ents_setT (V := V) (i := i) (by simpa using h) a
    rw [List.set_cons_succ, ents, ents, List.getElem_cons_succ, ← this]
    rw [show (i + 1) * 4 + 3 = (i * 4 + 3) + 1 + 1 + 1 + 1 by omega]
    rfl
theorem vals_set {V : List En} {i : Nat} (h : i < V.length) (a b : SA) : vals (V.set i (V[i].1, a, b, V[i].2.2.2)) = vals V := by
  unfold vals
  rw [List.map_set]
  have : valE (V[i].1, a, b, V[i].2.2.2) = (V.map valE)[i]'(by rw [List.length_map]; exact h) := by rw [List.getElem_map]
  rw [this, List.set_getElem_self]
def Small (l : List EnV) : Prop := ∀ e ∈ l, e.2.nums.length ≤ 45 ∧ e.2.texts.length ≤ 45
set_option maxRecDepth 100000
theorem idxAt {id n i : Nat} {k : IntKind} {y : Int} {K : AV → Bool} (hy : y = (i : Int)) (hi : i < n) (hK : K (.ptr (some ⟨id, i * 4, 0, 4⟩)) = true) : indexAddrK Tryz.prog 36 (.sl (.at id 0 4) n) (.int k y) K = true := by
  subst hy
  unfold indexAddrK
  rw [Tryz.underlying36]
  simp only
  rw [show ∀ K, esizeK Tryz.prog 27 K = K 4 from fun _ => rfl]
  refine bif_pos (by simp; omega) ?_
  simpa using hK
theorem ents_getAt {l : List En} {i : Nat} (h : i < l.length) {σ : H} {id : Nat} {md : Md} (hr : σ[id]? = some (AO.cells (ents l) 4 md)) : At4 σ id (i * 4) l[i] :=
  ⟨_, md, hr, by rw [ents_len]; omega, ents_at h⟩

theorem Rwset {σ : H} {z n id y : Nat} {a : SA} {cs xs xs' : List AV} {md md' : Md} (h : Rw σ z a n cs) (hr : σ[id]? = some (AO.cells xs y md)) (hz : z ≠ y) : Rw (σ.set id (.cells xs' y md')) z a n cs := by
  rcases h with h | h | ⟨j, off, ys, m, e, h1, h2, h3⟩
  · exact .inl h
  · exact .inr (.inl h)
  · refine .inr (.inr ⟨j, off, ys, m, e, get_set_ne h1 (fun e => ?_) _, h2, h3⟩)
    rw [e, hr] at h1
    cases h1
    exact hz rfl
theorem IsR.set4 {σ : H} {a b : SA} {r : RecP} {id : Nat} {xs ys : List AV} {md md' : Md} (h : IsR σ a b r) (hg : σ[id]? = some (AO.cells xs 4 md)) : IsR (σ.set id (AO.cells ys 4 md')) a b r :=
  ⟨Rwset h.nums hg (by decide), Rwset h.texts hg (by decide)⟩
theorem stNums {V : List En} {i m : Nat} (hi : i < V.length) (hm : m = V[i].2.2.2.nums.length) {σ : H} {id : Nat} {a : SA} (hr : σ[id]? = some (AO.cells (ents V) 4 .own)) {K : H → Bool}
    (hK : K (σ.set id (AO.cells (ents (V.set i (V[i].1, a, V[i].2.2.1, V[i].2.2.2))) 4 .own)) = true) : storeK Tryz.prog 22 (.ptr (some ⟨id, i * 4, 2, 4⟩)) (.sl a m) σ K = true := by
  subst hm
  obtain ⟨ie, hie, g1⟩ : ∃ ie, Tryz.prog.info? 22 = some ie ∧ ie.size = 1 := ⟨_, rfl, rfl⟩
  refine storeK_of hie g1 (by decide) hr rfl (by rw [ents_len]; omega) ?_
  rw [ents_setN hi]
  exact hK
theorem stTexts {V : List En} {i m : Nat} (hi : i < V.length) (hm : m = V[i].2.2.2.texts.length) {σ : H} {id : Nat} {a : SA} (hr : σ[id]? = some (AO.cells (ents V) 4 .own)) {K : H → Bool}
    (hK : K (σ.set id (AO.cells (ents (V.set i (V[i].1, V[i].2.1, a, V[i].2.2.2))) 4 .own)) = true) : storeK Tryz.prog 23 (.ptr (some ⟨id, i * 4, 3, 4⟩)) (.sl a m) σ K = true := by
  subst hm
  obtain ⟨ie, hie, g1⟩ : ∃ ie, Tryz.prog.info? 23 = some ie ∧ ie.size = 1 := ⟨_, rfl, rfl⟩
  refine storeK_of hie g1 (by decide) hr rfl (by rw [ents_len]; omega) ?_
  rw [ents_setT hi]
  exact hK

attribute [local irreducible] IntKind.wrap Int.fdiv Int.tdiv Int.tmod BitVec.ofInt appendK sliceK indexAddrK ldK storeK seenK makeSliceK valsF lookupK updateK mapK
variable {D : Drawer}

theorem clone39_any {n m : Nat} (hn : 1 ≤ n) (hm : m ≤ 1000000000) {s : SA} {cs : List AV} {σ : H} (hs : Rw σ 1 s m cs) {K : AV → H → Bool}
    (hK : ∀ o a σ', σ <+: σ' → Own σ σ' 1 o a m cs → K (.sl a m) σ' = true) : acall Tryz.prog tab D n 53 [.sl s m] σ K = true := by
  have hl := hs.len
  refine clone39_spec hn hm hs (fun h0 a ha => ?_) (fun _ => hK (some σ.length) _ _ (List.prefix_append _ _) (Own.new (List.prefix_refl _) _ _ (by decide) hl.symm))
  subst h0
  have hc : cs = [] := List.length_eq_zero_iff.1 (by rw [hl, Nat.zero_mul])
  subst hc
  rcases ha with rfl | rfl
  · exact hK none _ _ (List.prefix_refl _) (Own.nil _ _ _)
  · exact hK none _ _ (List.prefix_refl _) (Own.zero _ _ _)
theorem clone40_any {n m : Nat} (hn : 1 ≤ n) (hm : m ≤ 1000000000) {s : SA} {cs : List AV} {σ : H} (hs : Rw σ 1 s m cs) {K : AV → H → Bool}
    (hK : ∀ o a σ', σ <+: σ' → Own σ σ' 1 o a m cs → K (.sl a m) σ' = true) : acall Tryz.prog tab D n 54 [.sl s m] σ K = true := by
  have hl := hs.len
  refine clone40_spec hn hm hs (fun h0 a ha => ?_) (fun _ => hK (some σ.length) _ _ (List.prefix_append _ _) (Own.new (List.prefix_refl _) _ _ (by decide) hl.symm))
  subst h0
  have hc : cs = [] := List.length_eq_zero_iff.1 (by rw [hl, Nat.zero_mul])
  subst hc
  rcases ha with rfl | rfl
  · exact hK none _ _ (List.prefix_refl _) (Own.nil _ _ _)
  · exact hK none _ _ (List.prefix_refl _) (Own.zero _ _ _)

theorem own_spec {n : Nat} {s : SA} {l : List En} (hn : l.length + 10 ≤ n) (hl : l.length ≤ 10000) (hD : ByPlan Tryz.prog D) {σ : H} (hs : Rw σ 4 s l.length (ents l)) (hi : IsEs σ l) (hsm : Small (vals l)) {K : AV → H → Bool}
    (hK : ∀ o w W σ', σ <+: σ' → IsEs σ' W → vals W = vals l → Own σ σ' 4 o w W.length (ents W) → K (.sl w W.length) σ' = true) :
    acall Tryz.prog tab D n 96 [.sl s l.length] σ K = true := by
  obtain ⟨n, rfl, hn⟩ := up hn
  conv => lhs; whnf
  refine clone34_spec (by omega) hl hs (fun h0 a ha => ?_) (fun hpos => ?_)
  · have e : l = [] := List.length_eq_zero_iff.1 h0
    subst e
    have hK' := fun o w => hK o w [] σ (List.prefix_refl _) (IsEs.nil _) rfl
    conv => lhs; whnf
    refine loop_rule (m := 385) (fun q fr τ => τ = σ ∧ fr = [.sl a 0, .bad, .bad, .bad, .bad, .bad, .bad, .int .i64 0, .int .i64 0, .bad, .bad, .bad, .bad, .bad, .bad, .bad, .bad, .bad, .bad, .bad, .bad, .bad, .bad, .bad, .bad, .bad, .bad, .bad, .bad, .bad, .bad, .bad, .bad, .bad, .bad, .bad, .bad]) ?_ _ 1 _ _ (by omega) ⟨rfl, rfl⟩
    rintro q fr τ C ⟨rfl, rfl⟩ next fin
    conv => lhs; whnf
    refine fin _ _ _ nofun ?_
    conv => lhs; whnf
    rcases ha with rfl | rfl
    · exact hK' none _ (Own.nil _ _ _)
    · exact hK' none _ (Own.zero _ _ _)
  · conv => lhs; whnf
    refine loop_rule (m := 385) (fun q fr τ => ∃ (z : Int) (i : Nat) (V : List En), z = (i : Int) ∧ i + q = l.length ∧ V.length = l.length ∧ σ <+: τ ∧ τ[σ.length]? = some (AO.cells (ents V) 4 .own) ∧ IsEs τ V ∧ vals V = vals l ∧
        fr = [.sl (.at σ.length 0 4) l.length, .bad, .bad, .bad, .bad, .bad, .bad, .int .i64 (l.length : Int), .int .i64 z, .bad, .bad, .bad, .bad, .bad, .bad, .bad, .bad, .bad, .bad, .bad, .bad, .bad, .bad, .bad, .bad, .bad, .bad, .bad, .bad, .bad, .bad, .bad, .bad, .bad, .bad, .bad, .bad]) ?_ _ l.length _ _ (by omega)
        ⟨_, 0, l, rfl, by omega, rfl, List.prefix_append _ _, get_new _ _, hi.mono (List.prefix_append _ _), rfl, rfl⟩
    rintro q fr τ C ⟨z, i, V, rfl, hq, hV, hp, hr, hI, hv, rfl⟩ next fin
    conv => lhs; whnf
    by_cases hlt : i < l.length
    · refine bif_pos (by simpa using hlt) ?_
      have hiV : i < V.length := by omega
      conv => lhs; whnf
      refine hD.go plan96x5 ord96x5 ?_
      conv => lhs; whnf
      refine idxAt rfl hlt ?_
      conv => lhs; whnf
      refine ldNums (ents_getAt hiV hr) ?_
      conv => lhs; whnf
      refine idxAt rfl hlt ?_
      conv => lhs; whnf
      refine ldTexts (ents_getAt hiV hr) ?_
      have hie := hI _ (List.getElem_mem hiV)
      have hsi : V[i].2.2.2.nums.length ≤ 45 ∧ V[i].2.2.2.texts.length ≤ 45 := hsm _ (by rw [← hv]; exact List.mem_map.2 ⟨_, List.getElem_mem hiV, rfl⟩)
      have hR : σ.length < τ.length := get_lt hr
      conv => lhs; whnf
      refine clone39_any (by omega) (by omega) hie.nums fun o1 a1 τ1 p1 r1 => ?_
      conv => lhs; whnf
      refine and_true (all_cons ?_ (all_skip rfl rfl)) ?_
      · conv => lhs; whnf
        refine ldTexts (ents_getAt hiV (prefix_get p1 hr)) ?_
        exact same_sl _ _
      conv => lhs; whnf
      refine clone40_any (by omega) (by omega) (hie.texts.mono p1) fun o2 a2 τ2 p2 r2 => ?_
      have hr2 := prefix_get p2 (prefix_get p1 hr)
      have hp2 := List.IsPrefix.trans hp (List.IsPrefix.trans p1 p2)
      conv => lhs; whnf
      refine idxAt rfl hlt ?_
      conv => lhs; whnf
      refine stNums hiV rfl hr2 ?_
      have hr3 := get_set hr2 (AO.cells (ents (V.set i (V[i].1, a1, V[i].2.2.1, V[i].2.2.2))) 4 .own)
      have hp3 := prefix_set hp2 (Nat.le_refl _) (AO.cells (ents (V.set i (V[i].1, a1, V[i].2.2.1, V[i].2.2.2))) 4 .own)
      have hv3 := vals_set hiV a1 V[i].2.2.1
      have hI3 : IsEs (τ2.set σ.length (AO.cells (ents (V.set i (V[i].1, a1, V[i].2.2.1, V[i].2.2.2))) 4 .own)) (V.set i (V[i].1, a1, V[i].2.2.1, V[i].2.2.2)) := fun x hx => by
        rcases List.mem_or_eq_of_mem_set hx with hx | rfl
        · exact ((hI x hx).mono (List.IsPrefix.trans p1 p2)).set4 hr2
        · exact IsR.set4 ⟨r1.rw.mono p2, hie.texts.mono (List.IsPrefix.trans p1 p2)⟩ hr2
      have hN3 : Rw (τ2.set σ.length (AO.cells (ents (V.set i (V[i].1, a1, V[i].2.2.1, V[i].2.2.2))) 4 .own)) 1 a2 V[i].2.2.2.texts.length _ := Rwset r2.rw hr2 (by decide)
      have hN1 : Rw (τ2.set σ.length (AO.cells (ents (V.set i (V[i].1, a1, V[i].2.2.1, V[i].2.2.2))) 4 .own)) 1 a1 V[i].2.2.2.nums.length _ := Rwset (r1.rw.mono p2) hr2 (by decide)
      have hl3 : i < (V.set i (V[i].1, a1, V[i].2.2.1, V[i].2.2.2)).length := by rw [List.length_set]; exact hiV
      have hg3 : (V.set i (V[i].1, a1, V[i].2.2.1, V[i].2.2.2))[i] = (V[i].1, a1, V[i].2.2.1, V[i].2.2.2) := List.getElem_set_self _
      have hV3 : (V.set i (V[i].1, a1, V[i].2.2.1, V[i].2.2.2)).length = V.length := List.length_set
      conv => lhs; whnf
      generalize V.set i (V[i].1, a1, V[i].2.2.1, V[i].2.2.2) = V1 at hr3 hp3 hv3 hI3 hN3 hN1 hl3 hg3 hV3 ⊢
      refine idxAt rfl hlt ?_
      conv => lhs; whnf
      refine stTexts hl3 (by rw [hg3]) hr3 ?_
      have hr4 := get_set hr3 (AO.cells (ents (V1.set i (V1[i].1, V1[i].2.1, a2, V1[i].2.2.2))) 4 .own)
      have hp4 := prefix_set hp3 (Nat.le_refl _) (AO.cells (ents (V1.set i (V1[i].1, V1[i].2.1, a2, V1[i].2.2.2))) 4 .own)
      have hv4 := vals_set hl3 V1[i].2.1 a2
      have hI4 : IsEs _ (V1.set i (V1[i].1, V1[i].2.1, a2, V1[i].2.2.2)) := fun x hx => by
        rcases List.mem_or_eq_of_mem_set hx with hx | rfl
        · exact (hI3 x hx).set4 (ys := ents (V1.set i (V1[i].1, V1[i].2.1, a2, V1[i].2.2.2))) (md' := .own) hr3
        · have e1 : V1[i].2.1 = a1 := by rw [hg3]
          have e2 : V1[i].2.2.2 = V[i].2.2.2 := by rw [hg3]
          show IsR _ V1[i].2.1 a2 V1[i].2.2.2
          rw [e1, e2]
          exact IsR.set4 ⟨hN1, hN3⟩ hr3
      conv => lhs; whnf
      exact next (q - 1) _ _ (by omega) ⟨_, i + 1, _, inc_i64 (by omega), by omega, by rw [List.length_set]; omega, hp4, hr4, hI4, by rw [hv4, hv3, hv], rfl⟩
    · refine bif_neg (by simpa using hlt) ?_
      conv => lhs; whnf
      refine fin _ _ _ nofun ?_
      conv => lhs; whnf
      have h := hK (some σ.length) (.at σ.length 0 4) V τ hp hI hv ⟨0, _, _, rfl, Nat.le_refl _, hr, by decide, by rw [ents_len, Nat.zero_add], rfl, rfl⟩
      rw [hV] at h
      exact h
end Go.Proofs.YthmdecfiijgaoaaGreat
