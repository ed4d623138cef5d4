/- Package log: Put. -/
import Derived.Test.YthmdecfiijgaoaaGreatL18From
set_option maxRecDepth 100000
namespace Go.Proofs.YthmdecfiijgaoaaGreat
open Go Go.AM Go.AM.St

/-- What is read stays as it is. -/
def Keeps (σ σ' : H) : Prop := (∀ s m l, Rw σ 4 s m (ents l) → Rw σ' 4 s m (ents l)) ∧ ∀ a b r, IsR σ a b r → IsR σ' a b r
theorem Keeps.of {σ σ' : H} (h : σ <+: σ') : Keeps σ σ' := ⟨fun _ _ _ h1 => h1.mono h, fun _ _ _ h1 => h1.mono h⟩
theorem Keeps.trans {a b c : H} (h : Keeps a b) (k : Keeps b c) : Keeps a c := ⟨fun _ _ _ h1 => k.1 _ _ _ (h.1 _ _ _ h1), fun _ _ _ h1 => k.2 _ _ _ (h.2 _ _ _ h1)⟩
theorem Keeps.es {σ σ' : H} (h : Keeps σ σ') {l : List En} (hi : IsEs σ l) : IsEs σ' l := fun e he => h.2 _ _ _ (hi e he)
theorem Rw.setL {σ : H} {z m B k k' : Nat} {s a a' : SA} {cs : List AV} {md md' : Md} (h : Rw σ z s m cs) (hr : σ[B]? = some (AO.cells [.sl a k] 1 md)) (hc : ∀ x ∈ cs, ∀ b q, x ≠ .sl b q) : Rw (σ.set B (.cells [.sl a' k'] 1 md')) z s m cs := by
  rcases h with h | h | ⟨j, off, ys, w, e, h1, h2, h3⟩
  · exact .inl h
  · exact .inr (.inl h)
  · by_cases hj : j = B
    · subst hj
      rw [hr] at h1
      cases h1
      refine .inr (.inr ⟨j, off, _, md', e, get_set hr _, h2, ?_⟩)
      rw [← h3]
      by_cases h0 : m = 0
      · subst h0; simp
      · exfalso
        simp only [List.length_cons, List.length_nil] at h2
        obtain rfl : off = 0 := by omega
        obtain rfl : m = 1 := by omega
        refine hc (.sl a k) ?_ a k rfl
        rw [← h3]; simp
    · exact .inr (.inr ⟨j, off, ys, w, e, get_set_ne h1 hj _, h2, h3⟩)
theorem Keeps.setL {σ : H} {B k k' : Nat} {a a' : SA} {md md' : Md} (hr : σ[B]? = some (AO.cells [.sl a k] 1 md)) : Keeps σ (σ.set B (.cells [.sl a' k'] 1 md')) := by
  refine ⟨fun _ _ _ h => Rwset h hr (by decide), fun _ _ _ h => ⟨Rw.setL h.nums hr fun x hx b q e => ?_, Rw.setL h.texts hr fun x hx b q e => ?_⟩⟩
  · obtain ⟨y, _, rfl⟩ := List.mem_map.1 hx
    cases e
  · obtain ⟨y, _, rfl⟩ := List.mem_map.1 hx
    cases e

theorem Own.keepL {σ0 σ : H} {z m B k k' : Nat} {o : Option Nat} {s a a' : SA} {cs : List AV} {md md' : Md} (h : Own σ0 σ z o s m cs) (hr : σ[B]? = some (AO.cells [.sl a k] 1 md)) (hz : z ≠ 1) : Own σ0 (σ.set B (.cells [.sl a' k'] 1 md')) z o s m cs := by
  refine h.keep (keep_set σ B _) ?_
  cases o with
  | none => exact .inl rfl
  | some id =>
    refine .inr fun e => ?_
    cases e
    obtain ⟨off, xs, w, _, _, h3, _⟩ := h
    rw [hr] at h3
    cases h3
    exact hz rfl
/-- An entry that is there already, as its term tells. -/
def on (l es : List EnV) (p i : Nat) : Prop := p + i + 1 ≤ l.length ∧ termN l (p + i + 1) = termN es (i + 1)
theorem storeNew {τ : H} {e : En} {x y z u : AV} {K : H → Bool} (hK : K (τ ++ [AO.cells (enCells e) 4 .own]) = true) :
    storeK Tryz.prog 27 (.ptr (some ⟨τ.length, 0, 0, 4⟩)) (.agg (enCells e)) (τ ++ [AO.cells [x, y, z, u] 4 .own]) K = true := by
  refine storeS rfl (get_new _ _) rfl rfl (Nat.le_refl 4) rfl ?_
  rw [show (τ ++ [AO.cells [x, y, z, u] 4 .own]).set τ.length (.cells (AV.agg (enCells e)).cells 4 .own) = τ ++ [AO.cells (enCells e) 4 .own] by simp [AV.cells]]
  exact hK
theorem At4.new {τ : H} (e : En) (md : Md) : At4 (τ ++ [AO.cells (enCells e) 4 md]) τ.length 0 e := ⟨_, md, get_new _ _, Nat.le_refl _, rfl⟩
theorem storeL {σ : H} {B k m : Nat} {a a' : SA} {K : H → Bool} (hr : σ[B]? = some (AO.cells [.sl a k] 1 .own)) (hK : K (σ.set B (AO.cells [.sl a' m] 1 .own)) = true) : storeK Tryz.prog 36 (.ptr (some ⟨B, 0, 0, 1⟩)) (.sl a' m) σ K = true := by
  obtain ⟨ie, hie, g1⟩ : ∃ ie, Tryz.prog.info? 36 = some ie ∧ ie.size = 1 := ⟨_, rfl, rfl⟩
  exact storeK_of hie g1 (by decide) hr rfl (by simp) hK
attribute [local irreducible] IntKind.wrap Int.fdiv Int.tdiv Int.tmod BitVec.ofInt appendK sliceK indexAddrK ldK storeK seenK makeSliceK valsF lookupK updateK mapK
variable {D : Drawer}

theorem clone34_any {n m : Nat} (hn : 1 ≤ n) (hm : m ≤ 10000) {s : SA} {cs : List AV} {σ : H} (hs : Rw σ 4 s m cs) {K : AV → H → Bool}
    (hK : ∀ o a σ', σ <+: σ' → Own σ σ' 4 o a m cs → K (.sl a m) σ' = true) : acall Tryz.prog tab D n 120 [.sl s m] σ K = true := by
  have hl := hs.len
  refine clone34_spec hn hm hs (fun h0 a ha => ?_) (fun _ => hK (some σ.length) _ _ (List.prefix_append _ _) (Own.new (List.prefix_refl _) _ _ (by decide) hl.symm))
  subst h0
  have hc : cs = [] := List.length_eq_zero_iff.1 (by rw [hl, Nat.zero_mul])
  subst hc
  rcases ha with rfl | rfl
  · exact hK none _ _ (List.prefix_refl _) (Own.nil _ _ _)
  · exact hK none _ _ (List.prefix_refl _) (Own.zero _ _ _)

/-- Put at a place that is there, with that place's term. -/
theorem lput_spec {n B p : Nat} {y t : Int} {s : SA} {V L : List En} (hn : 2100 ≤ n) (hy : y = (p : Int)) (hp : p ≤ V.length) (ht : t = termN (vals V) p) (hV : V.length ≤ 2500) (hl : L.length ≤ 2001) (hD : ByPlan Tryz.prog D) {σ : H}
    {a0 : SA} (hB : σ[B]? = some (AO.cells [.sl a0 V.length] 1 .own)) (hVr : Rw σ 4 a0 V.length (ents V)) (hVi : IsEs σ V) (hs : Rw σ 4 s L.length (ents L)) (hi : IsEs σ L) (hsm : Small (vals L)) {K : AV → H → Bool}
    (hK0 : ∀ σ', σ <+: σ' → (∀ i, i < L.length → on (vals V) (vals L) p i) → K (.tup [.int .i64 0, .int .i64 ((p + L.length : Nat) : Int), .bool true]) σ' = true)
    (hKf : ∀ σ', σ <+: σ' → ∀ i, i < L.length → (∀ j, j < i → on (vals V) (vals L) p j) → ¬ on (vals V) (vals L) p i → 2000 < p + L.length → K (.tup [.int .i64 0, .int .i64 0, .bool false]) σ' = true)
    (hK1 : ∀ σ' i V' a', i < L.length → (∀ j, j < i → on (vals V) (vals L) p j) → ¬ on (vals V) (vals L) p i → p + L.length ≤ 2000 → Keeps σ σ' → σ'[B]? = some (AO.cells [.sl a' V'.length] 1 .own) → (∃ o, Own [] σ' 4 o a' V'.length (ents V')) → IsEs σ' V' →
      vals V' = (vals V).take (p + i) ++ (vals L).drop i → K (.tup [.int .i64 ((p + i + 1 : Nat) : Int), .int .i64 ((p + L.length : Nat) : Int), .bool true]) σ' = true) :
    acall Tryz.prog tab D n 98 [.ptr (some ⟨B, 0, 0, 1⟩), .int .i64 y, .int .i64 t, .sl s L.length] σ K = true := by
  obtain ⟨n, rfl, hn⟩ := up hn
  subst hy ht
  have hL : IsLog σ B V := ⟨a0, .own, hB, hVr, hVi⟩
  conv => lhs; whnf
  refine len_spec (by omega) hL ?_
  conv => lhs; whnf
  refine bif_neg (by simp; omega) ?_
  conv => lhs; whnf
  refine term_spec (by omega) rfl hp (by omega) hL ?_
  conv => lhs; whnf
  refine bif_neg (by simp) ?_
  conv => lhs; whnf
  refine loop_rule (m := 120259086347) (fun q fr τ => ∃ (z : Int) (i : Nat), z = (i : Int) ∧ i + q = L.length ∧ σ <+: τ ∧ (∀ j, j < i → on (vals V) (vals L) p j) ∧
      fr = [.ptr (some ⟨B, 0, 0, 1⟩), .int .i64 (p : Int), .bad, .sl s L.length, .bad, .bad, .bad, .bad, .bad, .bad, .bad, .int .i64 0, .bad, .bad, .bad, .bad, .bad, .bad, .bad, .bad, .bad, .bad, .bad, .bad, .bad, .bad, .bad, .bad, .bad, .bad, .bad, .bad, .bad, .bad, .sl s L.length, .int .i64 (L.length : Int), .int .i64 z, .bad, .bad, .bad, .bad, .bad, .bad, .bad, .bad, .bad, .bad, .bad, .bad, .bad, .bad, .bad, .bad, .bad, .bad, .bad, .bad, .bad, .bad, .bad, .bad, .bad, .bad, .bad, .bad, .bad, .bad, .bad, .bad, .bad, .bad, .bad, .bad, .bad, .bad, .bad, .bad, .bad, .bad, .bad, .bad, .bad, .bad, .bad, .bad]) ?_ _ L.length _ _ (by omega)
      ⟨_, 0, rfl, Nat.zero_add _, List.prefix_refl _, fun j hj => absurd hj (Nat.not_lt_zero _), rfl⟩
  rintro q fr τ C ⟨z, i, rfl, hq, hpre, hon, rfl⟩ next fin
  conv => lhs; whnf
  by_cases hlt : i < L.length
  case neg =>
    refine bif_neg (by simpa using hlt) ?_
    conv => lhs; whnf
    refine fin _ _ _ nofun ?_
    conv => lhs; whnf
    have h := hK0 τ hpre fun j hj => hon j (by omega)
    rw [wrap_i64 (by omega) (by omega)]
    exact h
  refine bif_pos (by simpa using hlt) ?_
  conv => lhs; whnf
  refine idx22 (hs.mono hpre) rfl rfl hlt fun id b h4 => ?_
  conv => lhs; whnf
  refine ldEnt h4 ?_
  conv => lhs; whnf
  refine storeNew ?_
  have p1 := prefix_add hpre (AO.cells (enCells L[i]) 4 .own)
  have h5 := At4.new (τ := τ) L[i] .own
  have hti : termN (vals L) (i + 1) = L[i].1 := by rw [termN, vals_at hlt]; rfl
  generalize hτ1 : τ ++ [AO.cells (enCells L[i]) 4 .own] = τ1 at p1 h5 ⊢
  conv => lhs; whnf
  refine hD.go plan98x8 ord98x8 ?_
  conv => lhs; whnf
  refine len_spec (by omega) (hL.mono p1) ?_
  have hpi : p + i ≤ V.length := by
    cases i with
    | zero => exact hp
    | succ j => have := (hon j (Nat.lt_succ_self j)).1; rw [vals_len] at this; omega
  have hat : IntKind.i64.wrap (IntKind.i64.wrap ((p : Int) + 1) + (i : Int)) = ((p + i + 1 : Nat) : Int) := by rw [wrap_i64 (x := (p : Int) + 1) (by omega) (by omega), wrap_i64 (by omega) (by omega)]; omega
  conv => lhs; whnf
  rw [hat]
  by_cases hle : p + i + 1 ≤ V.length
  · refine bif_pos (decide_eq_true (by omega)) ?_
    conv => lhs; whnf
    refine ldTerm h5 ?_
    conv => lhs; whnf
    refine term_spec (by omega) rfl hle (by omega) (hL.mono p1) ?_
    conv => lhs; whnf
    refine and_true (all_cons ?_ rfl) ?_
    · conv => lhs; whnf
      refine ldTerm h5 ?_
      exact same_int _ _
    conv => lhs; whnf
    by_cases hte : termN (vals V) (p + i + 1) = termN (vals L) (i + 1)
    · refine bif_pos (by rw [hte, hti]; simp) ?_
      conv => lhs; whnf
      exact next (q - 1) _ _ (by omega) ⟨_, i + 1, inc_i64 (by omega), by omega, p1, fun j hj => by
        by_cases hji : j = i
        · subst hji; exact ⟨by rw [vals_len]; exact hle, hte⟩
        · exact hon j (by omega), rfl⟩
    · have hoff : ¬ on (vals V) (vals L) p i := fun h => hte h.2
      refine bif_neg (by rw [hti] at hte; simpa using hte) ?_
      conv => lhs; whnf
      refine bif_case (fun h => ?_) (fun h => ?_)
      · conv => lhs; whnf
        have h2 : 2000 < p + L.length := by rw [wrap_i64 (by omega) (by omega)] at h; simp at h; omega
        refine fin _ _ _ nofun ?_
        conv => lhs; whnf
        exact hKf _ p1 i hlt hon hoff h2
      · have h2 : p + L.length ≤ 2000 := by rw [wrap_i64 (by omega) (by omega)] at h; simp at h; omega
        conv => lhs; whnf
        refine hD.go plan98x11 ord98x11 ?_
        conv => lhs; whnf
        refine ldL (prefix_get p1 hB) ?_
        conv => lhs; whnf
        refine slice22 (hVr.mono p1) 0 (p + i) (.inl ⟨rfl, rfl⟩) (.inr ⟨_, _, rfl, ?_⟩) (Nat.zero_le _) (by omega) fun a2 r2 => ?_
        · rw [wrap_i64 (by omega) (by omega)]; omega
        rw [List.drop_zero] at r2 ⊢
        conv => lhs; whnf
        refine slice22 (hs.mono p1) i L.length (.inr ⟨_, _, rfl, rfl⟩) (.inl ⟨rfl, rfl⟩) (by omega) (Nat.le_refl _) fun a3 r3 => ?_
        rw [List.take_length] at r3 ⊢
        conv => lhs; whnf
        have lt2 : (V.take (p + i)).length ≤ 2500 := by rw [List.length_take]; omega
        have lt3 : (L.drop i).length ≤ 2000 := by rw [List.length_drop]; omega
        refine clone34_any (by omega) (by omega) r2 fun o4 a4 τ4 p4 w4 => ?_
        conv => lhs; whnf
        refine own_spec (by omega) (by omega) hD (r3.mono p4) ((hi.drop i).mono (List.IsPrefix.trans p1 p4)) (by rw [vals_drop]; exact hsm.drop _) fun o5 a5 W5 τ5 p5 i5 v5 w5 => ?_
        have lt5 : W5.length ≤ 2000 := by rw [← vals_len, v5, vals_len]; exact lt3
        conv => lhs; whnf
        refine appendK_ext Tryz.underlying36 rfl rfl rfl (List.IsPrefix.trans p4 p5) (w4.mono p5) w5.rw (N := (V.take (p + i) ++ W5).length) (zs := ents (V.take (p + i) ++ W5)) List.length_append.symm (ents_app _ _) ?_ fun o6 a6 τ6 p6 k6 _ _ x6 w6 => ?_
        · show _ * 64 ≤ _
          rw [List.length_append]; omega
        have p06 := List.IsPrefix.trans p1 p6
        have g6 := prefix_get p06 hB
        have i6 : IsEs τ6 (V.take (p + i) ++ W5) := fun x hx => by
          rcases List.mem_append.1 hx with hx | hx
          · exact ((hVi.take _).mono p06) x hx
          · exact (i5.ext x6) x hx
        have v6 : vals (V.take (p + i) ++ W5) = (vals V).take (p + i) ++ (vals L).drop i := by
          rw [show vals (V.take (p + i) ++ W5) = vals (V.take (p + i)) ++ vals W5 from List.map_append, v5, vals_take, vals_drop]
        conv => lhs; whnf
        refine storeL g6 ?_
        have hfin := hK1 _ i _ a6 hlt hon hoff h2 ((Keeps.of p06).trans (Keeps.setL g6)) (get_set g6 _) ⟨o6, Own.keepL (w6.since List.nil_prefix) g6 (by decide)⟩ ((Keeps.setL g6).es i6) v6
        generalize τ6.set B (AO.cells [AV.sl a6 (V.take (p + i) ++ W5).length] 1 .own) = τ7 at hfin ⊢
        conv => lhs; whnf
        refine fin _ _ _ nofun ?_
        conv => lhs; whnf
        rw [wrap_i64 (x := (p : Int) + (L.length : Int)) (by omega) (by omega)]
        exact hfin
  · have hoff : ¬ on (vals V) (vals L) p i := fun h => hle (by have := h.1; rwa [vals_len] at this)
    refine bif_neg (decide_eq_false (by omega)) ?_
    · conv => lhs; whnf
      refine bif_case (fun h => ?_) (fun h => ?_)
      · conv => lhs; whnf
        have h2 : 2000 < p + L.length := by rw [wrap_i64 (by omega) (by omega)] at h; simp at h; omega
        refine fin _ _ _ nofun ?_
        conv => lhs; whnf
        exact hKf _ p1 i hlt hon hoff h2
      · have h2 : p + L.length ≤ 2000 := by rw [wrap_i64 (by omega) (by omega)] at h; simp at h; omega
        conv => lhs; whnf
        refine hD.go plan98x11 ord98x11 ?_
        conv => lhs; whnf
        refine ldL (prefix_get p1 hB) ?_
        conv => lhs; whnf
        refine slice22 (hVr.mono p1) 0 (p + i) (.inl ⟨rfl, rfl⟩) (.inr ⟨_, _, rfl, ?_⟩) (Nat.zero_le _) (by omega) fun a2 r2 => ?_
        · rw [wrap_i64 (by omega) (by omega)]; omega
        rw [List.drop_zero] at r2 ⊢
        conv => lhs; whnf
        refine slice22 (hs.mono p1) i L.length (.inr ⟨_, _, rfl, rfl⟩) (.inl ⟨rfl, rfl⟩) (by omega) (Nat.le_refl _) fun a3 r3 => ?_
        rw [List.take_length] at r3 ⊢
        conv => lhs; whnf
        have lt2 : (V.take (p + i)).length ≤ 2500 := by rw [List.length_take]; omega
        have lt3 : (L.drop i).length ≤ 2000 := by rw [List.length_drop]; omega
        refine clone34_any (by omega) (by omega) r2 fun o4 a4 τ4 p4 w4 => ?_
        conv => lhs; whnf
        refine own_spec (by omega) (by omega) hD (r3.mono p4) ((hi.drop i).mono (List.IsPrefix.trans p1 p4)) (by rw [vals_drop]; exact hsm.drop _) fun o5 a5 W5 τ5 p5 i5 v5 w5 => ?_
        have lt5 : W5.length ≤ 2000 := by rw [← vals_len, v5, vals_len]; exact lt3
        conv => lhs; whnf
        refine appendK_ext Tryz.underlying36 rfl rfl rfl (List.IsPrefix.trans p4 p5) (w4.mono p5) w5.rw (N := (V.take (p + i) ++ W5).length) (zs := ents (V.take (p + i) ++ W5)) List.length_append.symm (ents_app _ _) ?_ fun o6 a6 τ6 p6 k6 _ _ x6 w6 => ?_
        · show _ * 64 ≤ _
          rw [List.length_append]; omega
        have p06 := List.IsPrefix.trans p1 p6
        have g6 := prefix_get p06 hB
        have i6 : IsEs τ6 (V.take (p + i) ++ W5) := fun x hx => by
          rcases List.mem_append.1 hx with hx | hx
          · exact ((hVi.take _).mono p06) x hx
          · exact (i5.ext x6) x hx
        have v6 : vals (V.take (p + i) ++ W5) = (vals V).take (p + i) ++ (vals L).drop i := by
          rw [show vals (V.take (p + i) ++ W5) = vals (V.take (p + i)) ++ vals W5 from List.map_append, v5, vals_take, vals_drop]
        conv => lhs; whnf
        refine storeL g6 ?_
        have hfin := hK1 _ i _ a6 hlt hon hoff h2 ((Keeps.of p06).trans (Keeps.setL g6)) (get_set g6 _) ⟨o6, Own.keepL (w6.since List.nil_prefix) g6 (by decide)⟩ ((Keeps.setL g6).es i6) v6
        generalize τ6.set B (AO.cells [AV.sl a6 (V.take (p + i) ++ W5).length] 1 .own) = τ7 at hfin ⊢
        conv => lhs; whnf
        refine fin _ _ _ nofun ?_
        conv => lhs; whnf
        rw [wrap_i64 (x := (p : Int) + (L.length : Int)) (by omega) (by omega)]
        exact hfin
end Go.Proofs.YthmdecfiijgaoaaGreat
