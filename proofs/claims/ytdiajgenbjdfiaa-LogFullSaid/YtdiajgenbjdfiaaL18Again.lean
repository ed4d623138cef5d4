/- LogAgain. -/
import Derived.Test.YtdiajgenbjdfiaaL18Cut
set_option maxRecDepth 100000
namespace Go.Proofs.Ytdiajgenbjdfiaa
open Go Go.AM Go.AM.St
theorem termN_take {l : List EnV} {n i : Nat} (h : i ≤ n) : termN (l.take n) i = termN l i := by
  cases i with
  | zero => rfl
  | succ i => rw [termN, termN, List.getElem?_take_of_lt (by omega)]
theorem on_take {l es : List EnV} {p n i : Nat} (h : on l es p i) (hi : i < n) : on l (es.take n) p i := ⟨h.1, by rw [termN_take (by omega)]; exact h.2⟩
theorem again_law {l es : List EnV} {k i : Nat} (hi : i < es.length) (hk : k + i ≤ l.length) (h : ∀ j, j < i → on l es k j) : ∀ j, j < es.length → on (l.take (k + i) ++ es.drop i) es k j := fun j hj => by
  refine ⟨?_, ?_⟩
  · rw [List.length_append, List.length_take, List.length_drop]; omega
  · by_cases hji : j < i
    · rw [← (h j hji).2, termN, termN, List.getElem?_append_left (by rw [List.length_take]; omega), List.getElem?_take_of_lt (by omega)]
    · rw [termN, termN, List.getElem?_append_right (by rw [List.length_take]; omega), List.length_take, List.getElem?_drop, show i + (k + j - min (k + i) l.length) = j by omega]
theorem on_len {l es : List EnV} {k i : Nat} (h : ∀ j, j < i → on l es k j) (hk : k ≤ l.length) : k + i ≤ l.length := by
  cases i with
  | zero => exact hk
  | succ i => have := (h i (Nat.lt_succ_self i)).1; omega
attribute [local irreducible] IntKind.wrap Int.fdiv Int.tdiv Int.tmod BitVec.ofInt appendK sliceK indexAddrK ldK storeK seenK makeSliceK valsF lookupK updateK mapK
variable {D : Drawer}

/-- Put, where there is room: all is there then. -/
theorem lput_ok {n B p : Nat} {y t : Int} {s : SA} {V L : List En} (hn : 2100 ≤ n) (hy : y = (p : Int)) (hp : p ≤ V.length) (ht : t = termN (vals V) p) (hV : V.length ≤ 2000) (hl : p + L.length ≤ 2000) (hD : ByPlan Try.prog D) {σ : H}
    {a0 : SA} (hB : σ[B]? = some (AO.cells [.sl a0 V.length] 1 .own)) (hVr : Rw σ 4 a0 V.length (ents V)) (hVi : IsEs σ V) (hs : Rw σ 4 s L.length (ents L)) (hi : IsEs σ L) (hsV : Small (vals V)) (hsm : Small (vals L)) {K : AV → H → Bool}
    (hK : ∀ σ' z V' a', Keeps σ σ' → σ'[B]? = some (AO.cells [.sl a' V'.length] 1 .own) → Rw σ' 4 a' V'.length (ents V') → IsEs σ' V' → Small (vals V') → p ≤ V'.length → V'.length ≤ 2000 → (∀ j, j < L.length → on (vals V') (vals L) p j) →
      ((∀ j, j < L.length → on (vals V) (vals L) p j) → z = 0 ∧ vals V' = vals V) → K (.tup [.int .i64 z, .int .i64 ((p + L.length : Nat) : Int), .bool true]) σ' = true) :
    acall Try.prog tab D n 16 [.ptr (some ⟨B, 0, 0, 1⟩), .int .i64 y, .int .i64 t, .sl s L.length] σ K = true := by
  refine lput_spec hn hy hp ht (by omega) (by omega) hD hB hVr hVi hs hi hsm (fun σ' h1 h2 => ?_) (fun σ' h1 i _ _ _ h5 => absurd h5 (by omega)) (fun σ' i V' a' hil hon hoff _ kp b' ⟨o, r'⟩ i' v' => ?_)
  · exact hK σ' 0 V a0 (Keeps.of h1) (prefix_get h1 hB) (hVr.mono h1) (hVi.mono h1) hsV hp hV h2 fun _ => ⟨rfl, rfl⟩
  · have hpi := on_len hon (by rw [vals_len]; exact hp)
    have hlV : V'.length = p + L.length := by
      rw [← vals_len, v', List.length_append, List.length_take, List.length_drop, vals_len]
      rw [vals_len] at hpi ⊢
      omega
    refine hK σ' _ V' a' kp b' r'.rw i' (fun e he => ?_) (by omega) (by omega) (fun j hj => ?_) (fun h => absurd (h i hil) hoff)
    · rw [v'] at he
      rcases List.mem_append.1 he with he | he
      · exact hsV _ (List.mem_of_mem_take he)
      · exact hsm _ (List.mem_of_mem_drop he)
    · rw [v']
      exact again_law (by rw [vals_len]; exact hil) hpi hon j (by rw [vals_len]; exact hj)

theorem logAgain_run {n : Nat} (hn : 12000 ≤ n) (hD : ByPlan Try.prog D) {s t : SA} {l m : List En} {x y : Int} {σ : H} (hs : Rw σ 4 s l.length (ents l)) (hl : IsEs σ l) (ht : Rw σ 4 t m.length (ents m)) (hm : IsEs σ m) :
    acall Try.prog tab D n 3 [.sl s l.length, .sl t m.length, .int .i64 x, .int .i64 y] σ isTrue = true := by
  obtain ⟨n, rfl, hn⟩ := up hn
  conv => lhs; whnf
  refine begun_spec ?_
  conv => lhs; whnf
  refine entries_spec (by omega) hD hs hl fun o1 w1 W σ1 p1 i1 v1 r1 => ?_
  have kW : W.length ≤ 12 := by rw [← vals_len, v1]; exact cutE_len _
  have sW : Small (vals W) := by rw [v1]; exact cutE_small _
  conv => lhs; whnf
  refine new_spec (by omega) (by omega) hD r1.rw i1 sW fun B X _ x1 σ2 p2 _ i2 v2 b2 q2 => ?_
  have vX : vals X = vals W := by rw [v2, List.take_of_length_le (by rw [vals_len]; omega)]
  have lX : X.length = W.length := by rw [← vals_len, vX, vals_len]
  have p02 := List.IsPrefix.trans p1 p2
  conv => lhs; whnf
  refine entries_spec (by omega) hD (ht.mono p02) (hm.mono p02) fun o3 w3 L σ3 p3 i3 v3 r3 => ?_
  have kL : L.length ≤ 12 := by rw [← vals_len, v3]; exact cutE_len _
  have sL : Small (vals L) := by rw [v3]; exact cutE_small _
  have hL : IsLog σ3 B X := IsLog.mono ⟨_, _, b2, q2.rw, i2⟩ p3
  have hwk : IntKind.i64.wrap ((X.length : Int) + 1) = ((X.length + 1 : Nat) : Int) := by rw [wrap_i64 (by omega) (by omega)]; omega
  conv => lhs; whnf
  by_cases hx : x > 0
  · refine bif_pos (by simpa using hx) ?_
    obtain ⟨k, hk, ek⟩ := tmod_val (x := x) (m := X.length + 1) (by omega) (by omega)
    have hkX : k ≤ X.length := by omega
    conv => lhs; whnf
    refine len_spec (by omega) hL ?_
    conv => lhs; whnf
    rw [hwk]
    conv => lhs; whnf
    rw [ek]
    refine term_spec (by omega) rfl (by omega) (by omega) hL ?_
    conv => lhs; whnf
    refine lput_ok (by omega) rfl hkX rfl (by omega) (by omega) hD (prefix_get p3 b2) (q2.rw.mono p3) (i2.mono p3) r3.rw i3 (by rw [vX]; exact sW) sL fun σ5 z5 V5 a5 k5 b5 q5 i5 s5 kV lV on5 _ => ?_
    conv => lhs; whnf
    refine from_spec (m := 2000) (by omega) rfl rfl (by omega) hD ⟨_, _, b5, q5, i5⟩ s5 fun o6 w6 W6 σ6 p6 i6 v6 r6 => ?_
    have v6' : vals W6 = vals V5 := by rw [v6, List.take_of_length_le (by rw [vals_len]; omega)]
    have hL6 : IsLog σ6 B V5 := IsLog.mono ⟨_, _, b5, q5, i5⟩ p6
    have kk : Keeps σ3 σ6 := k5.trans (Keeps.of p6)
    conv => lhs; whnf
    by_cases hy : y > 0
    · refine bif_pos (by simpa using hy) ?_
      obtain ⟨c, hc, ec⟩ := tmod_val (x := y) (m := L.length + 1) (by omega) (by omega)
      have hwc : IntKind.i64.wrap ((L.length : Int) + 1) = ((L.length + 1 : Nat) : Int) := by rw [wrap_i64 (by omega) (by omega)]; omega
      conv => lhs; whnf
      rw [hwc]
      conv => lhs; whnf
      rw [ec]
      refine hD.go plan3x16 ord3x16 ?_
      conv => lhs; whnf
      refine slice22 (kk.1 _ _ _ r3.rw) 0 c (.inl ⟨rfl, rfl⟩) (.inr ⟨_, _, rfl, rfl⟩) (Nat.zero_le _) (by omega) fun a7 r7 => ?_
      rw [List.drop_zero] at r7 ⊢
      have lc : (L.take c).length = c := by rw [List.length_take]; omega
      conv => lhs; whnf
      refine term_spec (by omega) rfl kV (by omega) hL6 ?_
      conv => lhs; whnf
      refine lput_ok (L := L.take c) (by omega) rfl kV rfl (by omega) (by omega) hD (prefix_get p6 b5) (q5.mono p6) (i5.mono p6) r7 ((kk.es i3).take c) s5 (by rw [vals_take]; exact sL.take _) fun σ8 z8 V8 a8 k8 b8 q8 i8 s8 kV8 lV8 _ same8 => ?_
      obtain ⟨rfl, v8⟩ := same8 fun j hj => by rw [vals_take]; exact on_take (on5 j (by omega)) (by omega)
      conv => lhs; whnf
      refine bif_pos (beq_iff_eq.2 (by rw [wrap_i64 (by omega) (by omega)]; omega)) ?_
      conv => lhs; whnf
      refine from_spec (m := 2000) (by omega) rfl rfl (by omega) hD ⟨_, _, b8, q8, i8⟩ s8 fun o9 w9 W9 σ9 p9 i9 v9 r9 => ?_
      have v9' : vals W9 = vals V8 := by rw [v9, List.take_of_length_le (by rw [vals_len]; omega)]
      have l9 : W9.length = V8.length := by rw [← vals_len, v9', vals_len]
      conv => lhs; whnf
      refine eqE_spec (by omega) (by omega) hD r9.rw ((k8.1 _ _ _ r6.rw).mono p9) i9 ((k8.es i6).mono p9) (by rw [v9']; exact s8) (by rw [v9', v8, v6']) fun σ10 p10 => ?_
      conv => lhs; whnf
    · refine bif_neg (by simpa using hy) ?_
      obtain ⟨c, hc0⟩ : ∃ c : Nat, c = 0 := ⟨0, rfl⟩
      conv => lhs; whnf
      refine hD.go plan3x16 ord3x16 ?_
      conv => lhs; whnf
      refine slice22 (kk.1 _ _ _ r3.rw) 0 c (.inl ⟨rfl, rfl⟩) (.inr ⟨_, _, rfl, show (0 : Int) = (c : Int) by omega⟩) (Nat.zero_le _) (by omega) fun a7 r7 => ?_
      rw [List.drop_zero] at r7 ⊢
      have lc : (L.take c).length = c := by rw [List.length_take]; omega
      conv => lhs; whnf
      refine term_spec (by omega) rfl kV (by omega) hL6 ?_
      conv => lhs; whnf
      refine lput_ok (L := L.take c) (by omega) rfl kV rfl (by omega) (by omega) hD (prefix_get p6 b5) (q5.mono p6) (i5.mono p6) r7 ((kk.es i3).take c) s5 (by rw [vals_take]; exact sL.take _) fun σ8 z8 V8 a8 k8 b8 q8 i8 s8 kV8 lV8 _ same8 => ?_
      obtain ⟨rfl, v8⟩ := same8 fun j hj => by rw [vals_take]; exact on_take (on5 j (by omega)) (by omega)
      conv => lhs; whnf
      refine bif_pos (beq_iff_eq.2 (by rw [wrap_i64 (by omega) (by omega)]; omega)) ?_
      conv => lhs; whnf
      refine from_spec (m := 2000) (by omega) rfl rfl (by omega) hD ⟨_, _, b8, q8, i8⟩ s8 fun o9 w9 W9 σ9 p9 i9 v9 r9 => ?_
      have v9' : vals W9 = vals V8 := by rw [v9, List.take_of_length_le (by rw [vals_len]; omega)]
      have l9 : W9.length = V8.length := by rw [← vals_len, v9', vals_len]
      conv => lhs; whnf
      refine eqE_spec (by omega) (by omega) hD r9.rw ((k8.1 _ _ _ r6.rw).mono p9) i9 ((k8.es i6).mono p9) (by rw [v9']; exact s8) (by rw [v9', v8, v6']) fun σ10 p10 => ?_
      conv => lhs; whnf
  · refine bif_neg (by simpa using hx) ?_
    obtain ⟨k, hk0⟩ : ∃ k : Nat, k = 0 := ⟨0, rfl⟩
    have hkX : k ≤ X.length := by omega
    conv => lhs; whnf
    refine term_spec (by omega) (show (0 : Int) = (k : Int) by omega) (by omega) (by omega) hL ?_
    conv => lhs; whnf
    refine lput_ok (by omega) (show (0 : Int) = (k : Int) by omega) hkX rfl (by omega) (by omega) hD (prefix_get p3 b2) (q2.rw.mono p3) (i2.mono p3) r3.rw i3 (by rw [vX]; exact sW) sL fun σ5 z5 V5 a5 k5 b5 q5 i5 s5 kV lV on5 _ => ?_
    conv => lhs; whnf
    refine from_spec (m := 2000) (by omega) rfl rfl (by omega) hD ⟨_, _, b5, q5, i5⟩ s5 fun o6 w6 W6 σ6 p6 i6 v6 r6 => ?_
    have v6' : vals W6 = vals V5 := by rw [v6, List.take_of_length_le (by rw [vals_len]; omega)]
    have hL6 : IsLog σ6 B V5 := IsLog.mono ⟨_, _, b5, q5, i5⟩ p6
    have kk : Keeps σ3 σ6 := k5.trans (Keeps.of p6)
    conv => lhs; whnf
    by_cases hy : y > 0
    · refine bif_pos (by simpa using hy) ?_
      obtain ⟨c, hc, ec⟩ := tmod_val (x := y) (m := L.length + 1) (by omega) (by omega)
      have hwc : IntKind.i64.wrap ((L.length : Int) + 1) = ((L.length + 1 : Nat) : Int) := by rw [wrap_i64 (by omega) (by omega)]; omega
      conv => lhs; whnf
      rw [hwc]
      conv => lhs; whnf
      rw [ec]
      refine hD.go plan3x16 ord3x16 ?_
      conv => lhs; whnf
      refine slice22 (kk.1 _ _ _ r3.rw) 0 c (.inl ⟨rfl, rfl⟩) (.inr ⟨_, _, rfl, rfl⟩) (Nat.zero_le _) (by omega) fun a7 r7 => ?_
      rw [List.drop_zero] at r7 ⊢
      have lc : (L.take c).length = c := by rw [List.length_take]; omega
      conv => lhs; whnf
      refine term_spec (by omega) (show (0 : Int) = (k : Int) by omega) kV (by omega) hL6 ?_
      conv => lhs; whnf
      refine lput_ok (L := L.take c) (by omega) (show (0 : Int) = (k : Int) by omega) kV rfl (by omega) (by omega) hD (prefix_get p6 b5) (q5.mono p6) (i5.mono p6) r7 ((kk.es i3).take c) s5 (by rw [vals_take]; exact sL.take _) fun σ8 z8 V8 a8 k8 b8 q8 i8 s8 kV8 lV8 _ same8 => ?_
      obtain ⟨rfl, v8⟩ := same8 fun j hj => by rw [vals_take]; exact on_take (on5 j (by omega)) (by omega)
      conv => lhs; whnf
      refine bif_pos (beq_iff_eq.2 (by rw [wrap_i64 (by omega) (by omega)]; omega)) ?_
      conv => lhs; whnf
      refine from_spec (m := 2000) (by omega) rfl rfl (by omega) hD ⟨_, _, b8, q8, i8⟩ s8 fun o9 w9 W9 σ9 p9 i9 v9 r9 => ?_
      have v9' : vals W9 = vals V8 := by rw [v9, List.take_of_length_le (by rw [vals_len]; omega)]
      have l9 : W9.length = V8.length := by rw [← vals_len, v9', vals_len]
      conv => lhs; whnf
      refine eqE_spec (by omega) (by omega) hD r9.rw ((k8.1 _ _ _ r6.rw).mono p9) i9 ((k8.es i6).mono p9) (by rw [v9']; exact s8) (by rw [v9', v8, v6']) fun σ10 p10 => ?_
      conv => lhs; whnf
    · refine bif_neg (by simpa using hy) ?_
      obtain ⟨c, hc0⟩ : ∃ c : Nat, c = 0 := ⟨0, rfl⟩
      conv => lhs; whnf
      refine hD.go plan3x16 ord3x16 ?_
      conv => lhs; whnf
      refine slice22 (kk.1 _ _ _ r3.rw) 0 c (.inl ⟨rfl, rfl⟩) (.inr ⟨_, _, rfl, show (0 : Int) = (c : Int) by omega⟩) (Nat.zero_le _) (by omega) fun a7 r7 => ?_
      rw [List.drop_zero] at r7 ⊢
      have lc : (L.take c).length = c := by rw [List.length_take]; omega
      conv => lhs; whnf
      refine term_spec (by omega) (show (0 : Int) = (k : Int) by omega) kV (by omega) hL6 ?_
      conv => lhs; whnf
      refine lput_ok (L := L.take c) (by omega) (show (0 : Int) = (k : Int) by omega) kV rfl (by omega) (by omega) hD (prefix_get p6 b5) (q5.mono p6) (i5.mono p6) r7 ((kk.es i3).take c) s5 (by rw [vals_take]; exact sL.take _) fun σ8 z8 V8 a8 k8 b8 q8 i8 s8 kV8 lV8 _ same8 => ?_
      obtain ⟨rfl, v8⟩ := same8 fun j hj => by rw [vals_take]; exact on_take (on5 j (by omega)) (by omega)
      conv => lhs; whnf
      refine bif_pos (beq_iff_eq.2 (by rw [wrap_i64 (by omega) (by omega)]; omega)) ?_
      conv => lhs; whnf
      refine from_spec (m := 2000) (by omega) rfl rfl (by omega) hD ⟨_, _, b8, q8, i8⟩ s8 fun o9 w9 W9 σ9 p9 i9 v9 r9 => ?_
      have v9' : vals W9 = vals V8 := by rw [v9, List.take_of_length_le (by rw [vals_len]; omega)]
      have l9 : W9.length = V8.length := by rw [← vals_len, v9', vals_len]
      conv => lhs; whnf
      refine eqE_spec (by omega) (by omega) hD r9.rw ((k8.1 _ _ _ r6.rw).mono p9) i9 ((k8.es i6).mono p9) (by rw [v9']; exact s8) (by rw [v9', v8, v6']) fun σ10 p10 => ?_
      conv => lhs; whnf

theorem logAgain_law (σ : H) (vs : List AV) (h : ArgsShp Try.prog σ 9 [22, 22, 3, 3] vs) : ∃ n, acall Try.prog tab (drawRegion Try.prog) n 3 vs σ isTrue = true := by
  obtain ⟨a, vs, rfl, ha, h⟩ := args_cons h
  obtain ⟨b, vs, rfl, hb, h⟩ := args_cons h
  obtain ⟨c, vs, rfl, hc, h⟩ := args_cons h
  obtain ⟨d, vs, rfl, hd, h⟩ := args_cons h
  obtain rfl := args_nil h
  obtain ⟨s, l, rfl, a1, a2⟩ := arg_ents ha
  obtain ⟨t, m, rfl, c1, c2⟩ := arg_ents hb
  obtain ⟨x, rfl, _, _⟩ := arg_int Try.underlying3 hc
  obtain ⟨y, rfl, _, _⟩ := arg_int Try.underlying3 hd
  exact ⟨12000, logAgain_run (Nat.le_refl _) (byPlan _) a1 a2 c1 c2⟩
end Go.Proofs.Ytdiajgenbjdfiaa
