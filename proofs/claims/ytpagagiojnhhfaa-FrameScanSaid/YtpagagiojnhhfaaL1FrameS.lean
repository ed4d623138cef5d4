/- FrameScan. -/
import Derived.Test.YtpagagiojnhhfaaL1RefS
import Derived.Test.YtpagagiojnhhfaaL1FrameA
import Derived.Test.YtpagagiojnhhfaaPScan
namespace Go.Proofs.Ytpagagiojnhhfaa
open Go Go.AM Go.AM.St

theorem it22 : IT Try.prog 22 3 .i64 := ⟨Try.underlying22, Try.underlying3, fun _ => rfl, ⟨_, rfl, rfl, rfl, by decide⟩⟩
abbrev rl (W : List El) : List RecP := W.map (·.2.2)
theorem rl_snoc (W : List El) (e : El) : rl (W ++ [e]) = rl W ++ [e.2.2] := by simp [rl]
theorem last_drop {xs cs : List AV} {off : Nat} (h : xs.drop off = cs) (hc : cs ≠ []) : xs.getLast? = cs.getLast? := by
  rw [← h, List.getLast?_drop, if_neg]
  intro hl
  exact hc (by rw [← h, List.drop_eq_nil_of_le hl])
theorem Own.kinds {σ0 σ1 σ : H} {n n' : Nat} {o o' : Option Nat} {a a' : SA} {xs : List Nat} {ys : List Int} (h : Own σ0 σ 1 o a n (u8s xs)) (h' : Own σ1 σ 1 o' a' n' (iks .i64 ys)) (hx : o ≠ none → xs ≠ []) (hy : o' ≠ none → ys ≠ []) :
    o = none ∨ o ≠ o' := by
  cases o with
  | none => exact .inl rfl
  | some id =>
    refine .inr fun e => ?_
    subst e
    have hx := hx (by simp)
    have hy := hy (by simp)
    obtain ⟨off, cs, md, _, _, h3, _, _, h4⟩ := h
    obtain ⟨off', cs', md', _, _, h3', _, _, h4'⟩ := h'
    rw [h3] at h3'
    cases h3'
    have e1 := last_drop h4 (by simpa [u8s] using hx)
    have e2 := last_drop h4' (by simpa [iks] using hy)
    rw [e1] at e2
    obtain ⟨x, xs', rfl⟩ : ∃ x xs', xs = xs' ++ [x] := ⟨_, _, (List.dropLast_concat_getLast hx).symm⟩
    obtain ⟨y, ys', rfl⟩ : ∃ y ys', ys = ys' ++ [y] := ⟨_, _, (List.dropLast_concat_getLast hy).symm⟩
    simp [u8s, iks] at e2
theorem Own.flip {o o' : Option Nat} (h : o = none ∨ o ≠ o') : o' = none ∨ o' ≠ o := by
  rcases h with h | h
  · subst h
    cases o'
    · exact .inl rfl
    · exact .inr (by simp)
  · exact .inr (Ne.symm h)
theorem same_at {A B : List El} {i j : Nat} (h : A.map (·.2.2) = (rl B).take j) (hA : i < A.length) (hB : i < B.length) : A[i].2.2 = B[i].2.2 := by
  have h1 : (A.map (·.2.2))[i]? = some A[i].2.2 := by rw [List.getElem?_map, List.getElem?_eq_getElem hA]; rfl
  have h2 : (rl B)[i]? = some B[i].2.2 := by rw [List.getElem?_map, List.getElem?_eq_getElem hB]; rfl
  rw [h] at h1
  have hl := congrArg List.length h
  rw [List.length_map, List.length_take] at hl
  rw [List.getElem?_take_of_lt (by omega), h2] at h1
  exact (Option.some.inj h1).symm
section
variable {D : Drawer}
theorem scanL_len : ∀ (m : Nat) (bs : List Nat), (scanL m bs).1.length ≤ bs.length
  | 0, _ => Nat.zero_le _
  | m + 1, bs => by
    rw [scanL]
    by_cases h1 : (getF bs).2.2 ≠ 0
    · rw [if_pos h1]; exact Nat.zero_le _
    · rw [if_neg h1]
      have h2 := getF_ok (bs := bs) (Classical.not_not.1 h1)
      have h3 := scanL_len m (bs.drop (getF bs).2.1)
      rw [List.length_drop] at h3
      rw [List.length_cons]
      omega
theorem scan_len {n : Nat} {a : SA} {bs : List Nat} {l : Nat} (hll : bs.length = l) (hn : l + 300 ≤ n) (hl : l < 1000000) (hD : ByPlan Try.prog D) {σ : H} (ha : Rw σ 1 a l (u8s bs)) (hb : ∀ b ∈ bs, b < 256) {K : AV → H → Bool}
    (hK : ∀ w W σ', σ <+: σ' → IsRs σ' W → W.map (·.2.2) = (scanF bs).1 → Rw σ' 3 w W.length (recs W) → W.length ≤ l → K (.tup [.sl w W.length, .int .i64 ((scanF bs).2 : Nat)]) σ' = true) :
    acall Try.prog tab D n 50 [.sl a l] σ K = true := by
  subst hll
  exact scan_spec hn hl hD ha hb fun _ w W σ' p i e o => hK w W σ' p i e o.rw (by
    have := scanL_len (bs.length + 1) bs
    have h2 := congrArg List.length e
    rw [List.length_map] at h2
    rw [h2]; exact this)
theorem rscan_len {n : Nat} {a : SA} {bs : List Nat} {l : Nat} (hll : bs.length = l) (hn : l + 1500 ≤ n) (hl : l < 1000000) (hD : ByPlan Try.prog D) {σ : H} (ha : Rw σ 1 a l (u8s bs)) (hb : ∀ b ∈ bs, b < 256) {K : AV → H → Bool}
    (hK : ∀ w W σ', σ <+: σ' → IsRs σ' W → W.map (·.2.2) = (scanF bs).1 → Rw σ' 3 w W.length (recs W) → K (.tup [.sl w W.length, .int .i64 ((scanF bs).2 : Nat)]) σ' = true) :
    acall Try.prog tab D n 51 [.sl a l] σ K = true := by
  subst hll
  exact rscan_spec hn hl hD ha hb fun _ w W σ' p i e o => hK w W σ' p i e o.rw
end
theorem scanL_small : ∀ (m : Nat) (bs : List Nat), ∀ r ∈ (scanL m bs).1, r.nums.length ≤ 40 ∧ r.texts.length ≤ 40
  | 0, _, r, h => by cases h
  | m + 1, bs, r, h => by
    rw [scanL] at h
    by_cases h1 : (getF bs).2.2 ≠ 0
    · rw [if_pos h1] at h; cases h
    · rw [if_neg h1] at h
      rcases List.mem_cons.1 h with rfl | h
      · exact getF_small bs
      · exact scanL_small m _ r h
theorem scanF_small (bs : List Nat) : ∀ r ∈ (scanF bs).1, r.nums.length ≤ 40 ∧ r.texts.length ≤ 40 := scanL_small _ _
theorem same_sl' (a : SA) (n : Nat) : sameV (.sl a n) (.sl a n) = true := by simp [sameV, sameLeaf]

attribute [local irreducible] IntKind.wrap Int.fdiv Int.tdiv Int.tmod BitVec.ofInt appendK sliceK indexAddrK ldK storeK seenK makeSliceK
set_option maxRecDepth 100000
variable {D : Drawer}

set_option maxHeartbeats 4000000 in
theorem frameScan_run {n : Nat} (hn : 80000 ≤ n) {s : SA} {l : List El} {cut at' : Int} {x : Nat} (hx : x < 256) (hc : -9223372036854775808 ≤ cut ∧ cut ≤ 9223372036854775807) (ha : -9223372036854775808 ≤ at' ∧ at' ≤ 9223372036854775807) {σ : H}
    (hs : Rw σ 3 s l.length (recs l)) (hi : IsRs σ l) (ho : ∀ e ∈ l, OkR e.2.2) (hD : ByPlan Try.prog D) :
    acall Try.prog tab D n 11 [.sl s l.length, .int .i64 cut, .int .i64 at', .int .u8 (x : Int)] σ isTrue = true := by
  obtain ⟨n, rfl, hn⟩ := up hn
  conv => lhs; whnf
  refine begun_spec ?_
  conv => lhs; whnf
  refine loop_rule (m := 15375) (fun q fr τ => ∃ (z : Int) (i : Nat) (ob oe ow : Option Nat) (b e w : SA) (W : List El), z = (i : Int) ∧ i + q = 8 ∧ W.length ≤ i ∧
      fr = [.sl s l.length, .int .i64 cut, .int .i64 at', .int .u8 (x : Int), .bad, .bad, .bad, .bad, .bad, .bad, .sl b (encFr (rl W)).length, .sl e (endsR (rl W)).length, .sl w W.length, .int .i64 z, .bad, .bad, .bad, .bad, .bad, .bad, .bad, .bad, .bad, .bad, .bad, .bad, .bad, .bad, .bad, .bad, .bad, .bad, .bad, .bad, .bad, .bad, .bad, .bad, .bad, .bad, .bad, .bad, .bad, .bad, .bad, .bad, .bad, .bad, .bad, .bad, .bad, .bad, .bad, .bad, .bad, .bad, .bad, .bad, .bad, .bad, .bad, .bad, .bad, .bad, .bad, .bad, .bad, .bad, .bad, .bad, .bad, .bad, .bad, .bad, .bad, .bad, .bad, .bad, .bad, .bad, .bad, .bad, .bad, .bad, .bad, .bad, .bad, .bad, .bad, .bad, .bad, .bad, .bad, .bad, .bad, .bad, .bad, .bad, .bad, .bad, .bad, .bad, .bad, .bad, .bad, .bad, .bad, .bad, .bad, .bad, .bad, .bad, .bad, .bad, .bad, .bad, .bad, .bad, .bad, .bad, .bad, .bad, .bad, .bad, .bad, .bad, .bad, .bad, .bad, .bad, .bad, .bad, .bad, .bad, .bad, .bad, .bad, .bad, .bad, .bad, .bad, .bad, .bad, .bad, .bad, .bad, .bad, .bad, .bad, .bad, .bad, .bad, .bad, .bad, .bad, .bad, .bad, .bad, .bad, .bad, .bad, .bad, .bad, .bad, .bad, .bad, .bad, .bad, .bad, .bad, .bad, .bad, .bad, .bad, .bad, .bad, .bad, .bad, .bad, .bad, .bad, .bad, .bad, .bad, .bad, .bad, .bad, .bad, .bad, .bad, .bad, .bad, .bad, .bad, .bad, .bad, .bad, .bad, .bad, .bad, .bad, .bad, .bad, .bad, .bad, .bad, .bad, .bad, .bad, .bad, .bad, .bad, .bad, .bad] ∧ σ <+: τ ∧ IsRs τ W ∧
      (∀ e ∈ W, OkR e.2.2 ∧ mayR e.2.2 = true) ∧ (encFr (rl W)).length ≤ 400 * W.length ∧ (W ≠ [] → encFr (rl W) ≠ []) ∧ (W = [] → ob = none ∧ oe = none) ∧
      Own σ τ 1 ob b (encFr (rl W)).length (u8s (encFr (rl W))) ∧ Own σ τ 1 oe e (endsR (rl W)).length (iks .i64 (endsR (rl W))) ∧ Own σ τ 3 ow w W.length (recs W)) ?_ _ 8 _ _ (by omega)
      ⟨_, 0, none, none, none, .nil, .nil, .nil, [], rfl, by omega, Nat.le_refl _, rfl, List.prefix_refl _, IsRs.nil σ, (fun e he => by cases he), Nat.le_refl _, (fun h => absurd rfl h), (fun _ => ⟨rfl, rfl⟩), Own.nil _ _ _, Own.nil _ _ _, Own.nil _ _ _⟩
  rintro q fr τ C ⟨z, i, ob, oe, ow, b, e, w, W, rfl, hq, hW, rfl, hp, hI, hO, hel, hne, hno, hob, hoe, how⟩ next fin
  have hbn : ob ≠ none → encFr (rl W) ≠ [] := fun h => hne fun e => h (hno e).1
  have hen : oe ≠ none → endsR (rl W) ≠ [] := fun h e => h (hno (by
    have := congrArg List.length e
    rw [endsR_len, List.length_map] at this
    exact List.length_eq_zero_iff.1 this)).2
  have hEl : (endsR (rl W)).length = W.length := by rw [endsR_len, List.length_map]
  conv => lhs; whnf
  by_cases hlt : i < l.length ∧ i < 8
  · refine bif_pos (by simp; omega) ?_
    conv => lhs; whnf
    refine bif_pos (by simp; omega) ?_
    have hil := hlt.1
    have he := ho _ (List.getElem_mem hil)
    have hie := hi _ (List.getElem_mem hil)
    conv => lhs; whnf
    refine idx60 hs rfl hil fun p hp' => ?_
    generalize hle : l[i] = e0 at he hie hp'
    conv => lhs; whnf
    refine ldE (hp'.mono hp) ?_
    conv => lhs; whnf
    refine rec_spec (by omega) hD (hie.mono hp) fun a1 b1 τ1 p1 r1 => ?_
    conv => lhs; whnf
    refine fput_any (by omega) r1 he.cut hD fun a2 τ2 p2 r2 => ?_
    have P2 := List.IsPrefix.trans p1 p2
    have H2 := List.IsPrefix.trans hp P2
    cases hm : mayR (cutR e0.2.2)
    · conv => lhs; whnf
      exact next (q - 1) _ _ (by omega) ⟨_, i + 1, ob, oe, ow, b, e, w, W, inc_i64 (by omega), by omega, by omega, rfl, H2, hI.mono P2, hO, hel, hne, hno, hob.mono P2, hoe.mono P2, how.mono P2⟩
    have hF : putFm (cutR e0.2.2) = putF (cutR e0.2.2) := by unfold putFm; rw [hm]; rfl
    rw [hF] at r2 ⊢
    conv => lhs; whnf
    by_cases h4 : (putF (cutR e0.2.2)).length < 400
    case' neg =>
      refine bif_neg (by simp; omega) ?_
      conv => lhs; whnf
      exact next (q - 1) _ _ (by omega) ⟨_, i + 1, ob, oe, ow, b, e, w, W, inc_i64 (by omega), by omega, by omega, rfl, H2, hI.mono P2, hO, hel, hne, hno, hob.mono P2, hoe.mono P2, how.mono P2⟩
    refine bif_pos (by simp; omega) ?_
    conv => lhs; whnf
    refine hD.go plan11x12 ord11x12 ?_
    conv => lhs; whnf
    refine idx60 hs rfl hil fun p3 hp3 => ?_
    conv => lhs; whnf
    rw [hle] at hp3
    refine ldE (hp3.mono H2) ?_
    conv => lhs; whnf
    have hb2 := hob.mono P2
    have hlen : (encFr (rl W) ++ putF (cutR e0.2.2)).length ≤ 400 * (W.length + 1) := by rw [List.length_append]; omega
    have hpos : encFr (rl W) ++ putF (cutR e0.2.2) ≠ [] := by
      intro h
      have := congrArg List.length h
      rw [List.length_append, putF_length, List.length_nil] at this
      omega
    refine bt.appE H2 hb2 r2 (encFr (rl W) ++ putF (cutR e0.2.2)) rfl (by omega) fun o3 a3 τ3 p3' k3 _ _ x3 w3 => ?_
    conv => lhs; whnf
    refine and_true (all_cons ?_ rfl) ?_
    · conv => lhs; whnf
      refine ldE (hp3.mono p3') ?_
      exact same_rec _ _ _
    conv => lhs; whnf
    refine rec_spec (by omega) hD (hie.mono p3') fun a4 b4 τ4 p4 r4 => ?_
    have how3 := (how.mono P2).keep k3 (Own.other (how.mono P2) hb2 (by decide))
    have hoe3 := (hoe.mono P2).keep k3 (Own.flip (Own.kinds hb2 (hoe.mono P2) hbn hen))
    have hWe : encFr (rl (W ++ [(a4, b4, cutR e0.2.2)])) = encFr (rl W) ++ putF (cutR e0.2.2) := by rw [rl_snoc, encFr_snoc]
    have hWn : endsR (rl W) ++ [((encFr (rl W) ++ putF (cutR e0.2.2)).length : Int)] = endsR (rl (W ++ [(a4, b4, cutR e0.2.2)])) := by
      rw [rl_snoc, endsR_snoc, encFr_snoc]
    have hrow : Rw (τ4 ++ [AO.cells (elCells (a4, b4, cutR e0.2.2)) 3 .own]) 3 (.at τ4.length 0 3) 1 (elCells (a4, b4, cutR e0.2.2)) := Rw.new _ _ rfl
    have P4 := List.IsPrefix.trans p3' p4
    conv => lhs; whnf
    refine appendK_ext Try.underlying60 rfl rfl rfl (prefix_add P4 _) (o := ow) ((how3.mono p4).mono (List.prefix_append _ _)) hrow (N := (W ++ [(a4, b4, cutR e0.2.2)]).length) (zs := recs (W ++ [(a4, b4, cutR e0.2.2)])) (by simp) (recs_app W [(a4, b4, cutR e0.2.2)]) ?_ fun o5 a5 τ5 p5 k5 _ _ x5 w5 => ?_
    · show _ * 56 ≤ _
      rw [List.length_append, List.length_singleton]; omega
    have hb4 := (w3.mono p4).mono (List.prefix_append τ4 [AO.cells (elCells (a4, b4, cutR e0.2.2)) 3 .own])
    have hw4 := (how3.mono p4).mono (List.prefix_append τ4 [AO.cells (elCells (a4, b4, cutR e0.2.2)) 3 .own])
    have he4 := (hoe3.mono p4).mono (List.prefix_append τ4 [AO.cells (elCells (a4, b4, cutR e0.2.2)) 3 .own])
    have hb5 := hb4.keep k5 (Own.other hb4 hw4 (by decide))
    have he5 := he4.keep k5 (Own.other he4 hw4 (by decide))
    conv => lhs; whnf
    have hrow6 : Rw (τ5 ++ [AO.cells (iks .i64 [((encFr (rl W) ++ putF (cutR e0.2.2)).length : Int)]) 1 .own]) 1 (.at τ5.length 0 1) 1 (iks .i64 [((encFr (rl W) ++ putF (cutR e0.2.2)).length : Int)]) := Rw.new _ _ rfl
    refine appendK_ext Try.underlying22 rfl rfl rfl (prefix_add p5 _) (o := oe) (he5.mono (List.prefix_append _ _)) hrow6 (N := (endsR (rl (W ++ [(a4, b4, cutR e0.2.2)]))).length) (zs := iks .i64 (endsR (rl (W ++ [(a4, b4, cutR e0.2.2)])))) (by rw [← hWn]; simp) (by rw [← hWn, iks_app]) ?_ fun o6 a6 τ6 p6 k6 _ _ x6 w6 => ?_
    · show _ * 8 ≤ _
      rw [← hWn, List.length_append, List.length_singleton]; omega
    have he6 := he5.mono (List.prefix_append τ5 [AO.cells (iks .i64 [((encFr (rl W) ++ putF (cutR e0.2.2)).length : Int)]) 1 .own])
    have hb6 := hb5.mono (List.prefix_append τ5 [AO.cells (iks .i64 [((encFr (rl W) ++ putF (cutR e0.2.2)).length : Int)]) 1 .own])
    have hw6 := w5.mono (List.prefix_append τ5 [AO.cells (iks .i64 [((encFr (rl W) ++ putF (cutR e0.2.2)).length : Int)]) 1 .own])
    have hb7 := hb6.keep k6 (Own.kinds hb6 he6 (fun _ => hpos) hen)
    have hw7 := hw6.keep k6 (Own.other hw6 he6 (by decide))
    conv => lhs; whnf
    refine next (q - 1) _ _ (by omega) ⟨_, i + 1, o3, o6, o5, a3, a6, a5, W ++ [(a4, b4, cutR e0.2.2)], inc_i64 (by omega), by omega, by rw [List.length_append, List.length_singleton]; omega, by rw [hWe]; rfl, p6, ?_, ?_, by rw [hWe, List.length_append (bs := [_]), List.length_singleton]; exact hlen, fun _ => by rw [hWe]; exact hpos, fun h => absurd h (by simp), by rw [hWe]; exact hb7, w6, hw7⟩
    · intro x hx
      rcases List.mem_append.1 hx with hx | hx
      · have h1 := ((hI.mono P2).ext x3).mono p4
        have h2 := (h1.mono (List.prefix_append τ4 [AO.cells (elCells (a4, b4, cutR e0.2.2)) 3 .own])).ext x5
        exact ((h2.mono (List.prefix_append τ5 [AO.cells (iks .i64 [((encFr (rl W) ++ putF (cutR e0.2.2)).length : Int)]) 1 .own])).ext x6) x hx
      · rw [List.mem_singleton] at hx
        subst hx
        have h1 := r4.mono (List.prefix_append τ4 [AO.cells (elCells (a4, b4, cutR e0.2.2)) 3 .own])
        have h2 : IsRs τ5 [(a4, b4, cutR e0.2.2)] := fun y hy => by
          rw [List.mem_singleton] at hy
          subst hy
          exact ⟨Rw.ext h1.nums x5, Rw.ext h1.texts x5⟩
        exact ((h2.mono (List.prefix_append τ5 [AO.cells (iks .i64 [((encFr (rl W) ++ putF (cutR e0.2.2)).length : Int)]) 1 .own])).ext x6) _ (List.mem_singleton.2 rfl)
    · intro x hx
      rcases List.mem_append.1 hx with hx | hx
      · exact hO x hx
      · rw [List.mem_singleton] at hx
        subst hx
        exact ⟨he.cut, hm⟩
  · have tail : ∀ fr', forget 7182 fr' = [.bad, .int .i64 cut, .int .i64 at', .int .u8 (x : Int), .bad, .bad, .bad, .bad, .bad, .bad, .sl b (encFr (rl W)).length, .sl e (endsR (rl W)).length, .sl w W.length, .bad, .bad, .bad, .bad, .bad, .bad, .bad, .bad, .bad, .bad, .bad, .bad, .bad, .bad, .bad, .bad, .bad, .bad, .bad, .bad, .bad, .bad, .bad, .bad, .bad, .bad, .bad, .bad, .bad, .bad, .bad, .bad, .bad, .bad, .bad, .bad, .bad, .bad, .bad, .bad, .bad, .bad, .bad, .bad, .bad, .bad, .bad, .bad, .bad, .bad, .bad, .bad, .bad, .bad, .bad, .bad, .bad, .bad, .bad, .bad, .bad, .bad, .bad, .bad, .bad, .bad, .bad, .bad, .bad, .bad, .bad, .bad, .bad, .bad, .bad, .bad, .bad, .bad, .bad, .bad, .bad, .bad, .bad, .bad, .bad, .bad, .bad, .bad, .bad, .bad, .bad, .bad, .bad, .bad, .bad, .bad, .bad, .bad, .bad, .bad, .bad, .bad, .bad, .bad, .bad, .bad, .bad, .bad, .bad, .bad, .bad, .bad, .bad, .bad, .bad, .bad, .bad, .bad, .bad, .bad, .bad, .bad, .bad, .bad, .bad, .bad, .bad, .bad, .bad, .bad, .bad, .bad, .bad, .bad, .bad, .bad, .bad, .bad, .bad, .bad, .bad, .bad, .bad, .bad, .bad, .bad, .bad, .bad, .bad, .bad, .bad, .bad, .bad, .bad, .bad, .bad, .bad, .bad, .bad, .bad, .bad, .bad, .bad, .bad, .bad, .bad, .bad, .bad, .bad, .bad, .bad, .bad, .bad, .bad, .bad, .bad, .bad, .bad, .bad, .bad, .bad, .bad, .bad, .bad, .bad, .bad, .bad, .bad, .bad, .bad, .bad, .bad, .bad, .bad, .bad, .bad, .bad, .bad, .bad, .bad, .bad] → C (AE.exit 0) fr' τ = true := by
      intro fr' hf
      refine fin _ _ _ nofun ?_
      show forgetK 7182 fr' _ = true
      rw [forgetK_eq, hf]
      have hF : ∀ r ∈ rl W, Fine r := fun r hr => by
        obtain ⟨y, hy, rfl⟩ := List.mem_map.1 hr
        exact ⟨(hO y hy).2, (hO y hy).1.ns⟩
      have hb : ∀ y ∈ encFr (rl W), y < 256 := encFr_lt _ fun r hr t ht => by
        obtain ⟨y, hy, rfl⟩ := List.mem_map.1 hr
        exact ((hO y hy).1.ts t ht).1
      have hall := scanF_all hF
      have hcutF := fun c j => scanF_cut (W := rl W) (c := c) (j := j) hF
      have hends := fun k h => endsR_at (W := rl W) (k := k) h
      have hWl : (rl W).length = W.length := List.length_map _
      have hbl : (encFr (rl W)).length ≤ 3200 := by omega
      have hB0 : (encFr (rl W)).length = 0 → W = [] := fun h => Classical.byContradiction fun hn => hne hn (List.length_eq_zero_iff.1 h)
      clear next hbn hen hno hel hne
      conv => lhs; whnf
      by_cases h0 : (encFr (rl W)).length = 0
      case' pos =>
        refine bif_pos (by simpa using h0) ?_
        conv => lhs; whnf
      case' neg =>
        refine bif_neg (by simpa using h0) ?_
        conv => lhs; whnf
        by_cases h1 : cut < 0
        case' pos =>
          refine bif_pos (by simpa using h1) ?_
          conv => lhs; whnf
        case' neg =>
          refine bif_neg (by simpa using h1) ?_
          conv => lhs; whnf
          by_cases h2 : at' < 0
          case' pos =>
            refine bif_pos (by simpa using h2) ?_
            conv => lhs; whnf
          case' neg =>
            refine bif_neg (by simpa using h2) ?_
            conv => lhs; whnf
      case neg =>
        refine hD.go plan11x17 ord11x17 ?_
        conv => lhs; whnf
        obtain ⟨cn, rfl⟩ : ∃ cn : Nat, cut = (cn : Int) := ⟨cut.toNat, by omega⟩
        obtain ⟨an, rfl⟩ : ∃ an : Nat, at' = (an : Int) := ⟨at'.toNat, by omega⟩
        have ew : IntKind.i64.wrap (((encFr (rl W)).length : Int) + 1) = (((encFr (rl W)).length + 1 : Nat) : Int) := by rw [wrap_i64 (by omega) (by omega)]; omega
        refine bif_neg (by rw [ew, beq_eq_false_iff_ne]; omega) ?_
        have hcl : cn % ((encFr (rl W)).length + 1) ≤ (encFr (rl W)).length := Nat.le_of_lt_succ (Nat.mod_lt _ (Nat.succ_pos _))
        have hal : an % (encFr (rl W)).length < (encFr (rl W)).length := Nat.mod_lt _ (by omega)
        rw [ew, iMod]
        generalize cn % ((encFr (rl W)).length + 1) = c at hcl ⊢
        conv => lhs; whnf
        refine bif_neg (by simpa using h0) ?_
        rw [iMod]
        generalize an % (encFr (rl W)).length = k at hal ⊢
        conv => lhs; whnf
        refine bt.slice hob.rw 0 c (.inl ⟨rfl, rfl⟩) (.inr ⟨_, _, rfl, rfl⟩) (Nat.zero_le _) hcl ((encFr (rl W)).take c) (by rw [List.drop_zero]) fun a9 r9 => ?_
        conv => lhs; whnf
        have hl9 : ((encFr (rl W)).take c).length ≤ 3200 := by rw [List.length_take]; omega
        refine scan_spec (by omega) (by omega) hD r9 (fun y hy => hb y (List.mem_of_mem_take hy)) fun o10 w10 W10 σ10 p10 i10 e10 r10 => ?_
        have P10 := List.IsPrefix.trans hp p10
        generalize hS0 : scanF ((encFr (rl W)).take c) = S at e10 ⊢
        obtain ⟨S1, sn⟩ := S
        dsimp only at e10
        conv => lhs; whnf
        refine loop_rule (m := 1842190) (fun q' fr τ' => ∃ (z : Int) (j : Nat), z = (j : Int) ∧ j + q' = W.length ∧ (encFr ((rl W).take j)).length ≤ c ∧ τ' = σ10 ∧
            fr = [.bad, .int .i64 (c : Int), .int .i64 (k : Int), .int .u8 (x : Int), .bad, .bad, .bad, .bad, .bad, .bad, .sl b (encFr (rl W)).length, .sl e (endsR (rl W)).length, .sl w W.length, .bad, .bad, .bad, .bad, .bad, .sl w10 W10.length, .int .i64 (sn : Int), .int .i64 z, .bad, .bad, .bad, .bad, .bad, .bad, .bad, .bad, .bad, .bad, .bad, .bad, .bad, .bad, .bad, .bad, .bad, .bad, .bad, .bad, .bad, .bad, .bad, .bad, .bad, .bad, .bad, .bad, .bad, .bad, .bad, .bad, .bad, .bad, .bad, .bad, .bad, .bad, .bad, .bad, .bad, .bad, .bad, .bad, .bad, .bad, .bad, .bad, .bad, .bad, .bad, .bad, .bad, .bad, .bad, .bad, .bad, .bad, .bad, .bad, .bad, .bad, .bad, .bad, .bad, .bad, .bad, .bad, .bad, .bad, .bad, .bad, .bad, .bad, .bad, .bad, .bad, .bad, .bad, .bad, .bad, .bad, .bad, .bad, .bad, .bad, .bad, .bad, .bad, .bad, .bad, .bad, .bad, .bad, .bad, .bad, .bad, .bad, .bad, .bad, .bad, .bad, .bad, .bad, .bad, .bad, .bad, .bad, .bad, .bad, .bad, .bad, .bad, .bad, .bad, .bad, .bad, .bad, .bad, .bad, .bad, .bad, .bad, .bad, .bad, .bad, .bad, .bad, .bad, .bad, .bad, .bad, .bad, .bad, .bad, .bad, .bad, .bad, .bad, .bad, .bad, .bad, .bad, .bad, .bad, .bad, .bad, .bad, .bad, .bad, .bad, .bad, .bad, .bad, .bad, .bad, .bad, .bad, .bad, .bad, .bad, .bad, .bad, .bad, .bad, .bad, .bad, .bad, .bad, .bad, .bad, .bad, .bad, .bad, .bad, .bad, .bad, .bad, .bad, .bad, .bad, .bad, .bad, .bad, .bad, .bad, .bad, .bad, .bad, .bad, .bad, .bad, .bad]) ?_ _ W.length _ _ (by omega)
            ⟨_, 0, rfl, Nat.zero_add _, Nat.zero_le _, rfl, rfl⟩
        rintro q' fr τ' C' ⟨z, j, rfl, hq', hjc, rfl, rfl⟩ next' fin'
        have hoe10 := hoe.mono p10
        have tail' : (j < W.length → c < (encFr ((rl W).take (j + 1))).length) → ∀ fr', forget 1842188 fr' = [.bad, .bad, .int .i64 (k : Int), .int .u8 (x : Int), .bad, .bad, .bad, .bad, .bad, .bad, .sl b (encFr (rl W)).length, .sl e (endsR (rl W)).length, .sl w W.length, .bad, .bad, .bad, .bad, .bad, .sl w10 W10.length, .int .i64 (sn : Int), .int .i64 (j : Int), .bad, .bad, .bad, .bad, .bad, .bad, .bad, .bad, .bad, .bad, .bad, .bad, .bad, .bad, .bad, .bad, .bad, .bad, .bad, .bad, .bad, .bad, .bad, .bad, .bad, .bad, .bad, .bad, .bad, .bad, .bad, .bad, .bad, .bad, .bad, .bad, .bad, .bad, .bad, .bad, .bad, .bad, .bad, .bad, .bad, .bad, .bad, .bad, .bad, .bad, .bad, .bad, .bad, .bad, .bad, .bad, .bad, .bad, .bad, .bad, .bad, .bad, .bad, .bad, .bad, .bad, .bad, .bad, .bad, .bad, .bad, .bad, .bad, .bad, .bad, .bad, .bad, .bad, .bad, .bad, .bad, .bad, .bad, .bad, .bad, .bad, .bad, .bad, .bad, .bad, .bad, .bad, .bad, .bad, .bad, .bad, .bad, .bad, .bad, .bad, .bad, .bad, .bad, .bad, .bad, .bad, .bad, .bad, .bad, .bad, .bad, .bad, .bad, .bad, .bad, .bad, .bad, .bad, .bad, .bad, .bad, .bad, .bad, .bad, .bad, .bad, .bad, .bad, .bad, .bad, .bad, .bad, .bad, .bad, .bad, .bad, .bad, .bad, .bad, .bad, .bad, .bad, .bad, .bad, .bad, .bad, .bad, .bad, .bad, .bad, .bad, .bad, .bad, .bad, .bad, .bad, .bad, .bad, .bad, .bad, .bad, .bad, .bad, .bad, .bad, .bad, .bad, .bad, .bad, .bad, .bad, .bad, .bad, .bad, .bad, .bad, .bad, .bad, .bad, .bad, .bad, .bad, .bad, .bad, .bad, .bad, .bad, .bad, .bad, .bad, .bad, .bad, .bad] → C' (AE.exit 2) fr' τ' = true := by
          intro hjn fr' hf
          refine fin' _ _ _ nofun ?_
          show forgetK 1842188 fr' _ = true
          rw [forgetK_eq, hf]
          have hS := hcutF c j (by omega) hjc (by rw [hWl]; exact hjn) hcl
          rw [hS0] at hS
          obtain ⟨rfl, rfl⟩ := Prod.mk.inj hS
          have hj10 : W10.length = j := by
            have := congrArg List.length e10
            rw [List.length_map, List.length_take] at this
            omega
          have i10' : ∀ i (h1 : i < W10.length) (h2 : i < W.length), W10[i].2.2 = W[i].2.2 := fun i h1 h2 => same_at e10 h1 h2
          have hr0 := how.rw.mono p10
          have hIW := hI.mono p10
          have hbW := hob.rw.mono p10
          have hends' : 0 < j → ∀ h, (endsR (rl W))[j - 1]'h = ((encFr ((rl W).take j)).length : Int) := fun h0 h => by
            rw [hends, show j - 1 + 1 = j by omega]
          conv => lhs; whnf
          refine bif_neg (by rw [hj10]; simp) ?_
          conv => lhs; whnf
          by_cases hj0 : 0 < j
          case' pos =>
            refine bif_pos (by simpa using hj0) ?_
            conv => lhs; whnf
            refine it22.idx hoe10.rw (i := j - 1) (by rw [wrap_i64 (by omega) (by omega)]; omega) (by omega) fun p hpe => ?_
            conv => lhs; whnf
            refine it22.ld hpe ?_
            conv => lhs; whnf
            refine bif_neg (by rw [hends' hj0]; simp) ?_
            conv => lhs; whnf
            refine bif_neg (by simp; omega) ?_
            conv => lhs; whnf
          case' neg =>
            refine bif_neg (by simp; omega) ?_
            conv => lhs; whnf
            refine bif_pos (by simp; omega) ?_
            conv => lhs; whnf
            refine bif_neg (by rw [show j = 0 by omega, List.take_zero]; rfl) ?_
            conv => lhs; whnf
          all_goals
            refine loop_rule (m := 3413004) (fun q3 fr τ3 => ∃ (z : Int) (i : Nat), z = (i : Int) ∧ i + q3 = j ∧ τ' <+: τ3 ∧
                fr = [.bad, .bad, .int .i64 (k : Int), .int .u8 (x : Int), .bad, .bad, .bad, .bad, .bad, .bad, .sl b (encFr (rl W)).length, .bad, .sl w W.length, .bad, .bad, .bad, .bad, .bad, .sl w10 W10.length, .bad, .int .i64 (j : Int), .int .i64 z, .bad, .bad, .bad, .bad, .bad, .bad, .bad, .bad, .bad, .bad, .bad, .bad, .bad, .bad, .bad, .bad, .bad, .bad, .bad, .bad, .bad, .bad, .bad, .bad, .bad, .bad, .bad, .bad, .bad, .bad, .bad, .bad, .bad, .bad, .bad, .bad, .bad, .bad, .bad, .bad, .bad, .bad, .bad, .bad, .bad, .bad, .bad, .bad, .bad, .bad, .bad, .bad, .bad, .bad, .bad, .bad, .bad, .bad, .bad, .bad, .bad, .bad, .bad, .bad, .bad, .bad, .bad, .bad, .bad, .bad, .bad, .bad, .bad, .bad, .bad, .bad, .bad, .bad, .bad, .bad, .bad, .bad, .bad, .bad, .bad, .bad, .bad, .bad, .bad, .bad, .bad, .bad, .bad, .bad, .bad, .bad, .bad, .bad, .bad, .bad, .bad, .bad, .bad, .bad, .bad, .bad, .bad, .bad, .bad, .bad, .bad, .bad, .bad, .bad, .bad, .bad, .bad, .bad, .bad, .bad, .bad, .bad, .bad, .bad, .bad, .bad, .bad, .bad, .bad, .bad, .bad, .bad, .bad, .bad, .bad, .bad, .bad, .bad, .bad, .bad, .bad, .bad, .bad, .bad, .bad, .bad, .bad, .bad, .bad, .bad, .bad, .bad, .bad, .bad, .bad, .bad, .bad, .bad, .bad, .bad, .bad, .bad, .bad, .bad, .bad, .bad, .bad, .bad, .bad, .bad, .bad, .bad, .bad, .bad, .bad, .bad, .bad, .bad, .bad, .bad, .bad, .bad, .bad, .bad, .bad, .bad, .bad, .bad, .bad, .bad, .bad, .bad]) ?_ _ j _ _ (by omega)
                ⟨_, 0, rfl, Nat.zero_add _, List.prefix_refl _, rfl⟩
            rintro q3 fr τ3 C3 ⟨z, i, rfl, hq3, hp3, rfl⟩ next3 fin3
            conv => lhs; whnf
            by_cases hij : i < j
            · refine bif_pos (by simpa using hij) ?_
              conv => lhs; whnf
              refine hD.go plan11x27 ord11x27 ?_
              conv => lhs; whnf
              refine idx60 (r10.rw.mono hp3) rfl (by omega) fun p hpe => ?_
              conv => lhs; whnf
              refine ldE hpe ?_
              conv => lhs; whnf
              refine idx60 (hr0.mono hp3) rfl (by omega) fun p' hpe' => ?_
              conv => lhs; whnf
              refine ldE hpe' ?_
              have hri := i10' i (by omega) (by omega)
              have hsm := may_iff.1 (hO _ (List.getElem_mem (show i < W.length by omega))).2
              conv => lhs; whnf
              refine req_spec (by omega) (by rw [hri]; omega) (by rw [hri]; omega) hD (i10.mono hp3 _ (List.getElem_mem (show i < W10.length by omega))) (hIW.mono hp3 _ (List.getElem_mem (show i < W.length by omega))) fun τ4 p4 => ?_
              rw [hri, recEq_self]
              conv => lhs; whnf
              exact next3 (q3 - 1) _ _ (by omega) ⟨_, i + 1, inc_i64 (by omega), by omega, List.IsPrefix.trans hp3 p4, rfl⟩
            · refine bif_neg (by simpa using hij) ?_
              conv => lhs; whnf
              refine fin3 _ _ _ nofun ?_
              conv => lhs; whnf
              have hb3 := hbW.mono hp3
              refine bt.clone hb3 (by omega) (by omega) ?_
              generalize encFr (rl W) = bs at hb3 hal hb hbl ⊢
              have hb0 : bs[k] < 256 := hb _ (List.getElem_mem _)
              have hxr : bs[k] ^^^ x < 256 := Nat.xor_lt_two_pow (n := 8) hb0 hx
              have g1 : (τ3 ++ [AO.cells (u8s bs) 1 .own])[τ3.length]? = some (AO.cells (u8s bs) 1 .own) := get_new _ _
              conv => lhs; whnf
              refine bt.idx0 rfl hal ?_
              conv => lhs; whnf
              refine bt.ldAt g1 hal ?_
              conv => lhs; whnf
              refine bt.idx0 rfl hal ?_
              conv => lhs; whnf
              refine bt.store g1 hal (xor_eq hb0 hx) ?_
              rw [List.set_append_right _ _ (Nat.le_refl _), Nat.sub_self]
              have r2 : Rw (τ3 ++ [AO.cells (u8s (bs.set k (bs[k] ^^^ x))) 1 .own]) 1 (.at τ3.length 0 1) (bs.set k (bs[k] ^^^ x)).length (u8s (bs.set k (bs[k] ^^^ x))) :=
                Rw.new _ _ (by rw [u8s_len, Nat.mul_one])
              have hs : ∀ b ∈ bs.set k (bs[k] ^^^ x), b < 256 := fun b h => by
                rcases List.mem_or_eq_of_mem_set h with h | h
                · exact hb b h
                · rw [h]; exact hxr
              have hll : (bs.set k (bs[k] ^^^ x)).length = bs.length := List.length_set
              rw [hll] at r2
              show (_ : Bool) = true
              generalize bs.set k (bs[k] ^^^ x) = cs at r2 hs hll ⊢
              conv => lhs; whnf
              refine scan_len hll (by omega) (by omega) hD r2 hs fun w4 W4 σ4 p4 i4 e4 r4 hW4 => ?_
              conv => lhs; whnf
              refine rscan_len hll (by omega) (by omega) hD (r2.mono p4) hs fun w5 W5 σ5 p5 i5 e5 r5 => ?_
              have hsm := scanF_small cs
              generalize scanF cs = S at e4 e5 hsm ⊢
              obtain ⟨S1, sn⟩ := S
              dsimp only at e4 e5 hsm
              have h45 : W4.length = W5.length := by
                have := congrArg List.length (e4.trans e5.symm)
                rwa [List.length_map, List.length_map] at this
              have e45 : ∀ i (h4 : i < W4.length) (h5 : i < W5.length), W4[i].2.2 = W5[i].2.2 := fun i h4 h5 => by
                refine same_at (j := W5.length) ?_ h4 h5
                rw [List.take_of_length_le (by rw [List.length_map]; exact Nat.le_refl _)]
                exact e4.trans e5.symm
              have hsm4 : ∀ i (h4 : i < W4.length), W4[i].2.2.nums.length ≤ 40 ∧ W4[i].2.2.texts.length ≤ 40 := fun i h4 => hsm _ (by rw [← e4]; exact List.mem_map.2 ⟨_, List.getElem_mem h4, rfl⟩)
              conv => lhs; whnf
              refine bif_neg (by rw [h45]; simp) ?_
              conv => lhs; whnf
              refine bif_neg (by simp) ?_
              conv => lhs; whnf
              refine loop_rule (m := 176160768) (fun q6 fr τ6 => ∃ (z : Int) (i : Nat), z = (i : Int) ∧ i + q6 = W4.length ∧ σ5 <+: τ6 ∧
                  fr = [.bad, .bad, .bad, .bad, .bad, .bad, .bad, .bad, .bad, .bad, .bad, .bad, .bad, .bad, .bad, .bad, .bad, .bad, .bad, .bad, .bad, .bad, .bad, .sl w4 W4.length, .bad, .sl w5 W5.length, .bad, .int .i64 z, .bad, .bad, .bad, .bad, .bad, .bad, .bad, .bad, .bad, .bad, .bad, .bad, .bad, .bad, .bad, .bad, .bad, .bad, .bad, .bad, .bad, .bad, .bad, .bad, .bad, .bad, .bad, .bad, .bad, .bad, .bad, .bad, .bad, .bad, .bad, .bad, .bad, .bad, .bad, .bad, .bad, .bad, .bad, .bad, .bad, .bad, .bad, .bad, .bad, .bad, .bad, .bad, .bad, .bad, .bad, .bad, .bad, .bad, .bad, .bad, .bad, .bad, .bad, .bad, .bad, .bad, .bad, .bad, .bad, .bad, .bad, .bad, .bad, .bad, .bad, .bad, .bad, .bad, .bad, .bad, .bad, .bad, .bad, .bad, .bad, .bad, .bad, .bad, .bad, .bad, .bad, .bad, .bad, .bad, .bad, .bad, .bad, .bad, .bad, .bad, .bad, .bad, .bad, .bad, .bad, .bad, .bad, .bad, .bad, .bad, .bad, .bad, .bad, .bad, .bad, .bad, .bad, .bad, .bad, .bad, .bad, .bad, .bad, .bad, .bad, .bad, .bad, .bad, .bad, .bad, .bad, .bad, .bad, .bad, .bad, .bad, .bad, .bad, .bad, .bad, .bad, .bad, .bad, .bad, .bad, .bad, .bad, .bad, .bad, .bad, .bad, .bad, .bad, .bad, .bad, .bad, .bad, .bad, .bad, .bad, .bad, .bad, .bad, .bad, .bad, .bad, .bad, .bad, .bad, .bad, .bad, .bad, .bad, .bad, .bad, .bad, .bad, .bad, .bad, .bad, .bad, .bad, .bad, .bad, .bad, .bad]) ?_ _ W4.length _ _ (by omega)
                  ⟨_, 0, rfl, Nat.zero_add _, List.prefix_refl _, rfl⟩
              rintro q6 fr τ6 C6 ⟨z, i, rfl, hq6, hp6, rfl⟩ next6 fin6
              conv => lhs; whnf
              by_cases hi4 : i < W4.length
              · refine bif_pos (by simpa using hi4) ?_
                conv => lhs; whnf
                refine hD.go plan11x38 ord11x38 ?_
                conv => lhs; whnf
                refine idx60 (r4.mono (List.IsPrefix.trans p5 hp6)) rfl hi4 fun p hpe => ?_
                conv => lhs; whnf
                refine ldE hpe ?_
                conv => lhs; whnf
                refine idx60 (r5.mono hp6) rfl (h45 ▸ hi4) fun p' hpe' => ?_
                conv => lhs; whnf
                refine ldE hpe' ?_
                have hri := e45 i hi4 (h45 ▸ hi4)
                have hs4 := hsm4 i hi4
                conv => lhs; whnf
                refine req_spec (by omega) (by omega) (by omega) hD (i4.mono (List.IsPrefix.trans p5 hp6) _ (List.getElem_mem hi4)) (i5.mono hp6 _ (List.getElem_mem (h45 ▸ hi4))) fun τ7 p7 => ?_
                rw [hri, recEq_self]
                conv => lhs; whnf
                exact next6 (q6 - 1) _ _ (by omega) ⟨_, i + 1, inc_i64 (by omega), by omega, List.IsPrefix.trans hp6 p7, rfl⟩
              · refine bif_neg (by simpa using hi4) ?_
                conv => lhs; whnf
                refine fin6 _ _ _ nofun ?_
                conv => lhs; whnf
        conv => lhs; whnf
        by_cases hjW : j < W.length
        · refine bif_pos (by rw [hEl]; simpa using hjW) ?_
          conv => lhs; whnf
          refine it22.idx hoe10.rw rfl (by omega) fun p hpe => ?_
          conv => lhs; whnf
          refine it22.ld hpe ?_
          conv => lhs; whnf
          rw [hends]
          by_cases hE : (encFr ((rl W).take (j + 1))).length ≤ c
          · refine bif_pos (by simpa using hE) ?_
            conv => lhs; whnf
            exact next' (q' - 1) _ _ (by omega) ⟨_, j + 1, inc_i64 (by omega), by omega, hE, rfl, rfl⟩
          · refine bif_neg (by simpa using hE) ?_
            conv => lhs; whnf
            exact tail' (fun _ => by omega) _ rfl
        · refine bif_neg (by rw [hEl]; simpa using hjW) ?_
          conv => lhs; whnf
          exact tail' (fun h => absurd h hjW) _ rfl
      all_goals
        refine scan_spec (by omega) (by omega) hD hob.rw hb fun o8 w8 W8 σ8 p8 i8 e8 r8 => ?_
        rw [hall] at e8 ⊢
        have hl8 : W8.length = W.length := by
          have := congrArg List.length e8
          rwa [List.length_map, List.length_map] at this
        conv => lhs; whnf
        refine bif_pos (by rw [hl8]; simp) ?_
        conv => lhs; whnf
        refine bif_pos (by simp) ?_
        conv => lhs; whnf
    by_cases hl1 : i < l.length
    · refine bif_pos (by simp; omega) ?_
      conv => lhs; whnf
      refine bif_neg (by simp; omega) ?_
      conv => lhs; whnf
      exact tail _ rfl
    · refine bif_neg (by simp; omega) ?_
      conv => lhs; whnf
      exact tail _ rfl

theorem frameScan_law (σ : H) (vs : List AV) (h : ArgsShp Try.prog σ 9 [60, 3, 3, 5] vs) : ∃ n, acall Try.prog tab (drawRegion Try.prog) n 11 vs σ isTrue = true := by
  obtain ⟨a, vs, rfl, ha, h⟩ := args_cons h
  obtain ⟨b, vs, rfl, hb, h⟩ := args_cons h
  obtain ⟨c, vs, rfl, hc, h⟩ := args_cons h
  obtain ⟨d, vs, rfl, hd, h⟩ := args_cons h
  obtain rfl := args_nil h
  obtain ⟨s, m, xs, rfl, h2, h3, h4⟩ := arg_slice Try.underlying60 ha
  have hl := h2.len
  obtain ⟨l, rfl, hk, i1, o1⟩ := shp_recs (m := 5) hl h4
  subst hk
  obtain ⟨q, rfl, e1, e2⟩ := arg_int Try.underlying3 hb
  obtain ⟨q', rfl, e1', e2'⟩ := arg_int Try.underlying3 hc
  obtain ⟨u, rfl, hu⟩ := arg_nat rfl Try.underlying5 hd
  exact ⟨80000, frameScan_run (Nat.le_refl _) hu ⟨e1, e2⟩ ⟨e1', e2'⟩ h2 i1 o1 (byPlan _)⟩
end Go.Proofs.Ytpagagiojnhhfaa
