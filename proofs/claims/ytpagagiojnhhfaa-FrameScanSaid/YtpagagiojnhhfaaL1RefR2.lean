/- The reference's records: their bytes. -/
import Derived.Test.YtpagagiojnhhfaaL1RefR
namespace Go.Proofs.Ytpagagiojnhhfaa
open Go Go.AM Go.AM.St
attribute [local irreducible] IntKind.wrap Int.fdiv Int.tdiv Int.tmod BitVec.ofInt appendK sliceK indexAddrK ldK storeK seenK makeSliceK
set_option maxRecDepth 100000
variable {D : Drawer}

theorem rrec_spec {n : Nat} (hn : 70 ≤ n) {a b : SA} {r : RecP} {σ : H} (hr : IsR σ a b r) (ho : OkR r) (hD : ByPlan Try.prog D) (hm : mayR r = true) {K : AV → H → Bool}
    (hK1 : ∀ o a σ', σ <+: σ' → Own σ σ' 1 o a (putR r).length (u8s (putR r)) → K (.sl a (putR r).length) σ' = true) :
    acall Try.prog tab D n 44 [recV a b r] σ K = true := by
  obtain ⟨n, rfl, hn⟩ := up hn
  have g1 := get_new σ (AO.cells [.int .i64 r.kind, .sl a r.nums.length, .sl b r.texts.length] 3 .own)
  have pf := List.prefix_append σ [AO.cells [AV.int .i64 r.kind, .sl a r.nums.length, .sl b r.texts.length] 3 .own]
  obtain ⟨⟨m1, m2⟩, m3, m4, m5⟩ := may_iff.1 hm
  conv => lhs; whnf
  refine hD.go plan44x1 ord44x1 ?_
  conv => lhs; whnf
  refine ldF rfl rfl rfl g1 rfl ?_
  conv => lhs; whnf
  refine ldF rfl rfl rfl g1 rfl ?_
  conv => lhs; whnf
  refine rput_spec (by omega) ho.k1 ho.k2 _ _ fun o2 a2 σ2 p2 r2 => ?_
  conv => lhs; whnf
  refine and_true (all_cons ?_ (all_skip rfl rfl)) ?_
  · conv => lhs; whnf
    refine ldF rfl rfl rfl (prefix_get p2 g1) rfl ?_
    exact same_sl _ _
  conv => lhs; whnf
  refine rput_spec (by omega) (by omega) (by omega) σ2 _ fun o3 a3 σ3 p3 r3 => ?_
  have c1 := enc_len (zigN r.kind)
  have c2 := enc_len (zigN (r.nums.length : Int))
  have c3 := enc_len (zigN (r.texts.length : Int))
  have c4 := encI_len r.nums
  have c5 := encT_len r.texts m5
  conv => lhs; whnf
  refine bt.app (List.IsPrefix.trans p2 p3) (r2.mono p3) r3.rw (enc (zigN r.kind) ++ enc (zigN (r.nums.length : Int))) rfl (by rw [List.length_append]; omega) fun o4 a4 σ4 p4 _ _ _ r4 => ?_
  generalize hA : enc (zigN r.kind) ++ enc (zigN (r.nums.length : Int)) = A at r4
  have cA : A.length ≤ 22 := by rw [← hA, List.length_append]; omega
  conv => lhs; whnf
  refine loop_rule (m := 26) (fun q fr τ => ∃ (z : Int) (i : Nat) (o : Option Nat) (b' : SA), z = (i : Int) ∧ i + q = r.nums.length ∧
      fr = [.bad, .ptr (some ⟨σ.length, 0, 0, 3⟩), .bad, .sl b' (A ++ encI (r.nums.take i)).length, .int .i64 z, .bad, .bad, .bad, .bad, .bad, .bad, .bad, .bad, .bad, .bad, .bad, .bad, .bad, .bad, .bad, .bad, .bad, .bad, .bad, .bad, .bad, .bad, .bad, .bad, .bad, .bad, .bad, .bad, .bad, .bad, .bad, .bad, .bad, .bad, .bad, .bad, .bad, .bad, .bad, .bad, .bad, .bad, .bad, .bad, .bad, .bad, .bad, .bad, .bad, .bad, .bad, .bad, .bad] ∧
      (σ ++ [AO.cells [AV.int .i64 r.kind, .sl a r.nums.length, .sl b r.texts.length] 3 .own]) <+: τ ∧ Own (σ ++ [AO.cells [AV.int .i64 r.kind, .sl a r.nums.length, .sl b r.texts.length] 3 .own]) τ 1 o b' (A ++ encI (r.nums.take i)).length (u8s (A ++ encI (r.nums.take i)))) ?_ _ r.nums.length _ _ (by omega)
      ⟨_, 0, o4, a4, rfl, by omega, by rw [List.take_zero, encI, List.append_nil]; rfl, p4, by rw [List.take_zero, encI, List.append_nil]; exact r4⟩
  rintro q fr τ C ⟨z, i, o, b', rfl, hi, rfl, hp, hown⟩ next fin
  have gh := prefix_get hp g1
  conv => lhs; whnf
  refine ldF rfl rfl rfl gh rfl ?_
  conv => lhs; whnf
  refine bif_case (fun h => ?_) (fun h => ?_)
  · have hlt : i < r.nums.length := by simpa using h
    have hx := ho.ns _ (List.getElem_mem hlt)
    have hs := encI_snoc (r.nums.take i) r.nums[i]
    rw [List.take_append_getElem hlt] at hs
    have hn := ((hr.nums.mono pf).mono hp)
    conv => lhs; whnf
    refine ldF rfl rfl rfl gh rfl ?_
    conv => lhs; whnf
    refine it42.idx hn rfl hlt fun p hq => ?_
    conv => lhs; whnf
    refine it42.ld hq ?_
    conv => lhs; whnf
    refine rput_spec (by omega) hx.1 hx.2 τ _ fun o5 a5 σ5 p5 r5 => ?_
    have ce := encI_len (r.nums.take (i + 1))
    rw [List.length_take] at ce
    conv => lhs; whnf
    refine bt.app (List.IsPrefix.trans hp p5) (hown.mono p5) r5.rw (A ++ encI (r.nums.take (i + 1))) (by rw [hs, List.append_assoc]) (by rw [List.length_append]; omega) fun o6 a6 σ6 p6 _ _ _ r6 => ?_
    conv => lhs; whnf
    exact next (q - 1) _ _ (by omega) ⟨_, i + 1, o6, a6, inc_i64 (by omega), by omega, rfl, p6, r6⟩
  · obtain rfl : i = r.nums.length := by have : ¬ i < r.nums.length := by simpa using h
                                         omega
    rw [List.take_length] at hown
    clear next
    conv => lhs; whnf
    refine fin _ _ _ nofun ?_
    conv => lhs; whnf
    rw [List.take_length]
    refine ldF rfl rfl rfl gh rfl ?_
    conv => lhs; whnf
    refine rput_spec (by omega) (by omega) (by omega) τ _ fun o5 a5 σ5 p5 r5 => ?_
    conv => lhs; whnf
    refine bt.app (List.IsPrefix.trans hp p5) (hown.mono p5) r5.rw (A ++ encI r.nums ++ enc (zigN (r.texts.length : Int))) rfl (by simp only [List.length_append]; omega) fun o6 a6 σ6 p6 _ _ _ r6 => ?_
    have cB : (A ++ encI r.nums ++ enc (zigN (r.texts.length : Int))).length ≤ 500 := by simp only [List.length_append]; omega
    have hP : putR r = A ++ encI r.nums ++ enc (zigN (r.texts.length : Int)) ++ encT r.texts := by rw [← hA]; rfl
    generalize A ++ encI r.nums ++ enc (zigN (r.texts.length : Int)) = B at r6 cB hP
    conv => lhs; whnf
    refine loop_rule (m := 42) (fun q fr τ => ∃ (z : Int) (i : Nat) (o : Option Nat) (b' : SA), z = (i : Int) ∧ i + q = r.texts.length ∧
        fr = [.bad, .ptr (some ⟨σ.length, 0, 0, 3⟩), .bad, .sl b' (B ++ encT (r.texts.take i)).length, .bad, .int .i64 z, .bad, .bad, .bad, .bad, .bad, .bad, .bad, .bad, .bad, .bad, .bad, .bad, .bad, .bad, .bad, .bad, .bad, .bad, .bad, .bad, .bad, .bad, .bad, .bad, .bad, .bad, .bad, .bad, .bad, .bad, .bad, .bad, .bad, .bad, .bad, .bad, .bad, .bad, .bad, .bad, .bad, .bad, .bad, .bad, .bad, .bad, .bad, .bad, .bad, .bad, .bad, .bad] ∧
        (σ ++ [AO.cells [AV.int .i64 r.kind, .sl a r.nums.length, .sl b r.texts.length] 3 .own]) <+: τ ∧ Own (σ ++ [AO.cells [AV.int .i64 r.kind, .sl a r.nums.length, .sl b r.texts.length] 3 .own]) τ 1 o b' (B ++ encT (r.texts.take i)).length (u8s (B ++ encT (r.texts.take i)))) ?_ _ r.texts.length _ _ (by omega)
        ⟨_, 0, o6, a6, rfl, by omega, by rw [List.take_zero, encT, List.append_nil]; rfl, p6, by rw [List.take_zero, encT, List.append_nil]; exact r6⟩
    clear hown fin gh
    rintro q fr τ C ⟨z, i, o, b', rfl, hi, rfl, hp, hown⟩ next fin
    have gh := prefix_get hp g1
    conv => lhs; whnf
    refine ldF rfl rfl rfl gh rfl ?_
    conv => lhs; whnf
    refine bif_case (fun h => ?_) (fun h => ?_)
    · have hlt : i < r.texts.length := by simpa using h
      have hx := m5 _ (List.getElem_mem hlt)
      have hs := encT_snoc (r.texts.take i) r.texts[i]
      rw [List.take_append_getElem hlt] at hs
      have ce := encT_len (r.texts.take (i + 1)) fun t ht => m5 t (List.mem_of_mem_take ht)
      rw [List.length_take] at ce
      have ce2 := congrArg List.length hs
      simp only [List.length_append] at ce2
      have hl : (ints r.texts[i]).length = r.texts[i].length := by simp [ints]
      conv => lhs; whnf
      refine hD.go plan44x10 ord44x10 ?_
      conv => lhs; whnf
      refine ldF rfl rfl rfl gh rfl ?_
      conv => lhs; whnf
      refine tt43.idx (hr.texts.mono pf) rfl hlt fun p hq => ?_
      conv => lhs; whnf
      refine tt43.ld (hq.mono hp) ?_
      conv => lhs; whnf
      refine ldF rfl rfl rfl gh rfl ?_
      conv => lhs; whnf
      refine tt43.idx (hr.texts.mono pf) rfl hlt fun p2 hq2 => ?_
      conv => lhs; whnf
      refine tt43.ld (hq2.mono hp) ?_
      conv => lhs; whnf
      rw [hl]
      refine rput_spec (by omega) (by omega) (by omega) τ _ fun o5 a5 σ5 p5 r5 => ?_
      conv => lhs; whnf
      refine and_true (all_cons ?_ (all_cons ?_ (all_skip rfl (all_skip rfl rfl)))) ?_
      · conv => lhs; whnf
        refine tt43.ld (hq2.mono (List.IsPrefix.trans hp p5)) ?_
        exact same_str _
      · conv => lhs; whnf
        refine ldF rfl rfl rfl (prefix_get (List.IsPrefix.trans hp p5) g1) rfl ?_
        exact same_sl b r.texts.length
      conv => lhs; whnf
      refine bt.app (List.IsPrefix.trans hp p5) (hown.mono p5) r5.rw _ rfl (by simp only [List.length_append]; omega) fun o6 a6 σ6 p6 _ _ _ r6 => ?_
      conv => lhs; whnf
      refine and_true (all_cons ?_ (all_cons ?_ (all_skip rfl (all_skip rfl rfl)))) ?_
      · conv => lhs; whnf
        refine tt43.ld (hq2.mono p6) ?_
        exact same_str _
      · conv => lhs; whnf
        refine ldF rfl rfl rfl (prefix_get p6 g1) rfl ?_
        exact same_sl b r.texts.length
      conv => lhs; whnf
      refine bt.appS p6 r6 (B ++ encT (r.texts.take (i + 1))) (by rw [hs]; simp only [List.append_assoc]) (by simp only [List.length_append]; omega) fun o7 a7 σ7 p7 _ _ _ r7 => ?_
      conv => lhs; whnf
      exact next (q - 1) _ _ (by omega) ⟨_, i + 1, o7, a7, inc_i64 (by omega), by omega, rfl, p7, r7⟩
    · obtain rfl : i = r.texts.length := by have : ¬ i < r.texts.length := by simpa using h
                                            omega
      rw [List.take_length] at hown
      conv => lhs; whnf
      refine fin _ _ _ nofun ?_
      conv => lhs; whnf
      rw [List.take_length, ← hP]
      rw [← hP] at hown
      exact hK1 _ _ _ (List.IsPrefix.trans pf hp) (hown.since pf)
end Go.Proofs.Ytpagagiojnhhfaa
