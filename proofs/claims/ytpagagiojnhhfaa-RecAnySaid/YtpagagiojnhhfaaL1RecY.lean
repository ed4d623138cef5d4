/- RecAny. -/
import Derived.Test.YtpagagiojnhhfaaL1Tells
import Derived.Test.YtpagagiojnhhfaaGmPlain
import Derived.Test.YtpagagiojnhhfaaL1Mark
namespace Go.Proofs.Ytpagagiojnhhfaa
open Go Go.AM Go.AM.St

attribute [local irreducible] IntKind.wrap Int.fdiv Int.tdiv Int.tmod BitVec.ofInt appendK sliceK indexAddrK ldK storeK seenK makeSliceK
set_option maxRecDepth 100000
variable {D : Drawer}

theorem putR_posY (r : RecP) : 0 < (putR r).length := by
  have := enc_pos' (zigN r.kind)
  unfold putR
  simp only [List.length_append]
  omega
theorem recAny_run {n : Nat} (hn : 20000 ≤ n) {a a1 b1 : SA} {bs : List Nat} {r : RecP} {i : Int} {x : Nat} (hx : x < 256) (h2 : i ≤ 9223372036854775807) {σ : H} (ha : Rw σ 1 a bs.length (u8s bs)) (lb : ∀ b ∈ bs, b < 256)
    (hr : IsR σ a1 b1 r) (or : OkR r) (hD : ByPlan Try.prog D) :
    acall Try.prog tab D n 9 [.sl a bs.length, recV a1 b1 r, .int .i64 i, .int .u8 (x : Int)] σ isTrue = true := by
  obtain ⟨n, rfl, hn⟩ := up hn
  have g0 := get_new σ (AO.cells [.int .i64 r.kind, .sl a1 r.nums.length, .sl b1 r.texts.length] 3 .own)
  have pf := List.prefix_append σ [AO.cells [AV.int .i64 r.kind, .sl a1 r.nums.length, .sl b1 r.texts.length] 3 .own]
  conv => lhs; whnf
  refine begun_spec ?_
  conv => lhs; whnf
  refine short_spec (by omega) (m := 60) rfl (by decide) (ha.mono pf) _ fun o2 a2 σ2 p2 r2 => ?_
  have lx : ∀ b ∈ bs.take 60, b < 256 := fun b h => lb b (List.mem_of_mem_take h)
  have sx : (bs.take 60).length ≤ 60 := by rw [List.length_take]; omega
  generalize bs.take 60 = xs at r2 lx sx ⊢
  conv => lhs; whnf
  refine tells_spec (by omega) (by omega) hD r2.rw lx fun σ3 p3 => ?_
  have G3 := prefix_get p3 (prefix_get p2 g0)
  have H3 := hr.mono (List.IsPrefix.trans pf (List.IsPrefix.trans p2 p3))
  conv => lhs; whnf
  refine ldR G3 ?_
  conv => lhs; whnf
  refine rec_spec (by omega) hD H3 fun a4 b4 σ4 p4 r4 => ?_
  have hrn : (cutR r).nums.length ≤ 50 := by show (r.nums.take 45).length ≤ 50; rw [List.length_take]; omega
  have hrt : (cutR r).texts.length ≤ 50 := by show (r.texts.take 45).length ≤ 50; rw [List.length_take]; omega
  have oc := or.cut
  generalize hcr : cutR r = rc at r4 hrn hrt oc ⊢
  conv => lhs; whnf
  refine put_spec_rec (by omega) r4 oc hD (fun hmr σ5 p5 => ?_) (fun hmr o5 pv σ5 p5 r5 => ?_)
  · have G5 := prefix_get p5 (prefix_get p4 G3)
    conv => lhs; whnf
    refine ldR G5 ?_
    conv => lhs; whnf
    refine rec_spec (by omega) hD (H3.mono (List.IsPrefix.trans p4 p5)) fun a6 b6 σ6 p6 r6 => ?_
    rw [hcr] at r6 ⊢
    conv => lhs; whnf
    refine rmay_spec (by omega) hrt hrn r6 fun σ7 p7 => ?_
    rw [hmr]
    conv => lhs; whnf
  · have G5 := prefix_get p5 (prefix_get p4 G3)
    have hl := putR_len hmr
    have hpos : 0 < (putR rc).length := by have := putR_posY rc; omega
    have hcut := fun k hk => recGet_cut (r := rc) hmr oc.ns (k := k) hk
    have hb := putR_lt (r := rc) fun t ht => (oc.ts t ht).1
    generalize putR rc = ps at r5 hl hpos hcut hb ⊢
    conv => lhs; whnf
    by_cases hlt : i < 0
    case' pos =>
      refine bif_pos (by simpa using hlt) ?_
      conv => lhs; whnf
    case' neg =>
      refine bif_neg (by simpa using hlt) ?_
      conv => lhs; whnf
      by_cases h300 : 300 < ps.length
      case' pos =>
        refine bif_pos (by simp; omega) ?_
        conv => lhs; whnf
      case' neg =>
        refine bif_neg (by simp; omega) ?_
        conv => lhs; whnf
    case neg =>
      obtain ⟨k, rfl⟩ : ∃ k : Nat, i = (k : Int) := ⟨i.toNat, by omega⟩
      have hk : k % ps.length < ps.length := Nat.mod_lt _ hpos
      have hc5 := hcut _ hk
      have hkl : (ps.take (k % ps.length)).length = k % ps.length := by rw [List.length_take]; omega
      have hkb : ∀ b ∈ ps.take (k % ps.length), b < 256 := fun b h => hb b (List.mem_of_mem_take h)
      refine bif_neg (by rw [beq_eq_false_iff_ne]; omega) ?_
      conv => lhs; whnf
      refine bt.slice r5.rw 0 (k % ps.length) (.inl ⟨rfl, rfl⟩) (.inr ⟨_, _, rfl, iMod⟩) (Nat.zero_le _) (by omega) (ps.take (k % ps.length)) (by rw [List.drop_zero]) fun a6 r6 => ?_
      conv => lhs; whnf
      refine recGet_spec (by omega) (by omega) hD r6 hkb fun c d σ6 p6 i6 => ?_
      rw [hc5]
      conv => lhs; whnf
      refine storeNewR rfl rfl fun τ hτ => ?_
      have P6 : σ5 <+: τ := by rw [hτ]; exact prefix_add p6 _
      have hb0 : ps[k % ps.length] < 256 := hb _ (List.getElem_mem _)
      have hxr : ps[k % ps.length] ^^^ x < 256 := Nat.xor_lt_two_pow (n := 8) hb0 hx
      have R5 := r5.rw.mono P6
      conv => lhs; whnf
      refine bt.clone R5 hpos (by omega) ?_
      have g1 : (τ ++ [AO.cells (u8s ps) 1 .own])[τ.length]? = some (AO.cells (u8s ps) 1 .own) := get_new _ _
      conv => lhs; whnf
      refine bt.idx0 iMod hk ?_
      conv => lhs; whnf
      refine bt.ldAt g1 hk ?_
      conv => lhs; whnf
      refine bt.idx0 iMod hk ?_
      conv => lhs; whnf
      refine bt.store g1 hk (xor_eq hb0 hx) ?_
      rw [List.set_append_right _ _ (Nat.le_refl _), Nat.sub_self]
      have r2 : Rw (τ ++ [AO.cells (u8s (ps.set (k % ps.length) (ps[k % ps.length] ^^^ x))) 1 .own]) 1 (.at τ.length 0 1) (ps.set (k % ps.length) (ps[k % ps.length] ^^^ x)).length (u8s (ps.set (k % ps.length) (ps[k % ps.length] ^^^ x))) :=
        Rw.new _ _ (by rw [u8s_len, Nat.mul_one])
      have hs : ∀ b ∈ ps.set (k % ps.length) (ps[k % ps.length] ^^^ x), b < 256 := fun b h => by
        rcases List.mem_or_eq_of_mem_set h with h | h
        · exact hb b h
        · rw [h]; exact hxr
      have hll : (ps.set (k % ps.length) (ps[k % ps.length] ^^^ x)).length = ps.length := List.length_set
      have R5 := R5.mono (List.prefix_append τ [AO.cells (u8s (ps.set (k % ps.length) (ps[k % ps.length] ^^^ x))) 1 .own])
      have r2 : Rw (τ ++ [AO.cells (u8s (ps.set (k % ps.length) (ps[k % ps.length] ^^^ x))) 1 .own]) 1 (.at τ.length 0 1) ps.length (u8s (ps.set (k % ps.length) (ps[k % ps.length] ^^^ x))) := by rw [hll] at r2; exact r2
      show (_ : Bool) = true
      generalize ps.set (k % ps.length) (ps[k % ps.length] ^^^ x) = qs at r2 hs hll R5 ⊢
      conv => lhs; whnf
      refine tells_len hll (by omega) (by omega) hD r2 hs fun σ8 p8 => ?_
      conv => lhs; whnf
      refine bt.slice (R5.mono p8) 0 (k % ps.length) (.inl ⟨rfl, rfl⟩) (.inr ⟨_, _, rfl, iMod⟩) (Nat.zero_le _) (by omega) (ps.take (k % ps.length)) (by rw [List.drop_zero]) fun a7 r7 => ?_
      conv => lhs; whnf
      refine tells_spec (by omega) (by omega) hD r7 hkb fun σ9 p9 => ?_
      conv => lhs; whnf
    all_goals
      refine ldR G5 ?_
      conv => lhs; whnf
      refine rec_spec (by omega) hD (H3.mono (List.IsPrefix.trans p4 p5)) fun a6 b6 σ6 p6 r6 => ?_
      rw [hcr] at r6 ⊢
      conv => lhs; whnf
      refine rmay_spec (by omega) hrt hrn r6 fun σ7 p7 => ?_
      rw [hmr]
      conv => lhs; whnf

theorem recAny_law (σ : H) (vs : List AV) (h : ArgsShp Try.prog σ 9 [25, 45, 3, 5] vs) : ∃ n, acall Try.prog tab (drawRegion Try.prog) n 9 vs σ isTrue = true := by
  obtain ⟨a, vs, rfl, ha, h⟩ := args_cons h
  obtain ⟨b, vs, rfl, hb, h⟩ := args_cons h
  obtain ⟨c, vs, rfl, hc, h⟩ := args_cons h
  obtain ⟨d, vs, rfl, hd, h⟩ := args_cons h
  obtain rfl := args_nil h
  obtain ⟨s, bs, rfl, a1, a2, a3⟩ := arg_bytes Try.underlying25 Try.underlying5 rfl ha
  obtain ⟨b1, b2, r, rfl, i2, o2⟩ := rec_arg hb
  obtain ⟨q, rfl, e1, e2⟩ := arg_int Try.underlying3 hc
  obtain ⟨u, rfl, hu⟩ := arg_nat rfl Try.underlying5 hd
  exact ⟨20000, recAny_run (Nat.le_refl _) hu e2 a1 a3 i2 o2 (byPlan _)⟩
end Go.Proofs.Ytpagagiojnhhfaa
