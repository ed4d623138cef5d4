/- FrameAll. -/
import Derived.Test.YtpagagiojnhhfaaL1RefF
import Derived.Test.YtpagagiojnhhfaaL1Tells
namespace Go.Proofs.Ytpagagiojnhhfaa
open Go Go.AM Go.AM.St

theorem getF_small (bs : List Nat) : (getF bs).1.nums.length ≤ 40 ∧ (getF bs).1.texts.length ≤ 40 := by
  have h : (getF bs).1 = ⟨0, [], []⟩ ∨ (getF bs).1 = (recGet (getFB bs)).1 := by
    unfold getF
    by_cases h1 : bs.length < 6
    · rw [if_pos h1]; exact .inl rfl
    · rw [if_neg h1]
      by_cases h2 : bs.length < getFN bs
      · rw [if_pos h2]; exact .inl rfl
      · rw [if_neg h2]
        by_cases h3 : getFbad bs
        · rw [if_pos h3]; exact .inl rfl
        · rw [if_neg h3]; exact .inr rfl
  rcases h with h | h
  · rw [h]; exact ⟨Nat.zero_le _, Nat.zero_le _⟩
  · rw [h]; exact recGet_small _
theorem idx58 {σ : H} {s : SA} {l : List AV} {n : Nat} (hs : Rw σ 1 s n l) {k : IntKind} {y : Int} {i : Nat} {K : AV → Bool} (hy : y = (i : Int)) (hi : i < n) {e : AV} (he : (l.drop (i * 1)).take 1 = [e]) (hK : ∀ p, Elem σ 1 p [e] → K (.ptr (some p)) = true) :
    indexAddrK Try.prog 58 (.sl s n) (.int k y) K = true := indexAddrK_rw Try.underlying58 (fun _ => rfl) hs hy hi he hK
theorem ld25 {σ : H} {p : PA} {a : SA} {n : Nat} {K : AV → Bool} (hp : Elem σ 1 p [.sl a n]) (hK : K (.sl a n) = true) : ldK Try.prog 25 σ p K = true := by
  refine ldK_leaf Try.underlying25 rfl nofun nofun hp ?_
  unfold castT
  rw [Try.underlying25]
  exact hK
theorem storeOldR {ρ : H} {id : Nat} {a b : SA} {r : RecP} {x y z : AV} {K : H → Bool} (hg : ρ[id]? = some (AO.cells [x, y, z] 3 .own))
    (hK : ∀ τ, τ = ρ.set id (AO.cells [.int .i64 r.kind, .sl a r.nums.length, .sl b r.texts.length] 3 .own) → K τ = true) : storeK Try.prog 45 (.ptr (some ⟨id, 0, 0, 3⟩)) (recV a b r) ρ K = true := by
  refine storeS rfl hg rfl rfl (Nat.le_refl 3) rfl ?_
  exact hK _ rfl

attribute [local irreducible] IntKind.wrap Int.fdiv Int.tdiv Int.tmod BitVec.ofInt appendK sliceK indexAddrK ldK storeK seenK makeSliceK
set_option maxRecDepth 100000
variable {D : Drawer}

def putFm (r : RecP) : List Nat := bif mayR r then putF r else []
theorem putFm_len (r : RecP) : (putFm r).length ≤ 9006 := by
  unfold putFm
  cases h : mayR r
  · exact Nat.zero_le _
  · exact putF_len h
theorem putFm_lt {r : RecP} (h : ∀ t ∈ r.texts, ∀ b ∈ t, b < 256) : ∀ b ∈ putFm r, b < 256 := by
  unfold putFm
  cases mayR r
  · intro b hb; cases hb
  · exact putF_lt h
theorem fput_any {n : Nat} (hn : 10000 ≤ n) {a b : SA} {r : RecP} {σ : H} (hr : IsR σ a b r) (ho : OkR r) (hD : ByPlan Try.prog D) {K : AV → H → Bool}
    (hK : ∀ a σ', σ <+: σ' → Rw σ' 1 a (putFm r).length (u8s (putFm r)) → K (.tup [.sl a (putFm r).length, .bool (mayR r)]) σ' = true) :
    acall Try.prog tab D n 46 [recV a b r] σ K = true := by
  refine fput_spec hn hr ho hD (fun hm σ' p => ?_) (fun hm o a σ' p h => ?_)
  · have e : putFm r = [] := by unfold putFm; rw [hm]; rfl
    have := hK .nil σ' p (by rw [e]; exact Rw.nil _ _)
    rw [e, hm] at this
    exact this
  · have e : putFm r = putF r := by unfold putFm; rw [hm]; rfl
    have := hK a σ' p (by rw [e]; exact h.rw)
    rw [e, hm] at this
    exact this
theorem rframe_any {n : Nat} (hn : 10000 ≤ n) {a b : SA} {r : RecP} {σ : H} (h50 : r.texts.length ≤ 50) (h51 : r.nums.length ≤ 50) (hr : IsR σ a b r) (ho : OkR r) (hD : ByPlan Try.prog D) {K : AV → H → Bool}
    (hK : ∀ a σ', σ <+: σ' → Rw σ' 1 a (putFm r).length (u8s (putFm r)) → K (.tup [.sl a (putFm r).length, .bool (mayR r)]) σ' = true) :
    acall Try.prog tab D n 47 [recV a b r] σ K = true := by
  refine rframe_spec hn h50 h51 hr ho hD (fun hm σ' p => ?_) (fun hm o a σ' p h => ?_)
  · have e : putFm r = [] := by unfold putFm; rw [hm]; rfl
    have := hK .nil σ' p (by rw [e]; exact Rw.nil _ _)
    rw [e, hm] at this
    exact this
  · have e : putFm r = putF r := by unfold putFm; rw [hm]; rfl
    have := hK a σ' p (by rw [e]; exact h.rw)
    rw [e, hm] at this
    exact this

theorem frameAll_run {n : Nat} (hn : 20000 ≤ n) {a a1 b1 : SA} {bs : List Nat} {r : RecP} {σ : H} (ha : Rw σ 1 a bs.length (u8s bs)) (lb : ∀ b ∈ bs, b < 256)
    (hr : IsR σ a1 b1 r) (or : OkR r) (hD : ByPlan Try.prog D) :
    acall Try.prog tab D n 10 [recV a1 b1 r, .sl a bs.length] σ isTrue = true := by
  obtain ⟨n, rfl, hn⟩ := up hn
  have g0 := get_new σ (AO.cells [.int .i64 r.kind, .sl a1 r.nums.length, .sl b1 r.texts.length] 3 .own)
  have pf := List.prefix_append σ [AO.cells [AV.int .i64 r.kind, .sl a1 r.nums.length, .sl b1 r.texts.length] 3 .own]
  conv => lhs; whnf
  refine begun_spec ?_
  conv => lhs; whnf
  refine ldR g0 ?_
  conv => lhs; whnf
  refine rec_spec (by omega) hD (hr.mono pf) fun a4 b4 σ4 p4 r4 => ?_
  have hrn : (cutR r).nums.length ≤ 50 := by show (r.nums.take 45).length ≤ 50; rw [List.length_take]; omega
  have hrt : (cutR r).texts.length ≤ 50 := by show (r.texts.take 45).length ≤ 50; rw [List.length_take]; omega
  have oc := or.cut
  generalize hcr : cutR r = rc at r4 hrn hrt oc ⊢
  conv => lhs; whnf
  refine short_spec (by omega) (m := 60) rfl (by decide) ((ha.mono pf).mono p4) _ fun o2 a2 σ2 p2 r2 => ?_
  have lx : ∀ b ∈ bs.take 60, b < 256 := fun b h => lb b (List.mem_of_mem_take h)
  have sx : (bs.take 60).length ≤ 60 := by rw [List.length_take]; omega
  generalize bs.take 60 = xs at r2 lx sx ⊢
  have G2 := prefix_get p2 (prefix_get p4 g0)
  have i2 := r4.mono p2
  conv => lhs; whnf
  refine storeOldR G2 fun τ hτ => ?_
  have T : τ[σ.length]? = some (AO.cells [.int .i64 rc.kind, .sl a4 rc.nums.length, .sl b4 rc.texts.length] 3 .own) := hτ ▸ get_set G2 _
  have I : IsR τ a4 b4 rc := hτ ▸ ⟨Rw.set i2.nums G2 (by decide), Rw.set i2.texts G2 (by decide)⟩
  have X : Rw τ 1 a2 xs.length (u8s xs) := hτ ▸ Rw.set r2.rw G2 (by decide)
  clear hτ G2 i2
  conv => lhs; whnf
  refine ldR T ?_
  conv => lhs; whnf
  refine fput_any (by omega) I oc hD fun a5 σ5 p5 r5 => ?_
  have hpl := putFm_len rc
  have hpb := putFm_lt (r := rc) fun t ht => (oc.ts t ht).1
  generalize hmr : mayR rc = ok
  generalize hps : putFm rc = ps at r5 hpl hpb ⊢
  cases ok
  all_goals
    conv => lhs; whnf
    refine ldR (prefix_get p5 T) ?_
    conv => lhs; whnf
    refine rframe_any (by omega) hrt hrn (I.mono p5) oc hD fun a6 σ6 p6 r6 => ?_
    rw [hmr]
    rw [hps] at r6 ⊢
    conv => lhs; whnf
    refine strK_rw (r5.mono p6) hpb ?_
    conv => lhs; whnf
    refine strK_rw r6 hpb ?_
    conv => lhs; whnf
    refine bif_neg (by simp) ?_
    conv => lhs; whnf
    refine bt.app (List.prefix_refl _) (xs := []) (Own.nil _ _ _) (r5.mono p6) _ rfl (by rw [List.nil_append]; omega) fun o7 a7 σ7 p7 _ _ _ r7 => ?_
    rw [List.nil_append] at r7 ⊢
    conv => lhs; whnf
    refine bt.app p7 r7 (((X.mono p5).mono p6).mono p7) (ps ++ xs) rfl (by rw [List.length_append]; omega) fun o8 a8 σ8 p8 _ _ _ r8 => ?_
    have X8 := ((X.mono p5).mono p6).mono p8
    have hcl : (ps ++ xs).length ≤ 10000 := by rw [List.length_append]; omega
    have hcb : ∀ b ∈ ps ++ xs, b < 256 := fun b h => (List.mem_append.1 h).elim (hpb b) (lx b)
    generalize ps ++ xs = cs at r8 hcl hcb ⊢
    conv => lhs; whnf
    refine loop_rule (m := 31525197391593472) (fun q fr τ' => ∃ (z : Int) (j : Nat), z = (j : Int) ∧ j + q = 2 ∧ fr = [.bad, .bad, .bad, .bad, .bad, .bad, .bad, .bad, .bad, .bad, .bad, .bad, .bad, .bad, .bad, .bad, .bad, .bad, .bad, .bad, .bad, .bad, .bad, .bad, .bad, .bad, .bad, .bad, .bad, .bad, .bad, .bad, .bad, .bad, .bad, .bad, .bad, .bad, .bad, .bad, .bad, .bad, .bad, .bad, .bad, .bad, .bad, .bad, .bad, .bad, .bad, .bad, .sl (.at σ8.length 0 1) 2, .int .i64 2, .int .i64 z, .bad, .bad, .bad, .bad, .bad, .bad, .bad, .bad, .bad, .bad, .bad, .bad, .bad, .bad, .bad, .bad, .bad, .bad, .bad, .bad, .bad, .bad, .bad, .bad, .bad, .bad, .bad, .bad, .bad, .bad] ∧ σ8 <+: τ' ∧
        Rw τ' 1 (.at σ8.length 0 1) 2 [.sl a2 xs.length, .sl a8 cs.length]) ?_ _ 2 _ _ (by omega) ⟨_, 0, rfl, by omega, rfl, List.prefix_append _ _, Rw.new _ _ rfl⟩
    rintro q fr τ' C ⟨z, j, rfl, hq, rfl, hp, hw⟩ next fin
    conv => lhs; whnf
    refine bif_case (fun h => ?_) (fun h => ?_)
    · have hj : j < 2 := by
        have : (j : Int) < 2 := by simpa using h
        omega
      obtain ⟨ta, ts, he, ht, hl, hb⟩ : ∃ ta ts, ([AV.sl a2 xs.length, AV.sl a8 cs.length].drop (j * 1)).take 1 = [AV.sl ta ts.length] ∧ Rw τ' 1 ta ts.length (u8s ts) ∧ ts.length ≤ 10000 ∧ ∀ b ∈ ts, b < 256 := by
        rcases (by omega : j = 0 ∨ j = 1) with rfl | rfl
        · exact ⟨a2, xs, rfl, X8.mono hp, by omega, lx⟩
        · exact ⟨a8, cs, rfl, r8.rw.mono hp, hcl, hcb⟩
      conv => lhs; whnf
      refine idx58 hw rfl hj he fun p hpe => ?_
      conv => lhs; whnf
      refine ld25 hpe ?_
      conv => lhs; whnf
      refine fget_spec (by omega) (by omega) hD ht hb fun c1 d1 τ1 q1 i1 => ?_
      have hsm := getF_small ts
      conv => lhs; whnf
      refine storeNewR rfl rfl fun τ2 hτ2 => ?_
      have T2 : τ2[τ1.length]? = some (AO.cells [.int .i64 (getF ts).1.kind, .sl c1 (getF ts).1.nums.length, .sl d1 (getF ts).1.texts.length] 3 .own) := hτ2 ▸ get_new _ _
      have q2 : τ1 <+: τ2 := hτ2 ▸ List.prefix_append _ _
      have i2 := i1.mono q2
      clear hτ2
      conv => lhs; whnf
      refine rfget_spec (by omega) (by omega) hD ((ht.mono q1).mono q2) hb fun c3 d3 τ3 q3 i3 => ?_
      conv => lhs; whnf
      refine storeNewR rfl rfl fun τ4 hτ4 => ?_
      have T4 : τ4[τ3.length]? = some (AO.cells [.int .i64 (getF ts).1.kind, .sl c3 (getF ts).1.nums.length, .sl d3 (getF ts).1.texts.length] 3 .own) := hτ4 ▸ get_new _ _
      have q4 : τ3 <+: τ4 := hτ4 ▸ List.prefix_append _ _
      have i4 := i3.mono q4
      clear hτ4
      conv => lhs; whnf
      refine ldR (prefix_get q4 (prefix_get q3 T2)) ?_
      conv => lhs; whnf
      refine ldR T4 ?_
      conv => lhs; whnf
      refine req_spec (by omega) (by omega) (by omega) hD ((i2.mono q3).mono q4) i4 fun τ5 q5 => ?_
      rw [recEq_self]
      conv => lhs; whnf
      refine bif_neg (by simp) ?_
      conv => lhs; whnf
      refine bif_neg (by simp) ?_
      conv => lhs; whnf
      exact next (q - 1) _ _ (by omega) ⟨_, j + 1, inc_i64 (by omega), by omega, rfl, List.IsPrefix.trans hp (List.IsPrefix.trans q1 (List.IsPrefix.trans q2 (List.IsPrefix.trans q3 (List.IsPrefix.trans q4 q5)))), hw.mono (List.IsPrefix.trans q1 (List.IsPrefix.trans q2 (List.IsPrefix.trans q3 (List.IsPrefix.trans q4 q5))))⟩
    · conv => lhs; whnf
      refine fin _ _ _ nofun ?_
      conv => lhs; whnf

theorem frameAll_law (σ : H) (vs : List AV) (h : ArgsShp Try.prog σ 9 [45, 25] vs) : ∃ n, acall Try.prog tab (drawRegion Try.prog) n 10 vs σ isTrue = true := by
  obtain ⟨b, vs, rfl, hb, h⟩ := args_cons h
  obtain ⟨a, vs, rfl, ha, h⟩ := args_cons h
  obtain rfl := args_nil h
  obtain ⟨s, bs, rfl, a1, a2, a3⟩ := arg_bytes Try.underlying25 Try.underlying5 rfl ha
  obtain ⟨b1, b2, r, rfl, i2, o2⟩ := rec_arg hb
  exact ⟨20000, frameAll_run (Nat.le_refl _) a1 a3 i2 o2 (byPlan _)⟩
end Go.Proofs.Ytpagagiojnhhfaa
