/- FrameTurn. -/
import Derived.Test.YtpagagiojnhhfabL1Scan
import Derived.Test.YtpagagiojnhhfabPTurn
namespace Go.Proofs.Ytpagagiojnhhfab
open Go Go.AM Go.AM.St

theorem storeNewR {ρ τ0 : H} {id : Nat} {a b : SA} {r : RecP} {x y z : AV} {K : H → Bool} (h0 : ρ = τ0 ++ [AO.cells [x, y, z] 3 .own]) (hi : id = τ0.length)
    (hK : ∀ τ, τ = τ0 ++ [AO.cells [.int .i64 r.kind, .sl a r.nums.length, .sl b r.texts.length] 3 .own] → K τ = true) : storeK Try.prog 25 (.ptr (some ⟨id, 0, 0, 3⟩)) (recV a b r) ρ K = true := by
  subst h0 hi
  refine storeS rfl (get_new _ _) rfl rfl (Nat.le_refl 3) rfl ?_
  rw [List.set_append_right _ _ (Nat.le_refl _), Nat.sub_self, List.set_cons_zero]
  exact hK _ rfl

attribute [local irreducible] IntKind.wrap Int.fdiv Int.tdiv Int.tmod BitVec.ofInt sliceK seenK makeSliceK
set_option maxRecDepth 100000
variable {D : Drawer}

theorem get_u8 {bs : List Nat} {m j : Nat} {K : AV → Bool} (hm : m = j) (hj : j < bs.length) (h : K (.int .u8 ((bs[j] : Nat) : Int)) = true) : (match (u8s bs)[m]? with | some v => K v | none => false) = true := by
  subst hm
  have : (u8s bs)[m]? = some (.int .u8 ((bs[m] : Nat) : Int)) := by unfold u8s; rw [List.getElem?_map, List.getElem?_eq_getElem hj]; rfl
  rw [this]; exact h
theorem set_u8 {σ : H} {ps : List Nat} {m m' j w : Nat} {y : Int} {K : H → Bool} (hv : y = (w : Int)) (hm : m = j) (hm' : m' = j + 1) (hj : j < ps.length) (h : K (σ ++ [AO.cells (u8s (ps.set j w)) 1 .own]) = true) :
    K (List.set (σ ++ [AO.cells (u8s ps) 1 .own]) σ.length (AO.cells ((u8s ps).take m ++ [AV.int .u8 y] ++ (u8s ps).drop m') 1 .own)) = true := by
  subst hv hm hm'
  have e : (u8s ps).take m ++ [AV.int .u8 (w : Int)] ++ (u8s ps).drop (m + 1) = u8s (ps.set m w) := by
    have h1 : (u8s ps).set m (AV.int .u8 (w : Int)) = u8s (ps.set m w) := by simp [u8s, List.map_set]
    rw [← h1, List.set_eq_take_append_cons_drop, if_pos (by rw [u8s_len]; exact hj), List.append_assoc]
    rfl
  rw [e, List.set_append_right _ _ (Nat.le_refl _), Nat.sub_self]
  exact h
theorem fget_len {n : Nat} {a : SA} {bs : List Nat} {l : Nat} (hll : bs.length = l) (hn : l + 200 ≤ n) (hl : l < 1000000) (hD : ByPlan Try.prog D) {σ : H} (ha : Rw σ 1 a l (u8s bs)) (hb : ∀ b ∈ bs, b < 256) {K : AV → H → Bool}
    (hK : ∀ a' b' σ', σ <+: σ' → IsR σ' a' b' (getF bs).1 → K (.tup [recV a' b' (getF bs).1, .int .i64 ((getF bs).2.1 : Nat), .int .i64 ((getF bs).2.2 : Nat)]) σ' = true) :
    acall Try.prog tab D n 8 [.sl a l] σ K = true := by
  subst hll
  exact fget_spec hn hl hD ha hb hK
theorem scan_len {n : Nat} {a : SA} {bs : List Nat} {l : Nat} (hll : bs.length = l) (hn : l + 300 ≤ n) (hl : l < 1000000) (hD : ByPlan Try.prog D) {σ : H} (ha : Rw σ 1 a l (u8s bs)) (hb : ∀ b ∈ bs, b < 256) {K : AV → H → Bool}
    (hK : ∀ w (W : List El) σ', σ <+: σ' → W.map (·.2.2) = (scanF bs).1 → K (.tup [.sl w W.length, .int .i64 ((scanF bs).2 : Nat)]) σ' = true) :
    acall Try.prog tab D n 9 [.sl a l] σ K = true := by
  subst hll
  exact scan_spec hn hl hD ha hb fun _ w W σ' p _ e _ => hK w W σ' p e

theorem frameTurn_run {n : Nat} (hn : 20000 ≤ n) {a1 b1 : SA} {r : RecP} {i : Int} {x : Nat} (hx : x < 256) (h2 : -9223372036854775808 ≤ i ∧ i ≤ 9223372036854775807) {σ : H}
    (hr : IsR σ a1 b1 r) (or : OkR r) (hD : ByPlan Try.prog D) :
    acall Try.prog tab D n 3 [recV a1 b1 r, .int .i64 i, .int .u8 (x : Int)] σ isTrue = true := by
  obtain ⟨n, rfl, hn⟩ := up hn
  have g0 := get_new σ (AO.cells [.int .i64 r.kind, .sl a1 r.nums.length, .sl b1 r.texts.length] 3 .own)
  have pf := List.prefix_append σ [AO.cells [AV.int .i64 r.kind, .sl a1 r.nums.length, .sl b1 r.texts.length] 3 .own]
  conv => lhs; whnf
  refine begun_spec ?_
  conv => lhs; whnf
  refine ldR g0 ?_
  conv => lhs; whnf
  refine rec_spec (by omega) hD (hr.mono pf) fun a4 b4 σ4 p4 r4 => ?_
  have hrn : (cutR r).nums.length ≤ 50 := by show (r.nums.take 45).length ≤ 50; rw [List.length_take]; omega
  have hrt : (cutR r).texts.length ≤ 50 := by show (r.texts.take 45).length ≤ 50; rw [List.length_take]; omega
  have oc := or.cut
  generalize hcr : cutR r = rc at r4 hrn hrt oc ⊢
  conv => lhs; whnf
  refine fput_spec (by omega) r4 oc hD (fun hmr σ5 p5 => ?_) (fun hmr o5 pv σ5 p5 r5 => ?_)
  · have G5 := prefix_get p5 (prefix_get p4 g0)
    conv => lhs; whnf
    refine ldR G5 ?_
    conv => lhs; whnf
    refine rec_spec (by omega) hD (hr.mono (List.IsPrefix.trans pf (List.IsPrefix.trans p4 p5))) fun a6 b6 σ6 p6 r6 => ?_
    rw [hcr] at r6 ⊢
    conv => lhs; whnf
    refine rmay_spec (by omega) hrt hrn r6 fun σ7 p7 => ?_
    rw [hmr]
    conv => lhs; whnf
  · have G5 := prefix_get p5 (prefix_get p4 g0)
    have H5 := hr.mono (List.IsPrefix.trans pf (List.IsPrefix.trans p4 p5))
    have hl := putF_len hmr
    have hpl := putF_length rc
    have hb := putF_lt (r := rc) fun t ht => (oc.ts t ht).1
    have hpos := putR_pos rc
    have ht := fun i y => getF_turn (r := rc) (i := i) (y := y) hmr hb
    generalize putF rc = ps at r5 hl hpl hb ht ⊢
    conv => lhs; whnf
    by_cases hlt : i < 0
    case' pos =>
      refine bif_pos (by simpa using hlt) ?_
      conv => lhs; whnf
    case' neg =>
      refine bif_neg (by simpa using hlt) ?_
      conv => lhs; whnf
      by_cases h0 : x = 0
      case' pos =>
        refine bif_pos (by simp; omega) ?_
        conv => lhs; whnf
      case' neg =>
        refine bif_neg (by simp; omega) ?_
        conv => lhs; whnf
    case neg =>
      refine bif_neg (by simp; omega) ?_
      conv => lhs; whnf
      refine bif_neg (by rw [beq_eq_false_iff_ne]; omega) ?_
      conv => lhs; whnf
      refine bif_pos (decide_eq_true ?_) ?_
      · show (0 + ps.length) * 1 ≤ 140737488355328
        omega
      conv => lhs; whnf
      refine seenK_rw r5.rw ?_
      obtain ⟨k, rfl⟩ : ∃ k : Nat, i = (k : Int) := ⟨i.toNat, by omega⟩
      have hk : k % (ps.length - 2) < ps.length - 2 := Nat.mod_lt _ (by omega)
      have ew : IntKind.i64.wrap ((ps.length : Int) - 2) = ((ps.length - 2 : Nat) : Int) := by rw [wrap_i64 (by omega) (by omega)]; omega
      have g1 : (σ5 ++ [AO.cells (u8s ps) 1 .own])[σ5.length]? = some (AO.cells (u8s ps) 1 .own) := get_new _ _
      conv => lhs; whnf
      refine bif_neg (by rw [ew, beq_eq_false_iff_ne]; omega) ?_
      rw [ew, iMod]
      obtain ⟨j, hjd⟩ : ∃ j, 2 + k % (ps.length - 2) = j := ⟨_, rfl⟩
      have eq2 : IntKind.i64.wrap (2 + ((k % (ps.length - 2) : Nat) : Int)) = (j : Int) := by rw [wrap_i64 (by omega) (by omega)]; omega
      have hj : j < ps.length := by omega
      have hb0 : ps[j] < 256 := hb _ (List.getElem_mem _)
      have hxr : ps[j] ^^^ x < 256 := Nat.xor_lt_two_pow (n := 8) hb0 hx
      have hne : ps[j] ≠ ps[j] ^^^ x := fun e => by
        have := congrArg (ps[j] ^^^ ·) e
        simp only [Nat.xor_self, ← Nat.xor_assoc, Nat.zero_xor] at this
        exact h0 this.symm
      have hturn := ht _ _ (by omega) hj hxr hne
      conv => lhs; whnf
      rw [eq2]
      refine bif_pos ?_ ?_
      · simp; omega
      conv => lhs; whnf
      refine rowK_of g1 ?_
      conv => lhs; whnf
      refine get_u8 (j := j) ?_ hj ?_
      · show 0 + j * 1 + 0 = j
        omega
      conv => lhs; whnf
      refine bif_pos ?_ ?_
      · simp; omega
      conv => lhs; whnf
      refine rowK_of g1 ?_
      conv => lhs; whnf
      refine bif_pos ?_ ?_
      · show (true && 1 == 1 && decide (0 + 1 ≤ 1) && decide (0 + j * 1 + 0 + 0 + 1 ≤ (u8s ps).length) && true) = true
        rw [u8s_len]
        simp
        omega
      refine set_u8 (j := j) (xor_eq hb0 hx) ?_ ?_ hj ?_
      · show 0 + j * 1 + 0 + 0 = j
        omega
      · show 0 + j * 1 + 0 + 0 + 1 = j + 1
        omega
      have r2 : Rw (σ5 ++ [AO.cells (u8s (ps.set j (ps[j] ^^^ x))) 1 .own]) 1 (.at σ5.length 0 1) (ps.set j (ps[j] ^^^ x)).length (u8s (ps.set j (ps[j] ^^^ x))) :=
        Rw.new _ _ (by rw [u8s_len, Nat.mul_one])
      have hs : ∀ b ∈ ps.set j (ps[j] ^^^ x), b < 256 := fun b h => by
        rcases List.mem_or_eq_of_mem_set h with h | h
        · exact hb b h
        · rw [h]; exact hxr
      have hll : (ps.set j (ps[j] ^^^ x)).length = ps.length := List.length_set
      rw [hll] at r2
      have hsc := scanF_bad (bs := ps.set j (ps[j] ^^^ x)) (by rw [hturn]; decide)
      show (_ : Bool) = true
      generalize ps.set j (ps[j] ^^^ x) = qs at r2 hs hll hturn hsc ⊢
      conv => lhs; whnf
      refine fget_len hll (by omega) (by omega) hD r2 hs fun c d σ8 p8 i8 => ?_
      rw [hturn]
      conv => lhs; whnf
      refine storeNewR rfl rfl fun τ hτ => ?_
      have P8 : (σ5 ++ [AO.cells (u8s qs) 1 .own]) <+: τ := by rw [hτ]; exact prefix_add p8 _
      conv => lhs; whnf
      refine scan_len hll (by omega) (by omega) hD (r2.mono P8) hs fun w9 W9 σ9 p9 e9 => ?_
      rw [hsc] at e9 ⊢
      have h9 : W9 = [] := List.map_eq_nil_iff.1 e9
      subst h9
      conv => lhs; whnf
    all_goals
      refine ldR G5 ?_
      conv => lhs; whnf
      refine rec_spec (by omega) hD H5 fun a6 b6 σ6 p6 r6 => ?_
      rw [hcr] at r6 ⊢
      conv => lhs; whnf
      refine rmay_spec (by omega) hrt hrn r6 fun σ7 p7 => ?_
      rw [hmr]
      conv => lhs; whnf

theorem frameTurn_law (σ : H) (vs : List AV) (h : ArgsShp Try.prog σ 9 [25, 3, 5] vs) : ∃ n, acall Try.prog tab (drawRegion Try.prog) n 3 vs σ isTrue = true := by
  obtain ⟨b, vs, rfl, hb, h⟩ := args_cons h
  obtain ⟨c, vs, rfl, hc, h⟩ := args_cons h
  obtain ⟨d, vs, rfl, hd, h⟩ := args_cons h
  obtain rfl := args_nil h
  obtain ⟨b1, b2, r, rfl, i2, o2⟩ := rec_arg hb
  obtain ⟨q, rfl, e1, e2⟩ := arg_int Try.underlying3 hc
  obtain ⟨u, rfl, hu⟩ := arg_nat rfl Try.underlying5 hd
  exact ⟨20000, frameTurn_run (Nat.le_refl _) hu ⟨e1, e2⟩ i2 o2 (byPlan _)⟩
end Go.Proofs.Ytpagagiojnhhfab
