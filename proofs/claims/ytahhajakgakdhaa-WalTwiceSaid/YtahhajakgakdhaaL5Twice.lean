/- WalTwice. -/
import Derived.Test.YtahhajakgakdhaaL5AnyP
namespace Go.Proofs.Ytahhajakgakdhaa
set_option maxRecDepth 100000
open Go Go.AM Go.AM.St
theorem scan_stable : ∀ (m : Nat) (bs : List Nat) (m' : Nat), bs.length < m → (bs.take (scanL m bs).2).length < m' → scanL m' (bs.take (scanL m bs).2) = scanL m bs
  | 0, _, _, h, _ => absurd h (Nat.not_lt_zero _)
  | m + 1, bs, 0, _, h => absurd h (Nat.not_lt_zero _)
  | m + 1, bs, m' + 1, h1, h2 => by
    by_cases he : (getF bs).2.2 ≠ 0
    · have e : scanL (m + 1) bs = ([], 0) := by rw [scanL, if_pos he]
      rw [e]
      exact scanL_nil _
    · have he0 : (getF bs).2.2 = 0 := Classical.not_not.1 he
      obtain ⟨h6, hl⟩ := getF_ok he0
      have e : scanL (m + 1) bs = ((getF bs).1 :: (scanL m (bs.drop (getF bs).2.1)).1, (getF bs).2.1 + (scanL m (bs.drop (getF bs).2.1)).2) := by rw [scanL, if_neg he]
      rw [e] at h2 ⊢
      have hk : (scanL m (bs.drop (getF bs).2.1)).2 ≤ (bs.drop (getF bs).2.1).length := scanL_le _ _
      generalize hkk : (getF bs).2.1 = k at h2 h6 hl e hk ⊢
      rw [List.length_drop] at hk
      have esplit : bs.take (k + (scanL m (bs.drop k)).2) = bs.take k ++ (bs.drop k).take (scanL m (bs.drop k)).2 := List.take_add
      show scanL (m' + 1) (bs.take (k + (scanL m (bs.drop k)).2)) = _
      have hgf : getF (bs.take (k + (scanL m (bs.drop k)).2)) = getF bs := by
        rw [esplit, ← hkk]
        exact getF_front he0 _
      have hdrop : (bs.take (k + (scanL m (bs.drop k)).2)).drop k = (bs.drop k).take (scanL m (bs.drop k)).2 := by
        rw [esplit, List.drop_append, List.drop_eq_nil_of_le (by rw [List.length_take]; omega), List.nil_append, List.length_take, Nat.min_eq_left hl, Nat.sub_self, List.drop_zero]
      rw [scanL, hgf, if_neg he, hkk, hdrop]
      have h2' : (bs.take (k + (scanL m (bs.drop k)).2)).length < m' + 1 := h2
      rw [esplit, List.length_append, List.length_take, Nat.min_eq_left hl] at h2'
      rw [scan_stable m (bs.drop k) m' (by rw [List.length_drop]; omega) (by omega)]
theorem scanF_stable (bs : List Nat) : scanF (bs.take (scanF bs).2) = scanF bs := by
  unfold scanF
  exact scan_stable _ _ _ (Nat.lt_succ_self _) (Nat.lt_succ_self _)
theorem scan_prefix : ∀ (A : List RecP) (B : List Nat) (m : Nat), (∀ r ∈ A, Fine r) → (encFr A ++ B).length < m → ∃ R, (scanL m (encFr A ++ B)).1 = A ++ R
  | [], B, m, _, _ => ⟨_, rfl⟩
  | r :: A, B, 0, _, h => absurd h (Nat.not_lt_zero _)
  | r :: A, B, m + 1, hA, h => by
    have e : encFr (r :: A) ++ B = putF r ++ (encFr A ++ B) := by rw [encFr, List.append_assoc]
    rw [e] at h ⊢
    have hp := putF_length r
    rw [List.length_append] at h
    obtain ⟨R, hR⟩ := scan_prefix A B m (fun x hx => hA x (List.mem_cons_of_mem _ hx)) (by omega)
    refine ⟨R, ?_⟩
    rw [scanL, getF_put (hA r List.mem_cons_self), if_neg (by simp)]
    show r :: (scanL m ((putF r ++ (encFr A ++ B)).drop (putF r).length)).1 = _
    rw [List.drop_left, hR]; rfl
theorem open_same {nm b : List Nat} (h : (scanF b).2 = b.length) {s : Nat} {t : Bool} {V : List FV} {l : Int} {o : Nat} :
    wOpen nm ⟨⟨nm, b, s, t⟩ :: V, l, false, o⟩ = (⟨⟨nm, b, s, t⟩ :: V, l, false, o⟩, 0) := by
  have hA : openA nm ⟨⟨nm, b, s, t⟩ :: V, l, false, o⟩ = (⟨⟨nm, b, s, t⟩ :: V, l, false, o⟩, 0) := by
    unfold openA
    rw [dRead_one, if_neg n03]
  unfold wOpen openB
  rw [hA, if_pos rfl, dRead_one]
  show (if (scanF b).2 < b.length then _ else _) = _
  rw [h, if_neg (Nat.lt_irrefl _)]
theorem open_any2 {nm b : List Nat} {o : Nat} : ∃ o', (wOpen nm ⟨[⟨nm, b, b.length, true⟩], -1, false, o⟩).1 = ⟨[⟨nm, b.take (scanF b).2, (b.take (scanF b).2).length, true⟩], -1, false, o'⟩ ∧ o' ≤ o + 1 := by
  have hA : openA nm ⟨[⟨nm, b, b.length, true⟩], -1, false, o⟩ = (⟨[⟨nm, b, b.length, true⟩], -1, false, o⟩, 0) := by
    unfold openA
    rw [dRead_one, if_neg n03]
  unfold wOpen openB
  rw [hA, if_pos rfl, dRead_one]
  have hle : (scanF b).2 ≤ b.length := scanL_le _ _
  by_cases h : (scanF b).2 < b.length
  · rw [if_pos h]
    unfold dCut
    rw [if_neg nf, if_neg (by rw [mFind, if_pos rfl]; nofun), if_neg, if_neg n1]
    · refine ⟨o + 1, ?_, Nat.le_refl _⟩
      show (⟨mCut nm ((scanF b).2 : Int).toNat [⟨nm, b, b.length, true⟩], max (-1 - 1) (-1), false, o + 1⟩ : DS) = _
      rw [mCut, if_pos rfl, List.length_take, Nat.min_eq_left hle]; rfl
    · exact fun hc => hc ⟨_, by rw [mFind, if_pos rfl], by omega, by
        show ((scanF b).2 : Int) ≤ (b.length : Int)
        omega⟩
  · rw [if_neg h, show (scanF b).2 = b.length by omega, List.take_length]
    exact ⟨o, rfl, by omega⟩
/-- A part of a row of records. -/
theorem slQ {σ : H} {F : Nat → Prop} {a : SA} {L : List El} (h : RQ σ F a L) {hi : Option AV} (u : Nat) (hhi : Bd hi L.length u) (h2 : u ≤ L.length) {K : AV → Bool}
    (hK : ∀ a', Rw σ 3 a' (L.take u).length (recs (L.take u)) → K (.sl a' (L.take u).length) = true) : sliceK Try.prog 34 (.sl a L.length) none hi none K = true := by
  have hlen : (L.take u).length = u := by rw [List.length_take]; omega
  have := @sliceK_rw Try.prog 34 38 3 σ Try.underlying34 (fun _ => rfl) a L.length (recs L) h.rw none hi 0 u K (.inl ⟨rfl, rfl⟩) hhi (Nat.zero_le _) h2 u (recs (L.take u)) (Nat.sub_zero _) (by rw [Nat.zero_mul, List.drop_zero, recs_take])
  refine this fun a' ha' => ?_
  have h3 := hK a'
  rw [hlen] at h3
  exact h3 ha'
attribute [local irreducible] IntKind.wrap Int.fdiv Int.tdiv Int.tmod BitVec.ofInt appendK sliceK indexAddrK ldK storeK seenK makeSliceK lookupK updateK deleteK mapK rangeK nextK keysF
variable {D : Drawer}
theorem walTwice_run {n : Nat} {s t : SA} {l : List El} {bs : List Nat} {fuse keep : Int} (hn : l.length + 2000000 ≤ n) (hD : ByPlan Try.prog D) (hl : l.length ≤ 9223372036854775807) (hfu : fuse ≤ 9223372036854775807)
    {σ : H} (hs : Rw σ 3 s l.length (recs l)) (hi : IsRs σ l) (ho : ∀ e ∈ l, OkR e.2.2) (hb : Rw σ 1 t bs.length (u8s bs)) (lb : ∀ b ∈ bs, b < 256) :
    acall Try.prog tab D n 8 [.sl s l.length, .sl t bs.length, .int .i64 fuse, .int .i64 keep] σ isTrue = true := by
  obtain ⟨n, rfl, hn⟩ := up hn
  have nm1 : mayN [120] = true := by decide
  conv => lhs; whnf
  refine begun_spec ?_
  conv => lhs; whnf
  refine few_spec (m := 6) rfl (by decide) (by omega) hl hs hi ho hD fun o1 a1 L σ1 p1 l1 is1 f1 r1 => ?_
  conv => lhs; whnf
  refine short_own (by omega) (m := 20) rfl (by decide) (hb.mono p1) _ fun b1 σ2 p2 r2 => ?_
  have lx : ∀ b ∈ bs.take 20, b < 256 := fun b h => lb b (List.mem_of_mem_take h)
  have sx : (bs.take 20).length ≤ 20 := by rw [List.length_take]; omega
  generalize bs.take 20 = xs at r2 lx sx ⊢
  have x2 := r2.rw
  conv => lhs; whnf
  refine dv_new (by omega) fun σ3 B m F3 p3 d3 g3 => ?_
  have eL := encL_small f1
  have RL3 : RL σ3 F3 a1 L := RL.begin r1 (p2.trans p3) (fun id hf => Nat.le_trans (prefix_len p2) (g3 id hf)) is1 f1
  have x3 := x2.mono p3
  have hO0 : OkS ⟨[], -1, false, 0⟩ 0 0 := ⟨by show (-1 : Int) ≤ -1; decide, by show (-1 : Int) ≤ _; decide, Nat.le_refl _, Nat.le_refl _, fun x hx => by cases hx⟩
  conv => lhs; whnf
  refine open_spec (name := [120]) hD d3 hO0 (by omega) (by omega) (by omega) (fun h => by rw [open_new nm1] at h; exact absurd rfl h) fun _ σ4 F4 W o4 w4 L4 ws4 s4 hW4 is4 e4 r4 f4 => ?_
  rw [open_new nm1] at ws4
  rw [wRecs_new] at e4
  obtain rfl : L4 = [] := List.map_eq_nil_iff.1 e4
  have RL4 := RL3.step (s4.opened hW4)
  have x4 := x3.ext s4.ext
  have hO4 : OkS ⟨[⟨[120], [], 0, true⟩], -1, false, 2⟩ 2 0 := OkS.one rfl (Nat.le_refl _) (by decide) (Nat.le_refl _) (Nat.le_refl _) fun x hx => by cases hx
  conv => lhs; whnf
  refine wadd_spec hD (by omega) (by omega) ws4 rfl hO4 (by decide) (by decide) RL4.rw RL4.is (okL f1) (fun _ => by omega) (fun ⟨e, he, hn⟩ => by rw [(f1 e he).may] at hn; cases hn) fun _ σ5 F5 ws5 s5 => ?_
  rw [writes_one nm1] at ws5 ⊢
  have RL5 := RL4.step s5
  have x5 := x4.ext s5.ext
  have hE : encFr (rlE L) = [] ++ encFr (rlE L) := rfl
  rw [← hE] at ws5
  have hbl : ∀ b ∈ encFr (rlE L), b < 256 := encFr_ok (okL f1)
  have hpre := scan_prefix (rlE L) xs ((encFr (rlE L) ++ xs).length + 1) (fineL f1) (Nat.lt_succ_self _)
  have hP2 : (encFr (rlE L) ++ xs).length ≤ 3000 := by rw [List.length_append]; omega
  have lP : ∀ b ∈ encFr (rlE L) ++ xs, b < 256 := fun b h => (List.mem_append.1 h).elim (hbl b) (lx b)
  have hO5 : OkS ⟨[⟨[120], encFr (rlE L), (encFr (rlE L)).length, true⟩], -1, false, 2 + 2⟩ 4 2900 := OkS.one rfl (Nat.le_refl _) (by decide) (by omega) (Nat.le_refl _) hbl
  conv => lhs; whnf
  refine dv_app (name := [120]) (by omega) ws5.d hO5 (by decide) x5 (by omega) fun σ6 F6 d6 s6 => ?_
  have hO6 := hO5.app (name := [120]) lx
  rw [app_left nm1 n1] at d6 hO6 ⊢
  have RL6 := RL5.step (s6.fw W)
  conv => lhs; whnf
  refine dv_sync (name := [120]) (by omega) d6 hO6 (by omega) fun σ7 F7 d7 s7 => ?_
  have hO7 := hO6.sync (name := [120])
  rw [sync_left (by decide)] at d7 hO7 ⊢
  have RL7 := RL6.step (s7.fw W)
  obtain ⟨R, hR⟩ := hpre
  replace hR : (scanF (encFr (rlE L) ++ xs)).1 = rlE L ++ R := hR
  generalize encFr (rlE L) ++ xs = P at d7 hO7 hP2 lP hR
  have RL7 := RL7.drop
  conv => lhs; whnf
  refine open_spec (name := [120]) hD d7 hO7 (by omega) (by omega) (by omega) (fun h => absurd open_one h) fun _ σ8 F8 W8 o8 w8 A ws8 s8 hW8 is8 e8 r8 f8 => ?_
  rw [wRecs_one] at e8
  obtain ⟨o8', eO, ho8⟩ := open_any2 (nm := [120]) (b := P) (o := 6)
  have hst := scanF_stable P
  have hQl : (P.take (scanF P).2).length = (scanF P).2 := by rw [List.length_take]; have : (scanF P).2 ≤ P.length := scanL_le _ _; omega
  have hQ2 : (P.take (scanF P).2).length ≤ 3000 := by rw [List.length_take]; omega
  have lQ : ∀ b ∈ P.take (scanF P).2, b < 256 := fun b h => lP b (List.mem_of_mem_take h)
  have eQ2 : (scanF (P.take (scanF P).2)).2 = (P.take (scanF P).2).length := by rw [hst, hQl]
  have eQ1 : (scanF (P.take (scanF P).2)).1 = (scanF P).1 := by rw [hst]
  have small := scanF_small P
  have eO' : (wOpen [120] ⟨[⟨[120], P, P.length, true⟩], max (max (-1 - 1) (-1) - 1) (-1), false, 2 + 2 + 1 + 1⟩).1 = ⟨[⟨[120], P.take (scanF P).2, (P.take (scanF P).2).length, true⟩], -1, false, o8'⟩ := eO
  rw [eO'] at ws8
  generalize P.take (scanF P).2 = Q at ws8 hQ2 lQ eQ2 eQ1
  have RL8 := RL7.step s8
  have RA8 : RQ σ8 F8 w8 A := RQ.ofOwn r8 (fun id h => (f8 id h).1) is8
  conv => lhs; whnf
  by_cases hf0 : fuse < 0
  · rw [show decide (fuse < 0) = true from decide_eq_true hf0]
    conv => lhs; whnf
  rw [show decide (fuse < 0) = false from decide_eq_false hf0]
  have hO8 : OkS ⟨[⟨[120], Q, Q.length, true⟩], -1, false, o8'⟩ 10 3000 := OkS.one rfl (by omega) (by decide) hQ2 (Nat.le_refl _) lQ
  conv => lhs; whnf
  have hfm : 0 ≤ fuse.tmod 6 ∧ fuse.tmod 6 < 6 := ⟨Int.tmod_nonneg _ (by omega), Int.tmod_lt_of_pos _ (by decide)⟩
  refine dv_fuse (by omega) ws8.d fun σ9 F9 d9 s9 => ?_
  have eF : dFuse (fuse.tmod 6) ⟨[⟨[120], Q, Q.length, true⟩], -1, false, o8'⟩ = ⟨[⟨[120], Q, Q.length, true⟩], fuse.tmod 6, false, o8'⟩ := by
    unfold dFuse
    rw [if_neg nf, show max (fuse.tmod 6) (-1) = fuse.tmod 6 by omega]
  have hO9 := hO8.fuse (x := fuse.tmod 6) (by omega)
  have d9' : DV σ9 B m (dFuse (fuse.tmod 6) ⟨[⟨[120], Q, Q.length, true⟩], -1, false, o8'⟩) F9 := d9
  rw [eF] at d9' hO9
  have RL9 := RL8.step s9
  have RA9 := RA8.step s9
  conv => lhs; whnf
  refine open_spec (name := [120]) hD d9' hO9 (by omega) (by omega) (by omega) (fun h => by rw [open_same eQ2] at h; exact absurd rfl h) fun _ σA FA WA oA wA LA wsA sA hWA isA eA rA fA => ?_
  rw [open_same eQ2] at wsA
  have RLA := RL9.step sA
  have RAA := RA9.step sA
  conv => lhs; whnf
  refine dv_crash hD wsA.d hO9 (by omega) (by omega) fun σB FB dB sB => ?_
  have hOB := hO9.crash (keep := keep)
  rw [crash_one] at dB hOB
  have RLB := RLA.step sB
  have RAB := RAA.step sB
  conv => lhs; whnf
  refine open_spec (name := [120]) hD dB hOB (by omega) (by omega) (by omega) (fun h => absurd open_one h) fun _ σC FC WC oC wC G wsC sC hWC isC eC rC fC => ?_
  rw [wRecs_one, eQ1] at eC
  have RLC := RLB.step sC
  have RAC := RAB.step sC
  have eAG : rlE A = rlE G := e8.trans eC.symm
  have A50 : ∀ e ∈ A, e.2.2.nums.length ≤ 50 ∧ e.2.2.texts.length ≤ 50 := fun e he => by
    have := small e.2.2 (e8 ▸ List.mem_map_of_mem (f := fun x : El => x.2.2) he)
    omega
  have hAl : A.length ≤ 3000 := by
    have h1 := congrArg List.length e8
    have h2 := scanL_len (P.length + 1) P
    simp only [List.length_map] at h1
    have h3 : (scanF P).1.length ≤ P.length := h2
    omega
  rw [hR] at e8
  have hAL : L.length ≤ A.length := by have := congrArg List.length e8; simp only [List.length_map, List.length_append] at this; omega
  have hAT : rlE (A.take L.length) = rlE L := by
    show List.map _ _ = _
    rw [List.map_take]
    show (rlE A).take _ = _
    rw [e8, List.take_left' (by simp)]
  conv => lhs; whnf
  refine eqs_spec (by omega) (by omega) RAC.rw rC.rw RAC.is isC A50 hD fun σD pD => ?_
  rw [recsEq_iff.2 eAG]
  conv => lhs; whnf
  rw [show decide ((A.length : Int) ≥ (L.length : Int)) = true from decide_eq_true (by omega)]
  conv => lhs; whnf
  refine slQ (RAC.mono pD) L.length (.inr ⟨_, _, rfl, rfl⟩) hAL fun a' ha' => ?_
  conv => lhs; whnf
  refine eqs_spec (by rw [List.length_take]; omega) (by rw [List.length_take]; omega) ha' (RLC.mono pD).rw (fun e he => (RAC.mono pD).is e (List.mem_of_mem_take he)) (RLC.mono pD).is (fun e he => A50 e (List.mem_of_mem_take he)) hD fun σE pE => ?_
  rw [recsEq_iff.2 hAT]
  conv => lhs; whnf
theorem walTwice_law (σ : H) (vs : List AV) (h : ArgsShp Try.prog σ 9 [34, 22, 3, 3] vs) : ∃ n, acall Try.prog tab (drawRegion Try.prog) n 8 vs σ isTrue = true := by
  obtain ⟨a, vs, rfl, ha, h⟩ := args_cons h
  obtain ⟨b, vs, rfl, hb, h⟩ := args_cons h
  obtain ⟨c, vs, rfl, hc, h⟩ := args_cons h
  obtain ⟨d, vs, rfl, hd, h⟩ := args_cons h
  obtain rfl := args_nil h
  obtain ⟨s, l, rfl, a1, a2, a3, a4⟩ := arg_recs ha
  obtain ⟨t, cs, rfl, b1, b2, b3⟩ := arg_bytes Try.underlying22 Try.underlying5 rfl hb
  obtain ⟨fu, rfl, e1, e2⟩ := arg_int Try.underlying3 hc
  obtain ⟨ke, rfl, _, _⟩ := arg_int Try.underlying3 hd
  exact ⟨l.length + 2000000, walTwice_run (Nat.le_refl _) (byPlan _) a4 e2 a1 a2 a3 b1 b3⟩
end Go.Proofs.Ytahhajakgakdhaa
