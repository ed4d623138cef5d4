/- A log of any bytes: plain. -/
import Derived.Test.YtahhajakgakdhaaL5Cut
namespace Go.Proofs.Ytahhajakgakdhaa
set_option maxRecDepth 100000
open Go Go.AM Go.AM.St
theorem recGet_small (bs : List Nat) : (recGet bs).1.nums.length ≤ 40 ∧ (recGet bs).1.texts.length ≤ 40 := by
  unfold recGet recGetF recGetG recGetH recGetI recGetJ
  split
  · exact ⟨Nat.zero_le _, Nat.zero_le _⟩
  · simp only
    rw [numsR_len, txtsR_len]
    have h1 := cntR_range (bs := bs) (m := 40) (s := (cntR bs 255 ⟨0, 0⟩).2)
    have h2 := cntR_range (bs := bs) (m := 40) (s := (numsR bs (cntR bs 40 (cntR bs 255 ⟨0, 0⟩).2).1.toNat (cntR bs 40 (cntR bs 255 ⟨0, 0⟩).2).2).2)
    exact ⟨by omega, by omega⟩
theorem getF_small (bs : List Nat) : (getF bs).1.nums.length ≤ 40 ∧ (getF bs).1.texts.length ≤ 40 := by
  have h : (getF bs).1 = ⟨0, [], []⟩ ∨ (getF bs).1 = (recGet (getFB bs)).1 := by
    unfold getF
    by_cases h1 : bs.length < 6
    · rw [if_pos h1]; exact .inl rfl
    · rw [if_neg h1]
      by_cases h2 : bs.length < getFN bs
      · rw [if_pos h2]; exact .inl rfl
      · rw [if_neg h2]
        by_cases h3 : getFbad bs
        · rw [if_pos h3]; exact .inl rfl
        · rw [if_neg h3]; exact .inr rfl
  rcases h with h | h
  · rw [h]; exact ⟨Nat.zero_le _, Nat.zero_le _⟩
  · rw [h]; exact recGet_small _
theorem scanL_small : ∀ (m : Nat) (bs : List Nat), ∀ r ∈ (scanL m bs).1, r.nums.length ≤ 40 ∧ r.texts.length ≤ 40
  | 0, _, r, h => by cases h
  | m + 1, bs, r, h => by
    rw [scanL] at h
    by_cases h1 : (getF bs).2.2 ≠ 0
    · rw [if_pos h1] at h; cases h
    · rw [if_neg h1] at h
      rcases List.mem_cons.1 h with rfl | h
      · exact getF_small bs
      · exact scanL_small m _ r h
theorem scanF_small (bs : List Nat) : ∀ r ∈ (scanF bs).1, r.nums.length ≤ 40 ∧ r.texts.length ≤ 40 := scanL_small _ _
theorem scanL_len : ∀ (m : Nat) (bs : List Nat), (scanL m bs).1.length ≤ bs.length
  | 0, _ => Nat.zero_le _
  | m + 1, bs => by
    rw [scanL]
    by_cases h1 : (getF bs).2.2 ≠ 0
    · rw [if_pos h1]; exact Nat.zero_le _
    · rw [if_neg h1]
      have h2 := getF_ok (bs := bs) (Classical.not_not.1 h1)
      have h3 := scanL_len m (bs.drop (getF bs).2.1)
      rw [List.length_drop] at h3
      rw [List.length_cons]
      omega
theorem scanL_nil : ∀ m, scanL m [] = ([], 0)
  | 0 => rfl
  | _ + 1 => rfl
theorem take_app_take {A X : List Nat} {j k : Nat} (h : j ≤ k) (hk : k ≤ A.length) : (A.take k ++ X).take j = A.take j := by
  rw [List.take_append_of_le_length (by rw [List.length_take]; omega), List.take_take, Nat.min_eq_left h]
/-- A frame is told by its own bytes alone. -/
theorem getF_front {bs : List Nat} (h : (getF bs).2.2 = 0) (X : List Nat) : getF (bs.take (getF bs).2.1 ++ X) = getF bs := by
  obtain ⟨h6, hl⟩ := getF_ok h
  unfold getF at h
  split at h
  · cases h
  · rename_i g6
    split at h
    · cases h
    · rename_i gn
      split at h
      · cases h
      · rename_i gb
        have e : getF bs = ((recGet (getFB bs)).1, getFN bs, 0) := by unfold getF; rw [if_neg g6, if_neg gn, if_neg gb]
        rw [e] at h6 hl
        show getF (bs.take (getF bs).2.1 ++ X) = _
        rw [e]
        show getF (bs.take (getFN bs) ++ X) = _
        have hk : getFN bs ≤ bs.length := hl
        have h6' : 6 ≤ getFN bs := h6
        have t2 : (bs.take (getFN bs) ++ X).take 2 = bs.take 2 := take_app_take (by omega) hk
        have t6 : (bs.take (getFN bs) ++ X).take 6 = bs.take 6 := take_app_take (by omega) hk
        have eN : getFN (bs.take (getFN bs) ++ X) = getFN bs := by
          show 6 + unfix ((bs.take (getFN bs) ++ X).take 2) = _
          rw [t2]; rfl
        have tN : (bs.take (getFN bs) ++ X).take (getFN bs) = bs.take (getFN bs) := take_app_take (Nat.le_refl _) hk
        have eB : getFB (bs.take (getFN bs) ++ X) = getFB bs := by
          unfold getFB
          rw [eN, tN]
        have eb : getFbad (bs.take (getFN bs) ++ X) ↔ getFbad bs := by
          unfold getFbad
          rw [eB, eN, t6]
        have hlen : getFN bs ≤ (bs.take (getFN bs) ++ X).length := by rw [List.length_append, List.length_take]; omega
        unfold getF
        rw [if_neg (by omega), if_neg (by rw [eN]; omega), if_neg (fun hb => gb (eb.1 hb)), eB, eN]
theorem scan_more {r : RecP} (hr : Fine r) : ∀ (m : Nat) (bs : List Nat) (m' : Nat), bs.length < m → (bs.take (scanL m bs).2 ++ putF r).length < m' →
    scanL m' (bs.take (scanL m bs).2 ++ putF r) = ((scanL m bs).1 ++ [r], (scanL m bs).2 + (putF r).length)
  | 0, _, _, h, _ => absurd h (Nat.not_lt_zero _)
  | m + 1, bs, 0, _, h => absurd h (Nat.not_lt_zero _)
  | m + 1, bs, m' + 1, h1, h2 => by
    by_cases he : (getF bs).2.2 ≠ 0
    · have e : scanL (m + 1) bs = ([], 0) := by rw [scanL, if_pos he]
      rw [e]
      show scanL (m' + 1) (bs.take 0 ++ putF r) = ([] ++ [r], 0 + (putF r).length)
      rw [List.take_zero, List.nil_append]
      have hg := getF_put hr []
      rw [List.append_nil] at hg
      rw [scanL, hg, if_neg (by simp)]
      show (r :: (scanL m' ((putF r).drop (putF r).length)).1, (putF r).length + (scanL m' ((putF r).drop (putF r).length)).2) = _
      rw [List.drop_length, scanL_nil, Nat.zero_add]
      rfl
    · have he0 : (getF bs).2.2 = 0 := Classical.not_not.1 he
      obtain ⟨h6, hl⟩ := getF_ok he0
      have e : scanL (m + 1) bs = ((getF bs).1 :: (scanL m (bs.drop (getF bs).2.1)).1, (getF bs).2.1 + (scanL m (bs.drop (getF bs).2.1)).2) := by rw [scanL, if_neg he]
      rw [e] at h2 ⊢
      have hk : (scanL m (bs.drop (getF bs).2.1)).2 ≤ (bs.drop (getF bs).2.1).length := scanL_le _ _
      generalize hkk : (getF bs).2.1 = k at h2 h6 hl e hk ⊢
      rw [List.length_drop] at hk
      have esplit : bs.take (k + (scanL m (bs.drop k)).2) ++ putF r = bs.take k ++ ((bs.drop k).take (scanL m (bs.drop k)).2 ++ putF r) := by
        rw [List.take_add, List.append_assoc]
      show scanL (m' + 1) (bs.take (k + (scanL m (bs.drop k)).2) ++ putF r) = _
      have hgf : getF (bs.take (k + (scanL m (bs.drop k)).2) ++ putF r) = getF bs := by
        rw [esplit, ← hkk]
        exact getF_front he0 _
      have hdrop : (bs.take (k + (scanL m (bs.drop k)).2) ++ putF r).drop k = (bs.drop k).take (scanL m (bs.drop k)).2 ++ putF r := by
        rw [esplit, List.drop_append, List.drop_eq_nil_of_le (by rw [List.length_take]; omega), List.nil_append, List.length_take, Nat.min_eq_left hl, Nat.sub_self, List.drop_zero]
      rw [scanL, hgf, if_neg he, hkk, hdrop]
      have h2' : (bs.take (k + (scanL m (bs.drop k)).2) ++ putF r).length < m' + 1 := h2
      rw [esplit, List.length_append, List.length_take, Nat.min_eq_left hl] at h2'
      rw [scan_more hr m (bs.drop k) m' (by rw [List.length_drop]; omega) (by omega)]
      show (_ :: (_ ++ [r]), _) = (_ :: _ ++ [r], _)
      rw [List.cons_append, Nat.add_assoc]
theorem scanF_more {r : RecP} (hr : Fine r) (bs : List Nat) : (scanF (bs.take (scanF bs).2 ++ putF r)).1 = (scanF bs).1 ++ [r] := by
  unfold scanF
  rw [scan_more hr _ _ _ (Nat.lt_succ_self _) (Nat.lt_succ_self _)]
theorem open_any {nm b : List Nat} {s : Nat} {t : Bool} {o : Nat} (hs : s ≤ b.length) : ∃ s' t' o', (wOpen nm ⟨[⟨nm, b, s, t⟩], -1, false, o⟩).1 = ⟨[⟨nm, b.take (scanF b).2, s', t'⟩], -1, false, o'⟩ ∧ s' ≤ (b.take (scanF b).2).length ∧ o' ≤ o + 1 := by
  have hA : openA nm ⟨[⟨nm, b, s, t⟩], -1, false, o⟩ = (⟨[⟨nm, b, s, t⟩], -1, false, o⟩, 0) := by
    unfold openA
    rw [dRead_one, if_neg n03]
  unfold wOpen openB
  rw [hA, if_pos rfl, dRead_one]
  have hle : (scanF b).2 ≤ b.length := scanL_le _ _
  by_cases h : (scanF b).2 < b.length
  · rw [if_pos h]
    unfold dCut
    rw [if_neg nf, if_neg (by rw [mFind, if_pos rfl]; nofun), if_neg, if_neg n1]
    · refine ⟨(scanF b).2, true, o + 1, ?_, ?_, Nat.le_refl _⟩
      · show (⟨mCut nm ((scanF b).2 : Int).toNat [⟨nm, b, s, t⟩], max (-1 - 1) (-1), false, o + 1⟩ : DS) = _
        rw [mCut, if_pos rfl]; rfl
      · rw [List.length_take]; omega
    · exact fun hc => hc ⟨_, by rw [mFind, if_pos rfl], by omega, by
        show ((scanF b).2 : Int) ≤ (b.length : Int)
        omega⟩
  · rw [if_neg h, show (scanF b).2 = b.length by omega, List.take_length]
    exact ⟨s, t, o, rfl, hs, by omega⟩
/-- Records in a row off the disk, of whatever kind. -/
structure RQ (σ : H) (F : Nat → Prop) (a : SA) (L : List El) : Prop where
  rw : Rw σ 3 a L.length (recs L)
  off : ∀ id off z, a = .at id off z → ¬ F id
  is : IsRs σ L
theorem RL.q {σ : H} {F : Nat → Prop} {a : SA} {L : List El} (h : RL σ F a L) : RQ σ F a L := ⟨h.rw, h.off, h.is⟩
theorem RQ.step {σ σ' : H} {F F' : Nat → Prop} {a : SA} {L : List El} (h : RQ σ F a L) (s : Stp F F' σ σ') : RQ σ' F' a L := by
  refine ⟨?_, fun id off z e hF => ?_, h.is.ext s.ext⟩
  · rcases h.rw with g | g | ⟨id, off, xs, md, h1, h2, h3, h4⟩
    · exact .inl g
    · exact .inr (.inl g)
    · exact .inr (.inr ⟨id, off, xs, md, h1, (s.keep id (get_lt h2) (h.off _ _ _ h1)).trans h2, h3, h4⟩)
  · rcases s.fp id hF with g | g
    · exact h.off _ _ _ e g
    · rcases h.rw with ⟨g', _⟩ | ⟨g', _⟩ | ⟨id', off', xs, md, h1, h2, _⟩
      · rw [e] at g'; cases g'
      · rw [e] at g'; cases g'
      · rw [e] at h1; cases h1
        have := get_lt h2; omega
theorem RQ.mono {σ σ' : H} {F : Nat → Prop} {a : SA} {L : List El} (h : RQ σ F a L) (p : σ <+: σ') : RQ σ' F a L := h.step (Stp.pre p)
theorem RQ.other {σ : H} {F F' : Nat → Prop} {a : SA} {L : List El} (h : RQ σ F a L) (hf : ∀ id, id < σ.length → F' id → F id) : RQ σ F' a L := by
  refine ⟨h.rw, fun id off z e hF => ?_, h.is⟩
  rcases h.rw with ⟨g', _⟩ | ⟨g', _⟩ | ⟨id', off', xs, md, h1, h2, _⟩
  · rw [e] at g'; cases g'
  · rw [e] at g'; cases g'
  · rw [e] at h1; cases h1
    exact h.off _ _ _ e (hf _ (get_lt h2) hF)
theorem RQ.drop {σ : H} {F : Nat → Prop} {a : SA} {L : List El} {W : Nat} (h : RQ σ (FW F W) a L) : RQ σ F a L := h.other fun _ _ hf => .inl hf
theorem RQ.ofOwn {σ0 σ : H} {F : Nat → Prop} {o : Option Nat} {a : SA} {L : List El} (h : Own σ0 σ 3 o a L.length (recs L)) (ho : ∀ id, o = some id → ¬ F id) (is : IsRs σ L) : RQ σ F a L := by
  refine ⟨h.rw, fun id off z e hF => ?_, is⟩
  cases o with
  | none =>
    obtain ⟨h1 | h1, _⟩ := h
    · rw [h1] at e; cases e
    · rw [h1] at e; cases e
  | some i =>
    obtain ⟨_, _, _, a1, _⟩ := h
    rw [a1] at e; cases e
    exact ho _ rfl hF
/-- A row behind another one, appended. -/
theorem appQ {σ0 σ : H} (p : σ0 <+: σ) {o : Option Nat} {a b : SA} {L M : List El} {nb : Nat} (ha : Own σ0 σ 3 o a L.length (recs L)) (hI : IsRs σ L) (hb : Rw σ 3 b nb (recs M)) (hn : nb = M.length) (hM : IsRs σ M) (hl : (L ++ M).length ≤ 100000) {K : AV → H → Bool}
    (hK : ∀ o' a' σ', σ0 <+: σ' → Ext σ σ' → Own σ0 σ' 3 o' a' (L ++ M).length (recs (L ++ M)) → IsRs σ' (L ++ M) → K (.sl a' (L ++ M).length) σ' = true) :
    appendK Try.prog 34 (.sl a L.length) (.sl b nb) σ K = true := by
  subst hn
  refine appendK_ext Try.underlying34 rfl rfl rfl p (o := o) ha hb (N := (L ++ M).length) (zs := recs (L ++ M)) (by simp) (recs_app L M) ?_ fun o5 a5 τ5 p5 _ _ _ x5 w5 => hK o5 a5 τ5 p5 x5 w5 fun e he => ?_
  · show _ * 56 ≤ _
    omega
  · exact (List.mem_append.1 he).elim (hI.ext x5 e) (hM.ext x5 e)
end Go.Proofs.Ytahhajakgakdhaa
