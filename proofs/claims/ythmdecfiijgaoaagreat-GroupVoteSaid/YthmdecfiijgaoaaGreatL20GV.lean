/- GroupVote. -/
import Derived.Test.YthmdecfiijgaoaaGreatL20Z
namespace Go.Proofs.YthmdecfiijgaoaaGreat
set_option maxRecDepth 100000
open Go Go.AM Go.AM.St
open Go.Raft (termAt fromL newer len upd)
/-- A node that is asked alone: what it was, and its vote. -/
abbrev vN (me : Nat) (t vt : Int) : NSR := Go.Raft.newN me t vt []
theorem vN_ok {me : Nat} {t vt : Int} (h : me < 3) (h0 : 0 ≤ t) (h1 : t ≤ 15) : OkN (vN me t vt) :=
  ⟨h, Int.le_refl 0, by show (0 : Int) < Go.Raft.wait me; unfold Go.Raft.wait; omega, Nat.zero_le _, (fun e he => by cases he), h0, by show t ≤ _; omega, fun j _ => ⟨Int.le_refl 0, show (0 : Int) ≤ 2001 by decide⟩, fun j _ => ⟨Int.le_refl 0, show (0 : Int) ≤ 2000 by decide⟩, Int.le_refl 0⟩
theorem asked_vote {me : Nat} {t vt : Int} {l : Lm} (hs : 0 ≤ l.src ∧ l.src < 3) (hv : -1 ≤ vt ∧ vt < 3) : ∃ vt', (Go.Raft.asked (vN me t vt) l).1 = vN me t vt' ∧ -1 ≤ vt' ∧ vt' < 3 ∧ (vt = -1 ∨ vt' = vt) ∧ ∃ yes, (Go.Raft.asked (vN me t vt) l).2 = [⟨2, me, l.src, t, 0, 0, 0, yes, []⟩] ∧ (yes = true → vt' = l.src) := by
  unfold Go.Raft.asked
  cases hb : Go.Raft.votes (vN me t vt) l
  · exact ⟨vt, rfl, hv.1, hv.2, .inr rfl, false, rfl, nofun⟩
  · refine ⟨l.src, rfl, by omega, hs.2, ?_, true, rfl, fun _ => rfl⟩
    unfold Go.Raft.votes at hb
    rw [Bool.and_eq_true] at hb
    have := (of_decide_eq_true hb.1).2
    rcases this with h | h
    · exact .inl h
    · exact .inr h.symm
theorem take_vote {me : Nat} {t vt : Int} {l : Lm} (hk : l.kind = 1) (hv : -1 ≤ vt ∧ vt < 3) : ∃ t' vt', (Go.Raft.take zR (vN me t vt) l).1 = vN me t' vt' ∧ t ≤ t' ∧ (t' = t ∨ t' = l.term) ∧ -1 ≤ vt' ∧ vt' < 3 ∧ (t' = t → vt = -1 ∨ vt' = vt) ∧
    ((Go.Raft.take zR (vN me t vt) l).2 = [] ∨ ∃ yes, (Go.Raft.take zR (vN me t vt) l).2 = [⟨2, me, l.src, t', 0, 0, 0, yes, []⟩] ∧ (yes = true → 0 ≤ l.src ∧ vt' = l.src)) := by
  cases hm : Go.Raft.may (vN me t vt) l
  · rw [take_no hm]
    exact ⟨t, vt, rfl, Int.le_refl _, .inl rfl, hv.1, hv.2, fun _ => .inr rfl, .inl rfl⟩
  · obtain ⟨⟨_, _, s0, s3, _⟩, _⟩ := may_of hm
    by_cases hi : t < l.term
    · have e := take_goes (v1 := vN me l.term (-1)) hm (by unfold Go.Raft.higher; rw [if_pos (show (vN me t vt).term < l.term from hi)]; rfl)
      rw [show goes (vN me l.term (-1)) l = Go.Raft.asked (vN me l.term (-1)) l by unfold goes; rw [if_pos hk]] at e
      obtain ⟨vt', h1, h2, h3, h4, yes, h5, h6⟩ := asked_vote (me := me) (t := l.term) (vt := -1) (l := l) ⟨s0, s3⟩ ⟨by decide, by decide⟩
      rw [e]
      exact ⟨l.term, vt', h1, by omega, .inr rfl, h2, h3, fun h => by omega, .inr ⟨yes, h5, fun h => ⟨s0, h6 h⟩⟩⟩
    · have e := take_goes (v1 := vN me t vt) hm (by unfold Go.Raft.higher; rw [if_neg (show ¬ (vN me t vt).term < l.term from hi)])
      rw [show goes (vN me t vt) l = Go.Raft.asked (vN me t vt) l by unfold goes; rw [if_pos hk]] at e
      obtain ⟨vt', h1, h2, h3, h4, yes, h5, h6⟩ := asked_vote (me := me) (t := t) (vt := vt) (l := l) ⟨s0, s3⟩ hv
      rw [e]
      exact ⟨t, vt', h1, Int.le_refl _, .inl rfl, h2, h3, fun _ => h4, .inr ⟨yes, h5, fun h => ⟨s0, h6 h⟩⟩⟩
theorem and15 (x : Int) : ∃ v : Nat, v ≤ 15 ∧ IntKind.i64.wrap (((BitVec.ofInt IntKind.i64.bits x &&& BitVec.ofInt IntKind.i64.bits 15).toNat : Int)) = (v : Int) := by
  have : (BitVec.ofInt IntKind.i64.bits x &&& BitVec.ofInt IntKind.i64.bits 15).toNat ≤ 15 := by
    rw [BitVec.toNat_and]
    exact Nat.le_trans Nat.and_le_right (by decide)
  exact ⟨_, this, wrap_i64 (by omega) (by omega)⟩
theorem mod3 (x : Int) : ∃ v : Nat, v < 3 ∧ (IntKind.i64.wrap (x.tmod 3 + 3)).tmod 3 = (v : Int) := by
  have t1 := Int.tmod_lt_of_pos x (by decide : (0 : Int) < 3)
  have t2 := Int.lt_tmod_of_pos x (by decide : (0 : Int) < 3)
  rw [wrap_i64 (x := x.tmod 3 + 3) (by omega) (by omega)]
  have t3 := Int.tmod_nonneg 3 (show 0 ≤ x.tmod 3 + 3 by omega)
  have t4 := Int.tmod_lt_of_pos (x.tmod 3 + 3) (by decide : (0 : Int) < 3)
  exact ⟨((x.tmod 3 + 3).tmod 3).toNat, by omega, by omega⟩
theorem prefix_of {α : Type} {a b : List α} (h : ∀ i, i < a.length → b[i]? = a[i]?) : a <+: b := by
  rw [List.prefix_iff_getElem?]
  intro i hi
  rw [h i hi, List.getElem?_eq_getElem hi]
theorem Stq.pfx {F F' : Nat → Prop} {σ0 σ σ' : H} (s : Stq F F' σ σ') (p : σ0 <+: σ) (h : ∀ id, F id → σ0.length ≤ id) : σ0 <+: σ' :=
  prefix_of fun i hi => by
    rw [s.keep i (Nat.lt_of_lt_of_le hi (prefix_len p)) (fun hf => absurd (h i hf) (by omega)), prefix_get p (List.getElem?_eq_getElem hi), List.getElem?_eq_getElem hi]
theorem Stq.low {F F' : Nat → Prop} {σ0 σ σ' : H} (s : Stq F F' σ σ') (p : σ0 <+: σ) (h : ∀ id, F id → σ0.length ≤ id) : ∀ id, F' id → σ0.length ≤ id := fun id hf =>
  (s.fp id hf).elim (h id) fun h => Nat.le_trans (prefix_len p) h
theorem Stq.mapU {σ σ' : H} {m : Nat} {es : List ME} {c : Nat} (hm : σ[m]? = some (.map es c)) (h : ∀ id, id ≠ m → σ'[id]? = σ[id]?) (hl : σ'.length = σ.length) : Stq (fun id => id = m) (fun id => id = m) σ σ' := by
  have fr : Frm m σ σ' := ⟨Nat.le_of_eq hl.symm, fun id _ h2 => h id h2⟩
  exact ⟨Nat.le_of_eq hl.symm, fun id _ hf => h id hf, fun _ h => .inl h, fun a b r hr => ⟨hr.nums.frm fr hm, hr.texts.frm fr hm⟩⟩
/-- The votes that were heard of. -/
def VInv (f : Int → Option Int) (t vt : Int) : Prop := ∀ k s, f k = some s → k ≤ t ∧ 0 ≤ s ∧ (k = t → vt = s)
theorem VInv.up {f : Int → Option Int} {t vt t' vt' : Int} (h : VInv f t vt) (h1 : t ≤ t') (h2 : t' = t → vt = -1 ∨ vt' = vt) : VInv f t' vt' := fun k s hs => by
  obtain ⟨a, b, c⟩ := h k s hs
  refine ⟨by omega, b, fun e => ?_⟩
  have e2 : t' = t := by omega
  have e3 := c (by omega)
  rcases h2 e2 with h | h <;> omega
theorem VInv.upd {f : Int → Option Int} {t vt : Int} (h : VInv f t vt) (h0 : 0 ≤ vt) : VInv (updF f t vt) t vt := fun k s hs => by
  unfold updF at hs
  split at hs
  · rename_i e
    cases hs
    exact ⟨by omega, h0, fun _ => rfl⟩
  · exact h k s hs
attribute [local irreducible] IntKind.wrap Int.fdiv Int.tdiv Int.tmod BitVec.ofInt appendK sliceK indexAddrK ldK storeK seenK makeSliceK lookupK updateK clearK buildSliceK
variable {D : Drawer} {σ : H}
theorem stLt {σ : H} {id d : Nat} {x x' : Lm × AM.SA} {t : TypeId} {i : TypeInfo} {val : AV} {K : H → Bool} (hi : Tryz.prog.info? t = some i) (hz : i.size = 1) (hd : d + 1 ≤ 9) (hl : isLeaf val = true) (hr : σ[id]? = some (AO.cells (lc x) 9 .own))
    (he : (lc x).set d val = lc x') (hK : K (σ.set id (.cells (lc x') 9 .own)) = true) : storeK Tryz.prog t (.ptr (some ⟨id, 0, d, 9⟩)) val σ K = true := by
  refine storeK_of hi hz hd hr hl (by show 0 + d < 9; omega) ?_
  rw [Nat.zero_add, he]
  exact hK
theorem groupVote_run {n : Nat} {x : Int} {s s2 : AM.SA} {L : List (Lm × AM.SA)} {Bs : List Bool} (hn : 3000 ≤ n) (hD : ByPlan Tryz.prog D) (hs : Rw σ 9 s L.length (L.flatMap lc)) (hs2 : Rw σ 1 s2 Bs.length (Bs.map AV.bool)) :
    acall Tryz.prog tab D n 4 [.int .i64 x, .sl s L.length, .sl s2 Bs.length] σ isTrue = true := by
  obtain ⟨n, rfl, hn⟩ := up hn
  obtain ⟨me, hme, em⟩ := mod3 x
  conv => lhs; whnf
  refine begun_all ?_
  conv => lhs; whnf
  rw [em]
  refine rnew_spec (l := []) (by omega) hD hme (by decide) (by decide) (by decide) (by decide) rfl (fun e he => by cases he) (Rw.nil _ _) (IsEs.nil _) fun B F σ1 p1 v1 l1 => ?_
  conv => lhs; whnf
  refine loop_rule (m := 1799) (fun q fr τ => ∃ (z : Int) (i : Nat) (B : Nat) (F : Nat → Prop) (t vt : Int) (mp : Nat) (f : Int → Option Int), z = (i : Int) ∧ i + q = 40 ∧ σ <+: τ ∧ NV τ B (vN me t vt) F ∧ (∀ id, F id → σ.length ≤ id) ∧ 0 ≤ t ∧ t ≤ 15 ∧ -1 ≤ vt ∧ vt < 3 ∧
      MapAt encT encT τ mp f ∧ σ.length ≤ mp ∧ ¬ F mp ∧ VInv f t vt ∧ fr = [.int .i64 (me : Int), .sl s L.length, .sl s2 Bs.length, .bad, .bad, .bad, .bad, .bad, .ptr (some ⟨B, 0, 0, 15⟩), .map (some mp), .int .i64 z, .bad, .bad, .bad, .bad, .bad, .bad, .bad, .bad, .bad, .bad, .bad, .bad, .bad, .bad, .bad, .bad, .bad, .bad, .bad, .bad, .bad, .bad, .bad, .bad, .bad, .bad, .bad, .bad, .bad, .bad, .bad, .bad, .bad, .bad, .bad, .bad, .bad, .bad, .bad, .bad, .bad, .bad, .bad, .bad, .bad, .bad, .bad, .bad, .bad, .bad, .bad, .bad, .bad, .bad, .bad, .bad, .bad, .bad, .bad, .bad, .bad, .bad, .bad, .bad, .bad, .bad, .bad, .bad, .bad, .bad, .bad, .bad, .bad, .bad, .bad, .bad, .bad, .bad, .bad, .bad, .bad, .bad, .bad, .bad, .bad, .bad, .bad, .bad, .bad, .bad, .bad, .bad, .bad, .bad, .bad, .bad, .bad, .bad, .bad, .bad, .bad, .bad]) ?_ _ 40 _ _ (by omega)
      ⟨_, 0, B, F, 0, -1, σ1.length, fun _ => none, rfl, rfl, p1.trans (List.prefix_append _ _), v1.stq (Stq.pre (fun _ => False) (List.prefix_append _ _)) (fun _ _ h => h), l1, by decide, by decide, by decide, by decide,
        ⟨[], 0, get_new _ _, ⟨by simp, by simp, fun e he => by simp at he⟩, fun k v => ⟨nofun, fun ⟨e, he, _⟩ => by simp at he⟩⟩, prefix_len p1, (fun hf => by
          obtain ⟨BL, o, w, V, bx, b, m, h, rfl⟩ := v1
          exact absurd (fpN_ne h hf) (Nat.lt_irrefl _)), (fun _ _ h => nomatch h), rfl⟩
  rintro q fr τ C ⟨z, i, B, F, t, vt, mp, f, rfl, hq, hp, nv, lF, t0, t1, w0, w1, hM, lM, nM, hV, rfl⟩ next fin
  conv => lhs; whnf
  by_cases hi : i < L.length
  case neg =>
    refine bif_neg (by simpa using hi) ?_
    conv => lhs; whnf
    refine fin _ _ _ nofun ?_
    conv => lhs; whnf
  refine bif_pos (by simpa using hi) ?_
  conv => lhs; whnf
  by_cases hi2 : i < 40
  case neg =>
    refine bif_neg (decide_eq_false (by omega)) ?_
    conv => lhs; whnf
    refine fin _ _ _ nofun ?_
    conv => lhs; whnf
  refine bif_pos (decide_eq_true (by omega)) ?_
  conv => lhs; whnf
  refine idxLt (hs.mono hp) rfl rfl hi fun p hE => ?_
  conv => lhs; whnf
  refine ldLtE hE ?_
  conv => lhs; whnf
  obtain ⟨y, w8, ey⟩ : ∃ y w8, L[i] = (y, w8) := ⟨_, _, rfl⟩
  rw [ey]
  obtain ⟨tm, htm, etm⟩ := and15 y.term
  have g0 := get_new τ (AO.cells lc0 9 .own)
  refine storeLt (x := (y, w8)) (τ := τ ++ [AO.cells lc0 9 .own]) rfl g0 ?_
  have g1 := get_set g0 (AO.cells (lc (y, w8)) 9 .own)
  have q1 : τ <+: (τ ++ [AO.cells lc0 9 .own]).set τ.length (AO.cells (lc (y, w8)) 9 .own) := prefix_set (List.prefix_append _ _) (Nat.le_refl _) _
  generalize (τ ++ [AO.cells lc0 9 .own]).set τ.length (AO.cells (lc (y, w8)) 9 .own) = τ1 at g1 q1 ⊢
  conv => lhs; whnf
  refine stLt (σ := τ1) (x' := ({ y with kind := 1 }, w8)) rfl rfl (by decide) rfl g1 rfl ?_
  have g2 := get_set g1 (AO.cells (lc ({ y with kind := 1 }, w8)) 9 .own)
  have q2 : τ <+: τ1.set τ.length (AO.cells (lc ({ y with kind := 1 }, w8)) 9 .own) := prefix_set q1 (Nat.le_refl _) _
  generalize τ1.set τ.length (AO.cells (lc ({ y with kind := 1 }, w8)) 9 .own) = τ2 at g2 q2 ⊢
  conv => lhs; whnf
  refine stLt (σ := τ2) (x' := ({ y with kind := 1, dst := me }, w8)) rfl rfl (by decide) rfl g2 rfl ?_
  have g3 := get_set g2 (AO.cells (lc ({ y with kind := 1, dst := me }, w8)) 9 .own)
  have q3 : τ <+: τ2.set τ.length (AO.cells (lc ({ y with kind := 1, dst := me }, w8)) 9 .own) := prefix_set q2 (Nat.le_refl _) _
  generalize τ2.set τ.length (AO.cells (lc ({ y with kind := 1, dst := me }, w8)) 9 .own) = τ3 at g3 q3 ⊢
  conv => lhs; whnf
  refine stLt (σ := τ3) (x' := ({ y with kind := 1, dst := me, es := [] }, .nil)) rfl rfl (by decide) rfl g3 rfl ?_
  have g4 := get_set g3 (AO.cells (lc ({ y with kind := 1, dst := me, es := [] }, .nil)) 9 .own)
  have q4 : τ <+: τ3.set τ.length (AO.cells (lc ({ y with kind := 1, dst := me, es := [] }, .nil)) 9 .own) := prefix_set q3 (Nat.le_refl _) _
  generalize τ3.set τ.length (AO.cells (lc ({ y with kind := 1, dst := me, es := [] }, .nil)) 9 .own) = τ4 at g4 q4 ⊢
  conv => lhs; whnf
  refine ldF rfl rfl rfl g4 rfl ?_
  conv => lhs; whnf
  rw [etm]
  refine stLt (σ := τ4) (x' := ({ y with kind := 1, dst := me, es := [], term := tm }, .nil)) rfl rfl (by decide) rfl g4 rfl ?_
  have g5 := get_set g4 (AO.cells (lc ({ y with kind := 1, dst := me, es := [], term := tm }, .nil)) 9 .own)
  have q5 : τ <+: τ4.set τ.length (AO.cells (lc ({ y with kind := 1, dst := me, es := [], term := tm }, .nil)) 9 .own) := prefix_set q4 (Nat.le_refl _) _
  generalize τ4.set τ.length (AO.cells (lc ({ y with kind := 1, dst := me, es := [], term := tm }, .nil)) 9 .own) = τ5 at g5 q5 ⊢
  conv => lhs; whnf
  obtain ⟨BL, o, w, V, bx, b, m, hx, rfl⟩ := nv
  have h5 := hx.mono q5
  refine ldLt g5 ?_
  conv => lhs; whnf
  refine take_spec (v := vN me t vt) (by omega) hD h5 (vN_ok hme t0 t1) (IsLt.nil rfl) (Nat.zero_le _) (fun e he => by cases he) (by show (tm : Int) ≤ _; omega) fun F' o' ws ls σ6 po he => ?_
  obtain ⟨t', vt', e1, le, et, w0', w1', hst, hls⟩ := take_vote (me := me) (t := t) (vt := vt) (l := { y with kind := 1, dst := me, es := [], term := tm }) rfl ⟨w0, w1⟩
  rw [e1] at po
  have hp5 := hp.trans q5
  have s6 := po.stq
  have p6 := s6.pfx hp5 lF
  have lF6 := s6.low hp5 lF
  have hM6 : MapAt encT encT σ6 mp f := (hM.mono q5).frm (s6.keep mp (get_lt (prefix_get q5 hM.choose_spec.choose_spec.m)) nM)
  have nid : ¬ fpN B BL o b m (vN me t vt).role τ.length := fun hf => absurd (fpN_ne hx hf) (Nat.lt_irrefl _)
  have g6 := s6.get g5 nid
  have nF6 : ∀ id, id < τ5.length → ¬ fpN B BL o b m (vN me t vt).role id → ¬ F' id := fun id h1 h2 hf => (s6.fp id hf).elim h2 fun h => by omega
  have ltm : mp < τ.length := get_lt hM.choose_spec.choose_spec.m
  have lt5 : τ.length < τ5.length := get_lt g5
  have nM6 := nF6 mp (by omega) nM
  have hV6 := hV.up le hst
  have nv6 := po.nv
  have r6 := po.lv.row.rw
  have hl1 : ls.length ≤ 1 := by
    rcases hls with h | ⟨yes, h, hy⟩
    · have h2 := congrArg List.length (he.trans h)
      rw [List.length_map] at h2
      rw [h2]; exact Nat.zero_le _
    · have h2 := congrArg List.length (he.trans h)
      rw [List.length_map] at h2
      rw [h2]; exact Nat.le_refl _
  have hl : ∀ j (hj : j < ls.length), ∃ yes w9, ls[j] = (⟨2, me, y.src, t', 0, 0, 0, yes, []⟩, w9) ∧ (yes = true → 0 ≤ y.src ∧ vt' = y.src) := fun j hj => by
    rcases hls with h | ⟨yes, h, hy⟩
    · have h2 := List.map_eq_nil_iff.1 (he.trans h)
      subst h2
      cases hj
    · obtain ⟨a, h2, ha⟩ := List.map_eq_singleton_iff.1 (he.trans h)
      subst h2
      match j, hj with
      | 0, _ => exact ⟨yes, a.2, by show a = _; rw [← ha], hy⟩
  conv => lhs; whnf
  refine loop_rule (m := 63050394783190791) (fun q2 fr υ => ∃ (z2 : Int) (j : Nat) (f2 : Int → Option Int), z2 = (j : Int) ∧ j + q2 = ls.length ∧ σ <+: υ ∧ NV υ B (vN me t' vt') F' ∧ MapAt encT encT υ mp f2 ∧ VInv f2 t' vt' ∧ υ[τ.length]? = some (AO.cells (lc ({ y with kind := 1, dst := me, es := [], term := tm }, .nil)) 9 .own) ∧ Rw υ 9 ws ls.length (ls.flatMap lc) ∧
      fr = [.int .i64 (me : Int), .sl s L.length, .sl s2 Bs.length, .bad, .bad, .bad, .bad, .bad, .ptr (some ⟨B, 0, 0, 15⟩), .map (some mp), .int .i64 (i : Int), .ptr (some ⟨τ.length, 0, 0, 9⟩), .bad, .bad, .bad, .bad, .bad, .bad, .bad, .bad, .bad, .bad, .bad, .bad, .bad, .bad, .bad, .bad, .bad, .bad, .bad, .bad, .bad, .bad, .bad, .bad, .bad, .bad, .bad, .bad, .bad, .bad, .bad, .bad, .bad, .bad, .bad, .bad, .bad, .bad, .bad, .bad, .bad, .sl ws ls.length, .int .i64 (ls.length : Int), .int .i64 z2, .bad, .bad, .bad, .bad, .bad, .bad, .bad, .bad, .bad, .bad, .bad, .bad, .bad, .bad, .bad, .bad, .bad, .bad, .bad, .bad, .bad, .bad, .bad, .bad, .bad, .bad, .bad, .bad, .bad, .bad, .bad, .bad, .bad, .bad, .bad, .bad, .bad, .bad, .bad, .bad, .bad, .bad, .bad, .bad, .bad, .bad, .bad, .bad, .bad, .bad, .bad, .bad, .bad, .bad, .bad, .bad, .bad]) ?_ _ ls.length _ _ (by omega)
      ⟨_, 0, f, rfl, Nat.zero_add _, p6, nv6, hM6, hV6, g6, r6, rfl⟩
  rintro q2 fr υ C2 ⟨z2, j, f2, rfl, hq2, hpu, nvu, hMu, hVu, gu, ru, rfl⟩ next2 fin2
  conv => lhs; whnf
  by_cases hj : j < ls.length
  case neg =>
    refine bif_neg (by simpa using hj) ?_
    conv => lhs; whnf
    refine fin2 _ _ _ nofun ?_
    conv => lhs; whnf
    -- does it go and come back?
    have nxt : ∀ (υ3 : H) (B3 : Nat) (F3 : Nat → Prop), σ <+: υ3 → NV υ3 B3 (vN me t' vt') F3 → (∀ id, F3 id → σ.length ≤ id) → MapAt encT encT υ3 mp f2 → ¬ F3 mp →
        ∀ fr', forget (1799) fr' = [.int .i64 (me : Int), .sl s L.length, .sl s2 Bs.length, .bad, .bad, .bad, .bad, .bad, .ptr (some ⟨B3, 0, 0, 15⟩), .map (some mp), .int .i64 ((i + 1 : Nat) : Int), .bad, .bad, .bad, .bad, .bad, .bad, .bad, .bad, .bad, .bad, .bad, .bad, .bad, .bad, .bad, .bad, .bad, .bad, .bad, .bad, .bad, .bad, .bad, .bad, .bad, .bad, .bad, .bad, .bad, .bad, .bad, .bad, .bad, .bad, .bad, .bad, .bad, .bad, .bad, .bad, .bad, .bad, .bad, .bad, .bad, .bad, .bad, .bad, .bad, .bad, .bad, .bad, .bad, .bad, .bad, .bad, .bad, .bad, .bad, .bad, .bad, .bad, .bad, .bad, .bad, .bad, .bad, .bad, .bad, .bad, .bad, .bad, .bad, .bad, .bad, .bad, .bad, .bad, .bad, .bad, .bad, .bad, .bad, .bad, .bad, .bad, .bad, .bad, .bad, .bad, .bad, .bad, .bad, .bad, .bad, .bad, .bad, .bad, .bad, .bad, .bad, .bad] → C .normal fr' υ3 = true :=
      fun υ3 B3 F3 e1 e2 e3 e4 e5 fr' e6 => next (q - 1) fr' υ3 (by omega) ⟨_, i + 1, B3, F3, t', vt', mp, f2, rfl, by omega, e1, e2, e3, by omega, by rcases et with h | h; (· omega); (· show t' ≤ 15; rw [h]; show (tm : Int) ≤ 15; omega), w0', w1', e4, lM, e5, hVu, e6⟩
    have ez : IntKind.i64.wrap ((i : Int) + 1) = ((i + 1 : Nat) : Int) := by rw [wrap_i64 (by omega) (by omega)]; omega
    by_cases hb : i < Bs.length
    case neg =>
      refine bif_neg (by simpa using hb) ?_
      conv => lhs; whnf
      rw [ez]
      exact nxt υ B F' hpu nvu lF6 hMu nM6 _ rfl
    refine bif_pos (by simpa using hb) ?_
    conv => lhs; whnf
    refine idxBl (hs2.mono hpu) rfl rfl hb fun p3 hE3 => ?_
    conv => lhs; whnf
    refine ldBlE hE3 ?_
    cases Bs[i]
    · conv => lhs; whnf
      rw [ez]
      exact nxt υ B F' hpu nvu lF6 hMu nM6 _ rfl
    conv => lhs; whnf
    obtain ⟨BL3, o3, w3, V3, bx3, b3, m3, hx3, e3⟩ := nvu
    refine state_spec (v := vN me t' vt') (by omega) hD hx3 (vN_ok hme (by omega) (by rcases et with h | h; (· omega); (· show t' ≤ 15; rw [h]; show (tm : Int) ≤ 15; omega))) fun o4 w4 W4 υ4 p4 _ e4 r4 => ?_
    have e5 : W4 = [] := List.map_eq_nil_iff.1 e4
    subst e5
    conv => lhs; whnf
    refine rnew_spec (l := []) (by omega) hD hme (show (0 : Int) ≤ t' by omega) w0' w1' (by decide) rfl (fun e he => by cases he) r4.rw (IsEs.nil _) fun B5 F5 υ5 p5 v5 l5 => ?_
    conv => lhs; whnf
    rw [ez]
    exact nxt υ5 B5 F5 (hpu.trans (p4.trans p5)) v5 (fun id h => Nat.le_trans (prefix_len (hpu.trans p4)) (l5 id h)) (hMu.mono (p4.trans p5)) (fun h => by
      have := l5 mp h
      have := prefix_len p4
      have : mp < υ.length := get_lt hMu.choose_spec.choose_spec.m
      omega) _ rfl
  refine bif_pos (by simpa using hj) ?_
  obtain ⟨yes, w9, ej, hy⟩ := hl j hj
  conv => lhs; whnf
  refine idxLt ru rfl rfl hj fun p2 hE2 => ?_
  rw [ej] at hE2
  conv => lhs; whnf
  refine ldLtE hE2 ?_
  conv => lhs; whnf
  have a0 := get_new υ (AO.cells lc0 9 .own)
  refine storeLt (x := (⟨2, me, y.src, t', 0, 0, 0, yes, []⟩, w9)) (τ := υ ++ [AO.cells lc0 9 .own]) rfl a0 ?_
  have a1 := get_set a0 (AO.cells (lc (⟨2, me, y.src, t', 0, 0, 0, yes, []⟩, w9)) 9 .own)
  have b1 : υ <+: (υ ++ [AO.cells lc0 9 .own]).set υ.length (AO.cells (lc (⟨2, me, y.src, t', 0, 0, 0, yes, []⟩, w9)) 9 .own) := prefix_set (List.prefix_append _ _) (Nat.le_refl _) _
  generalize (υ ++ [AO.cells lc0 9 .own]).set υ.length (AO.cells (lc (⟨2, me, y.src, t', 0, 0, 0, yes, []⟩, w9)) 9 .own) = υ1 at a1 b1 ⊢
  have gu1 := prefix_get b1 gu
  repeat ((conv => lhs; whnf); first | ((with_reducible apply gLd); apply ldF; (focus (rfl)); (focus (rfl)); (focus (rfl)); (focus ((repeat (first | assumption | exact get_new _ _ | refine get_old ?_ _ | refine get_set ?_ _ | refine get_set_ne ?_ (by first | assumption | (simp <;> omega) | omega) _ | refine prefix_get (by assumption) ?_)); done)); (focus (rfl))) | ((with_reducible apply gSt); first | (apply st_int; (focus (rfl)); (focus (rfl)); (focus (decide)); (focus ((repeat (first | assumption | exact get_new _ _ | refine get_old ?_ _ | refine get_set ?_ _ | refine get_set_ne ?_ (by first | assumption | (simp <;> omega) | omega) _ | refine prefix_get (by assumption) ?_)); done)); (focus (decide))) | (apply st_sl; (focus (rfl)); (focus (rfl)); (focus (decide)); (focus ((repeat (first | assumption | exact get_new _ _ | refine get_old ?_ _ | refine get_set ?_ _ | refine get_set_ne ?_ (by first | assumption | (simp <;> omega) | omega) _ | refine prefix_get (by assumption) ?_)); done)); (focus (decide))) | (apply st_bool; (focus (rfl)); (focus (rfl)); (focus (decide)); (focus ((repeat (first | assumption | exact get_new _ _ | refine get_old ?_ _ | refine get_set ?_ _ | refine get_set_ne ?_ (by first | assumption | (simp <;> omega) | omega) _ | refine prefix_get (by assumption) ?_)); done)); (focus (decide))) | (apply st_ptr; (focus (rfl)); (focus (rfl)); (focus (decide)); (focus ((repeat (first | assumption | exact get_new _ _ | refine get_old ?_ _ | refine get_set ?_ _ | refine get_set_ne ?_ (by first | assumption | (simp <;> omega) | omega) _ | refine prefix_get (by assumption) ?_)); done)); (focus (decide)))) | (refine and_true ?_ ?_; (focus ((repeat (first | refine all_skip rfl ?_ | exact rfl | (refine all_cons ?_ ?_; (focus ((conv => lhs; whnf); ((with_reducible apply gLd); apply ldF; (focus (rfl)); (focus (rfl)); (focus (rfl)); (focus ((repeat (first | assumption | exact get_new _ _ | refine get_old ?_ _ | refine get_set ?_ _ | refine get_set_ne ?_ (by first | assumption | (simp <;> omega) | omega) _ | refine prefix_get (by assumption) ?_)); done)); (focus (rfl))); (first | exact cs_int rfl | exact cs_ptr rfl | exact cs_sl rfl | exact cs_str rfl | exact cs_bool rfl | exact cs_map rfl | exact same_int _ _ | exact same_sl _ _ | exact same_str _ | exact same_ptr _ | rfl)))))); done))))
  conv => lhs; whnf
  refine bif_neg (by simp) ?_
  repeat ((conv => lhs; whnf); first | ((with_reducible apply gLd); apply ldF; (focus (rfl)); (focus (rfl)); (focus (rfl)); (focus ((repeat (first | assumption | exact get_new _ _ | refine get_old ?_ _ | refine get_set ?_ _ | refine get_set_ne ?_ (by first | assumption | (simp <;> omega) | omega) _ | refine prefix_get (by assumption) ?_)); done)); (focus (rfl))) | ((with_reducible apply gSt); first | (apply st_int; (focus (rfl)); (focus (rfl)); (focus (decide)); (focus ((repeat (first | assumption | exact get_new _ _ | refine get_old ?_ _ | refine get_set ?_ _ | refine get_set_ne ?_ (by first | assumption | (simp <;> omega) | omega) _ | refine prefix_get (by assumption) ?_)); done)); (focus (decide))) | (apply st_sl; (focus (rfl)); (focus (rfl)); (focus (decide)); (focus ((repeat (first | assumption | exact get_new _ _ | refine get_old ?_ _ | refine get_set ?_ _ | refine get_set_ne ?_ (by first | assumption | (simp <;> omega) | omega) _ | refine prefix_get (by assumption) ?_)); done)); (focus (decide))) | (apply st_bool; (focus (rfl)); (focus (rfl)); (focus (decide)); (focus ((repeat (first | assumption | exact get_new _ _ | refine get_old ?_ _ | refine get_set ?_ _ | refine get_set_ne ?_ (by first | assumption | (simp <;> omega) | omega) _ | refine prefix_get (by assumption) ?_)); done)); (focus (decide))) | (apply st_ptr; (focus (rfl)); (focus (rfl)); (focus (decide)); (focus ((repeat (first | assumption | exact get_new _ _ | refine get_old ?_ _ | refine get_set ?_ _ | refine get_set_ne ?_ (by first | assumption | (simp <;> omega) | omega) _ | refine prefix_get (by assumption) ?_)); done)); (focus (decide)))) | (refine and_true ?_ ?_; (focus ((repeat (first | refine all_skip rfl ?_ | exact rfl | (refine all_cons ?_ ?_; (focus ((conv => lhs; whnf); ((with_reducible apply gLd); apply ldF; (focus (rfl)); (focus (rfl)); (focus (rfl)); (focus ((repeat (first | assumption | exact get_new _ _ | refine get_old ?_ _ | refine get_set ?_ _ | refine get_set_ne ?_ (by first | assumption | (simp <;> omega) | omega) _ | refine prefix_get (by assumption) ?_)); done)); (focus (rfl))); (first | exact cs_int rfl | exact cs_ptr rfl | exact cs_sl rfl | exact cs_str rfl | exact cs_bool rfl | exact cs_map rfl | exact same_int _ _ | exact same_sl _ _ | exact same_str _ | exact same_ptr _ | rfl)))))); done))))
  conv => lhs; whnf
  refine bif_neg (by simp) ?_
  repeat ((conv => lhs; whnf); first | ((with_reducible apply gLd); apply ldF; (focus (rfl)); (focus (rfl)); (focus (rfl)); (focus ((repeat (first | assumption | exact get_new _ _ | refine get_old ?_ _ | refine get_set ?_ _ | refine get_set_ne ?_ (by first | assumption | (simp <;> omega) | omega) _ | refine prefix_get (by assumption) ?_)); done)); (focus (rfl))) | ((with_reducible apply gSt); first | (apply st_int; (focus (rfl)); (focus (rfl)); (focus (decide)); (focus ((repeat (first | assumption | exact get_new _ _ | refine get_old ?_ _ | refine get_set ?_ _ | refine get_set_ne ?_ (by first | assumption | (simp <;> omega) | omega) _ | refine prefix_get (by assumption) ?_)); done)); (focus (decide))) | (apply st_sl; (focus (rfl)); (focus (rfl)); (focus (decide)); (focus ((repeat (first | assumption | exact get_new _ _ | refine get_old ?_ _ | refine get_set ?_ _ | refine get_set_ne ?_ (by first | assumption | (simp <;> omega) | omega) _ | refine prefix_get (by assumption) ?_)); done)); (focus (decide))) | (apply st_bool; (focus (rfl)); (focus (rfl)); (focus (decide)); (focus ((repeat (first | assumption | exact get_new _ _ | refine get_old ?_ _ | refine get_set ?_ _ | refine get_set_ne ?_ (by first | assumption | (simp <;> omega) | omega) _ | refine prefix_get (by assumption) ?_)); done)); (focus (decide))) | (apply st_ptr; (focus (rfl)); (focus (rfl)); (focus (decide)); (focus ((repeat (first | assumption | exact get_new _ _ | refine get_old ?_ _ | refine get_set ?_ _ | refine get_set_ne ?_ (by first | assumption | (simp <;> omega) | omega) _ | refine prefix_get (by assumption) ?_)); done)); (focus (decide)))) | (refine and_true ?_ ?_; (focus ((repeat (first | refine all_skip rfl ?_ | exact rfl | (refine all_cons ?_ ?_; (focus ((conv => lhs; whnf); ((with_reducible apply gLd); apply ldF; (focus (rfl)); (focus (rfl)); (focus (rfl)); (focus ((repeat (first | assumption | exact get_new _ _ | refine get_old ?_ _ | refine get_set ?_ _ | refine get_set_ne ?_ (by first | assumption | (simp <;> omega) | omega) _ | refine prefix_get (by assumption) ?_)); done)); (focus (rfl))); (first | exact cs_int rfl | exact cs_ptr rfl | exact cs_sl rfl | exact cs_str rfl | exact cs_bool rfl | exact cs_map rfl | exact same_int _ _ | exact same_sl _ _ | exact same_str _ | exact same_ptr _ | rfl)))))); done))))
  conv => lhs; whnf
  have nvu1 := nvu.stq (Stq.pre (fun _ => False) b1) (fun _ _ h => h)
  have go : ∀ (υ2 : H) (f3 : Int → Option Int) (z3 : Int), z3 = ((j + 1 : Nat) : Int) → σ <+: υ2 → NV υ2 B (vN me t' vt') F' → MapAt encT encT υ2 mp f3 → VInv f3 t' vt' → υ2[τ.length]? = some (AO.cells (lc ({ y with kind := 1, dst := me, es := [], term := tm }, .nil)) 9 .own) → Rw υ2 9 ws ls.length (ls.flatMap lc) →
      ∀ fr', forget (63050394783190791) fr' = [.int .i64 (me : Int), .sl s L.length, .sl s2 Bs.length, .bad, .bad, .bad, .bad, .bad, .ptr (some ⟨B, 0, 0, 15⟩), .map (some mp), .int .i64 (i : Int), .ptr (some ⟨τ.length, 0, 0, 9⟩), .bad, .bad, .bad, .bad, .bad, .bad, .bad, .bad, .bad, .bad, .bad, .bad, .bad, .bad, .bad, .bad, .bad, .bad, .bad, .bad, .bad, .bad, .bad, .bad, .bad, .bad, .bad, .bad, .bad, .bad, .bad, .bad, .bad, .bad, .bad, .bad, .bad, .bad, .bad, .bad, .bad, .sl ws ls.length, .int .i64 (ls.length : Int), .int .i64 z3, .bad, .bad, .bad, .bad, .bad, .bad, .bad, .bad, .bad, .bad, .bad, .bad, .bad, .bad, .bad, .bad, .bad, .bad, .bad, .bad, .bad, .bad, .bad, .bad, .bad, .bad, .bad, .bad, .bad, .bad, .bad, .bad, .bad, .bad, .bad, .bad, .bad, .bad, .bad, .bad, .bad, .bad, .bad, .bad, .bad, .bad, .bad, .bad, .bad, .bad, .bad, .bad, .bad, .bad, .bad, .bad, .bad] → C2 .normal fr' υ2 = true :=
    fun υ2 f3 z3 e1 e2 e3 e4 e5 e6 e7 fr' e8 => next2 (q2 - 1) fr' υ2 (by omega) ⟨z3, j + 1, f3, e1, by omega, e2, e3, e4, e5, e6, e7, e8⟩
  have ez : IntKind.i64.wrap ((j : Int) + 1) = ((j + 1 : Nat) : Int) := by rw [wrap_i64 (by omega) (by omega)]; omega
  cases yes
  · conv => lhs; whnf
    exact go υ1 f2 _ ez (hpu.trans b1) nvu1 (hMu.mono b1) hVu gu1 (ru.mono b1) _ rfl
  repeat ((conv => lhs; whnf); first | ((with_reducible apply gLd); apply ldF; (focus (rfl)); (focus (rfl)); (focus (rfl)); (focus ((repeat (first | assumption | exact get_new _ _ | refine get_old ?_ _ | refine get_set ?_ _ | refine get_set_ne ?_ (by first | assumption | (simp <;> omega) | omega) _ | refine prefix_get (by assumption) ?_)); done)); (focus (rfl))) | ((with_reducible apply gSt); first | (apply st_int; (focus (rfl)); (focus (rfl)); (focus (decide)); (focus ((repeat (first | assumption | exact get_new _ _ | refine get_old ?_ _ | refine get_set ?_ _ | refine get_set_ne ?_ (by first | assumption | (simp <;> omega) | omega) _ | refine prefix_get (by assumption) ?_)); done)); (focus (decide))) | (apply st_sl; (focus (rfl)); (focus (rfl)); (focus (decide)); (focus ((repeat (first | assumption | exact get_new _ _ | refine get_old ?_ _ | refine get_set ?_ _ | refine get_set_ne ?_ (by first | assumption | (simp <;> omega) | omega) _ | refine prefix_get (by assumption) ?_)); done)); (focus (decide))) | (apply st_bool; (focus (rfl)); (focus (rfl)); (focus (decide)); (focus ((repeat (first | assumption | exact get_new _ _ | refine get_old ?_ _ | refine get_set ?_ _ | refine get_set_ne ?_ (by first | assumption | (simp <;> omega) | omega) _ | refine prefix_get (by assumption) ?_)); done)); (focus (decide))) | (apply st_ptr; (focus (rfl)); (focus (rfl)); (focus (decide)); (focus ((repeat (first | assumption | exact get_new _ _ | refine get_old ?_ _ | refine get_set ?_ _ | refine get_set_ne ?_ (by first | assumption | (simp <;> omega) | omega) _ | refine prefix_get (by assumption) ?_)); done)); (focus (decide)))) | (refine and_true ?_ ?_; (focus ((repeat (first | refine all_skip rfl ?_ | exact rfl | (refine all_cons ?_ ?_; (focus ((conv => lhs; whnf); ((with_reducible apply gLd); apply ldF; (focus (rfl)); (focus (rfl)); (focus (rfl)); (focus ((repeat (first | assumption | exact get_new _ _ | refine get_old ?_ _ | refine get_set ?_ _ | refine get_set_ne ?_ (by first | assumption | (simp <;> omega) | omega) _ | refine prefix_get (by assumption) ?_)); done)); (focus (rfl))); (first | exact cs_int rfl | exact cs_ptr rfl | exact cs_sl rfl | exact cs_str rfl | exact cs_bool rfl | exact cs_map rfl | exact same_int _ _ | exact same_sl _ _ | exact same_str _ | exact same_ptr _ | rfl)))))); done))))
  conv => lhs; whnf
  have hy1 := hy rfl
  obtain ⟨E, ck, hEu⟩ := hMu.mono b1
  have upd : ∀ υ2, MapAt encT encT υ2 mp (updF f2 t' y.src) → (∀ id, id ≠ mp → υ2[id]? = υ1[id]?) → υ2.length = υ1.length → σ <+: υ2 ∧ NV υ2 B (vN me t' vt') F' ∧ VInv (updF f2 t' y.src) t' vt' ∧ υ2[τ.length]? = some (AO.cells (lc ({ y with kind := 1, dst := me, es := [], term := tm }, .nil)) 9 .own) ∧ Rw υ2 9 ws ls.length (ls.flatMap lc) := fun υ2 m2 e2 l2 => by
    have st := Stq.mapU hEu.m e2 l2
    refine ⟨st.pfx (hpu.trans b1) (fun id e => by rw [e]; exact lM), nvu1.stq st (fun id h e => nM6 (by rw [← e]; exact h)), ?_, (e2 _ (by omega)).trans gu1, (ru.mono b1).frm ⟨Nat.le_of_eq l2.symm, fun id _ h => e2 id h⟩ hEu.m⟩
    rw [← hy1.2]
    exact hVu.upd (by omega)
  refine lookG Tryz.underlying44 intT hEu t' (.int .i64 0) (fun _ => rfl) (fun v K => by unfold castT; rw [Tryz.underlying3]; rfl) (fun h0 => ?_) (fun v9 h9 => ?_)
  · repeat ((conv => lhs; whnf); first | ((with_reducible apply gLd); apply ldF; (focus (rfl)); (focus (rfl)); (focus (rfl)); (focus ((repeat (first | assumption | exact get_new _ _ | refine get_old ?_ _ | refine get_set ?_ _ | refine get_set_ne ?_ (by first | assumption | (simp <;> omega) | omega) _ | refine prefix_get (by assumption) ?_)); done)); (focus (rfl))) | ((with_reducible apply gSt); first | (apply st_int; (focus (rfl)); (focus (rfl)); (focus (decide)); (focus ((repeat (first | assumption | exact get_new _ _ | refine get_old ?_ _ | refine get_set ?_ _ | refine get_set_ne ?_ (by first | assumption | (simp <;> omega) | omega) _ | refine prefix_get (by assumption) ?_)); done)); (focus (decide))) | (apply st_sl; (focus (rfl)); (focus (rfl)); (focus (decide)); (focus ((repeat (first | assumption | exact get_new _ _ | refine get_old ?_ _ | refine get_set ?_ _ | refine get_set_ne ?_ (by first | assumption | (simp <;> omega) | omega) _ | refine prefix_get (by assumption) ?_)); done)); (focus (decide))) | (apply st_bool; (focus (rfl)); (focus (rfl)); (focus (decide)); (focus ((repeat (first | assumption | exact get_new _ _ | refine get_old ?_ _ | refine get_set ?_ _ | refine get_set_ne ?_ (by first | assumption | (simp <;> omega) | omega) _ | refine prefix_get (by assumption) ?_)); done)); (focus (decide))) | (apply st_ptr; (focus (rfl)); (focus (rfl)); (focus (decide)); (focus ((repeat (first | assumption | exact get_new _ _ | refine get_old ?_ _ | refine get_set ?_ _ | refine get_set_ne ?_ (by first | assumption | (simp <;> omega) | omega) _ | refine prefix_get (by assumption) ?_)); done)); (focus (decide)))) | (refine and_true ?_ ?_; (focus ((repeat (first | refine all_skip rfl ?_ | exact rfl | (refine all_cons ?_ ?_; (focus ((conv => lhs; whnf); ((with_reducible apply gLd); apply ldF; (focus (rfl)); (focus (rfl)); (focus (rfl)); (focus ((repeat (first | assumption | exact get_new _ _ | refine get_old ?_ _ | refine get_set ?_ _ | refine get_set_ne ?_ (by first | assumption | (simp <;> omega) | omega) _ | refine prefix_get (by assumption) ?_)); done)); (focus (rfl))); (first | exact cs_int rfl | exact cs_ptr rfl | exact cs_sl rfl | exact cs_str rfl | exact cs_bool rfl | exact cs_map rfl | exact same_int _ _ | exact same_sl _ _ | exact same_str _ | exact same_ptr _ | rfl)))))); done))))
    conv => lhs; whnf
    refine updG (enc := encT) (val := encT) Tryz.underlying44 intT hEu t' y.src fun υ2 m2 e2 l2 => ?_
    obtain ⟨c1, c2, c3, c4, c5⟩ := upd υ2 m2 e2 l2
    conv => lhs; whnf
    exact go υ2 _ _ ez c1 c2 m2 c3 c4 c5 _ rfl
  · have h10 : v9 = y.src := by
      have := (hVu t' v9 h9).2.2 rfl
      omega
    subst h10
    repeat ((conv => lhs; whnf); first | ((with_reducible apply gLd); apply ldF; (focus (rfl)); (focus (rfl)); (focus (rfl)); (focus ((repeat (first | assumption | exact get_new _ _ | refine get_old ?_ _ | refine get_set ?_ _ | refine get_set_ne ?_ (by first | assumption | (simp <;> omega) | omega) _ | refine prefix_get (by assumption) ?_)); done)); (focus (rfl))) | ((with_reducible apply gSt); first | (apply st_int; (focus (rfl)); (focus (rfl)); (focus (decide)); (focus ((repeat (first | assumption | exact get_new _ _ | refine get_old ?_ _ | refine get_set ?_ _ | refine get_set_ne ?_ (by first | assumption | (simp <;> omega) | omega) _ | refine prefix_get (by assumption) ?_)); done)); (focus (decide))) | (apply st_sl; (focus (rfl)); (focus (rfl)); (focus (decide)); (focus ((repeat (first | assumption | exact get_new _ _ | refine get_old ?_ _ | refine get_set ?_ _ | refine get_set_ne ?_ (by first | assumption | (simp <;> omega) | omega) _ | refine prefix_get (by assumption) ?_)); done)); (focus (decide))) | (apply st_bool; (focus (rfl)); (focus (rfl)); (focus (decide)); (focus ((repeat (first | assumption | exact get_new _ _ | refine get_old ?_ _ | refine get_set ?_ _ | refine get_set_ne ?_ (by first | assumption | (simp <;> omega) | omega) _ | refine prefix_get (by assumption) ?_)); done)); (focus (decide))) | (apply st_ptr; (focus (rfl)); (focus (rfl)); (focus (decide)); (focus ((repeat (first | assumption | exact get_new _ _ | refine get_old ?_ _ | refine get_set ?_ _ | refine get_set_ne ?_ (by first | assumption | (simp <;> omega) | omega) _ | refine prefix_get (by assumption) ?_)); done)); (focus (decide)))) | (refine and_true ?_ ?_; (focus ((repeat (first | refine all_skip rfl ?_ | exact rfl | (refine all_cons ?_ ?_; (focus ((conv => lhs; whnf); ((with_reducible apply gLd); apply ldF; (focus (rfl)); (focus (rfl)); (focus (rfl)); (focus ((repeat (first | assumption | exact get_new _ _ | refine get_old ?_ _ | refine get_set ?_ _ | refine get_set_ne ?_ (by first | assumption | (simp <;> omega) | omega) _ | refine prefix_get (by assumption) ?_)); done)); (focus (rfl))); (first | exact cs_int rfl | exact cs_ptr rfl | exact cs_sl rfl | exact cs_str rfl | exact cs_bool rfl | exact cs_map rfl | exact same_int _ _ | exact same_sl _ _ | exact same_str _ | exact same_ptr _ | rfl)))))); done))))
    conv => lhs; whnf
    refine bif_neg (by simp) ?_
    repeat ((conv => lhs; whnf); first | ((with_reducible apply gLd); apply ldF; (focus (rfl)); (focus (rfl)); (focus (rfl)); (focus ((repeat (first | assumption | exact get_new _ _ | refine get_old ?_ _ | refine get_set ?_ _ | refine get_set_ne ?_ (by first | assumption | (simp <;> omega) | omega) _ | refine prefix_get (by assumption) ?_)); done)); (focus (rfl))) | ((with_reducible apply gSt); first | (apply st_int; (focus (rfl)); (focus (rfl)); (focus (decide)); (focus ((repeat (first | assumption | exact get_new _ _ | refine get_old ?_ _ | refine get_set ?_ _ | refine get_set_ne ?_ (by first | assumption | (simp <;> omega) | omega) _ | refine prefix_get (by assumption) ?_)); done)); (focus (decide))) | (apply st_sl; (focus (rfl)); (focus (rfl)); (focus (decide)); (focus ((repeat (first | assumption | exact get_new _ _ | refine get_old ?_ _ | refine get_set ?_ _ | refine get_set_ne ?_ (by first | assumption | (simp <;> omega) | omega) _ | refine prefix_get (by assumption) ?_)); done)); (focus (decide))) | (apply st_bool; (focus (rfl)); (focus (rfl)); (focus (decide)); (focus ((repeat (first | assumption | exact get_new _ _ | refine get_old ?_ _ | refine get_set ?_ _ | refine get_set_ne ?_ (by first | assumption | (simp <;> omega) | omega) _ | refine prefix_get (by assumption) ?_)); done)); (focus (decide))) | (apply st_ptr; (focus (rfl)); (focus (rfl)); (focus (decide)); (focus ((repeat (first | assumption | exact get_new _ _ | refine get_old ?_ _ | refine get_set ?_ _ | refine get_set_ne ?_ (by first | assumption | (simp <;> omega) | omega) _ | refine prefix_get (by assumption) ?_)); done)); (focus (decide)))) | (refine and_true ?_ ?_; (focus ((repeat (first | refine all_skip rfl ?_ | exact rfl | (refine all_cons ?_ ?_; (focus ((conv => lhs; whnf); ((with_reducible apply gLd); apply ldF; (focus (rfl)); (focus (rfl)); (focus (rfl)); (focus ((repeat (first | assumption | exact get_new _ _ | refine get_old ?_ _ | refine get_set ?_ _ | refine get_set_ne ?_ (by first | assumption | (simp <;> omega) | omega) _ | refine prefix_get (by assumption) ?_)); done)); (focus (rfl))); (first | exact cs_int rfl | exact cs_ptr rfl | exact cs_sl rfl | exact cs_str rfl | exact cs_bool rfl | exact cs_map rfl | exact same_int _ _ | exact same_sl _ _ | exact same_str _ | exact same_ptr _ | rfl)))))); done))))
    conv => lhs; whnf
    refine updG (enc := encT) (val := encT) Tryz.underlying44 intT hEu t' y.src fun υ2 m2 e2 l2 => ?_
    obtain ⟨c1, c2, c3, c4, c5⟩ := upd υ2 m2 e2 l2
    conv => lhs; whnf
    exact go υ2 _ _ ez c1 c2 m2 c3 c4 c5 _ rfl
theorem groupVote_law (σ : H) (vs : List AV) (h : ArgsShp Tryz.prog σ 9 [3, 38, 39] vs) : ∃ n, acall Tryz.prog tab (drawRegion Tryz.prog) n 4 vs σ isTrue = true := by
  obtain ⟨a, vs, rfl, ha, h⟩ := args_cons h
  obtain ⟨b, vs, rfl, hb, h⟩ := args_cons h
  obtain ⟨c, vs, rfl, hc, h⟩ := args_cons h
  obtain rfl := args_nil h
  obtain ⟨x, rfl, _, _⟩ := arg_int Tryz.underlying3 ha
  obtain ⟨s, L, rfl, r1, _⟩ := arg_lts hb
  obtain ⟨s2, Bs, rfl, r2⟩ := arg_bools hc
  exact ⟨3000, groupVote_run (Nat.le_refl _) (byPlan _) r1 r2⟩
end Go.Proofs.YthmdecfiijgaoaaGreat
