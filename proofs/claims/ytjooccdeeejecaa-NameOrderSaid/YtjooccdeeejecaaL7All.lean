/- NameAll: names that are added, dropped, asked for; all in their order. -/
import Derived.Test.YtjooccdeeejecaaL7Set
namespace Go.Proofs.Ytjooccdeeejecaa
set_option maxRecDepth 100000
open Go Go.AM Go.AM.St
theorem shp_i {σ : H} {m : Nat} {t : TypeId} {k : IntKind} {cs : List AV} (ht : Try.prog.underlying t = some (.int k)) (h : Shp Try.prog σ (m + 1) t cs) : ∃ i, cs = [.int k i] ∧ k.min ≤ i ∧ i ≤ k.max := by
  unfold Shp at h
  rw [ht] at h
  obtain ⟨i, h1, h2⟩ := h
  simp only [Lit.wf, Bool.and_eq_true, decide_eq_true_eq] at h2
  exact ⟨i, h1, h2.1, h2.2⟩
theorem nm_shp {σ : H} {m : Nat} {cs : List AV} (hl : cs.length = 2) (h : Shp Try.prog σ (m + 2) 28 cs) : ∃ p : Nm, cs = avP p := by
  match cs, hl with
  | [x, y], _ =>
    unfold Shp at h
    rw [Try.underlying28] at h
    obtain ⟨c, e1, _, _⟩ := shp_i (m := m) (cs := [x]) Try.underlying3 (h _ (.head _))
    cases e1
    obtain ⟨q, e2, _, _⟩ := shp_i (m := m) (cs := [y]) Try.underlying2 (h _ (.tail _ (.head _)))
    cases e2
    exact ⟨(c, q), rfl⟩
theorem shp_nms {σ : H} {m : Nat} : ∀ {k : Nat} {xs : List AV}, xs.length = k * 2 → (∀ i, i < k → Shp Try.prog σ (m + 2) 28 ((xs.drop (i * 2)).take 2)) → ∃ l : List Nm, xs = ids l ∧ l.length = k := by
  intro k
  induction k with
  | zero => intro xs hl _; exact ⟨[], List.length_eq_zero_iff.1 (by omega), rfl⟩
  | succ k ih =>
    intro xs hl h
    have h0 := h 0 (by omega)
    rw [Nat.zero_mul, List.drop_zero] at h0
    obtain ⟨o, e1⟩ := nm_shp (by rw [List.length_take]; omega) h0
    obtain ⟨l, e2, hlen⟩ := ih (xs := xs.drop 2) (by rw [List.length_drop]; omega) (fun i hi => by
      have := h (i + 1) (by omega)
      rw [List.drop_drop]
      rwa [show 2 + i * 2 = (i + 1) * 2 by omega])
    refine ⟨o :: l, ?_, by simp [hlen]⟩
    rw [ids, List.flatMap_cons, ← ids, ← e2]
    conv => lhs; rw [← List.take_append_drop 2 xs, e1]
theorem arg_nms {σ : H} {a : AV} (ha : ArgShp Try.prog σ 9 22 a) : ∃ (s : AM.SA) (l : List Nm), a = .sl s l.length ∧ Rw σ 2 s l.length (ids l) := by
  obtain ⟨s, m, xs, rfl, h2, h3, h4⟩ := arg_slice (n := 8) Try.underlying22 ha
  obtain ⟨l, rfl, hk⟩ := shp_nms (m := 6) (show xs.length = m * 2 from h2.len) h4
  subst hk
  exact ⟨s, l, rfl, h2⟩
/-- A step of the script. -/
structure OpN where
  kind : Int
  id : Nm
def onc (o : OpN) : List AV := [.int .i64 o.kind, .int .i64 o.id.1, .int .i64 o.id.2]
theorem onc_len (o : OpN) : (onc o).length = 3 := rfl
abbrev oncs (l : List OpN) : List AV := l.flatMap onc
theorem shp_on {σ : H} {cs : List AV} (hl : cs.length = 3) (h : Shp Try.prog σ 8 32 cs) : ∃ v, cs = onc v := by
  match cs, hl with
  | [x, y, z], _ =>
    unfold Shp at h
    rw [Try.underlying32] at h
    obtain ⟨k, e1, _, _⟩ := shp_i (m := 6) (cs := [x]) Try.underlying3 (h _ (.head _))
    cases e1
    have h2 : Shp Try.prog σ 7 28 [y, z] := h _ (.tail _ (.head _))
    obtain ⟨p, e2⟩ := nm_shp (m := 5) rfl h2
    refine ⟨⟨k, p⟩, ?_⟩
    unfold avP at e2
    rw [e2]
    rfl
theorem shp_ons {σ : H} : ∀ {k : Nat} {xs : List AV}, xs.length = k * 3 → (∀ i, i < k → Shp Try.prog σ 8 32 ((xs.drop (i * 3)).take 3)) → ∃ l : List OpN, xs = oncs l ∧ l.length = k := by
  intro k
  induction k with
  | zero => intro xs hl _; exact ⟨[], List.length_eq_zero_iff.1 (by omega), rfl⟩
  | succ k ih =>
    intro xs hl h
    have h0 := h 0 (by omega)
    rw [Nat.zero_mul, List.drop_zero] at h0
    obtain ⟨o, e1⟩ := shp_on (by rw [List.length_take]; omega) h0
    obtain ⟨l, e2, hlen⟩ := ih (xs := xs.drop 3) (by rw [List.length_drop]; omega) (fun i hi => by
      have := h (i + 1) (by omega)
      rw [List.drop_drop]
      rwa [show 3 + i * 3 = (i + 1) * 3 by omega])
    refine ⟨o :: l, ?_, by simp [hlen]⟩
    rw [oncs, List.flatMap_cons, ← oncs, ← e2]
    conv => lhs; rw [← List.take_append_drop 3 xs, e1]
theorem arg_ons {σ : H} {a : AV} (ha : ArgShp Try.prog σ 9 23 a) : ∃ (s : AM.SA) (l : List OpN), a = .sl s l.length ∧ Rw σ 3 s l.length (oncs l) := by
  obtain ⟨s, m, xs, rfl, h2, h3, h4⟩ := arg_slice (n := 8) Try.underlying23 ha
  obtain ⟨l, rfl, hk⟩ := shp_ons (show xs.length = m * 3 from h2.len) h4
  subst hk
  exact ⟨s, l, rfl, h2⟩
theorem idxO {σ : H} {s : AM.SA} {l : List OpN} (hs : Rw σ 3 s l.length (oncs l)) {k : IntKind} {y : Int} {i : Nat} {K : AV → Bool} (hy : y = (i : Int)) (hi : i < l.length) (hK : ∀ p, Elem σ 3 p (onc l[i]) → K (.ptr (some p)) = true) :
    indexAddrK Try.prog 23 (.sl s l.length) (.int k y) K = true := indexAddrK_rw Try.underlying23 (fun _ => rfl) hs hy hi (fm_at onc_len hi) hK
theorem ldO {σ : H} {p : PA} {v : OpN} {K : AV → Bool} (hp : Elem σ 3 p (onc v)) (hK : K (.agg (onc v)) = true) : ldK Try.prog 32 σ p K = true := by
  refine ldK_struct Try.underlying32 rfl rfl hp ?_
  conv => lhs; whnf
  exact hK
theorem storeO {σ : H} {h : Nat} {a b c : AV} {v : OpN} {K : H → Bool} (hh : σ[h]? = some (.cells [a, b, c] 3 .own)) (hK : K (σ.set h (.cells (onc v) 3 .own)) = true) : storeK Try.prog 32 (.ptr (some ⟨h, 0, 0, 3⟩)) (.agg (onc v)) σ K = true :=
  storeS (i := Try.prog.types[32]) rfl hh rfl rfl (Nat.le_refl 3) rfl hK
theorem ldOId {σ : H} {h : Nat} {v : OpN} {md : Md} {K : AV → Bool} (hh : σ[h]? = some (.cells (onc v) 3 md)) (hK : K (.agg (avP v.id)) = true) : ldK Try.prog 28 σ ⟨h, 0, 1, 3⟩ K = true := by
  refine ldS (ys := avP v.id) Try.underlying28 rfl hh (by decide) (by show 0 + 1 + 2 ≤ 3; decide) rfl ?_
  conv => lhs; whnf
  exact hK
theorem nodup_subI {l m : List Nm} (hl : l.Nodup) (h : ∀ x ∈ l, x ∈ m) : l.length ≤ m.length := by
  induction l generalizing m with
  | nil => exact Nat.zero_le _
  | cons x l ih =>
    obtain ⟨h1, h2⟩ := List.nodup_cons.1 hl
    have hx := h x (by simp)
    have := ih (m := m.erase x) h2 fun y hy => (List.mem_erase_of_ne (fun e => h1 (by rw [← e]; exact hy))).2 (h y (by simp [hy]))
    rw [List.length_erase_of_mem hx] at this
    have : 0 < m.length := List.length_pos_of_mem hx
    rw [List.length_cons]; omega
attribute [local irreducible] IntKind.wrap Int.fdiv Int.tdiv Int.tmod BitVec.ofInt appendK sliceK indexAddrK ldK storeK seenK makeSliceK lookupK updateK deleteK mapK rangeK nextK buildSliceK indexK clearK
variable {σ : H} {D : Drawer}
set_option maxHeartbeats 4000000 in
theorem nameAll_run {n : Nat} {s t : AM.SA} {l : List Nm} {ops : List OpN} (hD : ByPlan Try.prog D) (hT : ByTree Try.prog D) (hn : 20000 ≤ n) (hs : Rw σ 2 s l.length (ids l)) (ht : Rw σ 3 t ops.length (oncs ops)) :
    acall Try.prog tab D n 3 [.sl s l.length, .sl t ops.length] σ isTrue = true := by
  obtain ⟨n, rfl, hn⟩ := up (n := n) (k := 19999) (by omega)
  conv => lhs; whnf
  refine begun_spec ?_
  conv => lhs; whnf
  refine loop_rule (m := 195) (fun r fr τ => ∃ (z : Int) (i : Nat) (a : AM.SA) (W : List Nm), z = (i : Int) ∧ i + r = min l.length 12 ∧ σ <+: τ ∧ StrictI W ∧ (∀ x, x ∈ W ↔ x ∈ l.take i) ∧ W.length ≤ i ∧ Rw τ 2 a W.length (ids W) ∧
    fr = [.sl s l.length, .sl t ops.length, .bad, .bad, .bad, .bad, .sl a W.length, .int .i64 z, .bad, .bad, .bad, .bad, .bad, .bad, .bad, .bad, .bad, .bad, .bad, .bad, .bad, .bad, .bad, .bad, .bad, .bad, .bad, .bad, .bad, .bad, .bad, .bad, .bad, .bad, .bad, .bad, .bad, .bad, .bad, .bad, .bad, .bad, .bad, .bad, .bad, .bad, .bad, .bad, .bad, .bad, .bad, .bad, .bad, .bad, .bad, .bad, .bad, .bad, .bad, .bad, .bad, .bad, .bad, .bad, .bad, .bad, .bad, .bad, .bad, .bad, .bad, .bad, .bad, .bad, .bad, .bad, .bad, .bad, .bad, .bad, .bad, .bad, .bad, .bad, .bad, .bad, .bad, .bad, .bad, .bad, .bad, .bad, .bad, .bad, .bad, .bad, .bad, .bad, .bad, .bad, .bad, .bad, .bad, .bad, .bad, .bad, .bad, .bad, .bad, .bad, .bad, .bad, .bad, .bad, .bad, .bad, .bad, .bad, .bad, .bad, .bad, .bad, .bad, .bad, .bad, .bad, .bad, .bad, .bad, .bad, .bad, .bad, .bad, .bad, .bad, .bad, .bad, .bad, .bad, .bad, .bad, .bad, .bad, .bad, .bad, .bad, .bad, .bad, .bad, .bad, .bad, .bad, .bad, .bad, .bad, .bad, .bad, .bad, .bad, .bad]) ?_ _ (min l.length 12) _ _ (by omega) ⟨_, 0, .nil, [], rfl, by omega, List.prefix_rfl, List.Pairwise.nil, fun x => by simp, Nat.le_refl _, Rw.nil _ _, rfl⟩
  rintro r fr τ C ⟨z, i, a, W, rfl, hq, p, hst, hmem, hWl, hw, rfl⟩ next fin
  by_cases hx : i < min l.length 12
  case pos =>
    conv => lhs; whnf
    rw [show decide ((i : Int) < (l.length : Int)) = true from decide_eq_true (by omega)]
    conv => lhs; whnf
    rw [show decide ((i : Int) < 12) = true from decide_eq_true (by omega)]
    conv => lhs; whnf
    refine idxN (hs.mono p) rfl (by omega) fun pe he => ?_
    conv => lhs; whnf
    refine ldN he ?_
    clear he
    conv => lhs; whnf
    refine nlay_spec hD hT (by omega) (by omega) hw hst fun a2 W2 b2 σ2 p2 hst2 hm2 hw2 => ?_
    have hm3 : ∀ x, x ∈ W2 ↔ x ∈ l.take (i + 1) := fun x => by
      rw [hm2, hmem, List.take_succ_eq_append_getElem (by omega), List.mem_append, List.mem_singleton]
    cases b2
    all_goals
      conv => lhs; whnf
      refine next (r - 1) _ _ (by omega) ⟨_, i + 1, a2, W2, inc_i64 (by omega), by omega, p.trans p2, hst2, hm3, layI_len hst hst2 hm2 hWl, hw2, rfl⟩
  have tail : ∀ fr', forget 67 fr' = [.sl s l.length, .sl t ops.length, .bad, .bad, .bad, .bad, .sl a W.length, .bad, .bad, .bad, .bad, .bad, .bad, .bad, .bad, .bad, .bad, .bad, .bad, .bad, .bad, .bad, .bad, .bad, .bad, .bad, .bad, .bad, .bad, .bad, .bad, .bad, .bad, .bad, .bad, .bad, .bad, .bad, .bad, .bad, .bad, .bad, .bad, .bad, .bad, .bad, .bad, .bad, .bad, .bad, .bad, .bad, .bad, .bad, .bad, .bad, .bad, .bad, .bad, .bad, .bad, .bad, .bad, .bad, .bad, .bad, .bad, .bad, .bad, .bad, .bad, .bad, .bad, .bad, .bad, .bad, .bad, .bad, .bad, .bad, .bad, .bad, .bad, .bad, .bad, .bad, .bad, .bad, .bad, .bad, .bad, .bad, .bad, .bad, .bad, .bad, .bad, .bad, .bad, .bad, .bad, .bad, .bad, .bad, .bad, .bad, .bad, .bad, .bad, .bad, .bad, .bad, .bad, .bad, .bad, .bad, .bad, .bad, .bad, .bad, .bad, .bad, .bad, .bad, .bad, .bad, .bad, .bad, .bad, .bad, .bad, .bad, .bad, .bad, .bad, .bad, .bad, .bad, .bad, .bad, .bad, .bad, .bad, .bad, .bad, .bad, .bad, .bad, .bad, .bad, .bad, .bad, .bad, .bad, .bad, .bad, .bad, .bad, .bad, .bad] → C (AE.exit 0) fr' τ = true := by
    intro fr' hf
    refine fin _ _ _ nofun ?_
    show forgetK 67 fr' _ = true
    rw [forgetK_eq, hf]
    have hi : i = min l.length 12 := by omega
    clear next fin hq
    conv => lhs; whnf
    refine slNT (j := min l.length 12) (hs.mono p) ?_ (Nat.min_le_left _ _) fun a1 r1 => ?_
    · show (if _ then _ else _) = _
      split <;> omega
    have htk : (l.take (min l.length 12)).length = min l.length 12 := by rw [List.length_take]; omega
    rw [← hi] at htk r1 ⊢
    generalize l.take i = l0 at htk r1 hmem
    rw [← htk] at r1 ⊢
    conv => lhs; whnf
    refine nnew_spec hD (by omega) (by omega) r1 fun B m σ1 F1 hI hB hm => ?_
    replace hI := hI.ext fun x => (hmem x).symm
    have keep1 : ∀ {z n : Nat} {a : AM.SA} {cs : List AV}, Rw τ z a n cs → Rw σ1 z a n cs := fun h => h.keep fun id xs z md hx => ⟨[], md, by rw [List.append_nil]; exact F1.get hx (Nat.ne_of_lt (get_lt hx))⟩
    replace hw := keep1 hw
    have ht1 := keep1 (ht.mono p)
    clear F1 keep1 r1 hs ht hmem hB
    conv => lhs; whnf
    refine loop_rule (m := 834) (fun r fr ρ => ∃ (z : Int) (i : Nat) (a : AM.SA) (W : List Nm), z = (i : Int) ∧ i + r = min ops.length 60 ∧ Frm m σ1 ρ ∧ IdsAt ρ B m W ∧ StrictI W ∧ W.length ≤ 12 + i ∧ Rw ρ 2 a W.length (ids W) ∧
      fr = [.bad, .sl t ops.length, .bad, .bad, .bad, .bad, .sl a W.length, .bad, .ptr (some ⟨B, 0, 0, 1⟩), .int .i64 z, .bad, .bad, .bad, .bad, .bad, .bad, .bad, .bad, .bad, .bad, .bad, .bad, .bad, .bad, .bad, .bad, .bad, .bad, .bad, .bad, .bad, .bad, .bad, .bad, .bad, .bad, .bad, .bad, .bad, .bad, .bad, .bad, .bad, .bad, .bad, .bad, .bad, .bad, .bad, .bad, .bad, .bad, .bad, .bad, .bad, .bad, .bad, .bad, .bad, .bad, .bad, .bad, .bad, .bad, .bad, .bad, .bad, .bad, .bad, .bad, .bad, .bad, .bad, .bad, .bad, .bad, .bad, .bad, .bad, .bad, .bad, .bad, .bad, .bad, .bad, .bad, .bad, .bad, .bad, .bad, .bad, .bad, .bad, .bad, .bad, .bad, .bad, .bad, .bad, .bad, .bad, .bad, .bad, .bad, .bad, .bad, .bad, .bad, .bad, .bad, .bad, .bad, .bad, .bad, .bad, .bad, .bad, .bad, .bad, .bad, .bad, .bad, .bad, .bad, .bad, .bad, .bad, .bad, .bad, .bad, .bad, .bad, .bad, .bad, .bad, .bad, .bad, .bad, .bad, .bad, .bad, .bad, .bad, .bad, .bad, .bad, .bad, .bad, .bad, .bad, .bad, .bad, .bad, .bad, .bad, .bad, .bad, .bad, .bad, .bad]) ?_ _ (min ops.length 60) _ _ (by omega) ⟨_, 0, a, W, rfl, by omega, Frm.refl _ _, hI, hst, by omega, hw, rfl⟩
    have hI0 := hI
    clear hw hI hst hWl hi
    rintro r fr ρ C ⟨z, i, a, W, rfl, hq, F, hI, hst, hWl, hw, rfl⟩ next fin
    by_cases hx : i < min ops.length 60
    case neg =>
      have tailB : ∀ fr', forget 320 fr' = [.bad, .bad, .bad, .bad, .bad, .bad, .sl a W.length, .bad, .ptr (some ⟨B, 0, 0, 1⟩), .bad, .bad, .bad, .bad, .bad, .bad, .bad, .bad, .bad, .bad, .bad, .bad, .bad, .bad, .bad, .bad, .bad, .bad, .bad, .bad, .bad, .bad, .bad, .bad, .bad, .bad, .bad, .bad, .bad, .bad, .bad, .bad, .bad, .bad, .bad, .bad, .bad, .bad, .bad, .bad, .bad, .bad, .bad, .bad, .bad, .bad, .bad, .bad, .bad, .bad, .bad, .bad, .bad, .bad, .bad, .bad, .bad, .bad, .bad, .bad, .bad, .bad, .bad, .bad, .bad, .bad, .bad, .bad, .bad, .bad, .bad, .bad, .bad, .bad, .bad, .bad, .bad, .bad, .bad, .bad, .bad, .bad, .bad, .bad, .bad, .bad, .bad, .bad, .bad, .bad, .bad, .bad, .bad, .bad, .bad, .bad, .bad, .bad, .bad, .bad, .bad, .bad, .bad, .bad, .bad, .bad, .bad, .bad, .bad, .bad, .bad, .bad, .bad, .bad, .bad, .bad, .bad, .bad, .bad, .bad, .bad, .bad, .bad, .bad, .bad, .bad, .bad, .bad, .bad, .bad, .bad, .bad, .bad, .bad, .bad, .bad, .bad, .bad, .bad, .bad, .bad, .bad, .bad, .bad, .bad, .bad, .bad, .bad, .bad, .bad, .bad] → C (AE.exit 2) fr' ρ = true := by
        intro fr' hf
        refine fin _ _ _ nofun ?_
        show forgetK 320 fr' _ = true
        rw [forgetK_eq, hf]
        clear next fin
        conv => lhs; whnf
        refine nall_spec (by omega) (fun M hM hsub => Nat.le_trans (nodup_subI hM hsub) (by omega)) hI fun oG aG G σG pG hG hmG wG => ?_
        obtain rfl : G = W := strictI_ext hG hst hmG
        replace hw := hw.mono pG
        have hg := wG.rw
        conv => lhs; whnf
        refine loop_rule (m := 98368) (fun r fr τ2 => ∃ (z : Int) (k : Nat), z = (k : Int) ∧ k + r = G.length ∧ τ2 = σG ∧ fr = [.bad, .bad, .bad, .bad, .bad, .bad, .sl a G.length, .bad, .bad, .bad, .bad, .bad, .bad, .bad, .bad, .sl aG G.length, .int .i64 z, .bad, .bad, .bad, .bad, .bad, .bad, .bad, .bad, .bad, .bad, .bad, .bad, .bad, .bad, .bad, .bad, .bad, .bad, .bad, .bad, .bad, .bad, .bad, .bad, .bad, .bad, .bad, .bad, .bad, .bad, .bad, .bad, .bad, .bad, .bad, .bad, .bad, .bad, .bad, .bad, .bad, .bad, .bad, .bad, .bad, .bad, .bad, .bad, .bad, .bad, .bad, .bad, .bad, .bad, .bad, .bad, .bad, .bad, .bad, .bad, .bad, .bad, .bad, .bad, .bad, .bad, .bad, .bad, .bad, .bad, .bad, .bad, .bad, .bad, .bad, .bad, .bad, .bad, .bad, .bad, .bad, .bad, .bad, .bad, .bad, .bad, .bad, .bad, .bad, .bad, .bad, .bad, .bad, .bad, .bad, .bad, .bad, .bad, .bad, .bad, .bad, .bad, .bad, .bad, .bad, .bad, .bad, .bad, .bad, .bad, .bad, .bad, .bad, .bad, .bad, .bad, .bad, .bad, .bad, .bad, .bad, .bad, .bad, .bad, .bad, .bad, .bad, .bad, .bad, .bad, .bad, .bad, .bad, .bad, .bad, .bad, .bad, .bad, .bad, .bad, .bad, .bad, .bad]) ?_ _ G.length _ _ (by omega) ⟨_, 0, rfl, by omega, rfl, rfl⟩
        rintro r fr τ2 C ⟨z, k, rfl, hq, rfl, rfl⟩ next fin
        conv => lhs; whnf
        by_cases hk : k < G.length
        case neg =>
          rw [show decide ((k : Int) < (G.length : Int)) = false from decide_eq_false (by omega)]
          conv => lhs; whnf
          refine fin _ _ _ nofun ?_
          conv => lhs; whnf
          rw [show ((G.length : Int) == (G.length : Int)) = true by simp]
          conv => lhs; whnf
        rw [show decide ((k : Int) < (G.length : Int)) = true from decide_eq_true (by omega)]
        conv => lhs; whnf
        rw [show decide ((k : Int) < (G.length : Int)) = true from decide_eq_true (by omega)]
        conv => lhs; whnf
        refine goK hD plan3x42 ord3x42 fun KK hKK => ?_
        conv => lhs; whnf
        refine idxN hg rfl hk fun p1 e1 => ?_
        conv => lhs; whnf
        refine ldN e1 ?_
        conv => lhs; whnf
        refine idxN hw rfl hk fun p2 e2 => ?_
        conv => lhs; whnf
        refine ldN e2 ?_
        conv => lhs; whnf
        rw [idEq, decide_eq_true rfl]
        conv => lhs; whnf
        subst hKK
        conv => lhs; whnf
        refine next (r - 1) _ _ (by omega) ⟨_, k + 1, inc_i64 (by omega), by omega, rfl, rfl⟩
      by_cases hi : i < ops.length
      · conv => lhs; whnf
        rw [show decide ((i : Int) < (ops.length : Int)) = true from decide_eq_true (by omega)]
        conv => lhs; whnf
        rw [show decide ((i : Int) < 60) = false from decide_eq_false (by omega)]
        conv => lhs; whnf
        exact tailB _ rfl
      · conv => lhs; whnf
        rw [show decide ((i : Int) < (ops.length : Int)) = false from decide_eq_false (by omega)]
        conv => lhs; whnf
        exact tailB _ rfl
    conv => lhs; whnf
    rw [show decide ((i : Int) < (ops.length : Int)) = true from decide_eq_true (by omega)]
    conv => lhs; whnf
    rw [show decide ((i : Int) < 60) = true from decide_eq_true (by omega)]
    conv => lhs; whnf
    refine idxO (hI0.m.rw F ht1) rfl (by omega) fun pe he => ?_
    conv => lhs; whnf
    refine ldO he ?_
    generalize ops[i]'(by omega) = v at he ⊢
    clear he
    conv => lhs; whnf
    refine storeO (get_new _ _) ?_
    rw [set_new]
    have PV := List.prefix_append ρ [AO.cells (onc v) 3 .own]
    have TV := get_new ρ (AO.cells (onc v) 3 .own)
    have F1 := F.trans (Frm.pre (m := m) PV)
    replace hI := hI.mono PV
    replace hw := hw.mono PV
    generalize hρ1 : ρ ++ [AO.cells (onc v) 3 .own] = ρ1 at TV F1 hI hw ⊢
    clear hρ1 PV F
    conv => lhs; whnf
    refine loop_rule (m := 8002) (fun r2 fr2 τ2 => ∃ (z : Int) (b : Bool) (k : Nat), z = (k : Int) ∧ k + r2 = W.length ∧ τ2 = ρ1 ∧ b = decide (v.id ∈ W.take k) ∧
      fr2 = [.bad, .sl t ops.length, .bad, .bad, .bad, .bad, .sl a W.length, .bad, .ptr (some ⟨B, 0, 0, 1⟩), .int .i64 (i : Int), .ptr (some ⟨ρ.length, 0, 0, 3⟩), .bool b, .int .i64 z, .bad, .bad, .bad, .bad, .bad, .bad, .bad, .bad, .bad, .bad, .bad, .bad, .bad, .bad, .bad, .bad, .bad, .bad, .bad, .bad, .bad, .bad, .bad, .bad, .bad, .bad, .bad, .bad, .bad, .bad, .bad, .bad, .bad, .bad, .bad, .bad, .bad, .bad, .bad, .bad, .bad, .bad, .bad, .bad, .bad, .bad, .bad, .bad, .bad, .bad, .bad, .bad, .bad, .bad, .bad, .bad, .bad, .bad, .bad, .bad, .bad, .bad, .bad, .bad, .bad, .bad, .bad, .bad, .bad, .bad, .bad, .bad, .bad, .bad, .bad, .bad, .bad, .bad, .bad, .bad, .bad, .bad, .bad, .bad, .bad, .bad, .bad, .bad, .bad, .bad, .bad, .bad, .bad, .bad, .bad, .bad, .bad, .bad, .bad, .bad, .bad, .bad, .bad, .bad, .bad, .bad, .bad, .bad, .bad, .bad, .bad, .bad, .bad, .bad, .bad, .bad, .bad, .bad, .bad, .bad, .bad, .bad, .bad, .bad, .bad, .bad, .bad, .bad, .bad, .bad, .bad, .bad, .bad, .bad, .bad, .bad, .bad, .bad, .bad, .bad, .bad, .bad, .bad, .bad, .bad, .bad, .bad]) ?_ _ W.length _ _ (by omega) ⟨_, _, 0, rfl, by omega, rfl, (by simp : false = decide (v.id ∈ W.take 0)), rfl⟩
    rintro r2 fr2 τ2 C2 ⟨z, b, k, rfl, hq2, rfl, hb, rfl⟩ next2 fin2
    conv => lhs; whnf
    by_cases hk : k < W.length
    case pos =>
      rw [show decide ((k : Int) < (W.length : Int)) = true from decide_eq_true (by omega)]
      have e1 : W.take (k + 1) = W.take k ++ [W[k]] := List.take_succ_eq_append_getElem hk
      conv => lhs; whnf
      refine goK hD plan3x18 ord3x18 fun KK hKK => ?_
      cases b with
      | true =>
        have hin := of_decide_eq_true hb.symm
        conv => lhs; whnf
        subst hKK
        conv => lhs; whnf
        refine next2 (r2 - 1) _ _ (by omega) ⟨_, _, k + 1, inc_i64 (by omega), by omega, rfl, ?_, rfl⟩
        rw [e1]
        exact (decide_eq_true (List.mem_append_left _ hin)).symm
      | false =>
        have hin := of_decide_eq_false hb.symm
        conv => lhs; whnf
        refine idxN hw rfl hk fun p1 e1 => ?_
        conv => lhs; whnf
        refine ldN e1 ?_
        conv => lhs; whnf
        refine ldOId TV ?_
        conv => lhs; whnf
        rw [idEq]
        by_cases heq : W[k] = v.id
        · rw [decide_eq_true heq]
          conv => lhs; whnf
          subst hKK
          conv => lhs; whnf
          refine next2 (r2 - 1) _ _ (by omega) ⟨_, _, k + 1, inc_i64 (by omega), by omega, rfl, ?_, rfl⟩
          rw [‹W.take (k + 1) = _›]
          exact (decide_eq_true (List.mem_append_right _ (by rw [heq]; exact List.mem_singleton_self _))).symm
        · rw [decide_eq_false heq]
          conv => lhs; whnf
          subst hKK
          conv => lhs; whnf
          refine next2 (r2 - 1) _ _ (by omega) ⟨_, _, k + 1, inc_i64 (by omega), by omega, rfl, ?_, rfl⟩
          rw [‹W.take (k + 1) = _›]
          exact (decide_eq_false fun h => (List.mem_append.1 h).elim hin fun h => heq (List.mem_singleton.1 h).symm).symm
    rw [show decide ((k : Int) < (W.length : Int)) = false from decide_eq_false (by omega)]
    rw [List.take_of_length_le (by omega)] at hb
    clear hk hq2
    conv => lhs; whnf
    refine fin2 _ _ _ nofun ?_
    clear next2 fin2
    conv => lhs; whnf
    refine ldF Try.underlying3 rfl rfl TV rfl ?_
    conv => lhs; whnf
    by_cases hk0 : v.kind = 0
    case pos =>
      rw [show (v.kind == 0) = true from beq_iff_eq.2 hk0]
      conv => lhs; whnf
      refine ldOId TV ?_
      conv => lhs; whnf
      refine nadd_spec hD (by omega) hI fun σ2 F2 hI2 => ?_
      have TV2 := hI.m.cells F2 TV
      have hw2 := hI.m.rw F2 hw
      rw [← hb]
      cases b
      all_goals
        conv => lhs; whnf
        refine ldOId TV2 ?_
        conv => lhs; whnf
        refine nlay_spec hD hT (by omega) (by omega) hw2 hst fun a3 W3 b3 σ3 p3 hst3 hm3 hw3 => ?_
        have hI3 : IdsAt σ3 B m W3 := (hI2.mono p3).ext fun x => by
          rw [hm3, List.mem_cons]
          exact Or.comm
        have hl3 := layI_len hst hst3 hm3 hWl
        have F3 := F1.trans (F2.trans (Frm.pre (m := m) p3))
        clear hI2 hw2 TV2 hm3
        cases b3
        all_goals
          conv => lhs; whnf
          refine nlen_spec (by omega) hI3 fun M hM hmM => ?_
          have eM : M.length = W3.length := nodup_lenI hM (strictI_nodup hst3) hmM
          rw [eM]
          conv => lhs; whnf
          rw [show (!((W3.length : Int) == (W3.length : Int))) = false by simp]
          conv => lhs; whnf
          refine next (r - 1) _ _ (by omega) ⟨_, i + 1, a3, W3, inc_i64 (by omega), by omega, F3, hI3, hst3, by omega, hw3, rfl⟩
    rw [show (v.kind == 0) = false from beq_eq_false_iff_ne.2 hk0]
    conv => lhs; whnf
    by_cases hk1 : v.kind = 1
    case neg =>
      rw [show (v.kind == 1) = false from beq_eq_false_iff_ne.2 hk1]
      conv => lhs; whnf
      refine ldOId TV ?_
      conv => lhs; whnf
      refine nhas_spec hD (by omega) hI fun σ3 p3 => ?_
      have hI3 := hI.mono p3
      have hw3 := hw.mono p3
      have hst3 := hst
      have hl3 : W.length ≤ 12 + i + 1 := by omega
      have F3 := F1.trans (Frm.pre (m := m) p3)
      rw [← hb]
      cases b
      all_goals
        conv => lhs; whnf
        refine nlen_spec (by omega) hI3 fun M hM hmM => ?_
        have eM : M.length = W.length := nodup_lenI hM (strictI_nodup hst3) hmM
        rw [eM]
        conv => lhs; whnf
        rw [show (!((W.length : Int) == (W.length : Int))) = false by simp]
        conv => lhs; whnf
        refine next (r - 1) _ _ (by omega) ⟨_, i + 1, a, W, inc_i64 (by omega), by omega, F3, hI3, hst3, by omega, hw3, rfl⟩
    rw [show (v.kind == 1) = true from beq_iff_eq.2 hk1]
    conv => lhs; whnf
    refine ldOId TV ?_
    conv => lhs; whnf
    refine ndrop_spec hD (by omega) hI fun σ2 F2 hI2 => ?_
    have TV2 := hI.m.cells F2 TV
    have hw2 := hI.m.rw F2 hw
    rw [← hb]
    have F12 := F1.trans F2
    cases b
    all_goals
      conv => lhs; whnf
      refine loop_rule (m := 26434) (fun r4 fr4 τ4 => ∃ (z : Int) (k : Nat) (o : Option Nat) (a4 : AM.SA), z = (k : Int) ∧ k + r4 = W.length ∧ σ2 <+: τ4 ∧ OwnS σ2 τ4 2 o a4 ((W.take k).filter fun x => !decide (x = v.id)).length (ids ((W.take k).filter fun x => !decide (x = v.id))) ∧
        fr4 = [.bad, .sl t ops.length, .bad, .bad, .bad, .bad, .sl a W.length, .bad, .ptr (some ⟨B, 0, 0, 1⟩), .int .i64 (i : Int), .ptr (some ⟨ρ.length, 0, 0, 3⟩), .bad, .bad, .sl a4 ((W.take k).filter fun x => !decide (x = v.id)).length, .int .i64 z, .bad, .bad, .bad, .bad, .bad, .bad, .bad, .bad, .bad, .bad, .bad, .bad, .bad, .bad, .bad, .bad, .bad, .bad, .bad, .bad, .bad, .bad, .bad, .bad, .bad, .bad, .bad, .bad, .bad, .bad, .bad, .bad, .bad, .bad, .bad, .bad, .bad, .bad, .bad, .bad, .bad, .bad, .bad, .bad, .bad, .bad, .bad, .bad, .bad, .bad, .bad, .bad, .bad, .bad, .bad, .bad, .bad, .bad, .bad, .bad, .bad, .bad, .bad, .bad, .bad, .bad, .bad, .bad, .bad, .bad, .bad, .bad, .bad, .bad, .bad, .bad, .bad, .bad, .bad, .bad, .bad, .bad, .bad, .bad, .bad, .bad, .bad, .bad, .bad, .bad, .bad, .bad, .bad, .bad, .bad, .bad, .bad, .bad, .bad, .bad, .bad, .bad, .bad, .bad, .bad, .bad, .bad, .bad, .bad, .bad, .bad, .bad, .bad, .bad, .bad, .bad, .bad, .bad, .bad, .bad, .bad, .bad, .bad, .bad, .bad, .bad, .bad, .bad, .bad, .bad, .bad, .bad, .bad, .bad, .bad, .bad, .bad, .bad, .bad, .bad, .bad, .bad, .bad, .bad, .bad]) ?_ _ W.length _ _ (by omega) ⟨_, 0, none, .nil, rfl, by omega, List.prefix_rfl, OwnS.nil _ _ _, rfl⟩
      rintro r4 fr4 τ4 C4 ⟨z, k, o, a4, rfl, hq4, p4, ow, rfl⟩ next4 fin4
      conv => lhs; whnf
      by_cases hk : k < W.length
      case neg =>
        rw [show decide ((k : Int) < (W.length : Int)) = false from decide_eq_false (by omega)]
        rw [List.take_of_length_le (by omega)] at ow ⊢
        have hI3 : IdsAt τ4 B m (W.filter fun x => !decide (x = v.id)) := hI2.mono p4
        have hw3 := ow.rw
        have hst3 : StrictI (W.filter fun x => !decide (x = v.id)) := hst.sublist List.filter_sublist
        have hl3 : (W.filter fun x => !decide (x = v.id)).length ≤ 12 + i + 1 := Nat.le_trans (List.length_filter_le _ _) (by omega)
        have F3 := F12.trans (Frm.pre (m := m) p4)
        clear ow next4
        generalize (W.filter fun x => !decide (x = v.id)) = W3 at hI3 hw3 hst3 hl3 ⊢
        conv => lhs; whnf
        refine fin4 _ _ _ nofun ?_
        clear fin4
        conv => lhs; whnf
        refine nlen_spec (by omega) hI3 fun M hM hmM => ?_
        have eM : M.length = W3.length := nodup_lenI hM (strictI_nodup hst3) hmM
        rw [eM]
        conv => lhs; whnf
        rw [show (!((W3.length : Int) == (W3.length : Int))) = false by simp]
        conv => lhs; whnf
        refine next (r - 1) _ _ (by omega) ⟨_, i + 1, a4, W3, inc_i64 (by omega), by omega, F3, hI3, hst3, by omega, hw3, rfl⟩
      rw [show decide ((k : Int) < (W.length : Int)) = true from decide_eq_true (by omega)]
      have e1 : (W.take (k + 1)).filter (fun x => !decide (x = v.id)) = (W.take k).filter (fun x => !decide (x = v.id)) ++ (if W[k] = v.id then [] else [W[k]]) := by
        rw [List.take_succ_eq_append_getElem hk, List.filter_append]
        congr 1
        by_cases h : W[k] = v.id <;> simp [h]
      conv => lhs; whnf
      refine goK hD plan3x33 ord3x33 fun KK hKK => ?_
      conv => lhs; whnf
      refine idxN (hw2.mono p4) rfl hk fun pe he => ?_
      conv => lhs; whnf
      refine ldN he ?_
      conv => lhs; whnf
      refine ldOId (prefix_get p4 TV2) ?_
      conv => lhs; whnf
      rw [idEq]
      by_cases heq : W[k] = v.id
      · rw [decide_eq_true heq]
        rw [if_pos heq, List.append_nil] at e1
        rw [← e1] at ow ⊢
        conv => lhs; whnf
        subst hKK
        conv => lhs; whnf
        refine next4 (r4 - 1) _ _ (by omega) ⟨_, k + 1, o, a4, inc_i64 (by omega), by omega, p4, ow, rfl⟩
      · rw [decide_eq_false heq]
        rw [if_neg heq] at e1
        conv => lhs; whnf
        subst hKK
        conv => lhs; whnf
        refine idxN (hw2.mono p4) rfl hk fun pe he => ?_
        conv => lhs; whnf
        refine ldN he ?_
        conv => lhs; whnf
        refine build22 (x := W[k]) ?_
        have PB := List.prefix_append τ4 [AO.cells (ids [W[k]]) 2 .own]
        conv => lhs; whnf
        refine appN (p4.trans PB) (ow.mono PB) rfl (Rw.new _ .own rfl) (m := 1) rfl (by rw [← e1]; have := List.length_filter_le (fun x => !decide (x = v.id)) (W.take (k + 1)); rw [List.length_take] at this; omega) fun o5 a5 σ5 p5 _ _ w5 => ?_
        rw [← e1] at w5 ⊢
        conv => lhs; whnf
        refine next4 (r4 - 1) _ _ (by omega) ⟨_, k + 1, o5, a5, inc_i64 (by omega), by omega, p5, w5, rfl⟩
  by_cases hi : i < l.length
  · conv => lhs; whnf
    rw [show decide ((i : Int) < (l.length : Int)) = true from decide_eq_true (by omega)]
    conv => lhs; whnf
    rw [show decide ((i : Int) < 12) = false from decide_eq_false (by omega)]
    conv => lhs; whnf
    exact tail _ rfl
  · conv => lhs; whnf
    rw [show decide ((i : Int) < (l.length : Int)) = false from decide_eq_false (by omega)]
    conv => lhs; whnf
    exact tail _ rfl
theorem nameAll_law (σ : H) (vs : List AV) (h : ArgsShp Try.prog σ 9 [22, 23] vs) : ∃ n, acall Try.prog tab (drawRegion Try.prog) n 3 vs σ isTrue = true := by
  obtain ⟨a, us, rfl, h1, h⟩ := args_cons h
  obtain ⟨b, us, rfl, h2, h⟩ := args_cons h
  obtain rfl := args_nil h
  obtain ⟨s, l, rfl, r1⟩ := arg_nms h1
  obtain ⟨t, ops, rfl, r2⟩ := arg_ons h2
  exact ⟨20000, nameAll_run (byPlan _) (byTree _) (Nat.le_refl _) r1 r2⟩
end Go.Proofs.Ytjooccdeeejecaa
