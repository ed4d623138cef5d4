/- LockMeet: a whole space, and one key of it, meet; keys of unlike names do not. -/
import Derived.Test.YtajincfelnmlhaaGreatGmLock
import Derived.Test.YtajincfelnmlhaaGreatL12Span
namespace Go.Proofs.YtajincfelnmlhaaGreat
set_option maxRecDepth 100000
open Go Go.AM Go.AM.St
theorem shp_b {σ : H} {m : Nat} {t : TypeId} {cs : List AV} (ht : Tryz.prog.underlying t = some .bool) (h : Shp Tryz.prog σ (m + 1) t cs) : ∃ b, cs = [.bool b] := by
  unfold Shp at h
  rw [ht] at h
  exact h
theorem arg_key {σ : H} {a : AV} (ha : ArgShp Tryz.prog σ 9 75 a) : ∃ x : KeyB, a = .agg (avK x) := by
  unfold ArgShp at ha
  rw [Tryz.underlying75] at ha
  obtain ⟨cs, rfl, hl, h⟩ := ha
  match cs, hl with
  | [x, y, z], _ =>
    unfold Shp at h
    rw [Tryz.underlying75] at h
    obtain ⟨s, e2, s1, s2⟩ := shp_s (m := 7) (cs := [x]) Tryz.underlying9 (h _ (.head _))
    cases e2
    obtain ⟨s', e3, s3, s4⟩ := shp_s (m := 7) (cs := [y]) Tryz.underlying9 (h _ (.tail _ (.head _)))
    cases e3
    obtain ⟨b, e4⟩ := shp_b (m := 7) (cs := [z]) Tryz.underlying4 (h _ (.tail _ (.tail _ (.head _))))
    cases e4
    have h1 : s.all (fun b => Nat.blt b 256) = true := List.all_eq_true.2 fun b hb => by rw [Nat.blt_eq]; exact s1 b hb
    have h2 : s'.all (fun b => Nat.blt b 256) = true := List.all_eq_true.2 fun b hb => by rw [Nat.blt_eq]; exact s3 b hb
    exact ⟨⟨⟨s, s', b⟩, by unfold okB; simp only [h1, h2]; rfl⟩, rfl⟩
theorem own_at {σ0 σ : H} {o : Option Nat} {a : AM.SA} {x : KeyB} (h : OwnS σ0 σ 3 o a [x].length (kcs [x])) : ∃ id, a = .at id 0 3 ∧ σ[id]? = some (.cells (avK x) 3 .own) := by
  unfold OwnS at h
  split at h
  · obtain ⟨_, h2, _⟩ := h; simp at h2
  · rename_i id
    obtain ⟨h1, h2, h3, h4⟩ := h
    refine ⟨id, h1, ?_⟩
    rw [h3]
    simp [kcs]
attribute [local irreducible] IntKind.wrap Int.fdiv Int.tdiv Int.tmod BitVec.ofInt appendK sliceK ldK storeK seenK makeSliceK lookupK updateK deleteK mapK rangeK nextK buildSliceK indexK clearK
variable {σ : H} {D : Drawer}
theorem lockMeet_run {n : Nat} {x y : KeyB} (hD : ByPlan Tryz.prog D) (hT : ByTree Tryz.prog D) (hn : 5000 ≤ n) : acall Tryz.prog tab D n 8 [.agg (avK x), .agg (avK y)] σ isTrue = true := by
  obtain ⟨n, rfl, hn⟩ := up (n := n) (k := 4999) (by omega)
  have T2 := get_old (get_new σ (AO.cells (avK x) 3 .own)) (AO.cells (avK y) 3 .own)
  have T3 := get_two σ (AO.cells (avK x) 3 .own) (AO.cells (avK y) 3 .own) (AO.cells (avK x) 3 .own)
  conv => lhs; whnf
  refine begun_spec ?_
  conv => lhs; whnf
  refine ldF Tryz.underlying9 rfl rfl T2 rfl ?_
  conv => lhs; whnf
  refine ldF Tryz.underlying9 rfl rfl T3 rfl ?_
  conv => lhs; whnf
  refine ldF Tryz.underlying9 rfl rfl T2 rfl ?_
  conv => lhs; whnf
  refine ldF Tryz.underlying9 rfl rfl T3 rfl ?_
  conv => lhs; whnf
  refine bif_case (fun _ => ?_) fun _ => ?_
  · conv => lhs; whnf
  conv => lhs; whnf
  refine lnew_spec (by omega) fun B m σ1 p1 lk hB hm => ?_
  replace T2 := prefix_get p1 T2
  replace T3 := prefix_get p1 T3
  conv => lhs; whnf
  refine ldKv1 T2 ?_
  conv => lhs; whnf
  refine build75 (x := x) ?_
  have P1 := List.prefix_append σ1 [AO.cells (kcs [x]) 3 .own]
  replace T2 := prefix_get P1 T2
  replace T3 := prefix_get P1 T3
  conv => lhs; whnf
  refine take_spec (id := (1, 1)) (ks := [x]) hD (fun L hL h => ?_) (by simp; omega) (by simp) (lk.mono P1) (Rw.new (kcs [x]) .own rfl) (fun ⟨k', i, h, _⟩ => by cases h) fun _ σ2 F2 lk2 => ?_
  · have := nodup_sub (m := []) hL fun x hx => absurd rfl (h x hx)
    simp at this
    rw [this]; simp; omega
  replace T2 := (lk.mono P1).m.cells F2 T2
  replace T3 := (lk.mono P1).m.cells F2 T3
  clear F2 lk P1
  conv => lhs; whnf
  refine ldKv1 T3 ?_
  conv => lhs; whnf
  refine build75 (x := y) ?_
  have P1 := List.prefix_append σ2 [AO.cells (kcs [y]) 3 .own]
  replace T2 := prefix_get P1 T2
  replace T3 := prefix_get P1 T3
  have f1 : ∀ k i, (if k ∈ [x] then some ((1 : Int), (1 : Int)) else none) = some i → k = x ∧ i = (1, 1) := fun k i h => by
    by_cases hk : k ∈ [x]
    · rw [if_pos hk] at h; cases h; exact ⟨List.mem_singleton.1 hk, rfl⟩
    · rw [if_neg hk] at h; cases h
  conv => lhs; whnf
  refine take_spec (id := (2, 1)) (ks := [y]) hD (fun L hL h => ?_) (by simp; omega) (by simp) (lk2.mono P1) (Rw.new (kcs [y]) .own rfl) (fun hmt σ3 p3 => ?_) fun hmt σ3 F3 lk3 => ?_
  · have := nodup_sub (m := [x]) hL fun z hz => Classical.byContradiction fun h2 => h z hz (if_neg h2)
    simp at this ⊢
    omega
  · obtain ⟨k', i, h1, h2, k, h3, h4⟩ := hmt
    obtain ⟨rfl, rfl⟩ := f1 k' i h1
    have hmt' : meetV k'.1 y.1 = true := by rw [meet_comm, ← List.mem_singleton.1 h3]; exact h4
    replace T2 := prefix_get p3 T2
    replace T3 := prefix_get p3 T3
    have lk3 := (lk2.mono P1).mono p3
    have no : ∀ k i, (if k ∈ [k'] then some ((1 : Int), (1 : Int)) else none) = some i → i ≠ (1, 1) → meetV k'.1 k.1 = false := fun k i h hne => absurd (f1 k i h).2 hne
    have sup : ∀ k, (if k ∈ [k'] then some ((1 : Int), (1 : Int)) else none) ≠ none → k ∈ [k', y] := fun k h => by
      cases hq : (if k ∈ [k'] then some ((1 : Int), (1 : Int)) else none) with
      | none => exact absurd hq h
      | some i => rw [(f1 k i hq).1]; simp
    clear lk2 P1 p3 f1
    conv => lhs; whnf
    refine ldKv1 T2 ?_
    conv => lhs; whnf
    refine build75 (x := k') ?_
    have P1 := List.prefix_append σ3 [AO.cells (kcs [k']) 3 .own]
    replace T2 := prefix_get P1 T2
    replace T3 := prefix_get P1 T3
    conv => lhs; whnf
    refine take_spec (id := (1, 1)) (ks := [k']) hD (fun L hL h => ?_) (by simp; omega) (by simp) (lk3.mono P1) (Rw.new (kcs [k']) .own rfl) (fun ⟨k', i, h, hne, k, hk, hmm⟩ => ?_) fun _ σ4 F4 lk4 => ?_
    · have := nodup_sub (m := [k', y]) hL fun z hz => sup z (h z hz)
      simp at this ⊢
      omega
    · exact absurd hmm (by rw [List.mem_singleton.1 hk, no k' i h hne]; simp)
    replace T2 := (lk3.mono P1).m.cells F4 T2
    replace T3 := (lk3.mono P1).m.cells F4 T3
    clear F4 lk3 lk4
    conv => lhs; whnf
    refine goT hT tree8x10 ordT8x10 fun KK hKK => ?_
    conv => lhs; whnf
    refine ldKv1 T2 ?_
    conv => lhs; whnf
    refine ldKv1 T3 ?_
    conv => lhs; whnf
    refine and_true ?_ ?_
    · show Go.AM.stepT Tryz.prog _ _ 7 [11] _ _ _ _ _ = true
      refine stepT_hide fun ih hih => ?_
      conv => lhs; whnf
      refine build75 (x := k') ?_
      have PA := List.prefix_append σ4 [AO.cells (kcs [k']) 3 .own]
      conv => lhs; whnf
      refine and_true (all_cons ?_ (all_skip rfl rfl)) ?_
      · conv => lhs; whnf
        refine ldKv1 (prefix_get PA T3) ?_
        exact same_key _
      subst hih
      conv => lhs; whnf
      refine and_true ?_ ?_
      · show Go.AM.stepT Tryz.prog _ _ 8 [11] _ _ _ _ _ = true
        refine stepT_hide fun ih hih => ?_
        conv => lhs; whnf
        refine keys_spec (l := [k']) hD (by simp; omega) (by simp) (Rw.new (kcs [k']) .own rfl) fun oA aA σA pA wA => ?_
        conv => lhs; whnf
        refine and_true (all_cons ?_ (all_skip rfl rfl)) ?_
        · conv => lhs; whnf
          refine ldKv1 (prefix_get (PA.trans pA) T3) ?_
          exact same_key _
        subst hih
        obtain ⟨iA, rfl, eA⟩ := own_at wA
        conv => lhs; whnf
        refine ldRv1 (x := k') eA ?_
        conv => lhs; whnf
        refine build75 (x := y) ?_
        have PB := List.prefix_append σA [AO.cells (kcs [y]) 3 .own]
        conv => lhs; whnf
        refine and_true (all_cons ?_ (all_skip rfl (all_cons ?_ rfl))) ?_
        · conv => lhs; whnf
          refine ldRv1 (x := k') (prefix_get PB eA) ?_
          exact same_key _
        · conv => lhs; whnf
          refine ldKv1 (prefix_get ((PA.trans pA).trans PB) T2) ?_
          exact same_key _
        conv => lhs; whnf
        refine keys_spec (l := [y]) hD (by simp; omega) (by simp) (Rw.new (kcs [y]) .own rfl) fun oB aB σB pB wB => ?_
        conv => lhs; whnf
        refine and_true (all_cons ?_ (all_skip rfl (all_skip rfl rfl))) ?_
        · conv => lhs; whnf
          refine ldRv1 (x := k') (prefix_get (PB.trans pB) eA) ?_
          exact same_key _
        obtain ⟨iB, rfl, eB⟩ := own_at wB
        conv => lhs; whnf
        refine ldRv1 (x := y) eB ?_
        conv => lhs; whnf
        refine rmeet_spec (by omega) fun σC pC => ?_
        rw [hmt']
        conv => lhs; whnf
        subst hKK
        conv => lhs; whnf
      · show Go.AM.stepT Tryz.prog _ _ 12 [6] _ _ _ _ _ = true
        refine stepT_hide fun ih hih => ?_
        conv => lhs; whnf
        refine build75 (x := y) ?_
        have PB := List.prefix_append (σ4 ++ [AO.cells (kcs [k']) 3 .own]) [AO.cells (kcs [y]) 3 .own]
        conv => lhs; whnf
        refine and_true (all_skip rfl (all_cons ?_ rfl)) ?_
        · conv => lhs; whnf
          refine ldKv1 (prefix_get (PA.trans PB) T2) ?_
          exact same_key _
        subst hih
        conv => lhs; whnf
        refine keys_spec (l := [k']) hD (by simp; omega) (by simp) ((Rw.new (kcs [k']) .own rfl).mono PB) fun oA aA σA pA wA => ?_
        conv => lhs; whnf
        refine and_true (all_cons ?_ (all_skip rfl rfl)) ?_
        · conv => lhs; whnf
          refine ldKv1 (prefix_get ((PA.trans PB).trans pA) T3) ?_
          exact same_key _
        obtain ⟨iA, rfl, eA⟩ := own_at wA
        conv => lhs; whnf
        refine ldRv1 (x := k') eA ?_
        conv => lhs; whnf
        refine keys_spec (l := [y]) hD (by simp; omega) (by simp) ((Rw.new (kcs [y]) .own rfl).mono pA) fun oB aB σB pB wB => ?_
        conv => lhs; whnf
        refine and_true (all_cons ?_ (all_skip rfl (all_skip rfl rfl))) ?_
        · conv => lhs; whnf
          refine ldRv1 (x := k') (prefix_get pB eA) ?_
          exact same_key _
        obtain ⟨iB, rfl, eB⟩ := own_at wB
        conv => lhs; whnf
        refine ldRv1 (x := y) eB ?_
        conv => lhs; whnf
        refine rmeet_spec (by omega) fun σC pC => ?_
        rw [hmt']
        conv => lhs; whnf
        subst hKK
        conv => lhs; whnf
    · show Go.AM.stepT Tryz.prog _ _ 12 [6] _ _ _ _ _ = true
      refine stepT_hide fun ih hih => ?_
      conv => lhs; whnf
      refine build75 (x := y) ?_
      have PB := List.prefix_append σ4 [AO.cells (kcs [y]) 3 .own]
      conv => lhs; whnf
      refine and_true (all_skip rfl (all_cons ?_ rfl)) ?_
      · conv => lhs; whnf
        refine ldKv1 (prefix_get PB T2) ?_
        exact same_key _
      subst hih
      conv => lhs; whnf
      refine build75 (x := k') ?_
      have PA := List.prefix_append (σ4 ++ [AO.cells (kcs [y]) 3 .own]) [AO.cells (kcs [k']) 3 .own]
      conv => lhs; whnf
      refine and_true (all_cons ?_ (all_skip rfl rfl)) ?_
      · conv => lhs; whnf
        refine ldKv1 (prefix_get (PB.trans PA) T3) ?_
        exact same_key _
      conv => lhs; whnf
      refine keys_spec (l := [k']) hD (by simp; omega) (by simp) (Rw.new (kcs [k']) .own rfl) fun oA aA σA pA wA => ?_
      conv => lhs; whnf
      refine and_true (all_cons ?_ (all_skip rfl rfl)) ?_
      · conv => lhs; whnf
        refine ldKv1 (prefix_get ((PB.trans PA).trans pA) T3) ?_
        exact same_key _
      obtain ⟨iA, rfl, eA⟩ := own_at wA
      conv => lhs; whnf
      refine ldRv1 (x := k') eA ?_
      conv => lhs; whnf
      refine keys_spec (l := [y]) hD (by simp; omega) (by simp) ((Rw.new (kcs [y]) .own rfl).mono (PA.trans pA)) fun oB aB σB pB wB => ?_
      conv => lhs; whnf
      refine and_true (all_cons ?_ (all_skip rfl (all_skip rfl rfl))) ?_
      · conv => lhs; whnf
        refine ldRv1 (x := k') (prefix_get pB eA) ?_
        exact same_key _
      obtain ⟨iB, rfl, eB⟩ := own_at wB
      conv => lhs; whnf
      refine ldRv1 (x := y) eB ?_
      conv => lhs; whnf
      refine rmeet_spec (by omega) fun σC pC => ?_
      rw [hmt']
      conv => lhs; whnf
      subst hKK
      conv => lhs; whnf
  · have hmt' : meetV x.1 y.1 = false := by
      have := hmt x (1, 1) (if_pos (List.mem_singleton_self _)) (by decide) y (List.mem_singleton_self _)
      rw [meet_comm]
      exact this
    replace T2 := (lk2.mono P1).m.cells F3 T2
    replace T3 := (lk2.mono P1).m.cells F3 T3
    have no : ∀ k i, (if k ∈ [y] then some ((2 : Int), (1 : Int)) else if k ∈ [x] then some ((1 : Int), (1 : Int)) else none) = some i → i ≠ (1, 1) → meetV x.1 k.1 = false := fun k i h hne => by
      by_cases hk : k ∈ [y]
      · rw [List.mem_singleton.1 hk]; exact hmt'
      · rw [if_neg hk] at h
        exact absurd (f1 k i h).2 hne
    have sup : ∀ k, (if k ∈ [y] then some ((2 : Int), (1 : Int)) else if k ∈ [x] then some ((1 : Int), (1 : Int)) else none) ≠ none → k ∈ [x, y] := fun k h => by
      by_cases hk : k ∈ [y]
      · rw [List.mem_singleton.1 hk]; simp
      · rw [if_neg hk] at h
        cases hq : (if k ∈ [x] then some ((1 : Int), (1 : Int)) else none) with
        | none => exact absurd hq h
        | some i => rw [(f1 k i hq).1]; simp
    clear lk2 P1 F3 f1
    conv => lhs; whnf
    refine ldKv1 T2 ?_
    conv => lhs; whnf
    refine build75 (x := x) ?_
    have P1 := List.prefix_append σ3 [AO.cells (kcs [x]) 3 .own]
    replace T2 := prefix_get P1 T2
    replace T3 := prefix_get P1 T3
    conv => lhs; whnf
    refine take_spec (id := (1, 1)) (ks := [x]) hD (fun L hL h => ?_) (by simp; omega) (by simp) (lk3.mono P1) (Rw.new (kcs [x]) .own rfl) (fun ⟨k', i, h, hne, k, hk, hmm⟩ => ?_) fun _ σ4 F4 lk4 => ?_
    · have := nodup_sub (m := [x, y]) hL fun z hz => sup z (h z hz)
      simp at this ⊢
      omega
    · exact absurd hmm (by rw [List.mem_singleton.1 hk, no k' i h hne]; simp)
    replace T2 := (lk3.mono P1).m.cells F4 T2
    replace T3 := (lk3.mono P1).m.cells F4 T3
    clear F4 lk3 lk4
    conv => lhs; whnf
    refine goT hT tree8x10 ordT8x10 fun KK hKK => ?_
    conv => lhs; whnf
    refine ldKv1 T2 ?_
    conv => lhs; whnf
    refine ldKv1 T3 ?_
    conv => lhs; whnf
    refine and_true ?_ ?_
    · show Go.AM.stepT Tryz.prog _ _ 7 [11] _ _ _ _ _ = true
      refine stepT_hide fun ih hih => ?_
      conv => lhs; whnf
      refine build75 (x := x) ?_
      have PA := List.prefix_append σ4 [AO.cells (kcs [x]) 3 .own]
      conv => lhs; whnf
      refine and_true (all_cons ?_ (all_skip rfl rfl)) ?_
      · conv => lhs; whnf
        refine ldKv1 (prefix_get PA T3) ?_
        exact same_key _
      subst hih
      conv => lhs; whnf
      refine and_true ?_ ?_
      · show Go.AM.stepT Tryz.prog _ _ 8 [11] _ _ _ _ _ = true
        refine stepT_hide fun ih hih => ?_
        conv => lhs; whnf
        refine keys_spec (l := [x]) hD (by simp; omega) (by simp) (Rw.new (kcs [x]) .own rfl) fun oA aA σA pA wA => ?_
        conv => lhs; whnf
        refine and_true (all_cons ?_ (all_skip rfl rfl)) ?_
        · conv => lhs; whnf
          refine ldKv1 (prefix_get (PA.trans pA) T3) ?_
          exact same_key _
        subst hih
        obtain ⟨iA, rfl, eA⟩ := own_at wA
        conv => lhs; whnf
        refine ldRv1 (x := x) eA ?_
        conv => lhs; whnf
        refine build75 (x := y) ?_
        have PB := List.prefix_append σA [AO.cells (kcs [y]) 3 .own]
        conv => lhs; whnf
        refine and_true (all_cons ?_ (all_skip rfl (all_cons ?_ rfl))) ?_
        · conv => lhs; whnf
          refine ldRv1 (x := x) (prefix_get PB eA) ?_
          exact same_key _
        · conv => lhs; whnf
          refine ldKv1 (prefix_get ((PA.trans pA).trans PB) T2) ?_
          exact same_key _
        conv => lhs; whnf
        refine keys_spec (l := [y]) hD (by simp; omega) (by simp) (Rw.new (kcs [y]) .own rfl) fun oB aB σB pB wB => ?_
        conv => lhs; whnf
        refine and_true (all_cons ?_ (all_skip rfl (all_skip rfl rfl))) ?_
        · conv => lhs; whnf
          refine ldRv1 (x := x) (prefix_get (PB.trans pB) eA) ?_
          exact same_key _
        obtain ⟨iB, rfl, eB⟩ := own_at wB
        conv => lhs; whnf
        refine ldRv1 (x := y) eB ?_
        conv => lhs; whnf
        refine rmeet_spec (by omega) fun σC pC => ?_
        rw [hmt']
        conv => lhs; whnf
        subst hKK
        conv => lhs; whnf
      · show Go.AM.stepT Tryz.prog _ _ 12 [6] _ _ _ _ _ = true
        refine stepT_hide fun ih hih => ?_
        conv => lhs; whnf
        refine build75 (x := y) ?_
        have PB := List.prefix_append (σ4 ++ [AO.cells (kcs [x]) 3 .own]) [AO.cells (kcs [y]) 3 .own]
        conv => lhs; whnf
        refine and_true (all_skip rfl (all_cons ?_ rfl)) ?_
        · conv => lhs; whnf
          refine ldKv1 (prefix_get (PA.trans PB) T2) ?_
          exact same_key _
        subst hih
        conv => lhs; whnf
        refine keys_spec (l := [x]) hD (by simp; omega) (by simp) ((Rw.new (kcs [x]) .own rfl).mono PB) fun oA aA σA pA wA => ?_
        conv => lhs; whnf
        refine and_true (all_cons ?_ (all_skip rfl rfl)) ?_
        · conv => lhs; whnf
          refine ldKv1 (prefix_get ((PA.trans PB).trans pA) T3) ?_
          exact same_key _
        obtain ⟨iA, rfl, eA⟩ := own_at wA
        conv => lhs; whnf
        refine ldRv1 (x := x) eA ?_
        conv => lhs; whnf
        refine keys_spec (l := [y]) hD (by simp; omega) (by simp) ((Rw.new (kcs [y]) .own rfl).mono pA) fun oB aB σB pB wB => ?_
        conv => lhs; whnf
        refine and_true (all_cons ?_ (all_skip rfl (all_skip rfl rfl))) ?_
        · conv => lhs; whnf
          refine ldRv1 (x := x) (prefix_get pB eA) ?_
          exact same_key _
        obtain ⟨iB, rfl, eB⟩ := own_at wB
        conv => lhs; whnf
        refine ldRv1 (x := y) eB ?_
        conv => lhs; whnf
        refine rmeet_spec (by omega) fun σC pC => ?_
        rw [hmt']
        conv => lhs; whnf
        subst hKK
        conv => lhs; whnf
    · show Go.AM.stepT Tryz.prog _ _ 12 [6] _ _ _ _ _ = true
      refine stepT_hide fun ih hih => ?_
      conv => lhs; whnf
      refine build75 (x := y) ?_
      have PB := List.prefix_append σ4 [AO.cells (kcs [y]) 3 .own]
      conv => lhs; whnf
      refine and_true (all_skip rfl (all_cons ?_ rfl)) ?_
      · conv => lhs; whnf
        refine ldKv1 (prefix_get PB T2) ?_
        exact same_key _
      subst hih
      conv => lhs; whnf
      refine build75 (x := x) ?_
      have PA := List.prefix_append (σ4 ++ [AO.cells (kcs [y]) 3 .own]) [AO.cells (kcs [x]) 3 .own]
      conv => lhs; whnf
      refine and_true (all_cons ?_ (all_skip rfl rfl)) ?_
      · conv => lhs; whnf
        refine ldKv1 (prefix_get (PB.trans PA) T3) ?_
        exact same_key _
      conv => lhs; whnf
      refine keys_spec (l := [x]) hD (by simp; omega) (by simp) (Rw.new (kcs [x]) .own rfl) fun oA aA σA pA wA => ?_
      conv => lhs; whnf
      refine and_true (all_cons ?_ (all_skip rfl rfl)) ?_
      · conv => lhs; whnf
        refine ldKv1 (prefix_get ((PB.trans PA).trans pA) T3) ?_
        exact same_key _
      obtain ⟨iA, rfl, eA⟩ := own_at wA
      conv => lhs; whnf
      refine ldRv1 (x := x) eA ?_
      conv => lhs; whnf
      refine keys_spec (l := [y]) hD (by simp; omega) (by simp) ((Rw.new (kcs [y]) .own rfl).mono (PA.trans pA)) fun oB aB σB pB wB => ?_
      conv => lhs; whnf
      refine and_true (all_cons ?_ (all_skip rfl (all_skip rfl rfl))) ?_
      · conv => lhs; whnf
        refine ldRv1 (x := x) (prefix_get pB eA) ?_
        exact same_key _
      obtain ⟨iB, rfl, eB⟩ := own_at wB
      conv => lhs; whnf
      refine ldRv1 (x := y) eB ?_
      conv => lhs; whnf
      refine rmeet_spec (by omega) fun σC pC => ?_
      rw [hmt']
      conv => lhs; whnf
      subst hKK
      conv => lhs; whnf
theorem lockMeet_law (σ : H) (vs : List AV) (h : ArgsShp Tryz.prog σ 9 [75, 75] vs) : ∃ n, acall Tryz.prog tab (drawRegion Tryz.prog) n 8 vs σ isTrue = true := by
  obtain ⟨a, us, rfl, h1, h⟩ := args_cons h
  obtain ⟨b, us, rfl, h2, h⟩ := args_cons h
  obtain rfl := args_nil h
  obtain ⟨x, rfl⟩ := arg_key h1
  obtain ⟨y, rfl⟩ := arg_key h2
  exact ⟨5000, lockMeet_run (byPlan _) (byTree _) (Nat.le_refl _)⟩
end Go.Proofs.YtajincfelnmlhaaGreat
