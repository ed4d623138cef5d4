/- LockOrder: locks in their order, each once; a space's tables lock key by key. -/
import Derived.Test.YtajincfelnmlhaaGreatGmLock
import Derived.Test.YtajincfelnmlhaaGreatL12Span
import Derived.Test.YtajincfelnmlhaaGreatGmParts
namespace Go.Proofs.YtajincfelnmlhaaGreat
set_option maxRecDepth 100000
open Go Go.AM Go.AM.St
theorem count_one {l : List KeyB} {p : KeyB → Bool} {k : KeyB} : l.Nodup → k ∈ l → (∀ x ∈ l, p x = true ↔ x = k) → (l.filter p).length = 1
  | hn, hk, hp => by
    induction l with
    | nil => simp at hk
    | cons y l ih =>
      obtain ⟨h1, h2⟩ := List.nodup_cons.1 hn
      by_cases hy : y = k
      · subst hy
        rw [List.filter_cons_of_pos ((hp y (by simp)).2 rfl), List.length_cons]
        have : l.filter p = [] := List.filter_eq_nil_iff.2 fun x hx hpx => h1 (by rw [← (hp x (by simp [hx])).1 hpx]; exact hx)
        rw [this]; rfl
      · rw [List.filter_cons_of_neg fun h => hy ((hp y (by simp)).1 h)]
        refine ih h2 ?_ fun x hx => hp x (by simp [hx])
        rcases List.mem_cons.1 hk with h | h
        · exact absurd h.symm hy
        · exact h
attribute [local irreducible] IntKind.wrap Int.fdiv Int.tdiv Int.tmod BitVec.ofInt appendK sliceK indexAddrK ldK storeK seenK makeSliceK lookupK updateK deleteK mapK rangeK nextK buildSliceK indexK clearK
variable {D : Drawer} {σ : H}
theorem lockOrder_run {n : Nat} {s : AM.SA} {l : List OpV} (hD : ByPlan Tryz.prog D) (hT : ByTree Tryz.prog D) (hn : 5000 ≤ n) (hs : Rw σ 5 s l.length (opvs l)) (ho : ∀ o ∈ l, OkV o) :
    acall Tryz.prog tab D n 12 [.sl s l.length] σ isTrue = true := by
  obtain ⟨n, rfl, hn⟩ := up (n := n) (k := 4999) (by omega)
  conv => lhs; whnf
  refine begun_spec ?_
  conv => lhs; whnf
  refine ops_spec (by omega) hs fun o a σ1 p1 ow => ?_
  have hl2 : (l.take 10).length ≤ 10 := by rw [List.length_take]; omega
  have ho2 : ∀ o ∈ l.take 10, OkV o := fun o h => ho o (List.mem_of_mem_take h)
  conv => lhs; whnf
  refine lockOf_spec hD (by omega) (by omega) ow.rw ho2 fun a' σ2 p2 hr hn2 => ?_
  have hM := srtV_strict (keysOf (l.take 10) ho2)
  have hP : ∀ x ∈ srtV (keysOf (l.take 10) ho2), plainK x.1 := fun x hx => by
    obtain ⟨o, _, e⟩ := keysOf_mem.1 (srtV_mem.1 hx)
    rw [← e]; exact keyOf_plain o
  have hIn : ∀ o ∈ l.take 10, ∃ x ∈ srtV (keysOf (l.take 10) ho2), x.1 = keyOf o := fun o h => ⟨⟨keyOf o, keyOf_ok (ho2 o h)⟩, srtV_mem.2 (keysOf_mem.2 ⟨o, h, rfl⟩), rfl⟩
  have hlen : (srtV (keysOf (l.take 10) ho2)).length ≤ 10 := Nat.le_trans (srtV_len _) (by rw [keysOf_len]; exact hl2)
  generalize srtV (keysOf (l.take 10) ho2) = ks at hr hM hP hlen hIn ⊢
  clear ow hn2
  conv => lhs; whnf
  refine loop_rule (m := 49) (fun r fr τ => ∃ (z : Int) (i : Nat), z = (i : Int) ∧ i + r = ks.length ∧ σ2 <+: τ ∧ fr = [.sl s l.length, .bad, .bad, .bad, .sl a' ks.length, .int .i64 z, .bad, .bad, .bad, .bad, .bad, .bad, .bad, .bad, .bad, .bad, .bad, .bad, .bad, .bad, .bad, .bad, .bad, .bad, .bad, .bad, .bad, .bad, .bad, .bad, .bad, .bad, .bad, .bad, .bad, .bad, .bad, .bad, .bad, .bad, .bad, .bad, .bad, .bad, .bad, .bad, .bad, .bad, .bad, .bad, .bad, .bad, .bad, .bad, .bad, .bad, .bad, .bad, .bad, .bad, .bad, .bad, .bad, .bad, .bad, .bad, .bad, .bad, .bad, .bad, .bad, .bad, .bad, .bad, .bad, .bad, .bad, .bad, .bad, .bad, .bad, .bad, .bad, .bad, .bad, .bad, .bad, .bad, .bad, .bad, .bad, .bad, .bad, .bad, .bad, .bad, .bad, .bad, .bad, .bad, .bad, .bad, .bad, .bad, .bad, .bad, .bad, .bad, .bad, .bad, .bad, .bad, .bad, .bad, .bad, .bad, .bad, .bad, .bad, .bad, .bad, .bad, .bad, .bad, .bad, .bad, .bad, .bad, .bad]) ?_ _ ks.length _ _ (by omega) ⟨_, 0, rfl, by omega, List.prefix_rfl, rfl⟩
  rintro r fr τ C ⟨z, i, rfl, hq, p, rfl⟩ next fin
  have hr' := hr.mono p
  conv => lhs; whnf
  by_cases hi : i < ks.length
  case neg =>
    rw [show decide ((i : Int) < (ks.length : Int)) = false from decide_eq_false (by omega)]
    conv => lhs; whnf
    refine fin _ _ _ nofun ?_
    clear next fin
    conv => lhs; whnf
    refine ops_spec (by omega) (hs.mono ((p1.trans p2).trans p)) fun o3 a3 σ3 p3 ow3 => ?_
    have hr3 := hr'.mono p3
    have r3 := ow3.rw
    clear ow3
    generalize hll : l.take 10 = ll at r3 hIn ho2 hl2 ⊢
    conv => lhs; whnf
    refine loop_rule (m := 2115620184325601055735824) (fun r fr ρ => ∃ (z : Int) (i : Nat), z = (i : Int) ∧ i + r = ll.length ∧ σ3 <+: ρ ∧ fr = [.bad, .bad, .bad, .bad, .sl a' ks.length, .bad, .bad, .bad, .bad, .bad, .bad, .bad, .bad, .bad, .bad, .bad, .bad, .bad, .bad, .bad, .bad, .bad, .bad, .bad, .bad, .bad, .bad, .bad, .bad, .bad, .bad, .bad, .bad, .bad, .bad, .bad, .bad, .bad, .bad, .bad, .bad, .bad, .bad, .bad, .bad, .bad, .bad, .bad, .bad, .bad, .bad, .bad, .bad, .bad, .bad, .bad, .bad, .bad, .bad, .bad, .bad, .bad, .bad, .bad, .bad, .bad, .bad, .bad, .bad, .bad, .bad, .bad, .bad, .bad, .bad, .bad, .bad, .bad, .sl a3 ll.length, .int .i64 ll.length, .int .i64 z, .bad, .bad, .bad, .bad, .bad, .bad, .bad, .bad, .bad, .bad, .bad, .bad, .bad, .bad, .bad, .bad, .bad, .bad, .bad, .bad, .bad, .bad, .bad, .bad, .bad, .bad, .bad, .bad, .bad, .bad, .bad, .bad, .bad, .bad, .bad, .bad, .bad, .bad, .bad, .bad, .bad, .bad, .bad, .bad, .bad, .bad, .bad, .bad]) ?_ _ ll.length _ _ (by omega) ⟨_, 0, rfl, by omega, List.prefix_rfl, rfl⟩
    rintro r fr ρ C ⟨z, i, rfl, hq, q, rfl⟩ next fin
    conv => lhs; whnf
    by_cases hi : i < ll.length
    case neg =>
      rw [show decide ((i : Int) < (ll.length : Int)) = false from decide_eq_false (by omega)]
      conv => lhs; whnf
      refine fin _ _ _ nofun ?_
      conv => lhs; whnf
    rw [show decide ((i : Int) < (ll.length : Int)) = true from decide_eq_true (by omega)]
    conv => lhs; whnf
    refine idxV (r3.mono q) rfl hi fun pe he => ?_
    conv => lhs; whnf
    refine ldE he ?_
    conv => lhs; whnf
    refine storeV (get_new _ _) ?_
    rw [set_new]
    have TO := get_new ρ (AO.cells (opv ll[i]) 5 .own)
    have PO := List.prefix_append ρ [AO.cells (opv ll[i]) 5 .own]
    obtain ⟨k0, hk0, hk0e⟩ := hIn _ (List.getElem_mem hi)
    clear he
    conv => lhs; whnf
    refine loop_rule (m := 137515311981164068622829072) (fun r2 fr τ2 => ∃ (z y : Int) (j : Nat), z = (j : Int) ∧ y = (((ks.take j).filter fun x => matchK x.1 ll[i]).length : Int) ∧ j + r2 = ks.length ∧ (ρ ++ [AO.cells (opv ll[i]) 5 .own]) <+: τ2 ∧
      fr = [.bad, .bad, .bad, .bad, .sl a' ks.length, .bad, .bad, .bad, .bad, .ptr (some ⟨ρ.length, 0, 0, 5⟩), .int .i64 y, .bad, .bad, .bad, .bad, .bad, .bad, .bad, .bad, .bad, .bad, .bad, .bad, .bad, .bad, .bad, .bad, .bad, .bad, .bad, .bad, .bad, .bad, .bad, .bad, .bad, .bad, .bad, .bad, .bad, .bad, .bad, .bad, .bad, .bad, .bad, .bad, .bad, .bad, .bad, .bad, .bad, .bad, .bad, .bad, .bad, .bad, .bad, .bad, .bad, .bad, .bad, .bad, .bad, .bad, .bad, .bad, .bad, .bad, .bad, .bad, .bad, .bad, .bad, .bad, .bad, .bad, .bad, .sl a3 ll.length, .int .i64 ll.length, .int .i64 (i : Int), .bad, .bad, .bad, .sl a' ks.length, .int .i64 ks.length, .int .i64 z, .bad, .bad, .bad, .bad, .bad, .bad, .bad, .bad, .bad, .bad, .bad, .bad, .bad, .bad, .bad, .bad, .bad, .bad, .bad, .bad, .bad, .bad, .bad, .bad, .bad, .bad, .bad, .bad, .bad, .bad, .bad, .bad, .bad, .bad, .bad, .bad, .bad, .bad, .bad, .bad, .bad, .bad]) ?_ _ ks.length _ _ (by omega) ⟨_, _, 0, rfl, rfl, by omega, List.prefix_rfl, rfl⟩
    rintro r2 fr τ2 C2 ⟨z, y, j, rfl, rfl, hq2, q2, rfl⟩ next2 fin2
    conv => lhs; whnf
    by_cases hj : j < ks.length
    case neg =>
      rw [show decide ((j : Int) < (ks.length : Int)) = false from decide_eq_false (by omega)]
      rw [List.take_of_length_le (by omega), count_one (strict_nodup hM) hk0 fun x hx => by
        rw [matchK_iff (hP x hx), ← hk0e]
        exact ⟨Subtype.ext, fun h => by rw [h]⟩]
      conv => lhs; whnf
      refine fin2 _ _ _ nofun ?_
      conv => lhs; whnf
      refine next (r - 1) _ _ (by omega) ⟨_, i + 1, inc_i64 (by omega), by omega, q.trans (PO.trans q2), rfl⟩
    rw [show decide ((j : Int) < (ks.length : Int)) = true from decide_eq_true (by omega)]
    have hcl : ((ks.take j).filter fun x => matchK x.1 ll[i]).length ≤ 10 := Nat.le_trans (List.length_filter_le _ _) (by rw [List.length_take]; omega)
    conv => lhs; whnf
    refine idxKV (hr3.mono (q.trans (PO.trans q2))) rfl hj fun pe he => ?_
    conv => lhs; whnf
    refine ldKv he ?_
    have cnt : ∀ b, matchK ks[j].1 ll[i] = b → ((ks.take (j + 1)).filter fun x => matchK x.1 ll[i]).length = ((ks.take j).filter fun x => matchK x.1 ll[i]).length + b.toNat := fun b h => by
      rw [List.take_succ_eq_append_getElem hj, List.filter_append, List.length_append]
      congr 1
      cases b with
      | true => rw [List.filter_cons_of_pos (p := fun x : KeyB => matchK x.1 ll[i]) h]; rfl
      | false => rw [List.filter_cons_of_neg (p := fun x : KeyB => matchK x.1 ll[i]) (by rw [h]; nofun)]; rfl
    generalize ((ks.take j).filter fun x => matchK x.1 ll[i]).length = c at hcl cnt ⊢
    have cntT : matchK ks[j].1 ll[i] = true → IntKind.i64.wrap ((c : Int) + 1) = (((ks.take (j + 1)).filter fun x => matchK x.1 ll[i]).length : Int) := fun h => by
      rw [cnt true h, inc_i64 (by omega)]
      rfl
    have cntF : matchK ks[j].1 ll[i] = false → (c : Int) = (((ks.take (j + 1)).filter fun x => matchK x.1 ll[i]).length : Int) := fun h => by
      rw [cnt false h]
      rfl
    clear cnt he
    obtain ⟨⟨⟨xs, xk, xa⟩, hxo⟩, hx⟩ : ∃ x : KeyB, ks[j] = x := ⟨_, rfl⟩
    rw [hx] at cntT cntF ⊢
    conv => lhs; whnf
    refine storeKv (x := ⟨⟨xs, xk, xa⟩, hxo⟩) (get_new _ _) ?_
    rw [set_new]
    have PX := List.prefix_append τ2 [AO.cells (avK ⟨⟨xs, xk, xa⟩, hxo⟩) 3 .own]
    have TX := get_new τ2 (AO.cells (avK ⟨⟨xs, xk, xa⟩, hxo⟩) 3 .own)
    have TY := prefix_get (q2.trans PX) TO
    simp only at cntT cntF
    conv => lhs; whnf
    refine ldF Tryz.underlying9 rfl rfl TX rfl ?_
    conv => lhs; whnf
    refine ldF Tryz.underlying9 rfl rfl TY rfl ?_
    conv => lhs; whnf
    rw [ints_beqK]
    by_cases hs2 : xs = ll[i].s
    case neg =>
      replace cntF := cntF (by unfold matchK; simp [hs2])
      rw [decide_eq_false hs2]
      conv => lhs; whnf
      refine next2 (r2 - 1) _ _ (by omega) ⟨_, _, j + 1, inc_i64 (by omega), cntF, by omega, q2.trans PX, rfl⟩
    rw [decide_eq_true hs2]
    conv => lhs; whnf
    refine ldF Tryz.underlying4 rfl rfl TX rfl ?_
    cases xa with
    | true =>
      conv => lhs; whnf
      refine ldF Tryz.underlying3 rfl rfl TY rfl ?_
      conv => lhs; whnf
      refine kind_spec (by omega) ?_
      conv => lhs; whnf
      by_cases hk : kindOf ll[i].kind = 1
      · replace cntF := cntF (by unfold matchK; simp [hk])
        rw [show (kindOf ll[i].kind == 1) = true from beq_iff_eq.2 hk]
        conv => lhs; whnf
        refine ldF Tryz.underlying4 rfl rfl TX rfl ?_
        conv => lhs; whnf
        refine next2 (r2 - 1) _ _ (by omega) ⟨_, _, j + 1, inc_i64 (by omega), cntF, by omega, q2.trans PX, rfl⟩
      · replace cntT := cntT (by unfold matchK; simp [hs2, hk])
        rw [show (kindOf ll[i].kind == 1) = false from beq_eq_false_iff_ne.2 hk]
        conv => lhs; whnf
        refine next2 (r2 - 1) _ _ (by omega) ⟨_, _, j + 1, inc_i64 (by omega), cntT, by omega, q2.trans PX, rfl⟩
    | false =>
      conv => lhs; whnf
      refine ldF Tryz.underlying4 rfl rfl TX rfl ?_
      conv => lhs; whnf
      refine ldF Tryz.underlying3 rfl rfl TY rfl ?_
      conv => lhs; whnf
      refine kind_spec (by omega) ?_
      conv => lhs; whnf
      by_cases hk : kindOf ll[i].kind = 1
      · rw [show (kindOf ll[i].kind == 1) = true from beq_iff_eq.2 hk]
        conv => lhs; whnf
        refine ldF Tryz.underlying9 rfl rfl TX rfl ?_
        conv => lhs; whnf
        refine ldF Tryz.underlying9 rfl rfl TY rfl ?_
        conv => lhs; whnf
        rw [ints_beqK]
        by_cases hk2 : xk = ll[i].k
        · replace cntT := cntT (by unfold matchK; simp [hs2, hk, hk2])
          rw [decide_eq_true hk2]
          conv => lhs; whnf
          refine next2 (r2 - 1) _ _ (by omega) ⟨_, _, j + 1, inc_i64 (by omega), cntT, by omega, q2.trans PX, rfl⟩
        · replace cntF := cntF (by unfold matchK; simp [hk2])
          rw [decide_eq_false hk2]
          conv => lhs; whnf
          refine next2 (r2 - 1) _ _ (by omega) ⟨_, _, j + 1, inc_i64 (by omega), cntF, by omega, q2.trans PX, rfl⟩
      · replace cntF := cntF (by unfold matchK; simp [hk])
        rw [show (kindOf ll[i].kind == 1) = false from beq_eq_false_iff_ne.2 hk]
        conv => lhs; whnf
        refine next2 (r2 - 1) _ _ (by omega) ⟨_, _, j + 1, inc_i64 (by omega), cntF, by omega, q2.trans PX, rfl⟩

  rw [show decide ((i : Int) < (ks.length : Int)) = true from decide_eq_true (by omega)]
  conv => lhs; whnf
  refine idxKV hr' rfl hi fun pe he => ?_
  obtain ⟨pid, pb, pd, pz⟩ := pe
  obtain rfl : pd = 0 := he.1
  obtain rfl : pz = 3 := he.2.1
  conv => lhs; whnf
  refine ldKa he ?_
  have hpl := hP _ (List.getElem_mem hi)
  clear he
  cases ha : ks[i].1.all with
  | true =>
    conv => lhs; whnf
    refine idxKV hr' rfl hi fun pf hf => ?_
    obtain ⟨pid, pb, pd, pz⟩ := pf
    obtain rfl : pd = 0 := hf.1
    obtain rfl : pz = 3 := hf.2.1
    conv => lhs; whnf
    refine ldKk hf ?_
    rw [hpl ha]
    clear hf ha hpl
    conv => lhs; whnf
    by_cases hi0 : i = 0
    · rw [show decide ((i : Int) > 0) = false from decide_eq_false (by omega)]
      conv => lhs; whnf
      refine next (r - 1) _ _ (by omega) ⟨_, i + 1, inc_i64 (by omega), by omega, p, rfl⟩
    rw [show decide ((i : Int) > 0) = true from decide_eq_true (by omega)]
    have hlt : ltK (ks[i - 1]'(by omega)).1 ks[i].1 := List.pairwise_iff_getElem.1 hM (i - 1) i (by omega) hi (by omega)
    have pA := hP _ (List.getElem_mem (show i - 1 < ks.length by omega))
    have pB := hP _ (List.getElem_mem hi)
    conv => lhs; whnf
    refine goT hT tree12x11 ordT12x11 fun KK hKK => ?_
    conv => lhs; whnf
    refine idxKV hr' (i := i - 1) (by rw [wrap_i64 (by omega) (by omega)]; omega) (by omega) fun qa ea => ?_
    conv => lhs; whnf
    refine ldKv ea ?_
    conv => lhs; whnf
    refine idxKV hr' rfl hi fun qb eb => ?_
    conv => lhs; whnf
    refine ldKv eb ?_
    generalize ks[i - 1]'(by omega) = A at ea hlt pA ⊢
    generalize ks[i] = B at eb hlt pB ⊢
    conv => lhs; whnf
    refine and_true ?_ ?_
    · conv => lhs; whnf
      refine and_true (all_cons ?_ (all_cons ?_ rfl)) ?_
      · conv => lhs; whnf
        refine ldKv (eb.mono (List.prefix_append _ _)) ?_
        exact same_key _
      · conv => lhs; whnf
        refine ldKv (ea.mono (List.prefix_append _ _)) ?_
        exact same_key _
      conv => lhs; whnf
      refine and_true (all_cons ?_ (all_cons ?_ rfl)) ?_
      · conv => lhs; whnf
        refine ldKv (eb.mono ((List.prefix_append _ _).trans (List.prefix_append _ _))) ?_
        exact same_key _
      · conv => lhs; whnf
        refine ldKv (ea.mono ((List.prefix_append _ _).trans (List.prefix_append _ _))) ?_
        exact same_key _
      conv => lhs; whnf
      refine storeKv (x := A) (get_old (get_new _ _) _) ?_
      rw [set_two]
      conv => lhs; whnf
      refine and_true (all_cons ?_ (all_skip rfl rfl)) ?_
      · conv => lhs; whnf
        refine ldKv (eb.mono ((List.prefix_append _ _).trans (List.prefix_append _ _))) ?_
        exact same_key _
      conv => lhs; whnf
      refine storeKv (x := B) (get_two _ _ _ _) ?_
      rw [set_two']
      have TA := get_old (get_new τ (AO.cells (avK A) 3 .own)) (AO.cells (avK B) 3 .own)
      have TB := get_two τ (AO.cells (avK A) 3 .own) (AO.cells (avK B) 3 .own) (AO.cells [.str [], .str [], .bool false] 3 .own)
      have PP := (List.prefix_append τ [AO.cells (avK A) 3 .own]).trans (List.prefix_append _ [AO.cells (avK B) 3 .own])
      clear ea eb
      obtain ⟨⟨us, uk, ua⟩, hA⟩ := A
      obtain ⟨⟨vs, vk, va⟩, hB⟩ := B
      conv => lhs; whnf
      subst hKK
      conv => lhs; whnf
      refine ldF Tryz.underlying9 rfl rfl TA rfl ?_
      conv => lhs; whnf
      refine ldF Tryz.underlying9 rfl rfl TB rfl ?_
      conv => lhs; whnf
      rcases hlt with hlt | ⟨hlt, hq3⟩
      · have hlt : ltL (ints us) (ints vs) = true := hlt
        rw [hlt]
        conv => lhs; whnf
        refine ldF Tryz.underlying9 rfl rfl TA rfl ?_
        conv => lhs; whnf
        refine ldF Tryz.underlying9 rfl rfl TB rfl ?_
        conv => lhs; whnf
        rw [show (ints us == ints vs) = false from by
          rw [ints_beqK]
          refine decide_eq_false fun e => ?_
          rw [e, ltL_irrefl] at hlt
          cases hlt]
        conv => lhs; whnf
        refine next (r - 1) _ _ (by omega) ⟨_, i + 1, inc_i64 (by omega), by omega, p.trans PP, rfl⟩
      · have hlt : us = vs := hlt
        subst hlt
        rw [ltL_irrefl, show (ints us == ints us) = true from by simp]
        conv => lhs; whnf
        refine ldF Tryz.underlying9 rfl rfl TA rfl ?_
        conv => lhs; whnf
        refine ldF Tryz.underlying9 rfl rfl TB rfl ?_
        conv => lhs; whnf
        rw [show (ints us == ints us) = true from by simp]
        conv => lhs; whnf
        refine ldF Tryz.underlying4 rfl rfl TB rfl ?_
        rcases hq3 with ⟨h1, h2⟩ | ⟨h1, h2⟩
        · have h1 : ua = true := h1
          have h2 : va = false := h2
          subst h1 h2
          conv => lhs; whnf
          refine ldF Tryz.underlying4 rfl rfl TA rfl ?_
          conv => lhs; whnf
          refine next (r - 1) _ _ (by omega) ⟨_, i + 1, inc_i64 (by omega), by omega, p.trans PP, rfl⟩
        · have h1 : ua = va := h1
          have h3 : ltL (ints uk) (ints vk) = true := h2
          clear h2
          subst h1
          cases ua with
          | true =>
            have e1 : uk = [] := pA rfl
            have e2 : vk = [] := pB rfl
            rw [e1, e2, ltL_irrefl] at h3
            cases h3
          | false =>
            conv => lhs; whnf
            refine ldF Tryz.underlying4 rfl rfl TA rfl ?_
            conv => lhs; whnf
            refine ldF Tryz.underlying9 rfl rfl TA rfl ?_
            conv => lhs; whnf
            refine ldF Tryz.underlying9 rfl rfl TB rfl ?_
            conv => lhs; whnf
            rw [h3]
            conv => lhs; whnf
            refine next (r - 1) _ _ (by omega) ⟨_, i + 1, inc_i64 (by omega), by omega, p.trans PP, rfl⟩
    · show Go.AM.stepT Tryz.prog _ _ 10 [8, 4] _ _ _ _ _ = true
      refine stepT_hide fun ih hih => ?_
      conv => lhs; whnf
      refine and_true (all_cons ?_ (all_cons ?_ rfl)) ?_
      · conv => lhs; whnf
        refine ldKv (eb.mono (List.prefix_append _ _)) ?_
        exact same_key _
      · conv => lhs; whnf
        refine ldKv (ea.mono (List.prefix_append _ _)) ?_
        exact same_key _
      subst hih
      conv => lhs; whnf
      refine and_true (all_cons ?_ (all_cons ?_ rfl)) ?_
      · conv => lhs; whnf
        refine ldKv (eb.mono ((List.prefix_append _ _).trans (List.prefix_append _ _))) ?_
        exact same_key _
      · conv => lhs; whnf
        refine ldKv (ea.mono ((List.prefix_append _ _).trans (List.prefix_append _ _))) ?_
        exact same_key _
      conv => lhs; whnf
      refine storeKv (x := A) (get_two _ _ _ _) ?_
      rw [set_two']
      conv => lhs; whnf
      refine and_true (all_cons ?_ (all_skip rfl rfl)) ?_
      · conv => lhs; whnf
        refine ldKv (eb.mono ((List.prefix_append _ _).trans (List.prefix_append _ _))) ?_
        exact same_key _
      conv => lhs; whnf
      refine storeKv (x := B) (get_old (get_new _ _) _) ?_
      rw [set_two]
      have TB := get_old (get_new τ (AO.cells (avK B) 3 .own)) (AO.cells (avK A) 3 .own)
      have TA := get_two τ (AO.cells (avK B) 3 .own) (AO.cells (avK A) 3 .own) (AO.cells [.str [], .str [], .bool false] 3 .own)
      have PP := (List.prefix_append τ [AO.cells (avK B) 3 .own]).trans (List.prefix_append _ [AO.cells (avK A) 3 .own])
      clear ea eb
      obtain ⟨⟨us, uk, ua⟩, hA⟩ := A
      obtain ⟨⟨vs, vk, va⟩, hB⟩ := B
      conv => lhs; whnf
      subst hKK
      conv => lhs; whnf
      refine ldF Tryz.underlying9 rfl rfl TA rfl ?_
      conv => lhs; whnf
      refine ldF Tryz.underlying9 rfl rfl TB rfl ?_
      conv => lhs; whnf
      rcases hlt with hlt | ⟨hlt, hq3⟩
      · have hlt : ltL (ints us) (ints vs) = true := hlt
        rw [hlt]
        conv => lhs; whnf
        refine ldF Tryz.underlying9 rfl rfl TA rfl ?_
        conv => lhs; whnf
        refine ldF Tryz.underlying9 rfl rfl TB rfl ?_
        conv => lhs; whnf
        rw [show (ints us == ints vs) = false from by
          rw [ints_beqK]
          refine decide_eq_false fun e => ?_
          rw [e, ltL_irrefl] at hlt
          cases hlt]
        conv => lhs; whnf
        refine next (r - 1) _ _ (by omega) ⟨_, i + 1, inc_i64 (by omega), by omega, p.trans PP, rfl⟩
      · have hlt : us = vs := hlt
        subst hlt
        rw [ltL_irrefl, show (ints us == ints us) = true from by simp]
        conv => lhs; whnf
        refine ldF Tryz.underlying9 rfl rfl TA rfl ?_
        conv => lhs; whnf
        refine ldF Tryz.underlying9 rfl rfl TB rfl ?_
        conv => lhs; whnf
        rw [show (ints us == ints us) = true from by simp]
        conv => lhs; whnf
        refine ldF Tryz.underlying4 rfl rfl TB rfl ?_
        rcases hq3 with ⟨h1, h2⟩ | ⟨h1, h2⟩
        · have h1 : ua = true := h1
          have h2 : va = false := h2
          subst h1 h2
          conv => lhs; whnf
          refine ldF Tryz.underlying4 rfl rfl TA rfl ?_
          conv => lhs; whnf
          refine next (r - 1) _ _ (by omega) ⟨_, i + 1, inc_i64 (by omega), by omega, p.trans PP, rfl⟩
        · have h1 : ua = va := h1
          have h3 : ltL (ints uk) (ints vk) = true := h2
          clear h2
          subst h1
          cases ua with
          | true =>
            have e1 : uk = [] := pA rfl
            have e2 : vk = [] := pB rfl
            rw [e1, e2, ltL_irrefl] at h3
            cases h3
          | false =>
            conv => lhs; whnf
            refine ldF Tryz.underlying4 rfl rfl TA rfl ?_
            conv => lhs; whnf
            refine ldF Tryz.underlying9 rfl rfl TA rfl ?_
            conv => lhs; whnf
            refine ldF Tryz.underlying9 rfl rfl TB rfl ?_
            conv => lhs; whnf
            rw [h3]
            conv => lhs; whnf
            refine next (r - 1) _ _ (by omega) ⟨_, i + 1, inc_i64 (by omega), by omega, p.trans PP, rfl⟩
  | false =>
    clear ha hpl
    conv => lhs; whnf
    by_cases hi0 : i = 0
    · rw [show decide ((i : Int) > 0) = false from decide_eq_false (by omega)]
      conv => lhs; whnf
      refine next (r - 1) _ _ (by omega) ⟨_, i + 1, inc_i64 (by omega), by omega, p, rfl⟩
    rw [show decide ((i : Int) > 0) = true from decide_eq_true (by omega)]
    have hlt : ltK (ks[i - 1]'(by omega)).1 ks[i].1 := List.pairwise_iff_getElem.1 hM (i - 1) i (by omega) hi (by omega)
    have pA := hP _ (List.getElem_mem (show i - 1 < ks.length by omega))
    have pB := hP _ (List.getElem_mem hi)
    conv => lhs; whnf
    refine goT hT tree12x11 ordT12x11 fun KK hKK => ?_
    conv => lhs; whnf
    refine idxKV hr' (i := i - 1) (by rw [wrap_i64 (by omega) (by omega)]; omega) (by omega) fun qa ea => ?_
    conv => lhs; whnf
    refine ldKv ea ?_
    conv => lhs; whnf
    refine idxKV hr' rfl hi fun qb eb => ?_
    conv => lhs; whnf
    refine ldKv eb ?_
    generalize ks[i - 1]'(by omega) = A at ea hlt pA ⊢
    generalize ks[i] = B at eb hlt pB ⊢
    conv => lhs; whnf
    refine and_true ?_ ?_
    · conv => lhs; whnf
      refine and_true (all_cons ?_ (all_cons ?_ rfl)) ?_
      · conv => lhs; whnf
        refine ldKv (eb.mono (List.prefix_append _ _)) ?_
        exact same_key _
      · conv => lhs; whnf
        refine ldKv (ea.mono (List.prefix_append _ _)) ?_
        exact same_key _
      conv => lhs; whnf
      refine and_true (all_cons ?_ (all_cons ?_ rfl)) ?_
      · conv => lhs; whnf
        refine ldKv (eb.mono ((List.prefix_append _ _).trans (List.prefix_append _ _))) ?_
        exact same_key _
      · conv => lhs; whnf
        refine ldKv (ea.mono ((List.prefix_append _ _).trans (List.prefix_append _ _))) ?_
        exact same_key _
      conv => lhs; whnf
      refine storeKv (x := A) (get_old (get_new _ _) _) ?_
      rw [set_two]
      conv => lhs; whnf
      refine and_true (all_cons ?_ (all_skip rfl rfl)) ?_
      · conv => lhs; whnf
        refine ldKv (eb.mono ((List.prefix_append _ _).trans (List.prefix_append _ _))) ?_
        exact same_key _
      conv => lhs; whnf
      refine storeKv (x := B) (get_two _ _ _ _) ?_
      rw [set_two']
      have TA := get_old (get_new τ (AO.cells (avK A) 3 .own)) (AO.cells (avK B) 3 .own)
      have TB := get_two τ (AO.cells (avK A) 3 .own) (AO.cells (avK B) 3 .own) (AO.cells [.str [], .str [], .bool false] 3 .own)
      have PP := (List.prefix_append τ [AO.cells (avK A) 3 .own]).trans (List.prefix_append _ [AO.cells (avK B) 3 .own])
      clear ea eb
      obtain ⟨⟨us, uk, ua⟩, hA⟩ := A
      obtain ⟨⟨vs, vk, va⟩, hB⟩ := B
      conv => lhs; whnf
      subst hKK
      conv => lhs; whnf
      refine ldF Tryz.underlying9 rfl rfl TA rfl ?_
      conv => lhs; whnf
      refine ldF Tryz.underlying9 rfl rfl TB rfl ?_
      conv => lhs; whnf
      rcases hlt with hlt | ⟨hlt, hq3⟩
      · have hlt : ltL (ints us) (ints vs) = true := hlt
        rw [hlt]
        conv => lhs; whnf
        refine ldF Tryz.underlying9 rfl rfl TA rfl ?_
        conv => lhs; whnf
        refine ldF Tryz.underlying9 rfl rfl TB rfl ?_
        conv => lhs; whnf
        rw [show (ints us == ints vs) = false from by
          rw [ints_beqK]
          refine decide_eq_false fun e => ?_
          rw [e, ltL_irrefl] at hlt
          cases hlt]
        conv => lhs; whnf
        refine next (r - 1) _ _ (by omega) ⟨_, i + 1, inc_i64 (by omega), by omega, p.trans PP, rfl⟩
      · have hlt : us = vs := hlt
        subst hlt
        rw [ltL_irrefl, show (ints us == ints us) = true from by simp]
        conv => lhs; whnf
        refine ldF Tryz.underlying9 rfl rfl TA rfl ?_
        conv => lhs; whnf
        refine ldF Tryz.underlying9 rfl rfl TB rfl ?_
        conv => lhs; whnf
        rw [show (ints us == ints us) = true from by simp]
        conv => lhs; whnf
        refine ldF Tryz.underlying4 rfl rfl TB rfl ?_
        rcases hq3 with ⟨h1, h2⟩ | ⟨h1, h2⟩
        · have h1 : ua = true := h1
          have h2 : va = false := h2
          subst h1 h2
          conv => lhs; whnf
          refine ldF Tryz.underlying4 rfl rfl TA rfl ?_
          conv => lhs; whnf
          refine next (r - 1) _ _ (by omega) ⟨_, i + 1, inc_i64 (by omega), by omega, p.trans PP, rfl⟩
        · have h1 : ua = va := h1
          have h3 : ltL (ints uk) (ints vk) = true := h2
          clear h2
          subst h1
          cases ua with
          | true =>
            have e1 : uk = [] := pA rfl
            have e2 : vk = [] := pB rfl
            rw [e1, e2, ltL_irrefl] at h3
            cases h3
          | false =>
            conv => lhs; whnf
            refine ldF Tryz.underlying4 rfl rfl TA rfl ?_
            conv => lhs; whnf
            refine ldF Tryz.underlying9 rfl rfl TA rfl ?_
            conv => lhs; whnf
            refine ldF Tryz.underlying9 rfl rfl TB rfl ?_
            conv => lhs; whnf
            rw [h3]
            conv => lhs; whnf
            refine next (r - 1) _ _ (by omega) ⟨_, i + 1, inc_i64 (by omega), by omega, p.trans PP, rfl⟩
    · show Go.AM.stepT Tryz.prog _ _ 10 [8, 4] _ _ _ _ _ = true
      refine stepT_hide fun ih hih => ?_
      conv => lhs; whnf
      refine and_true (all_cons ?_ (all_cons ?_ rfl)) ?_
      · conv => lhs; whnf
        refine ldKv (eb.mono (List.prefix_append _ _)) ?_
        exact same_key _
      · conv => lhs; whnf
        refine ldKv (ea.mono (List.prefix_append _ _)) ?_
        exact same_key _
      subst hih
      conv => lhs; whnf
      refine and_true (all_cons ?_ (all_cons ?_ rfl)) ?_
      · conv => lhs; whnf
        refine ldKv (eb.mono ((List.prefix_append _ _).trans (List.prefix_append _ _))) ?_
        exact same_key _
      · conv => lhs; whnf
        refine ldKv (ea.mono ((List.prefix_append _ _).trans (List.prefix_append _ _))) ?_
        exact same_key _
      conv => lhs; whnf
      refine storeKv (x := A) (get_two _ _ _ _) ?_
      rw [set_two']
      conv => lhs; whnf
      refine and_true (all_cons ?_ (all_skip rfl rfl)) ?_
      · conv => lhs; whnf
        refine ldKv (eb.mono ((List.prefix_append _ _).trans (List.prefix_append _ _))) ?_
        exact same_key _
      conv => lhs; whnf
      refine storeKv (x := B) (get_old (get_new _ _) _) ?_
      rw [set_two]
      have TB := get_old (get_new τ (AO.cells (avK B) 3 .own)) (AO.cells (avK A) 3 .own)
      have TA := get_two τ (AO.cells (avK B) 3 .own) (AO.cells (avK A) 3 .own) (AO.cells [.str [], .str [], .bool false] 3 .own)
      have PP := (List.prefix_append τ [AO.cells (avK B) 3 .own]).trans (List.prefix_append _ [AO.cells (avK A) 3 .own])
      clear ea eb
      obtain ⟨⟨us, uk, ua⟩, hA⟩ := A
      obtain ⟨⟨vs, vk, va⟩, hB⟩ := B
      conv => lhs; whnf
      subst hKK
      conv => lhs; whnf
      refine ldF Tryz.underlying9 rfl rfl TA rfl ?_
      conv => lhs; whnf
      refine ldF Tryz.underlying9 rfl rfl TB rfl ?_
      conv => lhs; whnf
      rcases hlt with hlt | ⟨hlt, hq3⟩
      · have hlt : ltL (ints us) (ints vs) = true := hlt
        rw [hlt]
        conv => lhs; whnf
        refine ldF Tryz.underlying9 rfl rfl TA rfl ?_
        conv => lhs; whnf
        refine ldF Tryz.underlying9 rfl rfl TB rfl ?_
        conv => lhs; whnf
        rw [show (ints us == ints vs) = false from by
          rw [ints_beqK]
          refine decide_eq_false fun e => ?_
          rw [e, ltL_irrefl] at hlt
          cases hlt]
        conv => lhs; whnf
        refine next (r - 1) _ _ (by omega) ⟨_, i + 1, inc_i64 (by omega), by omega, p.trans PP, rfl⟩
      · have hlt : us = vs := hlt
        subst hlt
        rw [ltL_irrefl, show (ints us == ints us) = true from by simp]
        conv => lhs; whnf
        refine ldF Tryz.underlying9 rfl rfl TA rfl ?_
        conv => lhs; whnf
        refine ldF Tryz.underlying9 rfl rfl TB rfl ?_
        conv => lhs; whnf
        rw [show (ints us == ints us) = true from by simp]
        conv => lhs; whnf
        refine ldF Tryz.underlying4 rfl rfl TB rfl ?_
        rcases hq3 with ⟨h1, h2⟩ | ⟨h1, h2⟩
        · have h1 : ua = true := h1
          have h2 : va = false := h2
          subst h1 h2
          conv => lhs; whnf
          refine ldF Tryz.underlying4 rfl rfl TA rfl ?_
          conv => lhs; whnf
          refine next (r - 1) _ _ (by omega) ⟨_, i + 1, inc_i64 (by omega), by omega, p.trans PP, rfl⟩
        · have h1 : ua = va := h1
          have h3 : ltL (ints uk) (ints vk) = true := h2
          clear h2
          subst h1
          cases ua with
          | true =>
            have e1 : uk = [] := pA rfl
            have e2 : vk = [] := pB rfl
            rw [e1, e2, ltL_irrefl] at h3
            cases h3
          | false =>
            conv => lhs; whnf
            refine ldF Tryz.underlying4 rfl rfl TA rfl ?_
            conv => lhs; whnf
            refine ldF Tryz.underlying9 rfl rfl TA rfl ?_
            conv => lhs; whnf
            refine ldF Tryz.underlying9 rfl rfl TB rfl ?_
            conv => lhs; whnf
            rw [h3]
            conv => lhs; whnf
            refine next (r - 1) _ _ (by omega) ⟨_, i + 1, inc_i64 (by omega), by omega, p.trans PP, rfl⟩
theorem lockOrder_law (σ : H) (xs : List AV) (h : ArgsShp Tryz.prog σ 9 [24] xs) : ∃ n, acall Tryz.prog tab (drawRegion Tryz.prog) n 12 xs σ isTrue = true := by
  obtain ⟨a, ys, rfl, h1, h⟩ := args_cons h
  obtain rfl := args_nil h
  obtain ⟨s, l, rfl, r1, o1, _⟩ := arg_ops h1
  exact ⟨5000, lockOrder_run (byPlan _) (byTree _) (Nat.le_refl _) r1 fun o h => (o1 o h).ok⟩
end Go.Proofs.YtajincfelnmlhaaGreat
