/- NameOrder: names in whatever order: all, rising, each once; what is told is the caller's own. -/
import Derived.Test.YtjooccdeeejecaaL7All
namespace Go.Proofs.Ytjooccdeeejecaa
set_option maxRecDepth 100000
open Go Go.AM Go.AM.St
theorem rw_lt {σ : H} {z n : Nat} {a : AM.SA} {cs : List AV} (h : Rw σ z a n cs) {j off z' : Nat} (e : a = .at j off z') : j < σ.length := by
  subst e
  rcases h with ⟨h, _⟩ | ⟨h, _⟩ | ⟨id, off, xs, md, h1, h2, _⟩
  · cases h
  · cases h
  · cases h1
    exact get_lt h2
theorem rw_keep {σ σ' : H} {o : Option Nat} {z n : Nat} {a : AM.SA} {cs : List AV} (h : Rw σ z a n cs) (ho : ∀ j off z, a = .at j off z → o ≠ some j) (hk : ∀ id, id < σ.length → o ≠ some id → σ'[id]? = σ[id]?) : Rw σ' z a n cs := by
  rcases h with h | h | ⟨id, off, xs, md, h1, h2, h3⟩
  · exact .inl h
  · exact .inr (.inl h)
  · exact .inr (.inr ⟨id, off, xs, md, h1, (hk id (get_lt h2) (ho id off z h1)).trans h2, h3⟩)
attribute [local irreducible] IntKind.wrap Int.fdiv Int.tdiv Int.tmod BitVec.ofInt appendK sliceK indexAddrK ldK storeK seenK makeSliceK lookupK updateK deleteK mapK rangeK nextK buildSliceK indexK clearK
variable {σ : H} {D : Drawer}
set_option maxHeartbeats 4000000 in
theorem nameOrder_run {n : Nat} {s : AM.SA} {l : List Nm} (hD : ByPlan Try.prog D) (hn : 20000 ≤ n) (hs : Rw σ 2 s l.length (ids l)) :
    acall Try.prog tab D n 6 [.sl s l.length] σ isTrue = true := by
  obtain ⟨n, rfl, hn⟩ := up (n := n) (k := 19999) (by omega)
  conv => lhs; whnf
  refine begun_spec ?_
  conv => lhs; whnf
  refine slNT (j := min l.length 30) hs ?_ (Nat.min_le_left _ _) fun a1 r1 => ?_
  · show (if _ then _ else _) = _
    split <;> omega
  have htk : (l.take (min l.length 30)).length = min l.length 30 := by rw [List.length_take]; omega
  have h30 : min l.length 30 ≤ 30 := Nat.min_le_right _ _
  generalize l.take (min l.length 30) = l0 at htk r1
  generalize min l.length 30 = q at htk r1 h30 ⊢
  subst htk
  conv => lhs; whnf
  refine nnew_spec hD (by omega) (by omega) r1 fun B m σ1 F1 hI hB hm => ?_
  have gl : ∀ j off z, a1 = .at j off z → j < σ.length := fun j off z e => rw_lt r1 e
  have hBl := get_lt hI.b
  have hml : m < σ1.length := by
    obtain ⟨es, c, h⟩ := hI.m.isMap
    exact get_lt h
  have h01 := F1.len
  replace r1 : Rw σ1 2 a1 l0.length (ids l0) := r1.keep fun id xs z md hx => ⟨[], md, by rw [List.append_nil]; exact F1.get hx (Nat.ne_of_lt (get_lt hx))⟩
  conv => lhs; whnf
  refine nall_spec (by omega) (fun M hM hsub => Nat.le_trans (nodup_subI hM hsub) (by omega)) hI fun oA aA A σ2 pA hA hmA wA => ?_
  have hAl : A.length ≤ 30 := Nat.le_trans (nodup_subI (strictI_nodup hA) fun x hx => (hmA x).1 hx) h30
  replace r1 := r1.mono pA
  replace hI := hI.mono pA
  clear hs F1
  conv => lhs; whnf
  refine loop_rule (m := 201326641) (fun r fr τ => ∃ (z : Int) (i : Nat), z = (i : Int) ∧ i + r = A.length ∧ σ2 <+: τ ∧ fr = [.sl a1 l0.length, .bad, .bad, .bad, .ptr (some ⟨B, 0, 0, 1⟩), .sl aA A.length, .bad, .bad, .bad, .bad, .bad, .bad, .bad, .bad, .bad, .bad, .bad, .bad, .bad, .bad, .bad, .bad, .bad, .bad, .bad, .bad, .int .i64 A.length, .int .i64 z, .bad, .bad, .bad, .bad, .bad, .bad, .bad, .bad, .bad, .bad, .bad, .bad, .bad, .bad, .bad, .bad, .bad, .bad, .bad, .bad, .bad, .bad, .bad, .bad, .bad, .bad, .bad, .bad, .bad, .bad, .bad, .bad, .bad, .bad, .bad, .bad, .bad, .bad, .bad, .bad, .bad, .bad, .bad, .bad, .bad, .bad, .bad, .bad, .bad, .bad, .bad, .bad, .bad, .bad, .bad, .bad, .bad, .bad, .bad, .bad, .bad, .bad, .bad, .bad, .bad, .bad, .bad, .bad, .bad, .bad, .bad, .bad, .bad, .bad, .bad, .bad, .bad, .bad, .bad, .bad, .bad, .bad, .bad, .bad, .bad, .bad, .bad, .bad, .bad, .bad, .bad, .bad, .bad]) ?_ _ A.length _ _ (by omega) ⟨_, 0, rfl, by omega, List.prefix_rfl, rfl⟩
  rintro r fr τ C ⟨z, i, rfl, hq, p, rfl⟩ next fin
  conv => lhs; whnf
  by_cases hi : i < A.length
  case pos =>
    rw [show decide ((i : Int) < (A.length : Int)) = true from decide_eq_true (by omega)]
    have hin : A[i] ∈ l0 := (hmA _).1 (List.getElem_mem hi)
    conv => lhs; whnf
    refine goK hD plan6x10 ord6x10 fun KK hKK => ?_
    conv => lhs; whnf
    by_cases hi0 : i = 0
    · rw [show decide ((i : Int) > 0) = false from decide_eq_false (by omega)]
      conv => lhs; whnf
      refine idxN (wA.rw.mono p) rfl hi fun p1 e1 => ?_
      conv => lhs; whnf
      refine ldN e1 ?_
      conv => lhs; whnf
      refine nhas_spec hD (by omega) (hI.mono p) fun σ3 p3 => ?_
      rw [decide_eq_true hin]
      conv => lhs; whnf
      subst hKK
      conv => lhs; whnf
      refine next (r - 1) _ _ (by omega) ⟨_, i + 1, inc_i64 (by omega), by omega, p.trans p3, rfl⟩
    rw [show decide ((i : Int) > 0) = true from decide_eq_true (by omega)]
    have hlt : ltI (A[i - 1]'(by omega)) A[i] = true := List.pairwise_iff_getElem.1 hA (i - 1) i (by omega) hi (by omega)
    conv => lhs; whnf
    refine idxN (wA.rw.mono p) (i := i - 1) (by rw [wrap_i64 (by omega) (by omega)]; omega) (by omega) fun p1 e1 => ?_
    conv => lhs; whnf
    refine ldN e1 ?_
    conv => lhs; whnf
    refine idxN (wA.rw.mono p) rfl hi fun p2 e2 => ?_
    conv => lhs; whnf
    refine ldN e2 ?_
    conv => lhs; whnf
    refine rless_spec (by omega) fun σ3 p3 => ?_
    rw [hlt]
    conv => lhs; whnf
    refine idxN (wA.rw.mono (p.trans p3)) rfl hi fun p4 e4 => ?_
    conv => lhs; whnf
    refine ldN e4 ?_
    conv => lhs; whnf
    refine nhas_spec hD (by omega) (hI.mono (p.trans p3)) fun σ4 p5 => ?_
    rw [decide_eq_true hin]
    conv => lhs; whnf
    subst hKK
    conv => lhs; whnf
    refine next (r - 1) _ _ (by omega) ⟨_, i + 1, inc_i64 (by omega), by omega, p.trans (p3.trans p5), rfl⟩
  rw [show decide ((i : Int) < (A.length : Int)) = false from decide_eq_false (by omega)]
  replace r1 := r1.mono p
  replace hI := hI.mono p
  replace wA := wA.mono p
  clear hi hq
  conv => lhs; whnf
  refine fin _ _ _ nofun ?_
  clear next fin
  conv => lhs; whnf
  refine loop_rule (m := 216172782113783857) (fun r fr τ2 => ∃ (z : Int) (i : Nat), z = (i : Int) ∧ i + r = l0.length ∧ τ <+: τ2 ∧ fr = [.sl a1 l0.length, .bad, .bad, .bad, .ptr (some ⟨B, 0, 0, 1⟩), .sl aA A.length, .bad, .bad, .bad, .bad, .bad, .bad, .bad, .bad, .bad, .bad, .bad, .bad, .bad, .bad, .bad, .bad, .bad, .bad, .bad, .bad, .bad, .bad, .bad, .bad, .bad, .bad, .bad, .bad, .bad, .bad, .bad, .bad, .bad, .bad, .bad, .bad, .bad, .bad, .bad, .bad, .bad, .bad, .bad, .bad, .bad, .bad, .bad, .bad, .bad, .bad, .int .i64 l0.length, .int .i64 z, .bad, .bad, .bad, .bad, .bad, .bad, .bad, .bad, .bad, .bad, .bad, .bad, .bad, .bad, .bad, .bad, .bad, .bad, .bad, .bad, .bad, .bad, .bad, .bad, .bad, .bad, .bad, .bad, .bad, .bad, .bad, .bad, .bad, .bad, .bad, .bad, .bad, .bad, .bad, .bad, .bad, .bad, .bad, .bad, .bad, .bad, .bad, .bad, .bad, .bad, .bad, .bad, .bad, .bad, .bad, .bad, .bad, .bad, .bad, .bad, .bad, .bad, .bad]) ?_ _ l0.length _ _ (by omega) ⟨_, 0, rfl, by omega, List.prefix_rfl, rfl⟩
  rintro r fr τ2 C ⟨z, i, rfl, hq, p2, rfl⟩ next fin
  conv => lhs; whnf
  by_cases hi : i < l0.length
  case pos =>
    rw [show decide ((i : Int) < (l0.length : Int)) = true from decide_eq_true (by omega)]
    conv => lhs; whnf
    refine idxN (r1.mono p2) rfl hi fun p1 e1 => ?_
    conv => lhs; whnf
    refine ldN e1 ?_
    conv => lhs; whnf
    refine nhas_spec hD (by omega) (hI.mono p2) fun σ3 p3 => ?_
    rw [decide_eq_true (List.getElem_mem hi)]
    conv => lhs; whnf
    refine next (r - 1) _ _ (by omega) ⟨_, i + 1, inc_i64 (by omega), by omega, p2.trans p3, rfl⟩
  rw [show decide ((i : Int) < (l0.length : Int)) = false from decide_eq_false (by omega)]
  replace r1 := r1.mono p2
  replace hI := hI.mono p2
  replace wA := wA.mono p2
  clear hi hq
  conv => lhs; whnf
  refine fin _ _ _ nofun ?_
  clear next fin
  conv => lhs; whnf
  refine loop_rule (m := 1770887431076116955185) (fun r fr τ3 => ∃ (z : Int) (i : Nat) (cs : List AV), z = (i : Int) ∧ i + r = A.length ∧ Rw τ3 2 a1 l0.length (ids l0) ∧ IdsAt τ3 B m l0 ∧ OwnS σ1 τ3 2 oA aA A.length cs ∧
    fr = [.sl a1 l0.length, .bad, .bad, .bad, .ptr (some ⟨B, 0, 0, 1⟩), .sl aA A.length, .bad, .bad, .bad, .bad, .bad, .bad, .bad, .bad, .bad, .bad, .bad, .bad, .bad, .bad, .bad, .bad, .bad, .bad, .bad, .bad, .bad, .bad, .bad, .bad, .bad, .bad, .bad, .bad, .bad, .bad, .bad, .bad, .bad, .bad, .bad, .bad, .bad, .bad, .bad, .bad, .bad, .bad, .bad, .bad, .bad, .bad, .bad, .bad, .bad, .bad, .bad, .bad, .bad, .bad, .bad, .bad, .bad, .bad, .bad, .bad, .bad, .bad, .bad, .int .i64 A.length, .int .i64 z, .bad, .bad, .bad, .bad, .bad, .bad, .bad, .bad, .bad, .bad, .bad, .bad, .bad, .bad, .bad, .bad, .bad, .bad, .bad, .bad, .bad, .bad, .bad, .bad, .bad, .bad, .bad, .bad, .bad, .bad, .bad, .bad, .bad, .bad, .bad, .bad, .bad, .bad, .bad, .bad, .bad, .bad, .bad, .bad, .bad, .bad, .bad, .bad, .bad, .bad]) ?_ _ A.length _ _ (by omega) ⟨_, 0, _, rfl, by omega, r1, hI, wA, rfl⟩
  clear r1 hI wA
  rintro r fr τ3 C ⟨z, i, cs, rfl, hq, r1, hI, wA, rfl⟩ next fin
  conv => lhs; whnf
  by_cases hi : i < A.length
  case pos =>
    rw [show decide ((i : Int) < (A.length : Int)) = true from decide_eq_true (by omega)]
    conv => lhs; whnf
    refine idxS Try.underlying22 (fun _ => rfl) wA rfl hi fun id1 e1 hr1 => ?_
    have hcl := wA.own.len
    conv => lhs; whnf
    refine storeK_of (i := Try.prog.types[2]) rfl rfl (by decide) hr1 rfl (by show i * 2 + 1 < cs.length; omega) ?_
    subst e1
    have hge := wA.2.1
    have k1 : ∀ id, id < τ3.length → some id1 ≠ some id → (τ3.set id1 (AO.cells (cs.set (i * 2 + 1) (AV.int IntKind.i64 (-5))) 2 Md.own))[id]? = τ3[id]? := fun id _ hne => List.getElem?_set_ne fun e => hne (by rw [e])
    have hI2 : IdsAt (τ3.set id1 (AO.cells (cs.set (i * 2 + 1) (AV.int IntKind.i64 (-5))) 2 Md.own)) B m l0 := ⟨(k1 B (get_lt hI.b) fun e => by cases e; omega).trans hI.b, hI.m.frm (k1 m (by
      obtain ⟨es, c, h⟩ := hI.m.isMap
      exact get_lt h) fun e => by cases e; omega)⟩
    have r2 := rw_keep r1 (fun j off z e e2 => by
      have := gl j off z e
      cases e2
      omega) k1
    have w2 : OwnS σ1 (τ3.set id1 (AO.cells (cs.set (i * 2 + 1) (AV.int IntKind.i64 (-5))) 2 Md.own)) 2 (some id1) aA A.length (cs.set (i * 2 + 1) (AV.int IntKind.i64 (-5))) := ⟨wA.1, hge, get_set hr1 _, by rw [List.length_set]; omega⟩
    conv => lhs; whnf
    refine next (r - 1) _ _ (by omega) ⟨_, i + 1, _, inc_i64 (by omega), by omega, r2, hI2, w2, rfl⟩
  rw [show decide ((i : Int) < (A.length : Int)) = false from decide_eq_false (by omega)]
  clear hi hq wA
  conv => lhs; whnf
  refine fin _ _ _ nofun ?_
  clear next fin
  conv => lhs; whnf
  refine nall_spec (by omega) (fun M hM hsub => Nat.le_trans (nodup_subI hM hsub) (by omega)) hI fun oG aG G σ4 pG hG hmG wG => ?_
  obtain rfl : G = A := strictI_ext hG hA fun x => by rw [hmG, hmA]
  replace r1 := r1.mono pG
  replace hI := hI.mono pG
  have rG := wG.rw
  conv => lhs; whnf
  refine loop_rule (m := 7253554917687775048238641) (fun r fr τ4 => ∃ (z : Int) (i : Nat), z = (i : Int) ∧ i + r = G.length ∧ τ4 = σ4 ∧
    fr = [.sl a1 l0.length, .bad, .bad, .bad, .ptr (some ⟨B, 0, 0, 1⟩), .sl aA G.length, .bad, .bad, .bad, .sl aG G.length, .int .i64 z, .bad, .bad, .bad, .bad, .bad, .bad, .bad, .bad, .bad, .bad, .bad, .bad, .bad, .bad, .bad, .bad, .bad, .bad, .bad, .bad, .bad, .bad, .bad, .bad, .bad, .bad, .bad, .bad, .bad, .bad, .bad, .bad, .bad, .bad, .bad, .bad, .bad, .bad, .bad, .bad, .bad, .bad, .bad, .bad, .bad, .bad, .bad, .bad, .bad, .bad, .bad, .bad, .bad, .bad, .bad, .bad, .bad, .bad, .bad, .bad, .bad, .bad, .bad, .bad, .bad, .bad, .bad, .bad, .bad, .bad, .int .i64 G.length, .int .i64 z, .bad, .bad, .bad, .bad, .bad, .bad, .bad, .bad, .bad, .bad, .bad, .bad, .bad, .bad, .bad, .bad, .bad, .bad, .bad, .bad, .bad, .bad, .bad, .bad, .bad, .bad, .bad, .bad, .bad, .bad, .bad, .bad, .bad, .bad, .bad, .bad, .bad, .bad]) ?_ _ G.length _ _ (by omega) ⟨_, 0, rfl, by omega, rfl, rfl⟩
  rintro r fr τ4 C ⟨z, i, rfl, hq, rfl, rfl⟩ next fin
  conv => lhs; whnf
  by_cases hi : i < G.length
  case neg =>
    rw [show decide ((i : Int) < (G.length : Int)) = false from decide_eq_false (by omega)]
    obtain rfl : i = G.length := by omega
    conv => lhs; whnf
    refine fin _ _ _ nofun ?_
    conv => lhs; whnf
    rw [show ((G.length : Int) == (G.length : Int)) = true by simp]
    conv => lhs; whnf
    refine nlen_spec (by omega) hI fun M hM hmM => ?_
    have eM : M.length = G.length := nodup_lenI hM (strictI_nodup hG) fun x => by rw [hmM, hmG]
    rw [eM]
    conv => lhs; whnf
    rw [show ((G.length : Int) == (G.length : Int)) = true by simp]
    conv => lhs; whnf
    rw [show ((G.length : Int) == (G.length : Int)) = true by simp]
    conv => lhs; whnf
  rw [show decide ((i : Int) < (G.length : Int)) = true from decide_eq_true (by omega)]
  have hin : G[i] ∈ l0 := (hmG _).1 (List.getElem_mem hi)
  conv => lhs; whnf
  refine loop_rule (m := 239367312283696576591826481) (fun r5 fr5 τ5 => ∃ (z : Int) (k : Nat), z = (k : Int) ∧ k + r5 = l0.length ∧ τ5 = τ4 ∧ G[i] ∉ l0.take k ∧
    fr5 = [.sl a1 l0.length, .bad, .bad, .bad, .ptr (some ⟨B, 0, 0, 1⟩), .sl aA G.length, .bad, .bad, .bad, .sl aG G.length, .int .i64 (i : Int), .int .i64 (i : Int), .bad, .bad, .bad, .bad, .bad, .bad, .bad, .bad, .bad, .bad, .bad, .bad, .bad, .bad, .bad, .bad, .bad, .bad, .bad, .bad, .bad, .bad, .bad, .bad, .bad, .bad, .bad, .bad, .bad, .bad, .bad, .bad, .bad, .bad, .bad, .bad, .bad, .bad, .bad, .bad, .bad, .bad, .bad, .bad, .bad, .bad, .bad, .bad, .bad, .bad, .bad, .bad, .bad, .bad, .bad, .bad, .bad, .bad, .bad, .bad, .bad, .bad, .bad, .bad, .bad, .bad, .bad, .bad, .bad, .int .i64 G.length, .int .i64 (i : Int), .bad, .bad, .bad, .int .i64 l0.length, .int .i64 z, .bad, .bad, .bad, .bad, .bad, .bad, .bad, .bad, .bad, .bad, .bad, .bad, .bad, .bad, .bad, .bad, .bad, .bad, .bad, .bad, .bad, .bad, .bad, .bad, .bad, .bad, .bad, .bad, .bad, .bad, .bad, .bad, .bad]) ?_ _ l0.length _ _ (by omega) ⟨_, 0, rfl, by omega, rfl, by simp, rfl⟩
  rintro r5 fr5 τ5 C5 ⟨z, k, rfl, hq5, rfl, hnot, rfl⟩ next5 fin5
  conv => lhs; whnf
  by_cases hk : k < l0.length
  case neg =>
    rw [List.take_of_length_le (by omega)] at hnot
    exact absurd hin hnot
  rw [show decide ((k : Int) < (l0.length : Int)) = true from decide_eq_true (by omega)]
  conv => lhs; whnf
  refine goK hD plan6x32 ord6x32 fun KK hKK => ?_
  conv => lhs; whnf
  refine idxN rG rfl hi fun p1 e1 => ?_
  conv => lhs; whnf
  refine ldN e1 ?_
  conv => lhs; whnf
  refine idxN r1 rfl hk fun p2 e2 => ?_
  conv => lhs; whnf
  refine ldN e2 ?_
  conv => lhs; whnf
  rw [idEq]
  by_cases heq : G[i] = l0[k]
  · rw [decide_eq_true heq]
    conv => lhs; whnf
    subst hKK
    conv => lhs; whnf
    refine fin5 _ _ _ nofun ?_
    conv => lhs; whnf
    rw [inc_i64 (by omega)]
    refine next (r - 1) _ _ (by omega) ⟨_, i + 1, rfl, by omega, rfl, rfl⟩
  · rw [decide_eq_false heq]
    conv => lhs; whnf
    subst hKK
    conv => lhs; whnf
    refine next5 (r5 - 1) _ _ (by omega) ⟨_, k + 1, inc_i64 (by omega), by omega, rfl, fun h => ?_, rfl⟩
    rw [List.take_succ_eq_append_getElem hk] at h
    exact (List.mem_append.1 h).elim hnot fun h => heq (List.mem_singleton.1 h)
theorem nameOrder_law (σ : H) (vs : List AV) (h : ArgsShp Try.prog σ 9 [22] vs) : ∃ n, acall Try.prog tab (drawRegion Try.prog) n 6 vs σ isTrue = true := by
  obtain ⟨a, us, rfl, h1, h⟩ := args_cons h
  obtain rfl := args_nil h
  obtain ⟨s, l, rfl, r1⟩ := arg_nms h1
  exact ⟨20000, nameOrder_run (byPlan _) (Nat.le_refl _) r1⟩
end Go.Proofs.Ytjooccdeeejecaa
