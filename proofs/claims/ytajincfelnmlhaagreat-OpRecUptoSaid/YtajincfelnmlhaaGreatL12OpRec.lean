/- OpRec: transactions as records, and back; any records. -/
import Derived.Test.YtajincfelnmlhaaGreatGmRecs
import Derived.Test.YtajincfelnmlhaaGreatL12Span
import Derived.Test.YtajincfelnmlhaaGreatGmParts
namespace Go.Proofs.YtajincfelnmlhaaGreat
set_option maxRecDepth 100000
open Go Go.AM Go.AM.St
theorem recEq_refl (r : RecP) : recEq r r = true := by unfold recEq; simp
theorem rec_shp {σ : H} {m : Nat} {cs : List AV} (hl : cs.length = 3) (h : Shp Tryz.prog σ (m + 3) 43 cs) : ∃ a b r, cs = [.int .i64 r.kind, .sl a r.nums.length, .sl b r.texts.length] ∧ IsR σ a b r ∧ OkR r := by
  match cs, hl with
  | [x, y, z], _ =>
    unfold Shp at h
    rw [Tryz.underlying43] at h
    obtain ⟨k, e1, k1, k2⟩ := shp_i (m := m + 1) (cs := [x]) Tryz.underlying3 (h _ (.head _))
    cases e1
    obtain ⟨a, ns, e2, n1, n2, n3⟩ := shp_ints (n := m) (cs := [y]) Tryz.underlying40 Tryz.underlying2 rfl (h _ (.tail _ (.head _)))
    cases e2
    obtain ⟨b, ts, e3, t1, t2, t3⟩ := shp_texts (n := m) (cs := [z]) Tryz.underlying41 Tryz.underlying9 rfl (h _ (.tail _ (.tail _ (.head _))))
    cases e3
    exact ⟨a, b, ⟨k, ns, ts⟩, rfl, ⟨n1, t1⟩, ⟨k1, k2, n3, n2, t3, t2⟩⟩
theorem rec_arg {σ : H} {v : AV} (h : ArgShp Tryz.prog σ 9 43 v) : ∃ a b r, v = recV a b r ∧ IsR σ a b r ∧ OkR r := by
  unfold ArgShp at h
  rw [Tryz.underlying43] at h
  obtain ⟨cs, rfl, hl, hs⟩ := h
  obtain ⟨a, b, r, rfl, h1, h2⟩ := rec_shp (m := 6) hl hs
  exact ⟨a, b, r, rfl, h1, h2⟩
theorem put_opAt (c e k : Int) : ∀ (l : List OpV) (i : Nat) (h : i < l.length), opAt (putV c e l k) i = l[i] := by
  have hn : ∀ (l : List OpV) (i : Nat) (h : i < l.length), (putNums l).getD (2 * i) 0 = l[i].kind ∧ (putNums l).getD (2 * i + 1) 0 = l[i].n := by
    intro l
    induction l with
    | nil => intro i h; simp at h
    | cons o l ih =>
      intro i h
      cases i with
      | zero => exact ⟨rfl, rfl⟩
      | succ i =>
        have := ih i (by simpa using h)
        rw [show 2 * (i + 1) = 2 * i + 1 + 1 by omega]
        exact this
  have ht : ∀ (l : List OpV) (i : Nat) (h : i < l.length), (putTexts l).getD (3 * i) [] = l[i].s ∧ (putTexts l).getD (3 * i + 1) [] = l[i].k ∧ (putTexts l).getD (3 * i + 2) [] = l[i].t := by
    intro l
    induction l with
    | nil => intro i h; simp at h
    | cons o l ih =>
      intro i h
      cases i with
      | zero => exact ⟨rfl, rfl, rfl⟩
      | succ i =>
        have := ih i (by simpa using h)
        rw [show 3 * (i + 1) = 3 * i + 1 + 1 + 1 by omega]
        exact this
  intro l i h
  obtain ⟨a1, a2⟩ := hn l i h
  obtain ⟨b1, b2, b3⟩ := ht l i h
  have e1 : (putV c e l k).nums.getD (2 + 2 * i) 0 = l[i].kind := by
    show ([c, e] ++ putNums l).getD (2 + 2 * i) 0 = _
    rw [← a1, show 2 + 2 * i = 2 * i + 1 + 1 by omega]
    rfl
  have e2 : (putV c e l k).nums.getD (3 + 2 * i) 0 = l[i].n := by
    show ([c, e] ++ putNums l).getD (3 + 2 * i) 0 = _
    rw [← a2, show 3 + 2 * i = 2 * i + 1 + 1 + 1 by omega]
    rfl
  unfold opAt
  rw [e1, e2]
  show (⟨_, (putTexts l).getD (3 * i) [], (putTexts l).getD (3 * i + 1) [], (putTexts l).getD (3 * i + 2) [], _⟩ : OpV) = l[i]
  rw [b1, b2, b3]
theorem put_n (c e k : Int) (l : List OpV) : nOps (putV c e l k) = l.length := by
  show (putTexts l).length / 3 = _
  rw [putTexts_len]; omega
theorem put_ops (c e k : Int) (l : List OpV) : opsAt (putV c e l k) l.length = l := by
  apply List.ext_getElem
  · exact opsAt_len _ _
  · intro i h1 h2
    have := put_opAt c e k l i h2
    simpa [opsAt] using this
theorem put_getOk {c e k : Int} {l : List OpV} (h : putOk c e l k = true) : getOk (putV c e l k) = true := by
  have e1 : cOf (putV c e l k) = c := rfl
  have e2 : eOf (putV c e l k) = e := rfl
  have e3 : (putV c e l k).kind = k := rfl
  have e4 : (putV c e l k).nums.length = 2 + 2 * l.length := by
    show ([c, e] ++ putNums l).length = _
    rw [List.length_append, putNums_len]; rfl
  have e5 : (putV c e l k).texts.length = 3 * l.length := putTexts_len l
  unfold getOk
  rw [put_n, put_ops, e1, e2, e3, h, e4, e5]
  simp
theorem put_okR {c e k : Int} {l : List OpV} (hc : -9223372036854775808 ≤ c ∧ c ≤ 9223372036854775807) (he : -9223372036854775808 ≤ e ∧ e ≤ 9223372036854775807) (hk : k = 3 ∨ k = 4) (ho : ∀ o ∈ l, OkL o) (hl : l.length ≤ 100) : OkR (putV c e l k) := by
  refine ⟨by show _ ≤ k; omega, by show k ≤ _; omega, fun x hx => ?_, ?_, fun t ht => ?_, ?_⟩
  · rcases List.mem_append.1 (show x ∈ [c, e] ++ putNums l from hx) with h | h
    · simp at h
      rcases h with rfl | rfl
      · exact hc
      · exact he
    · obtain ⟨o, h1, h2⟩ := List.mem_flatMap.1 h
      have := (ho o h1).ok
      simp at h2
      rcases h2 with rfl | rfl
      · exact ⟨this.k1, this.k2⟩
      · exact ⟨this.n1, this.n2⟩
  · show ([c, e] ++ putNums l).length ≤ _
    rw [List.length_append, putNums_len]
    show 2 + 2 * l.length ≤ _
    have : 202 ≤ maxLen := by decide
    omega
  · obtain ⟨o, h1, h2⟩ := List.mem_flatMap.1 (show t ∈ putTexts l from ht)
    have := ho o h1
    simp at h2
    rcases h2 with rfl | rfl | rfl
    · exact ⟨this.ok.s, this.s⟩
    · exact ⟨this.ok.k, this.k⟩
    · exact ⟨this.ok.t, this.t⟩
  · show (putTexts l).length ≤ _
    rw [putTexts_len]
    have : 300 ≤ maxLen := by decide
    omega
attribute [local irreducible] IntKind.wrap Int.fdiv Int.tdiv Int.tmod BitVec.ofInt appendK sliceK indexAddrK ldK storeK seenK makeSliceK lookupK updateK deleteK mapK rangeK nextK buildSliceK indexK
variable {D : Drawer} {σ : H}
set_option maxHeartbeats 4000000 in
theorem opRec_run {n M : Nat} {s ar br : AM.SA} {l : List OpV} {c e k : Int} {r : RecP} (hD : ByPlan Tryz.prog D) (hn : M + 5000000 ≤ n) (hM : M ≤ 9223372036854775808) (h0M : 0 < M) (hmx : maxLen < M) (hs : Rw σ 5 s l.length (opvs l)) (ho : ∀ o ∈ l, OkL o)
    (hc : -9223372036854775808 ≤ c ∧ c ≤ 9223372036854775807) (he : -9223372036854775808 ≤ e ∧ e ≤ 9223372036854775807) (rI : IsR σ ar br r) (ok : OkR r) (hnl : r.nums.length ≤ 1048576) (htl : r.texts.length ≤ 1048576) :
    acall Tryz.prog tab D n 5 [.agg (idv c e), .sl s l.length, .int .i64 k, recV ar br r] σ isTrue = true := by
  obtain ⟨n, rfl, hn⟩ := up (n := n) (k := M + 4999999) (by omega)
  have P1 : σ <+: (σ ++ [AO.cells (idv c e) 2 .own] ++ [AO.cells (rcs ar br r) 3 .own]) := (List.prefix_append _ _).trans (List.prefix_append _ _)
  have T4 := get_old (get_new σ (AO.cells (idv c e) 2 .own)) (AO.cells (rcs ar br r) 3 .own)
  have T7 := get_new (σ ++ [AO.cells (idv c e) 2 .own]) (AO.cells (rcs ar br r) 3 .own)
  have hts : ∀ t ∈ r.texts, t.length < M := fun t h => Nat.lt_of_le_of_lt (ok.ts t h).2 hmx
  have hol : ∀ o ∈ l.take 10, OkL o := fun o h => ho o (List.mem_of_mem_take h)
  have hov : ∀ o ∈ l.take 10, OkV o := fun o h => (hol o h).ok
  have hos : ∀ o ∈ l.take 10, o.s.length < M := fun o h => Nat.lt_of_le_of_lt (hol o h).s hmx
  have hl10 : (l.take 10).length ≤ 10 := by rw [List.length_take]; omega
  conv => lhs; whnf
  refine begun_spec ?_
  conv => lhs; whnf
  refine ops_spec (by omega) (hs.mono P1) fun o1 a1 σ1 p1 ow => ?_
  replace T4 := prefix_get p1 T4
  replace T7 := prefix_get p1 T7
  generalize l.take 10 = lo at hol hov hos hl10 ow ⊢
  have rI1 := rI.mono (P1.trans p1)
  conv => lhs; whnf
  refine ldId T4 ?_
  conv => lhs; whnf
  cases hp : putOk c e lo k with
  | false =>
    refine put_no (by omega) (by omega) ow.rw hov hp fun σ2 p2 => ?_
    conv => lhs; whnf
    refine storeRec (get_new _ _) rfl ?_
    rw [set_new]
    have PA := List.prefix_append σ2 [AO.cells [.int .i64 0, .sl .nil 0, .sl .nil 0] 3 .own]
    have TA := get_new σ2 (AO.cells [.int .i64 0, .sl .nil 0, .sl .nil 0] 3 .own)
    conv => lhs; whnf
    refine ldId (prefix_get (p2.trans PA) T4) ?_
    conv => lhs; whnf
    refine rput_no (M := M) hD (by omega) (by omega) hM hos (by omega) (ow.rw.mono (p2.trans PA)) hp fun σ3 p3 => ?_
    conv => lhs; whnf
    refine storeRec (get_new _ _) rfl ?_
    rw [set_new]
    have PB := List.prefix_append σ3 [AO.cells [.int .i64 0, .sl .nil 0, .sl .nil 0] 3 .own]
    have TB := get_new σ3 (AO.cells [.int .i64 0, .sl .nil 0, .sl .nil 0] 3 .own)
    replace TA := prefix_get (p3.trans PB) TA
    conv => lhs; whnf
    refine ldRec TA ?_
    conv => lhs; whnf
    refine ldRec TB ?_
    conv => lhs; whnf
    refine req_spec (r := ⟨0, [], []⟩) (s := ⟨0, [], []⟩) (by omega) (Nat.zero_le _) (Nat.zero_le _) hD ⟨Rw.nil _ _, Rw.nil _ _⟩ ⟨Rw.nil _ _, Rw.nil _ _⟩ fun σ4 p4 => ?_
    rw [recEq_refl]
    have PP := (p2.trans PA).trans ((p3.trans PB).trans p4)
    replace T7 := prefix_get PP T7
    replace rI1 := rI1.mono PP
    clear TA TB PA PB
    conv => lhs; whnf
    refine ldRec T7 ?_
    conv => lhs; whnf
    cases hg : getOk r with
    | true =>
      refine oget_spec hD (M := M) (by omega) rI1 ok hnl htl (fun _ a' σ' pg rg => ?_) fun h => by rw [hg] at h; cases h
      conv => lhs; whnf
      refine storeI (i := (cOf r, eOf r)) (get_new _ _) ?_
      rw [set_new]
      have PG := List.prefix_append σ' [AO.cells (idv (cOf r) (eOf r)) 2 .own]
      have TG := get_new σ' (AO.cells (idv (cOf r) (eOf r)) 2 .own)
      conv => lhs; whnf
      refine ldRec (prefix_get (pg.trans PG) T7) ?_
      conv => lhs; whnf
      refine orget_spec hD (M := M) (by omega) hM ((rI1).mono (pg.trans PG)) hnl htl h0M hts (fun _ a2 σ2' pg2 rg2 => ?_) fun h => by rw [hg] at h; cases h
      conv => lhs; whnf
      refine storeI (i := (cOf r, eOf r)) (get_new _ _) ?_
      rw [set_new]
      have PG2 := List.prefix_append σ2' [AO.cells (idv (cOf r) (eOf r)) 2 .own]
      have TG2 := get_new σ2' (AO.cells (idv (cOf r) (eOf r)) 2 .own)
      conv => lhs; whnf
      refine ldI (i := (cOf r, eOf r)) (prefix_get (pg2.trans PG2) TG) ?_
      conv => lhs; whnf
      refine ldI (i := (cOf r, eOf r)) TG2 ?_
      conv => lhs; whnf
      rw [idEqK (cOf r, eOf r) (cOf r, eOf r), decide_eq_true rfl]
      conv => lhs; whnf
      have hol2 : (opsAt r (nOps r)).length ≤ 400000 := by rw [opsAt_len]; unfold nOps; omega
      refine eq_spec hD (by omega) (by omega) (rg.mono (PG.trans (pg2.trans PG2))) (rg2.mono PG2) rfl ?_
      conv => lhs; whnf
    | false =>
      refine oget_spec hD (M := M) (by omega) rI1 ok hnl htl (fun h => by rw [hg] at h; cases h) fun _ σ' pg => ?_
      conv => lhs; whnf
      refine storeI (i := (0, 0)) (get_new _ _) ?_
      rw [set_new]
      have PG := List.prefix_append σ' [AO.cells (idv 0 0) 2 .own]
      have TG := get_new σ' (AO.cells (idv 0 0) 2 .own)
      conv => lhs; whnf
      refine ldRec (prefix_get (pg.trans PG) T7) ?_
      conv => lhs; whnf
      refine orget_spec hD (M := M) (by omega) hM ((rI1).mono (pg.trans PG)) hnl htl h0M hts (fun h => by rw [hg] at h; cases h) fun _ σ2' pg2 => ?_
      conv => lhs; whnf
      refine storeI (i := (0, 0)) (get_new _ _) ?_
      rw [set_new]
      have PG2 := List.prefix_append σ2' [AO.cells (idv 0 0) 2 .own]
      have TG2 := get_new σ2' (AO.cells (idv 0 0) 2 .own)
      conv => lhs; whnf
      refine ldI (i := (0, 0)) (prefix_get (pg2.trans PG2) TG) ?_
      conv => lhs; whnf
      refine ldI (i := (0, 0)) TG2 ?_
      conv => lhs; whnf
      refine eq_spec (l := []) (m := []) hD (by simp; omega) (by simp) (Rw.nil _ _) (Rw.nil _ _) rfl ?_
      conv => lhs; whnf
  | true =>
    have hl8 : lo.length ≤ 1000 := by omega
    have hk34 : k = 3 ∨ k = 4 := by
      unfold putOk at hp
      simp only [Bool.and_eq_true, Bool.or_eq_true, beq_iff_eq] at hp
      exact hp.1.1
    have hN : (putV c e lo k).nums.length ≤ 50 := by show ([c, e] ++ putNums lo).length ≤ 50; rw [List.length_append, putNums_len]; show 2 + _ ≤ 50; omega
    have hX : (putV c e lo k).texts.length ≤ 50 := by show (putTexts lo).length ≤ 50; rw [putTexts_len]; omega
    refine put_yes (by omega) hl8 ow.rw hov hp fun oN oT aN aT σ2 p2 wN wT => ?_
    conv => lhs; whnf
    refine storeRec (get_new _ _) rfl ?_
    rw [set_new]
    have PA := List.prefix_append σ2 [AO.cells (rcs aN aT (putV c e lo k)) 3 .own]
    have TA := get_new σ2 (AO.cells (rcs aN aT (putV c e lo k)) 3 .own)
    have iA : IsR (σ2 ++ [AO.cells (rcs aN aT (putV c e lo k)) 3 .own]) aN aT (putV c e lo k) := ⟨wN.rw.mono PA, wT.rw.mono PA⟩
    conv => lhs; whnf
    refine ldId (prefix_get (p2.trans PA) T4) ?_
    conv => lhs; whnf
    refine rput_yes (M := M) hD (by omega) (by omega) hM hos hl8 (ow.rw.mono (p2.trans PA)) hp fun oN2 oT2 aN2 aT2 σ3 p3 wN2 wT2 => ?_
    conv => lhs; whnf
    refine storeRec (get_new _ _) rfl ?_
    rw [set_new]
    have PB := List.prefix_append σ3 [AO.cells (rcs aN2 aT2 (putV c e lo k)) 3 .own]
    have TB := get_new σ3 (AO.cells (rcs aN2 aT2 (putV c e lo k)) 3 .own)
    have iB : IsR (σ3 ++ [AO.cells (rcs aN2 aT2 (putV c e lo k)) 3 .own]) aN2 aT2 (putV c e lo k) := ⟨wN2.rw.mono PB, wT2.rw.mono PB⟩
    replace TA := prefix_get (p3.trans PB) TA
    conv => lhs; whnf
    refine ldRec TA ?_
    conv => lhs; whnf
    refine ldRec TB ?_
    conv => lhs; whnf
    refine req_spec (r := putV c e lo k) (s := putV c e lo k) (by omega) hN hX hD (iA.mono (p3.trans PB)) iB fun σ4 p4 => ?_
    rw [recEq_refl]
    have PP := (p2.trans PA).trans ((p3.trans PB).trans p4)
    replace TA := prefix_get p4 TA
    replace iA := iA.mono ((p3.trans PB).trans p4)
    conv => lhs; whnf
    refine ldRec TA ?_
    conv => lhs; whnf
    have okP := put_okR hc he hk34 hol (by omega)
    refine oget_spec (r := putV c e lo k) hD (M := M) (by omega) iA okP (by omega) (by omega) (fun _ a5 σ5 p5 r5 => ?_) fun h => by rw [put_getOk hp] at h; cases h
    rw [put_n, put_ops] at r5 ⊢
    conv => lhs; whnf
    refine storeI (i := (c, e)) (get_new _ _) ?_
    rw [set_new]
    have PC := List.prefix_append σ5 [AO.cells (idv c e) 2 .own]
    have TC := get_new σ5 (AO.cells (idv c e) 2 .own)
    conv => lhs; whnf
    refine ldI (i := (c, e)) TC ?_
    conv => lhs; whnf
    refine ldI (i := (c, e)) (prefix_get (PP.trans (p5.trans PC)) T4) ?_
    conv => lhs; whnf
    rw [idEqK (c, e) (c, e), decide_eq_true rfl]
    conv => lhs; whnf
    refine eq_spec hD (by omega) (by omega) (r5.mono PC) (ow.rw.mono (PP.trans (p5.trans PC))) rfl ?_
    have PD := PP.trans (p5.trans PC)
    replace T7 := prefix_get PD T7
    replace rI1 := rI1.mono PD
    clear TA TB PA PB TC PC
    conv => lhs; whnf
    refine ldRec T7 ?_
    conv => lhs; whnf
    cases hg : getOk r with
    | true =>
      refine oget_spec hD (M := M) (by omega) rI1 ok hnl htl (fun _ a' σ' pg rg => ?_) fun h => by rw [hg] at h; cases h
      conv => lhs; whnf
      refine storeI (i := (cOf r, eOf r)) (get_new _ _) ?_
      rw [set_new]
      have PG := List.prefix_append σ' [AO.cells (idv (cOf r) (eOf r)) 2 .own]
      have TG := get_new σ' (AO.cells (idv (cOf r) (eOf r)) 2 .own)
      conv => lhs; whnf
      refine ldRec (prefix_get (pg.trans PG) T7) ?_
      conv => lhs; whnf
      refine orget_spec hD (M := M) (by omega) hM ((rI1).mono (pg.trans PG)) hnl htl h0M hts (fun _ a2 σ2' pg2 rg2 => ?_) fun h => by rw [hg] at h; cases h
      conv => lhs; whnf
      refine storeI (i := (cOf r, eOf r)) (get_new _ _) ?_
      rw [set_new]
      have PG2 := List.prefix_append σ2' [AO.cells (idv (cOf r) (eOf r)) 2 .own]
      have TG2 := get_new σ2' (AO.cells (idv (cOf r) (eOf r)) 2 .own)
      conv => lhs; whnf
      refine ldI (i := (cOf r, eOf r)) (prefix_get (pg2.trans PG2) TG) ?_
      conv => lhs; whnf
      refine ldI (i := (cOf r, eOf r)) TG2 ?_
      conv => lhs; whnf
      rw [idEqK (cOf r, eOf r) (cOf r, eOf r), decide_eq_true rfl]
      conv => lhs; whnf
      have hol2 : (opsAt r (nOps r)).length ≤ 400000 := by rw [opsAt_len]; unfold nOps; omega
      refine eq_spec hD (by omega) (by omega) (rg.mono (PG.trans (pg2.trans PG2))) (rg2.mono PG2) rfl ?_
      conv => lhs; whnf
    | false =>
      refine oget_spec hD (M := M) (by omega) rI1 ok hnl htl (fun h => by rw [hg] at h; cases h) fun _ σ' pg => ?_
      conv => lhs; whnf
      refine storeI (i := (0, 0)) (get_new _ _) ?_
      rw [set_new]
      have PG := List.prefix_append σ' [AO.cells (idv 0 0) 2 .own]
      have TG := get_new σ' (AO.cells (idv 0 0) 2 .own)
      conv => lhs; whnf
      refine ldRec (prefix_get (pg.trans PG) T7) ?_
      conv => lhs; whnf
      refine orget_spec hD (M := M) (by omega) hM ((rI1).mono (pg.trans PG)) hnl htl h0M hts (fun h => by rw [hg] at h; cases h) fun _ σ2' pg2 => ?_
      conv => lhs; whnf
      refine storeI (i := (0, 0)) (get_new _ _) ?_
      rw [set_new]
      have PG2 := List.prefix_append σ2' [AO.cells (idv 0 0) 2 .own]
      have TG2 := get_new σ2' (AO.cells (idv 0 0) 2 .own)
      conv => lhs; whnf
      refine ldI (i := (0, 0)) (prefix_get (pg2.trans PG2) TG) ?_
      conv => lhs; whnf
      refine ldI (i := (0, 0)) TG2 ?_
      conv => lhs; whnf
      refine eq_spec (l := []) (m := []) hD (by simp; omega) (by simp) (Rw.nil _ _) (Rw.nil _ _) rfl ?_
      conv => lhs; whnf
theorem opRec_law (σ : H) (vs : List AV) (h : ArgsShp Tryz.prog σ 9 [26, 24, 3, 43] vs) (hb : ∀ k a b x y, vs.getLast? = some (.agg [.int .i64 k, .sl a x, .sl b y]) → x ≤ 1048576 ∧ y ≤ 1048576) : ∃ n, acall Tryz.prog tab (drawRegion Tryz.prog) n 5 vs σ isTrue = true := by
  obtain ⟨a, us, rfl, h1, h⟩ := args_cons h
  obtain ⟨b, us, rfl, h2, h⟩ := args_cons h
  obtain ⟨d, us, rfl, h3, h⟩ := args_cons h
  obtain ⟨f, us, rfl, h4, h⟩ := args_cons h
  obtain rfl := args_nil h
  obtain ⟨c, e, rfl, c1, c2, e1, e2⟩ := arg_cid h1
  obtain ⟨s, l, rfl, r1, o1, _⟩ := arg_ops h2
  obtain ⟨k, rfl, _, _⟩ := arg_int Tryz.underlying3 h3
  obtain ⟨ar, br, r, rfl, i1, ok⟩ := rec_arg h4
  obtain ⟨b1, b2⟩ := hb _ _ _ _ _ rfl
  exact ⟨maxLen + 1 + 5000000, opRec_run (M := maxLen + 1) (byPlan _) (Nat.le_refl _) (by decide) (Nat.succ_pos _) (Nat.lt_succ_self _) r1 o1 ⟨c1, c2⟩ ⟨e1, e2⟩ i1 ok b1 b2⟩
end Go.Proofs.YtajincfelnmlhaaGreat
