/- LockAll: locks that are had at once, or not at all. -/
import Derived.Test.YtajincfelnmlhaaGreatL12LockR
namespace Go.Proofs.YtajincfelnmlhaaGreat
set_option maxRecDepth 100000
open Go Go.AM Go.AM.St
theorem rw_lt {σ : H} {z n : Nat} {a : AM.SA} {cs : List AV} (h : Rw σ z a n cs) {j off z' : Nat} (e : a = .at j off z') : j < σ.length := by
  subst e
  rcases h with ⟨h, _⟩ | ⟨h, _⟩ | ⟨id, off, xs, md, h1, h2, _⟩
  · cases h
  · cases h
  · cases h1
    exact get_lt h2
theorem WsOk.le {W : List HV} {f : KeyB → Option (Int × Int)} {N M : Nat} (h : WsOk W f N) (hl : N ≤ M) : WsOk W f M := ⟨h.ids, h.str, h.own, Nat.le_trans h.num hl⟩
/-- Where one stands in the list. -/
def AtV (W : List HV) (i : Int × Int) (y : Int) (k : Nat) : Prop := (y = -1 ∧ ∀ x ∈ W.take k, x.id ≠ i) ∨ ∃ (j : Nat) (h : j < W.length), y = (j : Int) ∧ W[j].id = i
/-- Nobody else's lock of the first k is met. -/
def FreeTo (W : List HV) (ks : List KeyB) (y : Int) (k : Nat) : Prop := ∀ (k' : Nat) (h : k' < W.length), k' < k → (k' : Int) ≠ y → ∀ x ∈ W[k'].L, ∀ q ∈ ks, meetV x.1 q.1 = false
theorem free_iff {W : List HV} {f : KeyB → Option (Int × Int)} {N : Nat} (h : WsOk W f N) {i : Int × Int} {ks : List KeyB} {y : Int} (hy : AtV W i y W.length) : FreeTo W ks y W.length ↔ Free W i ks := by
  have key : ∀ (k' : Nat) (h' : k' < W.length), (k' : Int) ≠ y ↔ W[k'].id ≠ i := by
    intro k' h'
    rcases hy with ⟨rfl, hno⟩ | ⟨j, hj, rfl, hje⟩
    · rw [List.take_length] at hno
      exact ⟨fun _ => hno _ (List.getElem_mem h'), fun _ => by omega⟩
    · constructor
      · intro hne e
        have e2 : (W.map HV.id)[k']? = (W.map HV.id)[j]? := by
          rw [List.getElem?_map, List.getElem?_map, List.getElem?_eq_getElem h', List.getElem?_eq_getElem hj]
          simp [e, hje]
        have := (List.getElem?_inj (by simpa using h') h.ids).1 e2
        omega
      · intro hne e
        have : k' = j := by omega
        subst this
        exact hne hje
  constructor
  · intro hf x hx hne
    obtain ⟨k', h', rfl⟩ := List.getElem_of_mem hx
    exact hf k' h' h' ((key k' h').2 hne)
  · intro hf k' h' _ hne
    exact hf _ (List.getElem_mem h') ((key k' h').1 hne)
theorem ldHLs {σ : H} {id i : Nat} {W : List HV} {x : HV} {md : Md} (hr : σ[id]? = some (AO.cells (hvs (W.set i x)) 3 md)) (hi : i < W.length) {K : AV → Bool} (hK : K (.sl x.a x.L.length) = true) : ldK Tryz.prog 58 σ ⟨id, i * 3, 2, 3⟩ K = true :=
  ldHL hr (by rw [List.length_set]; exact hi) (by rw [List.getElem_set_self]; exact hK)
theorem HasAt.grow {σ0 σ σ' : H} {B m : Nat} {f : Own1} {o o' : Option Nat} {a a' : AM.SA} {W W' : List HV} (h : HasAt σ0 σ B m f o a W) (hB : B < σ0.length) (hm : m < σ0.length) (kk : ∀ id, id < σ.length → o ≠ some id → σ'[id]? = σ[id]?)
    (k3 : ∀ id, o' = some id → o = some id ∨ σ.length ≤ id) (w : OwnS σ0 σ' 3 o' a' W'.length (hvs W')) (rows : ∀ x ∈ W', Rw σ 3 x.a x.L.length (kcs x.L) ∧ ∀ j off z, x.a = .at j off z → o ≠ some j) : HasAt σ0 σ' B m f o' a' W' := by
  have low : ∀ id, id < σ0.length → o ≠ some id := fun id hid e => by
    have := h.w
    subst e
    have := this.2.1
    omega
  have hbl := get_lt h.lk.b
  have hml := h.lk.lt
  refine ⟨⟨(kk B hbl (low B hB)).trans h.lk.b, h.lk.m.frm (kk m hml (low m hm))⟩, w, fun x hx => ?_⟩
  obtain ⟨r, g⟩ := rows x hx
  refine ⟨rw_keep r g kk, fun j off z e e2 => ?_⟩
  rcases k3 j e2 with h1 | h1
  · exact g j off z e h1
  · have := rw_lt r e
    omega
theorem frm_grow {σ0 σ σ' : H} {m : Nat} {o : Option Nat} {a : AM.SA} {W : List HV} (h : Frm m σ0 σ) (l : σ.length ≤ σ'.length) (kk : ∀ id, id < σ.length → o ≠ some id → σ'[id]? = σ[id]?) (w : OwnS σ0 σ 3 o a W.length (hvs W)) : Frm m σ0 σ' := by
  refine ⟨Nat.le_trans h.len l, fun id h1 h2 => ?_⟩
  rw [kk id (Nat.lt_of_lt_of_le h1 h.len) fun e => ?_, h.same id h1 h2]
  subst e
  have := w.2.1
  omega
attribute [local irreducible] IntKind.wrap Int.fdiv Int.tdiv Int.tmod BitVec.ofInt appendK sliceK indexAddrK ldK storeK seenK makeSliceK lookupK updateK deleteK mapK rangeK nextK indexK clearK
variable {D : Drawer} {σ : H}
set_option maxHeartbeats 8000000 in
theorem lockAll_run {n : Nat} {s : AM.SA} {l : List LockV} (hD : ByPlan Tryz.prog D) (hT : ByTree Tryz.prog D) (hn : 20000 ≤ n) (hs : Rw σ 4 s l.length (lvs l)) (hl : ∀ v ∈ l, OkLV σ v) :
    acall Tryz.prog tab D n 7 [.sl s l.length] σ isTrue = true := by
  obtain ⟨n, rfl, hn⟩ := up (n := n) (k := 19999) (by omega)
  conv => lhs; whnf
  refine begun_spec ?_
  conv => lhs; whnf
  refine lnew_spec (by omega) fun B m σ1 p1 lk1 hB hm => ?_
  have hBl := get_lt lk1.b
  have hml := lk1.lt
  conv => lhs; whnf
  refine loop_rule (m := 113) (fun r fr τ => ∃ (z : Int) (i : Nat) (f : Own1) (o : Option Nat) (a : AM.SA) (W : List HV), z = (i : Int) ∧ i + r = min l.length 40 ∧ Frm m σ1 τ ∧ HasAt σ1 τ B m f o a W ∧ WsOk W f (10 * i) ∧ W.length ≤ i ∧
    fr = [.sl s l.length, .bad, .bad, .bad, .ptr (some ⟨B, 0, 0, 1⟩), .sl a W.length, .int .i64 z, .bad, .bad, .bad, .bad, .bad, .bad, .bad, .bad, .bad, .bad, .bad, .bad, .bad, .bad, .bad, .bad, .bad, .bad, .bad, .bad, .bad, .bad, .bad, .bad, .bad, .bad, .bad, .bad, .bad, .bad, .bad, .bad, .bad, .bad, .bad, .bad, .bad, .bad, .bad, .bad, .bad, .bad, .bad, .bad, .bad, .bad, .bad, .bad, .bad, .bad, .bad, .bad, .bad, .bad, .bad, .bad, .bad, .bad, .bad, .bad, .bad, .bad, .bad, .bad, .bad, .bad, .bad, .bad, .bad, .bad, .bad, .bad, .bad, .bad, .bad, .bad, .bad, .bad, .bad, .bad, .bad, .bad, .bad, .bad, .bad, .bad, .bad, .bad, .bad, .bad, .bad, .bad, .bad, .bad, .bad, .bad, .bad, .bad, .bad, .bad, .bad, .bad, .bad, .bad, .bad, .bad, .bad, .bad, .bad, .bad, .bad, .bad, .bad, .bad, .bad, .bad, .bad, .bad, .bad, .bad, .bad, .bad, .bad, .bad, .bad, .bad, .bad, .bad, .bad, .bad, .bad, .bad, .bad, .bad, .bad, .bad, .bad, .bad, .bad, .bad, .bad, .bad, .bad, .bad, .bad, .bad, .bad, .bad, .bad, .bad, .bad, .bad, .bad, .bad, .bad, .bad, .bad, .bad, .bad, .bad, .bad, .bad, .bad, .bad, .bad, .bad, .bad, .bad, .bad, .bad, .bad, .bad, .bad, .bad, .bad, .bad, .bad, .bad, .bad, .bad, .bad, .bad, .bad, .bad, .bad, .bad, .bad, .bad, .bad, .bad, .bad, .bad, .bad, .bad, .bad]) ?_ _ (min l.length 40) _ _ (by omega)
    ⟨_, 0, _, none, .nil, [], rfl, by omega, Frm.refl _ _, ⟨lk1, OwnS.nil _ _ _, fun x h => by simp at h⟩, WsOk.nil, Nat.le_refl _, rfl⟩
  rintro r fr τ C ⟨z, i, f, o, a, W, rfl, hq, fr1, H, ok, hWl, rfl⟩ next fin
  conv => lhs; whnf
  by_cases hi : i < l.length
  case neg =>
    rw [show decide ((i : Int) < (l.length : Int)) = false from decide_eq_false (by omega)]
    conv => lhs; whnf
    refine fin _ _ _ nofun ?_
    conv => lhs; whnf
  rw [show decide ((i : Int) < (l.length : Int)) = true from decide_eq_true (by omega)]
  conv => lhs; whnf
  by_cases hi40 : i < 40
  case neg =>
    rw [show decide ((i : Int) < 40) = false from decide_eq_false (by omega)]
    conv => lhs; whnf
    refine fin _ _ _ nofun ?_
    conv => lhs; whnf
  rw [show decide ((i : Int) < 40) = true from decide_eq_true (by omega)]
  obtain ⟨vr, vo⟩ := hl _ (List.getElem_mem hi)
  conv => lhs; whnf
  refine idxLV (lk1.m.rw fr1 (hs.mono p1)) rfl hi fun pe he => ?_
  conv => lhs; whnf
  refine ldLV he ?_
  generalize l[i] = v at he vr vo
  clear he
  conv => lhs; whnf
  refine storeLV (get_new _ _) ?_
  rw [set_new]
  have PV := List.prefix_append τ [AO.cells (lv v) 4 .own]
  have T7 := get_new τ (AO.cells (lv v) 4 .own)
  have H1 := H.mono PV
  have fr2 := fr1.trans (Frm.pre (m := m) PV)
  replace vr := lk1.m.rw fr2 (vr.mono p1)
  clear H fr1 PV
  have hp7 : (τ ++ [AO.cells (lv v) 4 .own]).length = τ.length + 1 := by simp
  generalize hτ1 : τ ++ [AO.cells (lv v) 4 .own] = τ1 at T7 H1 fr2 vr hp7 ⊢
  conv => lhs; whnf
  refine loop_rule (m := 1009) (fun r2 gr τ2 => ∃ (z y : Int) (k : Nat), z = (k : Int) ∧ k + r2 = W.length ∧ τ2 = τ1 ∧ AtV W v.id y k ∧
    gr = [.sl s l.length, .bad, .bad, .bad, .ptr (some ⟨B, 0, 0, 1⟩), .sl a W.length, .int .i64 (i : Int), .ptr (some ⟨τ.length, 0, 0, 4⟩), .int .i64 y, .int .i64 z, .bad, .bad, .bad, .bad, .bad, .bad, .bad, .bad, .bad, .bad, .bad, .bad, .bad, .bad, .bad, .bad, .bad, .bad, .bad, .bad, .bad, .bad, .bad, .bad, .bad, .bad, .bad, .bad, .bad, .bad, .bad, .bad, .bad, .bad, .bad, .bad, .bad, .bad, .bad, .bad, .bad, .bad, .bad, .bad, .bad, .bad, .bad, .bad, .bad, .bad, .bad, .bad, .bad, .bad, .bad, .bad, .bad, .bad, .bad, .bad, .bad, .bad, .bad, .bad, .bad, .bad, .bad, .bad, .bad, .bad, .bad, .bad, .bad, .bad, .bad, .bad, .bad, .bad, .bad, .bad, .bad, .bad, .bad, .bad, .bad, .bad, .bad, .bad, .bad, .bad, .bad, .bad, .bad, .bad, .bad, .bad, .bad, .bad, .bad, .bad, .bad, .bad, .bad, .bad, .bad, .bad, .bad, .bad, .bad, .bad, .bad, .bad, .bad, .bad, .bad, .bad, .bad, .bad, .bad, .bad, .bad, .bad, .bad, .bad, .bad, .bad, .bad, .bad, .bad, .bad, .bad, .bad, .bad, .bad, .bad, .bad, .bad, .bad, .bad, .bad, .bad, .bad, .bad, .bad, .bad, .bad, .bad, .bad, .bad, .bad, .bad, .bad, .bad, .bad, .bad, .bad, .bad, .bad, .bad, .bad, .bad, .bad, .bad, .bad, .bad, .bad, .bad, .bad, .bad, .bad, .bad, .bad, .bad, .bad, .bad, .bad, .bad, .bad, .bad, .bad, .bad, .bad, .bad, .bad, .bad, .bad, .bad, .bad, .bad, .bad, .bad, .bad]) ?_ _ W.length _ _ (by omega) ⟨_, _, 0, rfl, by omega, rfl, .inl ⟨rfl, fun x h => by simp at h⟩, rfl⟩
  rintro r2 gr τ2 C2 ⟨z, y, k, rfl, hq2, rfl, hy, rfl⟩ next2 fin2
  conv => lhs; whnf
  by_cases hk : k < W.length
  case pos =>
    rw [show decide ((k : Int) < (W.length : Int)) = true from decide_eq_true (by omega)]
    conv => lhs; whnf
    refine goK hD plan7x14 ord7x14 fun KK hKK => ?_
    conv => lhs; whnf
    refine idxH H1.w rfl hk fun id1 e1 hr1 => ?_
    conv => lhs; whnf
    refine ldHId hr1 hk ?_
    conv => lhs; whnf
    refine ldLId T7 ?_
    conv => lhs; whnf
    rw [idEqK]
    by_cases heq : W[k].id = v.id
    · rw [decide_eq_true heq]
      conv => lhs; whnf
      subst hKK
      conv => lhs; whnf
      refine next2 (r2 - 1) _ _ (by omega) ⟨_, _, k + 1, inc_i64 (by omega), by omega, rfl, .inr ⟨k, hk, rfl, heq⟩, rfl⟩
    · rw [decide_eq_false heq]
      conv => lhs; whnf
      subst hKK
      conv => lhs; whnf
      refine next2 (r2 - 1) _ _ (by omega) ⟨_, _, k + 1, inc_i64 (by omega), by omega, rfl, ?_, rfl⟩
      rcases hy with ⟨h1, h2⟩ | h
      · refine .inl ⟨h1, fun x hx => ?_⟩
        rw [List.take_succ_eq_append_getElem hk] at hx
        rcases List.mem_append.1 hx with hx | hx
        · exact h2 x hx
        · rw [List.mem_singleton.1 hx]; exact heq
      · exact .inr h
  rw [show decide ((k : Int) < (W.length : Int)) = false from decide_eq_false (by omega)]
  obtain rfl : k = W.length := by omega
  clear hk hq2
  conv => lhs; whnf
  refine fin2 _ _ _ nofun ?_
  clear next2 fin2
  conv => lhs; whnf
  refine ldF Tryz.underlying3 rfl rfl T7 rfl ?_
  conv => lhs; whnf
  by_cases hk1 : v.kind = 1
  case pos =>
    rw [show (v.kind == 1) = true from beq_iff_eq.2 hk1]
    rcases hy with ⟨rfl, hno⟩ | ⟨j, hj, rfl, hje⟩
    · rw [List.take_length] at hno
      conv => lhs; whnf
      refine ldLId T7 ?_
      conv => lhs; whnf
      refine lfree_spec (N := 400) hD (by omega) (by omega) (fun M h1 h2 => Nat.le_trans (ok.bound M h1 h2) (by omega)) H1.lk fun L σ2 F2 hL hmL lk2 => ?_
      obtain rfl : L = [] := ok.no hno hmL
      have frN := fr2.trans F2
      have HN := H1.frm F2 lk2
      have okN := (ok.freeNo hno).le (show 10 * i ≤ 10 * (i + 1) by omega)
      generalize (fun k => if f k = some v.id then none else f k) = f2 at HN okN
      clear H1 lk2 F2 hmL ok
      conv => lhs; whnf
      conv => lhs; whnf
      have hnum3 := okN.num
      refine loop_rule (m := 6291569) (fun r3 fr3 ρ3 => ∃ (z y3 : Int) (k : Nat), z = (k : Int) ∧ y3 = (((W.take k).map fun x => x.L.length).sum : Nat) ∧ k + r3 = W.length ∧ σ2 <+: ρ3 ∧ fr3 = [.sl s l.length, .bad, .bad, .bad, .ptr (some ⟨B, 0, 0, 1⟩), .sl a W.length, .int .i64 (i : Int), .bad, .bad, .bad, .bad, .bad, .bad, .bad, .bad, .bad, .bad, .bad, .bad, .bad, .bad, .int .i64 y3, .int .i64 z, .bad, .bad, .bad, .bad, .bad, .bad, .bad, .bad, .bad, .bad, .bad, .bad, .bad, .bad, .bad, .bad, .bad, .bad, .bad, .bad, .bad, .bad, .bad, .bad, .bad, .bad, .bad, .bad, .bad, .bad, .bad, .bad, .bad, .bad, .bad, .bad, .bad, .bad, .bad, .bad, .bad, .bad, .bad, .bad, .bad, .bad, .bad, .bad, .bad, .bad, .bad, .bad, .bad, .bad, .bad, .bad, .bad, .bad, .bad, .bad, .bad, .bad, .bad, .bad, .bad, .bad, .bad, .bad, .bad, .bad, .bad, .bad, .bad, .bad, .bad, .bad, .bad, .bad, .bad, .bad, .bad, .bad, .bad, .bad, .bad, .bad, .bad, .bad, .bad, .bad, .bad, .bad, .bad, .bad, .bad, .bad, .bad, .bad, .bad, .bad, .bad, .bad, .bad, .bad, .bad, .bad, .bad, .bad, .bad, .bad, .bad, .bad, .bad, .bad, .bad, .bad, .bad, .bad, .bad, .bad, .bad, .bad, .bad, .bad, .bad, .bad, .bad, .bad, .bad, .bad, .bad, .bad, .bad, .bad, .bad, .bad, .bad, .bad, .bad, .bad, .bad, .bad, .bad, .bad, .bad, .bad, .bad, .bad, .bad, .bad, .bad, .bad, .bad, .bad, .bad, .bad, .bad, .bad, .bad, .bad, .bad, .bad, .bad, .bad, .bad, .bad, .bad, .bad, .bad, .bad, .bad, .bad, .bad, .bad, .bad, .bad, .bad, .bad, .bad]) ?_ _ W.length _ _ (by omega) ⟨_, _, 0, rfl, rfl, by omega, List.prefix_rfl, rfl⟩
      rintro r3 fr3 ρ3 C3 ⟨z, y3, k, rfl, rfl, hq3, p3, rfl⟩ next3 fin3
      conv => lhs; whnf
      by_cases hk3 : k < W.length
      case neg =>
        rw [show decide ((k : Int) < (W.length : Int)) = false from decide_eq_false (by omega)]
        rw [List.take_of_length_le (by omega)]
        conv => lhs; whnf
        refine fin3 _ _ _ nofun ?_
        conv => lhs; whnf
        refine llen_spec (by omega) (HN.lk.mono p3) fun M hM hmM => ?_
        rw [okN.all M hM hmM]
        conv => lhs; whnf
        rw [show (!((((W.map fun x => x.L.length).sum : Nat) : Int) == (((W.map fun x => x.L.length).sum : Nat) : Int))) = false by simp]
        conv => lhs; whnf
        refine next (r - 1) _ _ (by omega) ⟨_, i + 1, f2, o, a, W, inc_i64 (by omega), by omega, frN.trans (Frm.pre p3), HN.mono p3, okN, (by omega), rfl⟩
      rw [show decide ((k : Int) < (W.length : Int)) = true from decide_eq_true (by omega)]
      have hsum3 : ((W.take (k + 1)).map fun x => x.L.length).sum = ((W.take k).map fun x => x.L.length).sum + (W[k]).L.length := by
        rw [List.take_succ_eq_append_getElem hk3, List.map_append, List.sum_append]
        simp
      have hle3 : ((W.take (k + 1)).map fun x => x.L.length).sum ≤ (W.map fun x => x.L.length).sum := by
        conv => rhs; rw [← List.take_append_drop (k + 1) W, List.map_append, List.sum_append]
        omega
      conv => lhs; whnf
      refine idxH (HN.w.mono p3) rfl hk3 fun id3 e3 hr3 => ?_
      conv => lhs; whnf
      refine ldHL hr3 hk3 ?_
      conv => lhs; whnf
      refine goK hD plan7x55 ord7x55 fun KK hKK => ?_
      conv => lhs; whnf
      refine idxH (HN.w.mono p3) rfl hk3 fun id4 e4 hr4 => ?_
      conv => lhs; whnf
      refine ldHId hr4 hk3 ?_
      conv => lhs; whnf
      refine idxH (HN.w.mono p3) rfl hk3 fun id5 e5 hr5 => ?_
      conv => lhs; whnf
      refine ldHL hr5 hk3 ?_
      conv => lhs; whnf
      refine lhas_spec (N := 400) hD (by omega) (by omega) (fun M h1 h2 => Nat.le_trans (okN.bound M h1 h2) (by omega)) (HN.lk.mono p3) fun aH LH σH pH sH mH rH => ?_
      have eLH : LH = (W[k]).L := okN.has (List.getElem_mem hk3) sH mH
      have hLH : LH.length ≤ 400 := by rw [eLH]; omega
      conv => lhs; whnf
      refine and_true (all_cons ?_ (all_skip rfl rfl)) ?_
      · conv => lhs; whnf
        refine ldHL (prefix_get pH hr5) hk3 ?_
        exact same_sl _ _
      conv => lhs; whnf
      refine keys_spec hD (by omega) (by omega) rH fun oK aK2 σK pK wK => ?_
      conv => lhs; whnf
      refine and_true (all_cons ?_ (all_skip rfl rfl)) ?_
      · conv => lhs; whnf
        refine ldHL (prefix_get (pH.trans pK) hr5) hk3 ?_
        exact same_sl _ _
      conv => lhs; whnf
      refine same_spec hD (by omega) (by omega) wK.rw ((HN.rows _ (List.getElem_mem hk3)).1.mono (p3.trans (pH.trans pK))) eLH ?_
      conv => lhs; whnf
      subst hKK
      conv => lhs; whnf
      refine next3 (r3 - 1) _ _ (by omega) ⟨_, _, k + 1, inc_i64 (by omega), by rw [wrap_i64 (by omega) (by omega), hsum3]; omega, by omega, p3.trans (pH.trans pK), rfl⟩
    · conv => lhs; whnf
      refine idxH H1.w rfl hj fun id1 e1 hr1 => ?_
      conv => lhs; whnf
      refine ldHL hr1 hj ?_
      conv => lhs; whnf
      refine goK hD plan7x20 ord7x20 fun KK hKK => ?_
      conv => lhs; whnf
      refine slHT H1.w.rw (Nat.le_of_lt hj) fun a1 r1 => ?_
      conv => lhs; whnf
      refine slHD H1.w.rw (inc_i64 (by omega)) hj fun a2 r2 => ?_
      have htl : (W.take j).length = j := by rw [List.length_take]; omega
      conv => lhs; whnf
      refine appH (l := []) List.prefix_rfl (OwnS.nil _ _ _) rfl r1 htl (by rw [List.nil_append]; omega) fun o3 a3 σ3 p3 _ _ _ w3 => ?_
      rw [List.nil_append] at w3 ⊢
      conv => lhs; whnf
      refine appH p3 w3 rfl (r2.mono p3) (by rw [List.length_drop]) (by rw [List.length_append, List.length_drop]; omega) fun o4 a4 σ4 p4 _ _ _ w4 => ?_
      have H4 : HasAt σ1 σ4 B m f o4 a4 (W.take j ++ W.drop (j + 1)) := ⟨H1.lk.mono p4, w4.low fr2.len, fun x hx => ?_⟩
      rotate_left
      · have hxW := ((mem_erase ok.ids hj).1 hx).1
        refine ⟨(H1.rows x hxW).1.mono p4, fun j' off z' e => ?_⟩
        rintro rfl
        have h1 := rw_lt (H1.rows x hxW).1 e
        have h2 := w4.2.1
        omega
      have hWN : (W.take j ++ W.drop (j + 1)).length ≤ i + 1 := by rw [List.length_append, List.length_take, List.length_drop]; omega
      have okF := ok.free hj
      rw [hje] at okF
      have frF := fr2.trans (Frm.pre (m := m) p4)
      replace T7 := prefix_get p4 T7
      have hLj : W[j].L.length ≤ 400 := by
        have := ok.bound W[j].L (strict_nodup (ok.str _ (List.getElem_mem hj))) fun k hk => by
          rw [(ok.own k W[j].id).2 ⟨_, List.getElem_mem hj, rfl, hk⟩]
          nofun
        omega
      conv => lhs; whnf
      subst hKK
      conv => lhs; whnf
      refine ldLId T7 ?_
      conv => lhs; whnf
      refine lfree_spec (N := 400) hD (by omega) (by omega) (fun M h1 h2 => Nat.le_trans (ok.bound M h1 h2) (by omega)) H4.lk fun L σ5 F5 hL hmL lk5 => ?_
      obtain rfl : L = W[j].L := ok.has (List.getElem_mem hj) hL (by rw [hje]; exact hmL)
      have frN := frF.trans F5
      have HN := H4.frm F5 lk5
      have okN := okF.le (show 10 * i ≤ 10 * (i + 1) by omega)
      generalize (fun k => if f k = some v.id then none else f k) = f2 at HN okN
      clear H1 H4 lk5 F5 hmL okF frF
      conv => lhs; whnf
      rw [show (!((W[j].L.length : Int) == (W[j].L.length : Int))) = false by simp]
      generalize W.take j ++ W.drop (j + 1) = W2 at HN okN hWN ⊢
      conv => lhs; whnf
      conv => lhs; whnf
      have hnum3 := okN.num
      refine loop_rule (m := 6291569) (fun r3 fr3 ρ3 => ∃ (z y3 : Int) (k : Nat), z = (k : Int) ∧ y3 = (((W2.take k).map fun x => x.L.length).sum : Nat) ∧ k + r3 = W2.length ∧ σ5 <+: ρ3 ∧ fr3 = [.sl s l.length, .bad, .bad, .bad, .ptr (some ⟨B, 0, 0, 1⟩), .sl a4 W2.length, .int .i64 (i : Int), .bad, .bad, .bad, .bad, .bad, .bad, .bad, .bad, .bad, .bad, .bad, .bad, .bad, .bad, .int .i64 y3, .int .i64 z, .bad, .bad, .bad, .bad, .bad, .bad, .bad, .bad, .bad, .bad, .bad, .bad, .bad, .bad, .bad, .bad, .bad, .bad, .bad, .bad, .bad, .bad, .bad, .bad, .bad, .bad, .bad, .bad, .bad, .bad, .bad, .bad, .bad, .bad, .bad, .bad, .bad, .bad, .bad, .bad, .bad, .bad, .bad, .bad, .bad, .bad, .bad, .bad, .bad, .bad, .bad, .bad, .bad, .bad, .bad, .bad, .bad, .bad, .bad, .bad, .bad, .bad, .bad, .bad, .bad, .bad, .bad, .bad, .bad, .bad, .bad, .bad, .bad, .bad, .bad, .bad, .bad, .bad, .bad, .bad, .bad, .bad, .bad, .bad, .bad, .bad, .bad, .bad, .bad, .bad, .bad, .bad, .bad, .bad, .bad, .bad, .bad, .bad, .bad, .bad, .bad, .bad, .bad, .bad, .bad, .bad, .bad, .bad, .bad, .bad, .bad, .bad, .bad, .bad, .bad, .bad, .bad, .bad, .bad, .bad, .bad, .bad, .bad, .bad, .bad, .bad, .bad, .bad, .bad, .bad, .bad, .bad, .bad, .bad, .bad, .bad, .bad, .bad, .bad, .bad, .bad, .bad, .bad, .bad, .bad, .bad, .bad, .bad, .bad, .bad, .bad, .bad, .bad, .bad, .bad, .bad, .bad, .bad, .bad, .bad, .bad, .bad, .bad, .bad, .bad, .bad, .bad, .bad, .bad, .bad, .bad, .bad, .bad, .bad, .bad, .bad, .bad, .bad, .bad]) ?_ _ W2.length _ _ (by omega) ⟨_, _, 0, rfl, rfl, by omega, List.prefix_rfl, rfl⟩
      rintro r3 fr3 ρ3 C3 ⟨z, y3, k, rfl, rfl, hq3, p3, rfl⟩ next3 fin3
      conv => lhs; whnf
      by_cases hk3 : k < W2.length
      case neg =>
        rw [show decide ((k : Int) < (W2.length : Int)) = false from decide_eq_false (by omega)]
        rw [List.take_of_length_le (by omega)]
        conv => lhs; whnf
        refine fin3 _ _ _ nofun ?_
        conv => lhs; whnf
        refine llen_spec (by omega) (HN.lk.mono p3) fun M hM hmM => ?_
        rw [okN.all M hM hmM]
        conv => lhs; whnf
        rw [show (!((((W2.map fun x => x.L.length).sum : Nat) : Int) == (((W2.map fun x => x.L.length).sum : Nat) : Int))) = false by simp]
        conv => lhs; whnf
        refine next (r - 1) _ _ (by omega) ⟨_, i + 1, f2, o4, a4, W2, inc_i64 (by omega), by omega, frN.trans (Frm.pre p3), HN.mono p3, okN, hWN, rfl⟩
      rw [show decide ((k : Int) < (W2.length : Int)) = true from decide_eq_true (by omega)]
      have hsum3 : ((W2.take (k + 1)).map fun x => x.L.length).sum = ((W2.take k).map fun x => x.L.length).sum + (W2[k]).L.length := by
        rw [List.take_succ_eq_append_getElem hk3, List.map_append, List.sum_append]
        simp
      have hle3 : ((W2.take (k + 1)).map fun x => x.L.length).sum ≤ (W2.map fun x => x.L.length).sum := by
        conv => rhs; rw [← List.take_append_drop (k + 1) W2, List.map_append, List.sum_append]
        omega
      conv => lhs; whnf
      refine idxH (HN.w.mono p3) rfl hk3 fun id3 e3 hr3 => ?_
      conv => lhs; whnf
      refine ldHL hr3 hk3 ?_
      conv => lhs; whnf
      refine goK hD plan7x55 ord7x55 fun KK hKK => ?_
      conv => lhs; whnf
      refine idxH (HN.w.mono p3) rfl hk3 fun id4 e4 hr4 => ?_
      conv => lhs; whnf
      refine ldHId hr4 hk3 ?_
      conv => lhs; whnf
      refine idxH (HN.w.mono p3) rfl hk3 fun id5 e5 hr5 => ?_
      conv => lhs; whnf
      refine ldHL hr5 hk3 ?_
      conv => lhs; whnf
      refine lhas_spec (N := 400) hD (by omega) (by omega) (fun M h1 h2 => Nat.le_trans (okN.bound M h1 h2) (by omega)) (HN.lk.mono p3) fun aH LH σH pH sH mH rH => ?_
      have eLH : LH = (W2[k]).L := okN.has (List.getElem_mem hk3) sH mH
      have hLH : LH.length ≤ 400 := by rw [eLH]; omega
      conv => lhs; whnf
      refine and_true (all_cons ?_ (all_skip rfl rfl)) ?_
      · conv => lhs; whnf
        refine ldHL (prefix_get pH hr5) hk3 ?_
        exact same_sl _ _
      conv => lhs; whnf
      refine keys_spec hD (by omega) (by omega) rH fun oK aK2 σK pK wK => ?_
      conv => lhs; whnf
      refine and_true (all_cons ?_ (all_skip rfl rfl)) ?_
      · conv => lhs; whnf
        refine ldHL (prefix_get (pH.trans pK) hr5) hk3 ?_
        exact same_sl _ _
      conv => lhs; whnf
      refine same_spec hD (by omega) (by omega) wK.rw ((HN.rows _ (List.getElem_mem hk3)).1.mono (p3.trans (pH.trans pK))) eLH ?_
      conv => lhs; whnf
      subst hKK
      conv => lhs; whnf
      refine next3 (r3 - 1) _ _ (by omega) ⟨_, _, k + 1, inc_i64 (by omega), by rw [wrap_i64 (by omega) (by omega), hsum3]; omega, by omega, p3.trans (pH.trans pK), rfl⟩
  rw [show (v.kind == 1) = false from beq_eq_false_iff_ne.2 hk1]
  have ho2 : ∀ q ∈ v.ops.take 10, OkV q := fun q h => (vo q (List.mem_of_mem_take h)).ok
  have hl2 : (v.ops.take 10).length ≤ 10 := by rw [List.length_take]; omega
  conv => lhs; whnf
  refine ldF Tryz.underlying24 rfl rfl T7 rfl ?_
  conv => lhs; whnf
  refine ops_spec (by omega) vr fun oo ao σ2 p2 ow => ?_
  conv => lhs; whnf
  refine lockOf_spec hD (by omega) (by omega) ow.rw ho2 fun aK σ3 p3 rK gK => ?_
  have hKl : (srtV (keysOf (v.ops.take 10) ho2)).length ≤ 10 := Nat.le_trans (srtV_len _) (by rw [keysOf_len]; exact hl2)
  have hKs := srtV_strict (keysOf (v.ops.take 10) ho2)
  conv => lhs; whnf
  refine keys_spec hD (by omega) (by omega) rK fun oM aM σ4 p4 wM => ?_
  have p14 := p2.trans (p3.trans p4)
  conv => lhs; whnf
  refine ldF Tryz.underlying24 rfl rfl (prefix_get p14 T7) rfl ?_
  conv => lhs; whnf
  refine ops_spec (by omega) (vr.mono p14) fun oo ao σ5 p5 ow => ?_
  conv => lhs; whnf
  refine rkeys_spec hD hT (by omega) (by omega) ow.rw ho2 fun aR σ6 p6 rR => ?_
  have p16 := p14.trans (p5.trans p6)
  have rM := wM.rw.mono (p5.trans p6)
  replace rK := rK.mono (p4.trans (p5.trans p6))
  conv => lhs; whnf
  refine same_spec hD (by omega) (by omega) rM rR rfl ?_
  have gM : ∀ j off z, aM = .at j off z → o ≠ some j := fun j off z e e2 => by
    have h1 := own_ge wM e
    subst e2
    have h2 := H1.w.lt
    have h3 := prefix_len (p2.trans p3)
    omega
  have H6 := H1.mono p16
  replace T7 := prefix_get p16 T7
  have fr6 := fr2.trans (Frm.pre (m := m) p16)
  generalize srtV (keysOf (v.ops.take 10) ho2) = ks at rK rM hKl hKs ⊢
  clear ow gK wM rR H1 fr2 p14 p16 p2 p3 p4 p5 p6 vr
  conv => lhs; whnf
  refine loop_rule (m := 31217) (fun r4 fr4 ρ4 => ∃ (z : Int) (b : Bool) (k : Nat), z = (k : Int) ∧ k + r4 = W.length ∧ σ6 <+: ρ4 ∧ (b = true ↔ FreeTo W ks y k) ∧
    fr4 = [.sl s l.length, .bad, .bad, .bad, .ptr (some ⟨B, 0, 0, 1⟩), .sl a W.length, .int .i64 (i : Int), .ptr (some ⟨τ.length, 0, 0, 4⟩), .int .i64 y, .bad, .bad, .sl aK ks.length, .sl aM ks.length, .bool b, .int .i64 z, .bad, .bad, .bad, .bad, .bad, .bad, .bad, .bad, .bad, .bad, .bad, .bad, .bad, .bad, .bad, .bad, .bad, .bad, .bad, .bad, .bad, .bad, .bad, .bad, .bad, .bad, .bad, .bad, .bad, .bad, .bad, .bad, .bad, .bad, .bad, .bad, .bad, .bad, .bad, .bad, .bad, .bad, .bad, .bad, .bad, .bad, .bad, .bad, .bad, .bad, .bad, .bad, .bad, .bad, .bad, .bad, .bad, .bad, .bad, .bad, .bad, .bad, .bad, .bad, .bad, .bad, .bad, .bad, .bad, .bad, .bad, .bad, .bad, .bad, .bad, .bad, .bad, .bad, .bad, .bad, .bad, .bad, .bad, .bad, .bad, .bad, .bad, .bad, .bad, .bad, .bad, .bad, .bad, .bad, .bad, .bad, .bad, .bad, .bad, .bad, .bad, .bad, .bad, .bad, .bad, .bad, .bad, .bad, .bad, .bad, .bad, .bad, .bad, .bad, .bad, .bad, .bad, .bad, .bad, .bad, .bad, .bad, .bad, .bad, .bad, .bad, .bad, .bad, .bad, .bad, .bad, .bad, .bad, .bad, .bad, .bad, .bad, .bad, .bad, .bad, .bad, .bad, .bad, .bad, .bad, .bad, .bad, .bad, .bad, .bad, .bad, .bad, .bad, .bad, .bad, .bad, .bad, .bad, .bad, .bad, .bad, .bad, .bad, .bad, .bad, .bad, .bad, .bad, .bad, .bad, .bad, .bad, .bad, .bad, .bad, .bad, .bad, .bad, .bad, .bad, .bad, .bad, .bad, .bad, .bad, .bad, .bad]) ?_ _ W.length _ _ (by omega)
    ⟨_, _, 0, rfl, by omega, List.prefix_rfl, ⟨fun _ k' _ h => absurd h (Nat.not_lt_zero _), fun _ => rfl⟩, rfl⟩
  rintro r4 fr4 ρ4 C4 ⟨z, b, k, rfl, hq4, q4, hb, rfl⟩ next4 fin4
  conv => lhs; whnf
  by_cases hk : k < W.length
  case pos =>
    rw [show decide ((k : Int) < (W.length : Int)) = true from decide_eq_true (by omega)]
    have rWk := fun ρ (q : σ6 <+: ρ) => (H6.rows _ (List.getElem_mem hk)).1.mono q
    have hLk : W[k].L.length ≤ 400 := by
      have := ok.bound W[k].L (strict_nodup (ok.str _ (List.getElem_mem hk))) fun k' hk' => by
        rw [(ok.own k' W[k].id).2 ⟨_, List.getElem_mem hk, rfl, hk'⟩]
        nofun
      omega
    conv => lhs; whnf
    refine idxH (H6.w.mono q4) rfl hk fun id1 e1 hr1 => ?_
    conv => lhs; whnf
    refine ldHL hr1 hk ?_
    clear hr1 e1
    conv => lhs; whnf
    refine loop_rule (m := 283953734451123385935261518035441) (fun r5 fr5 ρ5 => ∃ (z : Int) (b : Bool) (e : Nat), z = (e : Int) ∧ e + r5 = W[k].L.length ∧ σ6 <+: ρ5 ∧ (b = true ↔ FreeTo W ks y k ∧ ((k : Int) ≠ y → ∀ x ∈ W[k].L.take e, ∀ q ∈ ks, meetV x.1 q.1 = false)) ∧
      fr5 = [.sl s l.length, .bad, .bad, .bad, .ptr (some ⟨B, 0, 0, 1⟩), .sl a W.length, .int .i64 (i : Int), .ptr (some ⟨τ.length, 0, 0, 4⟩), .int .i64 y, .bad, .bad, .sl aK ks.length, .sl aM ks.length, .bool b, .int .i64 (k : Int), .bad, .bad, .bad, .bad, .bad, .bad, .bad, .bad, .bad, .bad, .bad, .bad, .bad, .bad, .bad, .bad, .bad, .bad, .bad, .bad, .bad, .bad, .bad, .bad, .bad, .bad, .bad, .bad, .bad, .bad, .bad, .bad, .bad, .bad, .bad, .bad, .bad, .bad, .bad, .bad, .bad, .bad, .bad, .bad, .bad, .bad, .bad, .bad, .bad, .bad, .bad, .bad, .bad, .bad, .bad, .bad, .bad, .bad, .bad, .bad, .bad, .bad, .bad, .bad, .bad, .bad, .bad, .bad, .bad, .bad, .bad, .bad, .bad, .bad, .bad, .bad, .bad, .bad, .bad, .bad, .bad, .bad, .bad, .bad, .bad, .bad, .bad, .bad, .bad, .bad, .sl W[k].a W[k].L.length, .int .i64 W[k].L.length, .int .i64 z, .bad, .bad, .bad, .bad, .bad, .bad, .bad, .bad, .bad, .bad, .bad, .bad, .bad, .bad, .bad, .bad, .bad, .bad, .bad, .bad, .bad, .bad, .bad, .bad, .bad, .bad, .bad, .bad, .bad, .bad, .bad, .bad, .bad, .bad, .bad, .bad, .bad, .bad, .bad, .bad, .bad, .bad, .bad, .bad, .bad, .bad, .bad, .bad, .bad, .bad, .bad, .bad, .bad, .bad, .bad, .bad, .bad, .bad, .bad, .bad, .bad, .bad, .bad, .bad, .bad, .bad, .bad, .bad, .bad, .bad, .bad, .bad, .bad, .bad, .bad, .bad, .bad, .bad, .bad, .bad, .bad, .bad, .bad, .bad, .bad, .bad, .bad, .bad, .bad, .bad, .bad, .bad, .bad, .bad]) ?_ _ W[k].L.length _ _ (by omega)
      ⟨_, _, 0, rfl, by omega, q4, ⟨fun h => ⟨hb.1 h, fun _ x h => by simp at h⟩, fun h => hb.2 h.1⟩, rfl⟩
    clear hb
    rintro r5 fr5 ρ5 C5 ⟨z, b, e, rfl, hq5, q5, hb, rfl⟩ next5 fin5
    conv => lhs; whnf
    by_cases he : e < W[k].L.length
    case neg =>
      rw [show decide ((e : Int) < (W[k].L.length : Int)) = false from decide_eq_false (by omega)]
      rw [List.take_of_length_le (by omega)] at hb
      conv => lhs; whnf
      refine fin5 _ _ _ nofun ?_
      conv => lhs; whnf
      refine next4 (r4 - 1) _ _ (by omega) ⟨_, b, k + 1, inc_i64 (by omega), by omega, q5, hb.trans ⟨fun h k' h' hlt hne => ?_, fun h => ⟨fun k' h' hlt => h k' h' (by omega), h k hk (by omega)⟩⟩, rfl⟩
      by_cases hkk : k' = k
      · subst hkk; exact h.2 hne
      · exact h.1 k' h' (by omega) hne
    rw [show decide ((e : Int) < (W[k].L.length : Int)) = true from decide_eq_true (by omega)]
    conv => lhs; whnf
    refine idxRV (rWk _ q5) rfl he fun pe hpe => ?_
    conv => lhs; whnf
    refine ldRv hpe ?_
    clear hpe
    conv => lhs; whnf
    refine storeRv (x := W[k].L[e]) (get_new _ _) ?_
    rw [set_new]
    have PX := List.prefix_append ρ5 [AO.cells (avK W[k].L[e]) 3 .own]
    have TX := get_new ρ5 (AO.cells (avK W[k].L[e]) 3 .own)
    conv => lhs; whnf
    refine loop_rule (m := 18456992739323020085791998670371313) (fun r6 fr6 ρ6 => ∃ (z : Int) (b : Bool) (g : Nat), z = (g : Int) ∧ g + r6 = ks.length ∧ (ρ5 ++ [AO.cells (avK W[k].L[e]) 3 .own]) <+: ρ6 ∧ (b = true ↔ (FreeTo W ks y k ∧ ((k : Int) ≠ y → ∀ x ∈ W[k].L.take e, ∀ q ∈ ks, meetV x.1 q.1 = false)) ∧ ((k : Int) ≠ y → ∀ q ∈ ks.take g, meetV W[k].L[e].1 q.1 = false)) ∧
      fr6 = [.sl s l.length, .bad, .bad, .bad, .ptr (some ⟨B, 0, 0, 1⟩), .sl a W.length, .int .i64 (i : Int), .ptr (some ⟨τ.length, 0, 0, 4⟩), .int .i64 y, .bad, .bad, .sl aK ks.length, .sl aM ks.length, .bool b, .int .i64 (k : Int), .bad, .ptr (some ⟨ρ5.length, 0, 0, 3⟩), .bad, .bad, .bad, .bad, .bad, .bad, .bad, .bad, .bad, .bad, .bad, .bad, .bad, .bad, .bad, .bad, .bad, .bad, .bad, .bad, .bad, .bad, .bad, .bad, .bad, .bad, .bad, .bad, .bad, .bad, .bad, .bad, .bad, .bad, .bad, .bad, .bad, .bad, .bad, .bad, .bad, .bad, .bad, .bad, .bad, .bad, .bad, .bad, .bad, .bad, .bad, .bad, .bad, .bad, .bad, .bad, .bad, .bad, .bad, .bad, .bad, .bad, .bad, .bad, .bad, .bad, .bad, .bad, .bad, .bad, .bad, .bad, .bad, .bad, .bad, .bad, .bad, .bad, .bad, .bad, .bad, .bad, .bad, .bad, .bad, .bad, .bad, .bad, .sl W[k].a W[k].L.length, .int .i64 W[k].L.length, .int .i64 (e : Int), .bad, .bad, .bad, .sl aM ks.length, .int .i64 ks.length, .int .i64 z, .bad, .bad, .bad, .bad, .bad, .bad, .bad, .bad, .bad, .bad, .bad, .bad, .bad, .bad, .bad, .bad, .bad, .bad, .bad, .bad, .bad, .bad, .bad, .bad, .bad, .bad, .bad, .bad, .bad, .bad, .bad, .bad, .bad, .bad, .bad, .bad, .bad, .bad, .bad, .bad, .bad, .bad, .bad, .bad, .bad, .bad, .bad, .bad, .bad, .bad, .bad, .bad, .bad, .bad, .bad, .bad, .bad, .bad, .bad, .bad, .bad, .bad, .bad, .bad, .bad, .bad, .bad, .bad, .bad, .bad, .bad, .bad, .bad, .bad, .bad, .bad, .bad, .bad, .bad, .bad, .bad, .bad, .bad, .bad, .bad, .bad, .bad, .bad]) ?_ _ ks.length _ _ (by omega)
      ⟨_, _, 0, rfl, by omega, List.prefix_rfl, ⟨fun h => ⟨hb.1 h, fun _ x h => by simp at h⟩, fun h => hb.2 h.1⟩, rfl⟩
    clear hb
    rintro r6 fr6' ρ6 C6 ⟨z, b, g, rfl, hq6, q6, hb, rfl⟩ next6 fin6
    conv => lhs; whnf
    by_cases hg : g < ks.length
    case neg =>
      rw [show decide ((g : Int) < (ks.length : Int)) = false from decide_eq_false (by omega)]
      rw [List.take_of_length_le (i := g) (l := ks) (by omega)] at hb
      conv => lhs; whnf
      refine fin6 _ _ _ nofun ?_
      conv => lhs; whnf
      refine next5 (r5 - 1) _ _ (by omega) ⟨_, b, e + 1, inc_i64 (by omega), by omega, q5.trans (PX.trans q6), hb.trans ⟨fun h => ⟨h.1.1, fun hne x hx => ?_⟩, fun h => ⟨⟨h.1, fun hne x hx => h.2 hne x ?_⟩, fun hne => h.2 hne _ ?_⟩⟩, rfl⟩
      · rw [List.take_succ_eq_append_getElem he] at hx
        rcases List.mem_append.1 hx with hx | hx
        · exact h.1.2 hne x hx
        · rw [List.mem_singleton.1 hx]; exact h.2 hne
      · rw [List.take_succ_eq_append_getElem he]; exact List.mem_append_left _ hx
      · rw [List.take_succ_eq_append_getElem he]; exact List.mem_append_right _ (List.mem_singleton_self _)
    rw [show decide ((g : Int) < (ks.length : Int)) = true from decide_eq_true (by omega)]
    have q56 := q5.trans (PX.trans q6)
    have more : ∀ b', (b' = true ↔ b = true ∧ ((k : Int) ≠ y → meetV W[k].L[e].1 ks[g].1 = false)) → (b' = true ↔ (FreeTo W ks y k ∧ ((k : Int) ≠ y → ∀ x ∈ W[k].L.take e, ∀ q ∈ ks, meetV x.1 q.1 = false)) ∧ ((k : Int) ≠ y → ∀ q ∈ ks.take (g + 1), meetV W[k].L[e].1 q.1 = false)) := fun b' h => by
      rw [h, hb]
      constructor
      · rintro ⟨⟨h1, h2⟩, h3⟩
        refine ⟨h1, fun hne q hq => ?_⟩
        rw [List.take_succ_eq_append_getElem hg] at hq
        rcases List.mem_append.1 hq with hq | hq
        · exact h2 hne q hq
        · rw [List.mem_singleton.1 hq]; exact h3 hne
      · rintro ⟨h1, h2⟩
        refine ⟨⟨h1, fun hne q hq => h2 hne q ?_⟩, fun hne => h2 hne _ ?_⟩
        · rw [List.take_succ_eq_append_getElem hg]; exact List.mem_append_left _ hq
        · rw [List.take_succ_eq_append_getElem hg]; exact List.mem_append_right _ (List.mem_singleton_self _)
    clear hb
    conv => lhs; whnf
    refine idxRV (rM.mono q56) rfl hg fun pe hpe => ?_
    conv => lhs; whnf
    refine ldRv hpe ?_
    clear hpe
    conv => lhs; whnf
    refine storeRv (x := ks[g]) (get_new _ _) ?_
    rw [set_new]
    have PY := List.prefix_append ρ6 [AO.cells (avK ks[g]) 3 .own]
    have TY := get_new ρ6 (AO.cells (avK ks[g]) 3 .own)
    have TX6 := prefix_get (q6.trans PY) TX
    cases b with
    | false =>
      replace more := more false (by simp)
      conv => lhs; whnf
      refine next6 (r6 - 1) _ _ (by omega) ⟨_, _, g + 1, inc_i64 (by omega), by omega, q6.trans PY, more, rfl⟩
    | true =>
      conv => lhs; whnf
      by_cases hky : (k : Int) = y
      · replace more := more true (by simp [hky])
        rw [show ((k : Int) == y) = true from beq_iff_eq.2 hky]
        conv => lhs; whnf
        refine next6 (r6 - 1) _ _ (by omega) ⟨_, _, g + 1, inc_i64 (by omega), by omega, q6.trans PY, more, rfl⟩
      rw [show ((k : Int) == y) = false from beq_eq_false_iff_ne.2 hky]
      conv => lhs; whnf
      refine ldRv1 TX6 ?_
      conv => lhs; whnf
      refine ldRv1 TY ?_
      conv => lhs; whnf
      refine rmeet_spec (by omega) fun σm pm => ?_
      cases hmm : meetV W[k].L[e].1 ks[g].1 with
      | true =>
        replace more := more false (by simp [hky, hmm])
        conv => lhs; whnf
        refine next6 (r6 - 1) _ _ (by omega) ⟨_, _, g + 1, inc_i64 (by omega), by omega, q6.trans (PY.trans pm), more, rfl⟩
      | false =>
        replace more := more true (by simp [hmm])
        conv => lhs; whnf
        refine next6 (r6 - 1) _ _ (by omega) ⟨_, _, g + 1, inc_i64 (by omega), by omega, q6.trans (PY.trans pm), more, rfl⟩
  rw [show decide ((k : Int) < (W.length : Int)) = false from decide_eq_false (by omega)]
  obtain rfl : k = W.length := by omega
  rw [free_iff ok hy] at hb
  replace H6 := H6.mono q4
  replace T7 := prefix_get q4 T7
  replace rK := rK.mono q4
  replace rM := rM.mono q4
  replace fr6 := fr6.trans (Frm.pre (m := m) q4)
  clear hk q4 hq4
  conv => lhs; whnf
  refine fin4 _ _ _ nofun ?_
  clear next4 fin4
  conv => lhs; whnf
  refine ldLId T7 ?_
  conv => lhs; whnf
  refine take_spec hD (fun M h1 h2 => by have := ok.bound M h1 h2; omega) (by omega) (by omega) H6.lk rK (fun hmeet σ7 p7 => ?_) fun hno σ7 F7 lk7 => ?_
  · obtain rfl : b = false := by
      cases b with
      | false => rfl
      | true =>
        obtain ⟨k', i', h1, h2, k, h3, h4⟩ := hmeet
        rw [(ok.meets.1 (hb.1 rfl)) k' i' h1 h2 k h3] at h4
        cases h4
    have HN := H6.mono p7
    have frN := fr6.trans (Frm.pre (m := m) p7)
    have okN := ok.le (show 10 * i ≤ 10 * (i + 1) by omega)
    clear H6 fr6 rK rM
    conv => lhs; whnf
    conv => lhs; whnf
    have hnum3 := okN.num
    refine loop_rule (m := 6291569) (fun r3 fr3 ρ3 => ∃ (z y3 : Int) (k : Nat), z = (k : Int) ∧ y3 = (((W.take k).map fun x => x.L.length).sum : Nat) ∧ k + r3 = W.length ∧ σ7 <+: ρ3 ∧ fr3 = [.sl s l.length, .bad, .bad, .bad, .ptr (some ⟨B, 0, 0, 1⟩), .sl a W.length, .int .i64 (i : Int), .bad, .bad, .bad, .bad, .bad, .bad, .bad, .bad, .bad, .bad, .bad, .bad, .bad, .bad, .int .i64 y3, .int .i64 z, .bad, .bad, .bad, .bad, .bad, .bad, .bad, .bad, .bad, .bad, .bad, .bad, .bad, .bad, .bad, .bad, .bad, .bad, .bad, .bad, .bad, .bad, .bad, .bad, .bad, .bad, .bad, .bad, .bad, .bad, .bad, .bad, .bad, .bad, .bad, .bad, .bad, .bad, .bad, .bad, .bad, .bad, .bad, .bad, .bad, .bad, .bad, .bad, .bad, .bad, .bad, .bad, .bad, .bad, .bad, .bad, .bad, .bad, .bad, .bad, .bad, .bad, .bad, .bad, .bad, .bad, .bad, .bad, .bad, .bad, .bad, .bad, .bad, .bad, .bad, .bad, .bad, .bad, .bad, .bad, .bad, .bad, .bad, .bad, .bad, .bad, .bad, .bad, .bad, .bad, .bad, .bad, .bad, .bad, .bad, .bad, .bad, .bad, .bad, .bad, .bad, .bad, .bad, .bad, .bad, .bad, .bad, .bad, .bad, .bad, .bad, .bad, .bad, .bad, .bad, .bad, .bad, .bad, .bad, .bad, .bad, .bad, .bad, .bad, .bad, .bad, .bad, .bad, .bad, .bad, .bad, .bad, .bad, .bad, .bad, .bad, .bad, .bad, .bad, .bad, .bad, .bad, .bad, .bad, .bad, .bad, .bad, .bad, .bad, .bad, .bad, .bad, .bad, .bad, .bad, .bad, .bad, .bad, .bad, .bad, .bad, .bad, .bad, .bad, .bad, .bad, .bad, .bad, .bad, .bad, .bad, .bad, .bad, .bad, .bad, .bad, .bad, .bad, .bad]) ?_ _ W.length _ _ (by omega) ⟨_, _, 0, rfl, rfl, by omega, List.prefix_rfl, rfl⟩
    rintro r3 fr3 ρ3 C3 ⟨z, y3, k, rfl, rfl, hq3, p3, rfl⟩ next3 fin3
    conv => lhs; whnf
    by_cases hk3 : k < W.length
    case neg =>
      rw [show decide ((k : Int) < (W.length : Int)) = false from decide_eq_false (by omega)]
      rw [List.take_of_length_le (by omega)]
      conv => lhs; whnf
      refine fin3 _ _ _ nofun ?_
      conv => lhs; whnf
      refine llen_spec (by omega) (HN.lk.mono p3) fun M hM hmM => ?_
      rw [okN.all M hM hmM]
      conv => lhs; whnf
      rw [show (!((((W.map fun x => x.L.length).sum : Nat) : Int) == (((W.map fun x => x.L.length).sum : Nat) : Int))) = false by simp]
      conv => lhs; whnf
      refine next (r - 1) _ _ (by omega) ⟨_, i + 1, f, o, a, W, inc_i64 (by omega), by omega, frN.trans (Frm.pre p3), HN.mono p3, okN, (by omega), rfl⟩
    rw [show decide ((k : Int) < (W.length : Int)) = true from decide_eq_true (by omega)]
    have hsum3 : ((W.take (k + 1)).map fun x => x.L.length).sum = ((W.take k).map fun x => x.L.length).sum + (W[k]).L.length := by
      rw [List.take_succ_eq_append_getElem hk3, List.map_append, List.sum_append]
      simp
    have hle3 : ((W.take (k + 1)).map fun x => x.L.length).sum ≤ (W.map fun x => x.L.length).sum := by
      conv => rhs; rw [← List.take_append_drop (k + 1) W, List.map_append, List.sum_append]
      omega
    conv => lhs; whnf
    refine idxH (HN.w.mono p3) rfl hk3 fun id3 e3 hr3 => ?_
    conv => lhs; whnf
    refine ldHL hr3 hk3 ?_
    conv => lhs; whnf
    refine goK hD plan7x55 ord7x55 fun KK hKK => ?_
    conv => lhs; whnf
    refine idxH (HN.w.mono p3) rfl hk3 fun id4 e4 hr4 => ?_
    conv => lhs; whnf
    refine ldHId hr4 hk3 ?_
    conv => lhs; whnf
    refine idxH (HN.w.mono p3) rfl hk3 fun id5 e5 hr5 => ?_
    conv => lhs; whnf
    refine ldHL hr5 hk3 ?_
    conv => lhs; whnf
    refine lhas_spec (N := 400) hD (by omega) (by omega) (fun M h1 h2 => Nat.le_trans (okN.bound M h1 h2) (by omega)) (HN.lk.mono p3) fun aH LH σH pH sH mH rH => ?_
    have eLH : LH = (W[k]).L := okN.has (List.getElem_mem hk3) sH mH
    have hLH : LH.length ≤ 400 := by rw [eLH]; omega
    conv => lhs; whnf
    refine and_true (all_cons ?_ (all_skip rfl rfl)) ?_
    · conv => lhs; whnf
      refine ldHL (prefix_get pH hr5) hk3 ?_
      exact same_sl _ _
    conv => lhs; whnf
    refine keys_spec hD (by omega) (by omega) rH fun oK aK2 σK pK wK => ?_
    conv => lhs; whnf
    refine and_true (all_cons ?_ (all_skip rfl rfl)) ?_
    · conv => lhs; whnf
      refine ldHL (prefix_get (pH.trans pK) hr5) hk3 ?_
      exact same_sl _ _
    conv => lhs; whnf
    refine same_spec hD (by omega) (by omega) wK.rw ((HN.rows _ (List.getElem_mem hk3)).1.mono (p3.trans (pH.trans pK))) eLH ?_
    conv => lhs; whnf
    subst hKK
    conv => lhs; whnf
    refine next3 (r3 - 1) _ _ (by omega) ⟨_, _, k + 1, inc_i64 (by omega), by rw [wrap_i64 (by omega) (by omega), hsum3]; omega, by omega, p3.trans (pH.trans pK), rfl⟩
  have hFree : Free W v.id ks := ok.meets.2 hno
  obtain rfl : b = true := hb.2 hFree
  have H7 := H6.frm F7 lk7
  replace T7 := H6.lk.m.cells F7 T7
  replace rM := H6.lk.m.rw F7 rM
  have fr7 := fr6.trans F7
  clear H6 lk7 F7 fr6 rK hb hno
  rcases hy with ⟨hy1, hno⟩ | ⟨j, hj, hy1, hje⟩
  · rw [List.take_length] at hno
    have okN := ok.add (M := 10 * (i + 1)) (a := aM) hno hKs hFree (by omega)
    conv => lhs; whnf
    rw [show decide (y < 0) = true from decide_eq_true (by omega)]
    conv => lhs; whnf
    refine ldLId T7 ?_
    conv => lhs; whnf
    have P8 := List.prefix_append σ7 [AO.cells (hvs [⟨v.id, aM, ks⟩]) 3 .own]
    have hbl : ((σ7 ++ [AO.cells (hvs [⟨v.id, aM, ks⟩]) 3 .own]).take σ1.length).length = σ1.length := by
      have := fr7.len
      rw [List.length_take, List.length_append]; omega
    refine appH (σ := σ7 ++ [AO.cells (hvs [⟨v.id, aM, ks⟩]) 3 .own]) (σ0 := (σ7 ++ [AO.cells (hvs [⟨v.id, aM, ks⟩]) 3 .own]).take σ1.length) (l := W) (ys := [⟨v.id, aM, ks⟩]) (List.take_prefix _ _) ((H7.w.mono P8).low (Nat.le_of_eq hbl)) rfl (Rw.new _ .own rfl) (m := 1) rfl (by rw [List.length_append]; show _ + 1 ≤ _; omega) fun o9 a9 σ9 _ l9 kk9 k39 w9 => ?_
    have HN := (H7.mono P8).grow hBl hml kk9 k39 (w9.low (Nat.le_of_eq hbl.symm)) fun x hx => by
      rcases List.mem_append.1 hx with hx | hx
      · exact (H7.mono P8).rows x hx
      · rw [List.mem_singleton.1 hx]
        exact ⟨rM.mono P8, gM⟩
    have frN := frm_grow (fr7.trans (Frm.pre (m := m) P8)) l9 kk9 (H7.w.mono P8)
    have hWN : (W ++ [(⟨v.id, aM, ks⟩ : HV)]).length ≤ i + 1 := by rw [List.length_append]; show _ + 1 ≤ _; omega
    generalize (fun k => if k ∈ ks then some v.id else f k) = f7 at HN okN
    clear H7 kk9 k39 w9 rM T7 ok hno
    generalize W ++ [(⟨v.id, aM, ks⟩ : HV)] = W2 at HN okN hWN ⊢
    conv => lhs; whnf
    conv => lhs; whnf
    have hnum3 := okN.num
    refine loop_rule (m := 6291569) (fun r3 fr3 ρ3 => ∃ (z y3 : Int) (k : Nat), z = (k : Int) ∧ y3 = (((W2.take k).map fun x => x.L.length).sum : Nat) ∧ k + r3 = W2.length ∧ σ9 <+: ρ3 ∧ fr3 = [.sl s l.length, .bad, .bad, .bad, .ptr (some ⟨B, 0, 0, 1⟩), .sl a9 W2.length, .int .i64 (i : Int), .bad, .bad, .bad, .bad, .bad, .bad, .bad, .bad, .bad, .bad, .bad, .bad, .bad, .bad, .int .i64 y3, .int .i64 z, .bad, .bad, .bad, .bad, .bad, .bad, .bad, .bad, .bad, .bad, .bad, .bad, .bad, .bad, .bad, .bad, .bad, .bad, .bad, .bad, .bad, .bad, .bad, .bad, .bad, .bad, .bad, .bad, .bad, .bad, .bad, .bad, .bad, .bad, .bad, .bad, .bad, .bad, .bad, .bad, .bad, .bad, .bad, .bad, .bad, .bad, .bad, .bad, .bad, .bad, .bad, .bad, .bad, .bad, .bad, .bad, .bad, .bad, .bad, .bad, .bad, .bad, .bad, .bad, .bad, .bad, .bad, .bad, .bad, .bad, .bad, .bad, .bad, .bad, .bad, .bad, .bad, .bad, .bad, .bad, .bad, .bad, .bad, .bad, .bad, .bad, .bad, .bad, .bad, .bad, .bad, .bad, .bad, .bad, .bad, .bad, .bad, .bad, .bad, .bad, .bad, .bad, .bad, .bad, .bad, .bad, .bad, .bad, .bad, .bad, .bad, .bad, .bad, .bad, .bad, .bad, .bad, .bad, .bad, .bad, .bad, .bad, .bad, .bad, .bad, .bad, .bad, .bad, .bad, .bad, .bad, .bad, .bad, .bad, .bad, .bad, .bad, .bad, .bad, .bad, .bad, .bad, .bad, .bad, .bad, .bad, .bad, .bad, .bad, .bad, .bad, .bad, .bad, .bad, .bad, .bad, .bad, .bad, .bad, .bad, .bad, .bad, .bad, .bad, .bad, .bad, .bad, .bad, .bad, .bad, .bad, .bad, .bad, .bad, .bad, .bad, .bad, .bad, .bad]) ?_ _ W2.length _ _ (by omega) ⟨_, _, 0, rfl, rfl, by omega, List.prefix_rfl, rfl⟩
    rintro r3 fr3 ρ3 C3 ⟨z, y3, k, rfl, rfl, hq3, p3, rfl⟩ next3 fin3
    conv => lhs; whnf
    by_cases hk3 : k < W2.length
    case neg =>
      rw [show decide ((k : Int) < (W2.length : Int)) = false from decide_eq_false (by omega)]
      rw [List.take_of_length_le (by omega)]
      conv => lhs; whnf
      refine fin3 _ _ _ nofun ?_
      conv => lhs; whnf
      refine llen_spec (by omega) (HN.lk.mono p3) fun M hM hmM => ?_
      rw [okN.all M hM hmM]
      conv => lhs; whnf
      rw [show (!((((W2.map fun x => x.L.length).sum : Nat) : Int) == (((W2.map fun x => x.L.length).sum : Nat) : Int))) = false by simp]
      conv => lhs; whnf
      refine next (r - 1) _ _ (by omega) ⟨_, i + 1, f7, o9, a9, W2, inc_i64 (by omega), by omega, frN.trans (Frm.pre p3), HN.mono p3, okN, hWN, rfl⟩
    rw [show decide ((k : Int) < (W2.length : Int)) = true from decide_eq_true (by omega)]
    have hsum3 : ((W2.take (k + 1)).map fun x => x.L.length).sum = ((W2.take k).map fun x => x.L.length).sum + (W2[k]).L.length := by
      rw [List.take_succ_eq_append_getElem hk3, List.map_append, List.sum_append]
      simp
    have hle3 : ((W2.take (k + 1)).map fun x => x.L.length).sum ≤ (W2.map fun x => x.L.length).sum := by
      conv => rhs; rw [← List.take_append_drop (k + 1) W2, List.map_append, List.sum_append]
      omega
    conv => lhs; whnf
    refine idxH (HN.w.mono p3) rfl hk3 fun id3 e3 hr3 => ?_
    conv => lhs; whnf
    refine ldHL hr3 hk3 ?_
    conv => lhs; whnf
    refine goK hD plan7x55 ord7x55 fun KK hKK => ?_
    conv => lhs; whnf
    refine idxH (HN.w.mono p3) rfl hk3 fun id4 e4 hr4 => ?_
    conv => lhs; whnf
    refine ldHId hr4 hk3 ?_
    conv => lhs; whnf
    refine idxH (HN.w.mono p3) rfl hk3 fun id5 e5 hr5 => ?_
    conv => lhs; whnf
    refine ldHL hr5 hk3 ?_
    conv => lhs; whnf
    refine lhas_spec (N := 400) hD (by omega) (by omega) (fun M h1 h2 => Nat.le_trans (okN.bound M h1 h2) (by omega)) (HN.lk.mono p3) fun aH LH σH pH sH mH rH => ?_
    have eLH : LH = (W2[k]).L := okN.has (List.getElem_mem hk3) sH mH
    have hLH : LH.length ≤ 400 := by rw [eLH]; omega
    conv => lhs; whnf
    refine and_true (all_cons ?_ (all_skip rfl rfl)) ?_
    · conv => lhs; whnf
      refine ldHL (prefix_get pH hr5) hk3 ?_
      exact same_sl _ _
    conv => lhs; whnf
    refine keys_spec hD (by omega) (by omega) rH fun oK aK2 σK pK wK => ?_
    conv => lhs; whnf
    refine and_true (all_cons ?_ (all_skip rfl rfl)) ?_
    · conv => lhs; whnf
      refine ldHL (prefix_get (pH.trans pK) hr5) hk3 ?_
      exact same_sl _ _
    conv => lhs; whnf
    refine same_spec hD (by omega) (by omega) wK.rw ((HN.rows _ (List.getElem_mem hk3)).1.mono (p3.trans (pH.trans pK))) eLH ?_
    conv => lhs; whnf
    subst hKK
    conv => lhs; whnf
    refine next3 (r3 - 1) _ _ (by omega) ⟨_, _, k + 1, inc_i64 (by omega), by rw [wrap_i64 (by omega) (by omega), hsum3]; omega, by omega, p3.trans (pH.trans pK), rfl⟩
  · have hS7 : W.set j ⟨v.id, W[j].a, W[j].L⟩ = W := by
      have : (⟨v.id, W[j].a, W[j].L⟩ : HV) = W[j] := by rw [← hje]
      rw [this]
      exact List.set_getElem_self hj
    have hLj : W[j].L.length ≤ 400 := by
      have := ok.bound W[j].L (strict_nodup (ok.str _ (List.getElem_mem hj))) fun k hk => by
        rw [(ok.own k W[j].id).2 ⟨_, List.getElem_mem hj, rfl, hk⟩]
        nofun
      omega
    rw [← hje] at hFree
    conv => lhs; whnf
    rw [show decide (y < 0) = false from decide_eq_false (by omega)]
    conv => lhs; whnf
    refine loop_rule (m := 19981467697883438334816003572292931909358453105) (fun r8 fr8 ρ8 => ∃ (z : Int) (e : Nat) (a' : AM.SA) (L' : List KeyB), z = (e : Int) ∧ e + r8 = ks.length ∧ Frm m σ1 ρ8 ∧ HasAt σ1 ρ8 B m (fun k => if k ∈ ks then some v.id else f k) o a (W.set j ⟨v.id, a', L'⟩) ∧ StrictK L' ∧ (∀ k, k ∈ L' ↔ k ∈ W[j].L ∨ k ∈ ks.take e) ∧ Rw ρ8 3 aM ks.length (kcs ks) ∧
      fr8 = [.sl s l.length, .bad, .bad, .bad, .ptr (some ⟨B, 0, 0, 1⟩), .sl a W.length, .int .i64 (i : Int), .bad, .int .i64 y, .bad, .bad, .bad, .bad, .bad, .bad, .bad, .bad, .bad, .bad, .bad, .bad, .bad, .bad, .bad, .bad, .bad, .bad, .bad, .bad, .bad, .bad, .bad, .bad, .bad, .bad, .bad, .bad, .bad, .bad, .bad, .bad, .bad, .bad, .bad, .bad, .bad, .bad, .bad, .bad, .bad, .bad, .bad, .bad, .bad, .bad, .bad, .bad, .bad, .bad, .bad, .bad, .bad, .bad, .bad, .bad, .bad, .bad, .bad, .bad, .bad, .bad, .bad, .bad, .bad, .bad, .bad, .bad, .bad, .bad, .bad, .bad, .bad, .bad, .bad, .bad, .bad, .bad, .bad, .bad, .bad, .bad, .bad, .bad, .bad, .bad, .bad, .bad, .bad, .bad, .bad, .bad, .bad, .bad, .bad, .bad, .bad, .bad, .bad, .bad, .bad, .bad, .bad, .bad, .bad, .bad, .bad, .bad, .bad, .bad, .bad, .bad, .bad, .bad, .bad, .bad, .bad, .bad, .bad, .bad, .bad, .bad, .bad, .bad, .bad, .bad, .bad, .bad, .bad, .bad, .bad, .bad, .bad, .bad, .bad, .bad, .bad, .bad, .bad, .bad, .bad, .bad, .sl aM ks.length, .int .i64 ks.length, .int .i64 z, .bad, .bad, .bad, .bad, .bad, .bad, .bad, .bad, .bad, .bad, .bad, .bad, .bad, .bad, .bad, .bad, .bad, .bad, .bad, .bad, .bad, .bad, .bad, .bad, .bad, .bad, .bad, .bad, .bad, .bad, .bad, .bad, .bad, .bad, .bad, .bad, .bad, .bad, .bad, .bad, .bad, .bad, .bad, .bad, .bad, .bad, .bad, .bad]) ?_ _ ks.length _ _ (by omega)
      ⟨_, 0, W[j].a, W[j].L, rfl, by omega, fr7, by rw [hS7]; exact H7, ok.str _ (List.getElem_mem hj), fun k => by simp, rM, rfl⟩
    clear H7 rM T7 fr7
    rintro r8 fr8 ρ8 C8 ⟨z, e, a', L', rfl, hq8, fr9, H8, hs8, hm8, rM8, rfl⟩ next8 fin8
    have hlW : ∀ x, (W.set j x).length = W.length := fun x => List.length_set
    conv => lhs; whnf
    by_cases he : e < ks.length
    case neg =>
      rw [show decide ((e : Int) < (ks.length : Int)) = false from decide_eq_false (by omega)]
      rw [List.take_of_length_le (i := e) (l := ks) (by omega)] at hm8
      have okN := ok.more (M := 10 * (i + 1)) hj (a := a') hs8 hm8 hFree (by omega)
      rw [hje] at okN
      have hWN : W.length = (W.set j ⟨v.id, a', L'⟩).length := (hlW _).symm
      generalize W.set j ⟨v.id, a', L'⟩ = W2 at H8 okN hWN ⊢
      generalize (fun k => if k ∈ ks then some v.id else f k) = f7 at H8 okN
      rw [hWN]
      clear rM8 hm8 hs8 ok
      conv => lhs; whnf
      refine fin8 _ _ _ nofun ?_
      clear next8 fin8
      conv => lhs; whnf
      conv => lhs; whnf
      have hnum3 := okN.num
      refine loop_rule (m := 6291569) (fun r3 fr3 ρ3 => ∃ (z y3 : Int) (k : Nat), z = (k : Int) ∧ y3 = (((W2.take k).map fun x => x.L.length).sum : Nat) ∧ k + r3 = W2.length ∧ ρ8 <+: ρ3 ∧ fr3 = [.sl s l.length, .bad, .bad, .bad, .ptr (some ⟨B, 0, 0, 1⟩), .sl a W2.length, .int .i64 (i : Int), .bad, .bad, .bad, .bad, .bad, .bad, .bad, .bad, .bad, .bad, .bad, .bad, .bad, .bad, .int .i64 y3, .int .i64 z, .bad, .bad, .bad, .bad, .bad, .bad, .bad, .bad, .bad, .bad, .bad, .bad, .bad, .bad, .bad, .bad, .bad, .bad, .bad, .bad, .bad, .bad, .bad, .bad, .bad, .bad, .bad, .bad, .bad, .bad, .bad, .bad, .bad, .bad, .bad, .bad, .bad, .bad, .bad, .bad, .bad, .bad, .bad, .bad, .bad, .bad, .bad, .bad, .bad, .bad, .bad, .bad, .bad, .bad, .bad, .bad, .bad, .bad, .bad, .bad, .bad, .bad, .bad, .bad, .bad, .bad, .bad, .bad, .bad, .bad, .bad, .bad, .bad, .bad, .bad, .bad, .bad, .bad, .bad, .bad, .bad, .bad, .bad, .bad, .bad, .bad, .bad, .bad, .bad, .bad, .bad, .bad, .bad, .bad, .bad, .bad, .bad, .bad, .bad, .bad, .bad, .bad, .bad, .bad, .bad, .bad, .bad, .bad, .bad, .bad, .bad, .bad, .bad, .bad, .bad, .bad, .bad, .bad, .bad, .bad, .bad, .bad, .bad, .bad, .bad, .bad, .bad, .bad, .bad, .bad, .bad, .bad, .bad, .bad, .bad, .bad, .bad, .bad, .bad, .bad, .bad, .bad, .bad, .bad, .bad, .bad, .bad, .bad, .bad, .bad, .bad, .bad, .bad, .bad, .bad, .bad, .bad, .bad, .bad, .bad, .bad, .bad, .bad, .bad, .bad, .bad, .bad, .bad, .bad, .bad, .bad, .bad, .bad, .bad, .bad, .bad, .bad, .bad, .bad]) ?_ _ W2.length _ _ (by omega) ⟨_, _, 0, rfl, rfl, by omega, List.prefix_rfl, rfl⟩
      rintro r3 fr3 ρ3 C3 ⟨z, y3, k, rfl, rfl, hq3, p3, rfl⟩ next3 fin3
      conv => lhs; whnf
      by_cases hk3 : k < W2.length
      case neg =>
        rw [show decide ((k : Int) < (W2.length : Int)) = false from decide_eq_false (by omega)]
        rw [List.take_of_length_le (by omega)]
        conv => lhs; whnf
        refine fin3 _ _ _ nofun ?_
        conv => lhs; whnf
        refine llen_spec (by omega) (H8.lk.mono p3) fun M hM hmM => ?_
        rw [okN.all M hM hmM]
        conv => lhs; whnf
        rw [show (!((((W2.map fun x => x.L.length).sum : Nat) : Int) == (((W2.map fun x => x.L.length).sum : Nat) : Int))) = false by simp]
        conv => lhs; whnf
        refine next (r - 1) _ _ (by omega) ⟨_, i + 1, f7, o, a, W2, inc_i64 (by omega), by omega, fr9.trans (Frm.pre p3), H8.mono p3, okN, (by omega), rfl⟩
      rw [show decide ((k : Int) < (W2.length : Int)) = true from decide_eq_true (by omega)]
      have hsum3 : ((W2.take (k + 1)).map fun x => x.L.length).sum = ((W2.take k).map fun x => x.L.length).sum + (W2[k]).L.length := by
        rw [List.take_succ_eq_append_getElem hk3, List.map_append, List.sum_append]
        simp
      have hle3 : ((W2.take (k + 1)).map fun x => x.L.length).sum ≤ (W2.map fun x => x.L.length).sum := by
        conv => rhs; rw [← List.take_append_drop (k + 1) W2, List.map_append, List.sum_append]
        omega
      conv => lhs; whnf
      refine idxH (H8.w.mono p3) rfl hk3 fun id3 e3 hr3 => ?_
      conv => lhs; whnf
      refine ldHL hr3 hk3 ?_
      conv => lhs; whnf
      refine goK hD plan7x55 ord7x55 fun KK hKK => ?_
      conv => lhs; whnf
      refine idxH (H8.w.mono p3) rfl hk3 fun id4 e4 hr4 => ?_
      conv => lhs; whnf
      refine ldHId hr4 hk3 ?_
      conv => lhs; whnf
      refine idxH (H8.w.mono p3) rfl hk3 fun id5 e5 hr5 => ?_
      conv => lhs; whnf
      refine ldHL hr5 hk3 ?_
      conv => lhs; whnf
      refine lhas_spec (N := 400) hD (by omega) (by omega) (fun M h1 h2 => Nat.le_trans (okN.bound M h1 h2) (by omega)) (H8.lk.mono p3) fun aH LH σH pH sH mH rH => ?_
      have eLH : LH = (W2[k]).L := okN.has (List.getElem_mem hk3) sH mH
      have hLH : LH.length ≤ 400 := by rw [eLH]; omega
      conv => lhs; whnf
      refine and_true (all_cons ?_ (all_skip rfl rfl)) ?_
      · conv => lhs; whnf
        refine ldHL (prefix_get pH hr5) hk3 ?_
        exact same_sl _ _
      conv => lhs; whnf
      refine keys_spec hD (by omega) (by omega) rH fun oK aK2 σK pK wK => ?_
      conv => lhs; whnf
      refine and_true (all_cons ?_ (all_skip rfl rfl)) ?_
      · conv => lhs; whnf
        refine ldHL (prefix_get (pH.trans pK) hr5) hk3 ?_
        exact same_sl _ _
      conv => lhs; whnf
      refine same_spec hD (by omega) (by omega) wK.rw ((H8.rows _ (List.getElem_mem hk3)).1.mono (p3.trans (pH.trans pK))) eLH ?_
      conv => lhs; whnf
      subst hKK
      conv => lhs; whnf
      refine next3 (r3 - 1) _ _ (by omega) ⟨_, _, k + 1, inc_i64 (by omega), by rw [wrap_i64 (by omega) (by omega), hsum3]; omega, by omega, p3.trans (pH.trans pK), rfl⟩
    rw [show decide ((e : Int) < (ks.length : Int)) = true from decide_eq_true (by omega)]
    conv => lhs; whnf
    refine idxRV rM8 rfl he fun pe hpe => ?_
    conv => lhs; whnf
    refine ldRv hpe ?_
    clear hpe
    conv => lhs; whnf
    refine storeRv (x := ks[e]) (get_new _ _) ?_
    rw [set_new]
    have PX := List.prefix_append ρ8 [AO.cells (avK ks[e]) 3 .own]
    have TX := get_new ρ8 (AO.cells (avK ks[e]) 3 .own)
    have H9 := H8.mono PX
    have hw9 := H9.w
    rw [hlW] at hw9
    have hin : (⟨v.id, a', L'⟩ : HV) ∈ W.set j ⟨v.id, a', L'⟩ := List.mem_iff_getElem.2 ⟨j, by rw [hlW]; exact hj, List.getElem_set_self _⟩
    have hL' : L'.length ≤ 420 := by
      have := nodup_sub (m := W[j].L ++ ks) (strict_nodup hs8) fun k hk => List.mem_append.2 (((hm8 k).1 hk).imp id List.mem_of_mem_take)
      rw [List.length_append] at this
      omega
    conv => lhs; whnf
    refine goK hD plan7x48 ord7x48 fun KK hKK => ?_
    conv => lhs; whnf
    refine Go.AM.St.idxS Tryz.underlying55 (fun _ => rfl) hw9 hy1 hj fun id1 e1 hr1 => ?_
    conv => lhs; whnf
    refine ldHLs hr1 hj ?_
    conv => lhs; whnf
    refine ldRv1 TX ?_
    conv => lhs; whnf
    refine lay_spec hD hT (by show L'.length + 10 ≤ _; omega) (by show L'.length ≤ _; omega) (H9.rows _ hin).1 hs8 fun a2 L2 σ10 p10 hs10 hm10 r10 g10 => ?_
    conv => lhs; whnf
    refine Go.AM.St.idxS Tryz.underlying55 (fun _ => rfl) (hw9.mono p10) hy1 hj fun id2 e2 hr2 => ?_
    conv => lhs; whnf
    refine stHL (x := ⟨v.id, a2, L2⟩) hr2 (by rw [hlW]; exact hj) (by rw [List.getElem_set_self]) rfl rfl ?_
    rw [List.set_set]
    have H11 : HasAt σ1 (σ10.set id2 (.cells (hvs (W.set j ⟨v.id, a2, L2⟩)) 3 .own)) B m (fun k => if k ∈ ks then some v.id else f k) o a (W.set j ⟨v.id, a2, L2⟩) := by
      refine (H9.mono p10).grow hBl hml (fun id _ hne => List.getElem?_set_ne fun e => hne (by rw [← e]; exact e2)) (fun id h => .inl h) ?_ fun x hx => ?_
      · have hw := (H9.w.mono p10)
        subst e2
        obtain ⟨k1, k2, k3, k4⟩ := hw
        exact ⟨k1, k2, get_set hr2 _, by rw [fm_len hv_len]⟩
      · have hx' : x ∈ (W.set j ⟨v.id, a', L'⟩).set j ⟨v.id, a2, L2⟩ := by rw [List.set_set]; exact hx
        rcases List.mem_or_eq_of_mem_set hx' with h | rfl
        · exact (H9.mono p10).rows x h
        · refine ⟨r10, fun j' off z' e e3 => ?_⟩
          rcases g10 j' off z' e with h | h
          · exact (H9.rows _ hin).2 j' off z' (h.trans e) e3
          · have := H9.w
            rw [e3] at this
            have := this.lt
            omega
    conv => lhs; whnf
    subst hKK
    conv => lhs; whnf
    refine next8 (r8 - 1) _ _ (by omega) ⟨_, e + 1, a2, L2, inc_i64 (by omega), by omega, ?_, H11, hs10, fun k => ?_, ?_, rfl⟩
    · exact frm_grow ((fr9.trans (Frm.pre (m := m) PX)).trans (Frm.pre p10)) (by rw [List.length_set]; exact Nat.le_refl _) (fun id _ hne => List.getElem?_set_ne fun e => hne (by rw [← e]; exact e2)) (H9.mono p10).w
    · rw [hm10, hm8, List.take_succ_eq_append_getElem he, List.mem_append, List.mem_singleton, or_assoc]
    · exact rw_keep (rM8.mono (PX.trans p10)) gM fun id _ hne => List.getElem?_set_ne fun e => hne (by rw [← e]; exact e2)

theorem lockAll_law (σ : H) (vs : List AV) (h : ArgsShp Tryz.prog σ 9 [52] vs) : ∃ n, acall Tryz.prog tab (drawRegion Tryz.prog) n 7 vs σ isTrue = true := by
  obtain ⟨a, us, rfl, h1, h⟩ := args_cons h
  obtain rfl := args_nil h
  obtain ⟨s, l, rfl, r1, o1⟩ := arg_locks h1
  exact ⟨20000, lockAll_run (byPlan _) (byTree _) (Nat.le_refl _) r1 o1⟩
end Go.Proofs.YtajincfelnmlhaaGreat
