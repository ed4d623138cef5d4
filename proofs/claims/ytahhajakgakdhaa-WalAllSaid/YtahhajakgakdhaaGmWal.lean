/- Records in rows: frames, few, eq. Package wal. Package wal: plain. Package wal, cut off: plain. -/
import Derived.Test.YtahhajakgakdhaaGmKeep
import Derived.Test.YtahhajakgakdhaaGmGet
import Derived.Test.YtahhajakgakdhaaGmRec
import Derived.Test.YtahhajakgakdhaaGmPlain
namespace Go.Proofs.Ytahhajakgakdhaa
set_option maxRecDepth 100000
open Go Go.AM Go.AM.St
abbrev rlE (L : List El) : List RecP := L.map (·.2.2)
theorem rlE_take {L : List El} {i : Nat} (h : i < L.length) : rlE (L.take (i + 1)) = rlE (L.take i) ++ [L[i].2.2] := by
  show (L.take (i + 1)).map _ = _
  rw [List.take_succ_eq_append_getElem h, List.map_append]
  rfl
theorem encFr_len : ∀ (l : List RecP), (∀ r ∈ l, mayR r = true) → (encFr l).length ≤ 9006 * l.length
  | [], _ => Nat.le_refl _
  | r :: l, h => by
    have h1 := putF_len (h r (by simp))
    have h2 := encFr_len l fun x hx => h x (by simp [hx])
    rw [encFr, List.length_append, List.length_cons]
    omega
def recsEq : List RecP → List RecP → Bool
  | [], [] => true
  | r :: a, s :: b => recEq r s && recsEq a b
  | _, _ => false
theorem recsEq_iff : ∀ {a b : List RecP}, recsEq a b = true ↔ a = b
  | [], [] => by simp [recsEq]
  | [], s :: b => by simp [recsEq]
  | r :: a, [] => by simp [recsEq]
  | r :: a, s :: b => by rw [recsEq, Bool.and_eq_true, recEq_iff, recsEq_iff, List.cons.injEq]
theorem recsEq_len {a b : List RecP} (h : a.length ≠ b.length) : recsEq a b = false := by
  cases hr : recsEq a b with
  | false => rfl
  | true => exact absurd (congrArg List.length (recsEq_iff.1 hr)) h
theorem recsEq_bad {a b : List RecP} {i : Nat} (ha : i < a.length) (hb : i < b.length) (h : recEq a[i] b[i] = false) : recsEq a b = false := by
  cases hr : recsEq a b with
  | false => rfl
  | true =>
    have e := recsEq_iff.1 hr
    subst e
    rw [recEq_iff.2 rfl] at h
    cases h
/-- A record that goes well. -/
structure FineE (r : RecP) : Prop where
  ok : OkR r
  may : mayR r = true
  len : (putR r).length < 400
  n : r.nums.length ≤ 50
  t : r.texts.length ≤ 50
attribute [local irreducible] IntKind.wrap Int.fdiv Int.tdiv Int.tmod BitVec.ofInt appendK sliceK indexAddrK ldK storeK seenK makeSliceK lookupK updateK deleteK mapK rangeK nextK keysF
variable {D : Drawer}
theorem frames_spec {n : Nat} {s : SA} {L : List El} (hn : L.length + 10100 ≤ n) (hl : L.length ≤ 1000) {σ : H} (hs : Rw σ 3 s L.length (recs L)) (hI : IsRs σ L) (hO : ∀ e ∈ L, OkR e.2.2) (hD : ByPlan Try.prog D) {K : AV → H → Bool}
    (h0 : (∃ e ∈ L, mayR e.2.2 = false) → ∀ σ', σ <+: σ' → K (.tup [.sl .nil 0, .bool false]) σ' = true)
    (h1 : (∀ e ∈ L, mayR e.2.2 = true) → ∀ o a σ', σ <+: σ' → Own σ σ' 1 o a (encFr (rlE L)).length (u8s (encFr (rlE L))) → K (.tup [.sl a (encFr (rlE L)).length, .bool true]) σ' = true) :
    acall Try.prog tab D n 55 [.sl s L.length] σ K = true := by
  obtain ⟨n, rfl, hn⟩ := up hn
  conv => lhs; whnf
  refine loop_rule (m := 3600) (fun q fr τ => ∃ (z : Int) (i : Nat) (o : Option Nat) (a : SA), z = (i : Int) ∧ i + q = L.length ∧ (∀ e ∈ L.take i, mayR e.2.2 = true) ∧
      fr = [.bad, .bad, .bad, .bad, .sl a (encFr (rlE (L.take i))).length, .bad, .bad, .bad, .bad, .sl s L.length, .int .i64 (L.length : Int), .int .i64 z, .bad, .bad, .bad, .bad, .bad, .bad, .bad, .bad, .bad, .bad, .bad, .bad, .bad, .bad, .bad] ∧ σ <+: τ ∧ Own σ τ 1 o a (encFr (rlE (L.take i))).length (u8s (encFr (rlE (L.take i))))) ?_ _ L.length _ _ (by omega)
      ⟨_, 0, none, .nil, rfl, by omega, by simp, rfl, List.prefix_rfl, Own.nil _ _ _⟩
  rintro q fr τ C ⟨z, i, o, a, rfl, hq, hM, rfl, hp, how⟩ next fin
  conv => lhs; whnf
  by_cases hlt : i < L.length
  · rw [show decide ((i : Int) < (L.length : Int)) = true from decide_eq_true (by omega)]
    have he := hO _ (List.getElem_mem hlt)
    have hie := hI _ (List.getElem_mem hlt)
    have hE := rlE_take hlt
    have hlen := encFr_len (rlE (L.take i)) fun r hr => by
      obtain ⟨e, h1, rfl⟩ := List.mem_map.1 hr
      exact hM e h1
    have hll : (rlE (L.take i)).length ≤ 1000 := by rw [List.length_map, List.length_take]; omega
    conv => lhs; whnf
    refine idx60 hs rfl hlt fun p hp' => ?_
    conv => lhs; whnf
    generalize hle : L[i] = e at he hie hp' hE
    refine ldE (hp'.mono hp) ?_
    conv => lhs; whnf
    refine storeS rfl (get_new _ _) rfl rfl (Nat.le_refl 3) rfl ?_
    have T := get_set (get_new τ (AO.cells [AV.int .i64 0, .sl .nil 0, .sl .nil 0] 3 .own)) (AO.cells [.int .i64 e.2.2.kind, .sl e.1 e.2.2.nums.length, .sl e.2.1 e.2.2.texts.length] 3 .own)
    have Pe := prefix_set (List.prefix_append τ [AO.cells [AV.int .i64 0, .sl .nil 0, .sl .nil 0] 3 .own]) (Nat.le_refl τ.length) (AO.cells [.int .i64 e.2.2.kind, .sl e.1 e.2.2.nums.length, .sl e.2.1 e.2.2.texts.length] 3 .own)
    have hie' := (hie.mono hp).mono Pe
    conv => lhs; whnf
    refine ldR T ?_
    conv => lhs; whnf
    refine fput_spec (by omega) hie' he hD (fun hm σ1 p1 => ?_) (fun hm o1 a1 σ1 p1 r1 => ?_)
    · conv => lhs; whnf
      refine fin _ _ _ nofun ?_
      conv => lhs; whnf
      exact h0 ⟨e, hle ▸ List.getElem_mem hlt, hm⟩ _ (hp.trans (Pe.trans p1))
    · have hpl := putF_len hm
      conv => lhs; whnf
      refine bt.app (hp.trans (Pe.trans p1)) (how.mono (Pe.trans p1)) r1.rw (encFr (rlE (L.take (i + 1)))) (by rw [hE, encFr_snoc]) (by rw [hE, encFr_snoc, List.length_append]; omega) fun o2 a2 σ2 p2 _ _ _ r2 => ?_
      conv => lhs; whnf
      refine next (q - 1) _ _ (by omega) ⟨_, i + 1, o2, a2, inc_i64 (by omega), by omega, fun x hx => ?_, rfl, p2, r2⟩
      rw [List.take_succ_eq_append_getElem hlt, List.mem_append, List.mem_singleton] at hx
      rcases hx with hx | rfl
      · exact hM x hx
      · rw [hle]; exact hm
  · rw [show decide ((i : Int) < (L.length : Int)) = false from decide_eq_false (by omega)]
    have e : L.take i = L := List.take_of_length_le (by omega)
    rw [e] at hM how
    have := h1 hM o a τ hp how
    conv => lhs; whnf
    refine fin _ _ _ nofun ?_
    conv => lhs; whnf
    rw [e]
    exact this
theorem few_spec {n : Nat} {s : SA} {L : List El} {y : Int} {m : Nat} (hy : y = (m : Int)) (hm : m ≤ 1000) (hn : L.length + 200 ≤ n) (hl : L.length ≤ 9223372036854775807) {σ : H} (hs : Rw σ 3 s L.length (recs L)) (hI : IsRs σ L) (hO : ∀ e ∈ L, OkR e.2.2) (hD : ByPlan Try.prog D) {K : AV → H → Bool}
    (hK : ∀ o a W σ', σ <+: σ' → W.length ≤ m → IsRs σ' W → (∀ e ∈ W, FineE e.2.2) → Own σ σ' 3 o a W.length (recs W) → K (.sl a W.length) σ' = true) :
    acall Try.prog tab D n 22 [.sl s L.length, .int .i64 y] σ K = true := by
  subst hy
  obtain ⟨n, rfl, hn⟩ := up hn
  conv => lhs; whnf
  refine loop_rule (m := 99) (fun q fr τ => ∃ (z : Int) (i : Nat) (o : Option Nat) (a : SA) (W : List El), z = (i : Int) ∧ i + q = L.length ∧ W.length ≤ m ∧ IsRs τ W ∧ (∀ e ∈ W, FineE e.2.2) ∧
      fr = [.sl s L.length, .int .i64 (m : Int), .bad, .bad, .bad, .sl a W.length, .int .i64 z, .bad, .bad, .bad, .bad, .bad, .bad, .bad, .bad, .bad, .bad, .bad, .bad, .bad, .bad, .bad, .bad, .bad, .bad, .bad, .bad, .bad, .bad, .bad, .bad, .bad, .bad, .bad, .bad, .bad, .bad, .bad] ∧ σ <+: τ ∧ Own σ τ 3 o a W.length (recs W)) ?_ _ L.length _ _ (by omega)
      ⟨_, 0, none, .nil, [], rfl, by omega, Nat.zero_le _, IsRs.nil _, (fun e he => by cases he), rfl, List.prefix_rfl, Own.nil _ _ _⟩
  rintro q fr τ C ⟨z, i, o, a, W, rfl, hq, hW, hIW, hFW, rfl, hp, how⟩ next fin
  conv => lhs; whnf
  by_cases hlt : ¬ i < L.length
  · rw [show decide ((i : Int) < (L.length : Int)) = false from decide_eq_false (by omega)]
    conv => lhs; whnf
    refine fin _ _ _ nofun ?_
    conv => lhs; whnf
    exact hK o a W τ hp hW hIW hFW how
  rw [show decide ((i : Int) < (L.length : Int)) = true from decide_eq_true (by omega)]
  conv => lhs; whnf
  replace hlt : i < L.length := by omega
  by_cases hr : ¬ W.length < m
  · rw [show decide ((W.length : Int) < (m : Int)) = false from decide_eq_false (by omega)]
    conv => lhs; whnf
    refine fin _ _ _ nofun ?_
    conv => lhs; whnf
    exact hK o a W τ hp hW hIW hFW how
  rw [show decide ((W.length : Int) < (m : Int)) = true from decide_eq_true (by omega)]
  have he := hO _ (List.getElem_mem hlt)
  have hie := hI _ (List.getElem_mem hlt)
  conv => lhs; whnf
  refine idx60 hs rfl hlt fun p hp' => ?_
  conv => lhs; whnf
  generalize L[i] = e at he hie hp'
  refine ldE (hp'.mono hp) ?_
  conv => lhs; whnf
  refine rec_spec (by omega) hD (hie.mono hp) fun a1 b1 τ1 p1 i1 => ?_
  have oc := he.cut
  have n1 : (cutR e.2.2).nums.length ≤ 50 := by show (e.2.2.nums.take 45).length ≤ _; rw [List.length_take]; omega
  have t1 : (cutR e.2.2).texts.length ≤ 50 := by show (e.2.2.texts.take 45).length ≤ _; rw [List.length_take]; omega
  generalize cutR e.2.2 = r at i1 oc n1 t1
  conv => lhs; whnf
  refine storeS rfl (get_new _ _) rfl rfl (Nat.le_refl 3) rfl ?_
  have T := get_set (get_new τ1 (AO.cells [AV.int .i64 0, .sl .nil 0, .sl .nil 0] 3 .own)) (AO.cells [.int .i64 r.kind, .sl a1 r.nums.length, .sl b1 r.texts.length] 3 .own)
  have Pe := prefix_set (List.prefix_append τ1 [AO.cells [AV.int .i64 0, .sl .nil 0, .sl .nil 0] 3 .own]) (Nat.le_refl τ1.length) (AO.cells [.int .i64 r.kind, .sl a1 r.nums.length, .sl b1 r.texts.length] 3 .own)
  have i2 := i1.mono Pe
  have P2 := p1.trans Pe
  conv => lhs; whnf
  refine ldR T ?_
  conv => lhs; whnf
  refine rmay_spec (by omega) t1 n1 i2 fun σ3 p3 => ?_
  have T3 := prefix_get p3 T
  have P3 := P2.trans p3
  cases hmay : mayR r with
  | false =>
    conv => lhs; whnf
    refine next (q - 1) _ _ (by omega) ⟨_, i + 1, o, a, W, inc_i64 (by omega), by omega, hW, hIW.mono P3, hFW, rfl, hp.trans P3, how.mono P3⟩
  | true =>
    conv => lhs; whnf
    refine ldR T3 ?_
    conv => lhs; whnf
    refine rrec_spec (by omega) (i2.mono p3) oc hD hmay fun o4 a4 σ4 p4 r4 => ?_
    have T4 := prefix_get p4 T3
    have P4 := P3.trans p4
    have hlen := putR_len hmay
    conv => lhs; whnf
    by_cases h4 : (putR r).length < 400
    · rw [show decide (((putR r).length : Int) < 400) = true from decide_eq_true (by omega)]
      conv => lhs; whnf
      refine ldR T4 ?_
      conv => lhs; whnf
      have hrow : Rw (σ4 ++ [AO.cells (elCells (a1, b1, r)) 3 .own]) 3 (.at σ4.length 0 3) 1 (elCells (a1, b1, r)) := Rw.new _ _ rfl
      have P5 : τ <+: σ4 ++ [AO.cells (elCells (a1, b1, r)) 3 .own] := prefix_add P4 _
      refine appendK_ext Try.underlying34 rfl rfl rfl (hp.trans P5) (o := o) (how.mono P5) hrow (N := (W ++ [(a1, b1, r)]).length) (zs := recs (W ++ [(a1, b1, r)])) (by simp) (recs_app W [(a1, b1, r)]) ?_ fun o5 a5 τ5 p5 k5 _ _ x5 w5 => ?_
      · show _ * 56 ≤ _
        rw [List.length_append, List.length_singleton]; omega
      conv => lhs; whnf
      refine next (q - 1) _ _ (by omega) ⟨_, i + 1, o5, a5, W ++ [(a1, b1, r)], inc_i64 (by omega), by omega, by rw [List.length_append, List.length_singleton]; omega, fun x hx => ?_, fun x hx => ?_, rfl, p5, w5⟩
      · rcases List.mem_append.1 hx with hx | hx
        · exact ((hIW.mono P5).ext x5) x hx
        · rw [List.mem_singleton] at hx
          subst hx
          have h1 := ((i2.mono p3).mono p4).mono (List.prefix_append _ [AO.cells (elCells (a1, b1, r)) 3 .own])
          exact ⟨Rw.ext h1.nums x5, Rw.ext h1.texts x5⟩
      · rcases List.mem_append.1 hx with hx | hx
        · exact hFW x hx
        · rw [List.mem_singleton] at hx
          subst hx
          exact ⟨oc, hmay, h4, n1, t1⟩
    · rw [show decide (((putR r).length : Int) < 400) = false from decide_eq_false (by omega)]
      conv => lhs; whnf
      refine next (q - 1) _ _ (by omega) ⟨_, i + 1, o, a, W, inc_i64 (by omega), by omega, hW, hIW.mono P4, hFW, rfl, hp.trans P4, how.mono P4⟩
theorem eqs_spec {n : Nat} {s t : SA} {X Y : List El} (hn : X.length + 100 ≤ n) (hl : X.length ≤ 1000000) {σ : H} (hs : Rw σ 3 s X.length (recs X)) (ht : Rw σ 3 t Y.length (recs Y)) (hX : IsRs σ X) (hY : IsRs σ Y) (hs50 : ∀ e ∈ X, e.2.2.nums.length ≤ 50 ∧ e.2.2.texts.length ≤ 50) (hD : ByPlan Try.prog D) {K : AV → H → Bool}
    (hK : ∀ σ', σ <+: σ' → K (.bool (recsEq (rlE X) (rlE Y))) σ' = true) : acall Try.prog tab D n 26 [.sl s X.length, .sl t Y.length] σ K = true := by
  obtain ⟨n, rfl, hn⟩ := up hn
  conv => lhs; whnf
  by_cases hxy : ¬ X.length = Y.length
  · rw [show (!((X.length : Int) == (Y.length : Int))) = true by simp; omega]
    have := hK σ List.prefix_rfl
    rw [recsEq_len (by simpa using hxy)] at this
    conv => lhs; whnf
    exact this
  replace hxy : X.length = Y.length := by omega
  rw [show (!((X.length : Int) == (Y.length : Int))) = false by simp; omega]
  conv => lhs; whnf
  refine loop_rule (m := 35) (fun q fr τ => ∃ (z : Int) (i : Nat), z = (i : Int) ∧ i + q = X.length ∧ rlE (X.take i) = rlE (Y.take i) ∧
      fr = [.sl s X.length, .sl t Y.length, .bad, .bad, .bad, .int .i64 z, .bad, .bad, .bad, .bad, .bad, .bad, .bad, .bad, .bad, .bad, .bad, .bad, .bad, .bad, .bad, .bad, .bad, .bad, .bad, .bad, .bad] ∧ σ <+: τ) ?_ _ X.length _ _ (by omega)
      ⟨_, 0, rfl, by omega, rfl, rfl, List.prefix_rfl⟩
  rintro q fr τ C ⟨z, i, rfl, hq, hE, rfl, hp⟩ next fin
  conv => lhs; whnf
  by_cases hlt : i < X.length
  · rw [show decide ((i : Int) < (X.length : Int)) = true from decide_eq_true (by omega)]
    have hlt2 : i < Y.length := by omega
    conv => lhs; whnf
    refine goK hD plan26x6 ord26x6 fun KK hKK => ?_
    conv => lhs; whnf
    refine idx60 hs rfl hlt fun p hp' => ?_
    conv => lhs; whnf
    refine ldE (hp'.mono hp) ?_
    conv => lhs; whnf
    refine idx60 ht rfl hlt2 fun p2 hp2 => ?_
    conv => lhs; whnf
    refine ldE (hp2.mono hp) ?_
    conv => lhs; whnf
    have hx := hs50 _ (List.getElem_mem hlt)
    refine req_spec (by omega) hx.1 hx.2 hD ((hX _ (List.getElem_mem hlt)).mono hp) ((hY _ (List.getElem_mem hlt2)).mono hp) fun σ3 p3 => ?_
    cases hr : recEq X[i].2.2 Y[i].2.2 with
    | true =>
      conv => lhs; whnf
      subst hKK
      conv => lhs; whnf
      refine next (q - 1) _ _ (by omega) ⟨_, i + 1, inc_i64 (by omega), by omega, ?_, rfl, hp.trans p3⟩
      rw [rlE_take hlt, rlE_take hlt2, hE, recEq_iff.1 hr]
    | false =>
      have := hK σ3 (hp.trans p3)
      rw [recsEq_bad (i := i) (by simpa using hlt) (by simpa using hlt2) (by simpa using hr)] at this
      conv => lhs; whnf
      subst hKK
      conv => lhs; whnf
      refine fin _ _ _ nofun ?_
      conv => lhs; whnf
      exact this
  · rw [show decide ((i : Int) < (X.length : Int)) = false from decide_eq_false (by omega)]
    have := hK τ hp
    rw [List.take_of_length_le (by omega), List.take_of_length_le (by omega)] at hE
    rw [recsEq_iff.2 hE] at this
    conv => lhs; whnf
    refine fin _ _ _ nofun ?_
    conv => lhs; whnf
    exact this
end Go.Proofs.Ytahhajakgakdhaa
namespace Go.Proofs.Ytahhajakgakdhaa
set_option maxRecDepth 100000
open Go Go.AM Go.AM.St
def WalAt (σ : H) (W B : Nat) (name : List Nat) (n : Nat) (dn : Bool) : Prop := σ[W]? = some (AO.cells [.ptr (some ⟨B, 0, 0, 4⟩), .str (ints name), .int .i64 (n : Int), .bool dn] 4 .own)
/-- A log over a disk. -/
structure WS (σ : H) (B m : Nat) (S : DS) (F : Nat → Prop) (W : Nat) (name : List Nat) (n : Nat) (dn : Bool) : Prop where
  d : DV σ B m S F
  w : WalAt σ W B name n dn
  f : ¬ F W
def FW (F : Nat → Prop) (W : Nat) (id : Nat) : Prop := F id ∨ id = W
theorem FW.off {F : Nat → Prop} {W id : Nat} (h1 : ¬ F id) (h2 : id ≠ W) : ¬ FW F W id := fun h => h.elim h1 h2
theorem Stp.fw {F F' : Nat → Prop} {σ σ' : H} (h : Stp F F' σ σ') (W : Nat) : Stp (FW F W) (FW F' W) σ σ' :=
  ⟨h.len, fun id hl hf => h.keep id hl fun hF => hf (.inl hF), fun id hf => hf.elim (fun h' => (h.fp id h').elim (fun h => .inl (.inl h)) .inr) fun e => .inl (.inr e), h.ext⟩
theorem WS.step {σ σ' : H} {B m : Nat} {S S' : DS} {F F' : Nat → Prop} {W : Nat} {name : List Nat} {n : Nat} {dn : Bool} (h : WS σ B m S F W name n dn) (d : DV σ' B m S' F') (s : Stp F F' σ σ') : WS σ' B m S' F' W name n dn :=
  ⟨d, (s.keep W (get_lt h.w) h.f).trans h.w, fun hF => (s.fp W hF).elim h.f fun hl => by have := get_lt h.w; omega⟩
theorem WS.mono {σ σ' : H} {B m : Nat} {S : DS} {F : Nat → Prop} {W : Nat} {name : List Nat} {n : Nat} {dn : Bool} (h : WS σ B m S F W name n dn) (p : σ <+: σ') : WS σ' B m S F W name n dn :=
  h.step (h.d.mono p) (Stp.pre p)
theorem WS.set {σ : H} {B m : Nat} {S : DS} {F : Nat → Prop} {W : Nat} {name : List Nat} {n : Nat} {dn : Bool} (h : WS σ B m S F W name n dn) (n' : Nat) (dn' : Bool) :
    WS (σ.set W (AO.cells [.ptr (some ⟨B, 0, 0, 4⟩), .str (ints name), .int .i64 (n' : Int), .bool dn'] 4 .own)) B m S F W name n' dn' ∧ Stp (FW F W) (FW F W) σ (σ.set W (AO.cells [.ptr (some ⟨B, 0, 0, 4⟩), .str (ints name), .int .i64 (n' : Int), .bool dn'] 4 .own)) := by
  have hk : ∀ j, j ≠ W → (σ.set W (AO.cells [.ptr (some ⟨B, 0, 0, 4⟩), .str (ints name), .int .i64 (n' : Int), .bool dn'] 4 .own))[j]? = σ[j]? := fun j hj => List.getElem?_set_ne (Ne.symm hj)
  exact ⟨⟨h.d.keep fun id hf => hk id fun e => h.f (e ▸ hf), get_set h.w _, h.f⟩, ⟨Nat.le_of_eq (List.length_set ..).symm, fun id _ hf => hk id fun e => hf (.inr e), fun _ h => .inl h, Ext.ne h.w nofun hk⟩⟩
def dWrites (name bs : List Nat) (S : DS) : DS × Nat := if (dApp name bs S).2 = 0 then dSync name (dApp name bs S).1 else dApp name bs S
def openA (name : List Nat) (S : DS) : DS × Nat := if (dRead name S).2 = 3 then dWrites name [] S else (S, (dRead name S).2)
def openB (name : List Nat) (S : DS) : DS × Nat := if (scanF (dRead name S).1).2 < (dRead name S).1.length then dCut name ((scanF (dRead name S).1).2 : Nat) (openA name S).1 else ((openA name S).1, 0)
def wOpen (name : List Nat) (S : DS) : DS × Nat := if (openA name S).2 = 0 then openB name S else openA name S
def wRecs (name : List Nat) (S : DS) : List RecP := (scanF (dRead name S).1).1
def renA (name : List Nat) (S : DS) : DS × Nat := dCut (name ++ [43]) 0 S
def renB (name bs : List Nat) (S : DS) : DS × Nat := if (renA name S).2 = 0 ∨ (renA name S).2 = 3 then dWrites (name ++ [43]) bs (renA name S).1 else renA name S
def dRenew (name bs : List Nat) (S : DS) : DS × Nat := if (renB name bs S).2 = 0 then dMove (name ++ [43]) name (renB name bs S).1 else renB name bs S
theorem OkS.writes {S : DS} {N k : Nat} (h : OkS S N k) {name bs : List Nat} (hb : ∀ b ∈ bs, b < 256) : OkS (dWrites name bs S).1 (N + 2) (k + bs.length) := by
  unfold dWrites
  split
  · exact (h.app hb).sync
  · exact (h.app hb).mono (by omega) (Nat.le_refl _)
theorem OkS.openA {S : DS} {N k : Nat} (h : OkS S N k) {name : List Nat} : OkS (openA name S).1 (N + 2) k := by
  unfold Proofs.Ytahhajakgakdhaa.openA
  split
  · exact h.writes (bs := []) (fun b hb => by cases hb)
  · exact h.mono (by omega) (Nat.le_refl _)
theorem OkS.open_ {S : DS} {N k : Nat} (h : OkS S N k) {name : List Nat} : OkS (wOpen name S).1 (N + 3) k := by
  unfold wOpen
  split
  · unfold openB
    split
    · exact h.openA.cut
    · exact h.openA.mono (by omega) (Nat.le_refl _)
  · exact h.openA.mono (by omega) (Nat.le_refl _)
theorem OkS.renB {S : DS} {N k : Nat} (h : OkS S N k) {name bs : List Nat} (hb : ∀ b ∈ bs, b < 256) : OkS (renB name bs S).1 (N + 3) (k + bs.length) := by
  unfold Proofs.Ytahhajakgakdhaa.renB renA
  split
  · exact (h.cut.writes hb).mono (by omega) (Nat.le_refl _)
  · exact h.cut.mono (by omega) (by omega)
theorem OkS.renew {S : DS} {N k : Nat} (h : OkS S N k) {name bs : List Nat} (hb : ∀ b ∈ bs, b < 256) : OkS (dRenew name bs S).1 (N + 4) (k + bs.length) := by
  unfold dRenew
  split
  · exact (h.renB hb).move
  · exact (h.renB hb).mono (by omega) (Nat.le_refl _)
theorem OkS.read {S : DS} {N k : Nat} (h : OkS S N k) {name : List Nat} : (dRead name S).1.length ≤ k ∧ ∀ b ∈ (dRead name S).1, b < 256 := by
  unfold dRead
  split
  · exact ⟨Nat.zero_le _, fun b hb => by cases hb⟩
  · cases hf : mFind name S.V with
    | none => exact ⟨Nat.zero_le _, fun b hb => by cases hb⟩
    | some x =>
      obtain ⟨a, b, c⟩ := h.b x (mFind_mem hf).1
      exact ⟨a, c⟩
theorem scanL_le : ∀ (m : Nat) (bs : List Nat), (scanL m bs).2 ≤ bs.length
  | 0, _ => Nat.zero_le _
  | m + 1, bs => by
    rw [scanL]
    split
    · exact Nat.zero_le _
    · have h1 := getF_le bs
      have h2 := scanL_le m (bs.drop (getF bs).2.1)
      rw [List.length_drop] at h2
      show (getF bs).2.1 + _ ≤ _
      omega
theorem neq0 {e : Nat} : (!((e : Int) == 0)) = decide (e ≠ 0) := by
  by_cases h : e = 0
  · subst h; rfl
  · rw [decide_eq_true h]
    simp [h]
theorem eq0 {e : Nat} : ((e : Int) == 0) = decide (e = 0) := by
  rw [Bool.eq_iff_iff]; simp
theorem eq3 {e : Nat} : ((e : Int) == 3) = decide (e = 3) := by
  rw [Bool.eq_iff_iff, decide_eq_true_eq, beq_iff_eq]; omega
theorem plus_ints (name : List Nat) : ints name ++ bytesL ⟨#[43]⟩ = ints (name ++ [43]) := by
  unfold ints
  rw [List.map_append]; rfl
attribute [local irreducible] IntKind.wrap Int.fdiv Int.tdiv Int.tmod BitVec.ofInt appendK sliceK indexAddrK ldK storeK seenK makeSliceK lookupK updateK deleteK mapK rangeK nextK keysF
variable {D : Drawer}
variable {B m : Nat} {S : DS} {F : Nat → Prop} {σ : H} {N k W c : Nat} {name : List Nat} {dn : Bool}
theorem told_spec {n e : Nat} (hn : 1 ≤ n) (hw : WS σ B m S F W name c dn) {K : AV → H → Bool}
    (hK : ∀ σ', WS σ' B m S F W name c (dn || decide (e ≠ 0)) → Stp (FW F W) (FW F W) σ σ' → K (.int .i64 (e : Int)) σ' = true) :
    acall Try.prog tab D n 56 [.ptr (some ⟨W, 0, 0, 4⟩), .int .i64 (e : Int)] σ K = true := by
  obtain ⟨n, rfl, hn⟩ := up hn
  conv => lhs; whnf
  refine ldF Try.underlying4 rfl rfl hw.w rfl ?_
  cases dn with
  | true =>
    conv => lhs; whnf
    refine storeK_of (v := .bool true) rfl rfl (show 3 + 1 ≤ 4 by decide) hw.w rfl (by show 0 + 3 < 4; decide) ?_
    obtain ⟨h1, h2⟩ := hw.set c true
    have := hK _ h1 h2
    conv => lhs; whnf
    exact this
  | false =>
    rw [Bool.false_or] at hK
    obtain ⟨h1, h2⟩ := hw.set c (decide (e ≠ 0))
    conv => lhs; whnf
    rw [neq0]
    by_cases he : e = 0
    · rw [show decide (e ≠ 0) = false from decide_eq_false (by omega)] at h1 h2 hK ⊢
      conv => lhs; whnf
      refine storeK_of (v := .bool false) rfl rfl (show 3 + 1 ≤ 4 by decide) hw.w rfl (by show 0 + 3 < 4; decide) ?_
      have := hK _ h1 h2
      conv => lhs; whnf
      exact this
    · rw [show decide (e ≠ 0) = true from decide_eq_true he] at h1 h2 hK ⊢
      conv => lhs; whnf
      refine storeK_of (v := .bool true) rfl rfl (show 3 + 1 ≤ 4 by decide) hw.w rfl (by show 0 + 3 < 4; decide) ?_
      have := hK _ h1 h2
      conv => lhs; whnf
      exact this
theorem len_spec {n : Nat} (hn : 1 ≤ n) (hw : WalAt σ W B name c dn) {K : AV → H → Bool} (hK : K (.int .i64 (c : Int)) σ = true) : acall Try.prog tab D n 27 [.ptr (some ⟨W, 0, 0, 4⟩)] σ K = true := by
  obtain ⟨n, rfl, hn⟩ := up hn
  conv => lhs; whnf
  refine ldF Try.underlying3 rfl rfl hw rfl ?_
  conv => lhs; whnf
  exact hK
theorem writes_spec {n : Nat} {nm bs : List Nat} {ab : SA} {nb : Nat} (hn : 5 ≤ n) (hw : WS σ B m S F W name c dn) (ho : OkS S N k) (hN : N + 1 < 1000000000) (hb : Rw σ 1 ab nb (u8s bs)) (h256 : ∀ b ∈ bs, b < 256) (hk : k + bs.length ≤ 1000000000) {K : AV → H → Bool}
    (hK : ∀ σ' F', DV σ' B m (dWrites nm bs S).1 F' → Stp F F' σ σ' → K (.int .i64 ((dWrites nm bs S).2 : Nat)) σ' = true) :
    acall Try.prog tab D n 57 [.ptr (some ⟨W, 0, 0, 4⟩), .str (ints nm), .sl ab nb] σ K = true := by
  obtain ⟨n, rfl, hn⟩ := up hn
  conv => lhs; whnf
  refine ldF Try.underlying25 rfl rfl hw.w rfl ?_
  conv => lhs; whnf
  refine dv_app (by omega) hw.d ho (by omega) hb hk fun σ1 F1 d1 s1 => ?_
  have o1 := ho.app (name := nm) h256
  have hE : dWrites nm bs S = if (dApp nm bs S).2 = 0 then dSync nm (dApp nm bs S).1 else dApp nm bs S := rfl
  generalize dApp nm bs S = r at d1 o1 hE ⊢
  obtain ⟨S1, e1⟩ := r
  have w1 := hw.step d1 s1
  by_cases he : e1 = 0
  · subst he
    rw [if_pos rfl] at hE
    rw [hE] at hK
    conv => lhs; whnf
    refine ldF Try.underlying25 rfl rfl w1.w rfl ?_
    conv => lhs; whnf
    refine dv_sync (by omega) d1 o1 hN fun σ2 F2 d2 s2 => ?_
    have := hK σ2 F2 d2 (s1.trans s2)
    conv => lhs; whnf
    exact this
  · rw [if_neg he] at hE
    rw [hE] at hK
    have := hK σ1 F1 d1 s1
    conv => lhs; whnf
    rw [neq0, decide_eq_true he]
    conv => lhs; whnf
    exact this
theorem own_step {σ0 σ σ' : H} {F F' : Nat → Prop} {z n : Nat} {o : Option Nat} {a : SA} {cs : List AV} (h : Own σ0 σ z o a n cs) (hf : ∀ id, o = some id → ¬ F id) (s : Stp F F' σ σ') : Own σ0 σ' z o a n cs ∧ ∀ id, o = some id → ¬ F' id := by
  cases o with
  | none => exact ⟨h, fun id h => by cases h⟩
  | some id =>
    obtain ⟨off, xs, md, a1, a2, a3, a4⟩ := h
    refine ⟨⟨off, xs, md, a1, a2, (s.keep id (get_lt a3) (hf id rfl)).trans a3, a4⟩, fun j hj hF => ?_⟩
    cases hj
    rcases s.fp id hF with h | h
    · exact hf id rfl h
    · have := get_lt a3; omega
theorem _root_.Go.AM.St.Own.low {σ0 σ1 σ : H} {z n : Nat} {o : Option Nat} {a : SA} {cs : List AV} (h : Own σ1 σ z o a n cs) (hl : σ0.length ≤ σ1.length) : Own σ0 σ z o a n cs := by
  unfold Own at h ⊢
  split at h
  · exact h
  · obtain ⟨off, xs, md, h1, h2, r⟩ := h
    exact ⟨off, xs, md, h1, Nat.le_trans hl h2, r⟩
theorem open_spec {n : Nat} (hD : ByPlan Try.prog D) (hd : DV σ B m S F) (ho : OkS S N k) (hn : k + 400 ≤ n) (hN : N + 3 < 1000000000) (hk : k < 1000000) {K : AV → H → Bool}
    (h0 : (wOpen name S).2 ≠ 0 → ∀ σ' F', DV σ' B m (wOpen name S).1 F' → Stp F F' σ σ' → K (.tup [.ptr none, .sl .nil 0, .int .i64 ((wOpen name S).2 : Nat)]) σ' = true)
    (h1 : (wOpen name S).2 = 0 → ∀ σ' F' W o w L, WS σ' B m (wOpen name S).1 F' W name L.length false → Stp F F' σ σ' → σ.length ≤ W → IsRs σ' L → rlE L = wRecs name S → Own σ σ' 3 o w L.length (recs L) → (∀ id, o = some id → ¬ F' id ∧ id ≠ W) → K (.tup [.ptr (some ⟨W, 0, 0, 4⟩), .sl w L.length, .int .i64 0]) σ' = true) :
    acall Try.prog tab D n 25 [.ptr (some ⟨B, 0, 0, 4⟩), .str (ints name)] σ K = true := by
  obtain ⟨n, rfl, hn⟩ := up hn
  conv => lhs; whnf
  refine dv_read (by omega) hd ho (by omega) fun a1 σ1 p1 r1 => ?_
  have d1 := hd.mono p1
  have hA : openA name S = if (dRead name S).2 = 3 then dWrites name [] S else (S, (dRead name S).2) := rfl
  have hB : openB name S = if (scanF (dRead name S).1).2 < (dRead name S).1.length then dCut name ((scanF (dRead name S).1).2 : Nat) (openA name S).1 else ((openA name S).1, 0) := rfl
  have hO : wOpen name S = if (openA name S).2 = 0 then openB name S else openA name S := rfl
  have hR : wRecs name S = (scanF (dRead name S).1).1 := rfl
  have hrd := ho.read (name := name)
  have r1w := r1.rw
  generalize dRead name S = rd at hA hB hR hrd r1w ⊢
  obtain ⟨bs, e⟩ := rd
  obtain ⟨hbl, hb256⟩ := hrd
  dsimp only at hA hB hR hbl hb256 r1w
  conv => lhs; whnf
  rw [eq3]
  by_cases he3 : e = 3
  · subst he3
    rw [if_pos rfl] at hA
    rw [show decide (3 = 3) = true from rfl]
    have hW : dWrites name [] S = if (dApp name [] S).2 = 0 then dSync name (dApp name [] S).1 else dApp name [] S := rfl
    conv => lhs; whnf
    refine dv_app (bs := []) (by omega) d1 ho (by omega) (Rw.nil _ _) (by show k + 0 ≤ _; omega) fun σ2 F2 d2 s2 => ?_
    have o2 : OkS (dApp name [] S).1 (N + 1) k := ho.app (name := name) (bs := []) (fun b hb => by cases hb)
    have x2 := r1w.ext s2.ext
    have S2 := (Stp.pre (F := F) p1).trans s2
    generalize dApp name [] S = ra at d2 o2 hW ⊢
    obtain ⟨S2', e2⟩ := ra
    dsimp only at hW d2 o2
    conv => lhs; whnf
    rw [eq0]
    by_cases he2 : e2 = 0
    · subst he2
      rw [if_pos rfl] at hW
      rw [hW] at hA
      rw [show decide (0 = 0) = true from rfl]
      conv => lhs; whnf
      refine dv_sync (by omega) d2 o2 (by omega) fun σ3 F3 d3 s3 => ?_
      have o3 := o2.sync (name := name)
      have x3 := x2.ext s3.ext
      have S3 := S2.trans s3
      generalize dSync name S2' = rb at d3 o3 hA ⊢
      obtain ⟨SA, eA⟩ := rb
      dsimp only at d3 o3
      conv => lhs; whnf
      rw [neq0]
      by_cases heA : eA = 0
      · subst heA
        rw [show decide (0 ≠ 0) = false from rfl]
        rw [hA] at hO hB
        rw [if_pos rfl] at hO
        rw [hO] at h0 h1
        conv => lhs; whnf
        refine scan_spec (by omega) (by omega) hD x3 hb256 fun ow w L σs ps is ls rs => ?_
        have ds := d3.mono ps
        have Ss := S3.trans (Stp.pre ps)
        have fs : ∀ id, ow = some id → ¬ F3 id := fun id h hf => by
          subst h
          obtain ⟨_, _, _, _, hl, _⟩ := rs
          have := d3.lt hf
          omega
        conv => lhs; whnf
        by_cases hlt : (scanF bs).2 < bs.length
        · rw [show decide (((scanF bs).2 : Int) < (bs.length : Int)) = true from decide_eq_true (by omega)]
          rw [if_pos hlt] at hB
          conv => lhs; whnf
          refine dv_cut (by omega) ds o3 (by omega) (by omega) fun σc Fc dc sc => ?_
          rw [hB] at h0 h1
          generalize dCut name ((scanF bs).2 : Nat) SA = rc at dc h0 h1 ⊢
          obtain ⟨SC, eC⟩ := rc
          conv => lhs; whnf
          rw [neq0]
          by_cases heC : eC = 0
          · subst heC
            rw [show decide (0 ≠ 0) = false from rfl]
            obtain ⟨rs2, fs2⟩ := own_step rs fs sc
            have P := List.prefix_append σc [AO.cells [.ptr (some ⟨B, 0, 0, 4⟩), .str (ints name), .int .i64 (L.length : Int), .bool false] 4 .own]
            have := h1 rfl _ Fc σc.length ow w L ⟨dc.mono P, get_new _ _, fun hf => Nat.lt_irrefl _ (dc.lt hf)⟩ ((Ss.trans sc).trans (Stp.pre P)) (Ss.trans sc).len ((is.ext sc.ext).mono P) (ls.trans hR.symm) ((rs2.mono P).low S3.len) fun id h => ⟨fs2 id h, fun e => by
              subst h
              obtain ⟨_, _, _, _, _, hg, _⟩ := rs2
              have := get_lt hg
              omega⟩
            conv => lhs; whnf
            exact this
          · rw [decide_eq_true heC]
            have := h0 heC σc Fc dc (Ss.trans sc)
            conv => lhs; whnf
            exact this
        · rw [show decide (((scanF bs).2 : Int) < (bs.length : Int)) = false from decide_eq_false (by omega)]
          rw [if_neg hlt] at hB
          rw [hB] at h0 h1
          have P := List.prefix_append σs [AO.cells [.ptr (some ⟨B, 0, 0, 4⟩), .str (ints name), .int .i64 (L.length : Int), .bool false] 4 .own]
          have := h1 rfl _ F3 σs.length ow w L ⟨ds.mono P, get_new _ _, fun hf => Nat.lt_irrefl _ (ds.lt hf)⟩ (Ss.trans (Stp.pre P)) Ss.len (is.mono P) (ls.trans hR.symm) ((rs.mono P).low S3.len) fun id h => ⟨fs id h, fun e => by
            subst h
            obtain ⟨_, _, _, _, _, hg, _⟩ := rs
            have := get_lt hg
            omega⟩
          conv => lhs; whnf
          exact this
      · rw [decide_eq_true heA]
        rw [hA] at hO
        rw [if_neg heA] at hO
        rw [hO] at h0
        have := h0 heA σ3 F3 d3 S3
        conv => lhs; whnf
        exact this
    · rw [if_neg he2] at hW
      rw [hW] at hA
      rw [decide_eq_false he2]
      conv => lhs; whnf
      rw [neq0]
      by_cases he2 : e2 = 0
      · subst he2
        rw [show decide (0 ≠ 0) = false from rfl]
        rw [hA] at hO hB
        rw [if_pos rfl] at hO
        rw [hO] at h0 h1
        conv => lhs; whnf
        refine scan_spec (by omega) (by omega) hD x2 hb256 fun ow w L σs ps is ls rs => ?_
        have ds := d2.mono ps
        have Ss := S2.trans (Stp.pre ps)
        have fs : ∀ id, ow = some id → ¬ F2 id := fun id h hf => by
          subst h
          obtain ⟨_, _, _, _, hl, _⟩ := rs
          have := d2.lt hf
          omega
        conv => lhs; whnf
        by_cases hlt : (scanF bs).2 < bs.length
        · rw [show decide (((scanF bs).2 : Int) < (bs.length : Int)) = true from decide_eq_true (by omega)]
          rw [if_pos hlt] at hB
          conv => lhs; whnf
          refine dv_cut (by omega) ds o2 (by omega) (by omega) fun σc Fc dc sc => ?_
          rw [hB] at h0 h1
          generalize dCut name ((scanF bs).2 : Nat) S2' = rc at dc h0 h1 ⊢
          obtain ⟨SC, eC⟩ := rc
          conv => lhs; whnf
          rw [neq0]
          by_cases heC : eC = 0
          · subst heC
            rw [show decide (0 ≠ 0) = false from rfl]
            obtain ⟨rs2, fs2⟩ := own_step rs fs sc
            have P := List.prefix_append σc [AO.cells [.ptr (some ⟨B, 0, 0, 4⟩), .str (ints name), .int .i64 (L.length : Int), .bool false] 4 .own]
            have := h1 rfl _ Fc σc.length ow w L ⟨dc.mono P, get_new _ _, fun hf => Nat.lt_irrefl _ (dc.lt hf)⟩ ((Ss.trans sc).trans (Stp.pre P)) (Ss.trans sc).len ((is.ext sc.ext).mono P) (ls.trans hR.symm) ((rs2.mono P).low S2.len) fun id h => ⟨fs2 id h, fun e => by
              subst h
              obtain ⟨_, _, _, _, _, hg, _⟩ := rs2
              have := get_lt hg
              omega⟩
            conv => lhs; whnf
            exact this
          · rw [decide_eq_true heC]
            have := h0 heC σc Fc dc (Ss.trans sc)
            conv => lhs; whnf
            exact this
        · rw [show decide (((scanF bs).2 : Int) < (bs.length : Int)) = false from decide_eq_false (by omega)]
          rw [if_neg hlt] at hB
          rw [hB] at h0 h1
          have P := List.prefix_append σs [AO.cells [.ptr (some ⟨B, 0, 0, 4⟩), .str (ints name), .int .i64 (L.length : Int), .bool false] 4 .own]
          have := h1 rfl _ F2 σs.length ow w L ⟨ds.mono P, get_new _ _, fun hf => Nat.lt_irrefl _ (ds.lt hf)⟩ (Ss.trans (Stp.pre P)) Ss.len (is.mono P) (ls.trans hR.symm) ((rs.mono P).low S2.len) fun id h => ⟨fs id h, fun e => by
            subst h
            obtain ⟨_, _, _, _, _, hg, _⟩ := rs
            have := get_lt hg
            omega⟩
          conv => lhs; whnf
          exact this
      · rw [decide_eq_true he2]
        rw [hA] at hO
        rw [if_neg he2] at hO
        rw [hO] at h0
        have := h0 he2 σ2 F2 d2 S2
        conv => lhs; whnf
        exact this
  · rw [if_neg he3] at hA
    rw [decide_eq_false he3]
    conv => lhs; whnf
    rw [neq0]
    by_cases he : e = 0
    · subst he
      rw [show decide (0 ≠ 0) = false from rfl]
      rw [hA] at hO hB
      rw [if_pos rfl] at hO
      rw [hO] at h0 h1
      conv => lhs; whnf
      refine scan_spec (by omega) (by omega) hD r1w hb256 fun ow w L σs ps is ls rs => ?_
      have ds := d1.mono ps
      have Ss := (Stp.pre (F := F) p1).trans (Stp.pre ps)
      have fs : ∀ id, ow = some id → ¬ F id := fun id h hf => by
        subst h
        obtain ⟨_, _, _, _, hl, _⟩ := rs
        have := d1.lt hf
        omega
      conv => lhs; whnf
      by_cases hlt : (scanF bs).2 < bs.length
      · rw [show decide (((scanF bs).2 : Int) < (bs.length : Int)) = true from decide_eq_true (by omega)]
        rw [if_pos hlt] at hB
        conv => lhs; whnf
        refine dv_cut (by omega) ds ho (by omega) (by omega) fun σc Fc dc sc => ?_
        rw [hB] at h0 h1
        generalize dCut name ((scanF bs).2 : Nat) S = rc at dc h0 h1 ⊢
        obtain ⟨SC, eC⟩ := rc
        conv => lhs; whnf
        rw [neq0]
        by_cases heC : eC = 0
        · subst heC
          rw [show decide (0 ≠ 0) = false from rfl]
          obtain ⟨rs2, fs2⟩ := own_step rs fs sc
          have P := List.prefix_append σc [AO.cells [.ptr (some ⟨B, 0, 0, 4⟩), .str (ints name), .int .i64 (L.length : Int), .bool false] 4 .own]
          have := h1 rfl _ Fc σc.length ow w L ⟨dc.mono P, get_new _ _, fun hf => Nat.lt_irrefl _ (dc.lt hf)⟩ ((Ss.trans sc).trans (Stp.pre P)) (Ss.trans sc).len ((is.ext sc.ext).mono P) (ls.trans hR.symm) ((rs2.mono P).low (Stp.pre (F := F) p1).len) fun id h => ⟨fs2 id h, fun e => by
            subst h
            obtain ⟨_, _, _, _, _, hg, _⟩ := rs2
            have := get_lt hg
            omega⟩
          conv => lhs; whnf
          exact this
        · rw [decide_eq_true heC]
          have := h0 heC σc Fc dc (Ss.trans sc)
          conv => lhs; whnf
          exact this
      · rw [show decide (((scanF bs).2 : Int) < (bs.length : Int)) = false from decide_eq_false (by omega)]
        rw [if_neg hlt] at hB
        rw [hB] at h0 h1
        have P := List.prefix_append σs [AO.cells [.ptr (some ⟨B, 0, 0, 4⟩), .str (ints name), .int .i64 (L.length : Int), .bool false] 4 .own]
        have := h1 rfl _ F σs.length ow w L ⟨ds.mono P, get_new _ _, fun hf => Nat.lt_irrefl _ (ds.lt hf)⟩ (Ss.trans (Stp.pre P)) Ss.len (is.mono P) (ls.trans hR.symm) ((rs.mono P).low (Stp.pre (F := F) p1).len) fun id h => ⟨fs id h, fun e => by
          subst h
          obtain ⟨_, _, _, _, _, hg, _⟩ := rs
          have := get_lt hg
          omega⟩
        conv => lhs; whnf
        exact this
    · rw [decide_eq_true he]
      rw [hA] at hO
      rw [if_neg he] at hO
      rw [hO] at h0
      have := h0 he σ1 F d1 (Stp.pre (F := F) p1)
      conv => lhs; whnf
      exact this
theorem Stp.inFW {F F' : Nat → Prop} {σ σ' : H} (h : Stp F F' σ σ') (W : Nat) : Stp (FW F W) (FW F' W) σ σ' := h.fw W
theorem encFr_ok {L : List El} (hO : ∀ e ∈ L, OkR e.2.2) : ∀ b ∈ encFr (rlE L), b < 256 := encFr_lt _ fun r hr t ht => by
  obtain ⟨e, he, rfl⟩ := List.mem_map.1 hr
  exact ((hO e he).ts t ht).1
/-- Add: the log goes. -/
theorem wadd_spec {n : Nat} {s : SA} {L : List El} (hD : ByPlan Try.prog D) (hn : L.length + 10200 ≤ n) (hl : L.length ≤ 1000) (hw : WS σ B m S F W name c dn) (hdn : dn = false) (ho : OkS S N k) (hN : N + 2 < 1000000000) (hc : c ≤ 1000000000) (hs : Rw σ 3 s L.length (recs L)) (hI : IsRs σ L) (hO : ∀ e ∈ L, OkR e.2.2)
    (hk : (∀ e ∈ L, mayR e.2.2 = true) → k + (encFr (rlE L)).length ≤ 1000000000) {K : AV → H → Bool}
    (h0 : (∃ e ∈ L, mayR e.2.2 = false) → ∀ σ', σ <+: σ' → K (.int .i64 1) σ' = true)
    (h1 : (∀ e ∈ L, mayR e.2.2 = true) → ∀ σ' F', WS σ' B m (dWrites name (encFr (rlE L)) S).1 F' W name (if (dWrites name (encFr (rlE L)) S).2 = 0 then c + L.length else c) (decide ((dWrites name (encFr (rlE L)) S).2 ≠ 0)) → Stp (FW F W) (FW F' W) σ σ' → K (.int .i64 ((dWrites name (encFr (rlE L)) S).2 : Nat)) σ' = true) :
    acall Try.prog tab D n 30 [.ptr (some ⟨W, 0, 0, 4⟩), .sl s L.length] σ K = true := by
  subst hdn
  obtain ⟨n, rfl, hn⟩ := up hn
  conv => lhs; whnf
  refine ldF Try.underlying4 rfl rfl hw.w rfl ?_
  conv => lhs; whnf
  refine frames_spec (by omega) hl hs hI hO hD (fun hno σ1 p1 => ?_) (fun hyes o1 a1 σ1 p1 r1 => ?_)
  · conv => lhs; whnf
    exact h0 hno σ1 p1
  · have hW := h1 hyes
    have hk' := hk hyes
    have w1 := hw.mono p1
    conv => lhs; whnf
    refine ldF Try.underlying9 rfl rfl w1.w rfl ?_
    conv => lhs; whnf
    refine writes_spec (by omega) w1 ho (by omega) r1.rw (encFr_ok hO) hk' fun σ2 F2 d2 s2 => ?_
    have w2 := w1.step d2 s2
    generalize dWrites name (encFr (rlE L)) S = r at d2 w2 hW ⊢
    obtain ⟨S2, e2⟩ := r
    dsimp only at w2 hW
    conv => lhs; whnf
    refine told_spec (by omega) w2 fun σ3 w3 s3 => ?_
    have S3 := ((Stp.pre (F := F) p1).fw W).trans ((s2.fw W).trans s3)
    conv => lhs; whnf
    rw [eq0]
    by_cases he : e2 = 0
    · subst he
      rw [show decide (0 = 0) = true from rfl]
      conv => lhs; whnf
      refine ldF Try.underlying3 rfl rfl w3.w rfl ?_
      conv => lhs; whnf
      have hsum : IntKind.wrap .i64 ((c : Int) + (L.length : Int)) = ((c + L.length : Nat) : Int) := by rw [wrap_i64 (by omega) (by omega)]; omega
      rw [hsum]
      refine storeK_of (v := .int .i64 ((c + L.length : Nat) : Int)) rfl rfl (show 2 + 1 ≤ 4 by decide) w3.w rfl (by show 0 + 2 < 4; decide) ?_
      obtain ⟨h4, h5⟩ := w3.set (c + L.length) (false || decide (0 ≠ 0))
      have := hW _ F2 h4 (S3.trans h5)
      conv => lhs; whnf
      exact this
    · rw [decide_eq_false he]
      rw [if_neg he] at hW
      have := hW _ F2 w3 S3
      conv => lhs; whnf
      exact this
theorem dv_cut' {n : Nat} {name : List Nat} {t : List Int} (ht : t = ints name) {y : Int} (hn : 3 ≤ n) (hd : DV σ B m S F) (ho : OkS S N k) (hN : N < 1000000000) (hk : k ≤ 1000000000) {K : AV → H → Bool}
    (hK : ∀ σ' F', DV σ' B m (dCut name y S).1 F' → Stp F F' σ σ' → K (.int .i64 ((dCut name y S).2 : Nat)) σ' = true) :
    acall Try.prog tab D n 42 [.ptr (some ⟨B, 0, 0, 4⟩), .str t, .int .i64 y] σ K = true := by
  subst ht
  exact dv_cut hn hd ho hN hk hK
theorem dv_move' {n : Nat} {f t : List Nat} {u : List Int} (hu : u = ints f) (hn : 3 ≤ n) (hd : DV σ B m S F) (ho : OkS S N k) (hN : N < 1000000000) {K : AV → H → Bool}
    (hK : ∀ σ' F', DV σ' B m (dMove f t S).1 F' → Stp F F' σ σ' → K (.int .i64 ((dMove f t S).2 : Nat)) σ' = true) :
    acall Try.prog tab D n 36 [.ptr (some ⟨B, 0, 0, 4⟩), .str u, .str (ints t)] σ K = true := by
  subst hu
  exact dv_move hn hd ho hN hK
theorem writes_spec' {n : Nat} {nm bs : List Nat} {t : List Int} (ht : t = ints nm) {ab : SA} {nb : Nat} (hn : 5 ≤ n) (hw : WS σ B m S F W name c dn) (ho : OkS S N k) (hN : N + 1 < 1000000000) (hb : Rw σ 1 ab nb (u8s bs)) (h256 : ∀ b ∈ bs, b < 256) (hk : k + bs.length ≤ 1000000000) {K : AV → H → Bool}
    (hK : ∀ σ' F', DV σ' B m (dWrites nm bs S).1 F' → Stp F F' σ σ' → K (.int .i64 ((dWrites nm bs S).2 : Nat)) σ' = true) :
    acall Try.prog tab D n 57 [.ptr (some ⟨W, 0, 0, 4⟩), .str t, .sl ab nb] σ K = true := by
  subst ht
  exact writes_spec hn hw ho hN hb h256 hk hK
/-- Renew: the log goes. -/
theorem renew_spec {n : Nat} {s : SA} {L : List El} (hD : ByPlan Try.prog D) (hn : L.length + 10200 ≤ n) (hl : L.length ≤ 1000) (hname : name.length ≤ 1000) (hw : WS σ B m S F W name c dn) (hdn : dn = false) (ho : OkS S N k) (hN : N + 4 < 1000000000) (hs : Rw σ 3 s L.length (recs L)) (hI : IsRs σ L) (hO : ∀ e ∈ L, OkR e.2.2)
    (hk0 : k ≤ 1000000000) (hk : (∀ e ∈ L, mayR e.2.2 = true) → k + (encFr (rlE L)).length ≤ 1000000000) {K : AV → H → Bool}
    (h0 : (∃ e ∈ L, mayR e.2.2 = false) → ∀ σ', σ <+: σ' → K (.int .i64 1) σ' = true)
    (h1 : (∀ e ∈ L, mayR e.2.2 = true) → ∀ σ' F', WS σ' B m (dRenew name (encFr (rlE L)) S).1 F' W name (if (dRenew name (encFr (rlE L)) S).2 = 0 then L.length else c) (decide ((dRenew name (encFr (rlE L)) S).2 ≠ 0)) → Stp (FW F W) (FW F' W) σ σ' → K (.int .i64 ((dRenew name (encFr (rlE L)) S).2 : Nat)) σ' = true) :
    acall Try.prog tab D n 41 [.ptr (some ⟨W, 0, 0, 4⟩), .sl s L.length] σ K = true := by
  subst hdn
  obtain ⟨n, rfl, hn⟩ := up hn
  conv => lhs; whnf
  refine ldF Try.underlying4 rfl rfl hw.w rfl ?_
  conv => lhs; whnf
  refine frames_spec (by omega) hl hs hI hO hD (fun hno σ1 p1 => ?_) (fun hyes o1 a1 σ1 p1 r1 => ?_)
  · conv => lhs; whnf
    exact h0 hno σ1 p1
  have hW := h1 hyes
  have hk' := hk hyes
  have w1 := hw.mono p1
  have h256 := encFr_ok hO
  have hname2 : Nat.ble ((ints name).length + (bytesL ⟨#[43]⟩).length) 9223372036854775807 = true := Nat.ble_eq_true_of_le (by
    have : (ints name).length = name.length := by simp [ints]
    have : (bytesL ⟨#[43]⟩).length = 1 := rfl
    omega)
  have r1w := r1.rw
  generalize encFr (rlE L) = bs at hW hk' h256 r1w ⊢
  have hA : renA name S = dCut (name ++ [43]) 0 S := rfl
  have hB : renB name bs S = if (renA name S).2 = 0 ∨ (renA name S).2 = 3 then dWrites (name ++ [43]) bs (renA name S).1 else renA name S := rfl
  have hC : dRenew name bs S = if (renB name bs S).2 = 0 then dMove (name ++ [43]) name (renB name bs S).1 else renB name bs S := rfl
  have oA : OkS (renA name S).1 (N + 1) k := ho.cut
  have oB : OkS (renB name bs S).1 (N + 3) (k + bs.length) := ho.renB h256
  conv => lhs; whnf
  refine goK hD plan41x6 ord41x6 fun KK hKK => ?_
  conv => lhs; whnf
  refine ldF Try.underlying25 rfl rfl w1.w rfl ?_
  conv => lhs; whnf
  refine ldF Try.underlying9 rfl rfl w1.w rfl ?_
  conv => lhs; whnf
  refine bif_pos hname2 ?_
  conv => lhs; whnf
  refine dv_cut' (plus_ints name) (by omega) w1.d ho (by omega) hk0 fun σ2 F2 d2 s2 => ?_
  have w2 := w1.step d2 s2
  have S2 := ((Stp.pre (F := F) p1).fw W).trans (s2.fw W)
  have x2 := r1w.ext s2.ext
  rw [← hA] at d2 w2 ⊢
  generalize renA name S = ra at hB oA d2 w2 ⊢
  obtain ⟨SA', eA⟩ := ra
  dsimp only at hB oA d2 w2
  conv => lhs; whnf
  subst hKK
  conv => lhs; whnf
  rw [eq0]
  by_cases heA : eA = 0
  · subst heA
    rw [if_pos (.inl rfl)] at hB
    rw [show decide (0 = 0) = true from rfl]
    conv => lhs; whnf
    refine ldF Try.underlying9 rfl rfl w2.w rfl ?_
    conv => lhs; whnf
    refine bif_pos hname2 ?_
    conv => lhs; whnf
    refine writes_spec' (plus_ints name) (by omega) w2 oA (by omega) x2 h256 hk' fun σ4 F4 d4 s4 => ?_
    have w4 := w2.step d4 s4
    have S4 := S2.trans (s4.fw W)
    rw [← hB] at d4 w4 ⊢
    generalize renB name bs S = rb at hC oB d4 w4 ⊢
    obtain ⟨SB, eB⟩ := rb
    dsimp only at hC oB d4 w4
    conv => lhs; whnf
    rw [eq0]
    by_cases heB : eB = 0
    · subst heB
      rw [if_pos rfl] at hC
      rw [hC] at hW
      rw [show decide (0 = 0) = true from rfl]
      conv => lhs; whnf
      refine goK hD plan41x10 ord41x10 fun KK hKK => ?_
      conv => lhs; whnf
      refine ldF Try.underlying25 rfl rfl w4.w rfl ?_
      conv => lhs; whnf
      refine ldF Try.underlying9 rfl rfl w4.w rfl ?_
      conv => lhs; whnf
      refine bif_pos hname2 ?_
      conv => lhs; whnf
      refine ldF Try.underlying9 rfl rfl w4.w rfl ?_
      conv => lhs; whnf
      refine dv_move' (plus_ints name) (by omega) w4.d oB (by omega) fun σ5 F5 d5 s5 => ?_
      have w5 := w4.step d5 s5
      have S5 := S4.trans (s5.fw W)
      generalize dMove (name ++ [43]) name SB = rc at d5 w5 hW ⊢
      obtain ⟨SC, eC⟩ := rc
      dsimp only at d5 w5 hW
      conv => lhs; whnf
      subst hKK
      conv => lhs; whnf
      refine told_spec (by omega) w5 fun σ6 w6 s6 => ?_
      conv => lhs; whnf
      rw [eq0]
      by_cases heC : eC = 0
      · subst heC
        rw [show decide (0 = 0) = true from rfl]
        conv => lhs; whnf
        refine storeK_of (v := .int .i64 (L.length : Int)) rfl rfl (show 2 + 1 ≤ 4 by decide) w6.w rfl (by show 0 + 2 < 4; decide) ?_
        obtain ⟨h4, h5⟩ := w6.set L.length (false || decide (0 ≠ 0))
        have := hW _ F5 h4 ((S5.trans s6).trans h5)
        conv => lhs; whnf
        exact this
      · rw [decide_eq_false heC]
        rw [if_neg heC] at hW
        have := hW _ F5 w6 (S5.trans s6)
        conv => lhs; whnf
        exact this
    · rw [decide_eq_false heB]
      rw [if_neg heB] at hC
      rw [hC] at hW
      conv => lhs; whnf
      refine told_spec (by omega) w4 fun σ6 w6 s6 => ?_
      conv => lhs; whnf
      rw [eq0]
      rw [decide_eq_false heB]
      rw [if_neg heB] at hW
      have := hW _ _ w6 (S4.trans s6)
      conv => lhs; whnf
      exact this
  rw [decide_eq_false heA]
  conv => lhs; whnf
  rw [eq3]
  by_cases he3 : eA = 3
  · subst he3
    rw [if_pos (.inr rfl)] at hB
    rw [show decide (3 = 3) = true from rfl]
    conv => lhs; whnf
    refine ldF Try.underlying9 rfl rfl w2.w rfl ?_
    conv => lhs; whnf
    refine bif_pos hname2 ?_
    conv => lhs; whnf
    refine writes_spec' (plus_ints name) (by omega) w2 oA (by omega) x2 h256 hk' fun σ4 F4 d4 s4 => ?_
    have w4 := w2.step d4 s4
    have S4 := S2.trans (s4.fw W)
    rw [← hB] at d4 w4 ⊢
    generalize renB name bs S = rb at hC oB d4 w4 ⊢
    obtain ⟨SB, eB⟩ := rb
    dsimp only at hC oB d4 w4
    conv => lhs; whnf
    rw [eq0]
    by_cases heB : eB = 0
    · subst heB
      rw [if_pos rfl] at hC
      rw [hC] at hW
      rw [show decide (0 = 0) = true from rfl]
      conv => lhs; whnf
      refine goK hD plan41x10 ord41x10 fun KK hKK => ?_
      conv => lhs; whnf
      refine ldF Try.underlying25 rfl rfl w4.w rfl ?_
      conv => lhs; whnf
      refine ldF Try.underlying9 rfl rfl w4.w rfl ?_
      conv => lhs; whnf
      refine bif_pos hname2 ?_
      conv => lhs; whnf
      refine ldF Try.underlying9 rfl rfl w4.w rfl ?_
      conv => lhs; whnf
      refine dv_move' (plus_ints name) (by omega) w4.d oB (by omega) fun σ5 F5 d5 s5 => ?_
      have w5 := w4.step d5 s5
      have S5 := S4.trans (s5.fw W)
      generalize dMove (name ++ [43]) name SB = rc at d5 w5 hW ⊢
      obtain ⟨SC, eC⟩ := rc
      dsimp only at d5 w5 hW
      conv => lhs; whnf
      subst hKK
      conv => lhs; whnf
      refine told_spec (by omega) w5 fun σ6 w6 s6 => ?_
      conv => lhs; whnf
      rw [eq0]
      by_cases heC : eC = 0
      · subst heC
        rw [show decide (0 = 0) = true from rfl]
        conv => lhs; whnf
        refine storeK_of (v := .int .i64 (L.length : Int)) rfl rfl (show 2 + 1 ≤ 4 by decide) w6.w rfl (by show 0 + 2 < 4; decide) ?_
        obtain ⟨h4, h5⟩ := w6.set L.length (false || decide (0 ≠ 0))
        have := hW _ F5 h4 ((S5.trans s6).trans h5)
        conv => lhs; whnf
        exact this
      · rw [decide_eq_false heC]
        rw [if_neg heC] at hW
        have := hW _ F5 w6 (S5.trans s6)
        conv => lhs; whnf
        exact this
    · rw [decide_eq_false heB]
      rw [if_neg heB] at hC
      rw [hC] at hW
      conv => lhs; whnf
      refine told_spec (by omega) w4 fun σ6 w6 s6 => ?_
      conv => lhs; whnf
      rw [eq0]
      rw [decide_eq_false heB]
      rw [if_neg heB] at hW
      have := hW _ _ w6 (S4.trans s6)
      conv => lhs; whnf
      exact this
  · rw [if_neg (fun h => h.elim heA he3)] at hB
    rw [decide_eq_false he3]
    rw [hB] at hC
    rw [if_neg heA] at hC
    rw [hC] at hW
    conv => lhs; whnf
    rw [eq0]
    rw [decide_eq_false heA]
    conv => lhs; whnf
    refine told_spec (by omega) w2 fun σ6 w6 s6 => ?_
    conv => lhs; whnf
    rw [eq0]
    rw [decide_eq_false heA]
    rw [if_neg heA] at hW
    have := hW _ _ w6 (S2.trans s6)
    conv => lhs; whnf
    exact this
end Go.Proofs.Ytahhajakgakdhaa
namespace Go.Proofs.Ytahhajakgakdhaa
set_option maxRecDepth 100000
open Go Go.AM Go.AM.St
theorem FineE.fine {r : RecP} (h : FineE r) : Fine r := ⟨h.may, h.ok.ns⟩
theorem fineL {L : List El} (h : ∀ e ∈ L, FineE e.2.2) : ∀ r ∈ rlE L, Fine r := fun r hr => by
  obtain ⟨e, he, rfl⟩ := List.mem_map.1 hr
  exact (h e he).fine
theorem okL {L : List El} (h : ∀ e ∈ L, FineE e.2.2) : ∀ e ∈ L, OkR e.2.2 := fun e he => (h e he).ok
theorem encFr_small : ∀ (l : List RecP), (∀ r ∈ l, (putR r).length < 400) → (encFr l).length ≤ 406 * l.length
  | [], _ => Nat.le_refl _
  | r :: l, h => by
    have h1 := h r (by simp)
    have h2 := encFr_small l fun x hx => h x (by simp [hx])
    rw [encFr, List.length_append, List.length_cons, putF_length]
    omega
theorem encL_small {L : List El} (h : ∀ e ∈ L, FineE e.2.2) : (encFr (rlE L)).length ≤ 406 * L.length := by
  have := encFr_small (rlE L) fun r hr => by
    obtain ⟨e, he, rfl⟩ := List.mem_map.1 hr
    exact (h e he).len
  simpa using this
theorem nf : ¬ (false = true) := by decide
theorem n1 : ¬ ((-1 : Int) = 0) := by decide
theorem n03 : ¬ (0 = 3) := by decide
theorem wRecs_new {nm : List Nat} {l : Int} {d : Bool} {o : Nat} : wRecs nm ⟨[], l, d, o⟩ = [] := by
  unfold wRecs dRead
  cases d <;> rfl
theorem dRead_one {nm b : List Nat} {s : Nat} {t : Bool} {V : List FV} {l : Int} {o : Nat} : dRead nm ⟨⟨nm, b, s, t⟩ :: V, l, false, o⟩ = (b, 0) := by
  unfold dRead
  rw [if_neg nf]
  show (match mFind nm (⟨nm, b, s, t⟩ :: V) with | none => _ | some x => _) = _
  rw [mFind, if_pos rfl]
theorem open_new {nm : List Nat} (hm : mayN nm = true) {o : Nat} : wOpen nm ⟨[], -1, false, o⟩ = (⟨[⟨nm, [], 0, true⟩], -1, false, o + 2⟩, 0) := by
  have h1 : dRead nm ⟨[], -1, false, o⟩ = ([], 3) := rfl
  have h2 : dApp nm [] ⟨[], -1, false, o⟩ = (⟨[⟨nm, [], 0, false⟩], -1, false, o + 1⟩, 0) := by
    unfold dApp
    rw [if_neg nf, if_neg (by rw [hm]; decide), if_neg n1]; rfl
  have h3 : dSync nm ⟨[⟨nm, [], 0, false⟩], -1, false, o + 1⟩ = (⟨[⟨nm, [], 0, true⟩], -1, false, o + 2⟩, 0) := by
    unfold dSync
    rw [if_neg nf, if_neg (by rw [mFind, if_pos rfl]; nofun), if_neg n1, mSync, if_pos rfl]; rfl
  have hA : openA nm ⟨[], -1, false, o⟩ = (⟨[⟨nm, [], 0, true⟩], -1, false, o + 2⟩, 0) := by
    unfold openA dWrites
    rw [h1, if_pos rfl, h2, if_pos rfl]
    exact h3
  unfold wOpen openB
  rw [hA, if_pos rfl, h1]
  rfl
theorem writes_one {nm b bs : List Nat} (hm : mayN nm = true) {s : Nat} {t : Bool} {V : List FV} {o : Nat} :
    dWrites nm bs ⟨⟨nm, b, s, t⟩ :: V, -1, false, o⟩ = (⟨⟨nm, b ++ bs, (b ++ bs).length, true⟩ :: V, -1, false, o + 2⟩, 0) := by
  have h2 : dApp nm bs ⟨⟨nm, b, s, t⟩ :: V, -1, false, o⟩ = (⟨⟨nm, b ++ bs, s, t⟩ :: V, -1, false, o + 1⟩, 0) := by
    unfold dApp
    rw [if_neg nf, if_neg (by rw [hm]; decide), if_neg n1, mApp, if_pos rfl]; rfl
  unfold dWrites
  rw [h2, if_pos rfl]
  unfold dSync
  rw [if_neg nf, if_neg (by rw [mFind, if_pos rfl]; nofun), if_neg n1, mSync, if_pos rfl]; rfl
theorem crash_one {nm b : List Nat} {V : List FV} {l : Int} {d : Bool} {o : Nat} {keep : Int} : dCrash keep ⟨⟨nm, b, b.length, true⟩ :: V, l, d, o⟩ = ⟨⟨nm, b, b.length, true⟩ :: V.filterMap (mCrash keep), -1, false, o⟩ := by
  unfold dCrash
  rw [List.filterMap_cons, mCrash_full]
theorem wRecs_one {nm b : List Nat} {s : Nat} {t : Bool} {V : List FV} {l : Int} {o : Nat} : wRecs nm ⟨⟨nm, b, s, t⟩ :: V, l, false, o⟩ = (scanF b).1 := by
  unfold wRecs
  rw [dRead_one]
theorem open_one {nm b : List Nat} {s : Nat} {t : Bool} {V : List FV} {o : Nat} : (wOpen nm ⟨⟨nm, b, s, t⟩ :: V, -1, false, o⟩).2 = 0 := by
  have hA : openA nm ⟨⟨nm, b, s, t⟩ :: V, -1, false, o⟩ = (⟨⟨nm, b, s, t⟩ :: V, -1, false, o⟩, 0) := by
    unfold openA
    rw [dRead_one, if_neg n03]
  unfold wOpen openB
  rw [hA, if_pos rfl, dRead_one]
  split
  · next h =>
    unfold dCut
    rw [if_neg nf, if_neg (by rw [mFind, if_pos rfl]; nofun), if_neg, if_neg n1]
    exact fun hc => hc ⟨_, by rw [mFind, if_pos rfl], by omega, by
      have h : (scanF b).2 < b.length := h
      show ((scanF b).2 : Int) ≤ (b.length : Int)
      omega⟩
  · rfl
theorem open_all {nm : List Nat} {rs : List RecP} (hf : ∀ r ∈ rs, Fine r) {s : Nat} {t : Bool} {V : List FV} {o : Nat} :
    wOpen nm ⟨⟨nm, encFr rs, s, t⟩ :: V, -1, false, o⟩ = (⟨⟨nm, encFr rs, s, t⟩ :: V, -1, false, o⟩, 0) := by
  have hA : openA nm ⟨⟨nm, encFr rs, s, t⟩ :: V, -1, false, o⟩ = (⟨⟨nm, encFr rs, s, t⟩ :: V, -1, false, o⟩, 0) := by
    unfold openA
    rw [dRead_one, if_neg n03]
  unfold wOpen openB
  rw [hA, if_pos rfl, dRead_one]
  show (if (scanF (encFr rs)).2 < (encFr rs).length then _ else _) = _
  rw [scanF_all hf, if_neg (Nat.lt_irrefl _)]
theorem plus_ne {nm : List Nat} : ¬ nm = nm ++ [43] := fun h => by
  have := congrArg List.length h
  simp at this
theorem renew_one {nm b bs : List Nat} (hm : mayN nm = true) (hm2 : mayN (nm ++ [43]) = true) {s : Nat} {t : Bool} {o : Nat} :
    dRenew nm bs ⟨[⟨nm, b, s, t⟩], -1, false, o⟩ = (⟨[⟨nm, bs, bs.length, true⟩], -1, false, o + 3⟩, 0) := by
  have hA : renA nm ⟨[⟨nm, b, s, t⟩], -1, false, o⟩ = (⟨[⟨nm, b, s, t⟩], -1, false, o⟩, 3) := by
    unfold renA dCut
    rw [if_neg nf, if_pos (by rw [mFind, if_neg plus_ne]; rfl)]
  have h2 : dApp (nm ++ [43]) bs ⟨[⟨nm, b, s, t⟩], -1, false, o⟩ = (⟨[⟨nm, b, s, t⟩, ⟨nm ++ [43], bs, 0, false⟩], -1, false, o + 1⟩, 0) := by
    unfold dApp
    rw [if_neg nf, if_neg (by rw [hm2]; decide), if_neg n1, mApp, if_neg plus_ne]; rfl
  have h3 : dSync (nm ++ [43]) ⟨[⟨nm, b, s, t⟩, ⟨nm ++ [43], bs, 0, false⟩], -1, false, o + 1⟩ = (⟨[⟨nm, b, s, t⟩, ⟨nm ++ [43], bs, bs.length, true⟩], -1, false, o + 2⟩, 0) := by
    unfold dSync
    rw [if_neg nf, if_neg (by rw [mFind, if_neg plus_ne, mFind, if_pos rfl]; nofun), if_neg n1, mSync, if_neg plus_ne, mSync, if_pos rfl]; rfl
  have hB : renB nm bs ⟨[⟨nm, b, s, t⟩], -1, false, o⟩ = (⟨[⟨nm, b, s, t⟩, ⟨nm ++ [43], bs, bs.length, true⟩], -1, false, o + 2⟩, 0) := by
    unfold renB dWrites
    rw [hA, if_pos (.inr rfl), h2, if_pos rfl, h3]
  unfold dRenew
  rw [hB, if_pos rfl]
  unfold dMove
  rw [if_neg nf, if_neg (by rw [mFind, if_neg plus_ne, mFind, if_pos rfl]; nofun), if_neg (by rw [hm]; decide), if_neg n1]
  have : mMove (nm ++ [43]) nm [⟨nm, b, s, t⟩, ⟨nm ++ [43], bs, bs.length, true⟩] = [⟨nm, bs, bs.length, true⟩] := by
    unfold mMove
    rw [mFind, if_neg plus_ne, mFind, if_pos rfl]
    show mPut ⟨nm, bs, bs.length, true⟩ (mDel (nm ++ [43]) _) = _
    rw [mDel, if_neg plus_ne, mDel, if_pos rfl, mPut, if_pos rfl]
  rw [this]; rfl
theorem OkS.one {nm b : List Nat} {s : Nat} {t : Bool} {o N k : Nat} {left : Int} {d : Bool} (hl : left = -1) (ho : o ≤ N) (hN : 1 ≤ N) (hb : b.length ≤ k) (hs : s ≤ b.length) (h256 : ∀ x ∈ b, x < 256) : OkS ⟨[⟨nm, b, s, t⟩], left, d, o⟩ N k := by
  subst hl
  refine ⟨by show (-1 : Int) ≤ -1; decide, by show (-1 : Int) ≤ _; decide, ho, hN, fun x hx => ?_⟩
  rw [List.mem_singleton] at hx
  subst hx
  exact ⟨hb, hs, h256⟩
/-- Of records that are cut off: so many are read. -/
theorem cut_at (W : List RecP) : ∀ (c j0 : Nat), j0 ≤ W.length → (encFr (W.take j0)).length ≤ c → ∃ j, j0 ≤ j ∧ j ≤ W.length ∧ (encFr (W.take j)).length ≤ c ∧ (j < W.length → c < (encFr (W.take (j + 1))).length) := by
  intro c j0 h0 h1
  obtain ⟨d, hd⟩ : ∃ d, W.length - j0 = d := ⟨_, rfl⟩
  induction d generalizing j0 with
  | zero => exact ⟨j0, Nat.le_refl _, h0, h1, fun h => by omega⟩
  | succ d ih =>
    by_cases h : (encFr (W.take (j0 + 1))).length ≤ c
    · obtain ⟨j, a, b, c', d'⟩ := ih (j0 + 1) (by omega) h (by omega)
      exact ⟨j, by omega, b, c', d'⟩
    · exact ⟨j0, Nat.le_refl _, h0, h1, fun _ => by omega⟩
theorem scan_cut (A M : List RecP) (hA : ∀ r ∈ A, Fine r) (hM : ∀ r ∈ M, Fine r) (c : Nat) (h1 : (encFr A).length ≤ c) (h2 : c ≤ (encFr (A ++ M)).length) :
    ∃ j, A.length ≤ j ∧ j ≤ (A ++ M).length ∧ (scanF ((encFr (A ++ M)).take c)).1 = (A ++ M).take j := by
  obtain ⟨j, a, b, c', d'⟩ := cut_at (A ++ M) c A.length (by simp) (by rw [List.take_left]; exact h1)
  exact ⟨j, a, b, by rw [scanF_cut (fun r hr => (List.mem_append.1 hr).elim (hA r) (hM r)) b c' d' h2]⟩
/-- Records in a row off the disk. -/
structure RL (σ : H) (F : Nat → Prop) (a : SA) (L : List El) : Prop where
  rw : Rw σ 3 a L.length (recs L)
  off : ∀ id off z, a = .at id off z → ¬ F id
  is : IsRs σ L
  fine : ∀ e ∈ L, FineE e.2.2
theorem RL.step {σ σ' : H} {F F' : Nat → Prop} {a : SA} {L : List El} (h : RL σ F a L) (s : Stp F F' σ σ') : RL σ' F' a L := by
  refine ⟨?_, fun id off z e hF => ?_, h.is.ext s.ext, h.fine⟩
  · rcases h.rw with g | g | ⟨id, off, xs, md, h1, h2, h3, h4⟩
    · exact .inl g
    · exact .inr (.inl g)
    · exact .inr (.inr ⟨id, off, xs, md, h1, (s.keep id (get_lt h2) (h.off _ _ _ h1)).trans h2, h3, h4⟩)
  · rcases s.fp id hF with g | g
    · exact h.off _ _ _ e g
    · rcases h.rw with ⟨g', _⟩ | ⟨g', _⟩ | ⟨id', off', xs, md, h1, h2, _⟩
      · rw [e] at g'; cases g'
      · rw [e] at g'; cases g'
      · rw [e] at h1; cases h1
        have := get_lt h2; omega
theorem RL.mono {σ σ' : H} {F : Nat → Prop} {a : SA} {L : List El} (h : RL σ F a L) (p : σ <+: σ') : RL σ' F a L := h.step (Stp.pre p)
theorem RL.other {σ : H} {F F' : Nat → Prop} {a : SA} {L : List El} (h : RL σ F a L) (hf : ∀ id, id < σ.length → F' id → F id) : RL σ F' a L := by
  refine ⟨h.rw, fun id off z e hF => ?_, h.is, h.fine⟩
  rcases h.rw with ⟨g', _⟩ | ⟨g', _⟩ | ⟨id', off', xs, md, h1, h2, _⟩
  · rw [e] at g'; cases g'
  · rw [e] at g'; cases g'
  · rw [e] at h1; cases h1
    exact h.off _ _ _ e (hf _ (get_lt h2) hF)
theorem RL.ofOwn {σ0 σ : H} {F : Nat → Prop} {o : Option Nat} {a : SA} {L : List El} (h : Own σ0 σ 3 o a L.length (recs L)) (ho : ∀ id, o = some id → ¬ F id) (is : IsRs σ L) (fine : ∀ e ∈ L, FineE e.2.2) : RL σ F a L := by
  refine ⟨h.rw, fun id off z e hF => ?_, is, fine⟩
  cases o with
  | none =>
    obtain ⟨h1 | h1, _⟩ := h
    · rw [h1] at e; cases e
    · rw [h1] at e; cases e
  | some i =>
    obtain ⟨_, _, _, a1, _⟩ := h
    rw [a1] at e; cases e
    exact ho _ rfl hF
end Go.Proofs.Ytahhajakgakdhaa
namespace Go.Proofs.Ytahhajakgakdhaa
set_option maxRecDepth 100000
open Go Go.AM Go.AM.St
theorem app_left {nm b bs : List Nat} (hm : mayN nm = true) {s : Nat} {t : Bool} {V : List FV} {o : Nat} {l : Int} (hl : l ≠ 0) :
    dApp nm bs ⟨⟨nm, b, s, t⟩ :: V, l, false, o⟩ = (⟨⟨nm, b ++ bs, s, t⟩ :: V, max (l - 1) (-1), false, o + 1⟩, 0) := by
  unfold dApp
  rw [if_neg nf, if_neg (by rw [hm]; decide), if_neg hl, mApp, if_pos rfl]
theorem app_zero {nm bs : List Nat} (hm : mayN nm = true) {V : List FV} {o : Nat} : dApp nm bs ⟨V, 0, false, o⟩ = (⟨V, 0, true, o⟩, 7) := by
  unfold dApp
  rw [if_neg nf, if_neg (by rw [hm]; decide), if_pos rfl]
theorem sync_left {nm b : List Nat} {s : Nat} {t : Bool} {V : List FV} {o : Nat} {l : Int} (hl : l ≠ 0) :
    dSync nm ⟨⟨nm, b, s, t⟩ :: V, l, false, o⟩ = (⟨⟨nm, b, b.length, true⟩ :: V, max (l - 1) (-1), false, o + 1⟩, 0) := by
  unfold dSync
  rw [if_neg nf, if_neg (by rw [mFind, if_pos rfl]; nofun), if_neg hl, mSync, if_pos rfl]
theorem sync_zero {nm b : List Nat} {s : Nat} {t : Bool} {V : List FV} {o : Nat} : dSync nm ⟨⟨nm, b, s, t⟩ :: V, 0, false, o⟩ = (⟨⟨nm, b, s, t⟩ :: V, 0, true, o⟩, 7) := by
  unfold dSync
  rw [if_neg nf, if_neg (by rw [mFind, if_pos rfl]; nofun), if_pos rfl]
theorem writes_fuse {nm b bs : List Nat} (hm : mayN nm = true) {s : Nat} {t : Bool} {V : List FV} {o : Nat} {f : Int} (hf : 0 ≤ f) :
    (∃ l o', dWrites nm bs ⟨⟨nm, b, s, t⟩ :: V, f, false, o⟩ = (⟨⟨nm, b ++ bs, (b ++ bs).length, true⟩ :: V, l, false, o'⟩, 0)) ∨
    ∃ x l o', (x = [] ∨ x = bs) ∧ dWrites nm bs ⟨⟨nm, b, s, t⟩ :: V, f, false, o⟩ = (⟨⟨nm, b ++ x, s, t⟩ :: V, l, true, o'⟩, 7) := by
  unfold dWrites
  by_cases h0 : f = 0
  · subst h0
    rw [app_zero hm]
    exact .inr ⟨[], 0, o, .inl rfl, by rw [List.append_nil]; rfl⟩
  · rw [app_left hm h0]
    by_cases h1 : f = 1
    · subst h1
      refine .inr ⟨bs, 0, o + 1, .inr rfl, ?_⟩
      rw [if_pos rfl]
      exact sync_zero
    · refine .inl ⟨max (max (f - 1) (-1) - 1) (-1), o + 2, ?_⟩
      rw [if_pos rfl]
      exact sync_left (by omega)
theorem renew_fuse {nm b bs : List Nat} (hm : mayN nm = true) (hm2 : mayN (nm ++ [43]) = true) {s : Nat} {t : Bool} {o : Nat} {f : Int} (hf : 0 ≤ f) :
    (∃ l o', dRenew nm bs ⟨[⟨nm, b, s, t⟩], f, false, o⟩ = (⟨[⟨nm, bs, bs.length, true⟩], l, false, o'⟩, 0)) ∨
    ∃ V l o', dRenew nm bs ⟨[⟨nm, b, s, t⟩], f, false, o⟩ = (⟨⟨nm, b, s, t⟩ :: V, l, true, o'⟩, 7) := by
  have hA : renA nm ⟨[⟨nm, b, s, t⟩], f, false, o⟩ = (⟨[⟨nm, b, s, t⟩], f, false, o⟩, 3) := by
    unfold renA dCut
    rw [if_neg nf, if_pos (by rw [mFind, if_neg plus_ne]; rfl)]
  have hB : renB nm bs ⟨[⟨nm, b, s, t⟩], f, false, o⟩ = dWrites (nm ++ [43]) bs ⟨[⟨nm, b, s, t⟩], f, false, o⟩ := by
    unfold renB
    rw [hA, if_pos (.inr rfl)]
  by_cases h0 : f = 0
  · subst h0
    refine .inr ⟨[], 0, o, ?_⟩
    unfold dRenew
    rw [hB]
    unfold dWrites
    rw [app_zero hm2]
    rfl
  have h2 : dApp (nm ++ [43]) bs ⟨[⟨nm, b, s, t⟩], f, false, o⟩ = (⟨[⟨nm, b, s, t⟩, ⟨nm ++ [43], bs, 0, false⟩], max (f - 1) (-1), false, o + 1⟩, 0) := by
    unfold dApp
    rw [if_neg nf, if_neg (by rw [hm2]; decide), if_neg h0, mApp, if_neg plus_ne]; rfl
  by_cases h1 : f = 1
  · subst h1
    refine .inr ⟨[⟨nm ++ [43], bs, 0, false⟩], 0, o + 1, ?_⟩
    have : dSync (nm ++ [43]) ⟨[⟨nm, b, s, t⟩, ⟨nm ++ [43], bs, 0, false⟩], 0, false, o + 1⟩ = (⟨[⟨nm, b, s, t⟩, ⟨nm ++ [43], bs, 0, false⟩], 0, true, o + 1⟩, 7) := by
      unfold dSync
      rw [if_neg nf, if_neg (by rw [mFind, if_neg plus_ne, mFind, if_pos rfl]; nofun), if_pos rfl]
    have hd : dWrites (nm ++ [43]) bs ⟨[⟨nm, b, s, t⟩], 1, false, o⟩ = (⟨[⟨nm, b, s, t⟩, ⟨nm ++ [43], bs, 0, false⟩], 0, true, o + 1⟩, 7) := by
      unfold dWrites
      rw [h2, if_pos rfl]
      exact this
    unfold dRenew
    rw [hB, hd]
    rfl
  have h3 : dSync (nm ++ [43]) ⟨[⟨nm, b, s, t⟩, ⟨nm ++ [43], bs, 0, false⟩], max (f - 1) (-1), false, o + 1⟩ = (⟨[⟨nm, b, s, t⟩, ⟨nm ++ [43], bs, bs.length, true⟩], max (max (f - 1) (-1) - 1) (-1), false, o + 2⟩, 0) := by
    unfold dSync
    rw [if_neg nf, if_neg (by rw [mFind, if_neg plus_ne, mFind, if_pos rfl]; nofun), if_neg (by show ¬ max (f - 1) (-1) = 0; omega), mSync, if_neg plus_ne, mSync, if_pos rfl]
  have hB' : renB nm bs ⟨[⟨nm, b, s, t⟩], f, false, o⟩ = (⟨[⟨nm, b, s, t⟩, ⟨nm ++ [43], bs, bs.length, true⟩], max (max (f - 1) (-1) - 1) (-1), false, o + 2⟩, 0) := by
    rw [hB]
    unfold dWrites
    rw [h2, if_pos rfl, h3]
  have hfind : mFind (nm ++ [43]) [⟨nm, b, s, t⟩, ⟨nm ++ [43], bs, bs.length, true⟩] = some ⟨nm ++ [43], bs, bs.length, true⟩ := by rw [mFind, if_neg plus_ne, mFind, if_pos rfl]
  unfold dRenew
  rw [hB', if_pos rfl]
  unfold dMove
  rw [if_neg nf, if_neg (by rw [hfind]; nofun), if_neg (by rw [hm]; decide)]
  by_cases h4 : f = 2
  · subst h4
    exact .inr ⟨[⟨nm ++ [43], bs, bs.length, true⟩], max (max (2 - 1) (-1) - 1) (-1), o + 2, by rw [if_pos (show max (max ((2 : Int) - 1) (-1) - 1) (-1) = 0 by decide)]⟩
  · rw [if_neg (by show ¬ max (max (f - 1) (-1) - 1) (-1) = 0; omega)]
    have : mMove (nm ++ [43]) nm [⟨nm, b, s, t⟩, ⟨nm ++ [43], bs, bs.length, true⟩] = [⟨nm, bs, bs.length, true⟩] := by
      unfold mMove
      rw [hfind]
      show mPut ⟨nm, bs, bs.length, true⟩ (mDel (nm ++ [43]) _) = _
      rw [mDel, if_neg plus_ne, mDel, if_pos rfl, mPut, if_pos rfl]
    rw [this]
    exact .inl ⟨_, _, rfl⟩
theorem crash_part {nm b x : List Nat} {V : List FV} {l : Int} {d : Bool} {o : Nat} {keep : Int} :
    dCrash keep ⟨⟨nm, b ++ x, b.length, true⟩ :: V, l, d, o⟩ = ⟨⟨nm, (b ++ x).take (b.length + min keep.toNat x.length), b.length + min keep.toNat x.length, true⟩ :: V.filterMap (mCrash keep), -1, false, o⟩ := by
  unfold dCrash
  rw [List.filterMap_cons]
  have : mCrash keep ⟨nm, b ++ x, b.length, true⟩ = some ⟨nm, (b ++ x).take (b.length + min keep.toNat x.length), b.length + min keep.toNat x.length, true⟩ := by
    unfold mCrash
    rw [if_neg (by simp)]
    have e : kept keep (b ++ x).length b.length = b.length + min keep.toNat x.length := by unfold kept; rw [List.length_append]; omega
    show some (⟨nm, (b ++ x).take (kept keep (b ++ x).length b.length), kept keep (b ++ x).length b.length, true⟩ : FV) = _
    rw [e]
  rw [this]
theorem recs_take : ∀ (L : List El) (k : Nat), (recs L).take (k * 3) = recs (L.take k)
  | [], k => by simp [recs]
  | e :: L, 0 => by simp [recs]
  | e :: L, k + 1 => by
    rw [List.take_succ_cons, recs, recs, ← recs_take L k, List.take_append]
    rw [List.take_of_length_le (by simp; omega), show (k + 1) * 3 - (elCells e).length = k * 3 by simp; omega]
theorem recs_drop : ∀ (L : List El) (k : Nat), (recs L).drop (k * 3) = recs (L.drop k)
  | [], k => by simp [recs]
  | e :: L, 0 => by simp
  | e :: L, k + 1 => by
    rw [List.drop_succ_cons, recs, ← recs_drop L k, List.drop_append]
    rw [List.drop_eq_nil_of_le (by simp; omega), show (k + 1) * 3 - (elCells e).length = k * 3 by simp; omega, List.nil_append]
/-- A part of a row of records. -/
theorem slR {σ : H} {F : Nat → Prop} {a : SA} {L : List El} (h : RL σ F a L) {lo hi : Option AV} (l u : Nat) (hlo : Bd lo 0 l) (hhi : Bd hi L.length u) (h1 : l ≤ u) (h2 : u ≤ L.length) {K : AV → Bool}
    (hK : ∀ a', RL σ F a' ((L.take u).drop l) → K (.sl a' ((L.take u).drop l).length) = true) : sliceK Try.prog 34 (.sl a L.length) lo hi none K = true := by
  unfold sliceK
  rw [Try.underlying34]
  simp only
  have hlen : ((L.take u).drop l).length = u - l := by rw [List.length_drop, List.length_take]; omega
  have is' : IsRs σ ((L.take u).drop l) := fun e he => h.is e (List.mem_of_mem_take (List.mem_of_mem_drop he))
  have fi' : ∀ e ∈ (L.take u).drop l, FineE e.2.2 := fun e he => h.fine e (List.mem_of_mem_take (List.mem_of_mem_drop he))
  rcases h.rw with ⟨rfl, h3, h4⟩ | ⟨rfl, h3, h4⟩ | ⟨id, off, xs, md, rfl, h3, h4, h5⟩
  · obtain rfl : u = 0 := by omega
    obtain rfl : l = 0 := by omega
    rw [h3] at hhi
    refine bif_pos (by simpa using h3) (St.boundK_of (.inl ⟨rfl, rfl⟩) (Nat.le_refl _) (Nat.le_refl _) (St.boundK_of hhi (Nat.le_refl _) (Nat.le_refl _) (St.boundK_of hlo (Nat.le_refl _) (Nat.le_refl _) ?_)))
    have := hK .nil ⟨by rw [hlen]; exact .inl ⟨rfl, rfl, by simp [recs]⟩, (fun _ _ _ e => by cases e), is', fi'⟩
    rw [hlen] at this
    exact this
  · obtain rfl : u = 0 := by omega
    obtain rfl : l = 0 := by omega
    rw [h3] at hhi
    refine bif_pos (by simpa using h3) (St.boundK_of (.inl ⟨rfl, rfl⟩) (Nat.le_refl _) (Nat.le_refl _) (St.boundK_of hhi (Nat.le_refl _) (Nat.le_refl _) (St.boundK_of hlo (Nat.le_refl _) (Nat.le_refl _) ?_)))
    have := hK .zero ⟨by rw [hlen]; exact .inr (.inl ⟨rfl, rfl, by simp [recs]⟩), (fun _ _ _ e => by cases e), is', fi'⟩
    rw [hlen] at this
    exact this
  · simp only
    rw [show ∀ K, esizeK Try.prog 38 K = K 3 from fun _ => rfl]
    refine bif_pos (by simp) (St.boundK_of (.inl ⟨rfl, rfl⟩) (Nat.zero_le _) (Nat.le_refl _) (St.boundK_of hhi (Nat.zero_le _) h2 (St.boundK_of hlo (Nat.zero_le _) h1 ?_)))
    have := hK (.at id (off + l * 3) 3) ⟨.inr (.inr ⟨id, off + l * 3, xs, md, rfl, h3, by rw [hlen]; omega, ?_⟩), (fun _ _ _ e hF => by cases e; exact h.off _ _ _ rfl hF), is', fi'⟩
    · rw [hlen] at this
      exact this
    · rw [hlen, ← recs_drop, ← recs_take, ← h5, List.take_take, Nat.min_eq_left (by omega), ← List.drop_drop, List.drop_take, Nat.sub_mul]
end Go.Proofs.Ytahhajakgakdhaa
