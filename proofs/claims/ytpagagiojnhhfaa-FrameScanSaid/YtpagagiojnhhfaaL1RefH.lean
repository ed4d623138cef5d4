/- The reference's GetRec. -/
import Derived.Test.YtpagagiojnhhfaaL1RefG
namespace Go.Proofs.Ytpagagiojnhhfaa
open Go Go.AM Go.AM.St
attribute [local irreducible] IntKind.wrap Int.fdiv Int.tdiv Int.tmod BitVec.ofInt appendK sliceK indexAddrK ldK storeK seenK makeSliceK
set_option maxRecDepth 100000
variable {D : Drawer}

theorem ableAt_small {n m : Nat} {q : Int} (hn : 1101 ≤ n) (hq : q = (m : Int)) (hm : m ≤ 1000) {bs : List Nat} (hl : bs.length < 1000000) (hD : ByPlan Try.prog D) (hb : ∀ b ∈ bs, b < 256) : AbleAt D (n - 1) (fun b => ableN b m) 0 q bs :=
  fun r hK => able_spec (by omega) hq hm hl hD r hb hK
theorem cntQ_spec {n : Nat} {a : SA} {bs : List Nat} {rid m : Nat} {q : Int} {s s' : Rd} (hn : bs.length + 1200 ≤ n) (hl : bs.length < 1000000) (hq : q = (m : Int)) (hm : m < 256) (hD : ByPlan Try.prog D) {σ : H}
    (ha : Rw σ 1 a bs.length (u8s bs)) (hb : ∀ b ∈ bs, b < 256) (hr : σ[rid]? = some (qrow a bs.length s)) (hs : SimQ bs s s') {K : AV → H → Bool}
    (hK : ∀ σ' t, σ <+: σ' → SimQ bs t (cntR bs m s').2 → K (.int .i64 (cntR bs m s').1) (σ'.set rid (qrow a bs.length t)) = true) : acall Try.prog tab D n 63 [.ptr (some ⟨rid, 0, 0, 4⟩), .int .i64 0, .int .i64 q] σ K = true := by
  have h := cntR_rel hb hs hm
  rw [← hq] at h
  have hab : AbleAt D (n - 1) (fun b => ableN b m) 0 q (bs.drop s.pos) := ableAt_small (by omega) hq (by omega) (by rw [List.length_drop]; omega) hD (fun b h => hb b (List.mem_of_mem_drop h))
  refine numQ_spec (ab := fun b => ableN b m) (by omega) hl hab hD ha hb hr hs.2.2.1 hs.2.2.2 fun σ' hp => ?_
  have h2 := hK σ' _ hp h.1
  rw [← h.2] at h2
  exact h2
theorem numV_spec {n : Nat} {a : SA} {bs : List Nat} {rid : Nat} {x y : Int} {s s' : Rd} (hn : bs.length + 1200 ≤ n) (hl : bs.length < 1000000) (hx : x = -9223372036854775808) (hy : y = 9223372036854775807) (hD : ByPlan Try.prog D) {σ : H}
    (ha : Rw σ 1 a bs.length (u8s bs)) (hb : ∀ b ∈ bs, b < 256) (hr : σ[rid]? = some (qrow a bs.length s)) (hs : SimQ bs s s') {K : AV → H → Bool}
    (hK : ∀ σ' t v, σ <+: σ' → SimQ bs t (numR bs 18446744073709551615 s').2 → (t.err = 0 → v = (numR bs 18446744073709551615 s').1) → K (.int .i64 v) (σ'.set rid (qrow a bs.length t)) = true) : acall Try.prog tab D n 63 [.ptr (some ⟨rid, 0, 0, 4⟩), .int .i64 x, .int .i64 y] σ K = true := by
  have h := numR_rel hs
  rw [← hx, ← hy] at h
  exact numQ_spec (by omega) hl (fun r hK => ableAll_spec (by omega) hx hy (hK _ (List.prefix_refl _))) hD ha hb hr hs.2.2.1 hs.2.2.2 fun σ' hp => hK σ' _ _ hp h.1 h.2
theorem txtV_spec {n : Nat} {a : SA} {bs : List Nat} {rid : Nat} {y : Int} {t s' : Rd} (hn : 1 ≤ n) (hl : bs.length < 1000000) (hy : y = (cntR bs 200 s').1) (hD : ByPlan Try.prog D) {σ : H} (ha : Rw σ 1 a bs.length (u8s bs)) (hb : ∀ b ∈ bs, b < 256)
    (hr : σ[rid]? = some (qrow a bs.length t)) (hs : SimQ bs t (cntR bs 200 s').2) {K : AV → H → Bool}
    (hK : ∀ u, SimQ bs u (txtR bs s').2 → K (.str (ints (txtR bs s').1)) (σ.set rid (qrow a bs.length u)) = true) : acall Try.prog tab D n 64 [.ptr (some ⟨rid, 0, 0, 4⟩), .int .i64 y] σ K = true := by
  have hc := cntR_range (bs := bs) (m := 200) (s := s')
  obtain ⟨c, rfl⟩ : ∃ c : Nat, y = (c : Int) := ⟨y.toNat, by omega⟩
  have h := txtR_rel hs hy
  refine rtext_spec hn hl (by omega) rfl hD ha hb hr hs.2.2.1 hs.2.2.2 ?_
  rw [h.2]
  exact hK _ h.1

theorem bif_case_q {c a b : Bool} (qpos : c = true → a = true) (qneg : c = false → b = true) : (bif c then a else b) = true := bif_case qpos qneg
theorem bif_case_a {c a b : Bool} (apos : c = true → a = true) (aneg : c = false → b = true) : (bif c then a else b) = true := bif_case apos aneg
theorem bif_case_b {c a b : Bool} (bpos : c = true → a = true) (bneg : c = false → b = true) : (bif c then a else b) = true := bif_case bpos bneg
theorem bif_case_r {c a b : Bool} (rpos : c = true → a = true) (rneg : c = false → b = true) : (bif c then a else b) = true := bif_case rpos rneg
theorem bif_case_c {c a b : Bool} (cpos : c = true → a = true) (cneg : c = false → b = true) : (bif c then a else b) = true := bif_case cpos cneg
theorem bif_case_d {c a b : Bool} (dpos : c = true → a = true) (dneg : c = false → b = true) : (bif c then a else b) = true := bif_case dpos dneg
theorem set_new (τ : H) (x y : AO) : (τ ++ [x]).set τ.length y = τ ++ [y] := by
  rw [List.set_append_right _ _ (Nat.le_refl _), Nat.sub_self, List.set_cons_zero]
set_option maxHeartbeats 4000000 in
theorem rrecGet_spec {n : Nat} {a : SA} {bs : List Nat} (hn : bs.length + 1300 ≤ n) (hl : bs.length < 1000000) (hD : ByPlan Try.prog D) {σ : H} (ha : Rw σ 1 a bs.length (u8s bs)) (hb : ∀ b ∈ bs, b < 256) {K : AV → H → Bool}
    (hK : ∀ a' b' σ', σ <+: σ' → IsR σ' a' b' (recGet bs).1 → K (.tup [recV a' b' (recGet bs).1, .int .i64 ((recGet bs).2.1 : Nat), .int .i64 ((recGet bs).2.2 : Nat)]) σ' = true) :
    acall Try.prog tab D n 60 [.sl a bs.length] σ K = true := by
  obtain ⟨n, rfl, hn⟩ := up hn
  have hG : recGet bs = recGetF bs (cntR bs 255 ⟨0, 0⟩) := rfl
  have g0 := get_old (get_new σ (AO.cells [AV.int .i64 0, .sl .nil 0, .sl .nil 0] 3 .own)) (qrow a bs.length ⟨0, 0⟩)
  have g1 := get_new (σ ++ [AO.cells [AV.int .i64 0, .sl .nil 0, .sl .nil 0] 3 .own]) (qrow a bs.length ⟨0, 0⟩)
  have pf : σ <+: σ ++ [AO.cells [AV.int .i64 0, .sl .nil 0, .sl .nil 0] 3 .own] ++ [qrow a bs.length ⟨0, 0⟩] := List.IsPrefix.trans (List.prefix_append _ _) (List.prefix_append _ _)
  have hL1 : (σ ++ [AO.cells [AV.int .i64 0, .sl .nil 0, .sl .nil 0] 3 .own]).length = σ.length + 1 := by simp
  have hc1 := cntR_range (bs := bs) (m := 255) (s := ⟨0, 0⟩)
  conv => lhs; whnf
  refine cntQ_spec (m := 255) (s := ⟨0, 0⟩) (s' := ⟨0, 0⟩) (by omega) hl rfl (by decide) hD (ha.mono pf) hb g1 ⟨rfl, fun _ => rfl, Nat.zero_le _, by decide⟩ fun σ1 t1 hq1 hs1 => ?_
  generalize cntR bs 255 ⟨0, 0⟩ = c1 at hG hc1 hs1 ⊢
  have R0 := get_set_ne (prefix_get hq1 g0) (j := (σ ++ [AO.cells [AV.int .i64 0, .sl .nil 0, .sl .nil 0] 3 .own]).length) (by rw [hL1]; omega) (qrow a bs.length t1)
  have R1 := get_set (prefix_get hq1 g1) (qrow a bs.length t1)
  have PF := prefix_set (pf.trans hq1) (by rw [hL1]; omega) (id := (σ ++ [AO.cells [AV.int .i64 0, .sl .nil 0, .sl .nil 0] 3 .own]).length) (qrow a bs.length t1)
  have hi0 : σ.length < (σ ++ [AO.cells [AV.int .i64 0, .sl .nil 0, .sl .nil 0] 3 .own]).length := by rw [hL1]; omega
  clear g0 g1 pf hL1
  generalize σ1.set (σ ++ [AO.cells [AV.int .i64 0, .sl .nil 0, .sl .nil 0] 3 .own]).length (qrow a bs.length t1) = τ1 at *
  have hi1 := get_lt R1
  conv => lhs; whnf
  refine storeS rfl (get_new _ _) rfl rfl (Nat.le_refl 3) rfl ?_
  conv => lhs; whnf
  have G0 := get_old R0 (AO.cells [AV.int .i64 c1.1, .sl .nil 0, .sl .nil 0] 3 .own)
  have G1 := get_old R1 (AO.cells [AV.int .i64 c1.1, .sl .nil 0, .sl .nil 0] 3 .own)
  have G2 := get_new τ1 (AO.cells [AV.int .i64 c1.1, .sl .nil 0, .sl .nil 0] 3 .own)
  have PG := prefix_add PF (AO.cells [AV.int .i64 c1.1, .sl .nil 0, .sl .nil 0] 3 .own)
  rw [← set_new τ1 (AO.cells [AV.int .i64 0, .sl .nil 0, .sl .nil 0] 3 .own)] at G0 G1 G2 PG
  have hc2 := cntR_range (bs := bs) (m := 40) (s := c1.2)
  refine cntQ_spec (n := n) (m := 40) (s := t1) (s' := c1.2) (by omega) hl rfl (by decide) hD (ha.mono PG) hb G1 hs1 fun σ2 t2 hq2 hs2 => ?_
  have hG : recGet bs = recGetG bs c1 (cntR bs 40 c1.2) := hG
  generalize cntR bs 40 c1.2 = c2 at hG hc2 hs2 ⊢
  have hG : recGet bs = recGetH bs c1 (numsR bs c2.1.toNat c2.2) := hG
  obtain ⟨N, hN⟩ : ∃ N : Nat, c2.1 = (N : Int) := ⟨c2.1.toNat, by omega⟩
  rw [hN, Int.toNat_natCast] at hG
  rw [hN] at hc2 ⊢
  have hN40 : N ≤ 40 := by omega
  have G0' := get_set_ne (prefix_get hq2 G0) (j := (σ ++ [AO.cells [AV.int .i64 0, .sl .nil 0, .sl .nil 0] 3 .own]).length) (Nat.ne_of_lt hi0) (qrow a bs.length t2)
  have G1' := get_set (prefix_get hq2 G1) (qrow a bs.length t2)
  have G2' := get_set_ne (prefix_get hq2 G2) (j := (σ ++ [AO.cells [AV.int .i64 0, .sl .nil 0, .sl .nil 0] 3 .own]).length) (Nat.ne_of_gt hi1) (qrow a bs.length t2)
  have PG' := prefix_set (PG.trans hq2) (Nat.le_of_lt hi0) (id := (σ ++ [AO.cells [AV.int .i64 0, .sl .nil 0, .sl .nil 0] 3 .own]).length) (qrow a bs.length t2)
  clear G0 G1 G2 PG R0 R1 PF hq1 hq2
  generalize τ1.length = i2 at *
  generalize σ2.set (σ ++ [AO.cells [AV.int .i64 0, .sl .nil 0, .sl .nil 0] 3 .own]).length (qrow a bs.length t2) = τ2 at *
  conv => lhs; whnf
  refine loop_rule (m := 228) (fun q fr τ => ∃ (z : Int) (i i0 i1 i2 : Nat) (t : Rd) (o : Option Nat) (c : SA) (vs : List Int), z = (q : Int) ∧ i + q = N ∧
      fr = [.bad, .bad, .ptr (some ⟨i0, 0, 0, 3⟩), .bad, .bad, .ptr (some ⟨i1, 0, 0, 4⟩), .ptr (some ⟨i2, 0, 0, 3⟩), .int .i64 z, .bad, .bad, .bad, .bad, .bad, .bad, .bad, .bad, .bad, .bad, .bad, .bad, .bad, .bad, .bad, .bad, .bad, .bad, .bad, .bad, .bad, .bad, .bad, .bad, .bad, .bad, .bad, .bad, .bad, .bad, .bad, .bad, .bad, .bad, .bad, .bad, .bad, .bad, .bad, .bad, .bad, .bad, .bad, .bad, .bad, .bad, .bad, .bad, .bad, .bad, .bad, .bad, .bad, .bad, .bad, .bad, .bad, .bad, .bad, .bad, .bad, .bad, .bad, .bad, .bad, .bad, .bad, .bad, .bad, .bad, .bad, .bad, .bad, .bad, .bad, .bad, .bad, .bad, .bad, .bad] ∧
      σ <+: τ ∧ σ.length ≤ i0 ∧ i0 < i1 ∧ i1 < i2 ∧ (∀ id, o = some id → i2 < id) ∧ i2 < τ.length ∧
      SimQ bs t (numsR bs i c2.2).2 ∧ vs.length = i ∧ (t.err = 0 → vs = (numsR bs i c2.2).1) ∧
      τ[i0]? = some (AO.cells [AV.int .i64 0, .sl .nil 0, .sl .nil 0] 3 .own) ∧ τ[i1]? = some (qrow a bs.length t) ∧
      τ[i2]? = some (AO.cells [AV.int .i64 c1.1, .sl c vs.length, .sl .nil 0] 3 .own) ∧
      Own σ τ 1 o c vs.length (iks .i64 vs)) ?_ _ N _ _ (by omega)
      ⟨_, 0, σ.length, _, i2, t2, none, .nil, [], rfl, by omega, rfl, PG', Nat.le_refl _, hi0, hi1, nofun, get_lt G2', hs2, rfl, fun _ => rfl, G0', G1', G2', Own.nil _ _ _⟩
  clear G0' G1' G2' PG' hi0 hi1 hs1 hs2
  rintro q fr τ C ⟨z, i, i0, i1, i2, t, o, c, vs, rfl, hi, rfl, hpf, h0, h1, h2, ho, hlt2, hs, hv1, hv2, R0, R1, R2, hown⟩ next fin
  conv => lhs; whnf
  apply bif_case_q <;> intro hq
  case' qpos =>
    have hq : 0 < q := by simpa using hq
    conv => lhs; whnf
    refine ldF rfl rfl rfl R1 rfl ?_
    conv => lhs; whnf
    apply bif_case_a <;> intro he2
    case' aneg =>
      have he2 : ¬ t.err = 2 := by simpa using he2
      conv => lhs; whnf
      refine ldF rfl rfl rfl R1 rfl ?_
      conv => lhs; whnf
      apply bif_case_b <;> intro he1
      case' bneg =>
        have he1 : ¬ t.err = 1 := by simpa using he1
        have he : t.err = 0 := by have := hs.2.2.2; omega
        have hvs := hv2 he
        have hsn := numsR_succ bs i c2.2
        have hlen2 := numsR_len bs (i + 1) c2.2
        conv => lhs; whnf
        refine hD.go plan60x6 ord60x6 ?_
        conv => lhs; whnf
        refine ldF rfl rfl rfl R2 rfl ?_
        conv => lhs; whnf
        refine numV_spec (by omega) hl rfl rfl hD (ha.mono hpf) hb R1 hs fun σ3 u v hq3 hsu hvu => ?_
        have Pa := prefix_set (hpf.trans hq3) (by omega) (id := i1) (qrow a bs.length u)
        have R0a := get_set_ne (prefix_get hq3 R0) (j := i1) (by omega) (qrow a bs.length u)
        have R1a := get_set (prefix_get hq3 R1) (qrow a bs.length u)
        have R2a := get_set_ne (prefix_get hq3 R2) (j := i1) (by omega) (qrow a bs.length u)
        have Oa := (hown.mono hq3).keep (keep_set σ3 i1 (qrow a bs.length u)) (by
          cases o with
          | none => exact .inl rfl
          | some id => exact .inr fun e => by cases e; have := ho _ rfl; omega)
        have hla := get_lt R2a
        generalize σ3.set i1 (qrow a bs.length u) = τa at *
        conv => lhs; whnf
        refine and_true (all_cons ?_ rfl) ?_
        · conv => lhs; whnf
          refine ldF rfl rfl rfl R2a rfl ?_
          exact same_sl c _
        conv => lhs; whnf
        refine and_true (all_cons ?_ rfl) ?_
        · conv => lhs; whnf
          refine ldF rfl rfl rfl (get_old R2a _) rfl ?_
          exact same_sl c _
        conv => lhs; whnf
        have hla' : i2 < (τa ++ [AO.cells [AV.int .i64 v] 1 .own]).length := by rw [List.length_append]; omega
        have hrx : Rw (τa ++ [AO.cells [AV.int .i64 v] 1 .own]) 1 (.at τa.length 0 1) [v].length (iks .i64 [v]) := Rw.new _ _ rfl
        refine it42.app (prefix_add Pa _) (o := o) (Oa.mono (List.prefix_append _ _)) hrx (vs ++ [v]) rfl (by rw [List.length_append, List.length_singleton]; omega) fun o' c' σ' p' hk ho1 ho2 own' => ?_
        have ho' : ∀ id, o' = some id → i2 < id := fun id e => by
          cases o with
          | none =>
            rcases ho2 rfl with h | h
            · rw [h] at e; cases e
            · rw [h] at e; cases e; exact hla'
          | some j => rw [ho1 j rfl] at e; exact ho _ e
        have hne : ∀ j, j ≤ i2 → some j ≠ o := fun j hj e => by have := ho j e.symm; omega
        have R0b := hk _ _ (hne i0 (by omega)) (get_old R0a (AO.cells [AV.int .i64 v] 1 .own))
        have R1b := hk _ _ (hne i1 (by omega)) (get_old R1a (AO.cells [AV.int .i64 v] 1 .own))
        have R2b := hk _ _ (hne i2 (by omega)) (get_old R2a (AO.cells [AV.int .i64 v] 1 .own))
        conv => lhs; whnf
        refine storeK_of rfl rfl (by decide) R2b rfl (Nat.le_succ 2) ?_
        conv => lhs; whnf
        have ed : IntKind.i64.wrap ((q : Int) - 1) = ((q - 1 : Nat) : Int) := by rw [wrap_i64 (by omega) (by omega)]; omega
        refine next (q - 1) _ _ (by omega) ⟨_, i + 1, i0, i1, i2, u, o', c', vs ++ [v], ed, by omega, rfl, prefix_set p' (by omega) _, h0, h1, h2, ho', ?_, ?_, by rw [List.length_append, List.length_singleton, hv1], ?_, get_set_ne R0b (by omega) _, get_set_ne R1b (by omega) _, get_set R2b _, own'.keep (keep_set _ _ _) ?_⟩
        · rw [List.length_set]; exact get_lt R2b
        · rw [hsn]; exact hsu
        · intro hu; rw [hsn, hvu hu, hvs]
        · cases o' with
          | none => exact .inl rfl
          | some id => exact .inr fun e => by cases e; have := ho' _ rfl; omega
      case' bpos =>
        have he1 : t.err = 1 := by simpa using he1
        have hend : t.err ≠ 0 ∨ i = N := .inl (by omega)
        conv => lhs; whnf
    case' apos =>
      have he2 : t.err = 2 := by simpa using he2
      have hend : t.err ≠ 0 ∨ i = N := .inl (by omega)
      conv => lhs; whnf
  case' qneg =>
    have hq : ¬ 0 < q := by simpa using hq
    have hend : t.err ≠ 0 ∨ i = N := .inr (by omega)
    conv => lhs; whnf
  all_goals
    clear next
    have hse : SimQ bs t (numsR bs N c2.2).2 ∧ (t.err = 0 → vs = (numsR bs N c2.2).1) := by
      rcases hend with h | h
      · obtain ⟨j, rfl⟩ : ∃ j, N = i + j := ⟨q, hi.symm⟩
        have hst := numsR_stick bs (i := i) (s := c2.2) (by rw [← hs.1]; exact h) j
        exact ⟨⟨by rw [hst]; exact hs.1, fun e => absurd e h, hs.2.2⟩, fun e => absurd e h⟩
      · subst h
        exact ⟨hs, hv2⟩
    refine fin _ _ _ nofun ?_
    conv => lhs; whnf
    generalize numsR bs N c2.2 = ns at hG hse
    obtain ⟨hse, hvn⟩ := hse
    have hG : recGet bs = recGetI bs c1 ns (cntR bs 40 ns.2) := hG
    have hc3 := cntR_range (bs := bs) (m := 40) (s := ns.2)
    refine cntQ_spec (m := 40) (s := t) (s' := ns.2) (by omega) hl rfl (by decide) hD (ha.mono hpf) hb R1 hse fun σ3 t3 hq3 hs3 => ?_
    have hck : (cntR bs 40 ns.2).2.err = 0 → ns.2.err = 0 := fun h => by
      by_cases h0 : ns.2.err = 0
      · exact h0
      · rw [cntR_e h0] at h; exact h
    generalize cntR bs 40 ns.2 = c3 at hG hc3 hs3 hck ⊢
    obtain ⟨M, hM⟩ : ∃ M : Nat, c3.1 = (M : Int) := ⟨c3.1.toNat, by omega⟩
    have hG : recGet bs = recGetJ c1 ns (txtsR bs M c3.2) := by rw [hG, recGetI, hM, Int.toNat_natCast]
    rw [hM] at hc3 ⊢
    have hM40 : M ≤ 40 := by omega
    have R0c := get_set_ne (prefix_get hq3 R0) (j := i1) (by omega) (qrow a bs.length t3)
    have R1c := get_set (prefix_get hq3 R1) (qrow a bs.length t3)
    have R2c := get_set_ne (prefix_get hq3 R2) (j := i1) (by omega) (qrow a bs.length t3)
    have Pc := prefix_set (hpf.trans hq3) (by omega) (id := i1) (qrow a bs.length t3)
    have Oc := (hown.mono hq3).keep (keep_set σ3 i1 (qrow a bs.length t3)) (by
      cases o with
      | none => exact .inl rfl
      | some id => exact .inr fun e => by cases e; have := ho _ rfl; omega)
    have hlc := get_lt R2c
    generalize σ3.set i1 (qrow a bs.length t3) = τ3 at *
    have hoc : ∀ id, o = some id → id < τ3.length := by
      intro id e
      subst e
      obtain ⟨off, xs, md, _, _, h3, _⟩ := Oc
      exact get_lt h3
    have hte : t3.err = 0 → vs = ns.1 := fun h => hvn (by rw [hse.1]; exact hck (by rw [← hs3.1]; exact h))
    conv => lhs; whnf
    refine loop_rule (m := 356) (fun q fr τ => ∃ (z : Int) (i : Nat) (t : Rd) (o2 : Option Nat) (d : SA) (ws : List (List Nat)), z = (q : Int) ∧ i + q = M ∧
        fr = [.bad, .bad, .ptr (some ⟨i0, 0, 0, 3⟩), .bad, .bad, .ptr (some ⟨i1, 0, 0, 4⟩), .ptr (some ⟨i2, 0, 0, 3⟩), .bad, .int .i64 z, .bad, .bad, .bad, .bad, .bad, .bad, .bad, .bad, .bad, .bad, .bad, .bad, .bad, .bad, .bad, .bad, .bad, .bad, .bad, .bad, .bad, .bad, .bad, .bad, .bad, .bad, .bad, .bad, .bad, .bad, .bad, .bad, .bad, .bad, .bad, .bad, .bad, .bad, .bad, .bad, .bad, .bad, .bad, .bad, .bad, .bad, .bad, .bad, .bad, .bad, .bad, .bad, .bad, .bad, .bad, .bad, .bad, .bad, .bad, .bad, .bad, .bad, .bad, .bad, .bad, .bad, .bad, .bad, .bad, .bad, .bad, .bad, .bad, .bad, .bad, .bad, .bad, .bad, .bad] ∧
        σ <+: τ ∧ (∀ id, o2 = some id → i2 < id ∧ o ≠ o2) ∧ i2 < τ.length ∧ (∀ id, o = some id → id < τ.length) ∧
        SimQ bs t (txtsR bs i c3.2).2 ∧ ws.length = i ∧ (t.err = 0 → vs = ns.1) ∧ ws = (txtsR bs i c3.2).1 ∧
        τ[i0]? = some (AO.cells [AV.int .i64 0, .sl .nil 0, .sl .nil 0] 3 .own) ∧ τ[i1]? = some (qrow a bs.length t) ∧
        τ[i2]? = some (AO.cells [AV.int .i64 c1.1, .sl c vs.length, .sl d ws.length] 3 .own) ∧
        Own σ τ 1 o c vs.length (iks .i64 vs) ∧ Own σ τ 1 o2 d ws.length (txs ws)) ?_ _ M _ _ (by omega)
        ⟨_, 0, t3, none, .nil, [], rfl, by omega, rfl, Pc, nofun, hlc, hoc, hs3, rfl, hte, rfl, R0c, R1c, R2c, Oc, Own.nil _ _ _⟩
    clear fin R0 R1 R2 hown hpf hlt2 R0c R1c R2c Pc Oc hlc
    rintro q2 fr τ' C2 ⟨z, i, t, o2, d, ws, rfl, hi, rfl, hpf, ho2, hlt2, hoL, hs, hw1, hv, hw2, R0, R1, R2, hown, hown2⟩ next fin
    conv => lhs; whnf
    have ne1 : ∀ {o : Option Nat}, (∀ id, o = some id → i2 < id) → ∀ j, j ≤ i2 → o = none ∨ o ≠ some j := fun {o} ho j hj => by
      cases o with
      | none => exact .inl rfl
      | some id => exact .inr fun e => by cases e; have := ho _ rfl; omega
    have ho2' : ∀ id, o2 = some id → i2 < id := fun id e => (ho2 id e).1
    apply bif_case_r <;> intro hq
    case' rpos =>
      have hq : 0 < q2 := by simpa using hq
      conv => lhs; whnf
      refine ldF rfl rfl rfl R1 rfl ?_
      conv => lhs; whnf
      apply bif_case_c <;> intro he2
      case' cneg =>
        have he2 : ¬ t.err = 2 := by simpa using he2
        conv => lhs; whnf
        refine ldF rfl rfl rfl R1 rfl ?_
        conv => lhs; whnf
        apply bif_case_d <;> intro he1
        case' dneg =>
          have he1 : ¬ t.err = 1 := by simpa using he1
          have he : t.err = 0 := by have := hs.2.2.2; omega
          have hvs := hv he
          have hsn := txtsR_succ bs i c3.2
          have hcv := cntR_range (bs := bs) (m := 200) (s := (txtsR bs i c3.2).2)
          conv => lhs; whnf
          refine hD.go plan60x10 ord60x10 ?_
          conv => lhs; whnf
          refine ldF rfl rfl rfl R2 rfl ?_
          conv => lhs; whnf
          refine cntQ_spec (m := 200) (by omega) hl rfl (by decide) hD (ha.mono hpf) hb R1 hs fun σ4 t4 hq4 hs4 => ?_
          have Pa := prefix_set (hpf.trans hq4) (by omega) (id := i1) (qrow a bs.length t4)
          have R0a := get_set_ne (prefix_get hq4 R0) (j := i1) (by omega) (qrow a bs.length t4)
          have R1a := get_set (prefix_get hq4 R1) (qrow a bs.length t4)
          have R2a := get_set_ne (prefix_get hq4 R2) (j := i1) (by omega) (qrow a bs.length t4)
          have Oa := (hown.mono hq4).keep (keep_set σ4 i1 (qrow a bs.length t4)) (ne1 ho i1 (by omega))
          have Oa2 := (hown2.mono hq4).keep (keep_set σ4 i1 (qrow a bs.length t4)) (ne1 ho2' i1 (by omega))
          have hlo : ∀ id, o = some id → id < (σ4.set i1 (qrow a bs.length t4)).length := fun id e => by rw [List.length_set]; exact Nat.lt_of_lt_of_le (hoL id e) hq4.length_le
          generalize σ4.set i1 (qrow a bs.length t4) = τ4 at *
          conv => lhs; whnf
          refine and_true (all_cons ?_ rfl) ?_
          · conv => lhs; whnf
            refine ldF rfl rfl rfl R2a rfl ?_
            exact same_sl d _
          conv => lhs; whnf
          refine txtV_spec (by omega) hl rfl hD (ha.mono Pa) hb R1a hs4 fun u hsu => ?_
          have Pb := prefix_set Pa (by omega) (id := i1) (qrow a bs.length u)
          have R0b := get_set_ne R0a (j := i1) (by omega) (qrow a bs.length u)
          have R1b := get_set R1a (qrow a bs.length u)
          have R2b := get_set_ne R2a (j := i1) (by omega) (qrow a bs.length u)
          have Ob := Oa.keep (keep_set τ4 i1 (qrow a bs.length u)) (ne1 ho i1 (by omega))
          have Ob2 := Oa2.keep (keep_set τ4 i1 (qrow a bs.length u)) (ne1 ho2' i1 (by omega))
          have hlo2 : ∀ id, o = some id → id < (τ4.set i1 (qrow a bs.length u)).length := fun id e => by rw [List.length_set]; exact hlo id e
          generalize hx : (txtR bs (txtsR bs i c3.2).2) = x at *
          generalize τ4.set i1 (qrow a bs.length u) = τ5 at *
          have hl5 := get_lt R2b
          conv => lhs; whnf
          refine and_true (all_cons ?_ rfl) ?_
          · conv => lhs; whnf
            refine ldF rfl rfl rfl R2b rfl ?_
            exact same_sl d _
          conv => lhs; whnf
          refine and_true (all_cons ?_ rfl) ?_
          · conv => lhs; whnf
            refine ldF rfl rfl rfl (get_old R2b _) rfl ?_
            exact same_sl d _
          conv => lhs; whnf
          have hl5' : i2 < (τ5 ++ [AO.cells [AV.str (ints x.1)] 1 .own]).length := by rw [List.length_append]; omega
          have hrx : Rw (τ5 ++ [AO.cells [AV.str (ints x.1)] 1 .own]) 1 (.at τ5.length 0 1) [x.1].length (txs [x.1]) := Rw.new _ _ rfl
          refine tt43.app (prefix_add Pb _) (o := o2) (Ob2.mono (List.prefix_append _ _)) hrx (ws ++ [x.1]) rfl (by rw [List.length_append, List.length_singleton]; omega) fun o' d' σ' p' hk h'1 h'2 own' => ?_
          have ho' : ∀ id, o' = some id → i2 < id ∧ o ≠ o' := fun id e => by
            cases o2 with
            | none =>
              rcases h'2 rfl with h | h
              · rw [h] at e; cases e
              · rw [h] at e; cases e
                refine ⟨hl5', fun e2 => ?_⟩
                rw [h] at e2
                have := hlo2 _ e2
                rw [List.length_append] at this
                omega
            | some j => rw [h'1 j rfl] at e ⊢; exact ho2 _ e
          have ho'' : ∀ id, o' = some id → i2 < id := fun id e => (ho' id e).1
          have hne : ∀ j, j ≤ i2 → some j ≠ o2 := fun j hj e => by have := ho2' j e.symm; omega
          have R0d := hk _ _ (hne i0 (by omega)) (get_old R0b (AO.cells [AV.str (ints x.1)] 1 .own))
          have R1d := hk _ _ (hne i1 (by omega)) (get_old R1b (AO.cells [AV.str (ints x.1)] 1 .own))
          have R2d := hk _ _ (hne i2 (by omega)) (get_old R2b (AO.cells [AV.str (ints x.1)] 1 .own))
          have Od := (Ob.mono (List.prefix_append τ5 [AO.cells [AV.str (ints x.1)] 1 .own])).keep hk (by
            cases ho2n : o2 with
            | none =>
              cases hon : o with
              | none => exact .inl rfl
              | some id => exact .inr nofun
            | some j => exact .inr (by rw [← ho2n]; exact (ho2 j ho2n).2))
          conv => lhs; whnf
          refine storeK_of rfl rfl (by decide) R2d rfl (Nat.le_refl 3) ?_
          conv => lhs; whnf
          have ed : IntKind.i64.wrap ((q2 : Int) - 1) = ((q2 - 1 : Nat) : Int) := by rw [wrap_i64 (by omega) (by omega)]; omega
          refine next (q2 - 1) _ _ (by omega) ⟨_, i + 1, u, o', d', ws ++ [x.1], ed, by omega, rfl, prefix_set p' (by omega) _, ho', ?_, ?_, ?_, by rw [List.length_append, List.length_singleton, hw1], fun _ => hvs, ?_, get_set_ne R0d (by omega) _, get_set_ne R1d (by omega) _, get_set R2d _, Od.keep (keep_set _ _ _) (ne1 ho i2 (Nat.le_refl _)), own'.keep (keep_set _ _ _) (ne1 ho'' i2 (Nat.le_refl _))⟩
          · rw [List.length_set]; exact get_lt R2d
          · intro id e
            rw [List.length_set]
            subst e
            obtain ⟨off, xs, md, _, _, h3, _⟩ := Od
            exact get_lt h3
          · rw [hsn]; exact hsu
          · rw [hsn, hw2]
        case' dpos =>
          have he1 : t.err = 1 := by simpa using he1
          have hend : t.err ≠ 0 ∨ i = M := .inl (by omega)
          conv => lhs; whnf
      case' cpos =>
        have he2 : t.err = 2 := by simpa using he2
        have hend : t.err ≠ 0 ∨ i = M := .inl (by omega)
        conv => lhs; whnf
    case' rneg =>
      have hq : ¬ 0 < q2 := by simpa using hq
      have hend : t.err ≠ 0 ∨ i = M := .inr (by omega)
      conv => lhs; whnf
    all_goals
      clear next
      have hse : SimQ bs t (txtsR bs M c3.2).2 ∧ (t.err = 0 → ws = (txtsR bs M c3.2).1) := by
        rcases hend with h | h
        · obtain ⟨j, rfl⟩ : ∃ j, M = i + j := ⟨q2, hi.symm⟩
          have hst := txtsR_stick bs (i := i) (s := c3.2) (by rw [← hs.1]; exact h) j
          exact ⟨⟨by rw [hst]; exact hs.1, fun e => absurd e h, hs.2.2⟩, fun e => absurd e h⟩
        · subst h
          exact ⟨hs, fun _ => hw2⟩
      refine fin _ _ _ nofun ?_
      conv => lhs; whnf
      obtain ⟨hst, hws⟩ := hse
      generalize txtsR bs M c3.2 = ts at hG hst hws
      refine ldF rfl rfl rfl R1 rfl ?_
      conv => lhs; whnf
      by_cases he1 : t.err = 1
      · have h2e : ts.2.err = 1 := by rw [← hst.1]; exact he1
        rw [recGetJ, if_pos (by omega), h2e] at hG
        rw [hG] at hK
        refine bif_pos (by simp [he1]) ?_
        conv => lhs; whnf
        refine storeS rfl R0 rfl rfl (Nat.le_refl 3) rfl ?_
        have R0e := get_set R0 (AO.cells [AV.int .i64 0, .sl .nil 0, .sl .nil 0] 3 .own)
        conv => lhs; whnf
        refine ldS Try.underlying45 rfl R0e (Nat.le_refl 3) (Nat.le_refl 3) rfl ?_
        conv => lhs; whnf
        exact hK .nil .nil _ (prefix_set hpf h0 _) ⟨Rw.nil _ _, Rw.nil _ _⟩
      · refine bif_neg (by simp [he1]) ?_
        conv => lhs; whnf
        refine ldF rfl rfl rfl R1 rfl ?_
        conv => lhs; whnf
        by_cases he2 : t.err = 2
        · have h2e : ts.2.err = 2 := by rw [← hst.1]; exact he2
          rw [recGetJ, if_pos (by omega), h2e] at hG
          rw [hG] at hK
          refine bif_pos (by simp [he2]) ?_
          conv => lhs; whnf
          refine storeS rfl R0 rfl rfl (Nat.le_refl 3) rfl ?_
          have R0e := get_set R0 (AO.cells [AV.int .i64 0, .sl .nil 0, .sl .nil 0] 3 .own)
          conv => lhs; whnf
          refine ldS Try.underlying45 rfl R0e (Nat.le_refl 3) (Nat.le_refl 3) rfl ?_
          conv => lhs; whnf
          exact hK .nil .nil _ (prefix_set hpf h0 _) ⟨Rw.nil _ _, Rw.nil _ _⟩
        · have he : t.err = 0 := by have := hst.2.2.2; omega
          have h2e : ts.2.err = 0 := by rw [← hst.1]; exact he
          rw [recGetJ, if_neg (fun h => h h2e), ← hv he, ← hws he, ← hst.2.1 he] at hG
          rw [hG] at hK
          refine bif_neg (by simp [he2]) ?_
          conv => lhs; whnf
          refine hD.go plan60x15 ord60x15 ?_
          conv => lhs; whnf
          refine ldS Try.underlying45 rfl R2 (Nat.le_refl 3) (Nat.le_refl 3) rfl ?_
          conv => lhs; whnf
          refine ldF rfl rfl rfl R1 rfl ?_
          conv => lhs; whnf
          refine storeS rfl R0 rfl rfl (Nat.le_refl 3) rfl ?_
          have R0e := get_set R0 (AO.cells [AV.int .i64 c1.1, .sl c vs.length, .sl d ws.length] 3 .own)
          have R1e := get_set_ne R1 (j := i0) (by omega) (AO.cells [AV.int .i64 c1.1, .sl c vs.length, .sl d ws.length] 3 .own)
          conv => lhs; whnf
          refine and_true (all_cons ?_ (all_skip rfl rfl)) ?_
          · conv => lhs; whnf
            refine ldF rfl rfl rfl R1e rfl ?_
            exact same_int .i64 (t.pos : Int)
          conv => lhs; whnf
          refine ldS Try.underlying45 rfl R0e (Nat.le_refl 3) (Nat.le_refl 3) rfl ?_
          conv => lhs; whnf
          have ne0 : ∀ {o : Option Nat}, (∀ id, o = some id → i2 < id) → o = none ∨ o ≠ some i0 := fun ho => ne1 ho i0 (by omega)
          exact hK c d _ (prefix_set hpf h0 _) ⟨(hown.keep (keep_set _ _ _) (ne0 ho)).rw, (hown2.keep (keep_set _ _ _) (ne0 ho2')).rw⟩
end Go.Proofs.Ytpagagiojnhhfaa
