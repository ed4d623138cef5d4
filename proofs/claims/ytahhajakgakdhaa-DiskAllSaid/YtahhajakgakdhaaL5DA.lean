/- A disk and the document's: the same. -/
import Derived.Test.YtahhajakgakdhaaL5Ref6
namespace Go.Proofs.Ytahhajakgakdhaa
set_option maxRecDepth 100000
open Go Go.AM Go.AM.St
theorem same_dec (n : Int) : decide (n = n) = true := decide_eq_true rfl
theorem names_sorted {R V : List FV} (hs : Sorted R) (hp : R.Perm V) : sortS (V.map fun x => ints x.name) = R.map fun x => ints x.name := by
  rw [← sortS_of_perm (hp.map _)]
  refine sortedS_unique _ _ (sortS_perm _) (sortS_sorted _) ?_
  rw [List.pairwise_map]
  refine hs.imp fun {a b} hab => ?_
  show ltL (ints b.name) (ints a.name) = false
  cases h : ltL (ints b.name) (ints a.name) with
  | false => rfl
  | true =>
    have : ltN a.name a.name = true := ltN_trans hab h
    rw [ltN_irrefl] at this
    cases this
theorem keys_go2 {B m clock ops : Nat} {G : List FG} {left : Int} {down : Bool} {σ : H} {D : Drawer} {n id : Nat} {md : Md} (hd : DiskAt σ B m clock G left down ops) (hr : σ[id]? = some (AO.cells [.map (some m)] 1 md)) (hmd : md ≠ .ro) (hlen : G.length ≤ 1000000) {z : Nat} {K : AV → H → Bool}
    (h : ∀ a σ', σ <+: σ' → Rw σ' 1 a G.length ((sortS (G.map fun g => ints g.name)).map AV.str) → K (.sl a G.length) σ' = true) : acall Try.prog tab D n 58 [.fn 75 [.ptr (some ⟨id, 0, 0, z⟩)]] σ K = true := by
  have e : acall Try.prog tab D n 58 [.fn 75 [.ptr (some ⟨id, 0, 0, z⟩)]] σ K = keysF 75 [.fn 75 [.ptr (some ⟨id, 0, 0, z⟩)]] σ K := by cases n <;> rfl
  rw [e]
  unfold keysF
  refine bif_pos rfl ?_
  refine rowK_of hr ?_
  refine bif_pos (by cases md <;> first | rfl | exact absurd rfl hmd) ?_
  rw [hd.mp]
  refine bif_pos ?_ ?_
  · simp only [Bool.and_eq_true, decide_eq_true_eq]
    refine ⟨List.all_eq_true.2 fun e he => ?_, nodup_of ?_, by rw [List.length_map]; exact hlen⟩
    · obtain ⟨g, hg, rfl⟩ := List.mem_map.1 he
      exact decide_eq_true (hd.old g hg)
    · rw [List.map_map, List.pairwise_map]
      exact hd.apart.imp fun h => h.2.2.2
  · rw [texts_of]
    cases G with
    | nil => exact h .nil σ List.prefix_rfl (Rw.nil _ _)
    | cons g G =>
      have hl : (g :: G).length = ((g :: G).map fun g => ints g.name).length := by simp
      have := h (.at σ.length 0 1) _ (List.prefix_append σ [AO.cells ((sortS ((g :: G).map fun g => ints g.name)).map AV.str) 1 .own]) (Rw.new _ _ (by rw [List.length_map, sortS_len, List.length_map, Nat.mul_one]))
      rw [hl] at this
      exact this
/-- Rows off one another. -/
def FD (F G : Nat → Prop) : Prop := ∀ id, F id → ¬ G id
theorem FD.step {F F' G : Nat → Prop} {σ σ' : H} (h : FD F G) (s : Stp F F' σ σ') (hG : ∀ id, G id → id < σ.length) : FD F' G := fun id hf hg => (s.fp id hf).elim (fun hf => h id hf hg) fun hl => by have := hG id hg; omega
theorem FD.symm {F G : Nat → Prop} (h : FD F G) : FD G F := fun id hg hf => h id hf hg
theorem FD.offS {F F' G : Nat → Prop} {σ σ' : H} (h : FD F G) (s : Stp F F' σ σ') : ∀ id, id < σ.length → G id → σ'[id]? = σ[id]? := fun id hl hg => s.keep id hl fun hf => h id hf hg
theorem DV.step {σ σ' : H} {B m : Nat} {S : DS} {F G G' : Nat → Prop} (h : DV σ B m S F) (s : Stp G G' σ σ') (hd : FD F G) : DV σ' B m S F := h.keep fun id hf => s.keep id (h.lt hf) (hd id hf)
attribute [local irreducible] IntKind.wrap Int.fdiv Int.tdiv Int.tmod BitVec.ofInt appendK sliceK indexAddrK ldK storeK seenK makeSliceK lookupK updateK deleteK mapK rangeK nextK keysF buildSliceK
variable {D : Drawer}
variable {B m Q : Nat} {S R : DS} {F G : Nat → Prop} {σ : H} {N k : Nat}
theorem dv_files {n : Nat} (hn : 2 ≤ n) (hd : DV σ B m S F) (ha : Alike R S) (hlen : S.V.length ≤ 1000000) {K : AV → H → Bool} (h0 : S.down = true → K (.sl .nil 0) σ = true)
    (h1 : S.down = false → ∀ a σ', σ <+: σ' → Rw σ' 1 a (R.V.map FV.name).length (txs (R.V.map FV.name)) → K (.sl a (R.V.map FV.name).length) σ' = true) : acall Try.prog tab D n 31 [.ptr (some ⟨B, 0, 0, 4⟩)] σ K = true := by
  obtain ⟨n, rfl, hn⟩ := up hn
  obtain ⟨c, G, d, v, rfl⟩ := hd
  have hGl : G.length = S.V.length := by rw [← v, List.length_map]
  have hRl : (R.V.map FV.name).length = G.length := by rw [List.length_map, ha.p.length_eq, hGl]
  have hnm : (sortS (G.map fun g => ints g.name)).map AV.str = txs (R.V.map FV.name) := by
    have e1 : (G.map fun g => ints g.name) = S.V.map fun x => ints x.name := by rw [← v, List.map_map]; rfl
    rw [e1, names_sorted ha.s ha.p]
    unfold txs
    rw [List.map_map, List.map_map]; rfl
  conv => lhs; whnf
  refine down_spec (by omega) d ?_
  cases hdn : S.down with
  | true =>
    conv => lhs; whnf
    exact h0 hdn
  | false =>
  conv => lhs; whnf
  refine ldF Try.underlying74 rfl rfl d.row rfl ?_
  conv => lhs; whnf
  refine keys59_spec (by omega) ?_
  conv => lhs; whnf
  refine keys_go2 (d.mono (List.prefix_append _ _)) (get_new _ _) (by decide) (by omega) fun a σ' hp hr => ?_
  rw [hnm, ← hRl] at hr
  have := h1 hdn a σ' ((List.prefix_append _ _).trans hp) hr
  rw [hRl] at this
  conv => lhs; whnf
  exact this
theorem same_spec {n : Nat} (hD : ByPlan Try.prog D) (hd : DV σ B m S F) (hr : RV σ Q R G) (ha : Alike R S) (ho : OkS S N k) (hn : N + 40 ≤ n) (hN : N < 10000) (hk : k ≤ 1000000000) {K : AV → H → Bool}
    (hK : ∀ σ', σ <+: σ' → K (.bool true) σ' = true) : acall Try.prog tab D n 39 [.ptr (some ⟨B, 0, 0, 4⟩), .ptr (some ⟨Q, 0, 0, 4⟩)] σ K = true := by
  obtain ⟨n, rfl, hn⟩ := up (n := n) (k := N + 39) (by omega)
  obtain ⟨L, wL, o, h, rfl⟩ := hr
  have hRL : R.V.length = L.length := by rw [← h.v, List.length_map]
  have hSL : S.V.length = L.length := by rw [← ha.p.length_eq, hRL]
  have hLN : L.length ≤ N := by have := ho.f; omega
  have hrow := h.row
  rw [ha.d] at hrow
  have o2 := ha.o
  conv => lhs; whnf
  refine goK hD plan39x1 ord39x1 fun KK hKK => ?_
  cases hdn : S.down with
  | true =>
    rw [hdn] at hrow
    conv => lhs; whnf
    refine ldF Try.underlying4 rfl rfl hrow rfl ?_
    conv => lhs; whnf
    refine dv_down (by omega) hd ?_
    rw [hdn]
    conv => lhs; whnf
    refine and_true (all_cons ?_ rfl) ?_
    · conv => lhs; whnf
      refine ldF Try.underlying4 rfl rfl hrow rfl ?_
      conv => lhs; whnf
    conv => lhs; whnf
    refine ldF Try.underlying3 rfl rfl h.row rfl ?_
    conv => lhs; whnf
    refine dv_ops (by omega) hd ?_
    conv => lhs; whnf
    refine and_true (all_cons ?_ (all_skip rfl rfl)) ?_
    · conv => lhs; whnf
      refine ldF Try.underlying3 rfl rfl h.row rfl ?_
      conv => lhs; whnf
      exact same_dec _
    conv => lhs; whnf
    rw [show (!((S.ops : Int) == (R.ops : Int))) = false by rw [o2]; simp]
    conv => lhs; whnf
    subst hKK
    conv => lhs; whnf
    refine dv_files (by omega) hd ha (by omega) (fun _ => ?_) fun h0 => by rw [hdn] at h0; cases h0
    conv => lhs; whnf
    refine ldF Try.underlying4 rfl rfl hrow rfl ?_
    conv => lhs; whnf
    exact hK σ List.prefix_rfl
  | false =>
    rw [hdn] at hrow
    conv => lhs; whnf
    refine ldF Try.underlying4 rfl rfl hrow rfl ?_
    conv => lhs; whnf
    refine dv_down (by omega) hd ?_
    rw [hdn]
    conv => lhs; whnf
    refine and_true (all_cons ?_ rfl) ?_
    · conv => lhs; whnf
      refine ldF Try.underlying4 rfl rfl hrow rfl ?_
      conv => lhs; whnf
    conv => lhs; whnf
    refine ldF Try.underlying3 rfl rfl h.row rfl ?_
    conv => lhs; whnf
    refine dv_ops (by omega) hd ?_
    conv => lhs; whnf
    refine and_true (all_cons ?_ (all_skip rfl rfl)) ?_
    · conv => lhs; whnf
      refine ldF Try.underlying3 rfl rfl h.row rfl ?_
      conv => lhs; whnf
      exact same_dec _
    conv => lhs; whnf
    rw [show (!((S.ops : Int) == (R.ops : Int))) = false by rw [o2]; simp]
    conv => lhs; whnf
    subst hKK
    conv => lhs; whnf
    refine dv_files (by omega) hd ha (by omega) (fun h0 => by rw [hdn] at h0; cases h0) fun _ a1 σ1 p1 r1 => ?_
    have hnl : (R.V.map FV.name).length = L.length := by rw [List.length_map, hRL]
    have hrow1 := prefix_get p1 hrow
    conv => lhs; whnf
    refine ldF Try.underlying4 rfl rfl hrow1 rfl ?_
    conv => lhs; whnf
    refine ldL (h.mono p1) ?_
    rw [hnl]
    conv => lhs; whnf
    rw [show (!((L.length : Int) == (L.length : Int))) = false by simp]
    conv => lhs; whnf
    refine loop_rule (m := 99) (fun q fr τ => ∃ (z : Int) (i : Nat), z = (i : Int) ∧ i + q = L.length ∧ σ1 <+: τ ∧
      fr = [.ptr (some ⟨B, 0, 0, 4⟩), .ptr (some ⟨Q, 0, 0, 4⟩), .bad, .bad, .bad, .sl a1 L.length, .int .i64 z, .bad, .bad, .bad, .bad, .bad, .bad, .bad, .bad, .bad, .bad, .bad, .bad, .bad, .bad, .bad, .bad, .bad, .bad, .bad, .bad, .bad, .bad, .bad, .bad, .bad, .bad, .bad, .bad, .bad, .bad, .bad, .bad, .bad, .bad, .bad, .bad, .bad, .bad, .bad, .bad, .bad, .bad, .bad, .bad, .bad, .bad, .bad, .bad, .bad, .bad, .bad, .bad, .bad, .bad, .bad, .bad, .bad, .bad, .bad, .bad, .bad, .bad, .bad, .bad, .bad, .bad, .bad, .bad, .bad, .bad, .bad, .bad, .bad, .bad, .bad, .bad, .bad, .bad, .bad, .bad, .bad]) ?_ _ L.length _ _ (by omega) ⟨_, 0, rfl, by omega, List.prefix_rfl, rfl⟩
    rintro q fr τ C ⟨z, i, rfl, hq, p, rfl⟩ next fin
    have pτ := p1.trans p
    have r1' := r1.mono p
    rw [hnl] at r1'
    conv => lhs; whnf
    by_cases hi : ¬ i < L.length
    · rw [show decide ((i : Int) < (L.length : Int)) = false from decide_eq_false (by omega)]
      have := hK τ pτ
      conv => lhs; whnf
      refine fin _ _ _ nofun ?_
      conv => lhs; whnf
      exact this
    rw [show decide ((i : Int) < (L.length : Int)) = true from decide_eq_true (by omega)]
    replace hi : i < L.length := by omega
    have hVi : R.V[i]? = some L[i].v := by rw [← h.v, List.getElem?_map, List.getElem?_eq_getElem hi]; rfl
    have hmem : L[i].v ∈ S.V := ha.p.mem_iff.1 (List.mem_of_getElem? hVi)
    obtain ⟨hb1, _, hb3⟩ := ho.b _ hmem
    have hfind : dRead L[i].name S = (L[i].bytes, 0) := by
      unfold dRead
      rw [if_neg (by rw [hdn]; decide), show mFind L[i].name S.V = some L[i].v from (mFind_some_iff ha.n).2 ⟨hmem, rfl⟩]; rfl
    have hnm : (R.V.map FV.name)[i]'(by rw [hnl]; exact hi) = L[i].name := by
      rw [List.getElem_map]
      have h2 := List.getElem?_eq_some_iff.1 hVi
      obtain ⟨_, h2⟩ := h2
      rw [h2]; rfl
    have hx := txs_at (bs := R.V.map FV.name) (i := i) (by rw [hnl]; exact hi)
    rw [hnm] at hx
    conv => lhs; whnf
    refine indexAddrK_rw Try.underlying36 (fun _ => rfl) r1' rfl hi hx fun p2 hp2 => ?_
    conv => lhs; whnf
    refine tt43.ld hp2 ?_
    conv => lhs; whnf
    refine dv_read (name := L[i].name) (by omega) (hd.mono pτ) ho hk fun a3 σ3 p3 r3 => ?_
    rw [hfind] at r3 ⊢
    have h3 := h.mono (pτ.trans p3)
    conv => lhs; whnf
    refine goK hD plan39x12 ord39x12 fun KK hKK => ?_
    conv => lhs; whnf
    refine indexAddrK_rw Try.underlying36 (fun _ => rfl) (r1'.mono p3) rfl hi hx fun p4 hp4 => ?_
    conv => lhs; whnf
    refine tt43.ld hp4 ?_
    conv => lhs; whnf
    refine ldL h3 ?_
    conv => lhs; whnf
    refine idxL h3 rfl hi fun id1 hid1 hr1 => ?_
    conv => lhs; whnf
    refine ldF Try.underlying9 rfl rfl hr1 (rgs_at hi 0 (by decide)) ?_
    conv => lhs; whnf
    rw [show (ints L[i].name == ints L[i].name) = true by simp]
    conv => lhs; whnf
    refine strK_rw r3.rw hb3 ?_
    conv => lhs; whnf
    refine ldL h3 ?_
    conv => lhs; whnf
    refine idxL h3 rfl hi fun id2 hid2 hr2 => ?_
    conv => lhs; whnf
    refine ldF Try.underlying22 rfl rfl hr2 (rgs_at hi 1 (by decide)) ?_
    conv => lhs; whnf
    refine strK_rw (h3.rd _ (List.getElem_mem hi)) hb3 ?_
    conv => lhs; whnf
    rw [show (ints L[i].bytes == ints L[i].bytes) = true by simp]
    conv => lhs; whnf
    subst hKK
    conv => lhs; whnf
    exact next (q - 1) _ _ (by omega) ⟨_, i + 1, inc_i64 (by omega), by omega, p.trans p3, rfl⟩
end Go.Proofs.Ytahhajakgakdhaa
