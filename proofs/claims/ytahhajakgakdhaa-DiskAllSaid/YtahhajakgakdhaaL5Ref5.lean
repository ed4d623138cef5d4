/- The document's disk: Move. -/
import Derived.Test.YtahhajakgakdhaaL5Ref4
namespace Go.Proofs.Ytahhajakgakdhaa
set_option maxRecDepth 100000
open Go Go.AM Go.AM.St
theorem rgs_put : ∀ {L : List RG} {i : Nat} (_ : i < L.length) (g' : RG), (rgs L).take (i * 4) ++ rgc g' ++ (rgs L).drop (i * 4 + 4) = rgs (L.set i g')
  | L, i, h, g' => by
    rw [List.set_eq_take_append_cons_drop, if_pos h, ← rgs_app, rgs, rgs_take, ← rgs_drop, show (i + 1) * 4 = i * 4 + 4 by omega, List.append_assoc]
theorem storeL4 {σ : H} {Q : Nat} {S : DS} {L : List RG} {w : AM.SA} {o : Option Nat} (h : RefAt σ Q S L w o) {id k : Nat} (hid : o = some id) (hk : k < L.length) (g' : RG)
    (hr : Rw σ 1 g'.a g'.bytes.length (u8s g'.bytes)) {K : H → Bool}
    (hK : ∀ τ, RefAt τ Q ⟨S.V.set k g'.v, S.left, S.down, S.ops⟩ (L.set k g') w o → Stp (FR' Q o) (FR' Q o) σ τ → K τ = true) : storeK Try.prog 105 (.ptr (some ⟨id, k * 4, 0, 4⟩)) (.agg (rgc g')) σ K = true := by
  subst hid
  obtain ⟨h1, h2, h3, h4⟩ := h.own
  have hb : k * 4 + 4 ≤ (rgs L).length := by rw [rgs_len]; omega
  have hQ : Q ≠ id := fun e => h.ne (by rw [e])
  have hk' : ∀ j, j ≠ id → (σ.set id (AO.cells (rgs (L.set k g')) 4 .own))[j]? = σ[j]? := fun j hj => List.getElem?_set_ne (Ne.symm hj)
  have x := Ext.ne h3 nofun hk'
  unfold storeK
  show rowK σ id _ = true
  refine rowK_of h3 (bif_pos ?_ ?_)
  · have e1 : decide (k * 4 + 0 + 4 ≤ (rgs L).length) = true := decide_eq_true (by omega)
    show (true && true && true && decide (k * 4 + 0 + 4 ≤ (rgs L).length) && true) = true
    rw [e1]; rfl
  · show K (σ.set id (AO.cells ((rgs L).take (k * 4 + 0) ++ rgc g' ++ (rgs L).drop (k * 4 + 0 + 4)) 4 .own)) = true
    rw [Nat.add_zero, rgs_put hk]
    refine hK _ ⟨?_, ⟨h1, Nat.zero_le _, get_set h3 _, by rw [List.length_set, rgs_len, List.length_set]⟩, h.ne, ?_, fun g hg2 => ?_⟩ ⟨Nat.le_of_eq (List.length_set ..).symm, fun j _ hf' => hk' j fun e => hf' (.inr (by rw [e])), fun _ h => .inl h, x⟩
    · rw [hk' Q hQ, List.length_set]; exact h.row
    · rw [List.map_set, h.v]
    · rcases List.mem_or_eq_of_mem_set hg2 with hg2 | rfl
      · exact (h.rd g hg2).ext x
      · exact hr.ext x
theorem mDel_at {name : List Nat} : ∀ {V : List FV} {k : Nat} {x : FV}, nod V → V[k]? = some x → x.name = name → mDel name V = V.take k ++ V.drop (k + 1)
  | [], k, x, _, h, _ => by simp at h
  | y :: V, 0, x, hn, h, hx => by
    simp at h
    subst h
    rw [mDel, if_pos hx]; rfl
  | y :: V, k + 1, x, hn, h, hx => by
    rw [List.getElem?_cons_succ] at h
    unfold nod at hn
    rw [List.pairwise_cons] at hn
    rw [mDel, if_neg fun e => hn.1 x (List.mem_of_getElem? h) (e.trans hx.symm), mDel_at hn.2 h hx]; rfl
theorem ldG {τ : H} {id b : Nat} {xs : List AV} {md : Md} {g : RG} {K : AV → Bool} (hr : τ[id]? = some (AO.cells xs 4 md)) (hb : b + 4 ≤ xs.length) (hx : (xs.drop b).take 4 = rgc g) (hK : K (.agg (rgc g)) = true) : ldK Try.prog 105 τ ⟨id, b, 0, 4⟩ K = true := by
  refine ldS Try.underlying105 rfl hr (Nat.le_refl 4) (by show b + 0 + 4 ≤ _; omega) hx ?_
  cases hl : g.lasts
  · rw [show rgc g = [.str (ints g.name), .sl g.a g.bytes.length, .int .i64 (g.synced : Int), .bool g.lasts] from rfl, hl] at hK ⊢
    conv => lhs; whnf
    exact hK
  · rw [show rgc g = [.str (ints g.name), .sl g.a g.bytes.length, .int .i64 (g.synced : Int), .bool g.lasts] from rfl, hl] at hK ⊢
    conv => lhs; whnf
    exact hK
theorem same_rg (g : RG) : sameV (.agg (rgc g)) (.agg (rgc g)) = true := by simp [sameV, sameL, sameLeaf]
theorem rgs_elem {L : List RG} {i : Nat} (h : i < L.length) : ((rgs L).drop (i * 4)).take 4 = rgc L[i] := by
  rw [rgs_drop, List.drop_eq_getElem_cons h, rgs]
  exact List.take_left' rfl
theorem pre_of {σ τ : H} (h : ∀ j, j < σ.length → τ[j]? = σ[j]?) : σ <+: τ := List.prefix_iff_getElem?.2 fun i hi => by rw [h i hi, List.getElem?_eq_getElem hi]
theorem storeG {ρ : H} {id : Nat} {x y z u : AV} {g : RG} {K : H → Bool} (hg : ρ[id]? = some (AO.cells [x, y, z, u] 4 .own))
    (hK : ∀ τ, τ[id]? = some (AO.cells (rgc g) 4 .own) → (∀ j, j ≠ id → τ[j]? = ρ[j]?) → τ.length = ρ.length → K τ = true) : storeK Try.prog 105 (.ptr (some ⟨id, 0, 0, 4⟩)) (.agg (rgc g)) ρ K = true :=
  storeS rfl hg rfl rfl (Nat.le_refl 4) rfl (hK _ (get_set hg _) (fun _ hj => List.getElem?_set_ne (Ne.symm hj)) (List.length_set ..))
theorem storeT {ρ : H} {id f : Nat} {g : RG} {t : TypeId} {i : TypeInfo} (hg : ρ[id]? = some (AO.cells (rgc g) 4 .own)) (hi : Try.prog.info? t = some i) (hz : i.size = 1) (hf : f < 4) (g' : RG) {v : AV} (hv : isLeaf v = true) (he : rgc g' = (rgc g).set f v) {K : H → Bool}
    (hK : ∀ τ, τ[id]? = some (AO.cells (rgc g') 4 .own) → (∀ j, j ≠ id → τ[j]? = ρ[j]?) → τ.length = ρ.length → K τ = true) : storeK Try.prog t (.ptr (some ⟨id, 0, f, 4⟩)) v ρ K = true := by
  refine storeK_of hi hz (by omega) hg hv (by show 0 + f < 4; omega) ?_
  rw [Nat.zero_add, ← he]
  exact hK _ (get_set hg _) (fun _ hj => List.getElem?_set_ne (Ne.symm hj)) (List.length_set ..)
attribute [local irreducible] IntKind.wrap Int.fdiv Int.tdiv Int.tmod BitVec.ofInt appendK sliceK indexAddrK ldK storeK seenK makeSliceK lookupK updateK deleteK mapK rangeK nextK keysF buildSliceK
variable {D : Drawer}
variable {Q : Nat} {S : DS} {F : Nat → Prop} {σ : H} {N k : Nat}
theorem ref_move {n : Nat} {f t : List Nat} (hD : ByPlan Try.prog D) (hT : ByTree Try.prog D) (hd : RV σ Q S F) (hs : Sorted S.V) (ho : OkS S N k) (hn : N + 20 ≤ n) (hN : N < 10000) {K : AV → H → Bool}
    (hK : ∀ σ' F' R', RV σ' Q R' F' → (R', (dMove f t S).2) = (if (dMove f t S).2 = 0 then ⟨rMove f t S.V, (dMove f t S).1.left, (dMove f t S).1.down, (dMove f t S).1.ops⟩ else (dMove f t S).1, (dMove f t S).2) → Stp F F' σ σ' → K (.int .i64 ((dMove f t S).2 : Nat)) σ' = true) :
    acall Try.prog tab D n 63 [.ptr (some ⟨Q, 0, 0, 4⟩), .str (ints f), .str (ints t)] σ K = true := by
  obtain ⟨n, rfl, hn⟩ := up (n := n) (k := N + 19) (by omega)
  obtain ⟨L, w', o, h, rfl⟩ := hd
  have hLl : L.length ≤ N := by have := ho.f; rw [← h.v, List.length_map] at this; exact this
  conv => lhs; whnf
  refine at_spec hD (by omega) (by omega) h ?_
  cases hh : rHas f S.V with
  | false =>
    conv => lhs; whnf
    refine ldF Try.underlying4 rfl rfl h.row rfl ?_
    cases hdn : S.down with
    | true =>
      have e : dMove f t S = (S, 7) := if_pos hdn
      rw [e] at hK
      have := hK σ _ _ ⟨L, w', o, h, rfl⟩ rfl Stp.refl
      conv => lhs; whnf
      exact this
    | false =>
      have e : dMove f t S = (S, 3) := by unfold dMove; rw [if_neg (by rw [hdn]; decide), if_pos ((rHas_find hs).1 hh)]
      rw [e] at hK
      have := hK σ _ _ ⟨L, w', o, h, rfl⟩ rfl Stp.refl
      conv => lhs; whnf
      exact this
  | true =>
  obtain ⟨x, hx, hxn⟩ := rFound hh
  have hf := find_at hs.nodup hx hxn
  obtain ⟨hkl, hLv⟩ := row_v h.v hx
  conv => lhs; whnf
  refine ldF Try.underlying4 rfl rfl h.row rfl ?_
  cases hdn : S.down with
  | true =>
    have e : dMove f t S = (S, 7) := if_pos hdn
    rw [e] at hK
    have := hK σ _ _ ⟨L, w', o, h, rfl⟩ rfl Stp.refl
    conv => lhs; whnf
    exact this
  | false =>
  have formBad : mayN t = false → dMove f t S = (S, 1) := fun hm => by unfold dMove; rw [if_neg (by rw [hdn]; decide), if_neg (by rw [hf]; nofun), if_pos hm]
  conv => lhs; whnf
  rw [nil_beq]
  cases hem : t.isEmpty with
  | true =>
    rw [formBad (mayN_false.2 (.inl (by simpa using hem)))] at hK
    have := hK σ _ _ ⟨L, w', o, h, rfl⟩ rfl Stp.refl
    conv => lhs; whnf
    exact this
  | false =>
  conv => lhs; whnf
  have hil : ((ints t).length : Int) = (t.length : Int) := by simp [ints]
  by_cases h200 : ((ints t).length : Int) > 200
  · rw [formBad (mayN_false.2 (.inr (by omega)))] at hK
    have := hK σ _ _ ⟨L, w', o, h, rfl⟩ rfl Stp.refl
    rw [show decide (((ints t).length : Int) > 200) = true from decide_eq_true h200]
    conv => lhs; whnf
    exact this
  rw [show decide (((ints t).length : Int) > 200) = false from decide_eq_false h200]
  have hm : mayN t = true := by
    cases hmm : mayN t with
    | true => rfl
    | false =>
      rcases mayN_false.1 hmm with rfl | h2
      · simp at hem
      · omega
  conv => lhs; whnf
  refine rop_spec (by omega) h ho.l1 ho.l2 (by have := ho.o; omega) (fun hz τ h1 s1 => ?_) fun hz τ h1 s1 => ?_
  · have e : dMove f t S = (⟨S.V, S.left, true, S.ops⟩, 7) := by unfold dMove; rw [if_neg (by rw [hdn]; decide), if_neg (by rw [hf]; nofun), if_neg (by rw [hm]; decide), if_pos hz]
    rw [e] at hK
    have := hK τ _ _ ⟨L, w', o, h1, rfl⟩ rfl s1
    conv => lhs; whnf
    exact this
  have e : dMove f t S = (⟨mMove f t S.V, max (S.left - 1) (-1), false, S.ops + 1⟩, 0) := by unfold dMove; rw [if_neg (by rw [hdn]; decide), if_neg (by rw [hf]; nofun), if_neg (by rw [hm]; decide), if_neg hz]
  rw [e] at hK
  rw [hdn] at h1
  have hdel := mDel_at hs.nodup hx hxn
  have hrm : rMove f t S.V = rPut ⟨t, x.bytes, x.bytes.length, true⟩ (S.V.take (rAt f S.V) ++ S.V.drop (rAt f S.V + 1)) := by unfold rMove; rw [hf, ← hdel]
  have hs1 : Sorted (S.V.take (rAt f S.V) ++ S.V.drop (rAt f S.V + 1)) := by
    rw [← hdel, mDel_filter hs.nodup]
    exact List.Pairwise.sublist List.filter_sublist hs
  have hxb : x.bytes = L[rAt f S.V].bytes := by rw [← hLv]; rfl
  rw [hxb] at hrm
  generalize rAt f S.V = kk at hkl hLv hrm hs1 ⊢
  have hV1 : (L.take kk ++ L.drop (kk + 1)).map RG.v = S.V.take kk ++ S.V.drop (kk + 1) := by rw [List.map_append, List.map_take, List.map_drop, h.v]
  generalize S.V.take kk ++ S.V.drop (kk + 1) = V1 at hrm hs1 hV1
  have grd := h1.rd _ (List.getElem_mem hkl)
  generalize hgm : L[kk] = g0 at hrm grd
  conv => lhs; whnf
  refine ldL h1 ?_
  conv => lhs; whnf
  refine idxL h1 rfl hkl fun id1 hid1 hr1 => ?_
  conv => lhs; whnf
  refine ldG hr1 (by rw [rgs_len]; omega) (by rw [rgs_elem hkl, hgm]) ?_
  conv => lhs; whnf
  refine storeG (get_new _ _) fun τ1 T1 K1 W1 => ?_
  have P1 : τ <+: τ1 := pre_of fun j hj => by rw [K1 j (by omega), List.getElem?_append_left hj]
  conv => lhs; whnf
  refine ldF Try.underlying22 rfl rfl T1 rfl ?_
  conv => lhs; whnf
  refine storeT T1 rfl rfl (f := 0) (by decide) { g0 with name := t } (v := .str (ints t)) rfl rfl fun τ2 T2 K2 W2 => ?_
  conv => lhs; whnf
  refine storeT T2 rfl rfl (f := 2) (by decide) { g0 with name := t, synced := g0.bytes.length } (v := .int .i64 (g0.bytes.length : Int)) rfl rfl fun τ3 T3 K3 W3 => ?_
  conv => lhs; whnf
  refine storeT T3 rfl rfl (f := 3) (by decide) { g0 with name := t, synced := g0.bytes.length, lasts := true } (v := .bool true) rfl rfl fun τ4 T4 K4 W4 => ?_
  have P4 : τ <+: τ4 := pre_of fun j hj => by rw [K4 j (by omega), K3 j (by omega), K2 j (by omega), prefix_get P1 (List.getElem?_eq_getElem hj), List.getElem?_eq_getElem hj]
  have l4 : τ4.length = τ.length + 1 := by rw [W4, W3, W2, W1]; simp
  obtain ⟨gm, hgm'⟩ : ∃ g : RG, g = { g0 with name := t, synced := g0.bytes.length, lasts := true } := ⟨_, rfl⟩
  have hrm' : rMove f t S.V = rPut gm.v V1 := by rw [hrm, hgm']; rfl
  have gmn : gm.name = t := by rw [hgm']
  have grd4 : Rw τ4 1 gm.a gm.bytes.length (u8s gm.bytes) := by rw [hgm']; exact grd.mono P4
  have T4' : τ4[τ.length]? = some (AO.cells (rgc gm) 4 .own) := by rw [hgm']; exact T4
  have h4 := h1.mono P4
  clear T4 T3 T2 T1 K1 K2 K3 K4 hrm
  have lk : kk + 1 ≤ L.length := hkl
  conv => lhs; whnf
  refine goK hD plan63x12 ord63x12 fun KK hKK => ?_
  conv => lhs; whnf
  refine ldL h4 ?_
  conv => lhs; whnf
  refine slL rfl h4.own.rw 0 kk (.inl ⟨rfl, rfl⟩) (.inr ⟨_, _, rfl, rfl⟩) (Nat.zero_le _) (by omega) fun a2 r2 => ?_
  rw [List.drop_zero] at r2
  conv => lhs; whnf
  refine ldL h4 ?_
  conv => lhs; whnf
  refine slL rfl h4.own.rw (kk + 1) L.length (.inr ⟨_, _, rfl, inc_i64 (by omega)⟩) (.inl ⟨rfl, rfl⟩) hkl (Nat.le_refl _) fun a3 r3 => ?_
  rw [List.take_length] at r3
  conv => lhs; whnf
  refine appL List.prefix_rfl (L := []) (M := L.take kk) (OwnS.nil _ _ _) rfl r2 (by rw [List.length_take]; omega) rfl (by rw [List.nil_append, List.length_take]; omega) fun oA aA σA pA _ _ _ wA => ?_
  rw [List.nil_append] at wA ⊢
  conv => lhs; whnf
  refine and_true (all_cons ?_ (all_skip rfl (rfl))) ?_
  · conv => lhs; whnf
    refine ldL (h4.mono pA) ?_
    exact same_sl _ _
  conv => lhs; whnf
  refine appL pA (L := L.take kk) (M := L.drop (kk + 1)) wA rfl (r3.mono pA) (by rw [List.length_drop]) rfl (by simp only [List.length_append, List.length_take, List.length_drop]; omega) fun oC aC σC pC _ _ _ wC => ?_
  conv => lhs; whnf
  refine storeQL h4 pC wC rfl (fun g hg => (List.mem_append.1 hg).elim (fun hg => (h4.rd g (List.mem_of_mem_take hg)).mono pC) fun hg => (h4.rd g (List.mem_of_mem_drop hg)).mono pC) fun τ5 h5 s5 => ?_
  have nf4 : ¬ FR' Q o τ.length := fun hf' => by have := h1.lt hf'; omega
  have T5 := (s5.keep τ.length (by omega) nf4).trans T4'
  have nf5 : ¬ FR' Q oC τ.length := fun hf' => (s5.fp _ hf').elim nf4 fun hl => by omega
  have grd5 := grd4.ext s5.ext
  have hL1l : (L.take kk ++ L.drop (kk + 1)).length ≤ N := by rw [List.length_append, List.length_take, List.length_drop]; omega
  generalize L.take kk ++ L.drop (kk + 1) = L1 at h5 hV1 hL1l ⊢
  have S05 := s1.trans ((Stp.pre P4).trans s5)
  have h5' : RefAt τ5 Q ⟨V1, max (S.left - 1) (-1), false, S.ops + 1⟩ L1 aC oC := by rw [← hV1]; exact h5
  clear h5
  conv => lhs; whnf
  subst hKK
  conv => lhs; whnf
  refine at_spec' (V := V1) hD (by omega) (by omega) h5' rfl ?_
  cases hh2 : rHas t V1 with
  | true =>
    obtain ⟨x2, hx2, hx2n⟩ := rFound hh2
    obtain ⟨hk2, hLv2⟩ := row_v h5'.v hx2
    have eput : rPut gm.v V1 = V1.set (rAt t V1) gm.v := by
      unfold rPut
      rw [show gm.v.name = t from gmn, if_pos hh2, mPut_map hs1.nodup ⟨x2, List.mem_of_getElem? hx2, by rw [hx2n]; exact gmn.symm⟩, upd_at hs1.nodup hx2 (by rw [hx2n]; exact gmn.symm)]
    generalize rAt t V1 = k2 at hk2 eput ⊢
    conv => lhs; whnf
    refine goK hD plan63x15 ord63x15 fun KK hKK => ?_
    conv => lhs; whnf
    refine ldL h5' ?_
    conv => lhs; whnf
    refine ldG T5 (Nat.le_refl 4) rfl ?_
    conv => lhs; whnf
    refine idxL h5' rfl hk2 fun id6 hid6 _ => ?_
    conv => lhs; whnf
    refine storeL4 h5' hid6 hk2 gm grd5 fun τ6 h6 s6 => ?_
    have := hK τ6 _ _ ⟨_, _, _, h6, rfl⟩ (by
      rw [if_pos rfl, hrm', eput]) (S05.trans s6)
    conv => lhs; whnf
    subst hKK
    conv => lhs; whnf
    exact this
  | false =>
    have eput : rPut gm.v V1 = V1.take (rAt t V1) ++ gm.v :: V1.drop (rAt t V1) := by
      unfold rPut
      rw [show gm.v.name = t from gmn, if_neg (by rw [hh2]; decide)]
      unfold rIns
      rw [show gm.v.name = t from gmn]
    have hVL : V1.length = L1.length := by rw [← show L1.map RG.v = V1 from h5'.v, List.length_map]
    have hk2 : rAt t V1 ≤ L1.length := by have := rAt_le t V1; omega
    generalize rAt t V1 = k2 at hk2 eput ⊢
    have hrd' : ∀ g, g ∈ L1.take k2 ++ ([gm] ++ L1.drop k2) → ∀ τ', τ5 <+: τ' → Rw τ' 1 g.a g.bytes.length (u8s g.bytes) := fun g hg τ' p => by
      rcases List.mem_append.1 hg with hg | hg
      · exact (h5'.rd g (List.mem_of_mem_take hg)).mono p
      · rcases List.mem_append.1 hg with hg | hg
        · rw [List.mem_singleton] at hg; subst hg; exact grd5.mono p
        · exact (h5'.rd g (List.mem_of_mem_drop hg)).mono p
    conv => lhs; whnf
    refine goT hT tree63x16 ordT63x16 fun KK hKK => ?_
    conv => lhs; whnf
    refine ldL h5' ?_
    conv => lhs; whnf
    refine slL rfl h5'.own.rw 0 k2 (.inl ⟨rfl, rfl⟩) (.inr ⟨_, _, rfl, rfl⟩) (Nat.zero_le _) hk2 fun a6 r6 => ?_
    rw [List.drop_zero] at r6
    conv => lhs; whnf
    refine ldG T5 (Nat.le_refl 4) rfl ?_
    conv => lhs; whnf
    refine ldL h5' ?_
    conv => lhs; whnf
    refine slL rfl h5'.own.rw k2 L1.length (.inr ⟨_, _, rfl, rfl⟩) (.inl ⟨rfl, rfl⟩) hk2 (Nat.le_refl _) fun a7 r7 => ?_
    rw [List.take_length] at r7
    conv => lhs; whnf
    refine and_true ?_ ?_
    · conv => lhs; whnf
      refine appL List.prefix_rfl (L := []) (M := L1.take k2) (OwnS.nil _ _ _) rfl r6 (by rw [List.length_take]; omega) rfl (by rw [List.nil_append, List.length_take]; omega) fun oA aA σA pA _ _ _ wA => ?_
      rw [List.nil_append] at wA ⊢
      conv => lhs; whnf
      refine and_true (all_cons ?_ (all_cons ?_ (all_skip rfl (rfl)))) ?_
      · conv => lhs; whnf
        refine ldL (h5'.mono pA) ?_
        exact same_sl _ _
      · conv => lhs; whnf
        refine ldG (prefix_get pA T5) (Nat.le_refl 4) rfl ?_
        exact same_rg _
      have pB := List.prefix_append σA [AO.cells (rgs [gm]) 4 .own]
      conv => lhs; whnf
      refine buildL (g := gm) ?_
      conv => lhs; whnf
      refine and_true (all_cons ?_ (all_skip rfl (all_cons ?_ (rfl)))) ?_
      · conv => lhs; whnf
        refine ldL (h5'.mono (pA.trans pB)) ?_
        exact same_sl _ _
      · conv => lhs; whnf
        refine ldL (h5'.mono (pA.trans pB)) ?_
        exact same_sl _ _
      conv => lhs; whnf
      refine appL (pA.trans pB) (L := L1.take k2) (M := [gm]) (wA.mono pB) rfl (Rw.new (z := 4) (n := 1) (rgs [gm]) .own rfl) rfl rfl (by rw [List.length_append, List.length_take]; show _ + 1 ≤ _; omega) fun oD aD σD pD _ _ _ wD => ?_
      conv => lhs; whnf
      refine and_true (all_cons ?_ (all_skip rfl (all_skip rfl (rfl)))) ?_
      · conv => lhs; whnf
        refine ldL (h5'.mono pD) ?_
        exact same_sl _ _
      conv => lhs; whnf
      refine appL pD (L := L1.take k2 ++ [gm]) (M := L1.drop k2) wD rfl (r7.mono pD) (by rw [List.length_drop]) rfl (by simp only [List.length_append, List.length_take, List.length_drop, List.length_cons, List.length_nil]; omega) fun oE aE σE pE _ _ _ wE => ?_
      conv => lhs; whnf
      refine storeQL h5' pE wE (by simp only [List.length_append, List.length_cons, List.length_take, List.length_drop, List.length_nil] <;> omega) (fun g hg => hrd' g (by simpa using hg) _ pE) fun τ6 h6 s6 => ?_
      have hL6 : L1.take k2 ++ [gm] ++ L1.drop k2 = L1.take k2 ++ gm :: L1.drop k2 := by simp
      rw [hL6] at h6
      have := hK τ6 _ _ ⟨_, _, _, h6, rfl⟩ (by
        rw [if_pos rfl, hrm', eput, map_take_drop h5'.v]) (S05.trans s6)
      conv => lhs; whnf
      subst hKK
      conv => lhs; whnf
      exact this
    · have pB := List.prefix_append τ5 [AO.cells (rgs [gm]) 4 .own]
      have nB := Rw.new (σ := τ5) (z := 4) (n := 1) (rgs [gm]) .own rfl
      show Go.AM.stepT Try.prog _ _ 9 [14, 4] _ _ _ _ _ = true
      refine stepT_hide fun ih hih => ?_
      conv => lhs; whnf
      refine buildL (g := gm) ?_
      conv => lhs; whnf
      refine and_true (all_cons ?_ (all_skip rfl (all_cons ?_ (rfl)))) ?_
      · conv => lhs; whnf
        refine ldL (h5'.mono pB) ?_
        exact same_sl _ _
      · conv => lhs; whnf
        refine ldL (h5'.mono pB) ?_
        exact same_sl _ _
      conv => lhs; whnf
      subst hih
      conv => lhs; whnf
      refine appL List.prefix_rfl (L := []) (M := L1.take k2) (OwnS.nil _ _ _) rfl (r6.mono pB) (by rw [List.length_take]; omega) rfl (by rw [List.nil_append, List.length_take]; omega) fun oA aA σA pA' _ _ _ wA' => ?_
      have pA := pB.trans pA'
      have wA := wA'.low (σ0 := τ5) (prefix_len pB)
      rw [List.nil_append] at wA ⊢
      conv => lhs; whnf
      refine and_true (all_cons ?_ (all_cons ?_ (all_skip rfl (rfl)))) ?_
      · conv => lhs; whnf
        refine ldL (h5'.mono pA) ?_
        exact same_sl _ _
      · conv => lhs; whnf
        refine ldG (prefix_get pA T5) (Nat.le_refl 4) rfl ?_
        exact same_rg _
      conv => lhs; whnf
      refine appL pA (L := L1.take k2) (M := [gm]) wA rfl (nB.mono pA') rfl rfl (by rw [List.length_append, List.length_take]; show _ + 1 ≤ _; omega) fun oD aD σD pD _ _ _ wD => ?_
      conv => lhs; whnf
      refine and_true (all_cons ?_ (all_skip rfl (all_skip rfl (rfl)))) ?_
      · conv => lhs; whnf
        refine ldL (h5'.mono pD) ?_
        exact same_sl _ _
      conv => lhs; whnf
      refine appL pD (L := L1.take k2 ++ [gm]) (M := L1.drop k2) wD rfl (r7.mono pD) (by rw [List.length_drop]) rfl (by simp only [List.length_append, List.length_take, List.length_drop, List.length_cons, List.length_nil]; omega) fun oE aE σE pE _ _ _ wE => ?_
      conv => lhs; whnf
      refine storeQL h5' pE wE (by simp only [List.length_append, List.length_cons, List.length_take, List.length_drop, List.length_nil] <;> omega) (fun g hg => hrd' g (by simpa using hg) _ pE) fun τ6 h6 s6 => ?_
      have hL6 : L1.take k2 ++ [gm] ++ L1.drop k2 = L1.take k2 ++ gm :: L1.drop k2 := by simp
      rw [hL6] at h6
      have := hK τ6 _ _ ⟨_, _, _, h6, rfl⟩ (by
        rw [if_pos rfl, hrm', eput, map_take_drop h5'.v]) (S05.trans s6)
      conv => lhs; whnf
      subst hKK
      conv => lhs; whnf
      exact this
end Go.Proofs.Ytahhajakgakdhaa
