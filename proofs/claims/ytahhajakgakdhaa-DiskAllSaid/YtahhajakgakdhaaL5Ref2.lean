/- The document's disk: Append, Sync, Cut, Read. -/
import Derived.Test.YtahhajakgakdhaaL5Ref
namespace Go.Proofs.Ytahhajakgakdhaa
set_option maxRecDepth 100000
open Go Go.AM Go.AM.St
theorem rFound {name : List Nat} {V : List FV} (h : rHas name V = true) : ∃ x, V[rAt name V]? = some x ∧ x.name = name := by
  unfold rHas at h
  split at h
  · next x hx => exact ⟨x, hx, ints_inj (by simpa using h)⟩
  · cases h
theorem rHas_find {name : List Nat} {V : List FV} (hs : Sorted V) : rHas name V = false ↔ mFind name V = none := by
  rw [mFind_iff, ← Bool.not_eq_true, rHas_iff hs]
  constructor
  · intro h x hx e; exact h ⟨x, hx, e⟩
  · rintro h ⟨x, hx, e⟩; exact h x hx e
theorem upd_at {name : List Nat} {g : FV → FV} : ∀ {V : List FV} {k : Nat} {x : FV}, nod V → V[k]? = some x → x.name = name → V.map (updN name g) = V.set k (g x)
  | [], k, x, _, h, _ => by simp at h
  | y :: V, 0, x, hn, h, hx => by
    simp at h
    subst h
    unfold nod at hn
    rw [List.pairwise_cons] at hn
    rw [List.map_cons, List.set_cons_zero, updN, if_pos hx, upd_self fun z hz => hx ▸ hn.1 z hz]
  | y :: V, k + 1, x, hn, h, hx => by
    rw [List.getElem?_cons_succ] at h
    unfold nod at hn
    rw [List.pairwise_cons] at hn
    have hm := List.mem_of_getElem? h
    rw [List.map_cons, List.set_cons_succ, upd_at hn.2 h hx, updN, if_neg fun e => hn.1 x hm (e.trans hx.symm)]
theorem find_at {name : List Nat} {V : List FV} {k : Nat} {x : FV} (hn : nod V) (h : V[k]? = some x) (hx : x.name = name) : mFind name V = some x := (mFind_some_iff hn).2 ⟨List.mem_of_getElem? h, hx⟩
/-- A field of a file of the document's turns. -/
theorem storeL {σ : H} {Q : Nat} {S : DS} {L : List RG} {w : AM.SA} {o : Option Nat} (h : RefAt σ Q S L w o) {id k f : Nat} (hid : o = some id) (hk : k < L.length) {t : TypeId} {i : TypeInfo} (hi : Try.prog.info? t = some i) (hz : i.size = 1) (hf : f < 4) (g' : RG) {v : AV} (hv : isLeaf v = true)
    (hg : rgc g' = (rgc L[k]).set f v) (hr : Rw σ 1 g'.a g'.bytes.length (u8s g'.bytes)) {K : H → Bool}
    (hK : ∀ τ, RefAt τ Q ⟨S.V.set k g'.v, S.left, S.down, S.ops⟩ (L.set k g') w o → Stp (FR' Q o) (FR' Q o) σ τ → K τ = true) : storeK Try.prog t (.ptr (some ⟨id, k * 4, f, 4⟩)) v σ K = true := by
  subst hid
  obtain ⟨h1, h2, h3, h4⟩ := h.own
  have hb : k * 4 + f < (rgs L).length := by rw [rgs_len]; omega
  refine storeK_of hi hz (by omega) h3 hv hb ?_
  rw [rgs_set hk f v g' hf hg]
  have hQ : Q ≠ id := fun e => h.ne (by rw [e])
  have hk' : ∀ j, j ≠ id → (σ.set id (AO.cells (rgs (L.set k g')) 4 .own))[j]? = σ[j]? := fun j hj => List.getElem?_set_ne (Ne.symm hj)
  have x := Ext.ne h3 nofun hk'
  refine hK _ ⟨?_, ⟨h1, Nat.zero_le _, get_set h3 _, by rw [List.length_set, rgs_len, List.length_set]⟩, h.ne, ?_, fun g hg2 => ?_⟩ ⟨Nat.le_of_eq (List.length_set ..).symm, fun j _ hf' => hk' j fun e => hf' (.inr (by rw [e])), fun _ h => .inl h, x⟩
  · rw [hk' Q hQ, List.length_set]; exact h.row
  · rw [List.map_set, h.v]
  · rcases List.mem_or_eq_of_mem_set hg2 with hg2 | rfl
    · exact (h.rd g hg2).ext x
    · exact hr.ext x
attribute [local irreducible] IntKind.wrap Int.fdiv Int.tdiv Int.tmod BitVec.ofInt appendK sliceK indexAddrK ldK storeK seenK makeSliceK lookupK updateK deleteK mapK rangeK nextK keysF
variable {D : Drawer}
variable {Q : Nat} {S : DS} {F : Nat → Prop} {σ : H} {N k : Nat}
theorem row_v {L : List RG} {V : List FV} (h : L.map RG.v = V) {k : Nat} {x : FV} (hx : V[k]? = some x) : ∃ hk : k < L.length, L[k].v = x := by
  rw [← h, List.getElem?_map] at hx
  cases hL : L[k]? with
  | none => rw [hL] at hx; cases hx
  | some g =>
    rw [hL] at hx
    obtain ⟨hk, e⟩ := List.getElem?_eq_some_iff.1 hL
    exact ⟨hk, by rw [e]; exact Option.some.inj hx⟩
theorem idxL' {L : List RG} {w : AM.SA} {o : Option Nat} {m : Nat} {k : IntKind} {y : Int} {i : Nat} (h : RefAt σ Q S L w o) (hm : m = L.length) (hy : y = (i : Int)) (hi : i < L.length) {K : AV → Bool}
    (hK : ∀ id, o = some id → σ[id]? = some (AO.cells (rgs L) 4 .own) → K (.ptr (some ⟨id, i * 4, 0, 4⟩)) = true) : indexAddrK Try.prog 101 (.sl w m) (.int k y) K = true := by
  subst hm
  exact idxL h hy hi hK
theorem ref_sync {n : Nat} {name : List Nat} (hD : ByPlan Try.prog D) (hd : RV σ Q S F) (hs : Sorted S.V) (ho : OkS S N k) (hn : N + 20 ≤ n) (hN : N < 1000000) {K : AV → H → Bool}
    (hK : ∀ σ' F', RV σ' Q (dSync name S).1 F' → Stp F F' σ σ' → K (.int .i64 ((dSync name S).2 : Nat)) σ' = true) :
    acall Try.prog tab D n 61 [.ptr (some ⟨Q, 0, 0, 4⟩), .str (ints name)] σ K = true := by
  obtain ⟨n, rfl, hn⟩ := up (n := n) (k := N + 19) (by omega)
  obtain ⟨L, w', o, h, rfl⟩ := hd
  have hLl : L.length ≤ N := by have := ho.f; rw [← h.v, List.length_map] at this; exact this
  conv => lhs; whnf
  refine at_spec hD (by omega) (by omega) h ?_
  cases hh : rHas name S.V with
  | false =>
    conv => lhs; whnf
    refine ldF Try.underlying4 rfl rfl h.row rfl ?_
    cases hdn : S.down with
    | true =>
      have e : dSync name S = (S, 7) := if_pos hdn
      rw [e] at hK
      have := hK σ _ ⟨L, w', o, h, rfl⟩ Stp.refl
      conv => lhs; whnf
      exact this
    | false =>
      have e : dSync name S = (S, 3) := by unfold dSync; rw [if_neg (by rw [hdn]; decide), if_pos ((rHas_find hs).1 hh)]
      rw [e] at hK
      have := hK σ _ ⟨L, w', o, h, rfl⟩ Stp.refl
      conv => lhs; whnf
      exact this
  | true =>
  obtain ⟨x, hx, hxn⟩ := rFound hh
  have hf := find_at hs.nodup hx hxn
  obtain ⟨hkl, hLv⟩ := row_v h.v hx
  conv => lhs; whnf
  refine ldF Try.underlying4 rfl rfl h.row rfl ?_
  cases hdn : S.down with
  | true =>
    have e : dSync name S = (S, 7) := if_pos hdn
    rw [e] at hK
    have := hK σ _ ⟨L, w', o, h, rfl⟩ Stp.refl
    conv => lhs; whnf
    exact this
  | false =>
  conv => lhs; whnf
  refine rop_spec (by omega) h ho.l1 ho.l2 (by have := ho.o; omega) (fun hz τ h1 s1 => ?_) fun hz τ h1 s1 => ?_
  · have e : dSync name S = (⟨S.V, S.left, true, S.ops⟩, 7) := by unfold dSync; rw [if_neg (by rw [hdn]; decide), if_neg (by rw [hf]; nofun), if_pos hz]
    rw [e] at hK
    have := hK τ _ ⟨L, w', o, h1, rfl⟩ s1
    conv => lhs; whnf
    exact this
  · have e : dSync name S = (⟨mSync name S.V, max (S.left - 1) (-1), false, S.ops + 1⟩, 0) := by unfold dSync; rw [if_neg (by rw [hdn]; decide), if_neg (by rw [hf]; nofun), if_neg hz]
    rw [e] at hK
    generalize rAt name S.V = kk at hx hkl hLv ⊢
    conv => lhs; whnf
    refine goK hD plan61x8 ord61x8 fun KK hKK => ?_
    conv => lhs; whnf
    refine ldL h1 ?_
    conv => lhs; whnf
    refine ldL h1 ?_
    conv => lhs; whnf
    refine ldL h1 ?_
    conv => lhs; whnf
    refine idxL h1 rfl hkl fun id hid hr => ?_
    conv => lhs; whnf
    refine ldF Try.underlying22 rfl rfl hr (rgs_at hkl 1 (by decide)) ?_
    conv => lhs; whnf
    refine idxL h1 rfl hkl fun id2 hid2 _ => ?_
    conv => lhs; whnf
    refine storeL h1 hid2 hkl rfl rfl (f := 2) (by decide) { L[kk] with synced := L[kk].bytes.length } (v := .int .i64 (L[kk].bytes.length : Int)) rfl rfl (show Rw τ 1 L[kk].a L[kk].bytes.length (u8s L[kk].bytes) from h1.rd _ (List.getElem_mem hkl)) fun τ2 h2 s2 => ?_
    have hkl2 : kk < (L.set kk { L[kk] with synced := L[kk].bytes.length }).length := by rw [List.length_set]; exact hkl
    conv => lhs; whnf
    refine idxL' h2 (by rw [List.length_set]) rfl hkl2 fun id3 hid3 _ => ?_
    conv => lhs; whnf
    refine storeL h2 hid3 hkl2 rfl rfl (f := 3) (by decide) { L[kk] with synced := L[kk].bytes.length, lasts := true } (v := .bool true) rfl (by rw [List.getElem_set_self]; rfl) (show Rw τ2 1 L[kk].a L[kk].bytes.length (u8s L[kk].bytes) from (h1.rd _ (List.getElem_mem hkl)).ext s2.ext) fun τ3 h3 s3 => ?_
    have := hK τ3 _ ⟨_, w', o, by
      have e2 : mSync name S.V = (S.V.set kk (RG.v { L[kk] with synced := L[kk].bytes.length })).set kk (RG.v { L[kk] with synced := L[kk].bytes.length, lasts := true }) := by
        rw [List.set_set, mSync_map hs.nodup, upd_at hs.nodup hx hxn, ← hLv]; rfl
      rw [e2, ← hdn]
      exact h3, rfl⟩ (s1.trans (s2.trans s3))
    conv => lhs; whnf
    subst hKK
    conv => lhs; whnf
    exact this
end Go.Proofs.Ytahhajakgakdhaa
