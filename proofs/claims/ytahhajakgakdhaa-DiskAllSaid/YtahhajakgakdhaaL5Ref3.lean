/- The document's disk: Read, Cut, Append. -/
import Derived.Test.YtahhajakgakdhaaL5Ref2
namespace Go.Proofs.Ytahhajakgakdhaa
set_option maxRecDepth 100000
open Go Go.AM Go.AM.St
theorem slice3 {σ : H} {a : AM.SA} {n k : Nat} {bs : List Nat} {y : Int} (hy : y = (k : Int)) (hv : Rw σ 1 a n (u8s bs)) (hk : k ≤ bs.length) {K : AV → Bool} (hK : ∀ a', Rw σ 1 a' k (u8s (bs.take k)) → K (.sl a' k) = true) :
    sliceK Try.prog 22 (.sl a n) none (some (.int .i64 y)) (some (.int .i64 y)) K = true := by
  subst hy
  have hn := hv.len
  rw [u8s_len, Nat.mul_one] at hn
  unfold sliceK
  rw [Try.underlying22]
  simp only
  rcases hv with ⟨rfl, h3, h4⟩ | ⟨rfl, h3, h4⟩ | ⟨id, off, xs, md, rfl, h3, h4, h5⟩
  · obtain rfl : k = 0 := by omega
    refine bif_pos (by simp; omega) (St.boundK_of (.inr ⟨_, _, rfl, rfl⟩) (Nat.le_refl _) (Nat.le_refl _) (St.boundK_of (.inr ⟨_, _, rfl, rfl⟩) (Nat.le_refl _) (Nat.le_refl _) (St.boundK_of (.inl ⟨rfl, rfl⟩) (Nat.le_refl _) (Nat.le_refl _) ?_)))
    exact hK .nil (by rw [List.take_zero]; exact Rw.nil _ _)
  · obtain rfl : k = 0 := by omega
    refine bif_pos (by simp; omega) (St.boundK_of (.inr ⟨_, _, rfl, rfl⟩) (Nat.le_refl _) (Nat.le_refl _) (St.boundK_of (.inr ⟨_, _, rfl, rfl⟩) (Nat.le_refl _) (Nat.le_refl _) (St.boundK_of (.inl ⟨rfl, rfl⟩) (Nat.le_refl _) (Nat.le_refl _) ?_)))
    exact hK .zero (by rw [List.take_zero]; exact Rw.zero _ _)
  · simp only
    rw [show ∀ K, esizeK Try.prog 5 K = K 1 from fun _ => rfl]
    refine bif_pos (by simp) (St.boundK_of (.inr ⟨_, _, rfl, rfl⟩) (Nat.zero_le _) (by omega) (St.boundK_of (.inr ⟨_, _, rfl, rfl⟩) (Nat.zero_le _) (Nat.le_refl _) (St.boundK_of (.inl ⟨rfl, rfl⟩) (Nat.zero_le _) (Nat.zero_le _) ?_)))
    by_cases hk0 : k = 0
    · subst hk0
      refine bif_pos (by simp) ?_
      exact hK .zero (by rw [List.take_zero]; exact Rw.zero _ _)
    · refine bif_neg (by simp; omega) ?_
      have := hK (.at id (off + 0 * 1) 1) (.inr (.inr ⟨id, off + 0 * 1, xs, md, rfl, h3, by omega, by
        rw [Nat.zero_mul, Nat.add_zero, ← u8s_take, ← h5, List.take_take, Nat.min_eq_left (by omega)]⟩))
      rw [Nat.sub_zero]
      exact this
/-- The document's list is another one. -/
theorem storeQL {σ τ : H} {Q : Nat} {S : DS} {L L' : List RG} {w w' : AM.SA} {o o' : Option Nat} {m : Nat} (h : RefAt σ Q S L w o) (p : σ <+: τ) (hw : OwnS σ τ 4 o' w' m (rgs L')) (hm : m = L'.length) (hrd : ∀ g ∈ L', Rw τ 1 g.a g.bytes.length (u8s g.bytes)) {K : H → Bool}
    (hK : ∀ τ', RefAt τ' Q ⟨L'.map RG.v, S.left, S.down, S.ops⟩ L' w' o' → Stp (FR' Q o) (FR' Q o') σ τ' → K τ' = true) : storeK Try.prog 101 (.ptr (some ⟨Q, 0, 0, 4⟩)) (.sl w' m) τ K = true := by
  subst hm
  have hr := prefix_get p h.row
  have hk : ∀ id, id ≠ Q → (τ.set Q (AO.cells [.sl w' L'.length, .int .i64 S.left, .int .i64 (S.ops : Int), .bool S.down] 4 .own))[id]? = τ[id]? := fun id hne => List.getElem?_set_ne (Ne.symm hne)
  have x := Ext.ne hr nofun hk
  have hne : ∀ id, o' = some id → id ≠ Q ∧ σ.length ≤ id := fun id e => by
    subst e
    have := hw.2.1
    have := get_lt h.row
    exact ⟨by omega, hw.2.1⟩
  refine storeK_of rfl rfl (by decide) hr rfl (by show 0 + 0 < 4; decide) (hK _ ⟨get_set hr _, (hw.keep fun id e => hk id (hne id e).1).low (Nat.zero_le _), fun e => (hne Q e).1 rfl, rfl, fun g hg => (hrd g hg).ext x⟩ ⟨by rw [List.length_set]; exact prefix_len p, fun id hl hf => ?_, fun id hf => ?_, (Ext.of_prefix p).trans x⟩)
  · rw [List.getElem?_set_ne (fun e => hf (.inl e.symm)), prefix_get p (List.getElem?_eq_getElem hl), List.getElem?_eq_getElem hl]
  · rcases hf with rfl | e
    · exact .inl (.inl rfl)
    · exact .inr (hne id e).2
theorem map_take_drop {L : List RG} {V : List FV} (h : L.map RG.v = V) (k : Nat) (g : RG) : (L.take k ++ g :: L.drop k).map RG.v = V.take k ++ g.v :: V.drop k := by
  rw [List.map_append, List.map_cons, List.map_take, List.map_drop, h]
attribute [local irreducible] IntKind.wrap Int.fdiv Int.tdiv Int.tmod BitVec.ofInt appendK sliceK indexAddrK ldK storeK seenK makeSliceK lookupK updateK deleteK mapK rangeK nextK keysF
variable {D : Drawer}
variable {Q : Nat} {S : DS} {F : Nat → Prop} {σ : H} {N k : Nat}
theorem ref_read {n : Nat} {name : List Nat} (hD : ByPlan Try.prog D) (hd : RV σ Q S F) (hs : Sorted S.V) (ho : OkS S N k) (hn : N + 20 ≤ n) (hN : N < 1000000) (hk : k ≤ 1000000000) {K : AV → H → Bool}
    (hK : ∀ a' σ', σ <+: σ' → Rw σ' 1 a' (dRead name S).1.length (u8s (dRead name S).1) → K (.tup [.sl a' (dRead name S).1.length, .int .i64 ((dRead name S).2 : Nat)]) σ' = true) :
    acall Try.prog tab D n 65 [.ptr (some ⟨Q, 0, 0, 4⟩), .str (ints name)] σ K = true := by
  obtain ⟨n, rfl, hn⟩ := up (n := n) (k := N + 19) (by omega)
  obtain ⟨L, w', o, h, rfl⟩ := hd
  have hLl : L.length ≤ N := by have := ho.f; rw [← h.v, List.length_map] at this; exact this
  conv => lhs; whnf
  refine at_spec hD (by omega) (by omega) h ?_
  cases hh : rHas name S.V with
  | false =>
    conv => lhs; whnf
    refine ldF Try.underlying4 rfl rfl h.row rfl ?_
    cases hdn : S.down with
    | true =>
      have e : dRead name S = ([], 7) := if_pos hdn
      rw [e] at hK
      have := hK .nil σ List.prefix_rfl (Rw.nil _ _)
      conv => lhs; whnf
      exact this
    | false =>
      have e : dRead name S = ([], 3) := by unfold dRead; rw [if_neg (by rw [hdn]; decide), (rHas_find hs).1 hh]
      rw [e] at hK
      have := hK .nil σ List.prefix_rfl (Rw.nil _ _)
      conv => lhs; whnf
      exact this
  | true =>
  obtain ⟨x, hx, hxn⟩ := rFound hh
  have hf := find_at hs.nodup hx hxn
  obtain ⟨hkl, hLv⟩ := row_v h.v hx
  conv => lhs; whnf
  refine ldF Try.underlying4 rfl rfl h.row rfl ?_
  cases hdn : S.down with
  | true =>
    have e : dRead name S = ([], 7) := if_pos hdn
    rw [e] at hK
    have := hK .nil σ List.prefix_rfl (Rw.nil _ _)
    conv => lhs; whnf
    exact this
  | false =>
  have e : dRead name S = (x.bytes, 0) := by unfold dRead; rw [if_neg (by rw [hdn]; decide), hf]
  rw [e] at hK
  have hxb : x.bytes = L[rAt name S.V].bytes := by rw [← hLv]; rfl
  have hbk := (ho.b x (List.mem_of_getElem? hx)).1
  rw [hxb] at hK hbk
  generalize rAt name S.V = kk at hkl hK hbk ⊢
  conv => lhs; whnf
  refine ldL h ?_
  conv => lhs; whnf
  refine idxL h rfl hkl fun id hid hr => ?_
  conv => lhs; whnf
  refine ldF Try.underlying22 rfl rfl hr (rgs_at hkl 1 (by decide)) ?_
  conv => lhs; whnf
  refine bt.app (List.prefix_refl _) (xs := []) (Own.nil _ _ _) (h.rd _ (List.getElem_mem hkl)) _ rfl (by rw [List.nil_append]; omega) fun o1 a1 σ1 p1 _ _ _ r1 => ?_
  have := hK a1 σ1 p1 r1.rw
  conv => lhs; whnf
  exact this
theorem ref_cut {n : Nat} {name : List Nat} {y : Int} (hD : ByPlan Try.prog D) (hd : RV σ Q S F) (hs : Sorted S.V) (ho : OkS S N k) (hn : N + 20 ≤ n) (hN : N < 1000000) {K : AV → H → Bool}
    (hK : ∀ σ' F', RV σ' Q (dCut name y S).1 F' → Stp F F' σ σ' → K (.int .i64 ((dCut name y S).2 : Nat)) σ' = true) :
    acall Try.prog tab D n 62 [.ptr (some ⟨Q, 0, 0, 4⟩), .str (ints name), .int .i64 y] σ K = true := by
  obtain ⟨n, rfl, hn⟩ := up (n := n) (k := N + 19) (by omega)
  obtain ⟨L, w', o, h, rfl⟩ := hd
  have hLl : L.length ≤ N := by have := ho.f; rw [← h.v, List.length_map] at this; exact this
  conv => lhs; whnf
  refine at_spec hD (by omega) (by omega) h ?_
  cases hh : rHas name S.V with
  | false =>
    conv => lhs; whnf
    refine ldF Try.underlying4 rfl rfl h.row rfl ?_
    cases hdn : S.down with
    | true =>
      have e : dCut name y S = (S, 7) := if_pos hdn
      rw [e] at hK
      have := hK σ _ ⟨L, w', o, h, rfl⟩ Stp.refl
      conv => lhs; whnf
      exact this
    | false =>
      have e : dCut name y S = (S, 3) := by unfold dCut; rw [if_neg (by rw [hdn]; decide), if_pos ((rHas_find hs).1 hh)]
      rw [e] at hK
      have := hK σ _ ⟨L, w', o, h, rfl⟩ Stp.refl
      conv => lhs; whnf
      exact this
  | true =>
  obtain ⟨x, hx, hxn⟩ := rFound hh
  have hf := find_at hs.nodup hx hxn
  obtain ⟨hkl, hLv⟩ := row_v h.v hx
  conv => lhs; whnf
  refine ldF Try.underlying4 rfl rfl h.row rfl ?_
  cases hdn : S.down with
  | true =>
    have e : dCut name y S = (S, 7) := if_pos hdn
    rw [e] at hK
    have := hK σ _ ⟨L, w', o, h, rfl⟩ Stp.refl
    conv => lhs; whnf
    exact this
  | false =>
  have hxb : x.bytes = L[rAt name S.V].bytes := by rw [← hLv]; rfl
  have mc : mCut name y.toNat S.V = S.V.set (rAt name S.V) ⟨x.name, x.bytes.take y.toNat, y.toNat, true⟩ := by rw [mCut_map hs.nodup, upd_at hs.nodup hx hxn]
  have bad : ¬ (0 ≤ y ∧ y ≤ x.bytes.length) → dCut name y S = (S, 9) := fun hb => by
    unfold dCut
    rw [if_neg (by rw [hdn]; decide), if_neg (by rw [hf]; nofun), if_pos]
    rintro ⟨z, hz, i1, i2⟩
    obtain rfl : x = z := Option.some.inj (hf.symm.trans hz)
    exact hb ⟨i1, i2⟩
  conv => lhs; whnf
  by_cases hy0 : y < 0
  · rw [bad fun hb => by omega] at hK
    have := hK σ _ ⟨L, w', o, h, rfl⟩ Stp.refl
    rw [show decide (y < 0) = true from decide_eq_true hy0]
    conv => lhs; whnf
    exact this
  rw [show decide (y < 0) = false from decide_eq_false hy0]
  rw [hxb] at bad mc
  have good : y ≤ (L[rAt name S.V].bytes.length : Int) → inFile name y S.V := fun hb => ⟨x, hf, by omega, by rw [hxb]; exact hb⟩
  have hxname : x.name = L[rAt name S.V].name := by rw [← hLv]; rfl
  rw [hxname] at mc
  generalize rAt name S.V = kk at hkl hLv bad mc good ⊢
  conv => lhs; whnf
  refine ldL h ?_
  conv => lhs; whnf
  refine idxL h rfl hkl fun id hid hr => ?_
  conv => lhs; whnf
  refine ldF Try.underlying22 rfl rfl hr (rgs_at hkl 1 (by decide)) ?_
  conv => lhs; whnf
  by_cases hy1 : y > (L[kk].bytes.length : Int)
  · rw [bad fun hb => by omega] at hK
    have := hK σ _ ⟨L, w', o, h, rfl⟩ Stp.refl
    rw [show decide (y > (L[kk].bytes.length : Int)) = true from decide_eq_true hy1]
    conv => lhs; whnf
    exact this
  rw [show decide (y > (L[kk].bytes.length : Int)) = false from decide_eq_false hy1]
  have hin := good (by omega)
  conv => lhs; whnf
  refine rop_spec (by omega) h ho.l1 ho.l2 (by have := ho.o; omega) (fun hz τ h1 s1 => ?_) fun hz τ h1 s1 => ?_
  · have e : dCut name y S = (⟨S.V, S.left, true, S.ops⟩, 7) := by unfold dCut; rw [if_neg (by rw [hdn]; decide), if_neg (by rw [hf]; nofun), if_neg (fun hc => hc hin), if_pos hz]
    rw [e] at hK
    have := hK τ _ ⟨L, w', o, h1, rfl⟩ s1
    conv => lhs; whnf
    exact this
  · have e : dCut name y S = (⟨mCut name y.toNat S.V, max (S.left - 1) (-1), false, S.ops + 1⟩, 0) := by unfold dCut; rw [if_neg (by rw [hdn]; decide), if_neg (by rw [hf]; nofun), if_neg (fun hc => hc hin), if_neg hz]
    rw [e] at hK
    have hyk : y = (y.toNat : Int) := by omega
    have hr1 := h1.rd _ (List.getElem_mem hkl)
    conv => lhs; whnf
    refine goK hD plan62x10 ord62x10 fun KK hKK => ?_
    conv => lhs; whnf
    refine ldL h1 ?_
    conv => lhs; whnf
    refine ldL h1 ?_
    conv => lhs; whnf
    refine ldL h1 ?_
    conv => lhs; whnf
    refine ldL h1 ?_
    conv => lhs; whnf
    refine idxL h1 rfl hkl fun id1 hid1 hr1' => ?_
    conv => lhs; whnf
    refine ldF Try.underlying22 rfl rfl hr1' (rgs_at hkl 1 (by decide)) ?_
    conv => lhs; whnf
    refine slice3 hyk hr1 (by omega) fun a5 r5 => ?_
    have hlt : (L[kk].bytes.take y.toNat).length = y.toNat := by rw [List.length_take]; omega
    conv => lhs; whnf
    refine idxL h1 rfl hkl fun id2 hid2 _ => ?_
    conv => lhs; whnf
    refine storeL h1 hid2 hkl rfl rfl (f := 1) (by decide) { L[kk] with bytes := L[kk].bytes.take y.toNat, a := a5 } (v := .sl a5 y.toNat) rfl (by rw [← hlt]; rw [hlt]; show [AV.str _, AV.sl a5 (L[kk].bytes.take y.toNat).length, _, _] = _; rw [hlt]; rfl) (by show Rw τ 1 a5 (L[kk].bytes.take y.toNat).length _; rw [hlt]; exact r5) fun τ2 h2 s2 => ?_
    have hk2 : kk < (L.set kk { L[kk] with bytes := L[kk].bytes.take y.toNat, a := a5 }).length := by rw [List.length_set]; exact hkl
    conv => lhs; whnf
    refine idxL' h2 (by rw [List.length_set]) rfl hk2 fun id3 hid3 _ => ?_
    conv => lhs; whnf
    refine storeL h2 hid3 hk2 rfl rfl (f := 2) (by decide) { L[kk] with bytes := L[kk].bytes.take y.toNat, a := a5, synced := y.toNat } (v := .int .i64 y) rfl (by rw [List.getElem_set_self]; show [_, _, AV.int .i64 ((y.toNat : Nat) : Int), _] = _; rw [← hyk]; rfl) (by show Rw τ2 1 a5 (L[kk].bytes.take y.toNat).length _; rw [hlt]; exact r5.ext s2.ext) fun τ3 h3 s3 => ?_
    have hk3 : kk < ((L.set kk { L[kk] with bytes := L[kk].bytes.take y.toNat, a := a5 }).set kk { L[kk] with bytes := L[kk].bytes.take y.toNat, a := a5, synced := y.toNat }).length := by rw [List.length_set]; exact hk2
    conv => lhs; whnf
    refine idxL' h3 (by rw [List.length_set, List.length_set]) rfl hk3 fun id4 hid4 _ => ?_
    conv => lhs; whnf
    refine storeL h3 hid4 hk3 rfl rfl (f := 3) (by decide) { L[kk] with bytes := L[kk].bytes.take y.toNat, a := a5, synced := y.toNat, lasts := true } (v := .bool true) rfl (by rw [List.getElem_set_self]; rfl) (by show Rw τ3 1 a5 (L[kk].bytes.take y.toNat).length _; rw [hlt]; exact (r5.ext s2.ext).ext s3.ext) fun τ4 h4 s4 => ?_
    have := hK τ4 _ ⟨_, w', o, by
      have e2 : mCut name y.toNat S.V = ((S.V.set kk (RG.v { L[kk] with bytes := L[kk].bytes.take y.toNat, a := a5 })).set kk (RG.v { L[kk] with bytes := L[kk].bytes.take y.toNat, a := a5, synced := y.toNat })).set kk (RG.v { L[kk] with bytes := L[kk].bytes.take y.toNat, a := a5, synced := y.toNat, lasts := true }) := by
        rw [List.set_set, List.set_set, mc]; rfl
      rw [e2, ← hdn]
      exact h4, rfl⟩ (s1.trans (s2.trans (s3.trans s4)))
    conv => lhs; whnf
    subst hKK
    conv => lhs; whnf
    exact this
end Go.Proofs.Ytahhajakgakdhaa
