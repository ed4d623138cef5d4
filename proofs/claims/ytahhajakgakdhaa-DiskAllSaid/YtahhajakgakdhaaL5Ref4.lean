/- The document's disk: Append. -/
import Derived.Test.YtahhajakgakdhaaL5Ref3
namespace Go.Proofs.Ytahhajakgakdhaa
set_option maxRecDepth 100000
open Go Go.AM Go.AM.St
abbrev newG (name : List Nat) : RG := ⟨name, [], 0, false, .nil⟩
theorem buildL {σ : H} {g : RG} {K : AV → H → Bool} (h : K (.sl (.at σ.length 0 4) 1) (σ ++ [AO.cells (rgs [g]) 4 .own]) = true) : buildSliceK Try.prog 101 1 [(0, .agg (rgc g))] σ K = true := by
  have e : rgs [g] = [.str (ints g.name), .sl g.a g.bytes.length, .int .i64 (g.synced : Int), .bool g.lasts] := rfl
  rw [e] at h
  conv => lhs; whnf
  exact h
theorem appL {σ0 σ : H} (p : σ0 <+: σ) {o : Option Nat} {a b : AM.SA} {L M : List RG} {n m : Nat} {cs : List AV} (ha : OwnS σ0 σ 4 o a n (rgs L)) (hn : n = L.length) (hb : Rw σ 4 b m cs) (hm : m = M.length) (hc : cs = rgs M) (hl : (L ++ M).length ≤ 1000000) {K : AV → H → Bool}
    (hK : ∀ o' a' σ', σ0 <+: σ' → Ext σ σ' → (∀ id, id < σ.length → o ≠ some id → σ'[id]? = σ[id]?) → σ.length ≤ σ'.length → OwnS σ0 σ' 4 o' a' (L ++ M).length (rgs (L ++ M)) → K (.sl a' (L ++ M).length) σ' = true) :
    appendK Try.prog 101 (.sl a n) (.sl b m) σ K = true := by
  subst hn hm hc
  refine appS Try.underlying101 rfl rfl rfl rfl (by decide) p ha hb (N := (L ++ M).length) (zs := rgs (L ++ M)) (by simp) (rgs_app L M) ?_ fun o' a' σ' p' l' k' _ x' w' => hK o' a' σ' p' x' k' l' w'
  show _ * 56 ≤ _
  omega
/-- A part of the document's list. -/
theorem slL {σ : H} {w : AM.SA} {L : List RG} {n : Nat} (hn : n = L.length) (h : Rw σ 4 w L.length (rgs L)) {lo hi : Option AV} (l u : Nat) (hlo : Bd lo 0 l) (hhi : Bd hi L.length u) (h1 : l ≤ u) (h2 : u ≤ L.length) {K : AV → Bool}
    (hK : ∀ a', Rw σ 4 a' (u - l) (rgs ((L.take u).drop l)) → K (.sl a' (u - l)) = true) : sliceK Try.prog 101 (.sl w n) lo hi none K = true := by
  subst hn
  exact @sliceK_rw Try.prog 101 105 4 σ Try.underlying101 (fun _ => rfl) w L.length (rgs L) h lo hi l u K hlo hhi h1 h2 (u - l) (rgs ((L.take u).drop l)) rfl (by rw [rgs_take, rgs_drop]) hK
attribute [local irreducible] IntKind.wrap Int.fdiv Int.tdiv Int.tmod BitVec.ofInt appendK sliceK indexAddrK ldK storeK seenK makeSliceK lookupK updateK deleteK mapK rangeK nextK keysF buildSliceK
variable {D : Drawer}
variable {Q : Nat} {S : DS} {F : Nat → Prop} {σ : H} {N k : Nat}
theorem RefAt.mono {σ' : H} {L : List RG} {w : AM.SA} {o : Option Nat} (h : RefAt σ Q S L w o) (p : σ <+: σ') : RefAt σ' Q S L w o := h.step (Stp.pre (F := fun _ => False) p) fun _ _ hf => hf
theorem at_spec' {n : Nat} {name : List Nat} {L : List RG} {w : AM.SA} {o : Option Nat} {V : List FV} (hD : ByPlan Try.prog D) (hn : L.length + 10 ≤ n) (hlen : L.length ≤ 1000000) (h : RefAt σ Q S L w o) (hV : S.V = V) {K : AV → H → Bool}
    (hK : K (.tup [.int .i64 (rAt name V : Nat), .bool (rHas name V)]) σ = true) : acall Try.prog tab D n 77 [.ptr (some ⟨Q, 0, 0, 4⟩), .str (ints name)] σ K = true := by
  subst hV
  exact at_spec hD hn hlen h hK
theorem mayN_false {name : List Nat} : mayN name = false ↔ name = [] ∨ 200 < name.length := by
  unfold mayN
  cases name with
  | nil => simp
  | cons a l => simp; omega
theorem nil_beq (name : List Nat) : (ints name == bytesL ⟨#[]⟩) = name.isEmpty := by cases name <;> rfl
theorem ref_app {n : Nat} {name bs : List Nat} {ab : AM.SA} {nb : Nat} (hD : ByPlan Try.prog D) (hT : ByTree Try.prog D) (hd : RV σ Q S F) (hs : Sorted S.V) (ho : OkS S N k) (hn : N + 20 ≤ n) (hN : N < 10000) (hb : Rw σ 1 ab nb (u8s bs)) (hk : k + bs.length ≤ 1000000000) {K : AV → H → Bool}
    (hK : ∀ σ' F' R', RV σ' Q R' F' → (R', (dApp name bs S).2) = (if (dApp name bs S).2 = 0 then ⟨rApp name bs S.V, (dApp name bs S).1.left, (dApp name bs S).1.down, (dApp name bs S).1.ops⟩ else (dApp name bs S).1, (dApp name bs S).2) → Stp F F' σ σ' → K (.int .i64 ((dApp name bs S).2 : Nat)) σ' = true) :
    acall Try.prog tab D n 60 [.ptr (some ⟨Q, 0, 0, 4⟩), .str (ints name), .sl ab nb] σ K = true := by
  obtain ⟨n, rfl, hn⟩ := up (n := n) (k := N + 19) (by omega)
  obtain ⟨L, w', o, h, rfl⟩ := hd
  have hLl : L.length ≤ N := by have := ho.f; rw [← h.v, List.length_map] at this; exact this
  have hnb : nb = bs.length := by have := hb.len; simp [u8s] at this; exact this.symm
  subst hnb
  conv => lhs; whnf
  refine ldF Try.underlying4 rfl rfl h.row rfl ?_
  cases hdn : S.down with
  | true =>
    have e : dApp name bs S = (S, 7) := if_pos hdn
    rw [e] at hK
    have := hK σ _ _ ⟨L, w', o, h, rfl⟩ rfl Stp.refl
    conv => lhs; whnf
    exact this
  | false =>
  have formBad : mayN name = false → dApp name bs S = (S, 1) := fun hm => by unfold dApp; rw [if_neg (by rw [hdn]; decide), if_pos hm]
  conv => lhs; whnf
  rw [nil_beq]
  cases hem : name.isEmpty with
  | true =>
    rw [formBad (mayN_false.2 (.inl (by simpa using hem)))] at hK
    have := hK σ _ _ ⟨L, w', o, h, rfl⟩ rfl Stp.refl
    conv => lhs; whnf
    exact this
  | false =>
  conv => lhs; whnf
  have hil : ((ints name).length : Int) = (name.length : Int) := by simp [ints]
  by_cases h200 : ((ints name).length : Int) > 200
  · rw [formBad (mayN_false.2 (.inr (by omega)))] at hK
    have := hK σ _ _ ⟨L, w', o, h, rfl⟩ rfl Stp.refl
    rw [show decide (((ints name).length : Int) > 200) = true from decide_eq_true h200]
    conv => lhs; whnf
    exact this
  rw [show decide (((ints name).length : Int) > 200) = false from decide_eq_false h200]
  have hm : mayN name = true := by
    cases hmm : mayN name with
    | true => rfl
    | false =>
      rcases mayN_false.1 hmm with rfl | h2
      · simp at hem
      · omega
  conv => lhs; whnf
  refine rop_spec (by omega) h ho.l1 ho.l2 (by have := ho.o; omega) (fun hz τ h1 s1 => ?_) fun hz τ h1 s1 => ?_
  · have e : dApp name bs S = (⟨S.V, S.left, true, S.ops⟩, 7) := by unfold dApp; rw [if_neg (by rw [hdn]; decide), if_neg (by rw [hm]; decide), if_pos hz]
    rw [e] at hK
    have := hK τ _ _ ⟨L, w', o, h1, rfl⟩ rfl s1
    conv => lhs; whnf
    exact this
  have e : dApp name bs S = (⟨mApp name bs S.V, max (S.left - 1) (-1), false, S.ops + 1⟩, 0) := by unfold dApp; rw [if_neg (by rw [hdn]; decide), if_neg (by rw [hm]; decide), if_neg hz]
  rw [e] at hK
  have bτ := hb.ext s1.ext
  rw [hdn] at h1
  have hkle : rAt name S.V ≤ L.length := by have := rAt_le name S.V; rw [← h.v, List.length_map] at this; rw [← h.v]; exact this
  conv => lhs; whnf
  refine at_spec' (V := S.V) hD (by omega) (by omega) h1 rfl ?_
  cases hh : rHas name S.V with
  | true =>
    obtain ⟨x, hx, hxn⟩ := rFound hh
    obtain ⟨hkl, hLv⟩ := row_v h.v hx
    have hbk := (ho.b x (List.mem_of_getElem? hx)).1
    have hxb : x.bytes = L[rAt name S.V].bytes := by rw [← hLv]; rfl
    have eapp : rApp name bs S.V = S.V.set (rAt name S.V) { x with bytes := x.bytes ++ bs } := by
      unfold rApp
      rw [if_pos hh, mApp_map hs.nodup ⟨x, List.mem_of_getElem? hx, hxn⟩, upd_at hs.nodup hx hxn]
    rw [hxb] at hbk
    generalize rAt name S.V = kk at hkl hLv hbk hkle eapp ⊢
    conv => lhs; whnf
    refine goK hD plan60x10 ord60x10 fun KK hKK => ?_
    conv => lhs; whnf
    refine ldL h1 ?_
    conv => lhs; whnf
    refine ldL h1 ?_
    conv => lhs; whnf
    refine idxL h1 rfl hkl fun id1 hid1 hr1 => ?_
    conv => lhs; whnf
    refine ldF Try.underlying22 rfl rfl hr1 (rgs_at hkl 1 (by decide)) ?_
    conv => lhs; whnf
    refine bt.app (List.prefix_refl _) (xs := []) (Own.nil _ _ _) (h1.rd _ (List.getElem_mem hkl)) _ rfl (by rw [List.nil_append]; omega) fun o5 a5 σ5 p5 _ _ _ r5 => ?_
    rw [List.nil_append] at r5 ⊢
    conv => lhs; whnf
    refine and_true (all_skip rfl (all_skip rfl (all_cons ?_ rfl))) ?_
    · conv => lhs; whnf
      refine ldL (h1.mono p5) ?_
      exact same_sl _ _
    conv => lhs; whnf
    refine bt.app p5 r5 (bτ.mono p5) (L[kk].bytes ++ bs) rfl (by rw [List.length_append]; omega) fun o6 a6 σ6 p6 _ _ _ r6 => ?_
    conv => lhs; whnf
    refine and_true (all_skip rfl (all_skip rfl (all_cons ?_ rfl))) ?_
    · conv => lhs; whnf
      refine ldL (h1.mono p6) ?_
      exact same_sl _ _
    conv => lhs; whnf
    refine idxL (h1.mono p6) rfl hkl fun id7 hid7 _ => ?_
    conv => lhs; whnf
    refine storeL (h1.mono p6) hid7 hkl rfl rfl (f := 1) (by decide) { L[kk] with bytes := L[kk].bytes ++ bs, a := a6 } (v := .sl a6 (L[kk].bytes ++ bs).length) rfl rfl r6.rw fun τ8 h8 s8 => ?_
    have := hK τ8 _ _ ⟨_, _, _, h8, rfl⟩ (by
      rw [if_pos rfl, eapp, ← hLv]; rfl) (s1.trans ((Stp.pre p6).trans s8))
    conv => lhs; whnf
    subst hKK
    conv => lhs; whnf
    exact this
  | false =>
    have hkk : rAt name S.V = rAt name S.V := rfl
    generalize hkk : rAt name S.V = kk at hkle ⊢
    have hrd' : ∀ g, g ∈ L.take kk ++ ([newG name] ++ L.drop kk) → ∀ τ', τ <+: τ' → Rw τ' 1 g.a g.bytes.length (u8s g.bytes) := fun g hg τ' p => by
      rcases List.mem_append.1 hg with hg | hg
      · exact (h1.rd g (List.mem_of_mem_take hg)).mono p
      · rcases List.mem_append.1 hg with hg | hg
        · rw [List.mem_singleton] at hg; subst hg; exact Rw.nil _ _
        · exact (h1.rd g (List.mem_of_mem_drop hg)).mono p
    conv => lhs; whnf
    refine goT hT tree60x9 ordT60x9 fun KK hKK0 => ?_
    conv => lhs; whnf
    refine ldL h1 ?_
    conv => lhs; whnf
    refine slL rfl h1.own.rw 0 kk (.inl ⟨rfl, rfl⟩) (.inr ⟨_, _, rfl, rfl⟩) (Nat.zero_le _) hkle fun a2 r2 => ?_
    rw [List.drop_zero] at r2
    conv => lhs; whnf
    refine ldL h1 ?_
    conv => lhs; whnf
    refine slL rfl h1.own.rw kk L.length (.inr ⟨_, _, rfl, rfl⟩) (.inl ⟨rfl, rfl⟩) hkle (Nat.le_refl _) fun a3 r3 => ?_
    rw [List.take_length] at r3
    conv => lhs; whnf
    refine and_true ?_ ?_
    · conv => lhs; whnf
      refine appL List.prefix_rfl (L := []) (M := L.take kk) (OwnS.nil _ _ _) rfl r2 (by rw [List.length_take]; omega) rfl (by rw [List.nil_append, List.length_take]; omega) fun oA aA σA pA _ _ _ wA => ?_
      rw [List.nil_append] at wA ⊢
      conv => lhs; whnf
      refine and_true (all_cons ?_ (all_skip rfl rfl)) ?_
      · conv => lhs; whnf
        refine ldL (h1.mono pA) ?_
        exact same_sl _ _
      conv => lhs; whnf
      refine buildL (g := newG name) ?_
      conv => lhs; whnf
      have pB := List.prefix_append σA [AO.cells (rgs [newG name]) 4 .own]
      refine and_true (all_cons ?_ (all_cons ?_ rfl)) ?_
      · conv => lhs; whnf
        refine ldL (h1.mono (pA.trans pB)) ?_
        exact same_sl _ _
      · conv => lhs; whnf
        refine ldL (h1.mono (pA.trans pB)) ?_
        exact same_sl _ _
      conv => lhs; whnf
      refine appL (pA.trans pB) (L := L.take kk) (M := [newG name]) (wA.mono pB) rfl (Rw.new (z := 4) (n := 1) (rgs [newG name]) .own rfl) rfl rfl (by rw [List.length_append, List.length_take]; show _ + 1 ≤ _; omega) fun oC aC σC pC _ _ _ wC => ?_
      conv => lhs; whnf
      refine and_true (all_cons ?_ (all_skip rfl rfl)) ?_
      · conv => lhs; whnf
        refine ldL (h1.mono pC) ?_
        exact same_sl _ _
      conv => lhs; whnf
      refine appL pC (L := L.take kk ++ [newG name]) (M := L.drop kk) wC rfl (r3.mono pC) (by rw [List.length_drop]) rfl (by simp only [List.length_append, List.length_take, List.length_drop, List.length_cons, List.length_nil]; omega) fun oE aE σE pE _ _ _ wE => ?_
      conv => lhs; whnf
      refine storeQL h1 pE wE (by simp only [List.length_append, List.length_cons, List.length_take, List.length_drop, List.length_nil] <;> omega) (fun g hg => hrd' g (by simpa using hg) _ pE) fun τ4 h4 s4 => ?_
      have hL4 : L.take kk ++ [newG name] ++ L.drop kk = L.take kk ++ newG name :: L.drop kk := by simp
      rw [hL4] at h4
      have hk4 : kk < (L.take kk ++ newG name :: L.drop kk).length := by rw [List.length_append, List.length_take, List.length_cons]; omega
      have hg4 : (L.take kk ++ newG name :: L.drop kk)[kk] = newG name := by rw [List.getElem_append_right (by rw [List.length_take]; omega)]; simp [Nat.min_eq_left hkle]
      have hb4 : (L.take kk ++ newG name :: L.drop kk)[kk].bytes = [] := by rw [hg4]
      have bτ4 := bτ.ext s4.ext
      conv => lhs; whnf
      subst hKK0
      conv => lhs; whnf
      refine goK hD plan60x10 ord60x10 fun KK hKK => ?_
      conv => lhs; whnf
      refine ldL h4 ?_
      conv => lhs; whnf
      refine ldL h4 ?_
      conv => lhs; whnf
      refine idxL h4 rfl hk4 fun id1 hid1 hr1 => ?_
      conv => lhs; whnf
      refine ldF Try.underlying22 rfl rfl hr1 (rgs_at hk4 1 (by decide)) ?_
      conv => lhs; whnf
      refine bt.app (List.prefix_refl _) (xs := []) (Own.nil _ _ _) (h4.rd _ (List.getElem_mem hk4)) _ rfl (by rw [List.nil_append]; rw [hb4]; simp <;> omega) fun o5 a5 σ5 p5 _ _ _ r5 => ?_
      rw [List.nil_append] at r5 ⊢
      conv => lhs; whnf
      refine and_true (all_skip rfl (all_skip rfl (all_cons ?_ rfl))) ?_
      · conv => lhs; whnf
        refine ldL (h4.mono p5) ?_
        exact same_sl _ _
      conv => lhs; whnf
      refine bt.app p5 r5 (bτ4.mono p5) ((L.take kk ++ newG name :: L.drop kk)[kk].bytes ++ bs) rfl (by rw [List.length_append]; rw [hb4]; simp <;> omega) fun o6 a6 σ6 p6 _ _ _ r6 => ?_
      conv => lhs; whnf
      refine and_true (all_skip rfl (all_skip rfl (all_cons ?_ rfl))) ?_
      · conv => lhs; whnf
        refine ldL (h4.mono p6) ?_
        exact same_sl _ _
      conv => lhs; whnf
      refine idxL (h4.mono p6) rfl hk4 fun id7 hid7 _ => ?_
      conv => lhs; whnf
      refine storeL (h4.mono p6) hid7 hk4 rfl rfl (f := 1) (by decide) { (L.take kk ++ newG name :: L.drop kk)[kk] with bytes := (L.take kk ++ newG name :: L.drop kk)[kk].bytes ++ bs, a := a6 } (v := .sl a6 ((L.take kk ++ newG name :: L.drop kk)[kk].bytes ++ bs).length) rfl rfl r6.rw fun τ8 h8 s8 => ?_
      have := hK τ8 _ _ ⟨_, _, _, h8, rfl⟩ (by
        show ((⟨((L.take kk ++ newG name :: L.drop kk).map RG.v).set kk _, _, _, _⟩ : DS), 0) = _
        rw [if_pos rfl]
        congr 2
        rw [map_take_drop h.v, hg4, List.set_append_right _ _ (by rw [List.length_take, ← h.v, List.length_map]; omega)]
        have e1 : kk - (S.V.take kk).length = 0 := by rw [List.length_take, ← h.v, List.length_map]; omega
        rw [e1, List.set_cons_zero]
        unfold rApp rIns
        rw [if_neg (by rw [hh]; decide)]
        show S.V.take kk ++ ⟨name, [] ++ bs, 0, false⟩ :: S.V.drop kk = _
        rw [List.nil_append, ← hkk]) (s1.trans (s4.trans ((Stp.pre p6).trans s8)))
      conv => lhs; whnf
      subst hKK
      conv => lhs; whnf
      exact this
    · show Go.AM.stepT Try.prog _ _ 10 [15, 4] _ _ _ _ _ = true
      refine stepT_hide fun ih hih => ?_
      conv => lhs; whnf
      refine buildL (g := newG name) ?_
      have pB := List.prefix_append τ [AO.cells (rgs [newG name]) 4 .own]
      have nB := Rw.new (σ := τ) (z := 4) (n := 1) (rgs [newG name]) .own rfl
      conv => lhs; whnf
      refine and_true (all_cons ?_ (all_cons ?_ rfl)) ?_
      · conv => lhs; whnf
        refine ldL (h1.mono pB) ?_
        exact same_sl _ _
      · conv => lhs; whnf
        refine ldL (h1.mono pB) ?_
        exact same_sl _ _
      conv => lhs; whnf
      subst hih
      conv => lhs; whnf
      refine appL List.prefix_rfl (L := []) (M := L.take kk) (OwnS.nil _ _ _) rfl (r2.mono pB) (by rw [List.length_take]; omega) rfl (by rw [List.nil_append, List.length_take]; omega) fun oA aA σA pA' _ _ _ wA' => ?_
      have pA := pB.trans pA'
      have wA := wA'.low (σ0 := τ) (prefix_len pB)
      rw [List.nil_append] at wA ⊢
      conv => lhs; whnf
      refine and_true (all_cons ?_ (all_skip rfl rfl)) ?_
      · conv => lhs; whnf
        refine ldL (h1.mono pA) ?_
        exact same_sl _ _
      conv => lhs; whnf
      refine appL pA (L := L.take kk) (M := [newG name]) wA rfl (nB.mono pA') rfl rfl (by rw [List.length_append, List.length_take]; show _ + 1 ≤ _; omega) fun oC aC σC pC _ _ _ wC => ?_
      conv => lhs; whnf
      refine and_true (all_cons ?_ (all_skip rfl rfl)) ?_
      · conv => lhs; whnf
        refine ldL (h1.mono pC) ?_
        exact same_sl _ _
      conv => lhs; whnf
      refine appL pC (L := L.take kk ++ [newG name]) (M := L.drop kk) wC rfl (r3.mono pC) (by rw [List.length_drop]) rfl (by simp only [List.length_append, List.length_take, List.length_drop, List.length_cons, List.length_nil]; omega) fun oE aE σE pE _ _ _ wE => ?_
      conv => lhs; whnf
      refine storeQL h1 pE wE (by simp only [List.length_append, List.length_cons, List.length_take, List.length_drop, List.length_nil] <;> omega) (fun g hg => hrd' g (by simpa using hg) _ pE) fun τ4 h4 s4 => ?_
      have hL4 : L.take kk ++ [newG name] ++ L.drop kk = L.take kk ++ newG name :: L.drop kk := by simp
      rw [hL4] at h4
      have hk4 : kk < (L.take kk ++ newG name :: L.drop kk).length := by rw [List.length_append, List.length_take, List.length_cons]; omega
      have hg4 : (L.take kk ++ newG name :: L.drop kk)[kk] = newG name := by rw [List.getElem_append_right (by rw [List.length_take]; omega)]; simp [Nat.min_eq_left hkle]
      have hb4 : (L.take kk ++ newG name :: L.drop kk)[kk].bytes = [] := by rw [hg4]
      have bτ4 := bτ.ext s4.ext
      conv => lhs; whnf
      subst hKK0
      conv => lhs; whnf
      refine goK hD plan60x10 ord60x10 fun KK hKK => ?_
      conv => lhs; whnf
      refine ldL h4 ?_
      conv => lhs; whnf
      refine ldL h4 ?_
      conv => lhs; whnf
      refine idxL h4 rfl hk4 fun id1 hid1 hr1 => ?_
      conv => lhs; whnf
      refine ldF Try.underlying22 rfl rfl hr1 (rgs_at hk4 1 (by decide)) ?_
      conv => lhs; whnf
      refine bt.app (List.prefix_refl _) (xs := []) (Own.nil _ _ _) (h4.rd _ (List.getElem_mem hk4)) _ rfl (by rw [List.nil_append]; rw [hb4]; simp <;> omega) fun o5 a5 σ5 p5 _ _ _ r5 => ?_
      rw [List.nil_append] at r5 ⊢
      conv => lhs; whnf
      refine and_true (all_skip rfl (all_skip rfl (all_cons ?_ rfl))) ?_
      · conv => lhs; whnf
        refine ldL (h4.mono p5) ?_
        exact same_sl _ _
      conv => lhs; whnf
      refine bt.app p5 r5 (bτ4.mono p5) ((L.take kk ++ newG name :: L.drop kk)[kk].bytes ++ bs) rfl (by rw [List.length_append]; rw [hb4]; simp <;> omega) fun o6 a6 σ6 p6 _ _ _ r6 => ?_
      conv => lhs; whnf
      refine and_true (all_skip rfl (all_skip rfl (all_cons ?_ rfl))) ?_
      · conv => lhs; whnf
        refine ldL (h4.mono p6) ?_
        exact same_sl _ _
      conv => lhs; whnf
      refine idxL (h4.mono p6) rfl hk4 fun id7 hid7 _ => ?_
      conv => lhs; whnf
      refine storeL (h4.mono p6) hid7 hk4 rfl rfl (f := 1) (by decide) { (L.take kk ++ newG name :: L.drop kk)[kk] with bytes := (L.take kk ++ newG name :: L.drop kk)[kk].bytes ++ bs, a := a6 } (v := .sl a6 ((L.take kk ++ newG name :: L.drop kk)[kk].bytes ++ bs).length) rfl rfl r6.rw fun τ8 h8 s8 => ?_
      have := hK τ8 _ _ ⟨_, _, _, h8, rfl⟩ (by
        show ((⟨((L.take kk ++ newG name :: L.drop kk).map RG.v).set kk _, _, _, _⟩ : DS), 0) = _
        rw [if_pos rfl]
        congr 2
        rw [map_take_drop h.v, hg4, List.set_append_right _ _ (by rw [List.length_take, ← h.v, List.length_map]; omega)]
        have e1 : kk - (S.V.take kk).length = 0 := by rw [List.length_take, ← h.v, List.length_map]; omega
        rw [e1, List.set_cons_zero]
        unfold rApp rIns
        rw [if_neg (by rw [hh]; decide)]
        show S.V.take kk ++ ⟨name, [] ++ bs, 0, false⟩ :: S.V.drop kk = _
        rw [List.nil_append, ← hkk]) (s1.trans (s4.trans ((Stp.pre p6).trans s8)))
      conv => lhs; whnf
      subst hKK
      conv => lhs; whnf
      exact this
end Go.Proofs.Ytahhajakgakdhaa
