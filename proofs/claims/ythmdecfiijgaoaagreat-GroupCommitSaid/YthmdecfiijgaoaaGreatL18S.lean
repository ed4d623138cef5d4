/- Entries whose records are ours alone. -/
import Derived.Test.YthmdecfiijgaoaaGreatL18From
import Derived.Test.YthmdecfiijgaoaaGreatAmOwn
namespace Go.Proofs.YthmdecfiijgaoaaGreat
open Go Go.AM Go.AM.St
set_option maxRecDepth 100000
def EnS (σ0 σ : H) (e : En) : Prop := (∃ o, OwnS σ0 σ 1 o e.2.1 e.2.2.2.nums.length (iks .i64 e.2.2.2.nums)) ∧ ∃ o, OwnS σ0 σ 1 o e.2.2.1 e.2.2.2.texts.length (txs e.2.2.2.texts)
theorem EnS.isR {σ0 σ : H} {e : En} (h : EnS σ0 σ e) : IsR σ e.2.1 e.2.2.1 e.2.2.2 := by
  obtain ⟨⟨_, h1⟩, _, h2⟩ := h
  exact ⟨h1.rw, h2.rw⟩
theorem EnS.mono {σ0 σ σ' : H} {e : En} (h : EnS σ0 σ e) (p : σ <+: σ') : EnS σ0 σ' e := by
  obtain ⟨⟨_, h1⟩, _, h2⟩ := h
  exact ⟨⟨_, h1.mono p⟩, _, h2.mono p⟩
theorem EnS.low {σ0 σ1 σ : H} {e : En} (h : EnS σ1 σ e) (p : σ0.length ≤ σ1.length) : EnS σ0 σ e := by
  obtain ⟨⟨_, h1⟩, _, h2⟩ := h
  exact ⟨⟨_, h1.low p⟩, _, h2.low p⟩
theorem keep4 {σ0 σ σ' : H} {o oo : Option Nat} {a : SA} {n : Nat} {cs : List AV} (h : OwnS σ0 σ 1 o a n cs) (h4 : ∀ id, oo = some id → ∃ xs md, σ[id]? = some (AO.cells xs 4 md)) (hk : ∀ id, id < σ.length → oo ≠ some id → σ'[id]? = σ[id]?) : OwnS σ0 σ' 1 o a n cs :=
  h.keep fun id e => by
    subst e
    refine hk id h.lt fun e2 => ?_
    obtain ⟨xs, md, g⟩ := h4 id e2
    have := h.2.2.1
    rw [g] at this
    cases this
theorem EnS.keep4 {σ0 σ σ' : H} {oo : Option Nat} {e : En} (h : EnS σ0 σ e) (h4 : ∀ id, oo = some id → ∃ xs md, σ[id]? = some (AO.cells xs 4 md)) (hk : ∀ id, id < σ.length → oo ≠ some id → σ'[id]? = σ[id]?) : EnS σ0 σ' e := by
  obtain ⟨⟨_, h1⟩, _, h2⟩ := h
  exact ⟨⟨_, YthmdecfiijgaoaaGreat.keep4 h1 h4 hk⟩, _, YthmdecfiijgaoaaGreat.keep4 h2 h4 hk⟩
theorem ownS4 {σ0 σ : H} {o : Option Nat} {a : SA} {n : Nat} {cs : List AV} (h : OwnS σ0 σ 4 o a n cs) : ∀ id, o = some id → ∃ xs md, σ[id]? = some (AO.cells xs 4 md) := fun id e => by
  subst e
  exact ⟨_, _, h.2.2.1⟩
def EsS (σ0 σ : H) (l : List En) : Prop := ∀ e ∈ l, EnS σ0 σ e
theorem EsS.es {σ0 σ : H} {l : List En} (h : EsS σ0 σ l) : IsEs σ l := fun e he => (h e he).isR
theorem EsS.mono {σ0 σ σ' : H} {l : List En} (h : EsS σ0 σ l) (p : σ <+: σ') : EsS σ0 σ' l := fun e he => (h e he).mono p
theorem EsS.nil (σ0 σ : H) : EsS σ0 σ [] := fun e he => by cases he

theorem appNil {t e : TypeId} {ie : TypeInfo} {z : Nat} (ht : Tryz.prog.underlying t = some (.slice e)) (hi : Tryz.prog.info? e = some ie) (hz : ie.size = z) (hg : (ie.size == 0 || ie.bytes == 0 || !zeroFits ie) = false) {σ : H} {b : SA} {m : Nat} {ys : List AV}
    (hx : Rw σ z b m ys) (hb : m * ie.bytes ≤ 140737488355328) {K : AV → H → Bool} (hK : ∀ o a σ', σ <+: σ' → OwnS σ σ' z o a m ys → K (.sl a m) σ' = true) :
    appendK Tryz.prog t (.sl .nil 0) (.sl b m) σ K = true := by
  refine appendZero ht hi hz hg hx hb (.inl rfl) (fun h => ?_) fun h => ?_
  · have hl := hx.len
    subst h
    have hc : ys = [] := List.length_eq_zero_iff.1 (by rw [hl, Nat.zero_mul])
    subst hc
    exact hK none _ _ (List.prefix_refl _) (OwnS.nil _ _ _)
  · exact hK (some σ.length) _ _ (List.prefix_append _ _) (OwnS.new (List.prefix_refl _) _ hx.len.symm)

attribute [local irreducible] IntKind.wrap Int.fdiv Int.tdiv Int.tmod BitVec.ofInt appendK sliceK indexAddrK ldK storeK seenK makeSliceK valsF lookupK updateK mapK
variable {D : Drawer}

theorem rec_own {n : Nat} {a b : SA} {r : RecP} (hn : 1 ≤ n) (hD : ByPlan Tryz.prog D) {σ : H} (hr : IsR σ a b r) {K : AV → H → Bool}
    (hK : ∀ a' b' σ', σ <+: σ' → (∀ x, EnS σ σ' (x, a', b', cutR r)) → K (recV a' b' (cutR r)) σ' = true) : acall Tryz.prog tab D n 13 [recV a b r] σ K = true := by
  obtain ⟨n, rfl, hn⟩ := up hn
  have g := get_old (get_new σ (AO.cells [.int .i64 r.kind, .sl a r.nums.length, .sl b r.texts.length] 3 .own)) (AO.cells [.int .i64 0, .sl .nil 0, .sl .nil 0] 3 .own)
  have g' := get_new (σ ++ [AO.cells [.int .i64 r.kind, .sl a r.nums.length, .sl b r.texts.length] 3 .own]) (AO.cells [.int .i64 0, .sl .nil 0, .sl .nil 0] 3 .own)
  have pf : σ <+: σ ++ [AO.cells [AV.int .i64 r.kind, .sl a r.nums.length, .sl b r.texts.length] 3 .own] ++ [AO.cells [.int .i64 0, .sl .nil 0, .sl .nil 0] 3 .own] :=
    List.IsPrefix.trans (List.prefix_append _ _) (List.prefix_append _ _)
  conv => lhs; whnf
  refine hD.go plan13x1 ord13x1 ?_
  conv => lhs; whnf
  refine ldF rfl rfl rfl g rfl ?_
  conv => lhs; whnf
  refine ldF rfl rfl rfl g rfl ?_
  conv => lhs; whnf
  refine ldF rfl rfl rfl g rfl ?_
  conv => lhs; whnf
  refine it42.slice (hr.nums.mono pf) 0 (min r.nums.length 45) (.inl ⟨rfl, rfl⟩) (.inr ⟨_, _, rfl, ?_⟩) (Nat.zero_le _) (Nat.min_le_left _ _) (r.nums.take 45) ?_ fun a1 r1 => ?_
  · show (if _ then _ else _) = _
    split <;> omega
  · rw [List.drop_zero, Nat.min_comm, ← List.take_take, List.take_of_length_le (Nat.le_refl _)]
  conv => lhs; whnf
  refine ldF rfl rfl rfl g rfl ?_
  conv => lhs; whnf
  refine ldF rfl rfl rfl g rfl ?_
  conv => lhs; whnf
  refine tt43.slice (hr.texts.mono pf) 0 (min r.texts.length 45) (.inl ⟨rfl, rfl⟩) (.inr ⟨_, _, rfl, ?_⟩) (Nat.zero_le _) (Nat.min_le_left _ _) (r.texts.take 45) ?_ fun b1 r2 => ?_
  · show (if _ then _ else _) = _
    split <;> omega
  · rw [List.drop_zero, Nat.min_comm, ← List.take_take, List.take_of_length_le (Nat.le_refl _)]
  conv => lhs; whnf
  have l1 : (r.nums.take 45).length ≤ 45 := by rw [List.length_take]; omega
  have l2 : (r.texts.take 45).length ≤ 45 := by rw [List.length_take]; omega
  refine appNil Tryz.underlying22 rfl rfl rfl r1 (by show _ * 8 ≤ _; omega) fun o3 a3 σ3 p3 r3 => ?_
  conv => lhs; whnf
  refine and_true (all_cons ?_ (all_cons ?_ (all_skip rfl (all_skip rfl (all_cons ?_ rfl))))) ?_
  · conv => lhs; whnf
    refine ldF rfl rfl rfl (prefix_get p3 g) rfl ?_
    exact same_sl _ _
  · conv => lhs; whnf
    refine ldF rfl rfl rfl (prefix_get p3 g) rfl ?_
    exact same_sl _ _
  · conv => lhs; whnf
    refine ldF rfl rfl rfl (prefix_get p3 g) rfl ?_
    exact same_int .i64 r.kind
  conv => lhs; whnf
  refine appNil Tryz.underlying23 rfl rfl rfl (r2.mono p3) (by show _ * 16 ≤ _; omega) fun o4 b4 σ4 p4 r4 => ?_
  conv => lhs; whnf
  refine and_true (all_skip rfl (all_skip rfl (all_skip rfl (all_skip rfl (all_cons ?_ rfl))))) ?_
  · conv => lhs; whnf
    refine ldF rfl rfl rfl (prefix_get (List.IsPrefix.trans p3 p4) g) rfl ?_
    exact same_int .i64 r.kind
  have g4 := prefix_get (List.IsPrefix.trans p3 p4) g'
  conv => lhs; whnf
  refine storeS rfl g4 rfl rfl (Nat.le_refl 3) rfl ?_
  conv => lhs; whnf
  refine ldS Tryz.underlying25 rfl (get_set g4 _) (Nat.le_refl 3) (Nat.le_refl 3) rfl ?_
  conv => lhs; whnf
  have hid : (σ ++ [AO.cells [AV.int .i64 r.kind, .sl a r.nums.length, .sl b r.texts.length] 3 .own]).length < (σ ++ [AO.cells [AV.int .i64 r.kind, .sl a r.nums.length, .sl b r.texts.length] 3 .own] ++ [AO.cells [AV.int .i64 0, .sl .nil 0, .sl .nil 0] 3 .own]).length := by
    simp
  have q3 := prefix_len p3
  refine hK a3 b4 _ (prefix_set (List.IsPrefix.trans pf (List.IsPrefix.trans p3 p4)) (prefix_len (List.prefix_append _ _)) _) fun x => ⟨⟨o3, ?_⟩, o4, ?_⟩
  · refine OwnS.low (OwnS.keep (r3.mono p4) fun id e => ?_) (prefix_len pf)
    subst e
    exact List.getElem?_set_ne (Nat.ne_of_lt (Nat.lt_of_lt_of_le hid r3.2.1))
  · refine OwnS.low (OwnS.keep r4 fun id e => ?_) (prefix_len (List.IsPrefix.trans pf p3))
    subst e
    exact List.getElem?_set_ne (Nat.ne_of_lt (Nat.lt_of_lt_of_le hid (Nat.le_trans q3 r4.2.1)))

theorem entries_own {n : Nat} (hn : 100 ≤ n) (hD : ByPlan Tryz.prog D) {s : SA} {l : List En} {σ : H} (hs : Rw σ 4 s l.length (ents l)) (hi : IsEs σ l) {K : AV → H → Bool}
    (hK : ∀ o w W σ', σ <+: σ' → EsS σ σ' W → vals W = cutE (vals l) → OwnS σ σ' 4 o w W.length (ents W) → K (.sl w W.length) σ' = true) :
    acall Tryz.prog tab D n 21 [.sl s l.length] σ K = true := by
  obtain ⟨n, rfl, hn⟩ := up hn
  conv => lhs; whnf
  refine loop_rule (m := 25) (fun q fr τ => ∃ (z : Int) (i : Nat) (o : Option Nat) (w : SA) (W : List En), z = (i : Int) ∧ i + q = 12 ∧ i ≤ l.length ∧ W.length = i ∧ σ <+: τ ∧ EsS σ τ W ∧ vals W = ((vals l).take i).map cutV ∧ OwnS σ τ 4 o w W.length (ents W) ∧
      fr = [.sl s l.length, .bad, .bad, .sl w W.length, .int .i64 z, .bad, .bad, .bad, .bad, .bad, .bad, .bad, .bad, .bad, .bad, .bad, .bad, .bad, .bad, .bad, .bad, .bad, .bad, .bad, .bad, .bad, .bad, .bad, .bad, .bad, .bad]) ?_ _ 12 _ _ (by omega)
      ⟨_, 0, none, .nil, [], rfl, by omega, Nat.zero_le _, rfl, List.prefix_refl _, EsS.nil σ σ, rfl, OwnS.nil _ _ _, rfl⟩
  rintro q fr τ C ⟨z, i, o, w, W, rfl, hq, hil0, hW, hp, hI, hV, ho, rfl⟩ next fin
  conv => lhs; whnf
  by_cases hlt : i < l.length ∧ i < 12
  case neg =>
    have he : (vals l).take i = (vals l).take 12 := by
      by_cases h12 : i = 12
      · rw [h12]
      · rw [List.take_of_length_le (by rw [vals_len]; omega), List.take_of_length_le (by rw [vals_len]; omega)]
    have tail : ∀ fr', forget 8 fr' = [.bad, .bad, .bad, .sl w W.length, .bad, .bad, .bad, .bad, .bad, .bad, .bad, .bad, .bad, .bad, .bad, .bad, .bad, .bad, .bad, .bad, .bad, .bad, .bad, .bad, .bad, .bad, .bad, .bad, .bad, .bad, .bad] → C (AE.exit 0) fr' τ = true := fun fr' hf => by
      refine fin _ _ _ nofun ?_
      show forgetK 8 fr' _ = true
      rw [forgetK_eq, hf]
      conv => lhs; whnf
      exact hK o w W τ hp hI (by rw [hV, he]; rfl) ho
    by_cases hl1 : i < l.length
    · refine bif_pos (by simpa using hl1) ?_
      conv => lhs; whnf
      refine bif_neg (by simp; omega) ?_
      conv => lhs; whnf
      exact tail _ rfl
    · refine bif_neg (by simpa using hl1) ?_
      conv => lhs; whnf
      exact tail _ rfl
  have hil := hlt.1
  refine bif_pos (by simpa using hil) ?_
  conv => lhs; whnf
  refine bif_pos (by simp; omega) ?_
  conv => lhs; whnf
  refine hD.go plan21x5 ord21x5 ?_
  conv => lhs; whnf
  refine idx22 hs rfl rfl hil fun id b h4 => ?_
  conv => lhs; whnf
  refine ldTerm (h4.mono hp) ?_
  conv => lhs; whnf
  refine idx22 (hs.mono hp) rfl rfl hil fun id' b' h4' => ?_
  conv => lhs; whnf
  refine ldRec h4' ?_
  have hie := hi _ (List.getElem_mem hil)
  have hva := vals_at hil
  generalize l[i] = e at h4 h4' hie hva ⊢
  conv => lhs; whnf
  refine rec_own (by omega) hD (hie.mono hp) fun a1 b1 τ1 p1 r1 => ?_
  conv => lhs; whnf
  refine and_true (all_skip rfl (all_cons ?_ rfl)) ?_
  · conv => lhs; whnf
    refine ldTerm ((h4.mono hp).mono p1) ?_
    exact same_int _ _
  conv => lhs; whnf
  have hrow : Rw (τ1 ++ [AO.cells (enCells (e.1, a1, b1, cutR e.2.2.2)) 4 .own]) 4 (.at τ1.length 0 4) 1 (enCells (e.1, a1, b1, cutR e.2.2.2)) := Rw.new _ _ rfl
  have ho2 := (ho.mono p1).mono (List.prefix_append τ1 [AO.cells (enCells (e.1, a1, b1, cutR e.2.2.2)) 4 .own])
  refine appS Tryz.underlying36 rfl rfl rfl rfl (by decide) (prefix_add (List.IsPrefix.trans hp p1) _) (o := o) ho2 hrow (N := (W ++ [(e.1, a1, b1, cutR e.2.2.2)]).length) (zs := ents (W ++ [(e.1, a1, b1, cutR e.2.2.2)])) (by simp) (by rw [← ents_app]; rfl) ?_ fun o5 a5 τ5 p5 _ k5 _ _ w5 => ?_
  · show _ * 64 ≤ _
    rw [List.length_append, List.length_singleton]; omega
  conv => lhs; whnf
  refine next (q - 1) _ _ (by omega) ⟨_, i + 1, o5, a5, W ++ [(e.1, a1, b1, cutR e.2.2.2)], inc_i64 (by omega), by omega, by omega, by rw [List.length_append, List.length_singleton, hW], p5, ?_, by rw [vals_snoc, hV, take_snoc hva]; rfl, w5, rfl⟩
  intro x hx
  rcases List.mem_append.1 hx with hx | hx
  · exact (((hI x hx).mono p1).mono (List.prefix_append _ _)).keep4 (ownS4 ho2) k5
  · rw [List.mem_singleton] at hx
    subst hx
    exact (((r1 _).low (prefix_len hp)).mono (List.prefix_append _ _)).keep4 (ownS4 ho2) k5

theorem clone39_own {n m : Nat} (hn : 1 ≤ n) (hm : m ≤ 1000000000) {s : SA} {cs : List AV} {σ : H} (hs : Rw σ 1 s m cs) {K : AV → H → Bool}
    (hK : ∀ o a σ', σ <+: σ' → OwnS σ σ' 1 o a m cs → K (.sl a m) σ' = true) : acall Tryz.prog tab D n 53 [.sl s m] σ K = true := by
  have hl := hs.len
  refine clone39_spec hn hm hs (fun h0 a ha => ?_) (fun _ => hK (some σ.length) _ _ (List.prefix_append _ _) (OwnS.new (List.prefix_refl _) _ hl.symm))
  subst h0
  have hc : cs = [] := List.length_eq_zero_iff.1 (by rw [hl, Nat.zero_mul])
  subst hc
  rcases ha with rfl | rfl
  · exact hK none _ _ (List.prefix_refl _) (OwnS.nil _ _ _)
  · exact hK none _ _ (List.prefix_refl _) (OwnS.zero _ _ _)
theorem clone40_own {n m : Nat} (hn : 1 ≤ n) (hm : m ≤ 1000000000) {s : SA} {cs : List AV} {σ : H} (hs : Rw σ 1 s m cs) {K : AV → H → Bool}
    (hK : ∀ o a σ', σ <+: σ' → OwnS σ σ' 1 o a m cs → K (.sl a m) σ' = true) : acall Tryz.prog tab D n 54 [.sl s m] σ K = true := by
  have hl := hs.len
  refine clone40_spec hn hm hs (fun h0 a ha => ?_) (fun _ => hK (some σ.length) _ _ (List.prefix_append _ _) (OwnS.new (List.prefix_refl _) _ hl.symm))
  subst h0
  have hc : cs = [] := List.length_eq_zero_iff.1 (by rw [hl, Nat.zero_mul])
  subst hc
  rcases ha with rfl | rfl
  · exact hK none _ _ (List.prefix_refl _) (OwnS.nil _ _ _)
  · exact hK none _ _ (List.prefix_refl _) (OwnS.zero _ _ _)
theorem keepR {σ0 σ : H} {o : Option Nat} {a : SA} {n : Nat} {cs xs ys : List AV} {id : Nat} {md md' : Md} (h : OwnS σ0 σ 1 o a n cs) (hr : σ[id]? = some (AO.cells xs 4 md)) : OwnS σ0 (σ.set id (.cells ys 4 md')) 1 o a n cs :=
  keep4 (oo := some id) h (fun j e => by cases e; exact ⟨_, _, hr⟩) fun j _ hne => List.getElem?_set_ne fun e => hne (by rw [e])
theorem EnS.keepR {σ0 σ : H} {e : En} {xs ys : List AV} {id : Nat} {md md' : Md} (h : EnS σ0 σ e) (hr : σ[id]? = some (AO.cells xs 4 md)) : EnS σ0 (σ.set id (.cells ys 4 md')) e := by
  obtain ⟨⟨_, h1⟩, _, h2⟩ := h
  exact ⟨⟨_, YthmdecfiijgaoaaGreat.keepR h1 hr⟩, _, YthmdecfiijgaoaaGreat.keepR h2 hr⟩

theorem own_own {n : Nat} {s : SA} {l : List En} (hn : l.length + 10 ≤ n) (hl : l.length ≤ 10000) (hD : ByPlan Tryz.prog D) {σ : H} (hs : Rw σ 4 s l.length (ents l)) (hi : IsEs σ l) (hsm : Small (vals l)) {K : AV → H → Bool}
    (hK : ∀ o w W σ', σ <+: σ' → EsS σ σ' W → vals W = vals l → OwnS σ σ' 4 o w W.length (ents W) → K (.sl w W.length) σ' = true) :
    acall Tryz.prog tab D n 96 [.sl s l.length] σ K = true := by
  obtain ⟨n, rfl, hn⟩ := up hn
  conv => lhs; whnf
  refine clone34_spec (by omega) hl hs (fun h0 a ha => ?_) (fun hpos => ?_)
  · have e : l = [] := List.length_eq_zero_iff.1 h0
    subst e
    have hK' := fun o w => hK o w [] σ (List.prefix_refl _) (EsS.nil _ _) rfl
    conv => lhs; whnf
    refine loop_rule (m := 385) (fun q fr τ => τ = σ ∧ fr = [.sl a 0, .bad, .bad, .bad, .bad, .bad, .bad, .int .i64 0, .int .i64 0, .bad, .bad, .bad, .bad, .bad, .bad, .bad, .bad, .bad, .bad, .bad, .bad, .bad, .bad, .bad, .bad, .bad, .bad, .bad, .bad, .bad, .bad, .bad, .bad, .bad, .bad, .bad, .bad]) ?_ _ 1 _ _ (by omega) ⟨rfl, rfl⟩
    rintro q fr τ C ⟨rfl, rfl⟩ next fin
    conv => lhs; whnf
    refine fin _ _ _ nofun ?_
    conv => lhs; whnf
    rcases ha with rfl | rfl
    · exact hK' none _ (OwnS.nil _ _ _)
    · exact hK' none _ (OwnS.zero _ _ _)
  · conv => lhs; whnf
    refine loop_rule (m := 385) (fun q fr τ => ∃ (z : Int) (i : Nat) (V : List En), z = (i : Int) ∧ i + q = l.length ∧ V.length = l.length ∧ σ <+: τ ∧ τ[σ.length]? = some (AO.cells (ents V) 4 .own) ∧ IsEs τ V ∧ (∀ j (h : j < V.length), j < i → EnS σ τ V[j]) ∧ vals V = vals l ∧
        fr = [.sl (.at σ.length 0 4) l.length, .bad, .bad, .bad, .bad, .bad, .bad, .int .i64 (l.length : Int), .int .i64 z, .bad, .bad, .bad, .bad, .bad, .bad, .bad, .bad, .bad, .bad, .bad, .bad, .bad, .bad, .bad, .bad, .bad, .bad, .bad, .bad, .bad, .bad, .bad, .bad, .bad, .bad, .bad, .bad]) ?_ _ l.length _ _ (by omega)
        ⟨_, 0, l, rfl, by omega, rfl, List.prefix_append _ _, get_new _ _, hi.mono (List.prefix_append _ _), fun j _ h => absurd h (Nat.not_lt_zero _), rfl, rfl⟩
    rintro q fr τ C ⟨z, i, V, rfl, hq, hV, hp, hr, hI, hO, hv, rfl⟩ next fin
    conv => lhs; whnf
    by_cases hlt : i < l.length
    · refine bif_pos (by simpa using hlt) ?_
      have hiV : i < V.length := by omega
      conv => lhs; whnf
      refine hD.go plan96x5 ord96x5 ?_
      conv => lhs; whnf
      refine idxAt rfl hlt ?_
      conv => lhs; whnf
      refine ldNums (ents_getAt hiV hr) ?_
      conv => lhs; whnf
      refine idxAt rfl hlt ?_
      conv => lhs; whnf
      refine ldTexts (ents_getAt hiV hr) ?_
      have hie := hI _ (List.getElem_mem hiV)
      have hsi : V[i].2.2.2.nums.length ≤ 45 ∧ V[i].2.2.2.texts.length ≤ 45 := hsm _ (by rw [← hv]; exact List.mem_map.2 ⟨_, List.getElem_mem hiV, rfl⟩)
      have hR : σ.length < τ.length := get_lt hr
      conv => lhs; whnf
      refine clone39_own (by omega) (by omega) hie.nums fun o1 a1 τ1 p1 r1 => ?_
      conv => lhs; whnf
      refine and_true (all_cons ?_ (all_skip rfl rfl)) ?_
      · conv => lhs; whnf
        refine ldTexts (ents_getAt hiV (prefix_get p1 hr)) ?_
        exact same_sl _ _
      conv => lhs; whnf
      refine clone40_own (by omega) (by omega) (hie.texts.mono p1) fun o2 a2 τ2 p2 r2 => ?_
      have hr2 := prefix_get p2 (prefix_get p1 hr)
      have p12 := List.IsPrefix.trans p1 p2
      have hp2 := List.IsPrefix.trans hp p12
      conv => lhs; whnf
      refine idxAt rfl hlt ?_
      conv => lhs; whnf
      refine stNums hiV rfl hr2 ?_
      have hr3 := get_set hr2 (AO.cells (ents (V.set i (V[i].1, a1, V[i].2.2.1, V[i].2.2.2))) 4 .own)
      have hp3 := prefix_set hp2 (Nat.le_refl _) (AO.cells (ents (V.set i (V[i].1, a1, V[i].2.2.1, V[i].2.2.2))) 4 .own)
      have hl3 : i < (V.set i (V[i].1, a1, V[i].2.2.1, V[i].2.2.2)).length := by rw [List.length_set]; exact hiV
      have hg3 : (V.set i (V[i].1, a1, V[i].2.2.1, V[i].2.2.2))[i] = (V[i].1, a1, V[i].2.2.1, V[i].2.2.2) := List.getElem_set_self _
      have hss : ∀ v : En, (V.set i (V[i].1, a1, V[i].2.2.1, V[i].2.2.2)).set i v = V.set i v := fun v => by rw [List.set_set]
      conv => lhs; whnf
      generalize hV1 : V.set i (V[i].1, a1, V[i].2.2.1, V[i].2.2.2) = V1 at hr3 hp3 hl3 hg3 hss ⊢
      refine idxAt rfl hlt ?_
      conv => lhs; whnf
      refine stTexts hl3 (by rw [hg3]) hr3 ?_
      have hr4 := get_set hr3 (AO.cells (ents (V1.set i (V1[i].1, V1[i].2.1, a2, V1[i].2.2.2))) 4 .own)
      have hp4 := prefix_set hp3 (Nat.le_refl _) (AO.cells (ents (V1.set i (V1[i].1, V1[i].2.1, a2, V1[i].2.2.2))) 4 .own)
      have e4 : V1.set i (V1[i].1, V1[i].2.1, a2, V1[i].2.2.2) = V.set i (V[i].1, a1, a2, V[i].2.2.2) := by rw [hg3, hss]
      rw [e4] at hr4 hp4 ⊢
      have hO4 : EnS σ ((τ2.set σ.length (AO.cells (ents V1) 4 .own)).set σ.length (AO.cells (ents (V.set i (V[i].1, a1, a2, V[i].2.2.2))) 4 .own)) (V[i].1, a1, a2, V[i].2.2.2) :=
        EnS.keepR (EnS.keepR ⟨⟨o1, (r1.mono p2).low (prefix_len hp)⟩, o2, r2.low (prefix_len (List.IsPrefix.trans hp p1))⟩ hr2) hr3
      have hv4 := vals_set hiV a1 a2
      conv => lhs; whnf
      refine next (q - 1) _ _ (by omega) ⟨_, i + 1, V.set i (V[i].1, a1, a2, V[i].2.2.2), inc_i64 (by omega), by omega, by rw [List.length_set]; omega, hp4, hr4, fun x hx => ?_, fun j h hj => ?_, by rw [hv4, hv], rfl⟩
      · rcases List.mem_or_eq_of_mem_set hx with hx | rfl
        · exact (((hI x hx).mono p12).set4 hr2).set4 hr3
        · exact hO4.isR
      · by_cases hji : j = i
        · subst hji
          rw [List.getElem_set_self]
          exact hO4
        · rw [List.getElem_set_ne (fun e => hji e.symm)]
          exact EnS.keepR (EnS.keepR ((hO j (by rw [List.length_set] at h; exact h) (by omega)).mono p12) hr2) hr3
    · refine bif_neg (by simpa using hlt) ?_
      conv => lhs; whnf
      refine fin _ _ _ nofun ?_
      conv => lhs; whnf
      have h := hK (some σ.length) (.at σ.length 0 4) V τ hp (fun x hx => by
        obtain ⟨j, hj, rfl⟩ := List.getElem_of_mem hx
        exact hO j hj (by omega)) hv ⟨rfl, Nat.le_refl _, hr, by rw [ents_len]⟩
      rw [hV] at h
      exact h

theorem new_own {n : Nat} {s : SA} {l : List En} (hn : 2100 ≤ n) (hl : l.length ≤ 1000000) (hD : ByPlan Tryz.prog D) {σ : H} (hs : Rw σ 4 s l.length (ents l)) (hi : IsEs σ l) (hsm : Small (vals l)) {K : AV → H → Bool}
    (hK : ∀ B W o w σ', σ <+: σ' → σ.length ≤ B → EsS σ σ' W → vals W = (vals l).take 2000 → σ'[B]? = some (AO.cells [.sl w W.length] 1 .own) → OwnS σ σ' 4 o w W.length (ents W) → K (.ptr (some ⟨B, 0, 0, 1⟩)) σ' = true) :
    acall Tryz.prog tab D n 57 [.sl s l.length] σ K = true := by
  obtain ⟨n, rfl, hn⟩ := up hn
  conv => lhs; whnf
  refine slice22 hs 0 (min l.length 2000) (.inl ⟨rfl, rfl⟩) (.inr ⟨_, _, rfl, ?_⟩) (Nat.zero_le _) (Nat.min_le_left _ _) fun a2 r2 => ?_
  · show (if (2000 : Int) < (l.length : Int) then (2000 : Int) else (l.length : Int)) = _
    split <;> omega
  conv => lhs; whnf
  have e : (l.take (min l.length 2000)).drop 0 = l.take 2000 := by
    rw [List.drop_zero, Nat.min_comm, ← List.take_take, List.take_of_length_le (Nat.le_refl _)]
  rw [e] at r2 ⊢
  have hle : (l.take 2000).length ≤ 2000 := by rw [List.length_take]; omega
  refine own_own (by omega) (by omega) hD r2 (hi.take _) (by rw [vals_take]; exact hsm.take _) fun o w W σ2 p2 i2 v2 o2 => ?_
  conv => lhs; whnf
  exact hK _ W o w _ (prefix_add p2 _) (prefix_len p2) (i2.mono (List.prefix_append _ _)) (by rw [v2, vals_take]) (get_new _ _) (o2.mono (List.prefix_append _ _))

/-- From 1 on. -/
theorem from_own {n B m : Nat} {y z : Int} {V : List En} (hn : 2100 ≤ n) (hy : y = 1) (hz : z = (m : Int)) (hV : V.length ≤ 2500) (hD : ByPlan Tryz.prog D) {σ : H} (hL : IsLog σ B V) (hsm : Small (vals V)) {K : AV → H → Bool}
    (hK : ∀ o w W σ', σ <+: σ' → EsS σ σ' W → vals W = (vals V).take (min m 2000) → OwnS σ σ' 4 o w W.length (ents W) → K (.sl w W.length) σ' = true) :
    acall Tryz.prog tab D n 63 [.ptr (some ⟨B, 0, 0, 1⟩), .int .i64 y, .int .i64 z] σ K = true := by
  obtain ⟨n, rfl, hn⟩ := up hn
  subst hy hz
  conv => lhs; whnf
  refine len_spec (by omega) hL ?_
  conv => lhs; whnf
  by_cases h0 : V.length = 0
  · obtain rfl : V = [] := List.length_eq_zero_iff.1 h0
    exact hK none .nil [] σ (List.prefix_refl _) (EsS.nil _ _) (by simp [vals]) (OwnS.nil _ _ _)
  refine bif_neg (by simp; omega) ?_
  conv => lhs; whnf
  by_cases h1 : m = 0
  · subst h1
    exact hK none .nil [] σ (List.prefix_refl _) (EsS.nil _ _) (by simp [vals]) (OwnS.nil _ _ _)
  refine bif_neg (by simp; omega) ?_
  have hL' := hL
  obtain ⟨a, md, g1, g2, g3⟩ := hL'
  conv => lhs; whnf
  refine hD.go plan63x3 ord63x3 ?_
  conv => lhs; whnf
  refine ldL g1 ?_
  conv => lhs; whnf
  refine len_spec (by omega) hL ?_
  conv => lhs; whnf
  refine and_true (all_cons ?_ rfl) ?_
  · conv => lhs; whnf
    refine ldL g1 ?_
    exact same_sl _ _
  conv => lhs; whnf
  have e : V.take (min (min m 2000) V.length) = V.take (min m 2000) := by
    rw [← List.take_take, List.take_of_length_le (Nat.le_refl _)]
  refine slice22 g2 0 (min (min m 2000) V.length) (.inr ⟨_, _, rfl, ?_⟩) (.inr ⟨_, _, rfl, ?_⟩) (Nat.zero_le _) (Nat.min_le_right _ _) fun a2 r2 => ?_
  · exact wrap_11
  · exact from_val
  rw [List.drop_zero, e] at r2 ⊢
  have hle : (V.take (min m 2000)).length ≤ 2000 := by rw [List.length_take]; omega
  conv => lhs; whnf
  refine own_own (by omega) (by omega) hD r2 (g3.take _) (by rw [vals_take]; exact hsm.take _) fun o w W σ2 p2 i2 v2 o2 => ?_
  conv => lhs; whnf
  exact hK o w W σ2 p2 i2 (by rw [v2, vals_take]) o2
end Go.Proofs.YthmdecfiijgaoaaGreat
