/- Package log: Add and Put, over rows that are its own. -/
import Derived.Test.YthmdecfiijgaoaaGreatL20L
import Derived.Test.YthmdecfiijgaoaaGreatL18Put
import Derived.Test.YthmdecfiijgaoaaGreatAmOwn
namespace Go.Proofs.YthmdecfiijgaoaaGreat
set_option maxRecDepth 100000
open Go Go.AM Go.AM.St
open Go.Raft (termAt fromL mis newer len)
/-- What may be told of the heap behind an operation that changes but F. -/
structure Stq (F F' : Nat → Prop) (σ σ' : H) : Prop where
  len : σ.length ≤ σ'.length
  keep : ∀ id, id < σ.length → ¬ F id → σ'[id]? = σ[id]?
  fp : ∀ id, F' id → F id ∨ σ.length ≤ id
  rcd : ∀ a b r, IsR σ a b r → IsR σ' a b r
theorem Stq.refl (F : Nat → Prop) (σ : H) : Stq F F σ σ := ⟨Nat.le_refl _, fun _ _ _ => rfl, fun _ h => .inl h, fun _ _ _ h => h⟩
theorem Stq.pre (F : Nat → Prop) {σ σ' : H} (h : σ <+: σ') : Stq F F σ σ' :=
  ⟨prefix_len h, fun id hid _ => by rw [prefix_get h (List.getElem?_eq_getElem hid), List.getElem?_eq_getElem hid], fun _ h => .inl h, fun _ _ _ hr => hr.mono h⟩
theorem Stq.trans {F F' F'' : Nat → Prop} {σ σ1 σ2 : H} (h1 : Stq F F' σ σ1) (h2 : Stq F' F'' σ1 σ2) : Stq F F'' σ σ2 :=
  ⟨Nat.le_trans h1.len h2.len, fun id hl hf => (h2.keep id (Nat.lt_of_lt_of_le hl h1.len) fun h => by
      rcases h1.fp id h with h | h
      · exact hf h
      · omega).trans (h1.keep id hl hf), fun id h => by
    rcases h2.fp id h with h | h
    · exact h1.fp id h
    · exact .inr (Nat.le_trans h1.len h), fun _ _ _ h => h2.rcd _ _ _ (h1.rcd _ _ _ h)⟩
/-- .. of more. -/
theorem Stq.up {F F' G G' : Nat → Prop} {σ σ' : H} (h : Stq F F' σ σ') (h1 : ∀ id, F id → G id) (h2 : ∀ id, G' id → G id ∨ F' id) : Stq G G' σ σ' :=
  ⟨h.len, fun id hl hf => h.keep id hl fun x => hf (h1 id x), fun id x => by
    rcases h2 id x with x | x
    · exact .inl x
    · exact (h.fp id x).imp (h1 id) (fun x => x), h.rcd⟩
theorem Stq.get {F F' : Nat → Prop} {σ σ' : H} (h : Stq F F' σ σ') {id : Nat} {x : AO} (hx : σ[id]? = some x) (hf : ¬ F id) : σ'[id]? = some x := (h.keep id (get_lt hx) hf).trans hx
theorem Stq.es {F F' : Nat → Prop} {σ σ' : H} (h : Stq F F' σ σ') {l : List En} (hi : IsEs σ l) : IsEs σ' l := fun e he => h.rcd _ _ _ (hi e he)
/-- A store into a row of structs. -/
theorem Stq.set {F : Nat → Prop} {σ : H} {id z : Nat} {xs ys : List AV} {md md' : Md} (hf : F id) (hr : σ[id]? = some (AO.cells xs z md)) (hz : z ≠ 1) : Stq F F σ (σ.set id (.cells ys z md')) :=
  ⟨by rw [List.length_set]; exact Nat.le_refl _, fun j _ hj => List.getElem?_set_ne fun e => hj (by rw [← e]; exact hf), fun _ h => .inl h, fun _ _ _ h => ⟨Rwset h.nums hr (Ne.symm hz), Rwset h.texts hr (Ne.symm hz)⟩⟩
/-- A store of another slice. -/
theorem Stq.setL {F : Nat → Prop} {σ : H} {B k k' : Nat} {a a' : AM.SA} {md md' : Md} (hf : F B) (hr : σ[B]? = some (AO.cells [.sl a k] 1 md)) : Stq F F σ (σ.set B (.cells [.sl a' k'] 1 md')) :=
  ⟨by rw [List.length_set]; exact Nat.le_refl _, fun j _ hj => List.getElem?_set_ne fun e => hj (by rw [← e]; exact hf), fun _ h => .inl h, fun _ _ _ h => (Keeps.setL hr).2 _ _ _ h⟩
theorem Stq.map {F : Nat → Prop} {σ : H} {id c c' : Nat} {es es' : List ME} (hf : F id) (hr : σ[id]? = some (AO.map es c)) : Stq F F σ (σ.set id (.map es' c')) := by
  have key : ∀ {z n : Nat} {a : AM.SA} {cs : List AV}, Rw σ z a n cs → Rw (σ.set id (.map es' c')) z a n cs := fun h => by
    rcases h with h | h | ⟨j, off, ys, w, e, h1, h2, h3⟩
    · exact .inl h
    · exact .inr (.inl h)
    · refine .inr (.inr ⟨j, off, ys, w, e, get_set_ne h1 (fun e => ?_) _, h2, h3⟩)
      rw [e, hr] at h1
      cases h1
  exact ⟨by rw [List.length_set]; exact Nat.le_refl _, fun j _ hj => List.getElem?_set_ne fun e => hj (by rw [← e]; exact hf), fun _ h => .inl h, fun _ _ _ h => ⟨key h.nums, key h.texts⟩⟩
/-- A log that is its own. -/
structure LogV (σ : H) (B : Nat) (o : Option Nat) (w : AM.SA) (V : List En) : Prop where
  hB : σ[B]? = some (AO.cells [.sl w V.length] 1 .own)
  hO : OwnS [] σ 4 o w V.length (ents V)
  hI : IsEs σ V
def fpL (B : Nat) (o : Option Nat) : Nat → Prop := fun id => id = B ∨ o = some id
theorem LogV.log {B : Nat} {o : Option Nat} {w : AM.SA} {V : List En} {σ : H} (h : LogV σ B o w V) : IsLog σ B V := ⟨w, .own, h.hB, h.hO.rw, h.hI⟩
theorem LogV.mono {B : Nat} {o : Option Nat} {w : AM.SA} {V : List En} {σ σ' : H} (h : LogV σ B o w V) (p : σ <+: σ') : LogV σ' B o w V := ⟨prefix_get p h.hB, h.hO.mono p, h.hI.mono p⟩
theorem LogV.stq {F F' : Nat → Prop} {B : Nat} {o : Option Nat} {w : AM.SA} {V : List En} {σ σ' : H} (h : LogV σ B o w V) (s : Stq F F' σ σ') (hF : ∀ id, fpL B o id → ¬ F id) : LogV σ' B o w V :=
  ⟨s.get h.hB (hF B (.inl rfl)), h.hO.keep fun id e => by
    subst e
    exact s.keep id h.hO.lt (hF id (.inr rfl)), s.es h.hI⟩
theorem on_iff {l es : List EnV} {p i : Nat} (h : i < es.length) : on l es p i ↔ (l[p + i]?).map (·.1) = some (es[i]).1 := by
  unfold on
  have e1 : termN es (i + 1) = (es[i]).1 := by rw [termN, List.getElem?_eq_getElem h]; rfl
  rw [e1]
  by_cases hl : p + i < l.length
  · have e2 : termN l (p + i + 1) = (l[p + i]).1 := by rw [termN, List.getElem?_eq_getElem hl]; rfl
    rw [e2, List.getElem?_eq_getElem hl]
    simp
    omega
  · rw [List.getElem?_eq_none (by omega)]
    simp
    omega
theorem mis_all {l : List EnV} : ∀ {es : List EnV} {p : Nat}, (∀ j (h : j < es.length), (l[p + j]?).map (·.1) = some (es[j]).1) → mis l p es = none
  | [], _, _ => rfl
  | e :: es, p, h => by
    have h0 := h 0 (by simp)
    have h2 : mis l (p + 1) es = none := mis_all fun j hj => by
      have := h (j + 1) (by simpa using hj)
      rw [show p + (j + 1) = p + 1 + j by omega] at this
      simpa using this
    rw [mis, if_pos (by simpa using h0), h2]; rfl
theorem mis_at {l : List EnV} : ∀ {es : List EnV} {p i : Nat} (hi : i < es.length), (∀ j (h : j < es.length), j < i → (l[p + j]?).map (·.1) = some (es[j]).1) → (l[p + i]?).map (·.1) ≠ some (es[i]).1 → mis l p es = some i
  | [], _, _, hi, _, _ => absurd hi (Nat.not_lt_zero _)
  | e :: es, p, 0, _, _, h => by rw [mis, if_neg (by simpa using h)]
  | e :: es, p, i + 1, hi, h, h' => by
    have h0 := h 0 (by simp) (by omega)
    have h2 : mis l (p + 1) es = some i := mis_at (i := i) (by simpa using hi) (fun j hj hji => by
      have := h (j + 1) (by simpa using hj) (by omega)
      rw [show p + (j + 1) = p + 1 + j by omega] at this
      simpa using this) (by
      rw [show p + (i + 1) = p + 1 + i by omega] at h'
      simpa using h')
    rw [mis, if_pos (by simpa using h0), h2]; rfl
theorem clone34_own {D : Drawer} {σ : H} {n m : Nat} (hn : 1 ≤ n) (hm : m ≤ 10000) {s : AM.SA} {cs : List AV} (hs : Rw σ 4 s m cs) {K : AV → H → Bool}
    (hK : ∀ o a σ', σ <+: σ' → OwnS σ σ' 4 o a m cs → K (.sl a m) σ' = true) : acall Tryz.prog tab D n 120 [.sl s m] σ K = true := by
  have hl := hs.len
  refine clone34_spec hn hm hs (fun h0 a ha => ?_) (fun _ => hK (some σ.length) _ _ (List.prefix_append _ _) (OwnS.new (List.prefix_refl _) _ hl.symm))
  subst h0
  have hc : cs = [] := List.length_eq_zero_iff.1 (by rw [hl, Nat.zero_mul])
  subst hc
  rcases ha with rfl | rfl
  · exact hK none _ _ (List.prefix_refl _) (OwnS.nil _ _ _)
  · exact hK none _ _ (List.prefix_refl _) (OwnS.zero _ _ _)
/-- An append to a log's row, and the store. -/
theorem app_store {σ τ τ6 : H} {B k : Nat} {o o4 o6 : Option Nat} {a6 : AM.SA} {w0 : AM.SA} {W : List En} (hB : τ[B]? = some (AO.cells [.sl w0 k] 1 .own)) (hs : Stq (fpL B o) (fpL B o) σ τ) (h4 : ∀ id, o4 = some id → o = some id ∨ σ.length ≤ id) (h4' : ∀ id, o4 = some id → ∃ xs md, τ[id]? = some (AO.cells xs 4 md))
    (hl : τ.length ≤ τ6.length) (hk : ∀ id, id < τ.length → o4 ≠ some id → τ6[id]? = τ[id]?) (h6 : ∀ id, o6 = some id → o4 = some id ∨ τ.length ≤ id) (hx : Ext τ τ6) (w6 : OwnS [] τ6 4 o6 a6 W.length (ents W)) (hi : IsEs τ W) :
    τ6[B]? = some (AO.cells [.sl w0 k] 1 .own) ∧ Stq (fpL B o) (fpL B o6) σ (τ6.set B (AO.cells [.sl a6 W.length] 1 .own)) ∧ LogV (τ6.set B (AO.cells [.sl a6 W.length] 1 .own)) B o6 a6 W := by
  have hB4 : o4 ≠ some B := fun e => by
    obtain ⟨xs, md, g⟩ := h4' B e
    rw [hB] at g
    cases g
  have g6 : τ6[B]? = some (AO.cells [.sl w0 k] 1 .own) := (hk B (get_lt hB) hB4).trans hB
  have s1 : Stq (fpL B o) (fpL B o6) τ τ6 → Stq (fpL B o) (fpL B o6) σ τ6 := fun h => hs.trans h
  have i6 : IsEs τ6 W := hi.ext hx
  refine ⟨g6, ?_, get_set g6 _, w6.keep fun id e => ?_, (Keeps.setL g6).es i6⟩
  · refine Stq.trans (F' := fpL B o6) ⟨Nat.le_trans hs.len hl, fun id hid hf => ?_, fun id hf => ?_, fun a b r hr => ?_⟩ (Stq.setL (.inl rfl) g6)
    · refine (hk id (Nat.lt_of_lt_of_le hid hs.len) fun e => ?_).trans (hs.keep id hid hf)
      rcases h4 id e with h | h
      · exact hf (.inr h)
      · omega
    · rcases hf with rfl | hf
      · exact .inl (.inl rfl)
      · rcases h6 id hf with h | h
        · exact (h4 id h).imp .inr fun x => x
        · exact .inr (Nat.le_trans hs.len h)
    · have := hs.rcd a b r hr
      exact ⟨Rw.ext this.nums hx, Rw.ext this.texts hx⟩
  · subst e
    refine List.getElem?_set_ne fun e => ?_
    have := w6.2.2.1
    rw [← e, g6] at this
    exact absurd (Option.some.inj this) (fun h => by injection h with _ h2 _; cases h2)
attribute [local irreducible] IntKind.wrap Int.fdiv Int.tdiv Int.tmod BitVec.ofInt appendK sliceK indexAddrK ldK storeK seenK makeSliceK valsF lookupK updateK mapK
variable {D : Drawer} {σ : H}
theorem addA_spec {n B : Nat} {s w : AM.SA} {o : Option Nat} {V L : List En} (hn : 2100 ≤ n) (hV : V.length ≤ 2500) (hl : L.length ≤ 1000) (hD : ByPlan Tryz.prog D) (hL : LogV σ B o w V) (hs : Rw σ 4 s L.length (ents L)) (hi : IsEs σ L) (hsm : Small (vals L)) {K : AV → H → Bool}
    (h0 : 2000 < V.length + L.length → K (.bool false) σ = true)
    (h1 : V.length + L.length ≤ 2000 → ∀ o' w' W σ', Stq (fpL B o) (fpL B o') σ σ' → LogV σ' B o' w' W → vals W = vals V ++ vals L → K (.bool true) σ' = true) :
    acall Tryz.prog tab D n 81 [.ptr (some ⟨B, 0, 0, 1⟩), .sl s L.length] σ K = true := by
  obtain ⟨n, rfl, hn⟩ := up hn
  conv => lhs; whnf
  refine ldL hL.hB ?_
  conv => lhs; whnf
  refine bif_case (fun h => ?_) (fun h => ?_)
  · conv => lhs; whnf
    refine h0 ?_
    rw [wrap_i64 (by omega) (by omega)] at h
    simp at h; omega
  have hle : V.length + L.length ≤ 2000 := by
    rw [wrap_i64 (by omega) (by omega)] at h
    simp at h; omega
  clear h
  conv => lhs; whnf
  refine hD.go plan81x3 ord81x3 ?_
  conv => lhs; whnf
  refine ldL hL.hB ?_
  conv => lhs; whnf
  refine own_own (by omega) (by omega) hD hs hi hsm fun o2 a2 W2 σ2 p2 i2 v2 r2 => ?_
  have hl2 : W2.length = L.length := by rw [← vals_len, v2, vals_len]
  have hL2 := hL.mono p2
  conv => lhs; whnf
  refine and_true (all_cons ?_ rfl) ?_
  · conv => lhs; whnf
    refine ldL hL2.hB ?_
    exact same_sl _ _
  conv => lhs; whnf
  refine appS Tryz.underlying36 rfl rfl rfl rfl (by decide) List.nil_prefix hL2.hO r2.rw (N := (V ++ W2).length) (zs := ents (V ++ W2)) List.length_append.symm (ents_app _ _) ?_ fun o6 a6 τ6 _ l6 k6 n6 x6 w6 => ?_
  · show _ * 64 ≤ _
    rw [List.length_append]; omega
  obtain ⟨g6, s6, v6⟩ := app_store hL2.hB (Stq.pre (fpL B o) p2) (fun id e => .inl e) (fun id e => by subst e; exact ⟨_, _, hL2.hO.2.2.1⟩) l6 k6 n6 x6 w6 (fun x hx => by
    rcases List.mem_append.1 hx with hx | hx
    · exact hL2.hI x hx
    · exact i2.es x hx)
  conv => lhs; whnf
  refine storeL g6 ?_
  have hfin := h1 hle o6 a6 (V ++ W2) _ s6 v6 (by rw [show vals (V ++ W2) = vals V ++ vals W2 from List.map_append, v2])
  generalize τ6.set B (AO.cells [AV.sl a6 (V ++ W2).length] 1 .own) = τ7 at hfin ⊢
  conv => lhs; whnf
  exact hfin

theorem putA_spec {n B : Nat} {y t : Int} {s w : AM.SA} {o : Option Nat} {V L : List En} (hn : 2100 ≤ n) (hV : V.length ≤ 2500) (hl : L.length ≤ 1000) (hD : ByPlan Tryz.prog D) (hL : LogV σ B o w V) (hs : Rw σ 4 s L.length (ents L)) (hi : IsEs σ L) (hsm : Small (vals L)) {K : AV → H → Bool}
    (hK : ∀ o' w' W r σ', Stq (fpL B o) (fpL B o') σ σ' → LogV σ' B o' w' W →
      (Go.Raft.put (vals V) y t (vals L) = none ∧ r = .tup [.int .i64 0, .int .i64 0, .bool false] ∧ vals W = vals V ∨ ∃ f last l', Go.Raft.put (vals V) y t (vals L) = some (f, last, l') ∧ r = .tup [.int .i64 f, .int .i64 last, .bool true] ∧ vals W = l') → K r σ' = true) :
    acall Tryz.prog tab D n 98 [.ptr (some ⟨B, 0, 0, 1⟩), .int .i64 y, .int .i64 t, .sl s L.length] σ K = true := by
  obtain ⟨n, rfl, hn⟩ := up hn
  have fail : ∀ σ', σ <+: σ' → Go.Raft.put (vals V) y t (vals L) = none → K (.tup [.int .i64 0, .int .i64 0, .bool false]) σ' = true := fun σ' p h => hK o w V _ σ' (Stq.pre _ p) (hL.mono p) (.inl ⟨h, rfl, rfl⟩)
  have pnone : y < 0 ∨ (V.length : Int) < y ∨ termAt (vals V) y ≠ t → Go.Raft.put (vals V) y t (vals L) = none := fun h => by
    unfold Go.Raft.put
    rw [len_vals, if_pos h]
  conv => lhs; whnf
  by_cases hy0 : y < 0
  · refine bif_pos (by simpa using hy0) ?_
    conv => lhs; whnf
    exact fail σ (List.prefix_refl _) (pnone (.inl hy0))
  refine bif_neg (by simpa using hy0) ?_
  conv => lhs; whnf
  refine len_spec (by omega) hL.log ?_
  conv => lhs; whnf
  by_cases hy1 : (V.length : Int) < y
  · refine bif_pos (by simpa using hy1) ?_
    conv => lhs; whnf
    exact fail σ (List.prefix_refl _) (pnone (.inr (.inl hy1)))
  refine bif_neg (by simpa using hy1) ?_
  conv => lhs; whnf
  refine termA_spec (by omega) (by omega) hL.log ?_
  conv => lhs; whnf
  by_cases hy2 : termAt (vals V) y = t
  case neg =>
    refine bif_pos (by simpa using hy2) ?_
    conv => lhs; whnf
    exact fail σ (List.prefix_refl _) (pnone (.inr (.inr hy2)))
  refine bif_neg (by simpa using hy2) ?_
  obtain ⟨p, rfl⟩ : ∃ p : Nat, y = (p : Int) := ⟨y.toNat, by omega⟩
  have hp : p ≤ V.length := by omega
  have hp0 : Go.Raft.put (vals V) (p : Int) t (vals L) = match mis (vals V) p (vals L) with
      | none => some (0, (p : Int) + len (vals L), vals V)
      | some i => if 2000 < (p : Int) + len (vals L) then none else some ((p : Int) + 1 + (i : Int), (p : Int) + len (vals L), (vals V).take (p + i) ++ (vals L).drop i) := by
    unfold Go.Raft.put
    rw [len_vals, if_neg (by omega)]
    rfl
  conv => lhs; whnf
  refine loop_rule (m := 120259086347) (fun q fr τ => ∃ (z : Int) (i : Nat), z = (i : Int) ∧ i + q = L.length ∧ σ <+: τ ∧ (∀ j, j < i → on (vals V) (vals L) p j) ∧
      fr = [.ptr (some ⟨B, 0, 0, 1⟩), .int .i64 (p : Int), .bad, .sl s L.length, .bad, .bad, .bad, .bad, .bad, .bad, .bad, .int .i64 0, .bad, .bad, .bad, .bad, .bad, .bad, .bad, .bad, .bad, .bad, .bad, .bad, .bad, .bad, .bad, .bad, .bad, .bad, .bad, .bad, .bad, .bad, .sl s L.length, .int .i64 (L.length : Int), .int .i64 z, .bad, .bad, .bad, .bad, .bad, .bad, .bad, .bad, .bad, .bad, .bad, .bad, .bad, .bad, .bad, .bad, .bad, .bad, .bad, .bad, .bad, .bad, .bad, .bad, .bad, .bad, .bad, .bad, .bad, .bad, .bad, .bad, .bad, .bad, .bad, .bad, .bad, .bad, .bad, .bad, .bad, .bad, .bad, .bad, .bad, .bad, .bad, .bad]) ?_ _ L.length _ _ (by omega)
      ⟨_, 0, rfl, Nat.zero_add _, List.prefix_refl _, fun j hj => absurd hj (Nat.not_lt_zero _), rfl⟩
  rintro q fr τ C ⟨z, i, rfl, hq, hpre, hon, rfl⟩ next fin
  conv => lhs; whnf
  by_cases hlt : i < L.length
  case neg =>
    refine bif_neg (by simpa using hlt) ?_
    conv => lhs; whnf
    refine fin _ _ _ nofun ?_
    conv => lhs; whnf
    have hm : mis (vals V) p (vals L) = none := mis_all fun j hj => (on_iff hj).1 (hon j (by rw [vals_len] at hj; omega))
    have h := hK o w V (.tup [.int .i64 0, .int .i64 ((p : Int) + (L.length : Int)), .bool true]) τ (Stq.pre _ hpre) (hL.mono hpre) (.inr ⟨_, _, _, by rw [hp0, hm], by rw [len_vals], rfl⟩)
    rw [wrap_i64 (by omega) (by omega)]
    exact h
  refine bif_pos (by simpa using hlt) ?_
  have hltv : i < (vals L).length := by rw [vals_len]; exact hlt
  have hmis : ¬ on (vals V) (vals L) p i → mis (vals V) p (vals L) = some i := fun h => mis_at hltv (fun j hj hji => (on_iff hj).1 (hon j hji)) fun e => h ((on_iff hltv).2 e)
  have hfull : ¬ on (vals V) (vals L) p i → 2000 < p + L.length → Go.Raft.put (vals V) (p : Int) t (vals L) = none := fun h h2 => by
    rw [hp0, hmis h]
    simp only
    rw [len_vals, if_pos (by omega)]
  have hput : ¬ on (vals V) (vals L) p i → p + L.length ≤ 2000 → Go.Raft.put (vals V) (p : Int) t (vals L) = some ((p : Int) + 1 + (i : Int), (p : Int) + len (vals L), (vals V).take (p + i) ++ (vals L).drop i) := fun h h2 => by
    rw [hp0, hmis h]
    simp only
    rw [len_vals, if_neg (by omega)]
  conv => lhs; whnf
  refine idx22 (hs.mono hpre) rfl rfl hlt fun id b h4 => ?_
  conv => lhs; whnf
  refine ldEnt h4 ?_
  conv => lhs; whnf
  refine storeNew ?_
  have p1 := prefix_add hpre (AO.cells (enCells L[i]) 4 .own)
  have h5 := At4.new (τ := τ) L[i] .own
  have hti : termN (vals L) (i + 1) = L[i].1 := by rw [termN, vals_at hlt]; rfl
  generalize hτ1 : τ ++ [AO.cells (enCells L[i]) 4 .own] = τ1 at p1 h5 ⊢
  have hLL := hL.log
  conv => lhs; whnf
  refine hD.go plan98x8 ord98x8 ?_
  conv => lhs; whnf
  refine len_spec (by omega) (hLL.mono p1) ?_
  have hpi : p + i ≤ V.length := by
    cases i with
    | zero => exact hp
    | succ j => have := (hon j (Nat.lt_succ_self j)).1; rw [vals_len] at this; omega
  have hat : IntKind.i64.wrap (IntKind.i64.wrap ((p : Int) + 1) + (i : Int)) = ((p + i + 1 : Nat) : Int) := by rw [wrap_i64 (x := (p : Int) + 1) (by omega) (by omega), wrap_i64 (by omega) (by omega)]; omega
  conv => lhs; whnf
  rw [hat]
  by_cases hle : p + i + 1 ≤ V.length
  · refine bif_pos (decide_eq_true (by omega)) ?_
    conv => lhs; whnf
    refine ldTerm h5 ?_
    conv => lhs; whnf
    refine term_spec (by omega) rfl hle (by omega) (hLL.mono p1) ?_
    conv => lhs; whnf
    refine and_true (all_cons ?_ rfl) ?_
    · conv => lhs; whnf
      refine ldTerm h5 ?_
      exact same_int _ _
    conv => lhs; whnf
    by_cases hte : termN (vals V) (p + i + 1) = termN (vals L) (i + 1)
    · refine bif_pos (by rw [hte, hti]; simp) ?_
      conv => lhs; whnf
      exact next (q - 1) _ _ (by omega) ⟨_, i + 1, inc_i64 (by omega), by omega, p1, fun j hj => by
        by_cases hji : j = i
        · subst hji; exact ⟨by rw [vals_len]; exact hle, hte⟩
        · exact hon j (by omega), rfl⟩
    · have hoff : ¬ on (vals V) (vals L) p i := fun h => hte h.2
      refine bif_neg (by rw [hti] at hte; simpa using hte) ?_
      conv => lhs; whnf
      refine bif_case (fun h => ?_) (fun h => ?_)
      · conv => lhs; whnf
        have h2 : 2000 < p + L.length := by rw [wrap_i64 (by omega) (by omega)] at h; simp at h; omega
        refine fin _ _ _ nofun ?_
        conv => lhs; whnf
        exact fail τ1 p1 (hfull hoff h2)
      · conv => lhs; whnf
        have h2 : p + L.length ≤ 2000 := by rw [wrap_i64 (by omega) (by omega)] at h; simp at h; omega
        refine hD.go plan98x11 ord98x11 ?_
        conv => lhs; whnf
        refine ldL (prefix_get p1 hL.hB) ?_
        conv => lhs; whnf
        refine slice22 (hL.hO.rw.mono p1) 0 (p + i) (.inl ⟨rfl, rfl⟩) (.inr ⟨_, _, rfl, ?_⟩) (Nat.zero_le _) (by omega) fun a2 r2 => ?_
        · rw [wrap_i64 (by omega) (by omega)]; omega
        rw [List.drop_zero] at r2 ⊢
        conv => lhs; whnf
        refine slice22 (hs.mono p1) i L.length (.inr ⟨_, _, rfl, rfl⟩) (.inl ⟨rfl, rfl⟩) (by omega) (Nat.le_refl _) fun a3 r3 => ?_
        rw [List.take_length] at r3 ⊢
        conv => lhs; whnf
        have lt2 : (V.take (p + i)).length ≤ 2500 := by rw [List.length_take]; omega
        have lt3 : (L.drop i).length ≤ 2000 := by rw [List.length_drop]; omega
        refine clone34_own (by omega) (by omega) r2 fun o4 a4 τ4 p4 w4 => ?_
        conv => lhs; whnf
        refine own_own (by omega) (by omega) hD (r3.mono p4) ((hi.drop i).mono (List.IsPrefix.trans p1 p4)) (by rw [vals_drop]; exact hsm.drop _) fun o5 a5 W5 τ5 p5 i5 v5 w5 => ?_
        have lt5 : W5.length ≤ 2000 := by rw [← vals_len, v5, vals_len]; exact lt3
        have p05 := List.IsPrefix.trans p1 (List.IsPrefix.trans p4 p5)
        have lp1 := prefix_len p1
        conv => lhs; whnf
        have w45 := w4.mono p5
        refine appS Tryz.underlying36 rfl rfl rfl rfl (by decide) List.nil_prefix (w45.low (Nat.zero_le _)) w5.rw (N := (V.take (p + i) ++ W5).length) (zs := ents (V.take (p + i) ++ W5)) List.length_append.symm (ents_app _ _) ?_ fun o6 a6 τ6 _ l6 k6 n6 x6 w6 => ?_
        · show _ * 64 ≤ _
          rw [List.length_append]; omega
        obtain ⟨g6, s6, v6⟩ := app_store (prefix_get p05 hL.hB) (Stq.pre (fpL B o) p05) (fun id e => by subst e; exact .inr (Nat.le_trans lp1 w45.2.1)) (fun id e => by subst e; exact ⟨_, _, w45.2.2.1⟩) l6 k6 n6 x6 w6 (fun x hx => by
          rcases List.mem_append.1 hx with hx | hx
          · exact ((hL.hI.take _).mono p05) x hx
          · exact i5.es x hx)
        have e6 : vals (V.take (p + i) ++ W5) = (vals V).take (p + i) ++ (vals L).drop i := by
          rw [show vals (V.take (p + i) ++ W5) = vals (V.take (p + i)) ++ vals W5 from List.map_append, v5, vals_take, vals_drop]
        conv => lhs; whnf
        refine storeL g6 ?_
        have hfin := hK o6 a6 (V.take (p + i) ++ W5) (.tup [.int .i64 ((p + i + 1 : Nat) : Int), .int .i64 ((p + L.length : Nat) : Int), .bool true]) _ s6 v6 (.inr ⟨_, _, _, hput hoff h2, by
          show AV.tup [AV.int .i64 ((p + i + 1 : Nat) : Int), AV.int .i64 ((p + L.length : Nat) : Int), AV.bool true] = AV.tup [AV.int .i64 ((p : Int) + 1 + (i : Int)), AV.int .i64 ((p : Int) + len (vals L)), AV.bool true]
          rw [len_vals, show ((p + i + 1 : Nat) : Int) = (p : Int) + 1 + (i : Int) by omega, show ((p + L.length : Nat) : Int) = (p : Int) + (L.length : Int) by omega], e6⟩)
        generalize τ6.set B (AO.cells [AV.sl a6 (V.take (p + i) ++ W5).length] 1 .own) = τ7 at hfin ⊢
        conv => lhs; whnf
        refine fin _ _ _ nofun ?_
        conv => lhs; whnf
        rw [wrap_i64 (x := (p : Int) + (L.length : Int)) (by omega) (by omega)]
        exact hfin
  · have hoff : ¬ on (vals V) (vals L) p i := fun h => hle (by have := h.1; rwa [vals_len] at this)
    refine bif_neg (decide_eq_false (by omega)) ?_
    conv => lhs; whnf
    refine bif_case (fun h => ?_) (fun h => ?_)
    · conv => lhs; whnf
      have h2 : 2000 < p + L.length := by rw [wrap_i64 (by omega) (by omega)] at h; simp at h; omega
      refine fin _ _ _ nofun ?_
      conv => lhs; whnf
      exact fail τ1 p1 (hfull hoff h2)
    · conv => lhs; whnf
      have h2 : p + L.length ≤ 2000 := by rw [wrap_i64 (by omega) (by omega)] at h; simp at h; omega
      refine hD.go plan98x11 ord98x11 ?_
      conv => lhs; whnf
      refine ldL (prefix_get p1 hL.hB) ?_
      conv => lhs; whnf
      refine slice22 (hL.hO.rw.mono p1) 0 (p + i) (.inl ⟨rfl, rfl⟩) (.inr ⟨_, _, rfl, ?_⟩) (Nat.zero_le _) (by omega) fun a2 r2 => ?_
      · rw [wrap_i64 (by omega) (by omega)]; omega
      rw [List.drop_zero] at r2 ⊢
      conv => lhs; whnf
      refine slice22 (hs.mono p1) i L.length (.inr ⟨_, _, rfl, rfl⟩) (.inl ⟨rfl, rfl⟩) (by omega) (Nat.le_refl _) fun a3 r3 => ?_
      rw [List.take_length] at r3 ⊢
      conv => lhs; whnf
      have lt2 : (V.take (p + i)).length ≤ 2500 := by rw [List.length_take]; omega
      have lt3 : (L.drop i).length ≤ 2000 := by rw [List.length_drop]; omega
      refine clone34_own (by omega) (by omega) r2 fun o4 a4 τ4 p4 w4 => ?_
      conv => lhs; whnf
      refine own_own (by omega) (by omega) hD (r3.mono p4) ((hi.drop i).mono (List.IsPrefix.trans p1 p4)) (by rw [vals_drop]; exact hsm.drop _) fun o5 a5 W5 τ5 p5 i5 v5 w5 => ?_
      have lt5 : W5.length ≤ 2000 := by rw [← vals_len, v5, vals_len]; exact lt3
      have p05 := List.IsPrefix.trans p1 (List.IsPrefix.trans p4 p5)
      have lp1 := prefix_len p1
      conv => lhs; whnf
      have w45 := w4.mono p5
      refine appS Tryz.underlying36 rfl rfl rfl rfl (by decide) List.nil_prefix (w45.low (Nat.zero_le _)) w5.rw (N := (V.take (p + i) ++ W5).length) (zs := ents (V.take (p + i) ++ W5)) List.length_append.symm (ents_app _ _) ?_ fun o6 a6 τ6 _ l6 k6 n6 x6 w6 => ?_
      · show _ * 64 ≤ _
        rw [List.length_append]; omega
      obtain ⟨g6, s6, v6⟩ := app_store (prefix_get p05 hL.hB) (Stq.pre (fpL B o) p05) (fun id e => by subst e; exact .inr (Nat.le_trans lp1 w45.2.1)) (fun id e => by subst e; exact ⟨_, _, w45.2.2.1⟩) l6 k6 n6 x6 w6 (fun x hx => by
        rcases List.mem_append.1 hx with hx | hx
        · exact ((hL.hI.take _).mono p05) x hx
        · exact i5.es x hx)
      have e6 : vals (V.take (p + i) ++ W5) = (vals V).take (p + i) ++ (vals L).drop i := by
        rw [show vals (V.take (p + i) ++ W5) = vals (V.take (p + i)) ++ vals W5 from List.map_append, v5, vals_take, vals_drop]
      conv => lhs; whnf
      refine storeL g6 ?_
      have hfin := hK o6 a6 (V.take (p + i) ++ W5) (.tup [.int .i64 ((p + i + 1 : Nat) : Int), .int .i64 ((p + L.length : Nat) : Int), .bool true]) _ s6 v6 (.inr ⟨_, _, _, hput hoff h2, by
        show AV.tup [AV.int .i64 ((p + i + 1 : Nat) : Int), AV.int .i64 ((p + L.length : Nat) : Int), AV.bool true] = AV.tup [AV.int .i64 ((p : Int) + 1 + (i : Int)), AV.int .i64 ((p : Int) + len (vals L)), AV.bool true]
        rw [len_vals, show ((p + i + 1 : Nat) : Int) = (p : Int) + 1 + (i : Int) by omega, show ((p + L.length : Nat) : Int) = (p : Int) + (L.length : Int) by omega], e6⟩)
      generalize τ6.set B (AO.cells [AV.sl a6 (V.take (p + i) ++ W5).length] 1 .own) = τ7 at hfin ⊢
      conv => lhs; whnf
      refine fin _ _ _ nofun ?_
      conv => lhs; whnf
      rw [wrap_i64 (x := (p : Int) + (L.length : Int)) (by omega) (by omega)]
      exact hfin
end Go.Proofs.YthmdecfiijgaoaaGreat
