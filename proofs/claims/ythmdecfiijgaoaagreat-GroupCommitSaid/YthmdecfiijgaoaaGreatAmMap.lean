/- Maps as functions: entries of plain keys; updates, deletes, lookups, walks. -/
import Derived.Test.YthmdecfiijgaoaaGreatAmOwn
namespace Go.AM.St
open Go Go.AM
/-- An entry. -/
structure LE (κ β : Type) where
  k : κ
  v : β
  born : Nat
/-- A type of keys. -/
structure KT (P : Program) (t : TypeId) {κ : Type} [DecidableEq κ] (enc : κ → AV) : Prop where
  ok : keyOkT P t = true
  cast : ∀ k K, castT P t (enc k) K = K (enc k)
  eq : ∀ a b, keyEq (enc a) (enc b) = some (decide (a = b))
section
variable {κ β : Type} [DecidableEq κ]
def entG (enc : κ → AV) (val : β → AV) (e : LE κ β) : ME := ⟨enc e.k, val e.v, e.born⟩
structure OkE (E : List (LE κ β)) (clock : Nat) : Prop where
  keys : (E.map LE.k).Nodup
  borns : (E.map LE.born).Nodup
  lt : ∀ e ∈ E, e.born < clock
def InE (E : List (LE κ β)) (k : κ) (v : β) : Prop := ∃ e ∈ E, e.k = k ∧ e.v = v
/-- The map at a place tells a function. -/
structure MapE (enc : κ → AV) (val : β → AV) (σ : H) (m : Nat) (f : κ → Option β) (E : List (LE κ β)) (clock : Nat) : Prop where
  m : σ[m]? = some (.map (E.map (entG enc val)) clock)
  ok : OkE E clock
  f : ∀ k v, f k = some v ↔ InE E k v
def MapAt (enc : κ → AV) (val : β → AV) (σ : H) (m : Nat) (f : κ → Option β) : Prop := ∃ E clock, MapE enc val σ m f E clock
/-- All but one row is as it was. -/
structure Frm (m : Nat) (σ σ' : H) : Prop where
  len : σ.length ≤ σ'.length
  same : ∀ id, id < σ.length → id ≠ m → σ'[id]? = σ[id]?
theorem Frm.refl (m : Nat) (σ : H) : Frm m σ σ := ⟨Nat.le_refl _, fun _ _ _ => rfl⟩
theorem Frm.trans {m : Nat} {a b c : H} (h : Frm m a b) (k : Frm m b c) : Frm m a c :=
  ⟨Nat.le_trans h.len k.len, fun id h1 h2 => (k.same id (Nat.lt_of_lt_of_le h1 h.len) h2).trans (h.same id h1 h2)⟩
theorem Frm.pre {m : Nat} {σ σ' : H} (h : σ <+: σ') : Frm m σ σ' :=
  ⟨prefix_len h, fun id h1 _ => by rw [prefix_get h (List.getElem?_eq_getElem h1), List.getElem?_eq_getElem h1]⟩
theorem Frm.set {m : Nat} {σ : H} (o : AO) : Frm m σ (σ.set m o) := ⟨by simp, fun id _ h2 => List.getElem?_set_ne (Ne.symm h2)⟩
theorem Frm.get {m : Nat} {σ σ' : H} (h : Frm m σ σ') {id : Nat} {o : AO} (ho : σ[id]? = some o) (hne : id ≠ m) : σ'[id]? = some o := (h.same id (get_lt ho) hne).trans ho
theorem Frm.cells {m : Nat} {σ σ' : H} (h : Frm m σ σ') {es : List ME} {c : Nat} (hm : σ[m]? = some (.map es c)) {id z : Nat} {xs : List AV} {md : Md} (ho : σ[id]? = some (.cells xs z md)) : σ'[id]? = some (.cells xs z md) :=
  h.get ho fun e => by rw [e, hm] at ho; cases ho
theorem Rw.frm {m : Nat} {σ σ' : H} {z n : Nat} {a : SA} {cs : List AV} (hr : Rw σ z a n cs) (h : Frm m σ σ') {es : List ME} {c : Nat} (hm : σ[m]? = some (.map es c)) : Rw σ' z a n cs :=
  hr.keep fun id xs z md hx => ⟨[], md, by rw [List.append_nil]; exact h.cells hm hx⟩
omit [DecidableEq κ] in
theorem MapE.frm {enc : κ → AV} {val : β → AV} {σ σ' : H} {m : Nat} {f : κ → Option β} {E : List (LE κ β)} {clock : Nat} (h : MapE enc val σ m f E clock) (he : σ'[m]? = σ[m]?) : MapE enc val σ' m f E clock := ⟨he.trans h.m, h.ok, h.f⟩
omit [DecidableEq κ] in
theorem MapAt.frm {enc : κ → AV} {val : β → AV} {σ σ' : H} {m : Nat} {f : κ → Option β} (h : MapAt enc val σ m f) (he : σ'[m]? = σ[m]?) : MapAt enc val σ' m f := by
  obtain ⟨E, c, h⟩ := h
  exact ⟨E, c, h.frm he⟩
omit [DecidableEq κ] in
theorem MapAt.mono {enc : κ → AV} {val : β → AV} {σ σ' : H} {m : Nat} {f : κ → Option β} (h : MapAt enc val σ m f) (p : σ <+: σ') : MapAt enc val σ' m f := by
  obtain ⟨E, c, h⟩ := h
  exact ⟨E, c, prefix_get p h.m, h.ok, h.f⟩
omit [DecidableEq κ] in
theorem MapAt.isMap {enc : κ → AV} {val : β → AV} {σ : H} {m : Nat} {f : κ → Option β} (h : MapAt enc val σ m f) : ∃ es c, σ[m]? = some (.map es c) := by
  obtain ⟨E, c, h⟩ := h
  exact ⟨_, c, h.m⟩
omit [DecidableEq κ] in
theorem MapAt.cells {enc : κ → AV} {val : β → AV} {σ σ' : H} {m : Nat} {f : κ → Option β} (h : MapAt enc val σ m f) (hf : Frm m σ σ') {id z : Nat} {xs : List AV} {md : Md} (ho : σ[id]? = some (.cells xs z md)) : σ'[id]? = some (.cells xs z md) := by
  obtain ⟨es, c, hm⟩ := h.isMap
  exact hf.cells hm ho
omit [DecidableEq κ] in
theorem MapAt.rw {enc : κ → AV} {val : β → AV} {σ σ' : H} {m : Nat} {f : κ → Option β} (h : MapAt enc val σ m f) (hf : Frm m σ σ') {z n : Nat} {a : SA} {cs : List AV} (hr : Rw σ z a n cs) : Rw σ' z a n cs := by
  obtain ⟨es, c, hm⟩ := h.isMap
  exact hr.frm hf hm

variable {P : Program} {t kt et : TypeId} {enc : κ → AV} {val : β → AV} {σ : H} {m clock : Nat} {f : κ → Option β} {E : List (LE κ β)}
theorem mem_split (E : List (LE κ β)) (k : κ) : (∀ e ∈ E, e.k ≠ k) ∨ ∃ E1 e E2, E = E1 ++ e :: E2 ∧ e.k = k ∧ ∀ x ∈ E1, x.k ≠ k := by
  induction E with
  | nil => exact .inl fun _ h => by simp at h
  | cons x E ih =>
    by_cases hx : x.k = k
    · exact .inr ⟨[], x, E, rfl, hx, fun y h => by simp at h⟩
    · rcases ih with h | ⟨E1, e, E2, rfl, h1, h2⟩
      · exact .inl fun y hy => by
          rcases List.mem_cons.1 hy with rfl | hy
          · exact hx
          · exact h y hy
      · exact .inr ⟨x :: E1, e, E2, rfl, h1, fun y hy => by
          rcases List.mem_cons.1 hy with rfl | hy
          · exact hx
          · exact h2 y hy⟩
theorem findG_none (T : KT P kt enc) {k : κ} {K : Option Nat → Bool} : ∀ {E : List (LE κ β)} {i : Nat}, (∀ e ∈ E, e.k ≠ k) → K none = true → findK (enc k) (E.map (entG enc val)) i K = true
  | [], _, _, h => h
  | x :: E, i, hn, h => by
    have hx : keyEq (enc k) (enc x.k) = some false := by rw [T.eq, decide_eq_false fun e => hn x (by simp) e.symm]
    show (match keyEq (enc k) (enc x.k) with | some b => bif b then K (some i) else findK _ (E.map (entG enc val)) (i + 1) K | none => false) = true
    rw [hx]
    exact findG_none T (fun e he => hn e (by simp [he])) h
theorem findG_some (T : KT P kt enc) {k : κ} {K : Option Nat → Bool} {e : LE κ β} {E2 : List (LE κ β)} (he : e.k = k) : ∀ {E1 : List (LE κ β)} {i : Nat}, (∀ e ∈ E1, e.k ≠ k) → K (some (i + E1.length)) = true → findK (enc k) ((E1 ++ e :: E2).map (entG enc val)) i K = true
  | [], i, _, h => by
    have hx : keyEq (enc k) (enc e.k) = some true := by rw [T.eq, decide_eq_true he.symm]
    show (match keyEq (enc k) (enc e.k) with | some b => bif b then K (some i) else findK _ (E2.map (entG enc val)) (i + 1) K | none => false) = true
    rw [hx]
    exact h
  | x :: E1, i, hn, h => by
    have hx : keyEq (enc k) (enc x.k) = some false := by rw [T.eq, decide_eq_false fun e => hn x (by simp) e.symm]
    show (match keyEq (enc k) (enc x.k) with | some b => bif b then K (some i) else findK _ ((E1 ++ e :: E2).map (entG enc val)) (i + 1) K | none => false) = true
    rw [hx]
    refine findG_some T he (fun g hg => hn g (by simp [hg])) ?_
    rw [List.length_cons] at h
    rw [show i + 1 + E1.length = i + (E1.length + 1) by omega]
    exact h
def updF (f : κ → Option β) (k : κ) (v : β) : κ → Option β := fun k' => if k' = k then some v else f k'
def delF (f : κ → Option β) (k : κ) : κ → Option β := fun k' => if k' = k then none else f k'
theorem updG (ht : P.underlying t = some (.map kt et)) (T : KT P kt enc) (h : MapE enc val σ m f E clock) (k : κ) (v : β) {K : H → Bool}
    (hK : ∀ σ', MapAt enc val σ' m (updF f k v) → (∀ id, id ≠ m → σ'[id]? = σ[id]?) → σ'.length = σ.length → K σ' = true) : updateK P t (.map (some m)) (enc k) (val v) σ K = true := by
  unfold updateK
  rw [ht]
  simp only
  refine bif_pos T.ok ?_
  rw [T.cast]
  simp only [h.m]
  rcases mem_split E k with hn | ⟨E1, e, E2, rfl, he, hn⟩
  · refine findG_none T hn ?_
    refine hK _ ⟨E ++ [⟨k, v, clock⟩], clock + 1, ?_, ?_, ?_⟩ (fun id hne => List.getElem?_set_ne (Ne.symm hne)) (List.length_set ..)
    · rw [List.map_append]; exact get_set h.m _
    · refine ⟨?_, ?_, fun e he => ?_⟩
      · rw [List.map_append, List.nodup_append]
        refine ⟨h.ok.keys, by simp, fun a ha b hb => ?_⟩
        simp at hb
        subst hb
        obtain ⟨e, he, rfl⟩ := List.mem_map.1 ha
        exact hn e he
      · rw [List.map_append, List.nodup_append]
        refine ⟨h.ok.borns, by simp, fun a ha b hb => ?_⟩
        simp at hb
        subst hb
        obtain ⟨e, he, rfl⟩ := List.mem_map.1 ha
        exact Nat.ne_of_lt (h.ok.lt e he)
      · rcases List.mem_append.1 he with he | he
        · exact Nat.lt_succ_of_lt (h.ok.lt e he)
        · simp at he
          subst he
          exact Nat.lt_succ_self _
    · intro k' v'
      unfold updF InE
      by_cases hk : k' = k
      · rw [if_pos hk]
        constructor
        · intro e; cases e; exact ⟨⟨k, v, clock⟩, by simp, hk.symm, rfl⟩
        · rintro ⟨e, he, h1, h2⟩
          rcases List.mem_append.1 he with he | he
          · exact absurd (h1.trans hk) (hn e he)
          · simp at he
            subst he
            exact congrArg some h2
      · rw [if_neg hk, h.f]
        constructor
        · rintro ⟨e, he, h1, h2⟩; exact ⟨e, by simp [he], h1, h2⟩
        · rintro ⟨e, he, h1, h2⟩
          rcases List.mem_append.1 he with he | he
          · exact ⟨e, he, h1, h2⟩
          · simp at he
            subst he
            exact absurd h1.symm hk
  · refine findG_some T he hn ?_
    rw [Nat.zero_add]
    have hg : ((E1 ++ e :: E2).map (entG enc val))[E1.length]? = some (entG enc val e) := by
      simp only [List.map_append, List.map_cons]
      rw [List.getElem?_append_right (by simp)]
      simp
    simp only [hg]
    have hs : ((E1 ++ e :: E2).map (entG enc val)).set E1.length { entG enc val e with val := val v } = (E1 ++ ⟨k, v, e.born⟩ :: E2).map (entG enc val) := by
      simp only [List.map_append, List.map_cons]
      rw [List.set_append_right _ _ (by simp)]
      simp only [List.length_map, Nat.sub_self, List.set_cons_zero]
      rw [← he]
      rfl
    rw [hs]
    have e1 : (E1 ++ (⟨k, v, e.born⟩ : LE κ β) :: E2).map LE.k = (E1 ++ e :: E2).map LE.k := by simp [he]
    have e2 : (E1 ++ (⟨k, v, e.born⟩ : LE κ β) :: E2).map LE.born = (E1 ++ e :: E2).map LE.born := by simp
    have hkeys := h.ok.keys
    refine hK _ ⟨_, clock, get_set h.m _, ⟨by rw [e1]; exact h.ok.keys, by rw [e2]; exact h.ok.borns, fun x hx => ?_⟩, ?_⟩ (fun id hne => List.getElem?_set_ne (Ne.symm hne)) (List.length_set ..)
    · rcases List.mem_append.1 hx with hx | hx
      · exact h.ok.lt x (by simp [hx])
      · rcases List.mem_cons.1 hx with rfl | hx
        · exact h.ok.lt e (by simp)
        · exact h.ok.lt x (by simp [hx])
    · intro k' v'
      unfold updF InE
      rw [List.map_append, List.map_cons, List.nodup_append, List.nodup_cons] at hkeys
      have n2 : ∀ x ∈ E2, x.k ≠ k := fun x hx hk => hkeys.2.1.1 (by rw [he, ← hk]; exact List.mem_map_of_mem hx)
      by_cases hk : k' = k
      · rw [if_pos hk]
        constructor
        · intro e'; cases e'; exact ⟨⟨k, v, e.born⟩, by simp, hk.symm, rfl⟩
        · rintro ⟨x, hx, h1, h2⟩
          rcases List.mem_append.1 hx with hx | hx
          · exact absurd (h1.trans hk) (hn x hx)
          · rcases List.mem_cons.1 hx with rfl | hx
            · exact congrArg some h2
            · exact absurd (h1.trans hk) (n2 x hx)
      · rw [if_neg hk, h.f]
        constructor
        · rintro ⟨x, hx, h1, h2⟩
          rcases List.mem_append.1 hx with hx | hx
          · exact ⟨x, by simp [hx], h1, h2⟩
          · rcases List.mem_cons.1 hx with rfl | hx
            · exact absurd (h1.symm.trans he) hk
            · exact ⟨x, by simp [hx], h1, h2⟩
        · rintro ⟨x, hx, h1, h2⟩
          rcases List.mem_append.1 hx with hx | hx
          · exact ⟨x, by simp [hx], h1, h2⟩
          · rcases List.mem_cons.1 hx with rfl | hx
            · exact absurd h1.symm hk
            · exact ⟨x, by simp [hx], h1, h2⟩
theorem delG (ht : P.underlying t = some (.map kt et)) (T : KT P kt enc) (h : MapE enc val σ m f E clock) (k : κ) {K : H → Bool}
    (hK : ∀ σ', MapAt enc val σ' m (delF f k) → (∀ id, id ≠ m → σ'[id]? = σ[id]?) → σ'.length = σ.length → K σ' = true) : deleteK P t (.map (some m)) (enc k) σ K = true := by
  unfold deleteK
  rw [ht]
  simp only
  refine bif_pos T.ok ?_
  rw [T.cast]
  simp only [h.m]
  rcases mem_split E k with hn | ⟨E1, e, E2, rfl, he, hn⟩
  · refine findG_none T hn ?_
    refine hK _ ⟨E, clock, h.m, h.ok, fun k' v' => ?_⟩ (fun id _ => rfl) rfl
    unfold delF
    by_cases hk : k' = k
    · rw [if_pos hk]
      constructor
      · intro e; cases e
      · rintro ⟨e, he, h1, h2⟩; exact absurd (h1.trans hk) (hn e he)
    · rw [if_neg hk, h.f]
  · refine findG_some T he hn ?_
    rw [Nat.zero_add]
    have hs : ((E1 ++ e :: E2).map (entG enc val)).eraseIdx E1.length = (E1 ++ E2).map (entG enc val) := by
      simp only [List.map_append, List.map_cons]
      rw [List.eraseIdx_append_of_length_le (by simp)]
      simp
    simp only [hs]
    have hkeys := h.ok.keys
    have hborns := h.ok.borns
    rw [List.map_append, List.map_cons, List.nodup_append, List.nodup_cons] at hkeys hborns
    have n2 : ∀ x ∈ E2, x.k ≠ k := fun x hx hk => hkeys.2.1.1 (by rw [he, ← hk]; exact List.mem_map_of_mem hx)
    refine hK _ ⟨_, clock, get_set h.m _, ⟨?_, ?_, fun x hx => ?_⟩, ?_⟩ (fun id hne => List.getElem?_set_ne (Ne.symm hne)) (List.length_set ..)
    · rw [List.map_append, List.nodup_append]
      exact ⟨hkeys.1, hkeys.2.1.2, fun a ha b hb => hkeys.2.2 a ha b (by simp [hb])⟩
    · rw [List.map_append, List.nodup_append]
      exact ⟨hborns.1, hborns.2.1.2, fun a ha b hb => hborns.2.2 a ha b (by simp [hb])⟩
    · rcases List.mem_append.1 hx with hx | hx
      · exact h.ok.lt x (by simp [hx])
      · exact h.ok.lt x (by simp [hx])
    · intro k' v'
      unfold delF InE
      by_cases hk : k' = k
      · rw [if_pos hk]
        constructor
        · intro e'; cases e'
        · rintro ⟨x, hx, h1, h2⟩
          rcases List.mem_append.1 hx with hx | hx
          · exact absurd (h1.trans hk) (hn x hx)
          · exact absurd (h1.trans hk) (n2 x hx)
      · rw [if_neg hk, h.f]
        constructor
        · rintro ⟨x, hx, h1, h2⟩
          rcases List.mem_append.1 hx with hx | hx
          · exact ⟨x, by simp [hx], h1, h2⟩
          · rcases List.mem_cons.1 hx with rfl | hx
            · exact absurd (h1.symm.trans he) hk
            · exact ⟨x, by simp [hx], h1, h2⟩
        · rintro ⟨x, hx, h1, h2⟩
          rcases List.mem_append.1 hx with hx | hx
          · exact ⟨x, by simp [hx], h1, h2⟩
          · exact ⟨x, by simp [hx], h1, h2⟩
/-- What a key has. -/
theorem lookG (ht : P.underlying t = some (.map kt et)) (T : KT P kt enc) (h : MapE enc val σ m f E clock) (k : κ) (zero : AV) (hz : ∀ K, zeroK P et K = K zero) (hv : ∀ v K, castT P et (val v) K = K (val v)) {ok : Bool} {K : AV → Bool}
    (h0 : f k = none → K (bif ok then .tup [zero, .bool false] else zero) = true) (h1 : ∀ v, f k = some v → K (bif ok then .tup [val v, .bool true] else val v) = true) : lookupK P t σ (.map (some m)) (enc k) ok K = true := by
  unfold lookupK
  rw [ht]
  simp only
  refine bif_pos T.ok ?_
  rw [T.cast]
  unfold mapK
  simp only [h.m]
  rcases mem_split E k with hn | ⟨E1, e, E2, rfl, he, hn⟩
  · refine findG_none T hn ?_
    show zeroK P et _ = true
    rw [hz]
    refine h0 ?_
    cases hf : f k with
    | none => rfl
    | some v =>
      obtain ⟨e, he, h1, _⟩ := (h.f k v).1 hf
      exact absurd h1 (hn e he)
  · refine findG_some T he hn ?_
    rw [Nat.zero_add]
    have hg : ((E1 ++ e :: E2).map (entG enc val))[E1.length]? = some (entG enc val e) := by
      simp only [List.map_append, List.map_cons]
      rw [List.getElem?_append_right (by simp)]
      simp
    simp only [hg]
    show castT P et (val e.v) _ = true
    rw [hv]
    exact h1 e.v ((h.f k e.v).2 ⟨e, by simp, he, rfl⟩)
omit [DecidableEq κ] in
/-- How many there are. -/
theorem lenG (h : MapE enc val σ m f E clock) {F : List ME → Bool} (hK : ∀ (L : List κ) (es : List ME), es.length = L.length → L.Nodup → (∀ k, k ∈ L ↔ f k ≠ none) → F es = true) : mapK σ (some m) F = true := by
  unfold mapK
  simp only [h.m]
  refine hK (E.map LE.k) _ (by simp) h.ok.keys fun k => ?_
  constructor
  · intro hk hn
    obtain ⟨e, he, rfl⟩ := List.mem_map.1 hk
    have := (h.f e.k e.v).2 ⟨e, he, rfl, rfl⟩
    rw [hn] at this
    cases this
  · intro hk
    cases hf : f k with
    | none => exact absurd hf hk
    | some v =>
      obtain ⟨e, he, h1, _⟩ := (h.f k v).1 hf
      rw [← h1]
      exact List.mem_map_of_mem he
omit [DecidableEq κ] in
theorem rangeG (ht : P.underlying t = some (.map kt et)) (h : MapE enc val σ m f E clock) {K : AV → H → Bool} (hK : K (.it σ.length) (σ ++ [.miter (some m) clock [] clock]) = true) : rangeK P t (.map (some m)) σ K = true := by
  unfold rangeK
  rw [ht]
  simp only [h.m]
  exact hK
omit [DecidableEq κ] in
theorem nextG {it : Nat} {seen : List Nat} (hi : σ[it]? = some (.miter (some m) clock seen clock)) (h : MapE enc val σ m f E clock) {K : AV → H → Bool}
    (hdone : (∀ e ∈ E, e.born ∈ seen) → K (.tup [.bool false]) σ = true)
    (hnext : ∀ e ∈ E, e.born ∉ seen → K (.tup [.bool true, enc e.k, val e.v]) (σ.set it (.miter (some m) clock (seen ++ [e.born]) clock)) = true) : nextK (.it it) false σ K = true := by
  unfold nextK
  simp only [hi, h.m]
  refine bif_neg ?_ ?_
  · cases E with
    | nil => simp
    | cons e es =>
      have := h.ok.lt e (by simp)
      simp only [List.map_cons, List.all_cons]
      rw [show decide (clock ≤ (entG enc val e).born) = false from decide_eq_false (by show ¬ clock ≤ e.born; omega)]
      simp
  · refine and_true ?_ ?_
    · refine bif_case (fun hh => hdone fun e he => ?_) fun _ => rfl
      refine Classical.byContradiction fun hc => ?_
      have := List.all_eq_true.1 hh (entG enc val e) (List.mem_filter.2 ⟨List.mem_map_of_mem he, by
        have hc : ¬ (entG enc val e).born ∈ seen := hc
        simpa using hc⟩)
      have h2 := h.ok.lt e he
      have h3 : clock ≤ e.born := of_decide_eq_true this
      omega
    · refine List.all_eq_true.2 fun e he => ?_
      obtain ⟨h1, h2⟩ := List.mem_filter.1 he
      obtain ⟨x, hx, rfl⟩ := List.mem_map.1 h1
      exact hnext x hx (by
        have h2 : ¬ (entG enc val x).born ∈ seen := by simpa using h2
        exact h2)
theorem nodup_inj {α γ : Type} {f : α → γ} : ∀ {l : List α}, (l.map f).Nodup → ∀ {a b : α}, a ∈ l → b ∈ l → f a = f b → a = b
  | [], _, _, _, h, _, _ => by simp at h
  | x :: l, hn, a, b, ha, hb, e => by
    rw [List.map_cons, List.nodup_cons] at hn
    rcases List.mem_cons.1 ha with rfl | ha
    · rcases List.mem_cons.1 hb with rfl | hb
      · rfl
      · exact absurd (by rw [e]; exact List.mem_map_of_mem hb) hn.1
    · rcases List.mem_cons.1 hb with rfl | hb
      · exact absurd (by rw [← e]; exact List.mem_map_of_mem ‹a ∈ l›) hn.1
      · exact nodup_inj hn.2 ‹a ∈ l› ‹b ∈ l› e
omit [DecidableEq κ] in
/-- An entry is found by when it was born. -/
theorem find_bornG : ∀ {E : List (LE κ β)}, (E.map LE.born).Nodup → ∀ {e : LE κ β}, e ∈ E → (E.map (entG enc val)).find? (fun x => x.born == e.born) = some (entG enc val e)
  | [], _, _, h => by simp at h
  | x :: E, hn, e, he => by
    rw [List.map_cons, List.nodup_cons] at hn
    rw [List.map_cons]
    rcases List.mem_cons.1 he with rfl | he
    · rw [List.find?_cons_of_pos]
      show (e.born == e.born) = true
      simp
    · rw [List.find?_cons_of_neg]
      · exact find_bornG hn.2 he
      · show ¬ (x.born == e.born) = true
        intro h
        exact hn.1 (by rw [beq_iff_eq.1 h]; exact List.mem_map_of_mem he)
/-- How many have not come yet. -/
def unseenG (seen : List Nat) (E : List (LE κ β)) : Nat := (E.filter fun e => !seen.contains e.born).length
omit [DecidableEq κ] in
theorem unseenG_le (seen : List Nat) (b : Nat) : ∀ E : List (LE κ β), unseenG (seen ++ [b]) E ≤ unseenG seen E
  | [] => Nat.le_refl _
  | x :: E => by
    have ih := unseenG_le seen b E
    unfold unseenG at ih ⊢
    by_cases h : x.born ∈ seen
    · rw [List.filter_cons_of_neg (by simp [h]), List.filter_cons_of_neg (by simp [h])]
      exact ih
    · rw [List.filter_cons_of_pos (p := fun e : LE κ β => !seen.contains e.born) (by simp [h])]
      by_cases h2 : x.born = b
      · rw [List.filter_cons_of_neg (by simp [h2])]
        exact Nat.le_succ_of_le ih
      · rw [List.filter_cons_of_pos (by simp [h, h2])]
        exact Nat.succ_le_succ ih
omit [DecidableEq κ] in
theorem unseenG_lt {seen : List Nat} : ∀ {E : List (LE κ β)} {e : LE κ β}, e ∈ E → e.born ∉ seen → unseenG (seen ++ [e.born]) E < unseenG seen E
  | [], _, h, _ => by simp at h
  | x :: E, e, he, hn => by
    have hle := unseenG_le seen e.born E
    rcases List.mem_cons.1 he with rfl | he
    · unfold unseenG at hle ⊢
      rw [List.filter_cons_of_neg (by simp), List.filter_cons_of_pos (by simpa using hn)]
      exact Nat.lt_succ_of_le hle
    · have ih := unseenG_lt he hn
      unfold unseenG at ih ⊢
      by_cases h : x.born ∈ seen
      · rw [List.filter_cons_of_neg (by simp [h]), List.filter_cons_of_neg (by simp [h])]
        exact ih
      · rw [List.filter_cons_of_pos (p := fun e : LE κ β => !seen.contains e.born) (by simp [h])]
        by_cases h2 : x.born = e.born
        · rw [List.filter_cons_of_neg (by simp [h2])]
          exact Nat.lt_succ_of_lt ih
        · rw [List.filter_cons_of_pos (by simp [h, h2])]
          exact Nat.succ_lt_succ ih
end
end Go.AM.St
