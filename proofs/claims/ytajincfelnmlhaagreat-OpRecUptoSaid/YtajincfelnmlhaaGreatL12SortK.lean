/- Locks in their order: a strict order; sorting; what a lock is in memory. -/
import Derived.Test.YtajincfelnmlhaaGreatAmStrKeys
import Derived.Test.YtajincfelnmlhaaGreatAmSort
import Derived.Test.YtajincfelnmlhaaGreatL12Order
namespace Go.Proofs.YtajincfelnmlhaaGreat
open Go Go.AM Go.AM.St Go.Proofs
theorem ints_inj : ∀ {a b : List Nat}, ints a = ints b → a = b
  | [], [], _ => rfl
  | [], _ :: _, h => by simp [ints] at h
  | _ :: _, [], h => by simp [ints] at h
  | x :: a, y :: b, h => by
    simp only [ints, List.map_cons, List.cons.injEq] at h
    rw [ints_inj (a := a) (b := b) h.2]
    have := h.1
    congr 1
    omega
/-- Ahead of. -/
def ltK (x y : KeyV) : Prop := ltL (ints x.s) (ints y.s) = true ∨ (x.s = y.s ∧ ((x.all = true ∧ y.all = false) ∨ (x.all = y.all ∧ ltL (ints x.k) (ints y.k) = true)))
theorem cmpS_lt {a b : List Nat} : cmpS a b < 0 ↔ ltL (ints a) (ints b) = true := by
  unfold cmpS
  cases h : ltL (ints a) (ints b) with
  | true => simp
  | false => cases h2 : ints a == ints b <;> simp
theorem cmpS_zero {a b : List Nat} : cmpS a b = 0 ↔ a = b := by
  unfold cmpS
  cases h : ltL (ints a) (ints b) with
  | true =>
    simp
    rintro rfl
    rw [ltL_irrefl] at h
    cases h
  | false =>
    cases h2 : ints a == ints b with
    | true => simp; exact ints_inj (by simpa using h2)
    | false =>
      simp
      rintro rfl
      simp at h2
theorem ordV_lt {x y : KeyV} : ordV x y < 0 ↔ ltK x y := by
  unfold ordV ltK
  by_cases h1 : cmpS x.s y.s = 0
  · rw [if_neg (by simpa using h1)]
    have hs := cmpS_zero.1 h1
    have hn : ¬ ltL (ints x.s) (ints y.s) = true := by rw [hs, ltL_irrefl]; simp
    by_cases h2 : allO x.all y.all = 0
    · rw [if_neg (by simpa using h2), cmpS_lt]
      have ha : x.all = y.all := by
        unfold allO at h2
        cases hx : x.all <;> cases hy : y.all <;> rw [hx, hy] at h2 <;> first | rfl | simp at h2
      constructor
      · intro h; exact .inr ⟨hs, .inr ⟨ha, h⟩⟩
      · rintro (h | ⟨_, h | h⟩)
        · exact absurd h hn
        · rw [h.1, h.2] at ha; cases ha
        · exact h.2
    · rw [if_pos h2]
      unfold allO at h2 ⊢
      cases hx : x.all <;> cases hy : y.all <;> rw [hx, hy] at h2 <;> simp [hs, ltL_irrefl] at h2 ⊢
  · rw [if_pos h1, cmpS_lt]
    constructor
    · exact .inl
    · rintro (h | ⟨h, _⟩)
      · exact h
      · exact absurd (cmpS_zero.2 h) h1
theorem ltK_irrefl (x : KeyV) : ¬ ltK x x := by
  rintro (h | ⟨_, h | h⟩)
  · rw [ltL_irrefl] at h; cases h
  · rw [h.1] at h; cases h.2
  · have := h.2; rw [ltL_irrefl] at this; cases this
theorem ltK_trans {x y z : KeyV} (h1 : ltK x y) (h2 : ltK y z) : ltK x z := by
  rcases h1 with h1 | ⟨s1, h1⟩
  · rcases h2 with h2 | ⟨s2, _⟩
    · exact .inl (ltL_trans h1 h2)
    · rw [s2] at h1; exact .inl h1
  · rcases h2 with h2 | ⟨s2, h2⟩
    · rw [← s1] at h2; exact .inl h2
    · refine .inr ⟨s1.trans s2, ?_⟩
      rcases h1 with ⟨a1, b1⟩ | ⟨a1, b1⟩
      · rcases h2 with ⟨a2, b2⟩ | ⟨a2, b2⟩
        · rw [b1] at a2; cases a2
        · exact .inl ⟨a1, by rw [← a2]; exact b1⟩
      · rcases h2 with ⟨a2, b2⟩ | ⟨a2, b2⟩
        · exact .inl ⟨by rw [a1]; exact a2, b2⟩
        · exact .inr ⟨a1.trans a2, ltL_trans b1 b2⟩
theorem ltK_tri (x y : KeyV) : ltK x y ∨ x = y ∨ ltK y x := by
  by_cases hs : x.s = y.s
  · cases hx : x.all <;> cases hy : y.all
    · by_cases hk : x.k = y.k
      · right; left
        cases x; cases y
        simp only at hs hk hx hy
        rw [hs, hk, hx, hy]
      · cases hl : ltL (ints x.k) (ints y.k) with
        | true => exact .inl (.inr ⟨hs, .inr ⟨hx.trans hy.symm, hl⟩⟩)
        | false => exact .inr (.inr (.inr ⟨hs.symm, .inr ⟨hy.trans hx.symm, ltL_total hl fun e => hk (ints_inj e)⟩⟩))
    · exact .inr (.inr (.inr ⟨hs.symm, .inl ⟨hy, hx⟩⟩))
    · exact .inl (.inr ⟨hs, .inl ⟨hx, hy⟩⟩)
    · by_cases hk : x.k = y.k
      · right; left
        cases x; cases y
        simp only at hs hk hx hy
        rw [hs, hk, hx, hy]
      · cases hl : ltL (ints x.k) (ints y.k) with
        | true => exact .inl (.inr ⟨hs, .inr ⟨hx.trans hy.symm, hl⟩⟩)
        | false => exact .inr (.inr (.inr ⟨hs.symm, .inr ⟨hy.trans hx.symm, ltL_total hl fun e => hk (ints_inj e)⟩⟩))
  · cases hl : ltL (ints x.s) (ints y.s) with
    | true => exact .inl (.inl hl)
    | false => exact .inr (.inr (.inl (ltL_total hl fun e => hs (ints_inj e))))

/-- A lock whose bytes are bytes. -/
def okB (x : KeyV) : Bool := x.s.all (fun b => Nat.blt b 256) && x.k.all (fun b => Nat.blt b 256)
abbrev KeyB := {x : KeyV // okB x = true}
instance instKeyB : Inhabited KeyB := ⟨⟨⟨[], [], false⟩, rfl⟩⟩
def ofNats (s : List Nat) : ByteArray := ⟨(s.map UInt8.ofNat).toArray⟩
def encK (x : KeyB) : List Value := [.string (ofNats x.1.s), .string (ofNats x.1.k), .bool x.1.all]
def avK (x : KeyB) : List AV := keyc x.1
def ordB (x y : KeyB) : Int := ordV x.1 y.1
theorem bytesL_ofNats {s : List Nat} (h : s.all (fun b => Nat.blt b 256) = true) : bytesL (ofNats s) = ints s := by
  unfold bytesL ofNats ints
  rw [List.map_map]
  refine List.map_congr_left fun b hb => ?_
  have := List.all_eq_true.1 h b hb
  have hlt : b < 256 := by simpa [Nat.blt_eq] using this
  show ((UInt8.ofNat b).toNat : Int) = (b : Int)
  have h3 : (UInt8.ofNat b).toNat = b % 2 ^ 8 := UInt8.toNat_ofNat'
  rw [h3, Nat.mod_eq_of_lt hlt]
theorem bytesL_inj {a b : ByteArray} (h : bytesL a = bytesL b) : a = b := by
  obtain ⟨⟨a⟩⟩ := a
  obtain ⟨⟨b⟩⟩ := b
  unfold bytesL at h
  simp only at h
  have : ∀ {x y : List UInt8}, x.map (fun b => (b.toNat : Int)) = y.map (fun b => (b.toNat : Int)) → x = y := by
    intro x
    induction x with
    | nil => intro y h; cases y with
      | nil => rfl
      | cons => simp at h
    | cons u x ih =>
      intro y h
      cases y with
      | nil => simp at h
      | cons v y =>
        simp only [List.map_cons, List.cons.injEq] at h
        rw [ih h.2]
        congr 1
        have h1 := h.1
        exact UInt8.toNat_inj.1 (by omega)
  rw [this h]
theorem okB_s (x : KeyB) : x.1.s.all (fun b => Nat.blt b 256) = true := (Bool.and_eq_true _ _ ▸ x.2 : _ ∧ _).1
theorem okB_k (x : KeyB) : x.1.k.all (fun b => Nat.blt b 256) = true := (Bool.and_eq_true _ _ ▸ x.2 : _ ∧ _).2
theorem relStr {ρ : Rho} {s : List Nat} (h : s.all (fun b => Nat.blt b 256) = true) {vc : Value} (hv : VR ρ (.str (ints s)) vc) : vc = .string (ofNats s) := by
  obtain ⟨b, rfl, e⟩ := hv.of_str
  rw [bytesL_inj (e.trans (bytesL_ofNats h).symm)]
theorem strRel {ρ : Rho} {s : List Nat} (h : s.all (fun b => Nat.blt b 256) = true) : VR ρ (.str (ints s)) (.string (ofNats s)) := by
  rw [← bytesL_ofNats h]
  exact .str _
theorem relK (ρ : Rho) (x : KeyB) (i : Nat) (v : AV) (vc : Value) (hi : (avK x)[i]? = some v) (hv : VR ρ v vc) : (encK x)[i]? = some vc := by
  match i with
  | 0 => cases hi; rw [relStr (okB_s x) hv]; rfl
  | 1 => cases hi; rw [relStr (okB_k x) hv]; rfl
  | 2 => cases hi; rw [hv.of_bool]; rfl
  | i + 3 => cases hi
theorem backK (ρ : Rho) (x : KeyB) (i : Nat) (vc : Value) (hi : (encK x)[i]? = some vc) : ∃ v, (avK x)[i]? = some v ∧ VR ρ v vc ∧ vc.oneCell' = true := by
  match i with
  | 0 => cases hi; exact ⟨_, rfl, strRel (okB_s x), rfl⟩
  | 1 => cases hi; exact ⟨_, rfl, strRel (okB_k x), rfl⟩
  | 2 => cases hi; exact ⟨_, rfl, .bool _, rfl⟩
  | i + 3 => cases hi
/-- Bytes, read. -/
def natsOf : List Int → Option (List Nat)
  | [] => some []
  | x :: xs => bif decide (0 ≤ x) then (natsOf xs).map (x.toNat :: ·) else none
theorem natsOf_eq : ∀ {xs : List Int} {s : List Nat}, natsOf xs = some s → xs = ints s
  | [], s, h => by cases h; rfl
  | x :: xs, s, h => by
    unfold natsOf at h
    cases hx : decide (0 ≤ x) with
    | false => rw [hx] at h; cases h
    | true =>
      rw [hx, cond_true] at h
      cases hq : natsOf xs with
      | none => rw [hq] at h; cases h
      | some t =>
        rw [hq] at h
        cases h
        rw [natsOf_eq hq]
        simp only [ints, List.map_cons, List.cons.injEq, _root_.and_true]
        have := of_decide_eq_true hx
        omega
theorem natsOf_ints : ∀ s : List Nat, natsOf (ints s) = some s
  | [] => rfl
  | x :: s => by
    show natsOf ((x : Int) :: ints s) = _
    unfold natsOf
    rw [decide_eq_true (by omega : (0 : Int) ≤ x), cond_true, natsOf_ints s]
    rfl
/-- A row of locks, read. -/
def rowsK : List AV → Option (List KeyB)
  | [] => some []
  | .str a :: .str b :: .bool c :: rest => match natsOf a, natsOf b with
    | some s, some k => if h : okB ⟨s, k, c⟩ = true then (rowsK rest).map (⟨⟨s, k, c⟩, h⟩ :: ·) else none
    | _, _ => none
  | _ => none
theorem rowsK_eq : ∀ (xs : List AV) (l : List KeyB), rowsK xs = some l → xs = l.flatMap avK := by
  intro xs
  induction xs using rowsK.induct with
  | case1 => intro l h; rw [rowsK] at h; cases h; rfl
  | case2 a b c rest s k ea eb hok ih =>
    intro l h
    rw [rowsK, ea, eb] at h
    simp only at h
    rw [dif_pos hok] at h
    cases hq : rowsK rest with
    | none => rw [hq] at h; cases h
    | some t =>
      rw [hq] at h
      cases h
      rw [List.flatMap_cons, ← ih t hq, natsOf_eq ea, natsOf_eq eb]
      rfl
  | case3 a b c rest s k ea eb hok =>
    intro l h
    rw [rowsK, ea, eb] at h
    simp only at h
    rw [dif_neg hok] at h
    cases h
  | case4 a b c rest h1 =>
    intro l h
    rw [rowsK] at h
    split at h
    · rename_i s k e1 e2
      exact (h1 s k e1 e2).elim
    · cases h
  | case5 xs h1 h2 =>
    intro l h
    rw [rowsK] at h
    · cases h
    · exact h1
    · exact h2
theorem rowsK_of : ∀ l : List KeyB, rowsK (l.flatMap avK) = some l
  | [] => rfl
  | x :: l => by
    rw [List.flatMap_cons]
    show rowsK (.str (ints x.1.s) :: .str (ints x.1.k) :: .bool x.1.all :: l.flatMap avK) = _
    rw [rowsK, natsOf_ints, natsOf_ints]
    simp only
    rw [dif_pos x.2, rowsK_of l]
    rfl
/-- Laid in its order. -/
def insK (x : KeyB) : List KeyB → List KeyB
  | [] => [x]
  | y :: l => if ordB y x < 0 then y :: insK x l else x :: y :: l
def sortK : List KeyB → List KeyB
  | [] => []
  | x :: l => insK x (sortK l)
theorem insK_perm (x : KeyB) : ∀ l, (insK x l).Perm (x :: l)
  | [] => .refl _
  | y :: l => by
    unfold insK
    split
    · exact ((insK_perm x l).cons y).trans (.swap x y l)
    · exact .refl _
theorem sortK_perm : ∀ l, (sortK l).Perm l
  | [] => .refl _
  | x :: l => (insK_perm x _).trans ((sortK_perm l).cons x)
def leB (x y : KeyB) : Prop := ¬ ltK y.1 x.1
theorem leB_trans {x y z : KeyB} (h1 : leB x y) (h2 : leB y z) : leB x z := by
  intro h
  rcases ltK_tri x.1 y.1 with a | a | a
  · exact h2 (ltK_trans h a)
  · rw [a] at h; exact h2 h
  · exact h1 a
theorem insK_sorted (x : KeyB) : ∀ l : List KeyB, l.Pairwise leB → (insK x l).Pairwise leB
  | [], _ => List.pairwise_singleton _ _
  | y :: l, h => by
    rw [List.pairwise_cons] at h
    unfold insK
    split
    · rename_i hlt
      have hlt : ltK y.1 x.1 := ordV_lt.1 hlt
      rw [List.pairwise_cons]
      refine ⟨fun z hz => ?_, insK_sorted x l h.2⟩
      rcases List.mem_cons.1 ((insK_perm x l).mem_iff.1 hz) with rfl | hz
      · exact fun h2 => ltK_irrefl _ (ltK_trans hlt h2)
      · exact h.1 z hz
    · rename_i hlt
      have hle : leB x y := fun h2 => hlt (ordV_lt.2 h2)
      rw [List.pairwise_cons, List.pairwise_cons]
      refine ⟨fun z hz => ?_, h⟩
      rcases List.mem_cons.1 hz with rfl | hz
      · exact hle
      · exact leB_trans hle (h.1 z hz)
theorem sortK_sorted : ∀ l, (sortK l).Pairwise leB
  | [] => List.Pairwise.nil
  | x :: l => insK_sorted x _ (sortK_sorted l)
theorem leB_antisymm {x y : KeyB} (h1 : leB x y) (h2 : leB y x) : x = y := by
  rcases ltK_tri x.1 y.1 with a | a | a
  · exact absurd a h2
  · exact Subtype.ext a
  · exact absurd a h1
theorem swoK : Go.Sort.SWO (ltOf ordB) where
  irrefl x := by unfold ltOf ordB; exact decide_eq_false fun h => ltK_irrefl _ (ordV_lt.1 h)
  trans x y z h1 h2 := by
    unfold ltOf ordB at *
    exact decide_eq_true (ordV_lt.2 (ltK_trans (ordV_lt.1 (of_decide_eq_true h1)) (ordV_lt.1 (of_decide_eq_true h2))))
  ntrans x y z h1 h2 := by
    unfold ltOf ordB at *
    have a1 : leB y x := fun h => of_decide_eq_false h1 (ordV_lt.2 h)
    have a2 : leB z y := fun h => of_decide_eq_false h2 (ordV_lt.2 h)
    exact decide_eq_false fun h => leB_trans a2 a1 (ordV_lt.1 h)
theorem srtK (l : List KeyB) (d' : Array KeyB) (hp : Go.Sort.PermIn 0 l.length l.toArray d') (hs : Go.Sort.SortedIn (ltOf ordB) 0 l.length d') : d'.toList = sortK l := by
  have hsz : d'.size = l.length := by simpa using hp.1
  have hperm : d'.toList.Perm l := by
    have := hp.2.2
    have e1 : d'.extract 0 l.length = d' := by rw [← hsz]; exact Array.extract_size
    have e2 : l.toArray.extract 0 l.length = l.toArray := by
      have : l.length = l.toArray.size := by simp
      rw [this]; exact Array.extract_size
    rw [e1, e2] at this
    simpa using this
  have hsort : d'.toList.Pairwise leB := by
    rw [List.pairwise_iff_getElem]
    intro i j hi hj hij
    have hj' : j < d'.size := by simpa using hj
    have := hs i j (Nat.zero_le _) hij (by omega)
    rw [getElem!_pos d' j hj', getElem!_pos d' i (by omega)] at this
    unfold ltOf ordB at this
    intro h
    have h2 := of_decide_eq_false this
    rw [Array.getElem_toList, Array.getElem_toList] at h
    exact h2 (ordV_lt.2 h)
  exact List.Perm.eq_of_pairwise (fun a b _ _ h1 h2 => leB_antisymm h1 h2) hsort (sortK_sorted l) (hperm.trans (sortK_perm l).symm)
end Go.Proofs.YtajincfelnmlhaaGreat
