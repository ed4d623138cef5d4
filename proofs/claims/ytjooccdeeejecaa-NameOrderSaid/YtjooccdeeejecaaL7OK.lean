/- Names in order, in plain lists; what a name is in memory. -/
import Derived.Test.YtjooccdeeejecaaAmSort
import Derived.Test.YtjooccdeeejecaaAmMap
import Derived.Test.YtjooccdeeejecaaAmFlat
import Derived.Test.YtjooccdeeejecaaL7O
namespace Go.Proofs.Ytjooccdeeejecaa
open Go Go.AM Go.AM.St Go.Proofs
abbrev Nm := Int × Int
theorem ltI_iff {p q : Nm} : ltI p q = true ↔ p.1 < q.1 ∨ (p.1 = q.1 ∧ p.2 < q.2) := by
  unfold ltI
  simp only [Bool.or_eq_true, Bool.and_eq_true, decide_eq_true_eq]
theorem ltI_irr (p : Nm) : ltI p p = false := by
  rw [Bool.eq_false_iff]
  intro h
  have := ltI_iff.1 h
  omega
theorem ltI_tr {p q r : Nm} (h : ltI p q = true) (k : ltI q r = true) : ltI p r = true := by
  have h1 := ltI_iff.1 h
  have h2 := ltI_iff.1 k
  exact ltI_iff.2 (by omega)
theorem ltI_tri (p q : Nm) : ltI p q = true ∨ p = q ∨ ltI q p = true := by
  rcases Int.lt_trichotomy p.1 q.1 with h | h | h
  · exact .inl (ltI_iff.2 (.inl h))
  · rcases Int.lt_trichotomy p.2 q.2 with h2 | h2 | h2
    · exact .inl (ltI_iff.2 (.inr ⟨h, h2⟩))
    · exact .inr (.inl (Prod.ext h h2))
    · exact .inr (.inr (ltI_iff.2 (.inr ⟨h.symm, h2⟩)))
  · exact .inr (.inr (ltI_iff.2 (.inl h)))
abbrev StrictI (l : List Nm) : Prop := l.Pairwise (fun x y => ltI x y = true)
theorem strictI_nodup {l : List Nm} (h : StrictI l) : l.Nodup := by
  refine List.Pairwise.imp ?_ h
  intro a b hab e
  subst e
  rw [ltI_irr] at hab
  cases hab
theorem strictI_ext {a b : List Nm} (ha : StrictI a) (hb : StrictI b) (h : ∀ x, x ∈ a ↔ x ∈ b) : a = b :=
  List.Perm.eq_of_pairwise (fun x y _ _ h1 h2 => by
    have := ltI_tr h1 h2
    rw [ltI_irr] at this
    cases this) ha hb ((List.perm_ext_iff_of_nodup (strictI_nodup ha) (strictI_nodup hb)).2 h)
theorem nodup_lenI {a b : List Nm} (ha : a.Nodup) (hb : b.Nodup) (h : ∀ x, x ∈ a ↔ x ∈ b) : a.length = b.length :=
  ((List.perm_ext_iff_of_nodup ha hb).2 h).length_eq
def leI (x y : Nm) : Prop := ¬ ltI y x = true
theorem leI_trans {x y z : Nm} (h1 : leI x y) (h2 : leI y z) : leI x z := by
  intro h
  rcases ltI_tri x y with a | a | a
  · exact h2 (ltI_tr h a)
  · rw [a] at h; exact h2 h
  · exact h1 a
theorem leI_antisymm {x y : Nm} (h1 : leI x y) (h2 : leI y x) : x = y := by
  rcases ltI_tri x y with a | a | a
  · exact absurd a h2
  · exact a
  · exact absurd a h1
def insI (x : Nm) : List Nm → List Nm
  | [] => [x]
  | y :: l => if ordI y x < 0 then y :: insI x l else x :: y :: l
def srtI : List Nm → List Nm
  | [] => []
  | x :: l => insI x (srtI l)
theorem ordI_lt {p q : Nm} : ordI p q < 0 ↔ ltI p q = true := by
  rw [← ordI_neg]
  exact decide_eq_true_iff.symm
theorem insI_perm (x : Nm) : ∀ l, (insI x l).Perm (x :: l)
  | [] => .refl _
  | y :: l => by
    unfold insI
    split
    · exact ((insI_perm x l).cons y).trans (.swap x y l)
    · exact .refl _
theorem srtI_perm : ∀ l, (srtI l).Perm l
  | [] => .refl _
  | x :: l => (insI_perm x _).trans ((srtI_perm l).cons x)
theorem insI_sorted (x : Nm) : ∀ l : List Nm, l.Pairwise leI → (insI x l).Pairwise leI
  | [], _ => List.pairwise_singleton _ _
  | y :: l, h => by
    rw [List.pairwise_cons] at h
    unfold insI
    split
    · rename_i hlt
      have hlt : ltI y x = true := ordI_lt.1 hlt
      rw [List.pairwise_cons]
      refine ⟨fun z hz => ?_, insI_sorted x l h.2⟩
      rcases List.mem_cons.1 ((insI_perm x l).mem_iff.1 hz) with rfl | hz
      · intro h2
        have := ltI_tr hlt h2
        rw [ltI_irr] at this
        cases this
      · exact h.1 z hz
    · rename_i hlt
      have hle : leI x y := fun h2 => hlt (ordI_lt.2 h2)
      rw [List.pairwise_cons, List.pairwise_cons]
      refine ⟨fun z hz => ?_, h⟩
      rcases List.mem_cons.1 hz with rfl | hz
      · exact hle
      · exact leI_trans hle (h.1 z hz)
theorem srtI_sorted : ∀ l, (srtI l).Pairwise leI
  | [] => List.Pairwise.nil
  | x :: l => insI_sorted x _ (srtI_sorted l)
theorem srtI_strict {l : List Nm} (hn : l.Nodup) : StrictI (srtI l) := by
  have h1 := srtI_sorted l
  have h2 : (srtI l).Nodup := (srtI_perm l).nodup_iff.2 hn
  refine List.Pairwise.imp ?_ (h1.and h2)
  rintro a b ⟨hle, hne⟩
  rcases ltI_tri a b with h | h | h
  · exact h
  · exact absurd h hne
  · exact absurd h hle
theorem srtI_mem {l : List Nm} {x : Nm} : x ∈ srtI l ↔ x ∈ l := (srtI_perm l).mem_iff
/-! What the kit's law asks. -/
def avP (p : Nm) : List AV := [AV.int .i64 p.1, AV.int .i64 p.2]
def encP (p : Nm) : List Value := [.int .i64 p.1, .int .i64 p.2]
theorem avP_len (p : Nm) : (avP p).length = 2 := rfl
theorem relP (ρ : Rho) (x : Nm) (i : Nat) (v : AV) (vc : Value) (hi : (avP x)[i]? = some v) (hv : VR ρ v vc) : (encP x)[i]? = some vc := by
  match i with
  | 0 => cases hi; rw [hv.of_int]; rfl
  | 1 => cases hi; rw [hv.of_int]; rfl
  | i + 2 => cases hi
theorem backP (ρ : Rho) (x : Nm) (i : Nat) (vc : Value) (hi : (encP x)[i]? = some vc) : ∃ v, (avP x)[i]? = some v ∧ VR ρ v vc ∧ vc.oneCell' = true := by
  match i with
  | 0 => cases hi; exact ⟨_, rfl, .int _ _, rfl⟩
  | 1 => cases hi; exact ⟨_, rfl, .int _ _, rfl⟩
  | i + 2 => cases hi
def rowsI : List AV → Option (List Nm)
  | [] => some []
  | .int .i64 a :: .int .i64 b :: rest => (rowsI rest).map ((a, b) :: ·)
  | _ => none
theorem rowsI_eq : ∀ (xs : List AV) (l : List Nm), rowsI xs = some l → xs = l.flatMap avP := by
  intro xs
  induction xs using rowsI.induct with
  | case1 => intro l h; rw [rowsI] at h; cases h; rfl
  | case2 a b rest ih =>
    intro l h
    rw [rowsI] at h
    cases hq : rowsI rest with
    | none => rw [hq] at h; cases h
    | some t =>
      rw [hq] at h
      cases h
      rw [List.flatMap_cons, ← ih t hq]
      rfl
  | case3 xs h1 h2 =>
    intro l h
    rw [rowsI] at h
    · cases h
    · exact h1
    · exact h2
theorem rowsI_of : ∀ l : List Nm, rowsI (l.flatMap avP) = some l
  | [] => rfl
  | x :: l => by
    rw [List.flatMap_cons]
    show rowsI (.int .i64 x.1 :: .int .i64 x.2 :: l.flatMap avP) = _
    rw [rowsI, rowsI_of l]
    rfl
theorem swoI : Go.Sort.SWO (ltOf ordI) where
  irrefl x := by
    unfold ltOf
    refine decide_eq_false fun h => ?_
    have := ordI_lt.1 h
    rw [ltI_irr] at this
    cases this
  trans x y z h1 h2 := by
    unfold ltOf at *
    exact decide_eq_true (ordI_lt.2 (ltI_tr (ordI_lt.1 (of_decide_eq_true h1)) (ordI_lt.1 (of_decide_eq_true h2))))
  ntrans x y z h1 h2 := by
    unfold ltOf at *
    have a1 : leI y x := fun h => of_decide_eq_false h1 (ordI_lt.2 h)
    have a2 : leI z y := fun h => of_decide_eq_false h2 (ordI_lt.2 h)
    exact decide_eq_false fun h => leI_trans a2 a1 (ordI_lt.1 h)
theorem srtP (l : List Nm) (d' : Array Nm) (hp : Go.Sort.PermIn 0 l.length l.toArray d') (hs : Go.Sort.SortedIn (ltOf ordI) 0 l.length d') : d'.toList = srtI l := by
  have hsz : d'.size = l.length := by simpa using hp.1
  have hperm : d'.toList.Perm l := by
    have := hp.2.2
    have e1 : d'.extract 0 l.length = d' := by rw [← hsz]; exact Array.extract_size
    have e2 : l.toArray.extract 0 l.length = l.toArray := by
      have : l.length = l.toArray.size := by simp
      rw [this]; exact Array.extract_size
    rw [e1, e2] at this
    simpa using this
  have hsort : d'.toList.Pairwise leI := by
    rw [List.pairwise_iff_getElem]
    intro i j hi hj hij
    have hj' : j < d'.size := by simpa using hj
    have := hs i j (Nat.zero_le _) hij (by omega)
    rw [getElem!_pos d' j hj', getElem!_pos d' i (by omega)] at this
    unfold ltOf at this
    intro h
    have h2 := of_decide_eq_false this
    rw [Array.getElem_toList, Array.getElem_toList] at h
    exact h2 (ordI_lt.2 h)
  exact List.Perm.eq_of_pairwise (fun a b _ _ h1 h2 => leI_antisymm h1 h2) hsort (srtI_sorted l) (hperm.trans (srtI_perm l).symm)
end Go.Proofs.Ytjooccdeeejecaa
