/- The document's disk: plain. -/
import Derived.Test.YtahhajakgakdhaaGmKeep
import Derived.Test.YtahhajakgakdhaaAmOwn
namespace Go.Proofs.Ytahhajakgakdhaa
set_option maxRecDepth 100000
open Go Go.AM Go.AM.St
def ltN (a b : List Nat) : Bool := ltL (ints a) (ints b)
def rAt (name : List Nat) : List FV → Nat
  | [] => 0
  | x :: V => if ltN x.name name = true then rAt name V + 1 else 0
def rHas (name : List Nat) (V : List FV) : Bool := match V[rAt name V]? with | some x => ints x.name == ints name | none => false
def Sorted (V : List FV) : Prop := V.Pairwise fun a b => ltN a.name b.name = true
def rIns (y : FV) (V : List FV) : List FV := V.take (rAt y.name V) ++ y :: V.drop (rAt y.name V)
def rApp (name bs : List Nat) (V : List FV) : List FV := if rHas name V = true then mApp name bs V else rIns ⟨name, bs, 0, false⟩ V
def rPut (y : FV) (V : List FV) : List FV := if rHas y.name V = true then mPut y V else rIns y V
def rMove (f t : List Nat) (V : List FV) : List FV := match mFind f V with | none => V | some x => rPut ⟨t, x.bytes, x.bytes.length, true⟩ (mDel f V)
theorem ltN_irrefl (a : List Nat) : ltN a a = false := ltL_irrefl _
theorem ltN_trans {a b c : List Nat} (h : ltN a b = true) (k : ltN b c = true) : ltN a c = true := ltL_trans h k
theorem ltN_total {a b : List Nat} (h : ltN a b = false) (k : a ≠ b) : ltN b a = true := ltL_total h fun e => k (ints_inj e)
theorem rAt_le (name : List Nat) : ∀ V : List FV, rAt name V ≤ V.length
  | [] => Nat.le_refl _
  | x :: V => by
    rw [rAt]
    have := rAt_le name V
    split
    · rw [List.length_cons]; omega
    · exact Nat.zero_le _
theorem rAt_take {name : List Nat} : ∀ {V : List FV}, ∀ x ∈ V.take (rAt name V), ltN x.name name = true
  | [], x, h => by simp [rAt] at h
  | y :: V, x, h => by
    rw [rAt] at h
    split at h
    · next hy =>
      rw [List.take_succ_cons] at h
      rcases List.mem_cons.1 h with rfl | h
      · exact hy
      · exact rAt_take x h
    · simp at h
theorem rAt_drop {name : List Nat} : ∀ {V : List FV}, Sorted V → ∀ x ∈ V.drop (rAt name V), ltN x.name name = false
  | [], _, x, h => by simp [rAt] at h
  | y :: V, hs, x, h => by
    unfold Sorted at hs
    rw [List.pairwise_cons] at hs
    rw [rAt] at h
    split at h
    · rw [List.drop_succ_cons] at h
      exact rAt_drop hs.2 x h
    · next hy =>
      rw [List.drop_zero] at h
      rcases List.mem_cons.1 h with rfl | h
      · simpa using hy
      · cases hx : ltN x.name name with
        | false => rfl
        | true => exact absurd (ltN_trans (hs.1 x h) hx) hy
theorem Sorted.nodup {V : List FV} (h : Sorted V) : V.Pairwise fun a b => a.name ≠ b.name := h.imp fun hab e => by rw [e, ltN_irrefl] at hab; cases hab
/-- Is it there? -/
theorem rHas_iff {name : List Nat} {V : List FV} (hs : Sorted V) : rHas name V = true ↔ ∃ x ∈ V, x.name = name := by
  unfold rHas
  constructor
  · intro h
    split at h
    · next x hx => exact ⟨x, List.mem_of_getElem? hx, ints_inj (by simpa using h)⟩
    · cases h
  · rintro ⟨x, hx, rfl⟩
    rw [← List.take_append_drop (rAt x.name V) V] at hx
    rcases List.mem_append.1 hx with hx | hx
    · have := rAt_take x hx
      rw [ltN_irrefl] at this; cases this
    · cases hd : V.drop (rAt x.name V) with
      | nil => rw [hd] at hx; cases hx
      | cons y W =>
        have hy : V[rAt x.name V]? = some y := by rw [← List.head?_drop, hd]; rfl
        rw [hy]
        simp only
        rw [hd] at hx
        have hdm := rAt_drop (name := x.name) hs
        rw [hd] at hdm
        rcases List.mem_cons.1 hx with rfl | hx'
        · simp
        · have h1 : ltN y.name x.name = true := by
            have hs' : Sorted (y :: W) := by
              have : (V.drop (rAt x.name V)).Pairwise fun a b => ltN a.name b.name = true := List.Pairwise.sublist (List.drop_sublist _ _) hs
              rwa [hd] at this
            unfold Sorted at hs'
            rw [List.pairwise_cons] at hs'
            exact hs'.1 x hx'
          rw [hdm y (by simp)] at h1; cases h1
theorem mFind_iff {name : List Nat} : ∀ {V : List FV}, mFind name V = none ↔ ∀ x ∈ V, x.name ≠ name
  | [] => by simp [mFind]
  | y :: V => by
    rw [mFind]
    by_cases h : y.name = name
    · rw [if_pos h]; simp [h]
    · rw [if_neg h, mFind_iff]; simp [h]
def nod (V : List FV) : Prop := V.Pairwise fun a b => a.name ≠ b.name
theorem mFind_some_iff {name : List Nat} {x : FV} : ∀ {V : List FV}, nod V → (mFind name V = some x ↔ x ∈ V ∧ x.name = name)
  | [], _ => by simp [mFind]
  | y :: V, h => by
    unfold nod at h
    rw [List.pairwise_cons] at h
    rw [mFind]
    by_cases hy : y.name = name
    · rw [if_pos hy]
      constructor
      · intro e; cases e; exact ⟨by simp, hy⟩
      · rintro ⟨hx, hn⟩
        rcases List.mem_cons.1 hx with rfl | hx
        · rfl
        · exact absurd (hy.trans hn.symm) (h.1 x hx)
    · rw [if_neg hy, mFind_some_iff h.2]
      constructor
      · rintro ⟨a, b⟩; exact ⟨by simp [a], b⟩
      · rintro ⟨a, b⟩
        rcases List.mem_cons.1 a with rfl | a
        · exact absurd b hy
        · exact ⟨a, b⟩
theorem mFind_perm {name : List Nat} {R V : List FV} (hp : R.Perm V) (hR : nod R) (hV : nod V) : mFind name R = mFind name V := by
  cases h : mFind name R with
  | none =>
    symm
    rw [mFind_iff] at h ⊢
    exact fun x hx => h x (hp.mem_iff.2 hx)
  | some x =>
    symm
    rw [mFind_some_iff hR] at h
    rw [mFind_some_iff hV]
    exact ⟨hp.mem_iff.1 h.1, h.2⟩
/-- One by its name is another one. -/
def updN (name : List Nat) (g : FV → FV) (x : FV) : FV := if x.name = name then g x else x
theorem upd_self {name : List Nat} {g : FV → FV} {V : List FV} (h : ∀ x ∈ V, name ≠ x.name) : V.map (updN name g) = V := by
  conv => rhs; rw [← List.map_id V]
  refine List.map_congr_left fun x hx => ?_
  unfold updN
  rw [if_neg (Ne.symm (h x hx))]; rfl
theorem mSync_map {name : List Nat} : ∀ {V : List FV}, nod V → mSync name V = V.map (updN name fun x => { x with synced := x.bytes.length, lasts := true })
  | [], _ => rfl
  | y :: V, h => by
    unfold nod at h
    rw [List.pairwise_cons] at h
    rw [mSync, List.map_cons]
    by_cases hy : y.name = name
    · rw [if_pos hy, upd_self fun x hx => hy ▸ h.1 x hx, updN, if_pos hy]
    · rw [if_neg hy, mSync_map h.2, updN, if_neg hy]
theorem mCut_map {name : List Nat} {k : Nat} : ∀ {V : List FV}, nod V → mCut name k V = V.map (updN name fun x => ⟨x.name, x.bytes.take k, k, true⟩)
  | [], _ => rfl
  | y :: V, h => by
    unfold nod at h
    rw [List.pairwise_cons] at h
    rw [mCut, List.map_cons]
    by_cases hy : y.name = name
    · rw [if_pos hy, upd_self fun x hx => hy ▸ h.1 x hx, updN, if_pos hy]
    · rw [if_neg hy, mCut_map h.2, updN, if_neg hy]
theorem mApp_map {name bs : List Nat} : ∀ {V : List FV}, nod V → (∃ x ∈ V, x.name = name) → mApp name bs V = V.map (updN name fun x => { x with bytes := x.bytes ++ bs })
  | [], _, h => by obtain ⟨x, hx, _⟩ := h; cases hx
  | y :: V, h, hx => by
    unfold nod at h
    rw [List.pairwise_cons] at h
    rw [mApp, List.map_cons]
    by_cases hy : y.name = name
    · rw [if_pos hy, upd_self fun x hx => hy ▸ h.1 x hx, updN, if_pos hy]
    · rw [if_neg hy, mApp_map h.2, updN, if_neg hy]
      obtain ⟨x, hx, hn⟩ := hx
      rcases List.mem_cons.1 hx with rfl | hx
      · exact absurd hn hy
      · exact ⟨x, hx, hn⟩
theorem mApp_new {name bs : List Nat} : ∀ {V : List FV}, (∀ x ∈ V, x.name ≠ name) → mApp name bs V = V ++ [⟨name, bs, 0, false⟩]
  | [], _ => rfl
  | y :: V, h => by rw [mApp, if_neg (h y (by simp)), mApp_new fun x hx => h x (by simp [hx])]; rfl
theorem mPut_map {y : FV} : ∀ {V : List FV}, nod V → (∃ x ∈ V, x.name = y.name) → mPut y V = V.map (updN y.name fun _ => y)
  | [], _, h => by obtain ⟨x, hx, _⟩ := h; cases hx
  | x :: V, h, hx => by
    unfold nod at h
    rw [List.pairwise_cons] at h
    rw [mPut, List.map_cons]
    by_cases hy : x.name = y.name
    · rw [if_pos hy, upd_self fun z hz => hy ▸ h.1 z hz, updN, if_pos hy]
    · rw [if_neg hy, mPut_map h.2, updN, if_neg hy]
      obtain ⟨z, hz, hn⟩ := hx
      rcases List.mem_cons.1 hz with rfl | hz
      · exact absurd hn hy
      · exact ⟨z, hz, hn⟩
theorem mPut_new {y : FV} : ∀ {V : List FV}, (∀ x ∈ V, x.name ≠ y.name) → mPut y V = V ++ [y]
  | [], _ => rfl
  | x :: V, h => by rw [mPut, if_neg (h x (by simp)), mPut_new fun z hz => h z (by simp [hz])]; rfl
theorem mDel_filter {name : List Nat} : ∀ {V : List FV}, nod V → mDel name V = V.filter fun x => decide (x.name ≠ name)
  | [], _ => rfl
  | y :: V, h => by
    unfold nod at h
    rw [List.pairwise_cons] at h
    rw [mDel]
    by_cases hy : y.name = name
    · rw [if_pos hy, List.filter_cons_of_neg (by simpa using hy)]
      symm
      exact List.filter_eq_self.2 fun x hx => decide_eq_true fun e => h.1 x hx (hy.trans e.symm)
    · rw [if_neg hy, List.filter_cons_of_pos (by simpa using hy), mDel_filter h.2]
theorem map_sorted {V : List FV} {f : FV → FV} (hf : ∀ x, (f x).name = x.name) (h : Sorted V) : Sorted (V.map f) := by
  unfold Sorted at h ⊢
  rw [List.pairwise_map]
  exact h.imp fun hab => by rw [hf, hf]; exact hab
theorem upd_name {name : List Nat} {g : FV → FV} (hg : ∀ x, x.name = name → (g x).name = name) (x : FV) : (updN name g x).name = x.name := by
  unfold updN
  split
  · next h => rw [hg x h, h]
  · rfl
theorem rIns_sorted {y : FV} {V : List FV} (hs : Sorted V) (hn : ∀ x ∈ V, x.name ≠ y.name) : Sorted (rIns y V) := by
  unfold Sorted rIns
  rw [List.pairwise_append, List.pairwise_cons]
  have h1 : (V.take (rAt y.name V)).Pairwise fun a b => ltN a.name b.name = true := List.Pairwise.sublist (List.take_sublist _ _) hs
  have h2 : (V.drop (rAt y.name V)).Pairwise fun a b => ltN a.name b.name = true := List.Pairwise.sublist (List.drop_sublist _ _) hs
  have gt : ∀ x ∈ V.drop (rAt y.name V), ltN y.name x.name = true := fun x hx => ltN_total (rAt_drop hs x hx) (hn x (List.mem_of_mem_drop hx))
  refine ⟨h1, ⟨gt, h2⟩, fun a ha b hb => ?_⟩
  have hay := rAt_take a ha
  rcases List.mem_cons.1 hb with rfl | hb
  · exact hay
  · exact ltN_trans hay (gt b hb)
theorem rIns_perm {y : FV} {V : List FV} : (rIns y V).Perm (V ++ [y]) := by
  unfold rIns
  refine List.Perm.trans List.perm_middle ?_
  rw [List.take_append_drop]
  exact (List.perm_append_singleton y V).symm
/-- The document's state and the program's. -/
structure Alike (R S : DS) : Prop where
  s : Sorted R.V
  n : nod S.V
  p : R.V.Perm S.V
  l : R.left = S.left
  d : R.down = S.down
  o : R.ops = S.ops
theorem rApp_alike {name bs : List Nat} {R V : List FV} (hs : Sorted R) (hn : nod V) (hp : R.Perm V) : Sorted (rApp name bs R) ∧ nod (mApp name bs V) ∧ (rApp name bs R).Perm (mApp name bs V) := by
  unfold rApp
  by_cases h : rHas name R = true
  · rw [if_pos h]
    obtain ⟨x, hx, hxn⟩ := (rHas_iff hs).1 h
    rw [mApp_map hs.nodup ⟨x, hx, hxn⟩, mApp_map hn ⟨x, hp.mem_iff.1 hx, hxn⟩]
    have hu := upd_name (name := name) (g := fun x => { x with bytes := x.bytes ++ bs }) fun _ h => h
    refine ⟨map_sorted hu hs, ?_, hp.map _⟩
    unfold nod at hn ⊢
    rw [List.pairwise_map]
    exact hn.imp fun hab => by rw [hu, hu]; exact hab
  · rw [if_neg h]
    have hno : ∀ x ∈ R, x.name ≠ name := fun x hx e => h ((rHas_iff hs).2 ⟨x, hx, e⟩)
    have hno2 : ∀ x ∈ V, x.name ≠ name := fun x hx => hno x (hp.mem_iff.2 hx)
    rw [mApp_new hno2]
    refine ⟨rIns_sorted hs hno, ?_, rIns_perm.trans (hp.append_right _)⟩
    unfold nod
    rw [List.pairwise_append]
    exact ⟨hn, by simp, fun a ha b hb => by rw [List.mem_singleton] at hb; subst hb; exact hno2 a ha⟩
theorem rPut_alike {y : FV} {R V : List FV} (hs : Sorted R) (hn : nod V) (hp : R.Perm V) : Sorted (rPut y R) ∧ nod (mPut y V) ∧ (rPut y R).Perm (mPut y V) := by
  unfold rPut
  by_cases h : rHas y.name R = true
  · rw [if_pos h]
    obtain ⟨x, hx, hxn⟩ := (rHas_iff hs).1 h
    rw [mPut_map hs.nodup ⟨x, hx, hxn⟩, mPut_map hn ⟨x, hp.mem_iff.1 hx, hxn⟩]
    have hu := upd_name (name := y.name) (g := fun _ => y) fun _ _ => rfl
    refine ⟨map_sorted hu hs, ?_, hp.map _⟩
    unfold nod at hn ⊢
    rw [List.pairwise_map]
    exact hn.imp fun hab => by rw [hu, hu]; exact hab
  · rw [if_neg h]
    have hno : ∀ x ∈ R, x.name ≠ y.name := fun x hx e => h ((rHas_iff hs).2 ⟨x, hx, e⟩)
    have hno2 : ∀ x ∈ V, x.name ≠ y.name := fun x hx => hno x (hp.mem_iff.2 hx)
    rw [mPut_new hno2]
    refine ⟨rIns_sorted hs hno, ?_, rIns_perm.trans (hp.append_right _)⟩
    unfold nod
    rw [List.pairwise_append]
    exact ⟨hn, by simp, fun a ha b hb => by rw [List.mem_singleton] at hb; subst hb; exact hno2 a ha⟩
theorem rDel_alike {name : List Nat} {R V : List FV} (hs : Sorted R) (hn : nod V) (hp : R.Perm V) : Sorted (mDel name R) ∧ nod (mDel name V) ∧ (mDel name R).Perm (mDel name V) := by
  rw [mDel_filter hs.nodup, mDel_filter hn]
  exact ⟨List.Pairwise.sublist List.filter_sublist hs, List.Pairwise.sublist List.filter_sublist hn, hp.filter _⟩
theorem rMove_alike {f t : List Nat} {R V : List FV} (hs : Sorted R) (hn : nod V) (hp : R.Perm V) : Sorted (rMove f t R) ∧ nod (mMove f t V) ∧ (rMove f t R).Perm (mMove f t V) := by
  unfold rMove mMove
  rw [mFind_perm hp hs.nodup hn]
  cases mFind f V with
  | none => exact ⟨hs, hn, hp⟩
  | some x =>
    obtain ⟨a, b, c⟩ := rDel_alike (name := f) hs hn hp
    exact rPut_alike a b c
theorem upd_alike {name : List Nat} {g : FV → FV} (hg : ∀ x, x.name = name → (g x).name = name) {R V : List FV} (hs : Sorted R) (hn : nod V) (hp : R.Perm V) : Sorted (R.map (updN name g)) ∧ nod (V.map (updN name g)) ∧ (R.map (updN name g)).Perm (V.map (updN name g)) := by
  have hu := upd_name hg
  refine ⟨map_sorted hu hs, ?_, hp.map _⟩
  unfold nod at hn ⊢
  rw [List.pairwise_map]
  exact hn.imp fun hab => by rw [hu, hu]; exact hab
theorem crash_name {keep : Int} {x y : FV} (h : mCrash keep x = some y) : y.name = x.name := by
  unfold mCrash at h
  split at h
  · cases h
  · cases h; rfl
theorem crash_alike {keep : Int} {R V : List FV} (hs : Sorted R) (hn : nod V) (hp : R.Perm V) : Sorted (R.filterMap (mCrash keep)) ∧ nod (V.filterMap (mCrash keep)) ∧ (R.filterMap (mCrash keep)).Perm (V.filterMap (mCrash keep)) := by
  refine ⟨?_, ?_, hp.filterMap _⟩
  · unfold Sorted at hs ⊢
    rw [List.pairwise_filterMap]
    exact hs.imp fun hab x hx y hy => by rw [crash_name hx, crash_name hy]; exact hab
  · unfold nod at hn ⊢
    rw [List.pairwise_filterMap]
    exact hn.imp fun hab x hx y hy => by rw [crash_name hx, crash_name hy]; exact hab
end Go.Proofs.Ytahhajakgakdhaa
