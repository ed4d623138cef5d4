/- Package disk: its operations. -/
import Derived.Test.YtahhajakgakdhaaL5Disk
namespace Go.Proofs.Ytahhajakgakdhaa
set_option maxRecDepth 100000
open Go Go.AM Go.AM.St

theorem own_row {σ : H} {i n : Nat} {a : SA} {cs : List AV} (h : Own [] σ 1 (some i) a n cs) : ∃ xs md, σ[i]? = some (AO.cells xs 1 md) := by
  obtain ⟨off, xs, md, a1, a2, a3, a4⟩ := h
  exact ⟨xs, md, a3⟩
theorem FileAt.oRow {σ : H} {g : FG} (h : FileAt σ g) {i : Nat} (hi : g.o = some i) : ∃ xs md, σ[i]? = some (AO.cells xs 1 md) := by
  have := h.own
  rw [hi] at this
  exact own_row this
section
variable {B m clock ops : Nat} {G G1 G2 : List FG} {left : Int} {down : Bool} {σ : H}
/-- One file is another one now. -/
theorem DiskAt.repl {σ' : H} {g g' : FG} (hd : DiskAt σ B m clock (G1 ++ g :: G2) left down ops) (hf : g'.f = g.f) (hn : g'.name = g.name) (hb : g'.born = g.born)
    (ho : g'.o = none ∨ g'.o = g.o ∨ ∃ i, g'.o = some i ∧ σ.length ≤ i) (hk : ∀ id, id < σ.length → id ≠ g.f → g.o ≠ some id → σ'[id]? = σ[id]?) (hfile : FileAt σ' g') :
    DiskAt σ' B m clock (G1 ++ g' :: G2) left down ops := by
  have hg := hd.files g (by simp)
  have hap := hd.apart
  rw [List.pairwise_append, List.pairwise_cons] at hap
  have one : ∀ x, x ∈ G1 ∨ x ∈ G2 → x.f ≠ g.f ∧ (x.o = none ∨ x.o ≠ g.o) ∧ x.name ≠ g.name ∧ x.born ≠ g.born := fun x hx => by
    rcases hx with hx | hx
    · exact hap.2.2 x hx g (by simp)
    · obtain ⟨b1, b2, b3, b4⟩ := hap.2.1.1 x hx
      refine ⟨b1.symm, ?_, Ne.symm b3, Ne.symm b4⟩
      rcases b2 with b2 | b2
      · cases hxo : x.o with
        | none => exact .inl rfl
        | some j => exact .inr (by rw [b2]; exact fun e => by cases e)
      · exact .inr (Ne.symm b2)
  have lt_o : ∀ x ∈ G1 ++ g :: G2, ∀ i, x.o = some i → i < σ.length := fun x hx i hi => by
    obtain ⟨xs, md, hr⟩ := (hd.files x hx).oRow hi
    exact get_lt hr
  have new : ∀ x, x ∈ G1 ∨ x ∈ G2 → g'.f ≠ x.f ∧ (g'.o = none ∨ g'.o ≠ x.o) ∧ g'.name ≠ x.name ∧ g'.born ≠ x.born := fun x hx => by
    obtain ⟨b1, b2, b3, b4⟩ := one x hx
    rw [hf, hn, hb]
    refine ⟨b1.symm, ?_, Ne.symm b3, Ne.symm b4⟩
    rcases ho with h | h | ⟨i, h, hl⟩
    · exact .inl h
    · rw [h]
      rcases b2 with b2 | b2
      · cases hgo : g.o with
        | none => exact .inl rfl
        | some j => exact .inr (by rw [b2]; exact fun e => by cases e)
      · exact .inr (Ne.symm b2)
    · refine .inr fun e => ?_
      have := lt_o x (by rcases hx with hx | hx <;> simp [hx]) i (e.symm.trans h)
      omega
  refine ⟨?_, ?_, fun x hx => ?_, ?_, ?_⟩
  · refine (hk B (get_lt hd.row) (fun e => ?_) fun e => ?_).trans hd.row
    · have h1 := hg.row; rw [← e, hd.row] at h1; cases h1
    · obtain ⟨xs, md, h1⟩ := hg.oRow e; rw [hd.row] at h1; cases h1
  · have : (G1 ++ g' :: G2).map entOf = (G1 ++ g :: G2).map entOf := by
      simp [entOf, hf, hn, hb]
    rw [this]
    refine (hk m (get_lt hd.mp) (fun e => ?_) fun e => ?_).trans hd.mp
    · have h1 := hg.row; rw [← e, hd.mp] at h1; cases h1
    · obtain ⟨xs, md, h1⟩ := hg.oRow e; rw [hd.mp] at h1; cases h1
  · have other : x ∈ G1 ∨ x ∈ G2 → FileAt σ' x := fun hx => by
      have hm : x ∈ G1 ++ g :: G2 := by rcases hx with hx | hx <;> simp [hx]
      have h := hd.files x hm
      obtain ⟨b1, b2, b3, b4⟩ := one x hx
      refine h.keep (hk _ (get_lt h.row) b1 fun e => ?_) fun i hi => hk i (lt_o x hm i hi) (fun e => ?_) fun e => ?_
      · obtain ⟨xs, md, h1⟩ := hg.oRow e; rw [h.row] at h1; cases h1
      · obtain ⟨xs, md, h1⟩ := h.oRow hi
        rw [e, hg.row] at h1; cases h1
      · rcases b2 with b2 | b2
        · rw [b2] at hi; cases hi
        · exact b2 (hi.trans e.symm)
    rcases List.mem_append.1 hx with hx | hx
    · exact other (.inl hx)
    · rcases List.mem_cons.1 hx with rfl | hx
      · exact hfile
      · exact other (.inr hx)
  · rw [List.pairwise_append, List.pairwise_cons]
    refine ⟨hap.1, ⟨fun x hx => new x (.inr hx), hap.2.1.2⟩, fun x hx y hy => ?_⟩
    rcases List.mem_cons.1 hy with rfl | hy
    · obtain ⟨b1, b2, b3, b4⟩ := new x (.inl hx)
      refine ⟨b1.symm, ?_, Ne.symm b3, Ne.symm b4⟩
      rcases b2 with b2 | b2
      · cases hxo : x.o with
        | none => exact .inl rfl
        | some j => exact .inr (by rw [b2]; exact fun e => by cases e)
      · exact .inr (Ne.symm b2)
    · exact hap.2.2 x hx y (by simp [hy])
  · intro x hx
    rcases List.mem_append.1 hx with hx | hx
    · exact hd.old x (by simp [hx])
    · rcases List.mem_cons.1 hx with rfl | hx
      · rw [hb]; exact hd.old g (by simp)
      · exact hd.old x (by simp [hx])

theorem st_synced {g : FG} (hd : DiskAt σ B m clock (G1 ++ g :: G2) left down ops) {x : Int} {n : Nat} (e : x = (n : Int)) {K : H → Bool}
    (hK : ∀ σ', DiskAt σ' B m clock (G1 ++ { g with synced := n } :: G2) left down ops → (∀ id, id ≠ g.f → σ'[id]? = σ[id]?) → σ'.length = σ.length → K σ' = true) :
    storeK Try.prog 3 (.ptr (some ⟨g.f, 0, 1, 3⟩)) (.int .i64 x) σ K = true := by
  subst e
  exact storeK_of rfl rfl (by decide) (hd.files g (by simp)).row rfl (by show 0 + 1 < 3; decide) (hK _ (hd.fileTurn n g.lasts) (fun id hne => List.getElem?_set_ne (Ne.symm hne)) (List.length_set ..))
theorem st_lasts {g : FG} (hd : DiskAt σ B m clock (G1 ++ g :: G2) left down ops) {x : Bool} {K : H → Bool}
    (hK : ∀ σ', DiskAt σ' B m clock (G1 ++ { g with lasts := x } :: G2) left down ops → (∀ id, id ≠ g.f → σ'[id]? = σ[id]?) → σ'.length = σ.length → K σ' = true) :
    storeK Try.prog 4 (.ptr (some ⟨g.f, 0, 2, 3⟩)) (.bool x) σ K = true :=
  storeK_of rfl rfl (by decide) (hd.files g (by simp)).row rfl (by show 0 + 2 < 3; decide) (hK _ (hd.fileTurn g.synced x) (fun id hne => List.getElem?_set_ne (Ne.symm hne)) (List.length_set ..))
end
attribute [local irreducible] IntKind.wrap Int.fdiv Int.tdiv Int.tmod BitVec.ofInt appendK sliceK indexAddrK ldK storeK seenK makeSliceK lookupK updateK deleteK mapK
variable {D : Drawer}
variable {B m clock ops : Nat} {G G1 G2 : List FG} {left : Int} {down : Bool} {σ : H}

theorem lasting_spec {n : Nat} {g : FG} (hn : 1 ≤ n) (hd : DiskAt σ B m clock (G1 ++ g :: G2) left down ops) {x : Int} {k : Nat} (e : x = (k : Int)) {K : AV → H → Bool}
    (hK : ∀ σ', DiskAt σ' B m clock (G1 ++ { g with synced := k, lasts := true } :: G2) left down ops → (∀ id, id ≠ g.f → σ'[id]? = σ[id]?) → σ'.length = σ.length → K (.tup []) σ' = true) :
    acall Try.prog tab D n 47 [.ptr (some ⟨g.f, 0, 0, 3⟩), .int .i64 x] σ K = true := by
  obtain ⟨n, rfl, hn⟩ := up hn
  conv => lhs; whnf
  refine st_synced hd e fun σ1 d1 k1 l1 => ?_
  conv => lhs; whnf
  refine st_lasts d1 fun σ2 d2 k2 l2 => ?_
  have := hK σ2 d2 (fun id hne => (k2 id hne).trans (k1 id hne)) (l2.trans l1)
  conv => lhs; whnf
  exact this
/-- What may be told of the heap behind an operation. -/
structure Step (B m : Nat) (G G' : List FG) (σ σ' : H) : Prop where
  len : σ.length ≤ σ'.length
  keep : ∀ id, id < σ.length → ¬ Fp B m G id → σ'[id]? = σ[id]?
  fp : ∀ id, Fp B m G' id → Fp B m G id ∨ σ.length ≤ id
theorem Step.refl : Step B m G G σ σ := ⟨Nat.le_refl _, fun _ _ _ => rfl, fun _ h => .inl h⟩
theorem Step.trans {G' G'' : List FG} {σ1 σ2 : H} (h1 : Step B m G G' σ σ1) (h2 : Step B m G' G'' σ1 σ2) : Step B m G G'' σ σ2 :=
  ⟨Nat.le_trans h1.len h2.len, fun id hl hf => (h2.keep id (Nat.lt_of_lt_of_le hl h1.len) fun h => by
      rcases h1.fp id h with h | h
      · exact hf h
      · omega).trans (h1.keep id hl hf), fun id h => by
    rcases h2.fp id h with h | h
    · exact h1.fp id h
    · exact .inr (Nat.le_trans h1.len h)⟩
theorem Step.ofB {σ' : H} (_ : B < σ.length) (hl : σ'.length = σ.length) (hk : ∀ id, id ≠ B → σ'[id]? = σ[id]?) : Step B m G G σ σ' :=
  ⟨Nat.le_of_eq hl.symm, fun id _ hf => hk id fun e => hf (.inl e), fun _ h => .inl h⟩
theorem fp_same {g g' : FG} (hf : g'.f = g.f) (ho : g'.o = g.o) {id : Nat} (h : Fp B m (G1 ++ g' :: G2) id) : Fp B m (G1 ++ g :: G2) id := by
  rcases h with h | h | ⟨x, hx, h⟩ | ⟨x, hx, h⟩
  · exact .inl h
  · exact .inr (.inl h)
  · rcases List.mem_append.1 hx with hx | hx
    · exact .inr (.inr (.inl ⟨x, by simp [hx], h⟩))
    · rcases List.mem_cons.1 hx with rfl | hx
      · exact .inr (.inr (.inl ⟨g, by simp, by rw [h, hf]⟩))
      · exact .inr (.inr (.inl ⟨x, by simp [hx], h⟩))
  · rcases List.mem_append.1 hx with hx | hx
    · exact .inr (.inr (.inr ⟨x, by simp [hx], h⟩))
    · rcases List.mem_cons.1 hx with rfl | hx
      · exact .inr (.inr (.inr ⟨g, by simp, by rw [← ho, h]⟩))
      · exact .inr (.inr (.inr ⟨x, by simp [hx], h⟩))
end Go.Proofs.Ytahhajakgakdhaa
