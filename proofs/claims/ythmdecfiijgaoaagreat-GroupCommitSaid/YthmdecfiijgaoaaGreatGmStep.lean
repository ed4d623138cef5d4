/- A law with arguments: whatever is read becomes read-only rows of the abstract heap. Steps of the abstract machine over values that are not known. Whole numbers of a width, as natural numbers. Arguments, told kind by kind. More steps: fields of a row that is known, rows of texts. Appends that keep what reads into the row. -/
import Derived.Test.YthmdecfiijgaoaaGreatGmCode
import Derived.WideShapes
import Derived.ChangeArms
import Derived.ChangeOld
import Derived.DataReads
import Derived.Carry
import Derived.Deep.Slices
import Derived.Test.YthmdecfiijgaoaaGreatGmCore
namespace Go.AM
open Go Go.RowKit

def tilesOk (P : Program) : List Field → Nat → Nat → Bool
  | [], o, e => o == e
  | f :: fs, o, e => f.offset == o && tilesOk P fs (o + P.cellsOf f.type) e

/-- Types of bools, whole numbers, strings, slices and structs. -/
def plainT (P : Program) : Nat → TypeId → Bool
  | 0, _ => false
  | n + 1, t => match P.underlying t with
    | some .bool | some (.int _) | some .string => P.cellsOf t == 1
    | some (.slice e) => P.cellsOf t == 1 && decide (0 < P.cellsOf e) && plainT P n e
    | some (.struct fs) => tilesOk P fs.toList 0 (P.cellsOf t) && fs.toList.all fun f => plainT P n f.type
    | _ => false

/-- What an argument's cells look like. -/
def Shp (P : Program) (σ : H) : Nat → TypeId → List AV → Prop
  | 0, _, _ => False
  | n + 1, t, cs => match P.underlying t with
    | some .bool => ∃ b, cs = [.bool b]
    | some (.int k) => ∃ i, cs = [.int k i] ∧ (Lit.int k i).wf = true
    | some .string => ∃ s : ByteArray, cs = [.str (bytesL s)] ∧ s.size ≤ maxLen
    | some (.slice e) => cs = [.sl .nil 0] ∨ cs = [.sl .zero 0] ∨ ∃ id m xs, m ≤ maxLen ∧ cs = [.sl (.at id 0 (P.cellsOf e)) m] ∧
        σ[id]? = some (.cells xs (P.cellsOf e) .ro) ∧ xs.length = m * P.cellsOf e ∧ ∀ i, i < m → Shp P σ n e ((xs.drop (i * P.cellsOf e)).take (P.cellsOf e))
    | some (.struct fs) => ∀ f ∈ fs.toList, Shp P σ n f.type ((cs.drop f.offset).take (P.cellsOf f.type))
    | _ => False

theorem prefix_get {σ σ' : H} (h : σ <+: σ') {i : Nat} {o : AO} (ho : σ[i]? = some o) : σ'[i]? = some o := by
  obtain ⟨τ, rfl⟩ := h
  rw [List.getElem?_append_left (List.getElem?_eq_some_iff.1 ho).1]
  exact ho

theorem Shp.mono {P : Program} {σ σ' : H} (h : σ <+: σ') : ∀ {n : Nat} {t : TypeId} {cs : List AV}, Shp P σ n t cs → Shp P σ' n t cs := by
  intro n
  induction n with
  | zero => intro t cs hs; exact hs.elim
  | succ n ih =>
    intro t cs hs
    unfold Shp at hs ⊢
    split at hs
    · exact hs
    · exact hs
    · exact hs
    · rcases hs with hs | hs | ⟨id, m, xs, h2, h3, h4, h5, h6⟩
      · exact .inl hs
      · exact .inr (.inl hs)
      · exact .inr (.inr ⟨id, m, xs, h2, h3, prefix_get h h4, h5, fun i hi => ih (h6 i hi)⟩)
    · exact fun f hf => ih (hs f hf)
    · exact hs

section
variable {G : Type} {enc : TypeId × Value → G} {P : Program} {w : World} {held : Bool}

/-- What a reading gives, whatever rows stand already. -/
def Reads (P : Program) (w : World) (n : Nat) (t : TypeId) (cs : List Value) : Prop :=
  ∀ ρ σ, Sim w.heap.size w ρ σ w → ∃ ρ' σ' avs, ρ.le ρ' ∧ σ <+: σ' ∧ Sim w.heap.size w ρ' σ' w ∧ VRs ρ' avs cs ∧ Shp P σ' n t avs ∧ (∀ v ∈ avs, isLeaf v = true) ∧ avs.length = P.cellsOf t

theorem reads_fields {n : Nat} {cs : List Value} : ∀ (fs : List Field) (o : Nat), tilesOk P fs o cs.length = true →
    (∀ f ∈ fs, Reads P w n f.type ((cs.drop f.offset).take (P.cellsOf f.type))) → ∀ ρ σ, Sim w.heap.size w ρ σ w →
    ∃ ρ' σ' avs, ρ.le ρ' ∧ σ <+: σ' ∧ Sim w.heap.size w ρ' σ' w ∧ VRs ρ' avs (cs.drop o) ∧ (∀ f ∈ fs, o ≤ f.offset ∧ Shp P σ' n f.type ((avs.drop (f.offset - o)).take (P.cellsOf f.type))) ∧
      (∀ v ∈ avs, isLeaf v = true)
  | [], o, h, _, ρ, σ, hs => by
    simp only [tilesOk, beq_iff_eq] at h
    subst h
    refine ⟨ρ, σ, [], .refl ρ, List.prefix_refl _, hs, ?_, fun f hf => by simp at hf, fun v hv => by simp at hv⟩
    rw [List.drop_eq_nil_of_le (Nat.le_refl _)]
    exact .nil
  | f :: fs, o, h, hr, ρ, σ, hs => by
    simp only [tilesOk, Bool.and_eq_true, beq_iff_eq] at h
    obtain ⟨ho, ht⟩ := h
    subst ho
    obtain ⟨ρ1, σ1, a1, l1, p1, s1, v1, c1, i1, n1⟩ := hr f List.mem_cons_self ρ σ hs
    obtain ⟨ρ2, σ2, a2, l2, p2, s2, v2, c2, i2⟩ := reads_fields fs _ ht (fun g hg => hr g (List.mem_cons_of_mem _ hg)) ρ1 σ1 s1
    refine ⟨ρ2, σ2, a1 ++ a2, l1.trans l2, List.IsPrefix.trans p1 p2, s2, ?_, ?_, ?_⟩
    · have := (v1.mono l2).append v2
      rwa [← List.drop_drop, List.take_append_drop] at this
    · intro g hg
      rcases List.mem_cons.1 hg with rfl | hg
      · refine ⟨Nat.le_refl _, ?_⟩
        rw [Nat.sub_self, List.drop_zero, ← n1, List.take_left]
        exact c1.mono p2
      · obtain ⟨h1, h2⟩ := c2 g hg
        refine ⟨by omega, ?_⟩
        rw [List.drop_append, List.drop_eq_nil_of_le (as := a1) (by omega), List.nil_append, n1]
        rwa [show g.offset - f.offset - P.cellsOf f.type = g.offset - (f.offset + P.cellsOf f.type) by omega]
    · intro v hv
      rcases List.mem_append.1 hv with hv | hv
      · exact i1 v hv
      · exact i2 v hv

theorem reads_elems {n : Nat} {e : TypeId} : ∀ (L : List (List Value)), (∀ cs ∈ L, Reads P w n e cs) → ∀ ρ σ, Sim w.heap.size w ρ σ w →
    ∃ ρ' σ' avs, ρ.le ρ' ∧ σ <+: σ' ∧ Sim w.heap.size w ρ' σ' w ∧ VRs ρ' avs L.flatten ∧ avs.length = L.length * P.cellsOf e ∧
      (∀ i, i < L.length → Shp P σ' n e ((avs.drop (i * P.cellsOf e)).take (P.cellsOf e))) ∧ (∀ v ∈ avs, isLeaf v = true)
  | [], _, ρ, σ, hs => ⟨ρ, σ, [], .refl ρ, List.prefix_refl _, hs, .nil, by simp, fun i hi => by simp at hi, fun v hv => by simp at hv⟩
  | cs :: L, hr, ρ, σ, hs => by
    obtain ⟨ρ1, σ1, a1, l1, p1, s1, v1, c1, i1, n1⟩ := hr cs List.mem_cons_self ρ σ hs
    obtain ⟨ρ2, σ2, a2, l2, p2, s2, v2, n2, c2, i2⟩ := reads_elems L (fun g hg => hr g (List.mem_cons_of_mem _ hg)) ρ1 σ1 s1
    refine ⟨ρ2, σ2, a1 ++ a2, l1.trans l2, List.IsPrefix.trans p1 p2, s2, ?_, ?_, ?_, ?_⟩
    · rw [List.flatten_cons]; exact (v1.mono l2).append v2
    · rw [List.length_append, n1, n2, List.length_cons, Nat.add_mul]; omega
    · intro i hi
      cases i with
      | zero =>
        rw [Nat.zero_mul, List.drop_zero, ← n1, List.take_left]
        exact c1.mono p2
      | succ i =>
        have := c2 i (by simpa using hi)
        rw [List.drop_append, List.drop_eq_nil_of_le (as := a1) (by rw [n1, Nat.add_mul]; omega), List.nil_append, n1]
        rwa [show (i + 1) * P.cellsOf e - P.cellsOf e = i * P.cellsOf e by rw [Nat.add_mul]; omega]
    · intro v hv
      rcases List.mem_append.1 hv with hv | hv
      · exact i1 v hv
      · exact i2 v hv

theorem flatten_at {α : Type} {z : Nat} : ∀ (L : List (List α)), (∀ l ∈ L, l.length = z) → ∀ i l, L[i]? = some l → ∀ r, r < z → L.flatten[i * z + r]? = l[r]?
  | [], _, i, l, h, r, hr => by simp at h
  | a :: L, hz, 0, l, h, r, hr => by
    simp at h
    subst h
    rw [List.flatten_cons, Nat.zero_mul, Nat.zero_add, List.getElem?_append_left (by rw [hz a List.mem_cons_self]; exact hr)]
  | a :: L, hz, i + 1, l, h, r, hr => by
    rw [List.getElem?_cons_succ] at h
    have e : a.length = z := hz a List.mem_cons_self
    rw [List.flatten_cons, List.getElem?_append_right (by rw [e, Nat.add_mul]; omega), e]
    rw [show (i + 1) * z + r - z = i * z + r by rw [Nat.add_mul]; omega]
    exact flatten_at L (fun l hl => hz l (List.mem_cons_of_mem _ hl)) i l h r hr

theorem flatten_len {α : Type} {z : Nat} : ∀ (L : List (List α)), (∀ l ∈ L, l.length = z) → L.flatten.length = L.length * z
  | [], _ => by simp
  | a :: L, hz => by
    rw [List.flatten_cons, List.length_append, flatten_len L (fun l hl => hz l (List.mem_cons_of_mem _ hl)), hz a List.mem_cons_self, List.length_cons, Nat.add_mul]
    omega

/-- A row that was there when the call began. -/
theorem Sim.row {ρ : Rho} {σ : H} (hs : Sim w.heap.size w ρ σ w) {avs : List AV} {cs : List Value} (hv : VRs ρ avs cs) (hl : ∀ v ∈ avs, isLeaf v = true) {z len cap blk off : Nat} (hz : 0 < z)
    (hlen : avs.length = len * z) (hb : blk < w.heap.size) (hc : len ≤ cap) (hcell : ∀ j, j < avs.length → w.cell? ⟨blk, off + j, none⟩ = cs[j]?) :
    ∃ ρ', ρ.le ρ' ∧ Sim w.heap.size w ρ' (σ ++ [.cells avs z .ro]) w ∧ VR ρ' (.sl (.at σ.length 0 z) len) (.slice (some ⟨blk, off, none⟩) len cap) := by
  have hle := hs.upd_le (.cells z [⟨blk, off, 0, avs.length, off + cap * z⟩])
  refine ⟨_, hle, hs.extend (.cells avs z .ro) (.cells z [⟨blk, off, 0, avs.length, off + cap * z⟩]) (Bel.refl _ _) ?_ (fun b hb => absurd rfl hb.1), ?_⟩
  · refine ⟨rfl, hz, fun c hc => ?_, fun h => absurd rfl h⟩
    rw [List.mem_singleton] at hc
    subst hc
    refine ⟨Nat.zero_le _, Nat.le_refl _, fun j _ hj => ?_, fun _ => hb, fun h => absurd rfl h⟩
    have h1 : avs[j]? = some avs[j] := List.getElem?_eq_getElem hj
    obtain ⟨vc, h2, h3⟩ := hv.get h1
    exact ⟨_, vc, h1, (hcell j hj).trans h2, h3.mono hle, h3.one (hl _ (List.getElem_mem _))⟩
  · have := VR.sl (ρ := ρ.upd σ.length (.cells z [⟨blk, off, 0, avs.length, off + cap * z⟩])) (id := σ.length) (off := 0) (z := z) (len := len) (cap := cap) (c := ⟨blk, off, 0, avs.length, off + cap * z⟩) (cs := _)
      (by simp [Rho.upd]) (List.mem_singleton.2 rfl) (Nat.le_refl _) (by simp [hlen]) hc (by simp)
    simpa using this

theorem reads_ok : ∀ (n : Nat) (t : TypeId), plainT P n t = true → ∀ (fuel : Nat) (cs : List Value) (x : DataW G × List MemPlace), DataW.trod enc P w 0 (fun _ => true) held fuel t cs = some x → Reads P w n t cs := by
  intro n
  induction n with
  | zero => intro t h; cases h
  | succ n ih =>
    intro t hp fuel cs x hx ρ σ hs
    unfold plainT at hp
    split at hp
    · rename_i ht
      obtain ⟨b, rfl, _⟩ := DataW.trod_bool ht hx
      exact ⟨ρ, σ, [.bool b], .refl ρ, List.prefix_refl _, hs, .cons (.bool b) .nil, by unfold Shp; rw [ht]; exact ⟨b, rfl⟩, by simp [isLeaf], by simpa using (beq_iff_eq.1 hp).symm⟩
    · rename_i k ht
      obtain ⟨i, rfl, _, hw⟩ := DataW.trod_int ht hx
      exact ⟨ρ, σ, [.int k i], .refl ρ, List.prefix_refl _, hs, .cons (.int k i) .nil, by unfold Shp; rw [ht]; exact ⟨i, rfl, hw⟩, by simp [isLeaf], by simpa using (beq_iff_eq.1 hp).symm⟩
    · rename_i ht
      obtain ⟨s, rfl, _, hw⟩ := DataW.trod_string ht hx
      exact ⟨ρ, σ, [.str (bytesL s)], .refl ρ, List.prefix_refl _, hs, .cons (.str s) .nil, by unfold Shp; rw [ht]; exact ⟨s, rfl, hw⟩, by simp [isLeaf], by simpa using (beq_iff_eq.1 hp).symm⟩
    · rename_i e ht
      simp only [Bool.and_eq_true, beq_iff_eq, decide_eq_true_eq] at hp
      obtain ⟨⟨hc, hz⟩, hp⟩ := hp
      rcases DataW.trod_slice ht hx with ⟨rfl, _⟩ | ⟨a, len, cap, elems, rest, n', _, rfl, _, _, hl, hm, hlen, hel, hsp, _⟩
      · exact ⟨ρ, σ, [.sl .nil 0], .refl ρ, List.prefix_refl _, hs, .cons .slNil .nil, by unfold Shp; rw [ht]; exact .inl rfl, by simp [isLeaf], by simpa using hc.symm⟩
      · by_cases h0 : cap = 0
        · subst h0
          obtain rfl : len = 0 := by omega
          exact ⟨ρ, σ, [.sl .zero 0], .refl ρ, List.prefix_refl _, hs, .cons (.slZero a) .nil, by unfold Shp; rw [ht]; exact .inr (.inl rfl), by simp [isLeaf], by simpa using hc.symm⟩
        · have first : ∃ ci, w.cells? 0 (a.add 0) (P.cellsOf e) = some ci := by
            by_cases hl0 : len = 0
            · obtain ⟨hrl, hr⟩ := hsp rfl
              have h1 := hr 0 (by omega)
              rw [List.getElem?_eq_getElem (by omega)] at h1
              obtain ⟨ci, h2, h3⟩ := Option.bind_eq_some_iff.1 h1
              have e0 : (len + 0) * P.cellsOf e = 0 := by rw [hl0]; simp
              rw [e0] at h2
              exact ⟨ci, h2⟩
            · have h1 := hel 0 (by omega)
              rw [List.getElem?_eq_getElem (by omega), Nat.zero_mul] at h1
              obtain ⟨ci, h2, h3⟩ := Option.bind_eq_some_iff.1 h1
              exact ⟨ci, h2⟩
          obtain ⟨c0, hc0⟩ := first
          have hb : a.block < w.heap.size := World.cells?_block hc0 hz
          have hspot : a.spot = none := by
            obtain ⟨_, h2, h3⟩ := World.cells?_some hc0
            have h4 := h3 0 hz
            rw [List.getElem?_eq_getElem (by omega)] at h4
            simp only [Addr.add, if_true, World.cell?] at h4
            split at h4
            · cases hq : a.spot with
              | none => rfl
              | some q => rw [hq] at h4; simp at h4
            · cases h4
          obtain ⟨blk, off, spot⟩ := a
          obtain rfl : spot = none := hspot
          have each : ∀ i, i < len → ∃ ci, (∃ x, DataW.trod enc P w 0 (fun _ => true) held n' e ci = some x) ∧ ci.length = P.cellsOf e ∧ ∀ j, j < P.cellsOf e → w.cell? ⟨blk, off + (i * P.cellsOf e + j), none⟩ = ci[j]? := by
            intro i hi
            have h1 := hel i hi
            rw [List.getElem?_eq_getElem (by omega)] at h1
            obtain ⟨ci, h2, h3⟩ := Option.bind_eq_some_iff.1 h1
            obtain ⟨_, h4, h5⟩ := World.cells?_some h2
            refine ⟨ci, ⟨_, h3⟩, h4, fun j hj => ?_⟩
            rw [← h5 j hj, Go.Deep.add_add]
            congr 1
            unfold Addr.add
            split
            · rename_i h; simp_all
            · rfl
          obtain ⟨f, hf⟩ := Go.Deep.choose_lt each
          let L := (List.range len).map f
          have hL : L.length = len := by simp [L]
          have hLi : ∀ i, i < len → L[i]? = some (f i) := fun i hi => by simp [L, hi]
          have hLz : ∀ l ∈ L, l.length = P.cellsOf e := fun l h => by
            obtain ⟨i, hi, rfl⟩ := List.mem_map.1 h
            exact (hf i (List.mem_range.1 hi)).2.1
          obtain ⟨ρ1, σ1, avs, l1, p1, s1, v1, n1, c1, i1⟩ := reads_elems (w := w) (n := n) (P := P) (e := e) L (fun cs hcs => by
            obtain ⟨i, hi, rfl⟩ := List.mem_map.1 hcs
            obtain ⟨⟨x, hx⟩, _⟩ := hf i (List.mem_range.1 hi)
            exact ih e hp n' _ x hx) ρ σ hs
          rw [hL] at n1 c1
          obtain ⟨ρ2, l2, s2, v2⟩ := s1.row v1 i1 (len := len) (cap := cap) (blk := blk) (off := off) hz n1 hb hl (fun j hj => by
            rw [n1] at hj
            have hdm := Nat.div_add_mod j (P.cellsOf e)
            have hr := Nat.mod_lt j hz
            have hi : j / P.cellsOf e < len := Nat.div_lt_of_lt_mul (by rw [Nat.mul_comm]; exact hj)
            have h1 := (hf _ hi).2.2 _ hr
            have h2 := flatten_at L hLz _ _ (hLi _ hi) _ hr
            rw [Nat.mul_comm, hdm] at h1 h2
            rw [h1, h2])
          have hp2 : σ1 <+: σ1 ++ [AO.cells avs (P.cellsOf e) .ro] := List.prefix_append _ _
          refine ⟨ρ2, _, [.sl (.at σ1.length 0 (P.cellsOf e)) len], l1.trans l2, List.IsPrefix.trans p1 hp2, s2, .cons v2 .nil, ?_, by simp [isLeaf], by simpa using hc.symm⟩
          unfold Shp
          rw [ht]
          exact .inr (.inr ⟨σ1.length, len, avs, by omega, rfl, by simp, n1, fun i hi => (c1 i hi).mono hp2⟩)
    · rename_i fs ht
      simp only [Bool.and_eq_true, List.all_eq_true] at hp
      obtain ⟨hp1, hp2⟩ := hp
      obtain ⟨xs, n', _, _, hcl, hxl, hfs⟩ := DataW.trod_struct ht hx
      rw [← hcl] at hp1
      obtain ⟨ρ', σ', avs, h1, h2, h3, h4, h5, h6⟩ := reads_fields (w := w) (n := n) (P := P) fs.toList 0 hp1 (fun f hf => by
        obtain ⟨i, hi⟩ := List.getElem?_of_mem hf
        rw [Array.getElem?_toList] at hi
        have hi' : i < xs.length := by rw [hxl]; exact (Array.getElem?_eq_some_iff.1 hi).1
        have := hfs i f hi
        rw [List.getElem?_eq_getElem hi'] at this
        exact ih f.type (hp2 f hf) n' _ _ this) ρ σ hs
      refine ⟨ρ', σ', avs, h1, h2, h3, by simpa using h4, ?_, h6, ?_⟩
      · unfold Shp
        rw [ht]
        exact fun f hf => by simpa using (h5 f hf).2
      · rw [← hcl, h4.1]; simp
    · cases hp

end

/-- What an argument looks like. -/
def ArgShp (P : Program) (σ : H) (n : Nat) (t : TypeId) (a : AV) : Prop :=
  match P.underlying t with
  | some (.struct _) => ∃ cs, a = .agg cs ∧ cs.length = P.cellsOf t ∧ Shp P σ n t cs
  | _ => Shp P σ n t [a]

def ArgsShp (P : Program) (σ : H) (n : Nat) : List TypeId → List AV → Prop
  | [], [] => True
  | t :: ts, a :: as => ArgShp P σ n t a ∧ ArgsShp P σ n ts as
  | _, _ => False

theorem ArgShp.mono {P : Program} {σ σ' : H} (h : σ <+: σ') {n : Nat} {t : TypeId} {a : AV} (hs : ArgShp P σ n t a) : ArgShp P σ' n t a := by
  unfold ArgShp at hs ⊢
  split at hs
  · obtain ⟨cs, h1, h2, h3⟩ := hs; exact ⟨cs, h1, h2, h3.mono h⟩
  · exact hs.mono h

section
variable {G : Type} {enc : TypeId × Value → G} {P : Program} {w : World} {held : Bool}

theorem arg_ok {n : Nat} {t : TypeId} {r : Reach} {base : Nat} {v : Value} {d : DataW G} {ps : List MemPlace} (hp : plainT P n t = true) (hval : Value.okWide P w r base t v)
    (h : DataW.Trod enc P w 0 (fun _ => true) held t v d ps) (ρ : Rho) (σ : H) (hs : Sim w.heap.size w ρ σ w) :
    ∃ ρ' σ' a, ρ.le ρ' ∧ σ <+: σ' ∧ Sim w.heap.size w ρ' σ' w ∧ VR ρ' a v ∧ ArgShp P σ' n t a := by
  obtain ⟨fuel, hf⟩ := h
  obtain ⟨ρ', σ', avs, h1, h2, h3, h4, h5, h6, h7⟩ := reads_ok n t hp fuel _ _ hf ρ σ hs
  cases n with
  | zero => cases hp
  | succ n =>
    have one : v.cells.toList = [v] → (∀ fs, P.underlying t ≠ some (.struct fs)) → ∃ a, VR ρ' a v ∧ ArgShp P σ' (n + 1) t a := fun hv hns => by
      rw [hv] at h4
      cases avs with
      | nil => exact absurd h4.1 (by simp)
      | cons a as =>
        obtain ⟨vc, vs', e, hva, hr⟩ := h4.inv_cons
        cases e
        cases as with
        | cons b bs => exact absurd hr.1 (by simp)
        | nil =>
          refine ⟨a, hva, ?_⟩
          unfold ArgShp
          split
          · rename_i fs hu; exact absurd hu (hns fs)
          · exact h5
    have key : ∃ a, VR ρ' a v ∧ ArgShp P σ' (n + 1) t a := by
      have hp' := hp
      unfold plainT at hp'
      split at hp'
      · rename_i ht
        obtain ⟨b, rfl⟩ := Go.WideShapes.okWide_bool ht hval
        exact one rfl (fun fs hu => by rw [ht] at hu; cases hu)
      · rename_i k ht
        obtain ⟨b, rfl⟩ := Go.WideShapes.okWide_int ht hval
        exact one rfl (fun fs hu => by rw [ht] at hu; cases hu)
      · rename_i ht
        obtain ⟨b, rfl⟩ := Go.WideShapes.okWide_string ht hval
        exact one rfl (fun fs hu => by rw [ht] at hu; cases hu)
      · rename_i e ht
        obtain ⟨b, len, cap, rfl⟩ := Go.WideShapes.okWide_slice ht hval
        exact one rfl (fun fs hu => by rw [ht] at hu; cases hu)
      · rename_i fs ht
        obtain ⟨cs, rfl, hcs⟩ := Go.WideShapes.okWide_struct ht hval
        refine ⟨.agg avs, ?_, ?_⟩
        · have := VR.mk_agg h4
          simpa [Value.cells] using this
        · unfold ArgShp
          rw [ht]
          exact ⟨avs, rfl, h7, h5⟩
      · cases hp'
    obtain ⟨a, ha, hb⟩ := key
    exact ⟨ρ', σ', a, h1, h2, h3, ha, hb⟩

theorem args_ok {n : Nat} {r : Reach} {base : Nat} : ∀ {ts : List TypeId} {vs : List Value} {ds : List (DataW G)} {ps : List MemPlace}, (ts.all fun t => plainT P n t) = true →
    DataW.TrodAll enc P w 0 (fun _ => true) held ts vs ds ps → (∀ (j : Nat) t v, ts[j]? = some t → vs[j]? = some v → Value.okWide P w r base t v) → ∀ ρ σ, Sim w.heap.size w ρ σ w →
    ∃ ρ' σ' as, ρ.le ρ' ∧ σ <+: σ' ∧ Sim w.heap.size w ρ' σ' w ∧ VRs ρ' as vs ∧ ArgsShp P σ' n ts as
  | [], [], [], _, _, _, _, ρ, σ, hs => ⟨ρ, σ, [], .refl ρ, List.prefix_refl _, hs, .nil, trivial⟩
  | t :: ts, v :: vs, d :: ds, _, hp, ⟨p, q, h1, h2, _⟩, hval, ρ, σ, hs => by
    simp only [List.all_cons, Bool.and_eq_true] at hp
    obtain ⟨ρ1, σ1, a, l1, p1, s1, v1, c1⟩ := arg_ok hp.1 (hval 0 t v rfl rfl) h1 ρ σ hs
    obtain ⟨ρ2, σ2, as, l2, p2, s2, v2, c2⟩ := args_ok hp.2 h2 (fun j t v a b => hval (j + 1) t v (by simpa using a) (by simpa using b)) ρ1 σ1 s1
    exact ⟨ρ2, σ2, a :: as, l1.trans l2, List.IsPrefix.trans p1 p2, s2, .cons (v1.mono l2) v2, c1.mono p2, c2⟩

theorem args_back {W' : World} (hl : laidOutB P = true) (hb : Below w.heap.size w W') : ∀ {ts : List TypeId} {vs : List Value} {ds : List (DataW G)} {ps : List MemPlace},
    (ts.all fun t => P.readableRec t && decide (t < P.types.size)) = true → DataW.TrodAll enc P w 0 (fun _ => true) true ts vs ds ps →
    DataW.TrodAll enc P W' 0 (fun b => decide (b < w.heap.size)) true ts vs ds ps
  | [], [], [], _, _, h => h
  | t :: ts, v :: vs, d :: ds, _, hp, ⟨p, q, h1, h2, e⟩ => by
    simp only [List.all_cons, Bool.and_eq_true, decide_eq_true_eq] at hp
    refine ⟨p, q, Below.trod hl hp.1.1 hp.1.2 h1 hb (fun x hx => ?_), args_back hl hb hp.2 h2, e⟩
    obtain ⟨m, hm⟩ := h1
    exact DataW.trod_lt m _ _ _ hm x hx

/-- A law: its run on the abstract machine answers true. -/
theorem law_ok (hmix : P.follows .mixedOrders = true) (hno : NoCount P) {T : Tab} (hT : TabOK P T) {ρ : Rho} {σ : H} {as : List AV} {args : Array Value} (hs : Sim w.heap.size w ρ σ w) (ha : VRs ρ as args.toList)
    {n f : Nat} (h : acall P T (drawRegion P) n f as σ isTrue = true) :
    Calls P f args w fun e w' => e = .returned (.bool true) ∧ Below w.heap.size w w' := by
  obtain ⟨_, hc⟩ := acall_ok hT hmix hno n w.heap.size w ρ σ w f as args isTrue hs ha h
  refine hc.mono fun e w' hh => ?_
  obtain ⟨v, vc, σ', ρ', rfl, _, hv, hs, hk⟩ := hh
  obtain rfl := isTrue_of hk
  rw [hv.of_bool]
  exact ⟨rfl, hs.below.b⟩

end
end Go.AM
namespace Go.AM.St
open Go Go.AM

theorem bif_pos {c : Bool} (hc : c = true) {x y : Bool} (h : x = true) : (bif c then x else y) = true := by rw [hc]; exact h
theorem bif_neg {c : Bool} (hc : c = false) {x y : Bool} (h : y = true) : (bif c then x else y) = true := by rw [hc]; exact h
theorem bif_case {c : Bool} {x y : Bool} (h1 : c = true → x = true) (h2 : c = false → y = true) : (bif c then x else y) = true := by
  cases c with
  | true => exact h1 rfl
  | false => exact h2 rfl

theorem and_true {a b : Bool} (ha : a = true) (hb : b = true) : (a && b) = true := by rw [ha, hb]; rfl

theorem all_one {i : Nat} {f : H → Bool} {chk : List Nat} {τ : H} (h : f τ = true) : ([(i, f)].all fun (r, again) => !chk.contains r || again τ) = true := by simp [h]
theorem all_cons {i : Nat} {f : H → Bool} {chk : List Nat} {τ : H} {l : Hist} (h : f τ = true) (hl : (l.all fun (r, again) => !chk.contains r || again τ) = true) : (((i, f) :: l).all fun (r, again) => !chk.contains r || again τ) = true := by
  rw [List.all_cons, hl]; simp only [h, Bool.or_true, Bool.and_self]
theorem all_skip {i : Nat} {f : H → Bool} {chk : List Nat} {τ : H} {l : Hist} (h : chk.contains i = false) (hl : (l.all fun (r, again) => !chk.contains r || again τ) = true) : (((i, f) :: l).all fun (r, again) => !chk.contains r || again τ) = true := by
  rw [List.all_cons, hl]; simp only [h, Bool.not_false, Bool.true_or, Bool.and_self]
theorem same_str (s : List Int) : sameV (.str s) (.str s) = true := by simp [sameV, sameLeaf]

theorem same_sl (a : SA) (n : Nat) : sameV (.sl a n) (.sl a n) = true := by simp [sameV, sameLeaf]
theorem same_int (k : IntKind) (n : Int) : sameV (.int k n) (.int k n) = true := by simp [sameV, sameLeaf]

theorem rowK_of {σ : H} {id : Nat} {xs : List AV} {z : Nat} {md : Md} {K : List AV → Nat → Md → Bool} (h : σ[id]? = some (AO.cells xs z md)) (hk : K xs z md = true) : rowK σ id K = true := by
  unfold rowK
  rw [h]
  exact hk

/-- A loop, by a number that falls. -/
theorem loop_rule {m : Nat} {body : (AE → Fr → H → Bool) → Fr → H → Bool} {K : AE → Fr → H → Bool} (Inv : Nat → Fr → H → Prop)
    (step : ∀ r fr σ (C : AE → Fr → H → Bool), Inv r fr σ → (∀ r' fr' σ', r' < r → Inv r' (forget m fr') σ' → C .normal fr' σ' = true) → (∀ e fr' σ', e ≠ .normal → K e fr' σ' = true → C e fr' σ' = true) → body C fr σ = true) :
    ∀ L r fr σ, r < L → Inv r (forget m fr) σ → loopK m body L K fr σ = true
  | 0, r, _, _, h, _ => absurd h (Nat.not_lt_zero _)
  | L + 1, r, fr, σ, h, hi => by
    rw [loopK, forgetK_eq]
    refine step r _ σ _ hi (fun r' fr' σ' hr hi' => loop_rule Inv step L r' fr' σ' (by omega) hi') (fun e fr' σ' he hk => ?_)
    cases e with
    | normal => exact absurd rfl he
    | exit i => exact hk
    | ret => exact hk

/-! Heaps that grow. -/
theorem prefix_set {σ0 σ : H} (h : σ0 <+: σ) {id : Nat} (hid : σ0.length ≤ id) (o : AO) : σ0 <+: σ.set id o := by
  obtain ⟨τ, rfl⟩ := h
  rw [List.set_append_right _ _ hid]
  exact List.prefix_append _ _
theorem prefix_add {σ0 σ : H} (h : σ0 <+: σ) (o : AO) : σ0 <+: σ ++ [o] := List.IsPrefix.trans h (List.prefix_append _ _)
theorem prefix_len {σ0 σ : H} (h : σ0 <+: σ) : σ0.length ≤ σ.length := List.IsPrefix.length_le h
theorem get_new (σ : H) (o : AO) : (σ ++ [o])[σ.length]? = some o := by simp
theorem get_lt {σ : H} {id : Nat} {o : AO} (h : σ[id]? = some o) : id < σ.length := (List.getElem?_eq_some_iff.1 h).1
theorem get_old {σ : H} {id : Nat} {o : AO} (h : σ[id]? = some o) (o' : AO) : (σ ++ [o'])[id]? = some o := prefix_get (List.prefix_append _ _) h
theorem get_set {σ : H} {id : Nat} {o : AO} (h : σ[id]? = some o) (o' : AO) : (σ.set id o')[id]? = some o' := by simp [get_lt h]
theorem get_set_ne {σ : H} {id j : Nat} {o : AO} (h : σ[id]? = some o) (hj : id ≠ j) (o' : AO) : (σ.set j o')[id]? = some o := by rw [List.getElem?_set_ne (Ne.symm hj)]; exact h

/-- A slice reads as cells. -/
def Rw (σ : H) (z : Nat) (a : SA) (n : Nat) (cs : List AV) : Prop :=
  (a = .nil ∧ n = 0 ∧ cs = []) ∨ (a = .zero ∧ n = 0 ∧ cs = []) ∨
  ∃ id off xs md, a = .at id off z ∧ σ[id]? = some (AO.cells xs z md) ∧ off + n * z ≤ xs.length ∧ (xs.drop off).take (n * z) = cs

/-- .. of a row that was made since the heap was σ0, to its end. -/
def Own (σ0 σ : H) (z : Nat) (o : Option Nat) (a : SA) (n : Nat) (cs : List AV) : Prop :=
  match o with
  | none => (a = .nil ∨ a = .zero) ∧ n = 0 ∧ cs = []
  | some id => ∃ off xs md, a = .at id off z ∧ σ0.length ≤ id ∧ σ[id]? = some (AO.cells xs z md) ∧ md ≠ .ro ∧ off + n * z = xs.length ∧ xs.drop off = cs ∧ off = 0

theorem Rw.nil (σ : H) (z : Nat) : Rw σ z .nil 0 [] := .inl ⟨rfl, rfl, rfl⟩
theorem Rw.zero (σ : H) (z : Nat) : Rw σ z .zero 0 [] := .inr (.inl ⟨rfl, rfl, rfl⟩)
theorem Own.nil (σ0 σ : H) (z : Nat) : Own σ0 σ z none .nil 0 [] := ⟨.inl rfl, rfl, rfl⟩
theorem Own.zero (σ0 σ : H) (z : Nat) : Own σ0 σ z none .zero 0 [] := ⟨.inr rfl, rfl, rfl⟩
theorem Rw.len {σ : H} {z n : Nat} {a : SA} {cs : List AV} (h : Rw σ z a n cs) : cs.length = n * z := by
  rcases h with ⟨_, rfl, rfl⟩ | ⟨_, rfl, rfl⟩ | ⟨id, off, xs, md, _, _, h1, rfl⟩
  · simp
  · simp
  · rw [List.length_take, List.length_drop]; omega
theorem Own.rw {σ0 σ : H} {z n : Nat} {o : Option Nat} {a : SA} {cs : List AV} (h : Own σ0 σ z o a n cs) : Rw σ z a n cs := by
  unfold Own at h
  split at h
  · obtain ⟨h1 | h1, h2, h3⟩ := h
    · exact .inl ⟨h1, h2, h3⟩
    · exact .inr (.inl ⟨h1, h2, h3⟩)
  · obtain ⟨off, xs, md, h1, h2, h3, h4, h5, h6, _⟩ := h
    refine .inr (.inr ⟨_, off, xs, md, h1, h3, Nat.le_of_eq h5, ?_⟩)
    rw [List.take_of_length_le (by rw [List.length_drop]; omega)]
    exact h6
theorem Own.len {σ0 σ : H} {z n : Nat} {o : Option Nat} {a : SA} {cs : List AV} (h : Own σ0 σ z o a n cs) : cs.length = n * z := h.rw.len
theorem Rw.keep {σ σ' : H} {z n : Nat} {a : SA} {cs : List AV} (h : Rw σ z a n cs) (hk : ∀ (id : Nat) (xs : List AV) (z : Nat) (md : Md), σ[id]? = some (AO.cells xs z md) → ∃ ys md', σ'[id]? = some (AO.cells (xs ++ ys) z md')) : Rw σ' z a n cs := by
  rcases h with h | h | ⟨id, off, xs, md, h1, h2, h3, h4⟩
  · exact .inl h
  · exact .inr (.inl h)
  · obtain ⟨ys, md', h5⟩ := hk id xs z md h2
    refine .inr (.inr ⟨id, off, xs ++ ys, md', h1, h5, by rw [List.length_append]; omega, ?_⟩)
    rw [List.drop_append_of_le_length (by omega), List.take_append_of_le_length (by rw [List.length_drop]; omega)]
    exact h4
theorem Rw.mono {σ σ' : H} {z n : Nat} {a : SA} {cs : List AV} (h : Rw σ z a n cs) (hp : σ <+: σ') : Rw σ' z a n cs :=
  h.keep fun id xs z md hx => ⟨[], md, by rw [List.append_nil]; exact prefix_get hp hx⟩
theorem Own.mono {σ0 σ σ' : H} {z n : Nat} {o : Option Nat} {a : SA} {cs : List AV} (h : Own σ0 σ z o a n cs) (hp : σ <+: σ') : Own σ0 σ' z o a n cs := by
  unfold Own at h ⊢
  split at h
  · exact h
  · obtain ⟨off, xs, md, h1, h2, h3, r⟩ := h
    exact ⟨off, xs, md, h1, h2, prefix_get hp h3, r⟩
/-- What was made later was made since earlier. -/
theorem Own.since {σ0 σ1 σ : H} {z n : Nat} {o : Option Nat} {a : SA} {cs : List AV} (h : Own σ1 σ z o a n cs) (hp : σ0 <+: σ1) : Own σ0 σ z o a n cs := by
  unfold Own at h ⊢
  split at h
  · exact h
  · obtain ⟨off, xs, md, h1, h2, r⟩ := h
    exact ⟨off, xs, md, h1, Nat.le_trans (prefix_len hp) h2, r⟩
theorem Own.new {σ0 σ : H} (h : σ0 <+: σ) {z n : Nat} (xs : List AV) (md : Md) (hm : md ≠ .ro) (hl : n * z = xs.length) : Own σ0 (σ ++ [AO.cells xs z md]) z (some σ.length) (.at σ.length 0 z) n xs :=
  ⟨0, xs, md, rfl, prefix_len h, get_new _ _, hm, by omega, rfl, rfl⟩
theorem Rw.new {σ : H} {z n : Nat} (xs : List AV) (md : Md) (hl : n * z = xs.length) : Rw (σ ++ [AO.cells xs z md]) z (.at σ.length 0 z) n xs :=
  .inr (.inr ⟨_, 0, xs, md, rfl, get_new _ _, by omega, by rw [List.drop_zero, hl, List.take_length]⟩)

/-- What may be told of the heap behind a change of one row. -/
def Keep (o : Option Nat) (σ σ' : H) : Prop := ∀ id x, some id ≠ o → σ[id]? = some x → σ'[id]? = some x
theorem Own.keep {σ0 σ σ' : H} {z n : Nat} {o o' : Option Nat} {a : SA} {cs : List AV} (h : Own σ0 σ z o a n cs) (hk : Keep o' σ σ') (hne : o = none ∨ o ≠ o') : Own σ0 σ' z o a n cs := by
  unfold Own at h ⊢
  split at h
  · exact h
  · obtain ⟨off, xs, md, h1, h2, h3, r⟩ := h
    exact ⟨off, xs, md, h1, h2, hk _ _ (by rcases hne with h | h; · cases h
                                           · exact h) h3, r⟩

section
variable {P : Program} {t e : TypeId} {z : Nat} {σ : H}

/-- A bound is a number, or what is meant where none stands. -/
def Bd (v : Option AV) (d x : Nat) : Prop := (v = none ∧ x = d) ∨ ∃ k y, v = some (.int k y) ∧ y = (x : Int)
theorem boundK_of {v : Option AV} {d x lo hi : Nat} {K : Nat → Bool} (h : Bd v d x) (h1 : lo ≤ x) (h2 : x ≤ hi) (hk : K x = true) : boundK v d lo hi K = true := by
  rcases h with ⟨rfl, rfl⟩ | ⟨k, y, rfl, rfl⟩
  · exact hk
  · unfold boundK
    refine bif_pos ?_ (by simpa using hk)
    simp only [Bool.and_eq_true, decide_eq_true_eq]
    omega

theorem sliceK_rw (ht : P.underlying t = some (.slice e)) (he : ∀ K, esizeK P e K = K z) {a : SA} {n : Nat} {cs : List AV} (hv : Rw σ z a n cs) {lo hi : Option AV} {l h : Nat} {K : AV → Bool}
    (hlo : Bd lo 0 l) (hhi : Bd hi n h) (h1 : l ≤ h) (h2 : h ≤ n) {N : Nat} {zs : List AV} (hN : h - l = N) (hZ : (cs.take (h * z)).drop (l * z) = zs)
    (hK : ∀ a', Rw σ z a' N zs → K (.sl a' N) = true) : sliceK P t (.sl a n) lo hi none K = true := by
  subst hN hZ
  unfold sliceK
  rw [ht]
  simp only
  rcases hv with ⟨rfl, rfl, rfl⟩ | ⟨rfl, rfl, rfl⟩ | ⟨id, off, xs, md, rfl, h3, h4, h5⟩
  · obtain rfl : h = 0 := by omega
    obtain rfl : l = 0 := by omega
    refine bif_pos rfl (boundK_of (.inl ⟨rfl, rfl⟩) (Nat.le_refl _) (Nat.le_refl _) (boundK_of hhi (Nat.le_refl _) (Nat.le_refl _) (boundK_of hlo (Nat.le_refl _) (Nat.le_refl _) ?_)))
    rw [he]
    exact hK _ (by simp only [Nat.zero_mul, List.take_nil, List.drop_nil]; exact Rw.nil σ z)
  · obtain rfl : h = 0 := by omega
    obtain rfl : l = 0 := by omega
    refine bif_pos rfl (boundK_of (.inl ⟨rfl, rfl⟩) (Nat.le_refl _) (Nat.le_refl _) (boundK_of hhi (Nat.le_refl _) (Nat.le_refl _) (boundK_of hlo (Nat.le_refl _) (Nat.le_refl _) ?_)))
    rw [he]
    exact hK _ (by simp only [Nat.zero_mul, List.take_nil, List.drop_nil]; exact Rw.zero σ z)
  · simp only
    rw [he]
    refine bif_pos (by simp) (boundK_of (.inl ⟨rfl, rfl⟩) (Nat.zero_le _) (Nat.le_refl _) (boundK_of hhi (Nat.zero_le _) h2 (boundK_of hlo (Nat.zero_le _) h1 ?_)))
    have hmul : l * z ≤ h * z := Nat.mul_le_mul_right z h1
    have hmul2 : h * z ≤ n * z := Nat.mul_le_mul_right z h2
    have hsub : (h - l) * z = h * z - l * z := Nat.sub_mul _ _ _
    refine hK _ (.inr (.inr ⟨id, off + l * z, xs, md, rfl, h3, by omega, ?_⟩))
    rw [← h5, List.take_take, Nat.min_eq_left hmul2, hsub, ← List.drop_drop, List.drop_take]

theorem sliceK_str (ht : P.underlying t = some .string) {bs : List Nat} {lo hi : Option AV} (l h : Nat) {K : AV → Bool} (hlo : Bd lo 0 l) (hhi : Bd hi bs.length h) (h1 : l ≤ h) (h2 : h ≤ bs.length) (ds : List Nat) (hd : (bs.take h).drop l = ds)
    (hK : K (.str (ds.map fun (b : Nat) => (b : Int))) = true) : sliceK P t (.str (bs.map fun (b : Nat) => (b : Int))) lo hi none K = true := by
  subst hd
  unfold sliceK
  rw [ht]
  simp only [List.length_map]
  refine boundK_of hhi (Nat.zero_le _) h2 (boundK_of hlo (Nat.zero_le _) h1 ?_)
  rw [← List.map_take, ← List.map_drop]
  exact hK

/-- A pointer to an element. -/
def Elem (σ : H) (z : Nat) (p : PA) (es : List AV) : Prop :=
  p.d = 0 ∧ p.z = z ∧ ∃ xs md, σ[p.id]? = some (AO.cells xs z md) ∧ p.base + z ≤ xs.length ∧ (xs.drop p.base).take z = es

theorem indexAddrK_rw (ht : P.underlying t = some (.slice e)) (he : ∀ K, esizeK P e K = K z) {a : SA} {n i : Nat} {cs : List AV} (hv : Rw σ z a n cs) {k : IntKind} {y : Int} {K : AV → Bool}
    (hy : y = (i : Int)) (hi : i < n) {es : List AV} (hE : (cs.drop (i * z)).take z = es) (hK : ∀ p, Elem σ z p es → K (.ptr (some p)) = true) : indexAddrK P t (.sl a n) (.int k y) K = true := by
  subst hy hE
  unfold indexAddrK
  rw [ht]
  rcases hv with ⟨rfl, rfl, rfl⟩ | ⟨rfl, rfl, rfl⟩ | ⟨id, off, xs, md, rfl, h3, h4, h5⟩
  · omega
  · omega
  · simp only
    rw [he]
    have hmul : (i + 1) * z ≤ n * z := Nat.mul_le_mul_right z hi
    rw [Nat.add_mul, Nat.one_mul] at hmul
    refine bif_pos ?_ (hK _ ⟨rfl, rfl, xs, md, h3, ?_, ?_⟩)
    · simp only [beq_self_eq_true, Bool.true_and, Bool.and_eq_true, decide_eq_true_eq]; omega
    · simp only [Int.toNat_natCast]; omega
    · simp only [Int.toNat_natCast]
      rw [← h5, List.drop_take, List.take_take, Nat.min_eq_left (by omega), List.drop_drop]

theorem ldK_leaf {d : TypeDesc} {i : TypeInfo} (ht : P.underlying t = some d) (hi : P.info? t = some i) (hs : ∀ fs, d ≠ .struct fs) (ha : ∀ n e, d ≠ .array n e) {p : PA} {x : AV} {K : AV → Bool} (hp : Elem σ 1 p [x])
    (h : castT P t x K = true) : ldK P t σ p K = true := by
  obtain ⟨h1, h2, xs, md, h3, h4, h5⟩ := hp
  refine rowK_of h3 ?_
  have hx : xs[p.base + p.d]? = some x := by
    have := congrArg (fun l => l[0]?) h5
    simp only [List.getElem?_take, List.getElem?_drop] at this
    simpa [h1] using this
  rw [ht, hi]
  split
  · rename_i e _; cases e; exact absurd rfl (hs _)
  · rename_i e _; cases e; exact absurd rfl (ha _ _)
  · rw [hx]; exact h
  · rename_i hq; exact absurd rfl (hq _ _ rfl)

theorem ldK_int {k : IntKind} {i : TypeInfo} (ht : P.underlying t = some (.int k)) (hi : P.info? t = some i) {p : PA} {n : Int} {K : AV → Bool} (hp : Elem σ 1 p [.int k n]) (h : K (.int k n) = true) : ldK P t σ p K = true := by
  refine ldK_leaf ht hi nofun nofun hp ?_
  unfold castT
  rw [ht]
  exact bif_pos (by simp) h
theorem ldK_text {i : TypeInfo} (ht : P.underlying t = some .string) (hi : P.info? t = some i) {p : PA} {s : List Int} {K : AV → Bool} (hp : Elem σ 1 p [.str s]) (h : K (.str s) = true) : ldK P t σ p K = true := by
  refine ldK_leaf ht hi nofun nofun hp ?_
  unfold castT
  rw [ht]
  exact h

theorem ldK_struct {fs : Array Field} {i : TypeInfo} (ht : P.underlying t = some (.struct fs)) (hi : P.info? t = some i) (hz : i.size = z) {p : PA} {es : List AV} {K : AV → Bool} (hp : Elem σ z p es)
    (h : castT P t (.agg es) K = true) : ldK P t σ p K = true := by
  obtain ⟨h1, h2, xs, md, h3, h4, h5⟩ := hp
  refine rowK_of h3 ?_
  rw [ht, hi]
  simp only
  rw [h1, h2, hz, Nat.add_zero, h5]
  refine bif_pos ?_ h
  simp only [Bool.and_eq_true, decide_eq_true_eq]
  omega

/-! Bytes. -/
def u8s (bs : List Nat) : List AV := bs.map fun (b : Nat) => AV.int .u8 (b : Int)
theorem u8s_len (bs : List Nat) : (u8s bs).length = bs.length := by simp [u8s]
theorem u8s_take (bs : List Nat) (n : Nat) : (u8s bs).take (n * 1) = u8s (bs.take n) := by simp [u8s, List.map_take]
theorem u8s_drop (bs : List Nat) (n : Nat) : (u8s bs).drop (n * 1) = u8s (bs.drop n) := by simp [u8s, List.map_drop]
theorem u8s_app (a b : List Nat) : u8s a ++ u8s b = u8s (a ++ b) := by simp [u8s]
theorem u8s_at {bs : List Nat} {i : Nat} (h : i < bs.length) : ((u8s bs).drop (i * 1)).take 1 = [.int .u8 ((bs[i] : Nat) : Int)] := by
  rw [u8s_drop, List.drop_eq_getElem_cons h]; rfl
def ints (bs : List Nat) : List Int := bs.map fun (b : Nat) => (b : Int)

theorem bytesOf_u8s {K : List Int → Bool} : ∀ (bs : List Nat), (∀ b ∈ bs, b < 256) → K (ints bs) = true → bytesOf (u8s bs) K = true := by
  intro bs
  induction bs generalizing K with
  | nil => intro _ h; exact h
  | cons b bs ih =>
    intro hb h
    show bytesOf (u8s bs) _ = true
    refine ih (fun x hx => hb x (List.mem_cons_of_mem _ hx)) ?_
    have := hb b List.mem_cons_self
    rw [show (((b : Int).toNat % 256 : Nat) : Int) = (b : Int) by rw [Int.toNat_natCast, Nat.mod_eq_of_lt this]]
    exact h

theorem seenK_rw {a : SA} {n : Nat} {cs : List AV} {K : List AV → Bool} (hv : Rw σ z a n cs) (h : K cs = true) : seenK σ z a n K = true := by
  rcases hv with ⟨rfl, rfl, rfl⟩ | ⟨rfl, rfl, rfl⟩ | ⟨id, off, xs, md, rfl, h3, h4, rfl⟩
  · exact h
  · exact h
  · refine rowK_of h3 (bif_pos ?_ h)
    simp only [beq_self_eq_true, Bool.true_and, decide_eq_true_eq]
    exact h4

/-- A string made of bytes. -/
theorem strK_rw {a : SA} {n : Nat} {bs : List Nat} {K : List Int → Bool} (hv : Rw σ 1 a n (u8s bs)) (hb : ∀ b ∈ bs, b < 256) (h : K (ints bs) = true) : (seenK σ 1 a n fun vs => bytesOf vs K) = true :=
  seenK_rw hv (bytesOf_u8s bs hb h)

/-! Append. -/
theorem into_rw {σ0 : H} (h0 : σ0 <+: σ) {o : Option Nat} {a : SA} {n m : Nat} {cs ys : List AV} {K : AV → H → Bool} (hs : Own σ0 σ z o a n cs) (hl : m * z = ys.length)
    (hK : ∀ o' a' σ', σ0 <+: σ' → Keep o σ σ' → (∀ id, o = some id → o' = o) → (o = none → o' = some σ.length) → σ'[σ.length]? = (if o = none then some (AO.cells ys z .own) else σ[σ.length]?) → Own σ0 σ' z o' a' (n + m) (cs ++ ys) → K (.sl a' (n + m)) σ' = true) :
    appendK.into σ K a n m ys z = true := by
  unfold Own at hs
  cases o with
  | none =>
    obtain ⟨h1, rfl, rfl⟩ := hs
    have key : K (.sl (.at σ.length 0 z) m) (σ ++ [AO.cells ys z .own]) = true := by
      have := hK (some σ.length) (.at σ.length 0 z) (σ ++ [AO.cells ys z .own]) (prefix_add h0 _) (fun id x _ hx => get_old hx _) (fun id h => by cases h) (fun _ => rfl) (by simp) (by
        rw [Nat.zero_add, List.nil_append]; exact Own.new h0 ys .own (by decide) hl)
      rwa [Nat.zero_add] at this
    rcases h1 with rfl | rfl
    · exact key
    · exact key
  | some id =>
    obtain ⟨off, xs, md, rfl, h2, h3, h4, h5, h6, h7⟩ := hs
    refine rowK_of h3 (bif_pos ?_ ?_)
    · simp only [beq_self_eq_true, Bool.true_and, Bool.and_eq_true, Bool.not_eq_true', beq_eq_false_iff_ne, beq_iff_eq]
      exact ⟨h4, h5⟩
    · have hlt := get_lt h3
      refine hK (some id) _ _ (prefix_set h0 h2 _) (fun j x hj hx => get_set_ne hx (fun e => hj (by rw [e])) _) (fun _ _ => rfl) (fun h => by cases h) ?_ ⟨off, xs ++ ys, .multi, rfl, h2, get_set h3 _, by decide, ?_, ?_, h7⟩
      · rw [List.getElem?_set_ne (by omega)]; simp
      · rw [List.length_append, Nat.add_mul]; omega
      · rw [List.drop_append_of_le_length (by omega), h6]

theorem appendK_rw {σ0 : H} {ie : TypeInfo} (ht : P.underlying t = some (.slice e)) (hi : P.info? e = some ie) (hz : ie.size = z) (hg : (ie.size == 0 || ie.bytes == 0 || !zeroFits ie) = false)
    (h0 : σ0 <+: σ) {o : Option Nat} {a b : SA} {n m : Nat} {cs ys : List AV} {K : AV → H → Bool} (hs : Own σ0 σ z o a n cs) (hx : Rw σ z b m ys) {N : Nat} {zs : List AV} (hN : n + m = N) (hZ : cs ++ ys = zs) (hb : N * ie.bytes ≤ 140737488355328)
    (hK : ∀ o' a' σ', σ0 <+: σ' → Keep o σ σ' → (∀ id, o = some id → o' = o) → (o = none → o' = none ∨ o' = some σ.length) → Own σ0 σ' z o' a' N zs → K (.sl a' N) σ' = true) (hst : isStructT P e = false := by rfl) :
    appendK P t (.sl a n) (.sl b m) σ K = true := by
  subst hz hN hZ
  unfold appendK
  rw [ht]
  simp only
  rw [hi]
  refine bif_neg hg ?_
  by_cases hm : m = 0
  · subst hm
    refine bif_pos rfl ?_
    have e : ys = [] := by
      have := hx.len
      rw [Nat.zero_mul] at this
      exact List.length_eq_zero_iff.1 this
    subst e
    exact hK o a σ h0 (fun _ _ _ h => h) (fun _ _ => rfl) (fun h => .inl h) (by rw [List.append_nil]; exact hs)
  · refine bif_neg (by simpa using hm) (bif_pos (decide_eq_true hb) (seenK_rw hx ?_))
    refine bif_neg hst ?_
    exact into_rw h0 hs hx.len.symm fun o' a' σ' h1 h2 h3 h4 _ h5 => hK o' a' σ' h1 h2 h3 (fun h => .inr (h4 h)) h5

/-- A text appended to bytes. -/
theorem appendK_str {σ0 : H} {ie : TypeInfo} (ht : P.underlying t = some (.slice e)) (hi : P.info? e = some ie) (hz : ie.size = 1) (hg : (ie.size == 0 || ie.bytes == 0 || !zeroFits ie) = false)
    (h0 : σ0 <+: σ) {o : Option Nat} {a : SA} {n : Nat} {cs : List AV} {bs : List Nat} {K : AV → H → Bool} (hs : Own σ0 σ 1 o a n cs) {N : Nat} {zs : List AV} (hN : n + bs.length = N) (hZ : cs ++ u8s bs = zs) (hb : N * ie.bytes ≤ 140737488355328)
    (hK : ∀ o' a' σ', σ0 <+: σ' → Keep o σ σ' → (∀ id, o = some id → o' = o) → (o = none → o' = none ∨ o' = some σ.length) → Own σ0 σ' 1 o' a' N zs → K (.sl a' N) σ' = true) :
    appendK P t (.sl a n) (.str (ints bs)) σ K = true := by
  subst hN hZ
  unfold appendK
  rw [ht]
  simp only
  rw [hi]
  refine bif_neg hg ?_
  cases bs with
  | nil =>
    show K (.sl a n) σ = true
    exact hK o a σ h0 (fun _ _ _ h => h) (fun _ _ => rfl) (fun h => .inl h) (by rw [show u8s [] = [] from rfl, List.append_nil]; exact hs)
  | cons b bs =>
    have hl : (ints (b :: bs)).length = (b :: bs).length := by simp [ints]
    have hy : (ints (b :: bs)).map (AV.int .u8 ·) = u8s (b :: bs) := by simp [ints, u8s]
    refine bif_neg (c := (ints (b :: bs)).isEmpty) rfl (bif_pos ?_ ?_)
    · rw [hl, hz]; simp only [Bool.and_eq_true, decide_eq_true_eq]; exact ⟨hb, rfl⟩
    · rw [hl, hy]
      exact into_rw h0 hs (by simp [u8s]) fun o' a' σ' h1 h2 h3 h4 _ h5 => hK o' a' σ' h1 h2 h3 (fun h => .inr (h4 h)) h5

/-- A row of one byte, just made. -/
theorem own1 {σ0 σ : H} (h : σ0 <+: σ) {y : Int} {b : Nat} (hy : y = (b : Int)) : Own σ0 (σ ++ [AO.cells [AV.int .u8 y] 1 .own]) 1 (some σ.length) (.at σ.length 0 1) [b].length (u8s [b]) := by
  subst hy
  exact Own.new h _ _ (by decide) rfl

/-- A type of bytes in a row. -/
structure BT (P : Program) (t e : TypeId) : Prop where
  ht : P.underlying t = some (.slice e)
  he : P.underlying e = some (.int .u8)
  hz : ∀ K, esizeK P e K = K 1
  hi : ∃ ie, P.info? e = some ie ∧ ie.size = 1 ∧ ie.bytes = 1 ∧ zeroFits ie = true
  h0 : ∀ K, zeroK P e K = K (.int .u8 0)

theorem BT.slice (B : BT P t e) {a : SA} {bs : List Nat} (ha : Rw σ 1 a bs.length (u8s bs)) {lo hi : Option AV} (l h : Nat) {K : AV → Bool}
    (hlo : Bd lo 0 l) (hhi : Bd hi bs.length h) (h1 : l ≤ h) (h2 : h ≤ bs.length) (ds : List Nat) (hd : (bs.take h).drop l = ds)
    (hK : ∀ a', Rw σ 1 a' ds.length (u8s ds) → K (.sl a' ds.length) = true) : sliceK P t (.sl a bs.length) lo hi none K = true := by
  subst hd
  refine sliceK_rw B.ht B.hz ha hlo hhi h1 h2 ?_ ?_ hK
  · rw [List.length_drop, List.length_take]; omega
  · rw [u8s_take, u8s_drop]

theorem BT.idx (B : BT P t e) {a : SA} {bs : List Nat} (ha : Rw σ 1 a bs.length (u8s bs)) {k : IntKind} {y : Int} {i : Nat} {K : AV → Bool} (hy : y = (i : Int)) (hi : i < bs.length)
    (hK : ∀ p, Elem σ 1 p [.int .u8 ((bs[i] : Nat) : Int)] → K (.ptr (some p)) = true) : indexAddrK P t (.sl a bs.length) (.int k y) K = true :=
  indexAddrK_rw B.ht B.hz ha hy hi (u8s_at hi) hK

theorem BT.ld (B : BT P t e) {p : PA} {n : Int} {K : AV → Bool} (hp : Elem σ 1 p [.int .u8 n]) (h : K (.int .u8 n) = true) : ldK P e σ p K = true := by
  obtain ⟨ie, hi, _⟩ := B.hi
  exact ldK_int B.he hi hp h

theorem BT.app (B : BT P t e) {σ0 : H} (h0 : σ0 <+: σ) {o : Option Nat} {a b : SA} {xs ys : List Nat} {K : AV → H → Bool} (hs : Own σ0 σ 1 o a xs.length (u8s xs)) (hx : Rw σ 1 b ys.length (u8s ys)) (zs : List Nat) (hz : xs ++ ys = zs)
    (hb : zs.length ≤ 140737488355328)
    (hK : ∀ o' a' σ', σ0 <+: σ' → Keep o σ σ' → (∀ id, o = some id → o' = o) → (o = none → o' = none ∨ o' = some σ.length) → Own σ0 σ' 1 o' a' zs.length (u8s zs) → K (.sl a' zs.length) σ' = true) :
    appendK P t (.sl a xs.length) (.sl b ys.length) σ K = true := by
  subst hz
  obtain ⟨ie, hi, h1, h2, h3⟩ := B.hi
  exact appendK_rw B.ht hi h1 (by rw [h1, h2, h3]; rfl) h0 hs hx (List.length_append).symm (u8s_app xs ys) (by rw [h2, Nat.mul_one]; exact hb) hK (by unfold isStructT; rw [B.he])

theorem BT.appS (B : BT P t e) {σ0 : H} (h0 : σ0 <+: σ) {o : Option Nat} {a : SA} {xs ys : List Nat} {K : AV → H → Bool} (hs : Own σ0 σ 1 o a xs.length (u8s xs)) (zs : List Nat) (hz : xs ++ ys = zs)
    (hb : zs.length ≤ 140737488355328)
    (hK : ∀ o' a' σ', σ0 <+: σ' → Keep o σ σ' → (∀ id, o = some id → o' = o) → (o = none → o' = none ∨ o' = some σ.length) → Own σ0 σ' 1 o' a' zs.length (u8s zs) → K (.sl a' zs.length) σ' = true) :
    appendK P t (.sl a xs.length) (.str (ints ys)) σ K = true := by
  subst hz
  obtain ⟨ie, hi, h1, h2, h3⟩ := B.hi
  exact appendK_str B.ht hi h1 (by rw [h1, h2, h3]; rfl) h0 hs (List.length_append).symm (u8s_app xs ys) (by rw [h2, Nat.mul_one]; exact hb) hK

/-- A store into a row that is ours alone. -/
theorem storeK_of {i : TypeInfo} (hi : P.info? t = some i) (hz : i.size = 1) {id b d zz y : Nat} {v : AV} {xs : List AV} {K : H → Bool} (hd : d + 1 ≤ zz) (hr : σ[id]? = some (AO.cells xs y .own)) (hl : isLeaf v = true)
    (hb : b + d < xs.length) (hK : K (σ.set id (.cells (xs.set (b + d) v) y .own)) = true) : storeK P t (.ptr (some ⟨id, b, d, zz⟩)) v σ K = true := by
  unfold storeK
  rw [hi]
  simp only
  refine rowK_of hr ?_
  have hc : v.cells = [v] := by cases v <;> simp [isLeaf] at hl <;> rfl
  rw [hc, hz]
  refine bif_pos ?_ ?_
  · simp only [beq_self_eq_true, Bool.true_and, List.length_singleton, leafy, hl, Bool.and_true, Bool.and_eq_true, decide_eq_true_eq]
    omega
  · rw [show xs.take (b + d) ++ [v] ++ xs.drop (b + d + 1) = xs.set (b + d) v by rw [List.set_eq_take_append_cons_drop, if_pos hb]; simp]
    exact hK

/-- A type of whole numbers in a row. -/
structure IT (P : Program) (t e : TypeId) (k : IntKind) : Prop where
  ht : P.underlying t = some (.slice e)
  he : P.underlying e = some (.int k)
  hz : ∀ K, esizeK P e K = K 1
  hi : ∃ ie, P.info? e = some ie ∧ ie.size = 1 ∧ (ie.size == 0 || ie.bytes == 0 || !zeroFits ie) = false ∧ ie.bytes ≤ 8

def iks (k : IntKind) (ys : List Int) : List AV := ys.map (AV.int k ·)
theorem iks_len (k : IntKind) (bs : List Int) : (iks k bs).length = bs.length := by simp [iks]
theorem iks_take (k : IntKind) (bs : List Int) (n : Nat) : (iks k bs).take (n * 1) = iks k (bs.take n) := by simp [iks, List.map_take]
theorem iks_drop (k : IntKind) (bs : List Int) (n : Nat) : (iks k bs).drop (n * 1) = iks k (bs.drop n) := by simp [iks, List.map_drop]
theorem iks_app (k : IntKind) (a b : List Int) : iks k a ++ iks k b = iks k (a ++ b) := by simp [iks]
theorem iks_at {k : IntKind} {bs : List Int} {i : Nat} (h : i < bs.length) : ((iks k bs).drop (i * 1)).take 1 = [.int k bs[i]] := by
  rw [iks_drop, List.drop_eq_getElem_cons h]; rfl

theorem IT.slice {k : IntKind} (B : IT P t e k) {a : SA} {bs : List Int} (ha : Rw σ 1 a bs.length (iks k bs)) {lo hi : Option AV} (l h : Nat) {K : AV → Bool}
    (hlo : Bd lo 0 l) (hhi : Bd hi bs.length h) (h1 : l ≤ h) (h2 : h ≤ bs.length) (ds : List Int) (hd : (bs.take h).drop l = ds)
    (hK : ∀ a', Rw σ 1 a' ds.length (iks k ds) → K (.sl a' ds.length) = true) : sliceK P t (.sl a bs.length) lo hi none K = true := by
  subst hd
  refine sliceK_rw B.ht B.hz ha hlo hhi h1 h2 ?_ ?_ hK
  · rw [List.length_drop, List.length_take]; omega
  · rw [iks_take, iks_drop]
theorem IT.idx {k : IntKind} (B : IT P t e k) {a : SA} {bs : List Int} (ha : Rw σ 1 a bs.length (iks k bs)) {k' : IntKind} {y : Int} {i : Nat} {K : AV → Bool} (hy : y = (i : Int)) (hi : i < bs.length)
    (hK : ∀ p, Elem σ 1 p [.int k bs[i]] → K (.ptr (some p)) = true) : indexAddrK P t (.sl a bs.length) (.int k' y) K = true :=
  indexAddrK_rw B.ht B.hz ha hy hi (iks_at hi) hK
theorem IT.ld {k : IntKind} (B : IT P t e k) {p : PA} {n : Int} {K : AV → Bool} (hp : Elem σ 1 p [.int k n]) (h : K (.int k n) = true) : ldK P e σ p K = true := by
  obtain ⟨ie, hi, _⟩ := B.hi
  exact ldK_int B.he hi hp h
theorem IT.app {k : IntKind} (B : IT P t e k) {σ0 : H} (h0 : σ0 <+: σ) {o : Option Nat} {a b : SA} {xs ys : List Int} {K : AV → H → Bool} (hs : Own σ0 σ 1 o a xs.length (iks k xs)) (hx : Rw σ 1 b ys.length (iks k ys)) (zs : List Int) (hz : xs ++ ys = zs)
    (hb : zs.length ≤ 1000000000)
    (hK : ∀ o' a' σ', σ0 <+: σ' → Keep o σ σ' → (∀ id, o = some id → o' = o) → (o = none → o' = none ∨ o' = some σ.length) → Own σ0 σ' 1 o' a' zs.length (iks k zs) → K (.sl a' zs.length) σ' = true) :
    appendK P t (.sl a xs.length) (.sl b ys.length) σ K = true := by
  subst hz
  obtain ⟨ie, hi, h1, h2, h3⟩ := B.hi
  have hm : (xs ++ ys).length * ie.bytes ≤ 1000000000 * 8 := Nat.mul_le_mul hb h3
  exact appendK_rw B.ht hi h1 h2 h0 hs hx (List.length_append).symm (iks_app k xs ys) (by omega) hK (by unfold isStructT; rw [B.he])

theorem BT.idxAt (B : BT P t e) {id off n : Nat} {k : IntKind} {y : Int} {i : Nat} {K : AV → Bool} (hy : y = (i : Int)) (hi : i < n) (hK : K (.ptr (some ⟨id, off + i, 0, 1⟩)) = true) :
    indexAddrK P t (.sl (.at id off 1) n) (.int k y) K = true := by
  subst hy
  unfold indexAddrK
  rw [B.ht]
  simp only
  rw [B.hz]
  refine bif_pos ?_ ?_
  · simp only [beq_self_eq_true, Bool.true_and, Bool.and_eq_true, decide_eq_true_eq]; omega
  · simpa using hK

theorem BT.idx0 (B : BT P t e) {id n : Nat} {k : IntKind} {y : Int} {i : Nat} {K : AV → Bool} (hy : y = (i : Int)) (hi : i < n) (hK : K (.ptr (some ⟨id, i, 0, 1⟩)) = true) :
    indexAddrK P t (.sl (.at id 0 1) n) (.int k y) K = true := B.idxAt hy hi (by rw [Nat.zero_add]; exact hK)
theorem BT.ldAt (B : BT P t e) {id b : Nat} {xs : List Nat} {md : Md} {K : AV → Bool} (hr : σ[id]? = some (AO.cells (u8s xs) 1 md)) (hb : b < xs.length) (hK : K (.int .u8 ((xs[b] : Nat) : Int)) = true) :
    ldK P e σ ⟨id, b, 0, 1⟩ K = true := by
  refine B.ld ⟨rfl, rfl, _, _, hr, by rw [u8s_len]; exact hb, ?_⟩ hK
  have := u8s_at hb
  rwa [Nat.mul_one] at this
/-- A copy of bytes, made by append. -/
theorem BT.clone (B : BT P t e) {b : SA} {ys : List Nat} {K : AV → H → Bool} (hx : Rw σ 1 b ys.length (u8s ys)) (h0 : 0 < ys.length) (hb : ys.length ≤ 140737488355328)
    (hK : K (.sl (.at σ.length 0 1) ys.length) (σ ++ [AO.cells (u8s ys) 1 .own]) = true) : appendK P t (.sl .nil 0) (.sl b ys.length) σ K = true := by
  obtain ⟨ie, hi, h1, h2, h3⟩ := B.hi
  unfold appendK
  rw [B.ht]
  simp only
  rw [hi]
  refine bif_neg (by rw [h1, h2, h3]; rfl) (bif_neg (by rw [beq_eq_false_iff_ne]; omega) (bif_pos (decide_eq_true (by rw [h2]; omega)) ?_))
  rw [h1]
  refine seenK_rw hx (bif_neg (by unfold isStructT; rw [B.he]) ?_)
  exact hK
theorem BT.store (B : BT P t e) {id b : Nat} {y : Int} {w : Nat} {xs : List Nat} {K : H → Bool} (hr : σ[id]? = some (AO.cells (u8s xs) 1 .own)) (hb : b < xs.length) (hy : y = (w : Int))
    (hK : K (σ.set id (.cells (u8s (xs.set b w)) 1 .own)) = true) : storeK P e (.ptr (some ⟨id, b, 0, 1⟩)) (.int .u8 y) σ K = true := by
  subst hy
  obtain ⟨ie, hi, h1, h2, h3⟩ := B.hi
  refine storeK_of hi h1 (Nat.le_refl _) hr rfl (by rw [u8s_len]; exact hb) ?_
  have : (u8s xs).set (b + 0) (AV.int .u8 (w : Int)) = u8s (xs.set b w) := by simp [u8s, List.map_set]
  rw [this]
  exact hK

theorem BT.make (B : BT P t e) {y : Int} {n : Nat} {K : AV → H → Bool} (hy : y = (n : Int)) (hn : n ≤ 140737488355328) (h0 : n = 0 → K (.sl .zero 0) σ = true)
    (h1 : 0 < n → K (.sl (.at σ.length 0 1) n) (σ ++ [AO.cells (u8s (List.replicate n 0)) 1 .own]) = true) : makeSliceK P t (.int .i64 y) (.int .i64 y) σ K = true := by
  subst hy
  obtain ⟨ie, hi, g1, g2, g3⟩ := B.hi
  unfold makeSliceK
  rw [B.ht]
  simp only
  rw [hi]
  simp only
  refine bif_pos ?_ ?_
  · rw [g1, g2]
    simp only [Bool.and_eq_true, decide_eq_true_eq, Bool.not_eq_true', beq_eq_false_iff_ne]
    omega
  · rw [B.h0, g1]
    refine bif_pos rfl ?_
    by_cases hz : n = 0
    · subst hz
      exact h0 rfl
    · refine bif_neg (by simp; omega) ?_
      have e1 : (List.replicate (n : Int).toNat (AV.int .u8 0).cells).flatten = u8s (List.replicate n 0) := by
        rw [Int.toNat_natCast]
        simp [AV.cells, u8s]
      rw [e1]
      exact h1 (by omega)

end
end Go.AM.St
namespace Go.AM.St
open Go Go.AM

theorem wrap_nat {k : IntKind} (hs : k.signed = false) {u : Nat} (h : u < 2 ^ k.bits) : k.wrap (u : Int) = (u : Int) := by
  unfold IntKind.wrap
  rw [hs]
  simp only [Bool.false_and, Bool.false_eq_true, if_false]
  rw [show ((2 : Int) ^ k.bits) = ((2 ^ k.bits : Nat) : Int) by simp, ← Int.natCast_emod, Nat.mod_eq_of_lt h]

theorem wrap_mod {k : IntKind} (hs : k.signed = false) (u : Nat) : k.wrap (u : Int) = ((u % 2 ^ k.bits : Nat) : Int) := by
  unfold IntKind.wrap
  rw [hs]
  simp only [Bool.false_and, Bool.false_eq_true, if_false]
  rw [show ((2 : Int) ^ k.bits) = ((2 ^ k.bits : Nat) : Int) by simp, ← Int.natCast_emod]

theorem wrap_i64 {x : Int} (h1 : -9223372036854775808 ≤ x) (h2 : x ≤ 9223372036854775807) : IntKind.i64.wrap x = x := by
  simp [IntKind.wrap, IntKind.signed, IntKind.bits]
  split <;> omega

theorem inc_i64 {i : Nat} (h : i < 9223372036854775807) : IntKind.i64.wrap ((i : Int) + 1) = ((i + 1 : Nat) : Int) := by
  rw [wrap_i64 (by omega) (by omega)]; rfl
theorem wrap_u64 {u : Nat} (h : u < 18446744073709551616) : IntKind.u64.wrap (u : Int) = (u : Int) := wrap_nat rfl h
theorem wrap_u32 {u : Nat} (h : u < 4294967296) : IntKind.u32.wrap (u : Int) = (u : Int) := wrap_nat rfl h
theorem wrap_u8 {u : Nat} (h : u < 256) : IntKind.u8.wrap (u : Int) = (u : Int) := wrap_nat rfl h

theorem ofInt_nat (w u : Nat) : BitVec.ofInt w (u : Int) = BitVec.ofNat w u := by simp

theorem and_nat {k : IntKind} (hs : k.signed = false) {x y : Int} {u v : Nat} (hx : x = (u : Int)) (hy : y = (v : Int)) (hu : u < 2 ^ k.bits) (hv : v < 2 ^ k.bits) :
    k.wrap ((BitVec.ofInt k.bits x &&& BitVec.ofInt k.bits y).toNat : Int) = ((u &&& v : Nat) : Int) := by
  subst hx hy
  rw [ofInt_nat, ofInt_nat, BitVec.toNat_and, BitVec.toNat_ofNat, BitVec.toNat_ofNat, Nat.mod_eq_of_lt hu, Nat.mod_eq_of_lt hv]
  exact wrap_nat hs (Nat.and_lt_two_pow _ hv)
theorem or_nat {k : IntKind} (hs : k.signed = false) {x y : Int} {u v : Nat} (hx : x = (u : Int)) (hy : y = (v : Int)) (hu : u < 2 ^ k.bits) (hv : v < 2 ^ k.bits) :
    k.wrap ((BitVec.ofInt k.bits x ||| BitVec.ofInt k.bits y).toNat : Int) = ((u ||| v : Nat) : Int) := by
  subst hx hy
  rw [ofInt_nat, ofInt_nat, BitVec.toNat_or, BitVec.toNat_ofNat, BitVec.toNat_ofNat, Nat.mod_eq_of_lt hu, Nat.mod_eq_of_lt hv]
  exact wrap_nat hs (Nat.or_lt_two_pow hu hv)
theorem xor_nat {k : IntKind} (hs : k.signed = false) {x y : Int} {u v : Nat} (hx : x = (u : Int)) (hy : y = (v : Int)) (hu : u < 2 ^ k.bits) (hv : v < 2 ^ k.bits) :
    k.wrap ((BitVec.ofInt k.bits x ^^^ BitVec.ofInt k.bits y).toNat : Int) = ((u ^^^ v : Nat) : Int) := by
  subst hx hy
  rw [ofInt_nat, ofInt_nat, BitVec.toNat_xor, BitVec.toNat_ofNat, BitVec.toNat_ofNat, Nat.mod_eq_of_lt hu, Nat.mod_eq_of_lt hv]
  exact wrap_nat hs (Nat.xor_lt_two_pow hu hv)

/-- The lowest bits. -/
theorem mask_nat (j u : Nat) : u &&& (2 ^ j - 1) = u % 2 ^ j := Nat.and_two_pow_sub_one_eq_mod _ _
/-- Bits above others. -/
theorem or_add {j a b : Nat} (h : b < 2 ^ j) : (a * 2 ^ j) ||| b = a * 2 ^ j + b := by
  rw [Nat.mul_comm]; exact (Nat.two_pow_add_eq_or_of_lt h a).symm
theorem or_add' {j a b : Nat} (h : b < 2 ^ j) : b ||| (a * 2 ^ j) = a * 2 ^ j + b := by rw [Nat.or_comm]; exact or_add h

theorem shr_nat {k : IntKind} {x : Int} {u j : Nat} (hx : x = (u : Int)) : x.fdiv (2 ^ (min j k.bits)) = ((u / 2 ^ (min j k.bits) : Nat) : Int) := by
  subst hx
  rw [show ((2 : Int) ^ (min j k.bits)) = ((2 ^ (min j k.bits) : Nat) : Int) by simp]
  rw [Int.fdiv_eq_ediv_of_nonneg _ (Int.natCast_nonneg _)]
  exact (Int.natCast_ediv _ _).symm
theorem shl_nat {k : IntKind} (hs : k.signed = false) {x : Int} {u j : Nat} (hx : x = (u : Int)) : k.wrap (x * 2 ^ (min j k.bits)) = ((u * 2 ^ (min j k.bits) % 2 ^ k.bits : Nat) : Int) := by
  subst hx
  rw [show (u : Int) * (2 : Int) ^ (min j k.bits) = ((u * 2 ^ (min j k.bits) : Nat) : Int) by simp]
  exact wrap_mod hs _

theorem add_nat {k : IntKind} (hs : k.signed = false) {x y : Int} {u v : Nat} (hx : x = (u : Int)) (hy : y = (v : Int)) : k.wrap (x + y) = (((u + v) % 2 ^ k.bits : Nat) : Int) := by
  subst hx hy
  rw [show (u : Int) + (v : Int) = ((u + v : Nat) : Int) by simp]
  exact wrap_mod hs _
theorem mul_nat {k : IntKind} (hs : k.signed = false) {x y : Int} {u v : Nat} (hx : x = (u : Int)) (hy : y = (v : Int)) : k.wrap (x * y) = (((u * v) % 2 ^ k.bits : Nat) : Int) := by
  subst hx hy
  rw [show (u : Int) * (v : Int) = ((u * v : Nat) : Int) by simp]
  exact wrap_mod hs _
theorem rem_nat {x y : Int} {u v : Nat} (hx : x = (u : Int)) (hy : y = (v : Int)) : x.tmod y = ((u % v : Nat) : Int) := by
  subst hx hy
  exact (Int.ofNat_tmod u v).symm
theorem quo_nat {k : IntKind} (hs : k.signed = false) {x y : Int} {u v : Nat} (hx : x = (u : Int)) (hy : y = (v : Int)) (hu : u < 2 ^ k.bits) : k.wrap (x.tdiv y) = ((u / v : Nat) : Int) := by
  subst hx hy
  rw [← Int.ofNat_tdiv]
  exact wrap_nat hs (Nat.lt_of_le_of_lt (Nat.div_le_self _ _) hu)

end Go.AM.St
namespace Go.AM.St
open Go Go.AM

section
variable {P : Program} {σ : H} {n : Nat} {t e : TypeId} {a : AV}

theorem args_cons {ts : List TypeId} {as : List AV} (h : ArgsShp P σ n (t :: ts) as) : ∃ a as', as = a :: as' ∧ ArgShp P σ n t a ∧ ArgsShp P σ n ts as' := by
  cases as with
  | nil => exact h.elim
  | cons a as => exact ⟨a, as, rfl, h.1, h.2⟩
theorem args_nil {as : List AV} (h : ArgsShp P σ n [] as) : as = [] := by
  cases as with
  | nil => rfl
  | cons a as => exact h.elim

theorem arg_int {k : IntKind} (ht : P.underlying t = some (.int k)) (h : ArgShp P σ (n + 1) t a) : ∃ i, a = .int k i ∧ k.min ≤ i ∧ i ≤ k.max := by
  unfold ArgShp Shp at h
  simp only [ht] at h
  obtain ⟨i, h1, h2⟩ := h
  simp only [Lit.wf, Bool.and_eq_true, decide_eq_true_eq] at h2
  exact ⟨i, by simpa using h1, h2.1, h2.2⟩
theorem arg_nat {k : IntKind} (hs : k.signed = false) (ht : P.underlying t = some (.int k)) (h : ArgShp P σ (n + 1) t a) : ∃ u : Nat, a = .int k (u : Int) ∧ u < 2 ^ k.bits := by
  obtain ⟨i, rfl, h1, h2⟩ := arg_int ht h
  refine ⟨i.toNat, ?_, ?_⟩
  · have : 0 ≤ i := by simpa [IntKind.min, hs] using h1
    rw [Int.toNat_of_nonneg this]
  · cases k <;> simp [IntKind.signed] at hs <;> simp [IntKind.min, IntKind.max, IntKind.signed, IntKind.bits] at h1 h2 ⊢ <;> omega
theorem arg_bool (ht : P.underlying t = some .bool) (h : ArgShp P σ (n + 1) t a) : ∃ b, a = .bool b := by
  unfold ArgShp Shp at h
  simp only [ht] at h
  obtain ⟨i, h1⟩ := h
  exact ⟨i, by simpa using h1⟩

theorem ints_bytesL (s : ByteArray) : ∃ bs : List Nat, bytesL s = ints bs ∧ (∀ b ∈ bs, b < 256) ∧ bs.length = s.size := by
  refine ⟨s.data.toList.map fun b => b.toNat, by simp [bytesL, ints], fun b hb => ?_, by simp⟩
  obtain ⟨x, _, rfl⟩ := List.mem_map.1 hb
  exact UInt8.toNat_lt x

theorem arg_str (ht : P.underlying t = some .string) (h : ArgShp P σ (n + 1) t a) : ∃ bs : List Nat, a = .str (ints bs) ∧ (∀ b ∈ bs, b < 256) ∧ bs.length ≤ maxLen := by
  unfold ArgShp Shp at h
  simp only [ht] at h
  obtain ⟨s, h1, h2⟩ := h
  obtain ⟨bs, e1, e2, e3⟩ := ints_bytesL s
  refine ⟨bs, ?_, e2, by omega⟩
  rw [← e1]
  simpa using h1

theorem shp_slice {cs : List AV} (ht : P.underlying t = some (.slice e)) (h : Shp P σ (n + 1) t cs) :
    ∃ s m xs, cs = [.sl s m] ∧ Rw σ (P.cellsOf e) s m xs ∧ m ≤ maxLen ∧ ∀ i, i < m → Shp P σ n e ((xs.drop (i * P.cellsOf e)).take (P.cellsOf e)) := by
  unfold Shp at h
  rw [ht] at h
  rcases h with h | h | ⟨id, m, xs, h1, h2, h3, h4, h5⟩
  · exact ⟨.nil, 0, [], h, Rw.nil _ _, Nat.zero_le _, fun i hi => absurd hi (Nat.not_lt_zero _)⟩
  · exact ⟨.zero, 0, [], h, Rw.zero _ _, Nat.zero_le _, fun i hi => absurd hi (Nat.not_lt_zero _)⟩
  · exact ⟨_, m, xs, h2, .inr (.inr ⟨id, 0, xs, .ro, rfl, h3, by omega, by rw [List.drop_zero, ← h4, List.take_length]⟩), h1, h5⟩

theorem arg_slice (ht : P.underlying t = some (.slice e)) (h : ArgShp P σ (n + 1) t a) :
    ∃ s m xs, a = .sl s m ∧ Rw σ (P.cellsOf e) s m xs ∧ m ≤ maxLen ∧ ∀ i, i < m → Shp P σ n e ((xs.drop (i * P.cellsOf e)).take (P.cellsOf e)) := by
  unfold ArgShp at h
  simp only [ht] at h
  obtain ⟨s, m, xs, h1, h2, h3, h4⟩ := shp_slice ht h
  exact ⟨s, m, xs, by simpa using h1, h2, h3, h4⟩

/-- A row of whole numbers. -/
theorem ints_row {k : IntKind} (he : P.underlying e = some (.int k)) : ∀ {m : Nat} {xs : List AV}, xs.length = m → (∀ i, i < m → Shp P σ (n + 1) e ((xs.drop (i * 1)).take 1)) →
    ∃ ys : List Int, xs = ys.map (AV.int k ·) ∧ ∀ y ∈ ys, k.min ≤ y ∧ y ≤ k.max := by
  intro m
  induction m with
  | zero => intro xs hl _; exact ⟨[], by simpa using List.length_eq_zero_iff.1 hl, fun y hy => by simp at hy⟩
  | succ m ih =>
    intro xs hl h
    cases xs with
    | nil => simp at hl
    | cons x xs =>
      obtain ⟨ys, rfl, hy⟩ := ih (xs := xs) (by simpa using hl) (fun i hi => by simpa using h (i + 1) (by omega))
      have h0 := h 0 (by omega)
      unfold Shp at h0
      rw [he] at h0
      obtain ⟨i, h1, h2⟩ := h0
      simp only [Lit.wf, Bool.and_eq_true, decide_eq_true_eq] at h2
      refine ⟨i :: ys, ?_, fun y hy' => ?_⟩
      · simp at h1
        rw [h1]; rfl
      · rcases List.mem_cons.1 hy' with rfl | hy'
        · exact h2
        · exact hy y hy'

theorem shp_ints {k : IntKind} {cs : List AV} (ht : P.underlying t = some (.slice e)) (he : P.underlying e = some (.int k)) (hc : P.cellsOf e = 1) (h : Shp P σ (n + 2) t cs) :
    ∃ (s : SA) (ys : List Int), cs = [.sl s ys.length] ∧ Rw σ 1 s ys.length (ys.map (AV.int k ·)) ∧ ys.length ≤ maxLen ∧ ∀ y ∈ ys, k.min ≤ y ∧ y ≤ k.max := by
  obtain ⟨s, m, xs, h1, h2, h3, h4⟩ := shp_slice ht h
  rw [hc] at h2 h4
  have hl := h2.len
  rw [Nat.mul_one] at hl
  obtain ⟨ys, rfl, hy⟩ := ints_row he hl h4
  rw [List.length_map] at hl
  subst hl
  exact ⟨s, ys, h1, h2, h3, hy⟩
theorem arg_ints {k : IntKind} (ht : P.underlying t = some (.slice e)) (he : P.underlying e = some (.int k)) (hc : P.cellsOf e = 1) (h : ArgShp P σ (n + 2) t a) :
    ∃ (s : SA) (ys : List Int), a = .sl s ys.length ∧ Rw σ 1 s ys.length (ys.map (AV.int k ·)) ∧ ys.length ≤ maxLen ∧ ∀ y ∈ ys, k.min ≤ y ∧ y ≤ k.max := by
  unfold ArgShp at h
  simp only [ht] at h
  obtain ⟨s, ys, h1, h2⟩ := shp_ints ht he hc h
  exact ⟨s, ys, by simpa using h1, h2⟩
theorem arg_bytes (ht : P.underlying t = some (.slice e)) (he : P.underlying e = some (.int .u8)) (hc : P.cellsOf e = 1) (h : ArgShp P σ (n + 2) t a) :
    ∃ (s : SA) (bs : List Nat), a = .sl s bs.length ∧ Rw σ 1 s bs.length (u8s bs) ∧ bs.length ≤ maxLen ∧ ∀ b ∈ bs, b < 256 := by
  obtain ⟨s, ys, h1, h2, h3, h4⟩ := arg_ints ht he hc h
  have key : ys = (ys.map Int.toNat).map fun (b : Nat) => (b : Int) := by
    rw [List.map_map]
    conv => lhs; rw [← List.map_id ys]
    refine List.map_congr_left fun y hy => ?_
    have := (h4 y hy).1
    simp only [IntKind.min, IntKind.signed] at this
    simp at this ⊢
    omega
  refine ⟨s, ys.map Int.toNat, by rw [List.length_map]; exact h1, ?_, by rw [List.length_map]; exact h3, fun b hb => ?_⟩
  · have e : ys.map (AV.int .u8 ·) = u8s (ys.map Int.toNat) := by
      conv => lhs; rw [key]
      simp [u8s]
    rw [List.length_map, ← e]
    exact h2
  · obtain ⟨y, hy, rfl⟩ := List.mem_map.1 hb
    have := h4 y hy
    simp [IntKind.min, IntKind.max, IntKind.signed, IntKind.bits] at this
    omega
end
end Go.AM.St
namespace Go.AM.St
open Go Go.AM
section
variable {P : Program} {t e : TypeId} {z : Nat} {σ : H}

def leafT : TypeDesc → Bool
  | .struct _ | .array _ _ => false
  | _ => true

/-- One cell of a row that is known. -/
theorem ldF {d : TypeDesc} {i : TypeInfo} (ht : P.underlying t = some d) (hi : P.info? t = some i) (hl : leafT d = true) {id b o z' z : Nat} {xs : List AV} {md : Md} {v : AV} {K : AV → Bool} (hr : σ[id]? = some (AO.cells xs z md))
    (hx : xs[b + o]? = some v) (h : castT P t v K = true) : ldK P t σ ⟨id, b, o, z'⟩ K = true := by
  refine rowK_of hr ?_
  rw [ht, hi]
  split
  · rename_i e _; cases e; cases hl
  · rename_i e _; cases e; cases hl
  · simp only [hx]; exact h
  · rename_i hq; exact absurd rfl (hq _ _ rfl)

/-- All cells of a struct that is known. -/
theorem ldS {fs : Array Field} {i : TypeInfo} (ht : P.underlying t = some (.struct fs)) (hi : P.info? t = some i) {id b o z' z : Nat} {xs ys : List AV} {md : Md} {K : AV → Bool} (hr : σ[id]? = some (AO.cells xs z md))
    (hz : o + i.size ≤ z') (hb : b + o + i.size ≤ xs.length) (hx : (xs.drop (b + o)).take i.size = ys) (h : castT P t (.agg ys) K = true) : ldK P t σ ⟨id, b, o, z'⟩ K = true := by
  refine rowK_of hr ?_
  rw [ht, hi]
  simp only
  rw [hx]
  refine bif_pos ?_ h
  simp only [Bool.and_eq_true, decide_eq_true_eq]
  exact ⟨hz, hb⟩

/-- A whole struct stored over a row that is ours alone. -/
theorem storeS {i : TypeInfo} (hi : P.info? t = some i) {id z' y : Nat} {v : AV} {xs : List AV} {K : H → Bool} (hr : σ[id]? = some (AO.cells xs y .own)) (hv : v.cells.length = i.size) (hx : xs.length = i.size) (hz : i.size ≤ z') (hl : leafy v.cells = true)
    (hK : K (σ.set id (.cells v.cells y .own)) = true) : storeK P t (.ptr (some ⟨id, 0, 0, z'⟩)) v σ K = true := by
  unfold storeK
  rw [hi]
  simp only
  refine rowK_of hr (bif_pos ?_ ?_)
  · simp only [Bool.and_eq_true, beq_iff_eq, decide_eq_true_eq]
    refine ⟨⟨⟨⟨by first | rfl | trivial, hv⟩, by omega⟩, by omega⟩, hl⟩
  · rw [show xs.take (0 + 0) ++ v.cells ++ xs.drop (0 + 0 + i.size) = v.cells by rw [← hx]; simp]
    exact hK
theorem keep_set (σ : H) (id : Nat) (o : AO) : Keep (some id) σ (σ.set id o) := fun j x hj hx => get_set_ne hx (fun e => hj (by rw [e])) o
theorem Own.off {σ0 σ : H} {z n : Nat} {o : Option Nat} {a : SA} {cs : List AV} (h : Own σ0 σ z o a n cs) {id : Nat} (hid : id < σ0.length) : o = none ∨ o ≠ some id := by
  unfold Own at h
  split at h
  · exact .inl rfl
  · obtain ⟨off, xs, md, h1, h2, _⟩ := h
    exact .inr fun e => by cases e; omega

theorem Elem.mono {σ' : H} {p : PA} {es : List AV} (h : Elem σ z p es) (hp : σ <+: σ') : Elem σ' z p es := by
  obtain ⟨h1, h2, xs, md, h3, h4⟩ := h
  exact ⟨h1, h2, xs, md, prefix_get hp h3, h4⟩

/-- A row of texts. -/
structure TT (P : Program) (t e : TypeId) : Prop where
  ht : P.underlying t = some (.slice e)
  he : P.underlying e = some .string
  hz : ∀ K, esizeK P e K = K 1
  hi : ∃ ie, P.info? e = some ie ∧ ie.size = 1 ∧ (ie.size == 0 || ie.bytes == 0 || !zeroFits ie) = false ∧ ie.bytes ≤ 16

def txs (ts : List (List Nat)) : List AV := ts.map fun t => AV.str (ints t)
theorem txs_len (bs : List (List Nat)) : (txs bs).length = bs.length := by simp [txs]
theorem txs_take (bs : List (List Nat)) (n : Nat) : (txs bs).take (n * 1) = txs (bs.take n) := by simp [txs, List.map_take]
theorem txs_drop (bs : List (List Nat)) (n : Nat) : (txs bs).drop (n * 1) = txs (bs.drop n) := by simp [txs, List.map_drop]
theorem txs_app (a b : List (List Nat)) : txs a ++ txs b = txs (a ++ b) := by simp [txs]
theorem txs_at {bs : List (List Nat)} {i : Nat} (h : i < bs.length) : ((txs bs).drop (i * 1)).take 1 = [.str (ints bs[i])] := by
  rw [txs_drop, List.drop_eq_getElem_cons h]; rfl

theorem TT.slice (B : TT P t e) {a : SA} {bs : List (List Nat)} (ha : Rw σ 1 a bs.length (txs bs)) {lo hi : Option AV} (l h : Nat) {K : AV → Bool}
    (hlo : Bd lo 0 l) (hhi : Bd hi bs.length h) (h1 : l ≤ h) (h2 : h ≤ bs.length) (ds : List (List Nat)) (hd : (bs.take h).drop l = ds)
    (hK : ∀ a', Rw σ 1 a' ds.length (txs ds) → K (.sl a' ds.length) = true) : sliceK P t (.sl a bs.length) lo hi none K = true := by
  subst hd
  refine sliceK_rw B.ht B.hz ha hlo hhi h1 h2 ?_ ?_ hK
  · rw [List.length_drop, List.length_take]; omega
  · rw [txs_take, txs_drop]
theorem TT.idx (B : TT P t e) {a : SA} {bs : List (List Nat)} (ha : Rw σ 1 a bs.length (txs bs)) {k' : IntKind} {y : Int} {i : Nat} {K : AV → Bool} (hy : y = (i : Int)) (hi : i < bs.length)
    (hK : ∀ p, Elem σ 1 p [.str (ints bs[i])] → K (.ptr (some p)) = true) : indexAddrK P t (.sl a bs.length) (.int k' y) K = true :=
  indexAddrK_rw B.ht B.hz ha hy hi (txs_at hi) hK
theorem TT.ld (B : TT P t e) {p : PA} {s : List Int} {K : AV → Bool} (hp : Elem σ 1 p [.str s]) (h : K (.str s) = true) : ldK P e σ p K = true := by
  obtain ⟨ie, hi, _⟩ := B.hi
  exact ldK_text B.he hi hp h
theorem TT.app (B : TT P t e) {σ0 : H} (h0 : σ0 <+: σ) {o : Option Nat} {a b : SA} {xs ys : List (List Nat)} {K : AV → H → Bool} (hs : Own σ0 σ 1 o a xs.length (txs xs)) (hx : Rw σ 1 b ys.length (txs ys)) (zs : List (List Nat)) (hz : xs ++ ys = zs)
    (hb : zs.length ≤ 1000000000)
    (hK : ∀ o' a' σ', σ0 <+: σ' → Keep o σ σ' → (∀ id, o = some id → o' = o) → (o = none → o' = none ∨ o' = some σ.length) → Own σ0 σ' 1 o' a' zs.length (txs zs) → K (.sl a' zs.length) σ' = true) :
    appendK P t (.sl a xs.length) (.sl b ys.length) σ K = true := by
  subst hz
  obtain ⟨ie, hi, h1, h2, h3⟩ := B.hi
  have hm : (xs ++ ys).length * ie.bytes ≤ 1000000000 * 16 := Nat.mul_le_mul hb h3
  exact appendK_rw B.ht hi h1 h2 h0 hs hx (List.length_append).symm (txs_app xs ys) (by omega) hK (by unfold isStructT; rw [B.he])
theorem shp_texts {n : Nat} {cs : List AV} (ht : P.underlying t = some (.slice e)) (he : P.underlying e = some .string) (hc : P.cellsOf e = 1) (h : Shp P σ (n + 2) t cs) :
    ∃ (s : SA) (ts : List (List Nat)), cs = [.sl s ts.length] ∧ Rw σ 1 s ts.length (txs ts) ∧ ts.length ≤ maxLen ∧ ∀ t ∈ ts, (∀ b ∈ t, b < 256) ∧ t.length ≤ maxLen := by
  obtain ⟨s, m, xs, h1, h2, h3, h4⟩ := shp_slice ht h
  rw [hc] at h2 h4
  have hl := h2.len
  rw [Nat.mul_one] at hl
  have key : ∀ {m : Nat} {xs : List AV}, xs.length = m → (∀ i, i < m → Shp P σ (n + 1) e ((xs.drop (i * 1)).take 1)) → ∃ ts : List (List Nat), xs = txs ts ∧ ∀ t ∈ ts, (∀ b ∈ t, b < 256) ∧ t.length ≤ maxLen := by
    intro m
    induction m with
    | zero => intro xs hl _; exact ⟨[], by simpa [txs] using List.length_eq_zero_iff.1 hl, fun y hy => by simp at hy⟩
    | succ m ih =>
      intro xs hl h
      cases xs with
      | nil => simp at hl
      | cons x xs =>
        obtain ⟨ys, rfl, hy⟩ := ih (xs := xs) (by simpa using hl) (fun i hi => by simpa using h (i + 1) (by omega))
        have h0 := h 0 (by omega)
        unfold Shp at h0
        rw [he] at h0
        obtain ⟨s, h1, h2⟩ := h0
        obtain ⟨bs, e1, e2, e3⟩ := ints_bytesL s
        refine ⟨bs :: ys, ?_, fun y hy' => ?_⟩
        · simp at h1
          rw [h1, e1]; rfl
        · rcases List.mem_cons.1 hy' with rfl | hy'
          · exact ⟨e2, by omega⟩
          · exact hy y hy'
  obtain ⟨ts, rfl, hy⟩ := key hl h4
  rw [txs_len] at hl
  subst hl
  exact ⟨s, ts, h1, h2, h3, hy⟩
end
end Go.AM.St
namespace Go.AM.St
open Go Go.AM
section
variable {P : Program} {t e : TypeId} {z : Nat} {σ : H}

/-- Rows of one cell an element have grown at most. -/
def Ext (σ σ' : H) : Prop := ∀ (id : Nat) (xs : List AV) (md : Md), σ[id]? = some (AO.cells xs 1 md) → ∃ ys md', σ'[id]? = some (AO.cells (xs ++ ys) 1 md')
theorem Ext.of_prefix {σ σ' : H} (h : σ <+: σ') : Ext σ σ' := fun id xs md hx => ⟨[], md, by rw [List.append_nil]; exact prefix_get h hx⟩
theorem Ext.trans {a b c : H} (h : Ext a b) (k : Ext b c) : Ext a c := fun id xs md hx => by
  obtain ⟨ys, md', h1⟩ := h id xs md hx
  obtain ⟨zs, md'', h2⟩ := k id _ md' h1
  exact ⟨ys ++ zs, md'', by rw [← List.append_assoc]; exact h2⟩
theorem Rw.ext {σ σ' : H} {n : Nat} {a : SA} {cs : List AV} (h : Rw σ 1 a n cs) (hk : Ext σ σ') : Rw σ' 1 a n cs := by
  rcases h with h | h | ⟨id, off, xs, md, h1, h2, h3, h4⟩
  · exact .inl h
  · exact .inr (.inl h)
  · obtain ⟨ys, md', h5⟩ := hk id xs md h2
    refine .inr (.inr ⟨id, off, xs ++ ys, md', h1, h5, by rw [List.length_append]; omega, ?_⟩)
    rw [List.drop_append_of_le_length (by omega), List.take_append_of_le_length (by rw [List.length_drop]; omega)]
    exact h4

theorem into_ext {σ0 : H} (h0 : σ0 <+: σ) {o : Option Nat} {a : SA} {n m : Nat} {cs ys : List AV} {K : AV → H → Bool} (hs : Own σ0 σ z o a n cs) (hl : m * z = ys.length)
    (hK : ∀ o' a' σ', σ0 <+: σ' → Keep o σ σ' → (∀ id, o = some id → o' = o) → (o = none → o' = none ∨ o' = some σ.length) → Ext σ σ' → Own σ0 σ' z o' a' (n + m) (cs ++ ys) → K (.sl a' (n + m)) σ' = true) :
    appendK.into σ K a n m ys z = true := by
  unfold Own at hs
  cases o with
  | none =>
    obtain ⟨h1, rfl, rfl⟩ := hs
    have key : K (.sl (.at σ.length 0 z) m) (σ ++ [.cells ys z .own]) = true := by
      have := hK (some σ.length) (.at σ.length 0 z) (σ ++ [.cells ys z .own]) (prefix_add h0 _) (fun id x _ hx => get_old hx _) (fun id h => by cases h) (fun _ => .inr rfl) (Ext.of_prefix (List.prefix_append _ _)) (by
        rw [Nat.zero_add, List.nil_append]; exact Own.new h0 ys .own (by decide) hl)
      rwa [Nat.zero_add] at this
    rcases h1 with rfl | rfl
    · exact key
    · exact key
  | some id =>
    obtain ⟨off, xs, md, rfl, h2, h3, h4, h5, h6, h7⟩ := hs
    refine rowK_of h3 (bif_pos ?_ ?_)
    · simp only [beq_self_eq_true, Bool.true_and, Bool.and_eq_true, Bool.not_eq_true', beq_eq_false_iff_ne, beq_iff_eq]
      exact ⟨h4, h5⟩
    · refine hK (some id) _ _ (prefix_set h0 h2 _) (fun j x hj hx => get_set_ne hx (fun e => hj (by rw [e])) _) (fun _ _ => rfl) (fun h => by cases h) (fun j ws md' hj => ?_) ⟨off, xs ++ ys, .multi, rfl, h2, get_set h3 _, by decide, ?_, ?_, h7⟩
      · by_cases e : j = id
        · subst e
          rw [h3] at hj
          cases hj
          exact ⟨ys, .multi, get_set h3 _⟩
        · exact ⟨[], md', by rw [List.append_nil]; exact get_set_ne hj e _⟩
      · rw [List.length_append, Nat.add_mul]; omega
      · rw [List.drop_append_of_le_length (by have := get_lt h3; omega), h6]

/-- What is appended to a row of structs stands in a row of its own. -/
theorem move_ext {σ0 : H} (h0 : σ0 <+: σ) {o : Option Nat} {a : SA} {n m : Nat} {cs ys : List AV} {K : AV → H → Bool} (hz : z ≠ 1) (hs : Own σ0 σ z o a n cs) (hl : m * z = ys.length)
    (hK : ∀ a' σ', σ0 <+: σ' → Keep o σ σ' → Ext σ σ' → Own σ0 σ' z (some σ.length) a' (n + m) (cs ++ ys) → K (.sl a' (n + m)) σ' = true) :
    appendK.move σ K a n m ys z = true := by
  unfold Own at hs
  cases o with
  | none =>
    obtain ⟨h1, rfl, rfl⟩ := hs
    have key : K (.sl (.at σ.length 0 z) m) (σ ++ [.cells ys z .own]) = true := by
      have := hK (.at σ.length 0 z) (σ ++ [.cells ys z .own]) (prefix_add h0 _) (fun id x _ hx => get_old hx _) (Ext.of_prefix (List.prefix_append _ _)) (by
        rw [Nat.zero_add, List.nil_append]; exact Own.new h0 ys .own (by decide) hl)
      rwa [Nat.zero_add] at this
    rcases h1 with rfl | rfl
    · exact key
    · exact key
  | some id =>
    obtain ⟨off, xs, md, rfl, h2, h3, h4, h5, h6, h7⟩ := hs
    refine rowK_of h3 (bif_pos ?_ (bif_pos ?_ ?_))
    · simp only [beq_self_eq_true, Bool.true_and, Bool.and_eq_true, Bool.not_eq_true', beq_eq_false_iff_ne, decide_eq_true_eq]
      exact ⟨h4, Nat.le_of_eq h5⟩
    · simpa using h5
    · have hsl : (σ.set id AO.dead).length = σ.length := List.length_set
      refine hK _ _ (prefix_add (prefix_set h0 h2 _) _) (fun j x hj hx => get_old (get_set_ne hx (fun e => hj (by rw [e])) _) _) (fun j ws md' hj => ?_) ⟨off, xs ++ ys, .own, rfl, prefix_len h0, ?_, by decide, ?_, ?_, h7⟩
      · by_cases e : j = id
        · subst e
          rw [h3] at hj
          cases hj
          exact absurd rfl hz
        · exact ⟨[], md', by rw [List.append_nil]; exact get_old (get_set_ne hj e _) _⟩
      · rw [← hsl]; exact get_new _ _
      · rw [List.length_append, Nat.add_mul]; omega
      · rw [List.drop_append_of_le_length (by have := get_lt h3; omega), h6]

theorem appendK_ext {σ0 : H} {ie : TypeInfo} (ht : P.underlying t = some (.slice e)) (hi : P.info? e = some ie) (hz : ie.size = z) (hg : (ie.size == 0 || ie.bytes == 0 || !zeroFits ie) = false)
    (h0 : σ0 <+: σ) {o : Option Nat} {a b : SA} {n m : Nat} {cs ys : List AV} {K : AV → H → Bool} (hs : Own σ0 σ z o a n cs) (hx : Rw σ z b m ys) {N : Nat} {zs : List AV} (hN : n + m = N) (hZ : cs ++ ys = zs) (hb : N * ie.bytes ≤ 140737488355328)
    (hK : ∀ o' a' σ', σ0 <+: σ' → Keep o σ σ' → (∀ id, o = some id → o' = o ∨ o' = some σ.length) → (o = none → o' = none ∨ o' = some σ.length) → Ext σ σ' → Own σ0 σ' z o' a' N zs → K (.sl a' N) σ' = true)
    (h1 : (isStructT P e && z == 1) = false := by rfl) :
    appendK P t (.sl a n) (.sl b m) σ K = true := by
  subst hz hN hZ
  unfold appendK
  rw [ht]
  simp only
  rw [hi]
  refine bif_neg hg ?_
  by_cases hm : m = 0
  · subst hm
    refine bif_pos rfl ?_
    have e : ys = [] := by
      have := hx.len
      rw [Nat.zero_mul] at this
      exact List.length_eq_zero_iff.1 this
    subst e
    exact hK o a σ h0 (fun _ _ _ h => h) (fun _ _ => .inl rfl) (fun h => .inl h) (Ext.of_prefix (List.prefix_refl _)) (by rw [List.append_nil]; exact hs)
  · refine bif_neg (by simpa using hm) (bif_pos (decide_eq_true hb) (seenK_rw hx ?_))
    cases hst : isStructT P e with
    | true =>
      rw [hst, Bool.true_and, beq_eq_false_iff_ne] at h1
      exact move_ext h0 h1 hs hx.len.symm fun a' σ' q1 q2 q3 q4 => hK _ a' σ' q1 q2 (fun _ _ => .inr rfl) (fun _ => .inr rfl) q3 q4
    | false => exact into_ext h0 hs hx.len.symm fun o' a' σ' q1 q2 q3 q4 q5 q6 => hK o' a' σ' q1 q2 (fun id h => .inl (q3 id h)) q4 q5 q6
theorem BT.appE (B : BT P t e) {σ0 : H} (h0 : σ0 <+: σ) {o : Option Nat} {a b : SA} {xs ys : List Nat} {K : AV → H → Bool} (hs : Own σ0 σ 1 o a xs.length (u8s xs)) (hx : Rw σ 1 b ys.length (u8s ys)) (zs : List Nat) (hz : xs ++ ys = zs)
    (hb : zs.length ≤ 140737488355328)
    (hK : ∀ o' a' σ', σ0 <+: σ' → Keep o σ σ' → (∀ id, o = some id → o' = o ∨ o' = some σ.length) → (o = none → o' = none ∨ o' = some σ.length) → Ext σ σ' → Own σ0 σ' 1 o' a' zs.length (u8s zs) → K (.sl a' zs.length) σ' = true) :
    appendK P t (.sl a xs.length) (.sl b ys.length) σ K = true := by
  subst hz
  obtain ⟨ie, hi, h1, h2, h3⟩ := B.hi
  exact appendK_ext B.ht hi h1 (by rw [h1, h2, h3]; rfl) h0 hs hx (List.length_append).symm (u8s_app xs ys) (by rw [h2, Nat.mul_one]; exact hb) hK (by unfold isStructT; rw [B.he]; rfl)

end
end Go.AM.St
