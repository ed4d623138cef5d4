/- A law with arguments: whatever is read becomes read-only rows of the abstract heap. -/
import Derived.Test.YtpagagiojnhhfaaAmLaw0
import Derived.WideShapes
import Derived.ChangeArms
import Derived.ChangeOld
import Derived.DataReads
import Derived.Carry
import Derived.Deep.Slices
namespace Go.AM
open Go Go.RowKit

def tilesOk (P : Program) : List Field → Nat → Nat → Bool
  | [], o, e => o == e
  | f :: fs, o, e => f.offset == o && tilesOk P fs (o + P.cellsOf f.type) e

/-- Types of bools, whole numbers, strings, slices and structs. -/
def plainT (P : Program) : Nat → TypeId → Bool
  | 0, _ => false
  | n + 1, t => match P.underlying t with
    | some .bool | some (.int _) | some .string => P.cellsOf t == 1
    | some (.slice e) => P.cellsOf t == 1 && decide (0 < P.cellsOf e) && plainT P n e
    | some (.struct fs) => tilesOk P fs.toList 0 (P.cellsOf t) && fs.toList.all fun f => plainT P n f.type
    | _ => false

/-- What an argument's cells look like. -/
def Shp (P : Program) (σ : H) : Nat → TypeId → List AV → Prop
  | 0, _, _ => False
  | n + 1, t, cs => match P.underlying t with
    | some .bool => ∃ b, cs = [.bool b]
    | some (.int k) => ∃ i, cs = [.int k i] ∧ (Lit.int k i).wf = true
    | some .string => ∃ s : ByteArray, cs = [.str (bytesL s)] ∧ s.size ≤ maxLen
    | some (.slice e) => cs = [.sl .nil 0] ∨ cs = [.sl .zero 0] ∨ ∃ id m xs, m ≤ maxLen ∧ cs = [.sl (.at id 0 (P.cellsOf e)) m] ∧
        σ[id]? = some (.cells xs (P.cellsOf e) .ro) ∧ xs.length = m * P.cellsOf e ∧ ∀ i, i < m → Shp P σ n e ((xs.drop (i * P.cellsOf e)).take (P.cellsOf e))
    | some (.struct fs) => ∀ f ∈ fs.toList, Shp P σ n f.type ((cs.drop f.offset).take (P.cellsOf f.type))
    | _ => False

theorem prefix_get {σ σ' : H} (h : σ <+: σ') {i : Nat} {o : AO} (ho : σ[i]? = some o) : σ'[i]? = some o := by
  obtain ⟨τ, rfl⟩ := h
  rw [List.getElem?_append_left (List.getElem?_eq_some_iff.1 ho).1]
  exact ho

theorem Shp.mono {P : Program} {σ σ' : H} (h : σ <+: σ') : ∀ {n : Nat} {t : TypeId} {cs : List AV}, Shp P σ n t cs → Shp P σ' n t cs := by
  intro n
  induction n with
  | zero => intro t cs hs; exact hs.elim
  | succ n ih =>
    intro t cs hs
    unfold Shp at hs ⊢
    split at hs
    · exact hs
    · exact hs
    · exact hs
    · rcases hs with hs | hs | ⟨id, m, xs, h2, h3, h4, h5, h6⟩
      · exact .inl hs
      · exact .inr (.inl hs)
      · exact .inr (.inr ⟨id, m, xs, h2, h3, prefix_get h h4, h5, fun i hi => ih (h6 i hi)⟩)
    · exact fun f hf => ih (hs f hf)
    · exact hs

section
variable {G : Type} {enc : TypeId × Value → G} {P : Program} {w : World} {held : Bool}

/-- What a reading gives, whatever rows stand already. -/
def Reads (P : Program) (w : World) (n : Nat) (t : TypeId) (cs : List Value) : Prop :=
  ∀ ρ σ, Sim w.heap.size w ρ σ w → ∃ ρ' σ' avs, ρ.le ρ' ∧ σ <+: σ' ∧ Sim w.heap.size w ρ' σ' w ∧ VRs ρ' avs cs ∧ Shp P σ' n t avs ∧ (∀ v ∈ avs, isLeaf v = true) ∧ avs.length = P.cellsOf t

theorem reads_fields {n : Nat} {cs : List Value} : ∀ (fs : List Field) (o : Nat), tilesOk P fs o cs.length = true →
    (∀ f ∈ fs, Reads P w n f.type ((cs.drop f.offset).take (P.cellsOf f.type))) → ∀ ρ σ, Sim w.heap.size w ρ σ w →
    ∃ ρ' σ' avs, ρ.le ρ' ∧ σ <+: σ' ∧ Sim w.heap.size w ρ' σ' w ∧ VRs ρ' avs (cs.drop o) ∧ (∀ f ∈ fs, o ≤ f.offset ∧ Shp P σ' n f.type ((avs.drop (f.offset - o)).take (P.cellsOf f.type))) ∧
      (∀ v ∈ avs, isLeaf v = true)
  | [], o, h, _, ρ, σ, hs => by
    simp only [tilesOk, beq_iff_eq] at h
    subst h
    refine ⟨ρ, σ, [], .refl ρ, List.prefix_refl _, hs, ?_, fun f hf => by simp at hf, fun v hv => by simp at hv⟩
    rw [List.drop_eq_nil_of_le (Nat.le_refl _)]
    exact .nil
  | f :: fs, o, h, hr, ρ, σ, hs => by
    simp only [tilesOk, Bool.and_eq_true, beq_iff_eq] at h
    obtain ⟨ho, ht⟩ := h
    subst ho
    obtain ⟨ρ1, σ1, a1, l1, p1, s1, v1, c1, i1, n1⟩ := hr f List.mem_cons_self ρ σ hs
    obtain ⟨ρ2, σ2, a2, l2, p2, s2, v2, c2, i2⟩ := reads_fields fs _ ht (fun g hg => hr g (List.mem_cons_of_mem _ hg)) ρ1 σ1 s1
    refine ⟨ρ2, σ2, a1 ++ a2, l1.trans l2, List.IsPrefix.trans p1 p2, s2, ?_, ?_, ?_⟩
    · have := (v1.mono l2).append v2
      rwa [← List.drop_drop, List.take_append_drop] at this
    · intro g hg
      rcases List.mem_cons.1 hg with rfl | hg
      · refine ⟨Nat.le_refl _, ?_⟩
        rw [Nat.sub_self, List.drop_zero, ← n1, List.take_left]
        exact c1.mono p2
      · obtain ⟨h1, h2⟩ := c2 g hg
        refine ⟨by omega, ?_⟩
        rw [List.drop_append, List.drop_eq_nil_of_le (as := a1) (by omega), List.nil_append, n1]
        rwa [show g.offset - f.offset - P.cellsOf f.type = g.offset - (f.offset + P.cellsOf f.type) by omega]
    · intro v hv
      rcases List.mem_append.1 hv with hv | hv
      · exact i1 v hv
      · exact i2 v hv

theorem reads_elems {n : Nat} {e : TypeId} : ∀ (L : List (List Value)), (∀ cs ∈ L, Reads P w n e cs) → ∀ ρ σ, Sim w.heap.size w ρ σ w →
    ∃ ρ' σ' avs, ρ.le ρ' ∧ σ <+: σ' ∧ Sim w.heap.size w ρ' σ' w ∧ VRs ρ' avs L.flatten ∧ avs.length = L.length * P.cellsOf e ∧
      (∀ i, i < L.length → Shp P σ' n e ((avs.drop (i * P.cellsOf e)).take (P.cellsOf e))) ∧ (∀ v ∈ avs, isLeaf v = true)
  | [], _, ρ, σ, hs => ⟨ρ, σ, [], .refl ρ, List.prefix_refl _, hs, .nil, by simp, fun i hi => by simp at hi, fun v hv => by simp at hv⟩
  | cs :: L, hr, ρ, σ, hs => by
    obtain ⟨ρ1, σ1, a1, l1, p1, s1, v1, c1, i1, n1⟩ := hr cs List.mem_cons_self ρ σ hs
    obtain ⟨ρ2, σ2, a2, l2, p2, s2, v2, n2, c2, i2⟩ := reads_elems L (fun g hg => hr g (List.mem_cons_of_mem _ hg)) ρ1 σ1 s1
    refine ⟨ρ2, σ2, a1 ++ a2, l1.trans l2, List.IsPrefix.trans p1 p2, s2, ?_, ?_, ?_, ?_⟩
    · rw [List.flatten_cons]; exact (v1.mono l2).append v2
    · rw [List.length_append, n1, n2, List.length_cons, Nat.add_mul]; omega
    · intro i hi
      cases i with
      | zero =>
        rw [Nat.zero_mul, List.drop_zero, ← n1, List.take_left]
        exact c1.mono p2
      | succ i =>
        have := c2 i (by simpa using hi)
        rw [List.drop_append, List.drop_eq_nil_of_le (as := a1) (by rw [n1, Nat.add_mul]; omega), List.nil_append, n1]
        rwa [show (i + 1) * P.cellsOf e - P.cellsOf e = i * P.cellsOf e by rw [Nat.add_mul]; omega]
    · intro v hv
      rcases List.mem_append.1 hv with hv | hv
      · exact i1 v hv
      · exact i2 v hv

theorem flatten_at {α : Type} {z : Nat} : ∀ (L : List (List α)), (∀ l ∈ L, l.length = z) → ∀ i l, L[i]? = some l → ∀ r, r < z → L.flatten[i * z + r]? = l[r]?
  | [], _, i, l, h, r, hr => by simp at h
  | a :: L, hz, 0, l, h, r, hr => by
    simp at h
    subst h
    rw [List.flatten_cons, Nat.zero_mul, Nat.zero_add, List.getElem?_append_left (by rw [hz a List.mem_cons_self]; exact hr)]
  | a :: L, hz, i + 1, l, h, r, hr => by
    rw [List.getElem?_cons_succ] at h
    have e : a.length = z := hz a List.mem_cons_self
    rw [List.flatten_cons, List.getElem?_append_right (by rw [e, Nat.add_mul]; omega), e]
    rw [show (i + 1) * z + r - z = i * z + r by rw [Nat.add_mul]; omega]
    exact flatten_at L (fun l hl => hz l (List.mem_cons_of_mem _ hl)) i l h r hr

theorem flatten_len {α : Type} {z : Nat} : ∀ (L : List (List α)), (∀ l ∈ L, l.length = z) → L.flatten.length = L.length * z
  | [], _ => by simp
  | a :: L, hz => by
    rw [List.flatten_cons, List.length_append, flatten_len L (fun l hl => hz l (List.mem_cons_of_mem _ hl)), hz a List.mem_cons_self, List.length_cons, Nat.add_mul]
    omega

/-- A row that was there when the call began. -/
theorem Sim.row {ρ : Rho} {σ : H} (hs : Sim w.heap.size w ρ σ w) {avs : List AV} {cs : List Value} (hv : VRs ρ avs cs) (hl : ∀ v ∈ avs, isLeaf v = true) {z len cap blk off : Nat} (hz : 0 < z)
    (hlen : avs.length = len * z) (hb : blk < w.heap.size) (hc : len ≤ cap) (hcell : ∀ j, j < avs.length → w.cell? ⟨blk, off + j, none⟩ = cs[j]?) :
    ∃ ρ', ρ.le ρ' ∧ Sim w.heap.size w ρ' (σ ++ [.cells avs z .ro]) w ∧ VR ρ' (.sl (.at σ.length 0 z) len) (.slice (some ⟨blk, off, none⟩) len cap) := by
  have hle := hs.upd_le (.cells z [⟨blk, off, 0, avs.length, off + cap * z⟩])
  refine ⟨_, hle, hs.extend (.cells avs z .ro) (.cells z [⟨blk, off, 0, avs.length, off + cap * z⟩]) (Below.refl _ _) ?_ (fun b hb => absurd rfl hb.1), ?_⟩
  · refine ⟨rfl, hz, fun c hc => ?_, fun h => absurd rfl h⟩
    rw [List.mem_singleton] at hc
    subst hc
    refine ⟨Nat.zero_le _, Nat.le_refl _, fun j _ hj => ?_, fun _ => hb, fun h => absurd rfl h⟩
    have h1 : avs[j]? = some avs[j] := List.getElem?_eq_getElem hj
    obtain ⟨vc, h2, h3⟩ := hv.get h1
    exact ⟨_, vc, h1, (hcell j hj).trans h2, h3.mono hle, h3.one (hl _ (List.getElem_mem _))⟩
  · have := VR.sl (ρ := ρ.upd σ.length (.cells z [⟨blk, off, 0, avs.length, off + cap * z⟩])) (id := σ.length) (off := 0) (z := z) (len := len) (cap := cap) (c := ⟨blk, off, 0, avs.length, off + cap * z⟩) (cs := _)
      (by simp [Rho.upd]) (List.mem_singleton.2 rfl) (Nat.le_refl _) (by simp [hlen]) hc (by simp)
    simpa using this

theorem reads_ok : ∀ (n : Nat) (t : TypeId), plainT P n t = true → ∀ (fuel : Nat) (cs : List Value) (x : DataW G × List MemPlace), DataW.trod enc P w 0 (fun _ => true) held fuel t cs = some x → Reads P w n t cs := by
  intro n
  induction n with
  | zero => intro t h; cases h
  | succ n ih =>
    intro t hp fuel cs x hx ρ σ hs
    unfold plainT at hp
    split at hp
    · rename_i ht
      obtain ⟨b, rfl, _⟩ := DataW.trod_bool ht hx
      exact ⟨ρ, σ, [.bool b], .refl ρ, List.prefix_refl _, hs, .cons (.bool b) .nil, by unfold Shp; rw [ht]; exact ⟨b, rfl⟩, by simp [isLeaf], by simpa using (beq_iff_eq.1 hp).symm⟩
    · rename_i k ht
      obtain ⟨i, rfl, _, hw⟩ := DataW.trod_int ht hx
      exact ⟨ρ, σ, [.int k i], .refl ρ, List.prefix_refl _, hs, .cons (.int k i) .nil, by unfold Shp; rw [ht]; exact ⟨i, rfl, hw⟩, by simp [isLeaf], by simpa using (beq_iff_eq.1 hp).symm⟩
    · rename_i ht
      obtain ⟨s, rfl, _, hw⟩ := DataW.trod_string ht hx
      exact ⟨ρ, σ, [.str (bytesL s)], .refl ρ, List.prefix_refl _, hs, .cons (.str s) .nil, by unfold Shp; rw [ht]; exact ⟨s, rfl, hw⟩, by simp [isLeaf], by simpa using (beq_iff_eq.1 hp).symm⟩
    · rename_i e ht
      simp only [Bool.and_eq_true, beq_iff_eq, decide_eq_true_eq] at hp
      obtain ⟨⟨hc, hz⟩, hp⟩ := hp
      rcases DataW.trod_slice ht hx with ⟨rfl, _⟩ | ⟨a, len, cap, elems, rest, n', _, rfl, _, _, hl, hm, hlen, hel, hsp, _⟩
      · exact ⟨ρ, σ, [.sl .nil 0], .refl ρ, List.prefix_refl _, hs, .cons .slNil .nil, by unfold Shp; rw [ht]; exact .inl rfl, by simp [isLeaf], by simpa using hc.symm⟩
      · by_cases h0 : cap = 0
        · subst h0
          obtain rfl : len = 0 := by omega
          exact ⟨ρ, σ, [.sl .zero 0], .refl ρ, List.prefix_refl _, hs, .cons (.slZero a) .nil, by unfold Shp; rw [ht]; exact .inr (.inl rfl), by simp [isLeaf], by simpa using hc.symm⟩
        · have first : ∃ ci, w.cells? 0 (a.add 0) (P.cellsOf e) = some ci := by
            by_cases hl0 : len = 0
            · obtain ⟨hrl, hr⟩ := hsp rfl
              have h1 := hr 0 (by omega)
              rw [List.getElem?_eq_getElem (by omega)] at h1
              obtain ⟨ci, h2, h3⟩ := Option.bind_eq_some_iff.1 h1
              have e0 : (len + 0) * P.cellsOf e = 0 := by rw [hl0]; simp
              rw [e0] at h2
              exact ⟨ci, h2⟩
            · have h1 := hel 0 (by omega)
              rw [List.getElem?_eq_getElem (by omega), Nat.zero_mul] at h1
              obtain ⟨ci, h2, h3⟩ := Option.bind_eq_some_iff.1 h1
              exact ⟨ci, h2⟩
          obtain ⟨c0, hc0⟩ := first
          have hb : a.block < w.heap.size := World.cells?_block hc0 hz
          have hspot : a.spot = none := by
            obtain ⟨_, h2, h3⟩ := World.cells?_some hc0
            have h4 := h3 0 hz
            rw [List.getElem?_eq_getElem (by omega)] at h4
            simp only [Addr.add, if_true, World.cell?] at h4
            split at h4
            · cases hq : a.spot with
              | none => rfl
              | some q => rw [hq] at h4; simp at h4
            · cases h4
          obtain ⟨blk, off, spot⟩ := a
          obtain rfl : spot = none := hspot
          have each : ∀ i, i < len → ∃ ci, (∃ x, DataW.trod enc P w 0 (fun _ => true) held n' e ci = some x) ∧ ci.length = P.cellsOf e ∧ ∀ j, j < P.cellsOf e → w.cell? ⟨blk, off + (i * P.cellsOf e + j), none⟩ = ci[j]? := by
            intro i hi
            have h1 := hel i hi
            rw [List.getElem?_eq_getElem (by omega)] at h1
            obtain ⟨ci, h2, h3⟩ := Option.bind_eq_some_iff.1 h1
            obtain ⟨_, h4, h5⟩ := World.cells?_some h2
            refine ⟨ci, ⟨_, h3⟩, h4, fun j hj => ?_⟩
            rw [← h5 j hj, Go.Deep.add_add]
            congr 1
            unfold Addr.add
            split
            · rename_i h; simp_all
            · rfl
          obtain ⟨f, hf⟩ := Go.Deep.choose_lt each
          let L := (List.range len).map f
          have hL : L.length = len := by simp [L]
          have hLi : ∀ i, i < len → L[i]? = some (f i) := fun i hi => by simp [L, hi]
          have hLz : ∀ l ∈ L, l.length = P.cellsOf e := fun l h => by
            obtain ⟨i, hi, rfl⟩ := List.mem_map.1 h
            exact (hf i (List.mem_range.1 hi)).2.1
          obtain ⟨ρ1, σ1, avs, l1, p1, s1, v1, n1, c1, i1⟩ := reads_elems (w := w) (n := n) (P := P) (e := e) L (fun cs hcs => by
            obtain ⟨i, hi, rfl⟩ := List.mem_map.1 hcs
            obtain ⟨⟨x, hx⟩, _⟩ := hf i (List.mem_range.1 hi)
            exact ih e hp n' _ x hx) ρ σ hs
          rw [hL] at n1 c1
          obtain ⟨ρ2, l2, s2, v2⟩ := s1.row v1 i1 (len := len) (cap := cap) (blk := blk) (off := off) hz n1 hb hl (fun j hj => by
            rw [n1] at hj
            have hdm := Nat.div_add_mod j (P.cellsOf e)
            have hr := Nat.mod_lt j hz
            have hi : j / P.cellsOf e < len := Nat.div_lt_of_lt_mul (by rw [Nat.mul_comm]; exact hj)
            have h1 := (hf _ hi).2.2 _ hr
            have h2 := flatten_at L hLz _ _ (hLi _ hi) _ hr
            rw [Nat.mul_comm, hdm] at h1 h2
            rw [h1, h2])
          have hp2 : σ1 <+: σ1 ++ [AO.cells avs (P.cellsOf e) .ro] := List.prefix_append _ _
          refine ⟨ρ2, _, [.sl (.at σ1.length 0 (P.cellsOf e)) len], l1.trans l2, List.IsPrefix.trans p1 hp2, s2, .cons v2 .nil, ?_, by simp [isLeaf], by simpa using hc.symm⟩
          unfold Shp
          rw [ht]
          exact .inr (.inr ⟨σ1.length, len, avs, by omega, rfl, by simp, n1, fun i hi => (c1 i hi).mono hp2⟩)
    · rename_i fs ht
      simp only [Bool.and_eq_true, List.all_eq_true] at hp
      obtain ⟨hp1, hp2⟩ := hp
      obtain ⟨xs, n', _, _, hcl, hxl, hfs⟩ := DataW.trod_struct ht hx
      rw [← hcl] at hp1
      obtain ⟨ρ', σ', avs, h1, h2, h3, h4, h5, h6⟩ := reads_fields (w := w) (n := n) (P := P) fs.toList 0 hp1 (fun f hf => by
        obtain ⟨i, hi⟩ := List.getElem?_of_mem hf
        rw [Array.getElem?_toList] at hi
        have hi' : i < xs.length := by rw [hxl]; exact (Array.getElem?_eq_some_iff.1 hi).1
        have := hfs i f hi
        rw [List.getElem?_eq_getElem hi'] at this
        exact ih f.type (hp2 f hf) n' _ _ this) ρ σ hs
      refine ⟨ρ', σ', avs, h1, h2, h3, by simpa using h4, ?_, h6, ?_⟩
      · unfold Shp
        rw [ht]
        exact fun f hf => by simpa using (h5 f hf).2
      · rw [← hcl, h4.1]; simp
    · cases hp

end

/-- What an argument looks like. -/
def ArgShp (P : Program) (σ : H) (n : Nat) (t : TypeId) (a : AV) : Prop :=
  match P.underlying t with
  | some (.struct _) => ∃ cs, a = .agg cs ∧ cs.length = P.cellsOf t ∧ Shp P σ n t cs
  | _ => Shp P σ n t [a]

def ArgsShp (P : Program) (σ : H) (n : Nat) : List TypeId → List AV → Prop
  | [], [] => True
  | t :: ts, a :: as => ArgShp P σ n t a ∧ ArgsShp P σ n ts as
  | _, _ => False

theorem ArgShp.mono {P : Program} {σ σ' : H} (h : σ <+: σ') {n : Nat} {t : TypeId} {a : AV} (hs : ArgShp P σ n t a) : ArgShp P σ' n t a := by
  unfold ArgShp at hs ⊢
  split at hs
  · obtain ⟨cs, h1, h2, h3⟩ := hs; exact ⟨cs, h1, h2, h3.mono h⟩
  · exact hs.mono h

section
variable {G : Type} {enc : TypeId × Value → G} {P : Program} {w : World} {held : Bool}

theorem arg_ok {n : Nat} {t : TypeId} {r : Reach} {base : Nat} {v : Value} {d : DataW G} {ps : List MemPlace} (hp : plainT P n t = true) (hval : Value.okWide P w r base t v)
    (h : DataW.Trod enc P w 0 (fun _ => true) held t v d ps) (ρ : Rho) (σ : H) (hs : Sim w.heap.size w ρ σ w) :
    ∃ ρ' σ' a, ρ.le ρ' ∧ σ <+: σ' ∧ Sim w.heap.size w ρ' σ' w ∧ VR ρ' a v ∧ ArgShp P σ' n t a := by
  obtain ⟨fuel, hf⟩ := h
  obtain ⟨ρ', σ', avs, h1, h2, h3, h4, h5, h6, h7⟩ := reads_ok n t hp fuel _ _ hf ρ σ hs
  cases n with
  | zero => cases hp
  | succ n =>
    have one : v.cells.toList = [v] → (∀ fs, P.underlying t ≠ some (.struct fs)) → ∃ a, VR ρ' a v ∧ ArgShp P σ' (n + 1) t a := fun hv hns => by
      rw [hv] at h4
      cases avs with
      | nil => exact absurd h4.1 (by simp)
      | cons a as =>
        obtain ⟨vc, vs', e, hva, hr⟩ := h4.inv_cons
        cases e
        cases as with
        | cons b bs => exact absurd hr.1 (by simp)
        | nil =>
          refine ⟨a, hva, ?_⟩
          unfold ArgShp
          split
          · rename_i fs hu; exact absurd hu (hns fs)
          · exact h5
    have key : ∃ a, VR ρ' a v ∧ ArgShp P σ' (n + 1) t a := by
      have hp' := hp
      unfold plainT at hp'
      split at hp'
      · rename_i ht
        obtain ⟨b, rfl⟩ := Go.WideShapes.okWide_bool ht hval
        exact one rfl (fun fs hu => by rw [ht] at hu; cases hu)
      · rename_i k ht
        obtain ⟨b, rfl⟩ := Go.WideShapes.okWide_int ht hval
        exact one rfl (fun fs hu => by rw [ht] at hu; cases hu)
      · rename_i ht
        obtain ⟨b, rfl⟩ := Go.WideShapes.okWide_string ht hval
        exact one rfl (fun fs hu => by rw [ht] at hu; cases hu)
      · rename_i e ht
        obtain ⟨b, len, cap, rfl⟩ := Go.WideShapes.okWide_slice ht hval
        exact one rfl (fun fs hu => by rw [ht] at hu; cases hu)
      · rename_i fs ht
        obtain ⟨cs, rfl, hcs⟩ := Go.WideShapes.okWide_struct ht hval
        refine ⟨.agg avs, ?_, ?_⟩
        · have := VR.mk_agg h4
          simpa [Value.cells] using this
        · unfold ArgShp
          rw [ht]
          exact ⟨avs, rfl, h7, h5⟩
      · cases hp'
    obtain ⟨a, ha, hb⟩ := key
    exact ⟨ρ', σ', a, h1, h2, h3, ha, hb⟩

theorem args_ok {n : Nat} {r : Reach} {base : Nat} : ∀ {ts : List TypeId} {vs : List Value} {ds : List (DataW G)} {ps : List MemPlace}, (ts.all fun t => plainT P n t) = true →
    DataW.TrodAll enc P w 0 (fun _ => true) held ts vs ds ps → (∀ (j : Nat) t v, ts[j]? = some t → vs[j]? = some v → Value.okWide P w r base t v) → ∀ ρ σ, Sim w.heap.size w ρ σ w →
    ∃ ρ' σ' as, ρ.le ρ' ∧ σ <+: σ' ∧ Sim w.heap.size w ρ' σ' w ∧ VRs ρ' as vs ∧ ArgsShp P σ' n ts as
  | [], [], [], _, _, _, _, ρ, σ, hs => ⟨ρ, σ, [], .refl ρ, List.prefix_refl _, hs, .nil, trivial⟩
  | t :: ts, v :: vs, d :: ds, _, hp, ⟨p, q, h1, h2, _⟩, hval, ρ, σ, hs => by
    simp only [List.all_cons, Bool.and_eq_true] at hp
    obtain ⟨ρ1, σ1, a, l1, p1, s1, v1, c1⟩ := arg_ok hp.1 (hval 0 t v rfl rfl) h1 ρ σ hs
    obtain ⟨ρ2, σ2, as, l2, p2, s2, v2, c2⟩ := args_ok hp.2 h2 (fun j t v a b => hval (j + 1) t v (by simpa using a) (by simpa using b)) ρ1 σ1 s1
    exact ⟨ρ2, σ2, a :: as, l1.trans l2, List.IsPrefix.trans p1 p2, s2, .cons (v1.mono l2) v2, c1.mono p2, c2⟩

theorem args_back {W' : World} (hl : laidOutB P = true) (hb : Below w.heap.size w W') : ∀ {ts : List TypeId} {vs : List Value} {ds : List (DataW G)} {ps : List MemPlace},
    (ts.all fun t => P.readableRec t && decide (t < P.types.size)) = true → DataW.TrodAll enc P w 0 (fun _ => true) true ts vs ds ps →
    DataW.TrodAll enc P W' 0 (fun b => decide (b < w.heap.size)) true ts vs ds ps
  | [], [], [], _, _, h => h
  | t :: ts, v :: vs, d :: ds, _, hp, ⟨p, q, h1, h2, e⟩ => by
    simp only [List.all_cons, Bool.and_eq_true, decide_eq_true_eq] at hp
    refine ⟨p, q, Below.trod hl hp.1.1 hp.1.2 h1 hb (fun x hx => ?_), args_back hl hb hp.2 h2, e⟩
    obtain ⟨m, hm⟩ := h1
    exact DataW.trod_lt m _ _ _ hm x hx

/-- A law: its run on the abstract machine answers true. -/
theorem law_ok (hmix : P.follows .mixedOrders = true) (hno : NoCount P) {T : Tab} (hT : TabOK P T) {ρ : Rho} {σ : H} {as : List AV} {args : Array Value} (hs : Sim w.heap.size w ρ σ w) (ha : VRs ρ as args.toList)
    {n f : Nat} (h : acall P T (drawRegion P) n f as σ isTrue = true) :
    Calls P f args w fun e w' => e = .returned (.bool true) ∧ Below w.heap.size w w' := by
  obtain ⟨_, hc⟩ := acall_ok hT hmix hno n w.heap.size w ρ σ w f as args isTrue hs ha h
  refine hc.mono fun e w' hh => ?_
  obtain ⟨v, vc, σ', ρ', rfl, _, hv, hs, hk⟩ := hh
  obtain rfl := isTrue_of hk
  rw [hv.of_bool]
  exact ⟨rfl, hs.below⟩

end
end Go.AM
