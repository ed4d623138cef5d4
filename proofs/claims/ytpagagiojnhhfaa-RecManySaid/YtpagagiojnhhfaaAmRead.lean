/- Operations that read. -/
import Derived.Test.YtpagagiojnhhfaaAmPure5
namespace Go.AM
open Go Go.RowKit

/-! Casts hand on what they were given. -/
theorem castLeaf_of {d : TypeDesc} {v : AV} {K : AV → Bool} (h : castLeaf d v K = true) : K v = true ∧ ∀ K', castLeaf d v K' = K' v := by
  cases d <;> cases v <;> simp_all [castLeaf, asInt, asBool, asStr, asPtr, asSl, asMap, asFn]

theorem castLeaves_of : ∀ {ds : List TypeDesc} {vs : List AV} {K : List AV → Bool}, castLeaves ds vs K = true → K vs = true ∧ ∀ K', castLeaves ds vs K' = K' vs
  | [], [], K, h => ⟨h, fun K' => rfl⟩
  | d :: ds, v :: vs, K, h => by
    obtain ⟨h1, h2⟩ := castLeaf_of (K := fun v => castLeaves ds vs fun vs => K (v :: vs)) h
    obtain ⟨h3, h4⟩ := castLeaves_of (K := fun vs => K (v :: vs)) h1
    exact ⟨h3, fun K' => by rw [castLeaves, h2 fun v => castLeaves ds vs fun vs => K' (v :: vs)]; exact h4 fun vs => K' (v :: vs)⟩
  | [], _ :: _, K, h => by cases h
  | _ :: _, [], K, h => by cases h

theorem castT_of {P : Program} {t : TypeId} {v : AV} {K : AV → Bool} (h : castT P t v K = true) : K v = true ∧ ∀ K', castT P t v K' = K' v := by
  have agg : ∀ {K : AV → Bool}, (asAgg v fun cs => castLeaves (leaves P 9 t) cs fun cs => K (.agg cs)) = true →
      K v = true ∧ ∀ K' : AV → Bool, (asAgg v fun cs => castLeaves (leaves P 9 t) cs fun cs => K' (.agg cs)) = K' v := by
    intro K h
    cases v <;> simp only [asAgg] at h ⊢ <;> first | (cases h; done) | skip
    rename_i cs
    obtain ⟨h1, h2⟩ := castLeaves_of (K := fun cs => K (.agg cs)) h
    exact ⟨h1, fun K' => h2 fun cs => K' (.agg cs)⟩
  unfold castT at h ⊢
  split at h
  · exact ⟨(agg h).1, fun K' => (agg h).2 K'⟩
  · exact ⟨(agg h).1, fun K' => (agg h).2 K'⟩
  · rename_i d hn1 hn2 ht
    exact castLeaf_of h
  · cases h

theorem castTs_of {P : Program} : ∀ {ts : List TypeId} {vs : List AV} {K : List AV → Bool}, castTs P ts vs K = true → K vs = true ∧ ∀ K', castTs P ts vs K' = K' vs
  | [], [], K, h => ⟨h, fun K' => rfl⟩
  | t :: ts, v :: vs, K, h => by
    obtain ⟨h1, h2⟩ := castT_of (K := fun v => castTs P ts vs fun vs => K (v :: vs)) h
    obtain ⟨h3, h4⟩ := castTs_of (K := fun vs => K (v :: vs)) h1
    exact ⟨h3, fun K' => by rw [castTs, h2 fun v => castTs P ts vs fun vs => K' (v :: vs)]; exact h4 fun vs => K' (v :: vs)⟩
  | [], _ :: _, K, h => by cases h
  | _ :: _, [], K, h => by cases h

theorem castRes_of {P : Program} {t : TypeId} {v : AV} {K : AV → Bool} (h : castRes P t v K = true) : K v = true := by
  unfold castRes at h
  split at h
  · cases v <;> simp only [asTup] at h <;> first | (cases h; done) | skip
    exact (castTs_of h).1
  · exact (castT_of h).1

/-! Cells. -/
theorem rowK_of {σ : H} {id : Nat} {K : List AV → Nat → Md → Bool} (h : rowK σ id K = true) : ∃ xs z md, σ[id]? = some (.cells xs z md) ∧ K xs z md = true ∧ ∀ K', rowK σ id K' = K' xs z md := by
  unfold rowK at h
  split at h
  · rename_i xs z md hs; exact ⟨xs, z, md, hs, h, fun K' => by simp only [rowK, hs]⟩
  · cases h

theorem Sim.cells {B : Nat} {w0 : World} {ρ : Rho} {σ : H} {w : World} (h : Sim B w0 ρ σ w) {id z z' : Nat} {cs : List Copy} {xs : List AV} {md : Md} (hl : ρ id = some (.cells z cs))
    (hs : σ[id]? = some (.cells xs z' md)) : OR B ρ w (.cells xs z' md) (.cells z cs) := by
  obtain ⟨o, ho, hr⟩ := h.obj id _ hl
  rw [hs] at ho
  obtain rfl := Option.some.inj ho
  exact hr

/-- A stretch of a copy, read. -/
theorem CR.list {B : Nat} {ρ : Rho} {w : World} {xs : List AV} {md : Md} {c : Copy} (h : CR B ρ w xs md c) {off n : Nat} (h1 : c.lo ≤ off) (h2 : off + n ≤ c.hi) :
    ∃ vs : List Value, vs.length = n ∧ VRs ρ ((xs.drop off).take n) vs ∧ (∀ (j : Nat) u, vs[j]? = some u → w.cell? ⟨c.blk, c.boff + (off - c.lo) + j, none⟩ = some u) ∧ ∀ u ∈ vs, u.oneCell' = true := by
  induction n generalizing off with
  | zero => exact ⟨[], rfl, by rw [List.take_zero]; exact .nil, fun j u hj => by simp at hj, fun u hu => by simp at hu⟩
  | succ n ih =>
    obtain ⟨vs, a1, a2, a3, a4⟩ := ih (off := off + 1) (by omega) (by omega)
    obtain ⟨v, vc, b1, b2, b3, b4⟩ := h.cell off h1 (by omega)
    refine ⟨vc :: vs, by simp [a1], ?_, fun j u hj => ?_, fun u hu => ?_⟩
    · have hlt : off < xs.length := (List.getElem?_eq_some_iff.1 b1).1
      have e : xs.drop off = v :: xs.drop (off + 1) := by
        rw [List.drop_eq_getElem_cons hlt]; congr 1
        have := List.getElem?_eq_getElem hlt; rw [b1] at this; exact (Option.some.inj this).symm
      rw [e, List.take_succ_cons]
      exact .cons b3 a2
    · cases j with
      | zero => simp at hj; subst hj; rw [Nat.add_zero]; exact b2
      | succ j =>
        have := a3 j u (by simpa using hj)
        rw [show c.boff + (off + 1 - c.lo) + j = c.boff + (off - c.lo) + (j + 1) by omega] at this
        exact this
    · rcases List.mem_cons.1 hu with rfl | hu
      · exact b4
      · exact a4 u hu

theorem run_loadCells_of {P : Program} {w : World} {b o n : Nat} {vs : List Value} (hl : vs.length = n) (h : ∀ (j : Nat) u, vs[j]? = some u → w.cell? ⟨b, o + j, none⟩ = some u) :
    (loadCells ⟨b, o, none⟩ n).run P w = .ok vs.toArray w := by
  subst hl
  exact run_loadCells_list w _ vs fun j v hj => by rw [Addr.add_none]; exact h j v hj

section
variable {P : Program} {B : Nat} {w0 : World} {ρ : Rho} {σ : H} {w : World} (hsim : Sim B w0 ρ σ w)
include hsim

/-- A read, in continuation form, stands for a run that leaves this world alone. -/
def ReadOK (P : Program) (ρ : Rho) (w : World) (f : (AV → Bool) → Bool) (s : Sem Value) : Prop :=
  ∀ K, f K = true → ∃ v vc, K v = true ∧ VR ρ v vc ∧ (∀ K', f K' = K' v) ∧ s.run P w = .ok vc w

theorem ld_ok {a : PA} {ac : Value} (ha : VR ρ (.ptr (some a)) ac) (t : TypeId) : ReadOK P ρ w (ldK P t σ a) (Instr.loadAt t ac) := by
  intro K h
  cases ha with
  | @ptr id b d z cs c hl hc h1 h2 h3 =>
    unfold ldK at h
    obtain ⟨xs, z', md, hs, h, er⟩ := rowK_of h
    have hor := hsim.cells hl hs
    have hcr := hor.2.2.1 c hc
    have agg : ∀ (i : TypeInfo), P.info? t = some i → (∀ w, (isAgg t).run P w = .ok true w) →
        (bif decide (d + i.size ≤ z) && decide (b + d + i.size ≤ xs.length) then castT P t (.agg ((xs.drop (b + d)).take i.size)) K else false) = true →
        (∀ K', ldK P t σ ⟨id, b, d, z⟩ K' = bif decide (d + i.size ≤ z) && decide (b + d + i.size ≤ xs.length) then castT P t (.agg ((xs.drop (b + d)).take i.size)) K' else false) →
        ∃ v vc, K v = true ∧ VR ρ v vc ∧ (∀ K', ldK P t σ ⟨id, b, d, z⟩ K' = K' v) ∧ (Instr.loadAt t (.pointer (some ⟨c.blk, c.boff + (b + d - c.lo), none⟩))).run P w = .ok vc w := by
      intro i hi hag h hK
      cases hc2 : (decide (d + i.size ≤ z) && decide (b + d + i.size ≤ xs.length)) with
      | false => rw [hc2] at h; cases h
      | true =>
        rw [hc2, cond_true] at h
        obtain ⟨k1, k2⟩ := castT_of h
        simp only [Bool.and_eq_true, decide_eq_true_eq] at hc2
        obtain ⟨vs, e1, e2, e3, e4⟩ := hcr.list (off := b + d) (n := i.size) (by omega) (by omega)
        refine ⟨_, .agg vs.toArray, k1, .mk_agg e2, fun K' => ?_, ?_⟩
        · rw [hK]; simp only [hc2, decide_true, Bool.and_self, cond_true]; exact k2 K'
        · simp [Instr.loadAt, Instr.sureAddr, loadVar, hag, run_sizeOf_of hi, run_loadCells_of e1 e3]
    split at h
    · rename_i fs i ht hi
      exact agg i hi (fun w => by simp [isAgg, run_underlying ht]) h fun K' => by unfold ldK; rw [er]; simp only [ht, hi]
    · rename_i n e i ht hi
      exact agg i hi (fun w => by simp [isAgg, run_underlying ht]) h fun K' => by unfold ldK; rw [er]; simp only [ht, hi]
    · rename_i dd i hn1 hn2 ht hi
      split at h
      · rename_i v hv
        obtain ⟨k1, k2⟩ := castT_of h
        obtain ⟨v', vc, b1, b2, b3, b4⟩ := hcr.cell (b + d) (by omega) (by omega)
        simp only at hv
        rw [hv] at b1
        obtain rfl := Option.some.inj b1
        refine ⟨v, vc, k1, b3, fun K' => ?_, ?_⟩
        · unfold ldK; rw [er, ht, hi]
          cases dd <;> first | exact (hn1 _ rfl).elim | exact (hn2 _ _ rfl).elim | (simp only [hv]; exact k2 K')
        · have hag : (isAgg t).run P w = .ok false w := by
            cases dd <;> first | exact (hn1 _ rfl).elim | exact (hn2 _ _ rfl).elim | simp [isAgg, run_underlying ht]
          simp [Instr.loadAt, Instr.sureAddr, loadVar, hag, b2]
      · cases h
    · cases h

/-- A slice's cells. -/
theorem seen_ok {z n : Nat} {a : SA} {xc : Value} {K : List AV → Bool} (hx : VR ρ (.sl a n) xc) (h : seenK σ z a n K = true) :
    ∃ vs : List Value, ∃ ys, K ys = true ∧ VRs ρ ys vs ∧ (∀ K', seenK σ z a n K' = K' ys) ∧ vs.length = n * z ∧ (∀ u ∈ vs, u.oneCell' = true) ∧
      ((∃ ad cap, xc = .slice (some ad) n cap ∧ (loadCells ad (n * z)).run P w = .ok vs.toArray w ∧ ∀ (j : Nat) u, vs[j]? = some u → w.cell? (ad.add j) = some u) ∨ (xc = .slice none 0 0 ∧ n = 0)) := by
  have zero : ∀ ad, xc = .slice (some ad) 0 0 → n = 0 → ∀ ys, ys = ([] : List AV) → K ys = true → (∀ K', seenK σ z a n K' = K' ys) →
      ∃ vs : List Value, ∃ ys, K ys = true ∧ VRs ρ ys vs ∧ (∀ K', seenK σ z a n K' = K' ys) ∧ vs.length = n * z ∧ (∀ u ∈ vs, u.oneCell' = true) ∧
      ((∃ ad cap, xc = .slice (some ad) n cap ∧ (loadCells ad (n * z)).run P w = .ok vs.toArray w ∧ ∀ (j : Nat) u, vs[j]? = some u → w.cell? (ad.add j) = some u) ∨ (xc = .slice none 0 0 ∧ n = 0)) := by
    rintro ad rfl rfl ys rfl hK hK'
    exact ⟨[], [], hK, .nil, hK', by simp, fun u hu => by simp at hu, .inl ⟨ad, 0, rfl, by simp [loadCells, loadCellsFrom], fun j u hj => by simp at hj⟩⟩
  cases a with
  | nil => cases hx; exact ⟨[], [], h, .nil, fun K' => rfl, by simp, fun u hu => by simp at hu, .inr ⟨rfl, rfl⟩⟩
  | zero => cases hx; exact zero _ rfl rfl [] rfl h fun K' => rfl
  | «at» id off z₂ =>
    unfold seenK at h
    obtain ⟨xs, z', md, hs, h, er⟩ := rowK_of h
    cases hc : (z₂ == z && decide (off + n * z ≤ xs.length)) with
    | false => rw [hc] at h; cases h
    | true =>
      rw [hc, cond_true] at h
      have hK : ∀ K', seenK σ z (.at id off z₂) n K' = K' ((xs.drop off).take (n * z)) := fun K' => by
        show rowK σ id _ = _
        rw [er, hc, cond_true]
      simp only [Bool.and_eq_true, beq_iff_eq, decide_eq_true_eq] at hc
      obtain ⟨rfl, hfit⟩ := hc
      cases hx with
      | @sl _ _ _ _ cap cs c hl hcm h1 h2 h3 h4 =>
        have hcr := (hsim.cells hl hs).2.2.1 c hcm
        obtain ⟨vs, e1, e2, e3, e4⟩ := hcr.list (off := off) (n := n * z₂) h1 h2
        exact ⟨vs, _, h, e2, hK, e1, e4, .inl ⟨_, cap, rfl, run_loadCells_of e1 e3, fun j u hj => by rw [Addr.add_none]; exact e3 j u hj⟩⟩
      | slEnd ad hl => exact zero ad rfl rfl _ (by simp) h hK

omit hsim in
theorem bytesOf_ok {ys : List AV} {vs : List Value} {K : List Int → Bool} (hv : VRs ρ ys vs) (h : bytesOf ys K = true) :
    ∃ ns : List Int, vs = ns.map (Value.int .u8) ∧ K (ns.map fun n => ((n.toNat % 256 : Nat) : Int)) = true ∧ ∀ K', bytesOf ys K' = K' (ns.map fun n => ((n.toNat % 256 : Nat) : Int)) := by
  induction ys generalizing vs K with
  | nil => obtain rfl := hv.inv_nil; exact ⟨[], rfl, h, fun K' => rfl⟩
  | cons y ys ih =>
    obtain ⟨vc, vs', rfl, hy, hv'⟩ := hv.inv_cons
    unfold bytesOf at h
    split at h
    · rename_i he; cases he
    · rename_i n vs2 he
      obtain ⟨rfl, rfl⟩ := List.cons.inj he
      obtain rfl := hy.of_int
      obtain ⟨ns, rfl, h1, h2⟩ := ih hv' h
      exact ⟨n :: ns, rfl, h1, fun K' => by rw [bytesOf]; exact h2 _⟩
    · cases h

end
end Go.AM
