/- Operations that read. Maps, read; and every operation that reads. Every operation that reads. -/
import Derived.Test.YthmdecfiijgaoaaGreatGmPure
namespace Go.AM
open Go Go.RowKit
variable [Grade]

/-! Casts. -/
omit [Grade] in
theorem castT_of {P : Program} {t : TypeId} {v : AV} {K : AV → Bool} (h : castT P t v K = true) : K v = true ∧ ∀ K', castT P t v K' = K' v := by
  have agg : ∀ {K : AV → Bool}, (asAgg v fun cs => castLeaves (leaves P 9 t) cs fun cs => K (.agg cs)) = true →
      K v = true ∧ ∀ K' : AV → Bool, (asAgg v fun cs => castLeaves (leaves P 9 t) cs fun cs => K' (.agg cs)) = K' v := by
    intro K h
    cases v <;> simp only [asAgg] at h ⊢ <;> first | (cases h; done) | skip
    rename_i cs
    obtain ⟨h1, h2⟩ := castLeaves_of (K := fun cs => K (.agg cs)) h
    exact ⟨h1, fun K' => h2 fun cs => K' (.agg cs)⟩
  unfold castT at h ⊢
  split at h
  · exact ⟨(agg h).1, fun K' => (agg h).2 K'⟩
  · exact ⟨(agg h).1, fun K' => (agg h).2 K'⟩
  · rename_i d hn1 hn2 ht
    exact castLeaf_of h
  · cases h

omit [Grade] in
theorem castTs_of {P : Program} : ∀ {ts : List TypeId} {vs : List AV} {K : List AV → Bool}, castTs P ts vs K = true → K vs = true ∧ ∀ K', castTs P ts vs K' = K' vs
  | [], [], K, h => ⟨h, fun K' => rfl⟩
  | t :: ts, v :: vs, K, h => by
    obtain ⟨h1, h2⟩ := castT_of (K := fun v => castTs P ts vs fun vs => K (v :: vs)) h
    obtain ⟨h3, h4⟩ := castTs_of (K := fun vs => K (v :: vs)) h1
    exact ⟨h3, fun K' => by rw [castTs, h2 fun v => castTs P ts vs fun vs => K' (v :: vs)]; exact h4 fun vs => K' (v :: vs)⟩
  | [], _ :: _, K, h => by cases h
  | _ :: _, [], K, h => by cases h

omit [Grade] in
theorem castRes_of {P : Program} {t : TypeId} {v : AV} {K : AV → Bool} (h : castRes P t v K = true) : K v = true := by
  unfold castRes at h
  split at h
  · cases v <;> simp only [asTup] at h <;> first | (cases h; done) | skip
    exact (castTs_of h).1
  · exact (castT_of h).1

/-! Cells. -/
omit [Grade] in
theorem rowK_of {σ : H} {id : Nat} {K : List AV → Nat → Md → Bool} (h : rowK σ id K = true) : ∃ xs z md, σ[id]? = some (.cells xs z md) ∧ K xs z md = true ∧ ∀ K', rowK σ id K' = K' xs z md := by
  unfold rowK at h
  split at h
  · rename_i xs z md hs; exact ⟨xs, z, md, hs, h, fun K' => by simp only [rowK, hs]⟩
  · cases h

theorem Sim.cells {B : Nat} {w0 : World} {ρ : Rho} {σ : H} {w : World} (h : Sim B w0 ρ σ w) {id z z' : Nat} {cs : List Copy} {xs : List AV} {md : Md} (hl : ρ id = some (.cells z cs))
    (hs : σ[id]? = some (.cells xs z' md)) : OR B ρ w (.cells xs z' md) (.cells z cs) := by
  obtain ⟨o, ho, hr⟩ := h.obj id _ hl
  rw [hs] at ho
  obtain rfl := Option.some.inj ho
  exact hr

omit [Grade] in
/-- A stretch of a copy, read. -/
theorem CR.list {B : Nat} {ρ : Rho} {w : World} {xs : List AV} {md : Md} {c : Copy} (h : CR B ρ w xs md c) {off n : Nat} (h1 : c.lo ≤ off) (h2 : off + n ≤ c.hi) :
    ∃ vs : List Value, vs.length = n ∧ VRs ρ ((xs.drop off).take n) vs ∧ (∀ (j : Nat) u, vs[j]? = some u → w.cell? ⟨c.blk, c.boff + (off - c.lo) + j, none⟩ = some u) ∧ ∀ u ∈ vs, u.oneCell' = true := by
  induction n generalizing off with
  | zero => exact ⟨[], rfl, by rw [List.take_zero]; exact .nil, fun j u hj => by simp at hj, fun u hu => by simp at hu⟩
  | succ n ih =>
    obtain ⟨vs, a1, a2, a3, a4⟩ := ih (off := off + 1) (by omega) (by omega)
    obtain ⟨v, vc, b1, b2, b3, b4⟩ := h.cell off h1 (by omega)
    refine ⟨vc :: vs, by simp [a1], ?_, fun j u hj => ?_, fun u hu => ?_⟩
    · have hlt : off < xs.length := (List.getElem?_eq_some_iff.1 b1).1
      have e : xs.drop off = v :: xs.drop (off + 1) := by
        rw [List.drop_eq_getElem_cons hlt]; congr 1
        have := List.getElem?_eq_getElem hlt; rw [b1] at this; exact (Option.some.inj this).symm
      rw [e, List.take_succ_cons]
      exact .cons b3 a2
    · cases j with
      | zero => simp at hj; subst hj; rw [Nat.add_zero]; exact b2
      | succ j =>
        have := a3 j u (by simpa using hj)
        rw [show c.boff + (off + 1 - c.lo) + j = c.boff + (off - c.lo) + (j + 1) by omega] at this
        exact this
    · rcases List.mem_cons.1 hu with rfl | hu
      · exact b4
      · exact a4 u hu

omit [Grade] in
theorem run_loadCells_of {P : Program} {w : World} {b o n : Nat} {vs : List Value} (hl : vs.length = n) (h : ∀ (j : Nat) u, vs[j]? = some u → w.cell? ⟨b, o + j, none⟩ = some u) :
    (loadCells ⟨b, o, none⟩ n).run P w = .ok vs.toArray w := by
  subst hl
  exact run_loadCells_list w _ vs fun j v hj => by rw [Addr.add_none]; exact h j v hj

section
variable {P : Program} {B : Nat} {w0 : World} {ρ : Rho} {σ : H} {w : World} (hsim : Sim B w0 ρ σ w)
include hsim

/-- A read, in continuation form, stands for a run that leaves this world alone. -/
def ReadOK (P : Program) (ρ : Rho) (w : World) (f : (AV → Bool) → Bool) (s : Sem Value) : Prop :=
  ∀ K, f K = true → ∃ v vc, K v = true ∧ VR ρ v vc ∧ (∀ K', f K' = K' v) ∧ s.run P w = .ok vc w

theorem ld_ok {a : PA} {ac : Value} (ha : VR ρ (.ptr (some a)) ac) (t : TypeId) : ReadOK P ρ w (ldK P t σ a) (Instr.loadAt t ac) := by
  intro K h
  cases ha with
  | @ptr id b d z cs c hl hc h1 h2 h3 =>
    unfold ldK at h
    obtain ⟨xs, z', md, hs, h, er⟩ := rowK_of h
    have hor := hsim.cells hl hs
    have hcr := hor.2.2.1 c hc
    have agg : ∀ (i : TypeInfo), P.info? t = some i → (∀ w, (isAgg t).run P w = .ok true w) →
        (bif decide (d + i.size ≤ z) && decide (b + d + i.size ≤ xs.length) then castT P t (.agg ((xs.drop (b + d)).take i.size)) K else false) = true →
        (∀ K', ldK P t σ ⟨id, b, d, z⟩ K' = bif decide (d + i.size ≤ z) && decide (b + d + i.size ≤ xs.length) then castT P t (.agg ((xs.drop (b + d)).take i.size)) K' else false) →
        ∃ v vc, K v = true ∧ VR ρ v vc ∧ (∀ K', ldK P t σ ⟨id, b, d, z⟩ K' = K' v) ∧ (Instr.loadAt t (.pointer (some ⟨c.blk, c.boff + (b + d - c.lo), none⟩))).run P w = .ok vc w := by
      intro i hi hag h hK
      cases hc2 : (decide (d + i.size ≤ z) && decide (b + d + i.size ≤ xs.length)) with
      | false => rw [hc2] at h; cases h
      | true =>
        rw [hc2, cond_true] at h
        obtain ⟨k1, k2⟩ := castT_of h
        simp only [Bool.and_eq_true, decide_eq_true_eq] at hc2
        obtain ⟨vs, e1, e2, e3, e4⟩ := hcr.list (off := b + d) (n := i.size) (by omega) (by omega)
        refine ⟨_, .agg vs.toArray, k1, .mk_agg e2, fun K' => ?_, ?_⟩
        · rw [hK]; simp only [hc2, decide_true, Bool.and_self, cond_true]; exact k2 K'
        · simp [Instr.loadAt, Instr.sureAddr, loadVar, hag, run_sizeOf_of hi, run_loadCells_of e1 e3]
    split at h
    · rename_i fs i ht hi
      exact agg i hi (fun w => by simp [isAgg, run_underlying ht]) h fun K' => by unfold ldK; rw [er]; simp only [ht, hi]
    · rename_i n e i ht hi
      exact agg i hi (fun w => by simp [isAgg, run_underlying ht]) h fun K' => by unfold ldK; rw [er]; simp only [ht, hi]
    · rename_i dd i hn1 hn2 ht hi
      split at h
      · rename_i v hv
        obtain ⟨k1, k2⟩ := castT_of h
        obtain ⟨v', vc, b1, b2, b3, b4⟩ := hcr.cell (b + d) (by omega) (by omega)
        simp only at hv
        rw [hv] at b1
        obtain rfl := Option.some.inj b1
        refine ⟨v, vc, k1, b3, fun K' => ?_, ?_⟩
        · unfold ldK; rw [er, ht, hi]
          cases dd <;> first | exact (hn1 _ rfl).elim | exact (hn2 _ _ rfl).elim | (simp only [hv]; exact k2 K')
        · have hag : (isAgg t).run P w = .ok false w := by
            cases dd <;> first | exact (hn1 _ rfl).elim | exact (hn2 _ _ rfl).elim | simp [isAgg, run_underlying ht]
          simp [Instr.loadAt, Instr.sureAddr, loadVar, hag, b2]
      · cases h
    · cases h

/-- A slice's cells. -/
theorem seen_ok {z n : Nat} {a : SA} {xc : Value} {K : List AV → Bool} (hx : VR ρ (.sl a n) xc) (h : seenK σ z a n K = true) :
    ∃ vs : List Value, ∃ ys, K ys = true ∧ VRs ρ ys vs ∧ (∀ K', seenK σ z a n K' = K' ys) ∧ vs.length = n * z ∧ (∀ u ∈ vs, u.oneCell' = true) ∧
      ((∃ ad cap, xc = .slice (some ad) n cap ∧ (loadCells ad (n * z)).run P w = .ok vs.toArray w ∧ ∀ (j : Nat) u, vs[j]? = some u → w.cell? (ad.add j) = some u) ∨ (xc = .slice none 0 0 ∧ n = 0)) := by
  have zero : ∀ ad, xc = .slice (some ad) 0 0 → n = 0 → ∀ ys, ys = ([] : List AV) → K ys = true → (∀ K', seenK σ z a n K' = K' ys) →
      ∃ vs : List Value, ∃ ys, K ys = true ∧ VRs ρ ys vs ∧ (∀ K', seenK σ z a n K' = K' ys) ∧ vs.length = n * z ∧ (∀ u ∈ vs, u.oneCell' = true) ∧
      ((∃ ad cap, xc = .slice (some ad) n cap ∧ (loadCells ad (n * z)).run P w = .ok vs.toArray w ∧ ∀ (j : Nat) u, vs[j]? = some u → w.cell? (ad.add j) = some u) ∨ (xc = .slice none 0 0 ∧ n = 0)) := by
    rintro ad rfl rfl ys rfl hK hK'
    exact ⟨[], [], hK, .nil, hK', by simp, fun u hu => by simp at hu, .inl ⟨ad, 0, rfl, by simp [loadCells, loadCellsFrom], fun j u hj => by simp at hj⟩⟩
  cases a with
  | nil => cases hx; exact ⟨[], [], h, .nil, fun K' => rfl, by simp, fun u hu => by simp at hu, .inr ⟨rfl, rfl⟩⟩
  | zero => cases hx; exact zero _ rfl rfl [] rfl h fun K' => rfl
  | «at» id off z₂ =>
    unfold seenK at h
    obtain ⟨xs, z', md, hs, h, er⟩ := rowK_of h
    cases hc : (z₂ == z && decide (off + n * z ≤ xs.length)) with
    | false => rw [hc] at h; cases h
    | true =>
      rw [hc, cond_true] at h
      have hK : ∀ K', seenK σ z (.at id off z₂) n K' = K' ((xs.drop off).take (n * z)) := fun K' => by
        show rowK σ id _ = _
        rw [er, hc, cond_true]
      simp only [Bool.and_eq_true, beq_iff_eq, decide_eq_true_eq] at hc
      obtain ⟨rfl, hfit⟩ := hc
      cases hx with
      | @sl _ _ _ _ cap cs c hl hcm h1 h2 h3 h4 =>
        have hcr := (hsim.cells hl hs).2.2.1 c hcm
        obtain ⟨vs, e1, e2, e3, e4⟩ := hcr.list (off := off) (n := n * z₂) h1 h2
        exact ⟨vs, _, h, e2, hK, e1, e4, .inl ⟨_, cap, rfl, run_loadCells_of e1 e3, fun j u hj => by rw [Addr.add_none]; exact e3 j u hj⟩⟩
      | slEnd ad hl => exact zero ad rfl rfl _ (by simp) h hK

omit hsim in
omit [Grade] in
theorem bytesOf_ok {ys : List AV} {vs : List Value} {K : List Int → Bool} (hv : VRs ρ ys vs) (h : bytesOf ys K = true) :
    ∃ ns : List Int, vs = ns.map (Value.int .u8) ∧ K (ns.map fun n => ((n.toNat % 256 : Nat) : Int)) = true ∧ ∀ K', bytesOf ys K' = K' (ns.map fun n => ((n.toNat % 256 : Nat) : Int)) := by
  induction ys generalizing vs K with
  | nil => obtain rfl := hv.inv_nil; exact ⟨[], rfl, h, fun K' => rfl⟩
  | cons y ys ih =>
    obtain ⟨vc, vs', rfl, hy, hv'⟩ := hv.inv_cons
    unfold bytesOf at h
    split at h
    · rename_i he; cases he
    · rename_i n vs2 he
      obtain ⟨rfl, rfl⟩ := List.cons.inj he
      obtain rfl := hy.of_int
      obtain ⟨ns, rfl, h1, h2⟩ := ih hv' h
      exact ⟨n :: ns, rfl, h1, fun K' => by rw [bytesOf]; exact h2 _⟩
    · cases h

end
end Go.AM
namespace Go.AM
open Go Go.RowKit
variable [Grade]

omit [Grade] in
theorem run_getObj_of {P : Program} {w : World} {r : Nat} {o : Obj} (h : w.heap[r]? = some o) (ho : ∀ c t f, o ≠ .cells c t f) : (getObj r).run P w = .ok o w := by
  unfold getObj
  simp only [Sem.run, h]


/-- What a map holds. -/
def Holds (w : World) (mc : Value) (ces : Array MapEntry) : Prop := (mc = .map none ∧ ces = #[]) ∨ ∃ r clock, mc = .map (some r) ∧ w.heap[r]? = some (.map ces clock)

omit [Grade] in
theorem run_lookup_hit {P : Program} {w : World} {mc kc : Value} {ces : Array MapEntry} (h : Holds w mc ces) {t kt et : TypeId} (ht : P.underlying t = some (.map kt et))
    (hf : KFit P kt kc) {j : Nat} {v : Value} (hn : (Instr.findKey kt kc ces.toList).run P w = .ok (some (j, v)) w) (ok : Bool) :
    (Instr.lookup t mc kc ok).run P w = .ok (if ok then .tuple #[v, .bool true] else v) w := by
  have hck : ∀ b, (Instr.checkKey b 10000 kt kc).run P w = .ok () w := fun b => checkKey_ok hf b w
  rcases h with ⟨rfl, rfl⟩ | ⟨r, clock, rfl, hw⟩
  · simp only [Instr.lookup, Sem.run_bind, run_underlying ht, Result.andThen_ok, Sem.run_pure, hck, hn]
  · simp only [Instr.lookup, Sem.run_bind, run_underlying ht, Result.andThen_ok, run_getObj_of hw (by simp), Sem.run_pure, hck, hn]

omit [Grade] in
theorem run_lookup_miss {P : Program} {w : World} {mc kc : Value} {ces : Array MapEntry} (h : Holds w mc ces) {t kt et : TypeId} (ht : P.underlying t = some (.map kt et))
    (hf : KFit P kt kc) (hn : (Instr.findKey kt kc ces.toList).run P w = .ok none w) {z : Value} (hz : (zeroValue et).run P w = .ok z w) (ok : Bool) :
    (Instr.lookup t mc kc ok).run P w = .ok (if ok then .tuple #[z, .bool false] else z) w := by
  have hck : ∀ b, (Instr.checkKey b 10000 kt kc).run P w = .ok () w := fun b => checkKey_ok hf b w
  rcases h with ⟨rfl, rfl⟩ | ⟨r, clock, rfl, hw⟩
  · simp only [Instr.lookup, Sem.run_bind, run_underlying ht, Result.andThen_ok, Sem.run_pure, hck, hn, hz]
  · simp only [Instr.lookup, Sem.run_bind, run_underlying ht, Result.andThen_ok, run_getObj_of hw (by simp), Sem.run_pure, hck, hn, hz]

section
variable {P : Program} {B : Nat} {w0 : World} {ρ : Rho} {σ : H} {w : World} (hsim : Sim B w0 ρ σ w)
include hsim

theorem Sim.map {id r : Nat} {es : List ME} {clock : Nat} (hl : ρ id = some (.obj r)) (hs : σ[id]? = some (.map es clock)) :
    ∃ ces : Array MapEntry, B ≤ r ∧ w.heap[r]? = some (.map ces clock) ∧ EntR ρ es ces.toList := by
  obtain ⟨o, ho, hr⟩ := hsim.obj id _ hl
  rw [hs] at ho
  obtain rfl := Option.some.inj ho
  obtain ⟨h1, ces, h2, h3, h4⟩ := hr
  exact ⟨ces, h1, h2, by rw [Array.length_toList]; exact h3, fun i e ce a b => h4 i e ce a (by simpa using b)⟩

theorem lookup_ok {m k : AV} {mc kc : Value} (hm : VR ρ m mc) (hk : VR ρ k kc) (t : TypeId) (ok : Bool) : ReadOK P ρ w (lookupK P t σ m k ok) (Instr.lookup t mc kc ok) := by
  intro K h
  unfold lookupK at h
  split at h
  · rename_i kt et r ht
    cases hko : keyOkT P kt with
    | false => rw [hko] at h; cases h
    | true =>
      rw [hko, cond_true] at h
      have hf := key_fits hk hko h
      obtain ⟨h, ek⟩ := castT_of h
      -- what the map holds
      have ent : ∃ es, (∃ ces : Array MapEntry, EntR ρ es ces.toList ∧ Holds w mc ces) ∧
          (findK k es 0 fun i => match i with
            | some i => (match es[i]? with | some e => castT P et e.val fun v => K (bif ok then .tup [v, .bool true] else v) | none => false)
            | none => zeroK P et fun z => K (bif ok then .tup [z, .bool false] else z)) = true ∧ ∀ K', mapK σ r K' = K' es := by
        cases r with
        | none =>
          cases hm
          exact ⟨[], ⟨#[], ⟨rfl, fun i e ce a => by simp at a⟩, .inl ⟨rfl, rfl⟩⟩, h, fun K' => rfl⟩
        | some id =>
          unfold mapK at h
          simp only at h
          split at h
          · rename_i es clock hs
            cases hm with
            | map hl =>
              obtain ⟨ces, _, hw, he⟩ := Sim.map hsim hl hs
              exact ⟨es, ⟨ces, he, .inr ⟨_, _, rfl, hw⟩⟩, h, fun K' => by unfold mapK; simp only [hs]⟩
          · cases h
      obtain ⟨es, ⟨ces, he, hrun⟩, h, em⟩ := ent
      obtain ⟨r', h, ef, hr⟩ := find_hit (P := P) w hk hf he h
      have hfin : ∀ v vc, VR ρ v vc → ∀ b : Bool, VR ρ (bif ok then AV.tup [v, .bool b] else v) (if ok then .tuple #[vc, .bool b] else vc) := fun v vc hv b => by
        cases ok with
        | true => exact VR.mk_tup (.cons hv (.cons (.bool b) .nil))
        | false => exact hv
      have hKK : ∀ K', lookupK P t σ (.map r) k ok K' = (match r' with
            | some i => (match es[i]? with | some e => castT P et e.val fun v => K' (bif ok then .tup [v, .bool true] else v) | none => false)
            | none => zeroK P et fun z => K' (bif ok then .tup [z, .bool false] else z)) := fun K' => by
        simp only [lookupK, ht, hko, cond_true]
        rw [ek, em, ef]
        cases r' with
        | none => rfl
        | some i => cases hq : es[i]? <;> simp only [hq]
      rcases hr with ⟨rfl, hn⟩ | ⟨j, e', ce, rfl, hes', hce, _, _, hn⟩
      · simp only at h
        obtain ⟨z, zc, h, hz, ez, hzr, _⟩ := zeroK_of (ρ := ρ) h
        refine ⟨_, _, h, hfin z zc hz false, fun K' => by rw [hKK]; simp only; rw [ez], run_lookup_miss hrun ht hf hn (hzr w) ok⟩
      · simp only at h hKK
        split at h
        · rename_i e hes
          obtain ⟨h, ec⟩ := castT_of h
          obtain ⟨_, hv, _⟩ := he.2 j e ce hes hce
          refine ⟨_, _, h, hfin e.val ce.val hv true, fun K' => by rw [hKK]; simp only [hes]; rw [ec], run_lookup_hit hrun ht hf hn ok⟩
        · cases h
  · cases h

end
end Go.AM
namespace Go.AM
open Go Go.RowKit
variable [Grade]

omit [Grade] in
theorem find_ent {ρ : Rho} (b : Nat) : ∀ {es : List ME} {ces : List MapEntry} {e : ME}, EntR ρ es ces → es.find? (fun e => e.born == b) = some e →
    ∃ ce, ces.find? (fun e => e.born == b) = some ce ∧ VR ρ e.key ce.key ∧ VR ρ e.val ce.val
  | [], ces, e, he, h => by simp at h
  | x :: es, ces, e, he, h => by
    obtain ⟨ce, ces', rfl, h1, h2, h3, h4⟩ := he.inv_cons
    rw [List.find?_cons] at h ⊢
    rw [← h3]
    cases hx : (x.born == b) with
    | true => rw [hx] at h; obtain rfl := Option.some.inj h; exact ⟨ce, rfl, h1, h2⟩
    | false => rw [hx] at h; exact find_ent b h4 h

section
variable {P : Program} {B : Nat} {w0 : World} {ρ : Rho} {σ : H} {w : World} (hsim : Sim B w0 ρ σ w)
include hsim

theorem Sim.miter {id r m : Nat} {since : Nat} {seen : List Nat} {last : Nat} (hl : ρ id = some (.obj r)) (hs : σ[id]? = some (.miter (some m) since seen last)) :
    ∃ rm, B ≤ r ∧ ρ m = some (.obj rm) ∧ w.heap[r]? = some (.mapIter (some rm) since seen.toArray last) := by
  obtain ⟨o, ho, hr⟩ := hsim.obj id _ hl
  rw [hs] at ho
  obtain rfl := Option.some.inj ho
  obtain ⟨h1, rm, h2, h3⟩ := hr
  exact ⟨rm, h1, h2, h3⟩

theorem read_sound (o : Oper) {e : Operand → AV} {ec : Operand → Value} (he : EvR ρ e ec o.op) (hk : kindOf P o.op = .read) (K : AV → Bool)
    (h : readK P o.op e σ K = true) : ∃ v vc, K v = true ∧ VR ρ v vc ∧ (∀ K', readK P o.op e σ K' = K' v) ∧ (execOp ec o).run P w = .ok (.value vc) w := by
  obtain ⟨dst, op, ty, pos, after, guard⟩ := o
  simp only at he hk h ⊢
  unfold readK at h
  split at h
  · rename_i t a
    have ha := he a (by simp [Op.operands])
    split at h
    · rename_i p hp
      rw [hp] at ha
      obtain ⟨v, vc, h1, h2, h3, h4⟩ := ld_ok hsim ha t K h
      exact ⟨v, vc, h1, h2, fun K' => by simp only [readK, hp]; exact h3 K', by simp [execOp, h4]⟩
    · cases h
  · rename_i t m k ok
    obtain ⟨v, vc, h1, h2, h3, h4⟩ := lookup_ok hsim (he m (by simp [Op.operands])) (he k (by simp [Op.operands])) t ok K h
    exact ⟨v, vc, h1, h2, fun K' => by simp only [readK]; exact h3 K', by simp [execOp, h4]⟩
  · rename_i s d x
    have hx := he x (by simp [Op.operands])
    split at h
    · rename_i el a n hs hd ha
      rw [ha] at hx
      split at h
      · rename_i hel
        obtain ⟨vs, ys, h, hv, ek, hl, h1, hcase⟩ := seen_ok hsim hx h
        obtain ⟨ns, rfl, h, eb⟩ := bytesOf_ok hv h
        have hK : ∀ K', readK P (.convert s d x) e σ K' = K' (.str (ns.map fun n => ((n.toNat % 256 : Nat) : Int))) := fun K' => by
          simp only [readK, hs, hd, ha, hel]; rw [ek, eb]
        have hb : bytesL (ns.foldl (fun r n => r.push (UInt8.ofNat n.toNat)) ByteArray.empty) = ns.map fun n => ((n.toNat % 256 : Nat) : Int) := by
          have : ∀ (ns : List Int) (s : ByteArray), bytesL (ns.foldl (fun r n => r.push (UInt8.ofNat n.toNat)) s) = bytesL s ++ ns.map fun n => ((n.toNat % 256 : Nat) : Int) := by
            intro ns
            induction ns with
            | nil => intro s; simp
            | cons n ns ih =>
              intro s
              rw [List.foldl_cons, ih]
              have hp : bytesL (s.push (UInt8.ofNat n.toNat)) = bytesL s ++ [((n.toNat % 256 : Nat) : Int)] := by
                unfold bytesL
                show List.map _ (s.data.push _).toList = _
                rw [Array.toList_push, List.map_append]
                simp
              rw [hp]; simp
          have h0 := this ns ByteArray.empty
          rw [h0]
          rfl
        rcases hcase with ⟨ad, cap, hxc, hload, _⟩ | ⟨hxc, rfl⟩
        · refine ⟨_, .string _, h, by rw [← hb]; exact .str _, hK, ?_⟩
          rw [Nat.mul_one] at hload
          have := run_bytesToString (P := P) w ad n cap ns hload
          simp [execOp, hxc, run_convert_bytes_string w s d el _ _ _ hs hel hd, this]
        · have hns : ns = [] := by
            have := hl; simp at this; exact this
          subst hns
          refine ⟨_, .string ByteArray.empty, h, .str ByteArray.empty, hK, ?_⟩
          simp [execOp, hxc, run_convert_bytes_string w s d el _ _ _ hs hel hd, Conv.bytesToString]
      · cases h
    · cases h
  · rename_i it
    have hi := he it (by simp [Op.operands])
    split at h
    · rename_i id hid
      rw [hid] at hi
      split at h
      · rename_i m since seen last hs
        split at h
        · rename_i es clock b hm hb
          cases hc : (clock == last) with
          | false => rw [hc] at h; cases h
          | true =>
            rw [hc, cond_true] at h
            split at h
            · rename_i en hen
              generalize hxc : ec it = xc at hi
              cases hi with
              | iter hl =>
                obtain ⟨rm, _, hlm, hw⟩ := Sim.miter hsim hl hs
                obtain ⟨ces, _, hwm, hent⟩ := Sim.map hsim hlm hm
                obtain ⟨ce, hce, h2, h3⟩ := find_ent b hent hen
                refine ⟨_, .tuple #[ce.key, ce.val], h, VR.mk_tup (.cons h2 (.cons h3 .nil)), fun K' => by simp only [readK, hid, hs, hm, hb, hc, cond_true, hen], ?_⟩
                have hcl : clock = last := by simpa using hc
                have hbk : (seen.toArray).back? = some b := by rw [List.back?_toArray]; exact hb
                have hfd : ces.find? (fun e => e.born == b) = some ce := by rw [← Array.find?_toList]; exact hce
                simp [execOp, hxc, Instr.entry, run_getObj_of hw (by simp), run_getObj_of hwm (by simp), hbk, hcl, hfd]
            · cases h
        · cases h
      · cases h
    · cases h
  · rename_i args argTypes
    split at h
    · rename_i x ha
      have ha' : args = #[x] := by apply Array.ext'; rw [ha]
      subst ha'
      have hx := he x (by simp [Op.operands, Call.operands])
      split at h
      · rename_i r hr
        rw [hr] at hx
        -- the type: a map's
        have htm : ∃ t, argTypes[0]? = some t ∧ isMapT P t = true := by
          unfold kindOf at hk
          cases h0 : argTypes[0]? with
          | none => simp [h0] at hk
          | some t =>
            refine ⟨t, rfl, ?_⟩
            cases hm : isMapT P t with
            | true => rfl
            | false => simp [h0, hm] at hk
        obtain ⟨t, h0, htm⟩ := htm
        unfold isMapT at htm
        split at htm
        · rename_i kt et ht
          cases r with
          | none =>
            generalize hxc : ec x = xc at hx
            cases hx
            refine ⟨_, .int .i64 0, h, .int .i64 0, fun K' => by simp only [readK, hr]; rfl, ?_⟩
            simp [execOp, resolve, invoke, builtin, Builtin.len_, h0, hxc, run_underlying ht, goInt]
          | some id =>
            unfold mapK at h
            simp only at h
            split at h
            · rename_i es clock hs
              generalize hxc : ec x = xc at hx
              cases hx with
              | map hl =>
                obtain ⟨ces, _, hw, hent⟩ := Sim.map hsim hl hs
                refine ⟨_, .int .i64 es.length, h, .int .i64 _, fun K' => by simp only [readK, hr, mapK, hs], ?_⟩
                have hsz : ces.size = es.length := by rw [← Array.length_toList]; exact hent.1.symm
                simp [execOp, resolve, invoke, builtin, Builtin.len_, h0, hxc, run_underlying ht, goInt, run_getObj_of hw (by simp), hsz]
            · cases h
        · cases htm
      · cases h
    · cases h
  · cases h

end
end Go.AM
