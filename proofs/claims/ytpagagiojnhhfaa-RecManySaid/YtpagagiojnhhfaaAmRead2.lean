/- Maps, read; and every operation that reads. -/
import Derived.Test.YtpagagiojnhhfaaAmRead
namespace Go.AM
open Go Go.RowKit

theorem beq_bytes (a b : ByteArray) : (bytesL a == bytesL b) = (a == b) := by
  have e : ∀ x y : Array UInt8, ((ByteArray.mk x) == (ByteArray.mk y)) = (x == y) := fun _ _ => rfl
  cases a with
  | mk x =>
    cases b with
    | mk y =>
      rw [bytesL_eq, ByteArray.toList_eq, ByteArray.toList_eq, e, Bool.eq_iff_iff]
      simp only [beq_iff_eq]
      exact ⟨fun h => Array.ext' h, fun h => by rw [h]⟩

def EntR (ρ : Rho) (es : List ME) (ces : List MapEntry) : Prop :=
  es.length = ces.length ∧ ∀ (i : Nat) e ce, es[i]? = some e → ces[i]? = some ce → VR ρ e.key ce.key ∧ VR ρ e.val ce.val ∧ e.born = ce.born
theorem EntR.inv_cons {ρ : Rho} {e : ME} {es : List ME} {ces : List MapEntry} (h : EntR ρ (e :: es) ces) :
    ∃ ce ces', ces = ce :: ces' ∧ VR ρ e.key ce.key ∧ VR ρ e.val ce.val ∧ e.born = ce.born ∧ EntR ρ es ces' := by
  cases ces with
  | nil => exact absurd h.1 (by simp)
  | cons ce ces' =>
    obtain ⟨a, b, c⟩ := h.2 0 e ce rfl rfl
    exact ⟨ce, ces', rfl, a, b, c, by have := h.1; simpa using this, fun i x y p q => h.2 (i + 1) x y (by simpa using p) (by simpa using q)⟩
theorem EntR.inv_nil {ρ : Rho} {ces : List MapEntry} (h : EntR ρ [] ces) : ces = [] := by
  cases ces with
  | nil => rfl
  | cons a b => exact absurd h.1 (by simp)

/-- A key fits a type. -/
def KeyFits (d : TypeDesc) (kc : Value) : Prop :=
  match d, kc with
  | .int k, .int k' _ => k' = k
  | .bool, .bool _ => True
  | .string, .string _ => True
  | _, _ => False

theorem key_fits {P : Program} {ρ : Rho} {t : TypeId} {k : AV} {kc : Value} (hk : VR ρ k kc) (ht : keyOkT P t = true) {K : AV → Bool} (h : castT P t k K = true) :
    ∃ d, P.underlying t = some d ∧ KeyFits d kc := by
  unfold keyOkT at ht
  split at ht
  · rename_i d hd
    refine ⟨d, hd, ?_⟩
    unfold castT at h
    rw [hd] at h
    cases d <;> simp only [plainLeaf] at ht <;> first | (cases ht; done) | skip
    · cases k <;> simp only [castLeaf, asBool] at h <;> first | (cases h; done) | skip
      obtain rfl := hk.of_bool; trivial
    · rename_i kk
      cases k <;> simp only [castLeaf, asInt] at h <;> first | (cases h; done) | skip
      rename_i k' n
      obtain rfl := hk.of_int
      cases hq : (k' == kk) with
      | false => rw [hq] at h; cases h
      | true => show k' = kk; simpa using hq
    · cases k <;> simp only [castLeaf, asStr] at h <;> first | (cases h; done) | skip
      obtain ⟨b, rfl, _⟩ := hk.of_str; trivial
  · cases ht

theorem checkKey_ok {P : Program} {d : TypeDesc} {t : TypeId} {kc : Value} (hd : P.underlying t = some d) (hf : KeyFits d kc) (b : Bool) (n : Nat) (w : World) :
    (Instr.checkKey b (n + 1) t kc).run P w = .ok () w := by
  cases d <;> cases kc <;> simp only [KeyFits] at hf <;> first | exact hf.elim | simp [Instr.checkKey, run_underlying hd]

theorem sameNow_ok {ρ : Rho} {d : TypeDesc} {k k' : AV} {kc kc' : Value} (hk : VR ρ k kc) (hk' : VR ρ k' kc') (hf : KeyFits d kc) {b : Bool} (h : keyEq k k' = some b) :
    Instr.sameNow d kc kc' = some b := by
  unfold keyEq at h
  split at h
  · rename_i j a j' a'
    obtain rfl := hk.of_int
    obtain rfl := hk'.of_int
    cases hj : (j == j') with
    | false => rw [hj] at h; cases h
    | true =>
      rw [hj, cond_true] at h
      cases d <;> simp only [KeyFits] at hf
      simp only [Instr.sameNow, if_pos (by simpa using hj : j = j')]
      exact h
  · obtain ⟨x, rfl, rfl⟩ := hk.of_str
    obtain ⟨y, rfl, rfl⟩ := hk'.of_str
    rw [beq_bytes] at h
    cases d <;> simp only [KeyFits] at hf
    exact h
  · obtain rfl := hk.of_bool
    obtain rfl := hk'.of_bool
    cases d <;> simp only [KeyFits] at hf
    exact h
  · cases h

theorem find_ok {ρ : Rho} {d : TypeDesc} {k : AV} {kc : Value} (hk : VR ρ k kc) (hf : KeyFits d kc) : ∀ {es : List ME} {ces : List MapEntry} {i : Nat} {K : Option Nat → Bool},
    EntR ρ es ces → findK k es i K = true → ∃ r, K r = true ∧ (∀ K', findK k es i K' = K' r) ∧
      ((r = none ∧ Instr.findNow d kc ces i = some none) ∨ ∃ j ce, r = some (i + j) ∧ ces[j]? = some ce ∧ Instr.findNow d kc ces i = some (some (i + j, ce.val)))
  | [], ces, i, K, he, h => by obtain rfl := he.inv_nil; exact ⟨none, h, fun K' => rfl, .inl ⟨rfl, rfl⟩⟩
  | e :: es, ces, i, K, he, h => by
    obtain ⟨ce, ces', rfl, h1, h2, h3, h4⟩ := he.inv_cons
    unfold findK at h
    split at h
    · rename_i b hb
      have hs := sameNow_ok hk h1 hf hb
      cases b with
      | true => exact ⟨some i, h, fun K' => by rw [findK, hb]; rfl, .inr ⟨0, ce, rfl, rfl, by rw [Instr.findNow, hs]; rfl⟩⟩
      | false =>
        rw [cond_false] at h
        obtain ⟨r, r1, r2, r3⟩ := find_ok hk hf h4 h
        refine ⟨r, r1, fun K' => by rw [findK, hb]; exact r2 K', ?_⟩
        have hn : Instr.findNow d kc (ce :: ces') i = Instr.findNow d kc ces' (i + 1) := by rw [Instr.findNow, hs]
        rcases r3 with ⟨ra, rb⟩ | ⟨j, ce', ra, rb, rc⟩
        · exact .inl ⟨ra, hn.trans rb⟩
        · exact .inr ⟨j + 1, ce', by rw [ra]; congr 1; omega, by simpa using rb, by rw [hn, rc, show i + 1 + j = i + (j + 1) by omega]⟩
    · cases h

theorem run_getObj_of {P : Program} {w : World} {r : Nat} {o : Obj} (h : w.heap[r]? = some o) (ho : ∀ c t f, o ≠ .cells c t f) : (getObj r).run P w = .ok o w := by
  unfold getObj
  simp only [Sem.run, h]


/-- What a map holds. -/
def Holds (w : World) (mc : Value) (ces : Array MapEntry) : Prop := (mc = .map none ∧ ces = #[]) ∨ ∃ r clock, mc = .map (some r) ∧ w.heap[r]? = some (.map ces clock)

theorem run_lookup_hit {P : Program} {w : World} {mc kc : Value} {ces : Array MapEntry} (h : Holds w mc ces) {t kt et : TypeId} {d : TypeDesc} (ht : P.underlying t = some (.map kt et))
    (hd : P.underlying kt = some d) (hf : KeyFits d kc) {j : Nat} {v : Value} (hn : Instr.findNow d kc ces.toList 0 = some (some (j, v))) (ok : Bool) :
    (Instr.lookup t mc kc ok).run P w = .ok (if ok then .tuple #[v, .bool true] else v) w := by
  have hck : ∀ b, (Instr.checkKey b 10000 kt kc).run P w = .ok () w := fun b => checkKey_ok hd hf b 9999 w
  rcases h with ⟨rfl, rfl⟩ | ⟨r, clock, rfl, hw⟩
  · simp only [Instr.lookup, Sem.run_bind, run_underlying ht, Result.andThen_ok, Sem.run_pure, hck, Instr.findKey, run_underlying hd, hn]
  · simp only [Instr.lookup, Sem.run_bind, run_underlying ht, Result.andThen_ok, run_getObj_of hw (by simp), Sem.run_pure, hck, Instr.findKey, run_underlying hd, hn]

theorem run_lookup_miss {P : Program} {w : World} {mc kc : Value} {ces : Array MapEntry} (h : Holds w mc ces) {t kt et : TypeId} {d : TypeDesc} (ht : P.underlying t = some (.map kt et))
    (hd : P.underlying kt = some d) (hf : KeyFits d kc) (hn : Instr.findNow d kc ces.toList 0 = some none) {z : Value} (hz : (zeroValue et).run P w = .ok z w) (ok : Bool) :
    (Instr.lookup t mc kc ok).run P w = .ok (if ok then .tuple #[z, .bool false] else z) w := by
  have hck : ∀ b, (Instr.checkKey b 10000 kt kc).run P w = .ok () w := fun b => checkKey_ok hd hf b 9999 w
  rcases h with ⟨rfl, rfl⟩ | ⟨r, clock, rfl, hw⟩
  · simp only [Instr.lookup, Sem.run_bind, run_underlying ht, Result.andThen_ok, Sem.run_pure, hck, Instr.findKey, run_underlying hd, hn, hz]
  · simp only [Instr.lookup, Sem.run_bind, run_underlying ht, Result.andThen_ok, run_getObj_of hw (by simp), Sem.run_pure, hck, Instr.findKey, run_underlying hd, hn, hz]

section
variable {P : Program} {B : Nat} {w0 : World} {ρ : Rho} {σ : H} {w : World} (hsim : Sim B w0 ρ σ w)
include hsim

theorem Sim.map {id r : Nat} {es : List ME} {clock : Nat} (hl : ρ id = some (.obj r)) (hs : σ[id]? = some (.map es clock)) :
    ∃ ces : Array MapEntry, B ≤ r ∧ w.heap[r]? = some (.map ces clock) ∧ EntR ρ es ces.toList := by
  obtain ⟨o, ho, hr⟩ := hsim.obj id _ hl
  rw [hs] at ho
  obtain rfl := Option.some.inj ho
  obtain ⟨h1, ces, h2, h3, h4⟩ := hr
  exact ⟨ces, h1, h2, by rw [Array.length_toList]; exact h3, fun i e ce a b => h4 i e ce a (by simpa using b)⟩

theorem lookup_ok {m k : AV} {mc kc : Value} (hm : VR ρ m mc) (hk : VR ρ k kc) (t : TypeId) (ok : Bool) : ReadOK P ρ w (lookupK P t σ m k ok) (Instr.lookup t mc kc ok) := by
  intro K h
  unfold lookupK at h
  split at h
  · rename_i kt et r ht
    cases hko : keyOkT P kt with
    | false => rw [hko] at h; cases h
    | true =>
      rw [hko, cond_true] at h
      obtain ⟨d, hd, hf⟩ := key_fits hk hko h
      obtain ⟨h, ek⟩ := castT_of h
      -- what the map holds
      have ent : ∃ es, (∃ ces : Array MapEntry, EntR ρ es ces.toList ∧ Holds w mc ces) ∧
          (findK k es 0 fun i => match i with
            | some i => (match es[i]? with | some e => castT P et e.val fun v => K (bif ok then .tup [v, .bool true] else v) | none => false)
            | none => zeroK P et fun z => K (bif ok then .tup [z, .bool false] else z)) = true ∧ ∀ K', mapK σ r K' = K' es := by
        cases r with
        | none =>
          cases hm
          exact ⟨[], ⟨#[], ⟨rfl, fun i e ce a => by simp at a⟩, .inl ⟨rfl, rfl⟩⟩, h, fun K' => rfl⟩
        | some id =>
          unfold mapK at h
          simp only at h
          split at h
          · rename_i es clock hs
            cases hm with
            | map hl =>
              obtain ⟨ces, _, hw, he⟩ := Sim.map hsim hl hs
              exact ⟨es, ⟨ces, he, .inr ⟨_, _, rfl, hw⟩⟩, h, fun K' => by unfold mapK; simp only [hs]⟩
          · cases h
      obtain ⟨es, ⟨ces, he, hrun⟩, h, em⟩ := ent
      obtain ⟨r', h, ef, hr⟩ := find_ok hk hf he h
      have hfin : ∀ v vc, VR ρ v vc → ∀ b : Bool, VR ρ (bif ok then AV.tup [v, .bool b] else v) (if ok then .tuple #[vc, .bool b] else vc) := fun v vc hv b => by
        cases ok with
        | true => exact VR.mk_tup (.cons hv (.cons (.bool b) .nil))
        | false => exact hv
      have hKK : ∀ K', lookupK P t σ (.map r) k ok K' = (match r' with
            | some i => (match es[i]? with | some e => castT P et e.val fun v => K' (bif ok then .tup [v, .bool true] else v) | none => false)
            | none => zeroK P et fun z => K' (bif ok then .tup [z, .bool false] else z)) := fun K' => by
        simp only [lookupK, ht, hko, cond_true]
        rw [ek, em, ef]
        cases r' with
        | none => rfl
        | some i => cases hq : es[i]? <;> simp only [hq]
      rcases hr with ⟨rfl, hn⟩ | ⟨j, ce, rfl, hce, hn⟩
      · simp only at h
        obtain ⟨z, zc, h, hz, ez, hzr, _⟩ := zeroK_of (ρ := ρ) h
        refine ⟨_, _, h, hfin z zc hz false, fun K' => by rw [hKK]; simp only; rw [ez], run_lookup_miss hrun ht hd hf hn (hzr w) ok⟩
      · simp only [Nat.zero_add] at h hn hKK
        split at h
        · rename_i e hes
          obtain ⟨h, ec⟩ := castT_of h
          obtain ⟨_, hv, _⟩ := he.2 j e ce hes hce
          refine ⟨_, _, h, hfin e.val ce.val hv true, fun K' => by rw [hKK]; simp only [hes]; rw [ec], run_lookup_hit hrun ht hd hf hn ok⟩
        · cases h
  · cases h

end
end Go.AM
