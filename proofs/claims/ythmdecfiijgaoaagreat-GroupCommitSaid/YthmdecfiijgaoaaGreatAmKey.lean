/- Plain leaves, and structs of them, compared. -/
import Derived.Test.YthmdecfiijgaoaaGreatGmCore
import Derived.WalkSpells
import Derived.Laws.StructEq
namespace Go.AM
open Go Go.RowKit

/-! Casts hand on what they were given. -/
theorem castLeaf_of {d : TypeDesc} {v : AV} {K : AV → Bool} (h : castLeaf d v K = true) : K v = true ∧ ∀ K', castLeaf d v K' = K' v := by
  cases d <;> cases v <;> simp_all [castLeaf, asInt, asBool, asStr, asPtr, asSl, asMap, asFn]

theorem castLeaves_of : ∀ {ds : List TypeDesc} {vs : List AV} {K : List AV → Bool}, castLeaves ds vs K = true → K vs = true ∧ ∀ K', castLeaves ds vs K' = K' vs
  | [], [], K, h => ⟨h, fun K' => rfl⟩
  | d :: ds, v :: vs, K, h => by
    obtain ⟨h1, h2⟩ := castLeaf_of (K := fun v => castLeaves ds vs fun vs => K (v :: vs)) h
    obtain ⟨h3, h4⟩ := castLeaves_of (K := fun vs => K (v :: vs)) h1
    exact ⟨h3, fun K' => by rw [castLeaves, h2 fun v => castLeaves ds vs fun vs => K' (v :: vs)]; exact h4 fun vs => K' (v :: vs)⟩
  | [], _ :: _, K, h => by cases h
  | _ :: _, [], K, h => by cases h


theorem bytes_eq0 (l m : List UInt8) : (l.map (fun b => (b.toNat : Int)) == m.map (fun b => (b.toNat : Int))) = (l == m) := by
  induction l generalizing m with
  | nil => cases m <;> simp
  | cons a l ih =>
    cases m with
    | nil => simp
    | cons b m =>
      simp only [List.map_cons, List.cons_beq_cons, ih]
      congr 1
      rw [Bool.eq_iff_iff]
      simp only [beq_iff_eq]
      constructor
      · intro h; exact UInt8.toNat_inj.1 (by omega)
      · intro h; rw [h]
theorem beq_bytes (a b : ByteArray) : (bytesL a == bytesL b) = (a == b) := by
  have e : ∀ x y : Array UInt8, ((ByteArray.mk x) == (ByteArray.mk y)) = (x == y) := fun _ _ => rfl
  cases a with
  | mk x =>
    cases b with
    | mk y =>
      show (x.toList.map (fun b => (b.toNat : Int)) == y.toList.map (fun b => (b.toNat : Int))) = _
      rw [bytes_eq0, e, Bool.eq_iff_iff]
      simp only [beq_iff_eq]
      exact ⟨fun h => Array.ext' h, fun h => by rw [h]⟩

/-- A plain leaf fits a type. -/
def KeyFits (d : TypeDesc) (kc : Value) : Prop :=
  match d, kc with
  | .int k, .int k' _ => k' = k
  | .bool, .bool _ => True
  | .string, .string _ => True
  | _, _ => False

theorem leaf_fits {ρ : Rho} {d : TypeDesc} {a : AV} {ac : Value} (ha : VR ρ a ac) (hp : plainLeaf d = true) {K : AV → Bool} (h : castLeaf d a K = true) : KeyFits d ac := by
  cases d <;> simp only [plainLeaf] at hp <;> first | (cases hp; done) | skip
  · cases a <;> simp only [castLeaf, asBool] at h <;> first | (cases h; done) | skip
    obtain rfl := ha.of_bool; trivial
  · rename_i kk
    cases a <;> simp only [castLeaf, asInt] at h <;> first | (cases h; done) | skip
    rename_i k' n
    obtain rfl := ha.of_int
    cases hq : (k' == kk) with
    | false => rw [hq] at h; cases h
    | true => show k' = kk; simpa using hq
  · cases a <;> simp only [castLeaf, asStr] at h <;> first | (cases h; done) | skip
    obtain ⟨b, rfl, _⟩ := ha.of_str; trivial

theorem leafEq {P : Program} {ρ : Rho} {d : TypeDesc} {t : TypeId} {a b : AV} {ac bc : Value} {r : Bool} (hd : P.underlying t = some d) (ha : VR ρ a ac) (hb : VR ρ b bc) (hf : KeyFits d ac)
    (h : keyEqLeaf a b = some r) (n : Nat) (w : World) : (Op.equalIn (n + 1) t ac bc).run P w = .ok r w := by
  unfold keyEqLeaf at h
  split at h
  · rename_i j x k y
    obtain rfl := ha.of_int
    obtain rfl := hb.of_int
    cases hj : (j == k) with
    | false => rw [hj] at h; cases h
    | true =>
      rw [hj, cond_true] at h
      obtain rfl := Option.some.inj h
      obtain rfl : j = k := by simpa using hj
      cases d <;> simp only [KeyFits] at hf
      simp [Op.equalIn, run_underlying hd]
  · obtain ⟨x, rfl, rfl⟩ := ha.of_str
    obtain ⟨y, rfl, rfl⟩ := hb.of_str
    rw [beq_bytes] at h
    obtain rfl := Option.some.inj h
    cases d <;> simp only [KeyFits] at hf
    simp [Op.equalIn, run_underlying hd]
  · obtain rfl := ha.of_bool
    obtain rfl := hb.of_bool
    obtain rfl := Option.some.inj h
    cases d <;> simp only [KeyFits] at hf
    simp [Op.equalIn, run_underlying hd]
  · cases h

theorem plainAt_of {P : Program} {t : TypeId} (h : plainAt P t = true) : ∃ d, P.underlying t = some d ∧ plainLeaf d = true := by
  unfold plainAt at h
  split at h
  · exact ⟨_, ‹_›, h⟩
  · cases h
theorem run_part_leaf {P : Program} {t : TypeId} {d : TypeDesc} (hd : P.underlying t = some d) (hp : plainLeaf d = true) {xs : Array Value} {off : Nat} {v : Value} (hx : xs[off]? = some v) (w : World) :
    (part t xs off).run P w = .ok v w := by
  have ha : (isAgg t).run P w = .ok false w := by
    cases d <;> simp only [plainLeaf] at hp <;> first | (cases hp; done) | simp [isAgg, run_underlying hd]
  simp [part, ha, hx]

/-- Values fit fields, one by one. -/
def FitsFs (P : Program) : List Field → List Value → Prop
  | [], [] => True
  | f :: fl, v :: vs => (∃ d, P.underlying f.type = some d ∧ plainLeaf d = true ∧ KeyFits d v) ∧ FitsFs P fl vs
  | _, _ => False

theorem leaves_plain {P : Program} {t : TypeId} {d : TypeDesc} (hd : P.underlying t = some d) (hp : plainLeaf d = true) (n : Nat) : leaves P (n + 1) t = [d] := by
  unfold leaves
  rw [hd]
  cases d <;> simp only [plainLeaf] at hp <;> first | (cases hp; done) | rfl

theorem fits_of_cast {P : Program} {ρ : Rho} : ∀ {fl : List Field} {i : Nat} {as : List AV} {vs : List Value} {K : List AV → Bool}, plainFs P fl i = true → VRs ρ as vs →
    castLeaves (fl.flatMap fun f => leaves P 8 f.type) as K = true → FitsFs P fl vs
  | [], i, as, vs, K, hp, hv, h => by
    cases as with
    | nil => obtain rfl := hv.inv_nil; trivial
    | cons a as => cases h
  | f :: fl, i, as, vs, K, hp, hv, h => by
    simp only [plainFs, Bool.and_eq_true] at hp
    obtain ⟨⟨⟨_, h2⟩, _⟩, h4⟩ := hp
    obtain ⟨d, hd, hpl⟩ := plainAt_of h2
    rw [List.flatMap_cons, leaves_plain hd hpl] at h
    cases as with
    | nil => cases h
    | cons a as =>
      obtain ⟨vc, vs', rfl, ha, hv'⟩ := hv.inv_cons
      have h5 : castLeaf d a (fun v => castLeaves (fl.flatMap fun f => leaves P 8 f.type) as fun vs => K (v :: vs)) = true := h
      exact ⟨⟨d, hd, hpl, leaf_fits ha hpl h5⟩, fits_of_cast h4 hv' (castLeaf_of h5).1⟩

theorem drop_cons {α : Type} {l : List α} {i : Nat} {v : α} {vs : List α} (h : l.drop i = v :: vs) : l[i]? = some v ∧ l.drop (i + 1) = vs := by
  have h1 : l[i]? = some v := by
    have := congrArg (·[0]?) h
    simpa using this
  refine ⟨h1, ?_⟩
  have := congrArg List.tail h
  rwa [List.tail_drop] at this

theorem eqFields_ok {P : Program} {ρ : Rho} (n : Nat) (w : World) (A B : Array Value) : ∀ {fl : List Field} {i : Nat} {as bs : List AV} {va vb : List Value} {r : Bool}, plainFs P fl i = true →
    A.toList.drop i = va → B.toList.drop i = vb → VRs ρ as va → VRs ρ bs vb → FitsFs P fl va → keyEqL as bs = some r → (Op.eqFields (n + 1) A B fl).run P w = .ok r w
  | [], i, as, bs, va, vb, r, hp, hA, hB, ha, hb, hf, h => by
    cases va with
    | cons v va => exact hf.elim
    | nil =>
      have : as = [] := List.length_eq_zero_iff.1 (by rw [ha.1]; rfl)
      subst this
      cases bs with
      | nil => cases h; simp [Op.eqFields]
      | cons b bs => cases h
  | f :: fl, i, as, bs, va, vb, r, hp, hA, hB, ha, hb, hf, h => by
    cases va with
    | nil => exact hf.elim
    | cons v va =>
      obtain ⟨⟨d, hd, hpl, hkf⟩, hf'⟩ := hf
      simp only [plainFs, Bool.and_eq_true, beq_iff_eq, bne_iff_ne, ne_eq] at hp
      obtain ⟨⟨⟨h1, h2⟩, h3⟩, h4⟩ := hp
      cases as with
      | nil => exact absurd ha.1 (by simp)
      | cons a as =>
        cases bs with
        | nil => cases h
        | cons b bs =>
          obtain ⟨vc, va', e, ha1, ha2⟩ := ha.inv_cons
          cases e
          obtain ⟨bc, vb', rfl, hb1, hb2⟩ := hb.inv_cons
          obtain ⟨a1, a2⟩ := drop_cons hA
          obtain ⟨b1, b2⟩ := drop_cons hB
          unfold keyEqL at h
          split at h
          · rename_i x hx
            split at h
            · rename_i y hy
              obtain rfl := Option.some.inj h
              have e1 := run_part_leaf hd hpl (xs := A) (off := f.offset) (v := v) (by rw [h3, ← Array.getElem?_toList]; exact a1) w
              have e2 := run_part_leaf hd hpl (xs := B) (off := f.offset) (v := bc) (by rw [h3, ← Array.getElem?_toList]; exact b1) w
              have e3 := leafEq hd ha1 hb1 hkf hx n w
              have ih := eqFields_ok n w A B h4 a2 b2 ha2 hb2 hf' hy
              simp only [Op.eqFields, h1, ne_eq, not_false_eq_true, if_true, Sem.run_bind, e1, Result.andThen_ok, e2, e3]
              cases x
              · simp
              · simpa using ih
            · cases h
          · cases h

theorem all_zip {α β : Type} (as : Array α) (bs : Array β) (f : α × β → Bool) : (as.toList.zip bs.toList).all f = (as.zip bs).all f := by
  rw [← Array.all_toList, Array.toList_zip]
theorem alikeL_eq (p : Program) : ∀ n t u, alikeL p n t u = p.alikeButTags n t u
  | 0, _, _ => rfl
  | n + 1, t, u => by
    have ih : alikeL p n = p.alikeButTags n := by funext a b; exact alikeL_eq p n a b
    unfold alikeL Program.alikeButTags
    simp only [ih, all_zip]
    congr 1
theorem stood_none {P : Program} {t : TypeId} (h : P.cutTypes.toList.all (fun c => !alikeL P P.depth (P.underlyingId c.2) (P.underlyingId t)) = true) : P.stoodInHeld t = false := by
  have : P.stoodInAs t = [] := by
    unfold Program.stoodInAs
    have hf : (P.cutTypes.toList.filter fun c => P.alikeButTags P.depth (P.underlyingId c.2) (P.underlyingId t)) = [] := by
      rw [List.filter_eq_nil_iff]
      intro c hc
      have := List.all_eq_true.1 h c hc
      rw [alikeL_eq] at this
      simpa using this
    rw [hf]
    split <;> rfl
  unfold Program.stoodInHeld
  rw [this]
  rfl
theorem guard_none {P : Program} : ∀ {fl : List Field} {i d : Nat}, plainFs P fl i = true → (fl.any fun f => f.name != "_" && P.eqGuardType (d + 1) f.type) = false
  | [], _, _, _ => rfl
  | f :: fl, i, d, h => by
    simp only [plainFs, Bool.and_eq_true] at h
    obtain ⟨⟨⟨_, h2⟩, _⟩, h4⟩ := h
    obtain ⟨dd, hd, hpl⟩ := plainAt_of h2
    have : P.eqGuardType (d + 1) f.type = false := by
      unfold Program.eqGuardType
      rw [hd]
      cases dd <;> simp only [plainLeaf] at hpl <;> first | (cases hpl; done) | rfl
    rw [List.any_cons, this, guard_none (d := d) h4]
    simp
theorem plainS_of {P : Program} {t : TypeId} (h : plainS P t = true) : ∃ fs, P.underlying t = some (.struct fs) ∧ plainFs P fs.toList 0 = true ∧ P.stoodInHeld t = false ∧ P.eqGuardType P.depth t = false := by
  unfold plainS at h
  split at h
  · rename_i fs hu
    simp only [Bool.and_eq_true, decide_eq_true_eq] at h
    refine ⟨fs, hu, h.1.1, stood_none h.1.2, ?_⟩
    obtain ⟨d, hd⟩ : ∃ d, P.depth = d + 2 := ⟨P.depth - 2, by omega⟩
    rw [hd, Program.eqGuardType, hu]
    simp only
    rw [← Array.any_toList]
    exact guard_none h.1.1
  · cases h

theorem leaves_struct {P : Program} {t : TypeId} {fs : Array Field} (h : P.underlying t = some (.struct fs)) : leaves P 9 t = fs.toList.flatMap fun f => leaves P 8 f.type := by
  rw [leaves, h]

/-- Two structs of plain leaves. -/
theorem eqStruct {P : Program} {ρ : Rho} {t : TypeId} (hs : plainS P t = true) {as bs : List AV} {A B : Array Value} (ha : VRs ρ as A.toList) (hb : VRs ρ bs B.toList)
    {K : List AV → Bool} (hc : castLeaves (leaves P 9 t) as K = true) {r : Bool} (h : keyEqL as bs = some r) (n : Nat) (w : World) : (Op.equalIn (n + 2) t (.agg A) (.agg B)).run P w = .ok r w := by
  obtain ⟨fs, hu, hp, hst, _⟩ := plainS_of hs
  have hfs : P.fieldsOf t = fs := by unfold Program.fieldsOf; rw [hu]
  rw [run_equalIn_struct w (n + 1) t A B (by rw [hfs]; exact hu) hst, hfs]
  rw [leaves_struct hu] at hc
  exact eqFields_ok n w A B hp rfl rfl ha hb (fits_of_cast hp ha hc) h

/-! Keys. -/
/-- A key fits its type. -/
def KFit (P : Program) (t : TypeId) (kc : Value) : Prop :=
  (∃ d, P.underlying t = some d ∧ KeyFits d kc) ∨ (plainS P t = true ∧ ∃ fs A, P.underlying t = some (.struct fs) ∧ kc = .agg A ∧ FitsFs P fs.toList A.toList)

theorem key_fits {P : Program} {ρ : Rho} {t : TypeId} {k : AV} {kc : Value} (hk : VR ρ k kc) (ht : keyOkT P t = true) {K : AV → Bool} (h : castT P t k K = true) : KFit P t kc := by
  unfold keyOkT at ht
  rw [Bool.or_eq_true] at ht
  rcases ht with ht | ht
  · obtain ⟨d, hd, hp⟩ := plainAt_of ht
    refine .inl ⟨d, hd, ?_⟩
    unfold castT at h
    rw [hd] at h
    have h' : castLeaf d k K = true := by
      cases d <;> simp only [plainLeaf] at hp <;> first | (cases hp; done) | exact h
    exact leaf_fits hk hp h'
  · obtain ⟨fs, hu, hp, hst, hg⟩ := plainS_of ht
    unfold castT at h
    rw [hu] at h
    simp only at h
    cases k <;> simp only [Go.AM.asAgg] at h <;> first | (cases h; done) | skip
    rename_i cs
    obtain ⟨A, rfl, hA⟩ := hk.of_agg
    rw [leaves_struct hu] at h
    exact .inr ⟨ht, fs, A, hu, rfl, fits_of_cast hp hA h⟩

theorem checkKeyLeaf {P : Program} {d : TypeDesc} {t : TypeId} {kc : Value} (hd : P.underlying t = some d) (hf : KeyFits d kc) (b : Bool) (n : Nat) (w : World) :
    (Instr.checkKey b (n + 1) t kc).run P w = .ok () w := by
  cases d <;> cases kc <;> simp only [KeyFits] at hf <;> first | exact hf.elim | simp [Instr.checkKey, run_underlying hd]

theorem fits_mem {P : Program} (A : Array Value) : ∀ {fl : List Field} {i : Nat} {vs : List Value}, plainFs P fl i = true → A.toList.drop i = vs → FitsFs P fl vs →
    ∀ f ∈ fl, f.name ≠ "_" ∧ ∃ v d, A[f.offset]? = some v ∧ P.underlying f.type = some d ∧ plainLeaf d = true ∧ KeyFits d v
  | [], _, _, _, _, _, f, hf => by simp at hf
  | g :: fl, i, vs, hp, hA, hf, f, hm => by
    cases vs with
    | nil => exact hf.elim
    | cons v vs =>
      obtain ⟨⟨d, hd, hpl, hkf⟩, hf'⟩ := hf
      simp only [plainFs, Bool.and_eq_true, beq_iff_eq, bne_iff_ne, ne_eq] at hp
      obtain ⟨⟨⟨h1, h2⟩, h3⟩, h4⟩ := hp
      obtain ⟨a1, a2⟩ := drop_cons hA
      rcases List.mem_cons.1 hm with rfl | hm
      · exact ⟨h1, v, d, by rw [h3, ← Array.getElem?_toList]; exact a1, hd, hpl, hkf⟩
      · exact fits_mem A h4 a2 hf' f hm

theorem run_forIn_units {P : Program} {w : World} {α : Type} : ∀ {L : List α} {body : α → PUnit → Sem (ForInStep PUnit)}, (∀ f ∈ L, (body f ⟨⟩).run P w = .ok (.yield ⟨⟩) w) →
    (forIn L PUnit.unit body).run P w = .ok PUnit.unit w
  | [], body, _ => by simp
  | f :: L, body, h => by
    simp only [List.forIn_cons, Sem.run_bind, h f (by simp), Result.andThen_ok]
    exact run_forIn_units fun g hg => h g (by simp [hg])

theorem checkKey_ok {P : Program} {t : TypeId} {kc : Value} (hf : KFit P t kc) (b : Bool) (w : World) : (Instr.checkKey b 10000 t kc).run P w = .ok () w := by
  rcases hf with ⟨d, hd, hf⟩ | ⟨hs, fs, A, hu, rfl, hf⟩
  · exact checkKeyLeaf hd hf b 9999 w
  · obtain ⟨fs', hu', hp, _, _⟩ := plainS_of hs
    rw [hu] at hu'
    cases hu'
    rw [show (10000 : Nat) = 9999 + 1 from rfl, Instr.checkKey]
    simp only [Sem.run_bind, run_underlying hu, Result.andThen_ok]
    rw [← Array.forIn_toList, run_forIn_units fun f hf' => ?_]
    · rfl
    · obtain ⟨hn, v, d, hv, hd, hpl, hkf⟩ := fits_mem A hp rfl hf f hf'
      have e1 := run_part_leaf hd hpl hv w
      have e2 := checkKeyLeaf hd hkf b 9998 w
      simp [hn, e1, e2]

theorem keyEqLeaf_eq {k k' : AV} (h : keyEqLeaf k k' = some true) : k = k' := by
  unfold keyEqLeaf at h
  split at h
  · rename_i j a j' b
    cases hj : (j == j') with
    | false => rw [hj] at h; cases h
    | true =>
      rw [hj, cond_true] at h
      have h1 : j = j' := by simpa using hj
      have h2 : a = b := by simpa using h
      rw [h1, h2]
  · have := Option.some.inj h; rw [beq_iff_eq.1 this]
  · have := Option.some.inj h; rw [beq_iff_eq.1 this]
  · cases h
theorem keyEqL_eq : ∀ {as bs : List AV}, keyEqL as bs = some true → as = bs
  | [], [], _ => rfl
  | a :: as, b :: bs, h => by
    unfold keyEqL at h
    split at h
    · rename_i x hx
      split at h
      · rename_i y hy
        have := Option.some.inj h
        simp only [Bool.and_eq_true] at this
        obtain ⟨rfl, rfl⟩ := this
        rw [keyEqLeaf_eq hx, keyEqL_eq hy]
      · cases h
    · cases h
  | [], _ :: _, h => by cases h
  | _ :: _, [], h => by cases h
theorem keyEq_eq {k k' : AV} (h : keyEq k k' = some true) : k = k' := by
  unfold keyEq at h
  split at h
  · rw [keyEqL_eq h]
  · exact keyEqLeaf_eq h

theorem sameBits_leaf {ρ : Rho} {a : AV} {ac bc : Value} (ha : VR ρ a ac) (hb : VR ρ a bc) (h : keyEqLeaf a a = some true) (n : Nat) : Instr.sameBits n bc ac = true := by
  unfold keyEqLeaf at h
  split at h
  · obtain rfl := ha.of_int
    obtain rfl := hb.of_int
    cases n <;> simp [Instr.sameBits]
  · obtain ⟨x, rfl, hx⟩ := ha.of_str
    obtain ⟨y, rfl, hy⟩ := hb.of_str
    have : (y == x) = true := by rw [← beq_bytes, hx, hy]; simp
    cases n <;> simpa [Instr.sameBits] using this
  · obtain rfl := ha.of_bool
    obtain rfl := hb.of_bool
    cases n <;> simp [Instr.sameBits]
  · cases h
theorem keyEqL_self : ∀ {as : List AV}, keyEqL as as = some true → ∀ a ∈ as, keyEqLeaf a a = some true
  | [], _, a, ha => by simp at ha
  | x :: as, h, a, ha => by
    unfold keyEqL at h
    split at h
    · rename_i u hu
      split at h
      · rename_i y hy
        have := Option.some.inj h
        simp only [Bool.and_eq_true] at this
        obtain ⟨rfl, rfl⟩ := this
        rcases List.mem_cons.1 ha with rfl | ha
        · exact hu
        · exact keyEqL_self hy a ha
      · cases h
    · cases h
theorem sameBits_list {ρ : Rho} (n : Nat) : ∀ {as : List AV} {A B : List Value}, VRs ρ as A → VRs ρ as B → (∀ a ∈ as, keyEqLeaf a a = some true) → ((B.zip A).all fun (x, y) => Instr.sameBits n x y) = true
  | [], A, B, ha, hb, _ => by obtain rfl := ha.inv_nil; obtain rfl := hb.inv_nil; rfl
  | a :: as, A, B, ha, hb, h => by
    obtain ⟨ac, A', rfl, h1, h2⟩ := ha.inv_cons
    obtain ⟨bc, B', rfl, h3, h4⟩ := hb.inv_cons
    rw [List.zip_cons_cons, List.all_cons, Bool.and_eq_true]
    exact ⟨sameBits_leaf h1 h3 (h a (by simp)) n, sameBits_list n h2 h4 fun x hx => h x (by simp [hx])⟩
theorem keyStays {P : Program} {w : World} {ρ : Rho} {k : AV} {kc kc' : Value} (hk : VR ρ k kc) (hk' : VR ρ k kc') (h : keyEq k k = some true) : (Instr.keyThatStays kc' kc).run P w = .ok kc w := by
  have : Instr.sameBits 10000 kc' kc = true := by
    unfold keyEq at h
    split at h
    · obtain ⟨A, rfl, hA⟩ := hk.of_agg
      obtain ⟨B, rfl, hB⟩ := hk'.of_agg
      have hs : B.size = A.size := by rw [← Array.length_toList, ← Array.length_toList, ← hA.1, ← hB.1]
      rw [show (10000 : Nat) = 9999 + 1 from rfl, Instr.sameBits, Bool.and_eq_true]
      exact ⟨by simp [hs], sameBits_list 9999 hA hB (keyEqL_self h)⟩
    · exact sameBits_leaf hk hk' h 10000
  simp [Instr.keyThatStays, this]

def EntR (ρ : Rho) (es : List ME) (ces : List MapEntry) : Prop :=
  es.length = ces.length ∧ ∀ (i : Nat) e ce, es[i]? = some e → ces[i]? = some ce → VR ρ e.key ce.key ∧ VR ρ e.val ce.val ∧ e.born = ce.born
theorem EntR.inv_cons {ρ : Rho} {e : ME} {es : List ME} {ces : List MapEntry} (h : EntR ρ (e :: es) ces) :
    ∃ ce ces', ces = ce :: ces' ∧ VR ρ e.key ce.key ∧ VR ρ e.val ce.val ∧ e.born = ce.born ∧ EntR ρ es ces' := by
  cases ces with
  | nil => exact absurd h.1 (by simp)
  | cons ce ces' =>
    obtain ⟨a, b, c⟩ := h.2 0 e ce rfl rfl
    exact ⟨ce, ces', rfl, a, b, c, by have := h.1; simpa using this, fun i x y p q => h.2 (i + 1) x y (by simpa using p) (by simpa using q)⟩
theorem EntR.inv_nil {ρ : Rho} {ces : List MapEntry} (h : EntR ρ [] ces) : ces = [] := by
  cases ces with
  | nil => rfl
  | cons a b => exact absurd h.1 (by simp)

theorem sameNow_ok {ρ : Rho} {d : TypeDesc} {k k' : AV} {kc kc' : Value} (hk : VR ρ k kc) (hk' : VR ρ k' kc') (hf : KeyFits d kc) {b : Bool} (h : keyEq k k' = some b) :
    Instr.sameNow d kc kc' = some b := by
  have h' : keyEqLeaf k k' = some b := by
    unfold keyEq at h
    split at h
    · obtain ⟨A, rfl, _⟩ := hk.of_agg
      cases d <;> exact hf.elim
    · exact h
  clear h
  have h := h'
  clear h'
  unfold keyEqLeaf at h
  split at h
  · rename_i j a j' a'
    obtain rfl := hk.of_int
    obtain rfl := hk'.of_int
    cases hj : (j == j') with
    | false => rw [hj] at h; cases h
    | true =>
      rw [hj, cond_true] at h
      cases d <;> simp only [KeyFits] at hf
      simp only [Instr.sameNow, if_pos (by simpa using hj : j = j')]
      exact h
  · obtain ⟨x, rfl, rfl⟩ := hk.of_str
    obtain ⟨y, rfl, rfl⟩ := hk'.of_str
    rw [beq_bytes] at h
    cases d <;> simp only [KeyFits] at hf
    exact h
  · obtain rfl := hk.of_bool
    obtain rfl := hk'.of_bool
    cases d <;> simp only [KeyFits] at hf
    exact h
  · cases h

theorem find_plain {ρ : Rho} {d : TypeDesc} {k : AV} {kc : Value} (hk : VR ρ k kc) (hf : KeyFits d kc) : ∀ {es : List ME} {ces : List MapEntry} {i : Nat} {K : Option Nat → Bool},
    EntR ρ es ces → findK k es i K = true → ∃ r, K r = true ∧ (∀ K', findK k es i K' = K' r) ∧
      ((r = none ∧ Instr.findNow d kc ces i = some none) ∨
       ∃ j e ce, r = some (i + j) ∧ es[j]? = some e ∧ ces[j]? = some ce ∧ keyEq k e.key = some true ∧ Instr.findNow d kc ces i = some (some (i + j, ce.val)))
  | [], ces, i, K, he, h => by obtain rfl := he.inv_nil; exact ⟨none, h, fun K' => rfl, .inl ⟨rfl, rfl⟩⟩
  | e :: es, ces, i, K, he, h => by
    obtain ⟨ce, ces', rfl, h1, h2, h3, h4⟩ := he.inv_cons
    unfold findK at h
    split at h
    · rename_i b hb
      have hs := sameNow_ok hk h1 hf hb
      cases b with
      | true => exact ⟨some i, h, fun K' => by rw [findK, hb]; rfl, .inr ⟨0, e, ce, rfl, rfl, rfl, hb, by rw [Instr.findNow, hs]; rfl⟩⟩
      | false =>
        rw [cond_false] at h
        obtain ⟨r, r1, r2, r3⟩ := find_plain hk hf h4 h
        refine ⟨r, r1, fun K' => by rw [findK, hb]; exact r2 K', ?_⟩
        have hn : Instr.findNow d kc (ce :: ces') i = Instr.findNow d kc ces' (i + 1) := by rw [Instr.findNow, hs]
        rcases r3 with ⟨ra, rb⟩ | ⟨j, e', ce', ra, rb, rc, rd, rf⟩
        · exact .inl ⟨ra, hn.trans rb⟩
        · exact .inr ⟨j + 1, e', ce', by rw [ra]; congr 1; omega, by simpa using rb, by simpa using rc, rd, by rw [hn, rf, show i + 1 + j = i + (j + 1) by omega]⟩
    · cases h

theorem find_struct {P : Program} {ρ : Rho} {t : TypeId} (w : World) (hs : plainS P t = true) {fs : Array Field} (hu : P.underlying t = some (.struct fs)) {k : AV} {A : Array Value} (hk : VR ρ k (.agg A)) (hf : FitsFs P fs.toList A.toList) :
    ∀ {es : List ME} {ces : List MapEntry} {i : Nat} {K : Option Nat → Bool}, EntR ρ es ces → findK k es i K = true → ∃ r, K r = true ∧ (∀ K', findK k es i K' = K' r) ∧
      ((r = none ∧ (Instr.findAsking t (.agg A) ces i).run P w = .ok none w) ∨
       ∃ j e ce, r = some (i + j) ∧ es[j]? = some e ∧ ces[j]? = some ce ∧ keyEq k e.key = some true ∧ (Instr.findAsking t (.agg A) ces i).run P w = .ok (some (i + j, ce.val)) w)
  | [], ces, i, K, he, h => by obtain rfl := he.inv_nil; exact ⟨none, h, fun K' => rfl, .inl ⟨rfl, by simp [Instr.findAsking]⟩⟩
  | e :: es, ces, i, K, he, h => by
    obtain ⟨ce, ces', rfl, h1, h2, h3, h4⟩ := he.inv_cons
    unfold findK at h
    split at h
    · rename_i b hb
      have heq : (Op.equal t (.agg A) ce.key).run P w = .ok b w := by
        obtain ⟨fs', hu', hp, hst, _⟩ := plainS_of hs
        rw [hu] at hu'
        cases hu'
        have hb' := hb
        unfold keyEq at hb'
        split at hb'
        · rename_i as bs e2
          obtain ⟨A', hA', hA⟩ := hk.of_agg
          cases hA'
          rw [e2] at h1
          obtain ⟨B, hB', hB⟩ := h1.of_agg
          rw [hB']
          have hfs : P.fieldsOf t = fs := by unfold Program.fieldsOf; rw [hu]
          unfold Op.equal Op.maxDepth
          rw [run_equalIn_struct w 9999 t A B (by rw [hfs]; exact hu) hst, hfs]
          exact eqFields_ok 9998 w A B hp rfl rfl hA hB hf hb'
        · exfalso
          cases hk with
          | agg cs _ hl hh =>
            have : keyEqLeaf (.agg cs) e.key = none := by unfold keyEqLeaf; cases e.key <;> rfl
            rw [this] at hb'
            cases hb'
      cases b with
      | true => exact ⟨some i, h, fun K' => by rw [findK, hb]; rfl, .inr ⟨0, e, ce, rfl, rfl, rfl, hb, by simp [Instr.findAsking, heq]⟩⟩
      | false =>
        rw [cond_false] at h
        obtain ⟨r, r1, r2, r3⟩ := find_struct w hs hu hk hf h4 h
        refine ⟨r, r1, fun K' => by rw [findK, hb]; exact r2 K', ?_⟩
        have hn : (Instr.findAsking t (.agg A) (ce :: ces') i).run P w = (Instr.findAsking t (.agg A) ces' (i + 1)).run P w := by simp [Instr.findAsking, heq]
        rcases r3 with ⟨ra, rb⟩ | ⟨j, e', ce', ra, rb, rc, rd, rf⟩
        · exact .inl ⟨ra, hn.trans rb⟩
        · exact .inr ⟨j + 1, e', ce', by rw [ra]; congr 1; omega, by simpa using rb, by simpa using rc, rd, by rw [hn, rf, show i + 1 + j = i + (j + 1) by omega]⟩
    · cases h

/-- What is found under a key: nothing, or an entry with that very key. -/
theorem find_hit {P : Program} {ρ : Rho} {t : TypeId} {k : AV} {kc : Value} (w : World) (hk : VR ρ k kc) (hf : KFit P t kc) {es : List ME} {ces : List MapEntry} {K : Option Nat → Bool}
    (he : EntR ρ es ces) (h : findK k es 0 K = true) : ∃ r, K r = true ∧ (∀ K', findK k es 0 K' = K' r) ∧
      ((r = none ∧ (Instr.findKey t kc ces).run P w = .ok none w) ∨
       ∃ j e ce, r = some j ∧ es[j]? = some e ∧ ces[j]? = some ce ∧ e.key = k ∧ (Instr.keyThatStays ce.key kc).run P w = .ok kc w ∧ (Instr.findKey t kc ces).run P w = .ok (some (j, ce.val)) w) := by
  have stays : ∀ {j : Nat} {e : ME} {ce : MapEntry}, es[j]? = some e → ces[j]? = some ce → keyEq k e.key = some true → e.key = k ∧ (Instr.keyThatStays ce.key kc).run P w = .ok kc w := fun {j} {e} {ce} h1 h2 h3 => by
    have e1 := keyEq_eq h3
    have h4 := (he.2 j e ce h1 h2).1
    rw [← e1] at h3 h4
    exact ⟨e1.symm, keyStays hk h4 h3⟩
  rcases hf with ⟨d, hd, hf⟩ | ⟨hs, fs, A, hu, rfl, hf⟩
  · obtain ⟨r, r1, r2, r3⟩ := find_plain hk hf he h
    refine ⟨r, r1, r2, ?_⟩
    rcases r3 with ⟨ra, rb⟩ | ⟨j, e, ce, ra, rb, rc, rd, rf⟩
    · exact .inl ⟨ra, by simp [Instr.findKey, run_underlying hd, rb]⟩
    · rw [Nat.zero_add] at ra rf
      exact .inr ⟨j, e, ce, ra, rb, rc, (stays rb rc rd).1, (stays rb rc rd).2, by simp [Instr.findKey, run_underlying hd, rf]⟩
  · obtain ⟨r, r1, r2, r3⟩ := find_struct w hs hu hk hf he h
    refine ⟨r, r1, r2, ?_⟩
    have hfind : ∀ x, (Instr.findAsking t (.agg A) ces 0).run P w = .ok x w → (Instr.findKey t (.agg A) ces).run P w = .ok x w := fun x hx => by
      cases ces with
      | nil =>
        have hx' : x = none := by simp [Instr.findAsking] at hx; exact hx.symm
        subst hx'
        simp [Instr.findKey, run_underlying hu, Instr.findNow]
      | cons c cs => simp [Instr.findKey, run_underlying hu, Instr.findNow, Instr.sameNow, hx]
    rcases r3 with ⟨ra, rb⟩ | ⟨j, e, ce, ra, rb, rc, rd, rf⟩
    · exact .inl ⟨ra, hfind _ rb⟩
    · rw [Nat.zero_add] at ra rf
      exact .inr ⟨j, e, ce, ra, rb, rc, (stays rb rc rd).1, (stays rb rc rd).2, hfind _ rf⟩
end Go.AM
