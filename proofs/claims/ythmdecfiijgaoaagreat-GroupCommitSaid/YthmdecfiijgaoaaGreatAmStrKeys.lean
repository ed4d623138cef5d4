/- The contract of slices.Sorted over maps.Keys at texts. -/
import Derived.Test.YthmdecfiijgaoaaGreatAmKeys
import Derived.Sort.Walk0
import Derived.Sort.EncStr
namespace Go.AM
open Go Go.RowKit Go.Proofs

def toInts (l : List UInt8) : List Int := l.map fun b => (b.toNat : Int)
theorem toInts_bytes (l : List UInt8) : bytesL ⟨l.toArray⟩ = toInts l := by simp [bytesL, toInts]
theorem toInts_inj {a b : List UInt8} (h : toInts a = toInts b) : a = b := by
  have := bytes_eq0 a b
  unfold toInts at h
  rw [h] at this
  simpa using this.symm

def insS (x : List Int) : List (List Int) → List (List Int)
  | [] => [x]
  | y :: ys => bif ltL y x then y :: insS x ys else x :: y :: ys
def sortS : List (List Int) → List (List Int)
  | [] => []
  | x :: xs => insS x (sortS xs)
theorem insS_perm (x : List Int) : ∀ ys, (insS x ys).Perm (x :: ys)
  | [] => .refl _
  | y :: ys => by
    rw [insS]
    cases ltL y x
    · exact .refl _
    · exact ((insS_perm x ys).cons y).trans (.swap x y ys)
theorem sortS_perm : ∀ xs, (sortS xs).Perm xs
  | [] => .refl _
  | x :: xs => (insS_perm x _).trans ((sortS_perm xs).cons x)
theorem sortS_len (xs : List (List Int)) : (sortS xs).length = xs.length := (sortS_perm xs).length_eq

theorem ltL_irrefl : ∀ a : List Int, ltL a a = false
  | [] => rfl
  | a :: x => by simp [ltL, ltL_irrefl x]
theorem ltL_trans : ∀ {a b c : List Int}, ltL a b = true → ltL b c = true → ltL a c = true
  | _, [], _, h, _ => by simp [ltL] at h
  | _, _ :: _, [], _, h => by simp [ltL] at h
  | [], b :: y, c :: z, _, _ => rfl
  | a :: x, b :: y, c :: z, h1, h2 => by
    simp only [ltL, Bool.or_eq_true, decide_eq_true_eq, Bool.and_eq_true, beq_iff_eq] at *
    rcases h1 with h1 | ⟨rfl, h1⟩ <;> rcases h2 with h2 | ⟨rfl, h2⟩
    · left; omega
    · left; exact h1
    · left; exact h2
    · right; exact ⟨rfl, ltL_trans h1 h2⟩
theorem ltL_total : ∀ {a b : List Int}, ltL a b = false → a ≠ b → ltL b a = true
  | [], [], _, h => absurd rfl h
  | [], _ :: _, h, _ => by simp [ltL] at h
  | _ :: _, [], _, _ => rfl
  | a :: x, b :: y, h, hne => by
    simp only [ltL, Bool.or_eq_false_iff, decide_eq_false_iff_not, Bool.and_eq_false_iff, beq_eq_false_iff_ne, Bool.or_eq_true, decide_eq_true_eq, Bool.and_eq_true, beq_iff_eq] at *
    by_cases e : a = b
    · subst e
      right
      refine ⟨rfl, ltL_total ?_ fun e => hne (by rw [e])⟩
      rcases h.2 with h | h
      · exact absurd rfl h
      · exact h
    · left; omega
/-- Not behind. -/
def leS (a b : List Int) : Prop := ltL b a = false
theorem leS_antisymm {a b : List Int} (h : leS a b) (k : leS b a) : a = b := by
  by_cases e : a = b
  · exact e
  · have := ltL_total (a := b) (b := a) h (Ne.symm e)
    unfold leS at k
    rw [this] at k; cases k
theorem leS_trans {a b c : List Int} (h : leS a b) (k : leS b c) : leS a c := by
  unfold leS at *
  cases hq : ltL c a with
  | false => rfl
  | true =>
    by_cases e : a = b
    · subst e; rw [hq] at k; cases k
    · have h1 : ltL a b = true := ltL_total h (Ne.symm e)
      rw [ltL_trans hq h1] at k; cases k
theorem insS_sorted (x : List Int) : ∀ ys : List (List Int), ys.Pairwise leS → (insS x ys).Pairwise leS
  | [], _ => by simp [insS]
  | y :: ys, h => by
    rw [insS]
    obtain ⟨h1, h2⟩ := List.pairwise_cons.1 h
    cases hd : ltL y x
    · have hxy : leS x y := hd
      refine List.pairwise_cons.2 ⟨fun z hz => ?_, h⟩
      rcases List.mem_cons.1 hz with rfl | hz
      · exact hxy
      · exact leS_trans hxy (h1 z hz)
    · have hyx : leS y x := by
        unfold leS
        cases hq : ltL x y with
        | false => rfl
        | true => have := ltL_trans hd hq; rw [ltL_irrefl] at this; cases this
      refine List.pairwise_cons.2 ⟨fun z hz => ?_, insS_sorted x ys h2⟩
      rcases List.mem_cons.1 ((insS_perm x ys).mem_iff.1 hz) with rfl | hz
      · exact hyx
      · exact h1 z hz
theorem sortS_sorted : ∀ xs, (sortS xs).Pairwise leS
  | [] => .nil
  | x :: xs => insS_sorted x _ (sortS_sorted xs)
theorem sortedS_unique : ∀ (xs ys : List (List Int)), xs.Perm ys → xs.Pairwise leS → ys.Pairwise leS → xs = ys
  | [], ys, h, _, _ => (List.nil_perm.1 h).symm
  | x :: xs, [], h, _, _ => by have := h.length_eq; simp at this
  | x :: xs, y :: ys, h, hx, hy => by
    obtain ⟨x1, x2⟩ := List.pairwise_cons.1 hx
    obtain ⟨y1, y2⟩ := List.pairwise_cons.1 hy
    have e : x = y := by
      refine leS_antisymm ?_ ?_
      · rcases List.mem_cons.1 (h.mem_iff.2 (List.mem_cons_self)) with e | e
        · subst e; exact ltL_irrefl _
        · exact x1 y e
      · rcases List.mem_cons.1 (h.mem_iff.1 (List.mem_cons_self)) with e | e
        · subst e; exact ltL_irrefl _
        · exact y1 x e
    subst e
    rw [sortedS_unique xs ys ((List.perm_cons x).1 h) x2 y2]

theorem bytesLt (a b : List UInt8) : ltL (toInts a) (toInts b) = decide (a < b) := by
  unfold toInts
  rw [bytes_lt, Go.Proofs.bytesLess_eq]
theorem mergeS (ss : List (List UInt8)) : ((ss.mergeSort (fun x y => decide (x ≤ y))).map toInts) = sortS (ss.map toInts) := by
  refine sortedS_unique _ _ (((List.mergeSort_perm ss _).map toInts).trans (sortS_perm _).symm) ?_ (sortS_sorted _)
  have := List.pairwise_mergeSort (le := fun x y : List UInt8 => decide (x ≤ y)) (fun a b c h1 h2 => by simp only [decide_eq_true_eq] at *; exact List.le_trans h1 h2) (fun a b => by simp only [Bool.or_eq_true, decide_eq_true_eq]; exact List.le_total a b) ss
  rw [List.pairwise_map]
  refine this.imp fun {a b} h => ?_
  show ltL (toInts b) (toInts a) = false
  rw [bytesLt, decide_eq_false_iff_not]
  simp only [decide_eq_true_eq] at h
  exact List.not_lt.2 h
theorem sortS_of_perm {a b : List (List Int)} (h : a.Perm b) : sortS a = sortS b :=
  sortedS_unique _ _ (((sortS_perm a).trans h).trans (sortS_perm b).symm) (sortS_sorted a) (sortS_sorted b)

def textsOf : List ME → Option (List (List Int))
  | [] => some []
  | e :: es => match e.key with
    | .str s => (textsOf es).map (s :: ·)
    | _ => none

/-- slices.Sorted over maps.Keys's closure gK at texts: a new row, sorted; nil where there is nothing. -/
def keysF (gK : Nat) (args : List AV) (σ : H) (K : AV → H → Bool) : Bool :=
  match args with
  | [.fn g [.ptr (some p)]] =>
    bif Nat.beq g gK && (Nat.beq p.base 0 && Nat.beq p.d 0) then
      rowK σ p.id fun xs _ md =>
        match xs with
        | .map (some r) :: _ => bif !(md == .ro) then (match σ[r]? with
            | some (.map es clock) =>
              bif es.all (fun e => decide (e.born < clock)) && (nodupB (es.map (·.born)) && decide (es.length ≤ 1000000)) then
                (match textsOf es with
                | some [] => K (.sl .nil 0) σ
                | some ks => K (.sl (.at σ.length 0 1) ks.length) (σ ++ [AO.cells ((sortS ks).map AV.str) 1 .own])
                | none => false)
              else false
            | _ => false)
          else false
        | _ => false
    else false
  | _ => false

theorem strs_VRs {ρ : Rho} : ∀ ss : List (List UInt8), VRs ρ ((ss.map toInts).map AV.str) (ss.map encStr)
  | [] => .nil
  | s :: ss => by
    refine .cons ?_ (strs_VRs ss)
    rw [← toInts_bytes]
    exact .str _
theorem strs_leafy : ∀ ks : List (List Int), leafy (ks.map AV.str) = true
  | [] => rfl
  | p :: ks => by
    show leafy (AV.str p :: ks.map AV.str) = true
    simp [leafy, isLeaf, strs_leafy ks]

theorem texts_keys {ρ : Rho} : ∀ {es : List ME} {ces : List MapEntry} {ks : List (List Int)}, EntR ρ es ces → textsOf es = some ks →
    ∃ ss : List (List UInt8), ss.map toInts = ks ∧ ces.length = ss.length ∧ ∀ (j : Nat) (e : MapEntry), ces[j]? = some e → ∃ p, ss[j]? = some p ∧ e.key = encStr p
  | [], ces, ks, he, h => by
    obtain rfl := he.inv_nil
    cases h
    exact ⟨[], rfl, rfl, fun j e hj => by simp at hj⟩
  | x :: es, ces, ks, he, h => by
    obtain ⟨ce, ces', rfl, h1, _, _, h4⟩ := he.inv_cons
    unfold textsOf at h
    split at h
    · rename_i s hs
      obtain ⟨ks', hk', rfl⟩ := Option.map_eq_some_iff.1 h
      obtain ⟨ss, i0, i1, i2⟩ := texts_keys h4 hk'
      rw [hs] at h1
      obtain ⟨b, hb, hbs⟩ := h1.of_str
      refine ⟨b.data.toList :: ss, by rw [List.map_cons, i0, ← hbs]; rfl, by simp [i1], fun j e hj => ?_⟩
      cases j with
      | zero => simp at hj; subst hj; exact ⟨_, rfl, by rw [hb]⟩
      | succ j => simp at hj; obtain ⟨q, hq, he⟩ := i2 j e hj; exact ⟨q, by simpa using hq, he⟩
    · cases h

theorem strkeys_sound {P : Program} (hno : NoCount P) {gS gK t : Nat} {fn : Func} (hfn : P.funcs[gS]? = some fn) (hb : fn.body.isSome = true)
    (h : ∀ (w : World) (Bm b : Nat) (ces : Array MapEntry) (clock : Nat) (ks : List (List UInt8)), EntTold ces clock → KeysAs encStr ces ks → ks.length ≤ 1000000 → w.cell? ⟨Bm, 0, none⟩ = some (.map (some b)) → w.heap[b]? = some (.map ces clock) →
      Calls P gS #[.func (.func gK) #[] #[.pointer (some ⟨Bm, 0, none⟩)]] w fun e w' => ∃ v ss, e = .returned v ∧ ss.Perm ks ∧ w'.ownsRow w.heap.size t 1 v ss.length ((ss.mergeSort (fun x y => decide (x ≤ y))).map encStr) ∧ (v = .slice none 0 0 ↔ ss = []) ∧ Below w.heap.size w w') :
    SoundAt P gS (keysF gK) := fun B w0 ρ σ w args argsc K hs ha hF => by
  unfold keysF at hF
  split at hF
  · rename_i g p
    obtain ⟨id, b, d, z⟩ := p
    obtain ⟨fc, r1, e1, hf, hr1⟩ := VRs.inv_cons ha
    obtain rfl := hr1.inv_nil
    obtain ⟨cs, rfl, hcs⟩ := hf.of_fn
    obtain ⟨pc, r2, e2, hp, hr2⟩ := VRs.inv_cons hcs
    obtain rfl := hr2.inv_nil
    have ea : argsc = #[.func (.func g) #[] cs] := Array.toList_inj.1 e1
    have ec : cs = #[pc] := Array.toList_inj.1 e2
    subst ea ec
    cases hc : (Nat.beq g gK && (Nat.beq b 0 && Nat.beq d 0)) with
    | false => rw [hc] at hF; cases hF
    | true =>
      rw [hc] at hF
      simp only [Bool.and_eq_true] at hc
      obtain rfl := Nat.eq_of_beq_eq_true hc.1
      obtain rfl := Nat.eq_of_beq_eq_true hc.2.1
      obtain rfl := Nat.eq_of_beq_eq_true hc.2.2
      obtain ⟨xs, z', md, hrow, hF, hkk⟩ := rowK_of hF
      split at hF
      · rename_i r rest
        cases hc2 : (!(md == Md.ro)) with
        | false => rw [hc2] at hF; cases hF
        | true =>
          rw [hc2, cond_true] at hF
          have hmd : md ≠ .ro := fun e => by rw [e] at hc2; exact absurd hc2 (by decide)
          split at hF
          · rename_i es clock hmap
            cases hc3 : (es.all (fun e => decide (e.born < clock)) && (nodupB (es.map (·.born)) && decide (es.length ≤ 1000000))) with
            | false => rw [hc3] at hF; cases hF
            | true =>
              rw [hc3, cond_true] at hF
              simp only [Bool.and_eq_true, decide_eq_true_eq] at hc3
              obtain ⟨k1, k2, k3⟩ := hc3
              cases hp with
              | @ptr _ _ _ _ css c hl hcm h1 h2 h3 =>
                obtain ⟨o, ho, hor⟩ := hs.obj _ _ hl
                rw [hrow] at ho
                obtain rfl := Option.some.inj ho
                have hcr := hor.2.2.1 c hcm
                obtain ⟨ob, _, _, _⟩ := hcr.own hmd
                have hlo : c.lo = 0 := Nat.le_zero.1 h1
                obtain ⟨v, sv, x1, x2, x3, _⟩ := hcr.cell 0 (by omega) (by omega)
                have hv : v = .map (some r) := by simpa using x1.symm
                subst hv
                rw [ob, hlo] at x2
                rw [show c.boff + (0 + 0 - c.lo) = 0 by omega]
                cases x3 with
                | @map _ rm hlm =>
                  obtain ⟨ces, _, hwm, hent⟩ := Sim.map hs hlm hmap
                  have hbr := hent.born
                  have htold : EntTold ces clock := by
                    refine ⟨fun x hx => ?_, by rw [← hbr]; exact nodupB_of k2⟩
                    have : x.born ∈ es.map (·.born) := by rw [hbr]; exact List.mem_map.2 ⟨x, hx, rfl⟩
                    obtain ⟨y, hy, e⟩ := List.mem_map.1 this
                    have := List.all_eq_true.1 k1 y hy
                    rw [decide_eq_true_eq] at this
                    omega
                  have key : ∀ ks, textsOf es = some ks → Calls P gS #[.func (.func g) #[] #[.pointer (some ⟨c.blk, 0, none⟩)]] w fun e w' => ∃ (v : Value) (ss : List (List UInt8)), e = .returned v ∧ w'.ownsRow w.heap.size t 1 v ks.length (ss.map encStr) ∧ ss.map toInts = sortS ks ∧ (v = .slice none 0 0 ↔ ks = []) ∧ Below w.heap.size w w' := fun ks hks => by
                    obtain ⟨ss0, q0, q1, q2⟩ := texts_keys hent hks
                    have hkeys : KeysAs encStr ces ss0 := ⟨by rw [← Array.length_toList]; exact q1, fun j e hj => q2 j e (by rw [Array.getElem?_toList]; exact hj)⟩
                    have hkl : ss0.length ≤ 1000000 := by rw [← q1, ← hent.1]; exact k3
                    refine (h w c.blk rm ces clock ss0 htold hkeys hkl x2 hwm).mono ?_
                    rintro e w' ⟨v, ss, rfl, hperm, hrw, hnil, hbl⟩
                    have hpi : (ss.map toInts).Perm ks := by rw [← q0]; exact hperm.map _
                    have hlen : ss.length = ks.length := by rw [← hpi.length_eq, List.length_map]
                    refine ⟨v, _, rfl, by rw [← hlen]; exact hrw, by rw [mergeS, sortS_of_perm hpi], hnil.trans ?_, hbl⟩
                    rw [← List.length_eq_zero_iff, hlen, List.length_eq_zero_iff]
                  split at hF
                  · rename_i hks
                    refine ⟨enters hno hfn hb _ w, (key _ hks).mono ?_⟩
                    rintro e w' ⟨v, ss, rfl, _, _, hnil, hbl⟩
                    obtain rfl := hnil.2 rfl
                    exact ⟨_, _, σ, ρ, rfl, .refl ρ, .slNil, hs.grown ⟨hbl, trivial⟩, hF⟩
                  · rename_i ks hne hks
                    refine ⟨enters hno hfn hb _ w, (key _ hks).mono ?_⟩
                    rintro e w' ⟨v, ss, rfl, hrw, hss, hnil, hbl⟩
                    obtain ⟨ρ', hle, hv', hs'⟩ := hs.newRowZ (z := 1) (by decide) hbl hrw (fun e => hne (hnil.1 e)) (xs := (sortS ks).map AV.str) (by rw [← hss]; exact strs_VRs ss) (strs_leafy _)
                    exact ⟨_, _, _, ρ', rfl, hle, hv', hs', hF⟩
                  · cases hF
          · cases hF
      · cases hF
  · cases hF
end Go.AM
