/- Contracts of library functions that hand back a new row, sorted. -/
import Derived.Test.YthmdecfiijgaoaaGreatGmCode
import Derived.Laws.AppendOwn
namespace Go.AM
open Go Go.RowKit

def insI (x : Int) : List Int → List Int
  | [] => [x]
  | y :: ys => bif decide (x ≤ y) then x :: y :: ys else y :: insI x ys
def sortI : List Int → List Int
  | [] => []
  | x :: xs => insI x (sortI xs)
theorem insI_perm (x : Int) : ∀ ys, (insI x ys).Perm (x :: ys)
  | [] => .refl _
  | y :: ys => by
    rw [insI]
    cases decide (x ≤ y)
    · exact ((insI_perm x ys).cons y).trans (.swap x y ys)
    · exact .refl _
theorem sortI_perm : ∀ xs, (sortI xs).Perm xs
  | [] => .refl _
  | x :: xs => (insI_perm x _).trans ((sortI_perm xs).cons x)
theorem sortI_len (xs : List Int) : (sortI xs).length = xs.length := (sortI_perm xs).length_eq
theorem insI_sorted (x : Int) : ∀ ys : List Int, ys.Pairwise (· ≤ ·) → (insI x ys).Pairwise (· ≤ ·)
  | [], _ => by simp [insI]
  | y :: ys, h => by
    rw [insI]
    cases hd : decide (x ≤ y)
    · have hxy : y ≤ x := by have := of_decide_eq_false hd; omega
      obtain ⟨h1, h2⟩ := List.pairwise_cons.1 h
      refine List.pairwise_cons.2 ⟨fun z hz => ?_, insI_sorted x ys h2⟩
      rcases List.mem_cons.1 ((insI_perm x ys).mem_iff.1 hz) with rfl | hz
      · exact hxy
      · exact h1 z hz
    · have hxy : x ≤ y := of_decide_eq_true hd
      obtain ⟨h1, h2⟩ := List.pairwise_cons.1 h
      refine List.pairwise_cons.2 ⟨fun z hz => ?_, h⟩
      rcases List.mem_cons.1 hz with rfl | hz
      · exact hxy
      · exact Int.le_trans hxy (h1 z hz)
theorem sortI_sorted : ∀ xs, (sortI xs).Pairwise (· ≤ ·)
  | [] => .nil
  | x :: xs => insI_sorted x _ (sortI_sorted xs)
theorem sorted_unique : ∀ (xs ys : List Int), xs.Perm ys → xs.Pairwise (· ≤ ·) → ys.Pairwise (· ≤ ·) → xs = ys
  | [], ys, h, _, _ => (List.nil_perm.1 h).symm
  | x :: xs, [], h, _, _ => by have := h.length_eq; simp at this
  | x :: xs, y :: ys, h, hx, hy => by
    obtain ⟨x1, x2⟩ := List.pairwise_cons.1 hx
    obtain ⟨y1, y2⟩ := List.pairwise_cons.1 hy
    have e : x = y := by
      have a : x ≤ y := by
        rcases List.mem_cons.1 (h.mem_iff.2 (List.mem_cons_self)) with e | e
        · exact Int.le_of_eq e.symm
        · exact x1 y e
      have b : y ≤ x := by
        rcases List.mem_cons.1 (h.mem_iff.1 (List.mem_cons_self)) with e | e
        · exact Int.le_of_eq e.symm
        · exact y1 x e
      omega
    subst e
    rw [sorted_unique xs ys ((List.perm_cons x).1 h) x2 y2]
theorem sortI_eq (xs : List Int) : xs.mergeSort (fun x y => decide (x ≤ y)) = sortI xs := by
  refine sorted_unique _ _ ((List.mergeSort_perm xs _).trans (sortI_perm xs).symm) ?_ (sortI_sorted xs)
  have := List.pairwise_mergeSort (le := fun x y : Int => decide (x ≤ y)) (fun a b c h1 h2 => by simp at *; omega) (fun a b => by simp; omega) xs
  exact this.imp fun h => by simpa using h

def intsOf : List AV → Option (List Int)
  | [] => some []
  | .int .i64 n :: vs => (intsOf vs).map (n :: ·)
  | _ :: _ => none
theorem intsOf_eq : ∀ {vs : List AV} {ys : List Int}, intsOf vs = some ys → vs = ys.map (AV.int .i64 ·)
  | [], ys, h => by cases h; rfl
  | v :: vs, ys, h => by
    cases v with
    | int k n =>
      cases k <;> first | (cases h; done) | skip
      obtain ⟨zs, hz, rfl⟩ := Option.map_eq_some_iff.1 h
      rw [intsOf_eq hz]; rfl
    | _ => cases h
/-- slices.Sorted over slices.Values's closure gV: a new row, sorted; nil where there is nothing. -/
def valsF (gV : Nat) (args : List AV) (σ : H) (K : AV → H → Bool) : Bool :=
  match args with
  | [.fn g [.ptr (some p)]] =>
    bif Nat.beq g gV && (Nat.beq p.base 0 && Nat.beq p.d 0) then
      rowK σ p.id fun xs _ md =>
        match xs with
        | .sl a n :: _ => bif !(md == .ro) && decide (n ≤ 1000000) then
            seenK σ 1 a n fun vs =>
              match intsOf vs with
              | some [] => K (.sl .nil 0) σ
              | some ys => K (.sl (.at σ.length 0 1) n) (σ ++ [AO.cells ((sortI ys).map (AV.int .i64 ·)) 1 .own])
              | none => false
          else false
        | _ => false
    else false
  | _ => false

/-- A slice of whole numbers, in the model's world. -/
def IntsAt (w : World) (sv : Value) (zs : List Int) : Prop :=
  (sv = .slice none 0 0 ∧ zs = []) ∨ ∃ ad cap, sv = .slice (some ad) zs.length cap ∧ ∀ (j : Nat) (x : Int), zs[j]? = some x → w.cell? (ad.add j) = some (.int .i64 x)

theorem Sim.newRow {B : Nat} {w0 w w' : World} {ρ : Rho} {σ : H} (hs : Sim B w0 ρ σ w) {v : Value} {n : Nat} {xs : List AV} {vs : List Value} {t : TypeId} (hb : Below w.heap.size w w')
    (hrow : w'.ownsRow w.heap.size t 1 v n vs) (hv : v ≠ .slice none 0 0) (hx : VRs ρ xs vs) (hl1 : leafy xs = true) :
    ∃ ρ', ρ.le ρ' ∧ VR ρ' (.sl (.at σ.length 0 1) n) v ∧ Sim B w0 ρ' (σ ++ [AO.cells xs 1 .own]) w' := by
  obtain ⟨hl, h | ⟨g, cap, cur, rfl, hg, hh, c1, c2, c3, c4⟩⟩ := hrow
  · exact absurd h.1 hv
  rw [Nat.mul_one] at hl c3 c4
  have hxl : xs.length = n := hx.1.trans hl
  have hle' := hs.upd_le (.cells 1 [⟨g, 0, 0, n, cap⟩])
  have hat : (ρ.upd σ.length (.cells 1 [⟨g, 0, 0, n, cap⟩])) σ.length = some (.cells 1 [⟨g, 0, 0, n, cap⟩]) := by simp [Rho.upd]
  refine ⟨_, hle', VR.sl (c := ⟨g, 0, 0, n, cap⟩) hat (List.mem_singleton.2 rfl) (Nat.zero_le _) (by simp) c1 (by simp), hs.extend _ _ ⟨hb, trivial⟩ ?_ ?_⟩
  · refine ⟨rfl, Nat.one_pos, fun c hc => ?_, fun _ => ⟨_, [], rfl, hxl.symm, fun c hc => by simp at hc, fun _ => rfl, fun c hc => by simp at hc⟩⟩
    obtain rfl : c = ⟨g, 0, 0, n, cap⟩ := by simpa using hc
    refine ⟨Nat.zero_le _, Nat.le_of_eq hxl.symm, fun j _ hj => ?_, fun h => (by cases h), fun _ => ⟨rfl, Nat.le_trans hs.size hg, by simpa using c1, cur, t, (0, 0), hh, c3, .inl rfl⟩⟩
    have hj' : j < xs.length := by rw [hxl]; exact hj
    obtain ⟨vc, hvc, hr⟩ := hx.get (List.getElem?_eq_getElem hj')
    refine ⟨_, vc, List.getElem?_eq_getElem hj', ?_, hr.mono hle', VRs.one hx hl1 vc (List.mem_of_getElem? hvc)⟩
    have hC : cur[j]? = some vc := by
      rw [← c4, List.getElem?_take, if_pos hj] at hvc
      simpa using hvc
    simp only [World.cell?, hh, Nat.sub_zero, Nat.zero_add, Option.isSome_none, Bool.false_eq_true, if_false, hC]
  · rintro b ⟨_, c, hc, rfl⟩
    obtain rfl : c = ⟨g, 0, 0, n, cap⟩ := by simpa using hc
    exact hg

theorem ints_VRs {ρ : Rho} : ∀ zs : List Int, VRs ρ (zs.map (AV.int .i64 ·)) (zs.map (Value.int .i64 ·))
  | [] => .nil
  | _ :: zs => .cons (.int _ _) (ints_VRs zs)
theorem ints_leafy : ∀ zs : List Int, leafy (zs.map (AV.int .i64 ·)) = true
  | [] => rfl
  | _ :: zs => ints_leafy zs
theorem VRs.ints {ρ : Rho} : ∀ {zs : List Int} {vs : List Value}, VRs ρ (zs.map (AV.int .i64 ·)) vs → vs = zs.map (Value.int .i64 ·)
  | [], vs, h => h.inv_nil
  | z :: zs, vs, h => by
    obtain ⟨vc, vs', rfl, h1, h2⟩ := VRs.inv_cons h
    rw [h1.of_int, VRs.ints h2]; rfl

theorem enters {P : Program} (hno : NoCount P) {g : Nat} {fn : Func} (hfn : P.funcs[g]? = some fn) (hb : fn.body.isSome = true) (argsc : Array Value) (w : World) : (callFunc g argsc).run P w = .ok (.enter g argsc) w := by
  have hnm := hno g fn hfn hb
  have hb' : fn.body.isNone = false := by cases hq : fn.body <;> rw [hq] at hb <;> first | rfl | cases hb
  simp only [callFunc, Sem.run_bind, run_program, Result.andThen_ok, hfn]
  simp [hnm, hb']

theorem vals_sound {P : Program} (hno : NoCount P) {gS gV t : Nat} {fn : Func} (hfn : P.funcs[gS]? = some fn) (hb : fn.body.isSome = true)
    (h : ∀ (w : World) (Bs : Nat) (sv : Value) (zs : List Int), zs.length ≤ 1000000 → w.cell? ⟨Bs, 0, none⟩ = some sv → IntsAt w sv zs →
      Calls P gS #[.func (.func gV) #[] #[.pointer (some ⟨Bs, 0, none⟩)]] w fun e w' => ∃ v, e = .returned v ∧ w'.ownsRow w.heap.size t 1 v zs.length ((sortI zs).map (Value.int .i64 ·)) ∧ (v = .slice none 0 0 ↔ zs = []) ∧ Below w.heap.size w w') :
    SoundAt P gS (valsF gV) := fun B w0 ρ σ w args argsc K hs ha hF => by
  unfold valsF at hF
  split at hF
  · rename_i g p
    obtain ⟨id, b, d, z⟩ := p
    obtain ⟨fc, r1, e1, hf, hr1⟩ := VRs.inv_cons ha
    obtain rfl := hr1.inv_nil
    obtain ⟨cs, rfl, hcs⟩ := hf.of_fn
    obtain ⟨pc, r2, e2, hp, hr2⟩ := VRs.inv_cons hcs
    obtain rfl := hr2.inv_nil
    have ea : argsc = #[.func (.func g) #[] cs] := Array.toList_inj.1 e1
    have ec : cs = #[pc] := Array.toList_inj.1 e2
    subst ea ec
    cases hc : (Nat.beq g gV && (Nat.beq b 0 && Nat.beq d 0)) with
    | false => rw [hc] at hF; cases hF
    | true =>
      rw [hc] at hF
      simp only [Bool.and_eq_true] at hc
      obtain rfl := Nat.eq_of_beq_eq_true hc.1
      obtain rfl := Nat.eq_of_beq_eq_true hc.2.1
      obtain rfl := Nat.eq_of_beq_eq_true hc.2.2
      obtain ⟨xs, z', md, hrow, hF, hkk⟩ := rowK_of hF
      split at hF
      · rename_i a n rest
        cases hc2 : (!(md == Md.ro) && decide (n ≤ 1000000)) with
        | false => rw [hc2] at hF; cases hF
        | true =>
          rw [hc2] at hF
          simp only [Bool.and_eq_true, decide_eq_true_eq, Bool.not_eq_true'] at hc2
          have hmd : md ≠ .ro := fun e => by rw [e] at hc2; exact absurd hc2.1 (by decide)
          cases hp with
          | @ptr _ _ _ _ css c hl hcm h1 h2 h3 =>
            obtain ⟨o, ho, hor⟩ := hs.obj _ _ hl
            rw [hrow] at ho
            obtain rfl := Option.some.inj ho
            have hcr := hor.2.2.1 c hcm
            obtain ⟨ob, _, _, _⟩ := hcr.own hmd
            have hlo : c.lo = 0 := Nat.le_zero.1 h1
            obtain ⟨v, sv, x1, x2, x3, _⟩ := hcr.cell 0 (by omega) (by omega)
            have hv : v = .sl a n := by simpa using x1.symm
            subst hv
            rw [ob, hlo] at x2
            obtain ⟨vs, ys, hK, hvs, _, hlen, _, hsl⟩ := seen_ok (P := P) hs x3 (K := fun vs => match intsOf vs with
              | some [] => K (.sl .nil 0) σ
              | some ys => K (.sl (.at σ.length 0 1) n) (σ ++ [AO.cells ((sortI ys).map (AV.int .i64 ·)) 1 .own])
              | none => false) (z := 1) hF
            have key : ∀ zs, intsOf ys = some zs → (vs = zs.map (Value.int .i64 ·)) ∧ zs.length = n ∧ IntsAt w sv zs := fun zs hz => by
              have hy := intsOf_eq hz
              rw [hy] at hvs
              have e := hvs.ints
              have hl' : zs.length = n := by rw [e, List.length_map, Nat.mul_one] at hlen; exact hlen
              refine ⟨e, hl', ?_⟩
              rcases hsl with ⟨ad, cap, es, _, hc⟩ | ⟨es, e0⟩
              · refine .inr ⟨ad, cap, by rw [es, hl'], fun j x hx => hc j _ (by rw [e, List.getElem?_map, hx]; rfl)⟩
              · refine .inl ⟨es, List.length_eq_zero_iff.1 (by omega)⟩
            rw [show c.boff + (0 + 0 - c.lo) = 0 by omega]
            split at hK
            · rename_i hz
              obtain ⟨_, _, hi⟩ := key _ hz
              refine ⟨enters hno hfn hb _ w, (h w c.blk sv [] (Nat.zero_le _) x2 hi).mono ?_⟩
              rintro e w' ⟨v, rfl, _, hnil, hbl⟩
              obtain rfl := hnil.2 rfl
              exact ⟨_, _, σ, ρ, rfl, .refl ρ, .slNil, hs.grown ⟨hbl, trivial⟩, hK⟩
            · rename_i zs hne hz
              obtain ⟨_, hl', hi⟩ := key _ hz
              refine ⟨enters hno hfn hb _ w, (h w c.blk sv zs (by omega) x2 hi).mono ?_⟩
              rintro e w' ⟨v, rfl, hrw, hnil, hbl⟩
              rw [hl'] at hrw
              obtain ⟨ρ', hle, hv', hs'⟩ := hs.newRow hbl hrw (fun e => hne (hnil.1 e)) (ints_VRs _) (ints_leafy _)
              exact ⟨_, _, _, ρ', rfl, hle, hv', hs', hK⟩
            · cases hK
      · cases hF
  · cases hF
end Go.AM
