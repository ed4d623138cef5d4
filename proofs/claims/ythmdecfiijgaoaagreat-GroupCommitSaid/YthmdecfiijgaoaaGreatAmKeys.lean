/- Contracts of library functions that hand back a map's keys: structs of two whole numbers, in whatever order. -/
import Derived.Test.YthmdecfiijgaoaaGreatAmSeq
namespace Go.AM
open Go Go.RowKit

def inserts {α : Type} (x : α) : List α → List (List α)
  | [] => [[x]]
  | y :: ys => (x :: y :: ys) :: (inserts x ys).map (y :: ·)
def perms {α : Type} : List α → List (List α)
  | [] => [[]]
  | x :: xs => (perms xs).flatMap (inserts x)
theorem mem_inserts {α : Type} (x : α) : ∀ (a b : List α), a ++ x :: b ∈ inserts x (a ++ b)
  | [], [] => by simp [inserts]
  | [], b :: bs => by simp [inserts]
  | a :: as, b => by
    simp only [List.cons_append, inserts, List.mem_cons, List.mem_map]
    exact .inr ⟨_, mem_inserts x as b, rfl⟩
theorem inserts_perm {α : Type} (x : α) : ∀ (l m : List α), m ∈ inserts x l → m.Perm (x :: l)
  | [], m, h => by simp [inserts] at h; subst h; exact .refl _
  | y :: ys, m, h => by
    simp only [inserts, List.mem_cons, List.mem_map] at h
    rcases h with rfl | ⟨k, hk, rfl⟩
    · exact .refl _
    · exact ((inserts_perm x ys k hk).cons y).trans (.swap x y ys)
theorem perms_perm {α : Type} : ∀ (l m : List α), m ∈ perms l → m.Perm l
  | [], m, h => by simp [perms] at h; subst h; exact .refl _
  | x :: xs, m, h => by
    simp only [perms, List.mem_flatMap] at h
    obtain ⟨k, hk, hm⟩ := h
    exact (inserts_perm x k m hm).trans ((perms_perm xs k hk).cons x)
theorem mem_perms {α : Type} : ∀ {l m : List α}, m.Perm l → m ∈ perms l
  | [], m, h => by simp [perms, List.perm_nil.1 h]
  | x :: xs, m, h => by
    obtain ⟨a, b, rfl⟩ := List.append_of_mem (h.mem_iff.2 (List.mem_cons_self))
    have h2 : (a ++ b).Perm xs := by
      have := List.perm_middle.symm.trans h
      exact (List.perm_cons x).1 this
    simp only [perms, List.mem_flatMap]
    exact ⟨_, mem_perms h2, mem_inserts x a b⟩

/-- A name, as it lies in memory. -/
def encI (p : Int × Int) : Value := .agg #[.int .i64 p.1, .int .i64 p.2]
def flatI (ks : List (Int × Int)) : List Value := ks.flatMap fun p => [.int .i64 p.1, .int .i64 p.2]
theorem flatI_append (a b : List (Int × Int)) : flatI (a ++ b) = flatI a ++ flatI b := List.flatMap_append
def cellsI (ks : List (Int × Int)) : List AV := ks.flatMap fun p => [AV.int .i64 p.1, AV.int .i64 p.2]
/-- The keys of a map's entries. -/
def KeysAs {α : Type} (enc : α → Value) (ces : Array MapEntry) (ks : List α) : Prop := ces.size = ks.length ∧ ∀ (j : Nat) (e : MapEntry), ces[j]? = some e → ∃ p, ks[j]? = some p ∧ e.key = enc p
abbrev Keys (ces : Array MapEntry) (ks : List (Int × Int)) : Prop := KeysAs encI ces ks
/-- A map whose entries can be told apart. -/
structure EntTold (ces : Array MapEntry) (clock : Nat) : Prop where
  old : ∀ x ∈ ces.toList, x.born < clock
  nod : (ces.toList.map (·.born)).Nodup

def nodupB : List Nat → Bool
  | [] => true
  | x :: xs => !xs.contains x && nodupB xs
theorem nodupB_of : ∀ {l : List Nat}, nodupB l = true → l.Nodup
  | [], _ => .nil
  | x :: xs, h => by
    simp only [nodupB, Bool.and_eq_true, Bool.not_eq_true'] at h
    refine List.nodup_cons.2 ⟨fun hm => ?_, nodupB_of h.2⟩
    have : xs.contains x = true := by simpa using hm
    rw [this] at h; cases h.1
theorem nodupB_to : ∀ {l : List Nat}, l.Nodup → nodupB l = true
  | [], _ => rfl
  | x :: xs, h => by
    obtain ⟨h1, h2⟩ := List.nodup_cons.1 h
    simp only [nodupB, Bool.and_eq_true, Bool.not_eq_true']
    exact ⟨by simpa using h1, nodupB_to h2⟩

def pairOf : AV → Option (Int × Int)
  | .agg [.int .i64 a, .int .i64 b] => some (a, b)
  | _ => none
def pairsOf : List ME → Option (List (Int × Int))
  | [] => some []
  | e :: es => match pairOf e.key with
    | some p => (pairsOf es).map (p :: ·)
    | none => none

/-- slices.Collect over maps.Keys's closure gK: a new row of the keys, in any order; nil where there is nothing. -/
def collF (gK : Nat) (args : List AV) (σ : H) (K : AV → H → Bool) : Bool :=
  match args with
  | [.fn g [.ptr (some p)]] =>
    bif Nat.beq g gK && (Nat.beq p.base 0 && Nat.beq p.d 0) then
      rowK σ p.id fun xs _ md =>
        match xs with
        | .map (some r) :: _ => bif !(md == .ro) then (match σ[r]? with
            | some (.map es clock) =>
              bif es.all (fun e => decide (e.born < clock)) && (nodupB (es.map (·.born)) && decide (es.length ≤ 1000000)) then
                (match pairsOf es with
                | some ks => (perms ks).all fun xs => match xs with
                  | [] => K (.sl .nil 0) σ
                  | x :: xs => K (.sl (.at σ.length 0 2) (x :: xs).length) (σ ++ [AO.cells (cellsI (x :: xs)) 2 .own])
                | none => false)
              else false
            | _ => false)
          else false
        | _ => false
    else false
  | _ => false

theorem Sim.newRowZ {B : Nat} {w0 w w' : World} {ρ : Rho} {σ : H} (hs : Sim B w0 ρ σ w) {v : Value} {n z : Nat} (hz : 0 < z) {xs : List AV} {vs : List Value} {t : TypeId} (hb : Below w.heap.size w w')
    (hrow : w'.ownsRow w.heap.size t z v n vs) (hv : v ≠ .slice none 0 0) (hx : VRs ρ xs vs) (hl1 : leafy xs = true) :
    ∃ ρ', ρ.le ρ' ∧ VR ρ' (.sl (.at σ.length 0 z) n) v ∧ Sim B w0 ρ' (σ ++ [AO.cells xs z .own]) w' := by
  obtain ⟨hl, h | ⟨g, cap, cur, rfl, hg, hh, c1, c2, c3, c4⟩⟩ := hrow
  · exact absurd h.1 hv
  have hxl : xs.length = n * z := hx.1.trans hl
  have hmul := Nat.mul_le_mul_right z c1
  have hle' := hs.upd_le (.cells z [⟨g, 0, 0, n * z, cap * z⟩])
  have hat : (ρ.upd σ.length (.cells z [⟨g, 0, 0, n * z, cap * z⟩])) σ.length = some (.cells z [⟨g, 0, 0, n * z, cap * z⟩]) := by simp [Rho.upd]
  refine ⟨_, hle', VR.sl (c := ⟨g, 0, 0, n * z, cap * z⟩) hat (List.mem_singleton.2 rfl) (Nat.zero_le _) (by simp) c1 (by simp), hs.extend _ _ ⟨hb, trivial⟩ ?_ ?_⟩
  · refine ⟨rfl, hz, fun c hc => ?_, fun _ => ⟨_, [], rfl, hxl.symm, fun c hc => by simp at hc, fun _ => rfl, fun c hc => by simp at hc⟩⟩
    obtain rfl : c = ⟨g, 0, 0, n * z, cap * z⟩ := by simpa using hc
    refine ⟨Nat.zero_le _, Nat.le_of_eq hxl.symm, fun j _ hj => ?_, fun h => (by cases h), fun _ => ⟨rfl, Nat.le_trans hs.size hg, by simpa using hmul, cur, t, (0, 0), hh, c3, .inl rfl⟩⟩
    have hj' : j < xs.length := by rw [hxl]; exact hj
    obtain ⟨vc, hvc, hr⟩ := hx.get (List.getElem?_eq_getElem hj')
    refine ⟨_, vc, List.getElem?_eq_getElem hj', ?_, hr.mono hle', VRs.one hx hl1 vc (List.mem_of_getElem? hvc)⟩
    have hC : cur[j]? = some vc := by
      rw [← c4, List.getElem?_take, if_pos hj] at hvc
      simpa using hvc
    simp only [World.cell?, hh, Nat.sub_zero, Nat.zero_add, Option.isSome_none, Bool.false_eq_true, if_false, hC]
  · rintro b ⟨_, c, hc, rfl⟩
    obtain rfl : c = ⟨g, 0, 0, n * z, cap * z⟩ := by simpa using hc
    exact hg

theorem flatI_VRs {ρ : Rho} : ∀ ks : List (Int × Int), VRs ρ (cellsI ks) (flatI ks)
  | [] => .nil
  | p :: ks => by
    show VRs ρ (AV.int .i64 p.1 :: AV.int .i64 p.2 :: cellsI ks) (Value.int .i64 p.1 :: Value.int .i64 p.2 :: flatI ks)
    exact .cons (.int _ _) (.cons (.int _ _) (flatI_VRs ks))
theorem cellsI_leafy : ∀ ks : List (Int × Int), leafy (cellsI ks) = true
  | [] => rfl
  | p :: ks => by
    show leafy (AV.int .i64 p.1 :: AV.int .i64 p.2 :: cellsI ks) = true
    simp [leafy, isLeaf, cellsI_leafy ks]

theorem pairOf_VR {ρ : Rho} {v : AV} {vc : Value} {p : Int × Int} (h : pairOf v = some p) (hv : VR ρ v vc) : vc = encI p := by
  unfold pairOf at h
  split at h
  · cases h
    obtain ⟨A, rfl, hA⟩ := hv.of_agg
    obtain ⟨a1, r1, e1, h1, hr1⟩ := hA.inv_cons
    obtain ⟨a2, r2, e2, h2, hr2⟩ := hr1.inv_cons
    obtain rfl := hr2.inv_nil
    subst e2
    rw [h1.of_int, h2.of_int] at e1
    unfold encI
    congr 1
    exact Array.toList_inj.1 e1
  · cases h
theorem pairs_keys {ρ : Rho} : ∀ {es : List ME} {ces : List MapEntry} {ks : List (Int × Int)}, EntR ρ es ces → pairsOf es = some ks →
    ces.length = ks.length ∧ ∀ (j : Nat) (e : MapEntry), ces[j]? = some e → ∃ p, ks[j]? = some p ∧ e.key = encI p
  | [], ces, ks, he, h => by
    obtain rfl := he.inv_nil
    cases h
    exact ⟨rfl, fun j e hj => by simp at hj⟩
  | x :: es, ces, ks, he, h => by
    obtain ⟨ce, ces', rfl, h1, _, _, h4⟩ := he.inv_cons
    unfold pairsOf at h
    split at h
    · rename_i p hp
      obtain ⟨ks', hk', rfl⟩ := Option.map_eq_some_iff.1 h
      obtain ⟨i1, i2⟩ := pairs_keys h4 hk'
      refine ⟨by simp [i1], fun j e hj => ?_⟩
      cases j with
      | zero => simp at hj; subst hj; exact ⟨p, rfl, pairOf_VR hp h1⟩
      | succ j => simp at hj; obtain ⟨q, hq, he⟩ := i2 j e hj; exact ⟨q, by simpa using hq, he⟩
    · cases h
theorem EntR.born {ρ : Rho} : ∀ {es : List ME} {ces : List MapEntry}, EntR ρ es ces → es.map (·.born) = ces.map (·.born)
  | [], ces, h => by obtain rfl := h.inv_nil; rfl
  | x :: es, ces, h => by
    obtain ⟨ce, ces', rfl, _, _, h3, h4⟩ := h.inv_cons
    rw [List.map_cons, List.map_cons, h3, EntR.born h4]

theorem coll_sound {P : Program} (hno : NoCount P) {gC gK t : Nat} {fn : Func} (hfn : P.funcs[gC]? = some fn) (hb : fn.body.isSome = true)
    (h : ∀ (w : World) (Bm b : Nat) (ces : Array MapEntry) (clock : Nat) (ks : List (Int × Int)), EntTold ces clock → Keys ces ks → ks.length ≤ 1000000 → w.cell? ⟨Bm, 0, none⟩ = some (.map (some b)) → w.heap[b]? = some (.map ces clock) →
      Calls P gC #[.func (.func gK) #[] #[.pointer (some ⟨Bm, 0, none⟩)]] w fun e w' => ∃ v xs, e = .returned v ∧ xs.Perm ks ∧ w'.ownsRow w.heap.size t 2 v xs.length (flatI xs) ∧ (v = .slice none 0 0 ↔ xs = []) ∧ Below w.heap.size w w') :
    SoundAt P gC (collF gK) := fun B w0 ρ σ w args argsc K hs ha hF => by
  unfold collF at hF
  split at hF
  · rename_i g p
    obtain ⟨id, b, d, z⟩ := p
    obtain ⟨fc, r1, e1, hf, hr1⟩ := VRs.inv_cons ha
    obtain rfl := hr1.inv_nil
    obtain ⟨cs, rfl, hcs⟩ := hf.of_fn
    obtain ⟨pc, r2, e2, hp, hr2⟩ := VRs.inv_cons hcs
    obtain rfl := hr2.inv_nil
    have ea : argsc = #[.func (.func g) #[] cs] := Array.toList_inj.1 e1
    have ec : cs = #[pc] := Array.toList_inj.1 e2
    subst ea ec
    cases hc : (Nat.beq g gK && (Nat.beq b 0 && Nat.beq d 0)) with
    | false => rw [hc] at hF; cases hF
    | true =>
      rw [hc] at hF
      simp only [Bool.and_eq_true] at hc
      obtain rfl := Nat.eq_of_beq_eq_true hc.1
      obtain rfl := Nat.eq_of_beq_eq_true hc.2.1
      obtain rfl := Nat.eq_of_beq_eq_true hc.2.2
      obtain ⟨xs, z', md, hrow, hF, hkk⟩ := rowK_of hF
      split at hF
      · rename_i r rest
        cases hc2 : (!(md == Md.ro)) with
        | false => rw [hc2] at hF; cases hF
        | true =>
          rw [hc2, cond_true] at hF
          have hmd : md ≠ .ro := fun e => by rw [e] at hc2; exact absurd hc2 (by decide)
          split at hF
          · rename_i es clock hmap
            cases hc3 : (es.all (fun e => decide (e.born < clock)) && (nodupB (es.map (·.born)) && decide (es.length ≤ 1000000))) with
            | false => rw [hc3] at hF; cases hF
            | true =>
              rw [hc3, cond_true] at hF
              simp only [Bool.and_eq_true, decide_eq_true_eq] at hc3
              obtain ⟨k1, k2, k3⟩ := hc3
              split at hF
              · rename_i ks hks
                cases hp with
                | @ptr _ _ _ _ css c hl hcm h1 h2 h3 =>
                  obtain ⟨o, ho, hor⟩ := hs.obj _ _ hl
                  rw [hrow] at ho
                  obtain rfl := Option.some.inj ho
                  have hcr := hor.2.2.1 c hcm
                  obtain ⟨ob, _, _, _⟩ := hcr.own hmd
                  have hlo : c.lo = 0 := Nat.le_zero.1 h1
                  obtain ⟨v, sv, x1, x2, x3, _⟩ := hcr.cell 0 (by omega) (by omega)
                  have hv : v = .map (some r) := by simpa using x1.symm
                  subst hv
                  rw [ob, hlo] at x2
                  rw [show c.boff + (0 + 0 - c.lo) = 0 by omega]
                  cases x3 with
                  | @map _ rm hlm =>
                    obtain ⟨ces, _, hwm, hent⟩ := Sim.map hs hlm hmap
                    obtain ⟨q1, q2⟩ := pairs_keys hent hks
                    have hkeys : Keys ces ks := ⟨by rw [← Array.length_toList]; exact q1, fun j e hj => q2 j e (by rw [Array.getElem?_toList]; exact hj)⟩
                    have hbr := hent.born
                    have htold : EntTold ces clock := by
                      refine ⟨fun x hx => ?_, by rw [← hbr]; exact nodupB_of k2⟩
                      have : x.born ∈ es.map (·.born) := by rw [hbr]; exact List.mem_map.2 ⟨x, hx, rfl⟩
                      obtain ⟨y, hy, e⟩ := List.mem_map.1 this
                      have := List.all_eq_true.1 k1 y hy
                      rw [decide_eq_true_eq] at this
                      omega
                    have hkl : ks.length ≤ 1000000 := by rw [← q1, ← hent.1]; exact k3
                    refine ⟨enters hno hfn hb _ w, (h w c.blk rm ces clock ks htold hkeys hkl x2 hwm).mono ?_⟩
                    rintro e w' ⟨v, xs, rfl, hperm, hrw, hnil, hbl⟩
                    have hK := List.all_eq_true.1 hF xs (mem_perms hperm)
                    cases xs with
                    | nil =>
                      obtain rfl := hnil.2 rfl
                      exact ⟨_, _, σ, ρ, rfl, .refl ρ, .slNil, hs.grown ⟨hbl, trivial⟩, hK⟩
                    | cons x xs =>
                      obtain ⟨ρ', hle, hv', hs'⟩ := hs.newRowZ (by decide) hbl hrw (fun e => by have := hnil.1 e; cases this) (flatI_VRs _) (cellsI_leafy _)
                      exact ⟨_, _, _, ρ', rfl, hle, hv', hs', hK⟩
              · cases hF
          · cases hF
      · cases hF
  · cases hF
end Go.AM
