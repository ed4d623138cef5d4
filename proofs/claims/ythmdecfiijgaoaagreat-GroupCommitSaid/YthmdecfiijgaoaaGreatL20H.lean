/- Helpers of the laws' runs (L20GV has them, too: never import both). -/
import Derived.Test.YthmdecfiijgaoaaGreatL20Z
namespace Go.Proofs.YthmdecfiijgaoaaGreat
set_option maxRecDepth 100000
open Go Go.AM Go.AM.St
open Go.Raft (termAt fromL newer len upd)
/-- A node that is asked alone: what it was, and its vote. -/
abbrev vN (me : Nat) (t vt : Int) : NSR := Go.Raft.newN me t vt []
theorem vN_ok {me : Nat} {t vt : Int} (h : me < 3) (h0 : 0 ≤ t) (h1 : t ≤ 15) : OkN (vN me t vt) :=
  ⟨h, Int.le_refl 0, by show (0 : Int) < Go.Raft.wait me; unfold Go.Raft.wait; omega, Nat.zero_le _, (fun e he => by cases he), h0, by show t ≤ _; omega, fun j _ => ⟨Int.le_refl 0, show (0 : Int) ≤ 2001 by decide⟩, fun j _ => ⟨Int.le_refl 0, show (0 : Int) ≤ 2000 by decide⟩, Int.le_refl 0⟩
theorem mod3 (x : Int) : ∃ v : Nat, v < 3 ∧ (IntKind.i64.wrap (x.tmod 3 + 3)).tmod 3 = (v : Int) := by
  have t1 := Int.tmod_lt_of_pos x (by decide : (0 : Int) < 3)
  have t2 := Int.lt_tmod_of_pos x (by decide : (0 : Int) < 3)
  rw [wrap_i64 (x := x.tmod 3 + 3) (by omega) (by omega)]
  have t3 := Int.tmod_nonneg 3 (show 0 ≤ x.tmod 3 + 3 by omega)
  have t4 := Int.tmod_lt_of_pos (x.tmod 3 + 3) (by decide : (0 : Int) < 3)
  exact ⟨((x.tmod 3 + 3).tmod 3).toNat, by omega, by omega⟩
theorem prefix_of {α : Type} {a b : List α} (h : ∀ i, i < a.length → b[i]? = a[i]?) : a <+: b := by
  rw [List.prefix_iff_getElem?]
  intro i hi
  rw [h i hi, List.getElem?_eq_getElem hi]
theorem Stq.pfx {F F' : Nat → Prop} {σ0 σ σ' : H} (s : Stq F F' σ σ') (p : σ0 <+: σ) (h : ∀ id, F id → σ0.length ≤ id) : σ0 <+: σ' :=
  prefix_of fun i hi => by
    rw [s.keep i (Nat.lt_of_lt_of_le hi (prefix_len p)) (fun hf => absurd (h i hf) (by omega)), prefix_get p (List.getElem?_eq_getElem hi), List.getElem?_eq_getElem hi]
theorem Stq.low {F F' : Nat → Prop} {σ0 σ σ' : H} (s : Stq F F' σ σ') (p : σ0 <+: σ) (h : ∀ id, F id → σ0.length ≤ id) : ∀ id, F' id → σ0.length ≤ id := fun id hf =>
  (s.fp id hf).elim (h id) fun h => Nat.le_trans (prefix_len p) h
theorem stLt {σ : H} {id d : Nat} {x x' : Lm × AM.SA} {t : TypeId} {i : TypeInfo} {val : AV} {K : H → Bool} (hi : Tryz.prog.info? t = some i) (hz : i.size = 1) (hd : d + 1 ≤ 9) (hl : isLeaf val = true) (hr : σ[id]? = some (AO.cells (lc x) 9 .own))
    (he : (lc x).set d val = lc x') (hK : K (σ.set id (.cells (lc x') 9 .own)) = true) : storeK Tryz.prog t (.ptr (some ⟨id, 0, d, 9⟩)) val σ K = true := by
  refine storeK_of hi hz hd hr hl (by show 0 + d < 9; omega) ?_
  rw [Nat.zero_add, he]
  exact hK
end Go.Proofs.YthmdecfiijgaoaaGreat
