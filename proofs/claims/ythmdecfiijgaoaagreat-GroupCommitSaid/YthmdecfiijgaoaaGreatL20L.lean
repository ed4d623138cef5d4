/- Package log, over rows that are its own. -/
import Derived.Test.YthmdecfiijgaoaaGreatL18S
import Derived.Test.YthmdecfiijgaoaaGreatL18Vote
import Derived.Test.YthmdecfiijgaoaaGreatL18Box
import Derived.Test.YthmdecfiijgaoaaGreatPRaft0
import Derived.Test.YthmdecfiijgaoaaGreatGmCode
namespace Go.Proofs.YthmdecfiijgaoaaGreat
set_option maxRecDepth 100000
open Go Go.AM Go.AM.St
theorem same_ptr (a : Option PA) : sameV (.ptr a) (.ptr a) = true := by simp [sameV, sameLeaf]
/-! What a goal is, by its head alone. -/
theorem gLd {P : Program} {t : TypeId} {σ : H} {p : PA} {K : AV → Bool} (h : ldK P t σ p K = true) : ldK P t σ p K = true := h
theorem gSt {P : Program} {t : TypeId} {σ : H} {a v : AV} {K : H → Bool} (h : storeK P t a v σ K = true) : storeK P t a v σ K = true := h
theorem same_map (a : Option Nat) : sameV (.map a) (.map a) = true := by simp [sameV, sameLeaf]
theorem same_bool (a : Bool) : sameV (.bool a) (.bool a) = true := by simp [sameV, sameLeaf]
section
variable {P : Program} {t : TypeId}
theorem cs_int {k : IntKind} {n : Int} (ht : P.underlying t = some (.int k)) : castT P t (.int k n) (fun u => sameV u (.int k n)) = true := by
  unfold castT; rw [ht]; exact bif_pos (by simp) (same_int k n)
theorem cs_sl {e : TypeId} {a : AM.SA} {n : Nat} (ht : P.underlying t = some (.slice e)) : castT P t (.sl a n) (fun u => sameV u (.sl a n)) = true := by unfold castT; rw [ht]; exact same_sl a n
theorem cs_ptr {e : TypeId} {a : Option PA} (ht : P.underlying t = some (.pointer e)) : castT P t (.ptr a) (fun u => sameV u (.ptr a)) = true := by unfold castT; rw [ht]; exact same_ptr a
theorem cs_str {s : List Int} (ht : P.underlying t = some .string) : castT P t (.str s) (fun u => sameV u (.str s)) = true := by unfold castT; rw [ht]; exact same_str s
theorem cs_bool {a : Bool} (ht : P.underlying t = some .bool) : castT P t (.bool a) (fun u => sameV u (.bool a)) = true := by unfold castT; rw [ht]; exact same_bool a
theorem cs_map {k e : TypeId} {a : Option Nat} (ht : P.underlying t = some (.map k e)) : castT P t (.map a) (fun u => sameV u (.map a)) = true := by unfold castT; rw [ht]; exact same_map a
end
section
variable {P : Program} {t : TypeId} {i : TypeInfo} {σ : H} {id b d zz y : Nat} {xs : List AV} {K : H → Bool}
theorem st_int (hi : P.info? t = some i) (hz : i.size = 1) (hd : d + 1 ≤ zz) {k : IntKind} {n : Int} (hr : σ[id]? = some (AO.cells xs y .own)) (hb : b + d < xs.length)
    (hK : K (σ.set id (.cells (xs.set (b + d) (.int k n)) y .own)) = true) : storeK P t (.ptr (some ⟨id, b, d, zz⟩)) (.int k n) σ K = true := storeK_of hi hz hd hr rfl hb hK
theorem st_bool (hi : P.info? t = some i) (hz : i.size = 1) (hd : d + 1 ≤ zz) {n : Bool} (hr : σ[id]? = some (AO.cells xs y .own)) (hb : b + d < xs.length)
    (hK : K (σ.set id (.cells (xs.set (b + d) (.bool n)) y .own)) = true) : storeK P t (.ptr (some ⟨id, b, d, zz⟩)) (.bool n) σ K = true := storeK_of hi hz hd hr rfl hb hK
theorem st_sl (hi : P.info? t = some i) (hz : i.size = 1) (hd : d + 1 ≤ zz) {a : AM.SA} {n : Nat} (hr : σ[id]? = some (AO.cells xs y .own)) (hb : b + d < xs.length)
    (hK : K (σ.set id (.cells (xs.set (b + d) (.sl a n)) y .own)) = true) : storeK P t (.ptr (some ⟨id, b, d, zz⟩)) (.sl a n) σ K = true := storeK_of hi hz hd hr rfl hb hK
theorem st_ptr (hi : P.info? t = some i) (hz : i.size = 1) (hd : d + 1 ≤ zz) {a : Option PA} (hr : σ[id]? = some (AO.cells xs y .own)) (hb : b + d < xs.length)
    (hK : K (σ.set id (.cells (xs.set (b + d) (.ptr a)) y .own)) = true) : storeK P t (.ptr (some ⟨id, b, d, zz⟩)) (.ptr a) σ K = true := storeK_of hi hz hd hr rfl hb hK
end
open Go.Raft (termAt fromL mis put newer len)
theorem len_vals (V : List En) : len (vals V) = (V.length : Int) := by unfold len; rw [vals_len]
theorem termN_at {l : List EnV} {i : Nat} (h : i ≤ l.length) : termN l i = termAt l (i : Int) := by
  cases i with
  | zero => rw [Go.Raft.termAt_zero]; rfl
  | succ i =>
    have := Go.Raft.termAt_nat (l := l) (m := i) h
    rw [show ((i + 1 : Nat) : Int) = (i : Int) + 1 by omega, this, termN, List.getElem?_eq_getElem h]; rfl
theorem newerB_eq (l : List EnV) (x t : Int) : newerB l x t = newer l x t := by
  unfold newerB newer
  rw [termN_at (Nat.le_refl _)]
  show _ = decide (termAt l (l.length : Int) < t ∨ t = termAt l (l.length : Int) ∧ (l.length : Int) ≤ x)
  rw [← Bool.decide_and, ← Bool.decide_or]
attribute [local irreducible] IntKind.wrap Int.fdiv Int.tdiv Int.tmod BitVec.ofInt appendK sliceK indexAddrK ldK storeK seenK makeSliceK lookupK updateK clearK
variable {D : Drawer} {σ : H}
/-- Term of whatever place. -/
theorem termA_spec {n B : Nat} {y : Int} {V : List En} (hn : 2 ≤ n) (hV : V.length ≤ 10000) (hL : IsLog σ B V) {K : AV → H → Bool} (hK : K (.int .i64 (termAt (vals V) y)) σ = true) :
    acall Tryz.prog tab D n 71 [.ptr (some ⟨B, 0, 0, 1⟩), .int .i64 y] σ K = true := by
  by_cases h : 0 ≤ y ∧ y ≤ V.length
  · refine term_spec (i := y.toNat) hn (by omega) (by omega) hV hL ?_
    rw [termN_at (by rw [vals_len]; omega), show ((y.toNat : Nat) : Int) = y by omega]
    exact hK
  · have e : termAt (vals V) y = -1 := by unfold termAt; rw [len_vals, if_pos (by omega)]
    rw [e] at hK
    obtain ⟨n, rfl, hn⟩ := up hn
    conv => lhs; whnf
    by_cases h0 : y < 0
    · refine bif_pos (by simpa using h0) ?_
      conv => lhs; whnf
      exact hK
    · refine bif_neg (by simpa using h0) ?_
      conv => lhs; whnf
      refine len_spec (by omega) hL ?_
      conv => lhs; whnf
      refine bif_pos (by simp; omega) ?_
      conv => lhs; whnf
      exact hK
theorem newA_spec {n B : Nat} {y z : Int} {V : List En} (hn : 3 ≤ n) (hV : V.length ≤ 10000) (hL : IsLog σ B V) {K : AV → H → Bool} (hK : K (.bool (newer (vals V) y z)) σ = true) :
    acall Tryz.prog tab D n 97 [.ptr (some ⟨B, 0, 0, 1⟩), .int .i64 y, .int .i64 z] σ K = true :=
  newer_spec hn hV hL (by rw [newerB_eq]; exact hK)
/-- From whatever place on. -/
theorem fromA_spec {n B m : Nat} {y : Int} {V : List En} (hn : 2100 ≤ n) (hy1 : -1000000 ≤ y) (hy2 : y ≤ 1000000) (hm1 : 1 ≤ m) (hm2 : m ≤ 2000) (hV : V.length ≤ 2500) (hD : ByPlan Tryz.prog D) (hL : IsLog σ B V) (hsm : Small (vals V)) {K : AV → H → Bool}
    (hK : ∀ o w W σ', σ <+: σ' → EsS σ σ' W → vals W = fromL (vals V) y m → OwnS σ σ' 4 o w W.length (ents W) → K (.sl w W.length) σ' = true) :
    acall Tryz.prog tab D n 63 [.ptr (some ⟨B, 0, 0, 1⟩), .int .i64 y, .int .i64 (m : Int)] σ K = true := by
  obtain ⟨n, rfl, hn⟩ := up hn
  have nil : fromL (vals V) y m = [] → K (.sl .nil 0) σ = true := fun e => hK none .nil [] σ (List.prefix_refl _) (EsS.nil _ _) (by rw [e]; rfl) (OwnS.nil _ _ _)
  conv => lhs; whnf
  by_cases h0 : y < 1
  · refine bif_pos (by simpa using h0) ?_
    conv => lhs; whnf
    exact nil (by unfold fromL; rw [if_pos (.inl h0)])
  refine bif_neg (by simpa using h0) ?_
  conv => lhs; whnf
  refine len_spec (by omega) hL ?_
  conv => lhs; whnf
  by_cases h1 : (V.length : Int) < y
  · refine bif_pos (by simpa using h1) ?_
    conv => lhs; whnf
    exact nil (by unfold fromL; rw [len_vals, if_pos (.inr h1)])
  refine bif_neg (by simpa using h1) ?_
  conv => lhs; whnf
  refine bif_neg (by simp; omega) ?_
  have hL' := hL
  obtain ⟨a, md, g1, g2, g3⟩ := hL'
  conv => lhs; whnf
  refine hD.go plan63x3 ord63x3 ?_
  conv => lhs; whnf
  refine ldL g1 ?_
  conv => lhs; whnf
  refine len_spec (by omega) hL ?_
  conv => lhs; whnf
  refine and_true (all_cons ?_ rfl) ?_
  · conv => lhs; whnf
    refine ldL g1 ?_
    exact same_sl _ _
  conv => lhs; whnf
  have e1 : (y - 1) = (((y - 1).toNat : Nat) : Int) := by omega
  have e2 : (if (2000 : Int) < (m : Int) then (2000 : Int) else (m : Int)) = (m : Int) := if_neg (by omega)
  refine slice22 g2 (y - 1).toNat (min ((y - 1).toNat + m) V.length) (.inr ⟨_, _, rfl, ?_⟩) (.inr ⟨_, _, rfl, ?_⟩) (by omega) (Nat.min_le_right _ _) fun a2 r2 => ?_
  · rw [wrap_i64 (by omega) (by omega)]; exact e1
  · show (if (V.length : Int) < IntKind.i64.wrap (IntKind.i64.wrap (y - 1) + (if (2000 : Int) < (m : Int) then (2000 : Int) else (m : Int))) then (V.length : Int) else IntKind.i64.wrap (IntKind.i64.wrap (y - 1) + (if (2000 : Int) < (m : Int) then (2000 : Int) else (m : Int)))) = _
    rw [e2, wrap_i64 (x := y - 1) (by omega) (by omega), wrap_i64 (by omega) (by omega)]
    split <;> omega
  have e3 : (V.take (min ((y - 1).toNat + m) V.length)).drop (y - 1).toNat = (V.drop (y - 1).toNat).take m := by
    rw [← List.take_take, List.take_of_length_le (Nat.le_refl V.length), List.drop_take, Nat.add_sub_cancel_left]
  rw [e3] at r2 ⊢
  have hle : ((V.drop (y - 1).toNat).take m).length ≤ 2000 := by rw [List.length_take]; omega
  conv => lhs; whnf
  refine own_own (by omega) (by omega) hD r2 ((g3.drop _).take _) (by rw [vals_take, vals_drop]; exact (hsm.drop _).take _) fun o w W σ2 p2 i2 v2 o2 => ?_
  conv => lhs; whnf
  exact hK o w W σ2 p2 i2 (by rw [v2, vals_take, vals_drop]; unfold fromL; rw [len_vals, if_neg (by omega)]) o2
end Go.Proofs.YthmdecfiijgaoaaGreat
