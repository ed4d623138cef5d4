/- Package op: transactions as records. -/
import Derived.Test.YtajincfelnmlhaaGreatGmParts
import Derived.Test.YtajincfelnmlhaaGreatGmRec
namespace Go.Proofs.YtajincfelnmlhaaGreat
set_option maxRecDepth 100000
open Go Go.AM Go.AM.St
def putNums (l : List OpV) : List Int := l.flatMap fun o => [o.kind, o.n]
def putTexts (l : List OpV) : List (List Nat) := l.flatMap fun o => [o.s, o.k, o.t]
def putV (c e : Int) (l : List OpV) (k : Int) : RecP := ⟨k, [c, e] ++ putNums l, putTexts l⟩
def putOk (c e : Int) (l : List OpV) (k : Int) : Bool := (k == 3 || k == 4) && clientV c e && allV l
theorem build2 {σ : H} {x y : Int} {K : AV → H → Bool} (hK : K (.sl (.at σ.length 0 1) 2) (σ ++ [.cells (iks .i64 [x, y]) 1 .own]) = true) : buildSliceK Tryz.prog 40 2 [(0, .int .i64 x), (1, .int .i64 y)] σ K = true := by
  conv => lhs; whnf
  exact hK
theorem build3 {σ : H} {x y z : List Nat} {K : AV → H → Bool} (hK : K (.sl (.at σ.length 0 1) 3) (σ ++ [.cells (txs [x, y, z]) 1 .own]) = true) : buildSliceK Tryz.prog 41 3 [(0, .str (ints x)), (1, .str (ints y)), (2, .str (ints z))] σ K = true := by
  conv => lhs; whnf
  exact hK
attribute [local irreducible] IntKind.wrap Int.fdiv Int.tdiv Int.tmod BitVec.ofInt appendK sliceK indexAddrK ldK storeK seenK makeSliceK lookupK updateK deleteK mapK rangeK nextK buildSliceK indexK
variable {D : Drawer} {σ : H}
theorem storeRec {ρ : H} {id : Nat} {x y z x' y' z' : AV} {K : H → Bool} (hg : ρ[id]? = some (AO.cells [x, y, z] 3 .own)) (hl : leafy [x', y', z'] = true)
    (hK : K (ρ.set id (.cells [x', y', z'] 3 .own)) = true) : storeK Tryz.prog 43 (.ptr (some ⟨id, 0, 0, 3⟩)) (.agg [x', y', z']) ρ K = true :=
  storeS rfl hg rfl rfl (Nat.le_refl 3) hl hK
theorem ldRec {ρ : H} {id : Nat} {k : Int} {a b : AM.SA} {x y : Nat} {md : Md} {K : AV → Bool} (hr : ρ[id]? = some (AO.cells [.int .i64 k, .sl a x, .sl b y] 3 md)) (hK : K (.agg [.int .i64 k, .sl a x, .sl b y]) = true) : ldK Tryz.prog 43 ρ ⟨id, 0, 0, 3⟩ K = true := by
  refine ldK_struct Tryz.underlying43 rfl rfl (es := [.int .i64 k, .sl a x, .sl b y]) ⟨rfl, rfl, _, md, hr, by show 0 + 3 ≤ 3; decide, rfl⟩ ?_
  conv => lhs; whnf
  exact hK
theorem ldId {ρ : H} {id : Nat} {c e : Int} {md : Md} {K : AV → Bool} (hr : ρ[id]? = some (AO.cells (idv c e) 2 md)) (hK : K (.agg (idv c e)) = true) : ldK Tryz.prog 26 ρ ⟨id, 0, 0, 2⟩ K = true := by
  refine ldK_struct Tryz.underlying26 rfl rfl (es := idv c e) ⟨rfl, rfl, _, md, hr, by show 0 + 2 ≤ 2; decide, rfl⟩ ?_
  conv => lhs; whnf
  exact hK
theorem put_no {n : Nat} {s : AM.SA} {l : List OpV} {c e k : Int} (hn : l.length + 100 ≤ n) (hl : l.length ≤ 9223372036854775806) (hs : Rw σ 5 s l.length (opvs l)) (ho : ∀ o ∈ l, OkV o) {K : AV → H → Bool} (hp : putOk c e l k = false)
    (hK : ∀ σ', σ <+: σ' → K (.tup [.agg [.int .i64 0, .sl .nil 0, .sl .nil 0], .bool false]) σ' = true) :
    acall Tryz.prog tab D n 29 [.agg (idv c e), .sl s l.length, .int .i64 k] σ K = true := by
  obtain ⟨n, rfl, hn⟩ := up (n := n) (k := l.length + 99) (by omega)
  have T6 := get_new (σ ++ [AO.cells (idv c e) 2 .own]) (AO.cells [.int .i64 0, .sl .nil 0, .sl .nil 0] 3 .own)
  have T3 : (σ ++ [AO.cells (idv c e) 2 .own] ++ [AO.cells [.int .i64 0, .sl .nil 0, .sl .nil 0] 3 .own])[σ.length]? = some (AO.cells (idv c e) 2 .own) := prefix_get (List.prefix_append _ _) (get_new _ _)
  have P6 : σ <+: σ ++ [AO.cells (idv c e) 2 .own] ++ [AO.cells [.int .i64 0, .sl .nil 0, .sl .nil 0] 3 .own] := (List.prefix_append _ _).trans (List.prefix_append _ _)
  have hlen : (σ ++ [AO.cells (idv c e) 2 .own]).length = σ.length + 1 := by simp
  conv => lhs; whnf
  by_cases k34 : ¬ (k = 3 ∨ k = 4)
  · rw [show (k == 3) = false by rw [beq_eq_false_iff_ne]; omega]
    conv => lhs; whnf
    rw [show (k == 4) = false by rw [beq_eq_false_iff_ne]; omega]
    conv => lhs; whnf
    refine storeRec T6 rfl ?_
    rw [set_new]
    have := hK _ P6
    conv => lhs; whnf
    refine ldRec T6 ?_
    conv => lhs; whnf
    exact this
  have k34' : k = 3 ∨ k = 4 := Decidable.not_not.1 k34
  rcases k34' with rfl | rfl
  all_goals
    conv => lhs; whnf
    refine ldId T3 ?_
    conv => lhs; whnf
    refine client_spec (by omega) fun σ1 p1 => ?_
    cases hc : clientV c e with
    | false =>
      conv => lhs; whnf
      refine storeRec (prefix_get p1 T6) rfl ?_
      have T7 := get_set (prefix_get p1 T6) (AO.cells [.int .i64 0, .sl .nil 0, .sl .nil 0] 3 .own)
      have := hK _ (prefix_set (P6.trans p1) (show σ.length ≤ (σ ++ [AO.cells (idv c e) 2 .own]).length by omega) (AO.cells [.int .i64 0, .sl .nil 0, .sl .nil 0] 3 .own))
      conv => lhs; whnf
      refine ldRec T7 ?_
      conv => lhs; whnf
      exact this
    | true =>
      conv => lhs; whnf
      refine all_spec (by omega) hl (hs.mono (P6.trans p1)) ho fun σ2 p2 => ?_
      cases ha : allV l with
      | false =>
        conv => lhs; whnf
        refine storeRec (prefix_get (p1.trans p2) T6) rfl ?_
        have T7 := get_set (prefix_get (p1.trans p2) T6) (AO.cells [.int .i64 0, .sl .nil 0, .sl .nil 0] 3 .own)
        have := hK _ (prefix_set (P6.trans (p1.trans p2)) (show σ.length ≤ (σ ++ [AO.cells (idv c e) 2 .own]).length by omega) (AO.cells [.int .i64 0, .sl .nil 0, .sl .nil 0] 3 .own))
        conv => lhs; whnf
        refine ldRec T7 ?_
        conv => lhs; whnf
        exact this
      | true =>
        unfold putOk at hp
        rw [hc, ha] at hp
        cases hp
end Go.Proofs.YtajincfelnmlhaaGreat
