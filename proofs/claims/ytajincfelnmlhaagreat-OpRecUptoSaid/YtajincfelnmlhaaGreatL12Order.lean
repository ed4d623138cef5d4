/- Package lock: how two locks are ordered. -/
import Derived.Test.YtajincfelnmlhaaGreatL1Tab0
import Derived.Test.YtajincfelnmlhaaGreatL1Plans
import Derived.Test.YtajincfelnmlhaaGreatPUtf
import Derived.Test.YtajincfelnmlhaaGreatGmStep
namespace Go.Proofs.YtajincfelnmlhaaGreat
set_option maxRecDepth 100000
open Go Go.AM Go.AM.St
theorem up {n k : Nat} (h : k + 1 ≤ n) : ∃ m, n = Nat.succ m ∧ k ≤ m := ⟨n - 1, by omega, by omega⟩
theorem goK {P : Program} {D : Drawer} (hD : ByPlan P D) {callf : CallF} {ops : Array Oper} (plan : Plan) (hp : ordOk P ops plan = true) {fr : Fr} {σ : H} {K : Fr → H → Bool} (h : ∀ KK, KK = K → ordK P callf ops plan [] fr σ KK = true) :
    D callf ops fr σ K = true := hD.go plan hp (h K rfl)
/-- The table without contracts. -/
def tab0 : Tab := ⟨fun _ => none, masks⟩
/-- A lock. -/
structure KeyV where
  s : List Nat
  k : List Nat
  all : Bool
abbrev keyc (x : KeyV) : List AV := [.str (ints x.s), .str (ints x.k), .bool x.all]
def cmpS (a b : List Nat) : Int := if ltL (ints a) (ints b) then -1 else if !(ltL (ints a) (ints b) || ints a == ints b) then 1 else 0
def allO (a b : Bool) : Int := if a && !b then -1 else if b && !a then 1 else 0
def ordV (a b : KeyV) : Int := if cmpS a.s b.s ≠ 0 then cmpS a.s b.s else if allO a.all b.all ≠ 0 then allO a.all b.all else cmpS a.k b.k
theorem build37 {σ : H} {x y z : Int} {K : AV → H → Bool} (hK : K (.sl (.at σ.length 0 1) 3) (σ ++ [.cells (iks .i64 [x, y, z]) 1 .own]) = true) : buildSliceK Tryz.prog 37 3 [(0, .int .i64 x), (1, .int .i64 y), (2, .int .i64 z)] σ K = true := by
  conv => lhs; whnf
  exact hK
section Or
variable {D : Drawer} {σ : H}
attribute [local irreducible] Int.fdiv Int.tdiv Int.tmod BitVec.ofInt appendK sliceK ldK storeK seenK makeSliceK lookupK updateK deleteK mapK rangeK nextK buildSliceK indexK
theorem or_spec {n : Nat} {id : Nat} {md : Md} {x y z : Int} (hn : 6 ≤ n) (hs : σ[id]? = some (AO.cells (iks .i64 [x, y, z]) 1 md)) {K : AV → H → Bool} (hK : K (.int .i64 (if x ≠ 0 then x else if y ≠ 0 then y else z)) σ = true) :
    acall Tryz.prog tab0 D n 97 [.sl (.at id 0 1) 3] σ K = true := by
  obtain ⟨n, rfl, hn⟩ := up (n := n) (k := 5) (by omega)
  obtain ⟨n, rfl, hn⟩ := up (n := n) (k := 4) (by omega)
  obtain ⟨n, rfl, hn⟩ := up (n := n) (k := 3) (by omega)
  obtain ⟨n, rfl, hn⟩ := up (n := n) (k := 2) (by omega)
  obtain ⟨n, rfl, hn⟩ := up (n := n) (k := 1) (by omega)
  conv => lhs; whnf
  refine ldF Tryz.underlying3 rfl rfl hs (v := .int .i64 x) rfl ?_
  by_cases hx : x = 0
  case neg =>
    rw [if_pos hx] at hK
    conv => lhs; whnf
    rw [show (!(x == 0)) = true by simp [hx]]
    conv => lhs; whnf
    exact hK
  rw [if_neg (by simpa using hx)] at hK
  conv => lhs; whnf
  rw [show (!(x == 0)) = false by simp [hx]]
  conv => lhs; whnf
  refine ldF Tryz.underlying3 rfl rfl hs (v := .int .i64 y) rfl ?_
  by_cases hy : y = 0
  case neg =>
    rw [if_pos hy] at hK
    conv => lhs; whnf
    rw [show (!(y == 0)) = true by simp [hy]]
    conv => lhs; whnf
    exact hK
  rw [if_neg (by simpa using hy)] at hK
  conv => lhs; whnf
  rw [show (!(y == 0)) = false by simp [hy]]
  conv => lhs; whnf
  refine ldF Tryz.underlying3 rfl rfl hs (v := .int .i64 z) rfl ?_
  by_cases hz : z = 0
  case neg =>
    conv => lhs; whnf
    rw [show (!(z == 0)) = true by simp [hz]]
    conv => lhs; whnf
    exact hK
  subst hz
  conv => lhs; whnf
  exact hK
end Or
attribute [local irreducible] IntKind.wrap Int.fdiv Int.tdiv Int.tmod BitVec.ofInt appendK sliceK indexAddrK ldK storeK seenK makeSliceK lookupK updateK deleteK mapK rangeK nextK indexK
variable {D : Drawer} {σ : H}
theorem nan_spec {n : Nat} {a : List Int} (hn : 1 ≤ n) {K : AV → H → Bool} (hK : K (.bool false) σ = true) : acall Tryz.prog tab0 D n 114 [.str a] σ K = true := by
  obtain ⟨n, rfl, hn⟩ := up hn
  conv => lhs; whnf
  rw [show (!(a == a)) = false by simp]
  conv => lhs; whnf
  exact hK
theorem cmp_spec {n : Nat} {a b : List Nat} (hn : 2 ≤ n) {K : AV → H → Bool} (hK : K (.int .i64 (cmpS a b)) σ = true) : acall Tryz.prog tab0 D n 98 [.str (ints a), .str (ints b)] σ K = true := by
  obtain ⟨n, rfl, hn⟩ := up (n := n) (k := 1) (by omega)
  conv => lhs; whnf
  refine nan_spec (by omega) ?_
  conv => lhs; whnf
  refine nan_spec (by omega) ?_
  conv => lhs; whnf
  unfold cmpS at hK
  cases h : ltL (ints a) (ints b) with
  | true =>
    rw [h] at hK
    conv => lhs; whnf
    exact hK
  | false =>
    rw [h] at hK
    conv => lhs; whnf
    rw [h]
    cases h2 : (ints a == ints b) with
    | true =>
      rw [h2] at hK
      conv => lhs; whnf
      exact hK
    | false =>
      rw [h2] at hK
      conv => lhs; whnf
      exact hK
theorem order_spec {n : Nat} {x y : KeyV} (hD : ByPlan Tryz.prog D) (hn : 10 ≤ n) {K : AV → H → Bool} (hK : ∀ σ', K (.int .i64 (ordV x y)) σ' = true) : acall Tryz.prog tab0 D n 80 [.agg (keyc x), .agg (keyc y)] σ K = true := by
  obtain ⟨n, rfl, hn⟩ := up (n := n) (k := 9) (by omega)
  obtain ⟨xs, xk, xa⟩ := x
  obtain ⟨ys, yk, ya⟩ := y
  have T2 := get_old (get_new σ (AO.cells (keyc ⟨xs, xk, xa⟩) 3 .own)) (AO.cells (keyc ⟨ys, yk, ya⟩) 3 .own)
  have T3 := get_new (σ ++ [AO.cells (keyc ⟨xs, xk, xa⟩) 3 .own]) (AO.cells (keyc ⟨ys, yk, ya⟩) 3 .own)
  unfold ordV at hK
  rcases Bool.eq_false_or_eq_true xa with rfl | rfl
  · rcases Bool.eq_false_or_eq_true ya with rfl | rfl
    · conv => lhs; whnf
      refine ldF Tryz.underlying4 rfl rfl T2 rfl ?_
      conv => lhs; whnf
      refine ldF Tryz.underlying4 rfl rfl T3 rfl ?_
      conv => lhs; whnf
      refine ldF Tryz.underlying4 rfl rfl T3 rfl ?_
      conv => lhs; whnf
      refine ldF Tryz.underlying4 rfl rfl T2 rfl ?_
      conv => lhs; whnf
      refine goK hD plan80x6 ord80x6 fun KK hKK => ?_
      conv => lhs; whnf
      refine ldF Tryz.underlying9 rfl rfl T2 rfl ?_
      conv => lhs; whnf
      refine ldF Tryz.underlying9 rfl rfl T3 rfl ?_
      conv => lhs; whnf
      refine ldF Tryz.underlying9 rfl rfl T2 rfl ?_
      conv => lhs; whnf
      refine ldF Tryz.underlying9 rfl rfl T3 rfl ?_
      conv => lhs; whnf
      refine cmp_spec (by omega) ?_
      conv => lhs; whnf
      refine and_true (all_cons ?_ (all_cons ?_ (all_skip rfl (all_skip rfl rfl)))) ?_
      · conv => lhs; whnf
        refine ldF Tryz.underlying9 rfl rfl T3 rfl ?_
        exact same_str _
      · conv => lhs; whnf
        refine ldF Tryz.underlying9 rfl rfl T2 rfl ?_
        exact same_str _
      conv => lhs; whnf
      refine cmp_spec (by omega) ?_
      conv => lhs; whnf
      refine or_spec (x := cmpS xs ys) (y := 0) (z := cmpS xk yk) (by omega) (get_new _ _) ?_
      conv => lhs; whnf
      subst hKK
      conv => lhs; whnf
      exact hK _
    · conv => lhs; whnf
      refine ldF Tryz.underlying4 rfl rfl T2 rfl ?_
      conv => lhs; whnf
      refine ldF Tryz.underlying4 rfl rfl T3 rfl ?_
      conv => lhs; whnf
      refine goK hD plan80x6 ord80x6 fun KK hKK => ?_
      conv => lhs; whnf
      refine ldF Tryz.underlying9 rfl rfl T2 rfl ?_
      conv => lhs; whnf
      refine ldF Tryz.underlying9 rfl rfl T3 rfl ?_
      conv => lhs; whnf
      refine ldF Tryz.underlying9 rfl rfl T2 rfl ?_
      conv => lhs; whnf
      refine ldF Tryz.underlying9 rfl rfl T3 rfl ?_
      conv => lhs; whnf
      refine cmp_spec (by omega) ?_
      conv => lhs; whnf
      refine and_true (all_cons ?_ (all_cons ?_ (all_skip rfl (all_skip rfl rfl)))) ?_
      · conv => lhs; whnf
        refine ldF Tryz.underlying9 rfl rfl T3 rfl ?_
        exact same_str _
      · conv => lhs; whnf
        refine ldF Tryz.underlying9 rfl rfl T2 rfl ?_
        exact same_str _
      conv => lhs; whnf
      refine cmp_spec (by omega) ?_
      conv => lhs; whnf
      refine or_spec (x := cmpS xs ys) (y := -1) (z := cmpS xk yk) (by omega) (get_new _ _) ?_
      conv => lhs; whnf
      subst hKK
      conv => lhs; whnf
      exact hK _
  · rcases Bool.eq_false_or_eq_true ya with rfl | rfl
    · conv => lhs; whnf
      refine ldF Tryz.underlying4 rfl rfl T2 rfl ?_
      conv => lhs; whnf
      refine ldF Tryz.underlying4 rfl rfl T3 rfl ?_
      conv => lhs; whnf
      refine ldF Tryz.underlying4 rfl rfl T2 rfl ?_
      conv => lhs; whnf
      refine goK hD plan80x6 ord80x6 fun KK hKK => ?_
      conv => lhs; whnf
      refine ldF Tryz.underlying9 rfl rfl T2 rfl ?_
      conv => lhs; whnf
      refine ldF Tryz.underlying9 rfl rfl T3 rfl ?_
      conv => lhs; whnf
      refine ldF Tryz.underlying9 rfl rfl T2 rfl ?_
      conv => lhs; whnf
      refine ldF Tryz.underlying9 rfl rfl T3 rfl ?_
      conv => lhs; whnf
      refine cmp_spec (by omega) ?_
      conv => lhs; whnf
      refine and_true (all_cons ?_ (all_cons ?_ (all_skip rfl (all_skip rfl rfl)))) ?_
      · conv => lhs; whnf
        refine ldF Tryz.underlying9 rfl rfl T3 rfl ?_
        exact same_str _
      · conv => lhs; whnf
        refine ldF Tryz.underlying9 rfl rfl T2 rfl ?_
        exact same_str _
      conv => lhs; whnf
      refine cmp_spec (by omega) ?_
      conv => lhs; whnf
      refine or_spec (x := cmpS xs ys) (y := 1) (z := cmpS xk yk) (by omega) (get_new _ _) ?_
      conv => lhs; whnf
      subst hKK
      conv => lhs; whnf
      exact hK _
    · conv => lhs; whnf
      refine ldF Tryz.underlying4 rfl rfl T2 rfl ?_
      conv => lhs; whnf
      refine ldF Tryz.underlying4 rfl rfl T3 rfl ?_
      conv => lhs; whnf
      refine goK hD plan80x6 ord80x6 fun KK hKK => ?_
      conv => lhs; whnf
      refine ldF Tryz.underlying9 rfl rfl T2 rfl ?_
      conv => lhs; whnf
      refine ldF Tryz.underlying9 rfl rfl T3 rfl ?_
      conv => lhs; whnf
      refine ldF Tryz.underlying9 rfl rfl T2 rfl ?_
      conv => lhs; whnf
      refine ldF Tryz.underlying9 rfl rfl T3 rfl ?_
      conv => lhs; whnf
      refine cmp_spec (by omega) ?_
      conv => lhs; whnf
      refine and_true (all_cons ?_ (all_cons ?_ (all_skip rfl (all_skip rfl rfl)))) ?_
      · conv => lhs; whnf
        refine ldF Tryz.underlying9 rfl rfl T3 rfl ?_
        exact same_str _
      · conv => lhs; whnf
        refine ldF Tryz.underlying9 rfl rfl T2 rfl ?_
        exact same_str _
      conv => lhs; whnf
      refine cmp_spec (by omega) ?_
      conv => lhs; whnf
      refine or_spec (x := cmpS xs ys) (y := 0) (z := cmpS xk yk) (by omega) (get_new _ _) ?_
      conv => lhs; whnf
      subst hKK
      conv => lhs; whnf
      exact hK _
end Go.Proofs.YtajincfelnmlhaaGreat
