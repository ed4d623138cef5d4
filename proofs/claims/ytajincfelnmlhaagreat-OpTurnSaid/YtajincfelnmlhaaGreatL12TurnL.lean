/- OpTurn, for whatever arguments. -/
import Derived.Test.YtajincfelnmlhaaGreatL12Turn
import Derived.Test.YtajincfelnmlhaaGreatGmOp
namespace Go.Proofs.YtajincfelnmlhaaGreat
set_option maxRecDepth 100000
open Go Go.AM Go.AM.St
theorem opTurn_law (σ : H) (vs : List AV) (h : ArgsShp Tryz.prog σ 9 [23, 3, 2, 9] vs) : ∃ n, acall Tryz.prog tab (drawRegion Tryz.prog) n 4 vs σ isTrue = true := by
  obtain ⟨a, us, rfl, h1, h⟩ := args_cons h
  obtain ⟨b, us, rfl, h2, h⟩ := args_cons h
  obtain ⟨c, us, rfl, h3, h⟩ := args_cons h
  obtain ⟨d, us, rfl, h4, h⟩ := args_cons h
  obtain rfl := args_nil h
  obtain ⟨o, rfl, ho⟩ := arg_op h1
  obtain ⟨i, rfl, i1, i2⟩ := arg_int Tryz.underlying3 h2
  obtain ⟨j, rfl, j1, j2⟩ := arg_int Tryz.underlying2 h3
  obtain ⟨s, rfl, s1, s2⟩ := arg_str Tryz.underlying9 h4
  exact ⟨_, opTurn_run (byPlan _) (Nat.le_refl _) ho.ok (Nat.le_trans ho.s (by decide)) s1 j1 j2 fun _ hK => begun_spec (hK _ (List.prefix_refl _))⟩
end Go.Proofs.YtajincfelnmlhaaGreat
