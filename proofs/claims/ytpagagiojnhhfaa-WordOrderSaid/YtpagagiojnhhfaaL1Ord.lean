/- WordOrder. -/
import Derived.Test.YtpagagiojnhhfaaL1Word
import Derived.Test.YtpagagiojnhhfaaAmShp
namespace Go.Proofs.Ytpagagiojnhhfaa
open Go Go.AM Go.AM.St
attribute [local irreducible] IntKind.wrap Int.fdiv Int.tdiv Int.tmod BitVec.ofInt drawRegion appendK sliceK indexAddrK ldK storeK seenK makeSliceK
set_option maxRecDepth 100000

theorem wordOrder_run {n : Nat} (hn : 13 ≤ n) {a b : Int} (ha1 : -9223372036854775808 ≤ a) (ha2 : a ≤ 9223372036854775807) (hb1 : -9223372036854775808 ≤ b) (hb2 : b ≤ 9223372036854775807) (σ : H) :
    acall Try.prog tab n 5 [.int .i64 a, .int .i64 b] σ isTrue = true := by
  obtain ⟨n, rfl, hn⟩ := up hn
  conv => lhs; whnf
  refine begun_spec ?_
  conv => lhs; whnf
  refine bif_case (fun h1 => ?_) (fun h1 => ?_)
  · conv => lhs; whnf
  conv => lhs; whnf
  refine bif_case (fun h2 => ?_) (fun h2 => ?_)
  · conv => lhs; whnf
  conv => lhs; whnf
  refine put_spec (by omega) ha1 ha2 σ _ fun o1 a1 σ1 p1 r1 => ?_
  conv => lhs; whnf
  refine put_spec (by omega) hb1 hb2 σ1 _ fun o2 a2 σ2 p2 r2 => ?_
  have za : zigN a = (2 * a).toNat := by unfold zigN; rw [if_neg (by simpa using h1)]
  have zb : zigN b = (2 * b).toNat := by unfold zigN; rw [if_neg (by simpa using h2)]
  have h1' : ¬ a < 0 := by simpa using h1
  have h2' : ¬ b < 0 := by simpa using h2
  have hab : decide (zigN a < zigN b) = decide (a < b) := by rw [za, zb, decide_eq_decide]; omega
  have la := zigN_lt ha1 ha2
  have lb := zigN_lt hb1 hb2
  conv => lhs; whnf
  refine bif_case (fun h3 => ?_) (fun h3 => ?_)
  · have hne : (enc (zigN a)).length ≠ (enc (zigN b)).length := by
      intro e; rw [e] at h3; simp at h3
    have key := (hab.symm.trans (enc_longer hne))
    conv => lhs; whnf
    refine bif_case (fun h4 => ?_) (fun h4 => ?_)
    · conv => lhs; whnf
      refine bif_pos ?_ ?_
      · rw [h4] at key
        have := of_decide_eq_true key.symm
        rw [decide_eq_true_eq]; omega
      · conv => lhs; whnf
    · conv => lhs; whnf
      refine bif_neg ?_ ?_
      · rw [h4] at key
        have := of_decide_eq_false key.symm
        rw [decide_eq_false_iff_not]; omega
      · conv => lhs; whnf
  · have heq : (enc (zigN a)).length = (enc (zigN b)).length := by
      have : ((enc (zigN a)).length : Int) = ((enc (zigN b)).length : Int) := by simpa using h3
      omega
    have key := hab.symm.trans (enc_order la lb heq).symm
    conv => lhs; whnf
    refine bif_case (fun h4 => ?_) (fun h4 => ?_)
    · conv => lhs; whnf
      refine strK_rw (r1.rw.mono p2) (enc_lt _) ?_
      conv => lhs; whnf
      refine strK_rw r2.rw (enc_lt _) ?_
      conv => lhs; whnf
      refine bif_pos (key.symm.trans h4) ?_
      conv => lhs; whnf
    · conv => lhs; whnf
      refine strK_rw (r1.rw.mono p2) (enc_lt _) ?_
      conv => lhs; whnf
      refine strK_rw r2.rw (enc_lt _) ?_
      conv => lhs; whnf
      refine bif_neg (key.symm.trans h4) ?_
      conv => lhs; whnf

theorem wordOrder_law (σ : H) (vs : List AV) (h : ArgsShp Try.prog σ 9 [2, 2] vs) : ∃ n, acall Try.prog tab n 5 vs σ isTrue = true := by
  obtain ⟨a, vs, rfl, ha, h⟩ := args_cons h
  obtain ⟨b, vs, rfl, hb, h⟩ := args_cons h
  obtain rfl := args_nil h
  obtain ⟨a, rfl, a1, a2⟩ := arg_int Try.underlying2 ha
  obtain ⟨b, rfl, b1, b2⟩ := arg_int Try.underlying2 hb
  exact ⟨13, wordOrder_run (Nat.le_refl _) a1 a2 b1 b2 σ⟩
end Go.Proofs.Ytpagagiojnhhfaa
