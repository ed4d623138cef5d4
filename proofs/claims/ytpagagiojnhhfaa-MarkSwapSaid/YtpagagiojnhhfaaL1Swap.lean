/- MarkSwap. -/
import Derived.Test.YtpagagiojnhhfaaL1Mark
namespace Go.Proofs.Ytpagagiojnhhfaa
open Go Go.AM Go.AM.St

theorem decI {n : Nat} (h : 1 ≤ n) (h2 : n < 1000000) : IntKind.i64.wrap ((n : Int) - 1) = ((n - 1 : Nat) : Int) := by
  rw [wrap_i64 (by omega) (by omega)]; omega
theorem modI {k : Nat} {n : Int} {m : Nat} (h : n = (m : Int)) : (k : Int).tmod n = ((k % m : Nat) : Int) := by rw [h]; exact tmod_nat _ _
theorem swap_eq {xs : List Nat} {k : Nat} (h : k + 1 < xs.length) : (xs.set k xs[k + 1]).set (k + 1) (xs[k]'(by omega)) = xs.take k ++ xs[k + 1] :: (xs[k]'(by omega)) :: xs.drop (k + 2) ∧ xs = xs.take k ++ (xs[k]'(by omega)) :: xs[k + 1] :: xs.drop (k + 2) := by
  have e : xs = xs.take k ++ (xs[k]'(by omega)) :: xs[k + 1] :: xs.drop (k + 2) := by
    conv => lhs; rw [← List.take_append_drop k xs, List.drop_eq_getElem_cons (by omega), List.drop_eq_getElem_cons h]
  refine ⟨?_, e⟩
  have hk : (xs.take k).length = k := by rw [List.length_take]; omega
  generalize xs[k + 1] = b at e ⊢
  generalize xs[k]'(by omega) = a at e ⊢
  generalize xs.drop (k + 2) = q at e ⊢
  generalize xs.take k = p at e hk ⊢
  subst e hk
  rw [List.set_append_right _ _ (Nat.le_refl _), Nat.sub_self, List.set_cons_zero, List.set_append_right _ _ (by omega), show p.length + 1 - p.length = 1 by omega]
  rfl
attribute [local irreducible] IntKind.wrap Int.fdiv Int.tdiv Int.tmod BitVec.ofInt appendK sliceK indexAddrK ldK storeK seenK makeSliceK
set_option maxRecDepth 100000
variable {D : Drawer}

theorem markSwap_run {n : Nat} (hn : 400 ≤ n) {a : SA} {bs : List Nat} {i : Int} (h2 : i ≤ 9223372036854775807) {σ : H} (ha : Rw σ 1 a bs.length (u8s bs)) (lb : ∀ b ∈ bs, b < 256) (hD : ByPlan Try.prog D) :
    acall Try.prog tab D n 15 [.sl a bs.length, .int .i64 i] σ isTrue = true := by
  obtain ⟨n, rfl, hn⟩ := up hn
  conv => lhs; whnf
  refine begun_spec ?_
  conv => lhs; whnf
  refine short_spec (by omega) (m := 200) rfl (by decide) ha _ fun o1 a1 σ1 p1 r1 => ?_
  have lx : ∀ b ∈ bs.take 200, b < 256 := fun b h => lb b (List.mem_of_mem_take h)
  have sx : (bs.take 200).length ≤ 200 := by rw [List.length_take]; omega
  generalize bs.take 200 = xs at r1 lx sx ⊢
  conv => lhs; whnf
  refine bif_case (fun h => ?_) (fun h => ?_)
  · conv => lhs; whnf
  have hpos : 2 ≤ xs.length := by
    have : ¬ (xs.length : Int) < 2 := by simpa using h
    omega
  conv => lhs; whnf
  refine bif_case (fun h => ?_) (fun h => ?_)
  · conv => lhs; whnf
  have hi0 : 0 ≤ i := by
    have : ¬ i < 0 := by simpa using h
    omega
  obtain ⟨j, rfl⟩ : ∃ k : Nat, i = (k : Int) := ⟨i.toNat, by omega⟩
  have hdec := decI (n := xs.length) (by omega) (by omega)
  have hmod := modI (k := j) hdec
  have hk : j % (xs.length - 1) < xs.length - 1 := Nat.mod_lt _ (by omega)
  conv => lhs; whnf
  refine bif_neg (by rw [hdec, beq_eq_false_iff_ne]; omega) ?_
  conv => lhs; whnf
  have hmod1 : IntKind.i64.wrap ((j : Int).tmod (IntKind.i64.wrap ((xs.length : Int) - 1)) + 1) = ((j % (xs.length - 1) + 1 : Nat) : Int) := by rw [hmod]; exact inc_i64 (by omega)
  generalize j % (xs.length - 1) = k at hmod hmod1 hk
  refine bt.clone r1.rw (by omega) (by omega) ?_
  have g1 : (σ1 ++ [AO.cells (u8s xs) 1 .own])[σ1.length]? = some (AO.cells (u8s xs) 1 .own) := get_new _ _
  conv => lhs; whnf
  refine hD.go plan15x9 ord15x9 ?_
  conv => lhs; whnf
  have hk0 : k < xs.length := by omega
  have hk1 : k + 1 < xs.length := by omega
  have ba : xs[k] < 256 := lx _ (List.getElem_mem _)
  have bb : xs[k + 1] < 256 := lx _ (List.getElem_mem _)
  obtain ⟨e1, e2⟩ := swap_eq hk1
  refine bt.idx0 hmod1 hk1 ?_
  conv => lhs; whnf
  refine bt.ldAt g1 hk1 ?_
  conv => lhs; whnf
  refine bt.idx0 hmod hk0 ?_
  conv => lhs; whnf
  refine bt.ldAt g1 hk0 ?_
  conv => lhs; whnf
  refine bt.idx0 hmod hk0 ?_
  conv => lhs; whnf
  refine bt.store g1 hk0 rfl ?_
  conv => lhs; whnf
  refine bt.idx0 hmod1 hk1 ?_
  conv => lhs; whnf
  refine bt.store (get_set g1 _) (by rw [List.length_set]; exact hk1) rfl ?_
  rw [List.set_append_right _ _ (Nat.le_refl _), Nat.sub_self, List.set_append_right _ _ (Nat.le_refl _), Nat.sub_self]
  have r2 : Rw (σ1 ++ [AO.cells (u8s ((xs.set k xs[k + 1]).set (k + 1) xs[k])) 1 .own]) 1 (.at σ1.length 0 1) ((xs.set k xs[k + 1]).set (k + 1) xs[k]).length (u8s ((xs.set k xs[k + 1]).set (k + 1) xs[k])) :=
    Rw.new _ _ (by rw [u8s_len, Nat.mul_one])
  have hm : markN 1 xs = markN 1 ((xs.set k xs[k + 1]).set (k + 1) xs[k]) ↔ xs[k] = xs[k + 1] := by
    rw [e1]
    conv => lhs; lhs; rw [e2]
    exact mark_swap ba bb
  have hs : ∀ b ∈ (xs.set k xs[k + 1]).set (k + 1) xs[k], b < 256 := fun b h => by
    rcases List.mem_or_eq_of_mem_set h with h | h
    · rcases List.mem_or_eq_of_mem_set h with h | h
      · exact lx b h
      · rw [h]; exact bb
    · rw [h]; exact ba
  have hl : ((xs.set k xs[k + 1]).set (k + 1) xs[k]).length = xs.length := by rw [List.length_set, List.length_set]
  show (_ : Bool) = true
  have r3 := r1.rw.mono (List.prefix_append σ1 [AO.cells (u8s ((xs.set k xs[k + 1]).set (k + 1) xs[k])) 1 .own])
  show (_ : Bool) = true
  conv => lhs; whnf
  refine hD.go plan15x10 ord15x10 ?_
  conv => lhs; whnf
  refine bt.idx r3 hmod hk0 fun pa hpa => ?_
  conv => lhs; whnf
  refine bt.ld hpa ?_
  conv => lhs; whnf
  refine bt.idx r3 hmod1 hk1 fun pb hpb => ?_
  conv => lhs; whnf
  refine bt.ld hpb ?_
  conv => lhs; whnf
  by_cases h0 : xs[k] = xs[k + 1]
  case' pos => refine bif_pos (by simp [h0]) ?_
  case' neg => refine bif_neg (by rw [beq_eq_false_iff_ne]; omega) ?_
  all_goals
    conv => lhs; whnf
    refine of_spec (by omega) rfl r3 lx (by omega) _ ?_
    conv => lhs; whnf
    refine and_true (all_cons ?_ (all_cons ?_ rfl)) ?_
    · conv => lhs; whnf
      refine bt.ld hpb ?_
      exact same_int _ _
    · conv => lhs; whnf
      refine bt.ld hpa ?_
      exact same_int _ _
    conv => lhs; whnf
    refine of_spec (by omega) hl.symm r2 hs (by omega) _ ?_
    conv => lhs; whnf
    refine and_true (all_cons ?_ (all_cons ?_ rfl)) ?_
    · conv => lhs; whnf
      refine bt.ld hpb ?_
      exact same_int _ _
    · conv => lhs; whnf
      refine bt.ld hpa ?_
      exact same_int _ _
    conv => lhs; whnf
  · have e : ¬ markN 1 xs = markN 1 ((xs.set k xs[k + 1]).set (k + 1) xs[k]) := fun h => h0 (hm.1 h)
    refine bif_neg (by rw [beq_eq_false_iff_ne]; omega) ?_
    conv => lhs; whnf
  · refine bif_pos (by rw [hm.2 h0]; simp) ?_
    conv => lhs; whnf

theorem markSwap_law (σ : H) (vs : List AV) (h : ArgsShp Try.prog σ 9 [25, 3] vs) : ∃ n, acall Try.prog tab (drawRegion Try.prog) n 15 vs σ isTrue = true := by
  obtain ⟨a, vs, rfl, ha, h⟩ := args_cons h
  obtain ⟨b, vs, rfl, hb, h⟩ := args_cons h
  obtain rfl := args_nil h
  obtain ⟨s, bs, rfl, a1, a2, a3⟩ := arg_bytes Try.underlying25 Try.underlying5 rfl ha
  obtain ⟨q, rfl, e1, e2⟩ := arg_int Try.underlying3 hb
  exact ⟨400, markSwap_run (Nat.le_refl _) e2 a1 a3 (byPlan _)⟩
end Go.Proofs.Ytpagagiojnhhfaa
