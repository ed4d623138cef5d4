/- WordMany, WordShort. -/
import Derived.Test.YtpagagiojnhhfaaL1Ref2
import Derived.Test.YtpagagiojnhhfaaAmShp
namespace Go.Proofs.Ytpagagiojnhhfaa
open Go Go.AM Go.AM.St

/-- Numbers one behind the other. -/
def encs : List Int → List Nat
  | [] => []
  | x :: xs => enc (zigN x) ++ encs xs
theorem encs_snoc : ∀ (xs : List Int) (x : Int), encs (xs ++ [x]) = encs xs ++ enc (zigN x)
  | [], x => by simp [encs]
  | y :: xs, x => by rw [List.cons_append, encs, encs, encs_snoc xs x, List.append_assoc]
theorem encs_len : ∀ xs : List Int, (encs xs).length ≤ 11 * xs.length
  | [] => Nat.le_refl _
  | x :: xs => by
    have := enc_len (zigN x)
    have := encs_len xs
    rw [encs, List.length_append, List.length_cons]
    omega
theorem encs_lt : ∀ xs : List Int, ∀ b ∈ encs xs, b < 256
  | [], b, h => by cases h
  | x :: xs, b, h => (List.mem_append.1 h).elim (enc_lt _ b) (encs_lt xs b)
theorem enc_pos (u : Nat) : 0 < (enc u).length := by rw [enc_eq]; simp
theorem getR_enc {x : Int} (h1 : -9223372036854775808 ≤ x) (h2 : x ≤ 9223372036854775807) (rest : List Nat) : getR (enc (zigN x) ++ rest) = (x, (enc (zigN x)).length) := by
  unfold getR
  rw [get_enc (zigN_lt h1 h2)]
  show (zagI (zigN x), _) = _
  rw [zag_zig]
theorem hi_high : ∀ (n u : Nat), ∀ b ∈ hi n u, 128 ≤ b
  | 0, _, b, h => by cases h
  | n + 1, u, b, h => by
    rw [hi_succ] at h
    split at h
    · cases h
    · rcases List.mem_append.1 h with h | h
      · exact hi_high n _ b h
      · rw [List.mem_singleton] at h; omega
theorem enc_high {u i : Nat} (h : i + 1 < (enc u).length) : 128 ≤ (enc u)[i] := by
  have hi' : i < (hi 10 (u / 128)).length := by
    have := congrArg List.length (enc_eq u)
    rw [List.length_append] at this
    simp at this
    omega
  have : (enc u)[i] = (hi 10 (u / 128))[i] := by
    simp only [enc_eq u]
    rw [List.getElem_append_left hi']
  rw [this]
  exact hi_high _ _ _ (List.getElem_mem _)
theorem enc_last {u : Nat} (h : (enc u).length - 1 < (enc u).length) : (enc u)[(enc u).length - 1] < 128 := by
  have hl : (enc u).length = (hi 10 (u / 128)).length + 1 := by rw [enc_eq]; simp
  have e : (enc u)[(enc u).length - 1]? = some (u % 128) := by
    rw [hl, Nat.add_sub_cancel, enc_eq, List.getElem?_append_right (Nat.le_refl _), Nat.sub_self]
    rfl
  rw [List.getElem?_eq_getElem h] at e
  have := Option.some.inj e
  omega
theorem refOdd {u : Nat} : (u : Int).tmod 2 = ((u % 2 : Nat) : Int) := tmod_nat u 2
attribute [local irreducible] IntKind.wrap Int.fdiv Int.tdiv Int.tmod BitVec.ofInt appendK sliceK indexAddrK ldK storeK seenK makeSliceK
set_option maxRecDepth 100000
variable {D : Drawer}

theorem wordMany_run {n : Nat} (hn : 22 ≤ n) {a : SA} {ls : List Int} {σ : H} (ha : Rw σ 1 a ls.length (iks .i64 ls)) (hb : ∀ x ∈ ls, -9223372036854775808 ≤ x ∧ x ≤ 9223372036854775807) :
    acall Try.prog tab D n 13 [.sl a ls.length] σ isTrue = true := by
  obtain ⟨n, rfl, hn⟩ := up hn
  conv => lhs; whnf
  refine begun_spec ?_
  conv => lhs; whnf
  refine it42.slice ha 0 (min ls.length 20) (.inl ⟨rfl, rfl⟩) (.inr ⟨_, _, rfl, ?_⟩) (Nat.zero_le _) (Nat.min_le_left _ _) (ls.take 20) ?_ fun a1 r1 => ?_
  · show (if _ then _ else _) = _
    split <;> omega
  · rw [List.drop_zero, Nat.min_comm, ← List.take_take, List.take_of_length_le (Nat.le_refl _)]
  have hd : ∀ x ∈ ls.take 20, -9223372036854775808 ≤ x ∧ x ≤ 9223372036854775807 := fun b h => hb b (List.mem_of_mem_take h)
  have hl : (ls.take 20).length ≤ 20 := by rw [List.length_take]; omega
  generalize ls.take 20 = ds at r1 hd hl
  conv => lhs; whnf
  refine loop_rule (m := 49) (fun r fr τ => ∃ (z : Int) (i : Nat) (o : Option Nat) (b : SA), z = (i : Int) ∧ i + r = ds.length ∧
      fr = [.sl a1 ds.length, .bad, .bad, .bad, .sl b (encs (ds.take i)).length, .int .i64 z, .bad, .bad, .bad, .bad, .bad, .bad, .bad, .bad, .bad, .bad, .bad, .bad, .bad, .bad, .bad, .bad, .bad, .bad, .bad, .bad, .bad, .bad, .bad, .bad, .bad, .bad, .bad, .bad, .bad, .bad, .bad, .bad, .bad, .bad, .bad, .bad, .bad, .bad, .bad, .bad, .bad, .bad, .bad, .bad, .bad, .bad, .bad, .bad, .bad, .bad, .bad, .bad, .bad, .bad, .bad, .bad, .bad] ∧ σ <+: τ ∧ Own σ τ 1 o b (encs (ds.take i)).length (u8s (encs (ds.take i)))) ?_ _ ds.length _ _ (by omega)
      ⟨_, 0, none, .nil, rfl, by omega, rfl, List.prefix_refl _, Own.nil _ _ _⟩
  rintro r fr τ C ⟨z, i, o, b, rfl, hi, rfl, hp, ho⟩ next fin
  conv => lhs; whnf
  refine bif_case (fun h => ?_) (fun h => ?_)
  · have hlt : i < ds.length := by simpa using h
    have hx := hd _ (List.getElem_mem hlt)
    have hs := encs_snoc (ds.take i) ds[i]
    rw [List.take_append_getElem hlt] at hs
    conv => lhs; whnf
    refine it42.idx (r1.mono hp) rfl hlt fun p hq => ?_
    conv => lhs; whnf
    refine it42.ld hq ?_
    conv => lhs; whnf
    refine put_spec (by omega) hx.1 hx.2 τ _ fun o2 a2 σ2 p2 r2 => ?_
    have he := encs_len (ds.take (i + 1))
    rw [List.length_take] at he
    conv => lhs; whnf
    refine bt.app (List.IsPrefix.trans hp p2) (ho.mono p2) r2.rw _ hs.symm (by omega) fun o3 a3 σ3 p3 _ _ _ r3 => ?_
    conv => lhs; whnf
    exact next (r - 1) _ _ (by omega) ⟨_, i + 1, o3, a3, inc_i64 (by omega), by omega, rfl, p3, r3⟩
  · obtain rfl : i = ds.length := by have : ¬ i < ds.length := by simpa using h
                                     omega
    rw [List.take_length] at ho
    clear next
    conv => lhs; whnf
    refine fin _ _ _ nofun ?_
    conv => lhs; whnf
    rw [List.take_length]
    refine loop_rule (m := 81) (fun r fr τ' => ∃ (z : Int) (i : Nat) (b : SA), z = (i : Int) ∧ i + r = ds.length ∧ τ' = τ ∧
        fr = [.sl a1 ds.length, .bad, .bad, .bad, .sl b (encs (ds.drop i)).length, .bad, .int .i64 z, .bad, .bad, .bad, .bad, .bad, .bad, .bad, .bad, .bad, .bad, .bad, .bad, .bad, .bad, .bad, .bad, .bad, .bad, .bad, .bad, .bad, .bad, .bad, .bad, .bad, .bad, .bad, .bad, .bad, .bad, .bad, .bad, .bad, .bad, .bad, .bad, .bad, .bad, .bad, .bad, .bad, .bad, .bad, .bad, .bad, .bad, .bad, .bad, .bad, .bad, .bad, .bad, .bad, .bad, .bad, .bad] ∧ Rw τ 1 b (encs (ds.drop i)).length (u8s (encs (ds.drop i)))) ?_ _ ds.length _ _ (by omega)
        ⟨_, 0, b, rfl, by omega, rfl, rfl, ho.rw⟩
    rintro r fr τ' C ⟨z, i, b, rfl, hi, rfl, rfl, ho⟩ next fin
    conv => lhs; whnf
    refine bif_case (fun h => ?_) (fun h => ?_)
    · have hlt : i < ds.length := by simpa using h
      have hx := hd _ (List.getElem_mem hlt)
      have hpos := enc_pos (zigN ds[i])
      have hg := getR_enc hx.1 hx.2 (encs (ds.drop (i + 1)))
      rw [List.drop_eq_getElem_cons hlt, encs] at ho ⊢
      conv => lhs; whnf
      refine get_spec (by omega) ho (fun b h => (List.mem_append.1 h).elim (enc_lt _ b) (encs_lt _ b)) _ ?_
      rw [hg]
      conv => lhs; whnf
      refine bif_neg (by simp; omega) ?_
      conv => lhs; whnf
      refine bif_neg (by simp; omega) ?_
      conv => lhs; whnf
      refine it42.idx (r1.mono hp) rfl hlt fun p hp => ?_
      conv => lhs; whnf
      refine it42.ld hp ?_
      conv => lhs; whnf
      refine bif_neg (by simp) ?_
      conv => lhs; whnf
      refine bt.slice ho (enc (zigN ds[i])).length (enc (zigN ds[i]) ++ encs (ds.drop (i + 1))).length (.inr ⟨_, _, rfl, rfl⟩) (.inl ⟨rfl, rfl⟩) (by rw [List.length_append]; omega) (Nat.le_refl _) (encs (ds.drop (i + 1))) (by rw [List.take_length, List.drop_left]) fun a3 r3 => ?_
      conv => lhs; whnf
      exact next (r - 1) _ _ (by omega) ⟨_, i + 1, a3, inc_i64 (by omega), by omega, rfl, rfl, r3⟩
    · obtain rfl : i = ds.length := by have : ¬ i < ds.length := by simpa using h
                                       omega
      conv => lhs; whnf
      refine fin _ _ _ nofun ?_
      rw [List.drop_length]
      conv => lhs; whnf

theorem b2i_spec {n : Nat} (hn : 1 ≤ n) {b : Bool} {σ : H} {K : AV → H → Bool} (hK : K (.int .i64 (if b then 1 else 0)) σ = true) : acall Try.prog tab D n 52 [.bool b] σ K = true := by
  obtain ⟨n, rfl, hn⟩ := up hn
  cases b with
  | true =>
    conv => lhs; whnf
    exact hK
  | false =>
    conv => lhs; whnf
    exact hK

theorem wordShort_run {n : Nat} (hn : 14 ≤ n) {x : Int} (hx1 : -9223372036854775808 ≤ x) (hx2 : x ≤ 9223372036854775807) (σ : H) :
    acall Try.prog tab D n 14 [.int .i64 x] σ isTrue = true := by
  obtain ⟨n, rfl, hn⟩ := up hn
  have hz := zigN_lt hx1 hx2
  conv => lhs; whnf
  refine begun_spec ?_
  conv => lhs; whnf
  refine put_spec (by omega) hx1 hx2 σ _ fun o1 a1 σ1 p1 r1 => ?_
  have hel := enc_len (zigN x)
  have hep := enc_pos (zigN x)
  have hodd : zigN x % 2 = (if x < 0 then 1 else 0) := by unfold zigN; split <;> omega
  conv => lhs; whnf
  refine rzig_spec (by omega) hx1 hx2 σ1 _ ?_
  generalize zigN x = u at hz r1 hel hep ⊢
  conv => lhs; whnf
  refine loop_rule (m := 209) (fun r fr τ => ∃ (y z : Int) (v k : Nat), y = (k : Int) ∧ z = (v : Int) ∧ r ≤ 10 ∧ v < 128 ^ r ∧ v < 18446744073709551616 ∧ k + (hi r v).length = (enc u).length ∧ τ = σ1 ∧
      fr = [.int .i64 x, .bad, .bad, .bad, .sl a1 (enc u).length, .bad, .int .i64 y, .int .u64 z, .bad, .bad, .bad, .bad, .bad, .bad, .bad, .bad, .bad, .bad, .bad, .bad, .bad, .bad, .bad, .bad, .bad, .bad, .bad, .bad, .bad, .bad, .bad, .bad, .bad, .bad, .bad, .bad, .bad, .bad, .bad, .bad, .bad, .bad, .bad, .bad, .bad, .bad, .bad, .bad, .bad, .bad, .bad, .bad, .bad, .bad, .bad, .bad, .bad]) ?_ _ 10 _ _ (by omega)
      ⟨_, _, u / 128, 1, rfl, refDiv hz, Nat.le_refl _, by omega, by omega, ?_, rfl, rfl⟩
  case refine_2 => rw [enc_eq]; simp only [List.length_append, List.length_singleton]; omega
  rintro r fr τ C ⟨y, z, v, k, rfl, rfl, hr, hv, hv2, hk, rfl, rfl⟩ next fin
  conv => lhs; whnf
  refine bif_case (fun h => ?_) (fun h => ?_)
  · have hv0 : 0 < v := by simpa using h
    obtain ⟨r, rfl⟩ : ∃ r', r = r' + 1 := by
      cases r with
      | zero => simp at hv; omega
      | succ r => exact ⟨r, rfl⟩
    rw [hi_succ, if_neg (by omega), List.length_append, List.length_singleton] at hk
    conv => lhs; whnf
    refine next r _ _ (by omega) ⟨_, _, v / 128, k + 1, inc_i64 (by omega), refDiv hv2, by omega, ?_, by omega, by omega, rfl, rfl⟩
    rw [Nat.pow_succ] at hv; omega
  · obtain rfl : v = 0 := by simpa using h
    rw [hi_zero] at hk
    obtain rfl : k = (enc u).length := by simpa using hk
    clear next
    conv => lhs; whnf
    refine fin _ _ _ nofun ?_
    conv => lhs; whnf
    refine bif_neg (by simp) ?_
    conv => lhs; whnf
    refine bt.idx r1.rw (i := (enc u).length - 1) (by rw [wrap_i64 (by omega) (by omega)]; omega) (by omega) fun p hp => ?_
    conv => lhs; whnf
    refine bt.ld hp ?_
    conv => lhs; whnf
    refine bif_neg (by have := enc_last (u := u) (by omega); simp; omega) ?_
    conv => lhs; whnf
    refine loop_rule (m := 273) (fun r fr τ' => ∃ (z : Int) (i : Nat), z = (i : Int) ∧ i + 1 + r = (enc u).length ∧ τ' = τ ∧
        fr = [.int .i64 x, .bad, .bad, .bad, .sl a1 (enc u).length, .bad, .bad, .bad, .int .i64 z, .bad, .bad, .bad, .bad, .bad, .bad, .bad, .bad, .bad, .bad, .bad, .bad, .bad, .bad, .bad, .bad, .bad, .bad, .bad, .bad, .bad, .bad, .bad, .bad, .bad, .bad, .bad, .bad, .bad, .bad, .bad, .bad, .bad, .bad, .bad, .bad, .bad, .bad, .bad, .bad, .bad, .bad, .bad, .bad, .bad, .bad, .bad, .bad]) ?_ _ ((enc u).length - 1) _ _ (by omega) ⟨_, 0, rfl, by omega, rfl, rfl⟩
    rintro r fr τ' C ⟨z, i, rfl, hi, rfl, rfl⟩ next fin
    have hinc := inc_i64 (i := i) (by omega)
    conv => lhs; whnf
    by_cases hlt : i + 1 < (enc u).length
    · refine bif_pos (by rw [hinc]; simp; omega) ?_
      conv => lhs; whnf
      refine bt.idx r1.rw rfl (by omega) fun p hp => ?_
      conv => lhs; whnf
      refine bt.ld hp ?_
      have hh := enc_high hlt
      conv => lhs; whnf
      refine bif_neg (by simp; omega) ?_
      conv => lhs; whnf
      exact next (r - 1) _ _ (by omega) ⟨_, i + 1, hinc, by omega, rfl, rfl⟩
    · refine bif_neg (by rw [hinc]; simp; omega) ?_
      conv => lhs; whnf
      refine fin _ _ _ nofun ?_
      conv => lhs; whnf
      refine zig_spec (by omega) hx1 hx2 τ' _ ?_
      conv => lhs; whnf
      by_cases hx0 : x < 0
      · rw [if_pos hx0] at hodd
        refine bif_pos (by simp [hx0]) ?_
        conv => lhs; whnf
        refine b2i_spec (by omega) ?_
        conv => lhs; whnf
        refine bif_pos (by rw [refOdd, hodd]; decide +kernel) ?_
        conv => lhs; whnf
      · rw [if_neg hx0] at hodd
        refine bif_neg (by simp; omega) ?_
        conv => lhs; whnf
        refine b2i_spec (by omega) ?_
        conv => lhs; whnf
        refine bif_pos (by rw [refOdd, hodd]; decide +kernel) ?_
        conv => lhs; whnf

theorem wordMany_law (σ : H) (vs : List AV) (h : ArgsShp Try.prog σ 9 [42] vs) : ∃ n, acall Try.prog tab (drawRegion Try.prog) n 13 vs σ isTrue = true := by
  obtain ⟨a, vs, rfl, ha, h⟩ := args_cons h
  obtain rfl := args_nil h
  obtain ⟨s, ys, rfl, d1, d2, d3⟩ := arg_ints Try.underlying42 Try.underlying2 rfl ha
  exact ⟨22, wordMany_run (Nat.le_refl _) d1 d3⟩
theorem wordShort_law (σ : H) (vs : List AV) (h : ArgsShp Try.prog σ 9 [2] vs) : ∃ n, acall Try.prog tab (drawRegion Try.prog) n 14 vs σ isTrue = true := by
  obtain ⟨a, vs, rfl, ha, h⟩ := args_cons h
  obtain rfl := args_nil h
  obtain ⟨a, rfl, a1, a2⟩ := arg_int Try.underlying2 ha
  exact ⟨14, wordShort_run (Nat.le_refl _) a1 a2 σ⟩
end Go.Proofs.Ytpagagiojnhhfaa
