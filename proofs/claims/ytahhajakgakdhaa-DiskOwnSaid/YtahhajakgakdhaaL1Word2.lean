/- Package word, more: what its functions do. -/
import Derived.Test.YtahhajakgakdhaaL1Word
namespace Go.Proofs.Ytahhajakgakdhaa
open Go Go.AM Go.AM.St
theorem zag_val {u : Nat} (hu : u < 18446744073709551616) :
    IntKind.i64.wrap ((BitVec.ofInt IntKind.i64.bits (IntKind.i64.wrap ((u : Int).fdiv (2 ^ min (Int.toNat 1) IntKind.u64.bits))) ^^^
      BitVec.ofInt IntKind.i64.bits (IntKind.i64.wrap (0 - IntKind.i64.wrap (IntKind.u64.wrap ((BitVec.ofInt IntKind.u64.bits (u : Int) &&& BitVec.ofInt IntKind.u64.bits 1).toNat : Int))))).toNat : Int) = zagI u := by
  rw [show min (Int.toNat 1) IntKind.u64.bits = 1 from rfl, Int.fdiv_eq_ediv_of_nonneg _ (by decide), and_nat (k := .u64) (x := (u : Int)) (y := 1) (u := u) (v := 1) rfl rfl rfl hu (by decide),
    show (1 : Nat) = 2 ^ 1 - 1 from rfl, mask_nat]
  have e1 : IntKind.i64.wrap ((u : Int) / 2 ^ 1) = ((u / 2 : Nat) : Int) := by rw [wrap_i64 (by omega) (by omega)]; omega
  have e2 : IntKind.i64.wrap ((u % 2 ^ 1 : Nat) : Int) = ((u % 2 : Nat) : Int) := wrap_i64 (by omega) (by omega)
  rw [e1, e2, wrap_i64 (x := 0 - ((u % 2 : Nat) : Int)) (by omega) (by omega)]
  unfold zagI
  by_cases h : u % 2 = 1
  · rw [if_pos h, h, ofInt_nat]
    show IntKind.i64.wrap ((BitVec.ofNat 64 _ ^^^ BitVec.allOnes 64).toNat : Int) = _
    rw [BitVec.xor_allOnes, BitVec.toNat_not, BitVec.toNat_ofNat, Nat.mod_eq_of_lt (by omega)]
    simp [IntKind.wrap, IntKind.signed, IntKind.bits]
    split <;> omega
  · rw [if_neg h, show u % 2 = 0 by omega, ofInt_nat]
    show IntKind.i64.wrap ((BitVec.ofNat 64 _ ^^^ BitVec.ofNat 64 0).toNat : Int) = _
    rw [show BitVec.ofNat 64 0 = 0#64 from rfl, BitVec.xor_zero, BitVec.toNat_ofNat, Nat.mod_eq_of_lt (by omega), wrap_i64 (by omega) (by omega)]

theorem step7 {u x : Nat} (hu : u < 144115188075855872) (hx : x < 256) :
    IntKind.u64.wrap ((BitVec.ofInt IntKind.u64.bits (IntKind.u64.wrap ((u : Int) * 2 ^ min (Int.toNat 7) IntKind.u64.bits)) |||
      BitVec.ofInt IntKind.u64.bits (IntKind.u64.wrap (IntKind.u8.wrap ((BitVec.ofInt IntKind.u8.bits (x : Int) &&& BitVec.ofInt IntKind.u8.bits 127).toNat : Int)))).toNat : Int) = ((u * 128 + x % 128 : Nat) : Int) := by
  have e1 : IntKind.u64.wrap ((u : Int) * 2 ^ min (Int.toNat 7) IntKind.u64.bits) = ((u * 128 : Nat) : Int) := by
    rw [shl_nat (k := .u64) rfl rfl]
    show ((u * 128 % 18446744073709551616 : Nat) : Int) = _
    rw [Nat.mod_eq_of_lt (by omega)]
  rw [e1, and_nat (k := .u8) (x := (x : Int)) (y := 127) (u := x) (v := 127) rfl rfl rfl hx (by decide), show (127 : Nat) = 2 ^ 7 - 1 from rfl, mask_nat, wrap_u64 (u := x % 2 ^ 7) (by omega),
    or_nat (k := .u64) (u := u * 128) (v := x % 2 ^ 7) rfl rfl rfl (by show _ < 18446744073709551616; omega) (by show _ < 18446744073709551616; omega), show u * 128 = u * 2 ^ 7 from rfl, or_add (by omega)]
attribute [local irreducible] IntKind.wrap Int.fdiv Int.tdiv Int.tmod BitVec.ofInt appendK sliceK indexAddrK ldK storeK seenK makeSliceK
set_option maxRecDepth 100000
variable {D : Drawer}

theorem zag_spec {n : Nat} (hn : 1 ≤ n) {u : Nat} {y : Int} (hy : y = (u : Int)) (hu : u < 18446744073709551616) (σ : H) (K : AV → H → Bool) (h : K (.int .i64 (zagI u)) σ = true) :
    acall Try.prog tab D n 94 [.int .u64 y] σ K = true := by
  subst hy
  obtain ⟨n, rfl, hn⟩ := up hn
  conv => lhs; whnf
  show K (.int .i64 _) _ = true
  rw [zag_val hu]
  exact h

theorem get_spec {n : Nat} (hn : 12 ≤ n) {a : SA} {bs : List Nat} {σ : H} (ha : Rw σ 1 a bs.length (u8s bs)) (hb : ∀ b ∈ bs, b < 256) (K : AV → H → Bool)
    (hK : K (.tup [.int .i64 (getR bs).1, .int .i64 ((getR bs).2 : Int)]) σ = true) : acall Try.prog tab D n 79 [.sl a bs.length] σ K = true := by
  obtain ⟨n, rfl, hn⟩ := up hn
  conv => lhs; whnf
  refine bt.slice ha 0 (min bs.length 10) (.inl ⟨rfl, rfl⟩) (.inr ⟨_, _, rfl, ?_⟩) (Nat.zero_le _) (Nat.min_le_left _ _) (bs.take 10) ?_ fun a' ha' => ?_
  · show (if _ then _ else _) = _
    split <;> omega
  · rw [List.drop_zero, Nat.min_comm, ← List.take_take, List.take_of_length_le (Nat.le_refl _)]
  have hd : ∀ b ∈ bs.take 10, b < 256 := fun b h => hb b (List.mem_of_mem_take h)
  have hl : (bs.take 10).length ≤ 10 := by rw [List.length_take]; omega
  have hg : getR bs = match getL 0 0 (bs.take 10) with | some (u, k) => (zagI u, k) | none => (0, 0) := rfl
  generalize bs.take 10 = ds at ha' hd hl hg
  conv => lhs; whnf
  refine loop_rule (m := 14352) (fun r fr τ => ∃ (y z : Int) (u i : Nat), y = (u : Int) ∧ z = (i : Int) ∧ u < 18446744073709551616 ∧ i + r = ds.length ∧ τ = σ ∧
      fr = [.bad, .bad, .bad, .bad, .int .u64 y, .bad, .bad, .bad, .bad, .bad, .bad, .sl a' ds.length, .int .i64 (ds.length : Int), .int .i64 z, .bad, .bad, .bad, .bad, .bad, .bad, .bad, .bad, .bad, .bad, .bad, .bad, .bad, .bad, .bad, .bad, .bad, .bad, .bad, .bad, .bad, .bad, .bad, .bad, .bad, .bad, .bad, .bad] ∧
      getL 0 0 ds = getL i u (ds.drop i)) ?_ _ ds.length _ _ (by omega) ?_
  · rintro r fr τ C ⟨y, z, u, i, rfl, rfl, hu, hi, rfl, rfl, he⟩ next fin
    conv => lhs; whnf
    refine bif_case (fun h => ?_) (fun h => ?_)
    · have hlt : i < ds.length := by simpa using h
      have hx : ds[i] < 256 := hd _ (List.getElem_mem _)
      rw [List.drop_eq_getElem_cons hlt] at he
      conv => lhs; whnf
      refine bt.idx ha' rfl hlt fun p hp => ?_
      conv => lhs; whnf
      refine bt.ld hp ?_
      generalize ds[i] = x at hx he
      have hsh : (u : Int).fdiv (2 ^ min (Int.toNat 57) IntKind.u64.bits) = ((u / 144115188075855872 : Nat) : Int) := shr_nat (k := .u64) (j := 57) rfl
      rw [getL] at he
      conv => lhs; whnf
      by_cases hc : (i = 0 ∧ x = 128) ∨ ¬ u < 144115188075855872
      · rw [if_pos hc] at he
        rw [he] at hg
        rw [hg] at hK
        by_cases hi0 : i = 0
        · refine bif_pos (by simp [hi0]) ?_
          conv => lhs; whnf
          by_cases hx0 : x = 128
          · refine bif_pos (by simp [hx0]) ?_
            conv => lhs; whnf
            refine fin _ _ _ nofun ?_
            conv => lhs; whnf
            exact hK
          · refine bif_neg (by simp; omega) ?_
            conv => lhs; whnf
            refine bif_pos (by rw [hsh]; simp; omega) ?_
            conv => lhs; whnf
            refine fin _ _ _ nofun ?_
            conv => lhs; whnf
            exact hK
        · refine bif_neg (by simp; omega) ?_
          conv => lhs; whnf
          refine bif_pos (by rw [hsh]; simp; omega) ?_
          conv => lhs; whnf
          refine fin _ _ _ nofun ?_
          conv => lhs; whnf
          exact hK
      · rw [if_neg hc] at he
        by_cases hi0 : i = 0
        case' pos =>
          refine bif_pos (by simp [hi0]) ?_
          conv => lhs; whnf
          refine bif_neg (by simp; omega) ?_
          conv => lhs; whnf
          refine bif_neg (by rw [hsh]; simp; omega) ?_
          conv => lhs; whnf
        case' neg =>
          refine bif_neg (by simp; omega) ?_
          conv => lhs; whnf
          refine bif_neg (by rw [hsh]; simp; omega) ?_
          conv => lhs; whnf
        all_goals
          have hs7 := step7 (u := u) (by omega) hx
          by_cases hx1 : x < 128
          · rw [if_pos hx1] at he
            rw [he] at hg
            rw [hg] at hK
            refine bif_pos (by simp; omega) ?_
            conv => lhs; whnf
            refine zag_spec (by omega) hs7 (by omega) τ _ ?_
            conv => lhs; whnf
            refine fin _ _ _ nofun ?_
            conv => lhs; whnf
            show K (.tup [.int .i64 (zagI (u * 128 + x % 128)), .int .i64 (IntKind.i64.wrap ((i : Int) + 1))]) τ = true
            rw [inc_i64 (by omega)]
            exact hK
          · rw [if_neg hx1] at he
            refine bif_neg (by simp; omega) ?_
            conv => lhs; whnf
            refine next (r - 1) _ _ (by omega) ⟨_, _, u * 128 + x % 128, i + 1, hs7, inc_i64 (by omega), by omega, by omega, rfl, rfl, he⟩
    · obtain rfl : i = ds.length := by have : ¬ i < ds.length := by simpa using h
                                       omega
      rw [List.drop_length, getL] at he
      rw [he] at hg
      rw [hg] at hK
      conv => lhs; whnf
      refine fin _ _ _ nofun ?_
      conv => lhs; whnf
      exact hK
  · exact ⟨_, _, 0, 0, rfl, rfl, by decide, by omega, rfl, rfl, rfl⟩

end Go.Proofs.Ytahhajakgakdhaa
