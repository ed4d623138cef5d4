/- Package word: what its functions do. Package word, more: what its functions do. Package word: fixed sizes. -/
import Derived.Test.YthmdecfiijgaoaaGreatL1Tab
import Derived.Test.YthmdecfiijgaoaaGreatGmPlain
namespace Go.Proofs.YthmdecfiijgaoaaGreat
open Go Go.AM Go.AM.St
attribute [local irreducible] IntKind.wrap Int.fdiv Int.tdiv Int.tmod BitVec.ofInt appendK sliceK indexAddrK ldK storeK seenK makeSliceK

set_option maxRecDepth 100000
variable {D : Drawer}

theorem up {n k : Nat} (h : k + 1 ≤ n) : ∃ m, n = Nat.succ m ∧ k ≤ m := ⟨n - 1, by omega, by omega⟩
theorem begun_spec {n : Nat} {σ : H} {K : AV → H → Bool} (h : K (.bool true) σ = true) : acall Tryz.prog tab D n 12 [] σ K = true := by
  cases n <;> exact h

theorem zig_val {x : Int} (h1 : -9223372036854775808 ≤ x) (h2 : x ≤ 9223372036854775807) :
    IntKind.u64.wrap ((BitVec.ofInt IntKind.u64.bits (IntKind.u64.wrap (IntKind.i64.wrap (x * 2 ^ min (Int.toNat 1) IntKind.i64.bits))) ^^^
      BitVec.ofInt IntKind.u64.bits (IntKind.u64.wrap (x.fdiv (2 ^ min (Int.toNat 63) IntKind.i64.bits)))).toNat : Int) = (zigN x : Int) := by
  rw [show min (Int.toNat 1) IntKind.i64.bits = 1 from rfl, show min (Int.toNat 63) IntKind.i64.bits = 63 from rfl]
  have e1 : IntKind.u64.wrap (IntKind.i64.wrap (x * 2 ^ 1)) = ((if x < 0 then 18446744073709551616 + 2 * x else 2 * x).toNat : Nat) := by
    simp [IntKind.wrap, IntKind.signed, IntKind.bits]
    split <;> split <;> omega
  have e2 : IntKind.u64.wrap (x.fdiv (2 ^ 63)) = ((if x < 0 then 18446744073709551615 else 0 : Nat) : Int) := by
    rw [Int.fdiv_eq_ediv_of_nonneg _ (by decide)]
    simp [IntKind.wrap, IntKind.signed, IntKind.bits]
    split <;> omega
  rw [e1, e2]
  unfold zigN
  by_cases hx : x < 0
  · simp only [hx, if_true]
    rw [ofInt_nat, ofInt_nat]
    show IntKind.u64.wrap ((BitVec.ofNat 64 _ ^^^ BitVec.allOnes 64).toNat : Int) = _
    rw [BitVec.xor_allOnes, BitVec.toNat_not, BitVec.toNat_ofNat]
    rw [Nat.mod_eq_of_lt (by omega), wrap_u64 (by omega)]
    congr 1
    omega
  · simp only [hx, if_false]
    rw [xor_nat (k := .u64) rfl rfl rfl (by show _ < 18446744073709551616; omega) (by decide), Nat.xor_zero]

theorem low7 {u : Nat} (h : u < 18446744073709551616) : IntKind.u8.wrap (IntKind.u64.wrap ((BitVec.ofInt IntKind.u64.bits (u : Int) &&& BitVec.ofInt IntKind.u64.bits 127).toNat : Int)) = ((u % 128 : Nat) : Int) := by
  rw [and_nat (k := .u64) (x := (u : Int)) (y := 127) (u := u) (v := 127) rfl rfl rfl h (by decide), show (127 : Nat) = 2 ^ 7 - 1 from rfl, mask_nat, wrap_u8 (by omega)]
theorem high7 {b : Nat} : 128 ||| b % 128 = 128 + b % 128 := or_add (j := 7) (a := 1) (by omega)

theorem zig_spec {n : Nat} (hn : 1 ≤ n) {x : Int} (h1 : -9223372036854775808 ≤ x) (h2 : x ≤ 9223372036854775807) (σ : H) (K : AV → H → Bool) (h : K (.int .u64 (zigN x : Int)) σ = true) :
    acall Tryz.prog tab D n 157 [.int .i64 x] σ K = true := by
  obtain ⟨n, rfl, hn⟩ := up hn
  conv => lhs; whnf
  show K (.int .u64 _) _ = true
  rw [zig_val h1 h2]
  exact h

theorem put_spec {n : Nat} (hn : 12 ≤ n) {x : Int} (h1 : -9223372036854775808 ≤ x) (h2 : x ≤ 9223372036854775807) (σ : H) (K : AV → H → Bool)
    (hK : ∀ o a σ', σ <+: σ' → Own σ σ' 1 o a (enc (zigN x)).length (u8s (enc (zigN x))) → K (.sl a (enc (zigN x)).length) σ' = true) : acall Tryz.prog tab D n 141 [.int .i64 x] σ K = true := by
  obtain ⟨n, rfl, hn⟩ := up hn
  conv => lhs; whnf
  refine zig_spec (by omega) h1 h2 σ _ ?_
  have hu := zigN_lt h1 h2
  generalize zigN x = u at hu hK ⊢
  conv => lhs; whnf
  refine loop_rule (m := 24) (fun r fr τ => ∃ (y : Int) (v : Nat) (acc : List Nat) (o : Option Nat) (a : SA), y = (v : Int) ∧ r ≤ 10 ∧ v < 18446744073709551616 ∧ v < 128 ^ r ∧ acc.length + r ≤ 11 ∧
      fr = [.bad, .bad, .bad, .int .u64 y, .sl a acc.length, .bad, .bad, .bad, .bad, .bad, .bad, .bad, .bad, .bad, .bad, .bad, .bad, .bad, .bad, .bad, .bad, .bad, .bad, .bad, .bad] ∧
      σ <+: τ ∧ Own σ τ 1 o a acc.length (u8s acc) ∧ tailB r v acc = enc u) ?_ _ 10 _ _ (by omega) ?_
  · rintro r fr τ C ⟨y, v, acc, o, a, rfl, hr, hvb, hv, hl, rfl, hp, ho, he⟩ next fin
    conv => lhs; whnf
    refine bif_case (fun h => ?_) (fun h => ?_)
    · have hv0 : 0 < v := by simpa using h
      obtain ⟨r, rfl⟩ : ∃ r', r = r' + 1 := by
        cases r with
        | zero => simp at hv; omega
        | succ r => exact ⟨r, rfl⟩
      conv => lhs; whnf
      refine appendK_rw (N := ((128 + v % 128) :: acc).length) (zs := u8s ((128 + v % 128) :: acc)) Tryz.underlying138 rfl rfl rfl (prefix_add hp _) (Own.new hp _ _ (by decide) rfl) (ho.rw.mono (List.prefix_append _ _)) (by simp [Nat.add_comm]) ?_ ?_ fun o' a' σ' h0 hk _ _ ho' => ?_
      · show AV.int .u8 _ :: u8s acc = _
        rw [low7 hvb, or_nat (k := .u8) (x := 128) (y := ((v % 128 : Nat) : Int)) (u := 128) (v := v % 128) rfl rfl rfl (by decide) (by show _ < 256; omega), high7]
        rfl
      · show _ * 1 ≤ _
        simp only [List.length_cons]; omega
      · conv => lhs; whnf
        refine next r _ _ (by omega) ⟨_, v / 128, (128 + v % 128) :: acc, o', a', shr_nat (k := .u64) (j := 7) rfl, by omega, by omega, ?_, ?_, rfl, h0, ho', ?_⟩
        · rw [Nat.pow_succ] at hv
          show v / 128 < _
          omega
        · simp only [List.length_cons]; omega
        · rw [← he, tailB, if_neg (by omega)]
    · obtain rfl : v = 0 := by simpa using h
      conv => lhs; whnf
      refine fin _ _ _ nofun ?_
      conv => lhs; whnf
      have e : acc = enc u := by
        rw [← he]
        cases r <;> simp [tailB]
      subst e
      exact hK o a τ hp ho
  · refine ⟨_, u / 128, [u % 128], some σ.length, .at σ.length 0 1, shr_nat (k := .u64) (j := 7) rfl, Nat.le_refl _, by omega, ?_, Nat.le_refl _, rfl, prefix_add (List.prefix_refl _) _, ?_, rfl⟩
    · omega
    · have := Own.new (List.prefix_refl σ) (z := 1) (n := 1) (u8s [u % 128]) .own (by decide) rfl
      rw [show u8s [u % 128] = [AV.int .u8 _] from congrArg (fun x => [AV.int .u8 x]) (low7 hu).symm] at this
      rw [show u8s [u % 128] = [AV.int .u8 _] from congrArg (fun x => [AV.int .u8 x]) (low7 hu).symm]
      exact this

end Go.Proofs.YthmdecfiijgaoaaGreat
namespace Go.Proofs.YthmdecfiijgaoaaGreat
open Go Go.AM Go.AM.St
theorem zag_val {u : Nat} (hu : u < 18446744073709551616) :
    IntKind.i64.wrap ((BitVec.ofInt IntKind.i64.bits (IntKind.i64.wrap ((u : Int).fdiv (2 ^ min (Int.toNat 1) IntKind.u64.bits))) ^^^
      BitVec.ofInt IntKind.i64.bits (IntKind.i64.wrap (0 - IntKind.i64.wrap (IntKind.u64.wrap ((BitVec.ofInt IntKind.u64.bits (u : Int) &&& BitVec.ofInt IntKind.u64.bits 1).toNat : Int))))).toNat : Int) = zagI u := by
  rw [show min (Int.toNat 1) IntKind.u64.bits = 1 from rfl, Int.fdiv_eq_ediv_of_nonneg _ (by decide), and_nat (k := .u64) (x := (u : Int)) (y := 1) (u := u) (v := 1) rfl rfl rfl hu (by decide),
    show (1 : Nat) = 2 ^ 1 - 1 from rfl, mask_nat]
  have e1 : IntKind.i64.wrap ((u : Int) / 2 ^ 1) = ((u / 2 : Nat) : Int) := by rw [wrap_i64 (by omega) (by omega)]; omega
  have e2 : IntKind.i64.wrap ((u % 2 ^ 1 : Nat) : Int) = ((u % 2 : Nat) : Int) := wrap_i64 (by omega) (by omega)
  rw [e1, e2, wrap_i64 (x := 0 - ((u % 2 : Nat) : Int)) (by omega) (by omega)]
  unfold zagI
  by_cases h : u % 2 = 1
  · rw [if_pos h, h, ofInt_nat]
    show IntKind.i64.wrap ((BitVec.ofNat 64 _ ^^^ BitVec.allOnes 64).toNat : Int) = _
    rw [BitVec.xor_allOnes, BitVec.toNat_not, BitVec.toNat_ofNat, Nat.mod_eq_of_lt (by omega)]
    simp [IntKind.wrap, IntKind.signed, IntKind.bits]
    split <;> omega
  · rw [if_neg h, show u % 2 = 0 by omega, ofInt_nat]
    show IntKind.i64.wrap ((BitVec.ofNat 64 _ ^^^ BitVec.ofNat 64 0).toNat : Int) = _
    rw [show BitVec.ofNat 64 0 = 0#64 from rfl, BitVec.xor_zero, BitVec.toNat_ofNat, Nat.mod_eq_of_lt (by omega), wrap_i64 (by omega) (by omega)]

theorem step7 {u x : Nat} (hu : u < 144115188075855872) (hx : x < 256) :
    IntKind.u64.wrap ((BitVec.ofInt IntKind.u64.bits (IntKind.u64.wrap ((u : Int) * 2 ^ min (Int.toNat 7) IntKind.u64.bits)) |||
      BitVec.ofInt IntKind.u64.bits (IntKind.u64.wrap (IntKind.u8.wrap ((BitVec.ofInt IntKind.u8.bits (x : Int) &&& BitVec.ofInt IntKind.u8.bits 127).toNat : Int)))).toNat : Int) = ((u * 128 + x % 128 : Nat) : Int) := by
  have e1 : IntKind.u64.wrap ((u : Int) * 2 ^ min (Int.toNat 7) IntKind.u64.bits) = ((u * 128 : Nat) : Int) := by
    rw [shl_nat (k := .u64) rfl rfl]
    show ((u * 128 % 18446744073709551616 : Nat) : Int) = _
    rw [Nat.mod_eq_of_lt (by omega)]
  rw [e1, and_nat (k := .u8) (x := (x : Int)) (y := 127) (u := x) (v := 127) rfl rfl rfl hx (by decide), show (127 : Nat) = 2 ^ 7 - 1 from rfl, mask_nat, wrap_u64 (u := x % 2 ^ 7) (by omega),
    or_nat (k := .u64) (u := u * 128) (v := x % 2 ^ 7) rfl rfl rfl (by show _ < 18446744073709551616; omega) (by show _ < 18446744073709551616; omega), show u * 128 = u * 2 ^ 7 from rfl, or_add (by omega)]
attribute [local irreducible] IntKind.wrap Int.fdiv Int.tdiv Int.tmod BitVec.ofInt appendK sliceK indexAddrK ldK storeK seenK makeSliceK
set_option maxRecDepth 100000
variable {D : Drawer}

theorem zag_spec {n : Nat} (hn : 1 ≤ n) {u : Nat} {y : Int} (hy : y = (u : Int)) (hu : u < 18446744073709551616) (σ : H) (K : AV → H → Bool) (h : K (.int .i64 (zagI u)) σ = true) :
    acall Tryz.prog tab D n 158 [.int .u64 y] σ K = true := by
  subst hy
  obtain ⟨n, rfl, hn⟩ := up hn
  conv => lhs; whnf
  show K (.int .i64 _) _ = true
  rw [zag_val hu]
  exact h

theorem get_spec {n : Nat} (hn : 12 ≤ n) {a : SA} {bs : List Nat} {σ : H} (ha : Rw σ 1 a bs.length (u8s bs)) (hb : ∀ b ∈ bs, b < 256) (K : AV → H → Bool)
    (hK : K (.tup [.int .i64 (getR bs).1, .int .i64 ((getR bs).2 : Int)]) σ = true) : acall Tryz.prog tab D n 142 [.sl a bs.length] σ K = true := by
  obtain ⟨n, rfl, hn⟩ := up hn
  conv => lhs; whnf
  refine bt.slice ha 0 (min bs.length 10) (.inl ⟨rfl, rfl⟩) (.inr ⟨_, _, rfl, ?_⟩) (Nat.zero_le _) (Nat.min_le_left _ _) (bs.take 10) ?_ fun a' ha' => ?_
  · show (if _ then _ else _) = _
    split <;> omega
  · rw [List.drop_zero, Nat.min_comm, ← List.take_take, List.take_of_length_le (Nat.le_refl _)]
  have hd : ∀ b ∈ bs.take 10, b < 256 := fun b h => hb b (List.mem_of_mem_take h)
  have hl : (bs.take 10).length ≤ 10 := by rw [List.length_take]; omega
  have hg : getR bs = match getL 0 0 (bs.take 10) with | some (u, k) => (zagI u, k) | none => (0, 0) := rfl
  generalize bs.take 10 = ds at ha' hd hl hg
  conv => lhs; whnf
  refine loop_rule (m := 14352) (fun r fr τ => ∃ (y z : Int) (u i : Nat), y = (u : Int) ∧ z = (i : Int) ∧ u < 18446744073709551616 ∧ i + r = ds.length ∧ τ = σ ∧
      fr = [.bad, .bad, .bad, .bad, .int .u64 y, .bad, .bad, .bad, .bad, .bad, .bad, .sl a' ds.length, .int .i64 (ds.length : Int), .int .i64 z, .bad, .bad, .bad, .bad, .bad, .bad, .bad, .bad, .bad, .bad, .bad, .bad, .bad, .bad, .bad, .bad, .bad, .bad, .bad, .bad, .bad, .bad, .bad, .bad, .bad, .bad, .bad, .bad] ∧
      getL 0 0 ds = getL i u (ds.drop i)) ?_ _ ds.length _ _ (by omega) ?_
  · rintro r fr τ C ⟨y, z, u, i, rfl, rfl, hu, hi, rfl, rfl, he⟩ next fin
    conv => lhs; whnf
    refine bif_case (fun h => ?_) (fun h => ?_)
    · have hlt : i < ds.length := by simpa using h
      have hx : ds[i] < 256 := hd _ (List.getElem_mem _)
      rw [List.drop_eq_getElem_cons hlt] at he
      conv => lhs; whnf
      refine bt.idx ha' rfl hlt fun p hp => ?_
      conv => lhs; whnf
      refine bt.ld hp ?_
      generalize ds[i] = x at hx he
      have hsh : (u : Int).fdiv (2 ^ min (Int.toNat 57) IntKind.u64.bits) = ((u / 144115188075855872 : Nat) : Int) := shr_nat (k := .u64) (j := 57) rfl
      rw [getL] at he
      conv => lhs; whnf
      by_cases hc : (i = 0 ∧ x = 128) ∨ ¬ u < 144115188075855872
      · rw [if_pos hc] at he
        rw [he] at hg
        rw [hg] at hK
        by_cases hi0 : i = 0
        · refine bif_pos (by simp [hi0]) ?_
          conv => lhs; whnf
          by_cases hx0 : x = 128
          · refine bif_pos (by simp [hx0]) ?_
            conv => lhs; whnf
            refine fin _ _ _ nofun ?_
            conv => lhs; whnf
            exact hK
          · refine bif_neg (by simp; omega) ?_
            conv => lhs; whnf
            refine bif_pos (by rw [hsh]; simp; omega) ?_
            conv => lhs; whnf
            refine fin _ _ _ nofun ?_
            conv => lhs; whnf
            exact hK
        · refine bif_neg (by simp; omega) ?_
          conv => lhs; whnf
          refine bif_pos (by rw [hsh]; simp; omega) ?_
          conv => lhs; whnf
          refine fin _ _ _ nofun ?_
          conv => lhs; whnf
          exact hK
      · rw [if_neg hc] at he
        by_cases hi0 : i = 0
        case' pos =>
          refine bif_pos (by simp [hi0]) ?_
          conv => lhs; whnf
          refine bif_neg (by simp; omega) ?_
          conv => lhs; whnf
          refine bif_neg (by rw [hsh]; simp; omega) ?_
          conv => lhs; whnf
        case' neg =>
          refine bif_neg (by simp; omega) ?_
          conv => lhs; whnf
          refine bif_neg (by rw [hsh]; simp; omega) ?_
          conv => lhs; whnf
        all_goals
          have hs7 := step7 (u := u) (by omega) hx
          by_cases hx1 : x < 128
          · rw [if_pos hx1] at he
            rw [he] at hg
            rw [hg] at hK
            refine bif_pos (by simp; omega) ?_
            conv => lhs; whnf
            refine zag_spec (by omega) hs7 (by omega) τ _ ?_
            conv => lhs; whnf
            refine fin _ _ _ nofun ?_
            conv => lhs; whnf
            show K (.tup [.int .i64 (zagI (u * 128 + x % 128)), .int .i64 (IntKind.i64.wrap ((i : Int) + 1))]) τ = true
            rw [inc_i64 (by omega)]
            exact hK
          · rw [if_neg hx1] at he
            refine bif_neg (by simp; omega) ?_
            conv => lhs; whnf
            refine next (r - 1) _ _ (by omega) ⟨_, _, u * 128 + x % 128, i + 1, hs7, inc_i64 (by omega), by omega, by omega, rfl, rfl, he⟩
    · obtain rfl : i = ds.length := by have : ¬ i < ds.length := by simpa using h
                                       omega
      rw [List.drop_length, getL] at he
      rw [he] at hg
      rw [hg] at hK
      conv => lhs; whnf
      refine fin _ _ _ nofun ?_
      conv => lhs; whnf
      exact hK
  · exact ⟨_, _, 0, 0, rfl, rfl, by decide, by omega, rfl, rfl, rfl⟩

end Go.Proofs.YthmdecfiijgaoaaGreat
namespace Go.Proofs.YthmdecfiijgaoaaGreat
open Go Go.AM Go.AM.St

theorem mul8 {i : Nat} (h : i < 1000) : IntKind.i64.wrap (8 * (i : Int)) = ((8 * i : Nat) : Int) := by
  rw [wrap_i64 (by omega) (by omega)]; omega
theorem fixByte {u i : Nat} (hi : i < 8) :
    IntKind.u8.wrap ((u : Int).fdiv (2 ^ min (IntKind.i64.wrap (8 * (i : Int))).toNat IntKind.u64.bits)) = ((u / 256 ^ i % 256 : Nat) : Int) := by
  rw [mul8 (by omega), Int.toNat_natCast, shr_nat (k := .u64) (j := 8 * i) (u := u) rfl]
  rw [show min (8 * i) IntKind.u64.bits = 8 * i from Nat.min_eq_left (by show 8 * i ≤ 64; omega), Nat.pow_mul, wrap_mod (k := .u8) rfl]
  rfl
theorem unfixStep {n x i : Nat} (hn : n < 256 ^ i) (hx : x < 256) (hi : i < 8) :
    IntKind.u64.wrap ((BitVec.ofInt IntKind.u64.bits (n : Int) ||| BitVec.ofInt IntKind.u64.bits (IntKind.u64.wrap (IntKind.u64.wrap (x : Int) * 2 ^ min (IntKind.i64.wrap (8 * (i : Int))).toNat IntKind.u64.bits))).toNat : Int) =
      ((n + x * 256 ^ i : Nat) : Int) := by
  have hp : 256 ^ i ≤ 256 ^ 7 := Nat.pow_le_pow_right (by decide) (by omega)
  have hp' : (256 : Nat) ^ 7 = 72057594037927936 := by decide
  have hb : x * 256 ^ i ≤ 255 * 256 ^ i := Nat.mul_le_mul_right _ (by omega)
  rw [mul8 (by omega), Int.toNat_natCast, wrap_u64 (u := x) (by omega), shl_nat (k := .u64) (j := 8 * i) (u := x) rfl rfl]
  rw [show min (8 * i) IntKind.u64.bits = 8 * i from Nat.min_eq_left (by show 8 * i ≤ 64; omega), Nat.mod_eq_of_lt (by show _ < 18446744073709551616; rw [Nat.pow_mul]; show x * 256 ^ i < _; omega)]
  rw [or_nat (k := .u64) (u := n) (v := x * 2 ^ (8 * i)) rfl rfl rfl (by show _ < 18446744073709551616; omega) (by show _ < 18446744073709551616; rw [Nat.pow_mul]; show x * 256 ^ i < _; omega)]
  rw [or_add' (by rw [Nat.pow_mul]; exact hn), Nat.pow_mul, Nat.add_comm]
attribute [local irreducible] IntKind.wrap Int.fdiv Int.tdiv Int.tmod BitVec.ofInt appendK sliceK indexAddrK ldK storeK seenK makeSliceK
set_option maxRecDepth 100000
variable {D : Drawer}

theorem fix_spec {n : Nat} (hn : 10 ≤ n) {u size : Nat} {y z : Int} (hy : y = (u : Int)) (hz : z = (size : Int)) (hs : size ≤ 9) (σ : H) (K : AV → H → Bool)
    (hK : ∀ o a σ', σ <+: σ' → Own σ σ' 1 o a (fixR u size).length (u8s (fixR u size)) → K (.sl a (fixR u size).length) σ' = true) : acall Tryz.prog tab D n 152 [.int .u64 y, .int .i64 z] σ K = true := by
  subst hy hz
  obtain ⟨n, rfl, hn⟩ := up hn
  conv => lhs; whnf
  by_cases h9 : size ≤ 8
  · have hf : fixR u size = fixL u size := by unfold fixR; rw [if_pos h9]
    rw [hf] at hK
    refine bif_neg (by simp; omega) ?_
    conv => lhs; whnf
    refine bt.make rfl (by omega) (fun h0 => ?_) (fun h0 => ?_)
    · subst h0
      conv => lhs; whnf
      refine loop_rule (m := 196641) (fun r fr τ => τ = σ ∧ fr = [.int .u64 (u : Int), .bad, .bad, .bad, .bad, .sl .zero 0, .bad, .bad, .bad, .bad, .bad, .bad, .bad, .bad, .bad, .bad, .int .i64 0, .int .i64 0, .bad, .bad, .bad, .bad, .bad, .bad, .bad, .bad, .bad, .bad, .bad, .bad]) ?_ _ 0 _ _ (by omega) ⟨rfl, rfl⟩
      rintro r fr τ C ⟨rfl, rfl⟩ next fin
      conv => lhs; whnf
      refine fin _ _ _ nofun ?_
      conv => lhs; whnf
      exact hK none .zero τ (List.prefix_refl _) (Own.zero _ _ _)
    · conv => lhs; whnf
      refine loop_rule (m := 196641) (fun r fr τ => ∃ (z : Int) (i : Nat), z = (i : Int) ∧ i + r = size ∧ τ = σ ++ [AO.cells (u8s (fixL u i ++ List.replicate (size - i) 0)) 1 .own] ∧
        fr = [.int .u64 (u : Int), .bad, .bad, .bad, .bad, .sl (.at σ.length 0 1) size, .bad, .bad, .bad, .bad, .bad, .bad, .bad, .bad, .bad, .bad, .int .i64 (size : Int), .int .i64 z, .bad, .bad, .bad, .bad, .bad, .bad, .bad, .bad, .bad, .bad, .bad, .bad]) ?_ _ size _ _ (by omega) ⟨_, 0, rfl, by omega, rfl, rfl⟩
      rintro r fr τ C ⟨z, i, rfl, hi, rfl, rfl⟩ next fin
      conv => lhs; whnf
      refine bif_case (fun h => ?_) (fun h => ?_)
      · have hlt : i < size := by simpa using h
        conv => lhs; whnf
        refine bif_neg (by rw [mul8 (by omega)]; simp; omega) ?_
        conv => lhs; whnf
        refine bt.idxAt rfl hlt ?_
        conv => lhs; whnf
        refine bt.store (get_new _ _) (by rw [List.length_append, fixL_len, List.length_replicate]; omega) (fixByte (by omega)) ?_
        conv => lhs; whnf
        refine next (r - 1) _ _ (by omega) ⟨_, i + 1, inc_i64 (by omega), by omega, ?_, rfl⟩
        rw [Nat.zero_add, fix_set u size i hlt, List.set_append_right _ _ (Nat.le_refl _), Nat.sub_self]
        rfl
      · obtain rfl : i = size := by have : ¬ i < size := by simpa using h
                                    omega
        conv => lhs; whnf
        refine fin _ _ _ nofun ?_
        conv => lhs; whnf
        rw [Nat.sub_self, List.replicate_zero, List.append_nil]
        have := hK (some σ.length) (.at σ.length 0 1) _ (prefix_add (List.prefix_refl _) _) (Own.new (List.prefix_refl σ) (n := (fixL u i).length) (u8s (fixL u i)) .own (by decide) (by rw [u8s_len, Nat.mul_one]))
        rw [fixL_len] at this
        exact this
  · have hf : fixR u size = [] := by unfold fixR; rw [if_neg h9]
    rw [hf] at hK
    refine bif_pos (by simp; omega) ?_
    conv => lhs; whnf
    exact hK none .nil σ (List.prefix_refl _) (Own.nil _ _ _)

theorem unfix_spec {n : Nat} (hn : 10 ≤ n) {a : SA} {bs : List Nat} {σ : H} (ha : Rw σ 1 a bs.length (u8s bs)) (hb : ∀ b ∈ bs, b < 256) (K : AV → H → Bool)
    (hK : K (.int .u64 (unfix bs : Int)) σ = true) : acall Tryz.prog tab D n 138 [.sl a bs.length] σ K = true := by
  obtain ⟨n, rfl, hn⟩ := up hn
  conv => lhs; whnf
  refine bt.slice ha 0 (min bs.length 8) (.inl ⟨rfl, rfl⟩) (.inr ⟨_, _, rfl, ?_⟩) (Nat.zero_le _) (Nat.min_le_left _ _) (bs.take 8) ?_ fun a' ha' => ?_
  · show (if _ then _ else _) = _
    split <;> omega
  · rw [List.drop_zero, Nat.min_comm, ← List.take_take, List.take_of_length_le (Nat.le_refl _)]
  have hd : ∀ b ∈ bs.take 8, b < 256 := fun b h => hb b (List.mem_of_mem_take h)
  have hl : (bs.take 8).length ≤ 8 := by rw [List.length_take]; omega
  have hg : unfix bs = unfixL (bs.take 8) := rfl
  generalize bs.take 8 = ds at ha' hd hl hg
  conv => lhs; whnf
  refine loop_rule (m := 7176) (fun r fr τ => ∃ (y z : Int) (i : Nat), y = ((unfixL (ds.take i) : Nat) : Int) ∧ z = (i : Int) ∧ i + r = ds.length ∧ τ = σ ∧
      fr = [.bad, .bad, .bad, .int .u64 y, .bad, .bad, .bad, .bad, .bad, .bad, .sl a' ds.length, .int .i64 (ds.length : Int), .int .i64 z, .bad, .bad, .bad, .bad, .bad, .bad, .bad, .bad, .bad, .bad, .bad, .bad, .bad]) ?_ _ ds.length _ _ (by omega) ⟨_, _, 0, rfl, rfl, by omega, rfl, rfl⟩
  rintro r fr τ C ⟨y, z, i, rfl, rfl, hi, rfl, rfl⟩ next fin
  conv => lhs; whnf
  refine bif_case (fun h => ?_) (fun h => ?_)
  · have hlt : i < ds.length := by simpa using h
    have hx : ds[i] < 256 := hd _ (List.getElem_mem _)
    have hn' := unfix_lt (ds.take i) fun b hb => hd b (List.mem_of_mem_take hb)
    rw [List.length_take, Nat.min_eq_left (by omega)] at hn'
    have hs := unfix_snoc (ds.take i) ds[i]
    rw [List.take_append_getElem hlt, List.length_take, Nat.min_eq_left (by omega)] at hs
    conv => lhs; whnf
    refine bt.idx ha' rfl hlt fun p hp => ?_
    conv => lhs; whnf
    refine bt.ld hp ?_
    conv => lhs; whnf
    refine bif_neg (by rw [mul8 (by omega)]; simp; omega) ?_
    conv => lhs; whnf
    refine next (r - 1) _ _ (by omega) ⟨_, _, i + 1, ?_, inc_i64 (by omega), by omega, rfl, rfl⟩
    rw [unfixStep hn' hx (by omega), hs]
  · obtain rfl : i = ds.length := by have : ¬ i < ds.length := by simpa using h
                                     omega
    conv => lhs; whnf
    refine fin _ _ _ nofun ?_
    conv => lhs; whnf
    rw [List.take_length, ← hg]
    exact hK
end Go.Proofs.YthmdecfiijgaoaaGreat
