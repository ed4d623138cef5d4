/- Package mark: what its functions do. -/
import Derived.Test.YtahhajakgakdhaaL1Ref2
import Derived.Test.YtahhajakgakdhaaL1Plans
import Derived.Test.YtahhajakgakdhaaGmStep
import Derived.Test.YtahhajakgakdhaaGmPlain
namespace Go.Proofs.Ytahhajakgakdhaa
open Go Go.AM Go.AM.St

theorem mX {m : Nat} : ((m : Int).tmod 65536).tmod 65521 = ((m % 65536 % 65521 : Nat) : Int) := by
  rw [show (65536 : Int) = ((65536 : Nat) : Int) from rfl, tmod_nat, show (65521 : Int) = ((65521 : Nat) : Int) from rfl, tmod_nat]
theorem mY {m : Nat} (h : m < 4294967296) : (IntKind.u32.wrap ((m : Int).tdiv 65536)).tmod 65521 = ((m / 65536 % 65521 : Nat) : Int) := by
  rw [quo_nat (k := .u32) (x := (m : Int)) (y := 65536) (u := m) (v := 65536) rfl rfl rfl h, show (65521 : Int) = ((65521 : Nat) : Int) from rfl, tmod_nat]
theorem mXs {x c : Nat} (hx : x < 65521) (hc : c < 256) : (IntKind.u32.wrap ((x : Int) + IntKind.u32.wrap (c : Int))).tmod 65521 = (((x + c) % 65521 : Nat) : Int) := by
  rw [wrap_u32 (u := c) (by omega), ← Int.natCast_add, wrap_u32 (by omega), show (65521 : Int) = ((65521 : Nat) : Int) from rfl, tmod_nat]
theorem mYs {x y c : Nat} (hx : x < 65521) (hy : y < 65521) (hc : c < 256) :
    (IntKind.u32.wrap ((y : Int) + (IntKind.u32.wrap ((x : Int) + IntKind.u32.wrap (c : Int))).tmod 65521)).tmod 65521 = (((y + (x + c) % 65521) % 65521 : Nat) : Int) := by
  rw [mXs hx hc, ← Int.natCast_add, wrap_u32 (by omega), show (65521 : Int) = ((65521 : Nat) : Int) from rfl, tmod_nat]
theorem mEnd {x y : Nat} (hx : x < 65521) (hy : y < 65521) : IntKind.u32.wrap (IntKind.u32.wrap ((y : Int) * 65536) + (x : Int)) = ((y * 65536 + x : Nat) : Int) := by
  rw [show (y : Int) * 65536 = ((y * 65536 : Nat) : Int) by omega, wrap_u32 (by omega), ← Int.natCast_add, wrap_u32 (by omega)]
theorem qWrap {n : Int} (h1 : 1 ≤ n) (h2 : n ≤ 9223372036854775807) : IntKind.u64.wrap n = (n.toNat : Int) := by
  have : n = (n.toNat : Int) := by omega
  rw [this, wrap_u64 (by omega)]
  simp
theorem shardVal {m : Nat} {n : Int} (hm : m < 4294967296) (h1 : 1 ≤ n) (h2 : n ≤ 9223372036854775807) : IntKind.i64.wrap ((IntKind.u64.wrap (m : Int)).tmod (IntKind.u64.wrap n)) = ((m % n.toNat : Nat) : Int) := by
  have := Nat.mod_le m n.toNat
  rw [qWrap h1 h2, wrap_u64 (by omega), tmod_nat, wrap_i64 (by omega) (by omega)]
theorem rshardVal {m : Nat} {n : Int} (hm : m < 4294967296) (h1 : 1 ≤ n) : (IntKind.i64.wrap (m : Int)).tmod n = ((m % n.toNat : Nat) : Int) := by
  rw [wrap_i64 (by omega) (by omega)]
  have : n = (n.toNat : Int) := by omega
  rw [this, tmod_nat]
  simp
theorem xor_eq {a b : Nat} (ha : a < 256) (hb : b < 256) : IntKind.u8.wrap ((BitVec.ofInt IntKind.u8.bits (a : Int) ^^^ BitVec.ofInt IntKind.u8.bits (b : Int)).toNat : Int) = ((a ^^^ b : Nat) : Int) :=
  xor_nat (k := .u8) rfl rfl rfl ha hb
theorem iMod {at' n : Nat} : (at' : Int).tmod (n : Int) = ((at' % n : Nat) : Int) := tmod_nat _ _
attribute [local irreducible] IntKind.wrap Int.fdiv Int.tdiv Int.tmod BitVec.ofInt appendK sliceK indexAddrK ldK storeK seenK makeSliceK
set_option maxRecDepth 100000
variable {D : Drawer}

theorem add_spec {n : Nat} {a : SA} {bs : List Nat} {m : Nat} {q : Int} (hn : bs.length + 2 ≤ n) (hq : q = (m : Int)) (hm : m < 4294967296) {σ : H} (ha : Rw σ 1 a bs.length (u8s bs)) (hb : ∀ b ∈ bs, b < 256) (hl : bs.length < 1000000) (K : AV → H → Bool)
    (hK : K (.int .u32 (markN m bs : Int)) σ = true) : acall Try.prog tab D n 101 [.int .u32 q, .sl a bs.length] σ K = true := by
  subst hq
  obtain ⟨n, rfl, hn⟩ := up hn
  conv => lhs; whnf
  refine loop_rule (m := 229472) (fun r fr τ => ∃ (p q z : Int) (x y i : Nat), p = (x : Int) ∧ q = (y : Int) ∧ z = (i : Int) ∧ x < 65521 ∧ y < 65521 ∧ i + r = bs.length ∧ τ = σ ∧
      fr = [.bad, .bad, .bad, .bad, .bad, .int .u32 p, .int .u32 q, .bad, .bad, .bad, .bad, .bad, .bad, .bad, .bad, .sl a bs.length, .int .i64 (bs.length : Int), .int .i64 z, .bad, .bad, .bad, .bad, .bad, .bad, .bad, .bad, .bad, .bad, .bad, .bad, .bad, .bad, .bad, .bad, .bad] ∧
      addS (m % 65536 % 65521) (m / 65536 % 65521) bs = addS x y (bs.drop i)) ?_ _ bs.length _ _ (by omega)
      ⟨_, _, _, _, _, 0, mX, mY hm, rfl, Nat.mod_lt _ (by decide), Nat.mod_lt _ (by decide), by omega, rfl, rfl, rfl⟩
  rintro r fr τ C ⟨p, q, z, x, y, i, rfl, rfl, rfl, hx, hy, hi, rfl, rfl, he⟩ next fin
  conv => lhs; whnf
  refine bif_case (fun h => ?_) (fun h => ?_)
  · have hlt : i < bs.length := by simpa using h
    have hc := hb _ (List.getElem_mem hlt)
    rw [List.drop_eq_getElem_cons hlt, addS] at he
    conv => lhs; whnf
    refine bt.idx ha rfl hlt fun p hp => ?_
    conv => lhs; whnf
    refine bt.ld hp ?_
    conv => lhs; whnf
    exact next (r - 1) _ _ (by omega) ⟨_, _, _, _, _, i + 1, mXs hx hc, mYs hx hy hc, inc_i64 (by omega), Nat.mod_lt _ (by decide), Nat.mod_lt _ (by decide), by omega, rfl, rfl, he⟩
  · obtain rfl : i = bs.length := by have : ¬ i < bs.length := by simpa using h
                                     omega
    rw [List.drop_length, addS] at he
    conv => lhs; whnf
    refine fin _ _ _ nofun ?_
    conv => lhs; whnf
    show K (.int .u32 _) _ = true
    rw [mEnd hx hy]
    have e : markN m bs = y * 65536 + x := by unfold markN; rw [he]
    rw [← e]
    exact hK

theorem radd_spec {n : Nat} {a : SA} {bs : List Nat} {m : Nat} {q : Int} (hn : bs.length + 2 ≤ n) (hq : q = (m : Int)) (hm : m < 4294967296) {σ : H} (ha : Rw σ 1 a bs.length (u8s bs)) (hb : ∀ b ∈ bs, b < 256) (hl : bs.length < 1000000) (K : AV → H → Bool)
    (hK : K (.int .u32 (markN m bs : Int)) σ = true) : acall Try.prog tab D n 68 [.int .u32 q, .sl a bs.length] σ K = true := by
  subst hq
  obtain ⟨n, rfl, hn⟩ := up hn
  conv => lhs; whnf
  refine loop_rule (m := 226) (fun r fr τ => ∃ (p q z : Int) (x y i : Nat), p = (x : Int) ∧ q = (y : Int) ∧ z = (i : Int) ∧ x < 65521 ∧ y < 65521 ∧ i + r = bs.length ∧ τ = σ ∧
      fr = [.bad, .sl a bs.length, .bad, .bad, .bad, .int .u32 p, .int .u32 q, .int .i64 z, .bad, .bad, .bad, .bad, .bad, .bad, .bad, .bad, .bad, .bad, .bad, .bad, .bad, .bad, .bad, .bad, .bad, .bad, .bad, .bad, .bad, .bad, .bad, .bad, .bad, .bad, .bad, .bad] ∧
      addS (m % 65536 % 65521) (m / 65536 % 65521) bs = addS x y (bs.drop i)) ?_ _ bs.length _ _ (by omega)
      ⟨_, _, _, _, _, 0, mX, mY hm, rfl, Nat.mod_lt _ (by decide), Nat.mod_lt _ (by decide), by omega, rfl, rfl, rfl⟩
  rintro r fr τ C ⟨p, q, z, x, y, i, rfl, rfl, rfl, hx, hy, hi, rfl, rfl, he⟩ next fin
  conv => lhs; whnf
  refine bif_case (fun h => ?_) (fun h => ?_)
  · have hlt : i < bs.length := by simpa using h
    have hc := hb _ (List.getElem_mem hlt)
    rw [List.drop_eq_getElem_cons hlt, addS] at he
    conv => lhs; whnf
    refine bt.idx ha rfl hlt fun p hp => ?_
    conv => lhs; whnf
    refine bt.ld hp ?_
    conv => lhs; whnf
    exact next (r - 1) _ _ (by omega) ⟨_, _, _, _, _, i + 1, mXs hx hc, mYs hx hy hc, inc_i64 (by omega), Nat.mod_lt _ (by decide), Nat.mod_lt _ (by decide), by omega, rfl, rfl, he⟩
  · obtain rfl : i = bs.length := by have : ¬ i < bs.length := by simpa using h
                                     omega
    rw [List.drop_length, addS] at he
    conv => lhs; whnf
    refine fin _ _ _ nofun ?_
    conv => lhs; whnf
    show K (.int .u32 _) _ = true
    rw [mEnd hx hy]
    have e : markN m bs = y * 65536 + x := by unfold markN; rw [he]
    rw [← e]
    exact hK

theorem of_spec {n : Nat} {a : SA} {bs : List Nat} {l : Nat} (hn : bs.length + 3 ≤ n) (hl : l = bs.length) {σ : H} (ha : Rw σ 1 a bs.length (u8s bs)) (hb : ∀ b ∈ bs, b < 256) (hl' : bs.length < 1000000) (K : AV → H → Bool)
    (hK : K (.int .u32 (markN 1 bs : Int)) σ = true) : acall Try.prog tab D n 83 [.sl a l] σ K = true := by
  subst hl
  obtain ⟨n, rfl, hn⟩ := up hn
  conv => lhs; whnf
  refine add_spec (by omega) (m := 1) rfl (by decide) ha hb hl' _ ?_
  conv => lhs; whnf
  exact hK
theorem rof_spec {n : Nat} {a : SA} {bs : List Nat} {l : Nat} (hn : bs.length + 3 ≤ n) (hl : l = bs.length) {σ : H} (ha : Rw σ 1 a bs.length (u8s bs)) (hb : ∀ b ∈ bs, b < 256) (hl' : bs.length < 1000000) (K : AV → H → Bool)
    (hK : K (.int .u32 (markN 1 bs : Int)) σ = true) : acall Try.prog tab D n 51 [.sl a l] σ K = true := by
  subst hl
  obtain ⟨n, rfl, hn⟩ := up hn
  conv => lhs; whnf
  refine radd_spec (by omega) (m := 1) rfl (by decide) ha hb hl' _ ?_
  conv => lhs; whnf
  exact hK

def shardN (bs : List Nat) (n : Int) : Nat := if n < 1 then 0 else markN 1 bs % n.toNat
theorem textRow (σ : H) (bs : List Nat) : Rw (σ ++ [AO.cells ((ints bs).map (AV.int .u8 ·)) 1 .own]) 1 (.at σ.length 0 1) bs.length (u8s bs) := by
  have e : (ints bs).map (AV.int .u8 ·) = u8s bs := by simp [ints, u8s]
  rw [e]
  exact Rw.new _ _ (by rw [u8s_len, Nat.mul_one])

theorem shards_spec {n : Nat} {bs : List Nat} {q : Int} (hn : bs.length + 4 ≤ n) (h2 : q ≤ 9223372036854775807) {σ : H} (hb : ∀ b ∈ bs, b < 256) (hl : bs.length < 1000000) (K : AV → H → Bool)
    (hK : ∀ σ', σ <+: σ' → K (.int .i64 (shardN bs q : Int)) σ' = true) : acall Try.prog tab D n 84 [.str (ints bs), .int .i64 q] σ K = true := by
  obtain ⟨n, rfl, hn⟩ := up hn
  conv => lhs; whnf
  by_cases h1 : q < 1
  · refine bif_pos (by simp; omega) ?_
    conv => lhs; whnf
    have := hK σ (List.prefix_refl _)
    unfold shardN at this
    rw [if_pos h1] at this
    exact this
  · refine bif_neg (by simp; omega) ?_
    conv => lhs; whnf
    refine of_spec (bs := bs) (by omega) (by simp [ints]) (textRow σ bs) hb hl _ ?_
    conv => lhs; whnf
    refine bif_neg (by rw [qWrap (by omega) h2]; simp; omega) ?_
    conv => lhs; whnf
    show K (.int .i64 _) _ = true
    rw [shardVal (markN_lt _ _) (by omega) h2]
    have := hK _ (List.prefix_append σ [AO.cells ((ints bs).map (AV.int .u8 ·)) 1 .own])
    unfold shardN at this
    rw [if_neg h1] at this
    exact this

end Go.Proofs.Ytahhajakgakdhaa
