/- DiskOwn. -/
import Derived.Test.YtahhajakgakdhaaL5Fuse
namespace Go.Proofs.Ytahhajakgakdhaa
set_option maxRecDepth 100000
open Go Go.AM Go.AM.St
/-- Bytes that are ours alone. -/
def OwnB (σ : H) (F : Nat → Prop) (a : SA) (bs : List Nat) : Prop :=
  (bs = [] ∧ (a = .nil ∨ a = .zero)) ∨ ∃ id, a = .at id 0 1 ∧ σ[id]? = some (.cells (u8s bs) 1 .own) ∧ ¬ F id
theorem OwnB.rw {σ : H} {F : Nat → Prop} {a : SA} {bs : List Nat} (h : OwnB σ F a bs) : Rw σ 1 a bs.length (u8s bs) := by
  rcases h with ⟨rfl, rfl | rfl⟩ | ⟨id, rfl, h, _⟩
  · exact Rw.nil _ _
  · exact Rw.zero _ _
  · exact .inr (.inr ⟨id, 0, _, _, rfl, h, by rw [u8s_len]; omega, by rw [List.drop_zero, List.take_of_length_le (by rw [u8s_len]; omega)]⟩)
theorem OwnB.keep {σ σ' : H} {F F' : Nat → Prop} {a : SA} {bs : List Nat} (h : OwnB σ F a bs) (hk : ∀ id, id < σ.length → ¬ F id → σ'[id]? = σ[id]? ∧ ¬ F' id) : OwnB σ' F' a bs := by
  rcases h with h | ⟨id, rfl, h, hF⟩
  · exact .inl h
  · obtain ⟨h1, h2⟩ := hk id (get_lt h) hF
    exact .inr ⟨id, rfl, h1.trans h, h2⟩
theorem xor_byte {b : Nat} (h : b < 256) : IntKind.wrap .u8 (((BitVec.ofInt IntKind.u8.bits (b : Int)) ^^^ (BitVec.ofInt IntKind.u8.bits 85)).toNat : Int) = ((b ^^^ 85 : Nat) : Int) := xor_nat rfl rfl rfl h (by decide)
attribute [local irreducible] IntKind.wrap Int.fdiv Int.tdiv Int.tmod BitVec.ofInt appendK sliceK indexAddrK ldK storeK seenK makeSliceK lookupK updateK deleteK mapK rangeK nextK keysF
variable {D : Drawer}
variable {B m clock ops : Nat} {G G1 G2 : List FG} {left : Int} {down : Bool} {σ : H}
theorem short_own {n : Nat} (hn : 1 ≤ n) {a : SA} {bs : List Nat} {m : Nat} {y : Int} (hy : y = (m : Int)) (hm : m ≤ 1000) {σ : H} (ha : Rw σ 1 a bs.length (u8s bs)) (K : AV → H → Bool)
    (hK : ∀ a σ', σ <+: σ' → OwnB σ' (fun id => id < σ.length) a (bs.take m) → K (.sl a (bs.take m).length) σ' = true) : acall Try.prog tab D n 16 [.sl a bs.length, .int .i64 y] σ K = true := by
  subst hy
  obtain ⟨n, rfl, hn⟩ := up hn
  conv => lhs; whnf
  refine bt.slice ha 0 (min bs.length m) (.inl ⟨rfl, rfl⟩) (.inr ⟨_, _, rfl, ?_⟩) (Nat.zero_le _) (Nat.min_le_left _ _) (bs.take m) ?_ fun a' ha' => ?_
  · show (if _ then _ else _) = _
    split <;> omega
  · rw [List.drop_zero, Nat.min_comm, ← List.take_take, List.take_of_length_le (Nat.le_refl _)]
  conv => lhs; whnf
  have hl : (bs.take m).length ≤ 1000 := by rw [List.length_take]; omega
  refine appendZero Try.underlying22 rfl rfl rfl ha' (by show _ * 1 ≤ _; omega) (.inl rfl) (fun h0 => ?_) (fun h0 => ?_)
  · have := hK .nil σ List.prefix_rfl (.inl ⟨List.length_eq_zero_iff.1 h0, .inl rfl⟩)
    rw [h0] at this
    conv => lhs; whnf
    exact this
  · have := hK (.at σ.length 0 1) _ (List.prefix_append σ [AO.cells (u8s (bs.take m)) 1 .own]) (.inr ⟨_, rfl, get_new _ _, Nat.lt_irrefl _⟩)
    conv => lhs; whnf
    exact this
theorem clone_own {n : Nat} {s : SA} {N : Nat} {bs : List Nat} (hn : 1 ≤ n) (hm : bs.length ≤ 1000000000) (hs : Rw σ 1 s N (u8s bs)) {K : AV → H → Bool}
    (hK : ∀ a' σ', σ <+: σ' → OwnB σ' (fun id => id < σ.length) a' bs → K (.sl a' bs.length) σ' = true) : acall Try.prog tab D n 48 [.sl s N] σ K = true := by
  obtain ⟨n, rfl, hn⟩ := up hn
  have hN : N = bs.length := by have := hs.len; simp [u8s] at this; exact this.symm
  subst hN
  have hs' := hs
  rcases hs with ⟨rfl, h0, h00⟩ | ⟨rfl, h0, h00⟩ | ⟨id, off, xs, md, rfl, g1, g2, g3⟩
  · have := hK .nil σ List.prefix_rfl (.inl ⟨List.length_eq_zero_iff.1 h0, .inl rfl⟩)
    rw [h0] at this
    conv => lhs; whnf
    exact this
  all_goals
    conv => lhs; whnf
    refine appendZero Try.underlying22 rfl rfl rfl hs' (by show _ * 1 ≤ _; omega) (.inr rfl) (fun h0 => ?_) (fun h0 => ?_)
    · have := hK .zero σ List.prefix_rfl (.inl ⟨List.length_eq_zero_iff.1 h0, .inr rfl⟩)
      rw [h0] at this
      conv => lhs; whnf
      exact this
    · have := hK (.at σ.length 0 1) _ (List.prefix_append σ [AO.cells (u8s bs) 1 .own]) (.inr ⟨_, rfl, get_new _ _, Nat.lt_irrefl _⟩)
      conv => lhs; whnf
      exact this
theorem read_own {n : Nat} {name : List Nat} (hn : 3 ≤ n) (hd : DiskAt σ B m clock G left down ops) (hlen : ∀ g ∈ G, g.bytes.length ≤ 1000000000) {K : AV → H → Bool}
    (h0 : down = true → K (.tup [.sl .nil 0, .int .i64 7]) σ = true)
    (h1 : down = false → mFind name (G.map FG.v) = none → K (.tup [.sl .nil 0, .int .i64 3]) σ = true)
    (h2 : down = false → ∀ x, mFind name (G.map FG.v) = some x → ∀ a' σ', σ <+: σ' → OwnB σ' (fun id => id < σ.length) a' x.bytes → K (.tup [.sl a' x.bytes.length, .int .i64 0]) σ' = true) :
    acall Try.prog tab D n 21 [.ptr (some ⟨B, 0, 0, 4⟩), .str (ints name)] σ K = true := by
  obtain ⟨n, rfl, hn⟩ := up hn
  conv => lhs; whnf
  refine finds_spec (by omega) hd (fun hdn => ?_) (fun hdn hno => ?_) fun hdn G1 g G2 hG hg hno => ?_
  · conv => lhs; whnf
    exact h0 hdn
  · conv => lhs; whnf
    exact h1 hdn (mFind_none hno)
  subst hG
  have hf := mFind_some (G2 := G2) hg hno
  conv => lhs; whnf
  refine ldF Try.underlying22 rfl rfl (hd.files g (by simp)).row rfl ?_
  conv => lhs; whnf
  refine clone_own (by omega) (hlen g (by simp)) (hd.files g (by simp)).own.rw fun a' σ' hp hw => ?_
  have := h2 hdn _ hf a' σ' hp hw
  conv => lhs; whnf
  exact this
theorem diskOwn_run {n : Nat} (hn : 60 ≤ n) {a : SA} {as' : List Nat} (la : ∀ b ∈ as', b < 256) {σ : H} (ha : Rw σ 1 a as'.length (u8s as')) : acall Try.prog tab D n 6 [.sl a as'.length] σ isTrue = true := by
  obtain ⟨n, rfl, hn⟩ := up hn
  conv => lhs; whnf
  refine begun_spec ?_
  conv => lhs; whnf
  refine short_own (by omega) (m := 40) rfl (by decide) ha _ fun a1 σ1 p1 r1 => ?_
  have lx : ∀ b ∈ as'.take 40, b < 256 := fun b h => la b (List.mem_of_mem_take h)
  have sx : (as'.take 40).length ≤ 40 := by rw [List.length_take]; omega
  generalize as'.take 40 = xs at r1 lx sx ⊢
  conv => lhs; whnf
  refine strK_rw r1.rw lx ?_
  conv => lhs; whnf
  refine new_spec (by omega) fun σ3 B m p3 d3 f3 => ?_
  have e1 : max ((-1 : Int) - 1) (-1) = -1 := by decide
  have r3 : OwnB σ3 (Fp B m []) a1 xs := r1.keep fun id hl _ => ⟨by rw [prefix_get p3 (List.getElem?_eq_getElem hl), ← List.getElem?_eq_getElem hl], fun h => by have := f3 id h; omega⟩
  conv => lhs; whnf
  refine app_spec (name := [120]) (by omega) d3 (by decide) (by decide) (by decide) r3.rw (fun g hg => by simp at hg) (by omega) nofun (fun _ h => by cases h) (fun _ _ h => absurd h (by decide)) fun _ _ _ σ4 c4 G4 d4 v4 s4 => ?_
  rw [e1] at d4
  replace v4 : G4.map FG.v = [⟨[120], xs, 0, false⟩] := v4
  have r4 : OwnB σ4 (Fp B m G4) a1 xs := r3.keep fun id hl hf => ⟨s4.keep id hl hf, fun h => (s4.fp id h).elim hf fun h => by omega⟩
  conv => lhs; whnf
  refine loop_rule (m := 50331697) (fun q fr τ => ∃ (z : Int) (i : Nat) (zs : List Nat), z = (i : Int) ∧ i + q = xs.length ∧ zs.length = xs.length ∧ (∀ b ∈ zs, b < 256) ∧ OwnB τ (Fp B m G4) a1 zs ∧ DiskAt τ B m c4 G4 (-1) false 1 ∧
    fr = [.sl a1 xs.length, .bad, .bad, .bad, .str (ints xs), .ptr (some ⟨B, 0, 0, 4⟩), .bad, .bad, .bad, .bad, .bad, .bad, .bad, .bad, .bad, .bad, .bad, .bad, .bad, .bad, .bad, .bad, .bad, .bad, .int .i64 (xs.length : Int), .int .i64 z, .bad, .bad, .bad, .bad, .bad, .bad, .bad, .bad, .bad, .bad, .bad, .bad, .bad, .bad, .bad, .bad, .bad, .bad, .bad, .bad, .bad, .bad, .bad, .bad, .bad, .bad, .bad, .bad, .bad, .bad, .bad, .bad, .bad, .bad, .bad, .bad, .bad, .bad, .bad, .bad, .bad, .bad, .bad]) ?_ _ xs.length _ _ (by omega) ⟨_, 0, xs, rfl, by omega, rfl, lx, r4, d4, rfl⟩
  rintro q fr τ C ⟨z, i, zs, rfl, hi, hzl, lz, r5, d5, rfl⟩ next fin
  conv => lhs; whnf
  by_cases hlt : i < xs.length
  · rw [show decide ((i : Int) < (xs.length : Int)) = true from decide_eq_true (by omega)]
    rcases r5 with ⟨rfl, _⟩ | ⟨id, rfl, r5, hF⟩
    · simp at hzl; omega
    conv => lhs; whnf
    refine bt.idx0 rfl hlt ?_
    conv => lhs; whnf
    refine bt.ldAt r5 (by omega) ?_
    conv => lhs; whnf
    refine bt.idx0 rfl hlt ?_
    conv => lhs; whnf
    refine bt.store r5 (by omega) (xor_byte (lz _ (List.getElem_mem _))) ?_
    conv => lhs; whnf
    refine next (q - 1) _ _ (by omega) ⟨_, i + 1, _, inc_i64 (by omega), by omega, by rw [List.length_set]; exact hzl, fun b hb => ?_, .inr ⟨id, rfl, get_set r5 _, hF⟩, d5.keep fun j hj => List.getElem?_set_ne fun e => hF (by subst e; exact hj), rfl⟩
    rcases List.mem_or_eq_of_mem_set hb with h | h
    · exact lz b h
    · subst h; exact Nat.xor_lt_two_pow (n := 8) (lz _ (List.getElem_mem _)) (by decide)
  rw [show decide ((i : Int) < (xs.length : Int)) = false from decide_eq_false (by omega)]
  conv => lhs; whnf
  refine fin _ _ _ nofun ?_
  conv => lhs; whnf
  have g4 := bytes_le v4 (k := 1000000000) fun x hx => by rw [List.mem_singleton] at hx; subst hx; show xs.length ≤ _; omega
  refine read_own (name := [120]) (by omega) d5 g4 nofun (fun _ h => by rw [v4] at h; cases h) fun _ x hx a6 σ6 p6 r6 => ?_
  obtain rfl : x = ⟨[120], xs, 0, false⟩ := by rw [v4] at hx; exact (Option.some.inj hx).symm
  have d6 := d5.mono p6
  replace r6 : OwnB σ6 (Fp B m G4) a6 xs := r6.keep fun id _ hf => ⟨rfl, fun h => hf (Fp.lt d5 h)⟩
  conv => lhs; whnf
  refine strK_rw r6.rw lx ?_
  conv => lhs; whnf
  rw [show (ints xs == ints xs) = true from beq_self_eq_true _]
  conv => lhs; whnf
  refine loop_rule (m := 105553116266672) (fun q fr τ => ∃ (z : Int) (i : Nat) (zs : List Nat), z = (i : Int) ∧ i + q = xs.length ∧ zs.length = xs.length ∧ (∀ b ∈ zs, b < 256) ∧ OwnB τ (Fp B m G4) a6 zs ∧ DiskAt τ B m c4 G4 (-1) false 1 ∧
    fr = [.bad, .bad, .bad, .bad, .str (ints xs), .ptr (some ⟨B, 0, 0, 4⟩), .bad, .sl a6 xs.length, .bad, .bad, .bad, .bad, .bad, .bad, .bad, .bad, .bad, .bad, .bad, .bad, .bad, .bad, .bad, .bad, .bad, .bad, .bad, .bad, .bad, .bad, .bad, .bad, .bad, .bad, .bad, .bad, .bad, .bad, .bad, .bad, .bad, .bad, .bad, .bad, .bad, .int .i64 (xs.length : Int), .int .i64 z, .bad, .bad, .bad, .bad, .bad, .bad, .bad, .bad, .bad, .bad, .bad, .bad, .bad, .bad, .bad, .bad, .bad, .bad, .bad, .bad, .bad, .bad]) ?_ _ xs.length _ _ (by omega) ⟨_, 0, xs, rfl, by omega, rfl, lx, r6, d6, rfl⟩
  clear next fin hi hzl lz r5 d5 d6 r6 hlt
  rintro q fr τ C ⟨z, i, zs, rfl, hi, hzl, lz, r5, d5, rfl⟩ next fin
  conv => lhs; whnf
  by_cases hlt : i < xs.length
  · rw [show decide ((i : Int) < (xs.length : Int)) = true from decide_eq_true (by omega)]
    rcases r5 with ⟨rfl, _⟩ | ⟨id, rfl, r5, hF⟩
    · simp at hzl; omega
    conv => lhs; whnf
    refine bt.idx0 rfl hlt ?_
    conv => lhs; whnf
    refine bt.ldAt r5 (by omega) ?_
    conv => lhs; whnf
    refine bt.idx0 rfl hlt ?_
    conv => lhs; whnf
    refine bt.store r5 (by omega) (xor_byte (lz _ (List.getElem_mem _))) ?_
    conv => lhs; whnf
    refine next (q - 1) _ _ (by omega) ⟨_, i + 1, _, inc_i64 (by omega), by omega, by rw [List.length_set]; exact hzl, fun b hb => ?_, .inr ⟨id, rfl, get_set r5 _, hF⟩, d5.keep fun j hj => List.getElem?_set_ne fun e => hF (by subst e; exact hj), rfl⟩
    rcases List.mem_or_eq_of_mem_set hb with h | h
    · exact lz b h
    · subst h; exact Nat.xor_lt_two_pow (n := 8) (lz _ (List.getElem_mem _)) (by decide)
  rw [show decide ((i : Int) < (xs.length : Int)) = false from decide_eq_false (by omega)]
  conv => lhs; whnf
  refine fin _ _ _ nofun ?_
  conv => lhs; whnf
  refine read_own (name := [120]) (by omega) d5 g4 nofun (fun _ h => by rw [v4] at h; cases h) fun _ x hx a6 σ6 p6 r6 => ?_
  obtain rfl : x = ⟨[120], xs, 0, false⟩ := by rw [v4] at hx; exact (Option.some.inj hx).symm
  conv => lhs; whnf
  refine strK_rw r6.rw lx ?_
  conv => lhs; whnf
  rw [show (ints xs == ints xs) = true from beq_self_eq_true _]
  conv => lhs; whnf
theorem diskOwn_law (σ : H) (vs : List AV) (h : ArgsShp Try.prog σ 9 [22] vs) : ∃ n, acall Try.prog tab (drawRegion Try.prog) n 6 vs σ isTrue = true := by
  obtain ⟨a, vs, rfl, ha, h⟩ := args_cons h
  obtain rfl := args_nil h
  obtain ⟨s, bs, rfl, a1, a2, a3⟩ := arg_bytes Try.underlying22 Try.underlying5 rfl ha
  exact ⟨60, diskOwn_run (Nat.le_refl _) a3 a1⟩
end Go.Proofs.Ytahhajakgakdhaa
