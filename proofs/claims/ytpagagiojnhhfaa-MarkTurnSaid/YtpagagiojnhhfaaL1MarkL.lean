/- The laws of package mark. -/
import Derived.Test.YtpagagiojnhhfaaL1Mark
namespace Go.Proofs.Ytpagagiojnhhfaa
open Go Go.AM Go.AM.St

attribute [local irreducible] IntKind.wrap Int.fdiv Int.tdiv Int.tmod BitVec.ofInt appendK sliceK indexAddrK ldK storeK seenK makeSliceK
set_option maxRecDepth 100000
variable {D : Drawer}

theorem markAll_run {n : Nat} (hn : 400 ≤ n) {a b : SA} {as' bs name : List Nat} {m : Nat} {q : Int} (hm : m < 4294967296) (h2 : q ≤ 9223372036854775807) {σ : H} (ha : Rw σ 1 a as'.length (u8s as')) (hb : Rw σ 1 b bs.length (u8s bs))
    (la : ∀ b ∈ as', b < 256) (lb : ∀ b ∈ bs, b < 256) (ln : ∀ b ∈ name, b < 256) :
    acall Try.prog tab D n 6 [.sl a as'.length, .sl b bs.length, .int .u32 (m : Int), .str (ints name), .int .i64 q] σ isTrue = true := by
  obtain ⟨n, rfl, hn⟩ := up hn
  conv => lhs; whnf
  refine begun_spec ?_
  conv => lhs; whnf
  refine short_spec (by omega) (m := 300) rfl (by decide) ha _ fun o1 a1 σ1 p1 r1 => ?_
  conv => lhs; whnf
  refine short_spec (by omega) (m := 60) rfl (by decide) (hb.mono p1) _ fun o2 b1 σ2 p2 r2 => ?_
  have lx : ∀ b ∈ as'.take 300, b < 256 := fun b h => la b (List.mem_of_mem_take h)
  have ly : ∀ b ∈ bs.take 60, b < 256 := fun b h => lb b (List.mem_of_mem_take h)
  have sx : (as'.take 300).length ≤ 300 := by rw [List.length_take]; omega
  have sy : (bs.take 60).length ≤ 60 := by rw [List.length_take]; omega
  generalize as'.take 300 = xs at r1 lx sx ⊢
  generalize bs.take 60 = ys at r2 ly sy ⊢
  conv => lhs; whnf
  refine sliceK_str Try.underlying9 0 (min name.length 40) (.inl ⟨rfl, rfl⟩) (.inr ⟨_, _, rfl, ?_⟩) (Nat.zero_le _) (Nat.min_le_left _ _) (name.take 40) ?_ ?_
  · show (if _ then _ else _) = _
    rw [show (ints name).length = name.length by simp [ints]]
    split <;> omega
  · rw [List.drop_zero, Nat.min_comm, ← List.take_take, List.take_of_length_le (Nat.le_refl _)]
  have lz : ∀ b ∈ name.take 40, b < 256 := fun b h => ln b (List.mem_of_mem_take h)
  have sz : (name.take 40).length ≤ 40 := by rw [List.length_take]; omega
  generalize name.take 40 = zs at lz sz ⊢
  have q1 := r1.rw.mono p2
  have q2 := r2.rw
  conv => lhs; whnf
  refine of_spec (by omega) rfl q1 lx (by omega) _ ?_
  conv => lhs; whnf
  refine rof_spec (by omega) rfl q1 lx (by omega) _ ?_
  conv => lhs; whnf
  refine bif_pos (by simp) ?_
  conv => lhs; whnf
  refine add_spec (by omega) rfl hm q2 ly (by omega) _ ?_
  conv => lhs; whnf
  refine radd_spec (by omega) rfl hm q2 ly (by omega) _ ?_
  conv => lhs; whnf
  refine bif_pos (by simp) ?_
  conv => lhs; whnf
  refine of_spec (by omega) rfl q1 lx (by omega) _ ?_
  conv => lhs; whnf
  refine add_spec (by omega) rfl (markN_lt _ _) q2 ly (by omega) _ ?_
  conv => lhs; whnf
  refine bt.app (List.prefix_refl _) (xs := []) (Own.nil _ _ _) q1 _ rfl (by rw [List.nil_append]; omega) fun o3 a3 σ3 p3 _ _ _ r3 => ?_
  conv => lhs; whnf
  refine bt.app p3 r3 (q2.mono p3) (xs ++ ys) rfl (by rw [List.length_append]; omega) fun o4 a4 σ4 p4 _ _ _ r4 => ?_
  conv => lhs; whnf
  refine of_spec (bs := xs ++ ys) (by rw [List.length_append]; omega) rfl r4.rw (fun b h => (List.mem_append.1 h).elim (lx b) (ly b)) (by rw [List.length_append]; omega) _ ?_
  conv => lhs; whnf
  refine bif_pos (by rw [markN_app]; simp) ?_
  conv => lhs; whnf
  refine shards_spec (by omega) h2 lz (by omega) _ fun σ5 p5 => ?_
  conv => lhs; whnf
  refine rshards_spec (by omega) lz (by omega) _ fun σ6 p6 => ?_
  conv => lhs; whnf
  refine bif_pos (by simp) ?_
  conv => lhs; whnf

theorem markTurn_run {n : Nat} (hn : 400 ≤ n) {a : SA} {bs : List Nat} {i : Int} {x : Nat} (hx : x < 256) (h2 : i ≤ 9223372036854775807) {σ : H} (ha : Rw σ 1 a bs.length (u8s bs)) (lb : ∀ b ∈ bs, b < 256) :
    acall Try.prog tab D n 7 [.sl a bs.length, .int .i64 i, .int .u8 (x : Int)] σ isTrue = true := by
  obtain ⟨n, rfl, hn⟩ := up hn
  conv => lhs; whnf
  refine begun_spec ?_
  conv => lhs; whnf
  refine short_spec (by omega) (m := 300) rfl (by decide) ha _ fun o1 a1 σ1 p1 r1 => ?_
  have lx : ∀ b ∈ bs.take 300, b < 256 := fun b h => lb b (List.mem_of_mem_take h)
  have sx : (bs.take 300).length ≤ 300 := by rw [List.length_take]; omega
  generalize bs.take 300 = xs at r1 lx sx ⊢
  conv => lhs; whnf
  refine bif_case (fun h => ?_) (fun h => ?_)
  · conv => lhs; whnf
  have hpos : 0 < xs.length := by
    have := beq_eq_false_iff_ne.1 h
    omega
  conv => lhs; whnf
  refine bif_case (fun h => ?_) (fun h => ?_)
  · conv => lhs; whnf
  have hi0 : 0 ≤ i := by
    have : ¬ i < 0 := by simpa using h
    omega
  obtain ⟨k, rfl⟩ : ∃ k : Nat, i = (k : Int) := ⟨i.toNat, by omega⟩
  have hk : k % xs.length < xs.length := Nat.mod_lt _ hpos
  conv => lhs; whnf
  refine bt.clone r1.rw hpos (by omega) ?_
  have g1 : (σ1 ++ [AO.cells (u8s xs) 1 .own])[σ1.length]? = some (AO.cells (u8s xs) 1 .own) := get_new _ _
  have hb0 : xs[k % xs.length] < 256 := lx _ (List.getElem_mem _)
  have hxr : xs[k % xs.length] ^^^ x < 256 := Nat.xor_lt_two_pow (n := 8) hb0 hx
  conv => lhs; whnf
  refine bif_neg (by rw [beq_eq_false_iff_ne]; omega) ?_
  conv => lhs; whnf
  refine bt.idx0 iMod hk ?_
  conv => lhs; whnf
  refine bt.ldAt g1 hk ?_
  conv => lhs; whnf
  refine bt.idx0 iMod hk ?_
  conv => lhs; whnf
  refine bt.store g1 hk (xor_eq hb0 hx) ?_
  rw [List.set_append_right _ _ (Nat.le_refl _), Nat.sub_self]
  have r2 : Rw (σ1 ++ [AO.cells (u8s (xs.set (k % xs.length) (xs[k % xs.length] ^^^ x))) 1 .own]) 1 (.at σ1.length 0 1) (xs.set (k % xs.length) (xs[k % xs.length] ^^^ x)).length (u8s (xs.set (k % xs.length) (xs[k % xs.length] ^^^ x))) :=
    Rw.new _ _ (by rw [u8s_len, Nat.mul_one])
  have hm := mark_turn hk lx hxr
  have hx0 : xs[k % xs.length] = xs[k % xs.length] ^^^ x ↔ x = 0 := by
    constructor
    · intro e
      have := congrArg (xs[k % xs.length] ^^^ ·) e
      simp only [Nat.xor_self, ← Nat.xor_assoc, Nat.zero_xor] at this
      exact this.symm
    · intro e; rw [e, Nat.xor_zero]
  rw [hx0] at hm
  have hs : ∀ b ∈ xs.set (k % xs.length) (xs[k % xs.length] ^^^ x), b < 256 := fun b h => by
    rcases List.mem_or_eq_of_mem_set h with h | h
    · exact lx b h
    · rw [h]; exact hxr
  have hl : (xs.set (k % xs.length) (xs[k % xs.length] ^^^ x)).length = xs.length := List.length_set
  show (_ : Bool) = true
  generalize xs.set (k % xs.length) (xs[k % xs.length] ^^^ x) = ys at r2 hm hs hl
  conv => lhs; whnf
  refine of_spec (by omega) rfl ((r1.rw).mono (List.prefix_append _ _)) lx (by omega) _ ?_
  conv => lhs; whnf
  refine of_spec (bs := ys) (by omega) hl.symm r2 hs (by omega) _ ?_
  conv => lhs; whnf
  by_cases h0 : x = 0
  · have e := hm.2 h0
    refine bif_pos (by simp [e]) ?_
    conv => lhs; whnf
    refine bif_pos (by simp [h0]) ?_
    conv => lhs; whnf
  · have e : ¬ markN 1 xs = markN 1 ys := fun h => h0 (hm.1 h)
    refine bif_neg (by simp; omega) ?_
    conv => lhs; whnf
    refine bif_neg (by simp; omega) ?_
    conv => lhs; whnf

theorem markAll_law (σ : H) (vs : List AV) (h : ArgsShp Try.prog σ 9 [25, 25, 36, 9, 3] vs) : ∃ n, acall Try.prog tab (drawRegion Try.prog) n 6 vs σ isTrue = true := by
  obtain ⟨a, vs, rfl, ha, h⟩ := args_cons h
  obtain ⟨b, vs, rfl, hb, h⟩ := args_cons h
  obtain ⟨c, vs, rfl, hc, h⟩ := args_cons h
  obtain ⟨d, vs, rfl, hd, h⟩ := args_cons h
  obtain ⟨e, vs, rfl, he, h⟩ := args_cons h
  obtain rfl := args_nil h
  obtain ⟨s, bs, rfl, a1, a2, a3⟩ := arg_bytes Try.underlying25 Try.underlying5 rfl ha
  obtain ⟨t, cs, rfl, b1, b2, b3⟩ := arg_bytes Try.underlying25 Try.underlying5 rfl hb
  obtain ⟨u, rfl, hu⟩ := arg_nat rfl Try.underlying36 hc
  obtain ⟨ns, rfl, d1, d2⟩ := arg_str Try.underlying9 hd
  obtain ⟨q, rfl, e1, e2⟩ := arg_int Try.underlying3 he
  exact ⟨400, markAll_run (Nat.le_refl _) hu e2 a1 b1 a3 b3 d1⟩
theorem markTurn_law (σ : H) (vs : List AV) (h : ArgsShp Try.prog σ 9 [25, 3, 5] vs) : ∃ n, acall Try.prog tab (drawRegion Try.prog) n 7 vs σ isTrue = true := by
  obtain ⟨a, vs, rfl, ha, h⟩ := args_cons h
  obtain ⟨b, vs, rfl, hb, h⟩ := args_cons h
  obtain ⟨c, vs, rfl, hc, h⟩ := args_cons h
  obtain rfl := args_nil h
  obtain ⟨s, bs, rfl, a1, a2, a3⟩ := arg_bytes Try.underlying25 Try.underlying5 rfl ha
  obtain ⟨q, rfl, e1, e2⟩ := arg_int Try.underlying3 hb
  obtain ⟨u, rfl, hu⟩ := arg_nat rfl Try.underlying5 hc
  exact ⟨400, markTurn_run (Nat.le_refl _) hu e2 a1 a3⟩
end Go.Proofs.Ytpagagiojnhhfaa
