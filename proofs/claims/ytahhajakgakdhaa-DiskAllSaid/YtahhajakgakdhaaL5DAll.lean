/- DiskAll. -/
import Derived.Test.YtahhajakgakdhaaL5DB
namespace Go.Proofs.Ytahhajakgakdhaa
set_option maxRecDepth 100000
open Go Go.AM Go.AM.St
def opcs : List (AM.SA × OpP) → List AV
  | [] => []
  | e :: l => opc e.2 e.1 ++ opcs l
theorem opcs_len : ∀ l : List (AM.SA × OpP), (opcs l).length = l.length * 5
  | [] => rfl
  | e :: l => by rw [opcs, List.length_append, opcs_len l, List.length_cons]; simp; omega
theorem opcs_at : ∀ {l : List (AM.SA × OpP)} {i : Nat} (h : i < l.length), ((opcs l).drop (i * 5)).take 5 = opc l[i].2 l[i].1
  | e :: l, 0, _ => rfl
  | e :: l, i + 1, h => by
    have := opcs_at (l := l) (i := i) (by simpa using h)
    rw [opcs, List.drop_append, List.drop_eq_nil_of_le (by simp; omega), List.nil_append]
    rw [show (i + 1) * 5 - (opc e.2 e.1).length = i * 5 by simp; omega]
    exact this
def IsOs (σ : H) (l : List (AM.SA × OpP)) : Prop := ∀ e ∈ l, Rw σ 1 e.1 e.2.b.length (u8s e.2.b) ∧ OkOp e.2
theorem shp_i {σ : H} {m : Nat} {t : TypeId} {k : IntKind} {cs : List AV} (ht : Try.prog.underlying t = some (.int k)) (h : Shp Try.prog σ (m + 1) t cs) : ∃ i, cs = [.int k i] ∧ k.min ≤ i ∧ i ≤ k.max := by
  unfold Shp at h
  rw [ht] at h
  obtain ⟨i, h1, h2⟩ := h
  simp only [Lit.wf, Bool.and_eq_true, decide_eq_true_eq] at h2
  exact ⟨i, h1, h2.1, h2.2⟩
theorem op_shp {σ : H} {m : Nat} {cs : List AV} (hl : cs.length = 5) (h : Shp Try.prog σ (m + 3) 67 cs) : ∃ a o, cs = opc o a ∧ Rw σ 1 a o.b.length (u8s o.b) ∧ OkOp o := by
  match cs, hl with
  | [x, y, z, u, v], _ =>
    unfold Shp at h
    rw [Try.underlying67] at h
    obtain ⟨k, e1, k1, k2⟩ := shp_i (m := m + 1) (cs := [x]) Try.underlying3 (h _ (.head _))
    cases e1
    obtain ⟨k', e2, k3, k4⟩ := shp_i (m := m + 1) (cs := [y]) Try.underlying3 (h _ (.tail _ (.head _)))
    cases e2
    have h3 : Shp Try.prog σ (m + 1 + 1) 9 [z] := h _ (.tail _ (.tail _ (.head _)))
    unfold Shp at h3
    rw [Try.underlying9] at h3
    obtain ⟨s, e3, _⟩ := h3
    obtain ⟨fs, e3', _⟩ := ints_bytesL s
    rw [e3'] at e3
    cases e3
    have h4 : Shp Try.prog σ (m + 1 + 1) 9 [u] := h _ (.tail _ (.tail _ (.tail _ (.head _))))
    unfold Shp at h4
    rw [Try.underlying9] at h4
    obtain ⟨t, e4, _⟩ := h4
    obtain ⟨ts, e4', _⟩ := ints_bytesL t
    rw [e4'] at e4
    cases e4
    have h5 : Shp Try.prog σ (m + 2) 22 [v] := h _ (.tail _ (.tail _ (.tail _ (.tail _ (.head _)))))
    obtain ⟨a, bs, rfl, b1, b2, b3⟩ := arg_bytes (n := m) (a := v) Try.underlying22 Try.underlying5 rfl (by unfold ArgShp; rw [Try.underlying22]; exact h5)
    exact ⟨a, ⟨k, k', fs, ts, bs⟩, rfl, b1, ⟨k3, k4, b3⟩⟩
theorem shp_ops {σ : H} {m : Nat} : ∀ {k : Nat} {xs : List AV}, xs.length = k * 5 → (∀ i, i < k → Shp Try.prog σ (m + 3) 67 ((xs.drop (i * 5)).take 5)) → ∃ l : List (AM.SA × OpP), xs = opcs l ∧ l.length = k ∧ IsOs σ l := by
  intro k
  induction k with
  | zero => intro xs hl _; exact ⟨[], by simpa [opcs] using hl, rfl, fun e he => by cases he⟩
  | succ k ih =>
    intro xs hl h
    have h0 := h 0 (by omega)
    rw [Nat.zero_mul, List.drop_zero] at h0
    obtain ⟨a, o, e1, i1⟩ := op_shp (by rw [List.length_take]; omega) h0
    obtain ⟨l, e2, hlen, i2⟩ := ih (xs := xs.drop 5) (by rw [List.length_drop]; omega) (fun i hi => by
      have := h (i + 1) (by omega)
      rw [List.drop_drop]
      rwa [show 5 + i * 5 = (i + 1) * 5 by omega])
    refine ⟨(a, o) :: l, ?_, by simp [hlen], fun e he => ?_⟩
    · rw [opcs, ← e2]
      conv => lhs; rw [← List.take_append_drop 5 xs, e1]
    · rcases List.mem_cons.1 he with rfl | he
      · exact i1
      · exact i2 e he
theorem arg_ops {σ : H} {a : AV} (ha : ArgShp Try.prog σ 9 63 a) : ∃ (s : AM.SA) (l : List (AM.SA × OpP)), a = .sl s l.length ∧ Rw σ 5 s l.length (opcs l) ∧ IsOs σ l ∧ l.length ≤ maxLen := by
  obtain ⟨s, m, xs, rfl, h2, h3, h4⟩ := arg_slice Try.underlying63 ha
  have hl := h2.len
  obtain ⟨l, rfl, hk, i1⟩ := shp_ops (m := 5) hl h4
  subst hk
  exact ⟨s, l, rfl, h2, i1, h3⟩
/-- The operations' row, off the disks. -/
structure OL (σ : H) (F : Nat → Prop) (a : AM.SA) (l : List (AM.SA × OpP)) : Prop where
  rw : Rw σ 5 a l.length (opcs l)
  off : ∀ id off z, a = .at id off z → ¬ F id
  is : IsOs σ l
theorem OL.step {σ σ' : H} {F F' : Nat → Prop} {a : AM.SA} {l : List (AM.SA × OpP)} (h : OL σ F a l) (s : Stp F F' σ σ') : OL σ' F' a l := by
  refine ⟨?_, fun id off z e hF => ?_, fun e he => ⟨(h.is e he).1.ext s.ext, (h.is e he).2⟩⟩
  · rcases h.rw with g | g | ⟨id, off, xs, md, h1, h2, h3, h4⟩
    · exact .inl g
    · exact .inr (.inl g)
    · exact .inr (.inr ⟨id, off, xs, md, h1, (s.keep id (get_lt h2) (h.off _ _ _ h1)).trans h2, h3, h4⟩)
  · rcases s.fp id hF with g | g
    · exact h.off _ _ _ e g
    · rcases h.rw with ⟨g', _⟩ | ⟨g', _⟩ | ⟨id', off', xs, md, h1, h2, _⟩
      · rw [e] at g'; cases g'
      · rw [e] at g'; cases g'
      · rw [e] at h1; cases h1
        have := get_lt h2; omega
theorem OL.begin {σ σ' : H} {F : Nat → Prop} {a : AM.SA} {l : List (AM.SA × OpP)} (hr : Rw σ 5 a l.length (opcs l)) (his : IsOs σ l) (p : σ <+: σ') (hF : ∀ id, F id → σ.length ≤ id) : OL σ' F a l := by
  refine ⟨hr.mono p, fun id off z e hf => ?_, fun e he => ⟨(his e he).1.mono p, (his e he).2⟩⟩
  rcases hr with ⟨g', _⟩ | ⟨g', _⟩ | ⟨id', off', xs, md, h1, h2, _⟩
  · rw [e] at g'; cases g'
  · rw [e] at g'; cases g'
  · rw [e] at h1; cases h1
    have := get_lt h2
    have := hF _ hf
    omega
theorem alike0 : Alike ⟨[], -1, false, 0⟩ ⟨[], -1, false, 0⟩ := ⟨List.Pairwise.nil, List.Pairwise.nil, List.Perm.refl _, rfl, rfl, rfl⟩
attribute [local irreducible] IntKind.wrap Int.fdiv Int.tdiv Int.tmod BitVec.ofInt appendK sliceK indexAddrK ldK storeK seenK makeSliceK lookupK updateK deleteK mapK rangeK nextK keysF buildSliceK
variable {D : Drawer}
theorem storeO {ρ : H} {id : Nat} {a : AM.SA} {o : OpP} {x y z u v : AV} {K : H → Bool} (hg : ρ[id]? = some (AO.cells [x, y, z, u, v] 5 .own))
    (hK : K (ρ.set id (.cells (opc o a) 5 .own)) = true) : storeK Try.prog 67 (.ptr (some ⟨id, 0, 0, 5⟩)) (.agg (opc o a)) ρ K = true :=
  storeS rfl hg rfl rfl (Nat.le_refl 5) rfl hK
theorem idxO {σ : H} {s : AM.SA} {l : List (AM.SA × OpP)} (hs : Rw σ 5 s l.length (opcs l)) {k : IntKind} {y : Int} {i : Nat} {K : AV → Bool} (hy : y = (i : Int)) (hi : i < l.length) (hK : ∀ p, Elem σ 5 p (opc l[i].2 l[i].1) → K (.ptr (some p)) = true) :
    indexAddrK Try.prog 63 (.sl s l.length) (.int k y) K = true := indexAddrK_rw Try.underlying63 (fun _ => rfl) hs hy hi (opcs_at hi) hK
theorem ldO {σ : H} {p : PA} {o : OpP} {a : AM.SA} {K : AV → Bool} (hp : Elem σ 5 p (opc o a)) (hK : K (.agg (opc o a)) = true) : ldK Try.prog 67 σ p K = true := by
  refine ldK_struct Try.underlying67 rfl rfl hp ?_
  conv => lhs; whnf
  exact hK
theorem elem0 {σ : H} {id : Nat} {es : List AV} {md : Md} (hr : σ[id]? = some (AO.cells es 5 md)) (hl : es.length = 5) : Elem σ 5 ⟨id, 0, 0, 5⟩ es :=
  ⟨rfl, rfl, es, md, hr, by show 0 + 5 ≤ _; omega, by rw [List.drop_zero, List.take_of_length_le (by omega)]⟩
theorem min210 (file : List Nat) {K : AV → Bool} {x : Int} (hx : x = ((min file.length 210 : Nat) : Int)) (hK : K (.str (ints (file.take 210))) = true) : sliceK Try.prog 9 (.str (ints file)) none (some (.int .i64 x)) none K = true := by
  refine sliceK_str Try.underlying9 0 (min file.length 210) (.inl ⟨rfl, rfl⟩) (.inr ⟨_, _, rfl, hx⟩) (Nat.zero_le _) (Nat.min_le_left _ _) (file.take 210) ?_ hK
  rw [List.drop_zero, Nat.min_comm, ← List.take_take, List.take_of_length_le (Nat.le_refl _)]
theorem minI (file : List Nat) : (if (210 : Int) < ((ints file).length : Int) then (210 : Int) else ((ints file).length : Int)) = ((min file.length 210 : Nat) : Int) := by
  rw [show (ints file).length = file.length by simp [ints]]
  split <;> omega
theorem set_new (σ : H) (x y : AO) : (σ ++ [x]).set σ.length y = σ ++ [y] := by simp
theorem st_f2 {ρ : H} {id : Nat} {a : AM.SA} {o : OpP} {f : List Nat} {K : H → Bool} (hr : ρ[id]? = some (AO.cells (opc o a) 5 .own)) (hK : K (ρ.set id (.cells (opc ⟨o.kind, o.n, f, o.to', o.b⟩ a) 5 .own)) = true) : storeK Try.prog 9 (.ptr (some ⟨id, 0, 2, 5⟩)) (.str (ints f)) ρ K = true :=
  storeK_of rfl rfl (by decide) hr rfl (by show 0 + 2 < 5; decide) hK
theorem st_f3 {ρ : H} {id : Nat} {a : AM.SA} {o : OpP} {f : List Nat} {K : H → Bool} (hr : ρ[id]? = some (AO.cells (opc o a) 5 .own)) (hK : K (ρ.set id (.cells (opc ⟨o.kind, o.n, o.file, f, o.b⟩ a) 5 .own)) = true) : storeK Try.prog 9 (.ptr (some ⟨id, 0, 3, 5⟩)) (.str (ints f)) ρ K = true :=
  storeK_of rfl rfl (by decide) hr rfl (by show 0 + 3 < 5; decide) hK
theorem diskAll_run {n : Nat} {s : AM.SA} {l : List (AM.SA × OpP)} (hn : l.length + 10000 ≤ n) (hD : ByPlan Try.prog D) (hT : ByTree Try.prog D) (hl : l.length ≤ 9223372036854775807)
    {σ : H} (hs : Rw σ 5 s l.length (opcs l)) (hi : IsOs σ l) : acall Try.prog tab D n 11 [.sl s l.length] σ isTrue = true := by
  obtain ⟨n, rfl, hn⟩ := up hn
  conv => lhs; whnf
  refine begun_spec ?_
  conv => lhs; whnf
  refine dv_new (by omega) fun σ1 B m F1 p1 d1 f1 => ?_
  conv => lhs; whnf
  refine ref_new (by omega) fun σ2 Q G2 p2 r2 g2 => ?_
  have fd2 : FD F1 G2 := fun id hf hg => by have := d1.lt hf; have := g2 id hg; omega
  have ol2 : OL σ2 (UN F1 G2) s l := OL.begin hs hi (p1.trans p2) fun id h => h.elim (f1 id) fun h => Nat.le_trans (prefix_len p1) (g2 id h)
  have hO : OkS ⟨[], -1, false, 0⟩ 0 0 := ⟨by show (-1 : Int) ≤ -1; decide, by show (-1 : Int) ≤ _; decide, Nat.le_refl _, Nat.le_refl _, fun x hx => by cases hx⟩
  conv => lhs; whnf
  refine loop_rule (m := 113) (fun q fr τ => ∃ (z : Int) (i : Nat) (S R : DS) (F G : Nat → Prop), z = (i : Int) ∧ i + q = l.length ∧ i ≤ 60 ∧ DV τ B m S F ∧ RV τ Q R G ∧ FD F G ∧ Alike R S ∧ OkS S i (40 * i) ∧ OL τ (UN F G) s l ∧
      fr = [.sl s l.length, .bad, .bad, .bad, .ptr (some ⟨B, 0, 0, 4⟩), .ptr (some ⟨Q, 0, 0, 4⟩), .int .i64 z, .bad, .bad, .bad, .bad, .bad, .bad, .bad, .bad, .bad, .bad, .bad, .bad, .bad, .bad, .bad, .bad, .bad, .bad, .bad, .bad, .bad, .bad, .bad, .bad, .bad, .bad, .bad, .bad, .bad, .bad, .bad, .bad, .bad, .bad, .bad, .bad, .bad, .bad, .bad, .bad, .bad, .bad, .bad, .bad, .bad, .bad, .bad, .bad, .bad, .bad, .bad, .bad, .bad, .bad]) ?_ _ l.length _ _ (by omega)
      ⟨_, 0, _, _, F1, G2, rfl, by omega, by omega, d1.mono p2, r2, fd2, alike0, hO, ol2, rfl⟩
  rintro q fr τ C ⟨z, i, S, R, F, G, rfl, hq, h60, d, r, fd, al, ok, ol, rfl⟩ next fin
  conv => lhs; whnf
  by_cases hlt : i < l.length ∧ i < 60
  · rw [show decide ((i : Int) < (l.length : Int)) = true from decide_eq_true (by omega)]
    conv => lhs; whnf
    rw [show decide ((i : Int) < 60) = true from decide_eq_true (by omega)]
    conv => lhs; whnf
    refine idxO ol.rw rfl hlt.1 fun p hp => ?_
    conv => lhs; whnf
    refine ldO hp ?_
    obtain ⟨b1, o1⟩ := ol.is _ (List.getElem_mem hlt.1)
    generalize l[i].2 = op at b1 o1 ⊢
    generalize l[i].1 = a at b1 ⊢
    conv => lhs; whnf
    refine storeO (get_new _ _) ?_
    rw [set_new]
    have T1 := get_new τ (AO.cells (opc op a) 5 .own)
    conv => lhs; whnf
    refine goK hD plan11x9 ord11x9 fun KK hKK => ?_
    conv => lhs; whnf
    refine ldF Try.underlying9 rfl rfl T1 rfl ?_
    conv => lhs; whnf
    refine ldF Try.underlying9 rfl rfl T1 rfl ?_
    conv => lhs; whnf
    refine min210 op.file (minI _) ?_
    conv => lhs; whnf
    refine ldF Try.underlying9 rfl rfl T1 rfl ?_
    conv => lhs; whnf
    refine ldF Try.underlying9 rfl rfl T1 rfl ?_
    conv => lhs; whnf
    refine min210 op.to' (minI _) ?_
    conv => lhs; whnf
    refine st_f2 T1 ?_
    rw [set_new]
    have T2 := get_new τ (AO.cells (opc ⟨op.kind, op.n, op.file.take 210, op.to', op.b⟩ a) 5 .own)
    conv => lhs; whnf
    refine st_f3 T2 ?_
    rw [set_new]
    have T3 := get_new τ (AO.cells (opc ⟨op.kind, op.n, op.file.take 210, op.to'.take 210, op.b⟩ a) 5 .own)
    have P3 := List.prefix_append τ [AO.cells (opc ⟨op.kind, op.n, op.file.take 210, op.to'.take 210, op.b⟩ a) 5 .own]
    have o3 : OkOp ⟨op.kind, op.n, op.file.take 210, op.to'.take 210, op.b⟩ := ⟨o1.k1, o1.k2, o1.b⟩
    have b3 := b1.mono P3
    conv => lhs; whnf
    subst hKK
    conv => lhs; whnf
    refine ldO (elem0 T3 rfl) ?_
    conv => lhs; whnf
    refine do_spec (op := ⟨op.kind, op.n, op.file.take 210, op.to'.take 210, op.b⟩) hD hT o3 b3 (d.mono P3) (r.step (Stp.pre (F := fun _ => False) P3) fun _ _ h => h) fd al ok (by omega) (by omega) (by omega) fun σ4 S4 R4 F4 G4 d4 r4 fd4 al4 ok4 s4 => ?_
    conv => lhs; whnf
    refine same_spec hD d4 r4 al4 ok4 (by omega) (by omega) (by omega) fun σ5 p5 => ?_
    conv => lhs; whnf
    refine next (q - 1) _ _ (by omega) ⟨_, i + 1, S4, R4, F4, G4, inc_i64 (by omega), by omega, by omega, d4.mono p5, r4.step (Stp.pre (F := fun _ => False) p5) fun _ _ h => h, fd4, al4, ok4, (ol.step ((Stp.pre P3).trans s4)).step (Stp.pre p5), rfl⟩
  by_cases hil : i < l.length
  · rw [show decide ((i : Int) < (l.length : Int)) = true from decide_eq_true (by omega)]
    conv => lhs; whnf
    rw [show decide ((i : Int) < 60) = false from decide_eq_false (by omega)]
    conv => lhs; whnf
    refine fin _ _ _ nofun ?_
    conv => lhs; whnf
    refine dv_crash hD d ok (by omega) (by omega) fun σ6 F6 d6 s6 => ?_
    have r6 := r.step s6 fd.symm
    have fd6 := fd.step s6 fun id hg => r.lt hg
    conv => lhs; whnf
    refine ref_crash r6 (OkS.alike al ok) (by omega) (by omega) (by omega) fun σ7 G7 r7 s7 => ?_
    conv => lhs; whnf
    refine same_spec hD (d6.step s7 fd6) r7 (dcrash_alike al) ok.crash (by omega) (by omega) (by omega) fun σ8 p8 => ?_
    conv => lhs; whnf
  · rw [show decide ((i : Int) < (l.length : Int)) = false from decide_eq_false (by omega)]
    conv => lhs; whnf
    refine fin _ _ _ nofun ?_
    conv => lhs; whnf
    refine dv_crash hD d ok (by omega) (by omega) fun σ6 F6 d6 s6 => ?_
    have r6 := r.step s6 fd.symm
    have fd6 := fd.step s6 fun id hg => r.lt hg
    conv => lhs; whnf
    refine ref_crash r6 (OkS.alike al ok) (by omega) (by omega) (by omega) fun σ7 G7 r7 s7 => ?_
    conv => lhs; whnf
    refine same_spec hD (d6.step s7 fd6) r7 (dcrash_alike al) ok.crash (by omega) (by omega) (by omega) fun σ8 p8 => ?_
    conv => lhs; whnf
theorem diskAll_law (σ : H) (vs : List AV) (h : ArgsShp Try.prog σ 9 [63] vs) : ∃ n, acall Try.prog tab (drawRegion Try.prog) n 11 vs σ isTrue = true := by
  obtain ⟨a, vs, rfl, ha, h⟩ := args_cons h
  obtain rfl := args_nil h
  obtain ⟨s, l, rfl, a1, a2, a3⟩ := arg_ops ha
  exact ⟨l.length + 10000, diskAll_run (Nat.le_refl _) (byPlan _) (byTree _) a3 a1 a2⟩
end Go.Proofs.Ytahhajakgakdhaa
