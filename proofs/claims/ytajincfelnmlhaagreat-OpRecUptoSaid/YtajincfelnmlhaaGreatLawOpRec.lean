/- The law OpRec returns true, whatever the arguments, where what it reads is of bulk at most 1048576: what the abstract machine says the model does; its run is proved for whatever arguments. The condition: that bulk. -/
import Derived.Test.YtajincfelnmlhaaGreatRows
import Derived.Test.YtajincfelnmlhaaGreatL12OpRec
import Derived.Test.YtajincfelnmlhaaGreatL1Begun
import Derived.WalkKit
import Derived.ProofKit
import Derived.OpenShut
import Derived.ShutString
import Derived.ChangeOld
import Derived.Below
import Derived.JoinedCond
import Derived.ChangeArms
namespace Go.Proofs.YtajincfelnmlhaaGreat.opRec
open Go.ChangeShapes Go.WideShapes Go.ChangeAt Go.RowKit
set_option linter.unusedVariables false
theorem own : ownKnob Tryz.prog.godebug = none := by kernel_rfl
theorem laidOut : laidOutB Tryz.prog = true := by kernel_rfl
theorem plain : (([26, 24, 3, 43] : List TypeId).all fun t => Go.AM.plainT Tryz.prog 9 t) = true := by kernel_rfl
theorem readable : (([26, 24, 3, 43] : List TypeId).all fun t => Tryz.prog.readableRec t && decide (t < Tryz.prog.types.size)) = true := by kernel_rfl
theorem one_le {H : Type} (d : DataW H) : 1 ≤ Rows.uptoBulk d := by
  cases d with
  | lit l => cases l <;> simp [Rows.uptoBulk]
  | nil => simp [Rows.uptoBulk]
  | ptr d => simp [Rows.uptoBulk]
  | slice elems spare => simp [Rows.uptoBulk]
  | agg parts => simp [Rows.uptoBulk]
  | iface t d => simp [Rows.uptoBulk]
  | map entries => simp [Rows.uptoBulk]
  | held h => simp [Rows.uptoBulk]
theorem part_le {H : Type} {d : DataW H} {l : List (DataW H)} (h : d ∈ l) : Rows.uptoBulk d ≤ Rows.uptoBulkAll l := by
  induction l with
  | nil => cases h
  | cons x r ih =>
    simp only [Rows.uptoBulkAll]
    cases List.mem_cons.1 h with
    | inl e => subst e; omega
    | inr e => have := ih e; omega
theorem length_le {H : Type} (l : List (DataW H)) : l.length ≤ Rows.uptoBulkAll l := by
  induction l with
  | nil => simp [Rows.uptoBulkAll]
  | cons x r ih => have := one_le x; simp only [Rows.uptoBulkAll, List.length_cons]; omega
theorem slice_len {H : Type} {enc : TypeId × Value → H} {W : World} {fuel : Nat} {t e : TypeId} {c : Value} {x : DataW H × List MemPlace} (ht : Tryz.prog.underlying t = some (.slice e)) (h : DataW.trod enc Tryz.prog W 0 (fun _ => true) true fuel t [c] = some x)
    {ρ : Go.AM.Rho} {a : Go.AM.SA} {n : Nat} (hv : Go.AM.VR ρ (.sl a n) c) : n ≤ Rows.uptoBulk x.1 := by
  have hn : ∃ b cap, c = .slice b n cap := by
    cases hv <;> exact ⟨_, _, rfl⟩
  obtain ⟨b, cap, rfl⟩ := hn
  rcases DataW.trod_slice ht h with ⟨h1, _⟩ | ⟨a', len, cap', elems, rest, n', _, h1, rfl, _, _, _, hl, _⟩
  · have := List.singleton_inj.1 h1
    injection this with _ h2 _
    rw [h2]
    exact Nat.zero_le _
  · have := List.singleton_inj.1 h1
    injection this with _ h2 _
    rw [h2]
    show len ≤ Rows.uptoBulk (.slice (elems.map (·.1)) (rest.map (·.1)))
    have h3 := length_le (elems.map (·.1))
    rw [List.length_map, hl] at h3
    simp only [Rows.uptoBulk]
    omega
set_option maxRecDepth 100000 in
theorem rec_len {H : Type} {enc : TypeId × Value → H} {W : World} {v : Value} {d : DataW H} {p : List MemPlace} (h : DataW.Trod enc Tryz.prog W 0 (fun _ => true) true 43 v d p)
    {ρ : Go.AM.Rho} {k : Int} {a b : Go.AM.SA} {x y : Nat} (hv : Go.AM.VR ρ (.agg [.int .i64 k, .sl a x, .sl b y]) v) : x ≤ Rows.uptoBulk d ∧ y ≤ Rows.uptoBulk d := by
  obtain ⟨fuel, h⟩ := h
  have hc := hv.cells
  obtain ⟨c0, cs1, e1, _, v1⟩ := Go.AM.VRs.inv_cons (show Go.AM.VRs ρ (.int .i64 k :: [.sl a x, .sl b y]) v.cells.toList from hc)
  obtain ⟨c1, cs2, rfl, w1, v2⟩ := Go.AM.VRs.inv_cons v1
  obtain ⟨c2, cs3, rfl, w2, v3⟩ := Go.AM.VRs.inv_cons v2
  obtain rfl := Go.AM.VRs.inv_nil v3
  rw [e1] at h
  obtain ⟨xs, n, _, hx, _, hlen, hf⟩ := DataW.trod_struct Tryz.underlying43 h
  have hd : d = .agg (xs.map (·.1)) := congrArg Prod.fst hx
  obtain ⟨y0, y1, y2, rfl⟩ : ∃ y0 y1 y2, xs = [y0, y1, y2] := by
    match xs, hlen with
    | [a, b, c], _ => exact ⟨a, b, c, rfl⟩
  have f1 : DataW.trod enc Tryz.prog W 0 (fun _ => true) true n 40 [c1] = some y1 := hf 1 _ rfl
  have f2 : DataW.trod enc Tryz.prog W 0 (fun _ => true) true n 41 [c2] = some y2 := hf 2 _ rfl
  have l1 := slice_len Tryz.underlying40 f1 w1
  have l2 := slice_len Tryz.underlying41 f2 w2
  have p1 := part_le (d := y1.1) (l := [y0, y1, y2].map (·.1)) (by simp)
  have p2 := part_le (d := y2.1) (l := [y0, y1, y2].map (·.1)) (by simp)
  rw [hd]
  have e2 : Rows.uptoBulk (.agg ([y0, y1, y2].map (·.1))) = Rows.uptoBulkAll ([y0, y1, y2].map (·.1)) + 1 := by simp only [Rows.uptoBulk]
  omega
set_option maxRecDepth 100000 in
theorem lifted (os : Os) (started : os.Started) (H : Type) (enc : TypeId × Value → H) (F : Stop.Interp) :
    ReturnsInHanded {} Tryz.checked os 5 .any ((Rows.OpenSpec.upto Rows.opRecSpec).pre6 enc Tryz.prog Tryz.f5 Rows.opRecUptoRow.domain false) (((Rows.OpenSpec.upto Rows.opRecSpec).at F).post enc Tryz.prog Tryz.f5 false true false false) := by
  refine returnsInHanded_of_cond (C := Tryz.checked) (s := Rows.OpenSpec.upto Rows.opRecSpec) (k := Rows.uptoSmall) rfl own started (by kernel_rfl) Tryz.func5
    (OpenSpec.witness (enc := enc) (C := Tryz.checked) (s := Rows.OpenSpec.upto Rows.opRecSpec) (k := Rows.uptoSmall) rfl false ⟨#[], #[.agg #[.int .i64 0, .int .i64 0], .slice none 0 0, .int .i64 0, .agg #[.int .i64 0, .slice none 0 0, .slice none 0 0]], []⟩ 8 (by kernel_rfl) (by kernel_rfl) (by kernel_rfl)
      (x := ([.agg [.lit (.int .i64 0), .lit (.int .i64 0)], .nil, .lit (.int .i64 0), .agg [.lit (.int .i64 0), .nil, .nil]], [], [])) (by kernel_rfl) rfl (by kernel_rfl)) ?_
  intro W base args ds gs before hval0 hW hcnd hk _
  have hval : ∀ (j : Nat) t v, Tryz.f5.params[j]? = some t → args[j]? = some v → Value.okWide Tryz.prog W .any base t v := hval0
  have hW' : DataW.Whole enc Tryz.prog Tryz.f5.params.toList Rows.opRecSpec.vars false W args.toList ds gs before := hW
  obtain ⟨p, q, hA0, hV, rfl, hfz, hnd⟩ := hW'
  have hW' : DataW.Whole enc Tryz.prog Tryz.f5.params.toList Rows.opRecSpec.vars false W args.toList ds gs (p ++ q) := hW
  have hA : DataW.TrodAll enc Tryz.prog W 0 (fun _ => true) true Tryz.f5.params.toList args.toList ds p := hA0
  rw [Tryz.params5] at hA hval
  have hA1 : DataW.TrodAll enc Tryz.prog W 0 (fun _ => true) true [26, 24, 3, 43] args.toList ds p := hA
  obtain ⟨ρ, σ, vs, _, _, hs, hv, hsh⟩ := Go.AM.args_ok (n := 9) (r := .any) (base := base) plain hA1 (fun j t v h1 h2 => hval j t v (by simpa using h1) (by simpa using h2)) (fun _ => none) [] (Go.AM.Sim.start W)
  obtain ⟨v0, us0, d0, ds0, p0, q0, hargs0, rfl, rfl, h0, r0⟩ := trodAll_cons hA1
  obtain ⟨v1, us1, d1, ds1, p1, q1, hargs1, rfl, rfl, h1, r1⟩ := trodAll_cons r0
  obtain ⟨v2, us2, d2, ds2, p2, q2, hargs2, rfl, rfl, h2, r2⟩ := trodAll_cons r1
  obtain ⟨v3, us3, d3, ds3, p3, q3, hargs3, rfl, rfl, h3, r3⟩ := trodAll_cons r2
  obtain ⟨hus, rfl, rfl⟩ := trodAll_nil r3
  have hargs : args.toList = [v0, v1, v2, v3] := by rw [hargs0, hargs1, hargs2, hargs3, hus]
  obtain ⟨rfl, rfl⟩ := trodVars_none hV
  have hbk : Rows.uptoBulkAll ([d0, d1, d2, d3] ++ []) ≤ 1048576 := of_decide_eq_true hk
  have hlast : ∀ k a b x y, vs.getLast? = some (.agg [.int .i64 k, .sl a x, .sl b y]) → x ≤ 1048576 ∧ y ≤ 1048576 := fun k a b x y hl => by
    obtain ⟨us, rfl⟩ : ∃ us, vs = us ++ [.agg [.int .i64 k, .sl a x, .sl b y]] := by
      rw [List.getLast?_eq_some_iff] at hl
      exact hl
    have hlen := hv.1
    rw [hargs] at hlen hv
    have hvl : Go.AM.VR ρ (.agg [.int .i64 k, .sl a x, .sl b y]) v3 := by
      have hl2 : us.length = 3 := by simp [List.length_append] at hlen; omega
      obtain ⟨vc, h1, h2⟩ := hv.get (i := 3) (v := .agg [.int .i64 k, .sl a x, .sl b y]) (by rw [List.getElem?_append_right (by omega), hl2]; rfl)
      cases h1
      exact h2
    obtain ⟨b1, b2⟩ := rec_len h3 hvl
    have b3 := part_le (d := d3) (l := [d0, d1, d2, d3] ++ []) (by simp)
    omega
  obtain ⟨fuel, hrun⟩ := opRec_law σ vs hsh hlast
  clear hA0 hval0
  refine (Go.AM.law_ok L1.mix L1.noCount L1.tabOK hs hv hrun).mono fun e W' ⟨he, bel⟩ => ?_
  subst he
  have key : Rows.opRecSpec.post enc Tryz.prog Tryz.f5 false true false false W args (.bool true) W' := ⟨_, _, _, [], _, [], hW', trodAll_mk1 (shut_bool Tryz.underlying4 _), Go.AM.args_back laidOut bel readable hA1, rfl, bel.frame _, fun h => by cases h⟩
  exact ⟨_, rfl, key⟩
theorem over : Rows.opRecUptoRow.holds Tryz.pinned (Rows.OpenSpec.upto Rows.opRecSpec) :=
  OpenClaim.holds_of_cond 5 Tryz.f5 rfl rfl rfl rfl rfl rfl rfl ⟨rfl, rfl, rfl, rfl, rfl⟩ rfl rfl rfl rfl rfl (by kernel_rfl) Tryz.func5 (by kernel_rfl)
    (of_decide_eq_true (by kernel_rfl)) (by unfold Func.isWrapper; first | (rw [if_pos (by decide +kernel)]; kernel_rfl) | (rw [if_neg (by decide +kernel)]; exact ⟨rfl, rfl⟩))
    (fun os started H enc _ F => lifted os started H enc F)
theorem proved : Rows.OpRecUptoSaid := over
#print axioms proved
end Go.Proofs.YtajincfelnmlhaaGreat.opRec
namespace Go.Proofs.YtajincfelnmlhaaGreat
/-- The row, under a short name, for the claim. -/
theorem opRec_holds : Rows.OpRecUptoSaid := opRec.proved
end Go.Proofs.YtajincfelnmlhaaGreat
