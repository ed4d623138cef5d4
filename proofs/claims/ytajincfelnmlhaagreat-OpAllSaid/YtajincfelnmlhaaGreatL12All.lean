/- OpAll: which operations may be, of which kind they are, on which shard they lie. -/
import Derived.Test.YtajincfelnmlhaaGreatL12Turn
import Derived.Test.YtajincfelnmlhaaGreatL12PartsL
import Derived.Test.YtajincfelnmlhaaGreatGmParts
import Derived.Test.YtajincfelnmlhaaGreatL12Put
namespace Go.Proofs.YtajincfelnmlhaaGreat
set_option maxRecDepth 100000
open Go Go.AM Go.AM.St
theorem same_idv (c e : Int) : sameV (.agg (idv c e)) (.agg (idv c e)) = true := by simp [sameV, sameL, sameLeaf]
theorem ofV_len (l : List OpV) (j q : Int) : (ofV l j q).length ≤ l.length := by
  unfold ofV
  split
  · exact Nat.zero_le _
  · unfold pick
    rw [List.length_map, List.getD_eq_getElem?_getD]
    cases e : (partsI (shF l q.toNat) q.toNat l.length)[j.toNat]? with
    | none => exact Nat.zero_le _
    | some ys => exact partsI_le _ _ _ _ (List.mem_of_getElem? e)
theorem PtA.read {σ0 σ : H} {B : Nat} {ps : List PC} (h : PtA σ0 σ B ps) : PtN none σ B ps := ⟨⟨_, h.row⟩, nofun, fun p hp => ⟨(h.own p hp).1.rw, nofun⟩⟩
attribute [local irreducible] IntKind.wrap Int.fdiv Int.tdiv Int.tmod BitVec.ofInt appendK sliceK indexAddrK ldK storeK seenK makeSliceK lookupK updateK deleteK mapK rangeK nextK buildSliceK indexK
variable {D : Drawer} {σ : H}
set_option maxHeartbeats 2000000 in
theorem opAll_run {n M : Nat} {o : OpV} {s : AM.SA} {l : List OpV} {j q c e : Int} (hD : ByPlan Tryz.prog D) (hM : M ≤ 9223372036854775808) (hn : M + 300000 ≤ n) (oo : OkL o) (h2 : q ≤ 9223372036854775807) (hs : Rw σ 5 s l.length (opvs l)) (ol : ∀ o ∈ l, OkV o) (om : o.s.length < M) (hb : ∀ o ∈ l, o.s.length < M) :
    acall Tryz.prog tab D n 3 [.agg (opv o), .sl s l.length, .int .i64 j, .int .i64 q, .agg (idv c e)] σ isTrue = true := by
  obtain ⟨n, rfl, hn⟩ := up (n := n) (k := M + 299999) (by omega)
  have T5 := get_old (get_new σ (AO.cells (opv o) 5 .own)) (AO.cells (idv c e) 2 .own)
  have T9 := get_new (σ ++ [AO.cells (opv o) 5 .own]) (AO.cells (idv c e) 2 .own)
  have P0 : σ <+: σ ++ [AO.cells (opv o) 5 .own] ++ [AO.cells (idv c e) 2 .own] := (List.prefix_append _ _).trans (List.prefix_append _ _)
  have eL : (σ ++ [AO.cells (opv o) 5 .own]).length = σ.length + 1 := by simp
  conv => lhs; whnf
  refine begun_spec ?_
  conv => lhs; whnf
  refine ops_spec (by omega) (hs.mono P0) fun o1 a σ1 p1 ow => ?_
  have hl2 : (l.take 10).length ≤ 10 := by rw [List.length_take]; omega
  have ol2 : ∀ o ∈ l.take 10, OkV o := fun o h => ol o (List.mem_of_mem_take h)
  have hb2 : ∀ o ∈ l.take 10, o.s.length < M := fun o h => hb o (List.mem_of_mem_take h)
  have ho2 : ∀ o ∈ l.take 10, ∀ b ∈ o.s, b < 256 := fun o h => (ol2 o h).s
  clear hs ol hb
  generalize l.take 10 = l at ow hl2 ol2 hb2 ho2 ⊢
  have hr := ow.rw
  have T5 := prefix_get p1 T5
  have T9 := prefix_get p1 T9
  clear ow p1 P0
  conv => lhs; whnf
  refine goK hD plan3x5 ord3x5 fun KK hKK => ?_
  have tail : ∀ (x0 x4 x5 x6 x7 x8 x9 x10 x11 x12 x13 x14 x15 x16 x17 x18 x19 x20 x21 x22 x23 x24 x25 x26 x27 x28 x29 x30 x31 x32 x33 x34 x35 x36 x37 x38 x39 x40 x41 x42 x43 x44 x45 x46 x47 x48 x49 x50 x51 x52 x53 x54 x55 x56 x57 x58 x59 x61 x62 x63 x64 x65 x66 x67 x68 x69 x70 x71 x72 x73 x74 x75 x76 x77 x78 x79 x80 x81 x82 x83 x84 x85 x86 x87 x88 x89 x90 x91 x92 x93 x94 x95 x96 x97 x98 x99 x100 x101 x102 x103 x104 x105 x106 x107 x108 x109 x110 x111 x112 : AV) (τ : H), σ1 <+: τ → KK [x0, .sl a l.length, .int .i64 j, .int .i64 q, x4, x5, x6, x7, x8, x9, x10, x11, x12, x13, x14, x15, x16, x17, x18, x19, x20, x21, x22, x23, x24, x25, x26, x27, x28, x29, x30, x31, x32, x33, x34, x35, x36, x37, x38, x39, x40, x41, x42, x43, x44, x45, x46, x47, x48, x49, x50, x51, x52, x53, x54, x55, x56, x57, x58, x59, .bool false, x61, x62, x63, x64, x65, x66, x67, x68, x69, x70, x71, x72, x73, x74, x75, x76, x77, x78, x79, x80, x81, x82, x83, x84, x85, x86, x87, x88, x89, x90, x91, x92, x93, x94, x95, x96, x97, x98, x99, x100, x101, x102, x103, x104, x105, x106, x107, x108, x109, x110, x111, x112] τ = true := by
    intro x0 x4 x5 x6 x7 x8 x9 x10 x11 x12 x13 x14 x15 x16 x17 x18 x19 x20 x21 x22 x23 x24 x25 x26 x27 x28 x29 x30 x31 x32 x33 x34 x35 x36 x37 x38 x39 x40 x41 x42 x43 x44 x45 x46 x47 x48 x49 x50 x51 x52 x53 x54 x55 x56 x57 x58 x59 x61 x62 x63 x64 x65 x66 x67 x68 x69 x70 x71 x72 x73 x74 x75 x76 x77 x78 x79 x80 x81 x82 x83 x84 x85 x86 x87 x88 x89 x90 x91 x92 x93 x94 x95 x96 x97 x98 x99 x100 x101 x102 x103 x104 x105 x106 x107 x108 x109 x110 x111 x112 τ p
    subst hKK
    have hr := hr.mono p
    clear T5 T9 p
    as_aux_lemma =>
      conv => lhs; whnf
      by_cases hq : q < 1 ∨ q > 3
      · refine parts_spec (l := l) hM (by omega) hl2 h2 hr ho2 hb2 (fun _ => ?_) (fun m hm m1 m3 => absurd hq (by omega))
        conv => lhs; whnf
        refine ref_parts_spec (l := l) hM (by omega) hl2 h2 hr ho2 hb2 (fun _ => ?_) (fun m hm m1 m3 => absurd hq (by omega))
        conv => lhs; whnf
        refine loop_rule (m := 28672) (fun r fr ρ => fr = [.bad, .bad, .bad, .bad, .bad, .bad, .bad, .bad, .bad, .bad, .bad, .bad, .sl .nil 0, .sl .nil 0, .int .i64 0, .bad, .bad, .bad, .bad, .bad, .bad, .bad, .bad, .bad, .bad, .bad, .bad, .bad, .bad, .bad, .bad, .bad, .bad, .bad, .bad, .bad, .bad, .bad, .bad, .bad, .bad, .bad, .bad, .bad, .bad, .bad, .bad, .bad, .bad, .bad, .bad, .bad, .bad, .bad, .bad, .bad, .bad, .bad, .bad, .bad, .bad, .bad, .bad, .bad, .bad, .bad, .bad, .bad, .bad, .bad, .bad, .bad, .bad, .bad, .bad, .bad, .bad, .bad, .bad, .bad, .bad, .bad, .bad, .bad, .bad, .bad, .bad, .bad, .bad, .bad, .bad, .bad, .bad, .bad, .bad, .bad, .bad, .bad, .bad, .bad, .bad, .bad, .bad, .bad, .bad, .bad, .bad, .bad, .bad, .bad, .bad, .bad, .bad]) ?_ _ 0 _ _ (by omega) rfl
        rintro r fr ρ C rfl next fin
        conv => lhs; whnf
        refine fin _ _ _ nofun ?_
        conv => lhs; whnf
      refine parts_spec (l := l) hM (by omega) hl2 h2 hr ho2 hb2 (fun h => absurd h hq) fun m hm m1 m3 σ2 B ps p2 pt hps => ?_
      subst hm
      have pt := pt.read
      conv => lhs; whnf
      refine ref_parts_spec (l := l) hM (by omega) hl2 h2 (hr.mono p2) ho2 hb2 (fun h => absurd h hq) fun m' hm' _ _ σ3 B' ps' p3 pt' hps' => ?_
      obtain rfl : m' = m := by omega
      clear hm'
      have pt := pt.mono p3
      have pt' := pt'.read
      have hpl : ps.length = m' := by rw [← partsI_len (shF l m') m' l.length]; exact (congrArg List.length hps).symm ▸ (List.length_map ..).symm
      have hpl' : ps'.length = m' := by rw [← partsI_len (shF l m') m' l.length]; exact (congrArg List.length hps').symm ▸ (List.length_map ..).symm
      have hlen : ∀ p ∈ ps, p.2.2.length ≤ l.length := fun p hp => partsI_le _ _ _ _ (hps ▸ List.mem_map_of_mem (f := fun p : PC => p.2.2) hp)
      have heq : ∀ (i : Nat) (h : i < ps.length) (h' : i < ps'.length), ps[i].2.2 = ps'[i].2.2 := fun i h h' => by
        have e1 : (ps.map fun p => p.2.2)[i]? = (ps'.map fun p => p.2.2)[i]? := by rw [hps, hps']
        rw [List.getElem?_map, List.getElem?_map, List.getElem?_eq_getElem h, List.getElem?_eq_getElem h'] at e1
        exact Option.some.inj e1
      clear hps hps' hr hq p2 p3
      conv => lhs; whnf
      rw [show (!((m' : Int) == (m' : Int))) = false by simp]
      conv => lhs; whnf
      obtain ⟨md, hrow⟩ := pt.row
      obtain ⟨md', hrow'⟩ := pt'.row
      refine loop_rule (m := 28672) (fun r fr ρ => ∃ (z : Int) (i : Nat), z = (i : Int) ∧ i + r = m' ∧ ρ = σ3 ∧ fr = [.bad, .bad, .bad, .bad, .bad, .bad, .bad, .bad, .bad, .bad, .bad, .bad, .sl (.at B 0 1) m', .sl (.at B' 0 1) m', .int .i64 z, .bad, .bad, .bad, .bad, .bad, .bad, .bad, .bad, .bad, .bad, .bad, .bad, .bad, .bad, .bad, .bad, .bad, .bad, .bad, .bad, .bad, .bad, .bad, .bad, .bad, .bad, .bad, .bad, .bad, .bad, .bad, .bad, .bad, .bad, .bad, .bad, .bad, .bad, .bad, .bad, .bad, .bad, .bad, .bad, .bad, .bad, .bad, .bad, .bad, .bad, .bad, .bad, .bad, .bad, .bad, .bad, .bad, .bad, .bad, .bad, .bad, .bad, .bad, .bad, .bad, .bad, .bad, .bad, .bad, .bad, .bad, .bad, .bad, .bad, .bad, .bad, .bad, .bad, .bad, .bad, .bad, .bad, .bad, .bad, .bad, .bad, .bad, .bad, .bad, .bad, .bad, .bad, .bad, .bad, .bad, .bad, .bad, .bad]) ?_ _ m' _ _ (by omega) ⟨_, 0, rfl, by omega, rfl, rfl⟩
      rintro r fr ρ C ⟨z, i, rfl, hq, rfl, rfl⟩ next fin
      conv => lhs; whnf
      by_cases hi : i < m'
      · rw [show decide ((i : Int) < (m' : Int)) = true from decide_eq_true (by omega)]
        obtain ⟨ax, ax', xs, hcell, hcell', hrd, hrd', hxl⟩ : ∃ (ax ax' : AM.SA) (xs : List Int), (ps.map pcell)[i]? = some (.sl ax xs.length) ∧ (ps'.map pcell)[i]? = some (.sl ax' xs.length) ∧ Rw ρ 1 ax xs.length (iks .i64 xs) ∧ Rw ρ 1 ax' xs.length (iks .i64 xs) ∧ xs.length ≤ l.length := by
          have h1 : i < ps.length := by omega
          have h2 : i < ps'.length := by omega
          have h3 := heq i h1 h2
          refine ⟨ps[i].2.1, ps'[i].2.1, ps[i].2.2, by simp [h1, pcell], ?_, (pt.rw _ (List.getElem_mem h1)).1, ?_, hlen _ (List.getElem_mem h1)⟩
          · rw [h3]; simp [h2, pcell]
          · rw [h3]; exact (pt'.rw _ (List.getElem_mem h2)).1
        have b1 : (true && (decide (0 ≤ (i : Int)) && decide ((i : Int) < (m' : Int)))) = true := by
          rw [decide_eq_true (show 0 ≤ (i : Int) by omega), decide_eq_true (show (i : Int) < (m' : Int) by omega)]
          rfl
        conv => lhs; whnf
        refine goK hD plan3x13 ord3x13 fun K2 hK2 => ?_
        with_unfolding_all conv => lhs; whnf
        refine bif_pos b1 ?_
        rw [show (0 + Int.toNat (i : Int) * 1) = i by rw [Int.toNat_natCast]; omega]
        conv => lhs; whnf
        refine ldRow hrow hcell rfl ?_
        conv => lhs; whnf
        refine idxRow rfl hi ?_
        conv => lhs; whnf
        refine ldRow hrow' hcell' rfl ?_
        conv => lhs; whnf
        rw [show (!((xs.length : Int) == (xs.length : Int))) = false by simp]
        conv => lhs; whnf
        subst hK2
        conv => lhs; whnf
        refine loop_rule (m := 61440) (fun r2 fr ρ2 => ∃ (z : Int) (k : Nat), z = (k : Int) ∧ k + r2 = xs.length ∧ ρ2 = ρ ∧ fr = [.bad, .bad, .bad, .bad, .bad, .bad, .bad, .bad, .bad, .bad, .bad, .bad, .sl (.at B 0 1) m', .sl (.at B' 0 1) m', .int .i64 (i : Int), .int .i64 z, .bad, .bad, .bad, .bad, .bad, .bad, .bad, .bad, .bad, .bad, .bad, .bad, .bad, .bad, .bad, .bad, .bad, .bad, .bad, .bad, .bad, .bad, .bad, .bad, .bad, .bad, .bad, .bad, .bad, .bad, .bad, .bad, .bad, .bad, .bad, .bad, .bad, .bad, .bad, .bad, .bad, .bad, .bad, .bad, .bad, .bad, .bad, .bad, .bad, .bad, .bad, .bad, .bad, .bad, .bad, .bad, .bad, .bad, .bad, .bad, .bad, .bad, .bad, .bad, .bad, .bad, .bad, .bad, .bad, .bad, .bad, .bad, .bad, .bad, .bad, .bad, .bad, .bad, .bad, .bad, .bad, .bad, .bad, .bad, .bad, .bad, .bad, .bad, .bad, .bad, .bad, .bad, .bad, .bad, .bad, .bad, .bad]) ?_ _ xs.length _ _ (by omega) ⟨_, 0, rfl, by omega, rfl, rfl⟩
        rintro r2 fr ρ2 C2 ⟨z, k, rfl, hq2, rfl, rfl⟩ next2 fin2
        with_unfolding_all conv => lhs; whnf
        refine bif_pos b1 ?_
        rw [show (0 + Int.toNat (i : Int) * 1) = i by rw [Int.toNat_natCast]; omega]
        conv => lhs; whnf
        refine ldRow hrow hcell rfl ?_
        conv => lhs; whnf
        by_cases hk : k < xs.length
        · rw [show decide ((k : Int) < (xs.length : Int)) = true from decide_eq_true (by omega)]
          conv => lhs; whnf
          refine goK hD plan3x18 ord3x18 fun K3 hK3 => ?_
          with_unfolding_all conv => lhs; whnf
          refine bif_pos b1 ?_
          rw [show (0 + Int.toNat (i : Int) * 1) = i by rw [Int.toNat_natCast]; omega]
          conv => lhs; whnf
          refine ldRow hrow hcell rfl ?_
          conv => lhs; whnf
          refine it44.idx hrd rfl hk fun pe he => ?_
          conv => lhs; whnf
          refine it44.ld he ?_
          conv => lhs; whnf
          refine idxRow rfl hi ?_
          conv => lhs; whnf
          refine ldRow hrow' hcell' rfl ?_
          conv => lhs; whnf
          refine it44.idx hrd' rfl hk fun pf hf => ?_
          conv => lhs; whnf
          refine it44.ld hf ?_
          conv => lhs; whnf
          rw [show (!(xs[k] == xs[k])) = false by simp]
          conv => lhs; whnf
          subst hK3
          conv => lhs; whnf
          refine next2 (r2 - 1) _ _ (by omega) ⟨_, k + 1, inc_i64 (by omega), by omega, rfl, rfl⟩
        rw [show decide ((k : Int) < (xs.length : Int)) = false from decide_eq_false (by omega)]
        conv => lhs; whnf
        refine fin2 _ _ _ nofun ?_
        conv => lhs; whnf
        refine next (r - 1) _ _ (by omega) ⟨_, i + 1, inc_i64 (by omega), by omega, rfl, rfl⟩
      rw [show decide ((i : Int) < (m' : Int)) = false from decide_eq_false (by omega)]
      conv => lhs; whnf
      refine fin _ _ _ nofun ?_
      conv => lhs; whnf
  clear hKK
  conv => lhs; whnf
  refine ldV T5 ?_
  conv => lhs; whnf
  refine ldV T5 ?_
  conv => lhs; whnf
  refine may_spec (by omega) oo.ok fun σ2 p2 => ?_
  have A2 := prefix_get p2 T5
  have B2 := prefix_get p2 T9
  have hr2 := hr.mono p2
  cases hm : mayV o with
  | true =>
    conv => lhs; whnf
    refine and_true (all_cons ?_ (all_skip rfl rfl)) ?_
    · conv => lhs; whnf
      refine ldV A2 ?_
      exact same_opv _
    conv => lhs; whnf
    refine ref_may_spec hD (by have := om; omega) (by have := om; omega) fun σ3 p3 => ?_
    rw [refV_eq, hm]
    have A3 := prefix_get p3 A2
    have B3 := prefix_get p3 B2
    have hr3 := hr2.mono p3
    conv => lhs; whnf
    refine all_spec (by omega) (by omega) hr3 ol2 fun σ4 p4 => ?_
    have A4 := prefix_get p4 A3
    have B4 := prefix_get p4 B3
    have hr4 := hr3.mono p4
    cases ha : allV l with
    | true =>
      conv => lhs; whnf
      refine ref_all_spec hD (by omega) (fun o h => by have := hb2 o h; omega) (by omega) hr4 fun σ5 p5 => ?_
      rw [ha]
      have A5 := prefix_get p5 A4
      have B5 := prefix_get p5 B4
      have hr5 := hr4.mono p5
      conv => lhs; whnf
      refine ldF Tryz.underlying3 rfl rfl A5 rfl ?_
      conv => lhs; whnf
      refine ldF Tryz.underlying3 rfl rfl A5 rfl ?_
      conv => lhs; whnf
      refine kind_spec (by omega) ?_
      conv => lhs; whnf
      refine and_true (all_cons ?_ (all_skip rfl (all_skip rfl (all_skip rfl rfl)))) ?_
      · conv => lhs; whnf
        refine ldF Tryz.underlying3 rfl rfl A5 rfl ?_
        show sameV (.int .i64 o.kind) (.int .i64 o.kind) = true
        exact same_int _ _
      conv => lhs; whnf
      refine ref_kind_spec (by omega) ?_
      conv => lhs; whnf
      rw [show (!(kindOf o.kind == kindOf o.kind)) = false by simp]
      conv => lhs; whnf
      refine ldId B5 ?_
      conv => lhs; whnf
      refine ldId B5 ?_
      conv => lhs; whnf
      refine client_spec (by omega) fun σ6 p6 => ?_
      have B6 := prefix_get p6 B5
      have hr6 := hr5.mono p6
      cases hc : clientV c e with
      | true =>
        conv => lhs; whnf
        refine and_true (all_cons ?_ (all_skip rfl (all_skip rfl (all_skip rfl (all_skip rfl (all_skip rfl rfl)))))) ?_
        · conv => lhs; whnf
          refine ldId B6 ?_
          exact same_idv _ _
        conv => lhs; whnf
        refine ref_client_spec (by omega) fun σ7 p7 => ?_
        rw [hc]
        conv => lhs; whnf
        refine of_op_spec (l := l) hM (by omega) hl2 h2 (hr6.mono p7) ho2 hb2 fun o8 a8 σ8 p8 w8 => ?_
        conv => lhs; whnf
        refine ref_of_spec (l := l) hM (by omega) hl2 h2 (hr6.mono (p7.trans p8)) ho2 hb2 fun o9 a9 σ9 p9 w9 => ?_
        have l9 : (ofV l j q).length ≤ l.length := ofV_len l j q
        conv => lhs; whnf
        refine eq_spec hD (by omega) (by omega) (w8.rw.mono p9) w9.rw rfl ?_
        conv => lhs; whnf
        exact tail _ _ _ _ _ _ _ _ _ _ _ _ _ _ _ _ _ _ _ _ _ _ _ _ _ _ _ _ _ _ _ _ _ _ _ _ _ _ _ _ _ _ _ _ _ _ _ _ _ _ _ _ _ _ _ _ _ _ _ _ _ _ _ _ _ _ _ _ _ _ _ _ _ _ _ _ _ _ _ _ _ _ _ _ _ _ _ _ _ _ _ _ _ _ _ _ _ _ _ _ _ _ _ _ _ _ _ _ _ _ ((((p2.trans p3).trans (p4.trans p5)).trans p6).trans ((p7.trans p8).trans p9))
      | false =>
        conv => lhs; whnf
        refine and_true (all_cons ?_ (all_skip rfl (all_skip rfl (all_skip rfl (all_skip rfl (all_skip rfl rfl)))))) ?_
        · conv => lhs; whnf
          refine ldId B6 ?_
          exact same_idv _ _
        conv => lhs; whnf
        refine ref_client_spec (by omega) fun σ7 p7 => ?_
        rw [hc]
        conv => lhs; whnf
        refine of_op_spec (l := l) hM (by omega) hl2 h2 (hr6.mono p7) ho2 hb2 fun o8 a8 σ8 p8 w8 => ?_
        conv => lhs; whnf
        refine ref_of_spec (l := l) hM (by omega) hl2 h2 (hr6.mono (p7.trans p8)) ho2 hb2 fun o9 a9 σ9 p9 w9 => ?_
        have l9 : (ofV l j q).length ≤ l.length := ofV_len l j q
        conv => lhs; whnf
        refine eq_spec hD (by omega) (by omega) (w8.rw.mono p9) w9.rw rfl ?_
        conv => lhs; whnf
        exact tail _ _ _ _ _ _ _ _ _ _ _ _ _ _ _ _ _ _ _ _ _ _ _ _ _ _ _ _ _ _ _ _ _ _ _ _ _ _ _ _ _ _ _ _ _ _ _ _ _ _ _ _ _ _ _ _ _ _ _ _ _ _ _ _ _ _ _ _ _ _ _ _ _ _ _ _ _ _ _ _ _ _ _ _ _ _ _ _ _ _ _ _ _ _ _ _ _ _ _ _ _ _ _ _ _ _ _ _ _ _ ((((p2.trans p3).trans (p4.trans p5)).trans p6).trans ((p7.trans p8).trans p9))
    | false =>
      conv => lhs; whnf
      refine ref_all_spec hD (by omega) (fun o h => by have := hb2 o h; omega) (by omega) hr4 fun σ5 p5 => ?_
      rw [ha]
      have A5 := prefix_get p5 A4
      have B5 := prefix_get p5 B4
      have hr5 := hr4.mono p5
      conv => lhs; whnf
      refine ldF Tryz.underlying3 rfl rfl A5 rfl ?_
      conv => lhs; whnf
      refine ldF Tryz.underlying3 rfl rfl A5 rfl ?_
      conv => lhs; whnf
      refine kind_spec (by omega) ?_
      conv => lhs; whnf
      refine and_true (all_cons ?_ (all_skip rfl (all_skip rfl (all_skip rfl rfl)))) ?_
      · conv => lhs; whnf
        refine ldF Tryz.underlying3 rfl rfl A5 rfl ?_
        show sameV (.int .i64 o.kind) (.int .i64 o.kind) = true
        exact same_int _ _
      conv => lhs; whnf
      refine ref_kind_spec (by omega) ?_
      conv => lhs; whnf
      rw [show (!(kindOf o.kind == kindOf o.kind)) = false by simp]
      conv => lhs; whnf
      refine ldId B5 ?_
      conv => lhs; whnf
      refine ldId B5 ?_
      conv => lhs; whnf
      refine client_spec (by omega) fun σ6 p6 => ?_
      have B6 := prefix_get p6 B5
      have hr6 := hr5.mono p6
      cases hc : clientV c e with
      | true =>
        conv => lhs; whnf
        refine and_true (all_cons ?_ (all_skip rfl (all_skip rfl (all_skip rfl (all_skip rfl (all_skip rfl rfl)))))) ?_
        · conv => lhs; whnf
          refine ldId B6 ?_
          exact same_idv _ _
        conv => lhs; whnf
        refine ref_client_spec (by omega) fun σ7 p7 => ?_
        rw [hc]
        conv => lhs; whnf
        refine of_op_spec (l := l) hM (by omega) hl2 h2 (hr6.mono p7) ho2 hb2 fun o8 a8 σ8 p8 w8 => ?_
        conv => lhs; whnf
        refine ref_of_spec (l := l) hM (by omega) hl2 h2 (hr6.mono (p7.trans p8)) ho2 hb2 fun o9 a9 σ9 p9 w9 => ?_
        have l9 : (ofV l j q).length ≤ l.length := ofV_len l j q
        conv => lhs; whnf
        refine eq_spec hD (by omega) (by omega) (w8.rw.mono p9) w9.rw rfl ?_
        conv => lhs; whnf
        exact tail _ _ _ _ _ _ _ _ _ _ _ _ _ _ _ _ _ _ _ _ _ _ _ _ _ _ _ _ _ _ _ _ _ _ _ _ _ _ _ _ _ _ _ _ _ _ _ _ _ _ _ _ _ _ _ _ _ _ _ _ _ _ _ _ _ _ _ _ _ _ _ _ _ _ _ _ _ _ _ _ _ _ _ _ _ _ _ _ _ _ _ _ _ _ _ _ _ _ _ _ _ _ _ _ _ _ _ _ _ _ ((((p2.trans p3).trans (p4.trans p5)).trans p6).trans ((p7.trans p8).trans p9))
      | false =>
        conv => lhs; whnf
        refine and_true (all_cons ?_ (all_skip rfl (all_skip rfl (all_skip rfl (all_skip rfl (all_skip rfl rfl)))))) ?_
        · conv => lhs; whnf
          refine ldId B6 ?_
          exact same_idv _ _
        conv => lhs; whnf
        refine ref_client_spec (by omega) fun σ7 p7 => ?_
        rw [hc]
        conv => lhs; whnf
        refine of_op_spec (l := l) hM (by omega) hl2 h2 (hr6.mono p7) ho2 hb2 fun o8 a8 σ8 p8 w8 => ?_
        conv => lhs; whnf
        refine ref_of_spec (l := l) hM (by omega) hl2 h2 (hr6.mono (p7.trans p8)) ho2 hb2 fun o9 a9 σ9 p9 w9 => ?_
        have l9 : (ofV l j q).length ≤ l.length := ofV_len l j q
        conv => lhs; whnf
        refine eq_spec hD (by omega) (by omega) (w8.rw.mono p9) w9.rw rfl ?_
        conv => lhs; whnf
        exact tail _ _ _ _ _ _ _ _ _ _ _ _ _ _ _ _ _ _ _ _ _ _ _ _ _ _ _ _ _ _ _ _ _ _ _ _ _ _ _ _ _ _ _ _ _ _ _ _ _ _ _ _ _ _ _ _ _ _ _ _ _ _ _ _ _ _ _ _ _ _ _ _ _ _ _ _ _ _ _ _ _ _ _ _ _ _ _ _ _ _ _ _ _ _ _ _ _ _ _ _ _ _ _ _ _ _ _ _ _ _ ((((p2.trans p3).trans (p4.trans p5)).trans p6).trans ((p7.trans p8).trans p9))
  | false =>
    conv => lhs; whnf
    refine and_true (all_cons ?_ (all_skip rfl rfl)) ?_
    · conv => lhs; whnf
      refine ldV A2 ?_
      exact same_opv _
    conv => lhs; whnf
    refine ref_may_spec hD (by have := om; omega) (by have := om; omega) fun σ3 p3 => ?_
    rw [refV_eq, hm]
    have A3 := prefix_get p3 A2
    have B3 := prefix_get p3 B2
    have hr3 := hr2.mono p3
    conv => lhs; whnf
    refine all_spec (by omega) (by omega) hr3 ol2 fun σ4 p4 => ?_
    have A4 := prefix_get p4 A3
    have B4 := prefix_get p4 B3
    have hr4 := hr3.mono p4
    cases ha : allV l with
    | true =>
      conv => lhs; whnf
      refine ref_all_spec hD (by omega) (fun o h => by have := hb2 o h; omega) (by omega) hr4 fun σ5 p5 => ?_
      rw [ha]
      have A5 := prefix_get p5 A4
      have B5 := prefix_get p5 B4
      have hr5 := hr4.mono p5
      conv => lhs; whnf
      refine ldF Tryz.underlying3 rfl rfl A5 rfl ?_
      conv => lhs; whnf
      refine ldF Tryz.underlying3 rfl rfl A5 rfl ?_
      conv => lhs; whnf
      refine kind_spec (by omega) ?_
      conv => lhs; whnf
      refine and_true (all_cons ?_ (all_skip rfl (all_skip rfl (all_skip rfl rfl)))) ?_
      · conv => lhs; whnf
        refine ldF Tryz.underlying3 rfl rfl A5 rfl ?_
        show sameV (.int .i64 o.kind) (.int .i64 o.kind) = true
        exact same_int _ _
      conv => lhs; whnf
      refine ref_kind_spec (by omega) ?_
      conv => lhs; whnf
      rw [show (!(kindOf o.kind == kindOf o.kind)) = false by simp]
      conv => lhs; whnf
      refine ldId B5 ?_
      conv => lhs; whnf
      refine ldId B5 ?_
      conv => lhs; whnf
      refine client_spec (by omega) fun σ6 p6 => ?_
      have B6 := prefix_get p6 B5
      have hr6 := hr5.mono p6
      cases hc : clientV c e with
      | true =>
        conv => lhs; whnf
        refine and_true (all_cons ?_ (all_skip rfl (all_skip rfl (all_skip rfl (all_skip rfl (all_skip rfl rfl)))))) ?_
        · conv => lhs; whnf
          refine ldId B6 ?_
          exact same_idv _ _
        conv => lhs; whnf
        refine ref_client_spec (by omega) fun σ7 p7 => ?_
        rw [hc]
        conv => lhs; whnf
        refine of_op_spec (l := l) hM (by omega) hl2 h2 (hr6.mono p7) ho2 hb2 fun o8 a8 σ8 p8 w8 => ?_
        conv => lhs; whnf
        refine ref_of_spec (l := l) hM (by omega) hl2 h2 (hr6.mono (p7.trans p8)) ho2 hb2 fun o9 a9 σ9 p9 w9 => ?_
        have l9 : (ofV l j q).length ≤ l.length := ofV_len l j q
        conv => lhs; whnf
        refine eq_spec hD (by omega) (by omega) (w8.rw.mono p9) w9.rw rfl ?_
        conv => lhs; whnf
        exact tail _ _ _ _ _ _ _ _ _ _ _ _ _ _ _ _ _ _ _ _ _ _ _ _ _ _ _ _ _ _ _ _ _ _ _ _ _ _ _ _ _ _ _ _ _ _ _ _ _ _ _ _ _ _ _ _ _ _ _ _ _ _ _ _ _ _ _ _ _ _ _ _ _ _ _ _ _ _ _ _ _ _ _ _ _ _ _ _ _ _ _ _ _ _ _ _ _ _ _ _ _ _ _ _ _ _ _ _ _ _ ((((p2.trans p3).trans (p4.trans p5)).trans p6).trans ((p7.trans p8).trans p9))
      | false =>
        conv => lhs; whnf
        refine and_true (all_cons ?_ (all_skip rfl (all_skip rfl (all_skip rfl (all_skip rfl (all_skip rfl rfl)))))) ?_
        · conv => lhs; whnf
          refine ldId B6 ?_
          exact same_idv _ _
        conv => lhs; whnf
        refine ref_client_spec (by omega) fun σ7 p7 => ?_
        rw [hc]
        conv => lhs; whnf
        refine of_op_spec (l := l) hM (by omega) hl2 h2 (hr6.mono p7) ho2 hb2 fun o8 a8 σ8 p8 w8 => ?_
        conv => lhs; whnf
        refine ref_of_spec (l := l) hM (by omega) hl2 h2 (hr6.mono (p7.trans p8)) ho2 hb2 fun o9 a9 σ9 p9 w9 => ?_
        have l9 : (ofV l j q).length ≤ l.length := ofV_len l j q
        conv => lhs; whnf
        refine eq_spec hD (by omega) (by omega) (w8.rw.mono p9) w9.rw rfl ?_
        conv => lhs; whnf
        exact tail _ _ _ _ _ _ _ _ _ _ _ _ _ _ _ _ _ _ _ _ _ _ _ _ _ _ _ _ _ _ _ _ _ _ _ _ _ _ _ _ _ _ _ _ _ _ _ _ _ _ _ _ _ _ _ _ _ _ _ _ _ _ _ _ _ _ _ _ _ _ _ _ _ _ _ _ _ _ _ _ _ _ _ _ _ _ _ _ _ _ _ _ _ _ _ _ _ _ _ _ _ _ _ _ _ _ _ _ _ _ ((((p2.trans p3).trans (p4.trans p5)).trans p6).trans ((p7.trans p8).trans p9))
    | false =>
      conv => lhs; whnf
      refine ref_all_spec hD (by omega) (fun o h => by have := hb2 o h; omega) (by omega) hr4 fun σ5 p5 => ?_
      rw [ha]
      have A5 := prefix_get p5 A4
      have B5 := prefix_get p5 B4
      have hr5 := hr4.mono p5
      conv => lhs; whnf
      refine ldF Tryz.underlying3 rfl rfl A5 rfl ?_
      conv => lhs; whnf
      refine ldF Tryz.underlying3 rfl rfl A5 rfl ?_
      conv => lhs; whnf
      refine kind_spec (by omega) ?_
      conv => lhs; whnf
      refine and_true (all_cons ?_ (all_skip rfl (all_skip rfl (all_skip rfl rfl)))) ?_
      · conv => lhs; whnf
        refine ldF Tryz.underlying3 rfl rfl A5 rfl ?_
        show sameV (.int .i64 o.kind) (.int .i64 o.kind) = true
        exact same_int _ _
      conv => lhs; whnf
      refine ref_kind_spec (by omega) ?_
      conv => lhs; whnf
      rw [show (!(kindOf o.kind == kindOf o.kind)) = false by simp]
      conv => lhs; whnf
      refine ldId B5 ?_
      conv => lhs; whnf
      refine ldId B5 ?_
      conv => lhs; whnf
      refine client_spec (by omega) fun σ6 p6 => ?_
      have B6 := prefix_get p6 B5
      have hr6 := hr5.mono p6
      cases hc : clientV c e with
      | true =>
        conv => lhs; whnf
        refine and_true (all_cons ?_ (all_skip rfl (all_skip rfl (all_skip rfl (all_skip rfl (all_skip rfl rfl)))))) ?_
        · conv => lhs; whnf
          refine ldId B6 ?_
          exact same_idv _ _
        conv => lhs; whnf
        refine ref_client_spec (by omega) fun σ7 p7 => ?_
        rw [hc]
        conv => lhs; whnf
        refine of_op_spec (l := l) hM (by omega) hl2 h2 (hr6.mono p7) ho2 hb2 fun o8 a8 σ8 p8 w8 => ?_
        conv => lhs; whnf
        refine ref_of_spec (l := l) hM (by omega) hl2 h2 (hr6.mono (p7.trans p8)) ho2 hb2 fun o9 a9 σ9 p9 w9 => ?_
        have l9 : (ofV l j q).length ≤ l.length := ofV_len l j q
        conv => lhs; whnf
        refine eq_spec hD (by omega) (by omega) (w8.rw.mono p9) w9.rw rfl ?_
        conv => lhs; whnf
        exact tail _ _ _ _ _ _ _ _ _ _ _ _ _ _ _ _ _ _ _ _ _ _ _ _ _ _ _ _ _ _ _ _ _ _ _ _ _ _ _ _ _ _ _ _ _ _ _ _ _ _ _ _ _ _ _ _ _ _ _ _ _ _ _ _ _ _ _ _ _ _ _ _ _ _ _ _ _ _ _ _ _ _ _ _ _ _ _ _ _ _ _ _ _ _ _ _ _ _ _ _ _ _ _ _ _ _ _ _ _ _ ((((p2.trans p3).trans (p4.trans p5)).trans p6).trans ((p7.trans p8).trans p9))
      | false =>
        conv => lhs; whnf
        refine and_true (all_cons ?_ (all_skip rfl (all_skip rfl (all_skip rfl (all_skip rfl (all_skip rfl rfl)))))) ?_
        · conv => lhs; whnf
          refine ldId B6 ?_
          exact same_idv _ _
        conv => lhs; whnf
        refine ref_client_spec (by omega) fun σ7 p7 => ?_
        rw [hc]
        conv => lhs; whnf
        refine of_op_spec (l := l) hM (by omega) hl2 h2 (hr6.mono p7) ho2 hb2 fun o8 a8 σ8 p8 w8 => ?_
        conv => lhs; whnf
        refine ref_of_spec (l := l) hM (by omega) hl2 h2 (hr6.mono (p7.trans p8)) ho2 hb2 fun o9 a9 σ9 p9 w9 => ?_
        have l9 : (ofV l j q).length ≤ l.length := ofV_len l j q
        conv => lhs; whnf
        refine eq_spec hD (by omega) (by omega) (w8.rw.mono p9) w9.rw rfl ?_
        conv => lhs; whnf
        exact tail _ _ _ _ _ _ _ _ _ _ _ _ _ _ _ _ _ _ _ _ _ _ _ _ _ _ _ _ _ _ _ _ _ _ _ _ _ _ _ _ _ _ _ _ _ _ _ _ _ _ _ _ _ _ _ _ _ _ _ _ _ _ _ _ _ _ _ _ _ _ _ _ _ _ _ _ _ _ _ _ _ _ _ _ _ _ _ _ _ _ _ _ _ _ _ _ _ _ _ _ _ _ _ _ _ _ _ _ _ _ ((((p2.trans p3).trans (p4.trans p5)).trans p6).trans ((p7.trans p8).trans p9))
theorem opAll_law (σ : H) (vs : List AV) (h : ArgsShp Tryz.prog σ 9 [23, 24, 3, 3, 26] vs) : ∃ n, acall Tryz.prog tab (drawRegion Tryz.prog) n 3 vs σ isTrue = true := by
  obtain ⟨a, us, rfl, h1, h⟩ := args_cons h
  obtain ⟨b, us, rfl, h2, h⟩ := args_cons h
  obtain ⟨c, us, rfl, h3, h⟩ := args_cons h
  obtain ⟨d, us, rfl, h4, h⟩ := args_cons h
  obtain ⟨e, us, rfl, h5, h⟩ := args_cons h
  obtain rfl := args_nil h
  obtain ⟨o, rfl, oo⟩ := arg_op h1
  obtain ⟨s, l, rfl, hs, ho, hl⟩ := arg_ops h2
  obtain ⟨j, rfl, _, _⟩ := arg_int Tryz.underlying3 h3
  obtain ⟨q, rfl, _, q2⟩ := arg_int Tryz.underlying3 h4
  obtain ⟨c, e, rfl, _⟩ := arg_cid h5
  have em : maxLen = 9223372036854775807 := by decide
  have q2 : q ≤ 9223372036854775807 := q2
  exact ⟨_, opAll_run (M := 9223372036854775808) (byPlan _) (Nat.le_refl _) (Nat.le_refl _) oo q2 hs (fun o h => (ho o h).ok) (by have := oo.s; omega) fun o h => by have := (ho o h).s; omega⟩
end Go.Proofs.YtajincfelnmlhaaGreat
