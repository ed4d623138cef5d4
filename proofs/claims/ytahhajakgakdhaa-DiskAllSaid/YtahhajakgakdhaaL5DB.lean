/- A disk and the document's: one operation of both; DiskAll. -/
import Derived.Test.YtahhajakgakdhaaL5DA
import Derived.Test.YtahhajakgakdhaaL5Begun
namespace Go.Proofs.Ytahhajakgakdhaa
set_option maxRecDepth 100000
open Go Go.AM Go.AM.St
/-- An operation. -/
structure OpP where
  kind : Int
  n : Int
  file : List Nat
  to' : List Nat
  b : List Nat
abbrev opc (o : OpP) (a : AM.SA) : List AV := [.int .i64 o.kind, .int .i64 o.n, .str (ints o.file), .str (ints o.to'), .sl a o.b.length]
structure OkOp (o : OpP) : Prop where
  k1 : -9223372036854775808 ≤ o.n
  k2 : o.n ≤ 9223372036854775807
  b : ∀ b ∈ o.b, b < 256
theorem find_alike {name : List Nat} {R S : DS} (h : Alike R S) : mFind name R.V = mFind name S.V := mFind_perm h.p h.s.nodup h.n
theorem app_alike {name bs : List Nat} {R S : DS} (h : Alike R S) : (dApp name bs R).2 = (dApp name bs S).2 ∧ ∀ R', (R', (dApp name bs R).2) = (if (dApp name bs R).2 = 0 then ⟨rApp name bs R.V, (dApp name bs R).1.left, (dApp name bs R).1.down, (dApp name bs R).1.ops⟩ else (dApp name bs R).1, (dApp name bs R).2) → Alike R' (dApp name bs S).1 := by
  have hd := h.d
  have hl := h.l
  have ho := h.o
  obtain ⟨a, b, c⟩ := rApp_alike (name := name) (bs := bs) h.s h.n h.p
  unfold dApp
  rw [hd, hl]
  by_cases h1 : S.down = true
  · rw [if_pos h1, if_pos h1]
    exact ⟨rfl, fun R' e => by rw [if_neg (by simp)] at e; cases e; exact h⟩
  rw [if_neg h1, if_neg h1]
  by_cases h2 : mayN name = false
  · rw [if_pos h2, if_pos h2]
    exact ⟨rfl, fun R' e => by rw [if_neg (by simp)] at e; cases e; exact h⟩
  rw [if_neg h2, if_neg h2]
  by_cases h3 : S.left = 0
  · rw [if_pos h3, if_pos h3]
    exact ⟨rfl, fun R' e => by rw [if_neg (by simp)] at e; cases e; exact ⟨h.s, h.n, h.p, rfl, rfl, ho⟩⟩
  rw [if_neg h3, if_neg h3]
  exact ⟨rfl, fun R' e => by rw [if_pos rfl] at e; cases e; exact ⟨a, b, c, rfl, rfl, by show R.ops + 1 = S.ops + 1; rw [ho]⟩⟩
theorem move_alike {f t : List Nat} {R S : DS} (h : Alike R S) : (dMove f t R).2 = (dMove f t S).2 ∧ ∀ R', (R', (dMove f t R).2) = (if (dMove f t R).2 = 0 then ⟨rMove f t R.V, (dMove f t R).1.left, (dMove f t R).1.down, (dMove f t R).1.ops⟩ else (dMove f t R).1, (dMove f t R).2) → Alike R' (dMove f t S).1 := by
  have hd := h.d
  have hl := h.l
  have ho := h.o
  obtain ⟨a, b, c⟩ := rMove_alike (f := f) (t := t) h.s h.n h.p
  unfold dMove
  rw [hd, hl, find_alike h]
  by_cases h1 : S.down = true
  · rw [if_pos h1, if_pos h1]
    exact ⟨rfl, fun R' e => by rw [if_neg (by simp)] at e; cases e; exact h⟩
  rw [if_neg h1, if_neg h1]
  by_cases h0 : mFind f S.V = none
  · rw [if_pos h0, if_pos h0]
    exact ⟨rfl, fun R' e => by rw [if_neg (by simp)] at e; cases e; exact h⟩
  rw [if_neg h0, if_neg h0]
  by_cases h2 : mayN t = false
  · rw [if_pos h2, if_pos h2]
    exact ⟨rfl, fun R' e => by rw [if_neg (by simp)] at e; cases e; exact h⟩
  rw [if_neg h2, if_neg h2]
  by_cases h3 : S.left = 0
  · rw [if_pos h3, if_pos h3]
    exact ⟨rfl, fun R' e => by rw [if_neg (by simp)] at e; cases e; exact ⟨h.s, h.n, h.p, rfl, rfl, ho⟩⟩
  rw [if_neg h3, if_neg h3]
  exact ⟨rfl, fun R' e => by rw [if_pos rfl] at e; cases e; exact ⟨a, b, c, rfl, rfl, by show R.ops + 1 = S.ops + 1; rw [ho]⟩⟩
theorem sync_alike {name : List Nat} {R S : DS} (h : Alike R S) : (dSync name R).2 = (dSync name S).2 ∧ Alike (dSync name R).1 (dSync name S).1 := by
  have hd := h.d
  have hl := h.l
  have ho := h.o
  have hu := upd_alike (name := name) (g := fun x => { x with synced := x.bytes.length, lasts := true }) (fun _ h => h) h.s h.n h.p
  rw [← mSync_map h.s.nodup, ← mSync_map h.n] at hu
  unfold dSync
  rw [hd, hl, find_alike h]
  by_cases h1 : S.down = true
  · rw [if_pos h1, if_pos h1]; exact ⟨rfl, h⟩
  rw [if_neg h1, if_neg h1]
  by_cases h0 : mFind name S.V = none
  · rw [if_pos h0, if_pos h0]; exact ⟨rfl, h⟩
  rw [if_neg h0, if_neg h0]
  by_cases h3 : S.left = 0
  · rw [if_pos h3, if_pos h3]; exact ⟨rfl, ⟨h.s, h.n, h.p, rfl, rfl, ho⟩⟩
  rw [if_neg h3, if_neg h3]
  exact ⟨rfl, ⟨hu.1, hu.2.1, hu.2.2, rfl, rfl, by show R.ops + 1 = S.ops + 1; rw [ho]⟩⟩
theorem cut_alike {name : List Nat} {y : Int} {R S : DS} (h : Alike R S) : (dCut name y R).2 = (dCut name y S).2 ∧ Alike (dCut name y R).1 (dCut name y S).1 := by
  have hd := h.d
  have hl := h.l
  have ho := h.o
  have hu := upd_alike (name := name) (g := fun x => ⟨x.name, x.bytes.take y.toNat, y.toNat, true⟩) (fun _ h => h) h.s h.n h.p
  rw [← mCut_map h.s.nodup, ← mCut_map h.n] at hu
  have hin : inFile name y R.V ↔ inFile name y S.V := by unfold inFile; rw [find_alike h]
  unfold dCut
  rw [hd, hl, find_alike h]
  by_cases h1 : S.down = true
  · rw [if_pos h1, if_pos h1]; exact ⟨rfl, h⟩
  rw [if_neg h1, if_neg h1]
  by_cases h0 : mFind name S.V = none
  · rw [if_pos h0, if_pos h0]; exact ⟨rfl, h⟩
  rw [if_neg h0, if_neg h0]
  by_cases h2 : ¬ inFile name y S.V
  · rw [if_pos h2, if_pos (fun hc => h2 (hin.1 hc))]; exact ⟨rfl, h⟩
  rw [if_neg h2, if_neg (fun hc => h2 fun hc2 => hc (hin.2 hc2))]
  by_cases h3 : S.left = 0
  · rw [if_pos h3, if_pos h3]; exact ⟨rfl, ⟨h.s, h.n, h.p, rfl, rfl, ho⟩⟩
  rw [if_neg h3, if_neg h3]
  exact ⟨rfl, ⟨hu.1, hu.2.1, hu.2.2, rfl, rfl, by show R.ops + 1 = S.ops + 1; rw [ho]⟩⟩
theorem fuse_alike {x : Int} {R S : DS} (h : Alike R S) : Alike (dFuse x R) (dFuse x S) := by
  unfold dFuse
  rw [h.d]
  by_cases h1 : S.down = true
  · rw [if_pos h1, if_pos h1]; exact h
  rw [if_neg h1, if_neg h1]
  exact ⟨h.s, h.n, h.p, rfl, rfl, h.o⟩
theorem dcrash_alike {keep : Int} {R S : DS} (h : Alike R S) : Alike (dCrash keep R) (dCrash keep S) := by
  obtain ⟨a, b, c⟩ := crash_alike (keep := keep) h.s h.n h.p
  exact ⟨a, b, c, rfl, rfl, h.o⟩
theorem read_alike {name : List Nat} {R S : DS} (h : Alike R S) : dRead name R = dRead name S := by
  unfold dRead
  rw [h.d, find_alike h]
theorem OkS.alike {R S : DS} (h : Alike R S) {N k : Nat} (ho : OkS S N k) : OkS R N k :=
  ⟨by rw [h.l]; exact ho.l1, by rw [h.l]; exact ho.l2, by rw [h.o]; exact ho.o, by rw [h.p.length_eq]; exact ho.f, fun x hx => ho.b x (h.p.mem_iff.1 hx)⟩
theorem OkS.read {S : DS} {N k : Nat} (h : OkS S N k) {name : List Nat} : (dRead name S).1.length ≤ k ∧ ∀ b ∈ (dRead name S).1, b < 256 := by
  unfold dRead
  split
  · exact ⟨Nat.zero_le _, fun b hb => by cases hb⟩
  · cases hf : mFind name S.V with
    | none => exact ⟨Nat.zero_le _, fun b hb => by cases hb⟩
    | some x =>
      obtain ⟨a, b, c⟩ := h.b x (mFind_mem hf).1
      exact ⟨a, c⟩
def UN (F G : Nat → Prop) (id : Nat) : Prop := F id ∨ G id
theorem Stp.un1 {F F' : Nat → Prop} {σ σ' : H} (h : Stp F F' σ σ') (G : Nat → Prop) : Stp (UN F G) (UN F' G) σ σ' :=
  ⟨h.len, fun id hl hf => h.keep id hl fun hF => hf (.inl hF), fun id hf => hf.elim (fun h' => (h.fp id h').elim (fun h => .inl (.inl h)) .inr) fun e => .inl (.inr e), h.ext⟩
theorem Stp.un2 {F F' : Nat → Prop} {σ σ' : H} (h : Stp F F' σ σ') (G : Nat → Prop) : Stp (UN G F) (UN G F') σ σ' :=
  ⟨h.len, fun id hl hf => h.keep id hl fun hF => hf (.inr hF), fun id hf => hf.elim (fun e => .inl (.inl e)) fun h' => (h.fp id h').elim (fun h => .inl (.inr h)) .inr, h.ext⟩
attribute [local irreducible] IntKind.wrap Int.fdiv Int.tdiv Int.tmod BitVec.ofInt appendK sliceK indexAddrK ldK storeK seenK makeSliceK lookupK updateK deleteK mapK rangeK nextK keysF buildSliceK
variable {D : Drawer}
variable {B m Q : Nat} {S R : DS} {F G : Nat → Prop} {σ : H} {N k : Nat}
theorem do_spec {n : Nat} {op : OpP} {a : AM.SA} (hD : ByPlan Try.prog D) (hT : ByTree Try.prog D) (hop : OkOp op) (hb : Rw σ 1 a op.b.length (u8s op.b)) (hd : DV σ B m S F) (hr : RV σ Q R G) (hfg : FD F G) (ha : Alike R S) (ho : OkS S N k) (hn : N + 60 ≤ n) (hN : N < 9000) (hk : k ≤ 100000) {K : AV → H → Bool}
    (hK : ∀ σ' S' R' F' G', DV σ' B m S' F' → RV σ' Q R' G' → FD F' G' → Alike R' S' → OkS S' (N + 1) (k + 40) → Stp (UN F G) (UN F' G') σ σ' → K (.bool true) σ' = true) :
    acall Try.prog tab D n 38 [.agg (opc op a), .ptr (some ⟨B, 0, 0, 4⟩), .ptr (some ⟨Q, 0, 0, 4⟩)] σ K = true := by
  obtain ⟨n, rfl, hn⟩ := up (n := n) (k := N + 59) (by omega)
  have oR := OkS.alike ha ho
  have T0 := get_new σ (AO.cells (opc op a) 5 .own)
  have P0 := List.prefix_append σ [AO.cells (opc op a) 5 .own]
  have d0 := hd.mono P0
  have r0 := hr.step (Stp.pre (F := fun _ => False) P0) fun _ _ hf => hf
  have nF : ¬ F σ.length := fun hf => Nat.lt_irrefl _ (hd.lt hf)
  have nG : ¬ G σ.length := fun hf => Nat.lt_irrefl _ (hr.lt hf)
  conv => lhs; whnf
  refine ldF Try.underlying22 rfl rfl T0 rfl ?_
  conv => lhs; whnf
  refine short_spec (by omega) (m := 40) rfl (by decide) (hb.mono P0) _ fun o1 a1 σ1 p1 q1 => ?_
  have lx : ∀ b ∈ op.b.take 40, b < 256 := fun b h => hop.b b (List.mem_of_mem_take h)
  have sx : (op.b.take 40).length ≤ 40 := by rw [List.length_take]; omega
  generalize op.b.take 40 = xs at q1 lx sx ⊢
  have b1 := q1.rw
  have T1 := prefix_get p1 T0
  have d1 := d0.mono p1
  have r1 := r0.step (Stp.pre (F := fun _ => False) p1) fun _ _ hf => hf
  have S1 := (Stp.pre (F := UN F G) P0).trans (Stp.pre p1)
  conv => lhs; whnf
  refine ldF Try.underlying3 rfl rfl T1 rfl ?_
  conv => lhs; whnf
  by_cases k0 : op.kind = 0
  · rw [show (op.kind == 0) = true by rw [beq_iff_eq]; exact k0]
    obtain ⟨eA, nA⟩ := app_alike (name := op.file) (bs := xs) ha
    conv => lhs; whnf
    refine goK hD plan38x7 ord38x7 fun KK hKK => ?_
    conv => lhs; whnf
    refine ldF Try.underlying9 rfl rfl T1 rfl ?_
    conv => lhs; whnf
    refine ldF Try.underlying9 rfl rfl T1 rfl ?_
    conv => lhs; whnf
    refine dv_app (by omega) d1 ho (by omega) b1 (by omega) fun σ2 F2 d2 s2 => ?_
    have T2 := (s2.keep _ (get_lt T1) nF).trans T1
    have fg2 := hfg.step s2 fun id hg => r1.lt hg
    have r2 := r1.step s2 hfg.symm
    conv => lhs; whnf
    refine and_true (all_cons ?_ (all_skip rfl rfl)) ?_
    · conv => lhs; whnf
      refine ldF Try.underlying9 rfl rfl T2 rfl ?_
      exact same_str _
    conv => lhs; whnf
    refine ref_app hD hT r2 ha.s oR (by omega) (by omega) (b1.ext s2.ext) (by omega) fun σ3 G3 R3 r3 e3 s3 => ?_
    rw [eA]
    conv => lhs; whnf
    rw [show ((((dApp op.file xs S).2 : Nat) : Int) == (((dApp op.file xs S).2 : Nat) : Int)) = true by simp]
    have := hK σ3 _ R3 F2 G3 (d2.step s3 fg2) r3 (fg2.symm.step s3 fun id hf => d2.lt hf).symm (nA R3 e3) ((ho.app lx).mono (Nat.le_refl _) (by omega)) (S1.trans ((s2.un1 G).trans (s3.un2 F2)))
    conv => lhs; whnf
    subst hKK
    conv => lhs; whnf
    exact this
  rw [show (op.kind == 0) = false by rw [beq_eq_false_iff_ne]; exact k0]
  conv => lhs; whnf
  by_cases k1 : op.kind = 1
  · rw [show (op.kind == 1) = true by rw [beq_iff_eq]; exact k1]
    obtain ⟨eA, nA⟩ := sync_alike (name := op.file) ha
    conv => lhs; whnf
    refine goK hD plan38x9 ord38x9 fun KK hKK => ?_
    conv => lhs; whnf
    refine ldF Try.underlying9 rfl rfl T1 rfl ?_
    conv => lhs; whnf
    refine ldF Try.underlying9 rfl rfl T1 rfl ?_
    conv => lhs; whnf
    refine dv_sync (by omega) d1 ho (by omega) fun σ2 F2 d2 s2 => ?_
    have T2 := (s2.keep _ (get_lt T1) nF).trans T1
    have fg2 := hfg.step s2 fun id hg => r1.lt hg
    have r2 := r1.step s2 hfg.symm
    conv => lhs; whnf
    refine and_true (all_cons ?_ (all_skip rfl rfl)) ?_
    · conv => lhs; whnf
      refine ldF Try.underlying9 rfl rfl T2 rfl ?_
      exact same_str _
    conv => lhs; whnf
    refine ref_sync hD r2 ha.s oR (by omega) (by omega) fun σ3 G3 r3 s3 => ?_
    rw [eA]
    conv => lhs; whnf
    rw [show ((((dSync op.file S).2 : Nat) : Int) == (((dSync op.file S).2 : Nat) : Int)) = true by simp]
    have := hK σ3 _ _ F2 G3 (d2.step s3 fg2) r3 (fg2.symm.step s3 fun id hf => d2.lt hf).symm nA (ho.sync.mono (Nat.le_refl _) (by omega)) (S1.trans ((s2.un1 G).trans (s3.un2 F2)))
    conv => lhs; whnf
    subst hKK
    conv => lhs; whnf
    exact this
  rw [show (op.kind == 1) = false by rw [beq_eq_false_iff_ne]; exact k1]
  conv => lhs; whnf
  by_cases k2 : op.kind = 2
  · rw [show (op.kind == 2) = true by rw [beq_iff_eq]; exact k2]
    obtain ⟨eA, nA⟩ := cut_alike (name := op.file) (y := op.n) ha
    conv => lhs; whnf
    refine goK hD plan38x11 ord38x11 fun KK hKK => ?_
    conv => lhs; whnf
    refine ldF Try.underlying9 rfl rfl T1 rfl ?_
    conv => lhs; whnf
    refine ldF Try.underlying3 rfl rfl T1 rfl ?_
    conv => lhs; whnf
    refine ldF Try.underlying9 rfl rfl T1 rfl ?_
    conv => lhs; whnf
    refine ldF Try.underlying3 rfl rfl T1 rfl ?_
    conv => lhs; whnf
    refine dv_cut (by omega) d1 ho (by omega) (by omega) fun σ2 F2 d2 s2 => ?_
    have T2 := (s2.keep _ (get_lt T1) nF).trans T1
    have fg2 := hfg.step s2 fun id hg => r1.lt hg
    have r2 := r1.step s2 hfg.symm
    conv => lhs; whnf
    refine and_true (all_cons ?_ (all_cons ?_ (all_skip rfl (all_skip rfl rfl)))) ?_
    · conv => lhs; whnf
      refine ldF Try.underlying3 rfl rfl T2 rfl ?_
      conv => lhs; whnf
      exact same_dec _
    · conv => lhs; whnf
      refine ldF Try.underlying9 rfl rfl T2 rfl ?_
      exact same_str _
    conv => lhs; whnf
    refine ref_cut hD r2 ha.s oR (by omega) (by omega) fun σ3 G3 r3 s3 => ?_
    rw [eA]
    conv => lhs; whnf
    rw [show ((((dCut op.file op.n S).2 : Nat) : Int) == (((dCut op.file op.n S).2 : Nat) : Int)) = true by simp]
    have := hK σ3 _ _ F2 G3 (d2.step s3 fg2) r3 (fg2.symm.step s3 fun id hf => d2.lt hf).symm nA (ho.cut.mono (Nat.le_refl _) (by omega)) (S1.trans ((s2.un1 G).trans (s3.un2 F2)))
    conv => lhs; whnf
    subst hKK
    conv => lhs; whnf
    exact this
  rw [show (op.kind == 2) = false by rw [beq_eq_false_iff_ne]; exact k2]
  conv => lhs; whnf
  by_cases k3 : op.kind = 3
  · rw [show (op.kind == 3) = true by rw [beq_iff_eq]; exact k3]
    obtain ⟨eA, nA⟩ := move_alike (f := op.file) (t := op.to') ha
    conv => lhs; whnf
    refine goK hD plan38x13 ord38x13 fun KK hKK => ?_
    conv => lhs; whnf
    refine ldF Try.underlying9 rfl rfl T1 rfl ?_
    conv => lhs; whnf
    refine ldF Try.underlying9 rfl rfl T1 rfl ?_
    conv => lhs; whnf
    refine ldF Try.underlying9 rfl rfl T1 rfl ?_
    conv => lhs; whnf
    refine ldF Try.underlying9 rfl rfl T1 rfl ?_
    conv => lhs; whnf
    refine dv_move (by omega) d1 ho (by omega) fun σ2 F2 d2 s2 => ?_
    have T2 := (s2.keep _ (get_lt T1) nF).trans T1
    have fg2 := hfg.step s2 fun id hg => r1.lt hg
    have r2 := r1.step s2 hfg.symm
    conv => lhs; whnf
    refine and_true (all_cons ?_ (all_cons ?_ (all_skip rfl (all_skip rfl rfl)))) ?_
    · conv => lhs; whnf
      refine ldF Try.underlying9 rfl rfl T2 rfl ?_
      exact same_str _
    · conv => lhs; whnf
      refine ldF Try.underlying9 rfl rfl T2 rfl ?_
      exact same_str _
    conv => lhs; whnf
    refine ref_move hD hT r2 ha.s oR (by omega) (by omega) fun σ3 G3 R3 r3 e3 s3 => ?_
    rw [eA]
    conv => lhs; whnf
    rw [show ((((dMove op.file op.to' S).2 : Nat) : Int) == (((dMove op.file op.to' S).2 : Nat) : Int)) = true by simp]
    have := hK σ3 _ R3 F2 G3 (d2.step s3 fg2) r3 (fg2.symm.step s3 fun id hf => d2.lt hf).symm (nA R3 e3) (ho.move.mono (Nat.le_refl _) (by omega)) (S1.trans ((s2.un1 G).trans (s3.un2 F2)))
    conv => lhs; whnf
    subst hKK
    conv => lhs; whnf
    exact this
  rw [show (op.kind == 3) = false by rw [beq_eq_false_iff_ne]; exact k3]
  conv => lhs; whnf
  by_cases k5 : op.kind = 5
  · rw [show (op.kind == 5) = true by rw [beq_iff_eq]; exact k5]
    conv => lhs; whnf
    refine ldF Try.underlying3 rfl rfl T1 rfl ?_
    conv => lhs; whnf
    refine dv_fuse (by omega) d1 fun σ2 F2 d2 s2 => ?_
    have T2 := (s2.keep _ (get_lt T1) nF).trans T1
    have fg2 := hfg.step s2 fun id hg => r1.lt hg
    have r2 := r1.step s2 hfg.symm
    conv => lhs; whnf
    refine ldF Try.underlying3 rfl rfl T2 rfl ?_
    conv => lhs; whnf
    refine ref_fuse (by omega) r2 fun σ3 G3 r3 s3 => ?_
    have := hK σ3 _ _ F2 G3 (d2.step s3 fg2) r3 (fg2.symm.step s3 fun id hf => d2.lt hf).symm (fuse_alike ha) ((ho.fuse hop.k2).mono (by omega) (by omega)) (S1.trans ((s2.un1 G).trans (s3.un2 F2)))
    conv => lhs; whnf
    exact this
  rw [show (op.kind == 5) = false by rw [beq_eq_false_iff_ne]; exact k5]
  conv => lhs; whnf
  by_cases k6 : op.kind = 6
  · rw [show (op.kind == 6) = true by rw [beq_iff_eq]; exact k6]
    conv => lhs; whnf
    refine ldF Try.underlying3 rfl rfl T1 rfl ?_
    conv => lhs; whnf
    refine dv_crash hD d1 ho (by omega) (by omega) fun σ2 F2 d2 s2 => ?_
    have T2 := (s2.keep _ (get_lt T1) nF).trans T1
    have fg2 := hfg.step s2 fun id hg => r1.lt hg
    have r2 := r1.step s2 hfg.symm
    conv => lhs; whnf
    refine ldF Try.underlying3 rfl rfl T2 rfl ?_
    conv => lhs; whnf
    refine ref_crash r2 oR (by omega) (by omega) (by omega) fun σ3 G3 r3 s3 => ?_
    have := hK σ3 _ _ F2 G3 (d2.step s3 fg2) r3 (fg2.symm.step s3 fun id hf => d2.lt hf).symm (dcrash_alike ha) (ho.crash.mono (by omega) (by omega)) (S1.trans ((s2.un1 G).trans (s3.un2 F2)))
    conv => lhs; whnf
    exact this
  rw [show (op.kind == 6) = false by rw [beq_eq_false_iff_ne]; exact k6]
  have hrd := ho.read (name := op.file)
  conv => lhs; whnf
  refine ldF Try.underlying9 rfl rfl T1 rfl ?_
  conv => lhs; whnf
  refine dv_read (by omega) d1 ho (by omega) fun a2 σ2 p2 q2 => ?_
  have r2 := r1.step (Stp.pre (F := fun _ => False) p2) fun _ _ hf => hf
  conv => lhs; whnf
  refine ldF Try.underlying9 rfl rfl (prefix_get p2 T1) rfl ?_
  conv => lhs; whnf
  refine ref_read hD r2 ha.s oR (by omega) (by omega) (by omega) fun a3 σ3 p3 q3 => ?_
  rw [read_alike ha] at q3 ⊢
  have := hK σ3 S R F G ((d1.mono p2).mono p3) (r2.step (Stp.pre (F := fun _ => False) p3) fun _ _ hf => hf) hfg ha (ho.mono (by omega) (by omega)) (S1.trans ((Stp.pre p2).trans (Stp.pre p3)))
  conv => lhs; whnf
  refine strK_rw (q2.rw.mono p3) hrd.2 ?_
  conv => lhs; whnf
  refine strK_rw q3 hrd.2 ?_
  conv => lhs; whnf
  rw [show (ints (dRead op.file S).1 == ints (dRead op.file S).1) = true by simp]
  conv => lhs; whnf
  rw [show ((((dRead op.file S).2 : Nat) : Int) == (((dRead op.file S).2 : Nat) : Int)) = true by simp]
  conv => lhs; whnf
  exact this
end Go.Proofs.Ytahhajakgakdhaa
