/- WalTwo. -/
import Derived.Test.YtahhajakgakdhaaL5Cut
namespace Go.Proofs.Ytahhajakgakdhaa
set_option maxRecDepth 100000
open Go Go.AM Go.AM.St
section
variable {n1' n2' : List Nat}
theorem open_new2 {a b : List Nat} {x : FV} (hx : x.name = a) (h : a ≠ b) (hm : mayN b = true) {o : Nat} : wOpen b ⟨[x], -1, false, o⟩ = (⟨[x, ⟨b, [], 0, true⟩], -1, false, o + 2⟩, 0) ∧ wRecs b ⟨[x], -1, false, o⟩ = [] := by
  subst hx
  have h1 : dRead b ⟨[x], -1, false, o⟩ = ([], 3) := by
    unfold dRead
    rw [if_neg nf]
    show (match mFind b [x] with | none => _ | some x => _) = _
    rw [mFind, if_neg h]; rfl
  have h2 : dApp b [] ⟨[x], -1, false, o⟩ = (⟨[x, ⟨b, [], 0, false⟩], -1, false, o + 1⟩, 0) := by
    unfold dApp
    rw [if_neg nf, if_neg (by rw [hm]; decide), if_neg n1, mApp, if_neg h]; rfl
  have h3 : dSync b ⟨[x, ⟨b, [], 0, false⟩], -1, false, o + 1⟩ = (⟨[x, ⟨b, [], 0, true⟩], -1, false, o + 2⟩, 0) := by
    unfold dSync
    rw [if_neg nf, if_neg (by rw [mFind, if_neg h, mFind, if_pos rfl]; nofun), if_neg n1, mSync, if_neg h, mSync, if_pos rfl]; rfl
  have hA : openA b ⟨[x], -1, false, o⟩ = (⟨[x, ⟨b, [], 0, true⟩], -1, false, o + 2⟩, 0) := by
    unfold openA dWrites
    rw [h1, if_pos rfl, h2, if_pos rfl]
    exact h3
  refine ⟨?_, by unfold wRecs; rw [h1]; rfl⟩
  unfold wOpen openB
  rw [hA, if_pos rfl, h1]
  rfl
theorem writes_two {nm b bs : List Nat} {x : FV} (hx : x.name ≠ nm) (hm : mayN nm = true) {s : Nat} {t : Bool} {V : List FV} {o : Nat} :
    dWrites nm bs ⟨x :: ⟨nm, b, s, t⟩ :: V, -1, false, o⟩ = (⟨x :: ⟨nm, b ++ bs, (b ++ bs).length, true⟩ :: V, -1, false, o + 2⟩, 0) := by
  have h2 : dApp nm bs ⟨x :: ⟨nm, b, s, t⟩ :: V, -1, false, o⟩ = (⟨x :: ⟨nm, b ++ bs, s, t⟩ :: V, -1, false, o + 1⟩, 0) := by
    unfold dApp
    rw [if_neg nf, if_neg (by rw [hm]; decide), if_neg n1, mApp, if_neg hx, mApp, if_pos rfl]; rfl
  unfold dWrites
  rw [h2, if_pos rfl]
  unfold dSync
  rw [if_neg nf, if_neg (by rw [mFind, if_neg hx, mFind, if_pos rfl]; nofun), if_neg n1, mSync, if_neg hx, mSync, if_pos rfl]; rfl
theorem crash_two {a b c d : List Nat} {l : Int} {o : Nat} {t : Bool} {keep : Int} : dCrash keep ⟨[⟨a, b, b.length, true⟩, ⟨c, d, d.length, true⟩], l, t, o⟩ = ⟨[⟨a, b, b.length, true⟩, ⟨c, d, d.length, true⟩], -1, false, o⟩ := by
  unfold dCrash
  rw [List.filterMap_cons, mCrash_full]
  show (⟨_ :: List.filterMap (mCrash keep) [⟨c, d, d.length, true⟩], -1, false, o⟩ : DS) = _
  rw [List.filterMap_cons, mCrash_full]
  rfl
theorem open_two {nm : List Nat} {rs : List RecP} {x : FV} (hx : x.name ≠ nm) (hf : ∀ r ∈ rs, Fine r) {s : Nat} {t : Bool} {V : List FV} {o : Nat} :
    (wOpen nm ⟨x :: ⟨nm, encFr rs, s, t⟩ :: V, -1, false, o⟩).2 = 0 ∧ wRecs nm ⟨x :: ⟨nm, encFr rs, s, t⟩ :: V, -1, false, o⟩ = rs := by
  have hr : dRead nm ⟨x :: ⟨nm, encFr rs, s, t⟩ :: V, -1, false, o⟩ = (encFr rs, 0) := by
    unfold dRead
    rw [if_neg nf]
    show (match mFind nm (x :: ⟨nm, encFr rs, s, t⟩ :: V) with | none => _ | some x => _) = _
    rw [mFind, if_neg hx, mFind, if_pos rfl]
  have hA : openA nm ⟨x :: ⟨nm, encFr rs, s, t⟩ :: V, -1, false, o⟩ = (⟨x :: ⟨nm, encFr rs, s, t⟩ :: V, -1, false, o⟩, 0) := by
    unfold openA
    rw [hr, if_neg n03]
  refine ⟨?_, by unfold wRecs; rw [hr, scanF_all hf]⟩
  unfold wOpen openB
  rw [hA, if_pos rfl, hr]
  show (if (scanF (encFr rs)).2 < (encFr rs).length then _ else _ : DS × Nat).2 = _
  rw [scanF_all hf, if_neg (Nat.lt_irrefl _)]
theorem OkS.two {a b c d : List Nat} {o N k : Nat} (ho : o ≤ N) (hN : 2 ≤ N) (hb : b.length ≤ k) (hd : d.length ≤ k) (h1 : ∀ x ∈ b, x < 256) (h2 : ∀ x ∈ d, x < 256) : OkS ⟨[⟨a, b, b.length, true⟩, ⟨c, d, d.length, true⟩], -1, false, o⟩ N k := by
  refine ⟨by show (-1 : Int) ≤ -1; decide, by show (-1 : Int) ≤ _; decide, ho, hN, fun x hx => ?_⟩
  rcases List.mem_cons.1 hx with rfl | hx
  · exact ⟨hb, Nat.le_refl _, h1⟩
  · rw [List.mem_singleton] at hx
    subst hx
    exact ⟨hd, Nat.le_refl _, h2⟩
theorem RL.swap {σ : H} {F : Nat → Prop} {a : SA} {L : List El} {V W : Nat} (h : RL σ (FW (FW F V) W) a L) : RL σ (FW (FW F W) V) a L :=
  h.other fun _ _ hf => hf.elim (fun h => h.elim (fun h => .inl (.inl h)) .inr) fun h => .inl (.inr h)
def bls (bs : List Bool) : List AV := bs.map AV.bool
theorem bls_at {bs : List Bool} {i : Nat} (h : i < bs.length) : ((bls bs).drop (i * 1)).take 1 = [.bool bs[i]] := by
  unfold bls
  rw [Nat.mul_one, ← List.map_drop, List.drop_eq_getElem_cons h]; rfl
theorem one_row {τ : H} {e : El} (h : IsR τ e.1 e.2.1 e.2.2) : IsRs (τ ++ [AO.cells (recs [e]) 3 .own]) [e] ∧ Rw (τ ++ [AO.cells (recs [e]) 3 .own]) 3 (.at τ.length 0 3) 1 (recs [e]) := ⟨fun x he => by
  rw [List.mem_singleton] at he; subst he; exact h.mono (List.prefix_append _ _), Rw.new _ _ rfl⟩
end
theorem ldB {σ : H} {p : PA} {b : Bool} {K : AV → Bool} (hp : Elem σ 1 p [.bool b]) (hK : K (.bool b) = true) : ldK Try.prog 4 σ p K = true := by
  refine ldK_leaf Try.underlying4 rfl nofun nofun hp ?_
  cases b
  · exact hK
  · exact hK
attribute [local irreducible] IntKind.wrap Int.fdiv Int.tdiv Int.tmod BitVec.ofInt appendK sliceK indexAddrK ldK storeK seenK makeSliceK lookupK updateK deleteK mapK rangeK nextK keysF
variable {D : Drawer}
theorem walTwo_run {n : Nat} {s t u : SA} {l m : List El} {ts : List Bool} (hn : l.length + m.length + 2000000 ≤ n) (hD : ByPlan Try.prog D) (hl : l.length ≤ 9223372036854775807) (hm : m.length ≤ 9223372036854775807)
    {σ : H} (hs : Rw σ 3 s l.length (recs l)) (hi : IsRs σ l) (ho : ∀ e ∈ l, OkR e.2.2) (ht : Rw σ 3 t m.length (recs m)) (hj : IsRs σ m) (hp : ∀ e ∈ m, OkR e.2.2) (hu : Rw σ 1 u ts.length (bls ts)) :
    acall Try.prog tab D n 7 [.sl s l.length, .sl t m.length, .sl u ts.length] σ isTrue = true := by
  obtain ⟨n, rfl, hn⟩ := up hn
  have nm1 : mayN [111, 110, 101] = true := by decide
  have nm2 : mayN [116, 119, 111] = true := by decide
  have ne12 : ([111, 110, 101] : List Nat) ≠ [116, 119, 111] := by decide
  conv => lhs; whnf
  refine begun_spec ?_
  conv => lhs; whnf
  refine few_spec (m := 8) rfl (by decide) (by omega) hl hs hi ho hD fun o1 a1 L σ1 p1 l1 is1 f1 r1 => ?_
  conv => lhs; whnf
  refine few_spec (m := 8) rfl (by decide) (by omega) hm (ht.mono p1) (hj.mono p1) hp hD fun o2 a2 M σ2 p2 l2 is2 f2 r2 => ?_
  conv => lhs; whnf
  refine dv_new (by omega) fun σ3 B m F3 p3 d3 g3 => ?_
  have u3 := hu.mono (p1.trans (p2.trans p3))
  have RL3 : RL σ3 F3 a1 L := RL.begin r1 (p2.trans p3) (fun id hf => Nat.le_trans (prefix_len p2) (g3 id hf)) is1 f1
  have RM3 : RL σ3 F3 a2 M := RL.begin r2 p3 g3 is2 f2
  have hO0 : OkS ⟨[], -1, false, 0⟩ 0 0 := ⟨by show (-1 : Int) ≤ -1; decide, by show (-1 : Int) ≤ _; decide, Nat.le_refl _, Nat.le_refl _, fun x hx => by cases hx⟩
  conv => lhs; whnf
  refine open_spec (name := [111, 110, 101]) hD d3 hO0 (by omega) (by omega) (by omega) (fun h => by rw [open_new nm1] at h; exact absurd rfl h) fun _ σ4 F4 W o4 w4 L4 ws4 s4 hW4 is4 e4 r4 f4 => ?_
  rw [open_new nm1] at ws4
  rw [wRecs_new] at e4
  obtain rfl : L4 = [] := List.map_eq_nil_iff.1 e4
  have RL4 := RL3.step (s4.opened hW4)
  have RM4 := RM3.step (s4.opened hW4)
  have u4 := u3.ext s4.ext
  have hO4 : OkS ⟨[⟨[111, 110, 101], [], 0, true⟩], -1, false, 2⟩ 2 0 := OkS.one rfl (Nat.le_refl _) (by decide) (Nat.le_refl _) (Nat.le_refl _) fun x hx => by cases hx
  obtain ⟨eO2, eR2⟩ := open_new2 (x := ⟨[111, 110, 101], [], 0, true⟩) (o := 2) rfl ne12 nm2
  conv => lhs; whnf
  refine open_spec (name := [116, 119, 111]) hD ws4.d hO4 (by omega) (by omega) (by omega) (fun h => by rw [eO2] at h; exact absurd rfl h) fun _ σ5 F5 W2 o5 w5 L5 ws5 s5 hW5 is5 e5 r5 f5 => ?_
  rw [eO2] at ws5
  rw [eR2] at e5
  obtain rfl : L5 = [] := List.map_eq_nil_iff.1 e5
  have hWW : W ≠ W2 := fun e => by have := get_lt ws4.w; omega
  have ws51 := ws4.step ws5.d s5
  have RL5 := RL4.step ((s5.fw W).opened hW5)
  have RM5 := RM4.step ((s5.fw W).opened hW5)
  have u5 := u4.ext s5.ext
  conv => lhs; whnf
  refine loop_rule (m := 234247) (fun q fr τ => ∃ (z1 z2 z3 : Int) (i j o : Nat) (F : Nat → Prop), z1 = (i : Int) ∧ z2 = (j : Int) ∧ z3 = ((i + j : Nat) : Int) ∧ i ≤ L.length ∧ j ≤ M.length ∧ (L.length - i) + (M.length - j) = q ∧ o ≤ 4 + 2 * (i + j) ∧
      WS τ B m ⟨[⟨[111, 110, 101], encFr (rlE (L.take i)), (encFr (rlE (L.take i))).length, true⟩, ⟨[116, 119, 111], encFr (rlE (M.take j)), (encFr (rlE (M.take j))).length, true⟩], -1, false, o⟩ F W [111, 110, 101] i false ∧
      WalAt τ W2 B [116, 119, 111] j false ∧ ¬ F W2 ∧ RL τ (FW (FW F W) W2) a1 L ∧ RL τ (FW (FW F W) W2) a2 M ∧ Rw τ 1 u ts.length (bls ts) ∧
      fr = [.sl a1 L.length, .sl a2 M.length, .sl u ts.length, .bad, .bad, .bad, .bad, .bad, .ptr (some ⟨B, 0, 0, 4⟩), .ptr (some ⟨W, 0, 0, 4⟩), .bad, .bad, .ptr (some ⟨W2, 0, 0, 4⟩), .bad, .bad, .int .i64 z1, .int .i64 z2, .int .i64 z3, .bad, .bad, .bad, .bad, .bad, .bad, .bad, .bad, .bad, .bad, .bad, .bad, .bad, .bad, .bad, .bad, .bad, .bad, .bad, .bad, .bad, .bad, .bad, .bad, .bad, .bad, .bad, .bad, .bad, .bad, .bad, .bad, .bad, .bad, .bad, .bad, .bad, .bad, .bad, .bad, .bad, .bad, .bad, .bad, .bad, .bad, .bad, .bad, .bad, .bad, .bad, .bad, .bad, .bad, .bad, .bad, .bad, .bad, .bad, .bad, .bad, .bad, .bad, .bad, .bad, .bad, .bad, .bad, .bad, .bad, .bad, .bad, .bad, .bad, .bad, .bad, .bad, .bad, .bad, .bad, .bad, .bad, .bad, .bad, .bad, .bad, .bad, .bad, .bad, .bad, .bad, .bad, .bad, .bad, .bad, .bad, .bad, .bad, .bad, .bad, .bad, .bad, .bad, .bad, .bad, .bad, .bad, .bad, .bad, .bad, .bad, .bad, .bad, .bad, .bad, .bad]) ?_ _ (L.length + M.length) _ _ (by omega)
      ⟨_, _, _, 0, 0, 4, F5, rfl, rfl, rfl, Nat.zero_le _, Nat.zero_le _, by omega, by omega, ws51, ws5.w, ws5.f, RL5, RM5, u5, rfl⟩
  rintro q fr τ C ⟨z1, z2, z3, i, j, o, F, rfl, rfl, rfl, hil, hjl, hq, hoo, ws, wt, nF2, RLi, RMi, uu, rfl⟩ next fin
  have eLi := encL_small (L := L.take i) fun e he => f1 e (List.mem_of_mem_take he)
  have eMj := encL_small (L := M.take j) fun e he => f2 e (List.mem_of_mem_take he)
  rw [List.length_take] at eLi eMj
  have bLi : ∀ b ∈ encFr (rlE (L.take i)), b < 256 := encFr_ok fun e he => (f1 e (List.mem_of_mem_take he)).ok
  have bMj : ∀ b ∈ encFr (rlE (M.take j)), b < 256 := encFr_ok fun e he => (f2 e (List.mem_of_mem_take he)).ok
  have hOi : OkS ⟨[⟨[111, 110, 101], encFr (rlE (L.take i)), (encFr (rlE (L.take i))).length, true⟩, ⟨[116, 119, 111], encFr (rlE (M.take j)), (encFr (rlE (M.take j))).length, true⟩], -1, false, o⟩ 100 4000 := OkS.two (by omega) (by decide) (by omega) (by omega) bLi bMj
  have ek : IntKind.i64.wrap (((i + j : Nat) : Int) + 1) = ((i + j + 1 : Nat) : Int) := inc_i64 (by omega)
  conv => lhs; whnf
  by_cases hend : ¬ i < L.length ∧ ¬ j < M.length
  · rw [show decide ((i : Int) < (L.length : Int)) = false from decide_eq_false (by omega)]
    conv => lhs; whnf
    rw [show decide ((j : Int) < (M.length : Int)) = false from decide_eq_false (by omega)]
    conv => lhs; whnf
    refine fin _ _ _ nofun ?_
    rw [show L.take i = L from List.take_of_length_le (by omega), show M.take j = M from List.take_of_length_le (by omega)] at ws hOi
    conv => lhs; whnf
    refine dv_crash hD ws.d hOi (by omega) (by omega) fun σ6 F6 d6 s6 => ?_
    have hO6 := hOi.crash (keep := 0)
    rw [crash_two] at d6 hO6
    have RL6 := RLi.drop.drop.step s6
    have RM6 := RMi.drop.drop.step s6
    conv => lhs; whnf
    refine open_spec (name := [111, 110, 101]) hD d6 hO6 (by omega) (by omega) (by omega) (fun h => absurd open_one h) fun _ σ7 F7 W7 o7 w7 A ws7 s7 hW7 is7 e7 r7 f7 => ?_
    rw [open_all (fineL f1)] at ws7
    rw [wRecs_one, scanF_all (fineL f1)] at e7
    replace e7 : rlE A = rlE L := e7
    have RA7 := RL.ofScan r7 (fun id h => (f7 id h).1) is7 e7 (fineR f1)
    have RL7 := RL6.step s7
    have RM7 := RM6.step s7
    obtain ⟨eO8, eR8⟩ := open_two (nm := [116, 119, 111]) (x := ⟨[111, 110, 101], encFr (rlE L), (encFr (rlE L)).length, true⟩) (rs := rlE M) ne12 (fineL f2) (s := (encFr (rlE M)).length) (t := true) (V := []) (o := o)
    conv => lhs; whnf
    refine open_spec (name := [116, 119, 111]) hD ws7.d hO6 (by omega) (by omega) (by omega) (fun h => absurd eO8 h) fun _ σ8 F8 W8 o8 w8 Bq ws8 s8 hW8 is8 e8 r8 f8 => ?_
    rw [eR8] at e8
    have RA8 := RA7.step s8
    have RL8 := RL7.step s8
    have RM8 := RM7.step s8
    have hAl : A.length = L.length := by have := congrArg List.length e7; simpa using this
    have hBl : Bq.length = M.length := by have := congrArg List.length e8; simpa using this
    conv => lhs; whnf
    refine eqs_spec (by omega) (by omega) RA8.rw RL8.rw RA8.is RL8.is (fine50 e7 (fineR f1)) hD fun σ9 p9 => ?_
    rw [recsEq_iff.2 e7]
    conv => lhs; whnf
    refine eqs_spec (by omega) (by omega) (r8.rw.mono p9) (RM8.mono p9).rw (is8.mono p9) (RM8.mono p9).is (fine50 e8 (fineR f2)) hD fun σA pA => ?_
    rw [recsEq_iff.2 e8]
    conv => lhs; whnf
  by_cases hli : i < L.length
  · rw [show decide ((i : Int) < (L.length : Int)) = true from decide_eq_true (by omega)]
    conv => lhs; whnf
    by_cases hjm : j = M.length
    · have hlt : i < L.length := by omega
      rw [show ((j : Int) == (M.length : Int)) = true by rw [beq_iff_eq]; omega]
      conv => lhs; whnf
      refine idx60 RLi.rw rfl hlt fun p hp' => ?_
      conv => lhs; whnf
      generalize hle : L[i] = e at hp'
      have he : FineE e.2.2 := hle ▸ f1 _ (List.getElem_mem hlt)
      have hie : IsR τ e.1 e.2.1 e.2.2 := hle ▸ RLi.is _ (List.getElem_mem hlt)
      have hE := rlE_take hlt
      rw [hle] at hE
      obtain ⟨iC, rC⟩ := one_row hie
      have pC := List.prefix_append τ [AO.cells (recs [e]) 3 .own]
      have eR : encFr (rlE [e]) = putF e.2.2 := by show putF e.2.2 ++ [] = _; rw [List.append_nil]
      have hpl := putF_len he.may
      refine ldE hp' ?_
      conv => lhs; whnf
      refine wadd_spec (L := [e]) hD (by show 1 + _ ≤ _; omega) (by show 1 ≤ _; omega) (ws.mono pC) rfl hOi (by decide) (by omega) rC iC (fun x hx => by rw [List.mem_singleton] at hx; subst hx; exact he.ok) (fun _ => by rw [eR]; omega) (fun ⟨x, hx, hn⟩ => by rw [List.mem_singleton] at hx; subst hx; rw [he.may] at hn; cases hn) fun _ σ6 F6 ws6 s6 => ?_
      rw [eR, writes_one nm1] at ws6 ⊢
      have hEn : encFr (rlE (L.take i)) ++ putF e.2.2 = encFr (rlE (L.take (i + 1))) := by rw [hE, encFr_snoc]
      rw [hEn] at ws6
      have T6 := (Stp.pre (F := FW F W) pC).trans s6
      have n6 : ¬ FW F W W2 := fun h => h.elim nF2 fun e => hWW e.symm
      have wt6 : WalAt σ6 W2 B [116, 119, 111] j false := (T6.keep _ (get_lt wt) n6).trans wt
      have nF6 : ¬ F6 W2 := fun h => (T6.fp _ (.inl h)).elim n6 fun h => by have := get_lt wt; omega
      conv => lhs; whnf
      refine next (q - 1) _ _ (by omega) ⟨_, _, _, i + 1, j, o + 2, F6, inc_i64 (by omega), rfl, ek.trans (by rw [show i + 1 + j = i + j + 1 by omega]), by omega, hjl, by omega, by omega, ws6, wt6, nF6, RLi.step (T6.fw W2), RMi.step (T6.fw W2), uu.ext T6.ext, rfl⟩
    rw [show ((j : Int) == (M.length : Int)) = false by rw [beq_eq_false_iff_ne]; omega]
    have hlt2 : j < M.length := by omega
    conv => lhs; whnf
    by_cases hlt : ¬ i < L.length
    · rw [show decide ((i : Int) < (L.length : Int)) = false from decide_eq_false (by omega)]
      conv => lhs; whnf
      refine idx60 RMi.rw rfl hlt2 fun p hp' => ?_
      conv => lhs; whnf
      generalize hle : M[j] = e at hp'
      have he : FineE e.2.2 := hle ▸ f2 _ (List.getElem_mem hlt2)
      have hie : IsR τ e.1 e.2.1 e.2.2 := hle ▸ RMi.is _ (List.getElem_mem hlt2)
      have hE := rlE_take hlt2
      rw [hle] at hE
      obtain ⟨iC, rC⟩ := one_row hie
      have pC := List.prefix_append τ [AO.cells (recs [e]) 3 .own]
      have eR : encFr (rlE [e]) = putF e.2.2 := by show putF e.2.2 ++ [] = _; rw [List.append_nil]
      have hpl := putF_len he.may
      have wsT : WS τ B m ⟨[⟨[111, 110, 101], encFr (rlE (L.take i)), (encFr (rlE (L.take i))).length, true⟩, ⟨[116, 119, 111], encFr (rlE (M.take j)), (encFr (rlE (M.take j))).length, true⟩], -1, false, o⟩ F W2 [116, 119, 111] j false := ⟨ws.d, wt, nF2⟩
      refine ldE hp' ?_
      conv => lhs; whnf
      refine wadd_spec (L := [e]) hD (by show 1 + _ ≤ _; omega) (by show 1 ≤ _; omega) (wsT.mono pC) rfl hOi (by decide) (by omega) rC iC (fun x hx => by rw [List.mem_singleton] at hx; subst hx; exact he.ok) (fun _ => by rw [eR]; omega) (fun ⟨x, hx, hn⟩ => by rw [List.mem_singleton] at hx; subst hx; rw [he.may] at hn; cases hn) fun _ σ6 F6 ws6 s6 => ?_
      rw [eR, writes_two ne12 nm2] at ws6 ⊢
      have hEn : encFr (rlE (M.take j)) ++ putF e.2.2 = encFr (rlE (M.take (j + 1))) := by rw [hE, encFr_snoc]
      rw [hEn] at ws6
      have T6 := (Stp.pre (F := FW F W2) pC).trans s6
      have n6 : ¬ FW F W2 W := fun h => h.elim ws.f hWW
      have wt6 : WalAt σ6 W B [111, 110, 101] i false := (T6.keep _ (get_lt ws.w) n6).trans ws.w
      have nF6 : ¬ F6 W := fun h => (T6.fp _ (.inl h)).elim n6 fun h => by have := get_lt ws.w; omega
      conv => lhs; whnf
      refine next (q - 1) _ _ (by omega) ⟨_, _, _, i, j + 1, o + 2, F6, rfl, inc_i64 (by omega), ek.trans (by rw [show i + (j + 1) = i + j + 1 by omega]), hil, by omega, by omega, by omega, ⟨ws6.d, wt6, nF6⟩, ws6.w, ws6.f, (RLi.swap.step (T6.fw W)).swap, (RMi.swap.step (T6.fw W)).swap, uu.ext T6.ext, rfl⟩
    replace hlt : i < L.length := by omega
    rw [show decide ((i : Int) < (L.length : Int)) = true from decide_eq_true (by omega)]
    conv => lhs; whnf
    by_cases hkt : ¬ i + j < ts.length
    · rw [show decide (((i + j : Nat) : Int) ≥ (ts.length : Int)) = true from decide_eq_true (by omega)]
      conv => lhs; whnf
      refine idx60 RLi.rw rfl hlt fun p hp' => ?_
      conv => lhs; whnf
      generalize hle : L[i] = e at hp'
      have he : FineE e.2.2 := hle ▸ f1 _ (List.getElem_mem hlt)
      have hie : IsR τ e.1 e.2.1 e.2.2 := hle ▸ RLi.is _ (List.getElem_mem hlt)
      have hE := rlE_take hlt
      rw [hle] at hE
      obtain ⟨iC, rC⟩ := one_row hie
      have pC := List.prefix_append τ [AO.cells (recs [e]) 3 .own]
      have eR : encFr (rlE [e]) = putF e.2.2 := by show putF e.2.2 ++ [] = _; rw [List.append_nil]
      have hpl := putF_len he.may
      refine ldE hp' ?_
      conv => lhs; whnf
      refine wadd_spec (L := [e]) hD (by show 1 + _ ≤ _; omega) (by show 1 ≤ _; omega) (ws.mono pC) rfl hOi (by decide) (by omega) rC iC (fun x hx => by rw [List.mem_singleton] at hx; subst hx; exact he.ok) (fun _ => by rw [eR]; omega) (fun ⟨x, hx, hn⟩ => by rw [List.mem_singleton] at hx; subst hx; rw [he.may] at hn; cases hn) fun _ σ6 F6 ws6 s6 => ?_
      rw [eR, writes_one nm1] at ws6 ⊢
      have hEn : encFr (rlE (L.take i)) ++ putF e.2.2 = encFr (rlE (L.take (i + 1))) := by rw [hE, encFr_snoc]
      rw [hEn] at ws6
      have T6 := (Stp.pre (F := FW F W) pC).trans s6
      have n6 : ¬ FW F W W2 := fun h => h.elim nF2 fun e => hWW e.symm
      have wt6 : WalAt σ6 W2 B [116, 119, 111] j false := (T6.keep _ (get_lt wt) n6).trans wt
      have nF6 : ¬ F6 W2 := fun h => (T6.fp _ (.inl h)).elim n6 fun h => by have := get_lt wt; omega
      conv => lhs; whnf
      refine next (q - 1) _ _ (by omega) ⟨_, _, _, i + 1, j, o + 2, F6, inc_i64 (by omega), rfl, ek.trans (by rw [show i + 1 + j = i + j + 1 by omega]), by omega, hjl, by omega, by omega, ws6, wt6, nF6, RLi.step (T6.fw W2), RMi.step (T6.fw W2), uu.ext T6.ext, rfl⟩
    rw [show decide (((i + j : Nat) : Int) ≥ (ts.length : Int)) = false from decide_eq_false (by omega)]
    replace hkt : i + j < ts.length := by omega
    conv => lhs; whnf
    refine indexAddrK_rw Try.underlying57 (fun _ => rfl) uu rfl hkt (bls_at hkt) fun p0 hp0 => ?_
    conv => lhs; whnf
    refine ldB hp0 ?_
    cases hb : ts[i + j] with
    | true =>
      conv => lhs; whnf
      refine idx60 RLi.rw rfl hlt fun p hp' => ?_
      conv => lhs; whnf
      generalize hle : L[i] = e at hp'
      have he : FineE e.2.2 := hle ▸ f1 _ (List.getElem_mem hlt)
      have hie : IsR τ e.1 e.2.1 e.2.2 := hle ▸ RLi.is _ (List.getElem_mem hlt)
      have hE := rlE_take hlt
      rw [hle] at hE
      obtain ⟨iC, rC⟩ := one_row hie
      have pC := List.prefix_append τ [AO.cells (recs [e]) 3 .own]
      have eR : encFr (rlE [e]) = putF e.2.2 := by show putF e.2.2 ++ [] = _; rw [List.append_nil]
      have hpl := putF_len he.may
      refine ldE hp' ?_
      conv => lhs; whnf
      refine wadd_spec (L := [e]) hD (by show 1 + _ ≤ _; omega) (by show 1 ≤ _; omega) (ws.mono pC) rfl hOi (by decide) (by omega) rC iC (fun x hx => by rw [List.mem_singleton] at hx; subst hx; exact he.ok) (fun _ => by rw [eR]; omega) (fun ⟨x, hx, hn⟩ => by rw [List.mem_singleton] at hx; subst hx; rw [he.may] at hn; cases hn) fun _ σ6 F6 ws6 s6 => ?_
      rw [eR, writes_one nm1] at ws6 ⊢
      have hEn : encFr (rlE (L.take i)) ++ putF e.2.2 = encFr (rlE (L.take (i + 1))) := by rw [hE, encFr_snoc]
      rw [hEn] at ws6
      have T6 := (Stp.pre (F := FW F W) pC).trans s6
      have n6 : ¬ FW F W W2 := fun h => h.elim nF2 fun e => hWW e.symm
      have wt6 : WalAt σ6 W2 B [116, 119, 111] j false := (T6.keep _ (get_lt wt) n6).trans wt
      have nF6 : ¬ F6 W2 := fun h => (T6.fp _ (.inl h)).elim n6 fun h => by have := get_lt wt; omega
      conv => lhs; whnf
      refine next (q - 1) _ _ (by omega) ⟨_, _, _, i + 1, j, o + 2, F6, inc_i64 (by omega), rfl, ek.trans (by rw [show i + 1 + j = i + j + 1 by omega]), by omega, hjl, by omega, by omega, ws6, wt6, nF6, RLi.step (T6.fw W2), RMi.step (T6.fw W2), uu.ext T6.ext, rfl⟩
    | false =>
      conv => lhs; whnf
      refine idx60 RMi.rw rfl hlt2 fun p hp' => ?_
      conv => lhs; whnf
      generalize hle : M[j] = e at hp'
      have he : FineE e.2.2 := hle ▸ f2 _ (List.getElem_mem hlt2)
      have hie : IsR τ e.1 e.2.1 e.2.2 := hle ▸ RMi.is _ (List.getElem_mem hlt2)
      have hE := rlE_take hlt2
      rw [hle] at hE
      obtain ⟨iC, rC⟩ := one_row hie
      have pC := List.prefix_append τ [AO.cells (recs [e]) 3 .own]
      have eR : encFr (rlE [e]) = putF e.2.2 := by show putF e.2.2 ++ [] = _; rw [List.append_nil]
      have hpl := putF_len he.may
      have wsT : WS τ B m ⟨[⟨[111, 110, 101], encFr (rlE (L.take i)), (encFr (rlE (L.take i))).length, true⟩, ⟨[116, 119, 111], encFr (rlE (M.take j)), (encFr (rlE (M.take j))).length, true⟩], -1, false, o⟩ F W2 [116, 119, 111] j false := ⟨ws.d, wt, nF2⟩
      refine ldE hp' ?_
      conv => lhs; whnf
      refine wadd_spec (L := [e]) hD (by show 1 + _ ≤ _; omega) (by show 1 ≤ _; omega) (wsT.mono pC) rfl hOi (by decide) (by omega) rC iC (fun x hx => by rw [List.mem_singleton] at hx; subst hx; exact he.ok) (fun _ => by rw [eR]; omega) (fun ⟨x, hx, hn⟩ => by rw [List.mem_singleton] at hx; subst hx; rw [he.may] at hn; cases hn) fun _ σ6 F6 ws6 s6 => ?_
      rw [eR, writes_two ne12 nm2] at ws6 ⊢
      have hEn : encFr (rlE (M.take j)) ++ putF e.2.2 = encFr (rlE (M.take (j + 1))) := by rw [hE, encFr_snoc]
      rw [hEn] at ws6
      have T6 := (Stp.pre (F := FW F W2) pC).trans s6
      have n6 : ¬ FW F W2 W := fun h => h.elim ws.f hWW
      have wt6 : WalAt σ6 W B [111, 110, 101] i false := (T6.keep _ (get_lt ws.w) n6).trans ws.w
      have nF6 : ¬ F6 W := fun h => (T6.fp _ (.inl h)).elim n6 fun h => by have := get_lt ws.w; omega
      conv => lhs; whnf
      refine next (q - 1) _ _ (by omega) ⟨_, _, _, i, j + 1, o + 2, F6, rfl, inc_i64 (by omega), ek.trans (by rw [show i + (j + 1) = i + j + 1 by omega]), hil, by omega, by omega, by omega, ⟨ws6.d, wt6, nF6⟩, ws6.w, ws6.f, (RLi.swap.step (T6.fw W)).swap, (RMi.swap.step (T6.fw W)).swap, uu.ext T6.ext, rfl⟩
  · rw [show decide ((i : Int) < (L.length : Int)) = false from decide_eq_false (by omega)]
    conv => lhs; whnf
    rw [show decide ((j : Int) < (M.length : Int)) = true from decide_eq_true (by omega)]
    conv => lhs; whnf
    have hlt2 : j < M.length := by omega
    rw [show ((j : Int) == (M.length : Int)) = false by rw [beq_eq_false_iff_ne]; omega]
    conv => lhs; whnf
    rw [show decide ((i : Int) < (L.length : Int)) = false from decide_eq_false (by omega)]
    conv => lhs; whnf
    refine idx60 RMi.rw rfl hlt2 fun p hp' => ?_
    conv => lhs; whnf
    generalize hle : M[j] = e at hp'
    have he : FineE e.2.2 := hle ▸ f2 _ (List.getElem_mem hlt2)
    have hie : IsR τ e.1 e.2.1 e.2.2 := hle ▸ RMi.is _ (List.getElem_mem hlt2)
    have hE := rlE_take hlt2
    rw [hle] at hE
    obtain ⟨iC, rC⟩ := one_row hie
    have pC := List.prefix_append τ [AO.cells (recs [e]) 3 .own]
    have eR : encFr (rlE [e]) = putF e.2.2 := by show putF e.2.2 ++ [] = _; rw [List.append_nil]
    have hpl := putF_len he.may
    have wsT : WS τ B m ⟨[⟨[111, 110, 101], encFr (rlE (L.take i)), (encFr (rlE (L.take i))).length, true⟩, ⟨[116, 119, 111], encFr (rlE (M.take j)), (encFr (rlE (M.take j))).length, true⟩], -1, false, o⟩ F W2 [116, 119, 111] j false := ⟨ws.d, wt, nF2⟩
    refine ldE hp' ?_
    conv => lhs; whnf
    refine wadd_spec (L := [e]) hD (by show 1 + _ ≤ _; omega) (by show 1 ≤ _; omega) (wsT.mono pC) rfl hOi (by decide) (by omega) rC iC (fun x hx => by rw [List.mem_singleton] at hx; subst hx; exact he.ok) (fun _ => by rw [eR]; omega) (fun ⟨x, hx, hn⟩ => by rw [List.mem_singleton] at hx; subst hx; rw [he.may] at hn; cases hn) fun _ σ6 F6 ws6 s6 => ?_
    rw [eR, writes_two ne12 nm2] at ws6 ⊢
    have hEn : encFr (rlE (M.take j)) ++ putF e.2.2 = encFr (rlE (M.take (j + 1))) := by rw [hE, encFr_snoc]
    rw [hEn] at ws6
    have T6 := (Stp.pre (F := FW F W2) pC).trans s6
    have n6 : ¬ FW F W2 W := fun h => h.elim ws.f hWW
    have wt6 : WalAt σ6 W B [111, 110, 101] i false := (T6.keep _ (get_lt ws.w) n6).trans ws.w
    have nF6 : ¬ F6 W := fun h => (T6.fp _ (.inl h)).elim n6 fun h => by have := get_lt ws.w; omega
    conv => lhs; whnf
    refine next (q - 1) _ _ (by omega) ⟨_, _, _, i, j + 1, o + 2, F6, rfl, inc_i64 (by omega), ek.trans (by rw [show i + (j + 1) = i + j + 1 by omega]), hil, by omega, by omega, by omega, ⟨ws6.d, wt6, nF6⟩, ws6.w, ws6.f, (RLi.swap.step (T6.fw W)).swap, (RMi.swap.step (T6.fw W)).swap, uu.ext T6.ext, rfl⟩
theorem arg_bools {σ : H} {a : AV} (ha : ArgShp Try.prog σ 9 57 a) : ∃ (s : SA) (ts : List Bool), a = .sl s ts.length ∧ Rw σ 1 s ts.length (bls ts) := by
  obtain ⟨s, m, xs, rfl, h2, h3, h4⟩ := arg_slice Try.underlying57 ha
  have key : ∀ {m : Nat} {xs : List AV}, xs.length = m → (∀ i, i < m → Shp Try.prog σ 8 4 ((xs.drop (i * 1)).take 1)) → ∃ ts : List Bool, xs = bls ts := by
    intro m
    induction m with
    | zero => intro xs hl _; exact ⟨[], by simpa [bls] using List.length_eq_zero_iff.1 hl⟩
    | succ m ih =>
      intro xs hl h
      cases xs with
      | nil => simp at hl
      | cons x xs =>
        obtain ⟨ys, rfl⟩ := ih (xs := xs) (by simpa using hl) (fun i hi => by simpa using h (i + 1) (by omega))
        have h0 := h 0 (by omega)
        unfold Shp at h0
        rw [Try.underlying4] at h0
        obtain ⟨b, h1⟩ := h0
        refine ⟨b :: ys, ?_⟩
        simp at h1
        rw [h1]; rfl
  have hl := h2.len
  have hc : Try.prog.cellsOf 4 = 1 := rfl
  rw [hc] at h4 h2 hl
  rw [Nat.mul_one] at hl
  obtain ⟨ts, rfl⟩ := key hl h4
  have : ts.length = m := by simpa [bls] using hl
  subst this
  exact ⟨s, ts, rfl, h2⟩
theorem walTwo_law (σ : H) (vs : List AV) (h : ArgsShp Try.prog σ 9 [34, 34, 57] vs) : ∃ n, acall Try.prog tab (drawRegion Try.prog) n 7 vs σ isTrue = true := by
  obtain ⟨a, vs, rfl, ha, h⟩ := args_cons h
  obtain ⟨b, vs, rfl, hb, h⟩ := args_cons h
  obtain ⟨c, vs, rfl, hc, h⟩ := args_cons h
  obtain rfl := args_nil h
  obtain ⟨s, l, rfl, a1, a2, a3, a4⟩ := arg_recs ha
  obtain ⟨t, m, rfl, b1, b2, b3, b4⟩ := arg_recs hb
  obtain ⟨u, ts, rfl, c1⟩ := arg_bools hc
  exact ⟨l.length + m.length + 2000000, walTwo_run (Nat.le_refl _) (byPlan _) a4 b4 a1 a2 a3 b1 b2 b3 c1⟩
end Go.Proofs.Ytahhajakgakdhaa
