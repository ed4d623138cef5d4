/- A node takes entries. -/
import Derived.Test.YthmdecfiijgaoaaGreatL20S
namespace Go.Proofs.YthmdecfiijgaoaaGreat
set_option maxRecDepth 100000
open Go Go.AM Go.AM.St
open Go.Raft (termAt fromL newer len)
attribute [local irreducible] IntKind.wrap Int.fdiv Int.tdiv Int.tmod BitVec.ofInt appendK sliceK indexAddrK ldK storeK seenK makeSliceK lookupK updateK clearK buildSliceK
variable {D : Drawer} {σ : H} {B BL b m : Nat} {o : Option Nat} {w : AM.SA} {V : List En} {bx : Option PA} {v : NSR}
theorem NVx.neL (h : NVx σ B BL o w V bx b m v) : ¬ fpL BL o B := by
  rintro (e | e)
  · have := h.hL.hB
    rw [← e, h.hB] at this
    cases this
  · subst e
    have := h.hL.hO.2.2.1
    rw [h.hB] at this
    exact absurd (Option.some.inj this) (fun h => by injection h with _ h2 _; cases h2)
theorem shape9 {σ : H} {BL id : Nat} {o : Option Nat} {w : AM.SA} {V : List En} {xs : List AV} {md : Md} (h : LogV σ BL o w V) (g : σ[id]? = some (AO.cells xs 9 md)) : ¬ fpL BL o id := by
  rintro (e | e)
  · have := h.hB
    rw [← e, g] at this
    exact absurd (Option.some.inj this) (fun h => by injection h with _ h2 _; cases h2)
  · subst e
    have := h.hO.2.2.1
    rw [g] at this
    exact absurd (Option.some.inj this) (fun h => by injection h with _ h2 _; cases h2)
/-- One letter is told. -/
theorem Post.one {σ τ : H} {F F' : Nat → Prop} {B : Nat} {v' : NSR} {l : Lm} (s : Stq F F' σ τ) (nv : NV τ B v' F') (hf : ∀ id, F' id → id < τ.length) (he : l.es = []) : Post F σ (τ ++ [AO.cells (lc (l, .nil)) 9 .own]) B v' F' (some τ.length) (.at τ.length 0 9) [(l, .nil)] := by
  have pp := List.prefix_append τ [AO.cells (lc (l, AM.SA.nil)) 9 .own]
  refine ⟨s.trans (Stq.pre _ pp), nv.stq (Stq.pre (fun _ => False) pp) fun _ _ h => h, ⟨⟨rfl, s.len, get_new _ _, by simp⟩, fun y hy => ?_, fun y hy => ?_⟩, fun id e hF => ?_, fun y hy id off z e => ?_⟩
  · rw [List.mem_singleton] at hy; subst hy
    exact IsLt.nil he
  · rw [List.mem_singleton] at hy; subst hy
    exact Frsh.nil _
  · cases e
    exact absurd (hf _ hF) (Nat.lt_irrefl _)
  · rw [List.mem_singleton] at hy; subst hy
    cases e
theorem IsLt.set15 {σ : H} {x : Lm × AM.SA} (h : IsLt σ x) {B : Nat} {xs ys : List AV} {md md' : Md} (hr : σ[B]? = some (AO.cells xs 15 md)) : IsLt (σ.set B (.cells ys 15 md')) x := by
  have key : ∀ {z n : Nat} {a : AM.SA} {cs : List AV}, z ≠ 15 → Rw σ z a n cs → Rw (σ.set B (.cells ys 15 md')) z a n cs := fun hz h => Rwset h hr hz
  obtain ⟨V, h1, h2, h3⟩ := h
  exact ⟨V, h1, key (by decide) h2, fun e he => ⟨key (by decide) (h3 e he).nums, key (by decide) (h3 e he).texts⟩⟩
theorem stLetter {σ : H} {h d : Nat} {x x' : Lm × AM.SA} {t : TypeId} {i : TypeInfo} {val : AV} {K : H → Bool} (hi : Tryz.prog.info? t = some i) (hz : i.size = 1) (hd : d + 1 ≤ 9) (hl : isLeaf val = true) (hr : σ[h]? = some (AO.cells (lc x) 9 .own))
    (he : (lc x).set d val = lc x') (hK : K (σ.set h (.cells (lc x') 9 .own)) = true) : storeK Tryz.prog t (.ptr (some ⟨h, 0, d, 9⟩)) val σ K = true := by
  refine storeK_of hi hz hd hr hl (by show 0 + d < 9; omega) ?_
  rw [Nat.zero_add, he]
  exact hK
theorem min_if (a b : Int) : (if b < a then b else a) = min a b := by omega
theorem max_if (a b : Int) : (if a < b then b else a) = max a b := by omega
theorem commit_he {v : NSR} {BL : Nat} {bx : Option PA} {last c : Int} : (nc v BL bx).set 7 (.int .i64 (if v.commit < (if last < c then last else c) then (if last < c then last else c) else v.commit)) = nc { v with commit := max v.commit (min c last) } BL bx := by
  rw [min_if, max_if]; rfl
set_option maxHeartbeats 2000000 in
theorem added_spec {n : Nat} {x : Lm × AM.SA} (hn : 2300 ≤ n) (hD : ByPlan Tryz.prog D) (h : NVx σ B BL o w V bx b m v) (ok : OkN v) (hx : IsLt σ x) (hx1 : x.1.es.length ≤ 1000) (hx2 : Small x.1.es) {K : AV → H → Bool}
    (hK : ∀ F' o' ws ls σ', Post (fpN B BL o b m v.role) σ σ' B (Go.Raft.added v x.1).1 F' o' ws ls → ls.map (·.1) = (Go.Raft.added v x.1).2 → K (.sl ws ls.length) σ' = true) :
    acall Tryz.prog tab D n 60 [.ptr (some ⟨B, 0, 0, 15⟩), .agg (lc x)] σ K = true := by
  obtain ⟨n, rfl, hn⟩ := up hn
  have hl2 := h.lenV
  have hl3 := ok.l
  have ltB := h.ltB
  have pa := List.prefix_append σ [AO.cells (lc x) 9 .own]
  have hBa := prefix_get pa h.hB
  have ga := get_new σ (AO.cells (lc x) 9 .own)
  repeat ((conv => lhs; whnf); first | ((with_reducible apply gLd); apply ldF; (focus (rfl)); (focus (rfl)); (focus (rfl)); (focus ((repeat (first | assumption | exact get_new _ _ | refine get_old ?_ _ | refine get_set ?_ _ | refine get_set_ne ?_ (by first | assumption | (simp <;> omega) | omega) _ | refine prefix_get (by assumption) ?_)); done)); (focus (rfl))) | ((with_reducible apply gSt); first | (apply st_int; (focus (rfl)); (focus (rfl)); (focus (decide)); (focus ((repeat (first | assumption | exact get_new _ _ | refine get_old ?_ _ | refine get_set ?_ _ | refine get_set_ne ?_ (by first | assumption | (simp <;> omega) | omega) _ | refine prefix_get (by assumption) ?_)); done)); (focus (decide))) | (apply st_sl; (focus (rfl)); (focus (rfl)); (focus (decide)); (focus ((repeat (first | assumption | exact get_new _ _ | refine get_old ?_ _ | refine get_set ?_ _ | refine get_set_ne ?_ (by first | assumption | (simp <;> omega) | omega) _ | refine prefix_get (by assumption) ?_)); done)); (focus (decide))) | (apply st_bool; (focus (rfl)); (focus (rfl)); (focus (decide)); (focus ((repeat (first | assumption | exact get_new _ _ | refine get_old ?_ _ | refine get_set ?_ _ | refine get_set_ne ?_ (by first | assumption | (simp <;> omega) | omega) _ | refine prefix_get (by assumption) ?_)); done)); (focus (decide))) | (apply st_ptr; (focus (rfl)); (focus (rfl)); (focus (decide)); (focus ((repeat (first | assumption | exact get_new _ _ | refine get_old ?_ _ | refine get_set ?_ _ | refine get_set_ne ?_ (by first | assumption | (simp <;> omega) | omega) _ | refine prefix_get (by assumption) ?_)); done)); (focus (decide)))) | refine ByPlan.go (by assumption) plan60x1 ord60x1 ?_ | refine ByPlan.go (by assumption) plan60x2 ord60x2 ?_ | refine ByPlan.go (by assumption) plan60x4 ord60x4 ?_ | refine ByPlan.go (by assumption) plan60x5 ord60x5 ?_ | refine ByPlan.go (by assumption) plan60x8 ord60x8 ?_ | (refine and_true ?_ ?_; (focus ((repeat (first | refine all_skip rfl ?_ | exact rfl | (refine all_cons ?_ ?_; (focus ((conv => lhs; whnf); ((with_reducible apply gLd); apply ldF; (focus (rfl)); (focus (rfl)); (focus (rfl)); (focus ((repeat (first | assumption | exact get_new _ _ | refine get_old ?_ _ | refine get_set ?_ _ | refine get_set_ne ?_ (by first | assumption | (simp <;> omega) | omega) _ | refine prefix_get (by assumption) ?_)); done)); (focus (rfl))); (first | exact cs_int rfl | exact cs_ptr rfl | exact cs_sl rfl | exact cs_str rfl | exact cs_bool rfl | exact cs_map rfl | exact same_int _ _ | exact same_sl _ _ | exact same_str _ | exact same_ptr _ | rfl)))))); done))))
  conv => lhs; whnf
  have gb := get_new (σ ++ [AO.cells (lc x) 9 .own]) (AO.cells lc0 9 .own)
  have hBb := get_old hBa (AO.cells lc0 9 .own)
  have gab := get_old ga (AO.cells lc0 9 .own)
  refine storeLt (τ := σ ++ [AO.cells (lc x) 9 .own] ++ [AO.cells lc0 9 .own]) (h := (σ ++ [AO.cells (lc x) 9 .own]).length) (x := (Go.Raft.addedL v x.1 false 0, .nil)) rfl gb ?_
  have gc := get_set gb (AO.cells (lc (Go.Raft.addedL v x.1 false 0, AM.SA.nil)) 9 .own)
  have lL : σ.length < (σ ++ [AO.cells (lc x) 9 .own]).length := by simp
  have g1 := get_set_ne gab (show σ.length ≠ (σ ++ [AO.cells (lc x) 9 .own]).length by omega) (AO.cells (lc (Go.Raft.addedL v x.1 false 0, AM.SA.nil)) 9 .own)
  have p0 : σ <+: ((σ ++ [AO.cells (lc x) 9 .own]) ++ [AO.cells lc0 9 .own]).set (σ ++ [AO.cells (lc x) 9 .own]).length (AO.cells (lc (Go.Raft.addedL v x.1 false 0, AM.SA.nil)) 9 .own) := prefix_set (List.IsPrefix.trans pa (List.prefix_append _ _)) (by omega) _
  generalize ((σ ++ [AO.cells (lc x) 9 .own]) ++ [AO.cells lc0 9 .own]).set (σ ++ [AO.cells (lc x) 9 .own]).length (AO.cells (lc (Go.Raft.addedL v x.1 false 0, AM.SA.nil)) 9 .own) = τ at gc g1 p0 ⊢
  clear gb hBb gab ga hBa pa
  have h1 := h.mono p0
  have hB1 := h1.hB
  have hx' := hx.mono p0
  repeat ((conv => lhs; whnf); first | ((with_reducible apply gLd); apply ldF; (focus (rfl)); (focus (rfl)); (focus (rfl)); (focus ((repeat (first | assumption | exact get_new _ _ | refine get_old ?_ _ | refine get_set ?_ _ | refine get_set_ne ?_ (by first | assumption | (simp <;> omega) | omega) _ | refine prefix_get (by assumption) ?_)); done)); (focus (rfl))) | ((with_reducible apply gSt); first | (apply st_int; (focus (rfl)); (focus (rfl)); (focus (decide)); (focus ((repeat (first | assumption | exact get_new _ _ | refine get_old ?_ _ | refine get_set ?_ _ | refine get_set_ne ?_ (by first | assumption | (simp <;> omega) | omega) _ | refine prefix_get (by assumption) ?_)); done)); (focus (decide))) | (apply st_sl; (focus (rfl)); (focus (rfl)); (focus (decide)); (focus ((repeat (first | assumption | exact get_new _ _ | refine get_old ?_ _ | refine get_set ?_ _ | refine get_set_ne ?_ (by first | assumption | (simp <;> omega) | omega) _ | refine prefix_get (by assumption) ?_)); done)); (focus (decide))) | (apply st_bool; (focus (rfl)); (focus (rfl)); (focus (decide)); (focus ((repeat (first | assumption | exact get_new _ _ | refine get_old ?_ _ | refine get_set ?_ _ | refine get_set_ne ?_ (by first | assumption | (simp <;> omega) | omega) _ | refine prefix_get (by assumption) ?_)); done)); (focus (decide))) | (apply st_ptr; (focus (rfl)); (focus (rfl)); (focus (decide)); (focus ((repeat (first | assumption | exact get_new _ _ | refine get_old ?_ _ | refine get_set ?_ _ | refine get_set_ne ?_ (by first | assumption | (simp <;> omega) | omega) _ | refine prefix_get (by assumption) ?_)); done)); (focus (decide)))) | refine ByPlan.go (by assumption) plan60x1 ord60x1 ?_ | refine ByPlan.go (by assumption) plan60x2 ord60x2 ?_ | refine ByPlan.go (by assumption) plan60x4 ord60x4 ?_ | refine ByPlan.go (by assumption) plan60x5 ord60x5 ?_ | refine ByPlan.go (by assumption) plan60x8 ord60x8 ?_ | (refine and_true ?_ ?_; (focus ((repeat (first | refine all_skip rfl ?_ | exact rfl | (refine all_cons ?_ ?_; (focus ((conv => lhs; whnf); ((with_reducible apply gLd); apply ldF; (focus (rfl)); (focus (rfl)); (focus (rfl)); (focus ((repeat (first | assumption | exact get_new _ _ | refine get_old ?_ _ | refine get_set ?_ _ | refine get_set_ne ?_ (by first | assumption | (simp <;> omega) | omega) _ | refine prefix_get (by assumption) ?_)); done)); (focus (rfl))); (first | exact cs_int rfl | exact cs_ptr rfl | exact cs_sl rfl | exact cs_str rfl | exact cs_bool rfl | exact cs_map rfl | exact same_int _ _ | exact same_sl _ _ | exact same_str _ | exact same_ptr _ | rfl)))))); done))))
  conv => lhs; whnf
  by_cases c0 : x.1.term < v.term
  · refine bif_pos (decide_eq_true c0) ?_
    conv => lhs; whnf
    refine ldLt gc ?_
    conv => lhs; whnf
    refine bs38 (x := (Go.Raft.addedL v x.1 false 0, .nil)) ?_
    conv => lhs; whnf
    have e : Go.Raft.added v x.1 = (v, [Go.Raft.addedL v x.1 false 0]) := by unfold Go.Raft.added; rw [if_pos c0]
    exact hK _ _ _ [(Go.Raft.addedL v x.1 false 0, .nil)] _ (by rw [e]; exact Post.one (Stq.pre _ p0) ⟨BL, o, w, V, bx, b, m, h1, rfl⟩ (fun id hf => fpN_ne h1 hf) rfl) (by rw [e]; rfl)
  refine bif_neg (decide_eq_false c0) ?_
  repeat ((conv => lhs; whnf); first | ((with_reducible apply gLd); apply ldF; (focus (rfl)); (focus (rfl)); (focus (rfl)); (focus ((repeat (first | assumption | exact get_new _ _ | refine get_old ?_ _ | refine get_set ?_ _ | refine get_set_ne ?_ (by first | assumption | (simp <;> omega) | omega) _ | refine prefix_get (by assumption) ?_)); done)); (focus (rfl))) | ((with_reducible apply gSt); first | (apply st_int; (focus (rfl)); (focus (rfl)); (focus (decide)); (focus ((repeat (first | assumption | exact get_new _ _ | refine get_old ?_ _ | refine get_set ?_ _ | refine get_set_ne ?_ (by first | assumption | (simp <;> omega) | omega) _ | refine prefix_get (by assumption) ?_)); done)); (focus (decide))) | (apply st_sl; (focus (rfl)); (focus (rfl)); (focus (decide)); (focus ((repeat (first | assumption | exact get_new _ _ | refine get_old ?_ _ | refine get_set ?_ _ | refine get_set_ne ?_ (by first | assumption | (simp <;> omega) | omega) _ | refine prefix_get (by assumption) ?_)); done)); (focus (decide))) | (apply st_bool; (focus (rfl)); (focus (rfl)); (focus (decide)); (focus ((repeat (first | assumption | exact get_new _ _ | refine get_old ?_ _ | refine get_set ?_ _ | refine get_set_ne ?_ (by first | assumption | (simp <;> omega) | omega) _ | refine prefix_get (by assumption) ?_)); done)); (focus (decide))) | (apply st_ptr; (focus (rfl)); (focus (rfl)); (focus (decide)); (focus ((repeat (first | assumption | exact get_new _ _ | refine get_old ?_ _ | refine get_set ?_ _ | refine get_set_ne ?_ (by first | assumption | (simp <;> omega) | omega) _ | refine prefix_get (by assumption) ?_)); done)); (focus (decide)))) | refine ByPlan.go (by assumption) plan60x1 ord60x1 ?_ | refine ByPlan.go (by assumption) plan60x2 ord60x2 ?_ | refine ByPlan.go (by assumption) plan60x4 ord60x4 ?_ | refine ByPlan.go (by assumption) plan60x5 ord60x5 ?_ | refine ByPlan.go (by assumption) plan60x8 ord60x8 ?_ | (refine and_true ?_ ?_; (focus ((repeat (first | refine all_skip rfl ?_ | exact rfl | (refine all_cons ?_ ?_; (focus ((conv => lhs; whnf); ((with_reducible apply gLd); apply ldF; (focus (rfl)); (focus (rfl)); (focus (rfl)); (focus ((repeat (first | assumption | exact get_new _ _ | refine get_old ?_ _ | refine get_set ?_ _ | refine get_set_ne ?_ (by first | assumption | (simp <;> omega) | omega) _ | refine prefix_get (by assumption) ?_)); done)); (focus (rfl))); (first | exact cs_int rfl | exact cs_ptr rfl | exact cs_sl rfl | exact cs_str rfl | exact cs_bool rfl | exact cs_map rfl | exact same_int _ _ | exact same_sl _ _ | exact same_str _ | exact same_ptr _ | rfl)))))); done))))
  conv => lhs; whnf
  have nB1 : σ.length ≠ B := by omega
  have nB2 : (σ ++ [AO.cells (lc x) 9 .own]).length ≠ B := by omega
  have lτ : (σ ++ [AO.cells (lc x) 9 .own]).length < τ.length := get_lt gc
  have lτ0 := prefix_len p0
  refine stNode (v' := { v with role := 1 }) (bx' := bx) (BL' := BL) rfl rfl (by decide) rfl hB1 rfl ?_
  have hB2 := get_set hB1 (AO.cells (nc { v with role := 1 } BL bx) 15 .own)
  have h2 := h1.set (v' := { v with role := 1 }) (bx' := bx) rfl fun hr => by cases hr
  have g2 := get_set_ne g1 nB1 (AO.cells (nc { v with role := 1 } BL bx) 15 .own)
  have gc2 := get_set_ne gc nB2 (AO.cells (nc { v with role := 1 } BL bx) 15 .own)
  have hx2' := hx'.set15 (ys := nc { v with role := 1 } BL bx) (md' := .own) hB1
  have s2 : Stq (fpN B BL o b m v.role) (fpN B BL o b m v.role) τ (τ.set B (AO.cells (nc { v with role := 1 } BL bx) 15 .own)) := Stq.set (.inl rfl) hB1 (by decide)
  generalize τ.set B (AO.cells (nc { v with role := 1 } BL bx) 15 .own) = τ2 at hB2 h2 g2 gc2 hx2' s2 ⊢
  repeat ((conv => lhs; whnf); first | ((with_reducible apply gLd); apply ldF; (focus (rfl)); (focus (rfl)); (focus (rfl)); (focus ((repeat (first | assumption | exact get_new _ _ | refine get_old ?_ _ | refine get_set ?_ _ | refine get_set_ne ?_ (by first | assumption | (simp <;> omega) | omega) _ | refine prefix_get (by assumption) ?_)); done)); (focus (rfl))) | ((with_reducible apply gSt); first | (apply st_int; (focus (rfl)); (focus (rfl)); (focus (decide)); (focus ((repeat (first | assumption | exact get_new _ _ | refine get_old ?_ _ | refine get_set ?_ _ | refine get_set_ne ?_ (by first | assumption | (simp <;> omega) | omega) _ | refine prefix_get (by assumption) ?_)); done)); (focus (decide))) | (apply st_sl; (focus (rfl)); (focus (rfl)); (focus (decide)); (focus ((repeat (first | assumption | exact get_new _ _ | refine get_old ?_ _ | refine get_set ?_ _ | refine get_set_ne ?_ (by first | assumption | (simp <;> omega) | omega) _ | refine prefix_get (by assumption) ?_)); done)); (focus (decide))) | (apply st_bool; (focus (rfl)); (focus (rfl)); (focus (decide)); (focus ((repeat (first | assumption | exact get_new _ _ | refine get_old ?_ _ | refine get_set ?_ _ | refine get_set_ne ?_ (by first | assumption | (simp <;> omega) | omega) _ | refine prefix_get (by assumption) ?_)); done)); (focus (decide))) | (apply st_ptr; (focus (rfl)); (focus (rfl)); (focus (decide)); (focus ((repeat (first | assumption | exact get_new _ _ | refine get_old ?_ _ | refine get_set ?_ _ | refine get_set_ne ?_ (by first | assumption | (simp <;> omega) | omega) _ | refine prefix_get (by assumption) ?_)); done)); (focus (decide)))) | refine ByPlan.go (by assumption) plan60x1 ord60x1 ?_ | refine ByPlan.go (by assumption) plan60x2 ord60x2 ?_ | refine ByPlan.go (by assumption) plan60x4 ord60x4 ?_ | refine ByPlan.go (by assumption) plan60x5 ord60x5 ?_ | refine ByPlan.go (by assumption) plan60x8 ord60x8 ?_ | (refine and_true ?_ ?_; (focus ((repeat (first | refine all_skip rfl ?_ | exact rfl | (refine all_cons ?_ ?_; (focus ((conv => lhs; whnf); ((with_reducible apply gLd); apply ldF; (focus (rfl)); (focus (rfl)); (focus (rfl)); (focus ((repeat (first | assumption | exact get_new _ _ | refine get_old ?_ _ | refine get_set ?_ _ | refine get_set_ne ?_ (by first | assumption | (simp <;> omega) | omega) _ | refine prefix_get (by assumption) ?_)); done)); (focus (rfl))); (first | exact cs_int rfl | exact cs_ptr rfl | exact cs_sl rfl | exact cs_str rfl | exact cs_bool rfl | exact cs_map rfl | exact same_int _ _ | exact same_sl _ _ | exact same_str _ | exact same_ptr _ | rfl)))))); done))))
  conv => lhs; whnf
  refine stNode (v' := { v with role := 1, leader := x.1.src }) (bx' := bx) (BL' := BL) rfl rfl (by decide) rfl hB2 rfl ?_
  have hB3 := get_set hB2 (AO.cells (nc { v with role := 1, leader := x.1.src } BL bx) 15 .own)
  have h3 := h2.set (v' := { v with role := 1, leader := x.1.src }) (bx' := bx) rfl fun hr => by cases hr
  have g3 := get_set_ne g2 nB1 (AO.cells (nc { v with role := 1, leader := x.1.src } BL bx) 15 .own)
  have gc3 := get_set_ne gc2 nB2 (AO.cells (nc { v with role := 1, leader := x.1.src } BL bx) 15 .own)
  have hx3' := hx2'.set15 (ys := nc { v with role := 1, leader := x.1.src } BL bx) (md' := .own) hB2
  have s3 : Stq (fpN B BL o b m v.role) (fpN B BL o b m v.role) τ2 (τ2.set B (AO.cells (nc { v with role := 1, leader := x.1.src } BL bx) 15 .own)) := Stq.set (.inl rfl) hB2 (by decide)
  generalize τ2.set B (AO.cells (nc { v with role := 1, leader := x.1.src } BL bx) 15 .own) = τ3 at hB3 h3 g3 gc3 hx3' s3 ⊢
  repeat ((conv => lhs; whnf); first | ((with_reducible apply gLd); apply ldF; (focus (rfl)); (focus (rfl)); (focus (rfl)); (focus ((repeat (first | assumption | exact get_new _ _ | refine get_old ?_ _ | refine get_set ?_ _ | refine get_set_ne ?_ (by first | assumption | (simp <;> omega) | omega) _ | refine prefix_get (by assumption) ?_)); done)); (focus (rfl))) | ((with_reducible apply gSt); first | (apply st_int; (focus (rfl)); (focus (rfl)); (focus (decide)); (focus ((repeat (first | assumption | exact get_new _ _ | refine get_old ?_ _ | refine get_set ?_ _ | refine get_set_ne ?_ (by first | assumption | (simp <;> omega) | omega) _ | refine prefix_get (by assumption) ?_)); done)); (focus (decide))) | (apply st_sl; (focus (rfl)); (focus (rfl)); (focus (decide)); (focus ((repeat (first | assumption | exact get_new _ _ | refine get_old ?_ _ | refine get_set ?_ _ | refine get_set_ne ?_ (by first | assumption | (simp <;> omega) | omega) _ | refine prefix_get (by assumption) ?_)); done)); (focus (decide))) | (apply st_bool; (focus (rfl)); (focus (rfl)); (focus (decide)); (focus ((repeat (first | assumption | exact get_new _ _ | refine get_old ?_ _ | refine get_set ?_ _ | refine get_set_ne ?_ (by first | assumption | (simp <;> omega) | omega) _ | refine prefix_get (by assumption) ?_)); done)); (focus (decide))) | (apply st_ptr; (focus (rfl)); (focus (rfl)); (focus (decide)); (focus ((repeat (first | assumption | exact get_new _ _ | refine get_old ?_ _ | refine get_set ?_ _ | refine get_set_ne ?_ (by first | assumption | (simp <;> omega) | omega) _ | refine prefix_get (by assumption) ?_)); done)); (focus (decide)))) | refine ByPlan.go (by assumption) plan60x1 ord60x1 ?_ | refine ByPlan.go (by assumption) plan60x2 ord60x2 ?_ | refine ByPlan.go (by assumption) plan60x4 ord60x4 ?_ | refine ByPlan.go (by assumption) plan60x5 ord60x5 ?_ | refine ByPlan.go (by assumption) plan60x8 ord60x8 ?_ | (refine and_true ?_ ?_; (focus ((repeat (first | refine all_skip rfl ?_ | exact rfl | (refine all_cons ?_ ?_; (focus ((conv => lhs; whnf); ((with_reducible apply gLd); apply ldF; (focus (rfl)); (focus (rfl)); (focus (rfl)); (focus ((repeat (first | assumption | exact get_new _ _ | refine get_old ?_ _ | refine get_set ?_ _ | refine get_set_ne ?_ (by first | assumption | (simp <;> omega) | omega) _ | refine prefix_get (by assumption) ?_)); done)); (focus (rfl))); (first | exact cs_int rfl | exact cs_ptr rfl | exact cs_sl rfl | exact cs_str rfl | exact cs_bool rfl | exact cs_map rfl | exact same_int _ _ | exact same_sl _ _ | exact same_str _ | exact same_ptr _ | rfl)))))); done))))
  conv => lhs; whnf
  refine stNode (v' := { v with role := 1, leader := x.1.src, silent := 0 }) (bx' := bx) (BL' := BL) rfl rfl (by decide) rfl hB3 rfl ?_
  have hB4 := get_set hB3 (AO.cells (nc { v with role := 1, leader := x.1.src, silent := 0 } BL bx) 15 .own)
  have h4 := h3.set (v' := { v with role := 1, leader := x.1.src, silent := 0 }) (bx' := bx) rfl fun hr => by cases hr
  have g4 := get_set_ne g3 nB1 (AO.cells (nc { v with role := 1, leader := x.1.src, silent := 0 } BL bx) 15 .own)
  have gc4 := get_set_ne gc3 nB2 (AO.cells (nc { v with role := 1, leader := x.1.src, silent := 0 } BL bx) 15 .own)
  have hx4' := hx3'.set15 (ys := nc { v with role := 1, leader := x.1.src, silent := 0 } BL bx) (md' := .own) hB3
  have s4 : Stq (fpN B BL o b m v.role) (fpN B BL o b m v.role) τ3 (τ3.set B (AO.cells (nc { v with role := 1, leader := x.1.src, silent := 0 } BL bx) 15 .own)) := Stq.set (.inl rfl) hB3 (by decide)
  generalize τ3.set B (AO.cells (nc { v with role := 1, leader := x.1.src, silent := 0 } BL bx) 15 .own) = τ4 at hB4 h4 g4 gc4 hx4' s4 ⊢
  have s04 : Stq (fpN B BL o b m v.role) (fpN B BL o b m v.role) σ τ4 := (Stq.pre _ p0).trans (s2.trans (s3.trans s4))
  clear s2 s3 s4 h2 h3 hB2 hB3 g2 g3 gc2 gc3
  obtain ⟨W0, e1, e2, e3, e4⟩ := hx4'.len
  repeat ((conv => lhs; whnf); first | ((with_reducible apply gLd); apply ldF; (focus (rfl)); (focus (rfl)); (focus (rfl)); (focus ((repeat (first | assumption | exact get_new _ _ | refine get_old ?_ _ | refine get_set ?_ _ | refine get_set_ne ?_ (by first | assumption | (simp <;> omega) | omega) _ | refine prefix_get (by assumption) ?_)); done)); (focus (rfl))) | ((with_reducible apply gSt); first | (apply st_int; (focus (rfl)); (focus (rfl)); (focus (decide)); (focus ((repeat (first | assumption | exact get_new _ _ | refine get_old ?_ _ | refine get_set ?_ _ | refine get_set_ne ?_ (by first | assumption | (simp <;> omega) | omega) _ | refine prefix_get (by assumption) ?_)); done)); (focus (decide))) | (apply st_sl; (focus (rfl)); (focus (rfl)); (focus (decide)); (focus ((repeat (first | assumption | exact get_new _ _ | refine get_old ?_ _ | refine get_set ?_ _ | refine get_set_ne ?_ (by first | assumption | (simp <;> omega) | omega) _ | refine prefix_get (by assumption) ?_)); done)); (focus (decide))) | (apply st_bool; (focus (rfl)); (focus (rfl)); (focus (decide)); (focus ((repeat (first | assumption | exact get_new _ _ | refine get_old ?_ _ | refine get_set ?_ _ | refine get_set_ne ?_ (by first | assumption | (simp <;> omega) | omega) _ | refine prefix_get (by assumption) ?_)); done)); (focus (decide))) | (apply st_ptr; (focus (rfl)); (focus (rfl)); (focus (decide)); (focus ((repeat (first | assumption | exact get_new _ _ | refine get_old ?_ _ | refine get_set ?_ _ | refine get_set_ne ?_ (by first | assumption | (simp <;> omega) | omega) _ | refine prefix_get (by assumption) ?_)); done)); (focus (decide)))) | refine ByPlan.go (by assumption) plan60x1 ord60x1 ?_ | refine ByPlan.go (by assumption) plan60x2 ord60x2 ?_ | refine ByPlan.go (by assumption) plan60x4 ord60x4 ?_ | refine ByPlan.go (by assumption) plan60x5 ord60x5 ?_ | refine ByPlan.go (by assumption) plan60x8 ord60x8 ?_ | (refine and_true ?_ ?_; (focus ((repeat (first | refine all_skip rfl ?_ | exact rfl | (refine all_cons ?_ ?_; (focus ((conv => lhs; whnf); ((with_reducible apply gLd); apply ldF; (focus (rfl)); (focus (rfl)); (focus (rfl)); (focus ((repeat (first | assumption | exact get_new _ _ | refine get_old ?_ _ | refine get_set ?_ _ | refine get_set_ne ?_ (by first | assumption | (simp <;> omega) | omega) _ | refine prefix_get (by assumption) ?_)); done)); (focus (rfl))); (first | exact cs_int rfl | exact cs_ptr rfl | exact cs_sl rfl | exact cs_str rfl | exact cs_bool rfl | exact cs_map rfl | exact same_int _ _ | exact same_sl _ _ | exact same_str _ | exact same_ptr _ | rfl)))))); done))))
  conv => lhs; whnf
  rw [← e2]
  refine putA_spec (by omega) (by omega) (by omega) hD h4.hL e3 e4 (by rw [e1]; exact hx2) fun o5 w5 W5 r5 τ5 s5 l5 hr5 => ?_
  rw [h4.hV, e1] at hr5
  have nBL := h4.neL
  have hB5 := s5.get hB4 nBL
  have g5 : τ5[σ.length]? = some (AO.cells (lc x) 9 .own) := s5.get g4 (shape9 h4.hL g4)
  have gc5 := s5.get gc4 (shape9 h4.hL gc4)
  have s05 : Stq (fpN B BL o b m v.role) (fpN B BL o5 b m 1) σ τ5 := s04.trans (s5.up (fun id x => .inr (.inl x)) fun id x => by
    rcases x with x | x | ⟨x, _⟩
    · exact .inl (.inl x)
    · exact .inr x
    · cases x)
  have lτ5 := s5.len
  rcases hr5 with ⟨hp, rfl, hv5⟩ | ⟨f, last, l', hp, rfl, hv5⟩
  · have e : Go.Raft.added v x.1 = ({ v with role := 1, leader := x.1.src, silent := 0 }, [Go.Raft.addedL v x.1 false 0]) := by unfold Go.Raft.added; rw [if_neg c0, hp]
    have nv5 : NVx τ5 B BL o5 w5 W5 bx b m { v with role := 1, leader := x.1.src, silent := 0 } := ⟨hB5, l5, hv5, fun h => by cases h⟩
    repeat ((conv => lhs; whnf); first | ((with_reducible apply gLd); apply ldF; (focus (rfl)); (focus (rfl)); (focus (rfl)); (focus ((repeat (first | assumption | exact get_new _ _ | refine get_old ?_ _ | refine get_set ?_ _ | refine get_set_ne ?_ (by first | assumption | (simp <;> omega) | omega) _ | refine prefix_get (by assumption) ?_)); done)); (focus (rfl))) | ((with_reducible apply gSt); first | (apply st_int; (focus (rfl)); (focus (rfl)); (focus (decide)); (focus ((repeat (first | assumption | exact get_new _ _ | refine get_old ?_ _ | refine get_set ?_ _ | refine get_set_ne ?_ (by first | assumption | (simp <;> omega) | omega) _ | refine prefix_get (by assumption) ?_)); done)); (focus (decide))) | (apply st_sl; (focus (rfl)); (focus (rfl)); (focus (decide)); (focus ((repeat (first | assumption | exact get_new _ _ | refine get_old ?_ _ | refine get_set ?_ _ | refine get_set_ne ?_ (by first | assumption | (simp <;> omega) | omega) _ | refine prefix_get (by assumption) ?_)); done)); (focus (decide))) | (apply st_bool; (focus (rfl)); (focus (rfl)); (focus (decide)); (focus ((repeat (first | assumption | exact get_new _ _ | refine get_old ?_ _ | refine get_set ?_ _ | refine get_set_ne ?_ (by first | assumption | (simp <;> omega) | omega) _ | refine prefix_get (by assumption) ?_)); done)); (focus (decide))) | (apply st_ptr; (focus (rfl)); (focus (rfl)); (focus (decide)); (focus ((repeat (first | assumption | exact get_new _ _ | refine get_old ?_ _ | refine get_set ?_ _ | refine get_set_ne ?_ (by first | assumption | (simp <;> omega) | omega) _ | refine prefix_get (by assumption) ?_)); done)); (focus (decide)))) | refine ByPlan.go (by assumption) plan60x1 ord60x1 ?_ | refine ByPlan.go (by assumption) plan60x2 ord60x2 ?_ | refine ByPlan.go (by assumption) plan60x4 ord60x4 ?_ | refine ByPlan.go (by assumption) plan60x5 ord60x5 ?_ | refine ByPlan.go (by assumption) plan60x8 ord60x8 ?_ | (refine and_true ?_ ?_; (focus ((repeat (first | refine all_skip rfl ?_ | exact rfl | (refine all_cons ?_ ?_; (focus ((conv => lhs; whnf); ((with_reducible apply gLd); apply ldF; (focus (rfl)); (focus (rfl)); (focus (rfl)); (focus ((repeat (first | assumption | exact get_new _ _ | refine get_old ?_ _ | refine get_set ?_ _ | refine get_set_ne ?_ (by first | assumption | (simp <;> omega) | omega) _ | refine prefix_get (by assumption) ?_)); done)); (focus (rfl))); (first | exact cs_int rfl | exact cs_ptr rfl | exact cs_sl rfl | exact cs_str rfl | exact cs_bool rfl | exact cs_map rfl | exact same_int _ _ | exact same_sl _ _ | exact same_str _ | exact same_ptr _ | rfl)))))); done))))
    conv => lhs; whnf
    refine ldLt gc5 ?_
    conv => lhs; whnf
    refine bs38 (x := (Go.Raft.addedL v x.1 false 0, .nil)) ?_
    conv => lhs; whnf
    exact hK _ _ _ [(Go.Raft.addedL v x.1 false 0, .nil)] _ (by rw [e]; exact Post.one s05 ⟨BL, o5, w5, W5, bx, b, m, nv5, rfl⟩ (fun id hf => fpN_ne nv5 hf) rfl) (by rw [e]; rfl)
  have e : Go.Raft.added v x.1 = ({ v with role := 1, leader := x.1.src, silent := 0, log := l', commit := max v.commit (min x.1.commit last) }, [Go.Raft.addedL v x.1 true last]) := by unfold Go.Raft.added; rw [if_neg c0, hp]
  have nL1 : ∀ z : AO, ∀ id, fpL BL o5 id → id ≠ (σ ++ [AO.cells (lc x) 9 .own]).length := fun _ id hf e => shape9 l5 gc5 (e ▸ hf)
  conv => lhs; whnf
  refine stLetter (h := (σ ++ [AO.cells (lc x) 9 .own]).length) (x' := ({ Go.Raft.addedL v x.1 false 0 with yes := true }, .nil)) rfl rfl (by decide) rfl gc5 rfl ?_
  have gc6 := get_set gc5 (AO.cells (lc ({ Go.Raft.addedL v x.1 false 0 with yes := true }, AM.SA.nil)) 9 .own)
  have s6 : Stq (fun id => id = (σ ++ [AO.cells (lc x) 9 .own]).length) (fun id => id = (σ ++ [AO.cells (lc x) 9 .own]).length) τ5 (τ5.set (σ ++ [AO.cells (lc x) 9 .own]).length (AO.cells (lc ({ Go.Raft.addedL v x.1 false 0 with yes := true }, AM.SA.nil)) 9 .own)) := Stq.set rfl gc5 (by decide)
  generalize τ5.set (σ ++ [AO.cells (lc x) 9 .own]).length (AO.cells (lc ({ Go.Raft.addedL v x.1 false 0 with yes := true }, AM.SA.nil)) 9 .own) = τ6 at gc6 s6 ⊢
  conv => lhs; whnf
  refine stLetter (h := (σ ++ [AO.cells (lc x) 9 .own]).length) (x' := (Go.Raft.addedL v x.1 true last, .nil)) rfl rfl (by decide) rfl gc6 rfl ?_
  have gc7 := get_set gc6 (AO.cells (lc (Go.Raft.addedL v x.1 true last, AM.SA.nil)) 9 .own)
  have s7 : Stq (fun id => id = (σ ++ [AO.cells (lc x) 9 .own]).length) (fun id => id = (σ ++ [AO.cells (lc x) 9 .own]).length) τ6 (τ6.set (σ ++ [AO.cells (lc x) 9 .own]).length (AO.cells (lc (Go.Raft.addedL v x.1 true last, AM.SA.nil)) 9 .own)) := Stq.set rfl gc6 (by decide)
  generalize τ6.set (σ ++ [AO.cells (lc x) 9 .own]).length (AO.cells (lc (Go.Raft.addedL v x.1 true last, AM.SA.nil)) 9 .own) = τ7 at gc7 s7 ⊢
  have s57 := s6.trans s7
  have hB7 := s57.get hB5 (by omega)
  have g7 := s57.get g5 (by omega)
  have l7 := l5.stq s57 fun id hf e => nL1 .dead id hf e
  repeat ((conv => lhs; whnf); first | ((with_reducible apply gLd); apply ldF; (focus (rfl)); (focus (rfl)); (focus (rfl)); (focus ((repeat (first | assumption | exact get_new _ _ | refine get_old ?_ _ | refine get_set ?_ _ | refine get_set_ne ?_ (by first | assumption | (simp <;> omega) | omega) _ | refine prefix_get (by assumption) ?_)); done)); (focus (rfl))) | ((with_reducible apply gSt); first | (apply st_int; (focus (rfl)); (focus (rfl)); (focus (decide)); (focus ((repeat (first | assumption | exact get_new _ _ | refine get_old ?_ _ | refine get_set ?_ _ | refine get_set_ne ?_ (by first | assumption | (simp <;> omega) | omega) _ | refine prefix_get (by assumption) ?_)); done)); (focus (decide))) | (apply st_sl; (focus (rfl)); (focus (rfl)); (focus (decide)); (focus ((repeat (first | assumption | exact get_new _ _ | refine get_old ?_ _ | refine get_set ?_ _ | refine get_set_ne ?_ (by first | assumption | (simp <;> omega) | omega) _ | refine prefix_get (by assumption) ?_)); done)); (focus (decide))) | (apply st_bool; (focus (rfl)); (focus (rfl)); (focus (decide)); (focus ((repeat (first | assumption | exact get_new _ _ | refine get_old ?_ _ | refine get_set ?_ _ | refine get_set_ne ?_ (by first | assumption | (simp <;> omega) | omega) _ | refine prefix_get (by assumption) ?_)); done)); (focus (decide))) | (apply st_ptr; (focus (rfl)); (focus (rfl)); (focus (decide)); (focus ((repeat (first | assumption | exact get_new _ _ | refine get_old ?_ _ | refine get_set ?_ _ | refine get_set_ne ?_ (by first | assumption | (simp <;> omega) | omega) _ | refine prefix_get (by assumption) ?_)); done)); (focus (decide)))) | refine ByPlan.go (by assumption) plan60x1 ord60x1 ?_ | refine ByPlan.go (by assumption) plan60x2 ord60x2 ?_ | refine ByPlan.go (by assumption) plan60x4 ord60x4 ?_ | refine ByPlan.go (by assumption) plan60x5 ord60x5 ?_ | refine ByPlan.go (by assumption) plan60x8 ord60x8 ?_ | (refine and_true ?_ ?_; (focus ((repeat (first | refine all_skip rfl ?_ | exact rfl | (refine all_cons ?_ ?_; (focus ((conv => lhs; whnf); ((with_reducible apply gLd); apply ldF; (focus (rfl)); (focus (rfl)); (focus (rfl)); (focus ((repeat (first | assumption | exact get_new _ _ | refine get_old ?_ _ | refine get_set ?_ _ | refine get_set_ne ?_ (by first | assumption | (simp <;> omega) | omega) _ | refine prefix_get (by assumption) ?_)); done)); (focus (rfl))); (first | exact cs_int rfl | exact cs_ptr rfl | exact cs_sl rfl | exact cs_str rfl | exact cs_bool rfl | exact cs_map rfl | exact same_int _ _ | exact same_sl _ _ | exact same_str _ | exact same_ptr _ | rfl)))))); done))))
  conv => lhs; whnf
  refine stNode (v' := { v with role := 1, leader := x.1.src, silent := 0, commit := max v.commit (min x.1.commit last) }) (bx' := bx) (BL' := BL) rfl rfl (by decide) rfl hB7 commit_he ?_
  have hB8 := get_set hB7 (AO.cells (nc { v with role := 1, leader := x.1.src, silent := 0, commit := max v.commit (min x.1.commit last) } BL bx) 15 .own)
  have gc8 := get_set_ne gc7 nB2 (AO.cells (nc { v with role := 1, leader := x.1.src, silent := 0, commit := max v.commit (min x.1.commit last) } BL bx) 15 .own)
  have s8 : Stq (fun id => id = B) (fun id => id = B) τ7 (τ7.set B (AO.cells (nc { v with role := 1, leader := x.1.src, silent := 0, commit := max v.commit (min x.1.commit last) } BL bx) 15 .own)) := Stq.set rfl hB7 (by decide)
  have l8 := l7.stq s8 fun id hf e => by
    subst e
    rcases hf with e | e
    · have := l7.hB
      rw [← e, hB7] at this
      exact absurd (Option.some.inj this) (fun h => by injection h with _ h2 _; cases h2)
    · subst e
      have := l7.hO.2.2.1
      rw [hB7] at this
      exact absurd (Option.some.inj this) (fun h => by injection h with _ h2 _; cases h2)
  generalize τ7.set B (AO.cells (nc { v with role := 1, leader := x.1.src, silent := 0, commit := max v.commit (min x.1.commit last) } BL bx) 15 .own) = τ8 at hB8 gc8 s8 l8 ⊢
  repeat ((conv => lhs; whnf); first | ((with_reducible apply gLd); apply ldF; (focus (rfl)); (focus (rfl)); (focus (rfl)); (focus ((repeat (first | assumption | exact get_new _ _ | refine get_old ?_ _ | refine get_set ?_ _ | refine get_set_ne ?_ (by first | assumption | (simp <;> omega) | omega) _ | refine prefix_get (by assumption) ?_)); done)); (focus (rfl))) | ((with_reducible apply gSt); first | (apply st_int; (focus (rfl)); (focus (rfl)); (focus (decide)); (focus ((repeat (first | assumption | exact get_new _ _ | refine get_old ?_ _ | refine get_set ?_ _ | refine get_set_ne ?_ (by first | assumption | (simp <;> omega) | omega) _ | refine prefix_get (by assumption) ?_)); done)); (focus (decide))) | (apply st_sl; (focus (rfl)); (focus (rfl)); (focus (decide)); (focus ((repeat (first | assumption | exact get_new _ _ | refine get_old ?_ _ | refine get_set ?_ _ | refine get_set_ne ?_ (by first | assumption | (simp <;> omega) | omega) _ | refine prefix_get (by assumption) ?_)); done)); (focus (decide))) | (apply st_bool; (focus (rfl)); (focus (rfl)); (focus (decide)); (focus ((repeat (first | assumption | exact get_new _ _ | refine get_old ?_ _ | refine get_set ?_ _ | refine get_set_ne ?_ (by first | assumption | (simp <;> omega) | omega) _ | refine prefix_get (by assumption) ?_)); done)); (focus (decide))) | (apply st_ptr; (focus (rfl)); (focus (rfl)); (focus (decide)); (focus ((repeat (first | assumption | exact get_new _ _ | refine get_old ?_ _ | refine get_set ?_ _ | refine get_set_ne ?_ (by first | assumption | (simp <;> omega) | omega) _ | refine prefix_get (by assumption) ?_)); done)); (focus (decide)))) | refine ByPlan.go (by assumption) plan60x1 ord60x1 ?_ | refine ByPlan.go (by assumption) plan60x2 ord60x2 ?_ | refine ByPlan.go (by assumption) plan60x4 ord60x4 ?_ | refine ByPlan.go (by assumption) plan60x5 ord60x5 ?_ | refine ByPlan.go (by assumption) plan60x8 ord60x8 ?_ | (refine and_true ?_ ?_; (focus ((repeat (first | refine all_skip rfl ?_ | exact rfl | (refine all_cons ?_ ?_; (focus ((conv => lhs; whnf); ((with_reducible apply gLd); apply ldF; (focus (rfl)); (focus (rfl)); (focus (rfl)); (focus ((repeat (first | assumption | exact get_new _ _ | refine get_old ?_ _ | refine get_set ?_ _ | refine get_set_ne ?_ (by first | assumption | (simp <;> omega) | omega) _ | refine prefix_get (by assumption) ?_)); done)); (focus (rfl))); (first | exact cs_int rfl | exact cs_ptr rfl | exact cs_sl rfl | exact cs_str rfl | exact cs_bool rfl | exact cs_map rfl | exact same_int _ _ | exact same_sl _ _ | exact same_str _ | exact same_ptr _ | rfl)))))); done))))
  conv => lhs; whnf
  refine ldLt gc8 ?_
  conv => lhs; whnf
  refine bs38 (x := (Go.Raft.addedL v x.1 true last, .nil)) ?_
  conv => lhs; whnf
  have nv8 : NVx τ8 B BL o5 w5 W5 bx b m { v with role := 1, leader := x.1.src, silent := 0, log := l', commit := max v.commit (min x.1.commit last) } := ⟨hB8, l8, hv5, fun h => by cases h⟩
  have s08 : Stq (fpN B BL o b m v.role) (fpN B BL o5 b m 1) σ τ8 := by
    refine ⟨Nat.le_trans s05.len (Nat.le_trans s57.len s8.len), fun id hid hf => ?_, s05.fp, fun a b r hr => s8.rcd _ _ _ (s57.rcd _ _ _ (s05.rcd _ _ _ hr))⟩
    have hid5 : id < τ5.length := Nat.lt_of_lt_of_le hid s05.len
    rw [s8.keep id (Nat.lt_of_lt_of_le hid5 s57.len) (fun e => hf (.inl e)), s57.keep id hid5 (by omega), s05.keep id hid hf]
  exact hK _ _ _ [(Go.Raft.addedL v x.1 true last, .nil)] _ (by rw [e]; exact Post.one s08 ⟨BL, o5, w5, W5, bx, b, m, nv8, rfl⟩ (fun id hf => fpN_ne nv8 hf) rfl) (by rw [e]; rfl)
end Go.Proofs.YthmdecfiijgaoaaGreat
