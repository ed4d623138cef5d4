/- A node: Tick, Propose, Take. -/
import Derived.Test.YthmdecfiijgaoaaGreatL20V
namespace Go.Proofs.YthmdecfiijgaoaaGreat
set_option maxRecDepth 100000
open Go Go.AM Go.AM.St
open Go.Raft (termAt fromL newer len upd)
theorem LogV.set15 {σ : H} {B BL : Nat} {o : Option Nat} {w : AM.SA} {V : List En} {xs ys : List AV} {md md' : Md} (h : LogV σ BL o w V) (hr : σ[B]? = some (AO.cells xs 15 md)) : LogV (σ.set B (.cells ys 15 md')) BL o w V := by
  refine h.stq (F := fun id => id = B) (F' := fun id => id = B) (Stq.set rfl hr (by decide)) fun id x e => ?_
  subst e
  rcases x with e | e
  · have := h.hB
    rw [← e, hr] at this
    exact absurd (Option.some.inj this) (fun h => by injection h with _ h2 _; cases h2)
  · subst e
    have := h.hO.2.2.1
    rw [hr] at this
    exact absurd (Option.some.inj this) (fun h => by injection h with _ h2 _; cases h2)
attribute [local irreducible] IntKind.wrap Int.fdiv Int.tdiv Int.tmod BitVec.ofInt appendK sliceK indexAddrK ldK storeK seenK makeSliceK lookupK updateK clearK buildSliceK
variable {D : Drawer} {σ : H} {B BL b m : Nat} {o : Option Nat} {w : AM.SA} {V : List En} {bx : Option PA} {v : NSR}
set_option maxHeartbeats 4000000 in
theorem tick_spec {n : Nat} (hn : 2600 ≤ n) (hD : ByPlan Tryz.prog D) (h : NVx σ B BL o w V bx b m v) (ok : OkN v) {K : AV → H → Bool}
    (hK : ∀ F' o' ws ls σ', Post (fpN B BL o b m v.role) σ σ' B (Go.Raft.tick v).1 F' o' ws ls → ls.map (·.1) = (Go.Raft.tick v).2 → K (.sl ws ls.length) σ' = true) :
    acall Tryz.prog tab D n 25 [.ptr (some ⟨B, 0, 0, 15⟩)] σ K = true := by
  obtain ⟨n, rfl, hn⟩ := up hn
  have hB := h.hB
  have hl2 := h.lenV
  have hl3 := ok.l
  have okm := ok.me
  repeat ((conv => lhs; whnf); first | ((with_reducible apply gLd); apply ldF; (focus (rfl)); (focus (rfl)); (focus (rfl)); (focus ((repeat (first | assumption | exact get_new _ _ | refine get_old ?_ _ | refine get_set ?_ _ | refine get_set_ne ?_ (by first | assumption | (simp <;> omega) | omega) _ | refine prefix_get (by assumption) ?_)); done)); (focus (rfl))) | ((with_reducible apply gSt); first | (apply st_int; (focus (rfl)); (focus (rfl)); (focus (decide)); (focus ((repeat (first | assumption | exact get_new _ _ | refine get_old ?_ _ | refine get_set ?_ _ | refine get_set_ne ?_ (by first | assumption | (simp <;> omega) | omega) _ | refine prefix_get (by assumption) ?_)); done)); (focus (decide))) | (apply st_sl; (focus (rfl)); (focus (rfl)); (focus (decide)); (focus ((repeat (first | assumption | exact get_new _ _ | refine get_old ?_ _ | refine get_set ?_ _ | refine get_set_ne ?_ (by first | assumption | (simp <;> omega) | omega) _ | refine prefix_get (by assumption) ?_)); done)); (focus (decide))) | (apply st_bool; (focus (rfl)); (focus (rfl)); (focus (decide)); (focus ((repeat (first | assumption | exact get_new _ _ | refine get_old ?_ _ | refine get_set ?_ _ | refine get_set_ne ?_ (by first | assumption | (simp <;> omega) | omega) _ | refine prefix_get (by assumption) ?_)); done)); (focus (decide))) | (apply st_ptr; (focus (rfl)); (focus (rfl)); (focus (decide)); (focus ((repeat (first | assumption | exact get_new _ _ | refine get_old ?_ _ | refine get_set ?_ _ | refine get_set_ne ?_ (by first | assumption | (simp <;> omega) | omega) _ | refine prefix_get (by assumption) ?_)); done)); (focus (decide)))) | refine ByPlan.go (by assumption) plan25x6 ord25x6 ?_ | refine ByPlan.go (by assumption) plan25x11 ord25x11 ?_ | refine ByPlan.go (by assumption) plan25x16 ord25x16 ?_ | (refine and_true ?_ ?_; (focus ((repeat (first | refine all_skip rfl ?_ | exact rfl | (refine all_cons ?_ ?_; (focus ((conv => lhs; whnf); ((with_reducible apply gLd); apply ldF; (focus (rfl)); (focus (rfl)); (focus (rfl)); (focus ((repeat (first | assumption | exact get_new _ _ | refine get_old ?_ _ | refine get_set ?_ _ | refine get_set_ne ?_ (by first | assumption | (simp <;> omega) | omega) _ | refine prefix_get (by assumption) ?_)); done)); (focus (rfl))); (first | exact cs_int rfl | exact cs_ptr rfl | exact cs_sl rfl | exact cs_str rfl | exact cs_bool rfl | exact cs_map rfl | exact same_int _ _ | exact same_sl _ _ | exact same_str _ | exact same_ptr _ | rfl)))))); done))))
  conv => lhs; whnf
  by_cases r3 : v.role = 3
  · refine bif_pos (by simpa using r3) ?_
    conv => lhs; whnf
    refine all_spec (by omega) hD h ok fun o9 ws9 ls9 σ9 p9 l9 e9 => ?_
    conv => lhs; whnf
    have e : Go.Raft.tick v = (v, Go.Raft.all v) := by unfold Go.Raft.tick; rw [if_pos r3]
    exact hK _ _ _ ls9 _ (by rw [e]; exact Post.ls (Stq.refl _ _) ⟨BL, o, w, V, bx, b, m, h, rfl⟩ (fun id hf => fpN_ne h hf) p9 l9) (by rw [e]; exact e9)
  refine bif_neg (by simpa using r3) ?_
  have hs1 := ok.s1
  have hs0 := ok.s0
  have hwt : Go.Raft.wait v.me ≤ 9 := by unfold Go.Raft.wait; omega
  conv => lhs; whnf
  refine ldF rfl rfl rfl hB rfl ?_
  conv => lhs; whnf
  rw [wrap_i64 (x := v.silent + 1) (by omega) (by omega)]
  refine stNode (v' := { v with silent := v.silent + 1 }) (bx' := bx) (BL' := BL) rfl rfl (by decide) rfl hB rfl ?_
  have hB1 := get_set hB (AO.cells (nc { v with silent := v.silent + 1 } BL bx) 15 .own)
  have h1 := h.set (v' := { v with silent := v.silent + 1 }) (bx' := bx) rfl fun hr => ⟨hr, rfl, rfl⟩
  have s1 : Stq (fpN B BL o b m v.role) (fpN B BL o b m v.role) σ (σ.set B (AO.cells (nc { v with silent := v.silent + 1 } BL bx) 15 .own)) := Stq.set (.inl rfl) hB (by decide)
  generalize σ.set B (AO.cells (nc { v with silent := v.silent + 1 } BL bx) 15 .own) = τ1 at hB1 h1 s1 ⊢
  repeat ((conv => lhs; whnf); first | ((with_reducible apply gLd); apply ldF; (focus (rfl)); (focus (rfl)); (focus (rfl)); (focus ((repeat (first | assumption | exact get_new _ _ | refine get_old ?_ _ | refine get_set ?_ _ | refine get_set_ne ?_ (by first | assumption | (simp <;> omega) | omega) _ | refine prefix_get (by assumption) ?_)); done)); (focus (rfl))) | ((with_reducible apply gSt); first | (apply st_int; (focus (rfl)); (focus (rfl)); (focus (decide)); (focus ((repeat (first | assumption | exact get_new _ _ | refine get_old ?_ _ | refine get_set ?_ _ | refine get_set_ne ?_ (by first | assumption | (simp <;> omega) | omega) _ | refine prefix_get (by assumption) ?_)); done)); (focus (decide))) | (apply st_sl; (focus (rfl)); (focus (rfl)); (focus (decide)); (focus ((repeat (first | assumption | exact get_new _ _ | refine get_old ?_ _ | refine get_set ?_ _ | refine get_set_ne ?_ (by first | assumption | (simp <;> omega) | omega) _ | refine prefix_get (by assumption) ?_)); done)); (focus (decide))) | (apply st_bool; (focus (rfl)); (focus (rfl)); (focus (decide)); (focus ((repeat (first | assumption | exact get_new _ _ | refine get_old ?_ _ | refine get_set ?_ _ | refine get_set_ne ?_ (by first | assumption | (simp <;> omega) | omega) _ | refine prefix_get (by assumption) ?_)); done)); (focus (decide))) | (apply st_ptr; (focus (rfl)); (focus (rfl)); (focus (decide)); (focus ((repeat (first | assumption | exact get_new _ _ | refine get_old ?_ _ | refine get_set ?_ _ | refine get_set_ne ?_ (by first | assumption | (simp <;> omega) | omega) _ | refine prefix_get (by assumption) ?_)); done)); (focus (decide)))) | refine ByPlan.go (by assumption) plan25x6 ord25x6 ?_ | refine ByPlan.go (by assumption) plan25x11 ord25x11 ?_ | refine ByPlan.go (by assumption) plan25x16 ord25x16 ?_ | (refine and_true ?_ ?_; (focus ((repeat (first | refine all_skip rfl ?_ | exact rfl | (refine all_cons ?_ ?_; (focus ((conv => lhs; whnf); ((with_reducible apply gLd); apply ldF; (focus (rfl)); (focus (rfl)); (focus (rfl)); (focus ((repeat (first | assumption | exact get_new _ _ | refine get_old ?_ _ | refine get_set ?_ _ | refine get_set_ne ?_ (by first | assumption | (simp <;> omega) | omega) _ | refine prefix_get (by assumption) ?_)); done)); (focus (rfl))); (first | exact cs_int rfl | exact cs_ptr rfl | exact cs_sl rfl | exact cs_str rfl | exact cs_bool rfl | exact cs_map rfl | exact same_int _ _ | exact same_sl _ _ | exact same_str _ | exact same_ptr _ | rfl)))))); done))))
  conv => lhs; whnf
  refine wait_spec (by omega) okm ?_
  repeat ((conv => lhs; whnf); first | ((with_reducible apply gLd); apply ldF; (focus (rfl)); (focus (rfl)); (focus (rfl)); (focus ((repeat (first | assumption | exact get_new _ _ | refine get_old ?_ _ | refine get_set ?_ _ | refine get_set_ne ?_ (by first | assumption | (simp <;> omega) | omega) _ | refine prefix_get (by assumption) ?_)); done)); (focus (rfl))) | ((with_reducible apply gSt); first | (apply st_int; (focus (rfl)); (focus (rfl)); (focus (decide)); (focus ((repeat (first | assumption | exact get_new _ _ | refine get_old ?_ _ | refine get_set ?_ _ | refine get_set_ne ?_ (by first | assumption | (simp <;> omega) | omega) _ | refine prefix_get (by assumption) ?_)); done)); (focus (decide))) | (apply st_sl; (focus (rfl)); (focus (rfl)); (focus (decide)); (focus ((repeat (first | assumption | exact get_new _ _ | refine get_old ?_ _ | refine get_set ?_ _ | refine get_set_ne ?_ (by first | assumption | (simp <;> omega) | omega) _ | refine prefix_get (by assumption) ?_)); done)); (focus (decide))) | (apply st_bool; (focus (rfl)); (focus (rfl)); (focus (decide)); (focus ((repeat (first | assumption | exact get_new _ _ | refine get_old ?_ _ | refine get_set ?_ _ | refine get_set_ne ?_ (by first | assumption | (simp <;> omega) | omega) _ | refine prefix_get (by assumption) ?_)); done)); (focus (decide))) | (apply st_ptr; (focus (rfl)); (focus (rfl)); (focus (decide)); (focus ((repeat (first | assumption | exact get_new _ _ | refine get_old ?_ _ | refine get_set ?_ _ | refine get_set_ne ?_ (by first | assumption | (simp <;> omega) | omega) _ | refine prefix_get (by assumption) ?_)); done)); (focus (decide)))) | refine ByPlan.go (by assumption) plan25x6 ord25x6 ?_ | refine ByPlan.go (by assumption) plan25x11 ord25x11 ?_ | refine ByPlan.go (by assumption) plan25x16 ord25x16 ?_ | (refine and_true ?_ ?_; (focus ((repeat (first | refine all_skip rfl ?_ | exact rfl | (refine all_cons ?_ ?_; (focus ((conv => lhs; whnf); ((with_reducible apply gLd); apply ldF; (focus (rfl)); (focus (rfl)); (focus (rfl)); (focus ((repeat (first | assumption | exact get_new _ _ | refine get_old ?_ _ | refine get_set ?_ _ | refine get_set_ne ?_ (by first | assumption | (simp <;> omega) | omega) _ | refine prefix_get (by assumption) ?_)); done)); (focus (rfl))); (first | exact cs_int rfl | exact cs_ptr rfl | exact cs_sl rfl | exact cs_str rfl | exact cs_bool rfl | exact cs_map rfl | exact same_int _ _ | exact same_sl _ _ | exact same_str _ | exact same_ptr _ | rfl)))))); done))))
  conv => lhs; whnf
  by_cases hw : v.silent + 1 < Go.Raft.wait v.me
  · refine bif_pos (by simp; omega) ?_
    conv => lhs; whnf
    have e : Go.Raft.tick v = ({ v with silent := v.silent + 1 }, []) := by unfold Go.Raft.tick; rw [if_neg r3, if_pos hw]
    exact hK _ none .nil [] τ1 (by rw [e]; exact Post.nil s1 ⟨BL, o, w, V, bx, b, m, h1, rfl⟩) (by rw [e]; rfl)
  refine bif_neg (by simp; omega) ?_
  have e : Go.Raft.tick v = (Go.Raft.seek v, (Go.Raft.others v.me).map (Go.Raft.ask (Go.Raft.seek v))) := by unfold Go.Raft.tick; rw [if_neg r3, if_neg hw]
  have ht0 := ok.t0
  have ht1 := ok.t1
  have L1 := h1.hL
  conv => lhs; whnf
  refine ldF rfl rfl rfl hB1 rfl ?_
  conv => lhs; whnf
  rw [wrap_i64 (x := v.term + 1) (by omega) (by omega)]
  refine stNode (v' := { v with silent := v.silent + 1, term := v.term + 1 }) (bx' := bx) (BL' := BL) rfl rfl (by decide) rfl hB1 rfl ?_
  have hB2 := get_set hB1 (AO.cells (nc { v with silent := v.silent + 1, term := v.term + 1 } BL bx) 15 .own)
  have L2 := L1.set15 (ys := nc { v with silent := v.silent + 1, term := v.term + 1 } BL bx) (md' := .own) hB1
  have s2 : Stq (fpN B BL o b m v.role) (fpN B BL o b m v.role) σ (τ1.set B (AO.cells (nc { v with silent := v.silent + 1, term := v.term + 1 } BL bx) 15 .own)) := s1.trans (Stq.set (.inl rfl) hB1 (by decide))
  generalize τ1.set B (AO.cells (nc { v with silent := v.silent + 1, term := v.term + 1 } BL bx) 15 .own) = τ2 at hB2 L2 s2 ⊢
  conv => lhs; whnf
  refine ldF rfl rfl rfl hB2 rfl ?_
  conv => lhs; whnf
  refine stNode (v' := { v with silent := v.silent + 1, term := v.term + 1, voted := v.me }) (bx' := bx) (BL' := BL) rfl rfl (by decide) rfl hB2 rfl ?_
  have hB3 := get_set hB2 (AO.cells (nc { v with silent := v.silent + 1, term := v.term + 1, voted := v.me } BL bx) 15 .own)
  have L3 := L2.set15 (ys := nc { v with silent := v.silent + 1, term := v.term + 1, voted := v.me } BL bx) (md' := .own) hB2
  have s3 : Stq (fpN B BL o b m v.role) (fpN B BL o b m v.role) σ (τ2.set B (AO.cells (nc { v with silent := v.silent + 1, term := v.term + 1, voted := v.me } BL bx) 15 .own)) := s2.trans (Stq.set (.inl rfl) hB2 (by decide))
  generalize τ2.set B (AO.cells (nc { v with silent := v.silent + 1, term := v.term + 1, voted := v.me } BL bx) 15 .own) = τ3 at hB3 L3 s3 ⊢
  conv => lhs; whnf
  refine stNode (v' := { v with silent := v.silent + 1, term := v.term + 1, voted := v.me, role := 2 }) (bx' := bx) (BL' := BL) rfl rfl (by decide) rfl hB3 rfl ?_
  have hB4 := get_set hB3 (AO.cells (nc { v with silent := v.silent + 1, term := v.term + 1, voted := v.me, role := 2 } BL bx) 15 .own)
  have L4 := L3.set15 (ys := nc { v with silent := v.silent + 1, term := v.term + 1, voted := v.me, role := 2 } BL bx) (md' := .own) hB3
  have s4 : Stq (fpN B BL o b m v.role) (fpN B BL o b m v.role) σ (τ3.set B (AO.cells (nc { v with silent := v.silent + 1, term := v.term + 1, voted := v.me, role := 2 } BL bx) 15 .own)) := s3.trans (Stq.set (.inl rfl) hB3 (by decide))
  generalize τ3.set B (AO.cells (nc { v with silent := v.silent + 1, term := v.term + 1, voted := v.me, role := 2 } BL bx) 15 .own) = τ4 at hB4 L4 s4 ⊢
  conv => lhs; whnf
  refine stNode (v' := { v with silent := v.silent + 1, term := v.term + 1, voted := v.me, role := 2, leader := -1 }) (bx' := bx) (BL' := BL) rfl rfl (by decide) rfl hB4 rfl ?_
  have hB5 := get_set hB4 (AO.cells (nc { v with silent := v.silent + 1, term := v.term + 1, voted := v.me, role := 2, leader := -1 } BL bx) 15 .own)
  have L5 := L4.set15 (ys := nc { v with silent := v.silent + 1, term := v.term + 1, voted := v.me, role := 2, leader := -1 } BL bx) (md' := .own) hB4
  have s5 : Stq (fpN B BL o b m v.role) (fpN B BL o b m v.role) σ (τ4.set B (AO.cells (nc { v with silent := v.silent + 1, term := v.term + 1, voted := v.me, role := 2, leader := -1 } BL bx) 15 .own)) := s4.trans (Stq.set (.inl rfl) hB4 (by decide))
  generalize τ4.set B (AO.cells (nc { v with silent := v.silent + 1, term := v.term + 1, voted := v.me, role := 2, leader := -1 } BL bx) 15 .own) = τ5 at hB5 L5 s5 ⊢
  conv => lhs; whnf
  refine stNode (v' := { v with silent := 0, term := v.term + 1, voted := v.me, role := 2, leader := -1 }) (bx' := bx) (BL' := BL) rfl rfl (by decide) rfl hB5 rfl ?_
  have hB6 := get_set hB5 (AO.cells (nc { v with silent := 0, term := v.term + 1, voted := v.me, role := 2, leader := -1 } BL bx) 15 .own)
  have L6 := L5.set15 (ys := nc { v with silent := 0, term := v.term + 1, voted := v.me, role := 2, leader := -1 } BL bx) (md' := .own) hB5
  have s6 : Stq (fpN B BL o b m v.role) (fpN B BL o b m v.role) σ (τ5.set B (AO.cells (nc { v with silent := 0, term := v.term + 1, voted := v.me, role := 2, leader := -1 } BL bx) 15 .own)) := s5.trans (Stq.set (.inl rfl) hB5 (by decide))
  generalize τ5.set B (AO.cells (nc { v with silent := 0, term := v.term + 1, voted := v.me, role := 2, leader := -1 } BL bx) 15 .own) = τ6 at hB6 L6 s6 ⊢
  clear hB1 hB2 hB3 hB4 hB5 L1 L2 L3 L4 L5 s1 s2 s3 s4 s5 h1
  conv => lhs; whnf
  refine vnew_spec (by omega) ?_
  have q7 := (List.prefix_append τ6 [AO.map [] 0]).trans (List.prefix_append _ [AO.cells [.int .i64 3, .map (some τ6.length)] 2 .own])
  have hB7 := prefix_get q7 hB6
  have gm := get_old (get_new τ6 (AO.map [] 0)) (AO.cells [.int .i64 3, .map (some τ6.length)] 2 .own)
  have gb := get_new (τ6 ++ [AO.map [] 0]) (AO.cells [.int .i64 3, .map (some τ6.length)] 2 .own)
  have L7 := L6.mono q7
  have lq := prefix_len q7
  have lB := get_lt hB6
  have ll6 := s6.len
  conv => lhs; whnf
  refine stNode (v' := { v with silent := 0, term := v.term + 1, voted := v.me, role := 2, leader := -1, box := Go.Raft.none0 }) (bx' := some ⟨(τ6 ++ [AO.map [] 0]).length, 0, 0, 2⟩) (BL' := BL) rfl rfl (by decide) rfl hB7 rfl ?_
  -- the votes
  have hB8 := get_set hB7 (AO.cells (nc { v with silent := 0, term := v.term + 1, voted := v.me, role := 2, leader := -1, box := Go.Raft.none0 } BL (some ⟨(τ6 ++ [AO.map [] 0]).length, 0, 0, 2⟩)) 15 .own)
  have L8 := L7.set15 (ys := nc { v with silent := 0, term := v.term + 1, voted := v.me, role := 2, leader := -1, box := Go.Raft.none0 } BL (some ⟨(τ6 ++ [AO.map [] 0]).length, 0, 0, 2⟩)) (md' := .own) hB7
  have gm8 := get_set_ne gm (show τ6.length ≠ B by omega) (AO.cells (nc { v with silent := 0, term := v.term + 1, voted := v.me, role := 2, leader := -1, box := Go.Raft.none0 } BL (some ⟨(τ6 ++ [AO.map [] 0]).length, 0, 0, 2⟩)) 15 .own)
  have gb8 := get_set_ne gb (show (τ6 ++ [AO.map [] 0]).length ≠ B by simp; omega) (AO.cells (nc { v with silent := 0, term := v.term + 1, voted := v.me, role := 2, leader := -1, box := Go.Raft.none0 } BL (some ⟨(τ6 ++ [AO.map [] 0]).length, 0, 0, 2⟩)) 15 .own)
  have s8' : Stq (fpN B BL o b m v.role) (fpN B BL o b m v.role) σ ((τ6 ++ [AO.map [] 0] ++ [AO.cells [.int .i64 3, .map (some τ6.length)] 2 .own]).set B (AO.cells (nc { v with silent := 0, term := v.term + 1, voted := v.me, role := 2, leader := -1, box := Go.Raft.none0 } BL (some ⟨(τ6 ++ [AO.map [] 0]).length, 0, 0, 2⟩)) 15 .own)) := (s6.trans (Stq.pre _ q7)).trans (Stq.set (.inl rfl) hB7 (by decide))
  generalize (τ6 ++ [AO.map [] 0] ++ [AO.cells [.int .i64 3, .map (some τ6.length)] 2 .own]).set B (AO.cells (nc { v with silent := 0, term := v.term + 1, voted := v.me, role := 2, leader := -1, box := Go.Raft.none0 } BL (some ⟨(τ6 ++ [AO.map [] 0]).length, 0, 0, 2⟩)) 15 .own) = τ8 at hB8 L8 gm8 gb8 s8' ⊢
  have hbl : σ.length ≤ (τ6 ++ [AO.map [] 0]).length := by simp; omega
  have n8 : NVx τ8 B BL o w V (some ⟨(τ6 ++ [AO.map [] 0]).length, 0, 0, 2⟩) (τ6 ++ [AO.map [] 0]).length τ6.length { v with silent := 0, term := v.term + 1, voted := v.me, role := 2, leader := -1, box := Go.Raft.none0 } := ⟨hB8, L8, h.hV, fun _ => ⟨rfl, gb8, [], 0, [], gm8, rfl, rfl, fun j _ => by show Go.Raft.none0 j = true ↔ _; simp [Go.Raft.none0]⟩⟩
  have s8 : Stq (fpN B BL o b m v.role) (fpN B BL o (τ6 ++ [AO.map [] 0]).length τ6.length 2) σ τ8 := ⟨s8'.len, s8'.keep, fun id x => by
    rcases x with x | x | ⟨_, x | x⟩
    · exact .inl (.inl x)
    · exact .inl (.inr (.inl x))
    · exact .inr (by omega)
    · exact .inr (by omega), s8'.rcd⟩
  clear s8' hB7 L7 gm gb q7 L6 hB6
  repeat ((conv => lhs; whnf); first | ((with_reducible apply gLd); apply ldF; (focus (rfl)); (focus (rfl)); (focus (rfl)); (focus ((repeat (first | assumption | exact get_new _ _ | refine get_old ?_ _ | refine get_set ?_ _ | refine get_set_ne ?_ (by first | assumption | (simp <;> omega) | omega) _ | refine prefix_get (by assumption) ?_)); done)); (focus (rfl))) | ((with_reducible apply gSt); first | (apply st_int; (focus (rfl)); (focus (rfl)); (focus (decide)); (focus ((repeat (first | assumption | exact get_new _ _ | refine get_old ?_ _ | refine get_set ?_ _ | refine get_set_ne ?_ (by first | assumption | (simp <;> omega) | omega) _ | refine prefix_get (by assumption) ?_)); done)); (focus (decide))) | (apply st_sl; (focus (rfl)); (focus (rfl)); (focus (decide)); (focus ((repeat (first | assumption | exact get_new _ _ | refine get_old ?_ _ | refine get_set ?_ _ | refine get_set_ne ?_ (by first | assumption | (simp <;> omega) | omega) _ | refine prefix_get (by assumption) ?_)); done)); (focus (decide))) | (apply st_bool; (focus (rfl)); (focus (rfl)); (focus (decide)); (focus ((repeat (first | assumption | exact get_new _ _ | refine get_old ?_ _ | refine get_set ?_ _ | refine get_set_ne ?_ (by first | assumption | (simp <;> omega) | omega) _ | refine prefix_get (by assumption) ?_)); done)); (focus (decide))) | (apply st_ptr; (focus (rfl)); (focus (rfl)); (focus (decide)); (focus ((repeat (first | assumption | exact get_new _ _ | refine get_old ?_ _ | refine get_set ?_ _ | refine get_set_ne ?_ (by first | assumption | (simp <;> omega) | omega) _ | refine prefix_get (by assumption) ?_)); done)); (focus (decide)))) | refine ByPlan.go (by assumption) plan25x6 ord25x6 ?_ | refine ByPlan.go (by assumption) plan25x11 ord25x11 ?_ | refine ByPlan.go (by assumption) plan25x16 ord25x16 ?_ | (refine and_true ?_ ?_; (focus ((repeat (first | refine all_skip rfl ?_ | exact rfl | (refine all_cons ?_ ?_; (focus ((conv => lhs; whnf); ((with_reducible apply gLd); apply ldF; (focus (rfl)); (focus (rfl)); (focus (rfl)); (focus ((repeat (first | assumption | exact get_new _ _ | refine get_old ?_ _ | refine get_set ?_ _ | refine get_set_ne ?_ (by first | assumption | (simp <;> omega) | omega) _ | refine prefix_get (by assumption) ?_)); done)); (focus (rfl))); (first | exact cs_int rfl | exact cs_ptr rfl | exact cs_sl rfl | exact cs_str rfl | exact cs_bool rfl | exact cs_map rfl | exact same_int _ _ | exact same_sl _ _ | exact same_str _ | exact same_ptr _ | rfl)))))); done))))
  conv => lhs; whnf
  refine boxAdd_spec (y := (v.me : Int)) (bx := some ⟨(τ6 ++ [AO.map [] 0]).length, 0, 0, 2⟩) (v := { v with silent := 0, term := v.term + 1, voted := v.me, role := 2, leader := -1, box := Go.Raft.none0 }) (by omega) n8 rfl (by omega) (by omega) fun r τ9 s9 _ n9 => ?_
  have es : { ({ v with silent := 0, term := v.term + 1, voted := v.me, role := 2, leader := -1, box := Go.Raft.none0 } : NSR) with box := upd ({ v with silent := 0, term := v.term + 1, voted := v.me, role := 2, leader := -1, box := Go.Raft.none0 } : NSR).box (v.me : Int).toNat true } = Go.Raft.seek v := by unfold Go.Raft.seek; rfl
  rw [es] at n9
  have s09 : Stq (fpN B BL o b m v.role) (fpN B BL o (τ6 ++ [AO.map [] 0]).length τ6.length (Go.Raft.seek v).role) σ τ9 := s8.trans s9
  cases r
  all_goals
    conv => lhs; whnf
    refine others_spec (v := Go.Raft.seek v) (by omega) n9.hB okm fun w1 σ1 p1 r1 => ?_
    have hol := oth_len (Go.Raft.seek v).me 3
    conv => lhs; whnf
    refine loop_rule (m := 4132070672510939561993) (fun q fr τ => ∃ (z : Int) (i : Nat) (o1 : Option Nat) (ws : AM.SA) (ls : List (Lm × AM.SA)), z = (i : Int) ∧ i + q = (oth (Go.Raft.seek v).me 3).length ∧ ls.length = i ∧ τ9 <+: τ ∧ Rw τ 1 w1 (oth (Go.Raft.seek v).me 3).length (iks .i64 (oth (Go.Raft.seek v).me 3)) ∧ LsV τ9 τ o1 ws ls ∧ ls.map (·.1) = ((oth (Go.Raft.seek v).me 3).take i).map (fun x => Go.Raft.ask (Go.Raft.seek v) x.toNat) ∧
        fr = [.ptr (some ⟨B, 0, 0, 15⟩), .bad, .bad, .sl ws ls.length, .bad, .bad, .bad, .bad, .bad, .bad, .bad, .bad, .bad, .bad, .bad, .bad, .bad, .bad, .bad, .bad, .bad, .bad, .bad, .bad, .bad, .bad, .bad, .bad, .bad, .bad, .bad, .bad, .bad, .bad, .bad, .bad, .bad, .bad, .bad, .bad, .bad, .bad, .bad, .bad, .bad, .bad, .bad, .bad, .bad, .bad, .bad, .bad, .bad, .bad, .bad, .bad, .bad, .bad, .bad, .bad, .bad, .bad, .bad, .bad, .bad, .bad, .bad, .bad, .bad, .sl w1 (oth (Go.Raft.seek v).me 3).length, .int .i64 ((oth (Go.Raft.seek v).me 3).length : Int), .int .i64 z, .bad, .bad, .bad, .bad, .bad, .bad, .bad, .bad, .bad, .bad, .bad, .bad, .bad, .bad, .bad, .bad, .bad, .bad, .bad, .bad, .bad, .bad, .bad, .bad, .bad, .bad, .bad, .bad, .bad, .bad, .bad, .bad, .bad]) ?_ _ (oth (Go.Raft.seek v).me 3).length _ _ (by omega)
        ⟨_, 0, none, .nil, [], rfl, Nat.zero_add _, rfl, p1, r1, LsV.nil _ _, rfl, rfl⟩
    rintro q fr τ C ⟨z, i, o1, ws, ls, rfl, hq, hls, hp0, r1, hL, hm, rfl⟩ next fin
    conv => lhs; whnf
    by_cases hi : i < (oth (Go.Raft.seek v).me 3).length
    case neg =>
      refine bif_neg (by simpa using hi) ?_
      conv => lhs; whnf
      refine fin _ _ _ nofun ?_
      conv => lhs; whnf
      refine hK _ o1 ws ls τ (by rw [e]; exact Post.ls s09 ⟨BL, o, w, V, _, (τ6 ++ [AO.map [] 0]).length, _, n9, rfl⟩ (fun id hf => fpN_ne n9 hf) hp0 hL) ?_
      rw [e, hm, List.take_of_length_le (by omega), oth_three (show (Go.Raft.seek v).me < 3 from okm), List.map_map]
      rfl
    refine bif_pos (by simpa using hi) ?_
    obtain ⟨to, e1, e2, e3⟩ := oth_get hi
    have nT := n9.mono hp0
    have hBT := nT.hB
    have hlV : (V.length : Int) = len (Go.Raft.seek v).log := lenLog n9
    conv => lhs; whnf
    refine it44.idx r1 rfl hi fun p hE => ?_
    conv => lhs; whnf
    refine it44.ld hE ?_
    rw [e1]
    repeat ((conv => lhs; whnf); first | ((with_reducible apply gLd); apply ldF; (focus (rfl)); (focus (rfl)); (focus (rfl)); (focus ((repeat (first | assumption | exact get_new _ _ | refine get_old ?_ _ | refine get_set ?_ _ | refine get_set_ne ?_ (by first | assumption | (simp <;> omega) | omega) _ | refine prefix_get (by assumption) ?_)); done)); (focus (rfl))) | ((with_reducible apply gSt); first | (apply st_int; (focus (rfl)); (focus (rfl)); (focus (decide)); (focus ((repeat (first | assumption | exact get_new _ _ | refine get_old ?_ _ | refine get_set ?_ _ | refine get_set_ne ?_ (by first | assumption | (simp <;> omega) | omega) _ | refine prefix_get (by assumption) ?_)); done)); (focus (decide))) | (apply st_sl; (focus (rfl)); (focus (rfl)); (focus (decide)); (focus ((repeat (first | assumption | exact get_new _ _ | refine get_old ?_ _ | refine get_set ?_ _ | refine get_set_ne ?_ (by first | assumption | (simp <;> omega) | omega) _ | refine prefix_get (by assumption) ?_)); done)); (focus (decide))) | (apply st_bool; (focus (rfl)); (focus (rfl)); (focus (decide)); (focus ((repeat (first | assumption | exact get_new _ _ | refine get_old ?_ _ | refine get_set ?_ _ | refine get_set_ne ?_ (by first | assumption | (simp <;> omega) | omega) _ | refine prefix_get (by assumption) ?_)); done)); (focus (decide))) | (apply st_ptr; (focus (rfl)); (focus (rfl)); (focus (decide)); (focus ((repeat (first | assumption | exact get_new _ _ | refine get_old ?_ _ | refine get_set ?_ _ | refine get_set_ne ?_ (by first | assumption | (simp <;> omega) | omega) _ | refine prefix_get (by assumption) ?_)); done)); (focus (decide)))) | refine ByPlan.go (by assumption) plan25x6 ord25x6 ?_ | refine ByPlan.go (by assumption) plan25x11 ord25x11 ?_ | refine ByPlan.go (by assumption) plan25x16 ord25x16 ?_ | (refine and_true ?_ ?_; (focus ((repeat (first | refine all_skip rfl ?_ | exact rfl | (refine all_cons ?_ ?_; (focus ((conv => lhs; whnf); ((with_reducible apply gLd); apply ldF; (focus (rfl)); (focus (rfl)); (focus (rfl)); (focus ((repeat (first | assumption | exact get_new _ _ | refine get_old ?_ _ | refine get_set ?_ _ | refine get_set_ne ?_ (by first | assumption | (simp <;> omega) | omega) _ | refine prefix_get (by assumption) ?_)); done)); (focus (rfl))); (first | exact cs_int rfl | exact cs_ptr rfl | exact cs_sl rfl | exact cs_str rfl | exact cs_bool rfl | exact cs_map rfl | exact same_int _ _ | exact same_sl _ _ | exact same_str _ | exact same_ptr _ | rfl)))))); done))))
    conv => lhs; whnf
    refine len_spec (by omega) nT.hL.log ?_
    repeat ((conv => lhs; whnf); first | ((with_reducible apply gLd); apply ldF; (focus (rfl)); (focus (rfl)); (focus (rfl)); (focus ((repeat (first | assumption | exact get_new _ _ | refine get_old ?_ _ | refine get_set ?_ _ | refine get_set_ne ?_ (by first | assumption | (simp <;> omega) | omega) _ | refine prefix_get (by assumption) ?_)); done)); (focus (rfl))) | ((with_reducible apply gSt); first | (apply st_int; (focus (rfl)); (focus (rfl)); (focus (decide)); (focus ((repeat (first | assumption | exact get_new _ _ | refine get_old ?_ _ | refine get_set ?_ _ | refine get_set_ne ?_ (by first | assumption | (simp <;> omega) | omega) _ | refine prefix_get (by assumption) ?_)); done)); (focus (decide))) | (apply st_sl; (focus (rfl)); (focus (rfl)); (focus (decide)); (focus ((repeat (first | assumption | exact get_new _ _ | refine get_old ?_ _ | refine get_set ?_ _ | refine get_set_ne ?_ (by first | assumption | (simp <;> omega) | omega) _ | refine prefix_get (by assumption) ?_)); done)); (focus (decide))) | (apply st_bool; (focus (rfl)); (focus (rfl)); (focus (decide)); (focus ((repeat (first | assumption | exact get_new _ _ | refine get_old ?_ _ | refine get_set ?_ _ | refine get_set_ne ?_ (by first | assumption | (simp <;> omega) | omega) _ | refine prefix_get (by assumption) ?_)); done)); (focus (decide))) | (apply st_ptr; (focus (rfl)); (focus (rfl)); (focus (decide)); (focus ((repeat (first | assumption | exact get_new _ _ | refine get_old ?_ _ | refine get_set ?_ _ | refine get_set_ne ?_ (by first | assumption | (simp <;> omega) | omega) _ | refine prefix_get (by assumption) ?_)); done)); (focus (decide)))) | refine ByPlan.go (by assumption) plan25x6 ord25x6 ?_ | refine ByPlan.go (by assumption) plan25x11 ord25x11 ?_ | refine ByPlan.go (by assumption) plan25x16 ord25x16 ?_ | (refine and_true ?_ ?_; (focus ((repeat (first | refine all_skip rfl ?_ | exact rfl | (refine all_cons ?_ ?_; (focus ((conv => lhs; whnf); ((with_reducible apply gLd); apply ldF; (focus (rfl)); (focus (rfl)); (focus (rfl)); (focus ((repeat (first | assumption | exact get_new _ _ | refine get_old ?_ _ | refine get_set ?_ _ | refine get_set_ne ?_ (by first | assumption | (simp <;> omega) | omega) _ | refine prefix_get (by assumption) ?_)); done)); (focus (rfl))); (first | exact cs_int rfl | exact cs_ptr rfl | exact cs_sl rfl | exact cs_str rfl | exact cs_bool rfl | exact cs_map rfl | exact same_int _ _ | exact same_sl _ _ | exact same_str _ | exact same_ptr _ | rfl)))))); done))))
    conv => lhs; whnf
    refine len_spec (by omega) nT.hL.log ?_
    repeat ((conv => lhs; whnf); first | ((with_reducible apply gLd); apply ldF; (focus (rfl)); (focus (rfl)); (focus (rfl)); (focus ((repeat (first | assumption | exact get_new _ _ | refine get_old ?_ _ | refine get_set ?_ _ | refine get_set_ne ?_ (by first | assumption | (simp <;> omega) | omega) _ | refine prefix_get (by assumption) ?_)); done)); (focus (rfl))) | ((with_reducible apply gSt); first | (apply st_int; (focus (rfl)); (focus (rfl)); (focus (decide)); (focus ((repeat (first | assumption | exact get_new _ _ | refine get_old ?_ _ | refine get_set ?_ _ | refine get_set_ne ?_ (by first | assumption | (simp <;> omega) | omega) _ | refine prefix_get (by assumption) ?_)); done)); (focus (decide))) | (apply st_sl; (focus (rfl)); (focus (rfl)); (focus (decide)); (focus ((repeat (first | assumption | exact get_new _ _ | refine get_old ?_ _ | refine get_set ?_ _ | refine get_set_ne ?_ (by first | assumption | (simp <;> omega) | omega) _ | refine prefix_get (by assumption) ?_)); done)); (focus (decide))) | (apply st_bool; (focus (rfl)); (focus (rfl)); (focus (decide)); (focus ((repeat (first | assumption | exact get_new _ _ | refine get_old ?_ _ | refine get_set ?_ _ | refine get_set_ne ?_ (by first | assumption | (simp <;> omega) | omega) _ | refine prefix_get (by assumption) ?_)); done)); (focus (decide))) | (apply st_ptr; (focus (rfl)); (focus (rfl)); (focus (decide)); (focus ((repeat (first | assumption | exact get_new _ _ | refine get_old ?_ _ | refine get_set ?_ _ | refine get_set_ne ?_ (by first | assumption | (simp <;> omega) | omega) _ | refine prefix_get (by assumption) ?_)); done)); (focus (decide)))) | refine ByPlan.go (by assumption) plan25x6 ord25x6 ?_ | refine ByPlan.go (by assumption) plan25x11 ord25x11 ?_ | refine ByPlan.go (by assumption) plan25x16 ord25x16 ?_ | (refine and_true ?_ ?_; (focus ((repeat (first | refine all_skip rfl ?_ | exact rfl | (refine all_cons ?_ ?_; (focus ((conv => lhs; whnf); ((with_reducible apply gLd); apply ldF; (focus (rfl)); (focus (rfl)); (focus (rfl)); (focus ((repeat (first | assumption | exact get_new _ _ | refine get_old ?_ _ | refine get_set ?_ _ | refine get_set_ne ?_ (by first | assumption | (simp <;> omega) | omega) _ | refine prefix_get (by assumption) ?_)); done)); (focus (rfl))); (first | exact cs_int rfl | exact cs_ptr rfl | exact cs_sl rfl | exact cs_str rfl | exact cs_bool rfl | exact cs_map rfl | exact same_int _ _ | exact same_sl _ _ | exact same_str _ | exact same_ptr _ | rfl)))))); done))))
    conv => lhs; whnf
    refine termA_spec (by omega) (by omega) nT.hL.log ?_
    rw [nT.hV, hlV]
    repeat ((conv => lhs; whnf); first | ((with_reducible apply gLd); apply ldF; (focus (rfl)); (focus (rfl)); (focus (rfl)); (focus ((repeat (first | assumption | exact get_new _ _ | refine get_old ?_ _ | refine get_set ?_ _ | refine get_set_ne ?_ (by first | assumption | (simp <;> omega) | omega) _ | refine prefix_get (by assumption) ?_)); done)); (focus (rfl))) | ((with_reducible apply gSt); first | (apply st_int; (focus (rfl)); (focus (rfl)); (focus (decide)); (focus ((repeat (first | assumption | exact get_new _ _ | refine get_old ?_ _ | refine get_set ?_ _ | refine get_set_ne ?_ (by first | assumption | (simp <;> omega) | omega) _ | refine prefix_get (by assumption) ?_)); done)); (focus (decide))) | (apply st_sl; (focus (rfl)); (focus (rfl)); (focus (decide)); (focus ((repeat (first | assumption | exact get_new _ _ | refine get_old ?_ _ | refine get_set ?_ _ | refine get_set_ne ?_ (by first | assumption | (simp <;> omega) | omega) _ | refine prefix_get (by assumption) ?_)); done)); (focus (decide))) | (apply st_bool; (focus (rfl)); (focus (rfl)); (focus (decide)); (focus ((repeat (first | assumption | exact get_new _ _ | refine get_old ?_ _ | refine get_set ?_ _ | refine get_set_ne ?_ (by first | assumption | (simp <;> omega) | omega) _ | refine prefix_get (by assumption) ?_)); done)); (focus (decide))) | (apply st_ptr; (focus (rfl)); (focus (rfl)); (focus (decide)); (focus ((repeat (first | assumption | exact get_new _ _ | refine get_old ?_ _ | refine get_set ?_ _ | refine get_set_ne ?_ (by first | assumption | (simp <;> omega) | omega) _ | refine prefix_get (by assumption) ?_)); done)); (focus (decide)))) | refine ByPlan.go (by assumption) plan25x6 ord25x6 ?_ | refine ByPlan.go (by assumption) plan25x11 ord25x11 ?_ | refine ByPlan.go (by assumption) plan25x16 ord25x16 ?_ | (refine and_true ?_ ?_; (focus ((repeat (first | refine all_skip rfl ?_ | exact rfl | (refine all_cons ?_ ?_; (focus ((conv => lhs; whnf); ((with_reducible apply gLd); apply ldF; (focus (rfl)); (focus (rfl)); (focus (rfl)); (focus ((repeat (first | assumption | exact get_new _ _ | refine get_old ?_ _ | refine get_set ?_ _ | refine get_set_ne ?_ (by first | assumption | (simp <;> omega) | omega) _ | refine prefix_get (by assumption) ?_)); done)); (focus (rfl))); (first | exact cs_int rfl | exact cs_ptr rfl | exact cs_sl rfl | exact cs_str rfl | exact cs_bool rfl | exact cs_map rfl | exact same_int _ _ | exact same_sl _ _ | exact same_str _ | exact same_ptr _ | rfl)))))); done))))
    conv => lhs; whnf
    refine bs38 (x := (Go.Raft.ask (Go.Raft.seek v) to, .nil)) ?_
    conv => lhs; whnf
    refine appLs hp0 hL (IsLt.nil rfl) (Frsh.nil _) (by omega) fun o3 a3 σ3 p3 x3 hL3 => ?_
    conv => lhs; whnf
    refine next (q - 1) _ _ (by omega) ⟨_, i + 1, o3, a3, ls ++ [(Go.Raft.ask (Go.Raft.seek v) to, .nil)], inc_i64 (by omega), by omega, by rw [List.length_append, hls]; rfl, p3, Rw.ext r1 x3, hL3, ?_, rfl⟩
    rw [List.map_append, hm, List.take_succ_eq_append_getElem hi, List.map_append]
    congr 1
    simp [e1]
end Go.Proofs.YthmdecfiijgaoaaGreat
