/- A node is given a vote. -/
import Derived.Test.YthmdecfiijgaoaaGreatL20T
namespace Go.Proofs.YthmdecfiijgaoaaGreat
set_option maxRecDepth 100000
open Go Go.AM Go.AM.St
open Go.Raft (termAt fromL newer len upd)
theorem nxt_he {v : NSR} {BL to : Nat} {bx : Option PA} {y : Int} (h : to < 3) : (nc v BL bx).set (0 + 9 + to * 1) (.int .i64 y) = nc { v with next := upd v.next to y } BL bx := by
  rcases show to = 0 ∨ to = 1 ∨ to = 2 by omega with rfl | rfl | rfl <;> rfl
theorem mat_he {v : NSR} {BL to : Nat} {bx : Option PA} {y : Int} (h : to < 3) : (nc v BL bx).set (0 + 12 + to * 1) (.int .i64 y) = nc { v with mat := upd v.mat to y } BL bx := by
  rcases show to = 0 ∨ to = 1 ∨ to = 2 by omega with rfl | rfl | rfl <;> rfl
theorem nxt_at {v : NSR} {BL to : Nat} {bx : Option PA} (h : to < 3) : (nc v BL bx)[0 + (0 + 9 + to * 1)]? = some (.int .i64 (v.next to)) := by
  rcases show to = 0 ∨ to = 1 ∨ to = 2 by omega with rfl | rfl | rfl <;> rfl
theorem mat_at {v : NSR} {BL to : Nat} {bx : Option PA} (h : to < 3) : (nc v BL bx)[0 + (0 + 12 + to * 1)]? = some (.int .i64 (v.mat to)) := by
  rcases show to = 0 ∨ to = 1 ∨ to = 2 by omega with rfl | rfl | rfl <;> rfl
theorem cnt_upd {f : Nat → Bool} {j : Nat} (hj : j < 3) (hf : f j = false) : ([0, 1, 2].filter (upd f j true)).length = ([0, 1, 2].filter f).length + 1 := by
  rcases show j = 0 ∨ j = 1 ∨ j = 2 by omega with rfl | rfl | rfl
  · cases h1 : f 1 <;> cases h2 : f 2 <;> simp [List.filter, upd, hf, h1, h2]
  · cases h0 : f 0 <;> cases h2 : f 2 <;> simp [List.filter, upd, hf, h0, h2]
  · cases h0 : f 0 <;> cases h1 : f 1 <;> simp [List.filter, upd, hf, h0, h1]
theorem upd_same' {f : Nat → Bool} {j : Nat} (hf : f j = true) : upd f j true = f := by
  funext k
  unfold upd
  split
  · rename_i e; rw [e, hf]
  · rfl
abbrev zR : RecP := ⟨1, [], []⟩
theorem lenLog {σ : H} {B BL b m : Nat} {o : Option Nat} {w : AM.SA} {V : List En} {bx : Option PA} {v : NSR} (h : NVx σ B BL o w V bx b m v) : (V.length : Int) = len v.log := by unfold len; rw [h.lenV]
attribute [local irreducible] IntKind.wrap Int.fdiv Int.tdiv Int.tmod BitVec.ofInt appendK sliceK indexAddrK ldK storeK seenK makeSliceK lookupK updateK clearK buildSliceK
variable {D : Drawer} {σ : H} {B BL b m : Nat} {o : Option Nat} {w : AM.SA} {V : List En} {bx : Option PA} {v : NSR}
/-- A vote is put in. -/
theorem boxAdd_spec {n : Nat} {y : Int} (hn : 1 ≤ n) (h : NVx σ B BL o w V bx b m v) (hr : v.role = 2) (h1 : 0 ≤ y) (h2 : y < 3) {K : AV → H → Bool}
    (hK : ∀ r σ', Stq (fpN B BL o b m v.role) (fpN B BL o b m v.role) σ σ' → (∀ id, id ≠ m → id < σ.length → σ'[id]? = σ[id]?) → NVx σ' B BL o w V bx b m { v with box := upd v.box y.toNat true } → K (.bool r) σ' = true) :
    acall Tryz.prog tab D n 68 [.ptr bx, .int .i64 y] σ K = true := by
  obtain ⟨e1, hb, es, c, S, hm, hE, hl, hf⟩ := h.hX hr
  subst e1
  have hy : (y.toNat : Int) = y := by omega
  have hfy := hf y.toNat (by omega)
  rw [hy] at hfy
  refine vadd_spec (N := 3) hn hb hm hE (fun hno => ?_) fun ⟨_, _, hno⟩ => ?_
  · have hin : y ∈ S := by
      apply Classical.byContradiction
      intro hn
      exact hno ⟨h1, by omega, hn⟩
    have hup := upd_same' (hfy.2 hin)
    refine hK _ σ (Stq.refl _ _) (fun _ _ _ => rfl) ?_
    rw [hup]
    exact h
  · have hfn : v.box y.toNat = false := by
      cases hv : v.box y.toNat
      · rfl
      · exact absurd (hfy.1 hv) hno
    have ne1 : B ≠ m := fun e => by have := h.hB; rw [e, hm] at this; cases this
    have ne2 : BL ≠ m := fun e => by have := h.hL.hB; rw [e, hm] at this; cases this
    have ne3 : b ≠ m := fun e => by rw [e, hm] at hb; cases hb
    have ne4 : o ≠ some m := fun e => by
      subst e
      have := h.hL.hO.2.2.1
      rw [hm] at this
      cases this
    have s : Stq (fpN B BL o b m v.role) (fpN B BL o b m v.role) σ (σ.set m (.map (es ++ [{ key := .int .i64 y, val := .bool true, born := c }]) (c + 1))) := Stq.map (.inr (.inr ⟨hr, .inr rfl⟩)) hm
    refine hK _ _ s (fun id hne _ => List.getElem?_set_ne (Ne.symm hne)) ⟨get_set_ne h.hB ne1 _, ⟨get_set_ne h.hL.hB ne2 _, h.hL.hO.keep fun id e => List.getElem?_set_ne (fun e2 => ne4 (by rw [e, e2])), s.es h.hL.hI⟩, h.hV, fun _ => ⟨rfl, get_set_ne hb ne3 _, _, _, S ++ [y], get_set hm _, hE.snoc y c, ?_, fun j hj => ?_⟩⟩
    · rw [List.length_append, List.length_singleton, hl, cnt_upd (by omega) hfn]
    · show upd v.box y.toNat true j = true ↔ _
      unfold upd
      by_cases hjy : j = y.toNat
      · rw [if_pos hjy]
        simp [hjy, hy]
      · rw [if_neg hjy, hf j hj, List.mem_append, List.mem_singleton]
        exact ⟨.inl, fun h => h.resolve_right (by omega)⟩
theorem Post.nil {σ τ : H} {F F' : Nat → Prop} {B : Nat} {v' : NSR} (s : Stq F F' σ τ) (nv : NV τ B v' F') : Post F σ τ B v' F' none .nil [] :=
  ⟨s, nv, LsV.nil _ _, fun id h => (by cases h), fun y h => (by cases h)⟩
/-- The loop that readies the others. -/
def led (v : NSR) (k : Nat) : NSR := { v with role := 3, leader := v.me, next := fun i => if i ∈ (Go.Raft.others v.me).take k then len v.log + 1 else v.next i, mat := fun i => if i ∈ (Go.Raft.others v.me).take k then 0 else v.mat i }
theorem led_succ {v : NSR} {k to : Nat} (hk : k < (Go.Raft.others v.me).length) (h : (Go.Raft.others v.me)[k] = to) :
    { led v k with next := upd (led v k).next to (len v.log + 1), mat := upd (led v k).mat to 0 } = led v (k + 1) := by
  unfold led
  have e : ∀ i, i ∈ (Go.Raft.others v.me).take (k + 1) ↔ i ∈ (Go.Raft.others v.me).take k ∨ i = to := fun i => by
    rw [List.take_succ_eq_append_getElem hk, List.mem_append, List.mem_singleton, h]
  have n1 : upd (fun i => if i ∈ (Go.Raft.others v.me).take k then len v.log + 1 else v.next i) to (len v.log + 1) = fun i => if i ∈ (Go.Raft.others v.me).take (k + 1) then len v.log + 1 else v.next i := by
    funext i
    unfold upd
    by_cases hi : i = to
    · rw [if_pos hi, if_pos ((e i).2 (.inr hi))]
    · rw [if_neg hi]
      show (if i ∈ (Go.Raft.others v.me).take k then _ else _) = _
      by_cases hm : i ∈ (Go.Raft.others v.me).take k
      · rw [if_pos hm, if_pos ((e i).2 (.inl hm))]
      · rw [if_neg hm, if_neg (fun x => ((e i).1 x).elim hm hi)]
  have n2 : upd (fun i => if i ∈ (Go.Raft.others v.me).take k then 0 else v.mat i) to 0 = fun i => if i ∈ (Go.Raft.others v.me).take (k + 1) then 0 else v.mat i := by
    funext i
    unfold upd
    by_cases hi : i = to
    · rw [if_pos hi, if_pos ((e i).2 (.inr hi))]
    · rw [if_neg hi]
      show (if i ∈ (Go.Raft.others v.me).take k then _ else _) = _
      by_cases hm : i ∈ (Go.Raft.others v.me).take k
      · rw [if_pos hm, if_pos ((e i).2 (.inl hm))]
      · rw [if_neg hm, if_neg (fun x => ((e i).1 x).elim hm hi)]
  have := congr (congrArg (fun a b => ({ v with role := 3, leader := v.me, next := a, mat := b } : NSR)) n1) n2
  exact this
theorem led_zero (v : NSR) : led v 0 = { v with role := 3, leader := v.me } := by unfold led; simp
theorem led_end {v : NSR} (h : v.me < 3) (k : Nat) (hk : k = (oth v.me 3).length) : led v k = { v with role := 3, leader := v.me, next := fun i => if i ∈ Go.Raft.others v.me then len v.log + 1 else v.next i, mat := fun i => if i ∈ Go.Raft.others v.me then 0 else v.mat i } := by
  have e : (Go.Raft.others v.me).take k = Go.Raft.others v.me := by
    refine List.take_of_length_le ?_
    rw [hk, oth_three h, List.length_map]; exact Nat.le_refl _
  unfold led
  rw [e]
/-- Letters that were made behind all. -/
theorem Post.ls {σ τ τ' : H} {F F' : Nat → Prop} {B : Nat} {v' : NSR} {o : Option Nat} {ws : AM.SA} {ls : List (Lm × AM.SA)} (s : Stq F F' σ τ) (nv : NV τ B v' F') (hf : ∀ id, F' id → id < τ.length) (p : τ <+: τ') (l : LsV τ τ' o ws ls) : Post F σ τ' B v' F' o ws ls :=
  ⟨s.trans (Stq.pre _ p), nv.stq (Stq.pre (fun _ => False) p) fun _ _ h => h, l.low s.len, fun id e hF => by
    subst e
    have := l.row.2.1
    have := hf _ hF
    omega, fun y hy id off z e hF => by
    have := l.fr y hy id off z e
    have := hf _ hF
    omega⟩
theorem OkN.lead {v : NSR} (ok : OkN v) : OkN (Go.Raft.lead zR v) := by
  refine ⟨ok.me, ok.s0, ok.s1, ?_, ?_, ok.t0, ok.t1, fun j hj => ?_, fun j hj => ?_, ok.c0⟩
  · show (if v.log.length < 2000 then v.log ++ [(v.term, zR)] else v.log).length ≤ 2000
    split
    · rw [List.length_append, List.length_singleton]; omega
    · exact ok.l
  · show Small (if v.log.length < 2000 then v.log ++ [(v.term, zR)] else v.log)
    split
    · intro e he
      rcases List.mem_append.1 he with he | he
      · exact ok.sm e he
      · rw [List.mem_singleton] at he; subst he
        exact ⟨Nat.zero_le _, Nat.zero_le _⟩
    · exact ok.sm
  · show 0 ≤ (if j ∈ Go.Raft.others v.me then len v.log + 1 else v.next j) ∧ (if j ∈ Go.Raft.others v.me then len v.log + 1 else v.next j) ≤ 2001
    have := ok.l
    split
    · unfold len; omega
    · exact ok.nx j hj
  · show 0 ≤ (if j ∈ Go.Raft.others v.me then 0 else v.mat j) ∧ (if j ∈ Go.Raft.others v.me then 0 else v.mat j) ≤ 2000
    split
    · omega
    · exact ok.mt j hj
theorem bs36 {σ : H} {e : En} {K : AV → H → Bool} (hK : K (.sl (.at σ.length 0 4) 1) (σ ++ [.cells (enCells e) 4 .own]) = true) : buildSliceK Tryz.prog 36 1 [(0, .agg (enCells e))] σ K = true := by
  unfold buildSliceK
  rw [Tryz.underlying36]
  simp only
  conv => lhs; whnf
  exact hK
set_option maxHeartbeats 4000000 in
theorem given_spec {n : Nat} {x : Lm × AM.SA} (hn : 2500 ≤ n) (hD : ByPlan Tryz.prog D) (h : NVx σ B BL o w V bx b m v) (ok : OkN v) (c1 : 0 ≤ x.1.src) (c2 : x.1.src < 3) {K : AV → H → Bool}
    (hK : ∀ F' o' ws ls σ', Post (fpN B BL o b m v.role) σ σ' B (Go.Raft.given zR v x.1).1 F' o' ws ls → ls.map (·.1) = (Go.Raft.given zR v x.1).2 → K (.sl ws ls.length) σ' = true) :
    acall Tryz.prog tab D n 61 [.ptr (some ⟨B, 0, 0, 15⟩), .agg (lc x)] σ K = true := by
  obtain ⟨n, rfl, hn⟩ := up hn
  have hl2 := h.lenV
  have hl3 := ok.l
  have ltB := h.ltB
  have pa := List.prefix_append σ [AO.cells (lc x) 9 .own]
  have h1 := h.mono pa
  have hB1 := h1.hB
  have ga := get_new σ (AO.cells (lc x) 9 .own)
  have nil : ∀ v' τ, Go.Raft.given zR v x.1 = (v', []) → Stq (fpN B BL o b m v.role) (fpN B BL o b m v'.role) σ τ → NVx τ B BL o w V bx b m v' → K (.sl .nil 0) τ = true := fun v' τ e s nv =>
    hK _ none .nil [] τ (by rw [e]; exact Post.nil s ⟨BL, o, w, V, bx, b, m, nv, rfl⟩) (by rw [e]; rfl)
  repeat ((conv => lhs; whnf); first | ((with_reducible apply gLd); apply ldF; (focus (rfl)); (focus (rfl)); (focus (rfl)); (focus ((repeat (first | assumption | exact get_new _ _ | refine get_old ?_ _ | refine get_set ?_ _ | refine get_set_ne ?_ (by first | assumption | (simp <;> omega) | omega) _ | refine prefix_get (by assumption) ?_)); done)); (focus (rfl))) | ((with_reducible apply gSt); first | (apply st_int; (focus (rfl)); (focus (rfl)); (focus (decide)); (focus ((repeat (first | assumption | exact get_new _ _ | refine get_old ?_ _ | refine get_set ?_ _ | refine get_set_ne ?_ (by first | assumption | (simp <;> omega) | omega) _ | refine prefix_get (by assumption) ?_)); done)); (focus (decide))) | (apply st_sl; (focus (rfl)); (focus (rfl)); (focus (decide)); (focus ((repeat (first | assumption | exact get_new _ _ | refine get_old ?_ _ | refine get_set ?_ _ | refine get_set_ne ?_ (by first | assumption | (simp <;> omega) | omega) _ | refine prefix_get (by assumption) ?_)); done)); (focus (decide))) | (apply st_bool; (focus (rfl)); (focus (rfl)); (focus (decide)); (focus ((repeat (first | assumption | exact get_new _ _ | refine get_old ?_ _ | refine get_set ?_ _ | refine get_set_ne ?_ (by first | assumption | (simp <;> omega) | omega) _ | refine prefix_get (by assumption) ?_)); done)); (focus (decide))) | (apply st_ptr; (focus (rfl)); (focus (rfl)); (focus (decide)); (focus ((repeat (first | assumption | exact get_new _ _ | refine get_old ?_ _ | refine get_set ?_ _ | refine get_set_ne ?_ (by first | assumption | (simp <;> omega) | omega) _ | refine prefix_get (by assumption) ?_)); done)); (focus (decide)))) | refine ByPlan.go (by assumption) plan61x3 ord61x3 ?_ | refine ByPlan.go (by assumption) plan61x10 ord61x10 ?_ | refine ByPlan.go (by assumption) plan61x12 ord61x12 ?_ | (refine and_true ?_ ?_; (focus ((repeat (first | refine all_skip rfl ?_ | exact rfl | (refine all_cons ?_ ?_; (focus ((conv => lhs; whnf); ((with_reducible apply gLd); apply ldF; (focus (rfl)); (focus (rfl)); (focus (rfl)); (focus ((repeat (first | assumption | exact get_new _ _ | refine get_old ?_ _ | refine get_set ?_ _ | refine get_set_ne ?_ (by first | assumption | (simp <;> omega) | omega) _ | refine prefix_get (by assumption) ?_)); done)); (focus (rfl))); (first | exact cs_int rfl | exact cs_ptr rfl | exact cs_sl rfl | exact cs_str rfl | exact cs_bool rfl | exact cs_map rfl | exact same_int _ _ | exact same_sl _ _ | exact same_str _ | exact same_ptr _ | rfl)))))); done))))
  conv => lhs; whnf
  by_cases r2 : v.role = 2
  case neg =>
    refine bif_pos (by simpa using r2) ?_
    repeat ((conv => lhs; whnf); first | ((with_reducible apply gLd); apply ldF; (focus (rfl)); (focus (rfl)); (focus (rfl)); (focus ((repeat (first | assumption | exact get_new _ _ | refine get_old ?_ _ | refine get_set ?_ _ | refine get_set_ne ?_ (by first | assumption | (simp <;> omega) | omega) _ | refine prefix_get (by assumption) ?_)); done)); (focus (rfl))) | ((with_reducible apply gSt); first | (apply st_int; (focus (rfl)); (focus (rfl)); (focus (decide)); (focus ((repeat (first | assumption | exact get_new _ _ | refine get_old ?_ _ | refine get_set ?_ _ | refine get_set_ne ?_ (by first | assumption | (simp <;> omega) | omega) _ | refine prefix_get (by assumption) ?_)); done)); (focus (decide))) | (apply st_sl; (focus (rfl)); (focus (rfl)); (focus (decide)); (focus ((repeat (first | assumption | exact get_new _ _ | refine get_old ?_ _ | refine get_set ?_ _ | refine get_set_ne ?_ (by first | assumption | (simp <;> omega) | omega) _ | refine prefix_get (by assumption) ?_)); done)); (focus (decide))) | (apply st_bool; (focus (rfl)); (focus (rfl)); (focus (decide)); (focus ((repeat (first | assumption | exact get_new _ _ | refine get_old ?_ _ | refine get_set ?_ _ | refine get_set_ne ?_ (by first | assumption | (simp <;> omega) | omega) _ | refine prefix_get (by assumption) ?_)); done)); (focus (decide))) | (apply st_ptr; (focus (rfl)); (focus (rfl)); (focus (decide)); (focus ((repeat (first | assumption | exact get_new _ _ | refine get_old ?_ _ | refine get_set ?_ _ | refine get_set_ne ?_ (by first | assumption | (simp <;> omega) | omega) _ | refine prefix_get (by assumption) ?_)); done)); (focus (decide)))) | refine ByPlan.go (by assumption) plan61x3 ord61x3 ?_ | refine ByPlan.go (by assumption) plan61x10 ord61x10 ?_ | refine ByPlan.go (by assumption) plan61x12 ord61x12 ?_ | (refine and_true ?_ ?_; (focus ((repeat (first | refine all_skip rfl ?_ | exact rfl | (refine all_cons ?_ ?_; (focus ((conv => lhs; whnf); ((with_reducible apply gLd); apply ldF; (focus (rfl)); (focus (rfl)); (focus (rfl)); (focus ((repeat (first | assumption | exact get_new _ _ | refine get_old ?_ _ | refine get_set ?_ _ | refine get_set_ne ?_ (by first | assumption | (simp <;> omega) | omega) _ | refine prefix_get (by assumption) ?_)); done)); (focus (rfl))); (first | exact cs_int rfl | exact cs_ptr rfl | exact cs_sl rfl | exact cs_str rfl | exact cs_bool rfl | exact cs_map rfl | exact same_int _ _ | exact same_sl _ _ | exact same_str _ | exact same_ptr _ | rfl)))))); done))))
    conv => lhs; whnf
    exact nil v _ (by unfold Go.Raft.given; rw [if_pos (.inl r2)]) (Stq.pre _ pa) h1
  refine bif_neg (by simpa using r2) ?_
  repeat ((conv => lhs; whnf); first | ((with_reducible apply gLd); apply ldF; (focus (rfl)); (focus (rfl)); (focus (rfl)); (focus ((repeat (first | assumption | exact get_new _ _ | refine get_old ?_ _ | refine get_set ?_ _ | refine get_set_ne ?_ (by first | assumption | (simp <;> omega) | omega) _ | refine prefix_get (by assumption) ?_)); done)); (focus (rfl))) | ((with_reducible apply gSt); first | (apply st_int; (focus (rfl)); (focus (rfl)); (focus (decide)); (focus ((repeat (first | assumption | exact get_new _ _ | refine get_old ?_ _ | refine get_set ?_ _ | refine get_set_ne ?_ (by first | assumption | (simp <;> omega) | omega) _ | refine prefix_get (by assumption) ?_)); done)); (focus (decide))) | (apply st_sl; (focus (rfl)); (focus (rfl)); (focus (decide)); (focus ((repeat (first | assumption | exact get_new _ _ | refine get_old ?_ _ | refine get_set ?_ _ | refine get_set_ne ?_ (by first | assumption | (simp <;> omega) | omega) _ | refine prefix_get (by assumption) ?_)); done)); (focus (decide))) | (apply st_bool; (focus (rfl)); (focus (rfl)); (focus (decide)); (focus ((repeat (first | assumption | exact get_new _ _ | refine get_old ?_ _ | refine get_set ?_ _ | refine get_set_ne ?_ (by first | assumption | (simp <;> omega) | omega) _ | refine prefix_get (by assumption) ?_)); done)); (focus (decide))) | (apply st_ptr; (focus (rfl)); (focus (rfl)); (focus (decide)); (focus ((repeat (first | assumption | exact get_new _ _ | refine get_old ?_ _ | refine get_set ?_ _ | refine get_set_ne ?_ (by first | assumption | (simp <;> omega) | omega) _ | refine prefix_get (by assumption) ?_)); done)); (focus (decide)))) | refine ByPlan.go (by assumption) plan61x3 ord61x3 ?_ | refine ByPlan.go (by assumption) plan61x10 ord61x10 ?_ | refine ByPlan.go (by assumption) plan61x12 ord61x12 ?_ | (refine and_true ?_ ?_; (focus ((repeat (first | refine all_skip rfl ?_ | exact rfl | (refine all_cons ?_ ?_; (focus ((conv => lhs; whnf); ((with_reducible apply gLd); apply ldF; (focus (rfl)); (focus (rfl)); (focus (rfl)); (focus ((repeat (first | assumption | exact get_new _ _ | refine get_old ?_ _ | refine get_set ?_ _ | refine get_set_ne ?_ (by first | assumption | (simp <;> omega) | omega) _ | refine prefix_get (by assumption) ?_)); done)); (focus (rfl))); (first | exact cs_int rfl | exact cs_ptr rfl | exact cs_sl rfl | exact cs_str rfl | exact cs_bool rfl | exact cs_map rfl | exact same_int _ _ | exact same_sl _ _ | exact same_str _ | exact same_ptr _ | rfl)))))); done))))
  conv => lhs; whnf
  cases hy : x.1.yes
  · repeat ((conv => lhs; whnf); first | ((with_reducible apply gLd); apply ldF; (focus (rfl)); (focus (rfl)); (focus (rfl)); (focus ((repeat (first | assumption | exact get_new _ _ | refine get_old ?_ _ | refine get_set ?_ _ | refine get_set_ne ?_ (by first | assumption | (simp <;> omega) | omega) _ | refine prefix_get (by assumption) ?_)); done)); (focus (rfl))) | ((with_reducible apply gSt); first | (apply st_int; (focus (rfl)); (focus (rfl)); (focus (decide)); (focus ((repeat (first | assumption | exact get_new _ _ | refine get_old ?_ _ | refine get_set ?_ _ | refine get_set_ne ?_ (by first | assumption | (simp <;> omega) | omega) _ | refine prefix_get (by assumption) ?_)); done)); (focus (decide))) | (apply st_sl; (focus (rfl)); (focus (rfl)); (focus (decide)); (focus ((repeat (first | assumption | exact get_new _ _ | refine get_old ?_ _ | refine get_set ?_ _ | refine get_set_ne ?_ (by first | assumption | (simp <;> omega) | omega) _ | refine prefix_get (by assumption) ?_)); done)); (focus (decide))) | (apply st_bool; (focus (rfl)); (focus (rfl)); (focus (decide)); (focus ((repeat (first | assumption | exact get_new _ _ | refine get_old ?_ _ | refine get_set ?_ _ | refine get_set_ne ?_ (by first | assumption | (simp <;> omega) | omega) _ | refine prefix_get (by assumption) ?_)); done)); (focus (decide))) | (apply st_ptr; (focus (rfl)); (focus (rfl)); (focus (decide)); (focus ((repeat (first | assumption | exact get_new _ _ | refine get_old ?_ _ | refine get_set ?_ _ | refine get_set_ne ?_ (by first | assumption | (simp <;> omega) | omega) _ | refine prefix_get (by assumption) ?_)); done)); (focus (decide)))) | refine ByPlan.go (by assumption) plan61x3 ord61x3 ?_ | refine ByPlan.go (by assumption) plan61x10 ord61x10 ?_ | refine ByPlan.go (by assumption) plan61x12 ord61x12 ?_ | (refine and_true ?_ ?_; (focus ((repeat (first | refine all_skip rfl ?_ | exact rfl | (refine all_cons ?_ ?_; (focus ((conv => lhs; whnf); ((with_reducible apply gLd); apply ldF; (focus (rfl)); (focus (rfl)); (focus (rfl)); (focus ((repeat (first | assumption | exact get_new _ _ | refine get_old ?_ _ | refine get_set ?_ _ | refine get_set_ne ?_ (by first | assumption | (simp <;> omega) | omega) _ | refine prefix_get (by assumption) ?_)); done)); (focus (rfl))); (first | exact cs_int rfl | exact cs_ptr rfl | exact cs_sl rfl | exact cs_str rfl | exact cs_bool rfl | exact cs_map rfl | exact same_int _ _ | exact same_sl _ _ | exact same_str _ | exact same_ptr _ | rfl)))))); done))))
    conv => lhs; whnf
    exact nil v _ (by unfold Go.Raft.given; rw [if_pos (.inr hy)]) (Stq.pre _ pa) h1
  have gE : Go.Raft.given zR v x.1 = if Go.Raft.won { v with box := upd v.box x.1.src.toNat true } then (Go.Raft.lead zR { v with box := upd v.box x.1.src.toNat true }, Go.Raft.all (Go.Raft.lead zR { v with box := upd v.box x.1.src.toNat true })) else ({ v with box := upd v.box x.1.src.toNat true }, []) := by
    unfold Go.Raft.given
    rw [if_neg (fun h => h.elim (fun h => h r2) (fun h => by rw [hy] at h; cases h))]
  have hmσ : m < σ.length := fpN_ne h (.inr (.inr ⟨r2, .inr rfl⟩))
  repeat ((conv => lhs; whnf); first | ((with_reducible apply gLd); apply ldF; (focus (rfl)); (focus (rfl)); (focus (rfl)); (focus ((repeat (first | assumption | exact get_new _ _ | refine get_old ?_ _ | refine get_set ?_ _ | refine get_set_ne ?_ (by first | assumption | (simp <;> omega) | omega) _ | refine prefix_get (by assumption) ?_)); done)); (focus (rfl))) | ((with_reducible apply gSt); first | (apply st_int; (focus (rfl)); (focus (rfl)); (focus (decide)); (focus ((repeat (first | assumption | exact get_new _ _ | refine get_old ?_ _ | refine get_set ?_ _ | refine get_set_ne ?_ (by first | assumption | (simp <;> omega) | omega) _ | refine prefix_get (by assumption) ?_)); done)); (focus (decide))) | (apply st_sl; (focus (rfl)); (focus (rfl)); (focus (decide)); (focus ((repeat (first | assumption | exact get_new _ _ | refine get_old ?_ _ | refine get_set ?_ _ | refine get_set_ne ?_ (by first | assumption | (simp <;> omega) | omega) _ | refine prefix_get (by assumption) ?_)); done)); (focus (decide))) | (apply st_bool; (focus (rfl)); (focus (rfl)); (focus (decide)); (focus ((repeat (first | assumption | exact get_new _ _ | refine get_old ?_ _ | refine get_set ?_ _ | refine get_set_ne ?_ (by first | assumption | (simp <;> omega) | omega) _ | refine prefix_get (by assumption) ?_)); done)); (focus (decide))) | (apply st_ptr; (focus (rfl)); (focus (rfl)); (focus (decide)); (focus ((repeat (first | assumption | exact get_new _ _ | refine get_old ?_ _ | refine get_set ?_ _ | refine get_set_ne ?_ (by first | assumption | (simp <;> omega) | omega) _ | refine prefix_get (by assumption) ?_)); done)); (focus (decide)))) | refine ByPlan.go (by assumption) plan61x3 ord61x3 ?_ | refine ByPlan.go (by assumption) plan61x10 ord61x10 ?_ | refine ByPlan.go (by assumption) plan61x12 ord61x12 ?_ | (refine and_true ?_ ?_; (focus ((repeat (first | refine all_skip rfl ?_ | exact rfl | (refine all_cons ?_ ?_; (focus ((conv => lhs; whnf); ((with_reducible apply gLd); apply ldF; (focus (rfl)); (focus (rfl)); (focus (rfl)); (focus ((repeat (first | assumption | exact get_new _ _ | refine get_old ?_ _ | refine get_set ?_ _ | refine get_set_ne ?_ (by first | assumption | (simp <;> omega) | omega) _ | refine prefix_get (by assumption) ?_)); done)); (focus (rfl))); (first | exact cs_int rfl | exact cs_ptr rfl | exact cs_sl rfl | exact cs_str rfl | exact cs_bool rfl | exact cs_map rfl | exact same_int _ _ | exact same_sl _ _ | exact same_str _ | exact same_ptr _ | rfl)))))); done))))
  conv => lhs; whnf
  refine boxAdd_spec (by omega) h1 r2 c1 c2 fun r σ2 s2 k2 h2 => ?_
  generalize hv2 : { v with box := upd v.box x.1.src.toNat true } = v2 at gE h2 ⊢
  have hvr : v2.role = 2 := by rw [← hv2]; exact r2
  have hvm : v2.me = v.me := by rw [← hv2]
  have hvl : v2.log = v.log := by rw [← hv2]
  have hB2 := h2.hB
  have g2 := (k2 σ.length (by omega) (get_lt ga)).trans ga
  have s02 := (Stq.pre (fpN B BL o b m v.role) pa).trans s2
  cases r
  all_goals
    repeat ((conv => lhs; whnf); first | ((with_reducible apply gLd); apply ldF; (focus (rfl)); (focus (rfl)); (focus (rfl)); (focus ((repeat (first | assumption | exact get_new _ _ | refine get_old ?_ _ | refine get_set ?_ _ | refine get_set_ne ?_ (by first | assumption | (simp <;> omega) | omega) _ | refine prefix_get (by assumption) ?_)); done)); (focus (rfl))) | ((with_reducible apply gSt); first | (apply st_int; (focus (rfl)); (focus (rfl)); (focus (decide)); (focus ((repeat (first | assumption | exact get_new _ _ | refine get_old ?_ _ | refine get_set ?_ _ | refine get_set_ne ?_ (by first | assumption | (simp <;> omega) | omega) _ | refine prefix_get (by assumption) ?_)); done)); (focus (decide))) | (apply st_sl; (focus (rfl)); (focus (rfl)); (focus (decide)); (focus ((repeat (first | assumption | exact get_new _ _ | refine get_old ?_ _ | refine get_set ?_ _ | refine get_set_ne ?_ (by first | assumption | (simp <;> omega) | omega) _ | refine prefix_get (by assumption) ?_)); done)); (focus (decide))) | (apply st_bool; (focus (rfl)); (focus (rfl)); (focus (decide)); (focus ((repeat (first | assumption | exact get_new _ _ | refine get_old ?_ _ | refine get_set ?_ _ | refine get_set_ne ?_ (by first | assumption | (simp <;> omega) | omega) _ | refine prefix_get (by assumption) ?_)); done)); (focus (decide))) | (apply st_ptr; (focus (rfl)); (focus (rfl)); (focus (decide)); (focus ((repeat (first | assumption | exact get_new _ _ | refine get_old ?_ _ | refine get_set ?_ _ | refine get_set_ne ?_ (by first | assumption | (simp <;> omega) | omega) _ | refine prefix_get (by assumption) ?_)); done)); (focus (decide)))) | refine ByPlan.go (by assumption) plan61x3 ord61x3 ?_ | refine ByPlan.go (by assumption) plan61x10 ord61x10 ?_ | refine ByPlan.go (by assumption) plan61x12 ord61x12 ?_ | (refine and_true ?_ ?_; (focus ((repeat (first | refine all_skip rfl ?_ | exact rfl | (refine all_cons ?_ ?_; (focus ((conv => lhs; whnf); ((with_reducible apply gLd); apply ldF; (focus (rfl)); (focus (rfl)); (focus (rfl)); (focus ((repeat (first | assumption | exact get_new _ _ | refine get_old ?_ _ | refine get_set ?_ _ | refine get_set_ne ?_ (by first | assumption | (simp <;> omega) | omega) _ | refine prefix_get (by assumption) ?_)); done)); (focus (rfl))); (first | exact cs_int rfl | exact cs_ptr rfl | exact cs_sl rfl | exact cs_str rfl | exact cs_bool rfl | exact cs_map rfl | exact same_int _ _ | exact same_sl _ _ | exact same_str _ | exact same_ptr _ | rfl)))))); done))))
    conv => lhs; whnf
    obtain ⟨eb, hb, es, c, S, hm, hE, hSl, _⟩ := h2.hX hvr
    subst eb
    refine vwon_spec (N := 3) (by omega) hD (by decide) hb hm ?_
    rw [hE.len, hSl, show ((mostN 3 : Nat) : Int) = 2 from rfl]
    by_cases hw : 2 ≤ ([0, 1, 2].filter v2.box).length
    case neg =>
      rw [show decide (((([0, 1, 2].filter v2.box).length : Nat) : Int) ≥ 2) = false from decide_eq_false (by omega)]
      repeat ((conv => lhs; whnf); first | ((with_reducible apply gLd); apply ldF; (focus (rfl)); (focus (rfl)); (focus (rfl)); (focus ((repeat (first | assumption | exact get_new _ _ | refine get_old ?_ _ | refine get_set ?_ _ | refine get_set_ne ?_ (by first | assumption | (simp <;> omega) | omega) _ | refine prefix_get (by assumption) ?_)); done)); (focus (rfl))) | ((with_reducible apply gSt); first | (apply st_int; (focus (rfl)); (focus (rfl)); (focus (decide)); (focus ((repeat (first | assumption | exact get_new _ _ | refine get_old ?_ _ | refine get_set ?_ _ | refine get_set_ne ?_ (by first | assumption | (simp <;> omega) | omega) _ | refine prefix_get (by assumption) ?_)); done)); (focus (decide))) | (apply st_sl; (focus (rfl)); (focus (rfl)); (focus (decide)); (focus ((repeat (first | assumption | exact get_new _ _ | refine get_old ?_ _ | refine get_set ?_ _ | refine get_set_ne ?_ (by first | assumption | (simp <;> omega) | omega) _ | refine prefix_get (by assumption) ?_)); done)); (focus (decide))) | (apply st_bool; (focus (rfl)); (focus (rfl)); (focus (decide)); (focus ((repeat (first | assumption | exact get_new _ _ | refine get_old ?_ _ | refine get_set ?_ _ | refine get_set_ne ?_ (by first | assumption | (simp <;> omega) | omega) _ | refine prefix_get (by assumption) ?_)); done)); (focus (decide))) | (apply st_ptr; (focus (rfl)); (focus (rfl)); (focus (decide)); (focus ((repeat (first | assumption | exact get_new _ _ | refine get_old ?_ _ | refine get_set ?_ _ | refine get_set_ne ?_ (by first | assumption | (simp <;> omega) | omega) _ | refine prefix_get (by assumption) ?_)); done)); (focus (decide)))) | refine ByPlan.go (by assumption) plan61x3 ord61x3 ?_ | refine ByPlan.go (by assumption) plan61x10 ord61x10 ?_ | refine ByPlan.go (by assumption) plan61x12 ord61x12 ?_ | (refine and_true ?_ ?_; (focus ((repeat (first | refine all_skip rfl ?_ | exact rfl | (refine all_cons ?_ ?_; (focus ((conv => lhs; whnf); ((with_reducible apply gLd); apply ldF; (focus (rfl)); (focus (rfl)); (focus (rfl)); (focus ((repeat (first | assumption | exact get_new _ _ | refine get_old ?_ _ | refine get_set ?_ _ | refine get_set_ne ?_ (by first | assumption | (simp <;> omega) | omega) _ | refine prefix_get (by assumption) ?_)); done)); (focus (rfl))); (first | exact cs_int rfl | exact cs_ptr rfl | exact cs_sl rfl | exact cs_str rfl | exact cs_bool rfl | exact cs_map rfl | exact same_int _ _ | exact same_sl _ _ | exact same_str _ | exact same_ptr _ | rfl)))))); done))))
      conv => lhs; whnf
      exact nil v2 _ (by rw [gE, if_neg]; unfold Go.Raft.won; simpa using hw) (by rw [hvr, ← r2]; exact s02) h2
    rw [show decide (((([0, 1, 2].filter v2.box).length : Nat) : Int) ≥ 2) = true from decide_eq_true (by omega)]
    rw [if_pos (by unfold Go.Raft.won; exact decide_eq_true hw)] at gE
    clear nil hm hb hE hSl k2
    conv => lhs; whnf
    refine ldF rfl rfl rfl hB2 rfl ?_
    conv => lhs; whnf
    refine stNode (v' := { v2 with role := 3 }) (bx' := some ⟨b, 0, 0, 2⟩) (BL' := BL) rfl rfl (by decide) rfl hB2 rfl ?_
    have hB3 := get_set hB2 (AO.cells (nc { v2 with role := 3 } BL (some ⟨b, 0, 0, 2⟩)) 15 .own)
    have h3 := h2.set (v' := { v2 with role := 3 }) (bx' := some ⟨b, 0, 0, 2⟩) rfl fun hr => by cases hr
    have s3 : Stq (fpN B BL o b m v.role) (fpN B BL o b m v.role) σ2 (σ2.set B (AO.cells (nc { v2 with role := 3 } BL (some ⟨b, 0, 0, 2⟩)) 15 .own)) := Stq.set (.inl rfl) hB2 (by decide)
    generalize σ2.set B (AO.cells (nc { v2 with role := 3 } BL (some ⟨b, 0, 0, 2⟩)) 15 .own) = τ3 at hB3 h3 s3 ⊢
    conv => lhs; whnf
    refine stNode (v' := { v2 with role := 3, leader := v2.me }) (bx' := some ⟨b, 0, 0, 2⟩) (BL' := BL) rfl rfl (by decide) rfl hB3 rfl ?_
    have hB4 := get_set hB3 (AO.cells (nc { v2 with role := 3, leader := v2.me } BL (some ⟨b, 0, 0, 2⟩)) 15 .own)
    have h4 := h3.set (v' := { v2 with role := 3, leader := v2.me }) (bx' := some ⟨b, 0, 0, 2⟩) rfl fun hr => by cases hr
    have s4 : Stq (fpN B BL o b m v.role) (fpN B BL o b m v.role) τ3 (τ3.set B (AO.cells (nc { v2 with role := 3, leader := v2.me } BL (some ⟨b, 0, 0, 2⟩)) 15 .own)) := Stq.set (.inl rfl) hB3 (by decide)
    generalize τ3.set B (AO.cells (nc { v2 with role := 3, leader := v2.me } BL (some ⟨b, 0, 0, 2⟩)) 15 .own) = τ4 at hB4 h4 s4 ⊢
    have s04 := s02.trans (s3.trans s4)
    have hm3 : v2.me < 3 := by rw [hvm]; exact ok.me
    rw [← led_zero] at hB4 h4
    clear s3 s4 h3 hB3 s02 h2 hB2
    conv => lhs; whnf
    refine others_spec (by omega) hB4 hm3 fun w5 τ5 p5 r5 => ?_
    have hol := oth_len v2.me 3
    conv => lhs; whnf
    refine loop_rule (m := 15393162788865) (fun q fr τ => ∃ (z : Int) (k : Nat), z = (k : Int) ∧ k + q = (oth v2.me 3).length ∧ Stq (fpN B BL o b m v.role) (fpN B BL o b m v.role) σ τ ∧ NVx τ B BL o w V (some ⟨b, 0, 0, 2⟩) b m (led v2 k) ∧ Rw τ 1 w5 (oth v2.me 3).length (iks .i64 (oth v2.me 3)) ∧
        fr = [.ptr (some ⟨B, 0, 0, 15⟩), .bad, .bad, .bad, .bad, .bad, .bad, .bad, .bad, .bad, .bad, .bad, .bad, .bad, .bad, .bad, .bad, .bad, .bad, .bad, .bad, .bad, .bad, .bad, .bad, .bad, .bad, .bad, .bad, .bad, .bad, .bad, .bad, .bad, .bad, .bad, .bad, .bad, .bad, .bad, .bad, .sl w5 (oth v2.me 3).length, .int .i64 ((oth v2.me 3).length : Int), .int .i64 z, .bad, .bad, .bad, .bad, .bad, .bad, .bad, .bad, .bad, .bad, .bad, .bad, .bad, .bad, .bad, .bad, .bad, .bad, .bad, .bad, .bad, .bad, .bad, .bad, .bad, .bad, .bad, .bad, .bad, .bad, .bad, .bad, .bad, .bad]) ?_ _ (oth v2.me 3).length _ _ (by omega)
        ⟨_, 0, rfl, Nat.zero_add _, s04.trans (Stq.pre _ p5), h4.mono p5, r5, rfl⟩
    clear s04 h4 hB4 r5 p5
    rintro q fr τ C ⟨z, k, rfl, hq, s5, h5, r5, rfl⟩ next fin
    conv => lhs; whnf
    by_cases hk : k < (oth v2.me 3).length
    case pos =>
      refine bif_pos (by simpa using hk) ?_
      obtain ⟨to, e1, e2, e3⟩ := oth_get hk
      have hB5 := h5.hB
      have e4 : ∃ hh : k < (Go.Raft.others v2.me).length, (Go.Raft.others v2.me)[k] = to := by
        have hh : k < (Go.Raft.others v2.me).length := by rw [oth_three hm3, List.length_map] at hk; exact hk
        refine ⟨hh, ?_⟩
        have : (oth v2.me 3)[k]? = (((Go.Raft.others v2.me).map fun (j : Nat) => (j : Int)))[k]? := by rw [oth_three hm3]
        rw [List.getElem?_eq_getElem hk, e1, List.getElem?_map, List.getElem?_eq_getElem hh] at this
        have t2 : ((to : Nat) : Int) = (((Go.Raft.others v2.me)[k] : Nat) : Int) := Option.some.inj this
        omega
      obtain ⟨hh, e4⟩ := e4
      conv => lhs; whnf
      refine it44.idx r5 rfl hk fun p hE => ?_
      conv => lhs; whnf
      refine it44.ld hE ?_
      rw [e1]
      repeat ((conv => lhs; whnf); first | ((with_reducible apply gLd); apply ldF; (focus (rfl)); (focus (rfl)); (focus (rfl)); (focus ((repeat (first | assumption | exact get_new _ _ | refine get_old ?_ _ | refine get_set ?_ _ | refine get_set_ne ?_ (by first | assumption | (simp <;> omega) | omega) _ | refine prefix_get (by assumption) ?_)); done)); (focus (rfl))) | ((with_reducible apply gSt); first | (apply st_int; (focus (rfl)); (focus (rfl)); (focus (decide)); (focus ((repeat (first | assumption | exact get_new _ _ | refine get_old ?_ _ | refine get_set ?_ _ | refine get_set_ne ?_ (by first | assumption | (simp <;> omega) | omega) _ | refine prefix_get (by assumption) ?_)); done)); (focus (decide))) | (apply st_sl; (focus (rfl)); (focus (rfl)); (focus (decide)); (focus ((repeat (first | assumption | exact get_new _ _ | refine get_old ?_ _ | refine get_set ?_ _ | refine get_set_ne ?_ (by first | assumption | (simp <;> omega) | omega) _ | refine prefix_get (by assumption) ?_)); done)); (focus (decide))) | (apply st_bool; (focus (rfl)); (focus (rfl)); (focus (decide)); (focus ((repeat (first | assumption | exact get_new _ _ | refine get_old ?_ _ | refine get_set ?_ _ | refine get_set_ne ?_ (by first | assumption | (simp <;> omega) | omega) _ | refine prefix_get (by assumption) ?_)); done)); (focus (decide))) | (apply st_ptr; (focus (rfl)); (focus (rfl)); (focus (decide)); (focus ((repeat (first | assumption | exact get_new _ _ | refine get_old ?_ _ | refine get_set ?_ _ | refine get_set_ne ?_ (by first | assumption | (simp <;> omega) | omega) _ | refine prefix_get (by assumption) ?_)); done)); (focus (decide)))) | refine ByPlan.go (by assumption) plan61x3 ord61x3 ?_ | refine ByPlan.go (by assumption) plan61x10 ord61x10 ?_ | refine ByPlan.go (by assumption) plan61x12 ord61x12 ?_ | (refine and_true ?_ ?_; (focus ((repeat (first | refine all_skip rfl ?_ | exact rfl | (refine all_cons ?_ ?_; (focus ((conv => lhs; whnf); ((with_reducible apply gLd); apply ldF; (focus (rfl)); (focus (rfl)); (focus (rfl)); (focus ((repeat (first | assumption | exact get_new _ _ | refine get_old ?_ _ | refine get_set ?_ _ | refine get_set_ne ?_ (by first | assumption | (simp <;> omega) | omega) _ | refine prefix_get (by assumption) ?_)); done)); (focus (rfl))); (first | exact cs_int rfl | exact cs_ptr rfl | exact cs_sl rfl | exact cs_str rfl | exact cs_bool rfl | exact cs_map rfl | exact same_int _ _ | exact same_sl _ _ | exact same_str _ | exact same_ptr _ | rfl)))))); done))))
      conv => lhs; whnf
      refine len_spec (by omega) h5.hL.log ?_
      conv => lhs; whnf
      refine idxArr e2 (by show 0 + 9 + to < 15; omega) ?_
      conv => lhs; whnf
      have ey : IntKind.i64.wrap ((V.length : Int) + 1) = len v2.log + 1 := by
        rw [wrap_i64 (by omega) (by omega), lenLog h5]; rfl
      rw [ey]
      refine stNode (v' := { led v2 k with next := upd (led v2 k).next to (len v2.log + 1) }) (bx' := some ⟨b, 0, 0, 2⟩) (BL' := BL) rfl rfl (by show 0 + 9 + to * 1 + 1 ≤ 15; omega) rfl hB5 (nxt_he e2) ?_
      have hB6 := get_set hB5 (AO.cells (nc { led v2 k with next := upd (led v2 k).next to (len v2.log + 1) } BL (some ⟨b, 0, 0, 2⟩)) 15 .own)
      have h6 := h5.set (v' := { led v2 k with next := upd (led v2 k).next to (len v2.log + 1) }) (bx' := some ⟨b, 0, 0, 2⟩) rfl fun hr => by cases hr
      have s6 : Stq (fpN B BL o b m v.role) (fpN B BL o b m v.role) τ (τ.set B (AO.cells (nc { led v2 k with next := upd (led v2 k).next to (len v2.log + 1) } BL (some ⟨b, 0, 0, 2⟩)) 15 .own)) := Stq.set (.inl rfl) hB5 (by decide)
      have r6 := Rwset (xs' := nc { led v2 k with next := upd (led v2 k).next to (len v2.log + 1) } BL (some ⟨b, 0, 0, 2⟩)) (md' := .own) r5 hB5 (by decide)
      generalize τ.set B (AO.cells (nc { led v2 k with next := upd (led v2 k).next to (len v2.log + 1) } BL (some ⟨b, 0, 0, 2⟩)) 15 .own) = τ6 at hB6 h6 s6 r6 ⊢
      conv => lhs; whnf
      refine idxArr e2 (by show 0 + 12 + to < 15; omega) ?_
      conv => lhs; whnf
      refine stNode (v' := led v2 (k + 1)) (bx' := some ⟨b, 0, 0, 2⟩) (BL' := BL) rfl rfl (by show 0 + 12 + to * 1 + 1 ≤ 15; omega) rfl hB6 ((mat_he e2).trans (by rw [← led_succ hh e4])) ?_
      have h7 := h6.set (v' := led v2 (k + 1)) (bx' := some ⟨b, 0, 0, 2⟩) rfl fun hr => by cases hr
      have s7 : Stq (fpN B BL o b m v.role) (fpN B BL o b m v.role) τ6 (τ6.set B (AO.cells (nc (led v2 (k + 1)) BL (some ⟨b, 0, 0, 2⟩)) 15 .own)) := Stq.set (.inl rfl) hB6 (by decide)
      have r7 := Rwset (xs' := nc (led v2 (k + 1)) BL (some ⟨b, 0, 0, 2⟩)) (md' := .own) r6 hB6 (by decide)
      conv => lhs; whnf
      exact next (q - 1) _ _ (by omega) ⟨_, k + 1, inc_i64 (by omega), by omega, s5.trans (s6.trans s7), h7, r7, rfl⟩
    refine bif_neg (by simpa using hk) ?_
    have hB5 := h5.hB
    have hke : k = (oth v2.me 3).length := by omega
    rw [led_end hm3 k hke] at h5 hB5
    have ok2 : OkN v2 := by rw [← hv2]; exact ⟨ok.me, ok.s0, ok.s1, ok.l, ok.sm, ok.t0, ok.t1, ok.nx, ok.mt, ok.c0⟩
    conv => lhs; whnf
    refine fin _ _ _ nofun ?_
    clear next fin
    repeat ((conv => lhs; whnf); first | ((with_reducible apply gLd); apply ldF; (focus (rfl)); (focus (rfl)); (focus (rfl)); (focus ((repeat (first | assumption | exact get_new _ _ | refine get_old ?_ _ | refine get_set ?_ _ | refine get_set_ne ?_ (by first | assumption | (simp <;> omega) | omega) _ | refine prefix_get (by assumption) ?_)); done)); (focus (rfl))) | ((with_reducible apply gSt); first | (apply st_int; (focus (rfl)); (focus (rfl)); (focus (decide)); (focus ((repeat (first | assumption | exact get_new _ _ | refine get_old ?_ _ | refine get_set ?_ _ | refine get_set_ne ?_ (by first | assumption | (simp <;> omega) | omega) _ | refine prefix_get (by assumption) ?_)); done)); (focus (decide))) | (apply st_sl; (focus (rfl)); (focus (rfl)); (focus (decide)); (focus ((repeat (first | assumption | exact get_new _ _ | refine get_old ?_ _ | refine get_set ?_ _ | refine get_set_ne ?_ (by first | assumption | (simp <;> omega) | omega) _ | refine prefix_get (by assumption) ?_)); done)); (focus (decide))) | (apply st_bool; (focus (rfl)); (focus (rfl)); (focus (decide)); (focus ((repeat (first | assumption | exact get_new _ _ | refine get_old ?_ _ | refine get_set ?_ _ | refine get_set_ne ?_ (by first | assumption | (simp <;> omega) | omega) _ | refine prefix_get (by assumption) ?_)); done)); (focus (decide))) | (apply st_ptr; (focus (rfl)); (focus (rfl)); (focus (decide)); (focus ((repeat (first | assumption | exact get_new _ _ | refine get_old ?_ _ | refine get_set ?_ _ | refine get_set_ne ?_ (by first | assumption | (simp <;> omega) | omega) _ | refine prefix_get (by assumption) ?_)); done)); (focus (decide)))) | refine ByPlan.go (by assumption) plan61x3 ord61x3 ?_ | refine ByPlan.go (by assumption) plan61x10 ord61x10 ?_ | refine ByPlan.go (by assumption) plan61x12 ord61x12 ?_ | (refine and_true ?_ ?_; (focus ((repeat (first | refine all_skip rfl ?_ | exact rfl | (refine all_cons ?_ ?_; (focus ((conv => lhs; whnf); ((with_reducible apply gLd); apply ldF; (focus (rfl)); (focus (rfl)); (focus (rfl)); (focus ((repeat (first | assumption | exact get_new _ _ | refine get_old ?_ _ | refine get_set ?_ _ | refine get_set_ne ?_ (by first | assumption | (simp <;> omega) | omega) _ | refine prefix_get (by assumption) ?_)); done)); (focus (rfl))); (first | exact cs_int rfl | exact cs_ptr rfl | exact cs_sl rfl | exact cs_str rfl | exact cs_bool rfl | exact cs_map rfl | exact same_int _ _ | exact same_sl _ _ | exact same_str _ | exact same_ptr _ | rfl)))))); done))))
    conv => lhs; whnf
    refine bs36 (e := (v2.term, .nil, .nil, zR)) ?_
    have p6 := List.prefix_append τ [AO.cells (enCells (v2.term, AM.SA.nil, AM.SA.nil, zR)) 4 .own]
    have h6 := h5.mono p6
    have hB6 := h6.hB
    have okF := ok2.lead
    have hll := h5.lenV
    have hll2 : V.length = v2.log.length := hll
    repeat ((conv => lhs; whnf); first | ((with_reducible apply gLd); apply ldF; (focus (rfl)); (focus (rfl)); (focus (rfl)); (focus ((repeat (first | assumption | exact get_new _ _ | refine get_old ?_ _ | refine get_set ?_ _ | refine get_set_ne ?_ (by first | assumption | (simp <;> omega) | omega) _ | refine prefix_get (by assumption) ?_)); done)); (focus (rfl))) | ((with_reducible apply gSt); first | (apply st_int; (focus (rfl)); (focus (rfl)); (focus (decide)); (focus ((repeat (first | assumption | exact get_new _ _ | refine get_old ?_ _ | refine get_set ?_ _ | refine get_set_ne ?_ (by first | assumption | (simp <;> omega) | omega) _ | refine prefix_get (by assumption) ?_)); done)); (focus (decide))) | (apply st_sl; (focus (rfl)); (focus (rfl)); (focus (decide)); (focus ((repeat (first | assumption | exact get_new _ _ | refine get_old ?_ _ | refine get_set ?_ _ | refine get_set_ne ?_ (by first | assumption | (simp <;> omega) | omega) _ | refine prefix_get (by assumption) ?_)); done)); (focus (decide))) | (apply st_bool; (focus (rfl)); (focus (rfl)); (focus (decide)); (focus ((repeat (first | assumption | exact get_new _ _ | refine get_old ?_ _ | refine get_set ?_ _ | refine get_set_ne ?_ (by first | assumption | (simp <;> omega) | omega) _ | refine prefix_get (by assumption) ?_)); done)); (focus (decide))) | (apply st_ptr; (focus (rfl)); (focus (rfl)); (focus (decide)); (focus ((repeat (first | assumption | exact get_new _ _ | refine get_old ?_ _ | refine get_set ?_ _ | refine get_set_ne ?_ (by first | assumption | (simp <;> omega) | omega) _ | refine prefix_get (by assumption) ?_)); done)); (focus (decide)))) | refine ByPlan.go (by assumption) plan61x3 ord61x3 ?_ | refine ByPlan.go (by assumption) plan61x10 ord61x10 ?_ | refine ByPlan.go (by assumption) plan61x12 ord61x12 ?_ | (refine and_true ?_ ?_; (focus ((repeat (first | refine all_skip rfl ?_ | exact rfl | (refine all_cons ?_ ?_; (focus ((conv => lhs; whnf); ((with_reducible apply gLd); apply ldF; (focus (rfl)); (focus (rfl)); (focus (rfl)); (focus ((repeat (first | assumption | exact get_new _ _ | refine get_old ?_ _ | refine get_set ?_ _ | refine get_set_ne ?_ (by first | assumption | (simp <;> omega) | omega) _ | refine prefix_get (by assumption) ?_)); done)); (focus (rfl))); (first | exact cs_int rfl | exact cs_ptr rfl | exact cs_sl rfl | exact cs_str rfl | exact cs_bool rfl | exact cs_map rfl | exact same_int _ _ | exact same_sl _ _ | exact same_str _ | exact same_ptr _ | rfl)))))); done))))
    conv => lhs; whnf
    refine addA_spec (L := [(v2.term, .nil, .nil, zR)]) (by omega) (by omega) (by show 1 ≤ 1000; decide) hD h6.hL (Rw.new _ _ rfl) (fun e he => by rw [List.mem_singleton] at he; subst he; exact ⟨Rw.nil _ _, Rw.nil _ _⟩) (fun e he => by rw [show vals [((v2.term, AM.SA.nil, AM.SA.nil, zR) : En)] = [(v2.term, zR)] from rfl, List.mem_singleton] at he; subst he; exact ⟨Nat.zero_le _, Nat.zero_le _⟩)
      (fun hfull => ?_) (fun hle o8 w8 W8 τ8 s8 l8 v8 => ?_)
    · have hlog : (Go.Raft.lead zR v2).log = v2.log := by
        show (if v2.log.length < 2000 then _ else v2.log) = v2.log
        rw [if_neg (by simp at hfull; omega)]
      have nvF : NVx (τ ++ [AO.cells (enCells (v2.term, AM.SA.nil, AM.SA.nil, zR)) 4 .own]) B BL o w V (some ⟨b, 0, 0, 2⟩) b m (Go.Raft.lead zR v2) := ⟨h6.hB, h6.hL, by rw [hlog]; exact h6.hV, fun h => by cases h⟩
      have sF : Stq (fpN B BL o b m v.role) (fpN B BL o b m 3) σ (τ ++ [AO.cells (enCells (v2.term, AM.SA.nil, AM.SA.nil, zR)) 4 .own]) := s5.trans ((Stq.pre _ p6).up (F' := fun _ => False) (fun _ h => h.elim) fun id h => by
        rcases h with h | h | ⟨h, _⟩
        · exact .inl (.inl h)
        · exact .inl (.inr (.inl h))
        · cases h)
      repeat ((conv => lhs; whnf); first | ((with_reducible apply gLd); apply ldF; (focus (rfl)); (focus (rfl)); (focus (rfl)); (focus ((repeat (first | assumption | exact get_new _ _ | refine get_old ?_ _ | refine get_set ?_ _ | refine get_set_ne ?_ (by first | assumption | (simp <;> omega) | omega) _ | refine prefix_get (by assumption) ?_)); done)); (focus (rfl))) | ((with_reducible apply gSt); first | (apply st_int; (focus (rfl)); (focus (rfl)); (focus (decide)); (focus ((repeat (first | assumption | exact get_new _ _ | refine get_old ?_ _ | refine get_set ?_ _ | refine get_set_ne ?_ (by first | assumption | (simp <;> omega) | omega) _ | refine prefix_get (by assumption) ?_)); done)); (focus (decide))) | (apply st_sl; (focus (rfl)); (focus (rfl)); (focus (decide)); (focus ((repeat (first | assumption | exact get_new _ _ | refine get_old ?_ _ | refine get_set ?_ _ | refine get_set_ne ?_ (by first | assumption | (simp <;> omega) | omega) _ | refine prefix_get (by assumption) ?_)); done)); (focus (decide))) | (apply st_bool; (focus (rfl)); (focus (rfl)); (focus (decide)); (focus ((repeat (first | assumption | exact get_new _ _ | refine get_old ?_ _ | refine get_set ?_ _ | refine get_set_ne ?_ (by first | assumption | (simp <;> omega) | omega) _ | refine prefix_get (by assumption) ?_)); done)); (focus (decide))) | (apply st_ptr; (focus (rfl)); (focus (rfl)); (focus (decide)); (focus ((repeat (first | assumption | exact get_new _ _ | refine get_old ?_ _ | refine get_set ?_ _ | refine get_set_ne ?_ (by first | assumption | (simp <;> omega) | omega) _ | refine prefix_get (by assumption) ?_)); done)); (focus (decide)))) | refine ByPlan.go (by assumption) plan61x3 ord61x3 ?_ | refine ByPlan.go (by assumption) plan61x10 ord61x10 ?_ | refine ByPlan.go (by assumption) plan61x12 ord61x12 ?_ | (refine and_true ?_ ?_; (focus ((repeat (first | refine all_skip rfl ?_ | exact rfl | (refine all_cons ?_ ?_; (focus ((conv => lhs; whnf); ((with_reducible apply gLd); apply ldF; (focus (rfl)); (focus (rfl)); (focus (rfl)); (focus ((repeat (first | assumption | exact get_new _ _ | refine get_old ?_ _ | refine get_set ?_ _ | refine get_set_ne ?_ (by first | assumption | (simp <;> omega) | omega) _ | refine prefix_get (by assumption) ?_)); done)); (focus (rfl))); (first | exact cs_int rfl | exact cs_ptr rfl | exact cs_sl rfl | exact cs_str rfl | exact cs_bool rfl | exact cs_map rfl | exact same_int _ _ | exact same_sl _ _ | exact same_str _ | exact same_ptr _ | rfl)))))); done))))
      conv => lhs; whnf
      refine all_spec (by omega) hD nvF okF fun o9 ws9 ls9 σ9 p9 l9 e9 => ?_
      conv => lhs; whnf
      exact hK _ _ _ ls9 _ (by rw [gE]; exact Post.ls sF ⟨BL, o, w, V, _, b, m, nvF, rfl⟩ (fun id hf => fpN_ne nvF hf) p9 l9) (by rw [gE]; exact e9)
    · have hlog : (Go.Raft.lead zR v2).log = v2.log ++ [(v2.term, zR)] := by
        show (if v2.log.length < 2000 then _ else v2.log) = _
        rw [if_pos (by simp at hle; omega)]
      have nBL := h6.neL
      have nvF : NVx τ8 B BL o8 w8 W8 (some ⟨b, 0, 0, 2⟩) b m (Go.Raft.lead zR v2) := ⟨s8.get h6.hB nBL, l8, by rw [hlog, v8, h6.hV]; rfl, fun h => by cases h⟩
      have sF : Stq (fpN B BL o b m v.role) (fpN B BL o8 b m 3) σ τ8 := (s5.trans (Stq.pre _ p6)).trans (s8.up (fun id h => .inr (.inl h)) fun id h => by
        rcases h with h | h | ⟨h, _⟩
        · exact .inl (.inl h)
        · exact .inr h
        · cases h)
      repeat ((conv => lhs; whnf); first | ((with_reducible apply gLd); apply ldF; (focus (rfl)); (focus (rfl)); (focus (rfl)); (focus ((repeat (first | assumption | exact get_new _ _ | refine get_old ?_ _ | refine get_set ?_ _ | refine get_set_ne ?_ (by first | assumption | (simp <;> omega) | omega) _ | refine prefix_get (by assumption) ?_)); done)); (focus (rfl))) | ((with_reducible apply gSt); first | (apply st_int; (focus (rfl)); (focus (rfl)); (focus (decide)); (focus ((repeat (first | assumption | exact get_new _ _ | refine get_old ?_ _ | refine get_set ?_ _ | refine get_set_ne ?_ (by first | assumption | (simp <;> omega) | omega) _ | refine prefix_get (by assumption) ?_)); done)); (focus (decide))) | (apply st_sl; (focus (rfl)); (focus (rfl)); (focus (decide)); (focus ((repeat (first | assumption | exact get_new _ _ | refine get_old ?_ _ | refine get_set ?_ _ | refine get_set_ne ?_ (by first | assumption | (simp <;> omega) | omega) _ | refine prefix_get (by assumption) ?_)); done)); (focus (decide))) | (apply st_bool; (focus (rfl)); (focus (rfl)); (focus (decide)); (focus ((repeat (first | assumption | exact get_new _ _ | refine get_old ?_ _ | refine get_set ?_ _ | refine get_set_ne ?_ (by first | assumption | (simp <;> omega) | omega) _ | refine prefix_get (by assumption) ?_)); done)); (focus (decide))) | (apply st_ptr; (focus (rfl)); (focus (rfl)); (focus (decide)); (focus ((repeat (first | assumption | exact get_new _ _ | refine get_old ?_ _ | refine get_set ?_ _ | refine get_set_ne ?_ (by first | assumption | (simp <;> omega) | omega) _ | refine prefix_get (by assumption) ?_)); done)); (focus (decide)))) | refine ByPlan.go (by assumption) plan61x3 ord61x3 ?_ | refine ByPlan.go (by assumption) plan61x10 ord61x10 ?_ | refine ByPlan.go (by assumption) plan61x12 ord61x12 ?_ | (refine and_true ?_ ?_; (focus ((repeat (first | refine all_skip rfl ?_ | exact rfl | (refine all_cons ?_ ?_; (focus ((conv => lhs; whnf); ((with_reducible apply gLd); apply ldF; (focus (rfl)); (focus (rfl)); (focus (rfl)); (focus ((repeat (first | assumption | exact get_new _ _ | refine get_old ?_ _ | refine get_set ?_ _ | refine get_set_ne ?_ (by first | assumption | (simp <;> omega) | omega) _ | refine prefix_get (by assumption) ?_)); done)); (focus (rfl))); (first | exact cs_int rfl | exact cs_ptr rfl | exact cs_sl rfl | exact cs_str rfl | exact cs_bool rfl | exact cs_map rfl | exact same_int _ _ | exact same_sl _ _ | exact same_str _ | exact same_ptr _ | rfl)))))); done))))
      conv => lhs; whnf
      refine all_spec (by omega) hD nvF okF fun o9 ws9 ls9 σ9 p9 l9 e9 => ?_
      conv => lhs; whnf
      exact hK _ _ _ ls9 _ (by rw [gE]; exact Post.ls sF ⟨BL, o8, w8, W8, _, b, m, nvF, rfl⟩ (fun id hf => fpN_ne nvF hf) p9 l9) (by rw [gE]; exact e9)
end Go.Proofs.YthmdecfiijgaoaaGreat
