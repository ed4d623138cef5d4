/- A node hears how far another one has the log. -/
import Derived.Test.YthmdecfiijgaoaaGreatL20U
namespace Go.Proofs.YthmdecfiijgaoaaGreat
set_option maxRecDepth 100000
open Go Go.AM Go.AM.St
open Go.Raft (termAt fromL newer len upd)
theorem idxArr' {id b d z : Nat} {k : IntKind} {i : Nat} {y : Int} {K : AV → Bool} (hy : y = (i : Int)) (hi : i < 3) (hz : d + i < z) (hK : K (.ptr (some ⟨id, b, d + i * 1, z⟩)) = true) : indexAddrK Tryz.prog 60 (.ptr (some ⟨id, b, d, z⟩)) (.int k y) K = true := by
  subst hy
  exact idxArr hi hz hK
theorem nxt_he' {v : NSR} {BL to : Nat} {bx : Option PA} {y z : Int} (h : to < 3) (e : y = z) : (nc v BL bx).set (0 + 9 + to * 1) (.int .i64 y) = nc { v with next := upd v.next to z } BL bx := by subst e; exact nxt_he h
theorem mat_he' {v : NSR} {BL to : Nat} {bx : Option PA} {y z : Int} (h : to < 3) (e : y = z) : (nc v BL bx).set (0 + 12 + to * 1) (.int .i64 y) = nc { v with mat := upd v.mat to z } BL bx := by subst e; exact mat_he h
theorem upd_self (f : Nat → Int) (i : Nat) : upd f i (f i) = f := by
  funext j
  unfold upd
  split
  · rename_i e; rw [e]
  · rfl
theorem upd_at {β : Type} (f : Nat → β) (i : Nat) (y : β) : upd f i y i = y := if_pos rfl
theorem med3 (a b c : Int) : medI [a, b, c] = Go.Raft.median3 a b c := by
  obtain ⟨h1, h2⟩ := med_count (zs := [a, b, c]) (by simp)
  generalize medI [a, b, c] = m at h1 h2
  have e2 : mostN [a, b, c].length = 2 := by simp [mostN]
  rw [e2] at h1 h2
  simp only [List.countP_cons, List.countP_nil, decide_eq_true_eq] at h1 h2
  unfold Go.Raft.median3
  split at h1 <;> split at h1 <;> split at h1 <;> split at h2 <;> split at h2 <;> split at h2 <;> omega
theorem mat_at2 {v : NSR} {BL to : Nat} {bx : Option PA} {y : Int} (e : y = (to : Int)) (h : to < 3) : (nc v BL bx)[0 + (0 + 12 + y.toNat * 1)]? = some (.int .i64 (v.mat to)) := by
  subst e
  exact mat_at h
theorem mat_at' {v : NSR} {BL to : Nat} {bx : Option PA} {y : Int} (h : to < 3) (e : v.mat to = y) : (nc v BL bx)[0 + (0 + 12 + to * 1)]? = some (.int .i64 y) := by rw [mat_at h, e]
theorem nxt_at' {v : NSR} {BL to : Nat} {bx : Option PA} {y : Int} (h : to < 3) (e : v.next to = y) : (nc v BL bx)[0 + (0 + 9 + to * 1)]? = some (.int .i64 y) := by rw [nxt_at h, e]
theorem bs22 {σ : H} {y : Int} {K : AV → H → Bool} (hK : K (.sl (.at σ.length 0 1) 1) (σ ++ [.cells [.int .i64 y] 1 .own]) = true) : buildSliceK Tryz.prog 22 1 [(0, .int .i64 y)] σ K = true := by
  conv => lhs; whnf
  exact hK
attribute [local irreducible] IntKind.wrap Int.fdiv Int.tdiv Int.tmod BitVec.ofInt appendK sliceK indexAddrK ldK storeK seenK makeSliceK lookupK updateK clearK buildSliceK
variable {D : Drawer} {σ : H} {B BL b m : Nat} {o : Option Nat} {w : AM.SA} {V : List En} {bx : Option PA} {v : NSR}
theorem OkN.commits {v : NSR} (ok : OkN v) : OkN (Go.Raft.commits v) := by
  unfold Go.Raft.commits
  split
  · rename_i h
    have := ok.c0
    exact ⟨ok.me, ok.s0, ok.s1, ok.l, ok.sm, ok.t0, ok.t1, ok.nx, ok.mt, by show 0 ≤ Go.Raft.reach v; omega⟩
  · exact ok
/-- Adds, told alone. -/
theorem adds_one {n to : Nat} {F : Nat → Prop} (hn : 2300 ≤ n) (hD : ByPlan Tryz.prog D) {τ : H} (s : Stq F (fpN B BL o b m v.role) σ τ) (h : NVx τ B BL o w V bx b m v) (ok : OkN v) (ht : to < 3) {y : Int} (hy : y = (to : Int)) {KK : AV → H → Bool}
    (hK : ∀ w' σ', IsLt σ' (Go.Raft.adds v to, w') → (σ'.length = σ'.length → Post F σ (σ' ++ [AO.cells (lc (Go.Raft.adds v to, w')) 9 .own]) B v (fpN B BL o b m v.role) (some σ'.length) (.at σ'.length 0 9) [(Go.Raft.adds v to, w')]) → KK (.agg (lc (Go.Raft.adds v to, w'))) σ' = true) :
    acall Tryz.prog tab D n 100 [.ptr (some ⟨B, 0, 0, 15⟩), .int .i64 y] τ KK = true := by
  subst hy
  refine adds_spec hn hD h ok ht fun w' σ' p i f => hK w' σ' i fun _ => ?_
  have pp := List.prefix_append σ' [AO.cells (lc (Go.Raft.adds v to, w')) 9 .own]
  exact Post.ls s ⟨BL, o, w, V, bx, b, m, h, rfl⟩ (fun id hf => fpN_ne h hf) (List.IsPrefix.trans p pp) (LsV.one i p f)
set_option maxHeartbeats 4000000 in
theorem has_spec {n to : Nat} {x : Lm × AM.SA} (hn : 2500 ≤ n) (hD : ByPlan Tryz.prog D) (h : NVx σ B BL o w V bx b m v) (ok : OkN v) (hto : x.1.src = (to : Int)) (ht : to < 3) (hne : to ≠ v.me) (ha0 : 0 ≤ x.1.a) {K : AV → H → Bool}
    (hK : ∀ F' o' ws ls σ', Post (fpN B BL o b m v.role) σ σ' B (Go.Raft.has v x.1).1 F' o' ws ls → ls.map (·.1) = (Go.Raft.has v x.1).2 → K (.sl ws ls.length) σ' = true) :
    acall Tryz.prog tab D n 62 [.ptr (some ⟨B, 0, 0, 15⟩), .agg (lc x)] σ K = true := by
  obtain ⟨n, rfl, hn⟩ := up hn
  have hl2 := h.lenV
  have hl3 := ok.l
  have ltB := h.ltB
  have hlen := lenLog h
  have pa := List.prefix_append σ [AO.cells (lc x) 9 .own]
  have h1 := h.mono pa
  have hB1 := h1.hB
  have ga := get_new σ (AO.cells (lc x) 9 .own)
  have tN : x.1.src.toNat = to := by omega
  have nil : ∀ τ, (v.role ≠ 3 ∨ (x.1.yes = true ∧ len v.log < x.1.a)) → Stq (fpN B BL o b m v.role) (fpN B BL o b m v.role) σ τ → NVx τ B BL o w V bx b m v → K (.sl .nil 0) τ = true := fun τ c s nv => by
    have e : Go.Raft.has v x.1 = (v, []) := by unfold Go.Raft.has; rw [if_pos c]
    exact hK _ none .nil [] τ (by rw [e]; exact Post.nil s ⟨BL, o, w, V, bx, b, m, nv, rfl⟩) (by rw [e]; rfl)
  repeat ((conv => lhs; whnf); first | ((with_reducible apply gLd); apply ldF; (focus (rfl)); (focus (rfl)); (focus (rfl)); (focus ((repeat (first | assumption | exact get_new _ _ | refine get_old ?_ _ | refine get_set ?_ _ | refine get_set_ne ?_ (by first | assumption | (simp <;> omega) | omega) _ | refine prefix_get (by assumption) ?_)); done)); (focus (rfl))) | ((with_reducible apply gSt); first | (apply st_int; (focus (rfl)); (focus (rfl)); (focus (decide)); (focus ((repeat (first | assumption | exact get_new _ _ | refine get_old ?_ _ | refine get_set ?_ _ | refine get_set_ne ?_ (by first | assumption | (simp <;> omega) | omega) _ | refine prefix_get (by assumption) ?_)); done)); (focus (decide))) | (apply st_sl; (focus (rfl)); (focus (rfl)); (focus (decide)); (focus ((repeat (first | assumption | exact get_new _ _ | refine get_old ?_ _ | refine get_set ?_ _ | refine get_set_ne ?_ (by first | assumption | (simp <;> omega) | omega) _ | refine prefix_get (by assumption) ?_)); done)); (focus (decide))) | (apply st_bool; (focus (rfl)); (focus (rfl)); (focus (decide)); (focus ((repeat (first | assumption | exact get_new _ _ | refine get_old ?_ _ | refine get_set ?_ _ | refine get_set_ne ?_ (by first | assumption | (simp <;> omega) | omega) _ | refine prefix_get (by assumption) ?_)); done)); (focus (decide))) | (apply st_ptr; (focus (rfl)); (focus (rfl)); (focus (decide)); (focus ((repeat (first | assumption | exact get_new _ _ | refine get_old ?_ _ | refine get_set ?_ _ | refine get_set_ne ?_ (by first | assumption | (simp <;> omega) | omega) _ | refine prefix_get (by assumption) ?_)); done)); (focus (decide)))) | refine ByPlan.go (by assumption) plan62x2 ord62x2 ?_ | refine ByPlan.go (by assumption) plan62x5 ord62x5 ?_ | refine ByPlan.go (by assumption) plan62x7 ord62x7 ?_ | refine ByPlan.go (by assumption) plan62x8 ord62x8 ?_ | refine ByPlan.go (by assumption) plan62x9 ord62x9 ?_ | refine ByPlan.go (by assumption) plan62x17 ord62x17 ?_ | refine ByPlan.go (by assumption) plan62x19 ord62x19 ?_ | (refine and_true ?_ ?_; (focus ((repeat (first | refine all_skip rfl ?_ | exact rfl | (refine all_cons ?_ ?_; (focus ((conv => lhs; whnf); ((with_reducible apply gLd); apply ldF; (focus (rfl)); (focus (rfl)); (focus (rfl)); (focus ((repeat (first | assumption | exact get_new _ _ | refine get_old ?_ _ | refine get_set ?_ _ | refine get_set_ne ?_ (by first | assumption | (simp <;> omega) | omega) _ | refine prefix_get (by assumption) ?_)); done)); (focus (rfl))); (first | exact cs_int rfl | exact cs_ptr rfl | exact cs_sl rfl | exact cs_str rfl | exact cs_bool rfl | exact cs_map rfl | exact same_int _ _ | exact same_sl _ _ | exact same_str _ | exact same_ptr _ | rfl)))))); done))))
  conv => lhs; whnf
  by_cases r3 : v.role = 3
  case neg =>
    refine bif_pos (by simpa using r3) ?_
    repeat ((conv => lhs; whnf); first | ((with_reducible apply gLd); apply ldF; (focus (rfl)); (focus (rfl)); (focus (rfl)); (focus ((repeat (first | assumption | exact get_new _ _ | refine get_old ?_ _ | refine get_set ?_ _ | refine get_set_ne ?_ (by first | assumption | (simp <;> omega) | omega) _ | refine prefix_get (by assumption) ?_)); done)); (focus (rfl))) | ((with_reducible apply gSt); first | (apply st_int; (focus (rfl)); (focus (rfl)); (focus (decide)); (focus ((repeat (first | assumption | exact get_new _ _ | refine get_old ?_ _ | refine get_set ?_ _ | refine get_set_ne ?_ (by first | assumption | (simp <;> omega) | omega) _ | refine prefix_get (by assumption) ?_)); done)); (focus (decide))) | (apply st_sl; (focus (rfl)); (focus (rfl)); (focus (decide)); (focus ((repeat (first | assumption | exact get_new _ _ | refine get_old ?_ _ | refine get_set ?_ _ | refine get_set_ne ?_ (by first | assumption | (simp <;> omega) | omega) _ | refine prefix_get (by assumption) ?_)); done)); (focus (decide))) | (apply st_bool; (focus (rfl)); (focus (rfl)); (focus (decide)); (focus ((repeat (first | assumption | exact get_new _ _ | refine get_old ?_ _ | refine get_set ?_ _ | refine get_set_ne ?_ (by first | assumption | (simp <;> omega) | omega) _ | refine prefix_get (by assumption) ?_)); done)); (focus (decide))) | (apply st_ptr; (focus (rfl)); (focus (rfl)); (focus (decide)); (focus ((repeat (first | assumption | exact get_new _ _ | refine get_old ?_ _ | refine get_set ?_ _ | refine get_set_ne ?_ (by first | assumption | (simp <;> omega) | omega) _ | refine prefix_get (by assumption) ?_)); done)); (focus (decide)))) | refine ByPlan.go (by assumption) plan62x2 ord62x2 ?_ | refine ByPlan.go (by assumption) plan62x5 ord62x5 ?_ | refine ByPlan.go (by assumption) plan62x7 ord62x7 ?_ | refine ByPlan.go (by assumption) plan62x8 ord62x8 ?_ | refine ByPlan.go (by assumption) plan62x9 ord62x9 ?_ | refine ByPlan.go (by assumption) plan62x17 ord62x17 ?_ | refine ByPlan.go (by assumption) plan62x19 ord62x19 ?_ | (refine and_true ?_ ?_; (focus ((repeat (first | refine all_skip rfl ?_ | exact rfl | (refine all_cons ?_ ?_; (focus ((conv => lhs; whnf); ((with_reducible apply gLd); apply ldF; (focus (rfl)); (focus (rfl)); (focus (rfl)); (focus ((repeat (first | assumption | exact get_new _ _ | refine get_old ?_ _ | refine get_set ?_ _ | refine get_set_ne ?_ (by first | assumption | (simp <;> omega) | omega) _ | refine prefix_get (by assumption) ?_)); done)); (focus (rfl))); (first | exact cs_int rfl | exact cs_ptr rfl | exact cs_sl rfl | exact cs_str rfl | exact cs_bool rfl | exact cs_map rfl | exact same_int _ _ | exact same_sl _ _ | exact same_str _ | exact same_ptr _ | rfl)))))); done))))
    conv => lhs; whnf
    exact nil _ (.inl r3) (Stq.pre _ pa) h1
  refine bif_neg (by simpa using r3) ?_
  repeat ((conv => lhs; whnf); first | ((with_reducible apply gLd); apply ldF; (focus (rfl)); (focus (rfl)); (focus (rfl)); (focus ((repeat (first | assumption | exact get_new _ _ | refine get_old ?_ _ | refine get_set ?_ _ | refine get_set_ne ?_ (by first | assumption | (simp <;> omega) | omega) _ | refine prefix_get (by assumption) ?_)); done)); (focus (rfl))) | ((with_reducible apply gSt); first | (apply st_int; (focus (rfl)); (focus (rfl)); (focus (decide)); (focus ((repeat (first | assumption | exact get_new _ _ | refine get_old ?_ _ | refine get_set ?_ _ | refine get_set_ne ?_ (by first | assumption | (simp <;> omega) | omega) _ | refine prefix_get (by assumption) ?_)); done)); (focus (decide))) | (apply st_sl; (focus (rfl)); (focus (rfl)); (focus (decide)); (focus ((repeat (first | assumption | exact get_new _ _ | refine get_old ?_ _ | refine get_set ?_ _ | refine get_set_ne ?_ (by first | assumption | (simp <;> omega) | omega) _ | refine prefix_get (by assumption) ?_)); done)); (focus (decide))) | (apply st_bool; (focus (rfl)); (focus (rfl)); (focus (decide)); (focus ((repeat (first | assumption | exact get_new _ _ | refine get_old ?_ _ | refine get_set ?_ _ | refine get_set_ne ?_ (by first | assumption | (simp <;> omega) | omega) _ | refine prefix_get (by assumption) ?_)); done)); (focus (decide))) | (apply st_ptr; (focus (rfl)); (focus (rfl)); (focus (decide)); (focus ((repeat (first | assumption | exact get_new _ _ | refine get_old ?_ _ | refine get_set ?_ _ | refine get_set_ne ?_ (by first | assumption | (simp <;> omega) | omega) _ | refine prefix_get (by assumption) ?_)); done)); (focus (decide)))) | refine ByPlan.go (by assumption) plan62x2 ord62x2 ?_ | refine ByPlan.go (by assumption) plan62x5 ord62x5 ?_ | refine ByPlan.go (by assumption) plan62x7 ord62x7 ?_ | refine ByPlan.go (by assumption) plan62x8 ord62x8 ?_ | refine ByPlan.go (by assumption) plan62x9 ord62x9 ?_ | refine ByPlan.go (by assumption) plan62x17 ord62x17 ?_ | refine ByPlan.go (by assumption) plan62x19 ord62x19 ?_ | (refine and_true ?_ ?_; (focus ((repeat (first | refine all_skip rfl ?_ | exact rfl | (refine all_cons ?_ ?_; (focus ((conv => lhs; whnf); ((with_reducible apply gLd); apply ldF; (focus (rfl)); (focus (rfl)); (focus (rfl)); (focus ((repeat (first | assumption | exact get_new _ _ | refine get_old ?_ _ | refine get_set ?_ _ | refine get_set_ne ?_ (by first | assumption | (simp <;> omega) | omega) _ | refine prefix_get (by assumption) ?_)); done)); (focus (rfl))); (first | exact cs_int rfl | exact cs_ptr rfl | exact cs_sl rfl | exact cs_str rfl | exact cs_bool rfl | exact cs_map rfl | exact same_int _ _ | exact same_sl _ _ | exact same_str _ | exact same_ptr _ | rfl)))))); done))))
  conv => lhs; whnf
  cases hy : x.1.yes
  · -- not yet
    have e : Go.Raft.has v x.1 = ({ v with next := upd v.next to (max (v.next to - 1) (v.mat to + 1)) }, [Go.Raft.adds { v with next := upd v.next to (max (v.next to - 1) (v.mat to + 1)) } to]) := by
      unfold Go.Raft.has
      rw [if_neg (fun c => c.elim (fun c => c r3) (fun c => by rw [hy] at c; cases c.1)), if_pos hy, tN]
    obtain ⟨a1, a2⟩ := ok.nx to ht
    obtain ⟨a3, a4⟩ := ok.mt to ht
    repeat ((conv => lhs; whnf); first | ((with_reducible apply gLd); apply ldF; (focus (rfl)); (focus (rfl)); (focus (rfl)); (focus ((repeat (first | assumption | exact get_new _ _ | refine get_old ?_ _ | refine get_set ?_ _ | refine get_set_ne ?_ (by first | assumption | (simp <;> omega) | omega) _ | refine prefix_get (by assumption) ?_)); done)); (focus (rfl))) | ((with_reducible apply gSt); first | (apply st_int; (focus (rfl)); (focus (rfl)); (focus (decide)); (focus ((repeat (first | assumption | exact get_new _ _ | refine get_old ?_ _ | refine get_set ?_ _ | refine get_set_ne ?_ (by first | assumption | (simp <;> omega) | omega) _ | refine prefix_get (by assumption) ?_)); done)); (focus (decide))) | (apply st_sl; (focus (rfl)); (focus (rfl)); (focus (decide)); (focus ((repeat (first | assumption | exact get_new _ _ | refine get_old ?_ _ | refine get_set ?_ _ | refine get_set_ne ?_ (by first | assumption | (simp <;> omega) | omega) _ | refine prefix_get (by assumption) ?_)); done)); (focus (decide))) | (apply st_bool; (focus (rfl)); (focus (rfl)); (focus (decide)); (focus ((repeat (first | assumption | exact get_new _ _ | refine get_old ?_ _ | refine get_set ?_ _ | refine get_set_ne ?_ (by first | assumption | (simp <;> omega) | omega) _ | refine prefix_get (by assumption) ?_)); done)); (focus (decide))) | (apply st_ptr; (focus (rfl)); (focus (rfl)); (focus (decide)); (focus ((repeat (first | assumption | exact get_new _ _ | refine get_old ?_ _ | refine get_set ?_ _ | refine get_set_ne ?_ (by first | assumption | (simp <;> omega) | omega) _ | refine prefix_get (by assumption) ?_)); done)); (focus (decide)))) | refine ByPlan.go (by assumption) plan62x2 ord62x2 ?_ | refine ByPlan.go (by assumption) plan62x5 ord62x5 ?_ | refine ByPlan.go (by assumption) plan62x7 ord62x7 ?_ | refine ByPlan.go (by assumption) plan62x8 ord62x8 ?_ | refine ByPlan.go (by assumption) plan62x9 ord62x9 ?_ | refine ByPlan.go (by assumption) plan62x17 ord62x17 ?_ | refine ByPlan.go (by assumption) plan62x19 ord62x19 ?_ | (refine and_true ?_ ?_; (focus ((repeat (first | refine all_skip rfl ?_ | exact rfl | (refine all_cons ?_ ?_; (focus ((conv => lhs; whnf); ((with_reducible apply gLd); apply ldF; (focus (rfl)); (focus (rfl)); (focus (rfl)); (focus ((repeat (first | assumption | exact get_new _ _ | refine get_old ?_ _ | refine get_set ?_ _ | refine get_set_ne ?_ (by first | assumption | (simp <;> omega) | omega) _ | refine prefix_get (by assumption) ?_)); done)); (focus (rfl))); (first | exact cs_int rfl | exact cs_ptr rfl | exact cs_sl rfl | exact cs_str rfl | exact cs_bool rfl | exact cs_map rfl | exact same_int _ _ | exact same_sl _ _ | exact same_str _ | exact same_ptr _ | rfl)))))); done))))
    conv => lhs; whnf
    rw [hy]
    repeat ((conv => lhs; whnf); first | ((with_reducible apply gLd); apply ldF; (focus (rfl)); (focus (rfl)); (focus (rfl)); (focus ((repeat (first | assumption | exact get_new _ _ | refine get_old ?_ _ | refine get_set ?_ _ | refine get_set_ne ?_ (by first | assumption | (simp <;> omega) | omega) _ | refine prefix_get (by assumption) ?_)); done)); (focus (rfl))) | ((with_reducible apply gSt); first | (apply st_int; (focus (rfl)); (focus (rfl)); (focus (decide)); (focus ((repeat (first | assumption | exact get_new _ _ | refine get_old ?_ _ | refine get_set ?_ _ | refine get_set_ne ?_ (by first | assumption | (simp <;> omega) | omega) _ | refine prefix_get (by assumption) ?_)); done)); (focus (decide))) | (apply st_sl; (focus (rfl)); (focus (rfl)); (focus (decide)); (focus ((repeat (first | assumption | exact get_new _ _ | refine get_old ?_ _ | refine get_set ?_ _ | refine get_set_ne ?_ (by first | assumption | (simp <;> omega) | omega) _ | refine prefix_get (by assumption) ?_)); done)); (focus (decide))) | (apply st_bool; (focus (rfl)); (focus (rfl)); (focus (decide)); (focus ((repeat (first | assumption | exact get_new _ _ | refine get_old ?_ _ | refine get_set ?_ _ | refine get_set_ne ?_ (by first | assumption | (simp <;> omega) | omega) _ | refine prefix_get (by assumption) ?_)); done)); (focus (decide))) | (apply st_ptr; (focus (rfl)); (focus (rfl)); (focus (decide)); (focus ((repeat (first | assumption | exact get_new _ _ | refine get_old ?_ _ | refine get_set ?_ _ | refine get_set_ne ?_ (by first | assumption | (simp <;> omega) | omega) _ | refine prefix_get (by assumption) ?_)); done)); (focus (decide)))) | refine ByPlan.go (by assumption) plan62x2 ord62x2 ?_ | refine ByPlan.go (by assumption) plan62x5 ord62x5 ?_ | refine ByPlan.go (by assumption) plan62x7 ord62x7 ?_ | refine ByPlan.go (by assumption) plan62x8 ord62x8 ?_ | refine ByPlan.go (by assumption) plan62x9 ord62x9 ?_ | refine ByPlan.go (by assumption) plan62x17 ord62x17 ?_ | refine ByPlan.go (by assumption) plan62x19 ord62x19 ?_ | (refine and_true ?_ ?_; (focus ((repeat (first | refine all_skip rfl ?_ | exact rfl | (refine all_cons ?_ ?_; (focus ((conv => lhs; whnf); ((with_reducible apply gLd); apply ldF; (focus (rfl)); (focus (rfl)); (focus (rfl)); (focus ((repeat (first | assumption | exact get_new _ _ | refine get_old ?_ _ | refine get_set ?_ _ | refine get_set_ne ?_ (by first | assumption | (simp <;> omega) | omega) _ | refine prefix_get (by assumption) ?_)); done)); (focus (rfl))); (first | exact cs_int rfl | exact cs_ptr rfl | exact cs_sl rfl | exact cs_str rfl | exact cs_bool rfl | exact cs_map rfl | exact same_int _ _ | exact same_sl _ _ | exact same_str _ | exact same_ptr _ | rfl)))))); done))))
    conv => lhs; whnf
    refine idxArr' hto ht (by show 0 + 9 + to < 15; omega) ?_
    conv => lhs; whnf
    refine ldF (v := .int .i64 (v.next to)) rfl rfl rfl hB1 (nxt_at ht) ?_
    conv => lhs; whnf
    refine idxArr' hto ht (by show 0 + 12 + to < 15; omega) ?_
    conv => lhs; whnf
    refine ldF (v := .int .i64 (v.mat to)) rfl rfl rfl hB1 (mat_at ht) ?_
    conv => lhs; whnf
    refine idxArr' hto ht (by show 0 + 9 + to < 15; omega) ?_
    conv => lhs; whnf
    refine stNode (σ := σ ++ [AO.cells (lc x) 9 .own]) (v' := { v with next := upd v.next to (max (v.next to - 1) (v.mat to + 1)) }) (bx' := bx) (BL' := BL) rfl rfl (by show 0 + 9 + to * 1 + 1 ≤ 15; omega) rfl hB1 (nxt_he' ht (by rw [wrap_i64 (by omega) (by omega), wrap_i64 (by omega) (by omega), max_if]; rfl)) ?_
    have h2 := h1.set (v' := { v with next := upd v.next to (max (v.next to - 1) (v.mat to + 1)) }) (bx' := bx) rfl fun hr => ⟨hr, rfl, rfl⟩
    have s2 : Stq (fpN B BL o b m v.role) (fpN B BL o b m v.role) (σ ++ [AO.cells (lc x) 9 .own]) ((σ ++ [AO.cells (lc x) 9 .own]).set B (AO.cells (nc { v with next := upd v.next to (max (v.next to - 1) (v.mat to + 1)) } BL bx) 15 .own)) := Stq.set (.inl rfl) hB1 (by decide)
    generalize (σ ++ [AO.cells (lc x) 9 .own]).set B (AO.cells (nc { v with next := upd v.next to (max (v.next to - 1) (v.mat to + 1)) } BL bx) 15 .own) = τ2 at h2 s2 ⊢
    have ok2 : OkN { v with next := upd v.next to (max (v.next to - 1) (v.mat to + 1)) } := ⟨ok.me, ok.s0, ok.s1, ok.l, ok.sm, ok.t0, ok.t1, fun j hj => by
      show 0 ≤ upd _ _ _ j ∧ upd _ _ _ j ≤ 2001
      unfold upd
      split
      · omega
      · exact ok.nx j hj, ok.mt, ok.c0⟩
    conv => lhs; whnf
    refine adds_one (v := { v with next := upd v.next to (max (v.next to - 1) (v.mat to + 1)) }) (by omega) hD ((Stq.pre _ pa).trans s2) h2 ok2 ht hto fun w3 σ3 i3 p3 => ?_
    conv => lhs; whnf
    refine bs38 (x := (Go.Raft.adds { v with next := upd v.next to (max (v.next to - 1) (v.mat to + 1)) } to, w3)) ?_
    conv => lhs; whnf
    exact hK _ _ _ [(Go.Raft.adds { v with next := upd v.next to (max (v.next to - 1) (v.mat to + 1)) } to, w3)] _ (by rw [e]; exact p3 rfl) (by rw [e]; rfl)
  -- it has
  obtain ⟨a3, a4⟩ := ok.mt to ht
  obtain ⟨oi, oj, hothers, hoi, hoj, hoij, hoim, hojm⟩ := Go.Raft.others_two ok.me
  have hoth : oth v.me 3 = [(oi : Int), (oj : Int)] := by rw [oth_three ok.me, hothers]; rfl
  repeat ((conv => lhs; whnf); first | ((with_reducible apply gLd); apply ldF; (focus (rfl)); (focus (rfl)); (focus (rfl)); (focus ((repeat (first | assumption | exact get_new _ _ | refine get_old ?_ _ | refine get_set ?_ _ | refine get_set_ne ?_ (by first | assumption | (simp <;> omega) | omega) _ | refine prefix_get (by assumption) ?_)); done)); (focus (rfl))) | ((with_reducible apply gSt); first | (apply st_int; (focus (rfl)); (focus (rfl)); (focus (decide)); (focus ((repeat (first | assumption | exact get_new _ _ | refine get_old ?_ _ | refine get_set ?_ _ | refine get_set_ne ?_ (by first | assumption | (simp <;> omega) | omega) _ | refine prefix_get (by assumption) ?_)); done)); (focus (decide))) | (apply st_sl; (focus (rfl)); (focus (rfl)); (focus (decide)); (focus ((repeat (first | assumption | exact get_new _ _ | refine get_old ?_ _ | refine get_set ?_ _ | refine get_set_ne ?_ (by first | assumption | (simp <;> omega) | omega) _ | refine prefix_get (by assumption) ?_)); done)); (focus (decide))) | (apply st_bool; (focus (rfl)); (focus (rfl)); (focus (decide)); (focus ((repeat (first | assumption | exact get_new _ _ | refine get_old ?_ _ | refine get_set ?_ _ | refine get_set_ne ?_ (by first | assumption | (simp <;> omega) | omega) _ | refine prefix_get (by assumption) ?_)); done)); (focus (decide))) | (apply st_ptr; (focus (rfl)); (focus (rfl)); (focus (decide)); (focus ((repeat (first | assumption | exact get_new _ _ | refine get_old ?_ _ | refine get_set ?_ _ | refine get_set_ne ?_ (by first | assumption | (simp <;> omega) | omega) _ | refine prefix_get (by assumption) ?_)); done)); (focus (decide)))) | refine ByPlan.go (by assumption) plan62x2 ord62x2 ?_ | refine ByPlan.go (by assumption) plan62x5 ord62x5 ?_ | refine ByPlan.go (by assumption) plan62x7 ord62x7 ?_ | refine ByPlan.go (by assumption) plan62x8 ord62x8 ?_ | refine ByPlan.go (by assumption) plan62x9 ord62x9 ?_ | refine ByPlan.go (by assumption) plan62x17 ord62x17 ?_ | refine ByPlan.go (by assumption) plan62x19 ord62x19 ?_ | (refine and_true ?_ ?_; (focus ((repeat (first | refine all_skip rfl ?_ | exact rfl | (refine all_cons ?_ ?_; (focus ((conv => lhs; whnf); ((with_reducible apply gLd); apply ldF; (focus (rfl)); (focus (rfl)); (focus (rfl)); (focus ((repeat (first | assumption | exact get_new _ _ | refine get_old ?_ _ | refine get_set ?_ _ | refine get_set_ne ?_ (by first | assumption | (simp <;> omega) | omega) _ | refine prefix_get (by assumption) ?_)); done)); (focus (rfl))); (first | exact cs_int rfl | exact cs_ptr rfl | exact cs_sl rfl | exact cs_str rfl | exact cs_bool rfl | exact cs_map rfl | exact same_int _ _ | exact same_sl _ _ | exact same_str _ | exact same_ptr _ | rfl)))))); done))))
  conv => lhs; whnf
  refine len_spec (by omega) h1.hL.log ?_
  repeat ((conv => lhs; whnf); first | ((with_reducible apply gLd); apply ldF; (focus (rfl)); (focus (rfl)); (focus (rfl)); (focus ((repeat (first | assumption | exact get_new _ _ | refine get_old ?_ _ | refine get_set ?_ _ | refine get_set_ne ?_ (by first | assumption | (simp <;> omega) | omega) _ | refine prefix_get (by assumption) ?_)); done)); (focus (rfl))) | ((with_reducible apply gSt); first | (apply st_int; (focus (rfl)); (focus (rfl)); (focus (decide)); (focus ((repeat (first | assumption | exact get_new _ _ | refine get_old ?_ _ | refine get_set ?_ _ | refine get_set_ne ?_ (by first | assumption | (simp <;> omega) | omega) _ | refine prefix_get (by assumption) ?_)); done)); (focus (decide))) | (apply st_sl; (focus (rfl)); (focus (rfl)); (focus (decide)); (focus ((repeat (first | assumption | exact get_new _ _ | refine get_old ?_ _ | refine get_set ?_ _ | refine get_set_ne ?_ (by first | assumption | (simp <;> omega) | omega) _ | refine prefix_get (by assumption) ?_)); done)); (focus (decide))) | (apply st_bool; (focus (rfl)); (focus (rfl)); (focus (decide)); (focus ((repeat (first | assumption | exact get_new _ _ | refine get_old ?_ _ | refine get_set ?_ _ | refine get_set_ne ?_ (by first | assumption | (simp <;> omega) | omega) _ | refine prefix_get (by assumption) ?_)); done)); (focus (decide))) | (apply st_ptr; (focus (rfl)); (focus (rfl)); (focus (decide)); (focus ((repeat (first | assumption | exact get_new _ _ | refine get_old ?_ _ | refine get_set ?_ _ | refine get_set_ne ?_ (by first | assumption | (simp <;> omega) | omega) _ | refine prefix_get (by assumption) ?_)); done)); (focus (decide)))) | refine ByPlan.go (by assumption) plan62x2 ord62x2 ?_ | refine ByPlan.go (by assumption) plan62x5 ord62x5 ?_ | refine ByPlan.go (by assumption) plan62x7 ord62x7 ?_ | refine ByPlan.go (by assumption) plan62x8 ord62x8 ?_ | refine ByPlan.go (by assumption) plan62x9 ord62x9 ?_ | refine ByPlan.go (by assumption) plan62x17 ord62x17 ?_ | refine ByPlan.go (by assumption) plan62x19 ord62x19 ?_ | (refine and_true ?_ ?_; (focus ((repeat (first | refine all_skip rfl ?_ | exact rfl | (refine all_cons ?_ ?_; (focus ((conv => lhs; whnf); ((with_reducible apply gLd); apply ldF; (focus (rfl)); (focus (rfl)); (focus (rfl)); (focus ((repeat (first | assumption | exact get_new _ _ | refine get_old ?_ _ | refine get_set ?_ _ | refine get_set_ne ?_ (by first | assumption | (simp <;> omega) | omega) _ | refine prefix_get (by assumption) ?_)); done)); (focus (rfl))); (first | exact cs_int rfl | exact cs_ptr rfl | exact cs_sl rfl | exact cs_str rfl | exact cs_bool rfl | exact cs_map rfl | exact same_int _ _ | exact same_sl _ _ | exact same_str _ | exact same_ptr _ | rfl)))))); done))))
  conv => lhs; whnf
  by_cases ca : len v.log < x.1.a
  · refine bif_pos (decide_eq_true (by omega)) ?_
    repeat ((conv => lhs; whnf); first | ((with_reducible apply gLd); apply ldF; (focus (rfl)); (focus (rfl)); (focus (rfl)); (focus ((repeat (first | assumption | exact get_new _ _ | refine get_old ?_ _ | refine get_set ?_ _ | refine get_set_ne ?_ (by first | assumption | (simp <;> omega) | omega) _ | refine prefix_get (by assumption) ?_)); done)); (focus (rfl))) | ((with_reducible apply gSt); first | (apply st_int; (focus (rfl)); (focus (rfl)); (focus (decide)); (focus ((repeat (first | assumption | exact get_new _ _ | refine get_old ?_ _ | refine get_set ?_ _ | refine get_set_ne ?_ (by first | assumption | (simp <;> omega) | omega) _ | refine prefix_get (by assumption) ?_)); done)); (focus (decide))) | (apply st_sl; (focus (rfl)); (focus (rfl)); (focus (decide)); (focus ((repeat (first | assumption | exact get_new _ _ | refine get_old ?_ _ | refine get_set ?_ _ | refine get_set_ne ?_ (by first | assumption | (simp <;> omega) | omega) _ | refine prefix_get (by assumption) ?_)); done)); (focus (decide))) | (apply st_bool; (focus (rfl)); (focus (rfl)); (focus (decide)); (focus ((repeat (first | assumption | exact get_new _ _ | refine get_old ?_ _ | refine get_set ?_ _ | refine get_set_ne ?_ (by first | assumption | (simp <;> omega) | omega) _ | refine prefix_get (by assumption) ?_)); done)); (focus (decide))) | (apply st_ptr; (focus (rfl)); (focus (rfl)); (focus (decide)); (focus ((repeat (first | assumption | exact get_new _ _ | refine get_old ?_ _ | refine get_set ?_ _ | refine get_set_ne ?_ (by first | assumption | (simp <;> omega) | omega) _ | refine prefix_get (by assumption) ?_)); done)); (focus (decide)))) | refine ByPlan.go (by assumption) plan62x2 ord62x2 ?_ | refine ByPlan.go (by assumption) plan62x5 ord62x5 ?_ | refine ByPlan.go (by assumption) plan62x7 ord62x7 ?_ | refine ByPlan.go (by assumption) plan62x8 ord62x8 ?_ | refine ByPlan.go (by assumption) plan62x9 ord62x9 ?_ | refine ByPlan.go (by assumption) plan62x17 ord62x17 ?_ | refine ByPlan.go (by assumption) plan62x19 ord62x19 ?_ | (refine and_true ?_ ?_; (focus ((repeat (first | refine all_skip rfl ?_ | exact rfl | (refine all_cons ?_ ?_; (focus ((conv => lhs; whnf); ((with_reducible apply gLd); apply ldF; (focus (rfl)); (focus (rfl)); (focus (rfl)); (focus ((repeat (first | assumption | exact get_new _ _ | refine get_old ?_ _ | refine get_set ?_ _ | refine get_set_ne ?_ (by first | assumption | (simp <;> omega) | omega) _ | refine prefix_get (by assumption) ?_)); done)); (focus (rfl))); (first | exact cs_int rfl | exact cs_ptr rfl | exact cs_sl rfl | exact cs_str rfl | exact cs_bool rfl | exact cs_map rfl | exact same_int _ _ | exact same_sl _ _ | exact same_str _ | exact same_ptr _ | rfl)))))); done))))
    conv => lhs; whnf
    exact nil _ (.inr ⟨hy, ca⟩) (Stq.pre _ pa) h1
  refine bif_neg (decide_eq_false (by omega)) ?_
  clear nil
  have okN : OkN { v with mat := upd v.mat to (max (v.mat to) x.1.a), next := upd v.next to (max (v.mat to) x.1.a + 1) } := ⟨ok.me, ok.s0, ok.s1, ok.l, ok.sm, ok.t0, ok.t1, fun j hj => by
      show 0 ≤ upd _ _ _ j ∧ upd _ _ _ j ≤ 2001
      unfold upd
      split
      · unfold len at ca; omega
      · exact ok.nx j hj, fun j hj => by
      show 0 ≤ upd _ _ _ j ∧ upd _ _ _ j ≤ 2000
      unfold upd
      split
      · unfold len at ca; omega
      · exact ok.mt j hj, ok.c0⟩
  have hmx : max (v.mat to) x.1.a ≤ 2000 := by unfold len at ca; omega
  have hll : len v.log ≤ 2000 := by unfold len; omega
  repeat ((conv => lhs; whnf); first | ((with_reducible apply gLd); apply ldF; (focus (rfl)); (focus (rfl)); (focus (rfl)); (focus ((repeat (first | assumption | exact get_new _ _ | refine get_old ?_ _ | refine get_set ?_ _ | refine get_set_ne ?_ (by first | assumption | (simp <;> omega) | omega) _ | refine prefix_get (by assumption) ?_)); done)); (focus (rfl))) | ((with_reducible apply gSt); first | (apply st_int; (focus (rfl)); (focus (rfl)); (focus (decide)); (focus ((repeat (first | assumption | exact get_new _ _ | refine get_old ?_ _ | refine get_set ?_ _ | refine get_set_ne ?_ (by first | assumption | (simp <;> omega) | omega) _ | refine prefix_get (by assumption) ?_)); done)); (focus (decide))) | (apply st_sl; (focus (rfl)); (focus (rfl)); (focus (decide)); (focus ((repeat (first | assumption | exact get_new _ _ | refine get_old ?_ _ | refine get_set ?_ _ | refine get_set_ne ?_ (by first | assumption | (simp <;> omega) | omega) _ | refine prefix_get (by assumption) ?_)); done)); (focus (decide))) | (apply st_bool; (focus (rfl)); (focus (rfl)); (focus (decide)); (focus ((repeat (first | assumption | exact get_new _ _ | refine get_old ?_ _ | refine get_set ?_ _ | refine get_set_ne ?_ (by first | assumption | (simp <;> omega) | omega) _ | refine prefix_get (by assumption) ?_)); done)); (focus (decide))) | (apply st_ptr; (focus (rfl)); (focus (rfl)); (focus (decide)); (focus ((repeat (first | assumption | exact get_new _ _ | refine get_old ?_ _ | refine get_set ?_ _ | refine get_set_ne ?_ (by first | assumption | (simp <;> omega) | omega) _ | refine prefix_get (by assumption) ?_)); done)); (focus (decide)))) | refine ByPlan.go (by assumption) plan62x2 ord62x2 ?_ | refine ByPlan.go (by assumption) plan62x5 ord62x5 ?_ | refine ByPlan.go (by assumption) plan62x7 ord62x7 ?_ | refine ByPlan.go (by assumption) plan62x8 ord62x8 ?_ | refine ByPlan.go (by assumption) plan62x9 ord62x9 ?_ | refine ByPlan.go (by assumption) plan62x17 ord62x17 ?_ | refine ByPlan.go (by assumption) plan62x19 ord62x19 ?_ | (refine and_true ?_ ?_; (focus ((repeat (first | refine all_skip rfl ?_ | exact rfl | (refine all_cons ?_ ?_; (focus ((conv => lhs; whnf); ((with_reducible apply gLd); apply ldF; (focus (rfl)); (focus (rfl)); (focus (rfl)); (focus ((repeat (first | assumption | exact get_new _ _ | refine get_old ?_ _ | refine get_set ?_ _ | refine get_set_ne ?_ (by first | assumption | (simp <;> omega) | omega) _ | refine prefix_get (by assumption) ?_)); done)); (focus (rfl))); (first | exact cs_int rfl | exact cs_ptr rfl | exact cs_sl rfl | exact cs_str rfl | exact cs_bool rfl | exact cs_map rfl | exact same_int _ _ | exact same_sl _ _ | exact same_str _ | exact same_ptr _ | rfl)))))); done))))
  conv => lhs; whnf
  rw [hy]
  conv => lhs; whnf
  refine hD.go plan62x7 ord62x7 ?_
  conv => lhs; whnf
  refine ldF rfl rfl rfl ga rfl ?_
  with_unfolding_all conv => lhs; whnf
  refine bif_pos ?_ ?_
  · rw [hto]
    rcases show to = 0 ∨ to = 1 ∨ to = 2 by omega with rfl | rfl | rfl <;> rfl
  conv => lhs; whnf
  refine ldF (v := .int .i64 (v.mat to)) rfl rfl rfl hB1 (mat_at2 hto ht) ?_
  conv => lhs; whnf
  by_cases cm : v.mat to < x.1.a
  · refine bif_pos (decide_eq_true (by omega)) ?_
    repeat ((conv => lhs; whnf); first | ((with_reducible apply gLd); apply ldF; (focus (rfl)); (focus (rfl)); (focus (rfl)); (focus ((repeat (first | assumption | exact get_new _ _ | refine get_old ?_ _ | refine get_set ?_ _ | refine get_set_ne ?_ (by first | assumption | (simp <;> omega) | omega) _ | refine prefix_get (by assumption) ?_)); done)); (focus (rfl))) | ((with_reducible apply gSt); first | (apply st_int; (focus (rfl)); (focus (rfl)); (focus (decide)); (focus ((repeat (first | assumption | exact get_new _ _ | refine get_old ?_ _ | refine get_set ?_ _ | refine get_set_ne ?_ (by first | assumption | (simp <;> omega) | omega) _ | refine prefix_get (by assumption) ?_)); done)); (focus (decide))) | (apply st_sl; (focus (rfl)); (focus (rfl)); (focus (decide)); (focus ((repeat (first | assumption | exact get_new _ _ | refine get_old ?_ _ | refine get_set ?_ _ | refine get_set_ne ?_ (by first | assumption | (simp <;> omega) | omega) _ | refine prefix_get (by assumption) ?_)); done)); (focus (decide))) | (apply st_bool; (focus (rfl)); (focus (rfl)); (focus (decide)); (focus ((repeat (first | assumption | exact get_new _ _ | refine get_old ?_ _ | refine get_set ?_ _ | refine get_set_ne ?_ (by first | assumption | (simp <;> omega) | omega) _ | refine prefix_get (by assumption) ?_)); done)); (focus (decide))) | (apply st_ptr; (focus (rfl)); (focus (rfl)); (focus (decide)); (focus ((repeat (first | assumption | exact get_new _ _ | refine get_old ?_ _ | refine get_set ?_ _ | refine get_set_ne ?_ (by first | assumption | (simp <;> omega) | omega) _ | refine prefix_get (by assumption) ?_)); done)); (focus (decide)))) | refine ByPlan.go (by assumption) plan62x2 ord62x2 ?_ | refine ByPlan.go (by assumption) plan62x5 ord62x5 ?_ | refine ByPlan.go (by assumption) plan62x7 ord62x7 ?_ | refine ByPlan.go (by assumption) plan62x8 ord62x8 ?_ | refine ByPlan.go (by assumption) plan62x9 ord62x9 ?_ | refine ByPlan.go (by assumption) plan62x17 ord62x17 ?_ | refine ByPlan.go (by assumption) plan62x19 ord62x19 ?_ | (refine and_true ?_ ?_; (focus ((repeat (first | refine all_skip rfl ?_ | exact rfl | (refine all_cons ?_ ?_; (focus ((conv => lhs; whnf); ((with_reducible apply gLd); apply ldF; (focus (rfl)); (focus (rfl)); (focus (rfl)); (focus ((repeat (first | assumption | exact get_new _ _ | refine get_old ?_ _ | refine get_set ?_ _ | refine get_set_ne ?_ (by first | assumption | (simp <;> omega) | omega) _ | refine prefix_get (by assumption) ?_)); done)); (focus (rfl))); (first | exact cs_int rfl | exact cs_ptr rfl | exact cs_sl rfl | exact cs_str rfl | exact cs_bool rfl | exact cs_map rfl | exact same_int _ _ | exact same_sl _ _ | exact same_str _ | exact same_ptr _ | rfl)))))); done))))
    conv => lhs; whnf
    refine idxArr' hto ht (by show 0 + 12 + to < 15; omega) ?_
    conv => lhs; whnf
    refine stNode (σ := σ ++ [AO.cells (lc x) 9 .own]) (v' := { v with mat := upd v.mat to (max (v.mat to) x.1.a) }) (bx' := bx) (BL' := BL) rfl rfl (by show 0 + 12 + to * 1 + 1 ≤ 15; omega) rfl hB1 (mat_he' ht (by omega)) ?_
    have h2 := h1.set (v' := { v with mat := upd v.mat to (max (v.mat to) x.1.a) }) (bx' := bx) rfl fun hr => ⟨hr, rfl, rfl⟩
    have s2 : Stq (fpN B BL o b m v.role) (fpN B BL o b m v.role) σ ((σ ++ [AO.cells (lc x) 9 .own]).set B (AO.cells (nc { v with mat := upd v.mat to (max (v.mat to) x.1.a) } BL bx) 15 .own)) := (Stq.pre _ pa).trans (Stq.set (.inl rfl) hB1 (by decide))
    have hB2 := h2.hB
    generalize (σ ++ [AO.cells (lc x) 9 .own]).set B (AO.cells (nc { v with mat := upd v.mat to (max (v.mat to) x.1.a) } BL bx) 15 .own) = τ2 at h2 s2 hB2 ⊢
    conv => lhs; whnf
    refine hD.go plan62x9 ord62x9 ?_
    conv => lhs; whnf
    refine idxArr' hto ht (by show 0 + 12 + to < 15; omega) ?_
    conv => lhs; whnf
    refine ldF (v := .int .i64 (max (v.mat to) x.1.a)) rfl rfl rfl hB2 (mat_at' (v := { v with mat := upd v.mat to (max (v.mat to) x.1.a) }) ht (upd_at _ _ _)) ?_
    conv => lhs; whnf
    refine idxArr' hto ht (by show 0 + 9 + to < 15; omega) ?_
    conv => lhs; whnf
    refine stNode (σ := τ2) (v' := { v with mat := upd v.mat to (max (v.mat to) x.1.a), next := upd v.next to (max (v.mat to) x.1.a + 1) }) (bx' := bx) (BL' := BL) rfl rfl (by show 0 + 9 + to * 1 + 1 ≤ 15; omega) rfl hB2 (nxt_he' (v := { v with mat := upd v.mat to (max (v.mat to) x.1.a) }) ht (wrap_i64 (by omega) (by omega))) ?_
    have h3 := h2.set (v' := { v with mat := upd v.mat to (max (v.mat to) x.1.a), next := upd v.next to (max (v.mat to) x.1.a + 1) }) (bx' := bx) rfl fun hr => ⟨hr, rfl, rfl⟩
    have s3 : Stq (fpN B BL o b m v.role) (fpN B BL o b m v.role) σ (τ2.set B (AO.cells (nc { v with mat := upd v.mat to (max (v.mat to) x.1.a), next := upd v.next to (max (v.mat to) x.1.a + 1) } BL bx) 15 .own)) := s2.trans (Stq.set (.inl rfl) hB2 (by decide))
    generalize τ2.set B (AO.cells (nc { v with mat := upd v.mat to (max (v.mat to) x.1.a), next := upd v.next to (max (v.mat to) x.1.a + 1) } BL bx) 15 .own) = τ3 at h3 s3 ⊢
    clear h2 s2 hB2
    have hB3 := h3.hB
    repeat ((conv => lhs; whnf); first | ((with_reducible apply gLd); apply ldF; (focus (rfl)); (focus (rfl)); (focus (rfl)); (focus ((repeat (first | assumption | exact get_new _ _ | refine get_old ?_ _ | refine get_set ?_ _ | refine get_set_ne ?_ (by first | assumption | (simp <;> omega) | omega) _ | refine prefix_get (by assumption) ?_)); done)); (focus (rfl))) | ((with_reducible apply gSt); first | (apply st_int; (focus (rfl)); (focus (rfl)); (focus (decide)); (focus ((repeat (first | assumption | exact get_new _ _ | refine get_old ?_ _ | refine get_set ?_ _ | refine get_set_ne ?_ (by first | assumption | (simp <;> omega) | omega) _ | refine prefix_get (by assumption) ?_)); done)); (focus (decide))) | (apply st_sl; (focus (rfl)); (focus (rfl)); (focus (decide)); (focus ((repeat (first | assumption | exact get_new _ _ | refine get_old ?_ _ | refine get_set ?_ _ | refine get_set_ne ?_ (by first | assumption | (simp <;> omega) | omega) _ | refine prefix_get (by assumption) ?_)); done)); (focus (decide))) | (apply st_bool; (focus (rfl)); (focus (rfl)); (focus (decide)); (focus ((repeat (first | assumption | exact get_new _ _ | refine get_old ?_ _ | refine get_set ?_ _ | refine get_set_ne ?_ (by first | assumption | (simp <;> omega) | omega) _ | refine prefix_get (by assumption) ?_)); done)); (focus (decide))) | (apply st_ptr; (focus (rfl)); (focus (rfl)); (focus (decide)); (focus ((repeat (first | assumption | exact get_new _ _ | refine get_old ?_ _ | refine get_set ?_ _ | refine get_set_ne ?_ (by first | assumption | (simp <;> omega) | omega) _ | refine prefix_get (by assumption) ?_)); done)); (focus (decide)))) | refine ByPlan.go (by assumption) plan62x2 ord62x2 ?_ | refine ByPlan.go (by assumption) plan62x5 ord62x5 ?_ | refine ByPlan.go (by assumption) plan62x7 ord62x7 ?_ | refine ByPlan.go (by assumption) plan62x8 ord62x8 ?_ | refine ByPlan.go (by assumption) plan62x9 ord62x9 ?_ | refine ByPlan.go (by assumption) plan62x17 ord62x17 ?_ | refine ByPlan.go (by assumption) plan62x19 ord62x19 ?_ | (refine and_true ?_ ?_; (focus ((repeat (first | refine all_skip rfl ?_ | exact rfl | (refine all_cons ?_ ?_; (focus ((conv => lhs; whnf); ((with_reducible apply gLd); apply ldF; (focus (rfl)); (focus (rfl)); (focus (rfl)); (focus ((repeat (first | assumption | exact get_new _ _ | refine get_old ?_ _ | refine get_set ?_ _ | refine get_set_ne ?_ (by first | assumption | (simp <;> omega) | omega) _ | refine prefix_get (by assumption) ?_)); done)); (focus (rfl))); (first | exact cs_int rfl | exact cs_ptr rfl | exact cs_sl rfl | exact cs_str rfl | exact cs_bool rfl | exact cs_map rfl | exact same_int _ _ | exact same_sl _ _ | exact same_str _ | exact same_ptr _ | rfl)))))); done))))
    conv => lhs; whnf
    refine len_spec (by omega) h3.hL.log ?_
    conv => lhs; whnf
    refine bs22 ?_
    have p4 := List.prefix_append τ3 [AO.cells [AV.int .i64 (V.length : Int)] 1 .own]
    have o4 : Own τ3 (τ3 ++ [AO.cells [AV.int .i64 (V.length : Int)] 1 .own]) 1 (some τ3.length) (.at τ3.length 0 1) 1 (iks .i64 [(V.length : Int)]) := Own.new (List.prefix_refl _) _ _ (by decide) rfl
    conv => lhs; whnf
    refine others_spec (v := { v with mat := upd v.mat to (max (v.mat to) x.1.a), next := upd v.next to (max (v.mat to) x.1.a + 1) }) (by omega) (prefix_get p4 hB3) ok.me fun w5 τ5 p5 r5 => ?_
    have o5 := o4.mono p5
    have hol := oth_len v.me 3
    conv => lhs; whnf
    refine loop_rule (m := 277298568799925181577403826273) (fun q fr τ => ∃ (z : Int) (k : Nat) (oo : Option Nat) (wr : AM.SA), z = (k : Int) ∧ k + q = (oth v.me 3).length ∧ τ3 <+: τ ∧ Own τ3 τ 1 oo wr (k + 1) (iks .i64 ((V.length : Int) :: ((oth v.me 3).take k).map fun y => ({ v with mat := upd v.mat to (max (v.mat to) x.1.a), next := upd v.next to (max (v.mat to) x.1.a + 1) } : NSR).mat y.toNat)) ∧ Rw τ 1 w5 (oth v.me 3).length (iks .i64 (oth v.me 3)) ∧
        fr = [.ptr (some ⟨B, 0, 0, 15⟩), .bad, .bad, .bad, .bad, .int .i64 x.1.src, .sl wr (k + 1), .bad, .bad, .bad, .bad, .bad, .bad, .bad, .bad, .bad, .bad, .bad, .bad, .bad, .bad, .bad, .bad, .bad, .bad, .bad, .bad, .bad, .bad, .bad, .bad, .bad, .bad, .bad, .bad, .bad, .bad, .bad, .bad, .bad, .bad, .bad, .bad, .bad, .bad, .bad, .bad, .bad, .bad, .bad, .bad, .bad, .bad, .bad, .bad, .bad, .bad, .bad, .bad, .bad, .bad, .bad, .bad, .bad, .bad, .bad, .bad, .bad, .bad, .bad, .bad, .bad, .bad, .bad, .bad, .bad, .bad, .bad, .bad, .bad, .bad, .bad, .bad, .bad, .bad, .bad, .bad, .bad, .bad, .bad, .bad, .bad, .bad, .bad, .bad, .sl w5 (oth v.me 3).length, .int .i64 ((oth v.me 3).length : Int), .int .i64 z, .bad, .bad, .bad, .bad, .bad, .bad, .bad, .bad, .bad, .bad, .bad, .bad, .bad, .bad, .bad, .bad, .bad, .bad, .bad, .bad, .bad, .bad, .bad, .bad, .bad, .bad, .bad, .bad, .bad, .bad, .bad, .bad, .bad, .bad, .bad, .bad, .bad, .bad, .bad, .bad, .bad, .bad, .bad, .bad, .bad, .bad, .bad, .bad, .bad, .bad, .bad, .bad, .bad, .bad]) ?_ _ (oth v.me 3).length _ _ (by omega)
        ⟨_, 0, _, _, rfl, Nat.zero_add _, List.IsPrefix.trans p4 p5, o5, r5, rfl⟩
    clear o4 o5 r5 p4 p5
    rintro q fr τ C ⟨z, k, oo, wr, rfl, hq, p6, o6, r6, rfl⟩ next fin
    conv => lhs; whnf
    by_cases hk : k < (oth v.me 3).length
    case pos =>
      refine bif_pos (by simpa using hk) ?_
      obtain ⟨t2, f1, f2, f3⟩ := oth_get hk
      conv => lhs; whnf
      refine it44.idx r6 rfl hk fun p hE => ?_
      conv => lhs; whnf
      refine it44.ld hE ?_
      rw [f1]
      conv => lhs; whnf
      refine idxArr f2 (by show 0 + 12 + t2 < 15; omega) ?_
      conv => lhs; whnf
      refine ldF (v := .int .i64 (({ v with mat := upd v.mat to (max (v.mat to) x.1.a), next := upd v.next to (max (v.mat to) x.1.a + 1) } : NSR).mat t2)) rfl rfl rfl (prefix_get p6 hB3) (mat_at (v := { v with mat := upd v.mat to (max (v.mat to) x.1.a), next := upd v.next to (max (v.mat to) x.1.a + 1) }) f2) ?_
      conv => lhs; whnf
      refine bs22 ?_
      conv => lhs; whnf
      refine appendK_ext Tryz.underlying22 rfl rfl rfl (prefix_add p6 _) (o := oo) (o6.mono (List.prefix_append _ _)) (Rw.new _ _ rfl) (N := k + 1 + 1) (zs := iks .i64 ((V.length : Int) :: ((oth v.me 3).take (k + 1)).map fun y => ({ v with mat := upd v.mat to (max (v.mat to) x.1.a), next := upd v.next to (max (v.mat to) x.1.a + 1) } : NSR).mat y.toNat)) rfl ?_ ?_ fun o7 a7 τ7 p7 _ _ _ x7 w7 => ?_
      · rw [List.take_succ_eq_append_getElem hk, List.map_append, f1]; simp [iks]
      · show (k + 1 + 1) * 8 ≤ _; omega
      conv => lhs; whnf
      exact next (q - 1) _ _ (by omega) ⟨_, k + 1, o7, a7, inc_i64 (by omega), by omega, p7, w7, Rw.ext (r6.mono (List.prefix_append _ _)) x7, rfl⟩
    refine bif_neg (by simpa using hk) ?_
    have hke : k = (oth v.me 3).length := by omega
    conv => lhs; whnf
    refine fin _ _ _ nofun ?_
    clear next fin
    have hzs : (V.length : Int) :: ((oth v.me 3).take k).map (fun y => ({ v with mat := upd v.mat to (max (v.mat to) x.1.a), next := upd v.next to (max (v.mat to) x.1.a + 1) } : NSR).mat y.toNat) = [len v.log, ({ v with mat := upd v.mat to (max (v.mat to) x.1.a), next := upd v.next to (max (v.mat to) x.1.a + 1) } : NSR).mat oi, ({ v with mat := upd v.mat to (max (v.mat to) x.1.a), next := upd v.next to (max (v.mat to) x.1.a + 1) } : NSR).mat oj] := by
      rw [hke, List.take_of_length_le (Nat.le_refl _), hoth, hlen]; simp
    have hk2 : k + 1 = [len v.log, ({ v with mat := upd v.mat to (max (v.mat to) x.1.a), next := upd v.next to (max (v.mat to) x.1.a + 1) } : NSR).mat oi, ({ v with mat := upd v.mat to (max (v.mat to) x.1.a), next := upd v.next to (max (v.mat to) x.1.a + 1) } : NSR).mat oj].length := by rw [hke, hoth]; rfl
    rw [hzs] at o6
    have o6r := o6.rw
    rw [hk2] at o6r ⊢
    conv => lhs; whnf
    refine median_spec (by omega) (by show 3 ≤ 1000; decide) o6r fun τ8 p8 => ?_
    rw [med3]
    have h8 := (h3.mono p6).mono p8
    have hB8 := h8.hB
    have s8 := s3.trans (Stq.pre (fpN B BL o b m v.role) (List.IsPrefix.trans p6 p8))
    have hreach : Go.Raft.reach ({ v with mat := upd v.mat to (max (v.mat to) x.1.a), next := upd v.next to (max (v.mat to) x.1.a + 1) } : NSR) = Go.Raft.median3 (len v.log) (({ v with mat := upd v.mat to (max (v.mat to) x.1.a), next := upd v.next to (max (v.mat to) x.1.a + 1) } : NSR).mat oi) (({ v with mat := upd v.mat to (max (v.mat to) x.1.a), next := upd v.next to (max (v.mat to) x.1.a + 1) } : NSR).mat oj) := by unfold Go.Raft.reach; rw [hothers]
    rw [← hreach]
    have fin2 : ∀ vC : NSR, vC = Go.Raft.commits ({ v with mat := upd v.mat to (max (v.mat to) x.1.a), next := upd v.next to (max (v.mat to) x.1.a + 1) } : NSR) → ∀ τ9, Stq (fpN B BL o b m v.role) (fpN B BL o b m v.role) σ τ9 → NVx τ9 B BL o w V bx b m vC → (len v.log < max (v.mat to) x.1.a + 1 → K (.sl .nil 0) τ9 = true) ∧ (max (v.mat to) x.1.a + 1 ≤ len v.log → ∀ KK : AV → H → Bool, (∀ w' σ', (K (.sl (.at σ'.length 0 9) 1) (σ' ++ [AO.cells (lc (Go.Raft.adds vC to, w')) 9 .own]) = true) → KK (.agg (lc (Go.Raft.adds vC to, w'))) σ' = true) → acall Tryz.prog tab D n 100 [.ptr (some ⟨B, 0, 0, 15⟩), .int .i64 x.1.src] τ9 KK = true) := fun vC eC τ9 s9 h9 => by
      have nC : vC.next to = max (v.mat to) x.1.a + 1 := by rw [eC]; unfold Go.Raft.commits; split <;> exact upd_at _ _ _
      have lC : vC.log = v.log := by rw [eC]; unfold Go.Raft.commits; split <;> rfl
      have rC : vC.role = v.role := by rw [eC]; unfold Go.Raft.commits; split <;> rfl
      have e : Go.Raft.has v x.1 = (vC, if len v.log < max (v.mat to) x.1.a + 1 then [] else [Go.Raft.adds vC to]) := by
        unfold Go.Raft.has
        rw [if_neg (fun c => c.elim (fun c => c r3) (fun c => absurd c.2 ca)), if_neg (by rw [hy]; decide), tN]
        show (Go.Raft.commits ({ v with mat := upd v.mat to (max (v.mat to) x.1.a), next := upd v.next to (max (v.mat to) x.1.a + 1) } : NSR), if len (Go.Raft.commits ({ v with mat := upd v.mat to (max (v.mat to) x.1.a), next := upd v.next to (max (v.mat to) x.1.a + 1) } : NSR)).log < (Go.Raft.commits ({ v with mat := upd v.mat to (max (v.mat to) x.1.a), next := upd v.next to (max (v.mat to) x.1.a + 1) } : NSR)).next to then [] else [Go.Raft.adds (Go.Raft.commits ({ v with mat := upd v.mat to (max (v.mat to) x.1.a), next := upd v.next to (max (v.mat to) x.1.a + 1) } : NSR)) to]) = _
        rw [← eC, lC, nC]
      refine ⟨fun c => ?_, fun c KK hKK => ?_⟩
      · rw [if_pos c] at e
        exact hK _ none .nil [] τ9 (by rw [e]; exact Post.nil s9 ⟨BL, o, w, V, bx, b, m, h9, by rw [rC]⟩) (by rw [e]; rfl)
      · rw [if_neg (by omega)] at e
        refine adds_one (v := vC) (F := (fpN B BL o b m v.role)) (by omega) hD (by rw [rC]; exact s9) h9 (by rw [eC]; exact okN.commits) ht hto fun w' σ' i p => hKK w' σ' ?_
        exact hK _ _ _ [(Go.Raft.adds vC to, w')] _ (by rw [e]; exact p rfl) (by rw [e]; rfl)
    have hmt : (Go.Raft.reach ({ v with mat := upd v.mat to (max (v.mat to) x.1.a), next := upd v.next to (max (v.mat to) x.1.a + 1) } : NSR)) ≤ 2000 := by
      rw [hreach]
      rcases Go.Raft.median_two (x := Go.Raft.median3 (len v.log) (({ v with mat := upd v.mat to (max (v.mat to) x.1.a), next := upd v.next to (max (v.mat to) x.1.a + 1) } : NSR).mat oi) (({ v with mat := upd v.mat to (max (v.mat to) x.1.a), next := upd v.next to (max (v.mat to) x.1.a + 1) } : NSR).mat oj)) (Int.le_refl _) with c | c | c
      · exact Int.le_trans c.1 hll
      · exact Int.le_trans c.1 hll
      · have := (okN.mt oj hoj).2
        exact Int.le_trans c.2 this
    repeat ((conv => lhs; whnf); first | ((with_reducible apply gLd); apply ldF; (focus (rfl)); (focus (rfl)); (focus (rfl)); (focus ((repeat (first | assumption | exact get_new _ _ | refine get_old ?_ _ | refine get_set ?_ _ | refine get_set_ne ?_ (by first | assumption | (simp <;> omega) | omega) _ | refine prefix_get (by assumption) ?_)); done)); (focus (rfl))) | ((with_reducible apply gSt); first | (apply st_int; (focus (rfl)); (focus (rfl)); (focus (decide)); (focus ((repeat (first | assumption | exact get_new _ _ | refine get_old ?_ _ | refine get_set ?_ _ | refine get_set_ne ?_ (by first | assumption | (simp <;> omega) | omega) _ | refine prefix_get (by assumption) ?_)); done)); (focus (decide))) | (apply st_sl; (focus (rfl)); (focus (rfl)); (focus (decide)); (focus ((repeat (first | assumption | exact get_new _ _ | refine get_old ?_ _ | refine get_set ?_ _ | refine get_set_ne ?_ (by first | assumption | (simp <;> omega) | omega) _ | refine prefix_get (by assumption) ?_)); done)); (focus (decide))) | (apply st_bool; (focus (rfl)); (focus (rfl)); (focus (decide)); (focus ((repeat (first | assumption | exact get_new _ _ | refine get_old ?_ _ | refine get_set ?_ _ | refine get_set_ne ?_ (by first | assumption | (simp <;> omega) | omega) _ | refine prefix_get (by assumption) ?_)); done)); (focus (decide))) | (apply st_ptr; (focus (rfl)); (focus (rfl)); (focus (decide)); (focus ((repeat (first | assumption | exact get_new _ _ | refine get_old ?_ _ | refine get_set ?_ _ | refine get_set_ne ?_ (by first | assumption | (simp <;> omega) | omega) _ | refine prefix_get (by assumption) ?_)); done)); (focus (decide)))) | refine ByPlan.go (by assumption) plan62x2 ord62x2 ?_ | refine ByPlan.go (by assumption) plan62x5 ord62x5 ?_ | refine ByPlan.go (by assumption) plan62x7 ord62x7 ?_ | refine ByPlan.go (by assumption) plan62x8 ord62x8 ?_ | refine ByPlan.go (by assumption) plan62x9 ord62x9 ?_ | refine ByPlan.go (by assumption) plan62x17 ord62x17 ?_ | refine ByPlan.go (by assumption) plan62x19 ord62x19 ?_ | (refine and_true ?_ ?_; (focus ((repeat (first | refine all_skip rfl ?_ | exact rfl | (refine all_cons ?_ ?_; (focus ((conv => lhs; whnf); ((with_reducible apply gLd); apply ldF; (focus (rfl)); (focus (rfl)); (focus (rfl)); (focus ((repeat (first | assumption | exact get_new _ _ | refine get_old ?_ _ | refine get_set ?_ _ | refine get_set_ne ?_ (by first | assumption | (simp <;> omega) | omega) _ | refine prefix_get (by assumption) ?_)); done)); (focus (rfl))); (first | exact cs_int rfl | exact cs_ptr rfl | exact cs_sl rfl | exact cs_str rfl | exact cs_bool rfl | exact cs_map rfl | exact same_int _ _ | exact same_sl _ _ | exact same_str _ | exact same_ptr _ | rfl)))))); done))))
    conv => lhs; whnf
    by_cases g1 : v.commit < Go.Raft.reach ({ v with mat := upd v.mat to (max (v.mat to) x.1.a), next := upd v.next to (max (v.mat to) x.1.a + 1) } : NSR)
    case neg =>
      refine bif_neg (decide_eq_false (by omega)) ?_
      have f2 := fin2 { v with mat := upd v.mat to (max (v.mat to) x.1.a), next := upd v.next to (max (v.mat to) x.1.a + 1) } (by unfold Go.Raft.commits; rw [if_neg (fun c => g1 c.1)]) _ s8 h8
      have hBz := h8.hB
      conv => lhs; whnf
      refine hD.go plan62x19 ord62x19 ?_
      conv => lhs; whnf
      refine idxArr' hto ht (by show 0 + 9 + to < 15; omega) ?_
      conv => lhs; whnf
      refine ldF (v := .int .i64 (max (v.mat to) x.1.a + 1)) rfl rfl rfl hBz (nxt_at' (v := { v with mat := upd v.mat to (max (v.mat to) x.1.a), next := upd v.next to (max (v.mat to) x.1.a + 1) }) ht (upd_at _ _ _)) ?_
      repeat ((conv => lhs; whnf); first | ((with_reducible apply gLd); apply ldF; (focus (rfl)); (focus (rfl)); (focus (rfl)); (focus ((repeat (first | assumption | exact get_new _ _ | refine get_old ?_ _ | refine get_set ?_ _ | refine get_set_ne ?_ (by first | assumption | (simp <;> omega) | omega) _ | refine prefix_get (by assumption) ?_)); done)); (focus (rfl))) | ((with_reducible apply gSt); first | (apply st_int; (focus (rfl)); (focus (rfl)); (focus (decide)); (focus ((repeat (first | assumption | exact get_new _ _ | refine get_old ?_ _ | refine get_set ?_ _ | refine get_set_ne ?_ (by first | assumption | (simp <;> omega) | omega) _ | refine prefix_get (by assumption) ?_)); done)); (focus (decide))) | (apply st_sl; (focus (rfl)); (focus (rfl)); (focus (decide)); (focus ((repeat (first | assumption | exact get_new _ _ | refine get_old ?_ _ | refine get_set ?_ _ | refine get_set_ne ?_ (by first | assumption | (simp <;> omega) | omega) _ | refine prefix_get (by assumption) ?_)); done)); (focus (decide))) | (apply st_bool; (focus (rfl)); (focus (rfl)); (focus (decide)); (focus ((repeat (first | assumption | exact get_new _ _ | refine get_old ?_ _ | refine get_set ?_ _ | refine get_set_ne ?_ (by first | assumption | (simp <;> omega) | omega) _ | refine prefix_get (by assumption) ?_)); done)); (focus (decide))) | (apply st_ptr; (focus (rfl)); (focus (rfl)); (focus (decide)); (focus ((repeat (first | assumption | exact get_new _ _ | refine get_old ?_ _ | refine get_set ?_ _ | refine get_set_ne ?_ (by first | assumption | (simp <;> omega) | omega) _ | refine prefix_get (by assumption) ?_)); done)); (focus (decide)))) | refine ByPlan.go (by assumption) plan62x2 ord62x2 ?_ | refine ByPlan.go (by assumption) plan62x5 ord62x5 ?_ | refine ByPlan.go (by assumption) plan62x7 ord62x7 ?_ | refine ByPlan.go (by assumption) plan62x8 ord62x8 ?_ | refine ByPlan.go (by assumption) plan62x9 ord62x9 ?_ | refine ByPlan.go (by assumption) plan62x17 ord62x17 ?_ | refine ByPlan.go (by assumption) plan62x19 ord62x19 ?_ | (refine and_true ?_ ?_; (focus ((repeat (first | refine all_skip rfl ?_ | exact rfl | (refine all_cons ?_ ?_; (focus ((conv => lhs; whnf); ((with_reducible apply gLd); apply ldF; (focus (rfl)); (focus (rfl)); (focus (rfl)); (focus ((repeat (first | assumption | exact get_new _ _ | refine get_old ?_ _ | refine get_set ?_ _ | refine get_set_ne ?_ (by first | assumption | (simp <;> omega) | omega) _ | refine prefix_get (by assumption) ?_)); done)); (focus (rfl))); (first | exact cs_int rfl | exact cs_ptr rfl | exact cs_sl rfl | exact cs_str rfl | exact cs_bool rfl | exact cs_map rfl | exact same_int _ _ | exact same_sl _ _ | exact same_str _ | exact same_ptr _ | rfl)))))); done))))
      conv => lhs; whnf
      refine len_spec (by omega) h8.hL.log ?_
      conv => lhs; whnf
      refine and_true ?_ ?_
      · refine all_skip rfl (all_cons ?_ rfl)
        conv => lhs; whnf
        refine ldF (v := .int .i64 (max (v.mat to) x.1.a + 1)) rfl rfl rfl hBz (nxt_at' (v := { v with mat := upd v.mat to (max (v.mat to) x.1.a), next := upd v.next to (max (v.mat to) x.1.a + 1) }) ht (upd_at _ _ _)) ?_
        exact cs_int rfl
      conv => lhs; whnf
      by_cases g3 : len v.log < max (v.mat to) x.1.a + 1
      · refine bif_pos (decide_eq_true (by omega)) ?_
        conv => lhs; whnf
        exact f2.1 g3
      · refine bif_neg (decide_eq_false (by omega)) ?_
        conv => lhs; whnf
        refine f2.2 (by omega) _ fun w' σ' kk => ?_
        conv => lhs; whnf
        refine bs38 (x := (Go.Raft.adds { v with mat := upd v.mat to (max (v.mat to) x.1.a), next := upd v.next to (max (v.mat to) x.1.a + 1) } to, w')) ?_
        conv => lhs; whnf
        exact kk
    refine bif_pos (decide_eq_true (by omega)) ?_
    repeat ((conv => lhs; whnf); first | ((with_reducible apply gLd); apply ldF; (focus (rfl)); (focus (rfl)); (focus (rfl)); (focus ((repeat (first | assumption | exact get_new _ _ | refine get_old ?_ _ | refine get_set ?_ _ | refine get_set_ne ?_ (by first | assumption | (simp <;> omega) | omega) _ | refine prefix_get (by assumption) ?_)); done)); (focus (rfl))) | ((with_reducible apply gSt); first | (apply st_int; (focus (rfl)); (focus (rfl)); (focus (decide)); (focus ((repeat (first | assumption | exact get_new _ _ | refine get_old ?_ _ | refine get_set ?_ _ | refine get_set_ne ?_ (by first | assumption | (simp <;> omega) | omega) _ | refine prefix_get (by assumption) ?_)); done)); (focus (decide))) | (apply st_sl; (focus (rfl)); (focus (rfl)); (focus (decide)); (focus ((repeat (first | assumption | exact get_new _ _ | refine get_old ?_ _ | refine get_set ?_ _ | refine get_set_ne ?_ (by first | assumption | (simp <;> omega) | omega) _ | refine prefix_get (by assumption) ?_)); done)); (focus (decide))) | (apply st_bool; (focus (rfl)); (focus (rfl)); (focus (decide)); (focus ((repeat (first | assumption | exact get_new _ _ | refine get_old ?_ _ | refine get_set ?_ _ | refine get_set_ne ?_ (by first | assumption | (simp <;> omega) | omega) _ | refine prefix_get (by assumption) ?_)); done)); (focus (decide))) | (apply st_ptr; (focus (rfl)); (focus (rfl)); (focus (decide)); (focus ((repeat (first | assumption | exact get_new _ _ | refine get_old ?_ _ | refine get_set ?_ _ | refine get_set_ne ?_ (by first | assumption | (simp <;> omega) | omega) _ | refine prefix_get (by assumption) ?_)); done)); (focus (decide)))) | refine ByPlan.go (by assumption) plan62x2 ord62x2 ?_ | refine ByPlan.go (by assumption) plan62x5 ord62x5 ?_ | refine ByPlan.go (by assumption) plan62x7 ord62x7 ?_ | refine ByPlan.go (by assumption) plan62x8 ord62x8 ?_ | refine ByPlan.go (by assumption) plan62x9 ord62x9 ?_ | refine ByPlan.go (by assumption) plan62x17 ord62x17 ?_ | refine ByPlan.go (by assumption) plan62x19 ord62x19 ?_ | (refine and_true ?_ ?_; (focus ((repeat (first | refine all_skip rfl ?_ | exact rfl | (refine all_cons ?_ ?_; (focus ((conv => lhs; whnf); ((with_reducible apply gLd); apply ldF; (focus (rfl)); (focus (rfl)); (focus (rfl)); (focus ((repeat (first | assumption | exact get_new _ _ | refine get_old ?_ _ | refine get_set ?_ _ | refine get_set_ne ?_ (by first | assumption | (simp <;> omega) | omega) _ | refine prefix_get (by assumption) ?_)); done)); (focus (rfl))); (first | exact cs_int rfl | exact cs_ptr rfl | exact cs_sl rfl | exact cs_str rfl | exact cs_bool rfl | exact cs_map rfl | exact same_int _ _ | exact same_sl _ _ | exact same_str _ | exact same_ptr _ | rfl)))))); done))))
    conv => lhs; whnf
    refine termA_spec (by omega) (by omega) h8.hL.log ?_
    rw [h8.hV]
    repeat ((conv => lhs; whnf); first | ((with_reducible apply gLd); apply ldF; (focus (rfl)); (focus (rfl)); (focus (rfl)); (focus ((repeat (first | assumption | exact get_new _ _ | refine get_old ?_ _ | refine get_set ?_ _ | refine get_set_ne ?_ (by first | assumption | (simp <;> omega) | omega) _ | refine prefix_get (by assumption) ?_)); done)); (focus (rfl))) | ((with_reducible apply gSt); first | (apply st_int; (focus (rfl)); (focus (rfl)); (focus (decide)); (focus ((repeat (first | assumption | exact get_new _ _ | refine get_old ?_ _ | refine get_set ?_ _ | refine get_set_ne ?_ (by first | assumption | (simp <;> omega) | omega) _ | refine prefix_get (by assumption) ?_)); done)); (focus (decide))) | (apply st_sl; (focus (rfl)); (focus (rfl)); (focus (decide)); (focus ((repeat (first | assumption | exact get_new _ _ | refine get_old ?_ _ | refine get_set ?_ _ | refine get_set_ne ?_ (by first | assumption | (simp <;> omega) | omega) _ | refine prefix_get (by assumption) ?_)); done)); (focus (decide))) | (apply st_bool; (focus (rfl)); (focus (rfl)); (focus (decide)); (focus ((repeat (first | assumption | exact get_new _ _ | refine get_old ?_ _ | refine get_set ?_ _ | refine get_set_ne ?_ (by first | assumption | (simp <;> omega) | omega) _ | refine prefix_get (by assumption) ?_)); done)); (focus (decide))) | (apply st_ptr; (focus (rfl)); (focus (rfl)); (focus (decide)); (focus ((repeat (first | assumption | exact get_new _ _ | refine get_old ?_ _ | refine get_set ?_ _ | refine get_set_ne ?_ (by first | assumption | (simp <;> omega) | omega) _ | refine prefix_get (by assumption) ?_)); done)); (focus (decide)))) | refine ByPlan.go (by assumption) plan62x2 ord62x2 ?_ | refine ByPlan.go (by assumption) plan62x5 ord62x5 ?_ | refine ByPlan.go (by assumption) plan62x7 ord62x7 ?_ | refine ByPlan.go (by assumption) plan62x8 ord62x8 ?_ | refine ByPlan.go (by assumption) plan62x9 ord62x9 ?_ | refine ByPlan.go (by assumption) plan62x17 ord62x17 ?_ | refine ByPlan.go (by assumption) plan62x19 ord62x19 ?_ | (refine and_true ?_ ?_; (focus ((repeat (first | refine all_skip rfl ?_ | exact rfl | (refine all_cons ?_ ?_; (focus ((conv => lhs; whnf); ((with_reducible apply gLd); apply ldF; (focus (rfl)); (focus (rfl)); (focus (rfl)); (focus ((repeat (first | assumption | exact get_new _ _ | refine get_old ?_ _ | refine get_set ?_ _ | refine get_set_ne ?_ (by first | assumption | (simp <;> omega) | omega) _ | refine prefix_get (by assumption) ?_)); done)); (focus (rfl))); (first | exact cs_int rfl | exact cs_ptr rfl | exact cs_sl rfl | exact cs_str rfl | exact cs_bool rfl | exact cs_map rfl | exact same_int _ _ | exact same_sl _ _ | exact same_str _ | exact same_ptr _ | rfl)))))); done))))
    conv => lhs; whnf
    by_cases g2 : termAt v.log (Go.Raft.reach ({ v with mat := upd v.mat to (max (v.mat to) x.1.a), next := upd v.next to (max (v.mat to) x.1.a + 1) } : NSR)) = v.term
    case neg =>
      refine bif_neg (by simpa using g2) ?_
      have f2 := fin2 { v with mat := upd v.mat to (max (v.mat to) x.1.a), next := upd v.next to (max (v.mat to) x.1.a + 1) } (by unfold Go.Raft.commits; rw [if_neg (fun c => g2 c.2)]) _ s8 h8
      have hBz := h8.hB
      conv => lhs; whnf
      refine hD.go plan62x19 ord62x19 ?_
      conv => lhs; whnf
      refine idxArr' hto ht (by show 0 + 9 + to < 15; omega) ?_
      conv => lhs; whnf
      refine ldF (v := .int .i64 (max (v.mat to) x.1.a + 1)) rfl rfl rfl hBz (nxt_at' (v := { v with mat := upd v.mat to (max (v.mat to) x.1.a), next := upd v.next to (max (v.mat to) x.1.a + 1) }) ht (upd_at _ _ _)) ?_
      repeat ((conv => lhs; whnf); first | ((with_reducible apply gLd); apply ldF; (focus (rfl)); (focus (rfl)); (focus (rfl)); (focus ((repeat (first | assumption | exact get_new _ _ | refine get_old ?_ _ | refine get_set ?_ _ | refine get_set_ne ?_ (by first | assumption | (simp <;> omega) | omega) _ | refine prefix_get (by assumption) ?_)); done)); (focus (rfl))) | ((with_reducible apply gSt); first | (apply st_int; (focus (rfl)); (focus (rfl)); (focus (decide)); (focus ((repeat (first | assumption | exact get_new _ _ | refine get_old ?_ _ | refine get_set ?_ _ | refine get_set_ne ?_ (by first | assumption | (simp <;> omega) | omega) _ | refine prefix_get (by assumption) ?_)); done)); (focus (decide))) | (apply st_sl; (focus (rfl)); (focus (rfl)); (focus (decide)); (focus ((repeat (first | assumption | exact get_new _ _ | refine get_old ?_ _ | refine get_set ?_ _ | refine get_set_ne ?_ (by first | assumption | (simp <;> omega) | omega) _ | refine prefix_get (by assumption) ?_)); done)); (focus (decide))) | (apply st_bool; (focus (rfl)); (focus (rfl)); (focus (decide)); (focus ((repeat (first | assumption | exact get_new _ _ | refine get_old ?_ _ | refine get_set ?_ _ | refine get_set_ne ?_ (by first | assumption | (simp <;> omega) | omega) _ | refine prefix_get (by assumption) ?_)); done)); (focus (decide))) | (apply st_ptr; (focus (rfl)); (focus (rfl)); (focus (decide)); (focus ((repeat (first | assumption | exact get_new _ _ | refine get_old ?_ _ | refine get_set ?_ _ | refine get_set_ne ?_ (by first | assumption | (simp <;> omega) | omega) _ | refine prefix_get (by assumption) ?_)); done)); (focus (decide)))) | refine ByPlan.go (by assumption) plan62x2 ord62x2 ?_ | refine ByPlan.go (by assumption) plan62x5 ord62x5 ?_ | refine ByPlan.go (by assumption) plan62x7 ord62x7 ?_ | refine ByPlan.go (by assumption) plan62x8 ord62x8 ?_ | refine ByPlan.go (by assumption) plan62x9 ord62x9 ?_ | refine ByPlan.go (by assumption) plan62x17 ord62x17 ?_ | refine ByPlan.go (by assumption) plan62x19 ord62x19 ?_ | (refine and_true ?_ ?_; (focus ((repeat (first | refine all_skip rfl ?_ | exact rfl | (refine all_cons ?_ ?_; (focus ((conv => lhs; whnf); ((with_reducible apply gLd); apply ldF; (focus (rfl)); (focus (rfl)); (focus (rfl)); (focus ((repeat (first | assumption | exact get_new _ _ | refine get_old ?_ _ | refine get_set ?_ _ | refine get_set_ne ?_ (by first | assumption | (simp <;> omega) | omega) _ | refine prefix_get (by assumption) ?_)); done)); (focus (rfl))); (first | exact cs_int rfl | exact cs_ptr rfl | exact cs_sl rfl | exact cs_str rfl | exact cs_bool rfl | exact cs_map rfl | exact same_int _ _ | exact same_sl _ _ | exact same_str _ | exact same_ptr _ | rfl)))))); done))))
      conv => lhs; whnf
      refine len_spec (by omega) h8.hL.log ?_
      conv => lhs; whnf
      refine and_true ?_ ?_
      · refine all_skip rfl (all_cons ?_ rfl)
        conv => lhs; whnf
        refine ldF (v := .int .i64 (max (v.mat to) x.1.a + 1)) rfl rfl rfl hBz (nxt_at' (v := { v with mat := upd v.mat to (max (v.mat to) x.1.a), next := upd v.next to (max (v.mat to) x.1.a + 1) }) ht (upd_at _ _ _)) ?_
        exact cs_int rfl
      conv => lhs; whnf
      by_cases g3 : len v.log < max (v.mat to) x.1.a + 1
      · refine bif_pos (decide_eq_true (by omega)) ?_
        conv => lhs; whnf
        exact f2.1 g3
      · refine bif_neg (decide_eq_false (by omega)) ?_
        conv => lhs; whnf
        refine f2.2 (by omega) _ fun w' σ' kk => ?_
        conv => lhs; whnf
        refine bs38 (x := (Go.Raft.adds { v with mat := upd v.mat to (max (v.mat to) x.1.a), next := upd v.next to (max (v.mat to) x.1.a + 1) } to, w')) ?_
        conv => lhs; whnf
        exact kk
    refine bif_pos (by simpa using g2) ?_
    conv => lhs; whnf
    refine stNode (σ := τ8) (v' := { ({ v with mat := upd v.mat to (max (v.mat to) x.1.a), next := upd v.next to (max (v.mat to) x.1.a + 1) } : NSR) with commit := Go.Raft.reach ({ v with mat := upd v.mat to (max (v.mat to) x.1.a), next := upd v.next to (max (v.mat to) x.1.a + 1) } : NSR) }) (bx' := bx) (BL' := BL) rfl rfl (by decide) rfl hB8 rfl ?_
    have h9 := h8.set (v' := { ({ v with mat := upd v.mat to (max (v.mat to) x.1.a), next := upd v.next to (max (v.mat to) x.1.a + 1) } : NSR) with commit := Go.Raft.reach ({ v with mat := upd v.mat to (max (v.mat to) x.1.a), next := upd v.next to (max (v.mat to) x.1.a + 1) } : NSR) }) (bx' := bx) rfl fun hr => ⟨hr, rfl, rfl⟩
    have s9 : Stq (fpN B BL o b m v.role) (fpN B BL o b m v.role) σ (τ8.set B (AO.cells (nc { ({ v with mat := upd v.mat to (max (v.mat to) x.1.a), next := upd v.next to (max (v.mat to) x.1.a + 1) } : NSR) with commit := Go.Raft.reach ({ v with mat := upd v.mat to (max (v.mat to) x.1.a), next := upd v.next to (max (v.mat to) x.1.a + 1) } : NSR) } BL bx) 15 .own)) := s8.trans (Stq.set (.inl rfl) hB8 (by decide))
    have f2 := fin2 { ({ v with mat := upd v.mat to (max (v.mat to) x.1.a), next := upd v.next to (max (v.mat to) x.1.a + 1) } : NSR) with commit := Go.Raft.reach ({ v with mat := upd v.mat to (max (v.mat to) x.1.a), next := upd v.next to (max (v.mat to) x.1.a + 1) } : NSR) } (by unfold Go.Raft.commits; rw [if_pos ⟨g1, g2⟩]) _ s9 h9
    generalize τ8.set B (AO.cells (nc { ({ v with mat := upd v.mat to (max (v.mat to) x.1.a), next := upd v.next to (max (v.mat to) x.1.a + 1) } : NSR) with commit := Go.Raft.reach ({ v with mat := upd v.mat to (max (v.mat to) x.1.a), next := upd v.next to (max (v.mat to) x.1.a + 1) } : NSR) } BL bx) 15 .own) = τ9 at h9 s9 f2 ⊢
    have hBz := h9.hB
    conv => lhs; whnf
    refine hD.go plan62x19 ord62x19 ?_
    conv => lhs; whnf
    refine idxArr' hto ht (by show 0 + 9 + to < 15; omega) ?_
    conv => lhs; whnf
    refine ldF (v := .int .i64 (max (v.mat to) x.1.a + 1)) rfl rfl rfl hBz (nxt_at' (v := { ({ v with mat := upd v.mat to (max (v.mat to) x.1.a), next := upd v.next to (max (v.mat to) x.1.a + 1) } : NSR) with commit := Go.Raft.reach ({ v with mat := upd v.mat to (max (v.mat to) x.1.a), next := upd v.next to (max (v.mat to) x.1.a + 1) } : NSR) }) ht (upd_at _ _ _)) ?_
    repeat ((conv => lhs; whnf); first | ((with_reducible apply gLd); apply ldF; (focus (rfl)); (focus (rfl)); (focus (rfl)); (focus ((repeat (first | assumption | exact get_new _ _ | refine get_old ?_ _ | refine get_set ?_ _ | refine get_set_ne ?_ (by first | assumption | (simp <;> omega) | omega) _ | refine prefix_get (by assumption) ?_)); done)); (focus (rfl))) | ((with_reducible apply gSt); first | (apply st_int; (focus (rfl)); (focus (rfl)); (focus (decide)); (focus ((repeat (first | assumption | exact get_new _ _ | refine get_old ?_ _ | refine get_set ?_ _ | refine get_set_ne ?_ (by first | assumption | (simp <;> omega) | omega) _ | refine prefix_get (by assumption) ?_)); done)); (focus (decide))) | (apply st_sl; (focus (rfl)); (focus (rfl)); (focus (decide)); (focus ((repeat (first | assumption | exact get_new _ _ | refine get_old ?_ _ | refine get_set ?_ _ | refine get_set_ne ?_ (by first | assumption | (simp <;> omega) | omega) _ | refine prefix_get (by assumption) ?_)); done)); (focus (decide))) | (apply st_bool; (focus (rfl)); (focus (rfl)); (focus (decide)); (focus ((repeat (first | assumption | exact get_new _ _ | refine get_old ?_ _ | refine get_set ?_ _ | refine get_set_ne ?_ (by first | assumption | (simp <;> omega) | omega) _ | refine prefix_get (by assumption) ?_)); done)); (focus (decide))) | (apply st_ptr; (focus (rfl)); (focus (rfl)); (focus (decide)); (focus ((repeat (first | assumption | exact get_new _ _ | refine get_old ?_ _ | refine get_set ?_ _ | refine get_set_ne ?_ (by first | assumption | (simp <;> omega) | omega) _ | refine prefix_get (by assumption) ?_)); done)); (focus (decide)))) | refine ByPlan.go (by assumption) plan62x2 ord62x2 ?_ | refine ByPlan.go (by assumption) plan62x5 ord62x5 ?_ | refine ByPlan.go (by assumption) plan62x7 ord62x7 ?_ | refine ByPlan.go (by assumption) plan62x8 ord62x8 ?_ | refine ByPlan.go (by assumption) plan62x9 ord62x9 ?_ | refine ByPlan.go (by assumption) plan62x17 ord62x17 ?_ | refine ByPlan.go (by assumption) plan62x19 ord62x19 ?_ | (refine and_true ?_ ?_; (focus ((repeat (first | refine all_skip rfl ?_ | exact rfl | (refine all_cons ?_ ?_; (focus ((conv => lhs; whnf); ((with_reducible apply gLd); apply ldF; (focus (rfl)); (focus (rfl)); (focus (rfl)); (focus ((repeat (first | assumption | exact get_new _ _ | refine get_old ?_ _ | refine get_set ?_ _ | refine get_set_ne ?_ (by first | assumption | (simp <;> omega) | omega) _ | refine prefix_get (by assumption) ?_)); done)); (focus (rfl))); (first | exact cs_int rfl | exact cs_ptr rfl | exact cs_sl rfl | exact cs_str rfl | exact cs_bool rfl | exact cs_map rfl | exact same_int _ _ | exact same_sl _ _ | exact same_str _ | exact same_ptr _ | rfl)))))); done))))
    conv => lhs; whnf
    refine len_spec (by omega) h9.hL.log ?_
    conv => lhs; whnf
    refine and_true ?_ ?_
    · refine all_skip rfl (all_cons ?_ rfl)
      conv => lhs; whnf
      refine ldF (v := .int .i64 (max (v.mat to) x.1.a + 1)) rfl rfl rfl hBz (nxt_at' (v := { ({ v with mat := upd v.mat to (max (v.mat to) x.1.a), next := upd v.next to (max (v.mat to) x.1.a + 1) } : NSR) with commit := Go.Raft.reach ({ v with mat := upd v.mat to (max (v.mat to) x.1.a), next := upd v.next to (max (v.mat to) x.1.a + 1) } : NSR) }) ht (upd_at _ _ _)) ?_
      exact cs_int rfl
    conv => lhs; whnf
    by_cases g3 : len v.log < max (v.mat to) x.1.a + 1
    · refine bif_pos (decide_eq_true (by omega)) ?_
      conv => lhs; whnf
      exact f2.1 g3
    · refine bif_neg (decide_eq_false (by omega)) ?_
      conv => lhs; whnf
      refine f2.2 (by omega) _ fun w' σ' kk => ?_
      conv => lhs; whnf
      refine bs38 (x := (Go.Raft.adds { ({ v with mat := upd v.mat to (max (v.mat to) x.1.a), next := upd v.next to (max (v.mat to) x.1.a + 1) } : NSR) with commit := Go.Raft.reach ({ v with mat := upd v.mat to (max (v.mat to) x.1.a), next := upd v.next to (max (v.mat to) x.1.a + 1) } : NSR) } to, w')) ?_
      conv => lhs; whnf
      exact kk
  · refine bif_neg (decide_eq_false (by omega)) ?_
    have eM : { v with mat := upd v.mat to (max (v.mat to) x.1.a) } = v := by rw [show max (v.mat to) x.1.a = v.mat to by omega, upd_self]
    have h2 : NVx (σ ++ [AO.cells (lc x) 9 .own]) B BL o w V bx b m { v with mat := upd v.mat to (max (v.mat to) x.1.a) } := by rw [eM]; exact h1
    have s2 : Stq (fpN B BL o b m v.role) (fpN B BL o b m v.role) σ (σ ++ [AO.cells (lc x) 9 .own]) := Stq.pre _ pa
    have hB2 := h2.hB
    conv => lhs; whnf
    refine hD.go plan62x9 ord62x9 ?_
    conv => lhs; whnf
    refine idxArr' hto ht (by show 0 + 12 + to < 15; omega) ?_
    conv => lhs; whnf
    refine ldF (v := .int .i64 (max (v.mat to) x.1.a)) rfl rfl rfl hB2 (mat_at' (v := { v with mat := upd v.mat to (max (v.mat to) x.1.a) }) ht (upd_at _ _ _)) ?_
    conv => lhs; whnf
    refine idxArr' hto ht (by show 0 + 9 + to < 15; omega) ?_
    conv => lhs; whnf
    refine stNode (σ := (σ ++ [AO.cells (lc x) 9 .own])) (v' := { v with mat := upd v.mat to (max (v.mat to) x.1.a), next := upd v.next to (max (v.mat to) x.1.a + 1) }) (bx' := bx) (BL' := BL) rfl rfl (by show 0 + 9 + to * 1 + 1 ≤ 15; omega) rfl hB2 (nxt_he' (v := { v with mat := upd v.mat to (max (v.mat to) x.1.a) }) ht (wrap_i64 (by omega) (by omega))) ?_
    have h3 := h2.set (v' := { v with mat := upd v.mat to (max (v.mat to) x.1.a), next := upd v.next to (max (v.mat to) x.1.a + 1) }) (bx' := bx) rfl fun hr => ⟨hr, rfl, rfl⟩
    have s3 : Stq (fpN B BL o b m v.role) (fpN B BL o b m v.role) σ ((σ ++ [AO.cells (lc x) 9 .own]).set B (AO.cells (nc { v with mat := upd v.mat to (max (v.mat to) x.1.a), next := upd v.next to (max (v.mat to) x.1.a + 1) } BL bx) 15 .own)) := s2.trans (Stq.set (.inl rfl) hB2 (by decide))
    generalize (σ ++ [AO.cells (lc x) 9 .own]).set B (AO.cells (nc { v with mat := upd v.mat to (max (v.mat to) x.1.a), next := upd v.next to (max (v.mat to) x.1.a + 1) } BL bx) 15 .own) = τ3 at h3 s3 ⊢
    clear h2 s2 hB2
    have hB3 := h3.hB
    repeat ((conv => lhs; whnf); first | ((with_reducible apply gLd); apply ldF; (focus (rfl)); (focus (rfl)); (focus (rfl)); (focus ((repeat (first | assumption | exact get_new _ _ | refine get_old ?_ _ | refine get_set ?_ _ | refine get_set_ne ?_ (by first | assumption | (simp <;> omega) | omega) _ | refine prefix_get (by assumption) ?_)); done)); (focus (rfl))) | ((with_reducible apply gSt); first | (apply st_int; (focus (rfl)); (focus (rfl)); (focus (decide)); (focus ((repeat (first | assumption | exact get_new _ _ | refine get_old ?_ _ | refine get_set ?_ _ | refine get_set_ne ?_ (by first | assumption | (simp <;> omega) | omega) _ | refine prefix_get (by assumption) ?_)); done)); (focus (decide))) | (apply st_sl; (focus (rfl)); (focus (rfl)); (focus (decide)); (focus ((repeat (first | assumption | exact get_new _ _ | refine get_old ?_ _ | refine get_set ?_ _ | refine get_set_ne ?_ (by first | assumption | (simp <;> omega) | omega) _ | refine prefix_get (by assumption) ?_)); done)); (focus (decide))) | (apply st_bool; (focus (rfl)); (focus (rfl)); (focus (decide)); (focus ((repeat (first | assumption | exact get_new _ _ | refine get_old ?_ _ | refine get_set ?_ _ | refine get_set_ne ?_ (by first | assumption | (simp <;> omega) | omega) _ | refine prefix_get (by assumption) ?_)); done)); (focus (decide))) | (apply st_ptr; (focus (rfl)); (focus (rfl)); (focus (decide)); (focus ((repeat (first | assumption | exact get_new _ _ | refine get_old ?_ _ | refine get_set ?_ _ | refine get_set_ne ?_ (by first | assumption | (simp <;> omega) | omega) _ | refine prefix_get (by assumption) ?_)); done)); (focus (decide)))) | refine ByPlan.go (by assumption) plan62x2 ord62x2 ?_ | refine ByPlan.go (by assumption) plan62x5 ord62x5 ?_ | refine ByPlan.go (by assumption) plan62x7 ord62x7 ?_ | refine ByPlan.go (by assumption) plan62x8 ord62x8 ?_ | refine ByPlan.go (by assumption) plan62x9 ord62x9 ?_ | refine ByPlan.go (by assumption) plan62x17 ord62x17 ?_ | refine ByPlan.go (by assumption) plan62x19 ord62x19 ?_ | (refine and_true ?_ ?_; (focus ((repeat (first | refine all_skip rfl ?_ | exact rfl | (refine all_cons ?_ ?_; (focus ((conv => lhs; whnf); ((with_reducible apply gLd); apply ldF; (focus (rfl)); (focus (rfl)); (focus (rfl)); (focus ((repeat (first | assumption | exact get_new _ _ | refine get_old ?_ _ | refine get_set ?_ _ | refine get_set_ne ?_ (by first | assumption | (simp <;> omega) | omega) _ | refine prefix_get (by assumption) ?_)); done)); (focus (rfl))); (first | exact cs_int rfl | exact cs_ptr rfl | exact cs_sl rfl | exact cs_str rfl | exact cs_bool rfl | exact cs_map rfl | exact same_int _ _ | exact same_sl _ _ | exact same_str _ | exact same_ptr _ | rfl)))))); done))))
    conv => lhs; whnf
    refine len_spec (by omega) h3.hL.log ?_
    conv => lhs; whnf
    refine bs22 ?_
    have p4 := List.prefix_append τ3 [AO.cells [AV.int .i64 (V.length : Int)] 1 .own]
    have o4 : Own τ3 (τ3 ++ [AO.cells [AV.int .i64 (V.length : Int)] 1 .own]) 1 (some τ3.length) (.at τ3.length 0 1) 1 (iks .i64 [(V.length : Int)]) := Own.new (List.prefix_refl _) _ _ (by decide) rfl
    conv => lhs; whnf
    refine others_spec (v := { v with mat := upd v.mat to (max (v.mat to) x.1.a), next := upd v.next to (max (v.mat to) x.1.a + 1) }) (by omega) (prefix_get p4 hB3) ok.me fun w5 τ5 p5 r5 => ?_
    have o5 := o4.mono p5
    have hol := oth_len v.me 3
    conv => lhs; whnf
    refine loop_rule (m := 277298568799925181577403826273) (fun q fr τ => ∃ (z : Int) (k : Nat) (oo : Option Nat) (wr : AM.SA), z = (k : Int) ∧ k + q = (oth v.me 3).length ∧ τ3 <+: τ ∧ Own τ3 τ 1 oo wr (k + 1) (iks .i64 ((V.length : Int) :: ((oth v.me 3).take k).map fun y => ({ v with mat := upd v.mat to (max (v.mat to) x.1.a), next := upd v.next to (max (v.mat to) x.1.a + 1) } : NSR).mat y.toNat)) ∧ Rw τ 1 w5 (oth v.me 3).length (iks .i64 (oth v.me 3)) ∧
        fr = [.ptr (some ⟨B, 0, 0, 15⟩), .bad, .bad, .bad, .bad, .int .i64 x.1.src, .sl wr (k + 1), .bad, .bad, .bad, .bad, .bad, .bad, .bad, .bad, .bad, .bad, .bad, .bad, .bad, .bad, .bad, .bad, .bad, .bad, .bad, .bad, .bad, .bad, .bad, .bad, .bad, .bad, .bad, .bad, .bad, .bad, .bad, .bad, .bad, .bad, .bad, .bad, .bad, .bad, .bad, .bad, .bad, .bad, .bad, .bad, .bad, .bad, .bad, .bad, .bad, .bad, .bad, .bad, .bad, .bad, .bad, .bad, .bad, .bad, .bad, .bad, .bad, .bad, .bad, .bad, .bad, .bad, .bad, .bad, .bad, .bad, .bad, .bad, .bad, .bad, .bad, .bad, .bad, .bad, .bad, .bad, .bad, .bad, .bad, .bad, .bad, .bad, .bad, .bad, .sl w5 (oth v.me 3).length, .int .i64 ((oth v.me 3).length : Int), .int .i64 z, .bad, .bad, .bad, .bad, .bad, .bad, .bad, .bad, .bad, .bad, .bad, .bad, .bad, .bad, .bad, .bad, .bad, .bad, .bad, .bad, .bad, .bad, .bad, .bad, .bad, .bad, .bad, .bad, .bad, .bad, .bad, .bad, .bad, .bad, .bad, .bad, .bad, .bad, .bad, .bad, .bad, .bad, .bad, .bad, .bad, .bad, .bad, .bad, .bad, .bad, .bad, .bad, .bad, .bad]) ?_ _ (oth v.me 3).length _ _ (by omega)
        ⟨_, 0, _, _, rfl, Nat.zero_add _, List.IsPrefix.trans p4 p5, o5, r5, rfl⟩
    clear o4 o5 r5 p4 p5
    rintro q fr τ C ⟨z, k, oo, wr, rfl, hq, p6, o6, r6, rfl⟩ next fin
    conv => lhs; whnf
    by_cases hk : k < (oth v.me 3).length
    case pos =>
      refine bif_pos (by simpa using hk) ?_
      obtain ⟨t2, f1, f2, f3⟩ := oth_get hk
      conv => lhs; whnf
      refine it44.idx r6 rfl hk fun p hE => ?_
      conv => lhs; whnf
      refine it44.ld hE ?_
      rw [f1]
      conv => lhs; whnf
      refine idxArr f2 (by show 0 + 12 + t2 < 15; omega) ?_
      conv => lhs; whnf
      refine ldF (v := .int .i64 (({ v with mat := upd v.mat to (max (v.mat to) x.1.a), next := upd v.next to (max (v.mat to) x.1.a + 1) } : NSR).mat t2)) rfl rfl rfl (prefix_get p6 hB3) (mat_at (v := { v with mat := upd v.mat to (max (v.mat to) x.1.a), next := upd v.next to (max (v.mat to) x.1.a + 1) }) f2) ?_
      conv => lhs; whnf
      refine bs22 ?_
      conv => lhs; whnf
      refine appendK_ext Tryz.underlying22 rfl rfl rfl (prefix_add p6 _) (o := oo) (o6.mono (List.prefix_append _ _)) (Rw.new _ _ rfl) (N := k + 1 + 1) (zs := iks .i64 ((V.length : Int) :: ((oth v.me 3).take (k + 1)).map fun y => ({ v with mat := upd v.mat to (max (v.mat to) x.1.a), next := upd v.next to (max (v.mat to) x.1.a + 1) } : NSR).mat y.toNat)) rfl ?_ ?_ fun o7 a7 τ7 p7 _ _ _ x7 w7 => ?_
      · rw [List.take_succ_eq_append_getElem hk, List.map_append, f1]; simp [iks]
      · show (k + 1 + 1) * 8 ≤ _; omega
      conv => lhs; whnf
      exact next (q - 1) _ _ (by omega) ⟨_, k + 1, o7, a7, inc_i64 (by omega), by omega, p7, w7, Rw.ext (r6.mono (List.prefix_append _ _)) x7, rfl⟩
    refine bif_neg (by simpa using hk) ?_
    have hke : k = (oth v.me 3).length := by omega
    conv => lhs; whnf
    refine fin _ _ _ nofun ?_
    clear next fin
    have hzs : (V.length : Int) :: ((oth v.me 3).take k).map (fun y => ({ v with mat := upd v.mat to (max (v.mat to) x.1.a), next := upd v.next to (max (v.mat to) x.1.a + 1) } : NSR).mat y.toNat) = [len v.log, ({ v with mat := upd v.mat to (max (v.mat to) x.1.a), next := upd v.next to (max (v.mat to) x.1.a + 1) } : NSR).mat oi, ({ v with mat := upd v.mat to (max (v.mat to) x.1.a), next := upd v.next to (max (v.mat to) x.1.a + 1) } : NSR).mat oj] := by
      rw [hke, List.take_of_length_le (Nat.le_refl _), hoth, hlen]; simp
    have hk2 : k + 1 = [len v.log, ({ v with mat := upd v.mat to (max (v.mat to) x.1.a), next := upd v.next to (max (v.mat to) x.1.a + 1) } : NSR).mat oi, ({ v with mat := upd v.mat to (max (v.mat to) x.1.a), next := upd v.next to (max (v.mat to) x.1.a + 1) } : NSR).mat oj].length := by rw [hke, hoth]; rfl
    rw [hzs] at o6
    have o6r := o6.rw
    rw [hk2] at o6r ⊢
    conv => lhs; whnf
    refine median_spec (by omega) (by show 3 ≤ 1000; decide) o6r fun τ8 p8 => ?_
    rw [med3]
    have h8 := (h3.mono p6).mono p8
    have hB8 := h8.hB
    have s8 := s3.trans (Stq.pre (fpN B BL o b m v.role) (List.IsPrefix.trans p6 p8))
    have hreach : Go.Raft.reach ({ v with mat := upd v.mat to (max (v.mat to) x.1.a), next := upd v.next to (max (v.mat to) x.1.a + 1) } : NSR) = Go.Raft.median3 (len v.log) (({ v with mat := upd v.mat to (max (v.mat to) x.1.a), next := upd v.next to (max (v.mat to) x.1.a + 1) } : NSR).mat oi) (({ v with mat := upd v.mat to (max (v.mat to) x.1.a), next := upd v.next to (max (v.mat to) x.1.a + 1) } : NSR).mat oj) := by unfold Go.Raft.reach; rw [hothers]
    rw [← hreach]
    have fin2 : ∀ vC : NSR, vC = Go.Raft.commits ({ v with mat := upd v.mat to (max (v.mat to) x.1.a), next := upd v.next to (max (v.mat to) x.1.a + 1) } : NSR) → ∀ τ9, Stq (fpN B BL o b m v.role) (fpN B BL o b m v.role) σ τ9 → NVx τ9 B BL o w V bx b m vC → (len v.log < max (v.mat to) x.1.a + 1 → K (.sl .nil 0) τ9 = true) ∧ (max (v.mat to) x.1.a + 1 ≤ len v.log → ∀ KK : AV → H → Bool, (∀ w' σ', (K (.sl (.at σ'.length 0 9) 1) (σ' ++ [AO.cells (lc (Go.Raft.adds vC to, w')) 9 .own]) = true) → KK (.agg (lc (Go.Raft.adds vC to, w'))) σ' = true) → acall Tryz.prog tab D n 100 [.ptr (some ⟨B, 0, 0, 15⟩), .int .i64 x.1.src] τ9 KK = true) := fun vC eC τ9 s9 h9 => by
      have nC : vC.next to = max (v.mat to) x.1.a + 1 := by rw [eC]; unfold Go.Raft.commits; split <;> exact upd_at _ _ _
      have lC : vC.log = v.log := by rw [eC]; unfold Go.Raft.commits; split <;> rfl
      have rC : vC.role = v.role := by rw [eC]; unfold Go.Raft.commits; split <;> rfl
      have e : Go.Raft.has v x.1 = (vC, if len v.log < max (v.mat to) x.1.a + 1 then [] else [Go.Raft.adds vC to]) := by
        unfold Go.Raft.has
        rw [if_neg (fun c => c.elim (fun c => c r3) (fun c => absurd c.2 ca)), if_neg (by rw [hy]; decide), tN]
        show (Go.Raft.commits ({ v with mat := upd v.mat to (max (v.mat to) x.1.a), next := upd v.next to (max (v.mat to) x.1.a + 1) } : NSR), if len (Go.Raft.commits ({ v with mat := upd v.mat to (max (v.mat to) x.1.a), next := upd v.next to (max (v.mat to) x.1.a + 1) } : NSR)).log < (Go.Raft.commits ({ v with mat := upd v.mat to (max (v.mat to) x.1.a), next := upd v.next to (max (v.mat to) x.1.a + 1) } : NSR)).next to then [] else [Go.Raft.adds (Go.Raft.commits ({ v with mat := upd v.mat to (max (v.mat to) x.1.a), next := upd v.next to (max (v.mat to) x.1.a + 1) } : NSR)) to]) = _
        rw [← eC, lC, nC]
      refine ⟨fun c => ?_, fun c KK hKK => ?_⟩
      · rw [if_pos c] at e
        exact hK _ none .nil [] τ9 (by rw [e]; exact Post.nil s9 ⟨BL, o, w, V, bx, b, m, h9, by rw [rC]⟩) (by rw [e]; rfl)
      · rw [if_neg (by omega)] at e
        refine adds_one (v := vC) (F := (fpN B BL o b m v.role)) (by omega) hD (by rw [rC]; exact s9) h9 (by rw [eC]; exact okN.commits) ht hto fun w' σ' i p => hKK w' σ' ?_
        exact hK _ _ _ [(Go.Raft.adds vC to, w')] _ (by rw [e]; exact p rfl) (by rw [e]; rfl)
    have hmt : (Go.Raft.reach ({ v with mat := upd v.mat to (max (v.mat to) x.1.a), next := upd v.next to (max (v.mat to) x.1.a + 1) } : NSR)) ≤ 2000 := by
      rw [hreach]
      rcases Go.Raft.median_two (x := Go.Raft.median3 (len v.log) (({ v with mat := upd v.mat to (max (v.mat to) x.1.a), next := upd v.next to (max (v.mat to) x.1.a + 1) } : NSR).mat oi) (({ v with mat := upd v.mat to (max (v.mat to) x.1.a), next := upd v.next to (max (v.mat to) x.1.a + 1) } : NSR).mat oj)) (Int.le_refl _) with c | c | c
      · exact Int.le_trans c.1 hll
      · exact Int.le_trans c.1 hll
      · have := (okN.mt oj hoj).2
        exact Int.le_trans c.2 this
    repeat ((conv => lhs; whnf); first | ((with_reducible apply gLd); apply ldF; (focus (rfl)); (focus (rfl)); (focus (rfl)); (focus ((repeat (first | assumption | exact get_new _ _ | refine get_old ?_ _ | refine get_set ?_ _ | refine get_set_ne ?_ (by first | assumption | (simp <;> omega) | omega) _ | refine prefix_get (by assumption) ?_)); done)); (focus (rfl))) | ((with_reducible apply gSt); first | (apply st_int; (focus (rfl)); (focus (rfl)); (focus (decide)); (focus ((repeat (first | assumption | exact get_new _ _ | refine get_old ?_ _ | refine get_set ?_ _ | refine get_set_ne ?_ (by first | assumption | (simp <;> omega) | omega) _ | refine prefix_get (by assumption) ?_)); done)); (focus (decide))) | (apply st_sl; (focus (rfl)); (focus (rfl)); (focus (decide)); (focus ((repeat (first | assumption | exact get_new _ _ | refine get_old ?_ _ | refine get_set ?_ _ | refine get_set_ne ?_ (by first | assumption | (simp <;> omega) | omega) _ | refine prefix_get (by assumption) ?_)); done)); (focus (decide))) | (apply st_bool; (focus (rfl)); (focus (rfl)); (focus (decide)); (focus ((repeat (first | assumption | exact get_new _ _ | refine get_old ?_ _ | refine get_set ?_ _ | refine get_set_ne ?_ (by first | assumption | (simp <;> omega) | omega) _ | refine prefix_get (by assumption) ?_)); done)); (focus (decide))) | (apply st_ptr; (focus (rfl)); (focus (rfl)); (focus (decide)); (focus ((repeat (first | assumption | exact get_new _ _ | refine get_old ?_ _ | refine get_set ?_ _ | refine get_set_ne ?_ (by first | assumption | (simp <;> omega) | omega) _ | refine prefix_get (by assumption) ?_)); done)); (focus (decide)))) | refine ByPlan.go (by assumption) plan62x2 ord62x2 ?_ | refine ByPlan.go (by assumption) plan62x5 ord62x5 ?_ | refine ByPlan.go (by assumption) plan62x7 ord62x7 ?_ | refine ByPlan.go (by assumption) plan62x8 ord62x8 ?_ | refine ByPlan.go (by assumption) plan62x9 ord62x9 ?_ | refine ByPlan.go (by assumption) plan62x17 ord62x17 ?_ | refine ByPlan.go (by assumption) plan62x19 ord62x19 ?_ | (refine and_true ?_ ?_; (focus ((repeat (first | refine all_skip rfl ?_ | exact rfl | (refine all_cons ?_ ?_; (focus ((conv => lhs; whnf); ((with_reducible apply gLd); apply ldF; (focus (rfl)); (focus (rfl)); (focus (rfl)); (focus ((repeat (first | assumption | exact get_new _ _ | refine get_old ?_ _ | refine get_set ?_ _ | refine get_set_ne ?_ (by first | assumption | (simp <;> omega) | omega) _ | refine prefix_get (by assumption) ?_)); done)); (focus (rfl))); (first | exact cs_int rfl | exact cs_ptr rfl | exact cs_sl rfl | exact cs_str rfl | exact cs_bool rfl | exact cs_map rfl | exact same_int _ _ | exact same_sl _ _ | exact same_str _ | exact same_ptr _ | rfl)))))); done))))
    conv => lhs; whnf
    by_cases g1 : v.commit < Go.Raft.reach ({ v with mat := upd v.mat to (max (v.mat to) x.1.a), next := upd v.next to (max (v.mat to) x.1.a + 1) } : NSR)
    case neg =>
      refine bif_neg (decide_eq_false (by omega)) ?_
      have f2 := fin2 { v with mat := upd v.mat to (max (v.mat to) x.1.a), next := upd v.next to (max (v.mat to) x.1.a + 1) } (by unfold Go.Raft.commits; rw [if_neg (fun c => g1 c.1)]) _ s8 h8
      have hBz := h8.hB
      conv => lhs; whnf
      refine hD.go plan62x19 ord62x19 ?_
      conv => lhs; whnf
      refine idxArr' hto ht (by show 0 + 9 + to < 15; omega) ?_
      conv => lhs; whnf
      refine ldF (v := .int .i64 (max (v.mat to) x.1.a + 1)) rfl rfl rfl hBz (nxt_at' (v := { v with mat := upd v.mat to (max (v.mat to) x.1.a), next := upd v.next to (max (v.mat to) x.1.a + 1) }) ht (upd_at _ _ _)) ?_
      repeat ((conv => lhs; whnf); first | ((with_reducible apply gLd); apply ldF; (focus (rfl)); (focus (rfl)); (focus (rfl)); (focus ((repeat (first | assumption | exact get_new _ _ | refine get_old ?_ _ | refine get_set ?_ _ | refine get_set_ne ?_ (by first | assumption | (simp <;> omega) | omega) _ | refine prefix_get (by assumption) ?_)); done)); (focus (rfl))) | ((with_reducible apply gSt); first | (apply st_int; (focus (rfl)); (focus (rfl)); (focus (decide)); (focus ((repeat (first | assumption | exact get_new _ _ | refine get_old ?_ _ | refine get_set ?_ _ | refine get_set_ne ?_ (by first | assumption | (simp <;> omega) | omega) _ | refine prefix_get (by assumption) ?_)); done)); (focus (decide))) | (apply st_sl; (focus (rfl)); (focus (rfl)); (focus (decide)); (focus ((repeat (first | assumption | exact get_new _ _ | refine get_old ?_ _ | refine get_set ?_ _ | refine get_set_ne ?_ (by first | assumption | (simp <;> omega) | omega) _ | refine prefix_get (by assumption) ?_)); done)); (focus (decide))) | (apply st_bool; (focus (rfl)); (focus (rfl)); (focus (decide)); (focus ((repeat (first | assumption | exact get_new _ _ | refine get_old ?_ _ | refine get_set ?_ _ | refine get_set_ne ?_ (by first | assumption | (simp <;> omega) | omega) _ | refine prefix_get (by assumption) ?_)); done)); (focus (decide))) | (apply st_ptr; (focus (rfl)); (focus (rfl)); (focus (decide)); (focus ((repeat (first | assumption | exact get_new _ _ | refine get_old ?_ _ | refine get_set ?_ _ | refine get_set_ne ?_ (by first | assumption | (simp <;> omega) | omega) _ | refine prefix_get (by assumption) ?_)); done)); (focus (decide)))) | refine ByPlan.go (by assumption) plan62x2 ord62x2 ?_ | refine ByPlan.go (by assumption) plan62x5 ord62x5 ?_ | refine ByPlan.go (by assumption) plan62x7 ord62x7 ?_ | refine ByPlan.go (by assumption) plan62x8 ord62x8 ?_ | refine ByPlan.go (by assumption) plan62x9 ord62x9 ?_ | refine ByPlan.go (by assumption) plan62x17 ord62x17 ?_ | refine ByPlan.go (by assumption) plan62x19 ord62x19 ?_ | (refine and_true ?_ ?_; (focus ((repeat (first | refine all_skip rfl ?_ | exact rfl | (refine all_cons ?_ ?_; (focus ((conv => lhs; whnf); ((with_reducible apply gLd); apply ldF; (focus (rfl)); (focus (rfl)); (focus (rfl)); (focus ((repeat (first | assumption | exact get_new _ _ | refine get_old ?_ _ | refine get_set ?_ _ | refine get_set_ne ?_ (by first | assumption | (simp <;> omega) | omega) _ | refine prefix_get (by assumption) ?_)); done)); (focus (rfl))); (first | exact cs_int rfl | exact cs_ptr rfl | exact cs_sl rfl | exact cs_str rfl | exact cs_bool rfl | exact cs_map rfl | exact same_int _ _ | exact same_sl _ _ | exact same_str _ | exact same_ptr _ | rfl)))))); done))))
      conv => lhs; whnf
      refine len_spec (by omega) h8.hL.log ?_
      conv => lhs; whnf
      refine and_true ?_ ?_
      · refine all_skip rfl (all_cons ?_ rfl)
        conv => lhs; whnf
        refine ldF (v := .int .i64 (max (v.mat to) x.1.a + 1)) rfl rfl rfl hBz (nxt_at' (v := { v with mat := upd v.mat to (max (v.mat to) x.1.a), next := upd v.next to (max (v.mat to) x.1.a + 1) }) ht (upd_at _ _ _)) ?_
        exact cs_int rfl
      conv => lhs; whnf
      by_cases g3 : len v.log < max (v.mat to) x.1.a + 1
      · refine bif_pos (decide_eq_true (by omega)) ?_
        conv => lhs; whnf
        exact f2.1 g3
      · refine bif_neg (decide_eq_false (by omega)) ?_
        conv => lhs; whnf
        refine f2.2 (by omega) _ fun w' σ' kk => ?_
        conv => lhs; whnf
        refine bs38 (x := (Go.Raft.adds { v with mat := upd v.mat to (max (v.mat to) x.1.a), next := upd v.next to (max (v.mat to) x.1.a + 1) } to, w')) ?_
        conv => lhs; whnf
        exact kk
    refine bif_pos (decide_eq_true (by omega)) ?_
    repeat ((conv => lhs; whnf); first | ((with_reducible apply gLd); apply ldF; (focus (rfl)); (focus (rfl)); (focus (rfl)); (focus ((repeat (first | assumption | exact get_new _ _ | refine get_old ?_ _ | refine get_set ?_ _ | refine get_set_ne ?_ (by first | assumption | (simp <;> omega) | omega) _ | refine prefix_get (by assumption) ?_)); done)); (focus (rfl))) | ((with_reducible apply gSt); first | (apply st_int; (focus (rfl)); (focus (rfl)); (focus (decide)); (focus ((repeat (first | assumption | exact get_new _ _ | refine get_old ?_ _ | refine get_set ?_ _ | refine get_set_ne ?_ (by first | assumption | (simp <;> omega) | omega) _ | refine prefix_get (by assumption) ?_)); done)); (focus (decide))) | (apply st_sl; (focus (rfl)); (focus (rfl)); (focus (decide)); (focus ((repeat (first | assumption | exact get_new _ _ | refine get_old ?_ _ | refine get_set ?_ _ | refine get_set_ne ?_ (by first | assumption | (simp <;> omega) | omega) _ | refine prefix_get (by assumption) ?_)); done)); (focus (decide))) | (apply st_bool; (focus (rfl)); (focus (rfl)); (focus (decide)); (focus ((repeat (first | assumption | exact get_new _ _ | refine get_old ?_ _ | refine get_set ?_ _ | refine get_set_ne ?_ (by first | assumption | (simp <;> omega) | omega) _ | refine prefix_get (by assumption) ?_)); done)); (focus (decide))) | (apply st_ptr; (focus (rfl)); (focus (rfl)); (focus (decide)); (focus ((repeat (first | assumption | exact get_new _ _ | refine get_old ?_ _ | refine get_set ?_ _ | refine get_set_ne ?_ (by first | assumption | (simp <;> omega) | omega) _ | refine prefix_get (by assumption) ?_)); done)); (focus (decide)))) | refine ByPlan.go (by assumption) plan62x2 ord62x2 ?_ | refine ByPlan.go (by assumption) plan62x5 ord62x5 ?_ | refine ByPlan.go (by assumption) plan62x7 ord62x7 ?_ | refine ByPlan.go (by assumption) plan62x8 ord62x8 ?_ | refine ByPlan.go (by assumption) plan62x9 ord62x9 ?_ | refine ByPlan.go (by assumption) plan62x17 ord62x17 ?_ | refine ByPlan.go (by assumption) plan62x19 ord62x19 ?_ | (refine and_true ?_ ?_; (focus ((repeat (first | refine all_skip rfl ?_ | exact rfl | (refine all_cons ?_ ?_; (focus ((conv => lhs; whnf); ((with_reducible apply gLd); apply ldF; (focus (rfl)); (focus (rfl)); (focus (rfl)); (focus ((repeat (first | assumption | exact get_new _ _ | refine get_old ?_ _ | refine get_set ?_ _ | refine get_set_ne ?_ (by first | assumption | (simp <;> omega) | omega) _ | refine prefix_get (by assumption) ?_)); done)); (focus (rfl))); (first | exact cs_int rfl | exact cs_ptr rfl | exact cs_sl rfl | exact cs_str rfl | exact cs_bool rfl | exact cs_map rfl | exact same_int _ _ | exact same_sl _ _ | exact same_str _ | exact same_ptr _ | rfl)))))); done))))
    conv => lhs; whnf
    refine termA_spec (by omega) (by omega) h8.hL.log ?_
    rw [h8.hV]
    repeat ((conv => lhs; whnf); first | ((with_reducible apply gLd); apply ldF; (focus (rfl)); (focus (rfl)); (focus (rfl)); (focus ((repeat (first | assumption | exact get_new _ _ | refine get_old ?_ _ | refine get_set ?_ _ | refine get_set_ne ?_ (by first | assumption | (simp <;> omega) | omega) _ | refine prefix_get (by assumption) ?_)); done)); (focus (rfl))) | ((with_reducible apply gSt); first | (apply st_int; (focus (rfl)); (focus (rfl)); (focus (decide)); (focus ((repeat (first | assumption | exact get_new _ _ | refine get_old ?_ _ | refine get_set ?_ _ | refine get_set_ne ?_ (by first | assumption | (simp <;> omega) | omega) _ | refine prefix_get (by assumption) ?_)); done)); (focus (decide))) | (apply st_sl; (focus (rfl)); (focus (rfl)); (focus (decide)); (focus ((repeat (first | assumption | exact get_new _ _ | refine get_old ?_ _ | refine get_set ?_ _ | refine get_set_ne ?_ (by first | assumption | (simp <;> omega) | omega) _ | refine prefix_get (by assumption) ?_)); done)); (focus (decide))) | (apply st_bool; (focus (rfl)); (focus (rfl)); (focus (decide)); (focus ((repeat (first | assumption | exact get_new _ _ | refine get_old ?_ _ | refine get_set ?_ _ | refine get_set_ne ?_ (by first | assumption | (simp <;> omega) | omega) _ | refine prefix_get (by assumption) ?_)); done)); (focus (decide))) | (apply st_ptr; (focus (rfl)); (focus (rfl)); (focus (decide)); (focus ((repeat (first | assumption | exact get_new _ _ | refine get_old ?_ _ | refine get_set ?_ _ | refine get_set_ne ?_ (by first | assumption | (simp <;> omega) | omega) _ | refine prefix_get (by assumption) ?_)); done)); (focus (decide)))) | refine ByPlan.go (by assumption) plan62x2 ord62x2 ?_ | refine ByPlan.go (by assumption) plan62x5 ord62x5 ?_ | refine ByPlan.go (by assumption) plan62x7 ord62x7 ?_ | refine ByPlan.go (by assumption) plan62x8 ord62x8 ?_ | refine ByPlan.go (by assumption) plan62x9 ord62x9 ?_ | refine ByPlan.go (by assumption) plan62x17 ord62x17 ?_ | refine ByPlan.go (by assumption) plan62x19 ord62x19 ?_ | (refine and_true ?_ ?_; (focus ((repeat (first | refine all_skip rfl ?_ | exact rfl | (refine all_cons ?_ ?_; (focus ((conv => lhs; whnf); ((with_reducible apply gLd); apply ldF; (focus (rfl)); (focus (rfl)); (focus (rfl)); (focus ((repeat (first | assumption | exact get_new _ _ | refine get_old ?_ _ | refine get_set ?_ _ | refine get_set_ne ?_ (by first | assumption | (simp <;> omega) | omega) _ | refine prefix_get (by assumption) ?_)); done)); (focus (rfl))); (first | exact cs_int rfl | exact cs_ptr rfl | exact cs_sl rfl | exact cs_str rfl | exact cs_bool rfl | exact cs_map rfl | exact same_int _ _ | exact same_sl _ _ | exact same_str _ | exact same_ptr _ | rfl)))))); done))))
    conv => lhs; whnf
    by_cases g2 : termAt v.log (Go.Raft.reach ({ v with mat := upd v.mat to (max (v.mat to) x.1.a), next := upd v.next to (max (v.mat to) x.1.a + 1) } : NSR)) = v.term
    case neg =>
      refine bif_neg (by simpa using g2) ?_
      have f2 := fin2 { v with mat := upd v.mat to (max (v.mat to) x.1.a), next := upd v.next to (max (v.mat to) x.1.a + 1) } (by unfold Go.Raft.commits; rw [if_neg (fun c => g2 c.2)]) _ s8 h8
      have hBz := h8.hB
      conv => lhs; whnf
      refine hD.go plan62x19 ord62x19 ?_
      conv => lhs; whnf
      refine idxArr' hto ht (by show 0 + 9 + to < 15; omega) ?_
      conv => lhs; whnf
      refine ldF (v := .int .i64 (max (v.mat to) x.1.a + 1)) rfl rfl rfl hBz (nxt_at' (v := { v with mat := upd v.mat to (max (v.mat to) x.1.a), next := upd v.next to (max (v.mat to) x.1.a + 1) }) ht (upd_at _ _ _)) ?_
      repeat ((conv => lhs; whnf); first | ((with_reducible apply gLd); apply ldF; (focus (rfl)); (focus (rfl)); (focus (rfl)); (focus ((repeat (first | assumption | exact get_new _ _ | refine get_old ?_ _ | refine get_set ?_ _ | refine get_set_ne ?_ (by first | assumption | (simp <;> omega) | omega) _ | refine prefix_get (by assumption) ?_)); done)); (focus (rfl))) | ((with_reducible apply gSt); first | (apply st_int; (focus (rfl)); (focus (rfl)); (focus (decide)); (focus ((repeat (first | assumption | exact get_new _ _ | refine get_old ?_ _ | refine get_set ?_ _ | refine get_set_ne ?_ (by first | assumption | (simp <;> omega) | omega) _ | refine prefix_get (by assumption) ?_)); done)); (focus (decide))) | (apply st_sl; (focus (rfl)); (focus (rfl)); (focus (decide)); (focus ((repeat (first | assumption | exact get_new _ _ | refine get_old ?_ _ | refine get_set ?_ _ | refine get_set_ne ?_ (by first | assumption | (simp <;> omega) | omega) _ | refine prefix_get (by assumption) ?_)); done)); (focus (decide))) | (apply st_bool; (focus (rfl)); (focus (rfl)); (focus (decide)); (focus ((repeat (first | assumption | exact get_new _ _ | refine get_old ?_ _ | refine get_set ?_ _ | refine get_set_ne ?_ (by first | assumption | (simp <;> omega) | omega) _ | refine prefix_get (by assumption) ?_)); done)); (focus (decide))) | (apply st_ptr; (focus (rfl)); (focus (rfl)); (focus (decide)); (focus ((repeat (first | assumption | exact get_new _ _ | refine get_old ?_ _ | refine get_set ?_ _ | refine get_set_ne ?_ (by first | assumption | (simp <;> omega) | omega) _ | refine prefix_get (by assumption) ?_)); done)); (focus (decide)))) | refine ByPlan.go (by assumption) plan62x2 ord62x2 ?_ | refine ByPlan.go (by assumption) plan62x5 ord62x5 ?_ | refine ByPlan.go (by assumption) plan62x7 ord62x7 ?_ | refine ByPlan.go (by assumption) plan62x8 ord62x8 ?_ | refine ByPlan.go (by assumption) plan62x9 ord62x9 ?_ | refine ByPlan.go (by assumption) plan62x17 ord62x17 ?_ | refine ByPlan.go (by assumption) plan62x19 ord62x19 ?_ | (refine and_true ?_ ?_; (focus ((repeat (first | refine all_skip rfl ?_ | exact rfl | (refine all_cons ?_ ?_; (focus ((conv => lhs; whnf); ((with_reducible apply gLd); apply ldF; (focus (rfl)); (focus (rfl)); (focus (rfl)); (focus ((repeat (first | assumption | exact get_new _ _ | refine get_old ?_ _ | refine get_set ?_ _ | refine get_set_ne ?_ (by first | assumption | (simp <;> omega) | omega) _ | refine prefix_get (by assumption) ?_)); done)); (focus (rfl))); (first | exact cs_int rfl | exact cs_ptr rfl | exact cs_sl rfl | exact cs_str rfl | exact cs_bool rfl | exact cs_map rfl | exact same_int _ _ | exact same_sl _ _ | exact same_str _ | exact same_ptr _ | rfl)))))); done))))
      conv => lhs; whnf
      refine len_spec (by omega) h8.hL.log ?_
      conv => lhs; whnf
      refine and_true ?_ ?_
      · refine all_skip rfl (all_cons ?_ rfl)
        conv => lhs; whnf
        refine ldF (v := .int .i64 (max (v.mat to) x.1.a + 1)) rfl rfl rfl hBz (nxt_at' (v := { v with mat := upd v.mat to (max (v.mat to) x.1.a), next := upd v.next to (max (v.mat to) x.1.a + 1) }) ht (upd_at _ _ _)) ?_
        exact cs_int rfl
      conv => lhs; whnf
      by_cases g3 : len v.log < max (v.mat to) x.1.a + 1
      · refine bif_pos (decide_eq_true (by omega)) ?_
        conv => lhs; whnf
        exact f2.1 g3
      · refine bif_neg (decide_eq_false (by omega)) ?_
        conv => lhs; whnf
        refine f2.2 (by omega) _ fun w' σ' kk => ?_
        conv => lhs; whnf
        refine bs38 (x := (Go.Raft.adds { v with mat := upd v.mat to (max (v.mat to) x.1.a), next := upd v.next to (max (v.mat to) x.1.a + 1) } to, w')) ?_
        conv => lhs; whnf
        exact kk
    refine bif_pos (by simpa using g2) ?_
    conv => lhs; whnf
    refine stNode (σ := τ8) (v' := { ({ v with mat := upd v.mat to (max (v.mat to) x.1.a), next := upd v.next to (max (v.mat to) x.1.a + 1) } : NSR) with commit := Go.Raft.reach ({ v with mat := upd v.mat to (max (v.mat to) x.1.a), next := upd v.next to (max (v.mat to) x.1.a + 1) } : NSR) }) (bx' := bx) (BL' := BL) rfl rfl (by decide) rfl hB8 rfl ?_
    have h9 := h8.set (v' := { ({ v with mat := upd v.mat to (max (v.mat to) x.1.a), next := upd v.next to (max (v.mat to) x.1.a + 1) } : NSR) with commit := Go.Raft.reach ({ v with mat := upd v.mat to (max (v.mat to) x.1.a), next := upd v.next to (max (v.mat to) x.1.a + 1) } : NSR) }) (bx' := bx) rfl fun hr => ⟨hr, rfl, rfl⟩
    have s9 : Stq (fpN B BL o b m v.role) (fpN B BL o b m v.role) σ (τ8.set B (AO.cells (nc { ({ v with mat := upd v.mat to (max (v.mat to) x.1.a), next := upd v.next to (max (v.mat to) x.1.a + 1) } : NSR) with commit := Go.Raft.reach ({ v with mat := upd v.mat to (max (v.mat to) x.1.a), next := upd v.next to (max (v.mat to) x.1.a + 1) } : NSR) } BL bx) 15 .own)) := s8.trans (Stq.set (.inl rfl) hB8 (by decide))
    have f2 := fin2 { ({ v with mat := upd v.mat to (max (v.mat to) x.1.a), next := upd v.next to (max (v.mat to) x.1.a + 1) } : NSR) with commit := Go.Raft.reach ({ v with mat := upd v.mat to (max (v.mat to) x.1.a), next := upd v.next to (max (v.mat to) x.1.a + 1) } : NSR) } (by unfold Go.Raft.commits; rw [if_pos ⟨g1, g2⟩]) _ s9 h9
    generalize τ8.set B (AO.cells (nc { ({ v with mat := upd v.mat to (max (v.mat to) x.1.a), next := upd v.next to (max (v.mat to) x.1.a + 1) } : NSR) with commit := Go.Raft.reach ({ v with mat := upd v.mat to (max (v.mat to) x.1.a), next := upd v.next to (max (v.mat to) x.1.a + 1) } : NSR) } BL bx) 15 .own) = τ9 at h9 s9 f2 ⊢
    have hBz := h9.hB
    conv => lhs; whnf
    refine hD.go plan62x19 ord62x19 ?_
    conv => lhs; whnf
    refine idxArr' hto ht (by show 0 + 9 + to < 15; omega) ?_
    conv => lhs; whnf
    refine ldF (v := .int .i64 (max (v.mat to) x.1.a + 1)) rfl rfl rfl hBz (nxt_at' (v := { ({ v with mat := upd v.mat to (max (v.mat to) x.1.a), next := upd v.next to (max (v.mat to) x.1.a + 1) } : NSR) with commit := Go.Raft.reach ({ v with mat := upd v.mat to (max (v.mat to) x.1.a), next := upd v.next to (max (v.mat to) x.1.a + 1) } : NSR) }) ht (upd_at _ _ _)) ?_
    repeat ((conv => lhs; whnf); first | ((with_reducible apply gLd); apply ldF; (focus (rfl)); (focus (rfl)); (focus (rfl)); (focus ((repeat (first | assumption | exact get_new _ _ | refine get_old ?_ _ | refine get_set ?_ _ | refine get_set_ne ?_ (by first | assumption | (simp <;> omega) | omega) _ | refine prefix_get (by assumption) ?_)); done)); (focus (rfl))) | ((with_reducible apply gSt); first | (apply st_int; (focus (rfl)); (focus (rfl)); (focus (decide)); (focus ((repeat (first | assumption | exact get_new _ _ | refine get_old ?_ _ | refine get_set ?_ _ | refine get_set_ne ?_ (by first | assumption | (simp <;> omega) | omega) _ | refine prefix_get (by assumption) ?_)); done)); (focus (decide))) | (apply st_sl; (focus (rfl)); (focus (rfl)); (focus (decide)); (focus ((repeat (first | assumption | exact get_new _ _ | refine get_old ?_ _ | refine get_set ?_ _ | refine get_set_ne ?_ (by first | assumption | (simp <;> omega) | omega) _ | refine prefix_get (by assumption) ?_)); done)); (focus (decide))) | (apply st_bool; (focus (rfl)); (focus (rfl)); (focus (decide)); (focus ((repeat (first | assumption | exact get_new _ _ | refine get_old ?_ _ | refine get_set ?_ _ | refine get_set_ne ?_ (by first | assumption | (simp <;> omega) | omega) _ | refine prefix_get (by assumption) ?_)); done)); (focus (decide))) | (apply st_ptr; (focus (rfl)); (focus (rfl)); (focus (decide)); (focus ((repeat (first | assumption | exact get_new _ _ | refine get_old ?_ _ | refine get_set ?_ _ | refine get_set_ne ?_ (by first | assumption | (simp <;> omega) | omega) _ | refine prefix_get (by assumption) ?_)); done)); (focus (decide)))) | refine ByPlan.go (by assumption) plan62x2 ord62x2 ?_ | refine ByPlan.go (by assumption) plan62x5 ord62x5 ?_ | refine ByPlan.go (by assumption) plan62x7 ord62x7 ?_ | refine ByPlan.go (by assumption) plan62x8 ord62x8 ?_ | refine ByPlan.go (by assumption) plan62x9 ord62x9 ?_ | refine ByPlan.go (by assumption) plan62x17 ord62x17 ?_ | refine ByPlan.go (by assumption) plan62x19 ord62x19 ?_ | (refine and_true ?_ ?_; (focus ((repeat (first | refine all_skip rfl ?_ | exact rfl | (refine all_cons ?_ ?_; (focus ((conv => lhs; whnf); ((with_reducible apply gLd); apply ldF; (focus (rfl)); (focus (rfl)); (focus (rfl)); (focus ((repeat (first | assumption | exact get_new _ _ | refine get_old ?_ _ | refine get_set ?_ _ | refine get_set_ne ?_ (by first | assumption | (simp <;> omega) | omega) _ | refine prefix_get (by assumption) ?_)); done)); (focus (rfl))); (first | exact cs_int rfl | exact cs_ptr rfl | exact cs_sl rfl | exact cs_str rfl | exact cs_bool rfl | exact cs_map rfl | exact same_int _ _ | exact same_sl _ _ | exact same_str _ | exact same_ptr _ | rfl)))))); done))))
    conv => lhs; whnf
    refine len_spec (by omega) h9.hL.log ?_
    conv => lhs; whnf
    refine and_true ?_ ?_
    · refine all_skip rfl (all_cons ?_ rfl)
      conv => lhs; whnf
      refine ldF (v := .int .i64 (max (v.mat to) x.1.a + 1)) rfl rfl rfl hBz (nxt_at' (v := { ({ v with mat := upd v.mat to (max (v.mat to) x.1.a), next := upd v.next to (max (v.mat to) x.1.a + 1) } : NSR) with commit := Go.Raft.reach ({ v with mat := upd v.mat to (max (v.mat to) x.1.a), next := upd v.next to (max (v.mat to) x.1.a + 1) } : NSR) }) ht (upd_at _ _ _)) ?_
      exact cs_int rfl
    conv => lhs; whnf
    by_cases g3 : len v.log < max (v.mat to) x.1.a + 1
    · refine bif_pos (decide_eq_true (by omega)) ?_
      conv => lhs; whnf
      exact f2.1 g3
    · refine bif_neg (decide_eq_false (by omega)) ?_
      conv => lhs; whnf
      refine f2.2 (by omega) _ fun w' σ' kk => ?_
      conv => lhs; whnf
      refine bs38 (x := (Go.Raft.adds { ({ v with mat := upd v.mat to (max (v.mat to) x.1.a), next := upd v.next to (max (v.mat to) x.1.a + 1) } : NSR) with commit := Go.Raft.reach ({ v with mat := upd v.mat to (max (v.mat to) x.1.a), next := upd v.next to (max (v.mat to) x.1.a + 1) } : NSR) } to, w')) ?_
      conv => lhs; whnf
      exact kk
end Go.Proofs.YthmdecfiijgaoaaGreat
