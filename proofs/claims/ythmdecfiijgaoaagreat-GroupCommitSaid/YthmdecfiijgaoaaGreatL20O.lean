/- A node: others, adds, all, rising, New. -/
import Derived.Test.YthmdecfiijgaoaaGreatL20N
namespace Go.Proofs.YthmdecfiijgaoaaGreat
set_option maxRecDepth 100000
open Go Go.AM Go.AM.St
open Go.Raft (termAt fromL newer len)
/-- The others up to a number. -/
def oth (me i : Nat) : List Int := ((List.range i).filter (· ≠ me)).map fun (j : Nat) => (j : Int)
theorem oth_succ (me i : Nat) : oth me (i + 1) = if i = me then oth me i else oth me i ++ [(i : Int)] := by
  unfold oth
  rw [List.range_succ, List.filter_append, List.map_append]
  by_cases h : i = me
  · rw [if_pos h]; simp [h]
  · rw [if_neg h]; simp [h]
theorem oth_len (me i : Nat) : (oth me i).length ≤ i := by
  unfold oth
  rw [List.length_map]
  exact Nat.le_trans (List.length_filter_le _ _) (by simp)
theorem oth_three {me : Nat} (h : me < 3) : oth me 3 = (Go.Raft.others me).map fun (j : Nat) => (j : Int) := by
  rcases show me = 0 ∨ me = 1 ∨ me = 2 by omega with rfl | rfl | rfl <;> rfl
theorem build95 {σ : H} {y : Int} {K : AV → H → Bool} (hK : K (.sl (.at σ.length 0 1) 1) (σ ++ [.cells [.int .i64 y] 1 .own]) = true) : buildSliceK Tryz.prog 95 1 [(0, .int .i64 y)] σ K = true := by
  conv => lhs; whnf
  exact hK
attribute [local irreducible] IntKind.wrap Int.fdiv Int.tdiv Int.tmod BitVec.ofInt appendK sliceK indexAddrK ldK storeK seenK makeSliceK lookupK updateK clearK buildSliceK
variable {D : Drawer} {σ : H} {B BL b m : Nat} {o : Option Nat} {w : AM.SA} {V : List En} {bx : Option PA} {v : NSR}
theorem others_spec {n : Nat} (hn : 10 ≤ n) (hB : σ[B]? = some (AO.cells (nc v BL bx) 15 .own)) (hm : v.me < 3) {K : AV → H → Bool}
    (hK : ∀ w' σ', σ <+: σ' → Rw σ' 1 w' (oth v.me 3).length (iks .i64 (oth v.me 3)) → K (.sl w' (oth v.me 3).length) σ' = true) : acall Tryz.prog tab D n 69 [.ptr (some ⟨B, 0, 0, 15⟩)] σ K = true := by
  obtain ⟨n, rfl, hn⟩ := up hn
  conv => lhs; whnf
  refine loop_rule (m := 41) (fun q fr τ => ∃ (z : Int) (i : Nat) (o : Option Nat) (w : AM.SA), z = (i : Int) ∧ i + q = 3 ∧ σ <+: τ ∧ Own σ τ 1 o w (oth v.me i).length (iks .i64 (oth v.me i)) ∧
      fr = [.ptr (some ⟨B, 0, 0, 15⟩), .bad, .bad, .sl w (oth v.me i).length, .bad, .int .i64 z, .bad, .bad, .bad, .bad, .bad, .bad, .bad, .bad, .bad, .bad, .bad, .bad, .bad, .bad]) ?_ _ 3 _ _ (by omega) ⟨_, 0, none, .nil, rfl, rfl, List.prefix_refl _, Own.nil _ _ _, rfl⟩
  rintro q fr τ C ⟨z, i, o, w, rfl, hq, hp, hO, rfl⟩ next fin
  conv => lhs; whnf
  by_cases hi : i < 3
  case neg =>
    obtain rfl : i = 3 := by omega
    refine fin _ _ _ nofun ?_
    conv => lhs; whnf
    exact hK w τ hp hO.rw
  refine bif_pos (by simp; omega) ?_
  have hB1 := prefix_get hp hB
  repeat ((conv => lhs; whnf); first | ((with_reducible apply gLd); apply ldF; (focus (rfl)); (focus (rfl)); (focus (rfl)); (focus ((repeat (first | assumption | exact get_new _ _ | refine get_old ?_ _ | refine get_set ?_ _ | refine get_set_ne ?_ (by first | assumption | (simp <;> omega) | omega) _ | refine prefix_get (by assumption) ?_)); done)); (focus (rfl))) | ((with_reducible apply gSt); first | (apply st_int; (focus (rfl)); (focus (rfl)); (focus (decide)); (focus ((repeat (first | assumption | exact get_new _ _ | refine get_old ?_ _ | refine get_set ?_ _ | refine get_set_ne ?_ (by first | assumption | (simp <;> omega) | omega) _ | refine prefix_get (by assumption) ?_)); done)); (focus (decide))) | (apply st_sl; (focus (rfl)); (focus (rfl)); (focus (decide)); (focus ((repeat (first | assumption | exact get_new _ _ | refine get_old ?_ _ | refine get_set ?_ _ | refine get_set_ne ?_ (by first | assumption | (simp <;> omega) | omega) _ | refine prefix_get (by assumption) ?_)); done)); (focus (decide))) | (apply st_bool; (focus (rfl)); (focus (rfl)); (focus (decide)); (focus ((repeat (first | assumption | exact get_new _ _ | refine get_old ?_ _ | refine get_set ?_ _ | refine get_set_ne ?_ (by first | assumption | (simp <;> omega) | omega) _ | refine prefix_get (by assumption) ?_)); done)); (focus (decide))) | (apply st_ptr; (focus (rfl)); (focus (rfl)); (focus (decide)); (focus ((repeat (first | assumption | exact get_new _ _ | refine get_old ?_ _ | refine get_set ?_ _ | refine get_set_ne ?_ (by first | assumption | (simp <;> omega) | omega) _ | refine prefix_get (by assumption) ?_)); done)); (focus (decide)))) | (refine and_true ?_ ?_; (focus ((repeat (first | refine all_skip rfl ?_ | exact rfl | (refine all_cons ?_ ?_; (focus ((conv => lhs; whnf); ((with_reducible apply gLd); apply ldF; (focus (rfl)); (focus (rfl)); (focus (rfl)); (focus ((repeat (first | assumption | exact get_new _ _ | refine get_old ?_ _ | refine get_set ?_ _ | refine get_set_ne ?_ (by first | assumption | (simp <;> omega) | omega) _ | refine prefix_get (by assumption) ?_)); done)); (focus (rfl))); (first | exact cs_int rfl | exact cs_ptr rfl | exact cs_sl rfl | exact cs_str rfl | exact cs_bool rfl | exact cs_map rfl | exact same_int _ _ | exact same_sl _ _ | exact same_str _ | exact same_ptr _ | rfl)))))); done))))
  conv => lhs; whnf
  have hs := oth_succ v.me i
  by_cases hme : i = v.me
  · refine bif_neg (by simp [hme]) ?_
    rw [if_pos hme] at hs
    conv => lhs; whnf
    exact next (q - 1) _ _ (by omega) ⟨_, i + 1, o, w, inc_i64 (by omega), by omega, hp, by rw [hs]; exact hO, by rw [hs]; rfl⟩
  · refine bif_pos (by simp; omega) ?_
    rw [if_neg hme] at hs
    conv => lhs; whnf
    refine build95 ?_
    conv => lhs; whnf
    have hle := oth_len v.me i
    refine it44.app (ys := [(i : Int)]) (prefix_add hp _) (hO.mono (List.prefix_append _ _)) (Rw.new _ _ rfl) (oth v.me (i + 1)) hs.symm (by rw [hs, List.length_append, List.length_singleton]; omega) fun o' a' σ' p' _ _ _ hO' => ?_
    conv => lhs; whnf
    exact next (q - 1) _ _ (by omega) ⟨_, i + 1, o', a', inc_i64 (by omega), by omega, p', hO', rfl⟩
/-- Entries' terms, never falling. -/
theorem rising_spec {n : Nat} {s : AM.SA} {l : List En} {y : Int} (hn : l.length + 10 ≤ n) (hl : l.length ≤ 1000000) (hs : Rw σ 4 s l.length (ents l)) {K : AV → H → Bool}
    (hK : ∀ σ', σ <+: σ' → K (.bool (Go.Raft.rising 1 y (vals l))) σ' = true) : acall Tryz.prog tab D n 56 [.sl s l.length, .int .i64 y] σ K = true := by
  obtain ⟨n, rfl, hn⟩ := up hn
  conv => lhs; whnf
  refine loop_rule (m := 1826) (fun q fr τ => ∃ (z : Int) (i : Nat) (lo : Int), z = (i : Int) ∧ i + q = l.length ∧ σ <+: τ ∧ Go.Raft.rising 1 y (vals l) = Go.Raft.rising lo y ((vals l).drop i) ∧
      fr = [.bad, .int .i64 y, .bad, .bad, .bad, .int .i64 lo, .bad, .bad, .sl s l.length, .int .i64 (l.length : Int), .int .i64 z, .bad, .bad, .bad, .bad, .bad, .bad, .bad, .bad, .bad, .bad, .bad, .bad, .bad, .bad, .bad, .bad]) ?_ _ l.length _ _ (by omega) ⟨_, 0, 1, rfl, Nat.zero_add _, List.prefix_refl _, rfl, rfl⟩
  rintro q fr τ C ⟨z, i, lo, rfl, hq, hp, hr, rfl⟩ next fin
  conv => lhs; whnf
  by_cases hi : i < l.length
  case neg =>
    refine bif_neg (by simpa using hi) ?_
    conv => lhs; whnf
    refine fin _ _ _ nofun ?_
    have e : (vals l).drop i = [] := List.drop_eq_nil_of_le (by rw [vals_len]; omega)
    rw [e] at hr
    have h := hK τ hp
    rw [hr] at h
    conv => lhs; whnf
    exact h
  refine bif_pos (by simpa using hi) ?_
  have hd : (vals l).drop i = valE l[i] :: (vals l).drop (i + 1) := by
    have h1 : i < (vals l).length := by rw [vals_len]; exact hi
    rw [List.drop_eq_getElem_cons h1]
    congr 1
    simp [vals]
  rw [hd, Go.Raft.rising] at hr
  conv => lhs; whnf
  refine idx22 (hs.mono hp) rfl rfl hi fun id b h4 => ?_
  conv => lhs; whnf
  refine ldEnt h4 ?_
  conv => lhs; whnf
  refine storeNew ?_
  have p1 := prefix_add hp (AO.cells (enCells l[i]) 4 .own)
  have h5 := At4.new (τ := τ) l[i] .own
  generalize hτ1 : τ ++ [AO.cells (enCells l[i]) 4 .own] = τ1 at p1 h5 ⊢
  have fail : (l[i].1 < lo ∨ y < l[i].1) → K (.bool false) τ1 = true := fun h => by
    have h' := hK τ1 p1
    rw [hr, if_pos h] at h'
    exact h'
  conv => lhs; whnf
  refine ldTerm h5 ?_
  conv => lhs; whnf
  by_cases h1 : l[i].1 < lo
  · refine bif_pos (by simpa using h1) ?_
    conv => lhs; whnf
    refine fin _ _ _ nofun ?_
    conv => lhs; whnf
    exact fail (.inl h1)
  refine bif_neg (by simpa using h1) ?_
  conv => lhs; whnf
  refine ldTerm h5 ?_
  conv => lhs; whnf
  by_cases h2 : y < l[i].1
  · refine bif_pos (by simpa using h2) ?_
    conv => lhs; whnf
    refine fin _ _ _ nofun ?_
    conv => lhs; whnf
    exact fail (.inr h2)
  refine bif_neg (by simpa using h2) ?_
  rw [if_neg (by show ¬ (l[i].1 < lo ∨ y < l[i].1); omega)] at hr
  conv => lhs; whnf
  refine ldTerm h5 ?_
  conv => lhs; whnf
  exact next (q - 1) _ _ (by omega) ⟨_, i + 1, l[i].1, inc_i64 (by omega), by omega, p1, hr, rfl⟩


theorem OwnS.rwL {σ0 τ : H} {o : Option Nat} {a : AM.SA} {n : Nat} {cs : List AV} (h : OwnS σ0 τ 4 o a n cs) : Frsh σ0.length a := fun id off z e => by
  unfold OwnS at h
  split at h
  · obtain ⟨h1 | h1, _⟩ := h <;> rw [h1] at e <;> cases e
  · obtain ⟨h1, h2, _⟩ := h
    rw [h1] at e
    cases e
    exact h2
set_option maxHeartbeats 2000000 in
theorem adds_spec {n to : Nat} (hn : 2300 ≤ n) (hD : ByPlan Tryz.prog D) (h : NVx σ B BL o w V bx b m v) (ok : OkN v) (ht : to < 3) {K : AV → H → Bool}
    (hK : ∀ w' σ', σ <+: σ' → IsLt σ' (Go.Raft.adds v to, w') → Frsh σ.length w' → K (.agg (lc (Go.Raft.adds v to, w'))) σ' = true) :
    acall Tryz.prog tab D n 100 [.ptr (some ⟨B, 0, 0, 15⟩), .int .i64 (to : Int)] σ K = true := by
  obtain ⟨n, rfl, hn⟩ := up hn
  have hl := h.lenV
  have hl2 := ok.l
  obtain ⟨x1, x2⟩ := ok.nx to ht
  have h1 := h.mono (List.prefix_append σ [AO.cells lc0 9 .own])
  have hB1 := h1.hB
  have g := get_new σ (AO.cells lc0 9 .own)
  have e1 : IntKind.i64.wrap (v.next to - 1) = v.next to - 1 := wrap_i64 (by omega) (by omega)
  have e2 : IntKind.i64.wrap (v.next to - 1 + 1) = v.next to := by rw [wrap_i64 (by omega) (by omega)]; omega
  have go : ∀ x, x = v.next to → acall Tryz.prog tab D (Nat.succ n) 100 [.ptr (some ⟨B, 0, 0, 15⟩), .int .i64 (to : Int)] σ K = true := fun x hx => by
    conv => lhs; whnf
    refine idxArr ht (by show 0 + 9 + to < 15; omega) ?_
    conv => lhs; whnf
    refine ldF (v := .int .i64 x) rfl rfl rfl hB1 ?_ ?_
    · rw [hx]
      rcases show to = 0 ∨ to = 1 ∨ to = 2 by omega with rfl | rfl | rfl <;> rfl
    repeat ((conv => lhs; whnf); first | ((with_reducible apply gLd); apply ldF; (focus (rfl)); (focus (rfl)); (focus (rfl)); (focus ((repeat (first | assumption | exact get_new _ _ | refine get_old ?_ _ | refine get_set ?_ _ | refine get_set_ne ?_ (by first | assumption | (simp <;> omega) | omega) _ | refine prefix_get (by assumption) ?_)); done)); (focus (rfl))) | ((with_reducible apply gSt); first | (apply st_int; (focus (rfl)); (focus (rfl)); (focus (decide)); (focus ((repeat (first | assumption | exact get_new _ _ | refine get_old ?_ _ | refine get_set ?_ _ | refine get_set_ne ?_ (by first | assumption | (simp <;> omega) | omega) _ | refine prefix_get (by assumption) ?_)); done)); (focus (decide))) | (apply st_sl; (focus (rfl)); (focus (rfl)); (focus (decide)); (focus ((repeat (first | assumption | exact get_new _ _ | refine get_old ?_ _ | refine get_set ?_ _ | refine get_set_ne ?_ (by first | assumption | (simp <;> omega) | omega) _ | refine prefix_get (by assumption) ?_)); done)); (focus (decide))) | (apply st_bool; (focus (rfl)); (focus (rfl)); (focus (decide)); (focus ((repeat (first | assumption | exact get_new _ _ | refine get_old ?_ _ | refine get_set ?_ _ | refine get_set_ne ?_ (by first | assumption | (simp <;> omega) | omega) _ | refine prefix_get (by assumption) ?_)); done)); (focus (decide))) | (apply st_ptr; (focus (rfl)); (focus (rfl)); (focus (decide)); (focus ((repeat (first | assumption | exact get_new _ _ | refine get_old ?_ _ | refine get_set ?_ _ | refine get_set_ne ?_ (by first | assumption | (simp <;> omega) | omega) _ | refine prefix_get (by assumption) ?_)); done)); (focus (decide)))) | refine ByPlan.go (by assumption) plan100x2 ord100x2 ?_ | (refine and_true ?_ ?_; (focus ((repeat (first | refine all_skip rfl ?_ | exact rfl | (refine all_cons ?_ ?_; (focus ((conv => lhs; whnf); ((with_reducible apply gLd); apply ldF; (focus (rfl)); (focus (rfl)); (focus (rfl)); (focus ((repeat (first | assumption | exact get_new _ _ | refine get_old ?_ _ | refine get_set ?_ _ | refine get_set_ne ?_ (by first | assumption | (simp <;> omega) | omega) _ | refine prefix_get (by assumption) ?_)); done)); (focus (rfl))); (first | exact cs_int rfl | exact cs_ptr rfl | exact cs_sl rfl | exact cs_str rfl | exact cs_bool rfl | exact cs_map rfl | exact same_int _ _ | exact same_sl _ _ | exact same_str _ | exact same_ptr _ | rfl)))))); done))))
    conv => lhs; whnf
    rw [hx, e1]
    refine termA_spec (by omega) (by omega) h1.hL.log ?_
    repeat ((conv => lhs; whnf); first | ((with_reducible apply gLd); apply ldF; (focus (rfl)); (focus (rfl)); (focus (rfl)); (focus ((repeat (first | assumption | exact get_new _ _ | refine get_old ?_ _ | refine get_set ?_ _ | refine get_set_ne ?_ (by first | assumption | (simp <;> omega) | omega) _ | refine prefix_get (by assumption) ?_)); done)); (focus (rfl))) | ((with_reducible apply gSt); first | (apply st_int; (focus (rfl)); (focus (rfl)); (focus (decide)); (focus ((repeat (first | assumption | exact get_new _ _ | refine get_old ?_ _ | refine get_set ?_ _ | refine get_set_ne ?_ (by first | assumption | (simp <;> omega) | omega) _ | refine prefix_get (by assumption) ?_)); done)); (focus (decide))) | (apply st_sl; (focus (rfl)); (focus (rfl)); (focus (decide)); (focus ((repeat (first | assumption | exact get_new _ _ | refine get_old ?_ _ | refine get_set ?_ _ | refine get_set_ne ?_ (by first | assumption | (simp <;> omega) | omega) _ | refine prefix_get (by assumption) ?_)); done)); (focus (decide))) | (apply st_bool; (focus (rfl)); (focus (rfl)); (focus (decide)); (focus ((repeat (first | assumption | exact get_new _ _ | refine get_old ?_ _ | refine get_set ?_ _ | refine get_set_ne ?_ (by first | assumption | (simp <;> omega) | omega) _ | refine prefix_get (by assumption) ?_)); done)); (focus (decide))) | (apply st_ptr; (focus (rfl)); (focus (rfl)); (focus (decide)); (focus ((repeat (first | assumption | exact get_new _ _ | refine get_old ?_ _ | refine get_set ?_ _ | refine get_set_ne ?_ (by first | assumption | (simp <;> omega) | omega) _ | refine prefix_get (by assumption) ?_)); done)); (focus (decide)))) | refine ByPlan.go (by assumption) plan100x2 ord100x2 ?_ | (refine and_true ?_ ?_; (focus ((repeat (first | refine all_skip rfl ?_ | exact rfl | (refine all_cons ?_ ?_; (focus ((conv => lhs; whnf); ((with_reducible apply gLd); apply ldF; (focus (rfl)); (focus (rfl)); (focus (rfl)); (focus ((repeat (first | assumption | exact get_new _ _ | refine get_old ?_ _ | refine get_set ?_ _ | refine get_set_ne ?_ (by first | assumption | (simp <;> omega) | omega) _ | refine prefix_get (by assumption) ?_)); done)); (focus (rfl))); (first | exact cs_int rfl | exact cs_ptr rfl | exact cs_sl rfl | exact cs_str rfl | exact cs_bool rfl | exact cs_map rfl | exact same_int _ _ | exact same_sl _ _ | exact same_str _ | exact same_ptr _ | rfl)))))); done))))
    conv => lhs; whnf
    rw [e2]
    refine fromA_spec (m := 4) (by omega) (by omega) (by omega) (by decide) (by decide) (by omega) hD h1.hL.log (by rw [h.hV]; exact ok.sm) fun o2 w2 W2 σ2 p2 i2 v2 r2 => ?_
    rw [h.hV] at v2
    have l2 : W2.length = (Go.Raft.adds v to).es.length := by rw [← vals_len, v2]; rfl
    have hB2 := prefix_get p2 hB1
    have g2 := prefix_get p2 g
    repeat ((conv => lhs; whnf); first | ((with_reducible apply gLd); apply ldF; (focus (rfl)); (focus (rfl)); (focus (rfl)); (focus ((repeat (first | assumption | exact get_new _ _ | refine get_old ?_ _ | refine get_set ?_ _ | refine get_set_ne ?_ (by first | assumption | (simp <;> omega) | omega) _ | refine prefix_get (by assumption) ?_)); done)); (focus (rfl))) | ((with_reducible apply gSt); first | (apply st_int; (focus (rfl)); (focus (rfl)); (focus (decide)); (focus ((repeat (first | assumption | exact get_new _ _ | refine get_old ?_ _ | refine get_set ?_ _ | refine get_set_ne ?_ (by first | assumption | (simp <;> omega) | omega) _ | refine prefix_get (by assumption) ?_)); done)); (focus (decide))) | (apply st_sl; (focus (rfl)); (focus (rfl)); (focus (decide)); (focus ((repeat (first | assumption | exact get_new _ _ | refine get_old ?_ _ | refine get_set ?_ _ | refine get_set_ne ?_ (by first | assumption | (simp <;> omega) | omega) _ | refine prefix_get (by assumption) ?_)); done)); (focus (decide))) | (apply st_bool; (focus (rfl)); (focus (rfl)); (focus (decide)); (focus ((repeat (first | assumption | exact get_new _ _ | refine get_old ?_ _ | refine get_set ?_ _ | refine get_set_ne ?_ (by first | assumption | (simp <;> omega) | omega) _ | refine prefix_get (by assumption) ?_)); done)); (focus (decide))) | (apply st_ptr; (focus (rfl)); (focus (rfl)); (focus (decide)); (focus ((repeat (first | assumption | exact get_new _ _ | refine get_old ?_ _ | refine get_set ?_ _ | refine get_set_ne ?_ (by first | assumption | (simp <;> omega) | omega) _ | refine prefix_get (by assumption) ?_)); done)); (focus (decide)))) | refine ByPlan.go (by assumption) plan100x2 ord100x2 ?_ | (refine and_true ?_ ?_; (focus ((repeat (first | refine all_skip rfl ?_ | exact rfl | (refine all_cons ?_ ?_; (focus ((conv => lhs; whnf); ((with_reducible apply gLd); apply ldF; (focus (rfl)); (focus (rfl)); (focus (rfl)); (focus ((repeat (first | assumption | exact get_new _ _ | refine get_old ?_ _ | refine get_set ?_ _ | refine get_set_ne ?_ (by first | assumption | (simp <;> omega) | omega) _ | refine prefix_get (by assumption) ?_)); done)); (focus (rfl))); (first | exact cs_int rfl | exact cs_ptr rfl | exact cs_sl rfl | exact cs_str rfl | exact cs_bool rfl | exact cs_map rfl | exact same_int _ _ | exact same_sl _ _ | exact same_str _ | exact same_ptr _ | rfl)))))); done))))
    conv => lhs; whnf
    rw [h.hV, l2]
    refine storeLt (x := (Go.Raft.adds v to, w2)) rfl g2 ?_
    conv => lhs; whnf
    refine ldLt (x := (Go.Raft.adds v to, w2)) (get_set g2 _) ?_
    conv => lhs; whnf
    have q : σ <+: σ2.set σ.length (AO.cells (lc (Go.Raft.adds v to, w2)) 9 .own) := prefix_set (List.IsPrefix.trans (List.prefix_append _ _) p2) (Nat.le_refl _) _
    have s : Stq (fun id => id = σ.length) (fun id => id = σ.length) σ2 (σ2.set σ.length (AO.cells (lc (Go.Raft.adds v to, w2)) 9 .own)) := Stq.set rfl g2 (by decide)
    have hfr := OwnS.rwL r2
    have hlt : σ.length < (σ ++ [AO.cells lc0 9 .own]).length := by simp
    refine hK w2 _ q (IsLt.stq ⟨W2, v2, r2.rw, i2.es⟩ s fun id off z e hid => ?_) (hfr.low (by omega))
    have := hfr id off z e
    omega
  exact go _ rfl
end Go.Proofs.YthmdecfiijgaoaaGreat
