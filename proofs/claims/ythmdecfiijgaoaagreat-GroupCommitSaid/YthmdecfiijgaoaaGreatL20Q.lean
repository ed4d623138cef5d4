/- A node: letters for all; New; may. -/
import Derived.Test.YthmdecfiijgaoaaGreatL20O
namespace Go.Proofs.YthmdecfiijgaoaaGreat
set_option maxRecDepth 100000
open Go Go.AM Go.AM.St
open Go.Raft (termAt fromL newer len)
/-- Letters that were made since. -/
structure LsV (σ0 σ : H) (o : Option Nat) (ws : AM.SA) (ls : List (Lm × AM.SA)) : Prop where
  row : OwnS σ0 σ 9 o ws ls.length (ls.flatMap lc)
  is : ∀ x ∈ ls, IsLt σ x
  fr : ∀ x ∈ ls, Frsh σ0.length x.2
theorem LsV.nil (σ0 σ : H) : LsV σ0 σ none .nil [] := ⟨OwnS.nil _ _ _, fun x h => (by cases h), fun x h => (by cases h)⟩
theorem LsV.mono {σ0 σ σ' : H} {o : Option Nat} {ws : AM.SA} {ls : List (Lm × AM.SA)} (h : LsV σ0 σ o ws ls) (p : σ <+: σ') : LsV σ0 σ' o ws ls := ⟨h.row.mono p, fun x hx => (h.is x hx).mono p, h.fr⟩
theorem LsV.low {σ0 σ1 σ : H} {o : Option Nat} {ws : AM.SA} {ls : List (Lm × AM.SA)} (h : LsV σ1 σ o ws ls) (p : σ0.length ≤ σ1.length) : LsV σ0 σ o ws ls := ⟨h.row.low p, h.is, fun x hx => (h.fr x hx).low p⟩
/-- Rows of what is no letter stay. -/
theorem IsLt.keep {σ σ' : H} {x : Lm × AM.SA} (h : IsLt σ x) (hk : ∀ (id : Nat) (xs : List AV) (z : Nat) (md : Md), z ≠ 9 → σ[id]? = some (AO.cells xs z md) → σ'[id]? = some (AO.cells xs z md)) : IsLt σ' x := by
  obtain ⟨V, h1, h2, h3⟩ := h
  have key : ∀ {z n : Nat} {a : AM.SA} {cs : List AV}, z ≠ 9 → Rw σ z a n cs → Rw σ' z a n cs := fun hz h => by
    rcases h with h | h | ⟨j, off, ys, md, e, g1, g2⟩
    · exact .inl h
    · exact .inr (.inl h)
    · exact .inr (.inr ⟨j, off, ys, md, e, hk _ _ _ _ hz g1, g2⟩)
  exact ⟨V, h1, key (by decide) h2, fun e he => ⟨key (by decide) (h3 e he).nums, key (by decide) (h3 e he).texts⟩⟩
theorem bs38 {σ : H} {x : Lm × AM.SA} {K : AV → H → Bool} (hK : K (.sl (.at σ.length 0 9) 1) (σ ++ [.cells (lc x) 9 .own]) = true) : buildSliceK Tryz.prog 38 1 [(0, .agg (lc x))] σ K = true := by
  conv => lhs; whnf
  exact hK
theorem LsV.one {σ : H} {x : Lm × AM.SA} (h : IsLt σ x) {L : H} (hp : L <+: σ) (hf : Frsh L.length x.2) : LsV L (σ ++ [AO.cells (lc x) 9 .own]) (some σ.length) (.at σ.length 0 9) [x] := by
  refine ⟨OwnS.new hp _ (by simp), fun y hy => ?_, fun y hy => ?_⟩
  · rw [List.mem_singleton] at hy; subst hy; exact h.mono (List.prefix_append _ _)
  · rw [List.mem_singleton] at hy; subst hy; exact hf
theorem fm1 (x : Lm × AM.SA) : [x].flatMap lc = lc x := by simp
/-- One more letter. -/
theorem appLs {σ0 σ : H} (h0 : σ0 <+: σ) {o : Option Nat} {a : AM.SA} {ls : List (Lm × AM.SA)} {x : Lm × AM.SA} (hs : LsV σ0 σ o a ls) (hx : IsLt σ x) (hf : Frsh σ0.length x.2) (hl : ls.length ≤ 1000) {K : AV → H → Bool}
    (hK : ∀ o' a' σ', σ0 <+: σ' → Ext σ σ' → LsV σ0 σ' o' a' (ls ++ [x]) → K (.sl a' (ls ++ [x]).length) σ' = true) :
    appendK Tryz.prog 38 (.sl a ls.length) (.sl (.at σ.length 0 9) 1) (σ ++ [AO.cells (lc x) 9 .own]) K = true := by
  have hO := hs.row.mono (List.prefix_append σ [AO.cells (lc x) 9 .own])
  refine appS Tryz.underlying38 rfl rfl rfl rfl (by decide) (prefix_add h0 _) hO (Rw.new _ _ rfl) (N := (ls ++ [x]).length) (zs := (ls ++ [x]).flatMap lc) (by simp) (by rw [List.flatMap_append, fm1]) ?_ fun o' a' σ' p l k _ xx w' => ?_
  · show _ * 88 ≤ _
    rw [List.length_append, List.length_singleton]; omega
  · have hk : ∀ (id : Nat) (xs : List AV) (z : Nat) (md : Md), z ≠ 9 → (σ ++ [AO.cells (lc x) 9 .own])[id]? = some (AO.cells xs z md) → σ'[id]? = some (AO.cells xs z md) := fun id xs z md hz g => by
      refine (k id (get_lt g) fun e => ?_).trans g
      subst e
      have := hO.2.2.1
      rw [g] at this
      exact absurd (Option.some.inj this) (fun h => by injection h with _ h2 _; exact hz h2)
    refine hK o' a' σ' p ((Ext.of_prefix (List.prefix_append _ _)).trans xx) ⟨w', fun y hy => ?_, fun y hy => ?_⟩
    · rcases List.mem_append.1 hy with hy | hy
      · exact ((hs.is y hy).mono (List.prefix_append _ _)).keep hk
      · rw [List.mem_singleton] at hy; subst hy
        exact (hx.mono (List.prefix_append _ _)).keep hk
    · rcases List.mem_append.1 hy with hy | hy
      · exact hs.fr y hy
      · rw [List.mem_singleton] at hy; subst hy; exact hf
attribute [local irreducible] IntKind.wrap Int.fdiv Int.tdiv Int.tmod BitVec.ofInt appendK sliceK indexAddrK ldK storeK seenK makeSliceK lookupK updateK clearK buildSliceK
variable {D : Drawer} {σ : H} {B BL b m : Nat} {o : Option Nat} {w : AM.SA} {V : List En} {bx : Option PA} {v : NSR}
theorem oth_get {me i : Nat} (h : i < (oth me 3).length) : ∃ to : Nat, (oth me 3)[i] = (to : Int) ∧ to < 3 ∧ to ≠ me := by
  have hm := List.getElem_mem h
  generalize (oth me 3)[i] = x at hm ⊢
  unfold oth at hm
  obtain ⟨j, hj, rfl⟩ := List.mem_map.1 hm
  rw [List.mem_filter, List.mem_range] at hj
  exact ⟨j, rfl, hj.1, by simpa using hj.2⟩
theorem all_spec {n : Nat} (hn : 2400 ≤ n) (hD : ByPlan Tryz.prog D) (h : NVx σ B BL o w V bx b m v) (ok : OkN v) {K : AV → H → Bool}
    (hK : ∀ o' ws ls σ', σ <+: σ' → LsV σ σ' o' ws ls → ls.map (·.1) = Go.Raft.all v → K (.sl ws ls.length) σ' = true) : acall Tryz.prog tab D n 65 [.ptr (some ⟨B, 0, 0, 15⟩)] σ K = true := by
  obtain ⟨n, rfl, hn⟩ := up hn
  have hol := oth_len v.me 3
  conv => lhs; whnf
  refine others_spec (by omega) h.hB ok.me fun w1 σ1 p1 r1 => ?_
  conv => lhs; whnf
  refine loop_rule (m := 905) (fun q fr τ => ∃ (z : Int) (i : Nat) (o : Option Nat) (ws : AM.SA) (ls : List (Lm × AM.SA)), z = (i : Int) ∧ i + q = (oth v.me 3).length ∧ ls.length = i ∧ σ <+: τ ∧ Rw τ 1 w1 (oth v.me 3).length (iks .i64 (oth v.me 3)) ∧ LsV σ τ o ws ls ∧ ls.map (·.1) = ((oth v.me 3).take i).map (fun x => Go.Raft.adds v x.toNat) ∧
      fr = [.ptr (some ⟨B, 0, 0, 15⟩), .bad, .bad, .sl ws ls.length, .bad, .bad, .bad, .sl w1 (oth v.me 3).length, .int .i64 ((oth v.me 3).length : Int), .int .i64 z, .bad, .bad, .bad, .bad, .bad, .bad, .bad, .bad, .bad, .bad, .bad]) ?_ _ (oth v.me 3).length _ _ (by omega)
      ⟨_, 0, none, .nil, [], rfl, Nat.zero_add _, rfl, p1, r1, LsV.nil _ _, rfl, rfl⟩
  rintro q fr τ C ⟨z, i, o1, ws, ls, rfl, hq, hls, hp0, r1, hL, hm, rfl⟩ next fin
  conv => lhs; whnf
  by_cases hi : i < (oth v.me 3).length
  case neg =>
    refine bif_neg (by simpa using hi) ?_
    conv => lhs; whnf
    refine fin _ _ _ nofun ?_
    conv => lhs; whnf
    refine hK o1 ws ls τ hp0 hL ?_
    rw [hm, List.take_of_length_le (by omega), oth_three ok.me, List.map_map]
    rfl
  refine bif_pos (by simpa using hi) ?_
  obtain ⟨to, e1, e2, e3⟩ := oth_get hi
  conv => lhs; whnf
  refine it44.idx r1 rfl hi fun p hE => ?_
  conv => lhs; whnf
  refine it44.ld hE ?_
  rw [e1]
  conv => lhs; whnf
  refine adds_spec (by omega) hD (h.mono hp0) ok e2 fun w2 σ2 p2 i2 f2 => ?_
  conv => lhs; whnf
  refine bs38 ?_
  conv => lhs; whnf
  refine appLs (List.IsPrefix.trans hp0 p2) (hL.mono p2) i2 (f2.low (prefix_len hp0)) (by omega) fun o3 a3 σ3 p3 x3 hL3 => ?_
  conv => lhs; whnf
  refine next (q - 1) _ _ (by omega) ⟨_, i + 1, o3, a3, ls ++ [(Go.Raft.adds v to, w2)], inc_i64 (by omega), by omega, by rw [List.length_append, hls]; rfl, p3, Rw.ext (r1.mono p2) x3, hL3, ?_, rfl⟩
  rw [List.map_append, hm, List.take_succ_eq_append_getElem hi, List.map_append]
  congr 1
  simp [e1]
theorem rnew_spec {n : Nat} {me : Nat} {tm vt : Int} {s : AM.SA} {l : List En} (hn : 2400 ≤ n) (hD : ByPlan Tryz.prog D) (h1 : me < 3) (h2 : 0 ≤ tm) (h3 : -1 ≤ vt) (h4 : vt < 3) (h5 : l.length ≤ 2000) (hr : Go.Raft.rising 1 tm (vals l) = true) (hsm : Small (vals l)) (hs : Rw σ 4 s l.length (ents l)) (hi : IsEs σ l)
    {K : AV → H → Bool} (hK : ∀ B F σ', σ <+: σ' → NV σ' B (Go.Raft.newN me tm vt (vals l)) F → (∀ id, F id → σ.length ≤ id) → K (.ptr (some ⟨B, 0, 0, 15⟩)) σ' = true) :
    acall Tryz.prog tab D n 18 [.int .i64 (me : Int), .agg [.int .i64 tm, .int .i64 vt, .sl s l.length]] σ K = true := by
  obtain ⟨n, rfl, hn⟩ := up hn
  have g1 := get_new σ (AO.cells [.int .i64 tm, .int .i64 vt, .sl s l.length] 3 .own)
  have pf := List.prefix_append σ [AO.cells [AV.int .i64 tm, .int .i64 vt, .sl s l.length] 3 .own]
  conv => lhs; whnf
  refine bif_neg (decide_eq_false (by omega)) ?_
  repeat ((conv => lhs; whnf); first | ((with_reducible apply gLd); apply ldF; (focus (rfl)); (focus (rfl)); (focus (rfl)); (focus ((repeat (first | assumption | exact get_new _ _ | refine get_old ?_ _ | refine get_set ?_ _ | refine get_set_ne ?_ (by first | assumption | (simp <;> omega) | omega) _ | refine prefix_get (by assumption) ?_)); done)); (focus (rfl))) | ((with_reducible apply gSt); first | (apply st_int; (focus (rfl)); (focus (rfl)); (focus (decide)); (focus ((repeat (first | assumption | exact get_new _ _ | refine get_old ?_ _ | refine get_set ?_ _ | refine get_set_ne ?_ (by first | assumption | (simp <;> omega) | omega) _ | refine prefix_get (by assumption) ?_)); done)); (focus (decide))) | (apply st_sl; (focus (rfl)); (focus (rfl)); (focus (decide)); (focus ((repeat (first | assumption | exact get_new _ _ | refine get_old ?_ _ | refine get_set ?_ _ | refine get_set_ne ?_ (by first | assumption | (simp <;> omega) | omega) _ | refine prefix_get (by assumption) ?_)); done)); (focus (decide))) | (apply st_bool; (focus (rfl)); (focus (rfl)); (focus (decide)); (focus ((repeat (first | assumption | exact get_new _ _ | refine get_old ?_ _ | refine get_set ?_ _ | refine get_set_ne ?_ (by first | assumption | (simp <;> omega) | omega) _ | refine prefix_get (by assumption) ?_)); done)); (focus (decide))) | (apply st_ptr; (focus (rfl)); (focus (rfl)); (focus (decide)); (focus ((repeat (first | assumption | exact get_new _ _ | refine get_old ?_ _ | refine get_set ?_ _ | refine get_set_ne ?_ (by first | assumption | (simp <;> omega) | omega) _ | refine prefix_get (by assumption) ?_)); done)); (focus (decide)))) | refine ByPlan.go (by assumption) plan18x3 ord18x3 ?_ | (refine and_true ?_ ?_; (focus ((repeat (first | refine all_skip rfl ?_ | exact rfl | (refine all_cons ?_ ?_; (focus ((conv => lhs; whnf); ((with_reducible apply gLd); apply ldF; (focus (rfl)); (focus (rfl)); (focus (rfl)); (focus ((repeat (first | assumption | exact get_new _ _ | refine get_old ?_ _ | refine get_set ?_ _ | refine get_set_ne ?_ (by first | assumption | (simp <;> omega) | omega) _ | refine prefix_get (by assumption) ?_)); done)); (focus (rfl))); (first | exact cs_int rfl | exact cs_ptr rfl | exact cs_sl rfl | exact cs_str rfl | exact cs_bool rfl | exact cs_map rfl | exact same_int _ _ | exact same_sl _ _ | exact same_str _ | exact same_ptr _ | rfl)))))); done))))
  conv => lhs; whnf
  refine bif_neg (decide_eq_false (by omega)) ?_
  repeat ((conv => lhs; whnf); first | ((with_reducible apply gLd); apply ldF; (focus (rfl)); (focus (rfl)); (focus (rfl)); (focus ((repeat (first | assumption | exact get_new _ _ | refine get_old ?_ _ | refine get_set ?_ _ | refine get_set_ne ?_ (by first | assumption | (simp <;> omega) | omega) _ | refine prefix_get (by assumption) ?_)); done)); (focus (rfl))) | ((with_reducible apply gSt); first | (apply st_int; (focus (rfl)); (focus (rfl)); (focus (decide)); (focus ((repeat (first | assumption | exact get_new _ _ | refine get_old ?_ _ | refine get_set ?_ _ | refine get_set_ne ?_ (by first | assumption | (simp <;> omega) | omega) _ | refine prefix_get (by assumption) ?_)); done)); (focus (decide))) | (apply st_sl; (focus (rfl)); (focus (rfl)); (focus (decide)); (focus ((repeat (first | assumption | exact get_new _ _ | refine get_old ?_ _ | refine get_set ?_ _ | refine get_set_ne ?_ (by first | assumption | (simp <;> omega) | omega) _ | refine prefix_get (by assumption) ?_)); done)); (focus (decide))) | (apply st_bool; (focus (rfl)); (focus (rfl)); (focus (decide)); (focus ((repeat (first | assumption | exact get_new _ _ | refine get_old ?_ _ | refine get_set ?_ _ | refine get_set_ne ?_ (by first | assumption | (simp <;> omega) | omega) _ | refine prefix_get (by assumption) ?_)); done)); (focus (decide))) | (apply st_ptr; (focus (rfl)); (focus (rfl)); (focus (decide)); (focus ((repeat (first | assumption | exact get_new _ _ | refine get_old ?_ _ | refine get_set ?_ _ | refine get_set_ne ?_ (by first | assumption | (simp <;> omega) | omega) _ | refine prefix_get (by assumption) ?_)); done)); (focus (decide)))) | refine ByPlan.go (by assumption) plan18x3 ord18x3 ?_ | (refine and_true ?_ ?_; (focus ((repeat (first | refine all_skip rfl ?_ | exact rfl | (refine all_cons ?_ ?_; (focus ((conv => lhs; whnf); ((with_reducible apply gLd); apply ldF; (focus (rfl)); (focus (rfl)); (focus (rfl)); (focus ((repeat (first | assumption | exact get_new _ _ | refine get_old ?_ _ | refine get_set ?_ _ | refine get_set_ne ?_ (by first | assumption | (simp <;> omega) | omega) _ | refine prefix_get (by assumption) ?_)); done)); (focus (rfl))); (first | exact cs_int rfl | exact cs_ptr rfl | exact cs_sl rfl | exact cs_str rfl | exact cs_bool rfl | exact cs_map rfl | exact same_int _ _ | exact same_sl _ _ | exact same_str _ | exact same_ptr _ | rfl)))))); done))))
  conv => lhs; whnf
  refine bif_neg (decide_eq_false (by omega)) ?_
  repeat ((conv => lhs; whnf); first | ((with_reducible apply gLd); apply ldF; (focus (rfl)); (focus (rfl)); (focus (rfl)); (focus ((repeat (first | assumption | exact get_new _ _ | refine get_old ?_ _ | refine get_set ?_ _ | refine get_set_ne ?_ (by first | assumption | (simp <;> omega) | omega) _ | refine prefix_get (by assumption) ?_)); done)); (focus (rfl))) | ((with_reducible apply gSt); first | (apply st_int; (focus (rfl)); (focus (rfl)); (focus (decide)); (focus ((repeat (first | assumption | exact get_new _ _ | refine get_old ?_ _ | refine get_set ?_ _ | refine get_set_ne ?_ (by first | assumption | (simp <;> omega) | omega) _ | refine prefix_get (by assumption) ?_)); done)); (focus (decide))) | (apply st_sl; (focus (rfl)); (focus (rfl)); (focus (decide)); (focus ((repeat (first | assumption | exact get_new _ _ | refine get_old ?_ _ | refine get_set ?_ _ | refine get_set_ne ?_ (by first | assumption | (simp <;> omega) | omega) _ | refine prefix_get (by assumption) ?_)); done)); (focus (decide))) | (apply st_bool; (focus (rfl)); (focus (rfl)); (focus (decide)); (focus ((repeat (first | assumption | exact get_new _ _ | refine get_old ?_ _ | refine get_set ?_ _ | refine get_set_ne ?_ (by first | assumption | (simp <;> omega) | omega) _ | refine prefix_get (by assumption) ?_)); done)); (focus (decide))) | (apply st_ptr; (focus (rfl)); (focus (rfl)); (focus (decide)); (focus ((repeat (first | assumption | exact get_new _ _ | refine get_old ?_ _ | refine get_set ?_ _ | refine get_set_ne ?_ (by first | assumption | (simp <;> omega) | omega) _ | refine prefix_get (by assumption) ?_)); done)); (focus (decide)))) | refine ByPlan.go (by assumption) plan18x3 ord18x3 ?_ | (refine and_true ?_ ?_; (focus ((repeat (first | refine all_skip rfl ?_ | exact rfl | (refine all_cons ?_ ?_; (focus ((conv => lhs; whnf); ((with_reducible apply gLd); apply ldF; (focus (rfl)); (focus (rfl)); (focus (rfl)); (focus ((repeat (first | assumption | exact get_new _ _ | refine get_old ?_ _ | refine get_set ?_ _ | refine get_set_ne ?_ (by first | assumption | (simp <;> omega) | omega) _ | refine prefix_get (by assumption) ?_)); done)); (focus (rfl))); (first | exact cs_int rfl | exact cs_ptr rfl | exact cs_sl rfl | exact cs_str rfl | exact cs_bool rfl | exact cs_map rfl | exact same_int _ _ | exact same_sl _ _ | exact same_str _ | exact same_ptr _ | rfl)))))); done))))
  conv => lhs; whnf
  refine bif_neg (decide_eq_false (by omega)) ?_
  repeat ((conv => lhs; whnf); first | ((with_reducible apply gLd); apply ldF; (focus (rfl)); (focus (rfl)); (focus (rfl)); (focus ((repeat (first | assumption | exact get_new _ _ | refine get_old ?_ _ | refine get_set ?_ _ | refine get_set_ne ?_ (by first | assumption | (simp <;> omega) | omega) _ | refine prefix_get (by assumption) ?_)); done)); (focus (rfl))) | ((with_reducible apply gSt); first | (apply st_int; (focus (rfl)); (focus (rfl)); (focus (decide)); (focus ((repeat (first | assumption | exact get_new _ _ | refine get_old ?_ _ | refine get_set ?_ _ | refine get_set_ne ?_ (by first | assumption | (simp <;> omega) | omega) _ | refine prefix_get (by assumption) ?_)); done)); (focus (decide))) | (apply st_sl; (focus (rfl)); (focus (rfl)); (focus (decide)); (focus ((repeat (first | assumption | exact get_new _ _ | refine get_old ?_ _ | refine get_set ?_ _ | refine get_set_ne ?_ (by first | assumption | (simp <;> omega) | omega) _ | refine prefix_get (by assumption) ?_)); done)); (focus (decide))) | (apply st_bool; (focus (rfl)); (focus (rfl)); (focus (decide)); (focus ((repeat (first | assumption | exact get_new _ _ | refine get_old ?_ _ | refine get_set ?_ _ | refine get_set_ne ?_ (by first | assumption | (simp <;> omega) | omega) _ | refine prefix_get (by assumption) ?_)); done)); (focus (decide))) | (apply st_ptr; (focus (rfl)); (focus (rfl)); (focus (decide)); (focus ((repeat (first | assumption | exact get_new _ _ | refine get_old ?_ _ | refine get_set ?_ _ | refine get_set_ne ?_ (by first | assumption | (simp <;> omega) | omega) _ | refine prefix_get (by assumption) ?_)); done)); (focus (decide)))) | refine ByPlan.go (by assumption) plan18x3 ord18x3 ?_ | (refine and_true ?_ ?_; (focus ((repeat (first | refine all_skip rfl ?_ | exact rfl | (refine all_cons ?_ ?_; (focus ((conv => lhs; whnf); ((with_reducible apply gLd); apply ldF; (focus (rfl)); (focus (rfl)); (focus (rfl)); (focus ((repeat (first | assumption | exact get_new _ _ | refine get_old ?_ _ | refine get_set ?_ _ | refine get_set_ne ?_ (by first | assumption | (simp <;> omega) | omega) _ | refine prefix_get (by assumption) ?_)); done)); (focus (rfl))); (first | exact cs_int rfl | exact cs_ptr rfl | exact cs_sl rfl | exact cs_str rfl | exact cs_bool rfl | exact cs_map rfl | exact same_int _ _ | exact same_sl _ _ | exact same_str _ | exact same_ptr _ | rfl)))))); done))))
  conv => lhs; whnf
  refine bif_neg (decide_eq_false (by omega)) ?_
  repeat ((conv => lhs; whnf); first | ((with_reducible apply gLd); apply ldF; (focus (rfl)); (focus (rfl)); (focus (rfl)); (focus ((repeat (first | assumption | exact get_new _ _ | refine get_old ?_ _ | refine get_set ?_ _ | refine get_set_ne ?_ (by first | assumption | (simp <;> omega) | omega) _ | refine prefix_get (by assumption) ?_)); done)); (focus (rfl))) | ((with_reducible apply gSt); first | (apply st_int; (focus (rfl)); (focus (rfl)); (focus (decide)); (focus ((repeat (first | assumption | exact get_new _ _ | refine get_old ?_ _ | refine get_set ?_ _ | refine get_set_ne ?_ (by first | assumption | (simp <;> omega) | omega) _ | refine prefix_get (by assumption) ?_)); done)); (focus (decide))) | (apply st_sl; (focus (rfl)); (focus (rfl)); (focus (decide)); (focus ((repeat (first | assumption | exact get_new _ _ | refine get_old ?_ _ | refine get_set ?_ _ | refine get_set_ne ?_ (by first | assumption | (simp <;> omega) | omega) _ | refine prefix_get (by assumption) ?_)); done)); (focus (decide))) | (apply st_bool; (focus (rfl)); (focus (rfl)); (focus (decide)); (focus ((repeat (first | assumption | exact get_new _ _ | refine get_old ?_ _ | refine get_set ?_ _ | refine get_set_ne ?_ (by first | assumption | (simp <;> omega) | omega) _ | refine prefix_get (by assumption) ?_)); done)); (focus (decide))) | (apply st_ptr; (focus (rfl)); (focus (rfl)); (focus (decide)); (focus ((repeat (first | assumption | exact get_new _ _ | refine get_old ?_ _ | refine get_set ?_ _ | refine get_set_ne ?_ (by first | assumption | (simp <;> omega) | omega) _ | refine prefix_get (by assumption) ?_)); done)); (focus (decide)))) | refine ByPlan.go (by assumption) plan18x3 ord18x3 ?_ | (refine and_true ?_ ?_; (focus ((repeat (first | refine all_skip rfl ?_ | exact rfl | (refine all_cons ?_ ?_; (focus ((conv => lhs; whnf); ((with_reducible apply gLd); apply ldF; (focus (rfl)); (focus (rfl)); (focus (rfl)); (focus ((repeat (first | assumption | exact get_new _ _ | refine get_old ?_ _ | refine get_set ?_ _ | refine get_set_ne ?_ (by first | assumption | (simp <;> omega) | omega) _ | refine prefix_get (by assumption) ?_)); done)); (focus (rfl))); (first | exact cs_int rfl | exact cs_ptr rfl | exact cs_sl rfl | exact cs_str rfl | exact cs_bool rfl | exact cs_map rfl | exact same_int _ _ | exact same_sl _ _ | exact same_str _ | exact same_ptr _ | rfl)))))); done))))
  conv => lhs; whnf
  refine rising_spec (by omega) (by omega) (hs.mono pf) fun σ2 p2 => ?_
  rw [hr]
  have g2 := prefix_get p2 g1
  have q2 := List.IsPrefix.trans pf p2
  repeat ((conv => lhs; whnf); first | ((with_reducible apply gLd); apply ldF; (focus (rfl)); (focus (rfl)); (focus (rfl)); (focus ((repeat (first | assumption | exact get_new _ _ | refine get_old ?_ _ | refine get_set ?_ _ | refine get_set_ne ?_ (by first | assumption | (simp <;> omega) | omega) _ | refine prefix_get (by assumption) ?_)); done)); (focus (rfl))) | ((with_reducible apply gSt); first | (apply st_int; (focus (rfl)); (focus (rfl)); (focus (decide)); (focus ((repeat (first | assumption | exact get_new _ _ | refine get_old ?_ _ | refine get_set ?_ _ | refine get_set_ne ?_ (by first | assumption | (simp <;> omega) | omega) _ | refine prefix_get (by assumption) ?_)); done)); (focus (decide))) | (apply st_sl; (focus (rfl)); (focus (rfl)); (focus (decide)); (focus ((repeat (first | assumption | exact get_new _ _ | refine get_old ?_ _ | refine get_set ?_ _ | refine get_set_ne ?_ (by first | assumption | (simp <;> omega) | omega) _ | refine prefix_get (by assumption) ?_)); done)); (focus (decide))) | (apply st_bool; (focus (rfl)); (focus (rfl)); (focus (decide)); (focus ((repeat (first | assumption | exact get_new _ _ | refine get_old ?_ _ | refine get_set ?_ _ | refine get_set_ne ?_ (by first | assumption | (simp <;> omega) | omega) _ | refine prefix_get (by assumption) ?_)); done)); (focus (decide))) | (apply st_ptr; (focus (rfl)); (focus (rfl)); (focus (decide)); (focus ((repeat (first | assumption | exact get_new _ _ | refine get_old ?_ _ | refine get_set ?_ _ | refine get_set_ne ?_ (by first | assumption | (simp <;> omega) | omega) _ | refine prefix_get (by assumption) ?_)); done)); (focus (decide)))) | refine ByPlan.go (by assumption) plan18x3 ord18x3 ?_ | (refine and_true ?_ ?_; (focus ((repeat (first | refine all_skip rfl ?_ | exact rfl | (refine all_cons ?_ ?_; (focus ((conv => lhs; whnf); ((with_reducible apply gLd); apply ldF; (focus (rfl)); (focus (rfl)); (focus (rfl)); (focus ((repeat (first | assumption | exact get_new _ _ | refine get_old ?_ _ | refine get_set ?_ _ | refine get_set_ne ?_ (by first | assumption | (simp <;> omega) | omega) _ | refine prefix_get (by assumption) ?_)); done)); (focus (rfl))); (first | exact cs_int rfl | exact cs_ptr rfl | exact cs_sl rfl | exact cs_str rfl | exact cs_bool rfl | exact cs_map rfl | exact same_int _ _ | exact same_sl _ _ | exact same_str _ | exact same_ptr _ | rfl)))))); done))))
  conv => lhs; whnf
  refine new_own (by omega) (by omega) hD (hs.mono q2) (hi.mono q2) hsm fun BL W o w σ3 p3 hB3 i3 v3 b3 r3 => ?_
  have g3 := prefix_get p3 g2
  have q3 := List.IsPrefix.trans q2 p3
  have lq2 := prefix_len q2
  have v3' : vals W = vals l := by rw [v3, List.take_of_length_le (by rw [vals_len]; omega)]
  repeat ((conv => lhs; whnf); first | ((with_reducible apply gLd); apply ldF; (focus (rfl)); (focus (rfl)); (focus (rfl)); (focus ((repeat (first | assumption | exact get_new _ _ | refine get_old ?_ _ | refine get_set ?_ _ | refine get_set_ne ?_ (by first | assumption | (simp <;> omega) | omega) _ | refine prefix_get (by assumption) ?_)); done)); (focus (rfl))) | ((with_reducible apply gSt); first | (apply st_int; (focus (rfl)); (focus (rfl)); (focus (decide)); (focus ((repeat (first | assumption | exact get_new _ _ | refine get_old ?_ _ | refine get_set ?_ _ | refine get_set_ne ?_ (by first | assumption | (simp <;> omega) | omega) _ | refine prefix_get (by assumption) ?_)); done)); (focus (decide))) | (apply st_sl; (focus (rfl)); (focus (rfl)); (focus (decide)); (focus ((repeat (first | assumption | exact get_new _ _ | refine get_old ?_ _ | refine get_set ?_ _ | refine get_set_ne ?_ (by first | assumption | (simp <;> omega) | omega) _ | refine prefix_get (by assumption) ?_)); done)); (focus (decide))) | (apply st_bool; (focus (rfl)); (focus (rfl)); (focus (decide)); (focus ((repeat (first | assumption | exact get_new _ _ | refine get_old ?_ _ | refine get_set ?_ _ | refine get_set_ne ?_ (by first | assumption | (simp <;> omega) | omega) _ | refine prefix_get (by assumption) ?_)); done)); (focus (decide))) | (apply st_ptr; (focus (rfl)); (focus (rfl)); (focus (decide)); (focus ((repeat (first | assumption | exact get_new _ _ | refine get_old ?_ _ | refine get_set ?_ _ | refine get_set_ne ?_ (by first | assumption | (simp <;> omega) | omega) _ | refine prefix_get (by assumption) ?_)); done)); (focus (decide)))) | refine ByPlan.go (by assumption) plan18x3 ord18x3 ?_ | (refine and_true ?_ ?_; (focus ((repeat (first | refine all_skip rfl ?_ | exact rfl | (refine all_cons ?_ ?_; (focus ((conv => lhs; whnf); ((with_reducible apply gLd); apply ldF; (focus (rfl)); (focus (rfl)); (focus (rfl)); (focus ((repeat (first | assumption | exact get_new _ _ | refine get_old ?_ _ | refine get_set ?_ _ | refine get_set_ne ?_ (by first | assumption | (simp <;> omega) | omega) _ | refine prefix_get (by assumption) ?_)); done)); (focus (rfl))); (first | exact cs_int rfl | exact cs_ptr rfl | exact cs_sl rfl | exact cs_str rfl | exact cs_bool rfl | exact cs_map rfl | exact same_int _ _ | exact same_sl _ _ | exact same_str _ | exact same_ptr _ | rfl)))))); done))))
  conv => lhs; whnf
  have hb := get_new σ3 (AO.cells (nc (Go.Raft.newN me tm vt (vals l)) BL none) 15 .own)
  have pb := List.prefix_append σ3 [AO.cells (nc (Go.Raft.newN me tm vt (vals l)) BL none) 15 .own]
  refine hK σ3.length _ _ (List.IsPrefix.trans q3 pb) ⟨BL, o, w, W, none, 0, 0, ⟨hb, ⟨prefix_get pb b3, (r3.mono pb).low (Nat.zero_le _), (i3.mono pb).es⟩, v3', fun h => by cases h⟩, rfl⟩ fun id hid => ?_
  rcases hid with rfl | (rfl | ho) | ⟨h, _⟩
  · exact prefix_len q3
  · omega
  · subst ho
    exact Nat.le_trans lq2 r3.2.1
  · cases h
end Go.Proofs.YthmdecfiijgaoaaGreat
