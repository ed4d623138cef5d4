/- A node of a group in the heap; its letters; what its small functions do. -/
import Derived.Test.YthmdecfiijgaoaaGreatL20P
import Derived.Test.YthmdecfiijgaoaaGreatAmFlat
namespace Go.Proofs.YthmdecfiijgaoaaGreat
set_option maxRecDepth 100000
open Go Go.AM Go.AM.St
open Go.Raft (termAt fromL newer len)
abbrev NSR := Go.Raft.NS RecP
abbrev Lm := Go.Raft.Lt RecP
/-- A node's cells. -/
abbrev nc (v : NSR) (BL : Nat) (bx : Option PA) : List AV := [.int .i64 v.me, .int .i64 v.term, .int .i64 v.voted, .ptr (some ⟨BL, 0, 0, 1⟩), .int .i64 v.role, .int .i64 v.leader, .int .i64 v.silent, .int .i64 v.commit, .ptr bx,
  .int .i64 (v.next 0), .int .i64 (v.next 1), .int .i64 (v.next 2), .int .i64 (v.mat 0), .int .i64 (v.mat 1), .int .i64 (v.mat 2)]
/-- A letter's. -/
abbrev lc (x : Lm × AM.SA) : List AV := [.int .i64 x.1.kind, .int .i64 x.1.src, .int .i64 x.1.dst, .int .i64 x.1.term, .int .i64 x.1.a, .int .i64 x.1.b, .int .i64 x.1.commit, .bool x.1.yes, .sl x.2 x.1.es.length]
theorem lc_len (x : Lm × AM.SA) : (lc x).length = 9 := rfl
def IsLt (σ : H) (x : Lm × AM.SA) : Prop := ∃ V, vals V = x.1.es ∧ Rw σ 4 x.2 V.length (ents V) ∧ IsEs σ V
def Frsh (L : Nat) (w : AM.SA) : Prop := ∀ id off z, w = .at id off z → L ≤ id
theorem Frsh.nil (L : Nat) : Frsh L .nil := fun _ _ _ h => by cases h
theorem Frsh.low {L L' : Nat} {w : AM.SA} (h : Frsh L w) (hl : L' ≤ L) : Frsh L' w := fun id off z e => Nat.le_trans hl (h id off z e)
theorem IsLt.mono {σ σ' : H} {x : Lm × AM.SA} (h : IsLt σ x) (p : σ <+: σ') : IsLt σ' x := by
  obtain ⟨V, h1, h2, h3⟩ := h
  exact ⟨V, h1, h2.mono p, h3.mono p⟩
theorem IsLt.nil {σ : H} {l : Lm} (h : l.es = []) : IsLt σ (l, .nil) := ⟨[], h.symm, Rw.nil _ _, IsEs.nil _⟩
theorem IsLt.stq {F F' : Nat → Prop} {σ σ' : H} {x : Lm × AM.SA} (h : IsLt σ x) (s : Stq F F' σ σ') (hF : ∀ id off z, x.2 = .at id off z → ¬ F id) : IsLt σ' x := by
  obtain ⟨V, h1, h2, h3⟩ := h
  refine ⟨V, h1, ?_, s.es h3⟩
  rcases h2 with h | h | ⟨id, off, xs, md, e, g1, g2⟩
  · exact .inl h
  · exact .inr (.inl h)
  · exact .inr (.inr ⟨id, off, xs, md, e, s.get g1 (hF _ _ _ e), g2⟩)
theorem IsLt.len {σ : H} {x : Lm × AM.SA} (h : IsLt σ x) : ∃ V, vals V = x.1.es ∧ V.length = x.1.es.length ∧ Rw σ 4 x.2 V.length (ents V) ∧ IsEs σ V := by
  obtain ⟨V, h1, h2, h3⟩ := h
  exact ⟨V, h1, by rw [← h1, vals_len], h2, h3⟩
/-- The votes. -/
def BoxAt (σ : H) (bx : Option PA) (f : Nat → Bool) (b m : Nat) : Prop := bx = some ⟨b, 0, 0, 2⟩ ∧ σ[b]? = some (AO.cells [.int .i64 3, .map (some m)] 2 .own) ∧
  ∃ es c S, σ[m]? = some (.map es c) ∧ Ents es S ∧ S.length = ([0, 1, 2].filter f).length ∧ ∀ j : Nat, j < 3 → (f j = true ↔ (j : Int) ∈ S)
structure NVx (σ : H) (B BL : Nat) (o : Option Nat) (w : AM.SA) (V : List En) (bx : Option PA) (b m : Nat) (v : NSR) : Prop where
  hB : σ[B]? = some (AO.cells (nc v BL bx) 15 .own)
  hL : LogV σ BL o w V
  hV : vals V = v.log
  hX : v.role = 2 → BoxAt σ bx v.box b m
def fpN (B BL : Nat) (o : Option Nat) (b m : Nat) (r : Int) : Nat → Prop := fun id => id = B ∨ fpL BL o id ∨ (r = 2 ∧ (id = b ∨ id = m))
/-- Here lies a node; what it calls its own is F. -/
def NV (σ : H) (B : Nat) (v : NSR) (F : Nat → Prop) : Prop := ∃ BL o w V bx b m, NVx σ B BL o w V bx b m v ∧ F = fpN B BL o b m v.role
structure OkN (v : NSR) : Prop where
  me : v.me < 3
  s0 : 0 ≤ v.silent
  s1 : v.silent < Go.Raft.wait v.me
  l : v.log.length ≤ 2000
  sm : Small v.log
  t0 : 0 ≤ v.term
  t1 : v.term ≤ 2000000000000000000
  nx : ∀ j, j < 3 → 0 ≤ v.next j ∧ v.next j ≤ 2001
  mt : ∀ j, j < 3 → 0 ≤ v.mat j ∧ v.mat j ≤ 2000
  c0 : 0 ≤ v.commit
theorem NVx.stq {F F' : Nat → Prop} {σ σ' : H} {B BL b m : Nat} {o : Option Nat} {w : AM.SA} {V : List En} {bx : Option PA} {v : NSR} (h : NVx σ B BL o w V bx b m v) (s : Stq F F' σ σ') (hF : ∀ id, fpN B BL o b m v.role id → ¬ F id) : NVx σ' B BL o w V bx b m v := by
  refine ⟨s.get h.hB (hF B (.inl rfl)), h.hL.stq s fun id x => hF id (.inr (.inl x)), h.hV, fun hr => ?_⟩
  obtain ⟨h1, h2, es, c, S, h3, h4⟩ := h.hX hr
  exact ⟨h1, s.get h2 (hF b (.inr (.inr ⟨hr, .inl rfl⟩))), es, c, S, s.get h3 (hF m (.inr (.inr ⟨hr, .inr rfl⟩))), h4⟩
theorem NVx.mono {σ σ' : H} {B BL b m : Nat} {o : Option Nat} {w : AM.SA} {V : List En} {bx : Option PA} {v : NSR} (h : NVx σ B BL o w V bx b m v) (p : σ <+: σ') : NVx σ' B BL o w V bx b m v :=
  h.stq (Stq.pre (fun _ => False) p) fun _ _ h => h
theorem NV.stq {F G G' : Nat → Prop} {σ σ' : H} {B : Nat} {v : NSR} (h : NV σ B v F) (s : Stq G G' σ σ') (hF : ∀ id, F id → ¬ G id) : NV σ' B v F := by
  obtain ⟨BL, o, w, V, bx, b, m, h1, rfl⟩ := h
  exact ⟨BL, o, w, V, bx, b, m, h1.stq s hF, rfl⟩
theorem NVx.lenV {σ : H} {B BL b m : Nat} {o : Option Nat} {w : AM.SA} {V : List En} {bx : Option PA} {v : NSR} (h : NVx σ B BL o w V bx b m v) : V.length = v.log.length := by rw [← h.hV, vals_len]
theorem NVx.ltB {σ : H} {B BL b m : Nat} {o : Option Nat} {w : AM.SA} {V : List En} {bx : Option PA} {v : NSR} (h : NVx σ B BL o w V bx b m v) : B < σ.length := get_lt h.hB
theorem idxArr {id b d z : Nat} {k : IntKind} {i : Nat} {K : AV → Bool} (hi : i < 3) (hz : d + i < z) (hK : K (.ptr (some ⟨id, b, d + i * 1, z⟩)) = true) : indexAddrK Tryz.prog 60 (.ptr (some ⟨id, b, d, z⟩)) (.int k (i : Int)) K = true := by
  unfold indexAddrK
  rw [Tryz.underlying60]
  simp only
  rw [show ∀ K, esizeK Tryz.prog 2 K = K 1 from fun _ => rfl]
  refine bif_pos ?_ (by simpa using hK)
  simp only [Int.toNat_natCast, Nat.mul_one, Bool.and_eq_true, decide_eq_true_eq]
  omega
theorem storeSt {h k : Nat} {xs : List AV} {a b : Int} {s : AM.SA} {τ : H} {K : H → Bool} (hx : xs.length = 3) (hh : τ[h]? = some (.cells xs 3 .own)) (hK : K (τ.set h (.cells [.int .i64 a, .int .i64 b, .sl s k] 3 .own)) = true) :
    storeK Tryz.prog 43 (.ptr (some ⟨h, 0, 0, 3⟩)) (.agg [.int .i64 a, .int .i64 b, .sl s k]) τ K = true :=
  storeS (i := Tryz.prog.types[43]) rfl hh rfl hx (Nat.le_refl 3) rfl hK
theorem storeLt {h : Nat} {xs : List AV} {x : Lm × AM.SA} {τ : H} {K : H → Bool} (hx : xs.length = 9) (hh : τ[h]? = some (.cells xs 9 .own)) (hK : K (τ.set h (.cells (lc x) 9 .own)) = true) :
    storeK Tryz.prog 46 (.ptr (some ⟨h, 0, 0, 9⟩)) (.agg (lc x)) τ K = true :=
  storeS (i := Tryz.prog.types[46]) rfl hh rfl hx (Nat.le_refl 9) rfl hK
theorem ldLt {h : Nat} {x : Lm × AM.SA} {md : Md} {τ : H} {K : AV → Bool} (hh : τ[h]? = some (.cells (lc x) 9 md)) (hK : K (.agg (lc x)) = true) : ldK Tryz.prog 46 τ ⟨h, 0, 0, 9⟩ K = true := by
  refine ldS Tryz.underlying46 rfl hh (Nat.le_refl 9) (Nat.le_refl 9) rfl ?_
  conv => lhs; whnf
  exact hK
abbrev lc0 : List AV := [.int .i64 0, .int .i64 0, .int .i64 0, .int .i64 0, .int .i64 0, .int .i64 0, .int .i64 0, .bool false, .sl .nil 0]
attribute [local irreducible] IntKind.wrap Int.fdiv Int.tdiv Int.tmod BitVec.ofInt appendK sliceK indexAddrK ldK storeK seenK makeSliceK lookupK updateK clearK
variable {D : Drawer} {σ : H} {B BL b m : Nat} {o : Option Nat} {w : AM.SA} {V : List En} {bx : Option PA} {v : NSR}
theorem begun_all {n : Nat} {K : AV → H → Bool} (hK : K (.bool true) σ = true) : acall Tryz.prog tab D n 12 [] σ K = true := by
  cases n <;> exact hK
theorem role_spec {n : Nat} (hn : 1 ≤ n) (hB : σ[B]? = some (AO.cells (nc v BL bx) 15 .own)) {K : AV → H → Bool} (hK : K (.int .i64 v.role) σ = true) :
    acall Tryz.prog tab D n 32 [.ptr (some ⟨B, 0, 0, 15⟩)] σ K = true := by
  obtain ⟨n, rfl, hn⟩ := up hn
  repeat ((conv => lhs; whnf); first | ((with_reducible apply gLd); apply ldF; (focus (rfl)); (focus (rfl)); (focus (rfl)); (focus ((repeat (first | assumption | exact get_new _ _ | refine get_old ?_ _ | refine get_set ?_ _ | refine get_set_ne ?_ (by first | assumption | (simp <;> omega) | omega) _ | refine prefix_get (by assumption) ?_)); done)); (focus (rfl))) | ((with_reducible apply gSt); first | (apply st_int; (focus (rfl)); (focus (rfl)); (focus (decide)); (focus ((repeat (first | assumption | exact get_new _ _ | refine get_old ?_ _ | refine get_set ?_ _ | refine get_set_ne ?_ (by first | assumption | (simp <;> omega) | omega) _ | refine prefix_get (by assumption) ?_)); done)); (focus (decide))) | (apply st_sl; (focus (rfl)); (focus (rfl)); (focus (decide)); (focus ((repeat (first | assumption | exact get_new _ _ | refine get_old ?_ _ | refine get_set ?_ _ | refine get_set_ne ?_ (by first | assumption | (simp <;> omega) | omega) _ | refine prefix_get (by assumption) ?_)); done)); (focus (decide))) | (apply st_bool; (focus (rfl)); (focus (rfl)); (focus (decide)); (focus ((repeat (first | assumption | exact get_new _ _ | refine get_old ?_ _ | refine get_set ?_ _ | refine get_set_ne ?_ (by first | assumption | (simp <;> omega) | omega) _ | refine prefix_get (by assumption) ?_)); done)); (focus (decide))) | (apply st_ptr; (focus (rfl)); (focus (rfl)); (focus (decide)); (focus ((repeat (first | assumption | exact get_new _ _ | refine get_old ?_ _ | refine get_set ?_ _ | refine get_set_ne ?_ (by first | assumption | (simp <;> omega) | omega) _ | refine prefix_get (by assumption) ?_)); done)); (focus (decide)))) | (refine and_true ?_ ?_; (focus ((repeat (first | refine all_skip rfl ?_ | exact rfl | (refine all_cons ?_ ?_; (focus ((conv => lhs; whnf); ((with_reducible apply gLd); apply ldF; (focus (rfl)); (focus (rfl)); (focus (rfl)); (focus ((repeat (first | assumption | exact get_new _ _ | refine get_old ?_ _ | refine get_set ?_ _ | refine get_set_ne ?_ (by first | assumption | (simp <;> omega) | omega) _ | refine prefix_get (by assumption) ?_)); done)); (focus (rfl))); (first | exact cs_int rfl | exact cs_ptr rfl | exact cs_sl rfl | exact cs_str rfl | exact cs_bool rfl | exact cs_map rfl | exact same_int _ _ | exact same_sl _ _ | exact same_str _ | exact same_ptr _ | rfl)))))); done))))
  conv => lhs; whnf
  exact hK
theorem leader_spec {n : Nat} (hn : 1 ≤ n) (hB : σ[B]? = some (AO.cells (nc v BL bx) 15 .own)) {K : AV → H → Bool} (hK : K (.int .i64 v.leader) σ = true) :
    acall Tryz.prog tab D n 38 [.ptr (some ⟨B, 0, 0, 15⟩)] σ K = true := by
  obtain ⟨n, rfl, hn⟩ := up hn
  repeat ((conv => lhs; whnf); first | ((with_reducible apply gLd); apply ldF; (focus (rfl)); (focus (rfl)); (focus (rfl)); (focus ((repeat (first | assumption | exact get_new _ _ | refine get_old ?_ _ | refine get_set ?_ _ | refine get_set_ne ?_ (by first | assumption | (simp <;> omega) | omega) _ | refine prefix_get (by assumption) ?_)); done)); (focus (rfl))) | ((with_reducible apply gSt); first | (apply st_int; (focus (rfl)); (focus (rfl)); (focus (decide)); (focus ((repeat (first | assumption | exact get_new _ _ | refine get_old ?_ _ | refine get_set ?_ _ | refine get_set_ne ?_ (by first | assumption | (simp <;> omega) | omega) _ | refine prefix_get (by assumption) ?_)); done)); (focus (decide))) | (apply st_sl; (focus (rfl)); (focus (rfl)); (focus (decide)); (focus ((repeat (first | assumption | exact get_new _ _ | refine get_old ?_ _ | refine get_set ?_ _ | refine get_set_ne ?_ (by first | assumption | (simp <;> omega) | omega) _ | refine prefix_get (by assumption) ?_)); done)); (focus (decide))) | (apply st_bool; (focus (rfl)); (focus (rfl)); (focus (decide)); (focus ((repeat (first | assumption | exact get_new _ _ | refine get_old ?_ _ | refine get_set ?_ _ | refine get_set_ne ?_ (by first | assumption | (simp <;> omega) | omega) _ | refine prefix_get (by assumption) ?_)); done)); (focus (decide))) | (apply st_ptr; (focus (rfl)); (focus (rfl)); (focus (decide)); (focus ((repeat (first | assumption | exact get_new _ _ | refine get_old ?_ _ | refine get_set ?_ _ | refine get_set_ne ?_ (by first | assumption | (simp <;> omega) | omega) _ | refine prefix_get (by assumption) ?_)); done)); (focus (decide)))) | (refine and_true ?_ ?_; (focus ((repeat (first | refine all_skip rfl ?_ | exact rfl | (refine all_cons ?_ ?_; (focus ((conv => lhs; whnf); ((with_reducible apply gLd); apply ldF; (focus (rfl)); (focus (rfl)); (focus (rfl)); (focus ((repeat (first | assumption | exact get_new _ _ | refine get_old ?_ _ | refine get_set ?_ _ | refine get_set_ne ?_ (by first | assumption | (simp <;> omega) | omega) _ | refine prefix_get (by assumption) ?_)); done)); (focus (rfl))); (first | exact cs_int rfl | exact cs_ptr rfl | exact cs_sl rfl | exact cs_str rfl | exact cs_bool rfl | exact cs_map rfl | exact same_int _ _ | exact same_sl _ _ | exact same_str _ | exact same_ptr _ | rfl)))))); done))))
  conv => lhs; whnf
  exact hK
theorem commit_spec {n : Nat} (hn : 1 ≤ n) (hB : σ[B]? = some (AO.cells (nc v BL bx) 15 .own)) {K : AV → H → Bool} (hK : K (.int .i64 v.commit) σ = true) :
    acall Tryz.prog tab D n 34 [.ptr (some ⟨B, 0, 0, 15⟩)] σ K = true := by
  obtain ⟨n, rfl, hn⟩ := up hn
  repeat ((conv => lhs; whnf); first | ((with_reducible apply gLd); apply ldF; (focus (rfl)); (focus (rfl)); (focus (rfl)); (focus ((repeat (first | assumption | exact get_new _ _ | refine get_old ?_ _ | refine get_set ?_ _ | refine get_set_ne ?_ (by first | assumption | (simp <;> omega) | omega) _ | refine prefix_get (by assumption) ?_)); done)); (focus (rfl))) | ((with_reducible apply gSt); first | (apply st_int; (focus (rfl)); (focus (rfl)); (focus (decide)); (focus ((repeat (first | assumption | exact get_new _ _ | refine get_old ?_ _ | refine get_set ?_ _ | refine get_set_ne ?_ (by first | assumption | (simp <;> omega) | omega) _ | refine prefix_get (by assumption) ?_)); done)); (focus (decide))) | (apply st_sl; (focus (rfl)); (focus (rfl)); (focus (decide)); (focus ((repeat (first | assumption | exact get_new _ _ | refine get_old ?_ _ | refine get_set ?_ _ | refine get_set_ne ?_ (by first | assumption | (simp <;> omega) | omega) _ | refine prefix_get (by assumption) ?_)); done)); (focus (decide))) | (apply st_bool; (focus (rfl)); (focus (rfl)); (focus (decide)); (focus ((repeat (first | assumption | exact get_new _ _ | refine get_old ?_ _ | refine get_set ?_ _ | refine get_set_ne ?_ (by first | assumption | (simp <;> omega) | omega) _ | refine prefix_get (by assumption) ?_)); done)); (focus (decide))) | (apply st_ptr; (focus (rfl)); (focus (rfl)); (focus (decide)); (focus ((repeat (first | assumption | exact get_new _ _ | refine get_old ?_ _ | refine get_set ?_ _ | refine get_set_ne ?_ (by first | assumption | (simp <;> omega) | omega) _ | refine prefix_get (by assumption) ?_)); done)); (focus (decide)))) | (refine and_true ?_ ?_; (focus ((repeat (first | refine all_skip rfl ?_ | exact rfl | (refine all_cons ?_ ?_; (focus ((conv => lhs; whnf); ((with_reducible apply gLd); apply ldF; (focus (rfl)); (focus (rfl)); (focus (rfl)); (focus ((repeat (first | assumption | exact get_new _ _ | refine get_old ?_ _ | refine get_set ?_ _ | refine get_set_ne ?_ (by first | assumption | (simp <;> omega) | omega) _ | refine prefix_get (by assumption) ?_)); done)); (focus (rfl))); (first | exact cs_int rfl | exact cs_ptr rfl | exact cs_sl rfl | exact cs_str rfl | exact cs_bool rfl | exact cs_map rfl | exact same_int _ _ | exact same_sl _ _ | exact same_str _ | exact same_ptr _ | rfl)))))); done))))
  conv => lhs; whnf
  exact hK
theorem wait_spec {n k : Nat} (hn : 1 ≤ n) (hm : k < 3) {K : AV → H → Bool} (hK : K (.int .i64 (Go.Raft.wait k)) σ = true) : acall Tryz.prog tab D n 66 [.int .i64 (k : Int)] σ K = true := by
  obtain ⟨n, rfl, hn⟩ := up hn
  have e : IntKind.i64.wrap (3 * IntKind.i64.wrap ((if (k : Int) < 0 then 0 else (k : Int)) + 1)) = Go.Raft.wait k := by
    have e1 : IntKind.i64.wrap ((k : Int) + 1) = (k : Int) + 1 := wrap_i64 (by omega) (by omega)
    rw [if_neg (by omega), e1, wrap_i64 (by omega) (by omega)]; rfl
  rw [← e] at hK
  repeat ((conv => lhs; whnf); first | ((with_reducible apply gLd); apply ldF; (focus (rfl)); (focus (rfl)); (focus (rfl)); (focus ((repeat (first | assumption | exact get_new _ _ | refine get_old ?_ _ | refine get_set ?_ _ | refine get_set_ne ?_ (by first | assumption | (simp <;> omega) | omega) _ | refine prefix_get (by assumption) ?_)); done)); (focus (rfl))) | ((with_reducible apply gSt); first | (apply st_int; (focus (rfl)); (focus (rfl)); (focus (decide)); (focus ((repeat (first | assumption | exact get_new _ _ | refine get_old ?_ _ | refine get_set ?_ _ | refine get_set_ne ?_ (by first | assumption | (simp <;> omega) | omega) _ | refine prefix_get (by assumption) ?_)); done)); (focus (decide))) | (apply st_sl; (focus (rfl)); (focus (rfl)); (focus (decide)); (focus ((repeat (first | assumption | exact get_new _ _ | refine get_old ?_ _ | refine get_set ?_ _ | refine get_set_ne ?_ (by first | assumption | (simp <;> omega) | omega) _ | refine prefix_get (by assumption) ?_)); done)); (focus (decide))) | (apply st_bool; (focus (rfl)); (focus (rfl)); (focus (decide)); (focus ((repeat (first | assumption | exact get_new _ _ | refine get_old ?_ _ | refine get_set ?_ _ | refine get_set_ne ?_ (by first | assumption | (simp <;> omega) | omega) _ | refine prefix_get (by assumption) ?_)); done)); (focus (decide))) | (apply st_ptr; (focus (rfl)); (focus (rfl)); (focus (decide)); (focus ((repeat (first | assumption | exact get_new _ _ | refine get_old ?_ _ | refine get_set ?_ _ | refine get_set_ne ?_ (by first | assumption | (simp <;> omega) | omega) _ | refine prefix_get (by assumption) ?_)); done)); (focus (decide)))) | (refine and_true ?_ ?_; (focus ((repeat (first | refine all_skip rfl ?_ | exact rfl | (refine all_cons ?_ ?_; (focus ((conv => lhs; whnf); ((with_reducible apply gLd); apply ldF; (focus (rfl)); (focus (rfl)); (focus (rfl)); (focus ((repeat (first | assumption | exact get_new _ _ | refine get_old ?_ _ | refine get_set ?_ _ | refine get_set_ne ?_ (by first | assumption | (simp <;> omega) | omega) _ | refine prefix_get (by assumption) ?_)); done)); (focus (rfl))); (first | exact cs_int rfl | exact cs_ptr rfl | exact cs_sl rfl | exact cs_str rfl | exact cs_bool rfl | exact cs_map rfl | exact same_int _ _ | exact same_sl _ _ | exact same_str _ | exact same_ptr _ | rfl)))))); done))))
  conv => lhs; whnf
  exact hK
/-- State. -/
theorem state_spec {n : Nat} (hn : 2200 ≤ n) (hD : ByPlan Tryz.prog D) (h : NVx σ B BL o w V bx b m v) (ok : OkN v) {K : AV → H → Bool}
    (hK : ∀ o' w' W σ', σ <+: σ' → EsS σ σ' W → vals W = v.log → OwnS σ σ' 4 o' w' W.length (ents W) → K (.agg [.int .i64 v.term, .int .i64 v.voted, .sl w' v.log.length]) σ' = true) :
    acall Tryz.prog tab D n 20 [.ptr (some ⟨B, 0, 0, 15⟩)] σ K = true := by
  obtain ⟨n, rfl, hn⟩ := up hn
  have hl := h.lenV
  have hl2 := ok.l
  have h1 := h.mono (List.prefix_append σ [AO.cells [.int .i64 0, .int .i64 0, .sl .nil 0] 3 .own])
  have hB1 := h1.hB
  have g := get_new σ (AO.cells [.int .i64 0, .int .i64 0, .sl .nil 0] 3 .own)
  repeat ((conv => lhs; whnf); first | ((with_reducible apply gLd); apply ldF; (focus (rfl)); (focus (rfl)); (focus (rfl)); (focus ((repeat (first | assumption | exact get_new _ _ | refine get_old ?_ _ | refine get_set ?_ _ | refine get_set_ne ?_ (by first | assumption | (simp <;> omega) | omega) _ | refine prefix_get (by assumption) ?_)); done)); (focus (rfl))) | ((with_reducible apply gSt); first | (apply st_int; (focus (rfl)); (focus (rfl)); (focus (decide)); (focus ((repeat (first | assumption | exact get_new _ _ | refine get_old ?_ _ | refine get_set ?_ _ | refine get_set_ne ?_ (by first | assumption | (simp <;> omega) | omega) _ | refine prefix_get (by assumption) ?_)); done)); (focus (decide))) | (apply st_sl; (focus (rfl)); (focus (rfl)); (focus (decide)); (focus ((repeat (first | assumption | exact get_new _ _ | refine get_old ?_ _ | refine get_set ?_ _ | refine get_set_ne ?_ (by first | assumption | (simp <;> omega) | omega) _ | refine prefix_get (by assumption) ?_)); done)); (focus (decide))) | (apply st_bool; (focus (rfl)); (focus (rfl)); (focus (decide)); (focus ((repeat (first | assumption | exact get_new _ _ | refine get_old ?_ _ | refine get_set ?_ _ | refine get_set_ne ?_ (by first | assumption | (simp <;> omega) | omega) _ | refine prefix_get (by assumption) ?_)); done)); (focus (decide))) | (apply st_ptr; (focus (rfl)); (focus (rfl)); (focus (decide)); (focus ((repeat (first | assumption | exact get_new _ _ | refine get_old ?_ _ | refine get_set ?_ _ | refine get_set_ne ?_ (by first | assumption | (simp <;> omega) | omega) _ | refine prefix_get (by assumption) ?_)); done)); (focus (decide)))) | refine ByPlan.go (by assumption) plan20x3 ord20x3 ?_ | (refine and_true ?_ ?_; (focus ((repeat (first | refine all_skip rfl ?_ | exact rfl | (refine all_cons ?_ ?_; (focus ((conv => lhs; whnf); ((with_reducible apply gLd); apply ldF; (focus (rfl)); (focus (rfl)); (focus (rfl)); (focus ((repeat (first | assumption | exact get_new _ _ | refine get_old ?_ _ | refine get_set ?_ _ | refine get_set_ne ?_ (by first | assumption | (simp <;> omega) | omega) _ | refine prefix_get (by assumption) ?_)); done)); (focus (rfl))); (first | exact cs_int rfl | exact cs_ptr rfl | exact cs_sl rfl | exact cs_str rfl | exact cs_bool rfl | exact cs_map rfl | exact same_int _ _ | exact same_sl _ _ | exact same_str _ | exact same_ptr _ | rfl)))))); done))))
  conv => lhs; whnf
  refine fromA_spec (m := 2000) (by omega) (by decide) (by decide) (by decide) (by decide) (by omega) hD h1.hL.log (by rw [h.hV]; exact ok.sm) fun o2 w2 W2 σ2 p2 i2 v2 r2 => ?_
  have e2 : vals W2 = v.log := by
    rw [v2, h.hV]
    unfold fromL len
    by_cases h0 : v.log.length = 0
    · rw [if_pos (by omega)]; exact (List.length_eq_zero_iff.1 h0).symm
    · rw [if_neg (by omega)]
      exact List.take_of_length_le (by rw [List.length_drop]; omega)
  have l2 : W2.length = v.log.length := by rw [← e2, vals_len]
  have hB2 := prefix_get p2 hB1
  have g2 := prefix_get p2 g
  repeat ((conv => lhs; whnf); first | ((with_reducible apply gLd); apply ldF; (focus (rfl)); (focus (rfl)); (focus (rfl)); (focus ((repeat (first | assumption | exact get_new _ _ | refine get_old ?_ _ | refine get_set ?_ _ | refine get_set_ne ?_ (by first | assumption | (simp <;> omega) | omega) _ | refine prefix_get (by assumption) ?_)); done)); (focus (rfl))) | ((with_reducible apply gSt); first | (apply st_int; (focus (rfl)); (focus (rfl)); (focus (decide)); (focus ((repeat (first | assumption | exact get_new _ _ | refine get_old ?_ _ | refine get_set ?_ _ | refine get_set_ne ?_ (by first | assumption | (simp <;> omega) | omega) _ | refine prefix_get (by assumption) ?_)); done)); (focus (decide))) | (apply st_sl; (focus (rfl)); (focus (rfl)); (focus (decide)); (focus ((repeat (first | assumption | exact get_new _ _ | refine get_old ?_ _ | refine get_set ?_ _ | refine get_set_ne ?_ (by first | assumption | (simp <;> omega) | omega) _ | refine prefix_get (by assumption) ?_)); done)); (focus (decide))) | (apply st_bool; (focus (rfl)); (focus (rfl)); (focus (decide)); (focus ((repeat (first | assumption | exact get_new _ _ | refine get_old ?_ _ | refine get_set ?_ _ | refine get_set_ne ?_ (by first | assumption | (simp <;> omega) | omega) _ | refine prefix_get (by assumption) ?_)); done)); (focus (decide))) | (apply st_ptr; (focus (rfl)); (focus (rfl)); (focus (decide)); (focus ((repeat (first | assumption | exact get_new _ _ | refine get_old ?_ _ | refine get_set ?_ _ | refine get_set_ne ?_ (by first | assumption | (simp <;> omega) | omega) _ | refine prefix_get (by assumption) ?_)); done)); (focus (decide)))) | refine ByPlan.go (by assumption) plan20x3 ord20x3 ?_ | (refine and_true ?_ ?_; (focus ((repeat (first | refine all_skip rfl ?_ | exact rfl | (refine all_cons ?_ ?_; (focus ((conv => lhs; whnf); ((with_reducible apply gLd); apply ldF; (focus (rfl)); (focus (rfl)); (focus (rfl)); (focus ((repeat (first | assumption | exact get_new _ _ | refine get_old ?_ _ | refine get_set ?_ _ | refine get_set_ne ?_ (by first | assumption | (simp <;> omega) | omega) _ | refine prefix_get (by assumption) ?_)); done)); (focus (rfl))); (first | exact cs_int rfl | exact cs_ptr rfl | exact cs_sl rfl | exact cs_str rfl | exact cs_bool rfl | exact cs_map rfl | exact same_int _ _ | exact same_sl _ _ | exact same_str _ | exact same_ptr _ | rfl)))))); done))))
  conv => lhs; whnf
  refine storeSt rfl g2 ?_
  have g3 := get_set g2 (AO.cells [.int .i64 v.term, .int .i64 v.voted, .sl w2 W2.length] 3 .own)
  conv => lhs; whnf
  refine ldS Tryz.underlying43 rfl g3 (Nat.le_refl 3) (Nat.le_refl 3) rfl ?_
  conv => lhs; whnf
  have q : σ <+: σ2.set σ.length (AO.cells [.int .i64 v.term, .int .i64 v.voted, .sl w2 W2.length] 3 .own) := prefix_set (List.IsPrefix.trans (List.prefix_append _ _) p2) (Nat.le_refl _) _
  have hlt : σ.length < (σ ++ [AO.cells [AV.int .i64 0, .int .i64 0, .sl .nil 0] 3 .own]).length := by simp
  have hfin := hK o2 w2 W2 (σ2.set σ.length (AO.cells [.int .i64 v.term, .int .i64 v.voted, .sl w2 W2.length] 3 .own)) q (fun e he => by
    obtain ⟨⟨oa, ha⟩, ob, hb⟩ := i2 e he
    exact ⟨⟨oa, (ha.keep (σ' := σ2.set σ.length _) fun id e => by subst e; exact List.getElem?_set_ne (Nat.ne_of_lt (Nat.lt_of_lt_of_le hlt ha.2.1))).low (by omega)⟩, ob, (hb.keep (σ' := σ2.set σ.length _) fun id e => by subst e; exact List.getElem?_set_ne (Nat.ne_of_lt (Nat.lt_of_lt_of_le hlt hb.2.1))).low (by omega)⟩) e2
    ((r2.keep (σ' := σ2.set σ.length _) fun id e => by subst e; exact List.getElem?_set_ne (Nat.ne_of_lt (Nat.lt_of_lt_of_le hlt r2.2.1))).low (by omega))
  rw [← l2] at hfin
  exact hfin
end Go.Proofs.YthmdecfiijgaoaaGreat
