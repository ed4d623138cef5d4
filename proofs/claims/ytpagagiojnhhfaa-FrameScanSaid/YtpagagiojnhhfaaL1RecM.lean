/- RecMany. -/
import Derived.Test.YtpagagiojnhhfaaL1RecA
import Derived.Test.YtpagagiojnhhfaaGmStep
namespace Go.Proofs.Ytpagagiojnhhfaa
open Go Go.AM Go.AM.St

/-- A record in a row: its slices, and what they read. -/
abbrev El := SA × SA × RecP
abbrev elCells (e : El) : List AV := [.int .i64 e.2.2.kind, .sl e.1 e.2.2.nums.length, .sl e.2.1 e.2.2.texts.length]
def recs : List El → List AV
  | [] => []
  | e :: l => elCells e ++ recs l
theorem recs_len : ∀ l : List El, (recs l).length = l.length * 3
  | [] => rfl
  | e :: l => by rw [recs, List.length_append, recs_len l, List.length_cons]; simp; omega
theorem recs_app : ∀ (a b : List El), recs a ++ recs b = recs (a ++ b)
  | [], _ => rfl
  | e :: l, b => by rw [recs, List.append_assoc, recs_app l b]; rfl
theorem recs_at : ∀ {l : List El} {i : Nat} (h : i < l.length), ((recs l).drop (i * 3)).take 3 = elCells l[i]
  | e :: l, 0, _ => rfl
  | e :: l, i + 1, h => by
    have := recs_at (l := l) (i := i) (by simpa using h)
    rw [recs, List.drop_append, List.drop_eq_nil_of_le (by simp; omega), List.nil_append]
    rw [show (i + 1) * 3 - (elCells e).length = i * 3 by simp; omega]
    exact this
def IsRs (σ : H) (l : List El) : Prop := ∀ e ∈ l, IsR σ e.1 e.2.1 e.2.2
theorem IsRs.nil (σ : H) : IsRs σ [] := fun e he => by cases he
theorem IsRs.mono {σ σ' : H} {l : List El} (h : IsRs σ l) (hp : σ <+: σ') : IsRs σ' l := fun e he => (h e he).mono hp
theorem IsRs.ext {σ σ' : H} {l : List El} (h : IsRs σ l) (hp : Ext σ σ') : IsRs σ' l := fun e he => ⟨Rw.ext (h e he).nums hp, Rw.ext (h e he).texts hp⟩
def encW : List El → List Nat
  | [] => []
  | e :: l => putR e.2.2 ++ encW l
theorem encW_snoc : ∀ (l : List El) (e : El), encW (l ++ [e]) = encW l ++ putR e.2.2
  | [], e => by simp [encW]
  | x :: l, e => by rw [List.cons_append, encW, encW, encW_snoc l e, List.append_assoc]
theorem encW_len : ∀ l : List El, (∀ e ∈ l, mayR e.2.2 = true) → (encW l).length ≤ 9000 * l.length
  | [], _ => Nat.le_refl _
  | e :: l, h => by
    have := putR_len (h e List.mem_cons_self)
    have := encW_len l fun x hx => h x (List.mem_cons_of_mem _ hx)
    rw [encW, List.length_append, List.length_cons]
    omega
theorem encW_lt : ∀ l : List El, (∀ e ∈ l, OkR e.2.2) → ∀ b ∈ encW l, b < 256
  | [], _, b, h => by cases h
  | e :: l, hl, b, h => (List.mem_append.1 h).elim (putR_lt (fun t ht => ((hl e List.mem_cons_self).ts t ht).1) b) (encW_lt l (fun x hx => hl x (List.mem_cons_of_mem _ hx)) b)
theorem putR_pos (r : RecP) : 0 < (putR r).length := by
  have := enc_pos' (zigN r.kind)
  unfold putR
  simp only [List.length_append]
  omega
theorem Own.other {σ0 σ1 σ : H} {z z' n n' : Nat} {o o' : Option Nat} {a a' : SA} {cs cs' : List AV} (h : Own σ0 σ z o a n cs) (h' : Own σ1 σ z' o' a' n' cs') (hz : z ≠ z') : o = none ∨ o ≠ o' := by
  cases o with
  | none => exact .inl rfl
  | some id =>
    refine .inr fun e => ?_
    subst e
    obtain ⟨off, xs, md, _, _, h3, _⟩ := h
    obtain ⟨off', xs', md', _, _, h3', _⟩ := h'
    rw [h3] at h3'
    cases h3'
    exact hz rfl
theorem shp_recs {σ : H} {m : Nat} : ∀ {k : Nat} {xs : List AV}, xs.length = k * 3 → (∀ i, i < k → Shp Try.prog σ (m + 3) 45 ((xs.drop (i * 3)).take 3)) → ∃ l : List El, xs = recs l ∧ l.length = k ∧ IsRs σ l ∧ ∀ e ∈ l, OkR e.2.2 := by
  intro k
  induction k with
  | zero => intro xs hl _; exact ⟨[], by simpa [recs] using hl, rfl, IsRs.nil σ, fun e he => by cases he⟩
  | succ k ih =>
    intro xs hl h
    have h0 := h 0 (by omega)
    rw [Nat.zero_mul, List.drop_zero] at h0
    obtain ⟨a, b, r, e1, i1, o1⟩ := rec_shp (by rw [List.length_take]; omega) h0
    obtain ⟨l, e2, hlen, i2, o2⟩ := ih (xs := xs.drop 3) (by rw [List.length_drop]; omega) (fun i hi => by
      have := h (i + 1) (by omega)
      rw [List.drop_drop]
      rwa [show 3 + i * 3 = (i + 1) * 3 by omega])
    refine ⟨(a, b, r) :: l, ?_, by simp [hlen], fun e he => ?_, fun e he => ?_⟩
    · rw [recs, ← e2]
      conv => lhs; rw [← List.take_append_drop 3 xs, e1]
    · rcases List.mem_cons.1 he with rfl | he
      · exact i1
      · exact i2 e he
    · rcases List.mem_cons.1 he with rfl | he
      · exact o1
      · exact o2 e he
attribute [local irreducible] IntKind.wrap Int.fdiv Int.tdiv Int.tmod BitVec.ofInt appendK sliceK indexAddrK ldK storeK seenK makeSliceK
set_option maxRecDepth 100000
variable {D : Drawer}

theorem idx60 {σ : H} {s : SA} {l : List El} (hs : Rw σ 3 s l.length (recs l)) {k : IntKind} {y : Int} {i : Nat} {K : AV → Bool} (hy : y = (i : Int)) (hi : i < l.length) (hK : ∀ p, Elem σ 3 p (elCells l[i]) → K (.ptr (some p)) = true) :
    indexAddrK Try.prog 60 (.sl s l.length) (.int k y) K = true := indexAddrK_rw Try.underlying60 (fun _ => rfl) hs hy hi (recs_at hi) hK
theorem ldE {σ : H} {p : PA} {e : El} {K : AV → Bool} (hp : Elem σ 3 p (elCells e)) (hK : K (recV e.1 e.2.1 e.2.2) = true) : ldK Try.prog 45 σ p K = true := by
  refine ldK_struct Try.underlying45 rfl rfl hp ?_
  conv => lhs; whnf
  exact hK

theorem recMany_run {n : Nat} (hn : 80000 ≤ n) {s : SA} {l : List El} {σ : H} (hs : Rw σ 3 s l.length (recs l)) (hi : IsRs σ l) (ho : ∀ e ∈ l, OkR e.2.2) (hD : ByPlan Try.prog D) :
    acall Try.prog tab D n 16 [.sl s l.length] σ isTrue = true := by
  obtain ⟨n, rfl, hn⟩ := up hn
  conv => lhs; whnf
  refine begun_spec ?_
  conv => lhs; whnf
  refine loop_rule (m := 113) (fun q fr τ => ∃ (z : Int) (i : Nat) (ob ow : Option Nat) (b w : SA) (W : List El), z = (i : Int) ∧ i + q = 8 ∧ W.length ≤ i ∧
      fr = [.sl s l.length, .bad, .bad, .bad, .sl b (encW W).length, .sl w W.length, .int .i64 z, .bad, .bad, .bad, .bad, .bad, .bad, .bad, .bad, .bad, .bad, .bad, .bad, .bad, .bad, .bad, .bad, .bad, .bad, .bad, .bad, .bad, .bad, .bad, .bad, .bad, .bad, .bad, .bad, .bad, .bad, .bad, .bad, .bad, .bad, .bad, .bad, .bad, .bad, .bad, .bad, .bad, .bad, .bad, .bad, .bad, .bad, .bad, .bad, .bad, .bad, .bad, .bad, .bad, .bad, .bad, .bad, .bad, .bad, .bad, .bad, .bad, .bad, .bad, .bad, .bad, .bad, .bad, .bad, .bad, .bad, .bad, .bad, .bad, .bad, .bad, .bad, .bad, .bad, .bad] ∧ σ <+: τ ∧ IsRs τ W ∧ (∀ e ∈ W, OkR e.2.2 ∧ mayR e.2.2 = true) ∧
      Own σ τ 1 ob b (encW W).length (u8s (encW W)) ∧ Own σ τ 3 ow w W.length (recs W)) ?_ _ 8 _ _ (by omega)
      ⟨_, 0, none, none, .nil, .nil, [], rfl, by omega, Nat.le_refl _, rfl, List.prefix_refl _, IsRs.nil σ, (fun e he => by cases he), Own.nil _ _ _, Own.nil _ _ _⟩
  rintro q fr τ C ⟨z, i, ob, ow, b, w, W, rfl, hq, hW, rfl, hp, hI, hO, hob, how⟩ next fin
  have hel := encW_len W fun e he => (hO e he).2
  conv => lhs; whnf
  by_cases hlt : i < l.length ∧ i < 8
  · refine bif_pos (by simp; omega) ?_
    conv => lhs; whnf
    refine bif_pos (by simp; omega) ?_
    have hil := hlt.1
    have he := ho _ (List.getElem_mem hil)
    have hie := hi _ (List.getElem_mem hil)
    conv => lhs; whnf
    refine idx60 hs rfl hil fun p hp' => ?_
    generalize hle : l[i] = e at he hie hp'
    conv => lhs; whnf
    refine ldE (hp'.mono hp) ?_
    conv => lhs; whnf
    refine rec_spec (by omega) hD (hie.mono hp) fun a1 b1 τ1 p1 r1 => ?_
    conv => lhs; whnf
    refine put_spec_rec (by omega) r1 he.cut hD (fun hm τ2 p2 => ?_) (fun hm o2 a2 τ2 p2 r2 => ?_)
    · conv => lhs; whnf
      exact next (q - 1) _ _ (by omega) ⟨_, i + 1, ob, ow, b, w, W, inc_i64 (by omega), by omega, by omega, rfl, List.IsPrefix.trans hp (List.IsPrefix.trans p1 p2), hI.mono (List.IsPrefix.trans p1 p2), hO, hob.mono (List.IsPrefix.trans p1 p2), how.mono (List.IsPrefix.trans p1 p2)⟩
    · have P2 := List.IsPrefix.trans p1 p2
      have H2 := List.IsPrefix.trans hp P2
      have hpl := putR_len hm
      conv => lhs; whnf
      refine hD.go plan16x11 ord16x11 ?_
      conv => lhs; whnf
      refine idx60 hs rfl hil fun p3 hp3 => ?_
      conv => lhs; whnf
      rw [hle] at hp3
      refine ldE (hp3.mono H2) ?_
      conv => lhs; whnf
      have hb2 := hob.mono P2
      have hes := encW_snoc W (a1, b1, cutR e.2.2)
      have hlen : (encW W ++ putR (cutR e.2.2)).length ≤ 9000 * 9 := by rw [List.length_append]; omega
      refine bt.appE H2 hb2 r2.rw (encW W ++ putR (cutR e.2.2)) rfl (by omega) fun o3 a3 τ3 p3' k3 _ _ x3 w3 => ?_
      conv => lhs; whnf
      refine and_true (all_cons ?_ rfl) ?_
      · conv => lhs; whnf
        refine ldE (hp3.mono p3') ?_
        exact same_rec _ _ _
      conv => lhs; whnf

      refine rec_spec (by omega) hD (hie.mono p3') fun a4 b4 τ4 p4 r4 => ?_
      have how3 := (how.mono P2).keep k3 (Own.other (how.mono P2) hb2 (by decide))
      have hWe : encW (W ++ [(a4, b4, cutR e.2.2)]) = encW W ++ putR (cutR e.2.2) := encW_snoc W (a4, b4, cutR e.2.2)
      conv => lhs; whnf
      have hrow : Rw (τ4 ++ [AO.cells (elCells (a4, b4, cutR e.2.2)) 3 .own]) 3 (.at τ4.length 0 3) 1 (elCells (a4, b4, cutR e.2.2)) := Rw.new _ _ rfl
      have P4 := List.IsPrefix.trans p3' p4
      refine appendK_ext Try.underlying60 rfl rfl rfl (prefix_add P4 _) (o := ow) ((how3.mono p4).mono (List.prefix_append _ _)) hrow (N := (W ++ [(a4, b4, cutR e.2.2)]).length) (zs := recs (W ++ [(a4, b4, cutR e.2.2)])) (by simp) (recs_app W [(a4, b4, cutR e.2.2)]) ?_ fun o5 a5 τ5 p5 k5 _ _ x5 w5 => ?_
      · show _ * 56 ≤ _
        rw [List.length_append, List.length_singleton]; omega
      conv => lhs; whnf
      have hb4 := (w3.mono p4).mono (List.prefix_append τ4 [AO.cells (elCells (a4, b4, cutR e.2.2)) 3 .own])
      have hw4 := (how3.mono p4).mono (List.prefix_append τ4 [AO.cells (elCells (a4, b4, cutR e.2.2)) 3 .own])
      refine next (q - 1) _ _ (by omega) ⟨_, i + 1, o3, o5, a3, a5, W ++ [(a4, b4, cutR e.2.2)], inc_i64 (by omega), by omega, by rw [List.length_append, List.length_singleton]; omega, by rw [hWe]; rfl, p5, ?_, ?_, by rw [hWe]; exact hb4.keep k5 (Own.other hb4 hw4 (by decide)), w5⟩
      · intro x hx
        rcases List.mem_append.1 hx with hx | hx
        · have h1 := ((hI.mono P2).ext x3).mono p4
          exact ((h1.mono (List.prefix_append τ4 [AO.cells (elCells (a4, b4, cutR e.2.2)) 3 .own])).ext x5) x hx
        · rw [List.mem_singleton] at hx
          subst hx
          have h1 := r4.mono (List.prefix_append τ4 [AO.cells (elCells (a4, b4, cutR e.2.2)) 3 .own])
          exact ⟨Rw.ext h1.nums x5, Rw.ext h1.texts x5⟩
      · intro x hx
        rcases List.mem_append.1 hx with hx | hx
        · exact hO x hx
        · rw [List.mem_singleton] at hx
          subst hx
          exact ⟨he.cut, hm⟩
  · clear next
    by_cases h : i < l.length
    case' pos =>
      have h8 : ¬ i < 8 := fun h' => hlt ⟨h, h'⟩
      refine bif_pos (by simp; omega) ?_
      conv => lhs; whnf
      refine bif_neg (by simp; omega) ?_
      conv => lhs; whnf
    case' neg =>
      refine bif_neg (by simp; omega) ?_
      conv => lhs; whnf
    all_goals
      refine fin _ _ _ nofun ?_
      conv => lhs; whnf
      refine loop_rule (m := 560) (fun q fr τ' => ∃ (z : Int) (j : Nat) (b' : SA), z = (j : Int) ∧ j + q = W.length ∧
          fr = [.bad, .bad, .bad, .bad, .sl b' (encW (W.drop j)).length, .sl w W.length, .bad, .bad, .bad, .int .i64 z, .bad, .bad, .bad, .bad, .bad, .bad, .bad, .bad, .bad, .bad, .bad, .bad, .bad, .bad, .bad, .bad, .bad, .bad, .bad, .bad, .bad, .bad, .bad, .bad, .bad, .bad, .bad, .bad, .bad, .bad, .bad, .bad, .bad, .bad, .bad, .bad, .bad, .bad, .bad, .bad, .bad, .bad, .bad, .bad, .bad, .bad, .bad, .bad, .bad, .bad, .bad, .bad, .bad, .bad, .bad, .bad, .bad, .bad, .bad, .bad, .bad, .bad, .bad, .bad, .bad, .bad, .bad, .bad, .bad, .bad, .bad, .bad, .bad, .bad, .bad, .bad] ∧ τ <+: τ' ∧ Rw τ' 1 b' (encW (W.drop j)).length (u8s (encW (W.drop j)))) ?_ _ W.length _ _ (by omega)
          ⟨_, 0, b, rfl, by omega, rfl, List.prefix_refl _, hob.rw⟩
      rintro q' fr τ' C' ⟨z, j, b', rfl, hj, rfl, hp', hb'⟩ next' fin'
      conv => lhs; whnf
      refine bif_case (fun h => ?_) (fun h => ?_)
      · have hjl : j < W.length := by simpa using h
        have hWj := hO _ (List.getElem_mem hjl)
        have hIj := hI _ (List.getElem_mem hjl)
        have hdl := encW_len (W.drop j) fun e he => (hO e (List.mem_of_mem_drop he)).2
        have hdb := encW_lt (W.drop j) fun e he => (hO e (List.mem_of_mem_drop he)).1
        rw [List.length_drop] at hdl
        have hpp := putR_pos W[j].2.2
        rw [List.drop_eq_getElem_cons hjl, encW] at hb' hdl hdb ⊢
        have hgp := recGet_put hWj.2 hWj.1.ns (encW (W.drop (j + 1)))
        have hll : (putR W[j].2.2 ++ encW (W.drop (j + 1))).length = (putR W[j].2.2).length + (encW (W.drop (j + 1))).length := List.length_append
        conv => lhs; whnf
        refine recGet_spec (by omega) (by omega) hD hb' hdb fun c1 c2 τ1 p1 r1 => ?_
        rw [hgp] at r1 ⊢
        dsimp only at r1
        conv => lhs; whnf
        refine storeS rfl (get_new _ _) rfl rfl (Nat.le_refl 3) rfl ?_
        have T := get_set (get_new τ1 (AO.cells [AV.int .i64 0, .sl .nil 0, .sl .nil 0] 3 .own)) (AO.cells [.int .i64 W[j].2.2.kind, .sl c1 W[j].2.2.nums.length, .sl c2 W[j].2.2.texts.length] 3 .own)
        have Pe := prefix_set (List.prefix_append τ1 [AO.cells [AV.int .i64 0, .sl .nil 0, .sl .nil 0] 3 .own]) (Nat.le_refl τ1.length) (AO.cells [.int .i64 W[j].2.2.kind, .sl c1 W[j].2.2.nums.length, .sl c2 W[j].2.2.texts.length] 3 .own)
        have Pq := List.IsPrefix.trans p1 Pe
        have hm3 := may_iff.1 hWj.2
        conv => lhs; whnf
        refine hD.go plan16x16 ord16x16 ?_
        conv => lhs; whnf
        refine bif_neg (by show decide (((putR W[j].2.2).length : Int) < 1) = false; rw [decide_eq_false_iff_not]; omega) ?_
        conv => lhs; whnf
        refine bif_neg (by show decide (((putR W[j].2.2).length : Int) > ((putR W[j].2.2 ++ encW (W.drop (j + 1))).length : Int)) = false; rw [decide_eq_false_iff_not]; omega) ?_
        conv => lhs; whnf
        refine ldR T ?_
        conv => lhs; whnf
        refine idx60 (how.rw.mono (List.IsPrefix.trans hp' Pq)) rfl hjl fun p hpj => ?_
        conv => lhs; whnf
        refine ldE hpj ?_
        conv => lhs; whnf
        refine eq_spec (by omega) (by omega) (by omega) hD (r1.mono Pe) (hIj.mono (List.IsPrefix.trans hp' Pq)) fun τ2 p2 => ?_
        rw [recEq_self]
        conv => lhs; whnf
        refine bt.slice (hb'.mono (List.IsPrefix.trans Pq p2)) (putR W[j].2.2).length (putR W[j].2.2 ++ encW (W.drop (j + 1))).length (.inr ⟨_, _, rfl, rfl⟩) (.inl ⟨rfl, rfl⟩) (by omega) (Nat.le_refl _) (encW (W.drop (j + 1))) (by rw [List.take_length, List.drop_left]) fun a3 r3 => ?_
        conv => lhs; whnf
        exact next' (q' - 1) _ _ (by omega) ⟨_, j + 1, a3, inc_i64 (by omega), by omega, rfl, List.IsPrefix.trans hp' (List.IsPrefix.trans Pq p2), r3⟩
      · obtain rfl : j = W.length := by have : ¬ j < W.length := by simpa using h
                                        omega
        conv => lhs; whnf
        refine fin' _ _ _ nofun ?_
        rw [List.drop_length]
        conv => lhs; whnf

theorem recMany_law (σ : H) (vs : List AV) (h : ArgsShp Try.prog σ 9 [60] vs) : ∃ n, acall Try.prog tab (drawRegion Try.prog) n 16 vs σ isTrue = true := by
  obtain ⟨a, vs, rfl, ha, h⟩ := args_cons h
  obtain rfl := args_nil h
  obtain ⟨s, m, xs, rfl, h2, h3, h4⟩ := arg_slice Try.underlying60 ha
  have hl := h2.len
  obtain ⟨l, rfl, hk, i1, o1⟩ := shp_recs (m := 5) hl h4
  subst hk
  exact ⟨80000, recMany_run (Nat.le_refl _) h2 i1 o1 (byPlan _)⟩
end Go.Proofs.Ytpagagiojnhhfaa
