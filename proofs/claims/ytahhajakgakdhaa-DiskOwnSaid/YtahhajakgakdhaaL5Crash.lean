/- Package disk: Crash. -/
import Derived.Test.YtahhajakgakdhaaL5Disk4
import Derived.Test.YtahhajakgakdhaaL1Plans
namespace Go.Proofs.Ytahhajakgakdhaa
set_option maxRecDepth 100000
open Go Go.AM Go.AM.St

theorem next_rule {σ : H} {it m clock since last : Nat} {es : List ME} {seen : List Nat} (hi : σ[it]? = some (.miter (some m) since seen last)) (hm : σ[m]? = some (.map es clock)) (hold : ∀ e ∈ es, e.born < last) (hs : ∀ e ∈ es, e.born < since) {K : AV → H → Bool}
    (hdone : (∀ e ∈ es, e.born ∈ seen) → K (.tup [.bool false]) σ = true)
    (hnext : ∀ e ∈ es, e.born ∉ seen → K (.tup [.bool true, e.key, e.val]) (σ.set it (.miter (some m) since (seen ++ [e.born]) clock)) = true) : nextK (.it it) false σ K = true := by
  unfold nextK
  simp only [hi, hm]
  refine bif_neg ?_ ?_
  · cases es with
    | nil => simp
    | cons e es =>
      have := hold e (by simp)
      simp only [List.all_cons]
      rw [decide_eq_false (by omega)]
      simp
  · refine and_true ?_ ?_
    · refine bif_case (fun h => hdone fun e he => ?_) fun _ => rfl
      refine Classical.byContradiction fun hc => ?_
      have := List.all_eq_true.1 h e (List.mem_filter.2 ⟨he, by simpa using hc⟩)
      have h2 := hs e he
      have h3 := of_decide_eq_true this
      omega
    · refine List.all_eq_true.2 fun e he => ?_
      obtain ⟨h1, h2⟩ := List.mem_filter.1 he
      exact hnext e h1 (by simpa using h2)
def kept (keep : Int) (len synced : Nat) : Nat := synced + min keep.toNat (len - synced)
def mCrash (keep : Int) (x : FV) : Option FV :=
  if kept keep x.bytes.length x.synced = 0 ∧ x.lasts = false then none
  else some ⟨x.name, x.bytes.take (kept keep x.bytes.length x.synced), kept keep x.bytes.length x.synced, true⟩
def fin1 (keep : Int) (seen : List Nat) (g : FG) : Option FV := if g.born ∈ seen then some g.v else mCrash keep g.v
def finish (keep : Int) (seen : List Nat) (G : List FG) : List FV := G.filterMap (fin1 keep seen)
theorem finish_nil (keep : Int) (G : List FG) : finish keep [] G = (G.map FG.v).filterMap (mCrash keep) := by
  rw [List.filterMap_map]; rfl
theorem finish_all {keep : Int} {seen : List Nat} : ∀ {G : List FG}, (∀ g ∈ G, g.born ∈ seen) → finish keep seen G = G.map FG.v
  | [], _ => rfl
  | g :: G, h => by
    show List.filterMap _ _ = _
    rw [List.filterMap_cons, show fin1 keep seen g = some g.v from if_pos (h g (by simp))]
    exact congrArg (g.v :: ·) (finish_all fun g hg => h g (by simp [hg]))
theorem fin1_more {keep : Int} {seen : List Nat} {b : Nat} {g : FG} (h : g.born ≠ b) : fin1 keep (seen ++ [b]) g = fin1 keep seen g := by
  unfold fin1
  simp [h]
theorem finish_more {keep : Int} {seen : List Nat} {b : Nat} : ∀ {G : List FG}, (∀ g ∈ G, g.born ≠ b) → finish keep (seen ++ [b]) G = finish keep seen G
  | [], _ => rfl
  | g :: G, h => by
    have ih := finish_more (keep := keep) (seen := seen) (b := b) (G := G) fun g hg => h g (by simp [hg])
    unfold finish at ih ⊢
    rw [List.filterMap_cons, List.filterMap_cons, fin1_more (h g (by simp)), ih]
def unseen (seen : List Nat) (G : List FG) : Nat := (G.filter fun g => !seen.contains g.born).length
theorem unseen_more {seen : List Nat} {b : Nat} {G : List FG} (h : ∀ g ∈ G, g.born ≠ b) : unseen (seen ++ [b]) G = unseen seen G := by
  unfold unseen
  congr 1
  refine List.filter_congr fun g hg => ?_
  have := h g hg
  simp [this]
theorem unseen_app {seen : List Nat} {G1 G2 : List FG} : unseen seen (G1 ++ G2) = unseen seen G1 + unseen seen G2 := by simp [unseen]
theorem finish_app {keep : Int} {seen : List Nat} {G1 G2 : List FG} : finish keep seen (G1 ++ G2) = finish keep seen G1 ++ finish keep seen G2 := List.filterMap_append
theorem finish_cons {keep : Int} {seen : List Nat} {g : FG} {G2 : List FG} : finish keep seen (g :: G2) = (fin1 keep seen g).toList ++ finish keep seen G2 := by
  show List.filterMap _ _ = _
  rw [List.filterMap_cons]
  cases fin1 keep seen g <;> rfl
theorem range_rule {σ : H} {m clock : Nat} {es : List ME} (hm : σ[m]? = some (.map es clock)) {K : AV → H → Bool} (h : K (.it σ.length) (σ ++ [.miter (some m) clock [] clock]) = true) : rangeK Try.prog 74 (.map (some m)) σ K = true := by
  unfold rangeK
  rw [Try.underlying74]
  simp only [hm]
  exact h
theorem find_born {G1 G2 : List FG} {g : FG} (h : ∀ x ∈ G1, x.born ≠ g.born) : ((G1 ++ g :: G2).map entOf).find? (fun e => e.born == g.born) = some (entOf g) := by
  induction G1 with
  | nil =>
    simp only [List.nil_append, List.map_cons]
    rw [List.find?_cons_of_pos]
    show (g.born == g.born) = true
    simp
  | cons x G1 ih =>
    simp only [List.cons_append, List.map_cons]
    rw [List.find?_cons_of_neg]
    · exact ih fun y hy => h y (by simp [hy])
    · show ¬ (x.born == g.born) = true
      have := h x (by simp)
      simpa using this
/-- By a plan; what comes behind is out of sight. -/
theorem goK {P : Program} {D : Drawer} (hD : ByPlan P D) {callf : CallF} {ops : Array Oper} (plan : Plan) (hp : ordOk P ops plan = true) {fr : Fr} {σ : H} {K : Fr → H → Bool} (h : ∀ KK, KK = K → ordK P callf ops plan [] fr σ KK = true) :
    D callf ops fr σ K = true := hD.go plan hp (h K rfl)
section
variable {B m clock ops : Nat} {G G1 G2 : List FG} {left : Int} {down : Bool} {σ : H}
structure Walk (σ0 : H) (B m clock ops : Nat) (G0 : List FG) (left : Int) (down : Bool) (keep : Int) (it : Nat) (seen : List Nat) (G : List FG) (σ : H) : Prop where
  d : DiskAt σ B m clock G left down ops
  i : σ[it]? = some (.miter (some m) clock seen clock)
  f : finish keep seen G = (G0.map FG.v).filterMap (mCrash keep)
  b : ∀ g ∈ G, g.bytes.length ≤ 1000000000 ∧ g.synced ≤ g.bytes.length
  s : Step B m G0 G σ0 σ
  t : ¬ Fp B m G it
  n : σ0.length ≤ it
theorem Walk.next {σ0 τ τ1 σ5 : H} {G0 G' : List FG} {keep : Int} {it b : Nat} {seen : List Nat} (hw : Walk σ0 B m clock ops G0 left down keep it seen G τ) (k1 : ∀ id, id ≠ it → τ1[id]? = τ[id]?) (l1 : τ1.length = τ.length)
    (i1 : τ1[it]? = some (.miter (some m) clock (seen ++ [b]) clock)) (S : Step B m G G' τ1 σ5) (d5 : DiskAt σ5 B m clock G' left down ops) (hf : finish keep (seen ++ [b]) G' = finish keep seen G)
    (hb : ∀ g ∈ G', g.bytes.length ≤ 1000000000 ∧ g.synced ≤ g.bytes.length) : Walk σ0 B m clock ops G0 left down keep it (seen ++ [b]) G' σ5 := by
  have hl := get_lt i1
  have hn := hw.n
  refine ⟨d5, (S.keep it hl hw.t).trans i1, hf.trans hw.f, hb, ⟨?_, fun id h1 h2 => ?_, fun id h => ?_⟩, fun h => ?_, hw.n⟩
  · have := hw.s.len; have := S.len; omega
  · have h3 : ¬ Fp B m G id := fun h => by
      rcases hw.s.fp id h with h | h
      · exact h2 h
      · omega
    have := hw.s.len
    rw [S.keep id (by omega) h3, k1 id (by omega), hw.s.keep id h1 h2]
  · rcases S.fp id h with h | h
    · exact hw.s.fp id h
    · have := hw.s.len; exact .inr (by omega)
  · rcases S.fp it h with h | h
    · exact hw.t h
    · omega
theorem fp_gone {g : FG} {id : Nat} (h : Fp B m (G1 ++ G2) id) : Fp B m (G1 ++ g :: G2) id := by
  rcases h with h | h | ⟨x, hx, h⟩ | ⟨x, hx, h⟩
  · exact .inl h
  · exact .inr (.inl h)
  · exact .inr (.inr (.inl ⟨x, by rcases List.mem_append.1 hx with hx | hx <;> simp [hx], h⟩))
  · exact .inr (.inr (.inr ⟨x, by rcases List.mem_append.1 hx with hx | hx <;> simp [hx], h⟩))
theorem DiskAt.gone {g : FG} (hd : DiskAt σ B m clock (G1 ++ g :: G2) left down ops) : DiskAt (σ.set m (.map ((G1 ++ G2).map entOf) clock)) B m clock (G1 ++ G2) left down ops := by
  have hmB : B ≠ m := fun e => by have := hd.mp; rw [← e, hd.row] at this; cases this
  have hap := hd.apart
  rw [List.pairwise_append, List.pairwise_cons] at hap
  have hin : ∀ x ∈ G1 ++ G2, x ∈ G1 ++ g :: G2 := fun x hx => by rcases List.mem_append.1 hx with hx | hx <;> simp [hx]
  refine ⟨get_set_ne hd.row hmB _, get_set hd.mp _, fun x hx => ?_, ?_, fun x hx => hd.old x (hin x hx)⟩
  · have h := hd.files x (hin x hx)
    refine h.keep (List.getElem?_set_ne fun e => ?_) fun i hi => List.getElem?_set_ne fun e => ?_
    · have := hd.mp; rw [e, h.row] at this; cases this
    · obtain ⟨xs, md, hr⟩ := h.oRow hi
      have := hd.mp; rw [e, hr] at this; cases this
  · rw [List.pairwise_append]
    exact ⟨hap.1, hap.2.1.2, fun x hx y hy => hap.2.2 x hx y (by simp [hy])⟩
theorem fp_ne {g : FG} (hd : DiskAt σ B m clock (G1 ++ g :: G2) left down ops) {id : Nat} (h : Fp B m (G1 ++ G2) id) : id ≠ g.f := by
  have gf := hd.files g (by simp)
  have hap := hd.apart
  rw [List.pairwise_append, List.pairwise_cons] at hap
  have hin : ∀ x ∈ G1 ++ G2, x ∈ G1 ++ g :: G2 := fun x hx => by rcases List.mem_append.1 hx with hx | hx <;> simp [hx]
  rintro rfl
  rcases h with h | h | ⟨x, hx, h⟩ | ⟨x, hx, h⟩
  · have h1 := gf.row; rw [h, hd.row] at h1; cases h1
  · have h1 := gf.row; rw [h, hd.mp] at h1; cases h1
  · rcases List.mem_append.1 hx with hx | hx
    · exact (hap.2.2 x hx g (by simp)).1 h.symm
    · exact (hap.2.1.1 x hx).1 h
  · obtain ⟨xs, md, hr⟩ := (hd.files x (hin x hx)).oRow h
    rw [gf.row] at hr; cases hr
theorem slB {a : SA} {n k : Nat} {bs : List Nat} (hv : Rw σ 1 a n (u8s bs)) (hk : k ≤ bs.length) {K : AV → Bool} (hK : ∀ a', Rw σ 1 a' k (u8s (bs.take k)) → K (.sl a' k) = true) :
    sliceK Try.prog 22 (.sl a n) none (some (.int .i64 (k : Int))) none K = true := by
  have hn := hv.len
  rw [u8s_len] at hn
  exact sliceK_rw (z := 1) Try.underlying22 (fun K => rfl) hv (.inl ⟨rfl, rfl⟩) (.inr ⟨_, _, rfl, rfl⟩) (Nat.zero_le _) (by omega) (by omega) (by rw [u8s_take]; simp) hK
theorem st_raw {f : Nat} {u v w x : AV} (hr : σ[f]? = some (AO.cells [u, v, w] 3 .own)) (hl : isLeaf x = true) {K : H → Bool}
    (hK : ∀ σ', σ'[f]? = some (AO.cells [x, v, w] 3 .own) → (∀ id, id ≠ f → σ'[id]? = σ[id]?) → σ'.length = σ.length → K σ' = true) : storeK Try.prog 22 (.ptr (some ⟨f, 0, 0, 3⟩)) x σ K = true :=
  storeK_of rfl rfl (by decide) hr hl (by show 0 + 0 < 3; decide) (hK _ (get_set hr _) (fun id hne => List.getElem?_set_ne (Ne.symm hne)) (List.length_set ..))
end
attribute [local irreducible] IntKind.wrap Int.fdiv Int.tdiv Int.tmod BitVec.ofInt appendK sliceK indexAddrK ldK storeK seenK makeSliceK lookupK updateK deleteK mapK rangeK nextK
variable {D : Drawer}
variable {B m clock ops : Nat} {G G1 G2 : List FG} {left : Int} {down : Bool} {σ : H}
theorem lasting_raw {n f : Nat} {u v w : AV} (hn : 1 ≤ n) (hr : σ[f]? = some (AO.cells [u, v, w] 3 .own)) {x : Int} {K : AV → H → Bool}
    (hK : ∀ σ', (∀ id, id ≠ f → σ'[id]? = σ[id]?) → σ'.length = σ.length → K (.tup []) σ' = true) : acall Try.prog tab D n 47 [.ptr (some ⟨f, 0, 0, 3⟩), .int .i64 x] σ K = true := by
  obtain ⟨n, rfl, hn⟩ := up hn
  conv => lhs; whnf
  refine storeK_of rfl rfl (by decide) hr rfl (by show 0 + 1 < 3; decide) ?_
  conv => lhs; whnf
  refine storeK_of rfl rfl (by decide) (get_set hr _) rfl (by show 0 + 2 < 3; decide) ?_
  conv => lhs; whnf
  exact hK _ (fun id hne => by rw [List.getElem?_set_ne (Ne.symm hne), List.getElem?_set_ne (Ne.symm hne)]) (by simp)
theorem crash_spec {n : Nat} (hn : G.length + 5 ≤ n) (hD : ByPlan Try.prog D) (hd : DiskAt σ B m clock G left down ops) (hb : ∀ g ∈ G, g.bytes.length ≤ 1000000000 ∧ g.synced ≤ g.bytes.length) {keep : Int} {K : AV → H → Bool}
    (hK : ∀ σ' G', DiskAt σ' B m clock G' (-1) false ops → G'.map FG.v = (G.map FG.v).filterMap (mCrash keep) → Step B m G G' σ σ' → K (.tup []) σ' = true) :
    acall Try.prog tab D n 20 [.ptr (some ⟨B, 0, 0, 4⟩), .int .i64 keep] σ K = true := by
  obtain ⟨n, rfl, hn⟩ := up (n := n) (k := G.length + 4) (by omega)
  conv => lhs; whnf
  refine ldF Try.underlying74 rfl rfl hd.row rfl ?_
  conv => lhs; whnf
  refine range_rule hd.mp ?_
  conv => lhs; whnf
  refine loop_rule (m := 8195) (fun q fr τ => ∃ it seen G', Walk σ B m clock ops G left down keep it seen G' τ ∧ unseen seen G' = q ∧
    fr = [.ptr (some ⟨B, 0, 0, 4⟩), .int .i64 keep, .bad, .bad, .bad, .bad, .bad, .bad, .bad, .bad, .bad, .bad, .bad, .it it, .bad, .bad, .bad, .bad, .bad, .bad, .bad, .bad, .bad, .bad, .bad, .bad, .bad, .bad, .bad, .bad, .bad, .bad, .bad, .bad, .bad, .bad, .bad, .bad, .bad, .bad, .bad, .bad, .bad, .bad, .bad, .bad, .bad, .bad, .bad, .bad, .bad, .bad, .bad, .bad, .bad, .bad, .bad, .bad, .bad, .bad, .bad, .bad, .bad, .bad, .bad, .bad, .bad, .bad, .bad, .bad]) ?_ _ (unseen [] G) _ _ (by have := List.length_filter_le (fun g : FG => !([] : List Nat).contains g.born) G; unfold unseen; omega)
    ⟨_, [], G, ⟨hd.mono (List.prefix_append _ _), get_new _ _, finish_nil _ _, hb, ⟨by simp, fun id hl _ => List.getElem?_append_left hl, fun _ h => .inl h⟩, fun h => absurd (Fp.lt hd h) (Nat.lt_irrefl _), Nat.le_refl _⟩, rfl, rfl⟩
  rintro q fr τ C ⟨it, seen, G', hw, rfl, rfl⟩ next fin
  conv => lhs; whnf
  refine next_rule hw.i hw.d.mp (fun e he => ?_) (fun e he => ?_) (fun hall => ?_) fun e he hns => ?_
  · obtain ⟨g, hg, rfl⟩ := List.mem_map.1 he
    exact hw.d.old g hg
  · obtain ⟨g, hg, rfl⟩ := List.mem_map.1 he
    exact hw.d.old g hg
  · conv => lhs; whnf
    refine fin _ _ _ nofun ?_
    conv => lhs; whnf
    refine st_left hw.d (left' := -1) rfl fun σ1 d1 k1 => ?_
    conv => lhs; whnf
    refine st_down d1 (down' := false) fun σ2 d2 k2 => ?_
    have := hK σ2 G' d2 ((finish_all fun g hg => hall _ (List.mem_map_of_mem hg)).symm.trans hw.f) (hw.s.trans (Step.ofB (get_lt hw.d.row) (len_of hw.d.row d2.row fun id hne => (k2 id hne).trans (k1 id hne)) fun id hne => (k2 id hne).trans (k1 id hne)))
    conv => lhs; whnf
    exact this
  · obtain ⟨g, hg, rfl⟩ := List.mem_map.1 he
    obtain ⟨G1, G2, rfl⟩ := List.append_of_mem hg
    have hap := hw.d.apart
    rw [List.pairwise_append, List.pairwise_cons] at hap
    have hb1 : ∀ x ∈ G1, x.born ≠ g.born := fun x hx => (hap.2.2 x hx g (by simp)).2.2.2
    have hb2 : ∀ x ∈ G2, x.born ≠ g.born := fun x hx => (hap.2.1.1 x hx).2.2.2.symm
    have d1 : DiskAt (τ.set it (.miter (some m) clock (seen ++ [(entOf g).born]) clock)) B m clock (G1 ++ g :: G2) left down ops := hw.d.keep fun id hf => List.getElem?_set_ne (fun e => hw.t (by rw [e]; exact hf))
    have i1 : (τ.set it (.miter (some m) clock (seen ++ [(entOf g).born]) clock))[it]? = some (.miter (some m) clock (seen ++ [(entOf g).born]) clock) := get_set hw.i _
    have k1 : ∀ id, id ≠ it → (τ.set it (.miter (some m) clock (seen ++ [(entOf g).born]) clock))[id]? = τ[id]? := fun id hne => List.getElem?_set_ne (Ne.symm hne)
    have l1 : (τ.set it (.miter (some m) clock (seen ++ [(entOf g).born]) clock)).length = τ.length := List.length_set ..
    have l0 := get_lt hw.i
    obtain ⟨hbl, hbs⟩ := hw.b g hg
    generalize τ.set it (.miter (some m) clock (seen ++ [(entOf g).born]) clock) = τ1 at d1 i1 k1 l1 ⊢
    replace i1 : τ1[it]? = some (.miter (some m) clock (seen ++ [g.born]) clock) := i1
    conv => lhs; whnf
    rw [i1]
    conv => lhs; whnf
    rw [d1.mp, List.getLast?_concat]
    conv => lhs; whnf
    refine bif_pos (by simp) ?_
    rw [find_born hb1]
    conv => lhs; whnf
    refine goK hD plan20x4 ord20x4 fun KK hKK => ?_
    conv => lhs; whnf
    have gf := d1.files g (by simp)
    refine ldF Try.underlying3 rfl rfl gf.row rfl ?_
    conv => lhs; whnf
    refine ldF Try.underlying22 rfl rfl gf.row rfl ?_
    conv => lhs; whnf
    refine ldF Try.underlying3 rfl rfl gf.row rfl ?_
    have hx : IntKind.wrap .i64 ((g.synced : Int) + (bif true then (if (IntKind.wrap .i64 ((g.bytes.length : Int) - (g.synced : Int))) < (bif false then (if (0 : Int) < keep then (0 : Int) else keep) else (if keep < (0 : Int) then (0 : Int) else keep)) then (IntKind.wrap .i64 ((g.bytes.length : Int) - (g.synced : Int))) else (bif false then (if (0 : Int) < keep then (0 : Int) else keep) else (if keep < (0 : Int) then (0 : Int) else keep))) else (if (bif false then (if (0 : Int) < keep then (0 : Int) else keep) else (if keep < (0 : Int) then (0 : Int) else keep)) < (IntKind.wrap .i64 ((g.bytes.length : Int) - (g.synced : Int))) then (IntKind.wrap .i64 ((g.bytes.length : Int) - (g.synced : Int))) else (bif false then (if (0 : Int) < keep then (0 : Int) else keep) else (if keep < (0 : Int) then (0 : Int) else keep))))) = ((kept keep g.bytes.length g.synced : Nat) : Int) := by
      rw [wrap_i64 (x := (g.bytes.length : Int) - (g.synced : Int)) (by omega) (by omega)]
      simp only [cond_true, cond_false]
      unfold kept
      rw [wrap_i64]
      all_goals
        split <;> split <;> omega
    conv => lhs; whnf
    rw [hx]
    subst hKK
    conv => lhs; whnf
    generalize hk : kept keep g.bytes.length g.synced = k
    have hkl : k ≤ g.bytes.length := by rw [← hk]; unfold kept; omega
    have hlt : (g.bytes.take k).length = k := by rw [List.length_take]; omega
    have hns' : g.born ∉ seen := hns
    have keptF : ∀ g' : FG, g'.born = g.born → mCrash keep g.v = some g'.v → True → finish keep (seen ++ [g.born]) (G1 ++ g' :: G2) = finish keep seen (G1 ++ g :: G2) := fun g' e1 e2 _ => by
      rw [finish_app, finish_app, finish_cons, finish_cons, finish_more hb1, finish_more hb2]
      rw [show fin1 keep (seen ++ [g.born]) g' = some g'.v from if_pos (by rw [e1]; simp), show fin1 keep seen g = mCrash keep g.v from if_neg hns', e2]
    have keptB : ∀ g' : FG, g'.bytes = g.bytes.take k → g'.synced = k → ∀ x ∈ G1 ++ g' :: G2, x.bytes.length ≤ 1000000000 ∧ x.synced ≤ x.bytes.length := fun g' e1 e2 x hx => by
      rcases List.mem_append.1 hx with hx | hx
      · exact hw.b x (by simp [hx])
      · rcases List.mem_cons.1 hx with rfl | hx
        · rw [e1, e2, hlt]; omega
        · exact hw.b x (by simp [hx])
    have un0 : unseen seen (G1 ++ g :: G2) = unseen seen G1 + (1 + unseen seen G2) := by
      rw [unseen_app]
      have : unseen seen (g :: G2) = 1 + unseen seen G2 := by
        unfold unseen
        rw [List.filter_cons_of_pos (by simpa using hns'), List.length_cons, Nat.add_comm]
      rw [this]
    have keptU : ∀ g' : FG, g'.born = g.born → unseen (seen ++ [g.born]) (G1 ++ g' :: G2) < unseen seen (G1 ++ g :: G2) := fun g' e1 => by
      rw [un0, unseen_app, unseen_more hb1]
      have : unseen (seen ++ [g.born]) (g' :: G2) = unseen seen G2 := by
        rw [← unseen_more hb2]
        unfold unseen
        rw [List.filter_cons_of_neg (by rw [e1]; simp)]
      omega
    have hcr : ¬ (k = 0 ∧ g.lasts = false) → mCrash keep g.v = some ⟨g.name, g.bytes.take k, k, true⟩ := fun h => by
      unfold mCrash
      show (if kept keep g.bytes.length g.synced = 0 ∧ g.lasts = false then none else some (⟨g.name, g.bytes.take (kept keep g.bytes.length g.synced), kept keep g.bytes.length g.synced, true⟩ : FV)) = _
      rw [hk, if_neg h]
    rw [show ((k : Int) == 0) = decide (k = 0) by rw [Bool.eq_iff_iff]; simp]
    by_cases hz : k = 0
    · rw [decide_eq_true hz]
      conv => lhs; whnf
      refine ldF Try.underlying4 rfl rfl gf.row rfl ?_
      cases hL : g.lasts with
      | true =>
        have hcr := hcr (by rw [hL]; simp)
        · conv => lhs; whnf
          refine ldF Try.underlying22 rfl rfl gf.row rfl ?_
          conv => lhs; whnf
          refine slB gf.own.rw hkl fun a2 r2 => ?_
          conv => lhs; whnf
          refine clone_spec (by omega) (by omega) r2 fun o3 a3 σ3 p3 q3 w3 => ?_
          conv => lhs; whnf
          refine st_cut d1 (σ' := σ3) (o' := o3) ⟨prefix_len p3, fun id hl _ => by rw [prefix_get p3 (List.getElem?_eq_getElem hl), List.getElem?_eq_getElem hl], w3, q3.elim .inl fun h => .inr (.inr ⟨_, h, Nat.le_refl _⟩)⟩ fun σ4 d4 s4 => ?_
          conv => lhs; whnf
          refine lasting_spec (by omega) d4 rfl fun σ5 d5 k5 l5 => ?_
          have wn := hw.next k1 l1 i1 (s4.trans ⟨Nat.le_of_eq l5.symm, fun id hl hf => k5 id fun e => hf (.inr (.inr (.inl ⟨_, List.mem_append_right _ (List.mem_cons_self ..), e⟩))), fun id h => .inl (fp_same (g := { g with bytes := g.bytes.take k, o := o3, a := a3 }) (g' := { g with bytes := g.bytes.take k, o := o3, a := a3, synced := k, lasts := true }) rfl rfl h)⟩) d5 (keptF _ rfl hcr trivial) (keptB _ rfl rfl)
          conv => lhs; whnf
          exact next _ _ _ (keptU { g with bytes := g.bytes.take k, o := o3, a := a3, synced := k, lasts := true } rfl) ⟨it, _, _, wn, rfl, rfl⟩
      | false =>
        conv => lhs; whnf
        refine ldF Try.underlying74 rfl rfl d1.row rfl ?_
        conv => lhs; whnf
        refine del_old d1.mp rfl (fun x hx => (hap.2.2 x hx g (by simp)).2.2.1) ?_
        have hmf : m ≠ g.f := fun e => by have := d1.mp; rw [e, gf.row] at this; cases this
        have d2 := d1.gone
        have f2 : FileAt (τ1.set m (.map ((G1 ++ G2).map entOf) clock)) g := gf.keep (List.getElem?_set_ne hmf) fun i hi => List.getElem?_set_ne fun e => by
          obtain ⟨xs, md, hr⟩ := gf.oRow hi
          have := d1.mp; rw [e, hr] at this; cases this
        have k2 : ∀ id, id ≠ m → (τ1.set m (.map ((G1 ++ G2).map entOf) clock))[id]? = τ1[id]? := fun id hne => List.getElem?_set_ne (Ne.symm hne)
        have l2 : (τ1.set m (.map ((G1 ++ G2).map entOf) clock)).length = τ1.length := List.length_set ..
        generalize τ1.set m (.map ((G1 ++ G2).map entOf) clock) = τ2 at d2 f2 k2 l2 ⊢
        conv => lhs; whnf
        refine ldF Try.underlying22 rfl rfl f2.row rfl ?_
        conv => lhs; whnf
        refine slB f2.own.rw hkl fun a2 r2 => ?_
        conv => lhs; whnf
        refine clone_spec (by omega) (by omega) r2 fun o3 a3 σ3 p3 q3 w3 => ?_
        conv => lhs; whnf
        have r3 := prefix_get p3 f2.row
        refine st_raw (x := .sl a3 _) r3 rfl fun σ4 r4 k4 l4 => ?_
        conv => lhs; whnf
        refine lasting_raw (by omega) r4 fun σ5 k5 l5 => ?_
        have kk : ∀ id, id < τ1.length → id ≠ m → id ≠ g.f → σ5[id]? = τ1[id]? := fun id h1 h2 h3 => by
          have h4 : id < τ2.length := by omega
          rw [k5 id h3, k4 id h3, prefix_get p3 (List.getElem?_eq_getElem h4), ← List.getElem?_eq_getElem h4, k2 id h2]
        have d5 : DiskAt σ5 B m clock (G1 ++ G2) left down ops := (d2.mono p3).keep fun id hf => by
          have := fp_ne d1 hf
          rw [k5 id this, k4 id this]
        have hp := prefix_len p3
        have hgone : mCrash keep g.v = none := by
          unfold mCrash
          show (if kept keep g.bytes.length g.synced = 0 ∧ g.lasts = false then none else some (⟨g.name, g.bytes.take (kept keep g.bytes.length g.synced), kept keep g.bytes.length g.synced, true⟩ : FV)) = _
          rw [if_pos ⟨hk.trans hz, hL⟩]
        have wn := hw.next k1 l1 i1 (G' := G1 ++ G2) ⟨by omega, fun id hl hf => kk id hl (fun e => hf (.inr (.inl e))) (fun e => hf (.inr (.inr (.inl ⟨g, by simp, e⟩)))), fun id h => .inl (fp_gone h)⟩ d5 (by
            rw [finish_app, finish_app, finish_cons, finish_more hb1, finish_more hb2, show fin1 keep seen g = mCrash keep g.v from if_neg hns', hgone]; rfl)
          fun x hx => hw.b x (by rcases List.mem_append.1 hx with hx | hx <;> simp [hx])
        conv => lhs; whnf
        exact next _ _ _ (by rw [un0, unseen_app, unseen_more hb1, unseen_more hb2]; omega) ⟨it, _, _, wn, rfl, rfl⟩
    · rw [decide_eq_false hz]
      have hcr := hcr fun h => hz h.1
      · conv => lhs; whnf
        refine ldF Try.underlying22 rfl rfl gf.row rfl ?_
        conv => lhs; whnf
        refine slB gf.own.rw hkl fun a2 r2 => ?_
        conv => lhs; whnf
        refine clone_spec (by omega) (by omega) r2 fun o3 a3 σ3 p3 q3 w3 => ?_
        conv => lhs; whnf
        refine st_cut d1 (σ' := σ3) (o' := o3) ⟨prefix_len p3, fun id hl _ => by rw [prefix_get p3 (List.getElem?_eq_getElem hl), List.getElem?_eq_getElem hl], w3, q3.elim .inl fun h => .inr (.inr ⟨_, h, Nat.le_refl _⟩)⟩ fun σ4 d4 s4 => ?_
        conv => lhs; whnf
        refine lasting_spec (by omega) d4 rfl fun σ5 d5 k5 l5 => ?_
        have wn := hw.next k1 l1 i1 (s4.trans ⟨Nat.le_of_eq l5.symm, fun id hl hf => k5 id fun e => hf (.inr (.inr (.inl ⟨_, List.mem_append_right _ (List.mem_cons_self ..), e⟩))), fun id h => .inl (fp_same (g := { g with bytes := g.bytes.take k, o := o3, a := a3 }) (g' := { g with bytes := g.bytes.take k, o := o3, a := a3, synced := k, lasts := true }) rfl rfl h)⟩) d5 (keptF _ rfl hcr trivial) (keptB _ rfl rfl)
        conv => lhs; whnf
        exact next _ _ _ (keptU { g with bytes := g.bytes.take k, o := o3, a := a3, synced := k, lasts := true } rfl) ⟨it, _, _, wn, rfl, rfl⟩
end Go.Proofs.Ytahhajakgakdhaa
