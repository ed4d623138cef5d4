/- Package disk: Clone, Sync, Read, New, Short, Cut. -/
import Derived.Test.YtahhajakgakdhaaL5Disk3
namespace Go.Proofs.Ytahhajakgakdhaa
set_option maxRecDepth 100000
open Go Go.AM Go.AM.St

structure MidC (σ σ' : H) (g : FG) (o' : Option Nat) (a' : SA) (bs : List Nat) : Prop where
  len : σ.length ≤ σ'.length
  keep : ∀ id, id < σ.length → g.o ≠ some id → σ'[id]? = σ[id]?
  own : Own [] σ' 1 o' a' bs.length (u8s bs)
  o : o' = none ∨ o' = g.o ∨ ∃ i, o' = some i ∧ σ.length ≤ i
def mSync (name : List Nat) : List FV → List FV
  | [] => []
  | x :: l => if x.name = name then { x with synced := x.bytes.length, lasts := true } :: l else x :: mSync name l
theorem mSync_some {name : List Nat} {g : FG} {G2 : List FG} (hg : g.name = name) : ∀ {G1 : List FG}, (∀ g ∈ G1, g.name ≠ name) → mSync name ((G1 ++ g :: G2).map FG.v) = G1.map FG.v ++ { g.v with synced := g.bytes.length, lasts := true } :: G2.map FG.v
  | [], _ => by
    show (if g.name = name then _ else _) = _
    rw [if_pos hg]; rfl
  | x :: G1, h => by
    show (if x.name = name then _ else _) = _
    rw [if_neg (h x (by simp))]
    exact congrArg (x.v :: ·) (mSync_some hg fun g hg => h g (by simp [hg]))
def mFind (name : List Nat) : List FV → Option FV
  | [] => none
  | x :: l => if x.name = name then some x else mFind name l
theorem mFind_none {name : List Nat} : ∀ {G : List FG}, (∀ g ∈ G, g.name ≠ name) → mFind name (G.map FG.v) = none
  | [], _ => rfl
  | x :: G, h => by
    show (if x.name = name then _ else _) = _
    rw [if_neg (h x (by simp)), mFind_none fun g hg => h g (by simp [hg])]
theorem mFind_some {name : List Nat} {g : FG} {G2 : List FG} (hg : g.name = name) : ∀ {G1 : List FG}, (∀ g ∈ G1, g.name ≠ name) → mFind name ((G1 ++ g :: G2).map FG.v) = some g.v
  | [], _ => by
    show (if g.name = name then _ else _) = _
    rw [if_pos hg]
  | x :: G1, h => by
    show (if x.name = name then _ else _) = _
    rw [if_neg (h x (by simp))]
    exact mFind_some hg fun g hg => h g (by simp [hg])
theorem appendZero {t e : TypeId} {ie : TypeInfo} {z : Nat} (ht : Try.prog.underlying t = some (.slice e)) (hi : Try.prog.info? e = some ie) (hz : ie.size = z) (hg : (ie.size == 0 || ie.bytes == 0 || !zeroFits ie) = false) {σ : H} {a b : SA} {m : Nat} {ys : List AV}
    (hx : Rw σ z b m ys) (hb : m * ie.bytes ≤ 140737488355328) (ha : a = .nil ∨ a = .zero) {K : AV → H → Bool} (h0 : m = 0 → K (.sl a 0) σ = true) (h1 : 0 < m → K (.sl (.at σ.length 0 z) m) (σ ++ [AO.cells ys z .own]) = true) (hst : isStructT Try.prog e = false := by rfl) :
    appendK Try.prog t (.sl a 0) (.sl b m) σ K = true := by
  subst hz
  unfold appendK
  rw [ht]
  simp only
  rw [hi]
  simp only
  refine bif_neg hg ?_
  by_cases hm : m = 0
  · exact bif_pos (by simpa using hm) (h0 hm)
  · refine bif_neg (by simpa using hm) (bif_pos (decide_eq_true (by rw [Nat.zero_add]; exact hb)) (seenK_rw hx ?_))
    refine bif_neg hst ?_
    rcases ha with rfl | rfl
    · exact h1 (by omega)
    · exact h1 (by omega)
section
variable {B m clock ops : Nat} {G G1 G2 : List FG} {left : Int} {down : Bool} {σ : H}
theorem st_cut {σ' : H} {g : FG} {o' : Option Nat} {a' : SA} {bs : List Nat} (hd : DiskAt σ B m clock (G1 ++ g :: G2) left down ops) (hm : MidC σ σ' g o' a' bs) {K : H → Bool}
    (hK : ∀ σ'', DiskAt σ'' B m clock (G1 ++ { g with bytes := bs, o := o', a := a' } :: G2) left down ops → Step B m (G1 ++ g :: G2) (G1 ++ { g with bytes := bs, o := o', a := a' } :: G2) σ σ'' → K σ'' = true) :
    storeK Try.prog 22 (.ptr (some ⟨g.f, 0, 0, 3⟩)) (.sl a' bs.length) σ' K = true := by
  have hg := hd.files g (by simp)
  have hne : g.o ≠ some g.f := fun e => by obtain ⟨xs, md, hr⟩ := hg.oRow e; rw [hg.row] at hr; cases hr
  have hrow := (hm.keep g.f (get_lt hg.row) hne).trans hg.row
  have hkk : ∀ id, id < σ.length → id ≠ g.f → g.o ≠ some id → (σ'.set g.f (.cells ((fileCells g).set (0 + 0) (.sl a' bs.length)) 3 .own))[id]? = σ[id]? := fun id hl h1 h2 => by
    rw [List.getElem?_set_ne (Ne.symm h1)]; exact hm.keep id hl h2
  have hof : o' ≠ some g.f := fun e => by
    rcases hm.o with h | h | ⟨i, h, hl⟩
    · rw [h] at e; cases e
    · exact hne (h.symm.trans e)
    · rw [h] at e; cases e; exact absurd (get_lt hg.row) (by omega)
  refine storeK_of rfl rfl (by decide) hrow rfl (by show 0 + 0 < 3; decide) (hK _ (hd.repl rfl rfl rfl hm.o hkk ⟨?_, ?_⟩) ⟨?_, fun id hl hf => ?_, fun id hf => ?_⟩)
  · rw [get_set hrow]
    rfl
  · show Own [] _ 1 o' a' bs.length (u8s bs)
    have h := hm.own
    unfold Own at h ⊢
    cases o' with
    | none => exact h
    | some i =>
      obtain ⟨off, xs, md, a1, a2, a3, a4⟩ := h
      exact ⟨off, xs, md, a1, a2, get_set_ne a3 (fun e => hof (by rw [e])) _, a4⟩
  · rw [List.length_set]; exact hm.len
  · refine hkk id hl (fun e => hf (.inr (.inr (.inl ⟨g, by simp, e⟩)))) fun e => hf (.inr (.inr (.inr ⟨g, by simp, e⟩)))
  · rcases hf with h | h | ⟨x, hx, h⟩ | ⟨x, hx, h⟩
    · exact .inl (.inl h)
    · exact .inl (.inr (.inl h))
    · refine .inl (.inr (.inr (.inl ?_)))
      rcases List.mem_append.1 hx with hx | hx
      · exact ⟨x, by simp [hx], h⟩
      · rcases List.mem_cons.1 hx with rfl | hx
        · exact ⟨g, by simp, h⟩
        · exact ⟨x, by simp [hx], h⟩
    · rcases List.mem_append.1 hx with hx | hx
      · exact .inl (.inr (.inr (.inr ⟨x, by simp [hx], h⟩)))
      · rcases List.mem_cons.1 hx with rfl | hx
        · rcases hm.o with h' | h' | ⟨i, h', hl⟩
          · have h : o' = some id := h
            rw [h'] at h; cases h
          · exact .inl (.inr (.inr (.inr ⟨g, by simp, h'.symm.trans h⟩)))
          · have h : o' = some id := h
            rw [h'] at h; cases h; exact .inr hl
        · exact .inl (.inr (.inr (.inr ⟨x, by simp [hx], h⟩)))
end
attribute [local irreducible] IntKind.wrap Int.fdiv Int.tdiv Int.tmod BitVec.ofInt appendK sliceK indexAddrK ldK storeK seenK makeSliceK lookupK updateK deleteK mapK
variable {D : Drawer}
variable {B m clock ops : Nat} {G G1 G2 : List FG} {left : Int} {down : Bool} {σ : H}

theorem clone_spec {n : Nat} {s : SA} {N : Nat} {bs : List Nat} (hn : 1 ≤ n) (hm : bs.length ≤ 1000000000) (hs : Rw σ 1 s N (u8s bs)) {K : AV → H → Bool}
    (hK : ∀ o' a' σ', σ <+: σ' → (o' = none ∨ o' = some σ.length) → Own [] σ' 1 o' a' bs.length (u8s bs) → K (.sl a' bs.length) σ' = true) : acall Try.prog tab D n 48 [.sl s N] σ K = true := by
  obtain ⟨n, rfl, hn⟩ := up hn
  have hN : N = bs.length := by have := hs.len; simp [u8s] at this; exact this.symm
  subst hN
  have hz : bs.length = 0 → u8s bs = [] := fun h => by rw [List.length_eq_zero_iff.1 h]; rfl
  have hs' := hs
  rcases hs with ⟨rfl, h0, h00⟩ | ⟨rfl, h0, h00⟩ | ⟨id, off, xs, md, rfl, g1, g2, g3⟩
  · have := hK none .nil σ (List.prefix_rfl) (.inl rfl) ⟨.inl rfl, h0, hz h0⟩
    rw [h0] at this
    conv => lhs; whnf
    exact this
  all_goals
    conv => lhs; whnf
    refine appendZero Try.underlying22 rfl rfl rfl hs' (by show _ * 1 ≤ _; omega) (.inr rfl) (fun h0 => ?_) (fun h0 => ?_)
    · have := hK none .zero σ (List.prefix_rfl) (.inl rfl) ⟨.inr rfl, h0, hz h0⟩
      rw [h0] at this
      conv => lhs; whnf
      exact this
    · have := hK (some σ.length) (.at σ.length 0 1) _ (List.prefix_append σ [AO.cells (u8s bs) 1 .own]) (.inr rfl) (Own.new (σ0 := []) List.nil_prefix _ _ (by decide) (by simp [u8s]))
      conv => lhs; whnf
      exact this
theorem new_spec {n : Nat} (hn : 1 ≤ n) {K : AV → H → Bool} (hK : ∀ σ' B m, σ <+: σ' → DiskAt σ' B m 0 [] (-1) false 0 → (∀ id, Fp B m [] id → σ.length ≤ id) → K (.ptr (some ⟨B, 0, 0, 4⟩)) σ' = true) :
    acall Try.prog tab D n 17 [] σ K = true := by
  obtain ⟨n, rfl, hn⟩ := up hn
  have := hK (σ ++ [AO.map [] 0] ++ [AO.cells [.map (some σ.length), .int .i64 (-1), .bool false, .int .i64 0] 4 .own]) (σ ++ [AO.map [] 0]).length σ.length (by rw [List.append_assoc]; exact List.prefix_append _ _)
    ⟨get_new _ _, get_old (get_new _ _) _, fun g hg => by simp at hg, List.Pairwise.nil, fun g hg => by simp at hg⟩ (fun id h => by
      rcases h with rfl | rfl | ⟨g, hg, _⟩ | ⟨g, hg, _⟩
      · rw [List.length_append]; omega
      · exact Nat.le_refl _
      · simp at hg
      · simp at hg)
  conv => lhs; whnf
  exact this
theorem sync_spec {n : Nat} {name : List Nat} (hn : 3 ≤ n) (hd : DiskAt σ B m clock G left down ops) (hl : -1 ≤ left) (hl2 : left ≤ 9223372036854775807) (hops : ops < 1000000000) {K : AV → H → Bool}
    (h0 : down = true → K (.int .i64 7) σ = true)
    (h1 : down = false → mFind name (G.map FG.v) = none → K (.int .i64 3) σ = true)
    (h2 : down = false → ∀ x, mFind name (G.map FG.v) = some x → left = 0 → ∀ σ', DiskAt σ' B m clock G left true ops → Step B m G G σ σ' → K (.int .i64 7) σ' = true)
    (h3 : down = false → ∀ x, mFind name (G.map FG.v) = some x → left ≠ 0 → ∀ σ' G', DiskAt σ' B m clock G' (max (left - 1) (-1)) false (ops + 1) → G'.map FG.v = mSync name (G.map FG.v) → Step B m G G' σ σ' → K (.int .i64 0) σ' = true) :
    acall Try.prog tab D n 19 [.ptr (some ⟨B, 0, 0, 4⟩), .str (ints name)] σ K = true := by
  obtain ⟨n, rfl, hn⟩ := up hn
  conv => lhs; whnf
  refine finds_spec (by omega) hd (fun hdn => ?_) (fun hdn hno => ?_) fun hdn G1 g G2 hG hg hno => ?_
  · conv => lhs; whnf
    exact h0 hdn
  · conv => lhs; whnf
    exact h1 hdn (mFind_none hno)
  subst hG
  subst hdn
  have hf := mFind_some (G2 := G2) hg hno
  conv => lhs; whnf
  refine does_spec (by omega) hd hl hl2 hops (fun e σ1 d1 k1 => ?_) fun e σ1 d1 k1 => ?_
  · have := h2 rfl _ hf e σ1 d1 (Step.ofB (get_lt hd.row) (len_of hd.row d1.row k1) k1)
    conv => lhs; whnf
    exact this
  conv => lhs; whnf
  refine ldF Try.underlying22 rfl rfl (d1.files g (by simp)).row rfl ?_
  conv => lhs; whnf
  refine lasting_spec (by omega) d1 rfl fun σ2 d2 k2 l2 => ?_
  have := h3 rfl _ hf e σ2 _ d2 (by rw [mSync_some hg hno]; simp [FG.v]) ((Step.ofB (get_lt hd.row) (len_of hd.row d1.row k1) k1).trans ⟨Nat.le_of_eq l2.symm, fun id hl hf => k2 id fun e => hf (.inr (.inr (.inl ⟨g, by simp, e⟩))), fun id h => .inl (fp_same (g := g) (g' := { g with synced := g.bytes.length, lasts := true }) rfl rfl h)⟩)
  conv => lhs; whnf
  exact this
theorem read_spec {n : Nat} {name : List Nat} (hn : 3 ≤ n) (hd : DiskAt σ B m clock G left down ops) (hlen : ∀ g ∈ G, g.bytes.length ≤ 1000000000) {K : AV → H → Bool}
    (h0 : down = true → K (.tup [.sl .nil 0, .int .i64 7]) σ = true)
    (h1 : down = false → mFind name (G.map FG.v) = none → K (.tup [.sl .nil 0, .int .i64 3]) σ = true)
    (h2 : down = false → ∀ x, mFind name (G.map FG.v) = some x → ∀ o' a' σ', σ <+: σ' → (o' = none ∨ o' = some σ.length) → Own [] σ' 1 o' a' x.bytes.length (u8s x.bytes) → K (.tup [.sl a' x.bytes.length, .int .i64 0]) σ' = true) :
    acall Try.prog tab D n 21 [.ptr (some ⟨B, 0, 0, 4⟩), .str (ints name)] σ K = true := by
  obtain ⟨n, rfl, hn⟩ := up hn
  conv => lhs; whnf
  refine finds_spec (by omega) hd (fun hdn => ?_) (fun hdn hno => ?_) fun hdn G1 g G2 hG hg hno => ?_
  · conv => lhs; whnf
    exact h0 hdn
  · conv => lhs; whnf
    exact h1 hdn (mFind_none hno)
  subst hG
  have hf := mFind_some (G2 := G2) hg hno
  conv => lhs; whnf
  refine ldF Try.underlying22 rfl rfl (hd.files g (by simp)).row rfl ?_
  conv => lhs; whnf
  refine clone_spec (by omega) (hlen g (by simp)) (hd.files g (by simp)).own.rw fun o' a' σ' hp ho hw => ?_
  have := h2 hdn _ hf o' a' σ' hp ho hw
  conv => lhs; whnf
  exact this
end Go.Proofs.Ytahhajakgakdhaa
