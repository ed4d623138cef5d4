/- Package disk: Append. -/
import Derived.Test.YtahhajakgakdhaaL5Disk2
namespace Go.Proofs.Ytahhajakgakdhaa
set_option maxRecDepth 100000
open Go Go.AM Go.AM.St

theorem len_of {σ σ' : H} {B : Nat} {o o' : AO} (h : σ[B]? = some o) (h' : σ'[B]? = some o') (hk : ∀ id, id ≠ B → σ'[id]? = σ[id]?) : σ'.length = σ.length := by
  have a := get_lt h
  have b := get_lt h'
  rcases Nat.lt_trichotomy σ'.length σ.length with hl | hl | hl
  · have := hk σ'.length (by omega)
    rw [List.getElem?_eq_none (Nat.le_refl _), List.getElem?_eq_getElem hl] at this
    cases this
  · exact hl
  · have := hk σ.length (by omega)
    rw [List.getElem?_eq_none (Nat.le_refl _), List.getElem?_eq_getElem hl] at this
    cases this
/-- What a file tells. -/
structure FV where
  name : List Nat
  bytes : List Nat
  synced : Nat
  lasts : Bool
def FG.v (g : FG) : FV := ⟨g.name, g.bytes, g.synced, g.lasts⟩
def mApp (name bs : List Nat) : List FV → List FV
  | [] => [⟨name, bs, 0, false⟩]
  | x :: l => if x.name = name then { x with bytes := x.bytes ++ bs } :: l else x :: mApp name bs l
theorem mApp_none {name bs : List Nat} : ∀ {G : List FG}, (∀ g ∈ G, g.name ≠ name) → mApp name bs (G.map FG.v) = G.map FG.v ++ [⟨name, bs, 0, false⟩]
  | [], _ => rfl
  | x :: G, h => by
    show (if x.name = name then _ else _) = _
    rw [if_neg (h x (by simp)), mApp_none fun g hg => h g (by simp [hg])]
    rfl
theorem mApp_some {name bs : List Nat} {g : FG} {G2 : List FG} (hg : g.name = name) : ∀ {G1 : List FG}, (∀ g ∈ G1, g.name ≠ name) → mApp name bs ((G1 ++ g :: G2).map FG.v) = G1.map FG.v ++ { g.v with bytes := g.bytes ++ bs } :: G2.map FG.v
  | [], _ => by
    show (if g.name = name then _ else _) = _
    rw [if_pos hg]; rfl
  | x :: G1, h => by
    show (if x.name = name then _ else _) = _
    rw [if_neg (h x (by simp))]
    exact congrArg (x.v :: ·) (mApp_some hg fun g hg => h g (by simp [hg]))
section
variable {B m clock ops : Nat} {G G1 G2 : List FG} {left : Int} {down : Bool} {σ : H}
theorem rw_ne {id z z' n : Nat} {a : SA} {cs xs : List AV} {σ σ' : H} {md : Md} (h : Rw σ z a n cs) (hr : σ[id]? = some (AO.cells xs z' md)) (hz : z ≠ z') (hk : ∀ i, i ≠ id → σ'[i]? = σ[i]?) : Rw σ' z a n cs := by
  rcases h with h | h | ⟨i, off, xs', md', h1, h2, h3⟩
  · exact .inl h
  · exact .inr (.inl h)
  · refine .inr (.inr ⟨i, off, xs', md', h1, (hk i fun e => ?_).trans h2, h3⟩)
    rw [e, hr] at h2; cases h2; exact hz rfl
theorem rw_map {id c z n : Nat} {es : List ME} {a : SA} {cs : List AV} {σ σ' : H} (h : Rw σ z a n cs) (hr : σ[id]? = some (AO.map es c)) (hk : ∀ i, i < σ.length → i ≠ id → σ'[i]? = σ[i]?) : Rw σ' z a n cs := by
  rcases h with h | h | ⟨i, off, xs', md', h1, h2, h3⟩
  · exact .inl h
  · exact .inr (.inl h)
  · refine .inr (.inr ⟨i, off, xs', md', h1, (hk i (get_lt h2) fun e => ?_).trans h2, h3⟩)
    rw [e, hr] at h2; cases h2

/-- A new file. -/
theorem DiskAt.newFile (hd : DiskAt σ B m clock G left down ops) {name : List Nat} (hn : ∀ g ∈ G, g.name ≠ name) :
    DiskAt ((σ ++ [AO.cells [.sl .nil 0, .int .i64 0, .bool false] 3 .own]).set m (.map (G.map entOf ++ [⟨.str (ints name), .ptr (some ⟨σ.length, 0, 0, 3⟩), clock⟩]) (clock + 1))) B m (clock + 1) (G ++ [⟨name, [], 0, false, σ.length, none, .nil, clock⟩]) left down ops := by
  have hml := get_lt hd.mp
  have hmB : B ≠ m := fun e => by have := hd.mp; rw [← e, hd.row] at this; cases this
  refine ⟨?_, ?_, fun x hx => ?_, ?_, ?_⟩
  · rw [List.getElem?_set_ne (Ne.symm hmB)]; exact get_old hd.row _
  · rw [get_set (get_old hd.mp _)]; simp [entOf]
  · rcases List.mem_append.1 hx with hx | hx
    · have h := hd.files x hx
      refine h.keep ?_ fun i hi => ?_
      · have hne : x.f ≠ m := fun e => by have := hd.mp; rw [← e, h.row] at this; cases this
        rw [List.getElem?_set_ne (Ne.symm hne), get_old h.row, h.row]
      · obtain ⟨xs, md, hr⟩ := h.oRow hi
        have hne : i ≠ m := fun e => by have := hd.mp; rw [← e, hr] at this; cases this
        rw [List.getElem?_set_ne (Ne.symm hne), get_old hr, hr]
    · rw [List.mem_singleton] at hx
      subst hx
      refine ⟨?_, Own.nil _ _ _⟩
      rw [List.getElem?_set_ne (Nat.ne_of_lt hml)]; exact get_new _ _
  · rw [List.pairwise_append]
    refine ⟨hd.apart, by simp, fun x hx y hy => ?_⟩
    rw [List.mem_singleton] at hy
    subst hy
    have h := hd.files x hx
    have := hd.old x hx
    have hl := get_lt h.row
    refine ⟨Nat.ne_of_lt hl, ?_, hn x hx, Nat.ne_of_lt this⟩
    cases ho : x.o with
    | none => exact .inl rfl
    | some j => exact .inr fun e => by cases e
  · intro x hx
    rcases List.mem_append.1 hx with hx | hx
    · have := hd.old x hx; omega
    · rw [List.mem_singleton] at hx
      subst hx
      show clock < clock + 1
      omega
theorem fp_new {name : List Nat} {id : Nat} (h : Fp B m (G ++ [⟨name, [], 0, false, σ.length, none, .nil, clock⟩]) id) : Fp B m G id ∨ σ.length ≤ id := by
  rcases h with h | h | ⟨x, hx, h⟩ | ⟨x, hx, h⟩
  · exact .inl (.inl h)
  · exact .inl (.inr (.inl h))
  · rcases List.mem_append.1 hx with hx | hx
    · exact .inl (.inr (.inr (.inl ⟨x, hx, h⟩)))
    · rw [List.mem_singleton] at hx; subst hx
      exact .inr (Nat.le_of_eq h.symm)
  · rcases List.mem_append.1 hx with hx | hx
    · exact .inl (.inr (.inr (.inr ⟨x, hx, h⟩)))
    · rw [List.mem_singleton] at hx; subst hx
      cases h
theorem upd_file (hd : DiskAt σ B m clock G left down ops) {name : List Nat} (hn : ∀ g ∈ G, g.name ≠ name) {K : H → Bool}
    (h : ∀ σ', DiskAt σ' B m (clock + 1) (G ++ [⟨name, [], 0, false, σ.length, none, .nil, clock⟩]) left down ops → σ'.length = σ.length + 1 → (∀ id, id < σ.length → id ≠ m → σ'[id]? = σ[id]?) → K σ' = true) :
    updateK Try.prog 74 (.map (some m)) (.str (ints name)) (.ptr (some ⟨σ.length, 0, 0, 3⟩)) (σ ++ [AO.cells [.sl .nil 0, .int .i64 0, .bool false] 3 .own]) K = true :=
  upd_new (get_old hd.mp _) hn (h _ (hd.newFile hn) (by simp) fun id hl hne => by rw [List.getElem?_set_ne (Ne.symm hne), List.getElem?_append_left hl])
theorem u8s_append (a b : List Nat) : u8s (a ++ b) = u8s a ++ u8s b := by simp [u8s]
structure Mid (σ σ' : H) (g : FG) (o' : Option Nat) (a' : SA) (bs : List Nat) : Prop where
  len : σ.length ≤ σ'.length
  keep : ∀ id, id < σ.length → g.o ≠ some id → σ'[id]? = σ[id]?
  own : Own [] σ' 1 o' a' (g.bytes.length + bs.length) (u8s (g.bytes ++ bs))
  o : o' = none ∨ o' = g.o ∨ ∃ i, o' = some i ∧ σ.length ≤ i
theorem app_mid {g : FG} {ab : SA} {nb : Nat} {bs : List Nat} (hg : FileAt σ g) (hb : Rw σ 1 ab nb (u8s bs)) (hlen : g.bytes.length + bs.length ≤ 1000000000) {K : AV → H → Bool}
    (hK : ∀ o' a' σ', Mid σ σ' g o' a' bs → K (.sl a' (g.bytes.length + bs.length)) σ' = true) :
    appendK Try.prog 22 (.sl g.a g.bytes.length) (.sl ab nb) σ K = true := by
  have hnb : nb = bs.length := by have := hb.len; simp [u8s] at this; exact this.symm
  subst hnb
  refine appendK_rw (σ0 := []) Try.underlying22 rfl rfl rfl (List.nil_prefix) hg.own hb rfl (u8s_append _ _).symm (by show _ * 1 ≤ _; omega) fun o' a' σ' _ h2 h3 h4 h5 => hK o' a' σ' ⟨?_, ?_, h5, ?_⟩
  · by_cases hz : σ.length = 0
    · omega
    · have hi : σ.length - 1 < σ.length := by omega
      by_cases e : some (σ.length - 1) = g.o
      · rw [h3 _ e.symm, ← e] at h5
        obtain ⟨xs, md, hr⟩ := own_row h5
        have := get_lt hr
        omega
      · have := get_lt (h2 _ _ e (List.getElem?_eq_getElem hi))
        omega
  · intro id hl hne
    rw [h2 id _ (Ne.symm hne) (List.getElem?_eq_getElem hl), List.getElem?_eq_getElem hl]
  · cases ho : g.o with
    | none =>
      rcases h4 ho with h | h
      · exact .inl h
      · exact .inr (.inr ⟨_, h, Nat.le_refl _⟩)
    | some i => exact .inr (.inl (h3 i ho |>.trans ho))
theorem st_file {σ' : H} {g : FG} {o' : Option Nat} {a' : SA} {bs : List Nat} (hd : DiskAt σ B m clock (G1 ++ g :: G2) left down ops) (hm : Mid σ σ' g o' a' bs) {K : H → Bool}
    (hK : ∀ σ'', DiskAt σ'' B m clock (G1 ++ { g with bytes := g.bytes ++ bs, o := o', a := a' } :: G2) left down ops → Step B m (G1 ++ g :: G2) (G1 ++ { g with bytes := g.bytes ++ bs, o := o', a := a' } :: G2) σ σ'' → K σ'' = true) :
    storeK Try.prog 22 (.ptr (some ⟨g.f, 0, 0, 3⟩)) (.sl a' (g.bytes.length + bs.length)) σ' K = true := by
  have hg := hd.files g (by simp)
  have hne : g.o ≠ some g.f := fun e => by obtain ⟨xs, md, hr⟩ := hg.oRow e; rw [hg.row] at hr; cases hr
  have hrow := (hm.keep g.f (get_lt hg.row) hne).trans hg.row
  have hkk : ∀ id, id < σ.length → id ≠ g.f → g.o ≠ some id → (σ'.set g.f (.cells ((fileCells g).set (0 + 0) (.sl a' (g.bytes.length + bs.length))) 3 .own))[id]? = σ[id]? := fun id hl h1 h2 => by
    rw [List.getElem?_set_ne (Ne.symm h1)]; exact hm.keep id hl h2
  have hof : o' ≠ some g.f := fun e => by
    rcases hm.o with h | h | ⟨i, h, hl⟩
    · rw [h] at e; cases e
    · exact hne (h.symm.trans e)
    · rw [h] at e; cases e; exact absurd (get_lt hg.row) (by omega)
  refine storeK_of rfl rfl (by decide) hrow rfl (by show 0 + 0 < 3; decide) (hK _ (hd.repl rfl rfl rfl hm.o hkk ⟨?_, ?_⟩) ⟨?_, fun id hl hf => ?_, fun id hf => ?_⟩)
  · rw [get_set hrow]
    show some (AO.cells [.sl a' (g.bytes.length + bs.length), _, _] 3 .own) = some (AO.cells [.sl a' (g.bytes ++ bs).length, _, _] 3 .own)
    rw [List.length_append]
  · show Own [] _ 1 o' a' (g.bytes ++ bs).length (u8s (g.bytes ++ bs))
    rw [List.length_append]
    have h := hm.own
    unfold Own at h ⊢
    cases o' with
    | none => exact h
    | some i =>
      obtain ⟨off, xs, md, a1, a2, a3, a4⟩ := h
      exact ⟨off, xs, md, a1, a2, get_set_ne a3 (fun e => hof (by rw [e])) _, a4⟩
  · rw [List.length_set]; exact hm.len
  · refine hkk id hl (fun e => hf (.inr (.inr (.inl ⟨g, by simp, e⟩)))) fun e => hf (.inr (.inr (.inr ⟨g, by simp, e⟩)))
  · rcases hf with h | h | ⟨x, hx, h⟩ | ⟨x, hx, h⟩
    · exact .inl (.inl h)
    · exact .inl (.inr (.inl h))
    · refine .inl (.inr (.inr (.inl ?_)))
      rcases List.mem_append.1 hx with hx | hx
      · exact ⟨x, by simp [hx], h⟩
      · rcases List.mem_cons.1 hx with rfl | hx
        · exact ⟨g, by simp, h⟩
        · exact ⟨x, by simp [hx], h⟩
    · rcases List.mem_append.1 hx with hx | hx
      · exact .inl (.inr (.inr (.inr ⟨x, by simp [hx], h⟩)))
      · rcases List.mem_cons.1 hx with rfl | hx
        · rcases hm.o with h' | h' | ⟨i, h', hl⟩
          · have h : o' = some id := h
            rw [h'] at h; cases h
          · exact .inl (.inr (.inr (.inr ⟨g, by simp, h'.symm.trans h⟩)))
          · have h : o' = some id := h
            rw [h'] at h; cases h; exact .inr hl
        · exact .inl (.inr (.inr (.inr ⟨x, by simp [hx], h⟩)))
end
attribute [local irreducible] IntKind.wrap Int.fdiv Int.tdiv Int.tmod BitVec.ofInt appendK sliceK indexAddrK ldK storeK seenK makeSliceK lookupK updateK deleteK mapK
variable {D : Drawer}
variable {B m clock ops : Nat} {G G1 G2 : List FG} {left : Int} {down : Bool} {σ : H}

theorem app_spec {n : Nat} {name bs : List Nat} {ab : SA} {nb : Nat} (hn : 2 ≤ n) (hd : DiskAt σ B m clock G left down ops) (hl : -1 ≤ left) (hl2 : left ≤ 9223372036854775807) (hops : ops < 1000000000) (hb : Rw σ 1 ab nb (u8s bs)) (hlen : ∀ g ∈ G, g.bytes.length + bs.length ≤ 1000000000) (hbs : bs.length ≤ 1000000000) {K : AV → H → Bool}
    (h0 : down = true → K (.int .i64 7) σ = true)
    (h1 : down = false → (!name.isEmpty && decide (name.length ≤ 200)) = false → K (.int .i64 1) σ = true)
    (h2 : down = false → (!name.isEmpty && decide (name.length ≤ 200)) = true → left = 0 → ∀ σ', DiskAt σ' B m clock G left true ops → Step B m G G σ σ' → K (.int .i64 7) σ' = true)
    (h3 : down = false → (!name.isEmpty && decide (name.length ≤ 200)) = true → left ≠ 0 → ∀ σ' clock' G', DiskAt σ' B m clock' G' (max (left - 1) (-1)) false (ops + 1) → G'.map FG.v = mApp name bs (G.map FG.v) → Step B m G G' σ σ' → K (.int .i64 0) σ' = true) :
    acall Try.prog tab D n 18 [.ptr (some ⟨B, 0, 0, 4⟩), .str (ints name), .sl ab nb] σ K = true := by
  obtain ⟨n, rfl, hn⟩ := up hn
  conv => lhs; whnf
  refine down_spec (by omega) hd ?_
  cases down with
  | true =>
    conv => lhs; whnf
    exact h0 rfl
  | false =>
  conv => lhs; whnf
  refine may_spec (by omega) ?_
  cases hm : (!name.isEmpty && decide (name.length ≤ 200)) with
  | false =>
    conv => lhs; whnf
    exact h1 rfl hm
  | true =>
  conv => lhs; whnf
  refine does_spec (by omega) hd hl hl2 hops (fun e σ1 d1 k1 => ?_) fun e σ1 d1 k1 => ?_
  · have := h2 rfl hm e σ1 d1 (Step.ofB (get_lt hd.row) (len_of hd.row d1.row k1) k1)
    conv => lhs; whnf
    exact this
  have s1 : Step B m G G σ σ1 := Step.ofB (get_lt hd.row) (len_of hd.row d1.row k1) k1
  have b1 : Rw σ1 1 ab nb (u8s bs) := rw_ne hb hd.row (by decide) k1
  conv => lhs; whnf
  refine ldF Try.underlying74 rfl rfl d1.row rfl ?_
  conv => lhs; whnf
  rcases find_cases G name with hno | ⟨G1, g, G2, rfl, hg, hno⟩
  · refine look_none d1.mp hno ?_
    conv => lhs; whnf
    refine ldF Try.underlying74 rfl rfl (get_old d1.row _) rfl ?_
    conv => lhs; whnf
    show updateK Try.prog 74 (.map (some m)) (.str (ints name)) (.ptr (some ⟨σ1.length, 0, 0, 3⟩)) (σ1 ++ [AO.cells [.sl .nil 0, .int .i64 0, .bool false] 3 .own]) _ = true
    refine upd_file d1 hno fun σ2 d2 l2 k2 => ?_
    have b2 : Rw σ2 1 ab nb (u8s bs) := rw_map b1 d1.mp k2
    conv => lhs; whnf
    refine ldF Try.underlying22 rfl rfl (d2.files ⟨name, [], 0, false, σ1.length, none, .nil, clock⟩ (by simp)).row rfl ?_
    conv => lhs; whnf
    refine app_mid (d2.files ⟨name, [], 0, false, σ1.length, none, .nil, clock⟩ (by simp)) b2 (by show 0 + _ ≤ _; omega) fun o' a' σ3 m3 => ?_
    conv => lhs; whnf
    refine st_file d2 m3 fun σ4 d4 s4 => ?_
    have := h3 rfl hm e σ4 _ _ d4 (by rw [mApp_none hno]; simp [FG.v]) (s1.trans (Step.trans ⟨by omega, fun id hl hf => k2 id hl fun e => hf (.inr (.inl e)), fun id h => fp_new h⟩ s4))
    conv => lhs; whnf
    exact this
  · refine look_some d1.mp hg hno ?_
    conv => lhs; whnf
    refine ldF Try.underlying22 rfl rfl (d1.files g (by simp)).row rfl ?_
    conv => lhs; whnf
    refine app_mid (d1.files g (by simp)) b1 (hlen g (by simp)) fun o' a' σ3 m3 => ?_
    conv => lhs; whnf
    refine st_file d1 m3 fun σ4 d4 s4 => ?_
    have := h3 rfl hm e σ4 _ _ d4 (by rw [mApp_some hg hno]; simp [FG.v]) (s1.trans s4)
    conv => lhs; whnf
    exact this
end Go.Proofs.Ytahhajakgakdhaa
