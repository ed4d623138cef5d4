/- Package disk: Move. -/
import Derived.Test.YtahhajakgakdhaaL5Ops
namespace Go.Proofs.Ytahhajakgakdhaa
set_option maxRecDepth 100000
open Go Go.AM Go.AM.St
def mDel (name : List Nat) : List FV → List FV
  | [] => []
  | x :: l => if x.name = name then l else x :: mDel name l
def mPut (y : FV) : List FV → List FV
  | [] => [y]
  | x :: l => if x.name = y.name then y :: l else x :: mPut y l
def mMove (f t : List Nat) (l : List FV) : List FV :=
  match mFind f l with
  | none => l
  | some x => mPut ⟨t, x.bytes, x.bytes.length, true⟩ (mDel f l)
theorem mDel_some {name : List Nat} {g : FG} {G2 : List FG} (hg : g.name = name) : ∀ {G1 : List FG}, (∀ g ∈ G1, g.name ≠ name) → mDel name ((G1 ++ g :: G2).map FG.v) = (G1 ++ G2).map FG.v
  | [], _ => by
    show (if g.name = name then _ else _) = _
    rw [if_pos hg]; rfl
  | x :: G1, h => by
    show (if x.name = name then _ else _) = _
    rw [if_neg (h x (by simp))]
    exact congrArg (x.v :: ·) (mDel_some hg fun g hg => h g (by simp [hg]))
theorem mPut_none {y : FV} : ∀ {G : List FG}, (∀ g ∈ G, g.name ≠ y.name) → mPut y (G.map FG.v) = G.map FG.v ++ [y]
  | [], _ => rfl
  | x :: G, h => by
    show (if x.name = y.name then _ else _) = _
    rw [if_neg (h x (by simp)), mPut_none fun g hg => h g (by simp [hg])]
    rfl
theorem mPut_some {y : FV} {g : FG} {G2 : List FG} (hg : g.name = y.name) : ∀ {G1 : List FG}, (∀ g ∈ G1, g.name ≠ y.name) → mPut y ((G1 ++ g :: G2).map FG.v) = G1.map FG.v ++ y :: G2.map FG.v
  | [], _ => by
    show (if g.name = y.name then _ else _) = _
    rw [if_pos hg]; rfl
  | x :: G1, h => by
    show (if x.name = y.name then _ else _) = _
    rw [if_neg (h x (by simp))]
    exact congrArg (x.v :: ·) (mPut_some hg fun g hg => h g (by simp [hg]))
theorem Apart.symm {g h : FG} (a : Apart g h) : Apart h g := by
  obtain ⟨b1, b2, b3, b4⟩ := a
  refine ⟨b1.symm, ?_, Ne.symm b3, Ne.symm b4⟩
  rcases b2 with b2 | b2
  · cases hgo : h.o with
    | none => exact .inl rfl
    | some j => exact .inr (by rw [b2]; exact fun e => by cases e)
  · exact .inr (Ne.symm b2)
section
variable {B m clock ops : Nat} {G G1 G2 : List FG} {left : Int} {down : Bool} {σ : H}
theorem DiskAt.remap (hd : DiskAt σ B m clock G left down ops) (G' : List FG) (clock' : Nat) (hf : ∀ x ∈ G', FileAt σ x) (ha : G'.Pairwise Apart) (ho : ∀ x ∈ G', x.born < clock') :
    DiskAt (σ.set m (.map (G'.map entOf) clock')) B m clock' G' left down ops := by
  have hmB : B ≠ m := fun e => by have := hd.mp; rw [← e, hd.row] at this; cases this
  refine ⟨get_set_ne hd.row hmB _, get_set hd.mp _, fun x hx => ?_, ha, ho⟩
  have h := hf x hx
  refine h.keep (List.getElem?_set_ne fun e => ?_) fun i hi => List.getElem?_set_ne fun e => ?_
  · have := hd.mp; rw [e, h.row] at this; cases this
  · obtain ⟨xs, md, hr⟩ := h.oRow hi
    have := hd.mp; rw [e, hr] at this; cases this
theorem FileAt.named {g : FG} (h : FileAt σ g) (name : List Nat) (born : Nat) : FileAt σ { g with name := name, born := born } := ⟨h.row, h.own⟩
/-- A file that is in no map is put under a name. -/
theorem put_file {g : FG} (hd : DiskAt σ B m clock G left down ops) (hg : FileAt σ g) (hap : ∀ x ∈ G, x.f ≠ g.f ∧ (x.o = none ∨ x.o ≠ g.o)) (to' : List Nat) {K : H → Bool}
    (hK : ∀ σ' clock' G', DiskAt σ' B m clock' G' left down ops → G'.map FG.v = mPut ⟨to', g.bytes, g.synced, g.lasts⟩ (G.map FG.v) → σ'.length = σ.length → (∀ id, id ≠ m → σ'[id]? = σ[id]?) → (∀ id, Fp B m G' id → Fp B m (g :: G) id) → K σ' = true) :
    updateK Try.prog 74 (.map (some m)) (.str (ints to')) (.ptr (some ⟨g.f, 0, 0, 3⟩)) σ K = true := by
  have hap2 : ∀ x ∈ G, g.f ≠ x.f ∧ (g.o = none ∨ g.o ≠ x.o) := fun x hx => by
    obtain ⟨b1, b2⟩ := hap x hx
    refine ⟨b1.symm, ?_⟩
    rcases b2 with b2 | b2
    · cases hgo : g.o with
      | none => exact .inl rfl
      | some j => exact .inr (by rw [b2]; exact fun e => by cases e)
    · exact .inr (Ne.symm b2)
  rcases find_cases G to' with hno | ⟨G1, h, G2, rfl, hh, hno⟩
  · refine upd_new hd.mp hno ?_
    have e : G.map entOf ++ [⟨.str (ints to'), .ptr (some ⟨g.f, 0, 0, 3⟩), clock⟩] = (G ++ [{ g with name := to', born := clock }]).map entOf := by simp [entOf]
    rw [e]
    refine hK _ _ _ (hd.remap _ _ (fun x hx => ?_) ?_ fun x hx => ?_) ?_ (List.length_set ..) (fun id hne => List.getElem?_set_ne (Ne.symm hne)) fun id hf => ?_
    · rcases List.mem_append.1 hx with hx | hx
      · exact hd.files x hx
      · rw [List.mem_singleton] at hx; subst hx; exact hg.named _ _
    · rw [List.pairwise_append]
      refine ⟨hd.apart, by simp, fun x hx y hy => ?_⟩
      rw [List.mem_singleton] at hy; subst hy
      exact ⟨(hap x hx).1, (hap x hx).2, hno x hx, Nat.ne_of_lt (hd.old x hx)⟩
    · rcases List.mem_append.1 hx with hx | hx
      · have := hd.old x hx; omega
      · rw [List.mem_singleton] at hx; subst hx; exact Nat.lt_succ_self _
    · rw [mPut_none hno]; simp [FG.v]
    · rcases hf with h | h | ⟨x, hx, h⟩ | ⟨x, hx, h⟩
      · exact .inl h
      · exact .inr (.inl h)
      · rcases List.mem_append.1 hx with hx | hx
        · exact .inr (.inr (.inl ⟨x, by simp [hx], h⟩))
        · rw [List.mem_singleton] at hx; subst hx; exact .inr (.inr (.inl ⟨g, by simp, h⟩))
      · rcases List.mem_append.1 hx with hx | hx
        · exact .inr (.inr (.inr ⟨x, by simp [hx], h⟩))
        · rw [List.mem_singleton] at hx; subst hx; exact .inr (.inr (.inr ⟨g, by simp, h⟩))
  · refine upd_old hd.mp hh hno ?_
    have e : ((G1 ++ h :: G2).map entOf).set G1.length { entOf h with val := .ptr (some ⟨g.f, 0, 0, 3⟩) } = (G1 ++ { g with name := to', born := h.born } :: G2).map entOf := by
      rw [List.map_append, List.set_append_right _ _ (by simp), List.length_map, Nat.sub_self]
      simp [entOf, hh]
    rw [e]
    have hap0 := hd.apart
    rw [List.pairwise_append, List.pairwise_cons] at hap0
    refine hK _ _ _ (hd.remap _ _ (fun x hx => ?_) ?_ fun x hx => ?_) ?_ (List.length_set ..) (fun id hne => List.getElem?_set_ne (Ne.symm hne)) fun id hf => ?_
    · rcases List.mem_append.1 hx with hx | hx
      · exact hd.files x (by simp [hx])
      · rcases List.mem_cons.1 hx with rfl | hx
        · exact hg.named _ _
        · exact hd.files x (by simp [hx])
    · rw [List.pairwise_append, List.pairwise_cons]
      refine ⟨hap0.1, ⟨fun x hx => ?_, hap0.2.1.2⟩, fun x hx y hy => ?_⟩
      · obtain ⟨a1, a2⟩ := hap2 x (by simp [hx])
        obtain ⟨b1, b2, b3, b4⟩ := hap0.2.1.1 x hx
        exact ⟨a1, a2, hh ▸ b3, b4⟩
      · rcases List.mem_cons.1 hy with rfl | hy
        · obtain ⟨a1, a2⟩ := hap x (by simp [hx])
          obtain ⟨b1, b2, b3, b4⟩ := hap0.2.2 x hx h (by simp)
          exact ⟨a1, a2, hh ▸ b3, b4⟩
        · exact hap0.2.2 x hx y (by simp [hy])
    · rcases List.mem_append.1 hx with hx | hx
      · exact hd.old x (by simp [hx])
      · rcases List.mem_cons.1 hx with rfl | hx
        · exact hd.old h (by simp)
        · exact hd.old x (by simp [hx])
    · rw [mPut_some (y := ⟨to', g.bytes, g.synced, g.lasts⟩) hh hno]; simp [FG.v]
    · rcases hf with h | h | ⟨x, hx, h⟩ | ⟨x, hx, h⟩
      · exact .inl h
      · exact .inr (.inl h)
      · rcases List.mem_append.1 hx with hx | hx
        · exact .inr (.inr (.inl ⟨x, by simp [hx], h⟩))
        · rcases List.mem_cons.1 hx with rfl | hx
          · exact .inr (.inr (.inl ⟨g, by simp, h⟩))
          · exact .inr (.inr (.inl ⟨x, by simp [hx], h⟩))
      · rcases List.mem_append.1 hx with hx | hx
        · exact .inr (.inr (.inr ⟨x, by simp [hx], h⟩))
        · rcases List.mem_cons.1 hx with rfl | hx
          · exact .inr (.inr (.inr ⟨g, by simp, h⟩))
          · exact .inr (.inr (.inr ⟨x, by simp [hx], h⟩))
end
attribute [local irreducible] IntKind.wrap Int.fdiv Int.tdiv Int.tmod BitVec.ofInt appendK sliceK indexAddrK ldK storeK seenK makeSliceK lookupK updateK deleteK mapK rangeK nextK keysF
variable {D : Drawer}
variable {B m clock ops : Nat} {G G1 G2 : List FG} {left : Int} {down : Bool} {σ : H}
theorem move_spec {n : Nat} {name to' : List Nat} (hn : 3 ≤ n) (hd : DiskAt σ B m clock G left down ops) (hl : -1 ≤ left) (hl2 : left ≤ 9223372036854775807) (hops : ops < 1000000000) {K : AV → H → Bool}
    (h0 : down = true → K (.int .i64 7) σ = true)
    (h1 : down = false → mFind name (G.map FG.v) = none → K (.int .i64 3) σ = true)
    (h2 : down = false → ∀ x, mFind name (G.map FG.v) = some x → (!to'.isEmpty && decide (to'.length ≤ 200)) = false → K (.int .i64 1) σ = true)
    (h3 : down = false → ∀ x, mFind name (G.map FG.v) = some x → (!to'.isEmpty && decide (to'.length ≤ 200)) = true → left = 0 → ∀ σ', DiskAt σ' B m clock G left true ops → Step B m G G σ σ' → K (.int .i64 7) σ' = true)
    (h4 : down = false → ∀ x, mFind name (G.map FG.v) = some x → (!to'.isEmpty && decide (to'.length ≤ 200)) = true → left ≠ 0 → ∀ σ' clock' G', DiskAt σ' B m clock' G' (max (left - 1) (-1)) false (ops + 1) → G'.map FG.v = mMove name to' (G.map FG.v) → Step B m G G' σ σ' → K (.int .i64 0) σ' = true) :
    acall Try.prog tab D n 36 [.ptr (some ⟨B, 0, 0, 4⟩), .str (ints name), .str (ints to')] σ K = true := by
  obtain ⟨n, rfl, hn⟩ := up hn
  conv => lhs; whnf
  refine finds_spec (by omega) hd (fun hdn => ?_) (fun hdn hno => ?_) fun hdn G1 g G2 hG hg hno => ?_
  · conv => lhs; whnf
    exact h0 hdn
  · conv => lhs; whnf
    exact h1 hdn (mFind_none hno)
  subst hG
  subst hdn
  have hf := mFind_some (G2 := G2) hg hno
  conv => lhs; whnf
  refine may_spec (by omega) ?_
  cases hm : (!to'.isEmpty && decide (to'.length ≤ 200)) with
  | false =>
    conv => lhs; whnf
    exact h2 rfl _ hf hm
  | true =>
  conv => lhs; whnf
  refine does_spec (by omega) hd hl hl2 hops (fun e σ1 d1 k1 => ?_) fun e σ1 d1 k1 => ?_
  · have := h3 rfl _ hf hm e σ1 d1 (Step.ofB (get_lt hd.row) (len_of hd.row d1.row k1) k1)
    conv => lhs; whnf
    exact this
  have s1 : Step B m (G1 ++ g :: G2) (G1 ++ g :: G2) σ σ1 := Step.ofB (get_lt hd.row) (len_of hd.row d1.row k1) k1
  conv => lhs; whnf
  refine ldF Try.underlying22 rfl rfl (d1.files g (by simp)).row rfl ?_
  conv => lhs; whnf
  refine lasting_spec (by omega) d1 rfl fun σ2 d2 k2 l2 => ?_
  have s2 : Step B m (G1 ++ g :: G2) (G1 ++ { g with synced := g.bytes.length, lasts := true } :: G2) σ1 σ2 := ⟨Nat.le_of_eq l2.symm, fun id hl hf => k2 id fun e => hf (.inr (.inr (.inl ⟨_, List.mem_append_right _ (List.mem_cons_self ..), e⟩))), fun id h => .inl (fp_same (g := g) (g' := { g with synced := g.bytes.length, lasts := true }) rfl rfl h)⟩
  conv => lhs; whnf
  refine ldF Try.underlying74 rfl rfl d2.row rfl ?_
  conv => lhs; whnf
  refine del_old d2.mp hg hno ?_
  have d3 := d2.gone
  have hap := d2.apart
  rw [List.pairwise_append, List.pairwise_cons] at hap
  have g3 : FileAt (σ2.set m (.map ((G1 ++ G2).map entOf) clock)) { g with synced := g.bytes.length, lasts := true } := by
    have h := d2.files { g with synced := g.bytes.length, lasts := true } (by simp)
    refine h.keep (List.getElem?_set_ne fun e => ?_) fun i hi => List.getElem?_set_ne fun e => ?_
    · have := d2.mp; rw [e, h.row] at this; cases this
    · obtain ⟨xs, md, hr⟩ := h.oRow hi
      have := d2.mp; rw [e, hr] at this; cases this
  have l3 : (σ2.set m (.map ((G1 ++ G2).map entOf) clock)).length = σ2.length := List.length_set ..
  have k3 : ∀ id, id ≠ m → (σ2.set m (.map ((G1 ++ G2).map entOf) clock))[id]? = σ2[id]? := fun id hne => List.getElem?_set_ne (Ne.symm hne)
  generalize σ2.set m (.map ((G1 ++ G2).map entOf) clock) = σ3 at d3 g3 l3 k3 ⊢
  conv => lhs; whnf
  refine ldF Try.underlying74 rfl rfl d3.row rfl ?_
  conv => lhs; whnf
  refine put_file d3 g3 (fun x hx => ?_) to' fun σ4 c4 G4 d4 v4 l4 k4 f4 => ?_
  · rcases List.mem_append.1 hx with hx | hx
    · exact ⟨(hap.2.2 x hx _ (List.mem_cons_self ..)).1, (hap.2.2 x hx _ (List.mem_cons_self ..)).2.1⟩
    · exact ⟨(hap.2.1.1 x hx).symm.1, (hap.2.1.1 x hx).symm.2.1⟩
  have s4 : Step B m (G1 ++ { g with synced := g.bytes.length, lasts := true } :: G2) G4 σ2 σ4 := ⟨by omega, fun id hl hf => (k4 id fun e => hf (.inr (.inl e))).trans (k3 id fun e => hf (.inr (.inl e))), fun id h => .inl (by
    rcases f4 id h with h | h | ⟨x, hx, h⟩ | ⟨x, hx, h⟩
    · exact .inl h
    · exact .inr (.inl h)
    · rcases List.mem_cons.1 hx with rfl | hx
      · exact .inr (.inr (.inl ⟨_, List.mem_append_right _ (List.mem_cons_self ..), h⟩))
      · exact fp_gone (.inr (.inr (.inl ⟨x, hx, h⟩)))
    · rcases List.mem_cons.1 hx with rfl | hx
      · exact .inr (.inr (.inr ⟨_, List.mem_append_right _ (List.mem_cons_self ..), h⟩))
      · exact fp_gone (.inr (.inr (.inr ⟨x, hx, h⟩))))⟩
  have := h4 rfl _ hf hm e σ4 _ _ d4 (by rw [v4]; unfold mMove; rw [hf, mDel_some hg hno]; rfl) ((s1.trans s2).trans s4)
  conv => lhs; whnf
  exact this
end Go.Proofs.Ytahhajakgakdhaa
