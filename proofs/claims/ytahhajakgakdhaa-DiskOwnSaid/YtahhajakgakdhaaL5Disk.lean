/- Package disk: a disk in memory. -/
import Derived.Test.YtahhajakgakdhaaL1Ref2
import Derived.Test.YtahhajakgakdhaaL1Plans
import Derived.Test.YtahhajakgakdhaaGmStep
namespace Go.Proofs.Ytahhajakgakdhaa
set_option maxRecDepth 100000
open Go Go.AM Go.AM.St

/-- A file: what it holds; where it lies. -/
structure FG where
  name : List Nat
  bytes : List Nat
  synced : Nat
  lasts : Bool
  f : Nat
  o : Option Nat
  a : SA
  born : Nat

def fileCells (g : FG) : List AV := [.sl g.a g.bytes.length, .int .i64 (g.synced : Int), .bool g.lasts]
structure FileAt (σ : H) (g : FG) : Prop where
  row : σ[g.f]? = some (AO.cells (fileCells g) 3 .own)
  own : Own [] σ 1 g.o g.a g.bytes.length (u8s g.bytes)
def entOf (g : FG) : ME := ⟨.str (ints g.name), .ptr (some ⟨g.f, 0, 0, 3⟩), g.born⟩
def Apart (g h : FG) : Prop := g.f ≠ h.f ∧ (g.o = none ∨ g.o ≠ h.o) ∧ g.name ≠ h.name ∧ g.born ≠ h.born
/-- A disk: at B; its map at m. -/
structure DiskAt (σ : H) (B m clock : Nat) (G : List FG) (left : Int) (down : Bool) (ops : Nat) : Prop where
  row : σ[B]? = some (AO.cells [.map (some m), .int .i64 left, .bool down, .int .i64 (ops : Int)] 4 .own)
  mp : σ[m]? = some (AO.map (G.map entOf) clock)
  files : ∀ g ∈ G, FileAt σ g
  apart : G.Pairwise Apart
  old : ∀ g ∈ G, g.born < clock

/-- What belongs to the disk. -/
def Fp (B m : Nat) (G : List FG) (id : Nat) : Prop := id = B ∨ id = m ∨ (∃ g ∈ G, id = g.f) ∨ ∃ g ∈ G, g.o = some id
theorem FileAt.keep {σ σ' : H} {g : FG} (h : FileAt σ g) (h1 : σ'[g.f]? = σ[g.f]?) (h2 : ∀ i, g.o = some i → σ'[i]? = σ[i]?) : FileAt σ' g := by
  refine ⟨h1.trans h.row, ?_⟩
  have := h.own
  unfold Own at this ⊢
  split at this
  · exact this
  · obtain ⟨off, xs, md, a1, a2, a3, a4⟩ := this
    exact ⟨off, xs, md, a1, a2, (h2 _ ‹_›).trans a3, a4⟩
theorem DiskAt.keep {σ σ' : H} {B m clock ops : Nat} {G : List FG} {left : Int} {down : Bool} (h : DiskAt σ B m clock G left down ops) (hk : ∀ id, Fp B m G id → σ'[id]? = σ[id]?) : DiskAt σ' B m clock G left down ops :=
  ⟨(hk _ (.inl rfl)).trans h.row, (hk _ (.inr (.inl rfl))).trans h.mp, fun g hg => (h.files g hg).keep (hk _ (.inr (.inr (.inl ⟨g, hg, rfl⟩)))) (fun _ hi => hk _ (.inr (.inr (.inr ⟨g, hg, hi⟩)))), h.apart, h.old⟩
theorem Fp.lt {σ : H} {B m clock ops : Nat} {G : List FG} {left : Int} {down : Bool} (h : DiskAt σ B m clock G left down ops) {id : Nat} (hf : Fp B m G id) : id < σ.length := by
  rcases hf with rfl | rfl | ⟨g, hg, rfl⟩ | ⟨g, hg, ho⟩
  · exact get_lt h.row
  · exact get_lt h.mp
  · exact get_lt (h.files g hg).row
  · have := (h.files g hg).own
    rw [ho] at this
    obtain ⟨off, xs, md, a1, a2, a3, a4⟩ := this
    exact get_lt a3
theorem DiskAt.mono {σ σ' : H} {B m clock ops : Nat} {G : List FG} {left : Int} {down : Bool} (h : DiskAt σ B m clock G left down ops) (hp : σ <+: σ') : DiskAt σ' B m clock G left down ops :=
  h.keep fun id hf => by
    have hl := Fp.lt h hf
    rw [prefix_get hp (List.getElem?_eq_getElem hl), List.getElem?_eq_getElem hl]

/-- The disk's row turns. -/
theorem DiskAt.turn {σ : H} {B m clock ops : Nat} {G : List FG} {left : Int} {down : Bool} (h : DiskAt σ B m clock G left down ops) (left' : Int) (down' : Bool) (ops' : Nat) :
    DiskAt (σ.set B (AO.cells [.map (some m), .int .i64 left', .bool down', .int .i64 (ops' : Int)] 4 .own)) B m clock G left' down' ops' := by
  have hB := h.row
  have hm : m ≠ B := fun e => by have := h.mp; rw [e, hB] at this; cases this
  refine ⟨get_set hB _, get_set_ne h.mp hm _, fun g hg => (h.files g hg).keep ?_ ?_, h.apart, h.old⟩
  · have hr := (h.files g hg).row
    have : g.f ≠ B := fun e => by rw [e, hB] at hr; cases hr
    rw [List.getElem?_set_ne (Ne.symm this)]
  · intro i hi
    have ho := (h.files g hg).own
    rw [hi] at ho
    obtain ⟨off, xs, md, a1, a2, a3, a4⟩ := ho
    have : i ≠ B := fun e => by rw [e, hB] at a3; cases a3
    rw [List.getElem?_set_ne (Ne.symm this)]

theorem ints_inj {a b : List Nat} (h : ints a = ints b) : a = b := by
  have := congrArg (List.map Int.toNat) h
  simpa [ints, List.map_map, Function.comp_def] using this
theorem ints_beq (a b : List Nat) : (ints a == ints b) = decide (a = b) := by
  rw [Bool.eq_iff_iff, beq_iff_eq, decide_eq_true_eq]
  exact ⟨ints_inj, fun h => by rw [h]⟩
/-- Nothing under a name, or just that. -/
theorem find_cases (G : List FG) (name : List Nat) : (∀ g ∈ G, g.name ≠ name) ∨ ∃ G1 g G2, G = G1 ++ g :: G2 ∧ g.name = name ∧ ∀ x ∈ G1, x.name ≠ name := by
  induction G with
  | nil => exact .inl fun g h => by simp at h
  | cons x G ih =>
    by_cases hx : x.name = name
    · exact .inr ⟨[], x, G, rfl, hx, fun y h => by simp at h⟩
    · rcases ih with h | ⟨G1, g, G2, rfl, h1, h2⟩
      · exact .inl fun g hg => by
          rcases List.mem_cons.1 hg with rfl | hg
          · exact hx
          · exact h g hg
      · exact .inr ⟨x :: G1, g, G2, rfl, h1, fun y hy => by
          rcases List.mem_cons.1 hy with rfl | hy
          · exact hx
          · exact h2 y hy⟩
theorem findK_none {name : List Nat} {K : Option Nat → Bool} : ∀ {G : List FG} {i : Nat}, (∀ g ∈ G, g.name ≠ name) → K none = true → findK (.str (ints name)) (G.map entOf) i K = true
  | [], _, _, h => h
  | x :: G, i, hn, h => by
    have hx : (ints name == ints x.name) = false := by rw [ints_beq, decide_eq_false_iff_not]; exact fun e => hn x (by simp) e.symm
    show (match keyEq (.str (ints name)) (.str (ints x.name)) with | some b => bif b then K (some i) else findK _ (G.map entOf) (i + 1) K | none => false) = true
    unfold keyEq keyEqLeaf
    simp only [hx, cond_false]
    exact findK_none (fun g hg => hn g (by simp [hg])) h
theorem findK_some {name : List Nat} {K : Option Nat → Bool} {g : FG} {G2 : List FG} (hg : g.name = name) : ∀ {G1 : List FG} {i : Nat}, (∀ g ∈ G1, g.name ≠ name) → K (some (i + G1.length)) = true → findK (.str (ints name)) ((G1 ++ g :: G2).map entOf) i K = true
  | [], i, _, h => by
    subst hg
    show (match keyEq (.str (ints g.name)) (.str (ints g.name)) with | some b => bif b then K (some i) else findK _ (G2.map entOf) (i + 1) K | none => false) = true
    unfold keyEq keyEqLeaf
    simp only [beq_self_eq_true, cond_true]
    exact h
  | x :: G1, i, hn, h => by
    have hx : (ints name == ints x.name) = false := by rw [ints_beq, decide_eq_false_iff_not]; exact fun e => hn x (by simp) e.symm
    show (match keyEq (.str (ints name)) (.str (ints x.name)) with | some b => bif b then K (some i) else findK _ ((G1 ++ g :: G2).map entOf) (i + 1) K | none => false) = true
    unfold keyEq keyEqLeaf
    simp only [hx, cond_false]
    refine findK_some hg (fun g hg => hn g (by simp [hg])) ?_
    rw [List.length_cons] at h
    rw [show i + 1 + G1.length = i + (G1.length + 1) by omega]
    exact h

theorem look_none {σ : H} {m clock : Nat} {G : List FG} {name : List Nat} (hm : σ[m]? = some (AO.map (G.map entOf) clock)) (hn : ∀ g ∈ G, g.name ≠ name) {K : AV → Bool} (h : K (.ptr none) = true) :
    lookupK Try.prog 74 σ (.map (some m)) (.str (ints name)) false K = true := by
  unfold lookupK
  rw [Try.underlying74]
  simp only
  refine bif_pos rfl ?_
  show mapK σ (some m) _ = true
  unfold mapK
  simp only [hm]
  exact findK_none hn h
theorem look_some {σ : H} {m clock : Nat} {G1 G2 : List FG} {g : FG} {name : List Nat} (hm : σ[m]? = some (AO.map ((G1 ++ g :: G2).map entOf) clock)) (hg : g.name = name) (hn : ∀ g ∈ G1, g.name ≠ name) {K : AV → Bool} (h : K (.ptr (some ⟨g.f, 0, 0, 3⟩)) = true) :
    lookupK Try.prog 74 σ (.map (some m)) (.str (ints name)) false K = true := by
  unfold lookupK
  rw [Try.underlying74]
  simp only
  refine bif_pos rfl ?_
  show mapK σ (some m) _ = true
  unfold mapK
  simp only [hm]
  refine findK_some hg hn ?_
  rw [Nat.zero_add]
  simp only [List.map_append, List.map_cons]
  rw [List.getElem?_append_right (by simp)]
  simp only [List.length_map, Nat.sub_self, List.getElem?_cons_zero]
  exact h
theorem upd_new {σ : H} {m clock : Nat} {G : List FG} {name : List Nat} {v : AV} (hm : σ[m]? = some (AO.map (G.map entOf) clock)) (hn : ∀ g ∈ G, g.name ≠ name) {K : H → Bool} (h : K (σ.set m (.map (G.map entOf ++ [⟨.str (ints name), v, clock⟩]) (clock + 1))) = true) :
    updateK Try.prog 74 (.map (some m)) (.str (ints name)) v σ K = true := by
  unfold updateK
  rw [Try.underlying74]
  simp only
  refine bif_pos rfl ?_
  show (match σ[m]? with | some (AO.map es clock) => findK (.str (ints name)) es 0 _ | _ => false) = true
  simp only [hm]
  exact findK_none hn h
theorem upd_old {σ : H} {m clock : Nat} {G1 G2 : List FG} {g : FG} {name : List Nat} {v : AV} (hm : σ[m]? = some (AO.map ((G1 ++ g :: G2).map entOf) clock)) (hg : g.name = name) (hn : ∀ g ∈ G1, g.name ≠ name) {K : H → Bool}
    (h : K (σ.set m (.map (((G1 ++ g :: G2).map entOf).set G1.length { entOf g with val := v }) clock)) = true) :
    updateK Try.prog 74 (.map (some m)) (.str (ints name)) v σ K = true := by
  unfold updateK
  rw [Try.underlying74]
  simp only
  refine bif_pos rfl ?_
  show (match σ[m]? with | some (AO.map es clock) => findK (.str (ints name)) es 0 _ | _ => false) = true
  simp only [hm]
  refine findK_some hg hn ?_
  rw [Nat.zero_add]
  have : ((G1 ++ g :: G2).map entOf)[G1.length]? = some (entOf g) := by
    simp only [List.map_append, List.map_cons]
    rw [List.getElem?_append_right (by simp)]
    simp
  simp only [this]
  exact h
theorem del_old {σ : H} {m clock : Nat} {G1 G2 : List FG} {g : FG} {name : List Nat} (hm : σ[m]? = some (AO.map ((G1 ++ g :: G2).map entOf) clock)) (hg : g.name = name) (hn : ∀ g ∈ G1, g.name ≠ name) {K : H → Bool}
    (h : K (σ.set m (.map ((G1 ++ G2).map entOf) clock)) = true) :
    deleteK Try.prog 74 (.map (some m)) (.str (ints name)) σ K = true := by
  unfold deleteK
  rw [Try.underlying74]
  simp only
  refine bif_pos rfl ?_
  show (match σ[m]? with | some (AO.map es clock) => findK (.str (ints name)) es 0 _ | _ => false) = true
  simp only [hm]
  refine findK_some hg hn ?_
  rw [Nat.zero_add]
  have : ((G1 ++ g :: G2).map entOf).eraseIdx G1.length = (G1 ++ G2).map entOf := by
    simp only [List.map_append, List.map_cons]
    rw [List.eraseIdx_append_of_length_le (by simp)]
    simp
  simp only [this]
  exact h
section
variable {B m clock ops : Nat} {G : List FG} {left : Int} {down : Bool} {σ : H}
theorem st_left (hd : DiskAt σ B m clock G left down ops) {x left' : Int} (e : x = left') {K : H → Bool} (hK : ∀ σ', DiskAt σ' B m clock G left' down ops → (∀ id, id ≠ B → σ'[id]? = σ[id]?) → K σ' = true) :
    storeK Try.prog 3 (.ptr (some ⟨B, 0, 1, 4⟩)) (.int .i64 x) σ K = true := by
  subst e
  exact storeK_of rfl rfl (by decide) hd.row rfl (by show 0 + 1 < 4; decide) (hK _ (hd.turn x down ops) fun id hne => List.getElem?_set_ne (Ne.symm hne))
theorem st_down (hd : DiskAt σ B m clock G left down ops) {down' : Bool} {K : H → Bool} (hK : ∀ σ', DiskAt σ' B m clock G left down' ops → (∀ id, id ≠ B → σ'[id]? = σ[id]?) → K σ' = true) :
    storeK Try.prog 4 (.ptr (some ⟨B, 0, 2, 4⟩)) (.bool down') σ K = true :=
  storeK_of rfl rfl (by decide) hd.row rfl (by show 0 + 2 < 4; decide) (hK _ (hd.turn left down' ops) fun id hne => List.getElem?_set_ne (Ne.symm hne))
theorem st_ops (hd : DiskAt σ B m clock G left down ops) {x : Int} {ops' : Nat} (e : x = (ops' : Int)) {K : H → Bool} (hK : ∀ σ', DiskAt σ' B m clock G left down ops' → (∀ id, id ≠ B → σ'[id]? = σ[id]?) → K σ' = true) :
    storeK Try.prog 3 (.ptr (some ⟨B, 0, 3, 4⟩)) (.int .i64 x) σ K = true := by
  subst e
  exact storeK_of rfl rfl (by decide) hd.row rfl (by show 0 + 3 < 4; decide) (hK _ (hd.turn left down ops') fun id hne => List.getElem?_set_ne (Ne.symm hne))

/-- A file's row turns. -/
theorem DiskAt.fileTurn {G1 G2 : List FG} {g : FG} (hd : DiskAt σ B m clock (G1 ++ g :: G2) left down ops) (synced : Nat) (lasts : Bool) :
    DiskAt (σ.set g.f (AO.cells (fileCells { g with synced := synced, lasts := lasts }) 3 .own)) B m clock (G1 ++ { g with synced := synced, lasts := lasts } :: G2) left down ops := by
  have hg := hd.files g (by simp)
  have hB : B ≠ g.f := fun e => by have h1 := hg.row; rw [← e, hd.row] at h1; cases h1
  have hm : m ≠ g.f := fun e => by have h1 := hg.row; rw [← e, hd.mp] at h1; cases h1
  have hap := hd.apart
  rw [List.pairwise_append, List.pairwise_cons] at hap
  have other : ∀ x, x ∈ G1 ∨ x ∈ G2 → x.f ≠ g.f := fun x hx => by
    rcases hx with hx | hx
    · exact (hap.2.2 x hx g (by simp)).1
    · exact (hap.2.1.1 x hx).1.symm
  have rowNe : ∀ (o : Option Nat) (a : SA) (n : Nat) (cs : List AV) (i : Nat), Own [] σ 1 o a n cs → o = some i → i ≠ g.f := fun o a n cs i h ho e => by
    subst ho
    obtain ⟨off, xs, md, a1, a2, a3, a4⟩ := h
    have h1 := hg.row
    rw [← e, a3] at h1
    cases h1
  refine ⟨get_set_ne hd.row hB _, ?_, fun x hx => ?_, ?_, ?_⟩
  · have := get_set_ne hd.mp hm (AO.cells (fileCells { g with synced := synced, lasts := lasts }) 3 .own)
    simpa [entOf] using this
  · rcases List.mem_append.1 hx with hx | hx
    · have h := hd.files x (by simp [hx])
      exact h.keep (List.getElem?_set_ne (Ne.symm (other x (.inl hx)))) fun i hi => List.getElem?_set_ne (Ne.symm (rowNe _ _ _ _ i h.own hi))
    · rcases List.mem_cons.1 hx with rfl | hx
      · exact ⟨get_set hg.row _, by
          have h := hg.own
          unfold Own at h ⊢
          cases ho : g.o with
          | none => rw [ho] at h; simpa using h
          | some i =>
            rw [ho] at h
            obtain ⟨off, xs, md, a1, a2, a3, a4⟩ := h
            exact ⟨off, xs, md, a1, a2, get_set_ne a3 (rowNe _ _ _ _ i hg.own ho) _, a4⟩⟩
      · have h := hd.files x (by simp [hx])
        exact h.keep (List.getElem?_set_ne (Ne.symm (other x (.inr hx)))) fun i hi => List.getElem?_set_ne (Ne.symm (rowNe _ _ _ _ i h.own hi))
  · rw [List.pairwise_append, List.pairwise_cons]
    exact ⟨hap.1, ⟨fun x hx => hap.2.1.1 x hx, hap.2.1.2⟩, fun x hx y hy => by
      rcases List.mem_cons.1 hy with rfl | hy
      · exact hap.2.2 x hx g (by simp)
      · exact hap.2.2 x hx y (by simp [hy])⟩
  · intro x hx
    rcases List.mem_append.1 hx with hx | hx
    · exact hd.old x (by simp [hx])
    · rcases List.mem_cons.1 hx with rfl | hx
      · exact hd.old g (by simp)
      · exact hd.old x (by simp [hx])
end
attribute [local irreducible] IntKind.wrap Int.fdiv Int.tdiv Int.tmod BitVec.ofInt appendK sliceK indexAddrK ldK storeK seenK makeSliceK lookupK updateK deleteK mapK
variable {D : Drawer}
variable {B m clock ops : Nat} {G : List FG} {left : Int} {down : Bool} {σ : H}

theorem down_spec {n : Nat} (hn : 1 ≤ n) (hd : DiskAt σ B m clock G left down ops) {K : AV → H → Bool} (hK : K (.bool down) σ = true) : acall Try.prog tab D n 34 [.ptr (some ⟨B, 0, 0, 4⟩)] σ K = true := by
  obtain ⟨n, rfl, hn⟩ := up hn
  conv => lhs; whnf
  refine ldF Try.underlying4 rfl rfl hd.row rfl ?_
  cases down
  · exact hK
  · exact hK
theorem does_spec {n : Nat} (hn : 1 ≤ n) (hd : DiskAt σ B m clock G left down ops) (hl : -1 ≤ left) (hl2 : left ≤ 9223372036854775807) (ho : ops < 1000000000) {K : AV → H → Bool}
    (h0 : left = 0 → ∀ σ', DiskAt σ' B m clock G left true ops → (∀ id, id ≠ B → σ'[id]? = σ[id]?) → K (.int .i64 7) σ' = true)
    (h1 : left ≠ 0 → ∀ σ', DiskAt σ' B m clock G (max (left - 1) (-1)) down (ops + 1) → (∀ id, id ≠ B → σ'[id]? = σ[id]?) → K (.int .i64 0) σ' = true) :
    acall Try.prog tab D n 45 [.ptr (some ⟨B, 0, 0, 4⟩)] σ K = true := by
  obtain ⟨n, rfl, hn⟩ := up hn
  conv => lhs; whnf
  refine ldF Try.underlying3 rfl rfl hd.row rfl ?_
  conv => lhs; whnf
  refine bif_case (fun h => ?_) (fun h => ?_)
  · have hz : left = 0 := by simpa using h
    conv => lhs; whnf
    refine st_down hd fun σ' d' k' => ?_
    have := h0 hz σ' d' k'
    conv => lhs; whnf
    exact this
  · have hz : left ≠ 0 := by simpa using h
    conv => lhs; whnf
    refine ldF Try.underlying3 rfl rfl hd.row rfl ?_
    conv => lhs; whnf
    refine st_left hd (left' := max (left - 1) (-1)) ?_ fun σ1 d1 k1 => ?_
    · rw [wrap_i64 (by omega) (by omega)]
      show (if left - 1 < -1 then -1 else left - 1) = _
      rw [Int.max_def]
      split <;> split <;> omega
    conv => lhs; whnf
    refine ldF Try.underlying3 rfl rfl d1.row rfl ?_
    conv => lhs; whnf
    refine st_ops d1 (inc_i64 (by omega)) fun σ2 d2 k2 => ?_
    have := h1 hz σ2 d2 fun id hne => (k2 id hne).trans (k1 id hne)
    conv => lhs; whnf
    exact this
theorem may_spec {n : Nat} {name : List Nat} (hn : 1 ≤ n) {K : AV → H → Bool} (hK : K (.bool (!name.isEmpty && decide (name.length ≤ 200))) σ = true) : acall Try.prog tab D n 44 [.str (ints name)] σ K = true := by
  obtain ⟨n, rfl, hn⟩ := up hn
  have e : (ints name == []) = name.isEmpty := by cases name <;> rfl
  conv => lhs; whnf
  refine bif_case (fun h => ?_) (fun h => ?_)
  · have h' : name.isEmpty = false := by
      have h2 : (ints name == bytesL ⟨#[]⟩) = false := by simpa using h
      have : (ints name == []) = false := h2
      rwa [e] at this
    rw [h'] at hK
    conv => lhs; whnf
    have hl : decide (((ints name).length : Int) ≤ 200) = decide (name.length ≤ 200) := by
      rw [Bool.eq_iff_iff]; simp [ints]; omega
    refine bif_case (fun h => ?_) (fun h => ?_)
    · rw [hl] at h; rw [h] at hK; exact hK
    · rw [hl] at h; rw [h] at hK; exact hK
  · have h' : name.isEmpty = true := by
      have h2 : (ints name == bytesL ⟨#[]⟩) = true := by simpa using h
      have : (ints name == []) = true := h2
      rwa [e] at this
    rw [h'] at hK
    conv => lhs; whnf
    exact hK
theorem finds_spec {n : Nat} {name : List Nat} (hn : 2 ≤ n) (hd : DiskAt σ B m clock G left down ops) {K : AV → H → Bool}
    (h0 : down = true → K (.tup [.ptr none, .int .i64 7]) σ = true)
    (h1 : down = false → (∀ g ∈ G, g.name ≠ name) → K (.tup [.ptr none, .int .i64 3]) σ = true)
    (h2 : down = false → ∀ G1 g G2, G = G1 ++ g :: G2 → g.name = name → (∀ x ∈ G1, x.name ≠ name) → K (.tup [.ptr (some ⟨g.f, 0, 0, 3⟩), .int .i64 0]) σ = true) :
    acall Try.prog tab D n 46 [.ptr (some ⟨B, 0, 0, 4⟩), .str (ints name)] σ K = true := by
  obtain ⟨n, rfl, hn⟩ := up hn
  conv => lhs; whnf
  refine down_spec (by omega) hd ?_
  cases down with
  | true => exact h0 rfl
  | false =>
    conv => lhs; whnf
    refine ldF Try.underlying74 rfl rfl hd.row rfl ?_
    conv => lhs; whnf
    rcases find_cases G name with hn | ⟨G1, g, G2, rfl, hg, hn⟩
    · refine look_none hd.mp hn ?_
      exact h1 rfl hn
    · refine look_some hd.mp hg hn ?_
      conv => lhs; whnf
      refine ldF Try.underlying74 rfl rfl hd.row rfl ?_
      conv => lhs; whnf
      refine look_some hd.mp hg hn ?_
      exact h2 rfl G1 g G2 rfl hg hn
end Go.Proofs.Ytahhajakgakdhaa
