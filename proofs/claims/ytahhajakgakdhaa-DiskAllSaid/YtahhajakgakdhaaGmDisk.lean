/- Package disk: a disk in memory. Package disk: its operations. Package disk: Append. Package disk: Clone, Sync, Read, New, Short, Cut. Package disk: Crash. -/
import Derived.Test.YtahhajakgakdhaaGmWord
import Derived.Test.YtahhajakgakdhaaL1Plans
import Derived.Test.YtahhajakgakdhaaGmStep
namespace Go.Proofs.Ytahhajakgakdhaa
set_option maxRecDepth 100000
open Go Go.AM Go.AM.St

/-- A file: what it holds; where it lies. -/
structure FG where
  name : List Nat
  bytes : List Nat
  synced : Nat
  lasts : Bool
  f : Nat
  o : Option Nat
  a : SA
  born : Nat

def fileCells (g : FG) : List AV := [.sl g.a g.bytes.length, .int .i64 (g.synced : Int), .bool g.lasts]
structure FileAt (σ : H) (g : FG) : Prop where
  row : σ[g.f]? = some (AO.cells (fileCells g) 3 .own)
  own : Own [] σ 1 g.o g.a g.bytes.length (u8s g.bytes)
def entOf (g : FG) : ME := ⟨.str (ints g.name), .ptr (some ⟨g.f, 0, 0, 3⟩), g.born⟩
def Apart (g h : FG) : Prop := g.f ≠ h.f ∧ (g.o = none ∨ g.o ≠ h.o) ∧ g.name ≠ h.name ∧ g.born ≠ h.born
/-- A disk: at B; its map at m. -/
structure DiskAt (σ : H) (B m clock : Nat) (G : List FG) (left : Int) (down : Bool) (ops : Nat) : Prop where
  row : σ[B]? = some (AO.cells [.map (some m), .int .i64 left, .bool down, .int .i64 (ops : Int)] 4 .own)
  mp : σ[m]? = some (AO.map (G.map entOf) clock)
  files : ∀ g ∈ G, FileAt σ g
  apart : G.Pairwise Apart
  old : ∀ g ∈ G, g.born < clock

/-- What belongs to the disk. -/
def Fp (B m : Nat) (G : List FG) (id : Nat) : Prop := id = B ∨ id = m ∨ (∃ g ∈ G, id = g.f) ∨ ∃ g ∈ G, g.o = some id
theorem FileAt.keep {σ σ' : H} {g : FG} (h : FileAt σ g) (h1 : σ'[g.f]? = σ[g.f]?) (h2 : ∀ i, g.o = some i → σ'[i]? = σ[i]?) : FileAt σ' g := by
  refine ⟨h1.trans h.row, ?_⟩
  have := h.own
  unfold Own at this ⊢
  split at this
  · exact this
  · obtain ⟨off, xs, md, a1, a2, a3, a4⟩ := this
    exact ⟨off, xs, md, a1, a2, (h2 _ ‹_›).trans a3, a4⟩
theorem DiskAt.keep {σ σ' : H} {B m clock ops : Nat} {G : List FG} {left : Int} {down : Bool} (h : DiskAt σ B m clock G left down ops) (hk : ∀ id, Fp B m G id → σ'[id]? = σ[id]?) : DiskAt σ' B m clock G left down ops :=
  ⟨(hk _ (.inl rfl)).trans h.row, (hk _ (.inr (.inl rfl))).trans h.mp, fun g hg => (h.files g hg).keep (hk _ (.inr (.inr (.inl ⟨g, hg, rfl⟩)))) (fun _ hi => hk _ (.inr (.inr (.inr ⟨g, hg, hi⟩)))), h.apart, h.old⟩
theorem Fp.lt {σ : H} {B m clock ops : Nat} {G : List FG} {left : Int} {down : Bool} (h : DiskAt σ B m clock G left down ops) {id : Nat} (hf : Fp B m G id) : id < σ.length := by
  rcases hf with rfl | rfl | ⟨g, hg, rfl⟩ | ⟨g, hg, ho⟩
  · exact get_lt h.row
  · exact get_lt h.mp
  · exact get_lt (h.files g hg).row
  · have := (h.files g hg).own
    rw [ho] at this
    obtain ⟨off, xs, md, a1, a2, a3, a4⟩ := this
    exact get_lt a3
theorem DiskAt.mono {σ σ' : H} {B m clock ops : Nat} {G : List FG} {left : Int} {down : Bool} (h : DiskAt σ B m clock G left down ops) (hp : σ <+: σ') : DiskAt σ' B m clock G left down ops :=
  h.keep fun id hf => by
    have hl := Fp.lt h hf
    rw [prefix_get hp (List.getElem?_eq_getElem hl), List.getElem?_eq_getElem hl]

/-- The disk's row turns. -/
theorem DiskAt.turn {σ : H} {B m clock ops : Nat} {G : List FG} {left : Int} {down : Bool} (h : DiskAt σ B m clock G left down ops) (left' : Int) (down' : Bool) (ops' : Nat) :
    DiskAt (σ.set B (AO.cells [.map (some m), .int .i64 left', .bool down', .int .i64 (ops' : Int)] 4 .own)) B m clock G left' down' ops' := by
  have hB := h.row
  have hm : m ≠ B := fun e => by have := h.mp; rw [e, hB] at this; cases this
  refine ⟨get_set hB _, get_set_ne h.mp hm _, fun g hg => (h.files g hg).keep ?_ ?_, h.apart, h.old⟩
  · have hr := (h.files g hg).row
    have : g.f ≠ B := fun e => by rw [e, hB] at hr; cases hr
    rw [List.getElem?_set_ne (Ne.symm this)]
  · intro i hi
    have ho := (h.files g hg).own
    rw [hi] at ho
    obtain ⟨off, xs, md, a1, a2, a3, a4⟩ := ho
    have : i ≠ B := fun e => by rw [e, hB] at a3; cases a3
    rw [List.getElem?_set_ne (Ne.symm this)]

theorem ints_inj {a b : List Nat} (h : ints a = ints b) : a = b := by
  have := congrArg (List.map Int.toNat) h
  simpa [ints, List.map_map, Function.comp_def] using this
theorem ints_beq (a b : List Nat) : (ints a == ints b) = decide (a = b) := by
  rw [Bool.eq_iff_iff, beq_iff_eq, decide_eq_true_eq]
  exact ⟨ints_inj, fun h => by rw [h]⟩
/-- Nothing under a name, or just that. -/
theorem find_cases (G : List FG) (name : List Nat) : (∀ g ∈ G, g.name ≠ name) ∨ ∃ G1 g G2, G = G1 ++ g :: G2 ∧ g.name = name ∧ ∀ x ∈ G1, x.name ≠ name := by
  induction G with
  | nil => exact .inl fun g h => by simp at h
  | cons x G ih =>
    by_cases hx : x.name = name
    · exact .inr ⟨[], x, G, rfl, hx, fun y h => by simp at h⟩
    · rcases ih with h | ⟨G1, g, G2, rfl, h1, h2⟩
      · exact .inl fun g hg => by
          rcases List.mem_cons.1 hg with rfl | hg
          · exact hx
          · exact h g hg
      · exact .inr ⟨x :: G1, g, G2, rfl, h1, fun y hy => by
          rcases List.mem_cons.1 hy with rfl | hy
          · exact hx
          · exact h2 y hy⟩
theorem findK_none {name : List Nat} {K : Option Nat → Bool} : ∀ {G : List FG} {i : Nat}, (∀ g ∈ G, g.name ≠ name) → K none = true → findK (.str (ints name)) (G.map entOf) i K = true
  | [], _, _, h => h
  | x :: G, i, hn, h => by
    have hx : (ints name == ints x.name) = false := by rw [ints_beq, decide_eq_false_iff_not]; exact fun e => hn x (by simp) e.symm
    show (match keyEq (.str (ints name)) (.str (ints x.name)) with | some b => bif b then K (some i) else findK _ (G.map entOf) (i + 1) K | none => false) = true
    unfold keyEq keyEqLeaf
    simp only [hx, cond_false]
    exact findK_none (fun g hg => hn g (by simp [hg])) h
theorem findK_some {name : List Nat} {K : Option Nat → Bool} {g : FG} {G2 : List FG} (hg : g.name = name) : ∀ {G1 : List FG} {i : Nat}, (∀ g ∈ G1, g.name ≠ name) → K (some (i + G1.length)) = true → findK (.str (ints name)) ((G1 ++ g :: G2).map entOf) i K = true
  | [], i, _, h => by
    subst hg
    show (match keyEq (.str (ints g.name)) (.str (ints g.name)) with | some b => bif b then K (some i) else findK _ (G2.map entOf) (i + 1) K | none => false) = true
    unfold keyEq keyEqLeaf
    simp only [beq_self_eq_true, cond_true]
    exact h
  | x :: G1, i, hn, h => by
    have hx : (ints name == ints x.name) = false := by rw [ints_beq, decide_eq_false_iff_not]; exact fun e => hn x (by simp) e.symm
    show (match keyEq (.str (ints name)) (.str (ints x.name)) with | some b => bif b then K (some i) else findK _ ((G1 ++ g :: G2).map entOf) (i + 1) K | none => false) = true
    unfold keyEq keyEqLeaf
    simp only [hx, cond_false]
    refine findK_some hg (fun g hg => hn g (by simp [hg])) ?_
    rw [List.length_cons] at h
    rw [show i + 1 + G1.length = i + (G1.length + 1) by omega]
    exact h

theorem look_none {σ : H} {m clock : Nat} {G : List FG} {name : List Nat} (hm : σ[m]? = some (AO.map (G.map entOf) clock)) (hn : ∀ g ∈ G, g.name ≠ name) {K : AV → Bool} (h : K (.ptr none) = true) :
    lookupK Try.prog 74 σ (.map (some m)) (.str (ints name)) false K = true := by
  unfold lookupK
  rw [Try.underlying74]
  simp only
  refine bif_pos rfl ?_
  show mapK σ (some m) _ = true
  unfold mapK
  simp only [hm]
  exact findK_none hn h
theorem look_some {σ : H} {m clock : Nat} {G1 G2 : List FG} {g : FG} {name : List Nat} (hm : σ[m]? = some (AO.map ((G1 ++ g :: G2).map entOf) clock)) (hg : g.name = name) (hn : ∀ g ∈ G1, g.name ≠ name) {K : AV → Bool} (h : K (.ptr (some ⟨g.f, 0, 0, 3⟩)) = true) :
    lookupK Try.prog 74 σ (.map (some m)) (.str (ints name)) false K = true := by
  unfold lookupK
  rw [Try.underlying74]
  simp only
  refine bif_pos rfl ?_
  show mapK σ (some m) _ = true
  unfold mapK
  simp only [hm]
  refine findK_some hg hn ?_
  rw [Nat.zero_add]
  simp only [List.map_append, List.map_cons]
  rw [List.getElem?_append_right (by simp)]
  simp only [List.length_map, Nat.sub_self, List.getElem?_cons_zero]
  exact h
theorem upd_new {σ : H} {m clock : Nat} {G : List FG} {name : List Nat} {v : AV} (hm : σ[m]? = some (AO.map (G.map entOf) clock)) (hn : ∀ g ∈ G, g.name ≠ name) {K : H → Bool} (h : K (σ.set m (.map (G.map entOf ++ [⟨.str (ints name), v, clock⟩]) (clock + 1))) = true) :
    updateK Try.prog 74 (.map (some m)) (.str (ints name)) v σ K = true := by
  unfold updateK
  rw [Try.underlying74]
  simp only
  refine bif_pos rfl ?_
  show (match σ[m]? with | some (AO.map es clock) => findK (.str (ints name)) es 0 _ | _ => false) = true
  simp only [hm]
  exact findK_none hn h
theorem upd_old {σ : H} {m clock : Nat} {G1 G2 : List FG} {g : FG} {name : List Nat} {v : AV} (hm : σ[m]? = some (AO.map ((G1 ++ g :: G2).map entOf) clock)) (hg : g.name = name) (hn : ∀ g ∈ G1, g.name ≠ name) {K : H → Bool}
    (h : K (σ.set m (.map (((G1 ++ g :: G2).map entOf).set G1.length { entOf g with val := v }) clock)) = true) :
    updateK Try.prog 74 (.map (some m)) (.str (ints name)) v σ K = true := by
  unfold updateK
  rw [Try.underlying74]
  simp only
  refine bif_pos rfl ?_
  show (match σ[m]? with | some (AO.map es clock) => findK (.str (ints name)) es 0 _ | _ => false) = true
  simp only [hm]
  refine findK_some hg hn ?_
  rw [Nat.zero_add]
  have : ((G1 ++ g :: G2).map entOf)[G1.length]? = some (entOf g) := by
    simp only [List.map_append, List.map_cons]
    rw [List.getElem?_append_right (by simp)]
    simp
  simp only [this]
  exact h
theorem del_old {σ : H} {m clock : Nat} {G1 G2 : List FG} {g : FG} {name : List Nat} (hm : σ[m]? = some (AO.map ((G1 ++ g :: G2).map entOf) clock)) (hg : g.name = name) (hn : ∀ g ∈ G1, g.name ≠ name) {K : H → Bool}
    (h : K (σ.set m (.map ((G1 ++ G2).map entOf) clock)) = true) :
    deleteK Try.prog 74 (.map (some m)) (.str (ints name)) σ K = true := by
  unfold deleteK
  rw [Try.underlying74]
  simp only
  refine bif_pos rfl ?_
  show (match σ[m]? with | some (AO.map es clock) => findK (.str (ints name)) es 0 _ | _ => false) = true
  simp only [hm]
  refine findK_some hg hn ?_
  rw [Nat.zero_add]
  have : ((G1 ++ g :: G2).map entOf).eraseIdx G1.length = (G1 ++ G2).map entOf := by
    simp only [List.map_append, List.map_cons]
    rw [List.eraseIdx_append_of_length_le (by simp)]
    simp
  simp only [this]
  exact h
section
variable {B m clock ops : Nat} {G : List FG} {left : Int} {down : Bool} {σ : H}
theorem st_left (hd : DiskAt σ B m clock G left down ops) {x left' : Int} (e : x = left') {K : H → Bool} (hK : ∀ σ', DiskAt σ' B m clock G left' down ops → (∀ id, id ≠ B → σ'[id]? = σ[id]?) → K σ' = true) :
    storeK Try.prog 3 (.ptr (some ⟨B, 0, 1, 4⟩)) (.int .i64 x) σ K = true := by
  subst e
  exact storeK_of rfl rfl (by decide) hd.row rfl (by show 0 + 1 < 4; decide) (hK _ (hd.turn x down ops) fun id hne => List.getElem?_set_ne (Ne.symm hne))
theorem st_down (hd : DiskAt σ B m clock G left down ops) {down' : Bool} {K : H → Bool} (hK : ∀ σ', DiskAt σ' B m clock G left down' ops → (∀ id, id ≠ B → σ'[id]? = σ[id]?) → K σ' = true) :
    storeK Try.prog 4 (.ptr (some ⟨B, 0, 2, 4⟩)) (.bool down') σ K = true :=
  storeK_of rfl rfl (by decide) hd.row rfl (by show 0 + 2 < 4; decide) (hK _ (hd.turn left down' ops) fun id hne => List.getElem?_set_ne (Ne.symm hne))
theorem st_ops (hd : DiskAt σ B m clock G left down ops) {x : Int} {ops' : Nat} (e : x = (ops' : Int)) {K : H → Bool} (hK : ∀ σ', DiskAt σ' B m clock G left down ops' → (∀ id, id ≠ B → σ'[id]? = σ[id]?) → K σ' = true) :
    storeK Try.prog 3 (.ptr (some ⟨B, 0, 3, 4⟩)) (.int .i64 x) σ K = true := by
  subst e
  exact storeK_of rfl rfl (by decide) hd.row rfl (by show 0 + 3 < 4; decide) (hK _ (hd.turn left down ops') fun id hne => List.getElem?_set_ne (Ne.symm hne))

/-- A file's row turns. -/
theorem DiskAt.fileTurn {G1 G2 : List FG} {g : FG} (hd : DiskAt σ B m clock (G1 ++ g :: G2) left down ops) (synced : Nat) (lasts : Bool) :
    DiskAt (σ.set g.f (AO.cells (fileCells { g with synced := synced, lasts := lasts }) 3 .own)) B m clock (G1 ++ { g with synced := synced, lasts := lasts } :: G2) left down ops := by
  have hg := hd.files g (by simp)
  have hB : B ≠ g.f := fun e => by have h1 := hg.row; rw [← e, hd.row] at h1; cases h1
  have hm : m ≠ g.f := fun e => by have h1 := hg.row; rw [← e, hd.mp] at h1; cases h1
  have hap := hd.apart
  rw [List.pairwise_append, List.pairwise_cons] at hap
  have other : ∀ x, x ∈ G1 ∨ x ∈ G2 → x.f ≠ g.f := fun x hx => by
    rcases hx with hx | hx
    · exact (hap.2.2 x hx g (by simp)).1
    · exact (hap.2.1.1 x hx).1.symm
  have rowNe : ∀ (o : Option Nat) (a : SA) (n : Nat) (cs : List AV) (i : Nat), Own [] σ 1 o a n cs → o = some i → i ≠ g.f := fun o a n cs i h ho e => by
    subst ho
    obtain ⟨off, xs, md, a1, a2, a3, a4⟩ := h
    have h1 := hg.row
    rw [← e, a3] at h1
    cases h1
  refine ⟨get_set_ne hd.row hB _, ?_, fun x hx => ?_, ?_, ?_⟩
  · have := get_set_ne hd.mp hm (AO.cells (fileCells { g with synced := synced, lasts := lasts }) 3 .own)
    simpa [entOf] using this
  · rcases List.mem_append.1 hx with hx | hx
    · have h := hd.files x (by simp [hx])
      exact h.keep (List.getElem?_set_ne (Ne.symm (other x (.inl hx)))) fun i hi => List.getElem?_set_ne (Ne.symm (rowNe _ _ _ _ i h.own hi))
    · rcases List.mem_cons.1 hx with rfl | hx
      · exact ⟨get_set hg.row _, by
          have h := hg.own
          unfold Own at h ⊢
          cases ho : g.o with
          | none => rw [ho] at h; simpa using h
          | some i =>
            rw [ho] at h
            obtain ⟨off, xs, md, a1, a2, a3, a4⟩ := h
            exact ⟨off, xs, md, a1, a2, get_set_ne a3 (rowNe _ _ _ _ i hg.own ho) _, a4⟩⟩
      · have h := hd.files x (by simp [hx])
        exact h.keep (List.getElem?_set_ne (Ne.symm (other x (.inr hx)))) fun i hi => List.getElem?_set_ne (Ne.symm (rowNe _ _ _ _ i h.own hi))
  · rw [List.pairwise_append, List.pairwise_cons]
    exact ⟨hap.1, ⟨fun x hx => hap.2.1.1 x hx, hap.2.1.2⟩, fun x hx y hy => by
      rcases List.mem_cons.1 hy with rfl | hy
      · exact hap.2.2 x hx g (by simp)
      · exact hap.2.2 x hx y (by simp [hy])⟩
  · intro x hx
    rcases List.mem_append.1 hx with hx | hx
    · exact hd.old x (by simp [hx])
    · rcases List.mem_cons.1 hx with rfl | hx
      · exact hd.old g (by simp)
      · exact hd.old x (by simp [hx])
end
attribute [local irreducible] IntKind.wrap Int.fdiv Int.tdiv Int.tmod BitVec.ofInt appendK sliceK indexAddrK ldK storeK seenK makeSliceK lookupK updateK deleteK mapK
variable {D : Drawer}
variable {B m clock ops : Nat} {G : List FG} {left : Int} {down : Bool} {σ : H}

theorem down_spec {n : Nat} (hn : 1 ≤ n) (hd : DiskAt σ B m clock G left down ops) {K : AV → H → Bool} (hK : K (.bool down) σ = true) : acall Try.prog tab D n 34 [.ptr (some ⟨B, 0, 0, 4⟩)] σ K = true := by
  obtain ⟨n, rfl, hn⟩ := up hn
  conv => lhs; whnf
  refine ldF Try.underlying4 rfl rfl hd.row rfl ?_
  cases down
  · exact hK
  · exact hK
theorem does_spec {n : Nat} (hn : 1 ≤ n) (hd : DiskAt σ B m clock G left down ops) (hl : -1 ≤ left) (hl2 : left ≤ 9223372036854775807) (ho : ops < 1000000000) {K : AV → H → Bool}
    (h0 : left = 0 → ∀ σ', DiskAt σ' B m clock G left true ops → (∀ id, id ≠ B → σ'[id]? = σ[id]?) → K (.int .i64 7) σ' = true)
    (h1 : left ≠ 0 → ∀ σ', DiskAt σ' B m clock G (max (left - 1) (-1)) down (ops + 1) → (∀ id, id ≠ B → σ'[id]? = σ[id]?) → K (.int .i64 0) σ' = true) :
    acall Try.prog tab D n 45 [.ptr (some ⟨B, 0, 0, 4⟩)] σ K = true := by
  obtain ⟨n, rfl, hn⟩ := up hn
  conv => lhs; whnf
  refine ldF Try.underlying3 rfl rfl hd.row rfl ?_
  conv => lhs; whnf
  refine bif_case (fun h => ?_) (fun h => ?_)
  · have hz : left = 0 := by simpa using h
    conv => lhs; whnf
    refine st_down hd fun σ' d' k' => ?_
    have := h0 hz σ' d' k'
    conv => lhs; whnf
    exact this
  · have hz : left ≠ 0 := by simpa using h
    conv => lhs; whnf
    refine ldF Try.underlying3 rfl rfl hd.row rfl ?_
    conv => lhs; whnf
    refine st_left hd (left' := max (left - 1) (-1)) ?_ fun σ1 d1 k1 => ?_
    · rw [wrap_i64 (by omega) (by omega)]
      show (if left - 1 < -1 then -1 else left - 1) = _
      rw [Int.max_def]
      split <;> split <;> omega
    conv => lhs; whnf
    refine ldF Try.underlying3 rfl rfl d1.row rfl ?_
    conv => lhs; whnf
    refine st_ops d1 (inc_i64 (by omega)) fun σ2 d2 k2 => ?_
    have := h1 hz σ2 d2 fun id hne => (k2 id hne).trans (k1 id hne)
    conv => lhs; whnf
    exact this
theorem fmay_spec {n : Nat} {name : List Nat} (hn : 1 ≤ n) {K : AV → H → Bool} (hK : K (.bool (!name.isEmpty && decide (name.length ≤ 200))) σ = true) : acall Try.prog tab D n 44 [.str (ints name)] σ K = true := by
  obtain ⟨n, rfl, hn⟩ := up hn
  have e : (ints name == []) = name.isEmpty := by cases name <;> rfl
  conv => lhs; whnf
  refine bif_case (fun h => ?_) (fun h => ?_)
  · have h' : name.isEmpty = false := by
      have h2 : (ints name == bytesL ⟨#[]⟩) = false := by simpa using h
      have : (ints name == []) = false := h2
      rwa [e] at this
    rw [h'] at hK
    conv => lhs; whnf
    have hl : decide (((ints name).length : Int) ≤ 200) = decide (name.length ≤ 200) := by
      rw [Bool.eq_iff_iff]; simp [ints]; omega
    refine bif_case (fun h => ?_) (fun h => ?_)
    · rw [hl] at h; rw [h] at hK; exact hK
    · rw [hl] at h; rw [h] at hK; exact hK
  · have h' : name.isEmpty = true := by
      have h2 : (ints name == bytesL ⟨#[]⟩) = true := by simpa using h
      have : (ints name == []) = true := h2
      rwa [e] at this
    rw [h'] at hK
    conv => lhs; whnf
    exact hK
theorem finds_spec {n : Nat} {name : List Nat} (hn : 2 ≤ n) (hd : DiskAt σ B m clock G left down ops) {K : AV → H → Bool}
    (h0 : down = true → K (.tup [.ptr none, .int .i64 7]) σ = true)
    (h1 : down = false → (∀ g ∈ G, g.name ≠ name) → K (.tup [.ptr none, .int .i64 3]) σ = true)
    (h2 : down = false → ∀ G1 g G2, G = G1 ++ g :: G2 → g.name = name → (∀ x ∈ G1, x.name ≠ name) → K (.tup [.ptr (some ⟨g.f, 0, 0, 3⟩), .int .i64 0]) σ = true) :
    acall Try.prog tab D n 46 [.ptr (some ⟨B, 0, 0, 4⟩), .str (ints name)] σ K = true := by
  obtain ⟨n, rfl, hn⟩ := up hn
  conv => lhs; whnf
  refine down_spec (by omega) hd ?_
  cases down with
  | true => exact h0 rfl
  | false =>
    conv => lhs; whnf
    refine ldF Try.underlying74 rfl rfl hd.row rfl ?_
    conv => lhs; whnf
    rcases find_cases G name with hn | ⟨G1, g, G2, rfl, hg, hn⟩
    · refine look_none hd.mp hn ?_
      exact h1 rfl hn
    · refine look_some hd.mp hg hn ?_
      conv => lhs; whnf
      refine ldF Try.underlying74 rfl rfl hd.row rfl ?_
      conv => lhs; whnf
      refine look_some hd.mp hg hn ?_
      exact h2 rfl G1 g G2 rfl hg hn
end Go.Proofs.Ytahhajakgakdhaa
namespace Go.Proofs.Ytahhajakgakdhaa
set_option maxRecDepth 100000
open Go Go.AM Go.AM.St

theorem own_row {σ : H} {i n : Nat} {a : SA} {cs : List AV} (h : Own [] σ 1 (some i) a n cs) : ∃ xs md, σ[i]? = some (AO.cells xs 1 md) := by
  obtain ⟨off, xs, md, a1, a2, a3, a4⟩ := h
  exact ⟨xs, md, a3⟩
theorem FileAt.oRow {σ : H} {g : FG} (h : FileAt σ g) {i : Nat} (hi : g.o = some i) : ∃ xs md, σ[i]? = some (AO.cells xs 1 md) := by
  have := h.own
  rw [hi] at this
  exact own_row this
section
variable {B m clock ops : Nat} {G G1 G2 : List FG} {left : Int} {down : Bool} {σ : H}
/-- One file is another one now. -/
theorem DiskAt.repl {σ' : H} {g g' : FG} (hd : DiskAt σ B m clock (G1 ++ g :: G2) left down ops) (hf : g'.f = g.f) (hn : g'.name = g.name) (hb : g'.born = g.born)
    (ho : g'.o = none ∨ g'.o = g.o ∨ ∃ i, g'.o = some i ∧ σ.length ≤ i) (hk : ∀ id, id < σ.length → id ≠ g.f → g.o ≠ some id → σ'[id]? = σ[id]?) (hfile : FileAt σ' g') :
    DiskAt σ' B m clock (G1 ++ g' :: G2) left down ops := by
  have hg := hd.files g (by simp)
  have hap := hd.apart
  rw [List.pairwise_append, List.pairwise_cons] at hap
  have one : ∀ x, x ∈ G1 ∨ x ∈ G2 → x.f ≠ g.f ∧ (x.o = none ∨ x.o ≠ g.o) ∧ x.name ≠ g.name ∧ x.born ≠ g.born := fun x hx => by
    rcases hx with hx | hx
    · exact hap.2.2 x hx g (by simp)
    · obtain ⟨b1, b2, b3, b4⟩ := hap.2.1.1 x hx
      refine ⟨b1.symm, ?_, Ne.symm b3, Ne.symm b4⟩
      rcases b2 with b2 | b2
      · cases hxo : x.o with
        | none => exact .inl rfl
        | some j => exact .inr (by rw [b2]; exact fun e => by cases e)
      · exact .inr (Ne.symm b2)
  have lt_o : ∀ x ∈ G1 ++ g :: G2, ∀ i, x.o = some i → i < σ.length := fun x hx i hi => by
    obtain ⟨xs, md, hr⟩ := (hd.files x hx).oRow hi
    exact get_lt hr
  have new : ∀ x, x ∈ G1 ∨ x ∈ G2 → g'.f ≠ x.f ∧ (g'.o = none ∨ g'.o ≠ x.o) ∧ g'.name ≠ x.name ∧ g'.born ≠ x.born := fun x hx => by
    obtain ⟨b1, b2, b3, b4⟩ := one x hx
    rw [hf, hn, hb]
    refine ⟨b1.symm, ?_, Ne.symm b3, Ne.symm b4⟩
    rcases ho with h | h | ⟨i, h, hl⟩
    · exact .inl h
    · rw [h]
      rcases b2 with b2 | b2
      · cases hgo : g.o with
        | none => exact .inl rfl
        | some j => exact .inr (by rw [b2]; exact fun e => by cases e)
      · exact .inr (Ne.symm b2)
    · refine .inr fun e => ?_
      have := lt_o x (by rcases hx with hx | hx <;> simp [hx]) i (e.symm.trans h)
      omega
  refine ⟨?_, ?_, fun x hx => ?_, ?_, ?_⟩
  · refine (hk B (get_lt hd.row) (fun e => ?_) fun e => ?_).trans hd.row
    · have h1 := hg.row; rw [← e, hd.row] at h1; cases h1
    · obtain ⟨xs, md, h1⟩ := hg.oRow e; rw [hd.row] at h1; cases h1
  · have : (G1 ++ g' :: G2).map entOf = (G1 ++ g :: G2).map entOf := by
      simp [entOf, hf, hn, hb]
    rw [this]
    refine (hk m (get_lt hd.mp) (fun e => ?_) fun e => ?_).trans hd.mp
    · have h1 := hg.row; rw [← e, hd.mp] at h1; cases h1
    · obtain ⟨xs, md, h1⟩ := hg.oRow e; rw [hd.mp] at h1; cases h1
  · have other : x ∈ G1 ∨ x ∈ G2 → FileAt σ' x := fun hx => by
      have hm : x ∈ G1 ++ g :: G2 := by rcases hx with hx | hx <;> simp [hx]
      have h := hd.files x hm
      obtain ⟨b1, b2, b3, b4⟩ := one x hx
      refine h.keep (hk _ (get_lt h.row) b1 fun e => ?_) fun i hi => hk i (lt_o x hm i hi) (fun e => ?_) fun e => ?_
      · obtain ⟨xs, md, h1⟩ := hg.oRow e; rw [h.row] at h1; cases h1
      · obtain ⟨xs, md, h1⟩ := h.oRow hi
        rw [e, hg.row] at h1; cases h1
      · rcases b2 with b2 | b2
        · rw [b2] at hi; cases hi
        · exact b2 (hi.trans e.symm)
    rcases List.mem_append.1 hx with hx | hx
    · exact other (.inl hx)
    · rcases List.mem_cons.1 hx with rfl | hx
      · exact hfile
      · exact other (.inr hx)
  · rw [List.pairwise_append, List.pairwise_cons]
    refine ⟨hap.1, ⟨fun x hx => new x (.inr hx), hap.2.1.2⟩, fun x hx y hy => ?_⟩
    rcases List.mem_cons.1 hy with rfl | hy
    · obtain ⟨b1, b2, b3, b4⟩ := new x (.inl hx)
      refine ⟨b1.symm, ?_, Ne.symm b3, Ne.symm b4⟩
      rcases b2 with b2 | b2
      · cases hxo : x.o with
        | none => exact .inl rfl
        | some j => exact .inr (by rw [b2]; exact fun e => by cases e)
      · exact .inr (Ne.symm b2)
    · exact hap.2.2 x hx y (by simp [hy])
  · intro x hx
    rcases List.mem_append.1 hx with hx | hx
    · exact hd.old x (by simp [hx])
    · rcases List.mem_cons.1 hx with rfl | hx
      · rw [hb]; exact hd.old g (by simp)
      · exact hd.old x (by simp [hx])

theorem st_synced {g : FG} (hd : DiskAt σ B m clock (G1 ++ g :: G2) left down ops) {x : Int} {n : Nat} (e : x = (n : Int)) {K : H → Bool}
    (hK : ∀ σ', DiskAt σ' B m clock (G1 ++ { g with synced := n } :: G2) left down ops → (∀ id, id ≠ g.f → σ'[id]? = σ[id]?) → σ'.length = σ.length → K σ' = true) :
    storeK Try.prog 3 (.ptr (some ⟨g.f, 0, 1, 3⟩)) (.int .i64 x) σ K = true := by
  subst e
  exact storeK_of rfl rfl (by decide) (hd.files g (by simp)).row rfl (by show 0 + 1 < 3; decide) (hK _ (hd.fileTurn n g.lasts) (fun id hne => List.getElem?_set_ne (Ne.symm hne)) (List.length_set ..))
theorem st_lasts {g : FG} (hd : DiskAt σ B m clock (G1 ++ g :: G2) left down ops) {x : Bool} {K : H → Bool}
    (hK : ∀ σ', DiskAt σ' B m clock (G1 ++ { g with lasts := x } :: G2) left down ops → (∀ id, id ≠ g.f → σ'[id]? = σ[id]?) → σ'.length = σ.length → K σ' = true) :
    storeK Try.prog 4 (.ptr (some ⟨g.f, 0, 2, 3⟩)) (.bool x) σ K = true :=
  storeK_of rfl rfl (by decide) (hd.files g (by simp)).row rfl (by show 0 + 2 < 3; decide) (hK _ (hd.fileTurn g.synced x) (fun id hne => List.getElem?_set_ne (Ne.symm hne)) (List.length_set ..))
end
attribute [local irreducible] IntKind.wrap Int.fdiv Int.tdiv Int.tmod BitVec.ofInt appendK sliceK indexAddrK ldK storeK seenK makeSliceK lookupK updateK deleteK mapK
variable {D : Drawer}
variable {B m clock ops : Nat} {G G1 G2 : List FG} {left : Int} {down : Bool} {σ : H}

theorem lasting_spec {n : Nat} {g : FG} (hn : 1 ≤ n) (hd : DiskAt σ B m clock (G1 ++ g :: G2) left down ops) {x : Int} {k : Nat} (e : x = (k : Int)) {K : AV → H → Bool}
    (hK : ∀ σ', DiskAt σ' B m clock (G1 ++ { g with synced := k, lasts := true } :: G2) left down ops → (∀ id, id ≠ g.f → σ'[id]? = σ[id]?) → σ'.length = σ.length → K (.tup []) σ' = true) :
    acall Try.prog tab D n 47 [.ptr (some ⟨g.f, 0, 0, 3⟩), .int .i64 x] σ K = true := by
  obtain ⟨n, rfl, hn⟩ := up hn
  conv => lhs; whnf
  refine st_synced hd e fun σ1 d1 k1 l1 => ?_
  conv => lhs; whnf
  refine st_lasts d1 fun σ2 d2 k2 l2 => ?_
  have := hK σ2 d2 (fun id hne => (k2 id hne).trans (k1 id hne)) (l2.trans l1)
  conv => lhs; whnf
  exact this
theorem Ext.ne {σ σ' : H} {id : Nat} {o : AO} (hr : σ[id]? = some o) (ho : ∀ xs md, o ≠ .cells xs 1 md) (hk : ∀ j, j ≠ id → σ'[j]? = σ[j]?) : Ext σ σ' := fun j xs md hj => by
  by_cases e : j = id
  · subst e
    rw [hr] at hj
    cases hj
    exact absurd rfl (ho _ _)
  · exact ⟨[], md, by rw [List.append_nil, hk j e]; exact hj⟩
/-- What may be told of the heap behind an operation. -/
structure Step (B m : Nat) (G G' : List FG) (σ σ' : H) : Prop where
  len : σ.length ≤ σ'.length
  keep : ∀ id, id < σ.length → ¬ Fp B m G id → σ'[id]? = σ[id]?
  fp : ∀ id, Fp B m G' id → Fp B m G id ∨ σ.length ≤ id
  ext : Ext σ σ'
theorem Step.refl : Step B m G G σ σ := ⟨Nat.le_refl _, fun _ _ _ => rfl, fun _ h => .inl h, Ext.of_prefix List.prefix_rfl⟩
theorem Step.trans {G' G'' : List FG} {σ1 σ2 : H} (h1 : Step B m G G' σ σ1) (h2 : Step B m G' G'' σ1 σ2) : Step B m G G'' σ σ2 :=
  ⟨Nat.le_trans h1.len h2.len, fun id hl hf => (h2.keep id (Nat.lt_of_lt_of_le hl h1.len) fun h => by
      rcases h1.fp id h with h | h
      · exact hf h
      · omega).trans (h1.keep id hl hf), fun id h => by
    rcases h2.fp id h with h | h
    · exact h1.fp id h
    · exact .inr (Nat.le_trans h1.len h), h1.ext.trans h2.ext⟩
theorem Step.ofB {σ' : H} {xs : List AV} {md : Md} (hr : σ[B]? = some (AO.cells xs 4 md)) (hl : σ'.length = σ.length) (hk : ∀ id, id ≠ B → σ'[id]? = σ[id]?) : Step B m G G σ σ' :=
  ⟨Nat.le_of_eq hl.symm, fun id _ hf => hk id fun e => hf (.inl e), fun _ h => .inl h, Ext.ne hr nofun hk⟩
theorem fp_same {g g' : FG} (hf : g'.f = g.f) (ho : g'.o = g.o) {id : Nat} (h : Fp B m (G1 ++ g' :: G2) id) : Fp B m (G1 ++ g :: G2) id := by
  rcases h with h | h | ⟨x, hx, h⟩ | ⟨x, hx, h⟩
  · exact .inl h
  · exact .inr (.inl h)
  · rcases List.mem_append.1 hx with hx | hx
    · exact .inr (.inr (.inl ⟨x, by simp [hx], h⟩))
    · rcases List.mem_cons.1 hx with rfl | hx
      · exact .inr (.inr (.inl ⟨g, by simp, by rw [h, hf]⟩))
      · exact .inr (.inr (.inl ⟨x, by simp [hx], h⟩))
  · rcases List.mem_append.1 hx with hx | hx
    · exact .inr (.inr (.inr ⟨x, by simp [hx], h⟩))
    · rcases List.mem_cons.1 hx with rfl | hx
      · exact .inr (.inr (.inr ⟨g, by simp, by rw [← ho, h]⟩))
      · exact .inr (.inr (.inr ⟨x, by simp [hx], h⟩))
end Go.Proofs.Ytahhajakgakdhaa
namespace Go.Proofs.Ytahhajakgakdhaa
set_option maxRecDepth 100000
open Go Go.AM Go.AM.St

theorem len_of {σ σ' : H} {B : Nat} {o o' : AO} (h : σ[B]? = some o) (h' : σ'[B]? = some o') (hk : ∀ id, id ≠ B → σ'[id]? = σ[id]?) : σ'.length = σ.length := by
  have a := get_lt h
  have b := get_lt h'
  rcases Nat.lt_trichotomy σ'.length σ.length with hl | hl | hl
  · have := hk σ'.length (by omega)
    rw [List.getElem?_eq_none (Nat.le_refl _), List.getElem?_eq_getElem hl] at this
    cases this
  · exact hl
  · have := hk σ.length (by omega)
    rw [List.getElem?_eq_none (Nat.le_refl _), List.getElem?_eq_getElem hl] at this
    cases this
/-- What a file tells. -/
structure FV where
  name : List Nat
  bytes : List Nat
  synced : Nat
  lasts : Bool
def FG.v (g : FG) : FV := ⟨g.name, g.bytes, g.synced, g.lasts⟩
def mApp (name bs : List Nat) : List FV → List FV
  | [] => [⟨name, bs, 0, false⟩]
  | x :: l => if x.name = name then { x with bytes := x.bytes ++ bs } :: l else x :: mApp name bs l
theorem mApp_none {name bs : List Nat} : ∀ {G : List FG}, (∀ g ∈ G, g.name ≠ name) → mApp name bs (G.map FG.v) = G.map FG.v ++ [⟨name, bs, 0, false⟩]
  | [], _ => rfl
  | x :: G, h => by
    show (if x.name = name then _ else _) = _
    rw [if_neg (h x (by simp)), mApp_none fun g hg => h g (by simp [hg])]
    rfl
theorem mApp_some {name bs : List Nat} {g : FG} {G2 : List FG} (hg : g.name = name) : ∀ {G1 : List FG}, (∀ g ∈ G1, g.name ≠ name) → mApp name bs ((G1 ++ g :: G2).map FG.v) = G1.map FG.v ++ { g.v with bytes := g.bytes ++ bs } :: G2.map FG.v
  | [], _ => by
    show (if g.name = name then _ else _) = _
    rw [if_pos hg]; rfl
  | x :: G1, h => by
    show (if x.name = name then _ else _) = _
    rw [if_neg (h x (by simp))]
    exact congrArg (x.v :: ·) (mApp_some hg fun g hg => h g (by simp [hg]))
section
variable {B m clock ops : Nat} {G G1 G2 : List FG} {left : Int} {down : Bool} {σ : H}
theorem rw_ne {id z z' n : Nat} {a : SA} {cs xs : List AV} {σ σ' : H} {md : Md} (h : Rw σ z a n cs) (hr : σ[id]? = some (AO.cells xs z' md)) (hz : z ≠ z') (hk : ∀ i, i ≠ id → σ'[i]? = σ[i]?) : Rw σ' z a n cs := by
  rcases h with h | h | ⟨i, off, xs', md', h1, h2, h3⟩
  · exact .inl h
  · exact .inr (.inl h)
  · refine .inr (.inr ⟨i, off, xs', md', h1, (hk i fun e => ?_).trans h2, h3⟩)
    rw [e, hr] at h2; cases h2; exact hz rfl
theorem rw_map {id c z n : Nat} {es : List ME} {a : SA} {cs : List AV} {σ σ' : H} (h : Rw σ z a n cs) (hr : σ[id]? = some (AO.map es c)) (hk : ∀ i, i < σ.length → i ≠ id → σ'[i]? = σ[i]?) : Rw σ' z a n cs := by
  rcases h with h | h | ⟨i, off, xs', md', h1, h2, h3⟩
  · exact .inl h
  · exact .inr (.inl h)
  · refine .inr (.inr ⟨i, off, xs', md', h1, (hk i (get_lt h2) fun e => ?_).trans h2, h3⟩)
    rw [e, hr] at h2; cases h2

/-- A new file. -/
theorem DiskAt.newFile (hd : DiskAt σ B m clock G left down ops) {name : List Nat} (hn : ∀ g ∈ G, g.name ≠ name) :
    DiskAt ((σ ++ [AO.cells [.sl .nil 0, .int .i64 0, .bool false] 3 .own]).set m (.map (G.map entOf ++ [⟨.str (ints name), .ptr (some ⟨σ.length, 0, 0, 3⟩), clock⟩]) (clock + 1))) B m (clock + 1) (G ++ [⟨name, [], 0, false, σ.length, none, .nil, clock⟩]) left down ops := by
  have hml := get_lt hd.mp
  have hmB : B ≠ m := fun e => by have := hd.mp; rw [← e, hd.row] at this; cases this
  refine ⟨?_, ?_, fun x hx => ?_, ?_, ?_⟩
  · rw [List.getElem?_set_ne (Ne.symm hmB)]; exact get_old hd.row _
  · rw [get_set (get_old hd.mp _)]; simp [entOf]
  · rcases List.mem_append.1 hx with hx | hx
    · have h := hd.files x hx
      refine h.keep ?_ fun i hi => ?_
      · have hne : x.f ≠ m := fun e => by have := hd.mp; rw [← e, h.row] at this; cases this
        rw [List.getElem?_set_ne (Ne.symm hne), get_old h.row, h.row]
      · obtain ⟨xs, md, hr⟩ := h.oRow hi
        have hne : i ≠ m := fun e => by have := hd.mp; rw [← e, hr] at this; cases this
        rw [List.getElem?_set_ne (Ne.symm hne), get_old hr, hr]
    · rw [List.mem_singleton] at hx
      subst hx
      refine ⟨?_, Own.nil _ _ _⟩
      rw [List.getElem?_set_ne (Nat.ne_of_lt hml)]; exact get_new _ _
  · rw [List.pairwise_append]
    refine ⟨hd.apart, by simp, fun x hx y hy => ?_⟩
    rw [List.mem_singleton] at hy
    subst hy
    have h := hd.files x hx
    have := hd.old x hx
    have hl := get_lt h.row
    refine ⟨Nat.ne_of_lt hl, ?_, hn x hx, Nat.ne_of_lt this⟩
    cases ho : x.o with
    | none => exact .inl rfl
    | some j => exact .inr fun e => by cases e
  · intro x hx
    rcases List.mem_append.1 hx with hx | hx
    · have := hd.old x hx; omega
    · rw [List.mem_singleton] at hx
      subst hx
      show clock < clock + 1
      omega
theorem fp_new {name : List Nat} {id : Nat} (h : Fp B m (G ++ [⟨name, [], 0, false, σ.length, none, .nil, clock⟩]) id) : Fp B m G id ∨ σ.length ≤ id := by
  rcases h with h | h | ⟨x, hx, h⟩ | ⟨x, hx, h⟩
  · exact .inl (.inl h)
  · exact .inl (.inr (.inl h))
  · rcases List.mem_append.1 hx with hx | hx
    · exact .inl (.inr (.inr (.inl ⟨x, hx, h⟩)))
    · rw [List.mem_singleton] at hx; subst hx
      exact .inr (Nat.le_of_eq h.symm)
  · rcases List.mem_append.1 hx with hx | hx
    · exact .inl (.inr (.inr (.inr ⟨x, hx, h⟩)))
    · rw [List.mem_singleton] at hx; subst hx
      cases h
theorem upd_file (hd : DiskAt σ B m clock G left down ops) {name : List Nat} (hn : ∀ g ∈ G, g.name ≠ name) {K : H → Bool}
    (h : ∀ σ', DiskAt σ' B m (clock + 1) (G ++ [⟨name, [], 0, false, σ.length, none, .nil, clock⟩]) left down ops → σ'.length = σ.length + 1 → (∀ id, id < σ.length → id ≠ m → σ'[id]? = σ[id]?) → K σ' = true) :
    updateK Try.prog 74 (.map (some m)) (.str (ints name)) (.ptr (some ⟨σ.length, 0, 0, 3⟩)) (σ ++ [AO.cells [.sl .nil 0, .int .i64 0, .bool false] 3 .own]) K = true :=
  upd_new (get_old hd.mp _) hn (h _ (hd.newFile hn) (by simp) fun id hl hne => by rw [List.getElem?_set_ne (Ne.symm hne), List.getElem?_append_left hl])
theorem u8s_append (a b : List Nat) : u8s (a ++ b) = u8s a ++ u8s b := by simp [u8s]
structure Mid (σ σ' : H) (g : FG) (o' : Option Nat) (a' : SA) (bs : List Nat) : Prop where
  len : σ.length ≤ σ'.length
  keep : ∀ id, id < σ.length → g.o ≠ some id → σ'[id]? = σ[id]?
  own : Own [] σ' 1 o' a' (g.bytes.length + bs.length) (u8s (g.bytes ++ bs))
  o : o' = none ∨ o' = g.o ∨ ∃ i, o' = some i ∧ σ.length ≤ i
  ext : Ext σ σ'
theorem app_mid {g : FG} {ab : SA} {nb : Nat} {bs : List Nat} (hg : FileAt σ g) (hb : Rw σ 1 ab nb (u8s bs)) (hlen : g.bytes.length + bs.length ≤ 1000000000) {K : AV → H → Bool}
    (hK : ∀ o' a' σ', Mid σ σ' g o' a' bs → K (.sl a' (g.bytes.length + bs.length)) σ' = true) :
    appendK Try.prog 22 (.sl g.a g.bytes.length) (.sl ab nb) σ K = true := by
  have hnb : nb = bs.length := by have := hb.len; simp [u8s] at this; exact this.symm
  subst hnb
  refine appendK_ext (σ0 := []) Try.underlying22 rfl rfl rfl (List.nil_prefix) hg.own hb rfl (u8s_append _ _).symm (by show _ * 1 ≤ _; omega) fun o' a' σ' _ h2 h3 h4 hx h5 => hK o' a' σ' ⟨?_, ?_, h5, ?_, hx⟩
  · by_cases hz : σ.length = 0
    · omega
    · have hi : σ.length - 1 < σ.length := by omega
      by_cases e : some (σ.length - 1) = g.o
      · rcases h3 _ e.symm with h3 | h3
        · rw [h3, ← e] at h5
          obtain ⟨xs, md, hr⟩ := own_row h5
          have := get_lt hr
          omega
        · rw [h3] at h5
          obtain ⟨xs, md, hr⟩ := own_row h5
          have := get_lt hr
          omega
      · have := get_lt (h2 _ _ e (List.getElem?_eq_getElem hi))
        omega
  · intro id hl hne
    rw [h2 id _ (Ne.symm hne) (List.getElem?_eq_getElem hl), List.getElem?_eq_getElem hl]
  · cases ho : g.o with
    | none =>
      rcases h4 ho with h | h
      · exact .inl h
      · exact .inr (.inr ⟨_, h, Nat.le_refl _⟩)
    | some i => exact (h3 i ho).elim (fun h => .inr (.inl (h.trans ho))) fun h => .inr (.inr ⟨_, h, Nat.le_refl _⟩)
theorem st_file {σ' : H} {g : FG} {o' : Option Nat} {a' : SA} {bs : List Nat} (hd : DiskAt σ B m clock (G1 ++ g :: G2) left down ops) (hm : Mid σ σ' g o' a' bs) {K : H → Bool}
    (hK : ∀ σ'', DiskAt σ'' B m clock (G1 ++ { g with bytes := g.bytes ++ bs, o := o', a := a' } :: G2) left down ops → Step B m (G1 ++ g :: G2) (G1 ++ { g with bytes := g.bytes ++ bs, o := o', a := a' } :: G2) σ σ'' → K σ'' = true) :
    storeK Try.prog 22 (.ptr (some ⟨g.f, 0, 0, 3⟩)) (.sl a' (g.bytes.length + bs.length)) σ' K = true := by
  have hg := hd.files g (by simp)
  have hne : g.o ≠ some g.f := fun e => by obtain ⟨xs, md, hr⟩ := hg.oRow e; rw [hg.row] at hr; cases hr
  have hrow := (hm.keep g.f (get_lt hg.row) hne).trans hg.row
  have hkk : ∀ id, id < σ.length → id ≠ g.f → g.o ≠ some id → (σ'.set g.f (.cells ((fileCells g).set (0 + 0) (.sl a' (g.bytes.length + bs.length))) 3 .own))[id]? = σ[id]? := fun id hl h1 h2 => by
    rw [List.getElem?_set_ne (Ne.symm h1)]; exact hm.keep id hl h2
  have hof : o' ≠ some g.f := fun e => by
    rcases hm.o with h | h | ⟨i, h, hl⟩
    · rw [h] at e; cases e
    · exact hne (h.symm.trans e)
    · rw [h] at e; cases e; exact absurd (get_lt hg.row) (by omega)
  refine storeK_of rfl rfl (by decide) hrow rfl (by show 0 + 0 < 3; decide) (hK _ (hd.repl rfl rfl rfl hm.o hkk ⟨?_, ?_⟩) ⟨?_, fun id hl hf => ?_, fun id hf => ?_, hm.ext.trans (Ext.ne hrow nofun fun j hj => List.getElem?_set_ne (Ne.symm hj))⟩)
  · rw [get_set hrow]
    show some (AO.cells [.sl a' (g.bytes.length + bs.length), _, _] 3 .own) = some (AO.cells [.sl a' (g.bytes ++ bs).length, _, _] 3 .own)
    rw [List.length_append]
  · show Own [] _ 1 o' a' (g.bytes ++ bs).length (u8s (g.bytes ++ bs))
    rw [List.length_append]
    have h := hm.own
    unfold Own at h ⊢
    cases o' with
    | none => exact h
    | some i =>
      obtain ⟨off, xs, md, a1, a2, a3, a4⟩ := h
      exact ⟨off, xs, md, a1, a2, get_set_ne a3 (fun e => hof (by rw [e])) _, a4⟩
  · rw [List.length_set]; exact hm.len
  · refine hkk id hl (fun e => hf (.inr (.inr (.inl ⟨g, by simp, e⟩)))) fun e => hf (.inr (.inr (.inr ⟨g, by simp, e⟩)))
  · rcases hf with h | h | ⟨x, hx, h⟩ | ⟨x, hx, h⟩
    · exact .inl (.inl h)
    · exact .inl (.inr (.inl h))
    · refine .inl (.inr (.inr (.inl ?_)))
      rcases List.mem_append.1 hx with hx | hx
      · exact ⟨x, by simp [hx], h⟩
      · rcases List.mem_cons.1 hx with rfl | hx
        · exact ⟨g, by simp, h⟩
        · exact ⟨x, by simp [hx], h⟩
    · rcases List.mem_append.1 hx with hx | hx
      · exact .inl (.inr (.inr (.inr ⟨x, by simp [hx], h⟩)))
      · rcases List.mem_cons.1 hx with rfl | hx
        · rcases hm.o with h' | h' | ⟨i, h', hl⟩
          · have h : o' = some id := h
            rw [h'] at h; cases h
          · exact .inl (.inr (.inr (.inr ⟨g, by simp, h'.symm.trans h⟩)))
          · have h : o' = some id := h
            rw [h'] at h; cases h; exact .inr hl
        · exact .inl (.inr (.inr (.inr ⟨x, by simp [hx], h⟩)))
end
attribute [local irreducible] IntKind.wrap Int.fdiv Int.tdiv Int.tmod BitVec.ofInt appendK sliceK indexAddrK ldK storeK seenK makeSliceK lookupK updateK deleteK mapK
variable {D : Drawer}
variable {B m clock ops : Nat} {G G1 G2 : List FG} {left : Int} {down : Bool} {σ : H}

theorem app_spec {n : Nat} {name bs : List Nat} {ab : SA} {nb : Nat} (hn : 2 ≤ n) (hd : DiskAt σ B m clock G left down ops) (hl : -1 ≤ left) (hl2 : left ≤ 9223372036854775807) (hops : ops < 1000000000) (hb : Rw σ 1 ab nb (u8s bs)) (hlen : ∀ g ∈ G, g.bytes.length + bs.length ≤ 1000000000) (hbs : bs.length ≤ 1000000000) {K : AV → H → Bool}
    (h0 : down = true → K (.int .i64 7) σ = true)
    (h1 : down = false → (!name.isEmpty && decide (name.length ≤ 200)) = false → K (.int .i64 1) σ = true)
    (h2 : down = false → (!name.isEmpty && decide (name.length ≤ 200)) = true → left = 0 → ∀ σ', DiskAt σ' B m clock G left true ops → Step B m G G σ σ' → K (.int .i64 7) σ' = true)
    (h3 : down = false → (!name.isEmpty && decide (name.length ≤ 200)) = true → left ≠ 0 → ∀ σ' clock' G', DiskAt σ' B m clock' G' (max (left - 1) (-1)) false (ops + 1) → G'.map FG.v = mApp name bs (G.map FG.v) → Step B m G G' σ σ' → K (.int .i64 0) σ' = true) :
    acall Try.prog tab D n 18 [.ptr (some ⟨B, 0, 0, 4⟩), .str (ints name), .sl ab nb] σ K = true := by
  obtain ⟨n, rfl, hn⟩ := up hn
  conv => lhs; whnf
  refine down_spec (by omega) hd ?_
  cases down with
  | true =>
    conv => lhs; whnf
    exact h0 rfl
  | false =>
  conv => lhs; whnf
  refine fmay_spec (by omega) ?_
  cases hm : (!name.isEmpty && decide (name.length ≤ 200)) with
  | false =>
    conv => lhs; whnf
    exact h1 rfl hm
  | true =>
  conv => lhs; whnf
  refine does_spec (by omega) hd hl hl2 hops (fun e σ1 d1 k1 => ?_) fun e σ1 d1 k1 => ?_
  · have := h2 rfl hm e σ1 d1 (Step.ofB hd.row (len_of hd.row d1.row k1) k1)
    conv => lhs; whnf
    exact this
  have s1 : Step B m G G σ σ1 := Step.ofB hd.row (len_of hd.row d1.row k1) k1
  have b1 : Rw σ1 1 ab nb (u8s bs) := rw_ne hb hd.row (by decide) k1
  conv => lhs; whnf
  refine ldF Try.underlying74 rfl rfl d1.row rfl ?_
  conv => lhs; whnf
  rcases find_cases G name with hno | ⟨G1, g, G2, rfl, hg, hno⟩
  · refine look_none d1.mp hno ?_
    conv => lhs; whnf
    refine ldF Try.underlying74 rfl rfl (get_old d1.row _) rfl ?_
    conv => lhs; whnf
    show updateK Try.prog 74 (.map (some m)) (.str (ints name)) (.ptr (some ⟨σ1.length, 0, 0, 3⟩)) (σ1 ++ [AO.cells [.sl .nil 0, .int .i64 0, .bool false] 3 .own]) _ = true
    refine upd_file d1 hno fun σ2 d2 l2 k2 => ?_
    have b2 : Rw σ2 1 ab nb (u8s bs) := rw_map b1 d1.mp k2
    conv => lhs; whnf
    refine ldF Try.underlying22 rfl rfl (d2.files ⟨name, [], 0, false, σ1.length, none, .nil, clock⟩ (by simp)).row rfl ?_
    conv => lhs; whnf
    refine app_mid (d2.files ⟨name, [], 0, false, σ1.length, none, .nil, clock⟩ (by simp)) b2 (by show 0 + _ ≤ _; omega) fun o' a' σ3 m3 => ?_
    conv => lhs; whnf
    refine st_file d2 m3 fun σ4 d4 s4 => ?_
    have := h3 rfl hm e σ4 _ _ d4 (by rw [mApp_none hno]; simp [FG.v]) (s1.trans (Step.trans ⟨by omega, fun id hl hf => k2 id hl fun e => hf (.inr (.inl e)), fun id h => fp_new h, fun j xs md hj => ⟨[], md, by rw [List.append_nil, k2 j (get_lt hj) fun e => by have := d1.mp; rw [← e, hj] at this; cases this]; exact hj⟩⟩ s4))
    conv => lhs; whnf
    exact this
  · refine look_some d1.mp hg hno ?_
    conv => lhs; whnf
    refine ldF Try.underlying22 rfl rfl (d1.files g (by simp)).row rfl ?_
    conv => lhs; whnf
    refine app_mid (d1.files g (by simp)) b1 (hlen g (by simp)) fun o' a' σ3 m3 => ?_
    conv => lhs; whnf
    refine st_file d1 m3 fun σ4 d4 s4 => ?_
    have := h3 rfl hm e σ4 _ _ d4 (by rw [mApp_some hg hno]; simp [FG.v]) (s1.trans s4)
    conv => lhs; whnf
    exact this
end Go.Proofs.Ytahhajakgakdhaa
namespace Go.Proofs.Ytahhajakgakdhaa
set_option maxRecDepth 100000
open Go Go.AM Go.AM.St

structure MidC (σ σ' : H) (g : FG) (o' : Option Nat) (a' : SA) (bs : List Nat) : Prop where
  len : σ.length ≤ σ'.length
  keep : ∀ id, id < σ.length → g.o ≠ some id → σ'[id]? = σ[id]?
  own : Own [] σ' 1 o' a' bs.length (u8s bs)
  o : o' = none ∨ o' = g.o ∨ ∃ i, o' = some i ∧ σ.length ≤ i
  ext : Ext σ σ'
def mSync (name : List Nat) : List FV → List FV
  | [] => []
  | x :: l => if x.name = name then { x with synced := x.bytes.length, lasts := true } :: l else x :: mSync name l
theorem mSync_some {name : List Nat} {g : FG} {G2 : List FG} (hg : g.name = name) : ∀ {G1 : List FG}, (∀ g ∈ G1, g.name ≠ name) → mSync name ((G1 ++ g :: G2).map FG.v) = G1.map FG.v ++ { g.v with synced := g.bytes.length, lasts := true } :: G2.map FG.v
  | [], _ => by
    show (if g.name = name then _ else _) = _
    rw [if_pos hg]; rfl
  | x :: G1, h => by
    show (if x.name = name then _ else _) = _
    rw [if_neg (h x (by simp))]
    exact congrArg (x.v :: ·) (mSync_some hg fun g hg => h g (by simp [hg]))
def mFind (name : List Nat) : List FV → Option FV
  | [] => none
  | x :: l => if x.name = name then some x else mFind name l
theorem mFind_none {name : List Nat} : ∀ {G : List FG}, (∀ g ∈ G, g.name ≠ name) → mFind name (G.map FG.v) = none
  | [], _ => rfl
  | x :: G, h => by
    show (if x.name = name then _ else _) = _
    rw [if_neg (h x (by simp)), mFind_none fun g hg => h g (by simp [hg])]
theorem mFind_some {name : List Nat} {g : FG} {G2 : List FG} (hg : g.name = name) : ∀ {G1 : List FG}, (∀ g ∈ G1, g.name ≠ name) → mFind name ((G1 ++ g :: G2).map FG.v) = some g.v
  | [], _ => by
    show (if g.name = name then _ else _) = _
    rw [if_pos hg]
  | x :: G1, h => by
    show (if x.name = name then _ else _) = _
    rw [if_neg (h x (by simp))]
    exact mFind_some hg fun g hg => h g (by simp [hg])
theorem appendZero {t e : TypeId} {ie : TypeInfo} {z : Nat} (ht : Try.prog.underlying t = some (.slice e)) (hi : Try.prog.info? e = some ie) (hz : ie.size = z) (hg : (ie.size == 0 || ie.bytes == 0 || !zeroFits ie) = false) {σ : H} {a b : SA} {m : Nat} {ys : List AV}
    (hx : Rw σ z b m ys) (hb : m * ie.bytes ≤ 140737488355328) (ha : a = .nil ∨ a = .zero) {K : AV → H → Bool} (h0 : m = 0 → K (.sl a 0) σ = true) (h1 : 0 < m → K (.sl (.at σ.length 0 z) m) (σ ++ [AO.cells ys z .own]) = true) (hst : isStructT Try.prog e = false := by rfl) :
    appendK Try.prog t (.sl a 0) (.sl b m) σ K = true := by
  subst hz
  unfold appendK
  rw [ht]
  simp only
  rw [hi]
  simp only
  refine bif_neg hg ?_
  by_cases hm : m = 0
  · exact bif_pos (by simpa using hm) (h0 hm)
  · refine bif_neg (by simpa using hm) (bif_pos (decide_eq_true (by rw [Nat.zero_add]; exact hb)) (seenK_rw hx ?_))
    refine bif_neg hst ?_
    rcases ha with rfl | rfl
    · exact h1 (by omega)
    · exact h1 (by omega)
section
variable {B m clock ops : Nat} {G G1 G2 : List FG} {left : Int} {down : Bool} {σ : H}
theorem st_cut {σ' : H} {g : FG} {o' : Option Nat} {a' : SA} {bs : List Nat} (hd : DiskAt σ B m clock (G1 ++ g :: G2) left down ops) (hm : MidC σ σ' g o' a' bs) {K : H → Bool}
    (hK : ∀ σ'', DiskAt σ'' B m clock (G1 ++ { g with bytes := bs, o := o', a := a' } :: G2) left down ops → Step B m (G1 ++ g :: G2) (G1 ++ { g with bytes := bs, o := o', a := a' } :: G2) σ σ'' → K σ'' = true) :
    storeK Try.prog 22 (.ptr (some ⟨g.f, 0, 0, 3⟩)) (.sl a' bs.length) σ' K = true := by
  have hg := hd.files g (by simp)
  have hne : g.o ≠ some g.f := fun e => by obtain ⟨xs, md, hr⟩ := hg.oRow e; rw [hg.row] at hr; cases hr
  have hrow := (hm.keep g.f (get_lt hg.row) hne).trans hg.row
  have hkk : ∀ id, id < σ.length → id ≠ g.f → g.o ≠ some id → (σ'.set g.f (.cells ((fileCells g).set (0 + 0) (.sl a' bs.length)) 3 .own))[id]? = σ[id]? := fun id hl h1 h2 => by
    rw [List.getElem?_set_ne (Ne.symm h1)]; exact hm.keep id hl h2
  have hof : o' ≠ some g.f := fun e => by
    rcases hm.o with h | h | ⟨i, h, hl⟩
    · rw [h] at e; cases e
    · exact hne (h.symm.trans e)
    · rw [h] at e; cases e; exact absurd (get_lt hg.row) (by omega)
  refine storeK_of rfl rfl (by decide) hrow rfl (by show 0 + 0 < 3; decide) (hK _ (hd.repl rfl rfl rfl hm.o hkk ⟨?_, ?_⟩) ⟨?_, fun id hl hf => ?_, fun id hf => ?_, hm.ext.trans (Ext.ne hrow nofun fun j hj => List.getElem?_set_ne (Ne.symm hj))⟩)
  · rw [get_set hrow]
    rfl
  · show Own [] _ 1 o' a' bs.length (u8s bs)
    have h := hm.own
    unfold Own at h ⊢
    cases o' with
    | none => exact h
    | some i =>
      obtain ⟨off, xs, md, a1, a2, a3, a4⟩ := h
      exact ⟨off, xs, md, a1, a2, get_set_ne a3 (fun e => hof (by rw [e])) _, a4⟩
  · rw [List.length_set]; exact hm.len
  · refine hkk id hl (fun e => hf (.inr (.inr (.inl ⟨g, by simp, e⟩)))) fun e => hf (.inr (.inr (.inr ⟨g, by simp, e⟩)))
  · rcases hf with h | h | ⟨x, hx, h⟩ | ⟨x, hx, h⟩
    · exact .inl (.inl h)
    · exact .inl (.inr (.inl h))
    · refine .inl (.inr (.inr (.inl ?_)))
      rcases List.mem_append.1 hx with hx | hx
      · exact ⟨x, by simp [hx], h⟩
      · rcases List.mem_cons.1 hx with rfl | hx
        · exact ⟨g, by simp, h⟩
        · exact ⟨x, by simp [hx], h⟩
    · rcases List.mem_append.1 hx with hx | hx
      · exact .inl (.inr (.inr (.inr ⟨x, by simp [hx], h⟩)))
      · rcases List.mem_cons.1 hx with rfl | hx
        · rcases hm.o with h' | h' | ⟨i, h', hl⟩
          · have h : o' = some id := h
            rw [h'] at h; cases h
          · exact .inl (.inr (.inr (.inr ⟨g, by simp, h'.symm.trans h⟩)))
          · have h : o' = some id := h
            rw [h'] at h; cases h; exact .inr hl
        · exact .inl (.inr (.inr (.inr ⟨x, by simp [hx], h⟩)))
end
attribute [local irreducible] IntKind.wrap Int.fdiv Int.tdiv Int.tmod BitVec.ofInt appendK sliceK indexAddrK ldK storeK seenK makeSliceK lookupK updateK deleteK mapK
variable {D : Drawer}
variable {B m clock ops : Nat} {G G1 G2 : List FG} {left : Int} {down : Bool} {σ : H}

theorem clone_spec {n : Nat} {s : SA} {N : Nat} {bs : List Nat} (hn : 1 ≤ n) (hm : bs.length ≤ 1000000000) (hs : Rw σ 1 s N (u8s bs)) {K : AV → H → Bool}
    (hK : ∀ o' a' σ', σ <+: σ' → (o' = none ∨ o' = some σ.length) → Own [] σ' 1 o' a' bs.length (u8s bs) → K (.sl a' bs.length) σ' = true) : acall Try.prog tab D n 48 [.sl s N] σ K = true := by
  obtain ⟨n, rfl, hn⟩ := up hn
  have hN : N = bs.length := by have := hs.len; simp [u8s] at this; exact this.symm
  subst hN
  have hz : bs.length = 0 → u8s bs = [] := fun h => by rw [List.length_eq_zero_iff.1 h]; rfl
  have hs' := hs
  rcases hs with ⟨rfl, h0, h00⟩ | ⟨rfl, h0, h00⟩ | ⟨id, off, xs, md, rfl, g1, g2, g3⟩
  · have := hK none .nil σ (List.prefix_rfl) (.inl rfl) ⟨.inl rfl, h0, hz h0⟩
    rw [h0] at this
    conv => lhs; whnf
    exact this
  all_goals
    conv => lhs; whnf
    refine appendZero Try.underlying22 rfl rfl rfl hs' (by show _ * 1 ≤ _; omega) (.inr rfl) (fun h0 => ?_) (fun h0 => ?_)
    · have := hK none .zero σ (List.prefix_rfl) (.inl rfl) ⟨.inr rfl, h0, hz h0⟩
      rw [h0] at this
      conv => lhs; whnf
      exact this
    · have := hK (some σ.length) (.at σ.length 0 1) _ (List.prefix_append σ [AO.cells (u8s bs) 1 .own]) (.inr rfl) (Own.new (σ0 := []) List.nil_prefix _ _ (by decide) (by simp [u8s]))
      conv => lhs; whnf
      exact this
theorem new_spec {n : Nat} (hn : 1 ≤ n) {K : AV → H → Bool} (hK : ∀ σ' B m, σ <+: σ' → DiskAt σ' B m 0 [] (-1) false 0 → (∀ id, Fp B m [] id → σ.length ≤ id) → K (.ptr (some ⟨B, 0, 0, 4⟩)) σ' = true) :
    acall Try.prog tab D n 17 [] σ K = true := by
  obtain ⟨n, rfl, hn⟩ := up hn
  have := hK (σ ++ [AO.map [] 0] ++ [AO.cells [.map (some σ.length), .int .i64 (-1), .bool false, .int .i64 0] 4 .own]) (σ ++ [AO.map [] 0]).length σ.length (by rw [List.append_assoc]; exact List.prefix_append _ _)
    ⟨get_new _ _, get_old (get_new _ _) _, fun g hg => by simp at hg, List.Pairwise.nil, fun g hg => by simp at hg⟩ (fun id h => by
      rcases h with rfl | rfl | ⟨g, hg, _⟩ | ⟨g, hg, _⟩
      · rw [List.length_append]; omega
      · exact Nat.le_refl _
      · simp at hg
      · simp at hg)
  conv => lhs; whnf
  exact this
theorem sync_spec {n : Nat} {name : List Nat} (hn : 3 ≤ n) (hd : DiskAt σ B m clock G left down ops) (hl : -1 ≤ left) (hl2 : left ≤ 9223372036854775807) (hops : ops < 1000000000) {K : AV → H → Bool}
    (h0 : down = true → K (.int .i64 7) σ = true)
    (h1 : down = false → mFind name (G.map FG.v) = none → K (.int .i64 3) σ = true)
    (h2 : down = false → ∀ x, mFind name (G.map FG.v) = some x → left = 0 → ∀ σ', DiskAt σ' B m clock G left true ops → Step B m G G σ σ' → K (.int .i64 7) σ' = true)
    (h3 : down = false → ∀ x, mFind name (G.map FG.v) = some x → left ≠ 0 → ∀ σ' G', DiskAt σ' B m clock G' (max (left - 1) (-1)) false (ops + 1) → G'.map FG.v = mSync name (G.map FG.v) → Step B m G G' σ σ' → K (.int .i64 0) σ' = true) :
    acall Try.prog tab D n 19 [.ptr (some ⟨B, 0, 0, 4⟩), .str (ints name)] σ K = true := by
  obtain ⟨n, rfl, hn⟩ := up hn
  conv => lhs; whnf
  refine finds_spec (by omega) hd (fun hdn => ?_) (fun hdn hno => ?_) fun hdn G1 g G2 hG hg hno => ?_
  · conv => lhs; whnf
    exact h0 hdn
  · conv => lhs; whnf
    exact h1 hdn (mFind_none hno)
  subst hG
  subst hdn
  have hf := mFind_some (G2 := G2) hg hno
  conv => lhs; whnf
  refine does_spec (by omega) hd hl hl2 hops (fun e σ1 d1 k1 => ?_) fun e σ1 d1 k1 => ?_
  · have := h2 rfl _ hf e σ1 d1 (Step.ofB hd.row (len_of hd.row d1.row k1) k1)
    conv => lhs; whnf
    exact this
  conv => lhs; whnf
  refine ldF Try.underlying22 rfl rfl (d1.files g (by simp)).row rfl ?_
  conv => lhs; whnf
  refine lasting_spec (by omega) d1 rfl fun σ2 d2 k2 l2 => ?_
  have := h3 rfl _ hf e σ2 _ d2 (by rw [mSync_some hg hno]; simp [FG.v]) ((Step.ofB hd.row (len_of hd.row d1.row k1) k1).trans ⟨Nat.le_of_eq l2.symm, fun id hl hf => k2 id fun e => hf (.inr (.inr (.inl ⟨g, by simp, e⟩))), fun id h => .inl (fp_same (g := g) (g' := { g with synced := g.bytes.length, lasts := true }) rfl rfl h), Ext.ne (d1.files g (by simp)).row nofun k2⟩)
  conv => lhs; whnf
  exact this
theorem read_spec {n : Nat} {name : List Nat} (hn : 3 ≤ n) (hd : DiskAt σ B m clock G left down ops) (hlen : ∀ g ∈ G, g.bytes.length ≤ 1000000000) {K : AV → H → Bool}
    (h0 : down = true → K (.tup [.sl .nil 0, .int .i64 7]) σ = true)
    (h1 : down = false → mFind name (G.map FG.v) = none → K (.tup [.sl .nil 0, .int .i64 3]) σ = true)
    (h2 : down = false → ∀ x, mFind name (G.map FG.v) = some x → ∀ o' a' σ', σ <+: σ' → (o' = none ∨ o' = some σ.length) → Own [] σ' 1 o' a' x.bytes.length (u8s x.bytes) → K (.tup [.sl a' x.bytes.length, .int .i64 0]) σ' = true) :
    acall Try.prog tab D n 21 [.ptr (some ⟨B, 0, 0, 4⟩), .str (ints name)] σ K = true := by
  obtain ⟨n, rfl, hn⟩ := up hn
  conv => lhs; whnf
  refine finds_spec (by omega) hd (fun hdn => ?_) (fun hdn hno => ?_) fun hdn G1 g G2 hG hg hno => ?_
  · conv => lhs; whnf
    exact h0 hdn
  · conv => lhs; whnf
    exact h1 hdn (mFind_none hno)
  subst hG
  have hf := mFind_some (G2 := G2) hg hno
  conv => lhs; whnf
  refine ldF Try.underlying22 rfl rfl (hd.files g (by simp)).row rfl ?_
  conv => lhs; whnf
  refine clone_spec (by omega) (hlen g (by simp)) (hd.files g (by simp)).own.rw fun o' a' σ' hp ho hw => ?_
  have := h2 hdn _ hf o' a' σ' hp ho hw
  conv => lhs; whnf
  exact this
end Go.Proofs.Ytahhajakgakdhaa
namespace Go.Proofs.Ytahhajakgakdhaa
set_option maxRecDepth 100000
open Go Go.AM Go.AM.St

theorem next_rule {σ : H} {it m clock since last : Nat} {es : List ME} {seen : List Nat} (hi : σ[it]? = some (.miter (some m) since seen last)) (hm : σ[m]? = some (.map es clock)) (hold : ∀ e ∈ es, e.born < last) (hs : ∀ e ∈ es, e.born < since) {K : AV → H → Bool}
    (hdone : (∀ e ∈ es, e.born ∈ seen) → K (.tup [.bool false]) σ = true)
    (hnext : ∀ e ∈ es, e.born ∉ seen → K (.tup [.bool true, e.key, e.val]) (σ.set it (.miter (some m) since (seen ++ [e.born]) clock)) = true) : nextK (.it it) false σ K = true := by
  unfold nextK
  simp only [hi, hm]
  refine bif_neg ?_ ?_
  · cases es with
    | nil => simp
    | cons e es =>
      have := hold e (by simp)
      simp only [List.all_cons]
      rw [decide_eq_false (by omega)]
      simp
  · refine and_true ?_ ?_
    · refine bif_case (fun h => hdone fun e he => ?_) fun _ => rfl
      refine Classical.byContradiction fun hc => ?_
      have := List.all_eq_true.1 h e (List.mem_filter.2 ⟨he, by simpa using hc⟩)
      have h2 := hs e he
      have h3 := of_decide_eq_true this
      omega
    · refine List.all_eq_true.2 fun e he => ?_
      obtain ⟨h1, h2⟩ := List.mem_filter.1 he
      exact hnext e h1 (by simpa using h2)
def kept (keep : Int) (len synced : Nat) : Nat := synced + min keep.toNat (len - synced)
def mCrash (keep : Int) (x : FV) : Option FV :=
  if kept keep x.bytes.length x.synced = 0 ∧ x.lasts = false then none
  else some ⟨x.name, x.bytes.take (kept keep x.bytes.length x.synced), kept keep x.bytes.length x.synced, true⟩
def fin1 (keep : Int) (seen : List Nat) (g : FG) : Option FV := if g.born ∈ seen then some g.v else mCrash keep g.v
def finish (keep : Int) (seen : List Nat) (G : List FG) : List FV := G.filterMap (fin1 keep seen)
theorem finish_nil (keep : Int) (G : List FG) : finish keep [] G = (G.map FG.v).filterMap (mCrash keep) := by
  rw [List.filterMap_map]; rfl
theorem finish_all {keep : Int} {seen : List Nat} : ∀ {G : List FG}, (∀ g ∈ G, g.born ∈ seen) → finish keep seen G = G.map FG.v
  | [], _ => rfl
  | g :: G, h => by
    show List.filterMap _ _ = _
    rw [List.filterMap_cons, show fin1 keep seen g = some g.v from if_pos (h g (by simp))]
    exact congrArg (g.v :: ·) (finish_all fun g hg => h g (by simp [hg]))
theorem fin1_more {keep : Int} {seen : List Nat} {b : Nat} {g : FG} (h : g.born ≠ b) : fin1 keep (seen ++ [b]) g = fin1 keep seen g := by
  unfold fin1
  simp [h]
theorem finish_more {keep : Int} {seen : List Nat} {b : Nat} : ∀ {G : List FG}, (∀ g ∈ G, g.born ≠ b) → finish keep (seen ++ [b]) G = finish keep seen G
  | [], _ => rfl
  | g :: G, h => by
    have ih := finish_more (keep := keep) (seen := seen) (b := b) (G := G) fun g hg => h g (by simp [hg])
    unfold finish at ih ⊢
    rw [List.filterMap_cons, List.filterMap_cons, fin1_more (h g (by simp)), ih]
def unseen (seen : List Nat) (G : List FG) : Nat := (G.filter fun g => !seen.contains g.born).length
theorem unseen_more {seen : List Nat} {b : Nat} {G : List FG} (h : ∀ g ∈ G, g.born ≠ b) : unseen (seen ++ [b]) G = unseen seen G := by
  unfold unseen
  congr 1
  refine List.filter_congr fun g hg => ?_
  have := h g hg
  simp [this]
theorem unseen_app {seen : List Nat} {G1 G2 : List FG} : unseen seen (G1 ++ G2) = unseen seen G1 + unseen seen G2 := by simp [unseen]
theorem finish_app {keep : Int} {seen : List Nat} {G1 G2 : List FG} : finish keep seen (G1 ++ G2) = finish keep seen G1 ++ finish keep seen G2 := List.filterMap_append
theorem finish_cons {keep : Int} {seen : List Nat} {g : FG} {G2 : List FG} : finish keep seen (g :: G2) = (fin1 keep seen g).toList ++ finish keep seen G2 := by
  show List.filterMap _ _ = _
  rw [List.filterMap_cons]
  cases fin1 keep seen g <;> rfl
theorem range_rule {σ : H} {m clock : Nat} {es : List ME} (hm : σ[m]? = some (.map es clock)) {K : AV → H → Bool} (h : K (.it σ.length) (σ ++ [.miter (some m) clock [] clock]) = true) : rangeK Try.prog 74 (.map (some m)) σ K = true := by
  unfold rangeK
  rw [Try.underlying74]
  simp only [hm]
  exact h
theorem find_born {G1 G2 : List FG} {g : FG} (h : ∀ x ∈ G1, x.born ≠ g.born) : ((G1 ++ g :: G2).map entOf).find? (fun e => e.born == g.born) = some (entOf g) := by
  induction G1 with
  | nil =>
    simp only [List.nil_append, List.map_cons]
    rw [List.find?_cons_of_pos]
    show (g.born == g.born) = true
    simp
  | cons x G1 ih =>
    simp only [List.cons_append, List.map_cons]
    rw [List.find?_cons_of_neg]
    · exact ih fun y hy => h y (by simp [hy])
    · show ¬ (x.born == g.born) = true
      have := h x (by simp)
      simpa using this
/-- By a plan; what comes behind is out of sight. -/
theorem goK {P : Program} {D : Drawer} (hD : ByPlan P D) {callf : CallF} {ops : Array Oper} (plan : Plan) (hp : ordOk P ops plan = true) {fr : Fr} {σ : H} {K : Fr → H → Bool} (h : ∀ KK, KK = K → ordK P callf ops plan [] fr σ KK = true) :
    D callf ops fr σ K = true := hD.go plan hp (h K rfl)
section
variable {B m clock ops : Nat} {G G1 G2 : List FG} {left : Int} {down : Bool} {σ : H}
structure Walk (σ0 : H) (B m clock ops : Nat) (G0 : List FG) (left : Int) (down : Bool) (keep : Int) (it : Nat) (seen : List Nat) (G : List FG) (σ : H) : Prop where
  d : DiskAt σ B m clock G left down ops
  i : σ[it]? = some (.miter (some m) clock seen clock)
  f : finish keep seen G = (G0.map FG.v).filterMap (mCrash keep)
  b : ∀ g ∈ G, g.bytes.length ≤ 1000000000 ∧ g.synced ≤ g.bytes.length
  s : Step B m G0 G σ0 σ
  t : ¬ Fp B m G it
  n : σ0.length ≤ it
theorem Walk.next {σ0 τ τ1 σ5 : H} {G0 G' : List FG} {keep : Int} {it b : Nat} {seen : List Nat} (hw : Walk σ0 B m clock ops G0 left down keep it seen G τ) (k1 : ∀ id, id ≠ it → τ1[id]? = τ[id]?) (l1 : τ1.length = τ.length)
    (i1 : τ1[it]? = some (.miter (some m) clock (seen ++ [b]) clock)) (S : Step B m G G' τ1 σ5) (d5 : DiskAt σ5 B m clock G' left down ops) (hf : finish keep (seen ++ [b]) G' = finish keep seen G)
    (hb : ∀ g ∈ G', g.bytes.length ≤ 1000000000 ∧ g.synced ≤ g.bytes.length) : Walk σ0 B m clock ops G0 left down keep it (seen ++ [b]) G' σ5 := by
  have hl := get_lt i1
  have hn := hw.n
  refine ⟨d5, (S.keep it hl hw.t).trans i1, hf.trans hw.f, hb, ⟨?_, fun id h1 h2 => ?_, fun id h => ?_, hw.s.ext.trans ((Ext.ne hw.i nofun k1).trans S.ext)⟩, fun h => ?_, hw.n⟩
  · have := hw.s.len; have := S.len; omega
  · have h3 : ¬ Fp B m G id := fun h => by
      rcases hw.s.fp id h with h | h
      · exact h2 h
      · omega
    have := hw.s.len
    rw [S.keep id (by omega) h3, k1 id (by omega), hw.s.keep id h1 h2]
  · rcases S.fp id h with h | h
    · exact hw.s.fp id h
    · have := hw.s.len; exact .inr (by omega)
  · rcases S.fp it h with h | h
    · exact hw.t h
    · omega
theorem fp_gone {g : FG} {id : Nat} (h : Fp B m (G1 ++ G2) id) : Fp B m (G1 ++ g :: G2) id := by
  rcases h with h | h | ⟨x, hx, h⟩ | ⟨x, hx, h⟩
  · exact .inl h
  · exact .inr (.inl h)
  · exact .inr (.inr (.inl ⟨x, by rcases List.mem_append.1 hx with hx | hx <;> simp [hx], h⟩))
  · exact .inr (.inr (.inr ⟨x, by rcases List.mem_append.1 hx with hx | hx <;> simp [hx], h⟩))
theorem DiskAt.gone {g : FG} (hd : DiskAt σ B m clock (G1 ++ g :: G2) left down ops) : DiskAt (σ.set m (.map ((G1 ++ G2).map entOf) clock)) B m clock (G1 ++ G2) left down ops := by
  have hmB : B ≠ m := fun e => by have := hd.mp; rw [← e, hd.row] at this; cases this
  have hap := hd.apart
  rw [List.pairwise_append, List.pairwise_cons] at hap
  have hin : ∀ x ∈ G1 ++ G2, x ∈ G1 ++ g :: G2 := fun x hx => by rcases List.mem_append.1 hx with hx | hx <;> simp [hx]
  refine ⟨get_set_ne hd.row hmB _, get_set hd.mp _, fun x hx => ?_, ?_, fun x hx => hd.old x (hin x hx)⟩
  · have h := hd.files x (hin x hx)
    refine h.keep (List.getElem?_set_ne fun e => ?_) fun i hi => List.getElem?_set_ne fun e => ?_
    · have := hd.mp; rw [e, h.row] at this; cases this
    · obtain ⟨xs, md, hr⟩ := h.oRow hi
      have := hd.mp; rw [e, hr] at this; cases this
  · rw [List.pairwise_append]
    exact ⟨hap.1, hap.2.1.2, fun x hx y hy => hap.2.2 x hx y (by simp [hy])⟩
theorem fp_ne {g : FG} (hd : DiskAt σ B m clock (G1 ++ g :: G2) left down ops) {id : Nat} (h : Fp B m (G1 ++ G2) id) : id ≠ g.f := by
  have gf := hd.files g (by simp)
  have hap := hd.apart
  rw [List.pairwise_append, List.pairwise_cons] at hap
  have hin : ∀ x ∈ G1 ++ G2, x ∈ G1 ++ g :: G2 := fun x hx => by rcases List.mem_append.1 hx with hx | hx <;> simp [hx]
  rintro rfl
  rcases h with h | h | ⟨x, hx, h⟩ | ⟨x, hx, h⟩
  · have h1 := gf.row; rw [h, hd.row] at h1; cases h1
  · have h1 := gf.row; rw [h, hd.mp] at h1; cases h1
  · rcases List.mem_append.1 hx with hx | hx
    · exact (hap.2.2 x hx g (by simp)).1 h.symm
    · exact (hap.2.1.1 x hx).1 h
  · obtain ⟨xs, md, hr⟩ := (hd.files x (hin x hx)).oRow h
    rw [gf.row] at hr; cases hr
theorem slB {a : SA} {n k : Nat} {bs : List Nat} (hv : Rw σ 1 a n (u8s bs)) (hk : k ≤ bs.length) {K : AV → Bool} (hK : ∀ a', Rw σ 1 a' k (u8s (bs.take k)) → K (.sl a' k) = true) :
    sliceK Try.prog 22 (.sl a n) none (some (.int .i64 (k : Int))) none K = true := by
  have hn := hv.len
  rw [u8s_len] at hn
  exact sliceK_rw (z := 1) Try.underlying22 (fun K => rfl) hv (.inl ⟨rfl, rfl⟩) (.inr ⟨_, _, rfl, rfl⟩) (Nat.zero_le _) (by omega) (by omega) (by rw [u8s_take]; simp) hK
theorem st_raw {f : Nat} {u v w x : AV} (hr : σ[f]? = some (AO.cells [u, v, w] 3 .own)) (hl : isLeaf x = true) {K : H → Bool}
    (hK : ∀ σ', σ'[f]? = some (AO.cells [x, v, w] 3 .own) → (∀ id, id ≠ f → σ'[id]? = σ[id]?) → σ'.length = σ.length → K σ' = true) : storeK Try.prog 22 (.ptr (some ⟨f, 0, 0, 3⟩)) x σ K = true :=
  storeK_of rfl rfl (by decide) hr hl (by show 0 + 0 < 3; decide) (hK _ (get_set hr _) (fun id hne => List.getElem?_set_ne (Ne.symm hne)) (List.length_set ..))
end
attribute [local irreducible] IntKind.wrap Int.fdiv Int.tdiv Int.tmod BitVec.ofInt appendK sliceK indexAddrK ldK storeK seenK makeSliceK lookupK updateK deleteK mapK rangeK nextK
variable {D : Drawer}
variable {B m clock ops : Nat} {G G1 G2 : List FG} {left : Int} {down : Bool} {σ : H}
theorem lasting_raw {n f : Nat} {u v w : AV} (hn : 1 ≤ n) (hr : σ[f]? = some (AO.cells [u, v, w] 3 .own)) {x : Int} {K : AV → H → Bool}
    (hK : ∀ σ', (∀ id, id ≠ f → σ'[id]? = σ[id]?) → σ'.length = σ.length → K (.tup []) σ' = true) : acall Try.prog tab D n 47 [.ptr (some ⟨f, 0, 0, 3⟩), .int .i64 x] σ K = true := by
  obtain ⟨n, rfl, hn⟩ := up hn
  conv => lhs; whnf
  refine storeK_of rfl rfl (by decide) hr rfl (by show 0 + 1 < 3; decide) ?_
  conv => lhs; whnf
  refine storeK_of rfl rfl (by decide) (get_set hr _) rfl (by show 0 + 2 < 3; decide) ?_
  conv => lhs; whnf
  exact hK _ (fun id hne => by rw [List.getElem?_set_ne (Ne.symm hne), List.getElem?_set_ne (Ne.symm hne)]) (by simp)
theorem crash_spec {n : Nat} (hn : G.length + 5 ≤ n) (hD : ByPlan Try.prog D) (hd : DiskAt σ B m clock G left down ops) (hb : ∀ g ∈ G, g.bytes.length ≤ 1000000000 ∧ g.synced ≤ g.bytes.length) {keep : Int} {K : AV → H → Bool}
    (hK : ∀ σ' G', DiskAt σ' B m clock G' (-1) false ops → G'.map FG.v = (G.map FG.v).filterMap (mCrash keep) → Step B m G G' σ σ' → K (.tup []) σ' = true) :
    acall Try.prog tab D n 20 [.ptr (some ⟨B, 0, 0, 4⟩), .int .i64 keep] σ K = true := by
  obtain ⟨n, rfl, hn⟩ := up (n := n) (k := G.length + 4) (by omega)
  conv => lhs; whnf
  refine ldF Try.underlying74 rfl rfl hd.row rfl ?_
  conv => lhs; whnf
  refine range_rule hd.mp ?_
  conv => lhs; whnf
  refine loop_rule (m := 8195) (fun q fr τ => ∃ it seen G', Walk σ B m clock ops G left down keep it seen G' τ ∧ unseen seen G' = q ∧
    fr = [.ptr (some ⟨B, 0, 0, 4⟩), .int .i64 keep, .bad, .bad, .bad, .bad, .bad, .bad, .bad, .bad, .bad, .bad, .bad, .it it, .bad, .bad, .bad, .bad, .bad, .bad, .bad, .bad, .bad, .bad, .bad, .bad, .bad, .bad, .bad, .bad, .bad, .bad, .bad, .bad, .bad, .bad, .bad, .bad, .bad, .bad, .bad, .bad, .bad, .bad, .bad, .bad, .bad, .bad, .bad, .bad, .bad, .bad, .bad, .bad, .bad, .bad, .bad, .bad, .bad, .bad, .bad, .bad, .bad, .bad, .bad, .bad, .bad, .bad, .bad, .bad]) ?_ _ (unseen [] G) _ _ (by have := List.length_filter_le (fun g : FG => !([] : List Nat).contains g.born) G; unfold unseen; omega)
    ⟨_, [], G, ⟨hd.mono (List.prefix_append _ _), get_new _ _, finish_nil _ _, hb, ⟨by simp, fun id hl _ => List.getElem?_append_left hl, fun _ h => .inl h, Ext.of_prefix (List.prefix_append _ _)⟩, fun h => absurd (Fp.lt hd h) (Nat.lt_irrefl _), Nat.le_refl _⟩, rfl, rfl⟩
  rintro q fr τ C ⟨it, seen, G', hw, rfl, rfl⟩ next fin
  conv => lhs; whnf
  refine next_rule hw.i hw.d.mp (fun e he => ?_) (fun e he => ?_) (fun hall => ?_) fun e he hns => ?_
  · obtain ⟨g, hg, rfl⟩ := List.mem_map.1 he
    exact hw.d.old g hg
  · obtain ⟨g, hg, rfl⟩ := List.mem_map.1 he
    exact hw.d.old g hg
  · conv => lhs; whnf
    refine fin _ _ _ nofun ?_
    conv => lhs; whnf
    refine st_left hw.d (left' := -1) rfl fun σ1 d1 k1 => ?_
    conv => lhs; whnf
    refine st_down d1 (down' := false) fun σ2 d2 k2 => ?_
    have := hK σ2 G' d2 ((finish_all fun g hg => hall _ (List.mem_map_of_mem hg)).symm.trans hw.f) (hw.s.trans (Step.ofB hw.d.row (len_of hw.d.row d2.row fun id hne => (k2 id hne).trans (k1 id hne)) fun id hne => (k2 id hne).trans (k1 id hne)))
    conv => lhs; whnf
    exact this
  · obtain ⟨g, hg, rfl⟩ := List.mem_map.1 he
    obtain ⟨G1, G2, rfl⟩ := List.append_of_mem hg
    have hap := hw.d.apart
    rw [List.pairwise_append, List.pairwise_cons] at hap
    have hb1 : ∀ x ∈ G1, x.born ≠ g.born := fun x hx => (hap.2.2 x hx g (by simp)).2.2.2
    have hb2 : ∀ x ∈ G2, x.born ≠ g.born := fun x hx => (hap.2.1.1 x hx).2.2.2.symm
    have d1 : DiskAt (τ.set it (.miter (some m) clock (seen ++ [(entOf g).born]) clock)) B m clock (G1 ++ g :: G2) left down ops := hw.d.keep fun id hf => List.getElem?_set_ne (fun e => hw.t (by rw [e]; exact hf))
    have i1 : (τ.set it (.miter (some m) clock (seen ++ [(entOf g).born]) clock))[it]? = some (.miter (some m) clock (seen ++ [(entOf g).born]) clock) := get_set hw.i _
    have k1 : ∀ id, id ≠ it → (τ.set it (.miter (some m) clock (seen ++ [(entOf g).born]) clock))[id]? = τ[id]? := fun id hne => List.getElem?_set_ne (Ne.symm hne)
    have l1 : (τ.set it (.miter (some m) clock (seen ++ [(entOf g).born]) clock)).length = τ.length := List.length_set ..
    have l0 := get_lt hw.i
    obtain ⟨hbl, hbs⟩ := hw.b g hg
    generalize τ.set it (.miter (some m) clock (seen ++ [(entOf g).born]) clock) = τ1 at d1 i1 k1 l1 ⊢
    replace i1 : τ1[it]? = some (.miter (some m) clock (seen ++ [g.born]) clock) := i1
    conv => lhs; whnf
    rw [i1]
    conv => lhs; whnf
    rw [d1.mp, List.getLast?_concat]
    conv => lhs; whnf
    refine bif_pos (by simp) ?_
    rw [find_born hb1]
    conv => lhs; whnf
    refine goK hD plan20x4 ord20x4 fun KK hKK => ?_
    conv => lhs; whnf
    have gf := d1.files g (by simp)
    refine ldF Try.underlying3 rfl rfl gf.row rfl ?_
    conv => lhs; whnf
    refine ldF Try.underlying22 rfl rfl gf.row rfl ?_
    conv => lhs; whnf
    refine ldF Try.underlying3 rfl rfl gf.row rfl ?_
    have hx : IntKind.wrap .i64 ((g.synced : Int) + (bif true then (if (IntKind.wrap .i64 ((g.bytes.length : Int) - (g.synced : Int))) < (bif false then (if (0 : Int) < keep then (0 : Int) else keep) else (if keep < (0 : Int) then (0 : Int) else keep)) then (IntKind.wrap .i64 ((g.bytes.length : Int) - (g.synced : Int))) else (bif false then (if (0 : Int) < keep then (0 : Int) else keep) else (if keep < (0 : Int) then (0 : Int) else keep))) else (if (bif false then (if (0 : Int) < keep then (0 : Int) else keep) else (if keep < (0 : Int) then (0 : Int) else keep)) < (IntKind.wrap .i64 ((g.bytes.length : Int) - (g.synced : Int))) then (IntKind.wrap .i64 ((g.bytes.length : Int) - (g.synced : Int))) else (bif false then (if (0 : Int) < keep then (0 : Int) else keep) else (if keep < (0 : Int) then (0 : Int) else keep))))) = ((kept keep g.bytes.length g.synced : Nat) : Int) := by
      rw [wrap_i64 (x := (g.bytes.length : Int) - (g.synced : Int)) (by omega) (by omega)]
      simp only [cond_true, cond_false]
      unfold kept
      rw [wrap_i64]
      all_goals
        split <;> split <;> omega
    conv => lhs; whnf
    rw [hx]
    subst hKK
    conv => lhs; whnf
    generalize hk : kept keep g.bytes.length g.synced = k
    have hkl : k ≤ g.bytes.length := by rw [← hk]; unfold kept; omega
    have hlt : (g.bytes.take k).length = k := by rw [List.length_take]; omega
    have hns' : g.born ∉ seen := hns
    have keptF : ∀ g' : FG, g'.born = g.born → mCrash keep g.v = some g'.v → True → finish keep (seen ++ [g.born]) (G1 ++ g' :: G2) = finish keep seen (G1 ++ g :: G2) := fun g' e1 e2 _ => by
      rw [finish_app, finish_app, finish_cons, finish_cons, finish_more hb1, finish_more hb2]
      rw [show fin1 keep (seen ++ [g.born]) g' = some g'.v from if_pos (by rw [e1]; simp), show fin1 keep seen g = mCrash keep g.v from if_neg hns', e2]
    have keptB : ∀ g' : FG, g'.bytes = g.bytes.take k → g'.synced = k → ∀ x ∈ G1 ++ g' :: G2, x.bytes.length ≤ 1000000000 ∧ x.synced ≤ x.bytes.length := fun g' e1 e2 x hx => by
      rcases List.mem_append.1 hx with hx | hx
      · exact hw.b x (by simp [hx])
      · rcases List.mem_cons.1 hx with rfl | hx
        · rw [e1, e2, hlt]; omega
        · exact hw.b x (by simp [hx])
    have un0 : unseen seen (G1 ++ g :: G2) = unseen seen G1 + (1 + unseen seen G2) := by
      rw [unseen_app]
      have : unseen seen (g :: G2) = 1 + unseen seen G2 := by
        unfold unseen
        rw [List.filter_cons_of_pos (by simpa using hns'), List.length_cons, Nat.add_comm]
      rw [this]
    have keptU : ∀ g' : FG, g'.born = g.born → unseen (seen ++ [g.born]) (G1 ++ g' :: G2) < unseen seen (G1 ++ g :: G2) := fun g' e1 => by
      rw [un0, unseen_app, unseen_more hb1]
      have : unseen (seen ++ [g.born]) (g' :: G2) = unseen seen G2 := by
        rw [← unseen_more hb2]
        unfold unseen
        rw [List.filter_cons_of_neg (by rw [e1]; simp)]
      omega
    have hcr : ¬ (k = 0 ∧ g.lasts = false) → mCrash keep g.v = some ⟨g.name, g.bytes.take k, k, true⟩ := fun h => by
      unfold mCrash
      show (if kept keep g.bytes.length g.synced = 0 ∧ g.lasts = false then none else some (⟨g.name, g.bytes.take (kept keep g.bytes.length g.synced), kept keep g.bytes.length g.synced, true⟩ : FV)) = _
      rw [hk, if_neg h]
    rw [show ((k : Int) == 0) = decide (k = 0) by rw [Bool.eq_iff_iff]; simp]
    by_cases hz : k = 0
    · rw [decide_eq_true hz]
      conv => lhs; whnf
      refine ldF Try.underlying4 rfl rfl gf.row rfl ?_
      cases hL : g.lasts with
      | true =>
        have hcr := hcr (by rw [hL]; simp)
        · conv => lhs; whnf
          refine ldF Try.underlying22 rfl rfl gf.row rfl ?_
          conv => lhs; whnf
          refine slB gf.own.rw hkl fun a2 r2 => ?_
          conv => lhs; whnf
          refine clone_spec (by omega) (by omega) r2 fun o3 a3 σ3 p3 q3 w3 => ?_
          conv => lhs; whnf
          refine st_cut d1 (σ' := σ3) (o' := o3) ⟨prefix_len p3, fun id hl _ => by rw [prefix_get p3 (List.getElem?_eq_getElem hl), List.getElem?_eq_getElem hl], w3, q3.elim .inl fun h => .inr (.inr ⟨_, h, Nat.le_refl _⟩), Ext.of_prefix p3⟩ fun σ4 d4 s4 => ?_
          conv => lhs; whnf
          refine lasting_spec (by omega) d4 rfl fun σ5 d5 k5 l5 => ?_
          have wn := hw.next k1 l1 i1 (s4.trans ⟨Nat.le_of_eq l5.symm, fun id hl hf => k5 id fun e => hf (.inr (.inr (.inl ⟨_, List.mem_append_right _ (List.mem_cons_self ..), e⟩))), fun id h => .inl (fp_same (g := { g with bytes := g.bytes.take k, o := o3, a := a3 }) (g' := { g with bytes := g.bytes.take k, o := o3, a := a3, synced := k, lasts := true }) rfl rfl h), Ext.ne (d4.files { g with bytes := g.bytes.take k, o := o3, a := a3 } (by simp)).row nofun k5⟩) d5 (keptF _ rfl hcr trivial) (keptB _ rfl rfl)
          conv => lhs; whnf
          exact next _ _ _ (keptU { g with bytes := g.bytes.take k, o := o3, a := a3, synced := k, lasts := true } rfl) ⟨it, _, _, wn, rfl, rfl⟩
      | false =>
        conv => lhs; whnf
        refine ldF Try.underlying74 rfl rfl d1.row rfl ?_
        conv => lhs; whnf
        refine del_old d1.mp rfl (fun x hx => (hap.2.2 x hx g (by simp)).2.2.1) ?_
        have hmf : m ≠ g.f := fun e => by have := d1.mp; rw [e, gf.row] at this; cases this
        have d2 := d1.gone
        have f2 : FileAt (τ1.set m (.map ((G1 ++ G2).map entOf) clock)) g := gf.keep (List.getElem?_set_ne hmf) fun i hi => List.getElem?_set_ne fun e => by
          obtain ⟨xs, md, hr⟩ := gf.oRow hi
          have := d1.mp; rw [e, hr] at this; cases this
        have k2 : ∀ id, id ≠ m → (τ1.set m (.map ((G1 ++ G2).map entOf) clock))[id]? = τ1[id]? := fun id hne => List.getElem?_set_ne (Ne.symm hne)
        have l2 : (τ1.set m (.map ((G1 ++ G2).map entOf) clock)).length = τ1.length := List.length_set ..
        generalize τ1.set m (.map ((G1 ++ G2).map entOf) clock) = τ2 at d2 f2 k2 l2 ⊢
        conv => lhs; whnf
        refine ldF Try.underlying22 rfl rfl f2.row rfl ?_
        conv => lhs; whnf
        refine slB f2.own.rw hkl fun a2 r2 => ?_
        conv => lhs; whnf
        refine clone_spec (by omega) (by omega) r2 fun o3 a3 σ3 p3 q3 w3 => ?_
        conv => lhs; whnf
        have r3 := prefix_get p3 f2.row
        refine st_raw (x := .sl a3 _) r3 rfl fun σ4 r4 k4 l4 => ?_
        conv => lhs; whnf
        refine lasting_raw (by omega) r4 fun σ5 k5 l5 => ?_
        have kk : ∀ id, id < τ1.length → id ≠ m → id ≠ g.f → σ5[id]? = τ1[id]? := fun id h1 h2 h3 => by
          have h4 : id < τ2.length := by omega
          rw [k5 id h3, k4 id h3, prefix_get p3 (List.getElem?_eq_getElem h4), ← List.getElem?_eq_getElem h4, k2 id h2]
        have d5 : DiskAt σ5 B m clock (G1 ++ G2) left down ops := (d2.mono p3).keep fun id hf => by
          have := fp_ne d1 hf
          rw [k5 id this, k4 id this]
        have hp := prefix_len p3
        have hgone : mCrash keep g.v = none := by
          unfold mCrash
          show (if kept keep g.bytes.length g.synced = 0 ∧ g.lasts = false then none else some (⟨g.name, g.bytes.take (kept keep g.bytes.length g.synced), kept keep g.bytes.length g.synced, true⟩ : FV)) = _
          rw [if_pos ⟨hk.trans hz, hL⟩]
        have wn := hw.next k1 l1 i1 (G' := G1 ++ G2) ⟨by omega, fun id hl hf => kk id hl (fun e => hf (.inr (.inl e))) (fun e => hf (.inr (.inr (.inl ⟨g, by simp, e⟩)))), fun id h => .inl (fp_gone h), (Ext.ne d1.mp nofun k2).trans ((Ext.of_prefix p3).trans ((Ext.ne r3 nofun k4).trans (Ext.ne r4 nofun k5)))⟩ d5 (by
            rw [finish_app, finish_app, finish_cons, finish_more hb1, finish_more hb2, show fin1 keep seen g = mCrash keep g.v from if_neg hns', hgone]; rfl)
          fun x hx => hw.b x (by rcases List.mem_append.1 hx with hx | hx <;> simp [hx])
        conv => lhs; whnf
        exact next _ _ _ (by rw [un0, unseen_app, unseen_more hb1, unseen_more hb2]; omega) ⟨it, _, _, wn, rfl, rfl⟩
    · rw [decide_eq_false hz]
      have hcr := hcr fun h => hz h.1
      · conv => lhs; whnf
        refine ldF Try.underlying22 rfl rfl gf.row rfl ?_
        conv => lhs; whnf
        refine slB gf.own.rw hkl fun a2 r2 => ?_
        conv => lhs; whnf
        refine clone_spec (by omega) (by omega) r2 fun o3 a3 σ3 p3 q3 w3 => ?_
        conv => lhs; whnf
        refine st_cut d1 (σ' := σ3) (o' := o3) ⟨prefix_len p3, fun id hl _ => by rw [prefix_get p3 (List.getElem?_eq_getElem hl), List.getElem?_eq_getElem hl], w3, q3.elim .inl fun h => .inr (.inr ⟨_, h, Nat.le_refl _⟩), Ext.of_prefix p3⟩ fun σ4 d4 s4 => ?_
        conv => lhs; whnf
        refine lasting_spec (by omega) d4 rfl fun σ5 d5 k5 l5 => ?_
        have wn := hw.next k1 l1 i1 (s4.trans ⟨Nat.le_of_eq l5.symm, fun id hl hf => k5 id fun e => hf (.inr (.inr (.inl ⟨_, List.mem_append_right _ (List.mem_cons_self ..), e⟩))), fun id h => .inl (fp_same (g := { g with bytes := g.bytes.take k, o := o3, a := a3 }) (g' := { g with bytes := g.bytes.take k, o := o3, a := a3, synced := k, lasts := true }) rfl rfl h), Ext.ne (d4.files { g with bytes := g.bytes.take k, o := o3, a := a3 } (by simp)).row nofun k5⟩) d5 (keptF _ rfl hcr trivial) (keptB _ rfl rfl)
        conv => lhs; whnf
        exact next _ _ _ (keptU { g with bytes := g.bytes.take k, o := o3, a := a3, synced := k, lasts := true } rfl) ⟨it, _, _, wn, rfl, rfl⟩
end Go.Proofs.Ytahhajakgakdhaa
