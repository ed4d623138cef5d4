/- Package disk: Fuse, Ops. -/
import Derived.Test.YtahhajakgakdhaaL5New
namespace Go.Proofs.Ytahhajakgakdhaa
set_option maxRecDepth 100000
open Go Go.AM Go.AM.St
def mCut (name : List Nat) (k : Nat) : List FV → List FV
  | [] => []
  | x :: l => if x.name = name then ⟨x.name, x.bytes.take k, k, true⟩ :: l else x :: mCut name k l
theorem mCut_some {name : List Nat} {k : Nat} {g : FG} {G2 : List FG} (hg : g.name = name) : ∀ {G1 : List FG}, (∀ g ∈ G1, g.name ≠ name) → mCut name k ((G1 ++ g :: G2).map FG.v) = G1.map FG.v ++ ⟨g.name, g.bytes.take k, k, true⟩ :: G2.map FG.v
  | [], _ => by
    show (if g.name = name then _ else _) = _
    rw [if_pos hg]; rfl
  | x :: G1, h => by
    show (if x.name = name then _ else _) = _
    rw [if_neg (h x (by simp))]
    exact congrArg (x.v :: ·) (mCut_some hg fun g hg => h g (by simp [hg]))
attribute [local irreducible] IntKind.wrap Int.fdiv Int.tdiv Int.tmod BitVec.ofInt appendK sliceK indexAddrK ldK storeK seenK makeSliceK lookupK updateK deleteK mapK rangeK nextK keysF
variable {D : Drawer}
variable {B m clock ops : Nat} {G G1 G2 : List FG} {left : Int} {down : Bool} {σ : H}
theorem ops_spec {n : Nat} (hn : 1 ≤ n) (hd : DiskAt σ B m clock G left down ops) {K : AV → H → Bool} (h : K (.int .i64 (ops : Int)) σ = true) : acall Try.prog tab D n 35 [.ptr (some ⟨B, 0, 0, 4⟩)] σ K = true := by
  obtain ⟨n, rfl, hn⟩ := up hn
  conv => lhs; whnf
  refine ldF Try.underlying3 rfl rfl hd.row rfl ?_
  conv => lhs; whnf
  exact h
theorem fuse_spec {n : Nat} {x : Int} (hn : 2 ≤ n) (hd : DiskAt σ B m clock G left down ops) {K : AV → H → Bool} (h0 : down = true → K (.tup []) σ = true)
    (h1 : down = false → ∀ σ', DiskAt σ' B m clock G (max x (-1)) down ops → Step B m G G σ σ' → K (.tup []) σ' = true) : acall Try.prog tab D n 33 [.ptr (some ⟨B, 0, 0, 4⟩), .int .i64 x] σ K = true := by
  obtain ⟨n, rfl, hn⟩ := up hn
  conv => lhs; whnf
  refine down_spec (by omega) hd ?_
  cases down with
  | true =>
    conv => lhs; whnf
    exact h0 rfl
  | false =>
  conv => lhs; whnf
  refine st_left hd (left' := max x (-1)) ?_ fun σ1 d1 k1 => ?_
  · show (if x < -1 then -1 else x) = _
    rw [Int.max_def]
    split <;> split <;> omega
  have := h1 rfl σ1 d1 (Step.ofB (get_lt hd.row) (len_of hd.row d1.row k1) k1)
  conv => lhs; whnf
  exact this
theorem cut_spec {n : Nat} {name : List Nat} {y : Int} (hn : 3 ≤ n) (hd : DiskAt σ B m clock G left down ops) (hl : -1 ≤ left) (hl2 : left ≤ 9223372036854775807) (hops : ops < 1000000000) (hlen : ∀ g ∈ G, g.bytes.length ≤ 1000000000) {K : AV → H → Bool}
    (h0 : down = true → K (.int .i64 7) σ = true)
    (h1 : down = false → mFind name (G.map FG.v) = none → K (.int .i64 3) σ = true)
    (h2 : down = false → ∀ x, mFind name (G.map FG.v) = some x → ¬ (0 ≤ y ∧ y ≤ x.bytes.length) → K (.int .i64 9) σ = true)
    (h3 : down = false → ∀ x, mFind name (G.map FG.v) = some x → 0 ≤ y → y ≤ x.bytes.length → left = 0 → ∀ σ', DiskAt σ' B m clock G left true ops → Step B m G G σ σ' → K (.int .i64 7) σ' = true)
    (h4 : down = false → ∀ x, mFind name (G.map FG.v) = some x → 0 ≤ y → y ≤ x.bytes.length → left ≠ 0 → ∀ σ' G', DiskAt σ' B m clock G' (max (left - 1) (-1)) false (ops + 1) → G'.map FG.v = mCut name y.toNat (G.map FG.v) → Step B m G G' σ σ' → K (.int .i64 0) σ' = true) :
    acall Try.prog tab D n 42 [.ptr (some ⟨B, 0, 0, 4⟩), .str (ints name), .int .i64 y] σ K = true := by
  obtain ⟨n, rfl, hn⟩ := up hn
  conv => lhs; whnf
  refine finds_spec (by omega) hd (fun hdn => ?_) (fun hdn hno => ?_) fun hdn G1 g G2 hG hg hno => ?_
  · conv => lhs; whnf
    exact h0 hdn
  · conv => lhs; whnf
    exact h1 hdn (mFind_none hno)
  subst hG
  subst hdn
  have hf := mFind_some (G2 := G2) hg hno
  have gf := hd.files g (by simp)
  conv => lhs; whnf
  by_cases hy : y < 0
  · rw [decide_eq_true hy]
    conv => lhs; whnf
    exact h2 rfl _ hf fun h => by omega
  rw [decide_eq_false hy]
  conv => lhs; whnf
  refine ldF Try.underlying22 rfl rfl gf.row rfl ?_
  conv => lhs; whnf
  by_cases hy2 : (g.bytes.length : Int) < y
  · rw [show decide ((g.bytes.length : Int) < y) = true from decide_eq_true hy2]
    conv => lhs; whnf
    exact h2 rfl _ hf fun h => by
      have h3 : y ≤ (g.bytes.length : Int) := h.2
      omega
  rw [show decide ((g.bytes.length : Int) < y) = false from decide_eq_false hy2]
  have hy3 : y ≤ (g.v.bytes.length : Int) := by show y ≤ (g.bytes.length : Int); omega
  conv => lhs; whnf
  refine does_spec (by omega) hd hl hl2 hops (fun e σ1 d1 k1 => ?_) fun e σ1 d1 k1 => ?_
  · have := h3 rfl _ hf (by omega) hy3 e σ1 d1 (Step.ofB (get_lt hd.row) (len_of hd.row d1.row k1) k1)
    conv => lhs; whnf
    exact this
  have s1 : Step B m (G1 ++ g :: G2) (G1 ++ g :: G2) σ σ1 := Step.ofB (get_lt hd.row) (len_of hd.row d1.row k1) k1
  have g1 := d1.files g (by simp)
  have hyk : y = (y.toNat : Int) := by omega
  have hgl := hlen g (by simp)
  have hlt : (g.bytes.take y.toNat).length = y.toNat := by rw [List.length_take]; omega
  conv => lhs; whnf
  refine ldF Try.underlying22 rfl rfl g1.row rfl ?_
  conv => lhs; whnf
  refine slB2 hyk g1.own.rw (by omega) fun a2 r2 => ?_
  conv => lhs; whnf
  refine clone_spec (by omega) (by omega) r2 fun o3 a3 σ3 p3 q3 w3 => ?_
  conv => lhs; whnf
  refine st_cut d1 (σ' := σ3) (o' := o3) ⟨prefix_len p3, fun id hl _ => by rw [prefix_get p3 (List.getElem?_eq_getElem hl), List.getElem?_eq_getElem hl], w3, q3.elim .inl fun h => .inr (.inr ⟨_, h, Nat.le_refl _⟩)⟩ fun σ4 d4 s4 => ?_
  conv => lhs; whnf
  refine lasting_spec (by omega) d4 hyk fun σ5 d5 k5 l5 => ?_
  have := h4 rfl _ hf (by omega) hy3 e σ5 _ d5 (by rw [mCut_some hg hno]; simp [FG.v]) ((s1.trans s4).trans ⟨Nat.le_of_eq l5.symm, fun id hl hf => k5 id fun e => hf (.inr (.inr (.inl ⟨_, List.mem_append_right _ (List.mem_cons_self ..), e⟩))), fun id h => .inl (fp_same (g := { g with bytes := g.bytes.take y.toNat, o := o3, a := a3 }) (g' := { g with bytes := g.bytes.take y.toNat, o := o3, a := a3, synced := y.toNat, lasts := true }) rfl rfl h)⟩)
  conv => lhs; whnf
  exact this
end Go.Proofs.Ytahhajakgakdhaa
