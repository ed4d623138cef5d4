/- Package name: names compared, by a machine without contracts. -/
import Derived.Test.YtjooccdeeejecaaL1Tab0
import Derived.Test.YtjooccdeeejecaaL1Plans
import Derived.Test.YtjooccdeeejecaaGmStep
import Derived.Test.YtjooccdeeejecaaGmCode
namespace Go.Proofs.Ytjooccdeeejecaa
open Go Go.AM Go.AM.St

theorem up {n k : Nat} (h : k + 1 ≤ n) : ∃ m, n = Nat.succ m ∧ k ≤ m := ⟨n - 1, by omega, by omega⟩
theorem goK {P : Program} {D : Drawer} (hD : ByPlan P D) {callf : CallF} {ops : Array Oper} (plan : Plan) (hp : ordOk P ops plan = true) {fr : Fr} {σ : H} {K : Fr → H → Bool} (h : ∀ KK, KK = K → ordK P callf ops plan [] fr σ KK = true) :
    D callf ops fr σ K = true := hD.go plan hp (h K rfl)
abbrev idA (p : Int × Int) : AV := .agg [.int .i64 p.1, .int .i64 p.2]
def cmpI (a b : Int) : Int := if a < b then -1 else if b < a then 1 else 0
def ordI (p q : Int × Int) : Int := if cmpI p.1 q.1 = 0 then cmpI p.2 q.2 else cmpI p.1 q.1
def ltI (p q : Int × Int) : Bool := decide (p.1 < q.1) || (decide (p.1 = q.1) && decide (p.2 < q.2))
theorem ordI_neg (p q : Int × Int) : decide (ordI p q < 0) = ltI p q := by
  unfold ordI cmpI ltI
  rw [Bool.eq_iff_iff]
  simp only [decide_eq_true_eq, Bool.or_eq_true, Bool.and_eq_true]
  by_cases h1 : p.1 < q.1
  · simp [h1]
  · by_cases h2 : q.1 < p.1
    · simp [h1, h2]; omega
    · have e : p.1 = q.1 := by omega
      rw [e]
      by_cases h3 : p.2 < q.2
      · simp [h3]
      · by_cases h4 : q.2 < p.2 <;> simp [h3, h4]
attribute [local irreducible] IntKind.wrap Int.fdiv Int.tdiv Int.tmod BitVec.ofInt appendK sliceK indexAddrK ldK storeK seenK makeSliceK
set_option maxRecDepth 100000
variable {D : Drawer}

theorem ldC {σ : H} {id : Nat} {p : Int × Int} {md : Md} {K : AV → Bool} (hr : σ[id]? = some (AO.cells [.int .i64 p.1, .int .i64 p.2] 2 md)) (hK : K (.int .i64 p.1) = true) : ldK Try.prog 3 σ ⟨id, 0, 0, 2⟩ K = true :=
  ldF Try.underlying3 rfl rfl hr rfl hK
theorem ldQ {σ : H} {id : Nat} {p : Int × Int} {md : Md} {K : AV → Bool} (hr : σ[id]? = some (AO.cells [.int .i64 p.1, .int .i64 p.2] 2 md)) (hK : K (.int .i64 p.2) = true) : ldK Try.prog 2 σ ⟨id, 0, 1, 2⟩ K = true :=
  ldF Try.underlying2 rfl rfl hr rfl hK
theorem ldId {σ : H} {id b : Nat} {xs : List AV} {p : Int × Int} {md : Md} {K : AV → Bool} (hr : σ[id]? = some (AO.cells xs 2 md)) (hx : (xs.drop b).take 2 = [.int .i64 p.1, .int .i64 p.2]) (hb : b + 2 ≤ xs.length) (hK : K (idA p) = true) : ldK Try.prog 28 σ ⟨id, b, 0, 2⟩ K = true :=
  ldS Try.underlying28 rfl hr (by decide) hb hx hK

theorem cmp32_spec {n : Nat} {a b : Int} (hn : 2 ≤ n) {σ : H} (K : AV → H → Bool) (hK : K (.int .i64 (cmpI a b)) σ = true) : acall Try.prog tab0 D n 32 [.int .i64 a, .int .i64 b] σ K = true := by
  obtain ⟨m, rfl, hm⟩ := up hn
  obtain ⟨k, rfl, hk⟩ := up hm
  unfold cmpI at hK
  conv => lhs; whnf
  refine bif_neg (by simp) ?_
  conv => lhs; whnf
  refine bif_neg (by simp) ?_
  conv => lhs; whnf
  refine bif_case (fun h => ?_) (fun h => ?_)
  · rw [if_pos (by simpa using h)] at hK
    exact hK
  · rw [if_neg (by simpa using h)] at hK
    conv => lhs; whnf
    refine bif_case (fun h => ?_) (fun h => ?_)
    · rw [if_pos (by simpa using h)] at hK
      exact hK
    · rw [if_neg (by simpa using h)] at hK
      exact hK
theorem cmp33_spec {n : Nat} {a b : Int} (hn : 2 ≤ n) {σ : H} (K : AV → H → Bool) (hK : K (.int .i64 (cmpI a b)) σ = true) : acall Try.prog tab0 D n 33 [.int .i64 a, .int .i64 b] σ K = true := by
  obtain ⟨m, rfl, hm⟩ := up hn
  obtain ⟨k, rfl, hk⟩ := up hm
  unfold cmpI at hK
  conv => lhs; whnf
  refine bif_neg (by simp) ?_
  conv => lhs; whnf
  refine bif_neg (by simp) ?_
  conv => lhs; whnf
  refine bif_case (fun h => ?_) (fun h => ?_)
  · rw [if_pos (by simpa using h)] at hK
    exact hK
  · rw [if_neg (by simpa using h)] at hK
    conv => lhs; whnf
    refine bif_case (fun h => ?_) (fun h => ?_)
    · rw [if_pos (by simpa using h)] at hK
      exact hK
    · rw [if_neg (by simpa using h)] at hK
      exact hK

theorem or31_spec {n : Nat} {a b : Int} (hn : 4 ≤ n) {σ : H} {id : Nat} (hr : σ[id]? = some (AO.cells [.int .i64 a, .int .i64 b] 1 .own)) (K : AV → H → Bool) (hK : K (.int .i64 (if a = 0 then b else a)) σ = true) :
    acall Try.prog tab0 D n 31 [.sl (.at id 0 1) 2] σ K = true := by
  obtain ⟨n, rfl, hn⟩ := up hn
  obtain ⟨l, hl⟩ : ∃ l : List Int, l = [a, b] := ⟨_, rfl⟩
  have hrw : Rw σ 1 (.at id 0 1) l.length (iks .i64 l) := by subst hl; exact .inr (.inr ⟨id, 0, _, .own, rfl, hr, Nat.le_refl _, rfl⟩)
  have hll : l.length = 2 := by subst hl; rfl
  have h2 : ((2 : Nat) : Int) = (l.length : Int) := by rw [hll]
  have hres : ∀ i, i ≤ l.length → (∀ j (h : j < l.length), j < i → l[j] = 0) → (∀ (h : i < l.length), l[i] ≠ 0 → K (.int .i64 l[i]) σ = true) ∧ (i = l.length → K (.int .i64 0) σ = true) := by
    intro i hi hz
    subst hl
    by_cases h0 : a = 0
    · rw [if_pos h0] at hK
      refine ⟨fun h hne => ?_, fun h => ?_⟩
      · by_cases h1 : i = 0
        · subst h1; exact absurd h0 hne
        · obtain rfl : i = 1 := by simp at h; omega
          exact hK
      · have : b = 0 := hz 1 (by simp) (by rw [h]; simp)
        rw [this] at hK; exact hK
    · rw [if_neg h0] at hK
      refine ⟨fun h hne => ?_, fun h => ?_⟩
      · by_cases h1 : i = 0
        · subst h1; exact hK
        · exact absurd (hz 0 (by simp) (by omega)) h0
      · exact absurd (hz 0 (by simp) (by rw [h]; simp)) h0
  rw [← hll]
  clear hl hK hr
  conv => lhs; whnf
  refine loop_rule (m := 456) (fun q fr τ => ∃ (z : Int) (i : Nat), z = (i : Int) ∧ i + q = l.length ∧ τ = σ ∧ (∀ j (h : j < l.length), j < i → l[j] = 0) ∧
      fr = [.bad, .bad, .bad, .int .i64 0, .bad, .bad, .sl (.at id 0 1) l.length, .int .i64 (l.length : Int), .int .i64 z, .bad, .bad, .bad, .bad, .bad, .bad, .bad, .bad, .bad]) ?_ _ l.length _ _ (by omega)
      ⟨_, 0, rfl, Nat.zero_add _, rfl, fun j _ h => absurd h (Nat.not_lt_zero _), rfl⟩
  rintro q fr τ C ⟨z, i, rfl, hq, rfl, hz, rfl⟩ next fin
  obtain ⟨r1, r2⟩ := hres i (by omega) hz
  conv => lhs; whnf
  refine bif_case (fun h => ?_) (fun h => ?_)
  · have hlt : i < l.length := by simpa using h
    conv => lhs; whnf
    refine it44.idx hrw rfl hlt fun p hp => ?_
    conv => lhs; whnf
    refine it44.ld hp ?_
    conv => lhs; whnf
    refine bif_case (fun h => ?_) (fun h => ?_)
    · conv => lhs; whnf
      refine fin _ _ _ nofun ?_
      conv => lhs; whnf
      exact r1 hlt (by simpa using h)
    · conv => lhs; whnf
      exact next (q - 1) _ _ (by omega) ⟨_, i + 1, inc_i64 (by omega), by omega, rfl, fun j hj hji => by
        by_cases e : j = i
        · subst e; simpa using h
        · exact hz j hj (by omega), rfl⟩
  · conv => lhs; whnf
    refine fin _ _ _ nofun ?_
    conv => lhs; whnf
    exact r2 (by have : ¬ i < l.length := by simpa using h
                 omega)

theorem order24_spec {n : Nat} {p q : Int × Int} (hn : 6 ≤ n) (hD : ByPlan Try.prog D) {σ : H} (K : AV → H → Bool) (hK : ∀ σ', σ <+: σ' → K (.int .i64 (ordI p q)) σ' = true) : acall Try.prog tab0 D n 24 [idA p, idA q] σ K = true := by
  obtain ⟨n, rfl, hn⟩ := up hn
  conv => lhs; whnf
  have g2 := get_old (get_new σ (AO.cells [AV.int .i64 p.1, .int .i64 p.2] 2 .own)) (AO.cells [AV.int .i64 q.1, .int .i64 q.2] 2 .own)
  have g3 := get_new (σ ++ [AO.cells [AV.int .i64 p.1, .int .i64 p.2] 2 .own]) (AO.cells [AV.int .i64 q.1, .int .i64 q.2] 2 .own)
  have p2 : σ <+: σ ++ [AO.cells [AV.int .i64 p.1, .int .i64 p.2] 2 .own] ++ [AO.cells [AV.int .i64 q.1, .int .i64 q.2] 2 .own] := prefix_add (prefix_add (List.prefix_refl _) _) _
  refine hD.go plan24x1 ord24x1 ?_
  conv => lhs; whnf
  refine ldC g2 ?_
  conv => lhs; whnf
  refine ldC g3 ?_
  conv => lhs; whnf
  refine ldQ g2 ?_
  conv => lhs; whnf
  refine ldQ g3 ?_
  conv => lhs; whnf
  refine cmp32_spec (by omega) _ ?_
  conv => lhs; whnf
  refine and_true (all_cons ?_ (all_cons ?_ ?_)) ?_
  · conv => lhs; whnf
    refine ldQ g3 ?_
    exact same_int _ _
  · conv => lhs; whnf
    refine ldQ g2 ?_
    exact same_int _ _
  · exact all_skip rfl (all_skip rfl rfl)
  conv => lhs; whnf
  refine cmp33_spec (by omega) _ ?_
  conv => lhs; whnf
  refine or31_spec (a := cmpI p.1 q.1) (b := cmpI p.2 q.2) (by omega) (get_new _ _) _ ?_
  conv => lhs; whnf
  exact hK _ (prefix_add p2 _)
end Go.Proofs.Ytjooccdeeejecaa
