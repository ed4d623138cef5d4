/- A region that draws its order, when a plan is known: the order in which AM goes, and what is read again behind which operation. -/
import Derived.Test.YtpagagiojnhhfaaAmLaw0
namespace Go.AM
open Go

/-- One step of a plan: the operation's place, and the readers that are read again behind it. -/
abbrev Plan := List (Nat × List Nat)

noncomputable def ordK (P : Program) (callf : CallF) (arr : Array Oper) (plan : Plan) : Hist → Fr → H → (Fr → H → Bool) → Bool :=
  List.rec (motive := fun _ => Hist → Fr → H → (Fr → H → Bool) → Bool) (fun _ fr σ K => K fr σ)
    (fun s _ ih hist fr σ K =>
      match arr[s.1]? with
      | some o => wantedK arr o fr
          (fun _ => bif opOk o.op (ev fr) then
            (match kindOf P o.op with
            | .pure => pureK P o.op (ev fr) fun v => splitB v fun v => putK fr o.dst v fun fr => bif s.2.isEmpty then ih hist fr σ K
                else (hist.all fun (r, again) => !s.2.contains r || again σ) && ih hist fr σ K
            | .read => readK P o.op (ev fr) σ fun v => splitB v fun v => putK fr o.dst v fun fr' =>
                ih ((s.1, fun τ => readK P o.op (ev fr) τ fun u => sameV u v) :: hist) fr' σ K
            | .eff => effK P callf o.op o.type (ev fr) σ fun v τ => splitB v fun v => putK fr o.dst v fun fr =>
                bif s.2.isEmpty then ih hist fr τ K else (hist.all fun (r, again) => !s.2.contains r || again τ) && ih hist fr τ K)
            else false)
          (fun _ => putK fr o.dst .undef fun fr => ih hist fr σ K)
      | none => false) plan
theorem ordK_cons (P : Program) (callf : CallF) (arr : Array Oper) (i : Nat) (chk : List Nat) (rest : Plan) (hist : Hist) (fr : Fr) (σ : H) (K : Fr → H → Bool) : ordK P callf arr ((i, chk) :: rest) hist fr σ K =
    match arr[i]? with
    | some o => wantedK arr o fr
        (fun _ => bif opOk o.op (ev fr) then
          (match kindOf P o.op with
          | .pure => pureK P o.op (ev fr) fun v => splitB v fun v => putK fr o.dst v fun fr => bif chk.isEmpty then ordK P callf arr rest hist fr σ K
              else (hist.all fun (r, again) => !chk.contains r || again σ) && ordK P callf arr rest hist fr σ K
          | .read => readK P o.op (ev fr) σ fun v => splitB v fun v => putK fr o.dst v fun fr' =>
              ordK P callf arr rest ((i, fun τ => readK P o.op (ev fr) τ fun u => sameV u v) :: hist) fr' σ K
          | .eff => effK P callf o.op o.type (ev fr) σ fun v τ => splitB v fun v => putK fr o.dst v fun fr =>
              bif chk.isEmpty then ordK P callf arr rest hist fr τ K else (hist.all fun (r, again) => !chk.contains r || again τ) && ordK P callf arr rest hist fr τ K)
          else false)
        (fun _ => putK fr o.dst .undef fun fr => ordK P callf arr rest hist fr σ K)
    | none => false := rfl

def planOk (P : Program) (ops : List Oper) (bef : List Nat) : Plan → Nat → List Nat → Bool
  | [], G, _ => (readyA ops bef G).isEmpty && G == 2 ^ ops.length - 1
  | (i, chk) :: rest, G, hs =>
    match (readyA ops bef G).find? (fun i => match ops[i]? with | some o => eager P o.op | none => false) with
    | some j => j == i && chk.isEmpty && planOk P ops bef rest (G ||| 2 ^ i) (match ops[i]? with | some o => (match kindOf P o.op with | .read => i :: hs | _ => hs) | none => hs)
    | none => readyA ops bef G == [i] && (match ops[i]? with | some o => kindOf P o.op == .eff || kindOf P o.op == .pure | none => false) &&
        (hs.all fun r => (bef.getD i 0).testBit r == !chk.contains r) && planOk P ops bef rest (G ||| 2 ^ i) hs

def ordOk (P : Program) (ops : Array Oper) (plan : Plan) : Bool :=
  let l := ops.toList
  let bef := befs l []
  edgesOk l 0 && apartOk P l bef && decide (plan.length ≤ l.length) && planOk P l bef plan 0 []

theorem hist_all {hist : Hist} {hs chk : List Nat} {m : Nat} (hsub : ∀ r a, (r, a) ∈ hist → r ∈ hs) (hall : (hs.all fun r => m.testBit r == !chk.contains r) = true) (τ : H) :
    (hist.all fun (r, again) => m.testBit r || again τ) = (hist.all fun (r, again) => !chk.contains r || again τ) := by
  induction hist with
  | nil => rfl
  | cons x xs ih =>
    obtain ⟨r, a⟩ := x
    have h1 := List.all_eq_true.1 hall r (hsub r a List.mem_cons_self)
    rw [beq_iff_eq] at h1
    rw [List.all_cons, List.all_cons, ih (fun r a h => hsub r a (List.mem_cons_of_mem _ h))]
    simp only [h1]

theorem drawK_ord {P : Program} {callf : CallF} {arr : Array Oper} {bef : List Nat} {K : Fr → H → Bool} : ∀ (plan : Plan) (n G : Nat) (hs : List Nat) (hist : Hist) (fr : Fr) (σ : H),
    plan.length < n → planOk P arr.toList bef plan G hs = true → (∀ r a, (r, a) ∈ hist → r ∈ hs) → drawK P callf arr arr.toList bef n G hist fr σ K = ordK P callf arr plan hist fr σ K
  | _, 0, _, _, _, _, _, hn, _, _ => absurd hn (Nat.not_lt_zero _)
  | [], n + 1, G, hs, hist, fr, σ, _, hp, _ => by
    simp only [planOk, Bool.and_eq_true, List.isEmpty_iff, beq_iff_eq] at hp
    rw [drawK]
    simp only [hp.1, List.find?_nil]
    rw [← hp.2]
    simp [ordK]
  | (i, chk) :: rest, n + 1, G, hs, hist, fr, σ, hn, hp, hsub => by
    have hn' : rest.length < n := by simpa using hn
    rw [planOk] at hp
    rw [drawK, ordK_cons]
    simp only [splitB_eq, putK_eq]
    try simp only
    split at hp
    · rename_i j hj
      simp only [Bool.and_eq_true, beq_iff_eq, List.isEmpty_iff] at hp
      obtain ⟨⟨rfl, rfl⟩, hp⟩ := hp
      split
      case h_2 hq => cases (hq.symm.trans hj : none = some j)
      case h_1 j' hj' =>
        obtain rfl : j = j' := Option.some.inj (hj.symm.trans hj' : some j = some j')
        simp only [Array.getElem?_toList]
        have heag := List.find?_some hj
        simp only [Array.getElem?_toList] at heag
        cases ho : arr[j]? with
        | none => rfl
        | some o =>
          simp only [Array.getElem?_toList] at hp
          rw [ho] at heag hp
          simp only at heag hp ⊢
          have sub : ∀ r a, (r, a) ∈ hist → r ∈ (match kindOf P o.op with | .read => j :: hs | _ => hs) := fun r a hr => by
            split
            · exact List.mem_cons_of_mem _ (hsub r a hr)
            · exact hsub r a hr
          congr 1
          · funext _
            congr 1
            cases hk : kindOf P o.op with
            | pure =>
              simp only
              congr 1
              funext v
              exact drawK_ord rest n _ _ hist _ _ hn' hp sub
            | read =>
              simp only
              congr 1
              funext v
              refine drawK_ord rest n _ _ _ _ _ hn' hp (fun r a hr => ?_)
              rw [hk] at sub ⊢
              rcases List.mem_cons.1 hr with e | hr
              · cases e; exact List.mem_cons_self
              · exact sub r a hr
            | eff =>
              exfalso
              unfold eager at heag
              rw [hk] at heag
              split at heag <;> cases heag
          · funext _
            exact drawK_ord rest n _ _ hist _ _ hn' hp sub
    · rename_i hnone
      simp only [Bool.and_eq_true, beq_iff_eq] at hp
      obtain ⟨⟨⟨hr, hk⟩, hall⟩, hp⟩ := hp
      split
      · rename_i j' hj'
        cases (hnone.symm.trans hj' : none = some j')
      rw [hr]
      simp only [List.all_cons, List.all_nil, Bool.and_true, Array.getElem?_toList]
      cases ho : arr[i]? with
      | none => rfl
      | some o =>
        simp only [Array.getElem?_toList] at hk
        rw [ho] at hk
        simp only [Bool.or_eq_true, beq_iff_eq] at hk ⊢
        have key : ∀ (τ : H) (X : Bool), ((hist.all fun (r, again) => (bef.getD i 0).testBit r || again τ) && X) = (bif chk.isEmpty then X else (hist.all fun (r, again) => !chk.contains r || again τ) && X) := fun τ X => by
          rw [hist_all hsub hall τ]
          cases hc : chk.isEmpty with
          | false => rfl
          | true =>
            obtain rfl := List.isEmpty_iff.1 hc
            have : (hist.all fun (r, again) => !([] : List Nat).contains r || again τ) = true := List.all_eq_true.2 fun x _ => by simp
            rw [this]
            rfl
        congr 1
        · funext _
          unfold opK
          simp only [splitB_eq]
          congr 1
          cases hkk : kindOf P o.op with
          | pure =>
            simp only
            congr 1
            funext v
            rw [key σ, drawK_ord rest n _ hs hist _ _ hn' hp hsub]
          | read =>
            rw [hkk] at hk
            simp at hk
          | eff =>
            simp only
            congr 1
            funext v τ
            rw [key τ, drawK_ord rest n _ hs hist _ _ hn' hp hsub]
        · funext _
          exact drawK_ord rest n _ hs hist _ _ hn' hp hsub

/-- A region's operations, by its number. -/
def opsIn (id : Nat) : Code → Option (Array Oper)
  | .region i ops _ => bif i == id then some ops else none
  | .seq a b => (opsIn id a).or (opsIn id b)
  | .cond _ a b => (opsIn id a).or (opsIn id b)
  | .block _ b => opsIn id b
  | .loop b => opsIn id b
  | _ => none
def opsOf (P : Program) (g id : Nat) : Array Oper := ((P.funcs[g]?).bind fun f => f.body.bind (opsIn id)).getD #[]

theorem drawRegion_ord {P : Program} {callf : CallF} {ops : Array Oper} (plan : Plan) (hp : ordOk P ops plan = true) {fr : Fr} {σ : H} {K : Fr → H → Bool} (h : ordK P callf ops plan [] fr σ K = true) :
    drawRegion P callf ops fr σ K = true := by
  unfold ordOk at hp
  simp only [Bool.and_eq_true, decide_eq_true_eq] at hp
  unfold drawRegion
  simp only [hp.1.1.1, hp.1.1.2, Bool.and_self, cond_true]
  rw [drawK_ord plan _ 0 [] [] fr σ (Nat.lt_succ_of_le hp.1.2) hp.2 (fun r a hr => by simp at hr)]
  exact h

/-- A drawer that goes by plans. -/
def ByPlan (P : Program) (D : Drawer) : Prop := ∀ (callf : CallF) (ops : Array Oper) (plan : Plan), ordOk P ops plan = true → ∀ (fr : Fr) (σ : H) (K : Fr → H → Bool), ordK P callf ops plan [] fr σ K = true → D callf ops fr σ K = true
theorem byPlan (P : Program) : ByPlan P (drawRegion P) := fun _ _ plan hp _ _ _ h => drawRegion_ord plan hp h
theorem ByPlan.go {P : Program} {D : Drawer} (hD : ByPlan P D) {callf : CallF} {ops : Array Oper} (plan : Plan) (hp : ordOk P ops plan = true) {fr : Fr} {σ : H} {K : Fr → H → Bool} (h : ordK P callf ops plan [] fr σ K = true) :
    D callf ops fr σ K = true := hD callf ops plan hp fr σ K h

end Go.AM
