/- Regions whose order is drawn: what an operation looks at, and what a lagging one will give. -/
import Derived.Test.YtpagagiojnhhfaaAmCode2
namespace Go.AM
open Go Go.RowKit

/-- On the temporaries that an operation looks at, the two frames agree. -/
def LookR (ops : Array Oper) (o : Oper) (ρ : Rho) (fr : Fr) (a : Act) : Prop := ∀ t ∈ looks ops.toList o, TR ρ (fr.getD t .undef) (a.tmps.getD t undef)

theorem LookR.of_fr {ops : Array Oper} {o : Oper} {ρ : Rho} {fr : Fr} {a : Act} (h : FrR ρ fr a) : LookR ops o ρ fr a := fun t _ => h.getD t

theorem LookR.evR {ops : Array Oper} {o : Oper} {ρ : Rho} {fr : Fr} {a : Act} (h : LookR ops o ρ fr a) (ho : opOk o.op (ev fr) = true) : EvR ρ (ev fr) a.eval o.op := fun x hx => by
  unfold opOk at ho
  rw [List.all_eq_true] at ho
  have hx'' := ho x (by simpa using hx)
  rw [Bool.and_eq_true] at hx''
  obtain ⟨hx', hn⟩ := hx''
  cases x with
  | tmp t => exact (h t (List.mem_append_left _ (List.mem_filterMap.2 ⟨.tmp t, by simpa using hx, rfl⟩))).get hn
  | const v => exact constOk_VR hx'
  | global g => cases hx'
  | func f => exact .fn f [] #[] rfl fun i v vc hv => by simp at hv

theorem wantedK_cases {ops : Array Oper} {o : Oper} {fr : Fr} {y n : Unit → Bool} (h : wantedK ops o fr y n = true) : (∀ yes no, wantedK ops o fr yes no = yes ()) ∨ (∀ yes no, wantedK ops o fr yes no = no ()) := by
  unfold wantedK at h ⊢
  revert h
  cases o.guard with
  | none => exact fun _ => .inl fun _ _ => rfl
  | some p =>
    obtain ⟨j, want⟩ := p
    simp only
    cases (ops[j]?).bind (·.dst) with
    | none => exact fun _ => .inr fun _ _ => rfl
    | some d =>
      simp only
      intro h
      split at h
      · rename_i b _
        cases (b == want) with
        | true => exact .inl fun _ _ => rfl
        | false => exact .inr fun _ _ => rfl
      · cases h
      · exact .inr fun _ _ => rfl

theorem wanted_yes {ops : Array Oper} {o : Oper} {fr : Fr} (hw : ∀ yes no, wantedK ops o fr yes no = yes ()) {ρ : Rho} {a : Act} (h : LookR ops o ρ fr a) : Region.wanted o (yielded ops a.tmps) = true := by
  rcases wanted_of ops o h (hw (fun _ => true) (fun _ => false)) with ⟨h, _⟩ | ⟨_, h⟩
  · exact h
  · cases h
theorem wanted_no {ops : Array Oper} {o : Oper} {fr : Fr} (hw : ∀ yes no, wantedK ops o fr yes no = no ()) {ρ : Rho} {a : Act} (h : LookR ops o ρ fr a) : Region.wanted o (yielded ops a.tmps) = false := by
  rcases wanted_of ops o h (hw (fun _ => false) (fun _ => true)) with ⟨_, h⟩ | ⟨h, _⟩
  · cases h
  · exact h

/-- The operation, run now, gives `v`. -/
def Yld (P : Program) (ops : Array Oper) (o : Oper) (v : AV) (ρ : Rho) (a : Act) (w : World) : Prop :=
  ∃ vc, VR ρ v vc ∧ ((Region.wanted o (yielded ops a.tmps) = true ∧ (execOp a.eval o).run P w = .ok (.value vc) w) ∨ (Region.wanted o (yielded ops a.tmps) = false ∧ vc = undef))

/-- Whatever the model's side is, at this heap and frame the operation gives `v`. -/
def Evid (P : Program) (ops : Array Oper) (B : Nat) (w0 : World) (o : Oper) (v : AV) (σ : H) (fr : Fr) : Prop :=
  ∀ ρ a w, LookR ops o ρ fr a → Sim B w0 ρ σ w → Yld P ops o v ρ a w

theorem Evid.congr {P : Program} {ops : Array Oper} {B : Nat} {w0 : World} {o : Oper} {v : AV} {σ : H} {fr fr' : Fr} (h : Evid P ops B w0 o v σ fr)
    (he : ∀ t ∈ looks ops.toList o, fr'.getD t .undef = fr.getD t .undef) : Evid P ops B w0 o v σ fr' := fun ρ a w hl hs =>
  h ρ a w (fun t ht => he t ht ▸ hl t ht) hs

theorem Evid.unwanted {P : Program} {ops : Array Oper} {B : Nat} {w0 : World} {o : Oper} {σ : H} {fr : Fr} (hw : ∀ yes no, wantedK ops o fr yes no = no ()) : Evid P ops B w0 o .undef σ fr :=
  fun _ _ _ hl _ => ⟨undef, .undef, .inr ⟨wanted_no hw hl, rfl⟩⟩

theorem det_eq {α : Type} {v u : α} (K : (α → Bool) → Bool) (h1 : ∀ K', K K' = K' v) (h2 : ∀ K', K K' = K' u) : v = u := by
  classical
  have := (h1 fun x => decide (x = v)).symm.trans (h2 fun x => decide (x = v))
  simp at this
  exact this.symm

theorem Evid.pure {P : Program} {ops : Array Oper} {B : Nat} {w0 : World} {o : Oper} {v : AV} {σ : H} {fr : Fr} (hw : ∀ yes no, wantedK ops o fr yes no = yes ()) (hok : opOk o.op (ev fr) = true) (hk : kindOf P o.op = .pure)
    (hv : ∀ K', pureK P o.op (ev fr) K' = K' v) : Evid P ops B w0 o v σ fr := fun ρ a w hl _ => by
  obtain ⟨u, vc, h1, h2, h3, h4⟩ := pure_sound (P := P) o (hl.evR hok) hk (fun _ => true) (hv _)
  obtain rfl := det_eq _ hv h3
  exact ⟨vc, h2, .inl ⟨wanted_yes hw hl, h4 w⟩⟩

theorem Evid.read {P : Program} {ops : Array Oper} {B : Nat} {w0 : World} {o : Oper} {v : AV} {σ : H} {fr : Fr} (hw : ∀ yes no, wantedK ops o fr yes no = yes ()) (hok : opOk o.op (ev fr) = true) (hk : kindOf P o.op = .read)
    (K : AV → Bool) (hK : ∀ u, K u = true → u = v) (hv : readK P o.op (ev fr) σ K = true) : Evid P ops B w0 o v σ fr := fun ρ a w hl hs => by
  obtain ⟨u, vc, h1, h2, h3, h4⟩ := read_sound (P := P) hs o (hl.evR hok) hk K hv
  obtain rfl := hK u h1
  exact ⟨vc, h2, .inl ⟨wanted_yes hw hl, h4⟩⟩

theorem sameLeaf_eq {a b : AV} (h : sameLeaf a b = true) : a = b := by
  unfold sameLeaf at h
  split at h <;> simp_all
theorem sameL_eq : ∀ {a b : List AV}, sameL a b = true → a = b
  | [], [], _ => rfl
  | a :: as, b :: bs, h => by
    simp only [sameL, Bool.and_eq_true] at h
    rw [sameLeaf_eq h.1, sameL_eq h.2]
  | [], _ :: _, h => by cases h
  | _ :: _, [], h => by cases h
theorem sameV_eq {a b : AV} (h : sameV a b = true) : a = b := by
  unfold sameV at h
  split at h
  · rw [sameL_eq h]
  · rw [sameL_eq h]
  · exact sameLeaf_eq h

/-! Who waits for whom. -/
def Pre (bef : List Nat) (i j : Nat) : Prop := (bef.getD i 0).testBit j = true

theorem edgeMask_go (acc : List Nat) (l : List Edge) : ∀ (s : Nat) (j : Nat),
    (l.foldl (fun s e => bif Region.binds .any e then s ||| 2 ^ e.on ||| acc.getD e.on 0 else s) s).testBit j = true ↔
      (s.testBit j = true ∨ ∃ e ∈ l, Region.binds .any e = true ∧ (e.on = j ∨ (acc.getD e.on 0).testBit j = true)) := by
  induction l with
  | nil => intro s j; simp
  | cons e l ih =>
    intro s j
    rw [List.foldl_cons, ih]
    cases hb : Region.binds .any e with
    | true =>
      simp only [cond_true, Nat.testBit_or, Nat.testBit_two_pow, Bool.or_eq_true, decide_eq_true_eq, List.mem_cons, exists_eq_or_imp, hb, true_and, or_assoc]
    | false =>
      simp only [cond_false, List.mem_cons, exists_eq_or_imp, hb, Bool.false_eq_true, false_and, false_or]

end Go.AM
