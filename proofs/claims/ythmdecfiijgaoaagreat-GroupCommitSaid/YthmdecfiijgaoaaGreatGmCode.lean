/- Operations, and regions in the order of the text. Code, and calls. Regions whose order is drawn: what an operation looks at, and what a lagging one will give. Regions whose order is drawn: what holds while AM runs ahead. Regions whose order is drawn: every order comes out as AM says. A law without arguments. A region that draws its order, when a plan is known: the order in which AM goes, and what is read again behind which operation. A region that draws its order, when more than one order is open: a tree of plans. -/
import Derived.Test.YthmdecfiijgaoaaGreatGmEff
import Derived.Orders
import Derived.LoopN
import Derived.KernelRfl
namespace Go.AM
open Go Go.RowKit
variable [Grade]

/-- What a call must bear. -/
def CallsOK (P : Program) (callf : CallF) : Prop :=
  ∀ (B : Nat) (w0 : World) (ρ : Rho) (σ : H) (w : World) (g : Nat) (args : List AV) (argsc : Array Value) (K : AV → H → Bool), Sim B w0 ρ σ w → VRs ρ args argsc.toList → callf g args σ K = true →
    (callFunc g argsc).run P w = .ok (.enter g argsc) w ∧
    Calls P g argsc w fun e w' => ∃ v vc σ' ρ', e = .returned vc ∧ ρ.le ρ' ∧ VR ρ' v vc ∧ Sim B w0 ρ' σ' w' ∧ K v σ' = true

omit [Grade] in
theorem VR.to_bool {ρ : Rho} {x : AV} {b : Bool} (h : VR ρ x (.bool b)) : x = .bool b := by cases h; rfl

omit [Grade] in
theorem mem_looks_guard {ops : Array Oper} {o : Oper} {j : Nat} {want : Bool} {d : Nat} (hg : o.guard = some (j, want)) (hd : (ops[j]?).bind (·.dst) = some d) : d ∈ looks ops.toList o := by
  unfold looks
  rw [hg, List.mem_append]
  right
  simp only [Array.getElem?_toList, hd, Option.toList_some, List.mem_singleton]

omit [Grade] in
theorem wanted_of {ρ : Rho} {fr : Fr} {a : Act} (ops : Array Oper) (o : Oper) (h : ∀ t ∈ looks ops.toList o, TR ρ (fr.getD t .undef) (a.tmps.getD t undef)) {yes no : Unit → Bool} (hw : wantedK ops o fr yes no = true) :
    (Region.wanted o (yielded ops a.tmps) = true ∧ yes () = true) ∨ (Region.wanted o (yielded ops a.tmps) = false ∧ no () = true) := by
  unfold wantedK at hw
  unfold Region.wanted
  split at hw
  · rename_i hg
    rw [hg]; exact .inl ⟨rfl, hw⟩
  · rename_i j want hg
    rw [hg]
    simp only
    split at hw
    · rename_i d hd
      have hv := h d (mem_looks_guard hg hd)
      unfold yielded
      rw [hd]
      simp only [Option.bind_some]
      rw [Array.getD_eq_getD_getElem?] at hv
      split at hw
      · rename_i b hb
        rw [hb] at hv
        have hv := hv.get rfl
        cases hq : a.tmps[d]? with
        | none => rw [hq] at hv; cases hv
        | some u =>
          rw [hq, Option.getD_some] at hv
          obtain rfl := hv.of_bool
          simp only
          cases hbw : (b == want) with
          | true => rw [hbw] at hw; left; exact ⟨by simpa using hbw, hw⟩
          | false => rw [hbw] at hw; right; exact ⟨by simpa using hbw, hw⟩
      · cases hw
      · rename_i hnb hnbad
        right
        refine ⟨?_, hw⟩
        cases hq : a.tmps[d]? with
        | none => rfl
        | some u =>
          rw [hq, Option.getD_some] at hv
          have hv := hv.resolve_left hnbad
          cases u <;> first | rfl | (exact absurd hv.to_bool (hnb _))
    · rename_i hd
      unfold yielded
      rw [hd]
      exact .inr ⟨rfl, hw⟩

section
variable {P : Program} {callf : CallF} (hcall : CallsOK P callf) {B : Nat} {w0 : World} {ρ : Rho} {σ : H} {w : World}
include hcall

theorem op_sound (hsim : Sim B w0 ρ σ w) {fr : Fr} {a : Act} (o : Oper) (he : opOk o.op (ev fr) = true → EvR ρ (ev fr) a.eval o.op) {K : AV → H → Bool} (h : opK P callf o fr σ K = true) {N : Act → World → Prop} {Q : Exit → Act → World → Prop}
    (next : ∀ v vc σ' ρ' w', ρ.le ρ' → VR ρ' v vc → Sim B w0 ρ' σ' w' → K v σ' = true → N (a.put o.dst vc) w') : o.wp P a w N Q := by
  unfold opK at h
  simp only [splitB_eq] at h
  cases hok : opOk o.op (ev fr) with
  | false => rw [hok] at h; cases h
  | true =>
    rw [hok, cond_true] at h
    have he := he hok
    unfold Oper.wp
    split at h
    · rename_i hk
      obtain ⟨v, vc, h1, h2, _, h4⟩ := pure_sound (P := P) o he hk _ h
      rw [h4 w, Oper.upon_value]
      exact next v vc σ ρ w (.refl ρ) h2 hsim h1
    · rename_i hk
      obtain ⟨v, vc, h1, h2, _, h4⟩ := read_sound (P := P) hsim o he hk _ h
      rw [h4, Oper.upon_value]
      exact next v vc σ ρ w (.refl ρ) h2 hsim h1
    · rename_i hk
      rcases eff_sound (P := P) hsim o he hk K h with ⟨v, vc, σ', ρ', w', h1, h2, h3, h4, h5 | ⟨h5, rfl⟩⟩ | ⟨g, args, argsc, h1, h2, h3⟩
      · rw [h5, Oper.upon_value]; exact next v vc σ' ρ' w' h1 h2 h3 h4
      · rw [h5, Oper.upon_skip]; exact next v undef σ' ρ' w' h1 h2 h3 h4
      · obtain ⟨e1, e2⟩ := hcall B w0 ρ σ w g args argsc _ hsim h1 h3
        rw [h2, e1, Oper.upon_enter]
        refine e2.mono fun e w' hh => ?_
        obtain ⟨v, vc, σ', ρ', rfl, k1, k2, k3, k4⟩ := hh
        exact next v vc σ' ρ' w' k1 k2 k3 (castRes_of k4)

theorem seq_sound (ops : Array Oper) {K : Fr → H → Bool} {Q : Exit → Act → World → Prop} : ∀ (rest : List Oper) (k : Nat) (ρ : Rho) (σ : H) (w : World) (fr : Fr) (a : Act),
    (∀ i, rest[i]? = ops[k + i]?) → Sim B w0 ρ σ w → FrR ρ fr a → a.defers = [] → seqK P callf ops rest fr σ K = true →
    (∀ fr' σ' ρ' a' w', ρ.le ρ' → FrR ρ' fr' a' → Sim B w0 ρ' σ' w' → a'.defers = [] → K fr' σ' = true → Q .normal a' w') →
    wpOps P ops Q (List.range' k rest.length) a w
  | [], k, ρ, σ, w, fr, a, hr, hsim, hfr, hd, h, fin => fin fr σ ρ a w (.refl ρ) hfr hsim hd h
  | o :: rest, k, ρ, σ, w, fr, a, hr, hsim, hfr, hd, h, fin => by
    have ho : ops[k]? = some o := by have := hr 0; simpa using this.symm
    have hr' : ∀ i, rest[i]? = ops[k + 1 + i]? := fun i => by
      have := hr (i + 1); rw [List.getElem?_cons_succ] at this; rw [this]; congr 1; omega
    rw [List.length_cons, List.range'_succ]
    simp only [wpOps, ho]
    rw [seqK_cons] at h
    simp only [putK_eq] at h
    have hput : ∀ v, (a.put o.dst v).defers = [] := fun v => by cases hq : o.dst <;> simp [Act.put, hd]
    rcases wanted_of ops o (fun t _ => hfr.getD t) h with ⟨hw, h⟩ | ⟨hw, h⟩
    · rw [if_pos hw]
      refine .inl (op_sound hcall hsim o (ev_EvR hfr) h fun v vc σ' ρ' w' h1 h2 h3 h4 => ?_)
      exact seq_sound ops rest (k + 1) ρ' σ' w' _ _ hr' h3 ((hfr.mono h1).put o.dst h2) (hput _) h4 fun fr' σ'' ρ'' a' w'' g1 g2 g3 g4 g5 => fin fr' σ'' ρ'' a' w'' (h1.trans g1) g2 g3 g4 g5
    · rw [if_neg (by rw [hw]; simp)]
      exact seq_sound ops rest (k + 1) ρ σ w _ _ hr' hsim (hfr.put o.dst VR.undef) (hput _) h fin

end
end Go.AM
namespace Go.AM
open Go Go.RowKit
variable [Grade]

/-- AM's ways out, and the model's. -/
def ER : AE → Exit → Prop
  | .normal, .normal => True
  | .exit i, .exit j => i = j
  | .ret, .ret => True
  | _, _ => False

def Post (B : Nat) (w0 : World) (ρ : Rho) (K : AE → Fr → H → Bool) : Exit → Act → World → Prop :=
  fun e a w => ∃ e' fr σ ρ', ER e' e ∧ ρ.le ρ' ∧ FrR ρ' fr a ∧ Sim B w0 ρ' σ w ∧ a.defers = [] ∧ K e' fr σ = true

/-- A region whose order is drawn. -/
def DrawOK (P : Program) (callf : CallF) : Prop :=
  ∀ (ops : Array Oper) (B : Nat) (w0 : World) (ρ : Rho) (σ : H) (w : World) (fr : Fr) (a : Act) (K : Fr → H → Bool) (Q : Exit → Act → World → Prop), Sim B w0 ρ σ w → FrR ρ fr a → a.defers = [] →
    drawRegion P callf ops fr σ K = true →
    (∀ fr' σ' ρ' a' w', ρ.le ρ' → FrR ρ' fr' a' → Sim B w0 ρ' σ' w' → a'.defers = [] → K fr' σ' = true → Q .normal a' w') →
    wpAny P .any ops Q ops.size (Array.replicate ops.size false) a w

theorem Post.mono {B : Nat} {w0 : World} {ρ ρ' : Rho} (hle : ρ.le ρ') {K : AE → Fr → H → Bool} {e : Exit} {a : Act} {w : World} (h : Post B w0 ρ' K e a w) : Post B w0 ρ K e a w := by
  obtain ⟨e', fr, σ, ρ'', h1, h2, h3⟩ := h
  exact ⟨e', fr, σ, ρ'', h1, hle.trans h2, h3⟩

omit [Grade] in
theorem rounds_mono {P : Program} {c : Code} {Q Q' : Exit → Act → World → Prop} (h : ∀ e a w, Q e a w → Q' e a w) : ∀ (n : Nat) (a : Act) (w : World), Code.rounds P c Q n a w → Code.rounds P c Q' n a w
  | 0, _, _, hh => hh.elim
  | n + 1, a, w, hh => by
    rw [rounds_succ] at hh ⊢
    refine wp_mono hh fun e a w he => ?_
    cases e with
    | normal => exact rounds_mono h n a w he
    | _ => exact h _ _ _ he

omit [Grade] in
theorem forgetFrom_getD (m : Nat) : ∀ (fr : Fr) (i t : Nat), (forgetFrom m i fr).getD t .undef = .bad ∨ (forgetFrom m i fr).getD t .undef = fr.getD t .undef
  | [], _, _ => .inr rfl
  | v :: vs, i, 0 => by
    show (bif m.testBit i then v else AV.bad) = .bad ∨ (bif m.testBit i then v else AV.bad) = v
    cases m.testBit i
    · exact .inl rfl
    · exact .inr rfl
  | v :: vs, i, t + 1 => by
    have := forgetFrom_getD m vs (i + 1) t
    simpa [forgetFrom] using this
omit [Grade] in
theorem forgetFrom_length (m : Nat) : ∀ (fr : Fr) (i : Nat), (forgetFrom m i fr).length = fr.length
  | [], _ => rfl
  | v :: vs, i => by simp [forgetFrom, forgetFrom_length m vs (i + 1)]

omit [Grade] in
theorem FrR.forget {ρ : Rho} {fr : Fr} {a : Act} (h : FrR ρ fr a) (m : Nat) : FrR ρ (forget m fr) a := by
  unfold AM.forget
  cases hm : (m == 0) with
  | true => rw [cond_true]; exact h
  | false =>
    rw [cond_false]
    refine ⟨by rw [forgetFrom_length]; exact h.1, fun t => ?_⟩
    rcases forgetFrom_getD m fr 0 t with e | e
    · exact .inl e
    · rw [e]; exact h.2 t

section
variable {P : Program} {callf : CallF} (hcall : CallsOK P callf) (hdraw : DrawOK P callf) (hmix : P.follows .mixedOrders = true) {B : Nat} {w0 : World}
include hcall hdraw hmix

omit hcall hdraw hmix in
theorem loop_sound (m : Nat) (c : Code) (body : (AE → Fr → H → Bool) → Fr → H → Bool)
    (hb : ∀ (K : AE → Fr → H → Bool) (ρ : Rho) (σ : H) (w : World) (fr : Fr) (a : Act), Sim B w0 ρ σ w → FrR ρ fr a → a.defers = [] → body K fr σ = true → c.wp P (Post B w0 ρ K) a w) :
    ∀ (n : Nat) (K : AE → Fr → H → Bool) (ρ : Rho) (σ : H) (w : World) (fr : Fr) (a : Act), Sim B w0 ρ σ w → FrR ρ fr a → a.defers = [] → loopK m body n K fr σ = true →
      Code.rounds P c (Post B w0 ρ K) n a w := by
  intro n
  induction n with
  | zero => intro K ρ σ w fr a _ _ _ h; cases h
  | succ n ih =>
    intro K ρ σ w fr a hsim hfr hd h
    rw [loopK, forgetK_eq] at h
    rw [rounds_succ]
    refine wp_mono (hb _ ρ σ w _ a hsim (hfr.forget m) hd h) fun e a' w' hp => ?_
    obtain ⟨e', fr', σ', ρ', h1, h2, h3, h4, h5, h6⟩ := hp
    cases e' with
    | normal =>
      cases e <;> simp only [ER] at h1
      exact rounds_mono (fun e a w hp => Post.mono h2 hp) n _ _ (ih K ρ' σ' w' fr' a' h4 h3 h5 h6)
    | exit i => cases e <;> simp only [ER] at h1; exact ⟨.exit i, fr', σ', ρ', h1, h2, h3, h4, h5, h6⟩
    | ret => cases e <;> simp only [ER] at h1; exact ⟨.ret, fr', σ', ρ', trivial, h2, h3, h4, h5, h6⟩

theorem exec_sound (M : Nat → Nat) (L : Nat) (c : Code) : ∀ (K : AE → Fr → H → Bool) (ρ : Rho) (σ : H) (w : World) (fr : Fr) (a : Act), Sim B w0 ρ σ w → FrR ρ fr a → a.defers = [] →
    exec P callf (drawRegion P) M L c K fr σ = true → c.wp P (Post B w0 ρ K) a w := by
  induction c with
  | skip => intro K ρ σ w fr a hsim hfr hd h; exact wp_skip ⟨.normal, fr, σ, ρ, trivial, .refl ρ, hfr, hsim, hd, h⟩
  | label l => intro K ρ σ w fr a hsim hfr hd h; exact wp_label ⟨.normal, fr, σ, ρ, trivial, .refl ρ, hfr, hsim, hd, h⟩
  | exit id => intro K ρ σ w fr a hsim hfr hd h; exact wp_exit ⟨.exit id, fr, σ, ρ, rfl, .refl ρ, hfr, hsim, hd, h⟩
  | ret => intro K ρ σ w fr a hsim hfr hd h; exact wp_ret ⟨.ret, fr, σ, ρ, trivial, .refl ρ, hfr, hsim, hd, h⟩
  | region id ops draw =>
    intro K ρ σ w fr a hsim hfr hd h
    cases draw with
    | true =>
      refine wp_region_any hmix ?_
      exact hdraw ops B w0 ρ σ _ fr a (K .normal) _ (hsim.world rfl rfl rfl rfl (Nat.le_succ _)) hfr hd h fun fr' σ' ρ' a' w' h1 h2 h3 h4 h5 => ⟨.normal, fr', σ', ρ', trivial, h1, h2, h3, h4, h5⟩
    | false =>
      refine wp_region ?_
      have := seq_sound hcall ops (Q := Post B w0 ρ K) ops.toList 0 ρ σ w fr a (fun i => by simp) hsim hfr hd h fun fr' σ' ρ' a' w' h1 h2 h3 h4 h5 => ⟨.normal, fr', σ', ρ', trivial, h1, h2, h3, h4, h5⟩
      rw [Array.length_toList, ← List.range_eq_range'] at this
      exact this
  | seq x y ihx ihy =>
    intro K ρ σ w fr a hsim hfr hd h
    refine wp_seq (wp_mono (ihx _ ρ σ w fr a hsim hfr hd h) fun e a' w' hp => ?_)
    obtain ⟨e', fr', σ', ρ', h1, h2, h3, h4, h5, h6⟩ := hp
    cases e' with
    | normal =>
      cases e <;> simp only [ER] at h1
      exact wp_mono (ihy K ρ' σ' w' fr' a' h4 h3 h5 h6) fun e a w hp => Post.mono h2 hp
    | exit i => cases e <;> simp only [ER] at h1; exact ⟨.exit i, fr', σ', ρ', h1, h2, h3, h4, h5, h6⟩
    | ret => cases e <;> simp only [ER] at h1; exact ⟨.ret, fr', σ', ρ', trivial, h2, h3, h4, h5, h6⟩
  | cond c x y ihx ihy =>
    intro K ρ σ w fr a hsim hfr hd h
    rw [exec_cond] at h
    cases hok : operandOk c with
    | false => rw [hok] at h; cases h
    | true =>
      rw [hok, cond_true] at h
      split at h
      · rename_i t ht
        have hc := ev_VR hfr hok (by rw [ht]; rfl)
        rw [ht] at hc
        have hcc := hc.of_bool
        cases t with
        | true => rw [cond_true] at h; exact wp_cond_true hcc (ihx K ρ σ w fr a hsim hfr hd h)
        | false => rw [cond_false] at h; exact wp_cond_false hcc (ihy K ρ σ w fr a hsim hfr hd h)
      · cases h
  | block id body ih =>
    intro K ρ σ w fr a hsim hfr hd h
    refine wp_block (wp_mono (ih _ ρ σ w fr a hsim hfr hd h) fun e a' w' hp => ?_)
    obtain ⟨e', fr', σ', ρ', h1, h2, h3, h4, h5, h6⟩ := hp
    cases e' with
    | normal => cases e <;> simp only [ER] at h1; simp only [forgetK_eq] at h6; exact ⟨.normal, _, σ', ρ', trivial, h2, h3.forget _, h4, h5, h6⟩
    | exit i =>
      cases e <;> simp only [ER] at h1
      subst h1
      simp only [forgetK_eq] at h6
      show if i = id then _ else _
      cases hi : (i == id) with
      | true =>
        rw [hi, cond_true] at h6
        rw [if_pos (by simpa using hi)]
        exact ⟨.normal, _, σ', ρ', trivial, h2, h3.forget _, h4, h5, h6⟩
      | false =>
        rw [hi, cond_false] at h6
        rw [if_neg (by simpa using hi)]
        exact ⟨.exit i, fr', σ', ρ', rfl, h2, h3, h4, h5, h6⟩
    | ret => cases e <;> simp only [ER] at h1; exact ⟨.ret, fr', σ', ρ', trivial, h2, h3, h4, h5, h6⟩
  | loop body ih =>
    intro K ρ σ w fr a hsim hfr hd h
    exact wp_loop_rounds L (loop_sound _ body (exec P callf (drawRegion P) M L body) ih L K ρ σ w fr a hsim hfr hd h)
  | rangeFunc f ps as b => intro K ρ σ w fr a hsim hfr hd h; cases h
  | scope b => intro K ρ σ w fr a hsim hfr hd h; cases h
  | goto l => intro K ρ σ w fr a hsim hfr hd h; cases h
  | refuse s => intro K ρ σ w fr a hsim hfr hd h; cases h

end

/-- No function of the program is the one that counts goroutines. -/
def NoCount (P : Program) : Prop := ∀ (g : Nat) (fn : Func), P.funcs[g]? = some fn → fn.body.isSome = true → (fn.name == "runtime.NumGoroutine") = false

/-- One result of a call, read. -/
def oneResult (a : Act) : ResultVar → Sem Value
  | .tmp t => pure (a.tmps.getD t undef)
  | .cell x t => do loadVar t (← asAddr (a.tmps.getD x undef))

theorem result_sound {P : Program} {B : Nat} {w0 : World} {ρ : Rho} {σ : H} {w : World} (hsim : Sim B w0 ρ σ w) {fr : Fr} {a : Act} (hfr : FrR ρ fr a) : ∀ {rs : List ResultVar} {K : List AV → Bool},
    resultK P fr σ rs K = true → ∃ vs vcs, K vs = true ∧ VRs ρ vs vcs ∧ (rs.mapM (oneResult a)).run P w = .ok vcs w
  | [], K, h => ⟨[], [], h, .nil, rfl⟩
  | .tmp t :: rs, K, h => by
    rw [resultK] at h
    cases hn : notBad (fr.getD t .undef) with
    | false => rw [hn] at h; cases h
    | true =>
    rw [hn, cond_true] at h
    obtain ⟨vs, vcs, h1, h2, h3⟩ := result_sound hsim hfr h
    refine ⟨_, a.tmps.getD t undef :: vcs, h1, .cons ((hfr.getD t).get hn) h2, ?_⟩
    rw [List.mapM_cons]
    simp only [oneResult, Sem.run_bind, Sem.run_pure, Result.andThen_ok, h3]
  | .cell x t :: rs, K, h => by
    rw [resultK] at h
    have hx := hfr.getD x
    split at h
    · rename_i p hp
      have hx := hx.get (by rw [hp]; rfl)
      rw [hp] at hx
      obtain ⟨v, vc, h1, h2, _, h4⟩ := ld_ok (P := P) hsim hx t _ h
      obtain ⟨vs, vcs, g1, g2, g3⟩ := result_sound hsim hfr h1
      refine ⟨_, vc :: vcs, g1, .cons h2 g2, ?_⟩
      have ha : ∃ ad, a.tmps.getD x undef = .pointer (some ad) ∧ (loadVar t ad).run P w = .ok vc w := by
        generalize hq : a.tmps.getD x undef = q at hx h4
        cases hx with
        | ptr k1 k2 k3 k4 k5 => exact ⟨_, rfl, by simpa [Instr.loadAt, Instr.sureAddr] using h4⟩
      obtain ⟨ad, e1, e2⟩ := ha
      rw [List.mapM_cons]
      simp only [oneResult, e1, Sem.run_bind, asAddr, Sem.run_pure, Result.andThen_ok, e2, g3]
    · cases h

/-- A function's contract is borne out. -/
def SoundAt (P : Program) (g : Nat) (F : List AV → H → (AV → H → Bool) → Bool) : Prop :=
  ∀ (B : Nat) (w0 : World) (ρ : Rho) (σ : H) (w : World) (args : List AV) (argsc : Array Value) (K : AV → H → Bool), Sim B w0 ρ σ w → VRs ρ args argsc.toList → F args σ K = true →
    (callFunc g argsc).run P w = .ok (.enter g argsc) w ∧
    Calls P g argsc w fun e w' => ∃ v vc σ' ρ', e = .returned vc ∧ ρ.le ρ' ∧ VR ρ' v vc ∧ Sim B w0 ρ' σ' w' ∧ K v σ' = true
def TabOK (P : Program) (T : Tab) : Prop := ∀ (g : Nat) (F : List AV → H → (AV → H → Bool) → Bool), T.F g = some F → SoundAt P g F

theorem TabOK.none {P : Program} : TabOK P noTab := fun _ _ h => by cases h

theorem acall_sound {P : Program} {T : Tab} (hT : TabOK P T) (hmix : P.follows .mixedOrders = true) (hno : NoCount P) (hdraw : ∀ callf, CallsOK P callf → DrawOK P callf) : ∀ n, CallsOK P (acall P T (drawRegion P) n)
  | 0 => fun B w0 ρ σ w g args argsc K hsim hargs h => by
    rw [acall_zero] at h
    split at h
    · rename_i F hF
      exact hT g F hF B w0 ρ σ w args argsc K hsim hargs h
    · cases h
  | n + 1 => fun B w0 ρ σ w g args argsc K hsim hargs h => by
    have ih := acall_sound hT hmix hno hdraw n
    rw [acall_succ] at h
    split at h
    · rename_i F hF
      exact hT g F hF B w0 ρ σ w args argsc K hsim hargs h
    split at h
    · rename_i fn hfn
      split at h
      · rename_i c hc
        rw [forceL_eq] at h
        have hnm := hno g fn hfn (by rw [hc]; rfl)
        refine ⟨?_, ?_⟩
        · have hb : fn.body.isNone = false := by rw [hc]; rfl
          simp only [callFunc, Sem.run_bind, run_program, Result.andThen_ok, hfn]
          simp [hnm, hb]
        · have hl : args.length = argsc.size := by rw [← Array.length_toList]; exact hargs.1
          refine calls_of_wp hfn hc (wp_mono (exec_sound ih (hdraw _ ih) hmix (T.M g) n c _ ρ σ w _ { tmps := argsc ++ Array.replicate (fn.ntmps - argsc.size) undef, defers := [] } hsim ?_ rfl h) fun e a w' hp => ?_)
          · refine FrR.of_VRs ?_
            show VRs ρ _ (argsc ++ Array.replicate (fn.ntmps - argsc.size) undef).toList
            rw [Array.toList_append, Array.toList_replicate, hl]
            exact hargs.append (VRs.replicate _ VR.undef)
          · obtain ⟨e', fr', σ', ρ', h1, h2, h3, h4, h5, h6⟩ := hp
            have fin : (resultK P fr' σ' fn.results.toList fun vs => K (retV vs) σ') = true → bodyPost P fn (fun e w' => ∃ v vc σ' ρ', e = .returned vc ∧ ρ.le ρ' ∧ VR ρ' v vc ∧ Sim B w0 ρ' σ' w' ∧ K v σ' = true) .ret a w' := by
              intro hr
              obtain ⟨vs, vcs, g1, g2, g3⟩ := result_sound (P := P) h4 h3 hr
              have hrun : (results fn a.tmps).run P w' = .ok (if h : vcs.toArray.size = 1 then vcs.toArray[0] else .tuple vcs.toArray) w' := by
                unfold results
                rw [Sem.run_bind, Array.mapM_eq_mapM_toList, Sem.run_map]
                have hfun : (fun x : ResultVar => (match x with | .tmp t => pure (a.tmps.getD t undef) | .cell x t => do loadVar t (← asAddr (a.tmps.getD x undef)) : Sem Value)) = oneResult a := by
                  funext x
                  cases x <;> rfl
                refine (congrArg (fun r : Result (List Value) => (r.andThen fun a w' => Result.ok a.toArray w').andThen _) ((congrArg (fun f => (List.mapM f fn.results.toList).run P w') hfun).trans g3)).trans ?_
                rfl
              refine ⟨h5, _, hrun, _, _, σ', ρ', rfl, h2, ?_, h4, g1⟩
              match vs, vcs, g2 with
              | [], vcs, g2 => obtain rfl := g2.inv_nil; exact VR.mk_tup .nil
              | [v], vcs, g2 =>
                obtain ⟨vc, r, rfl, k1, k2⟩ := g2.inv_cons
                obtain rfl := k2.inv_nil
                exact k1
              | v :: u :: vs, vcs, g2 =>
                have h3 : ¬ vcs.toArray.size = 1 := by have := g2.1; simp at this ⊢; omega
                rw [dif_neg h3]
                exact VR.mk_tup g2
            cases e' with
            | normal => cases e <;> simp only [ER] at h1; exact fin h6
            | exit i => cases h6
            | ret => cases e <;> simp only [ER] at h1; exact fin h6
      · cases h
    · cases h

end Go.AM
namespace Go.AM
open Go Go.RowKit
variable [Grade]

/-- On the temporaries that an operation looks at, the two frames agree. -/
def LookR (ops : Array Oper) (o : Oper) (ρ : Rho) (fr : Fr) (a : Act) : Prop := ∀ t ∈ looks ops.toList o, TR ρ (fr.getD t .undef) (a.tmps.getD t undef)

omit [Grade] in
theorem LookR.of_fr {ops : Array Oper} {o : Oper} {ρ : Rho} {fr : Fr} {a : Act} (h : FrR ρ fr a) : LookR ops o ρ fr a := fun t _ => h.getD t

omit [Grade] in
theorem LookR.evR {ops : Array Oper} {o : Oper} {ρ : Rho} {fr : Fr} {a : Act} (h : LookR ops o ρ fr a) (ho : opOk o.op (ev fr) = true) : EvR ρ (ev fr) a.eval o.op := fun x hx => by
  unfold opOk at ho
  rw [List.all_eq_true] at ho
  have hx'' := ho x (by simpa using hx)
  rw [Bool.and_eq_true] at hx''
  obtain ⟨hx', hn⟩ := hx''
  cases x with
  | tmp t => exact (h t (List.mem_append_left _ (List.mem_filterMap.2 ⟨.tmp t, by simpa using hx, rfl⟩))).get hn
  | const v => exact constOk_VR hx'
  | global g => cases hx'
  | func f => exact .fn f [] #[] rfl fun i v vc hv => by simp at hv

omit [Grade] in
theorem wantedK_cases {ops : Array Oper} {o : Oper} {fr : Fr} {y n : Unit → Bool} (h : wantedK ops o fr y n = true) : (∀ yes no, wantedK ops o fr yes no = yes ()) ∨ (∀ yes no, wantedK ops o fr yes no = no ()) := by
  unfold wantedK at h ⊢
  revert h
  cases o.guard with
  | none => exact fun _ => .inl fun _ _ => rfl
  | some p =>
    obtain ⟨j, want⟩ := p
    simp only
    cases (ops[j]?).bind (·.dst) with
    | none => exact fun _ => .inr fun _ _ => rfl
    | some d =>
      simp only
      intro h
      split at h
      · rename_i b _
        cases (b == want) with
        | true => exact .inl fun _ _ => rfl
        | false => exact .inr fun _ _ => rfl
      · cases h
      · exact .inr fun _ _ => rfl

omit [Grade] in
theorem wanted_yes {ops : Array Oper} {o : Oper} {fr : Fr} (hw : ∀ yes no, wantedK ops o fr yes no = yes ()) {ρ : Rho} {a : Act} (h : LookR ops o ρ fr a) : Region.wanted o (yielded ops a.tmps) = true := by
  rcases wanted_of ops o h (hw (fun _ => true) (fun _ => false)) with ⟨h, _⟩ | ⟨_, h⟩
  · exact h
  · cases h
omit [Grade] in
theorem wanted_no {ops : Array Oper} {o : Oper} {fr : Fr} (hw : ∀ yes no, wantedK ops o fr yes no = no ()) {ρ : Rho} {a : Act} (h : LookR ops o ρ fr a) : Region.wanted o (yielded ops a.tmps) = false := by
  rcases wanted_of ops o h (hw (fun _ => false) (fun _ => true)) with ⟨_, h⟩ | ⟨h, _⟩
  · cases h
  · exact h

/-- The operation, run now, gives `v`. -/
def Yld (P : Program) (ops : Array Oper) (o : Oper) (v : AV) (ρ : Rho) (a : Act) (w : World) : Prop :=
  ∃ vc, VR ρ v vc ∧ ((Region.wanted o (yielded ops a.tmps) = true ∧ (execOp a.eval o).run P w = .ok (.value vc) w) ∨ (Region.wanted o (yielded ops a.tmps) = false ∧ vc = undef))

/-- Whatever the model's side is, at this heap and frame the operation gives `v`. -/
def Evid (P : Program) (ops : Array Oper) (B : Nat) (w0 : World) (o : Oper) (v : AV) (σ : H) (fr : Fr) : Prop :=
  ∀ ρ a w, LookR ops o ρ fr a → Sim B w0 ρ σ w → Yld P ops o v ρ a w

theorem Evid.congr {P : Program} {ops : Array Oper} {B : Nat} {w0 : World} {o : Oper} {v : AV} {σ : H} {fr fr' : Fr} (h : Evid P ops B w0 o v σ fr)
    (he : ∀ t ∈ looks ops.toList o, fr'.getD t .undef = fr.getD t .undef) : Evid P ops B w0 o v σ fr' := fun ρ a w hl hs =>
  h ρ a w (fun t ht => he t ht ▸ hl t ht) hs

theorem Evid.unwanted {P : Program} {ops : Array Oper} {B : Nat} {w0 : World} {o : Oper} {σ : H} {fr : Fr} (hw : ∀ yes no, wantedK ops o fr yes no = no ()) : Evid P ops B w0 o .undef σ fr :=
  fun _ _ _ hl _ => ⟨undef, .undef, .inr ⟨wanted_no hw hl, rfl⟩⟩

omit [Grade] in
theorem det_eq {α : Type} {v u : α} (K : (α → Bool) → Bool) (h1 : ∀ K', K K' = K' v) (h2 : ∀ K', K K' = K' u) : v = u := by
  classical
  have := (h1 fun x => decide (x = v)).symm.trans (h2 fun x => decide (x = v))
  simp at this
  exact this.symm

theorem Evid.pure {P : Program} {ops : Array Oper} {B : Nat} {w0 : World} {o : Oper} {v : AV} {σ : H} {fr : Fr} (hw : ∀ yes no, wantedK ops o fr yes no = yes ()) (hok : opOk o.op (ev fr) = true) (hk : kindOf P o.op = .pure)
    (hv : ∀ K', pureK P o.op (ev fr) K' = K' v) : Evid P ops B w0 o v σ fr := fun ρ a w hl _ => by
  obtain ⟨u, vc, h1, h2, h3, h4⟩ := pure_sound (P := P) o (hl.evR hok) hk (fun _ => true) (hv _)
  obtain rfl := det_eq _ hv h3
  exact ⟨vc, h2, .inl ⟨wanted_yes hw hl, h4 w⟩⟩

theorem Evid.read {P : Program} {ops : Array Oper} {B : Nat} {w0 : World} {o : Oper} {v : AV} {σ : H} {fr : Fr} (hw : ∀ yes no, wantedK ops o fr yes no = yes ()) (hok : opOk o.op (ev fr) = true) (hk : kindOf P o.op = .read)
    (K : AV → Bool) (hK : ∀ u, K u = true → u = v) (hv : readK P o.op (ev fr) σ K = true) : Evid P ops B w0 o v σ fr := fun ρ a w hl hs => by
  obtain ⟨u, vc, h1, h2, h3, h4⟩ := read_sound (P := P) hs o (hl.evR hok) hk K hv
  obtain rfl := hK u h1
  exact ⟨vc, h2, .inl ⟨wanted_yes hw hl, h4⟩⟩

omit [Grade] in
theorem sameLeaf_eq {a b : AV} (h : sameLeaf a b = true) : a = b := by
  unfold sameLeaf at h
  split at h <;> simp_all
omit [Grade] in
theorem sameL_eq : ∀ {a b : List AV}, sameL a b = true → a = b
  | [], [], _ => rfl
  | a :: as, b :: bs, h => by
    simp only [sameL, Bool.and_eq_true] at h
    rw [sameLeaf_eq h.1, sameL_eq h.2]
  | [], _ :: _, h => by cases h
  | _ :: _, [], h => by cases h
omit [Grade] in
theorem sameV_eq {a b : AV} (h : sameV a b = true) : a = b := by
  unfold sameV at h
  split at h
  · rw [sameL_eq h]
  · rw [sameL_eq h]
  · exact sameLeaf_eq h

/-! Who waits for whom. -/
def Pre (bef : List Nat) (i j : Nat) : Prop := (bef.getD i 0).testBit j = true

omit [Grade] in
theorem edgeMask_go (acc : List Nat) (l : List Edge) : ∀ (s : Nat) (j : Nat),
    (l.foldl (fun s e => bif Region.binds .any e then s ||| 2 ^ e.on ||| acc.getD e.on 0 else s) s).testBit j = true ↔
      (s.testBit j = true ∨ ∃ e ∈ l, Region.binds .any e = true ∧ (e.on = j ∨ (acc.getD e.on 0).testBit j = true)) := by
  induction l with
  | nil => intro s j; simp
  | cons e l ih =>
    intro s j
    rw [List.foldl_cons, ih]
    cases hb : Region.binds .any e with
    | true =>
      simp only [cond_true, Nat.testBit_or, Nat.testBit_two_pow, Bool.or_eq_true, decide_eq_true_eq, List.mem_cons, exists_eq_or_imp, hb, true_and, or_assoc]
    | false =>
      simp only [cond_false, List.mem_cons, exists_eq_or_imp, hb, Bool.false_eq_true, false_and, false_or]

end Go.AM
namespace Go.AM
open Go Go.RowKit
variable [Grade]

omit [Grade] in
theorem aput_defers {a : Act} (h : a.defers = []) (dst : Option Nat) (v : Value) : (a.put dst v).defers = [] := by
  cases dst <;> simp [Act.put, h]
/-- What the region's text gives, once and for all. -/
structure Static (P : Program) (ops : Array Oper) (bef : List Nat) : Prop where
  edge : ∀ {i : Nat} {o : Oper} {e : Edge}, ops[i]? = some o → e ∈ o.after → Region.binds .any e = true → e.on < i ∧ Pre bef i e.on
  back : ∀ {i j : Nat} {o : Oper}, ops[i]? = some o → Pre bef i j → ∃ e ∈ o.after, Region.binds .any e = true ∧ (e.on = j ∨ Pre bef e.on j)
  uniq : ∀ {i j : Nat} {oi oj : Oper} {d : Nat}, ops[i]? = some oi → ops[j]? = some oj → oi.dst = some d → oj.dst = some d → i = j
  war : ∀ {i j : Nat} {oi oj : Oper} {d : Nat}, ops[i]? = some oi → ops[j]? = some oj → oi.dst = some d → d ∈ looks ops.toList oj → Pre bef j i ∨ (eager P oi.op = false ∧ (i = j ∨ Pre bef i j))

def Lag (G : Nat) (listed : Array Bool) (i : Nat) : Prop := G.testBit i = true ∧ listed.getD i false = false

structure Inv (P : Program) (ops : Array Oper) (bef : List Nat) (B : Nat) (w0 : World) (G : Nat) (hist : Hist) (σ : H) (fr : Fr) (listed : Array Bool) (a : Act) (w : World) (ρ : Rho) : Prop where
  sim : Sim B w0 ρ σ w
  defers : a.defers = []
  hyp : ∃ aH, FrR ρ fr aH
  len : fr.length = a.tmps.size
  clean : ∀ t, (∀ i o, Lag G listed i → ops[i]? = some o → o.dst ≠ some t) → TR ρ (fr.getD t .undef) (a.tmps.getD t undef)
  sub : ∀ i, listed.getD i false = true → G.testBit i = true
  gcl : ∀ i j, G.testBit i = true → Pre bef i j → G.testBit j = true
  lcl : ∀ i j, listed.getD i false = true → Pre bef i j → listed.getD j false = true
  gn : ∀ i, G.testBit i = true → i < ops.size
  sz : listed.size = ops.size
  lag : ∀ i o, Lag G listed i → ops[i]? = some o → eager P o.op = true ∧ ∃ v, (∀ d, o.dst = some d → d < fr.length → fr.getD d .undef = v) ∧ Evid P ops B w0 o v σ fr ∧
    ((∀ τ, Evid P ops B w0 o v τ fr) ∨ ∃ again, (i, again) ∈ hist ∧ ∀ τ, again τ = true → Evid P ops B w0 o v τ fr)

section
variable {P : Program} {ops : Array Oper} {bef : List Nat} (st : Static P ops bef) {B : Nat} {w0 : World} {G : Nat} {hist : Hist} {σ : H} {fr : Fr} {listed : Array Bool} {a : Act} {w : World} {ρ : Rho}

omit [Grade] in
theorem mem_readyA {i : Nat} (h : i ∈ readyA ops.toList bef G) : i < ops.size ∧ G.testBit i = false ∧ ∀ j, Pre bef i j → G.testBit j = true := by
  unfold readyA at h
  rw [List.mem_filter, List.mem_range, Array.length_toList] at h
  obtain ⟨h1, h2⟩ := h
  simp only [Bool.and_eq_true, Bool.not_eq_true', beq_iff_eq] at h2
  refine ⟨h1, h2.1, fun j hj => ?_⟩
  have := congrArg (fun n => n.testBit j) h2.2
  simp only [Nat.testBit_and] at this
  unfold Pre at hj
  rw [hj] at this
  simpa using this

omit [Grade] in
theorem readyA_mem {i : Nat} (h1 : i < ops.size) (h2 : G.testBit i = false) (h3 : ∀ j, Pre bef i j → G.testBit j = true) : i ∈ readyA ops.toList bef G := by
  unfold readyA
  rw [List.mem_filter, List.mem_range, Array.length_toList]
  refine ⟨h1, ?_⟩
  simp only [h2, Bool.not_false, Bool.true_and, beq_iff_eq]
  refine Nat.eq_of_testBit_eq fun j => ?_
  rw [Nat.testBit_and]
  cases hj : (bef.getD i 0).testBit j with
  | false => rfl
  | true => rw [h3 j hj]; rfl

omit [Grade] in
theorem testBit_add (G i j : Nat) : (G ||| 2 ^ i).testBit j = true ↔ (G.testBit j = true ∨ i = j) := by
  rw [Nat.testBit_or, Nat.testBit_two_pow]; simp

include st
theorem Inv.ahead (I : Inv P ops bef B w0 G hist σ fr listed a w ρ) {i : Nat} {o : Oper} (hrd : i ∈ readyA ops.toList bef G) (ho : ops[i]? = some o) (heag : eager P o.op = true) {v : AV} {hist' : Hist}
    (hsub : ∀ r ∈ hist, r ∈ hist') (hE : Evid P ops B w0 o v σ fr) (hH : (∀ τ, Evid P ops B w0 o v τ fr) ∨ ∃ again, (i, again) ∈ hist' ∧ ∀ τ, again τ = true → Evid P ops B w0 o v τ fr)
    (hyp : ∃ aH, FrR ρ (put fr o.dst v) aH) : Inv P ops bef B w0 (G ||| 2 ^ i) hist' σ (put fr o.dst v) listed a w ρ := by
  obtain ⟨h1, h2, h3⟩ := mem_readyA hrd
  have hnl : listed.getD i false = false := by
    cases hq : listed.getD i false with
    | false => rfl
    | true => rw [I.sub i hq] at h2; cases h2
  have hlag : ∀ j, Lag G listed j → Lag (G ||| 2 ^ i) listed j := fun j hj => ⟨(testBit_add G i j).2 (.inl hj.1), hj.2⟩
  have hoff : ∀ j oj, ops[j]? = some oj → (G.testBit j = true ∨ j = i) → ∀ t ∈ looks ops.toList oj, o.dst ≠ some t := fun j oj hj hg t ht hd => by
    rcases st.war ho hj hd ht with h | h
    · rcases hg with hg | rfl
      · rw [I.gcl _ _ hg h] at h2; cases h2
      · rw [h3 _ h] at h2; cases h2
    · rw [heag] at h; cases h.1
  refine ⟨I.sim, I.defers, hyp, by rw [put_length]; exact I.len, fun t ht => ?_, fun j hj => (testBit_add G i j).2 (.inl (I.sub j hj)), fun j k hj hk => ?_, I.lcl, fun j hj => ?_, I.sz, fun j oj hj hoj => ?_⟩
  · rw [put_getD_ne (ht i o ⟨(testBit_add G i i).2 (.inr rfl), hnl⟩ ho)]
    exact I.clean t fun j oj hj hoj => ht j oj (hlag j hj) hoj
  · rcases (testBit_add G i j).1 hj with hj | rfl
    · exact (testBit_add G i k).2 (.inl (I.gcl j k hj hk))
    · exact (testBit_add G i k).2 (.inl (h3 k hk))
  · rcases (testBit_add G i j).1 hj with hj | rfl
    · exact I.gn j hj
    · exact h1
  · by_cases hij : i = j
    · subst hij
      rw [ho] at hoj
      obtain rfl := Option.some.inj hoj
      have hc : ∀ t ∈ looks ops.toList o, (put fr o.dst v).getD t .undef = fr.getD t .undef := fun t ht => put_getD_ne (hoff i o ho (.inr rfl) t ht)
      refine ⟨heag, v, fun d hd hl => ?_, hE.congr hc, hH.imp (fun h τ => (h τ).congr hc) fun ⟨again, k1, k2⟩ => ⟨again, k1, fun τ hτ => (k2 τ hτ).congr hc⟩⟩
      rw [hd] at hl ⊢
      rw [put_length] at hl
      exact put_getD_self hl
    · have hg : G.testBit j = true := ((testBit_add G i j).1 hj.1).resolve_right hij
      obtain ⟨e1, u, e2, e3, e4⟩ := I.lag j oj ⟨hg, hj.2⟩ hoj
      have hc : ∀ t ∈ looks ops.toList oj, (put fr o.dst v).getD t .undef = fr.getD t .undef := fun t ht => put_getD_ne (hoff j oj hoj (.inl hg) t ht)
      refine ⟨e1, u, fun d hd hl => ?_, e3.congr hc, e4.imp (fun h τ => (h τ).congr hc) fun ⟨again, k1, k2⟩ => ⟨again, hsub _ k1, fun τ hτ => (k2 τ hτ).congr hc⟩⟩
      rw [put_getD_ne fun he => hij (st.uniq ho hoj he hd)]
      exact e2 d hd (by rw [put_length] at hl; exact hl)

omit [Grade] in
omit st in
theorem getD_list {listed : Array Bool} {i j : Nat} : (listed.setIfInBounds i true).getD j false = true → (j = i ∨ listed.getD j false = true) := fun h => by
  by_cases hij : i = j
  · exact .inl hij.symm
  · rw [getD_set_ne false hij] at h; exact .inr h

omit [Grade] in
omit st in
theorem getD_false {listed : Array Bool} {i : Nat} (h : i < listed.size) : listed.getD i false = listed.getD i true := by
  simp [Array.getD_eq_getD_getElem?, h]

theorem pre_listed (I : Inv P ops bef B w0 G hist σ fr listed a w ρ) {i : Nat} {o : Oper} (ho : ops[i]? = some o) (hall : ∀ e ∈ o.after, Region.binds .any e = true → listed.getD e.on false = true) {j : Nat} (h : Pre bef i j) : listed.getD j false = true := by
  obtain ⟨e, h1, h2, h3⟩ := st.back ho h
  rcases h3 with rfl | h3
  · exact hall e h1 h2
  · exact I.lcl _ _ (hall e h1 h2) h3

theorem Inv.lookR (I : Inv P ops bef B w0 G hist σ fr listed a w ρ) {i : Nat} {o : Oper} (ho : ops[i]? = some o) (hall : ∀ e ∈ o.after, Region.binds .any e = true → listed.getD e.on false = true) : LookR ops o ρ fr a := fun t ht =>
  I.clean t fun j oj hj hoj hd => by
    rcases st.war hoj ho hd ht with h | h
    · have := pre_listed st I ho hall h
      rw [hj.2] at this; cases this
    · have := (I.lag j oj hj hoj).1
      rw [h.1] at this; cases this

theorem Inv.behind (I : Inv P ops bef B w0 G hist σ fr listed a w ρ) {i : Nat} {o : Oper} (ho : ops[i]? = some o) (hall : ∀ e ∈ o.after, Region.binds .any e = true → listed.getD e.on false = true)
    (hg : G.testBit i = true) {v : AV} (hd : ∀ d, o.dst = some d → d < fr.length → fr.getD d .undef = v) {vc : Value} (hv : VR ρ v vc) :
    Inv P ops bef B w0 G hist σ fr (listed.setIfInBounds i true) (a.put o.dst vc) w ρ := by
  have hlag : ∀ j, Lag G (listed.setIfInBounds i true) j → Lag G listed j := fun j hj => ⟨hj.1, by
    cases hq : listed.getD j false with
    | false => rfl
    | true => have := hj.2; rw [getD_set_true hq] at this; cases this⟩
  refine ⟨I.sim, aput_defers I.defers _ _, I.hyp, by rw [aput_size]; exact I.len, fun t ht => ?_, fun j hj => ?_, I.gcl, fun j k hj hk => ?_, I.gn, by rw [Array.size_setIfInBounds]; exact I.sz, fun j oj hj hoj => I.lag j oj (hlag j hj) hoj⟩
  · by_cases he : o.dst = some t
    · by_cases hl : t < fr.length
      · rw [hd t he hl, he, aput_getD_self (I.len ▸ hl)]
        exact .inr hv
      · rw [getD_out hl, agetD_out (by rw [aput_size, ← I.len]; exact hl)]
        exact .undef
    · rw [aput_getD_ne he]
      refine I.clean t fun j oj hj hoj => ?_
      by_cases hij : i = j
      · subst hij; rw [ho] at hoj; obtain rfl := Option.some.inj hoj; exact he
      · exact ht j oj ⟨hj.1, by rw [getD_set_ne false hij]; exact hj.2⟩ hoj
  · rcases getD_list hj with rfl | hj
    · exact hg
    · exact I.sub j hj
  · rcases getD_list hj with rfl | hj
    · exact getD_set_true (pre_listed st I ho hall hk)
    · exact getD_set_true (I.lcl j k hj hk)

theorem Inv.beside (I : Inv P ops bef B w0 G hist σ fr listed a w ρ) {i : Nat} {o : Oper} (ho : ops[i]? = some o) (hall : ∀ e ∈ o.after, Region.binds .any e = true → listed.getD e.on false = true)
    (hg : G.testBit i = false) {v : AV} {vc : Value} {σ' : H} {ρ' : Rho} {w' : World} (hle : ρ.le ρ') (hv : VR ρ' v vc) (hs : Sim B w0 ρ' σ' w')
    (hre : σ' = σ ∨ ∀ r ∈ hist, (bef.getD i 0).testBit r.1 = true ∨ r.2 σ' = true) :
    Inv P ops bef B w0 (G ||| 2 ^ i) hist σ' (put fr o.dst v) (listed.setIfInBounds i true) (a.put o.dst vc) w' ρ' := by
  have hlt : i < ops.size := (Array.getElem?_eq_some_iff.1 ho).1
  have hself : (listed.setIfInBounds i true).getD i false = true := by
    have : i < listed.size := by rw [I.sz]; exact hlt
    simp [Array.getD_eq_getD_getElem?, this]
  have hlag : ∀ j, Lag (G ||| 2 ^ i) (listed.setIfInBounds i true) j → i ≠ j ∧ Lag G listed j := fun j hj => by
    have hij : i ≠ j := fun e => by subst e; have := hj.2; rw [hself] at this; cases this
    exact ⟨hij, ((testBit_add G i j).1 hj.1).resolve_right hij, by have := hj.2; rwa [getD_set_ne false hij] at this⟩
  have hlag' : ∀ j, Lag G listed j → Lag (G ||| 2 ^ i) (listed.setIfInBounds i true) j := fun j hj => by
    have hij : i ≠ j := fun e => by subst e; rw [hj.1] at hg; cases hg
    exact ⟨(testBit_add G i j).2 (.inl hj.1), by rw [getD_set_ne false hij]; exact hj.2⟩
  refine ⟨hs, aput_defers I.defers _ _, ?_, by rw [put_length, aput_size]; exact I.len, fun t ht => ?_, fun j hj => ?_, fun j k hj hk => ?_, fun j k hj hk => ?_, fun j hj => ?_, by rw [Array.size_setIfInBounds]; exact I.sz, fun j oj hj hoj => ?_⟩
  · obtain ⟨aH, hH⟩ := I.hyp
    exact ⟨_, (hH.mono hle).put o.dst hv⟩
  · by_cases he : o.dst = some t
    · rw [he]
      by_cases hl : t < fr.length
      · rw [put_getD_self hl, aput_getD_self (I.len ▸ hl)]
        exact .inr hv
      · rw [getD_out (by rw [put_length]; exact hl), agetD_out (by rw [aput_size, ← I.len]; exact hl)]
        exact .undef
    · rw [put_getD_ne he, aput_getD_ne he]
      exact (I.clean t fun j oj hj hoj => ht j oj (hlag' j hj) hoj).mono hle
  · rcases getD_list hj with rfl | hj
    · exact (testBit_add G _ _).2 (.inr rfl)
    · exact (testBit_add G _ _).2 (.inl (I.sub j hj))
  · rcases (testBit_add G i j).1 hj with hj | rfl
    · exact (testBit_add G i k).2 (.inl (I.gcl j k hj hk))
    · exact (testBit_add G i k).2 (.inl (I.sub k (pre_listed st I ho hall hk)))
  · rcases getD_list hj with rfl | hj
    · exact getD_set_true (pre_listed st I ho hall hk)
    · exact getD_set_true (I.lcl j k hj hk)
  · rcases (testBit_add G i j).1 hj with hj | rfl
    · exact I.gn j hj
    · exact hlt
  · obtain ⟨hij, hj⟩ := hlag j hj
    obtain ⟨e1, u, e2, e3, e4⟩ := I.lag j oj hj hoj
    have hc : ∀ t ∈ looks ops.toList oj, (put fr o.dst v).getD t .undef = fr.getD t .undef := fun t ht => put_getD_ne fun hd => by
      rcases st.war ho hoj hd ht with h | ⟨_, h | h⟩
      · rw [I.gcl _ _ hj.1 h] at hg; cases hg
      · exact hij h
      · have := pre_listed st I ho hall h; rw [hj.2] at this; cases this
    refine ⟨e1, u, fun d hd hl => ?_, ?_, e4.imp (fun h τ => (h τ).congr hc) fun ⟨again, k1, k2⟩ => ⟨again, k1, fun τ hτ => (k2 τ hτ).congr hc⟩⟩
    · rw [put_getD_ne fun he => hij (st.uniq ho hoj he hd)]
      exact e2 d hd (by rw [put_length] at hl; exact hl)
    · rcases hre with rfl | hre
      · exact e3.congr hc
      · rcases e4 with h | ⟨again, k1, k2⟩
        · exact (h σ').congr hc
        · rcases hre _ k1 with h | h
          · have := pre_listed st I ho hall h; rw [hj.2] at this; cases this
          · exact (k2 _ h).congr hc

end
end Go.AM
namespace Go.AM
open Go Go.RowKit
variable [Grade]

omit [Grade] in
theorem befs_keep : ∀ (os : List Oper) (acc : List Nat) (j : Nat), j < acc.length → (befs os acc).getD j 0 = acc.getD j 0
  | [], acc, j, h => rfl
  | o :: os, acc, j, h => by
    rw [befs, befs_keep os _ j (by simp; omega)]
    simp [List.getD_eq_getElem?_getD, List.getElem?_append_left h]

omit [Grade] in
theorem befs_at : ∀ (os : List Oper) (acc : List Nat) (i : Nat) (o : Oper), os[i]? = some o → ∃ acc' : List Nat, acc'.length = acc.length + i ∧ (∀ j < acc'.length, (befs os acc).getD j 0 = acc'.getD j 0) ∧
    (befs os acc).getD (acc.length + i) 0 = edgeMask acc' o
  | [], acc, i, o, h => by simp at h
  | o' :: os, acc, 0, o, h => by
    simp at h
    subst h
    refine ⟨acc, rfl, fun j hj => befs_keep _ _ j hj, ?_⟩
    rw [befs, befs_keep _ _ _ (by simp)]
    simp [List.getD_eq_getElem?_getD]
  | o' :: os, acc, i + 1, o, h => by
    rw [List.getElem?_cons_succ] at h
    obtain ⟨acc', h1, h2, h3⟩ := befs_at os (acc ++ [edgeMask acc o']) i o h
    rw [List.length_append, List.length_singleton] at h1 h3
    refine ⟨acc', by omega, h2, ?_⟩
    rw [befs, ← h3]
    congr 1
    omega

omit [Grade] in
theorem edgesOk_at : ∀ (os : List Oper) (k i : Nat) (o : Oper) (e : Edge), edgesOk os k = true → os[i]? = some o → e ∈ o.after → Region.binds .any e = true → e.on < k + i
  | [], k, i, o, e, h, ho, he, hb => by simp at ho
  | o' :: os, k, 0, o, e, h, ho, he, hb => by
    simp at ho
    subst ho
    simp only [edgesOk, Bool.and_eq_true, List.all_eq_true] at h
    have := h.1 e (by simpa using he)
    rw [hb] at this
    simpa using this
  | o' :: os, k, i + 1, o, e, h, ho, he, hb => by
    rw [List.getElem?_cons_succ] at ho
    simp only [edgesOk, Bool.and_eq_true] at h
    have := edgesOk_at os (k + 1) i o e h.2 ho he hb
    omega

omit [Grade] in
theorem static_of {P : Program} {ops : Array Oper} (he : edgesOk ops.toList 0 = true) (ha : apartOk P ops.toList (befs ops.toList []) = true) : Static P ops (befs ops.toList []) := by
  have key : ∀ {i : Nat} {o : Oper}, ops[i]? = some o → ∀ j, Pre (befs ops.toList []) i j ↔ ∃ e ∈ o.after, Region.binds .any e = true ∧ (e.on = j ∨ Pre (befs ops.toList []) e.on j) := by
    intro i o ho j
    have ho' : ops.toList[i]? = some o := by simpa using ho
    obtain ⟨acc', h1, h2, h3⟩ := befs_at ops.toList [] i o ho'
    simp only [List.length_nil, Nat.zero_add] at h1 h3
    unfold Pre
    rw [h3, edgeMask, edgeMask_go]
    simp only [Nat.zero_testBit, Bool.false_eq_true, false_or, Array.mem_toList_iff]
    refine exists_congr fun e => and_congr_right fun hm => and_congr_right fun hb => ?_
    have hlt := edgesOk_at ops.toList 0 i o e he ho' hm hb
    rw [h2 e.on (by omega)]
  have apart : ∀ {i j : Nat} {oi oj : Oper} {d : Nat}, ops[i]? = some oi → ops[j]? = some oj → oi.dst = some d →
      (i = j ∨ oj.dst ≠ some d) ∧ (d ∉ looks ops.toList oj ∨ Pre (befs ops.toList []) j i ∨ (eager P oi.op = false ∧ (i = j ∨ Pre (befs ops.toList []) i j))) := by
    intro i j oi oj d hi hj hd
    have li : i < ops.toList.length := by rw [Array.length_toList]; exact (Array.getElem?_eq_some_iff.1 hi).1
    have lj : j < ops.toList.length := by rw [Array.length_toList]; exact (Array.getElem?_eq_some_iff.1 hj).1
    unfold apartOk at ha
    have h1 := List.all_eq_true.1 ha i (List.mem_range.2 li)
    have hi' : ops.toList[i]? = some oi := by simpa using hi
    have hj' : ops.toList[j]? = some oj := by simpa using hj
    simp only [hi', hd] at h1
    have h2 := List.all_eq_true.1 h1 j (List.mem_range.2 lj)
    simp only [hj', Bool.and_eq_true, Bool.or_eq_true, beq_iff_eq, bne_iff_ne, ne_eq, Bool.not_eq_true', List.contains_eq_mem, decide_eq_false_iff_not] at h2
    refine ⟨h2.1, ?_⟩
    rcases h2.2 with (h | h) | h
    · exact .inl h
    · exact .inr (.inl h)
    · exact .inr (.inr h)
  refine ⟨fun {i o e} ho hm hb => ⟨?_, (key ho e.on).2 ⟨e, hm, hb, .inl rfl⟩⟩, fun {i j o} ho hp => (key ho j).1 hp, fun hi hj hd hd' => (apart hi hj hd).1.resolve_right fun h => h hd', fun hi hj hd hl => (apart hi hj hd).2.resolve_left fun h => h hl⟩
  have := edgesOk_at ops.toList 0 i o e he (by simpa using ho) hm hb
  omega

omit [Grade] in
theorem count_set {listed : Array Bool} {i m : Nat} (h : listed.getD i true = false) (hm : listed.toList.count false ≤ m + 1) : (listed.setIfInBounds i true).toList.count false ≤ m := by
  have hl : i < listed.size := by
    refine Nat.lt_of_not_le fun hq => ?_
    rw [Array.getD_eq_getD_getElem?, Array.getElem?_eq_none hq] at h
    cases h
  have hf : listed.toList[i]'(by simpa using hl) = false := by
    rw [Array.getD_eq_getD_getElem?, Array.getElem?_eq_getElem hl] at h
    simpa using h
  have hmem : false ∈ listed.toList := hf ▸ List.getElem_mem _
  have hpos := List.count_pos_iff.2 hmem
  rw [Array.toList_setIfInBounds, List.count_set (by simpa using hl), hf]
  show _ - 1 + 0 ≤ m
  omega

section
variable {P : Program} {callf : CallF} (hcall : CallsOK P callf) {ops : Array Oper} {bef : List Nat} (st : Static P ops bef) {B : Nat} {w0 : World} {ρ0 : Rho} {K : Fr → H → Bool} {Q : Exit → Act → World → Prop}
  (fin : ∀ fr' σ' ρ' a' w', ρ0.le ρ' → FrR ρ' fr' a' → Sim B w0 ρ' σ' w' → a'.defers = [] → K fr' σ' = true → Q .normal a' w')
include st

theorem all_listed {G : Nat} {hist : Hist} {σ : H} {fr : Fr} {listed : Array Bool} {a : Act} {w : World} {ρ : Rho} (I : Inv P ops bef B w0 G hist σ fr listed a w ρ) (h : Region.ready .any ops listed = []) :
    ∀ i, i < ops.size → listed.getD i false = true := fun i => by
  induction i using Nat.strongRecOn with
  | ind i ih =>
    intro hi
    cases hq : listed.getD i false with
    | true => rfl
    | false =>
      exfalso
      have : i ∈ Region.ready .any ops listed := mem_ready.2 ⟨by rw [← getD_false (by rw [I.sz]; exact hi)]; exact hq, ops[i], Array.getElem?_eq_getElem hi, fun e he hb => by
        obtain ⟨h1, _⟩ := st.edge (Array.getElem?_eq_getElem hi) he hb
        exact ih _ h1 (Nat.lt_trans h1 hi)⟩
      rw [h] at this
      cases this

include fin
omit st in
theorem draw_fin {G : Nat} {hist : Hist} {σ : H} {fr : Fr} {listed : Array Bool} {a : Act} {w : World} {ρ : Rho} (I : Inv P ops bef B w0 G hist σ fr listed a w ρ) (hle : ρ0.le ρ) (hall : ∀ i, i < ops.size → listed.getD i false = true)
    (h : readyA ops.toList bef G = [] → (bif G == 2 ^ ops.toList.length - 1 then K fr σ else false) = true) : Q .normal a w := by
  have hnil : readyA ops.toList bef G = [] := by
    cases hq : readyA ops.toList bef G with
    | nil => rfl
    | cons x xs =>
      obtain ⟨h1, h2, _⟩ := mem_readyA (by rw [hq]; exact List.mem_cons_self : x ∈ readyA ops.toList bef G)
      rw [I.sub x (hall x h1)] at h2
      cases h2
  have h := h hnil
  cases hG : (G == 2 ^ ops.toList.length - 1) with
  | false => rw [hG] at h; cases h
  | true =>
    rw [hG, cond_true] at h
    refine fin fr σ ρ a w hle ⟨I.len, fun t => I.clean t fun i o hi ho => ?_⟩ I.sim I.defers h
    have := hall i (Array.getElem?_eq_some_iff.1 ho).1
    rw [hi.2] at this
    cases this

include hcall
theorem draw_inv : ∀ (n G : Nat) (hist : Hist) (fr : Fr) (σ : H), drawK P callf ops ops.toList bef n G hist fr σ K = true →
    ∀ (m : Nat) (ρ : Rho) (listed : Array Bool) (a : Act) (w : World), Inv P ops bef B w0 G hist σ fr listed a w ρ → ρ0.le ρ → listed.toList.count false ≤ m → wpAny P .any ops Q m listed a w := by
  intro n
  induction n with
  | zero => intro G hist fr σ h; cases h
  | succ n ih =>
    intro G hist fr σ h
    rw [drawK] at h
    simp only [splitB_eq, putK_eq] at h
    split at h
    · rename_i i hi
      have hmem := List.mem_of_find?_eq_some hi
      have heag := List.find?_some hi
      split at h
      · rename_i o ho
        rw [ho] at heag
        simp only at heag
        have ho' : ops[i]? = some o := by simpa using ho
        intro m ρ listed a w I hle hm
        obtain ⟨aH, hH⟩ := I.hyp
        rcases wantedK_cases h with hw | hw
        · rw [hw] at h
          cases hok : opOk o.op (ev fr) with
          | false => rw [hok] at h; cases h
          | true =>
            rw [hok, cond_true] at h
            split at h
            · rename_i hk
              obtain ⟨v, vc, h1, h2, h3, _⟩ := pure_sound (P := P) o (ev_EvR hH hok) hk _ h
              have hE : ∀ τ, Evid P ops B w0 o v τ fr := fun τ => Evid.pure hw hok hk h3
              exact ih _ _ _ _ h1 m ρ listed a w (Inv.ahead st I hmem ho' heag (fun r hr => hr) (hE σ) (.inl hE) ⟨_, hH.put o.dst h2⟩) hle hm
            · rename_i hk
              obtain ⟨v, vc, h1, h2, h3, _⟩ := read_sound (P := P) I.sim o (ev_EvR hH hok) hk _ h
              have hE : Evid P ops B w0 o v σ fr := Evid.read hw hok hk (fun u => @decide (u = v) (Classical.propDecidable _)) (fun u hu => @of_decide_eq_true _ (Classical.propDecidable _) hu) (by rw [h3]; exact @decide_eq_true _ (Classical.propDecidable _) rfl)
              refine ih _ _ _ _ h1 m ρ listed a w (Inv.ahead st I hmem ho' heag (fun r hr => List.mem_cons_of_mem _ hr) hE (.inr ⟨_, List.mem_cons_self, fun τ hτ => ?_⟩) ⟨_, hH.put o.dst h2⟩) hle hm
              exact Evid.read hw hok hk _ (fun u hu => sameV_eq hu) hτ
            · cases h
        · rw [hw] at h
          have hE : ∀ τ, Evid P ops B w0 o .undef τ fr := fun τ => Evid.unwanted hw
          exact ih _ _ _ _ h m ρ listed a w (Inv.ahead st I hmem ho' heag (fun r hr => hr) (hE σ) (.inl hE) ⟨_, hH.put o.dst VR.undef⟩) hle hm
      · cases h
    · rename_i hnone
      intro m
      induction m with
      | zero =>
        intro ρ listed a w I hle hm
        have hall : ∀ i, i < ops.size → listed.getD i false = true := fun i hi => by
          cases hq : listed.getD i false with
          | true => rfl
          | false =>
            exfalso
            rw [getD_false (by rw [I.sz]; exact hi)] at hq
            have hl : i < listed.size := by rw [I.sz]; exact hi
            rw [Array.getD_eq_getD_getElem?, Array.getElem?_eq_getElem hl, Option.getD_some] at hq
            have : false ∈ listed.toList := by rw [← hq]; simp
            have := List.count_pos_iff.2 this
            omega
        refine ⟨List.eq_nil_iff_forall_not_mem.2 fun i hi => ?_, draw_fin fin I hle hall (fun hq => by rw [hq] at h; exact h)⟩
        obtain ⟨h1, o, h2, _⟩ := mem_ready.1 hi
        have hlt : i < ops.size := (Array.getElem?_eq_some_iff.1 h2).1
        rw [← getD_false (by rw [I.sz]; exact hlt), hall i hlt] at h1
        cases h1
      | succ m ihm =>
        intro ρ listed a w I hle hm
        refine ⟨fun hr => draw_fin fin I hle (all_listed st I hr) (fun hq => by rw [hq] at h; exact h), fun i hi => ?_⟩
        obtain ⟨h1, o, ho, hall⟩ := mem_ready.1 hi
        have hlook := I.lookR st ho hall
        have hlt : i < ops.size := (Array.getElem?_eq_some_iff.1 ho).1
        have hnl : listed.getD i false = false := by rw [getD_false (by rw [I.sz]; exact hlt)]; exact h1
        unfold wpOp
        simp only [ho]
        cases hg : G.testBit i with
        | true =>
          obtain ⟨_, v, e2, e3, _⟩ := I.lag i o ⟨hg, hnl⟩ ho
          obtain ⟨vc, hv, ⟨k1, k2⟩ | ⟨k1, rfl⟩⟩ := e3 ρ a w hlook I.sim
          · rw [if_pos k1]
            refine .inl ?_
            unfold Oper.wp
            rw [k2, Oper.upon_value]
            exact ihm ρ _ _ w (I.behind st ho hall hg e2 hv) hle (count_set h1 hm)
          · rw [if_neg (by rw [k1]; simp)]
            exact ihm ρ _ _ w (I.behind st ho hall hg e2 hv) hle (count_set h1 hm)
        | false =>
          have hrd : i ∈ readyA ops.toList bef G := readyA_mem hlt hg fun j hj => I.sub j (pre_listed st I ho hall hj)
          have ho' : ops.toList[i]? = some o := by simpa using ho
          split at h
          · rename_i hq; rw [hq] at hrd; cases hrd
          · have hb := List.all_eq_true.1 h i hrd
            simp only [ho'] at hb
            rcases wanted_of ops o hlook hb with ⟨hw, hb⟩ | ⟨hw, hb⟩
            · rw [if_pos hw]
              refine .inl (op_sound hcall I.sim o (fun hok => hlook.evR hok) hb fun v vc σ' ρ' w' k1 k2 k3 k4 => ?_)
              rw [Bool.and_eq_true, List.all_eq_true] at k4
              refine ih _ _ _ _ k4.2 m ρ' _ _ w' (I.beside st ho hall hg k1 k2 k3 (.inr fun r hr => ?_)) (hle.trans k1) (count_set h1 hm)
              have := k4.1 r hr
              simpa using this
            · rw [if_neg (by rw [hw]; simp)]
              exact ih _ _ _ _ hb m ρ _ _ w (I.beside st ho hall hg (.refl ρ) VR.undef I.sim (.inl rfl)) hle (count_set h1 hm)

end

theorem draw_ok (P : Program) (callf : CallF) (hcall : CallsOK P callf) : DrawOK P callf := by
  intro ops B w0 ρ σ w fr a K Q hsim hfr hd h fin
  unfold drawRegion at h
  simp only at h
  cases hq : (edgesOk ops.toList 0 && apartOk P ops.toList (befs ops.toList [])) with
  | false => rw [hq] at h; cases h
  | true =>
    rw [hq, cond_true] at h
    rw [Bool.and_eq_true] at hq
    have hf : ∀ j, (Array.replicate ops.size false).getD j false = false := fun j => by
      rw [Array.getD_eq_getD_getElem?, Array.getElem?_replicate]
      split <;> rfl
    have hnot : ∀ {p : Prop} {j : Nat}, (Array.replicate ops.size false).getD j false = true → p := fun {p j} hj => by rw [hf j] at hj; cases hj
    have hz : ∀ {p : Prop} {j : Nat}, (0 : Nat).testBit j = true → p := fun {p j} hj => by rw [Nat.zero_testBit] at hj; cases hj
    refine draw_inv hcall (static_of hq.1 hq.2) fin _ _ _ _ _ h ops.size ρ _ a w ⟨hsim, hd, ⟨a, hfr⟩, ?_, fun t _ => hfr.getD t, fun i hi => hnot hi, fun i j hi => hz hi, fun i j hi => hnot hi, fun i hi => hz hi, Array.size_replicate, fun i o hi => hz hi.1⟩ (.refl ρ) ?_
    · exact hfr.1
    · rw [Array.toList_replicate, List.count_replicate]; simp

theorem acall_ok {P : Program} {T : Tab} (hT : TabOK P T) (hmix : P.follows .mixedOrders = true) (hno : NoCount P) (n : Nat) : CallsOK P (acall P T (drawRegion P) n) := acall_sound hT hmix hno (draw_ok P) n

/-- What a function's own text gives, on top of contracts, is a contract. -/
theorem soundAt_of {P : Program} {T : Tab} (hT : TabOK P T) (hmix : P.follows .mixedOrders = true) (hno : NoCount P) {g : Nat} {F : List AV → H → (AV → H → Bool) → Bool}
    (h : ∀ args σ K, F args σ K = true → ∃ n, acall P T (drawRegion P) n g args σ K = true) : SoundAt P g F := fun B w0 ρ σ w args argsc K hs ha hF => by
  obtain ⟨n, hn⟩ := h args σ K hF
  exact acall_ok hT hmix hno n B w0 ρ σ w g args argsc K hs ha hn

/-- As a rule nothing is asked of the draws. -/
instance instTriv : Grade := Grade.triv

end Go.AM
namespace Go.AM
open Go Go.RowKit

def isTrue (v : AV) (_ : H) : Bool := match v with | .bool b => b | _ => false

theorem isTrue_of {v : AV} {σ : H} (h : isTrue v σ = true) : v = .bool true := by
  unfold isTrue at h
  split at h
  · rw [h]
  · cases h

/-- The empty heap stands for every world. -/
theorem Sim.start (w : World) : Sim w.heap.size w (fun _ => none) [] w where
  below := Bel.refl _ _
  size := Nat.le_refl _
  obj _ _ h := by cases h
  apart _ _ _ _ _ _ _ h := by cases h

theorem law0 {P : Program} (hmix : P.follows .mixedOrders = true) (hno : NoCount P) {T : Tab} (hT : TabOK P T) (n f : Nat) (h : acall P T (drawRegion P) n f [] [] isTrue = true) (w : World) :
    Calls P f #[] w fun e w' => e = .returned (.bool true) ∧ Below w.heap.size w w' := by
  obtain ⟨_, hc⟩ := acall_ok hT hmix hno n w.heap.size w (fun _ => none) [] w f [] #[] isTrue (Sim.start w) VRs.nil h
  refine hc.mono fun e w' hh => ?_
  obtain ⟨v, vc, σ', ρ', rfl, _, hv, hs, hk⟩ := hh
  obtain rfl := isTrue_of hk
  rw [hv.of_bool]
  exact ⟨rfl, hs.below.b⟩

/-- A function without arguments that returns true, and makes new blocks alone. -/
def closedF : List AV → H → (AV → H → Bool) → Bool := fun args σ K => match args with
  | [] => K (.bool true) σ
  | _ => false

theorem closed_sound {P : Program} (hno : NoCount P) {g : Nat} {fn : Func} (hfn : P.funcs[g]? = some fn) (hb : fn.body.isSome = true)
    (h : ∀ w, Calls P g #[] w fun e w' => e = .returned (.bool true) ∧ Below w.heap.size w w') : SoundAt P g closedF := fun B w0 ρ σ w args argsc K hs ha hF => by
  unfold closedF at hF
  split at hF
  · have he : argsc = #[] := by
      have := ha.inv_nil
      exact Array.toList_eq_nil_iff.1 this
    subst he
    refine ⟨?_, (h w).mono fun e w' ⟨h1, h2⟩ => ⟨_, _, σ, ρ, h1, .refl ρ, .bool true, hs.grown ⟨h2, trivial⟩, hF⟩⟩
    have hnm := hno g fn hfn hb
    have hb' : fn.body.isNone = false := by cases hq : fn.body <;> rw [hq] at hb <;> first | rfl | cases hb
    simp only [callFunc, Sem.run_bind, run_program, Result.andThen_ok, hfn]
    simp [hnm, hb']
  · cases hF

def countFree (P : Program) : Bool := P.funcs.all fun fn => fn.body.isNone || !(fn.name == "runtime.NumGoroutine")

theorem noCount_of {P : Program} (h : countFree P = true) : NoCount P := fun g fn hf hb => by
  have := Array.all_eq_true_iff_forall_mem.1 h fn (Array.mem_of_getElem? hf)
  rw [Bool.or_eq_true] at this
  rcases this with h | h
  · cases hq : fn.body with
    | none => rw [hq] at hb; cases hb
    | some c => rw [hq] at h; cases h
  · simpa using h

end Go.AM
namespace Go.AM
open Go

/-- One step of a plan: the operation's place, and the readers that are read again behind it. -/
abbrev Plan := List (Nat × List Nat)

noncomputable def ordK (P : Program) (callf : CallF) (arr : Array Oper) (plan : Plan) : Hist → Fr → H → (Fr → H → Bool) → Bool :=
  List.rec (motive := fun _ => Hist → Fr → H → (Fr → H → Bool) → Bool) (fun _ fr σ K => K fr σ)
    (fun s _ ih hist fr σ K =>
      match arr[s.1]? with
      | some o => wantedK arr o fr
          (fun _ => bif opOk o.op (ev fr) then
            (match kindOf P o.op with
            | .pure => pureK P o.op (ev fr) fun v => splitB v fun v => putK fr o.dst v fun fr => bif s.2.isEmpty then ih hist fr σ K
                else (hist.all fun (r, again) => !s.2.contains r || again σ) && ih hist fr σ K
            | .read => readK P o.op (ev fr) σ fun v => splitB v fun v => putK fr o.dst v fun fr' =>
                ih ((s.1, fun τ => readK P o.op (ev fr) τ fun u => sameV u v) :: hist) fr' σ K
            | .eff => effK P callf o.op o.type (ev fr) σ fun v τ => splitB v fun v => putK fr o.dst v fun fr =>
                bif s.2.isEmpty then ih hist fr τ K else (hist.all fun (r, again) => !s.2.contains r || again τ) && ih hist fr τ K)
            else false)
          (fun _ => putK fr o.dst .undef fun fr => ih hist fr σ K)
      | none => false) plan
theorem ordK_cons (P : Program) (callf : CallF) (arr : Array Oper) (i : Nat) (chk : List Nat) (rest : Plan) (hist : Hist) (fr : Fr) (σ : H) (K : Fr → H → Bool) : ordK P callf arr ((i, chk) :: rest) hist fr σ K =
    match arr[i]? with
    | some o => wantedK arr o fr
        (fun _ => bif opOk o.op (ev fr) then
          (match kindOf P o.op with
          | .pure => pureK P o.op (ev fr) fun v => splitB v fun v => putK fr o.dst v fun fr => bif chk.isEmpty then ordK P callf arr rest hist fr σ K
              else (hist.all fun (r, again) => !chk.contains r || again σ) && ordK P callf arr rest hist fr σ K
          | .read => readK P o.op (ev fr) σ fun v => splitB v fun v => putK fr o.dst v fun fr' =>
              ordK P callf arr rest ((i, fun τ => readK P o.op (ev fr) τ fun u => sameV u v) :: hist) fr' σ K
          | .eff => effK P callf o.op o.type (ev fr) σ fun v τ => splitB v fun v => putK fr o.dst v fun fr =>
              bif chk.isEmpty then ordK P callf arr rest hist fr τ K else (hist.all fun (r, again) => !chk.contains r || again τ) && ordK P callf arr rest hist fr τ K)
          else false)
        (fun _ => putK fr o.dst .undef fun fr => ordK P callf arr rest hist fr σ K)
    | none => false := rfl

def planOk (P : Program) (ops : List Oper) (bef : List Nat) : Plan → Nat → List Nat → Bool
  | [], G, _ => (readyA ops bef G).isEmpty && G == 2 ^ ops.length - 1
  | (i, chk) :: rest, G, hs =>
    match (readyA ops bef G).find? (fun i => match ops[i]? with | some o => eager P o.op | none => false) with
    | some j => j == i && chk.isEmpty && planOk P ops bef rest (G ||| 2 ^ i) (match ops[i]? with | some o => (match kindOf P o.op with | .read => i :: hs | _ => hs) | none => hs)
    | none => readyA ops bef G == [i] && (match ops[i]? with | some o => kindOf P o.op == .eff || kindOf P o.op == .pure | none => false) &&
        (hs.all fun r => (bef.getD i 0).testBit r == !chk.contains r) && planOk P ops bef rest (G ||| 2 ^ i) hs

def ordOk (P : Program) (ops : Array Oper) (plan : Plan) : Bool :=
  let l := ops.toList
  let bef := befs l []
  edgesOk l 0 && apartOk P l bef && decide (plan.length ≤ l.length) && planOk P l bef plan 0 []

theorem hist_all {hist : Hist} {hs chk : List Nat} {m : Nat} (hsub : ∀ r a, (r, a) ∈ hist → r ∈ hs) (hall : (hs.all fun r => m.testBit r == !chk.contains r) = true) (τ : H) :
    (hist.all fun (r, again) => m.testBit r || again τ) = (hist.all fun (r, again) => !chk.contains r || again τ) := by
  induction hist with
  | nil => rfl
  | cons x xs ih =>
    obtain ⟨r, a⟩ := x
    have h1 := List.all_eq_true.1 hall r (hsub r a List.mem_cons_self)
    rw [beq_iff_eq] at h1
    rw [List.all_cons, List.all_cons, ih (fun r a h => hsub r a (List.mem_cons_of_mem _ h))]
    simp only [h1]

theorem drawK_ord {P : Program} {callf : CallF} {arr : Array Oper} {bef : List Nat} {K : Fr → H → Bool} : ∀ (plan : Plan) (n G : Nat) (hs : List Nat) (hist : Hist) (fr : Fr) (σ : H),
    plan.length < n → planOk P arr.toList bef plan G hs = true → (∀ r a, (r, a) ∈ hist → r ∈ hs) → drawK P callf arr arr.toList bef n G hist fr σ K = ordK P callf arr plan hist fr σ K
  | _, 0, _, _, _, _, _, hn, _, _ => absurd hn (Nat.not_lt_zero _)
  | [], n + 1, G, hs, hist, fr, σ, _, hp, _ => by
    simp only [planOk, Bool.and_eq_true, List.isEmpty_iff, beq_iff_eq] at hp
    rw [drawK]
    simp only [hp.1, List.find?_nil]
    rw [← hp.2]
    simp [ordK]
  | (i, chk) :: rest, n + 1, G, hs, hist, fr, σ, hn, hp, hsub => by
    have hn' : rest.length < n := by simpa using hn
    rw [planOk] at hp
    rw [drawK, ordK_cons]
    simp only [splitB_eq, putK_eq]
    try simp only
    split at hp
    · rename_i j hj
      simp only [Bool.and_eq_true, beq_iff_eq, List.isEmpty_iff] at hp
      obtain ⟨⟨rfl, rfl⟩, hp⟩ := hp
      split
      case h_2 hq => cases (hq.symm.trans hj : none = some j)
      case h_1 j' hj' =>
        obtain rfl : j = j' := Option.some.inj (hj.symm.trans hj' : some j = some j')
        simp only [Array.getElem?_toList]
        have heag := List.find?_some hj
        simp only [Array.getElem?_toList] at heag
        cases ho : arr[j]? with
        | none => rfl
        | some o =>
          simp only [Array.getElem?_toList] at hp
          rw [ho] at heag hp
          simp only at heag hp ⊢
          have sub : ∀ r a, (r, a) ∈ hist → r ∈ (match kindOf P o.op with | .read => j :: hs | _ => hs) := fun r a hr => by
            split
            · exact List.mem_cons_of_mem _ (hsub r a hr)
            · exact hsub r a hr
          congr 1
          · funext _
            congr 1
            cases hk : kindOf P o.op with
            | pure =>
              simp only
              congr 1
              funext v
              exact drawK_ord rest n _ _ hist _ _ hn' hp sub
            | read =>
              simp only
              congr 1
              funext v
              refine drawK_ord rest n _ _ _ _ _ hn' hp (fun r a hr => ?_)
              rw [hk] at sub ⊢
              rcases List.mem_cons.1 hr with e | hr
              · cases e; exact List.mem_cons_self
              · exact sub r a hr
            | eff =>
              exfalso
              unfold eager at heag
              rw [hk] at heag
              split at heag <;> cases heag
          · funext _
            exact drawK_ord rest n _ _ hist _ _ hn' hp sub
    · rename_i hnone
      simp only [Bool.and_eq_true, beq_iff_eq] at hp
      obtain ⟨⟨⟨hr, hk⟩, hall⟩, hp⟩ := hp
      split
      · rename_i j' hj'
        cases (hnone.symm.trans hj' : none = some j')
      rw [hr]
      simp only [List.all_cons, List.all_nil, Bool.and_true, Array.getElem?_toList]
      cases ho : arr[i]? with
      | none => rfl
      | some o =>
        simp only [Array.getElem?_toList] at hk
        rw [ho] at hk
        simp only [Bool.or_eq_true, beq_iff_eq] at hk ⊢
        have key : ∀ (τ : H) (X : Bool), ((hist.all fun (r, again) => (bef.getD i 0).testBit r || again τ) && X) = (bif chk.isEmpty then X else (hist.all fun (r, again) => !chk.contains r || again τ) && X) := fun τ X => by
          rw [hist_all hsub hall τ]
          cases hc : chk.isEmpty with
          | false => rfl
          | true =>
            obtain rfl := List.isEmpty_iff.1 hc
            have : (hist.all fun (r, again) => !([] : List Nat).contains r || again τ) = true := List.all_eq_true.2 fun x _ => by simp
            rw [this]
            rfl
        congr 1
        · funext _
          unfold opK
          simp only [splitB_eq]
          congr 1
          cases hkk : kindOf P o.op with
          | pure =>
            simp only
            congr 1
            funext v
            rw [key σ, drawK_ord rest n _ hs hist _ _ hn' hp hsub]
          | read =>
            rw [hkk] at hk
            simp at hk
          | eff =>
            simp only
            congr 1
            funext v τ
            rw [key τ, drawK_ord rest n _ hs hist _ _ hn' hp hsub]
        · funext _
          exact drawK_ord rest n _ hs hist _ _ hn' hp hsub

/-- A region's operations, by its number. -/
def opsIn (id : Nat) : Code → Option (Array Oper)
  | .region i ops _ => bif i == id then some ops else none
  | .seq a b => (opsIn id a).or (opsIn id b)
  | .cond _ a b => (opsIn id a).or (opsIn id b)
  | .block _ b => opsIn id b
  | .loop b => opsIn id b
  | _ => none
def opsOf (P : Program) (g id : Nat) : Array Oper := ((P.funcs[g]?).bind fun f => f.body.bind (opsIn id)).getD #[]

theorem drawRegion_ord {P : Program} {callf : CallF} {ops : Array Oper} (plan : Plan) (hp : ordOk P ops plan = true) {fr : Fr} {σ : H} {K : Fr → H → Bool} (h : ordK P callf ops plan [] fr σ K = true) :
    drawRegion P callf ops fr σ K = true := by
  unfold ordOk at hp
  simp only [Bool.and_eq_true, decide_eq_true_eq] at hp
  unfold drawRegion
  simp only [hp.1.1.1, hp.1.1.2, Bool.and_self, cond_true]
  rw [drawK_ord plan _ 0 [] [] fr σ (Nat.lt_succ_of_le hp.1.2) hp.2 (fun r a hr => by simp at hr)]
  exact h

/-- A drawer that goes by plans. -/
def ByPlan (P : Program) (D : Drawer) : Prop := ∀ (callf : CallF) (ops : Array Oper) (plan : Plan), ordOk P ops plan = true → ∀ (fr : Fr) (σ : H) (K : Fr → H → Bool), ordK P callf ops plan [] fr σ K = true → D callf ops fr σ K = true
theorem byPlan (P : Program) : ByPlan P (drawRegion P) := fun _ _ plan hp _ _ _ h => drawRegion_ord plan hp h
theorem ByPlan.go {P : Program} {D : Drawer} (hD : ByPlan P D) {callf : CallF} {ops : Array Oper} (plan : Plan) (hp : ordOk P ops plan = true) {fr : Fr} {σ : H} {K : Fr → H → Bool} (h : ordK P callf ops plan [] fr σ K = true) :
    D callf ops fr σ K = true := hD callf ops plan hp fr σ K h

end Go.AM
namespace Go.AM
open Go

/-- All orders in which AM goes: a step that alone is next; or a step, or else what the other part tells. -/
inductive PT where
  | done
  | step (i : Nat) (chk : List Nat) (t : PT)
  | alt (i : Nat) (chk : List Nat) (t r : PT)

/-- One operation of a plan; `ih` is what goes on behind it. -/
@[reducible] noncomputable def stepT (P : Program) (callf : CallF) (arr : Array Oper) (i : Nat) (chk : List Nat) (ih : Hist → Fr → H → (Fr → H → Bool) → Bool) (hist : Hist) (fr : Fr) (σ : H) (K : Fr → H → Bool) : Bool :=
  match arr[i]? with
  | some o => wantedK arr o fr
      (fun _ => bif opOk o.op (ev fr) then
        (match kindOf P o.op with
        | .pure => pureK P o.op (ev fr) fun v => splitB v fun v => putK fr o.dst v fun fr => bif chk.isEmpty then ih hist fr σ K
            else (hist.all fun (r, again) => !chk.contains r || again σ) && ih hist fr σ K
        | .read => readK P o.op (ev fr) σ fun v => splitB v fun v => putK fr o.dst v fun fr' =>
            ih ((i, fun τ => readK P o.op (ev fr) τ fun u => sameV u v) :: hist) fr' σ K
        | .eff => effK P callf o.op o.type (ev fr) σ fun v τ => splitB v fun v => putK fr o.dst v fun fr =>
            bif chk.isEmpty then ih hist fr τ K else (hist.all fun (r, again) => !chk.contains r || again τ) && ih hist fr τ K)
        else false)
      (fun _ => putK fr o.dst .undef fun fr => ih hist fr σ K)
  | none => false

noncomputable def ordT (P : Program) (callf : CallF) (arr : Array Oper) (t : PT) : Hist → Fr → H → (Fr → H → Bool) → Bool :=
  PT.rec (motive := fun _ => Hist → Fr → H → (Fr → H → Bool) → Bool) (fun _ fr σ K => K fr σ)
    (fun i chk _ ih hist fr σ K => stepT P callf arr i chk ih hist fr σ K)
    (fun i chk _ _ ih ihr hist fr σ K => stepT P callf arr i chk ih hist fr σ K && ihr hist fr σ K) t

def PT.depth : PT → Nat
  | .done => 0
  | .step _ _ t => t.depth + 1
  | .alt _ _ t r => max (t.depth + 1) r.depth

/-- Is one of these run ahead? -/
def eagerOf (P : Program) (ops : List Oper) (rd : List Nat) : Option Nat := rd.find? (fun i => match ops[i]? with | some o => eager P o.op | none => false)
def checkE (P : Program) (ops : List Oper) (bef : List Nat) (i : Nat) (chk hs : List Nat) : Bool :=
  (match ops[i]? with | some o => kindOf P o.op == .eff || kindOf P o.op == .pure | none => false) && (hs.all fun r => (bef.getD i 0).testBit r == !chk.contains r)

def treeOk (P : Program) (ops : List Oper) (bef : List Nat) : PT → Nat → List Nat → List Nat → Bool
  | .done, G, _, rd => rd.isEmpty && G == 2 ^ ops.length - 1
  | .step i chk t, G, hs, rd =>
    match eagerOf P ops rd with
    | some j => j == i && chk.isEmpty && treeOk P ops bef t (G ||| 2 ^ i) (match ops[i]? with | some o => (match kindOf P o.op with | .read => i :: hs | _ => hs) | none => hs) (readyA ops bef (G ||| 2 ^ i))
    | none => rd == [i] && checkE P ops bef i chk hs && treeOk P ops bef t (G ||| 2 ^ i) hs (readyA ops bef (G ||| 2 ^ i))
  | .alt i chk t r, G, hs, rd =>
    (eagerOf P ops rd).isNone && decide (2 ≤ rd.length) && rd.head? == some i && checkE P ops bef i chk hs && treeOk P ops bef t (G ||| 2 ^ i) hs (readyA ops bef (G ||| 2 ^ i)) && treeOk P ops bef r G hs rd.tail

def ordTOk (P : Program) (ops : Array Oper) (t : PT) : Bool :=
  let l := ops.toList
  let bef := befs l []
  edgesOk l 0 && apartOk P l bef && decide (t.depth ≤ l.length) && treeOk P l bef t 0 [] (readyA l bef 0)

section
variable {P : Program} {callf : CallF} {arr : Array Oper} {bef : List Nat} {K : Fr → H → Bool}

/-- What drawK does with one operation that is not run ahead. -/
def bodyE (P : Program) (callf : CallF) (arr : Array Oper) (bef : List Nat) (n G : Nat) (hist : Hist) (fr : Fr) (σ : H) (K : Fr → H → Bool) (i : Nat) : Bool :=
  match arr.toList[i]? with
  | some o =>
    wantedK arr o fr
      (fun _ => opK P callf o fr σ fun v τ =>
        hist.all (fun (r, again) => (bef.getD i 0).testBit r || again τ) && putK fr o.dst v fun fr => drawK P callf arr arr.toList bef n (G ||| 2 ^ i) hist fr τ K)
      (fun _ => putK fr o.dst .undef fun fr => drawK P callf arr arr.toList bef n (G ||| 2 ^ i) hist fr σ K)
  | none => false

theorem drawK_none {n G : Nat} {hist : Hist} {fr : Fr} {σ : H} {i : Nat} {rd : List Nat} (hr : readyA arr.toList bef G = i :: rd) (he : eagerOf P arr.toList (i :: rd) = none) :
    drawK P callf arr arr.toList bef (n + 1) G hist fr σ K = (i :: rd).all (bodyE P callf arr bef n G hist fr σ K) := by
  rw [drawK]
  simp only [hr]
  unfold eagerOf at he
  split
  · rename_i j hj
    cases (he.symm.trans hj : none = some j)
  · rfl

theorem stepE {n G : Nat} {hs chk : List Nat} {hist : Hist} {fr : Fr} {σ : H} {i : Nat} {ih : Hist → Fr → H → (Fr → H → Bool) → Bool} (hc : checkE P arr.toList bef i chk hs = true) (hsub : ∀ r a, (r, a) ∈ hist → r ∈ hs)
    (hih : ∀ fr σ, drawK P callf arr arr.toList bef n (G ||| 2 ^ i) hist fr σ K = ih hist fr σ K) : bodyE P callf arr bef n G hist fr σ K i = stepT P callf arr i chk ih hist fr σ K := by
  unfold checkE at hc
  simp only [Bool.and_eq_true] at hc
  obtain ⟨hk, hall⟩ := hc
  unfold bodyE stepT
  simp only [Array.getElem?_toList]
  cases ho : arr[i]? with
  | none => rfl
  | some o =>
    simp only [Array.getElem?_toList] at hk
    rw [ho] at hk
    simp only [Bool.or_eq_true, beq_iff_eq] at hk ⊢
    have key : ∀ (τ : H) (X : Bool), ((hist.all fun (r, again) => (bef.getD i 0).testBit r || again τ) && X) = (bif chk.isEmpty then X else (hist.all fun (r, again) => !chk.contains r || again τ) && X) := fun τ X => by
      rw [hist_all hsub hall τ]
      cases hcc : chk.isEmpty with
      | false => rfl
      | true =>
        obtain rfl := List.isEmpty_iff.1 hcc
        have : (hist.all fun (r, again) => !([] : List Nat).contains r || again τ) = true := List.all_eq_true.2 fun x _ => by simp
        rw [this]
        rfl
    simp only [putK_eq, splitB_eq]
    congr 1
    · funext _
      unfold opK
      simp only [splitB_eq]
      congr 1
      cases hkk : kindOf P o.op with
      | pure =>
        simp only
        congr 1
        funext v
        rw [key σ, hih]
      | read =>
        rw [hkk] at hk
        simp at hk
      | eff =>
        simp only
        congr 1
        funext v τ
        rw [key τ, hih]
    · funext _
      exact hih _ _

theorem stepR {n G : Nat} {hist : Hist} {fr : Fr} {σ : H} {j : Nat} {ih : Hist → Fr → H → (Fr → H → Bool) → Bool} (he : eagerOf P arr.toList (readyA arr.toList bef G) = some j)
    (hih : ∀ hist' fr σ, (hist' = hist ∨ ∃ o a, arr[j]? = some o ∧ kindOf P o.op = .read ∧ hist' = (j, a) :: hist) → drawK P callf arr arr.toList bef n (G ||| 2 ^ j) hist' fr σ K = ih hist' fr σ K) :
    drawK P callf arr arr.toList bef (n + 1) G hist fr σ K = stepT P callf arr j [] ih hist fr σ K := by
  rw [drawK]
  unfold stepT
  unfold eagerOf at he
  simp only [splitB_eq, putK_eq]
  try simp only
  split
  case h_2 hq => cases (hq.symm.trans he : none = some j)
  case h_1 j' hj' =>
    obtain rfl : j = j' := Option.some.inj (he.symm.trans hj' : some j = some j')
    simp only [Array.getElem?_toList]
    have heag := List.find?_some he
    simp only [Array.getElem?_toList] at heag
    cases ho : arr[j]? with
    | none => rfl
    | some o =>
      rw [ho] at heag
      simp only at heag ⊢
      congr 1
      · funext _
        congr 1
        cases hk : kindOf P o.op with
        | pure =>
          simp only
          congr 1
          funext v
          exact hih _ _ _ (.inl rfl)
        | read =>
          simp only
          congr 1
          funext v
          exact hih _ _ _ (.inr ⟨o, _, ho, hk, rfl⟩)
        | eff =>
          exfalso
          unfold eager at heag
          rw [hk] at heag
          split at heag <;> cases heag
      · funext _
        exact hih _ _ _ (.inl rfl)

theorem drawK_tree : ∀ (t : PT) (n G : Nat) (hs : List Nat) (hist : Hist) (fr : Fr) (σ : H), (∀ r a, (r, a) ∈ hist → r ∈ hs) →
    (t.depth < n → treeOk P arr.toList bef t G hs (readyA arr.toList bef G) = true → drawK P callf arr arr.toList bef n G hist fr σ K = ordT P callf arr t hist fr σ K) ∧
    (∀ i rd, t.depth < n + 1 → eagerOf P arr.toList (i :: rd) = none → treeOk P arr.toList bef t G hs (i :: rd) = true → (i :: rd).all (bodyE P callf arr bef n G hist fr σ K) = ordT P callf arr t hist fr σ K)
  | .done, n, G, hs, hist, fr, σ, _ => by
    refine ⟨fun hn hp => ?_, fun i rd _ _ hp => by simp [treeOk] at hp⟩
    obtain ⟨n, rfl⟩ : ∃ m, n = m + 1 := ⟨n - 1, by simp only [PT.depth] at hn; omega⟩
    simp only [treeOk, Bool.and_eq_true, List.isEmpty_iff, beq_iff_eq] at hp
    rw [drawK]
    simp only [hp.1, List.find?_nil]
    rw [← hp.2]
    simp [ordT]
  | .step i chk t, n, G, hs, hist, fr, σ, hsub => by
    have second : ∀ n, ∀ k rd, t.depth + 1 < n + 1 → eagerOf P arr.toList (k :: rd) = none → treeOk P arr.toList bef (.step i chk t) G hs (k :: rd) = true → (k :: rd).all (bodyE P callf arr bef n G hist fr σ K) = ordT P callf arr (.step i chk t) hist fr σ K := fun n k rd hn he hp => by
      rw [treeOk, he] at hp
      simp only [Bool.and_eq_true, beq_iff_eq] at hp
      obtain ⟨⟨h1, h2⟩, h3⟩ := hp
      rw [h1, List.all_cons, List.all_nil, Bool.and_true]
      exact stepE h2 hsub fun fr σ => (drawK_tree t n (G ||| 2 ^ i) hs hist fr σ hsub).1 (by omega) h3
    refine ⟨fun hn hp => ?_, fun k rd hn he hp => second n k rd (by simpa only [PT.depth] using hn) he hp⟩
    simp only [PT.depth] at hn
    obtain ⟨n, rfl⟩ : ∃ m, n = m + 1 := ⟨n - 1, by omega⟩
    cases he : eagerOf P arr.toList (readyA arr.toList bef G) with
    | some j =>
      rw [treeOk, he] at hp
      simp only [Bool.and_eq_true, beq_iff_eq, List.isEmpty_iff] at hp
      obtain ⟨⟨rfl, rfl⟩, h3⟩ := hp
      refine stepR he fun hist' fr σ hh => ?_
      refine (drawK_tree t n (G ||| 2 ^ j) _ hist' fr σ fun r a hr => ?_).1 (by omega) h3
      rcases hh with rfl | ⟨o, a', ho, hk, rfl⟩
      · split
        · split
          · exact List.mem_cons_of_mem _ (hsub r a hr)
          · exact hsub r a hr
        · exact hsub r a hr
      · simp only [Array.getElem?_toList, ho, hk]
        rcases List.mem_cons.1 hr with e | hr
        · cases e; exact List.mem_cons_self
        · exact List.mem_cons_of_mem _ (hsub r a hr)
    | none =>
      cases hr : readyA arr.toList bef G with
      | nil =>
        rw [treeOk, he, hr] at hp
        simp at hp
      | cons k rd =>
        rw [hr] at he hp
        rw [drawK_none hr he]
        exact second n k rd (by omega) he hp
  | .alt i chk t r, n, G, hs, hist, fr, σ, hsub => by
    have second : ∀ n, ∀ k rd, max (t.depth + 1) r.depth < n + 1 → eagerOf P arr.toList (k :: rd) = none → treeOk P arr.toList bef (.alt i chk t r) G hs (k :: rd) = true → (k :: rd).all (bodyE P callf arr bef n G hist fr σ K) = ordT P callf arr (.alt i chk t r) hist fr σ K := fun n k rd hn he hp => by
      rw [treeOk] at hp
      simp only [Bool.and_eq_true, beq_iff_eq, decide_eq_true_eq, List.head?_cons, Option.some.injEq, List.tail_cons, List.length_cons] at hp
      obtain ⟨⟨⟨⟨⟨_, hl⟩, rfl⟩, h2⟩, h3⟩, h4⟩ := hp
      cases rd with
      | nil => simp at hl
      | cons k2 rd =>
        have he2 : eagerOf P arr.toList (k2 :: rd) = none := by
          unfold eagerOf at he ⊢
          rw [List.find?_eq_none] at he ⊢
          exact fun x hx => he x (List.mem_cons_of_mem _ hx)
        rw [List.all_cons]
        have a1 := stepE (P := P) (callf := callf) (arr := arr) (bef := bef) (K := K) (n := n) (G := G) (fr := fr) (σ := σ) (ih := ordT P callf arr t) h2 hsub fun fr σ => (drawK_tree t n (G ||| 2 ^ k) hs hist fr σ hsub).1 (by omega) h3
        have a2 := (drawK_tree r n G hs hist fr σ hsub).2 k2 rd (by omega) he2 h4
        rw [a1, a2]
        rfl
    refine ⟨fun hn hp => ?_, fun k rd hn he hp => second n k rd (by simpa only [PT.depth] using hn) he hp⟩
    simp only [PT.depth] at hn
    obtain ⟨n, rfl⟩ : ∃ m, n = m + 1 := ⟨n - 1, by omega⟩
    cases hr : readyA arr.toList bef G with
    | nil =>
      rw [treeOk, hr] at hp
      simp at hp
    | cons k rd =>
      rw [hr] at hp
      have he : eagerOf P arr.toList (k :: rd) = none := by
        rw [treeOk] at hp
        simp only [Bool.and_eq_true, Option.isNone_iff_eq_none] at hp
        exact hp.1.1.1.1.1
      rw [drawK_none hr he]
      exact second n k rd (by omega) he hp
end

theorem drawRegion_tree {P : Program} {callf : CallF} {ops : Array Oper} (t : PT) (hp : ordTOk P ops t = true) {fr : Fr} {σ : H} {K : Fr → H → Bool} (h : ordT P callf ops t [] fr σ K = true) :
    drawRegion P callf ops fr σ K = true := by
  unfold ordTOk at hp
  simp only [Bool.and_eq_true, decide_eq_true_eq] at hp
  unfold drawRegion
  simp only [hp.1.1.1, hp.1.1.2, Bool.and_self, cond_true]
  rw [(drawK_tree t _ 0 [] [] fr σ (fun r a hr => by simp at hr)).1 (Nat.lt_succ_of_le hp.1.2) hp.2]
  exact h

/-- A drawer that goes by trees of plans. -/
def ByTree (P : Program) (D : Drawer) : Prop := ∀ (callf : CallF) (ops : Array Oper) (t : PT), ordTOk P ops t = true → ∀ (fr : Fr) (σ : H) (K : Fr → H → Bool), ordT P callf ops t [] fr σ K = true → D callf ops fr σ K = true
theorem byTree (P : Program) : ByTree P (drawRegion P) := fun _ _ t hp _ _ _ h => drawRegion_tree t hp h
/-- By a tree; what comes behind is out of sight. -/
theorem goT {P : Program} {D : Drawer} (hD : ByTree P D) {callf : CallF} {ops : Array Oper} (t : PT) (hp : ordTOk P ops t = true) {fr : Fr} {σ : H} {K : Fr → H → Bool} (h : ∀ KK, KK = K → ordT P callf ops t [] fr σ KK = true) :
    D callf ops fr σ K = true := hD callf ops t hp fr σ K (h K rfl)
/-- What goes on behind a step is out of sight. -/
theorem stepT_hide {P : Program} {callf : CallF} {arr : Array Oper} {i : Nat} {chk : List Nat} {ih : Hist → Fr → H → (Fr → H → Bool) → Bool} {hist : Hist} {fr : Fr} {σ : H} {K : Fr → H → Bool}
    (h : ∀ ih', ih' = ih → stepT P callf arr i chk ih' hist fr σ K = true) : stepT P callf arr i chk ih hist fr σ K = true := h ih rfl
end Go.AM
