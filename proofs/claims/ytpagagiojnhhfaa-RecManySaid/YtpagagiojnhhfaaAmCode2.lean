/- Code, and calls. -/
import Derived.Test.YtpagagiojnhhfaaAmCode1
import Derived.LoopN
namespace Go.AM
open Go Go.RowKit

/-- AM's ways out, and the model's. -/
def ER : AE → Exit → Prop
  | .normal, .normal => True
  | .exit i, .exit j => i = j
  | .ret, .ret => True
  | _, _ => False

def Post (B : Nat) (w0 : World) (ρ : Rho) (K : AE → Fr → H → Bool) : Exit → Act → World → Prop :=
  fun e a w => ∃ e' fr σ ρ', ER e' e ∧ ρ.le ρ' ∧ FrR ρ' fr a ∧ Sim B w0 ρ' σ w ∧ a.defers = [] ∧ K e' fr σ = true

/-- A region whose order is drawn. -/
def DrawOK (P : Program) (callf : CallF) : Prop :=
  ∀ (ops : Array Oper) (B : Nat) (w0 : World) (ρ : Rho) (σ : H) (w : World) (fr : Fr) (a : Act) (K : Fr → H → Bool) (Q : Exit → Act → World → Prop), Sim B w0 ρ σ w → FrR ρ fr a → a.defers = [] →
    drawRegion P callf ops fr σ K = true →
    (∀ fr' σ' ρ' a' w', ρ.le ρ' → FrR ρ' fr' a' → Sim B w0 ρ' σ' w' → a'.defers = [] → K fr' σ' = true → Q .normal a' w') →
    wpAny P .any ops Q ops.size (Array.replicate ops.size false) a w

theorem Post.mono {B : Nat} {w0 : World} {ρ ρ' : Rho} (hle : ρ.le ρ') {K : AE → Fr → H → Bool} {e : Exit} {a : Act} {w : World} (h : Post B w0 ρ' K e a w) : Post B w0 ρ K e a w := by
  obtain ⟨e', fr, σ, ρ'', h1, h2, h3⟩ := h
  exact ⟨e', fr, σ, ρ'', h1, hle.trans h2, h3⟩

theorem rounds_mono {P : Program} {c : Code} {Q Q' : Exit → Act → World → Prop} (h : ∀ e a w, Q e a w → Q' e a w) : ∀ (n : Nat) (a : Act) (w : World), Code.rounds P c Q n a w → Code.rounds P c Q' n a w
  | 0, _, _, hh => hh.elim
  | n + 1, a, w, hh => by
    rw [rounds_succ] at hh ⊢
    refine wp_mono hh fun e a w he => ?_
    cases e with
    | normal => exact rounds_mono h n a w he
    | _ => exact h _ _ _ he

theorem forgetFrom_getD (m : Nat) : ∀ (fr : Fr) (i t : Nat), (forgetFrom m i fr).getD t .undef = .bad ∨ (forgetFrom m i fr).getD t .undef = fr.getD t .undef
  | [], _, _ => .inr rfl
  | v :: vs, i, 0 => by
    show (bif m.testBit i then v else AV.bad) = .bad ∨ (bif m.testBit i then v else AV.bad) = v
    cases m.testBit i
    · exact .inl rfl
    · exact .inr rfl
  | v :: vs, i, t + 1 => by
    have := forgetFrom_getD m vs (i + 1) t
    simpa [forgetFrom] using this
theorem forgetFrom_length (m : Nat) : ∀ (fr : Fr) (i : Nat), (forgetFrom m i fr).length = fr.length
  | [], _ => rfl
  | v :: vs, i => by simp [forgetFrom, forgetFrom_length m vs (i + 1)]

theorem FrR.forget {ρ : Rho} {fr : Fr} {a : Act} (h : FrR ρ fr a) (m : Nat) : FrR ρ (forget m fr) a := by
  unfold AM.forget
  cases hm : (m == 0) with
  | true => rw [cond_true]; exact h
  | false =>
    rw [cond_false]
    refine ⟨by rw [forgetFrom_length]; exact h.1, fun t => ?_⟩
    rcases forgetFrom_getD m fr 0 t with e | e
    · exact .inl e
    · rw [e]; exact h.2 t

section
variable {P : Program} {callf : CallF} (hcall : CallsOK P callf) (hdraw : DrawOK P callf) (hmix : P.follows .mixedOrders = true) {B : Nat} {w0 : World}
include hcall hdraw hmix

omit hcall hdraw hmix in
theorem loop_sound (m : Nat) (c : Code) (body : (AE → Fr → H → Bool) → Fr → H → Bool)
    (hb : ∀ (K : AE → Fr → H → Bool) (ρ : Rho) (σ : H) (w : World) (fr : Fr) (a : Act), Sim B w0 ρ σ w → FrR ρ fr a → a.defers = [] → body K fr σ = true → c.wp P (Post B w0 ρ K) a w) :
    ∀ (n : Nat) (K : AE → Fr → H → Bool) (ρ : Rho) (σ : H) (w : World) (fr : Fr) (a : Act), Sim B w0 ρ σ w → FrR ρ fr a → a.defers = [] → loopK m body n K fr σ = true →
      Code.rounds P c (Post B w0 ρ K) n a w := by
  intro n
  induction n with
  | zero => intro K ρ σ w fr a _ _ _ h; cases h
  | succ n ih =>
    intro K ρ σ w fr a hsim hfr hd h
    rw [loopK, forgetK_eq] at h
    rw [rounds_succ]
    refine wp_mono (hb _ ρ σ w _ a hsim (hfr.forget m) hd h) fun e a' w' hp => ?_
    obtain ⟨e', fr', σ', ρ', h1, h2, h3, h4, h5, h6⟩ := hp
    cases e' with
    | normal =>
      cases e <;> simp only [ER] at h1
      exact rounds_mono (fun e a w hp => Post.mono h2 hp) n _ _ (ih K ρ' σ' w' fr' a' h4 h3 h5 h6)
    | exit i => cases e <;> simp only [ER] at h1; exact ⟨.exit i, fr', σ', ρ', h1, h2, h3, h4, h5, h6⟩
    | ret => cases e <;> simp only [ER] at h1; exact ⟨.ret, fr', σ', ρ', trivial, h2, h3, h4, h5, h6⟩

theorem exec_sound (M : Nat → Nat) (L : Nat) (c : Code) : ∀ (K : AE → Fr → H → Bool) (ρ : Rho) (σ : H) (w : World) (fr : Fr) (a : Act), Sim B w0 ρ σ w → FrR ρ fr a → a.defers = [] →
    exec P callf (drawRegion P) M L c K fr σ = true → c.wp P (Post B w0 ρ K) a w := by
  induction c with
  | skip => intro K ρ σ w fr a hsim hfr hd h; exact wp_skip ⟨.normal, fr, σ, ρ, trivial, .refl ρ, hfr, hsim, hd, h⟩
  | label l => intro K ρ σ w fr a hsim hfr hd h; exact wp_label ⟨.normal, fr, σ, ρ, trivial, .refl ρ, hfr, hsim, hd, h⟩
  | exit id => intro K ρ σ w fr a hsim hfr hd h; exact wp_exit ⟨.exit id, fr, σ, ρ, rfl, .refl ρ, hfr, hsim, hd, h⟩
  | ret => intro K ρ σ w fr a hsim hfr hd h; exact wp_ret ⟨.ret, fr, σ, ρ, trivial, .refl ρ, hfr, hsim, hd, h⟩
  | region id ops draw =>
    intro K ρ σ w fr a hsim hfr hd h
    cases draw with
    | true =>
      refine wp_region_any hmix ?_
      exact hdraw ops B w0 ρ σ _ fr a (K .normal) _ (hsim.world rfl rfl rfl rfl) hfr hd h fun fr' σ' ρ' a' w' h1 h2 h3 h4 h5 => ⟨.normal, fr', σ', ρ', trivial, h1, h2, h3, h4, h5⟩
    | false =>
      refine wp_region ?_
      have := seq_sound hcall ops (Q := Post B w0 ρ K) ops.toList 0 ρ σ w fr a (fun i => by simp) hsim hfr hd h fun fr' σ' ρ' a' w' h1 h2 h3 h4 h5 => ⟨.normal, fr', σ', ρ', trivial, h1, h2, h3, h4, h5⟩
      rw [Array.length_toList, ← List.range_eq_range'] at this
      exact this
  | seq x y ihx ihy =>
    intro K ρ σ w fr a hsim hfr hd h
    refine wp_seq (wp_mono (ihx _ ρ σ w fr a hsim hfr hd h) fun e a' w' hp => ?_)
    obtain ⟨e', fr', σ', ρ', h1, h2, h3, h4, h5, h6⟩ := hp
    cases e' with
    | normal =>
      cases e <;> simp only [ER] at h1
      exact wp_mono (ihy K ρ' σ' w' fr' a' h4 h3 h5 h6) fun e a w hp => Post.mono h2 hp
    | exit i => cases e <;> simp only [ER] at h1; exact ⟨.exit i, fr', σ', ρ', h1, h2, h3, h4, h5, h6⟩
    | ret => cases e <;> simp only [ER] at h1; exact ⟨.ret, fr', σ', ρ', trivial, h2, h3, h4, h5, h6⟩
  | cond c x y ihx ihy =>
    intro K ρ σ w fr a hsim hfr hd h
    rw [exec_cond] at h
    cases hok : operandOk c with
    | false => rw [hok] at h; cases h
    | true =>
      rw [hok, cond_true] at h
      split at h
      · rename_i t ht
        have hc := ev_VR hfr hok (by rw [ht]; rfl)
        rw [ht] at hc
        have hcc := hc.of_bool
        cases t with
        | true => rw [cond_true] at h; exact wp_cond_true hcc (ihx K ρ σ w fr a hsim hfr hd h)
        | false => rw [cond_false] at h; exact wp_cond_false hcc (ihy K ρ σ w fr a hsim hfr hd h)
      · cases h
  | block id body ih =>
    intro K ρ σ w fr a hsim hfr hd h
    refine wp_block (wp_mono (ih _ ρ σ w fr a hsim hfr hd h) fun e a' w' hp => ?_)
    obtain ⟨e', fr', σ', ρ', h1, h2, h3, h4, h5, h6⟩ := hp
    cases e' with
    | normal => cases e <;> simp only [ER] at h1; simp only [forgetK_eq] at h6; exact ⟨.normal, _, σ', ρ', trivial, h2, h3.forget _, h4, h5, h6⟩
    | exit i =>
      cases e <;> simp only [ER] at h1
      subst h1
      simp only [forgetK_eq] at h6
      show if i = id then _ else _
      cases hi : (i == id) with
      | true =>
        rw [hi, cond_true] at h6
        rw [if_pos (by simpa using hi)]
        exact ⟨.normal, _, σ', ρ', trivial, h2, h3.forget _, h4, h5, h6⟩
      | false =>
        rw [hi, cond_false] at h6
        rw [if_neg (by simpa using hi)]
        exact ⟨.exit i, fr', σ', ρ', rfl, h2, h3, h4, h5, h6⟩
    | ret => cases e <;> simp only [ER] at h1; exact ⟨.ret, fr', σ', ρ', trivial, h2, h3, h4, h5, h6⟩
  | loop body ih =>
    intro K ρ σ w fr a hsim hfr hd h
    exact wp_loop_rounds L (loop_sound _ body (exec P callf (drawRegion P) M L body) ih L K ρ σ w fr a hsim hfr hd h)
  | rangeFunc f ps as b => intro K ρ σ w fr a hsim hfr hd h; cases h
  | scope b => intro K ρ σ w fr a hsim hfr hd h; cases h
  | goto l => intro K ρ σ w fr a hsim hfr hd h; cases h
  | refuse s => intro K ρ σ w fr a hsim hfr hd h; cases h

end

/-- No function of the program is the one that counts goroutines. -/
def NoCount (P : Program) : Prop := ∀ (g : Nat) (fn : Func), P.funcs[g]? = some fn → fn.body.isSome = true → (fn.name == "runtime.NumGoroutine") = false

/-- One result of a call, read. -/
def oneResult (a : Act) : ResultVar → Sem Value
  | .tmp t => pure (a.tmps.getD t undef)
  | .cell x t => do loadVar t (← asAddr (a.tmps.getD x undef))

theorem result_sound {P : Program} {B : Nat} {w0 : World} {ρ : Rho} {σ : H} {w : World} (hsim : Sim B w0 ρ σ w) {fr : Fr} {a : Act} (hfr : FrR ρ fr a) : ∀ {rs : List ResultVar} {K : List AV → Bool},
    resultK P fr σ rs K = true → ∃ vs vcs, K vs = true ∧ VRs ρ vs vcs ∧ (rs.mapM (oneResult a)).run P w = .ok vcs w
  | [], K, h => ⟨[], [], h, .nil, rfl⟩
  | .tmp t :: rs, K, h => by
    rw [resultK] at h
    cases hn : notBad (fr.getD t .undef) with
    | false => rw [hn] at h; cases h
    | true =>
    rw [hn, cond_true] at h
    obtain ⟨vs, vcs, h1, h2, h3⟩ := result_sound hsim hfr h
    refine ⟨_, a.tmps.getD t undef :: vcs, h1, .cons ((hfr.getD t).get hn) h2, ?_⟩
    rw [List.mapM_cons]
    simp only [oneResult, Sem.run_bind, Sem.run_pure, Result.andThen_ok, h3]
  | .cell x t :: rs, K, h => by
    rw [resultK] at h
    have hx := hfr.getD x
    split at h
    · rename_i p hp
      have hx := hx.get (by rw [hp]; rfl)
      rw [hp] at hx
      obtain ⟨v, vc, h1, h2, _, h4⟩ := ld_ok (P := P) hsim hx t _ h
      obtain ⟨vs, vcs, g1, g2, g3⟩ := result_sound hsim hfr h1
      refine ⟨_, vc :: vcs, g1, .cons h2 g2, ?_⟩
      have ha : ∃ ad, a.tmps.getD x undef = .pointer (some ad) ∧ (loadVar t ad).run P w = .ok vc w := by
        generalize hq : a.tmps.getD x undef = q at hx h4
        cases hx with
        | ptr k1 k2 k3 k4 k5 => exact ⟨_, rfl, by simpa [Instr.loadAt, Instr.sureAddr] using h4⟩
      obtain ⟨ad, e1, e2⟩ := ha
      rw [List.mapM_cons]
      simp only [oneResult, e1, Sem.run_bind, asAddr, Sem.run_pure, Result.andThen_ok, e2, g3]
    · cases h

/-- A function's contract is borne out. -/
def SoundAt (P : Program) (g : Nat) (F : List AV → H → (AV → H → Bool) → Bool) : Prop :=
  ∀ (B : Nat) (w0 : World) (ρ : Rho) (σ : H) (w : World) (args : List AV) (argsc : Array Value) (K : AV → H → Bool), Sim B w0 ρ σ w → VRs ρ args argsc.toList → F args σ K = true →
    (callFunc g argsc).run P w = .ok (.enter g argsc) w ∧
    Calls P g argsc w fun e w' => ∃ v vc σ' ρ', e = .returned vc ∧ ρ.le ρ' ∧ VR ρ' v vc ∧ Sim B w0 ρ' σ' w' ∧ K v σ' = true
def TabOK (P : Program) (T : Tab) : Prop := ∀ (g : Nat) (F : List AV → H → (AV → H → Bool) → Bool), T.F g = some F → SoundAt P g F

theorem TabOK.none {P : Program} : TabOK P noTab := fun _ _ h => by cases h

theorem acall_sound {P : Program} {T : Tab} (hT : TabOK P T) (hmix : P.follows .mixedOrders = true) (hno : NoCount P) (hdraw : ∀ callf, CallsOK P callf → DrawOK P callf) : ∀ n, CallsOK P (acall P T (drawRegion P) n)
  | 0 => fun B w0 ρ σ w g args argsc K hsim hargs h => by
    rw [acall_zero] at h
    split at h
    · rename_i F hF
      exact hT g F hF B w0 ρ σ w args argsc K hsim hargs h
    · cases h
  | n + 1 => fun B w0 ρ σ w g args argsc K hsim hargs h => by
    have ih := acall_sound hT hmix hno hdraw n
    rw [acall_succ] at h
    split at h
    · rename_i F hF
      exact hT g F hF B w0 ρ σ w args argsc K hsim hargs h
    split at h
    · rename_i fn hfn
      split at h
      · rename_i c hc
        rw [forceL_eq] at h
        have hnm := hno g fn hfn (by rw [hc]; rfl)
        refine ⟨?_, ?_⟩
        · have hb : fn.body.isNone = false := by rw [hc]; rfl
          simp only [callFunc, Sem.run_bind, run_program, Result.andThen_ok, hfn]
          simp [hnm, hb]
        · have hl : args.length = argsc.size := by rw [← Array.length_toList]; exact hargs.1
          refine calls_of_wp hfn hc (wp_mono (exec_sound ih (hdraw _ ih) hmix (T.M g) n c _ ρ σ w _ { tmps := argsc ++ Array.replicate (fn.ntmps - argsc.size) undef, defers := [] } hsim ?_ rfl h) fun e a w' hp => ?_)
          · refine FrR.of_VRs ?_
            show VRs ρ _ (argsc ++ Array.replicate (fn.ntmps - argsc.size) undef).toList
            rw [Array.toList_append, Array.toList_replicate, hl]
            exact hargs.append (VRs.replicate _ VR.undef)
          · obtain ⟨e', fr', σ', ρ', h1, h2, h3, h4, h5, h6⟩ := hp
            have fin : (resultK P fr' σ' fn.results.toList fun vs => K (retV vs) σ') = true → bodyPost P fn (fun e w' => ∃ v vc σ' ρ', e = .returned vc ∧ ρ.le ρ' ∧ VR ρ' v vc ∧ Sim B w0 ρ' σ' w' ∧ K v σ' = true) .ret a w' := by
              intro hr
              obtain ⟨vs, vcs, g1, g2, g3⟩ := result_sound (P := P) h4 h3 hr
              have hrun : (results fn a.tmps).run P w' = .ok (if h : vcs.toArray.size = 1 then vcs.toArray[0] else .tuple vcs.toArray) w' := by
                unfold results
                rw [Sem.run_bind, Array.mapM_eq_mapM_toList, Sem.run_map]
                have hfun : (fun x : ResultVar => (match x with | .tmp t => pure (a.tmps.getD t undef) | .cell x t => do loadVar t (← asAddr (a.tmps.getD x undef)) : Sem Value)) = oneResult a := by
                  funext x
                  cases x <;> rfl
                refine (congrArg (fun r : Result (List Value) => (r.andThen fun a w' => Result.ok a.toArray w').andThen _) ((congrArg (fun f => (List.mapM f fn.results.toList).run P w') hfun).trans g3)).trans ?_
                rfl
              refine ⟨h5, _, hrun, _, _, σ', ρ', rfl, h2, ?_, h4, g1⟩
              match vs, vcs, g2 with
              | [], vcs, g2 => obtain rfl := g2.inv_nil; exact VR.mk_tup .nil
              | [v], vcs, g2 =>
                obtain ⟨vc, r, rfl, k1, k2⟩ := g2.inv_cons
                obtain rfl := k2.inv_nil
                exact k1
              | v :: u :: vs, vcs, g2 =>
                have h3 : ¬ vcs.toArray.size = 1 := by have := g2.1; simp at this ⊢; omega
                rw [dif_neg h3]
                exact VR.mk_tup g2
            cases e' with
            | normal => cases e <;> simp only [ER] at h1; exact fin h6
            | exit i => cases h6
            | ret => cases e <;> simp only [ER] at h1; exact fin h6
      · cases h
    · cases h

end Go.AM
