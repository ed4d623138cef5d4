/- Operations, and regions in the order of the text. -/
import Derived.Test.YtpagagiojnhhfaaAmEff7
import Derived.Orders
namespace Go.AM
open Go Go.RowKit

/-- What a call must bear. -/
def CallsOK (P : Program) (callf : CallF) : Prop :=
  ∀ (B : Nat) (w0 : World) (ρ : Rho) (σ : H) (w : World) (g : Nat) (args : List AV) (argsc : Array Value) (K : AV → H → Bool), Sim B w0 ρ σ w → VRs ρ args argsc.toList → callf g args σ K = true →
    (callFunc g argsc).run P w = .ok (.enter g argsc) w ∧
    Calls P g argsc w fun e w' => ∃ v vc σ' ρ', e = .returned vc ∧ ρ.le ρ' ∧ VR ρ' v vc ∧ Sim B w0 ρ' σ' w' ∧ K v σ' = true

theorem VR.to_bool {ρ : Rho} {x : AV} {b : Bool} (h : VR ρ x (.bool b)) : x = .bool b := by cases h; rfl

theorem mem_looks_guard {ops : Array Oper} {o : Oper} {j : Nat} {want : Bool} {d : Nat} (hg : o.guard = some (j, want)) (hd : (ops[j]?).bind (·.dst) = some d) : d ∈ looks ops.toList o := by
  unfold looks
  rw [hg, List.mem_append]
  right
  simp only [Array.getElem?_toList, hd, Option.toList_some, List.mem_singleton]

theorem wanted_of {ρ : Rho} {fr : Fr} {a : Act} (ops : Array Oper) (o : Oper) (h : ∀ t ∈ looks ops.toList o, TR ρ (fr.getD t .undef) (a.tmps.getD t undef)) {yes no : Unit → Bool} (hw : wantedK ops o fr yes no = true) :
    (Region.wanted o (yielded ops a.tmps) = true ∧ yes () = true) ∨ (Region.wanted o (yielded ops a.tmps) = false ∧ no () = true) := by
  unfold wantedK at hw
  unfold Region.wanted
  split at hw
  · rename_i hg
    rw [hg]; exact .inl ⟨rfl, hw⟩
  · rename_i j want hg
    rw [hg]
    simp only
    split at hw
    · rename_i d hd
      have hv := h d (mem_looks_guard hg hd)
      unfold yielded
      rw [hd]
      simp only [Option.bind_some]
      rw [Array.getD_eq_getD_getElem?] at hv
      split at hw
      · rename_i b hb
        rw [hb] at hv
        have hv := hv.get rfl
        cases hq : a.tmps[d]? with
        | none => rw [hq] at hv; cases hv
        | some u =>
          rw [hq, Option.getD_some] at hv
          obtain rfl := hv.of_bool
          simp only
          cases hbw : (b == want) with
          | true => rw [hbw] at hw; left; exact ⟨by simpa using hbw, hw⟩
          | false => rw [hbw] at hw; right; exact ⟨by simpa using hbw, hw⟩
      · cases hw
      · rename_i hnb hnbad
        right
        refine ⟨?_, hw⟩
        cases hq : a.tmps[d]? with
        | none => rfl
        | some u =>
          rw [hq, Option.getD_some] at hv
          have hv := hv.resolve_left hnbad
          cases u <;> first | rfl | (exact absurd hv.to_bool (hnb _))
    · rename_i hd
      unfold yielded
      rw [hd]
      exact .inr ⟨rfl, hw⟩

section
variable {P : Program} {callf : CallF} (hcall : CallsOK P callf) {B : Nat} {w0 : World} {ρ : Rho} {σ : H} {w : World}
include hcall

theorem op_sound (hsim : Sim B w0 ρ σ w) {fr : Fr} {a : Act} (o : Oper) (he : opOk o.op (ev fr) = true → EvR ρ (ev fr) a.eval o.op) {K : AV → H → Bool} (h : opK P callf o fr σ K = true) {N : Act → World → Prop} {Q : Exit → Act → World → Prop}
    (next : ∀ v vc σ' ρ' w', ρ.le ρ' → VR ρ' v vc → Sim B w0 ρ' σ' w' → K v σ' = true → N (a.put o.dst vc) w') : o.wp P a w N Q := by
  unfold opK at h
  simp only [splitB_eq] at h
  cases hok : opOk o.op (ev fr) with
  | false => rw [hok] at h; cases h
  | true =>
    rw [hok, cond_true] at h
    have he := he hok
    unfold Oper.wp
    split at h
    · rename_i hk
      obtain ⟨v, vc, h1, h2, _, h4⟩ := pure_sound (P := P) o he hk _ h
      rw [h4 w, Oper.upon_value]
      exact next v vc σ ρ w (.refl ρ) h2 hsim h1
    · rename_i hk
      obtain ⟨v, vc, h1, h2, _, h4⟩ := read_sound (P := P) hsim o he hk _ h
      rw [h4, Oper.upon_value]
      exact next v vc σ ρ w (.refl ρ) h2 hsim h1
    · rename_i hk
      rcases eff_sound (P := P) hsim o he hk K h with ⟨v, vc, σ', ρ', w', h1, h2, h3, h4, h5 | ⟨h5, rfl⟩⟩ | ⟨g, args, argsc, h1, h2, h3⟩
      · rw [h5, Oper.upon_value]; exact next v vc σ' ρ' w' h1 h2 h3 h4
      · rw [h5, Oper.upon_skip]; exact next v undef σ' ρ' w' h1 h2 h3 h4
      · obtain ⟨e1, e2⟩ := hcall B w0 ρ σ w g args argsc _ hsim h1 h3
        rw [h2, e1, Oper.upon_enter]
        refine e2.mono fun e w' hh => ?_
        obtain ⟨v, vc, σ', ρ', rfl, k1, k2, k3, k4⟩ := hh
        exact next v vc σ' ρ' w' k1 k2 k3 (castRes_of k4)

theorem seq_sound (ops : Array Oper) {K : Fr → H → Bool} {Q : Exit → Act → World → Prop} : ∀ (rest : List Oper) (k : Nat) (ρ : Rho) (σ : H) (w : World) (fr : Fr) (a : Act),
    (∀ i, rest[i]? = ops[k + i]?) → Sim B w0 ρ σ w → FrR ρ fr a → a.defers = [] → seqK P callf ops rest fr σ K = true →
    (∀ fr' σ' ρ' a' w', ρ.le ρ' → FrR ρ' fr' a' → Sim B w0 ρ' σ' w' → a'.defers = [] → K fr' σ' = true → Q .normal a' w') →
    wpOps P ops Q (List.range' k rest.length) a w
  | [], k, ρ, σ, w, fr, a, hr, hsim, hfr, hd, h, fin => fin fr σ ρ a w (.refl ρ) hfr hsim hd h
  | o :: rest, k, ρ, σ, w, fr, a, hr, hsim, hfr, hd, h, fin => by
    have ho : ops[k]? = some o := by have := hr 0; simpa using this.symm
    have hr' : ∀ i, rest[i]? = ops[k + 1 + i]? := fun i => by
      have := hr (i + 1); rw [List.getElem?_cons_succ] at this; rw [this]; congr 1; omega
    rw [List.length_cons, List.range'_succ]
    simp only [wpOps, ho]
    rw [seqK_cons] at h
    simp only [putK_eq] at h
    have hput : ∀ v, (a.put o.dst v).defers = [] := fun v => by cases hq : o.dst <;> simp [Act.put, hd]
    rcases wanted_of ops o (fun t _ => hfr.getD t) h with ⟨hw, h⟩ | ⟨hw, h⟩
    · rw [if_pos hw]
      refine .inl (op_sound hcall hsim o (ev_EvR hfr) h fun v vc σ' ρ' w' h1 h2 h3 h4 => ?_)
      exact seq_sound ops rest (k + 1) ρ' σ' w' _ _ hr' h3 ((hfr.mono h1).put o.dst h2) (hput _) h4 fun fr' σ'' ρ'' a' w'' g1 g2 g3 g4 g5 => fin fr' σ'' ρ'' a' w'' (h1.trans g1) g2 g3 g4 g5
    · rw [if_neg (by rw [hw]; simp)]
      exact seq_sound ops rest (k + 1) ρ σ w _ _ hr' hsim (hfr.put o.dst VR.undef) (hput _) h fin

end
end Go.AM
