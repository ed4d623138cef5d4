/- Regions whose order is drawn: what holds while AM runs ahead. -/
import Derived.Test.YtpagagiojnhhfaaAmDraw1
namespace Go.AM
open Go Go.RowKit

theorem aput_defers {a : Act} (h : a.defers = []) (dst : Option Nat) (v : Value) : (a.put dst v).defers = [] := by
  cases dst <;> simp [Act.put, h]
/-- What the region's text gives, once and for all. -/
structure Static (P : Program) (ops : Array Oper) (bef : List Nat) : Prop where
  edge : ∀ {i : Nat} {o : Oper} {e : Edge}, ops[i]? = some o → e ∈ o.after → Region.binds .any e = true → e.on < i ∧ Pre bef i e.on
  back : ∀ {i j : Nat} {o : Oper}, ops[i]? = some o → Pre bef i j → ∃ e ∈ o.after, Region.binds .any e = true ∧ (e.on = j ∨ Pre bef e.on j)
  uniq : ∀ {i j : Nat} {oi oj : Oper} {d : Nat}, ops[i]? = some oi → ops[j]? = some oj → oi.dst = some d → oj.dst = some d → i = j
  war : ∀ {i j : Nat} {oi oj : Oper} {d : Nat}, ops[i]? = some oi → ops[j]? = some oj → oi.dst = some d → d ∈ looks ops.toList oj → Pre bef j i ∨ (eager P oi.op = false ∧ (i = j ∨ Pre bef i j))

def Lag (G : Nat) (listed : Array Bool) (i : Nat) : Prop := G.testBit i = true ∧ listed.getD i false = false

structure Inv (P : Program) (ops : Array Oper) (bef : List Nat) (B : Nat) (w0 : World) (G : Nat) (hist : Hist) (σ : H) (fr : Fr) (listed : Array Bool) (a : Act) (w : World) (ρ : Rho) : Prop where
  sim : Sim B w0 ρ σ w
  defers : a.defers = []
  hyp : ∃ aH, FrR ρ fr aH
  len : fr.length = a.tmps.size
  clean : ∀ t, (∀ i o, Lag G listed i → ops[i]? = some o → o.dst ≠ some t) → TR ρ (fr.getD t .undef) (a.tmps.getD t undef)
  sub : ∀ i, listed.getD i false = true → G.testBit i = true
  gcl : ∀ i j, G.testBit i = true → Pre bef i j → G.testBit j = true
  lcl : ∀ i j, listed.getD i false = true → Pre bef i j → listed.getD j false = true
  gn : ∀ i, G.testBit i = true → i < ops.size
  sz : listed.size = ops.size
  lag : ∀ i o, Lag G listed i → ops[i]? = some o → eager P o.op = true ∧ ∃ v, (∀ d, o.dst = some d → d < fr.length → fr.getD d .undef = v) ∧ Evid P ops B w0 o v σ fr ∧
    ((∀ τ, Evid P ops B w0 o v τ fr) ∨ ∃ again, (i, again) ∈ hist ∧ ∀ τ, again τ = true → Evid P ops B w0 o v τ fr)

section
variable {P : Program} {ops : Array Oper} {bef : List Nat} (st : Static P ops bef) {B : Nat} {w0 : World} {G : Nat} {hist : Hist} {σ : H} {fr : Fr} {listed : Array Bool} {a : Act} {w : World} {ρ : Rho}

theorem mem_readyA {i : Nat} (h : i ∈ readyA ops.toList bef G) : i < ops.size ∧ G.testBit i = false ∧ ∀ j, Pre bef i j → G.testBit j = true := by
  unfold readyA at h
  rw [List.mem_filter, List.mem_range, Array.length_toList] at h
  obtain ⟨h1, h2⟩ := h
  simp only [Bool.and_eq_true, Bool.not_eq_true', beq_iff_eq] at h2
  refine ⟨h1, h2.1, fun j hj => ?_⟩
  have := congrArg (fun n => n.testBit j) h2.2
  simp only [Nat.testBit_and] at this
  unfold Pre at hj
  rw [hj] at this
  simpa using this

theorem readyA_mem {i : Nat} (h1 : i < ops.size) (h2 : G.testBit i = false) (h3 : ∀ j, Pre bef i j → G.testBit j = true) : i ∈ readyA ops.toList bef G := by
  unfold readyA
  rw [List.mem_filter, List.mem_range, Array.length_toList]
  refine ⟨h1, ?_⟩
  simp only [h2, Bool.not_false, Bool.true_and, beq_iff_eq]
  refine Nat.eq_of_testBit_eq fun j => ?_
  rw [Nat.testBit_and]
  cases hj : (bef.getD i 0).testBit j with
  | false => rfl
  | true => rw [h3 j hj]; rfl

theorem testBit_add (G i j : Nat) : (G ||| 2 ^ i).testBit j = true ↔ (G.testBit j = true ∨ i = j) := by
  rw [Nat.testBit_or, Nat.testBit_two_pow]; simp

include st
theorem Inv.ahead (I : Inv P ops bef B w0 G hist σ fr listed a w ρ) {i : Nat} {o : Oper} (hrd : i ∈ readyA ops.toList bef G) (ho : ops[i]? = some o) (heag : eager P o.op = true) {v : AV} {hist' : Hist}
    (hsub : ∀ r ∈ hist, r ∈ hist') (hE : Evid P ops B w0 o v σ fr) (hH : (∀ τ, Evid P ops B w0 o v τ fr) ∨ ∃ again, (i, again) ∈ hist' ∧ ∀ τ, again τ = true → Evid P ops B w0 o v τ fr)
    (hyp : ∃ aH, FrR ρ (put fr o.dst v) aH) : Inv P ops bef B w0 (G ||| 2 ^ i) hist' σ (put fr o.dst v) listed a w ρ := by
  obtain ⟨h1, h2, h3⟩ := mem_readyA hrd
  have hnl : listed.getD i false = false := by
    cases hq : listed.getD i false with
    | false => rfl
    | true => rw [I.sub i hq] at h2; cases h2
  have hlag : ∀ j, Lag G listed j → Lag (G ||| 2 ^ i) listed j := fun j hj => ⟨(testBit_add G i j).2 (.inl hj.1), hj.2⟩
  have hoff : ∀ j oj, ops[j]? = some oj → (G.testBit j = true ∨ j = i) → ∀ t ∈ looks ops.toList oj, o.dst ≠ some t := fun j oj hj hg t ht hd => by
    rcases st.war ho hj hd ht with h | h
    · rcases hg with hg | rfl
      · rw [I.gcl _ _ hg h] at h2; cases h2
      · rw [h3 _ h] at h2; cases h2
    · rw [heag] at h; cases h.1
  refine ⟨I.sim, I.defers, hyp, by rw [put_length]; exact I.len, fun t ht => ?_, fun j hj => (testBit_add G i j).2 (.inl (I.sub j hj)), fun j k hj hk => ?_, I.lcl, fun j hj => ?_, I.sz, fun j oj hj hoj => ?_⟩
  · rw [put_getD_ne (ht i o ⟨(testBit_add G i i).2 (.inr rfl), hnl⟩ ho)]
    exact I.clean t fun j oj hj hoj => ht j oj (hlag j hj) hoj
  · rcases (testBit_add G i j).1 hj with hj | rfl
    · exact (testBit_add G i k).2 (.inl (I.gcl j k hj hk))
    · exact (testBit_add G i k).2 (.inl (h3 k hk))
  · rcases (testBit_add G i j).1 hj with hj | rfl
    · exact I.gn j hj
    · exact h1
  · by_cases hij : i = j
    · subst hij
      rw [ho] at hoj
      obtain rfl := Option.some.inj hoj
      have hc : ∀ t ∈ looks ops.toList o, (put fr o.dst v).getD t .undef = fr.getD t .undef := fun t ht => put_getD_ne (hoff i o ho (.inr rfl) t ht)
      refine ⟨heag, v, fun d hd hl => ?_, hE.congr hc, hH.imp (fun h τ => (h τ).congr hc) fun ⟨again, k1, k2⟩ => ⟨again, k1, fun τ hτ => (k2 τ hτ).congr hc⟩⟩
      rw [hd] at hl ⊢
      rw [put_length] at hl
      exact put_getD_self hl
    · have hg : G.testBit j = true := ((testBit_add G i j).1 hj.1).resolve_right hij
      obtain ⟨e1, u, e2, e3, e4⟩ := I.lag j oj ⟨hg, hj.2⟩ hoj
      have hc : ∀ t ∈ looks ops.toList oj, (put fr o.dst v).getD t .undef = fr.getD t .undef := fun t ht => put_getD_ne (hoff j oj hoj (.inl hg) t ht)
      refine ⟨e1, u, fun d hd hl => ?_, e3.congr hc, e4.imp (fun h τ => (h τ).congr hc) fun ⟨again, k1, k2⟩ => ⟨again, hsub _ k1, fun τ hτ => (k2 τ hτ).congr hc⟩⟩
      rw [put_getD_ne fun he => hij (st.uniq ho hoj he hd)]
      exact e2 d hd (by rw [put_length] at hl; exact hl)

omit st in
theorem getD_list {listed : Array Bool} {i j : Nat} : (listed.setIfInBounds i true).getD j false = true → (j = i ∨ listed.getD j false = true) := fun h => by
  by_cases hij : i = j
  · exact .inl hij.symm
  · rw [getD_set_ne false hij] at h; exact .inr h

omit st in
theorem getD_false {listed : Array Bool} {i : Nat} (h : i < listed.size) : listed.getD i false = listed.getD i true := by
  simp [Array.getD_eq_getD_getElem?, h]

theorem pre_listed (I : Inv P ops bef B w0 G hist σ fr listed a w ρ) {i : Nat} {o : Oper} (ho : ops[i]? = some o) (hall : ∀ e ∈ o.after, Region.binds .any e = true → listed.getD e.on false = true) {j : Nat} (h : Pre bef i j) : listed.getD j false = true := by
  obtain ⟨e, h1, h2, h3⟩ := st.back ho h
  rcases h3 with rfl | h3
  · exact hall e h1 h2
  · exact I.lcl _ _ (hall e h1 h2) h3

theorem Inv.lookR (I : Inv P ops bef B w0 G hist σ fr listed a w ρ) {i : Nat} {o : Oper} (ho : ops[i]? = some o) (hall : ∀ e ∈ o.after, Region.binds .any e = true → listed.getD e.on false = true) : LookR ops o ρ fr a := fun t ht =>
  I.clean t fun j oj hj hoj hd => by
    rcases st.war hoj ho hd ht with h | h
    · have := pre_listed st I ho hall h
      rw [hj.2] at this; cases this
    · have := (I.lag j oj hj hoj).1
      rw [h.1] at this; cases this

theorem Inv.behind (I : Inv P ops bef B w0 G hist σ fr listed a w ρ) {i : Nat} {o : Oper} (ho : ops[i]? = some o) (hall : ∀ e ∈ o.after, Region.binds .any e = true → listed.getD e.on false = true)
    (hg : G.testBit i = true) {v : AV} (hd : ∀ d, o.dst = some d → d < fr.length → fr.getD d .undef = v) {vc : Value} (hv : VR ρ v vc) :
    Inv P ops bef B w0 G hist σ fr (listed.setIfInBounds i true) (a.put o.dst vc) w ρ := by
  have hlag : ∀ j, Lag G (listed.setIfInBounds i true) j → Lag G listed j := fun j hj => ⟨hj.1, by
    cases hq : listed.getD j false with
    | false => rfl
    | true => have := hj.2; rw [getD_set_true hq] at this; cases this⟩
  refine ⟨I.sim, aput_defers I.defers _ _, I.hyp, by rw [aput_size]; exact I.len, fun t ht => ?_, fun j hj => ?_, I.gcl, fun j k hj hk => ?_, I.gn, by rw [Array.size_setIfInBounds]; exact I.sz, fun j oj hj hoj => I.lag j oj (hlag j hj) hoj⟩
  · by_cases he : o.dst = some t
    · by_cases hl : t < fr.length
      · rw [hd t he hl, he, aput_getD_self (I.len ▸ hl)]
        exact .inr hv
      · rw [getD_out hl, agetD_out (by rw [aput_size, ← I.len]; exact hl)]
        exact .undef
    · rw [aput_getD_ne he]
      refine I.clean t fun j oj hj hoj => ?_
      by_cases hij : i = j
      · subst hij; rw [ho] at hoj; obtain rfl := Option.some.inj hoj; exact he
      · exact ht j oj ⟨hj.1, by rw [getD_set_ne false hij]; exact hj.2⟩ hoj
  · rcases getD_list hj with rfl | hj
    · exact hg
    · exact I.sub j hj
  · rcases getD_list hj with rfl | hj
    · exact getD_set_true (pre_listed st I ho hall hk)
    · exact getD_set_true (I.lcl j k hj hk)

theorem Inv.beside (I : Inv P ops bef B w0 G hist σ fr listed a w ρ) {i : Nat} {o : Oper} (ho : ops[i]? = some o) (hall : ∀ e ∈ o.after, Region.binds .any e = true → listed.getD e.on false = true)
    (hg : G.testBit i = false) {v : AV} {vc : Value} {σ' : H} {ρ' : Rho} {w' : World} (hle : ρ.le ρ') (hv : VR ρ' v vc) (hs : Sim B w0 ρ' σ' w')
    (hre : σ' = σ ∨ ∀ r ∈ hist, (bef.getD i 0).testBit r.1 = true ∨ r.2 σ' = true) :
    Inv P ops bef B w0 (G ||| 2 ^ i) hist σ' (put fr o.dst v) (listed.setIfInBounds i true) (a.put o.dst vc) w' ρ' := by
  have hlt : i < ops.size := (Array.getElem?_eq_some_iff.1 ho).1
  have hself : (listed.setIfInBounds i true).getD i false = true := by
    have : i < listed.size := by rw [I.sz]; exact hlt
    simp [Array.getD_eq_getD_getElem?, this]
  have hlag : ∀ j, Lag (G ||| 2 ^ i) (listed.setIfInBounds i true) j → i ≠ j ∧ Lag G listed j := fun j hj => by
    have hij : i ≠ j := fun e => by subst e; have := hj.2; rw [hself] at this; cases this
    exact ⟨hij, ((testBit_add G i j).1 hj.1).resolve_right hij, by have := hj.2; rwa [getD_set_ne false hij] at this⟩
  have hlag' : ∀ j, Lag G listed j → Lag (G ||| 2 ^ i) (listed.setIfInBounds i true) j := fun j hj => by
    have hij : i ≠ j := fun e => by subst e; rw [hj.1] at hg; cases hg
    exact ⟨(testBit_add G i j).2 (.inl hj.1), by rw [getD_set_ne false hij]; exact hj.2⟩
  refine ⟨hs, aput_defers I.defers _ _, ?_, by rw [put_length, aput_size]; exact I.len, fun t ht => ?_, fun j hj => ?_, fun j k hj hk => ?_, fun j k hj hk => ?_, fun j hj => ?_, by rw [Array.size_setIfInBounds]; exact I.sz, fun j oj hj hoj => ?_⟩
  · obtain ⟨aH, hH⟩ := I.hyp
    exact ⟨_, (hH.mono hle).put o.dst hv⟩
  · by_cases he : o.dst = some t
    · rw [he]
      by_cases hl : t < fr.length
      · rw [put_getD_self hl, aput_getD_self (I.len ▸ hl)]
        exact .inr hv
      · rw [getD_out (by rw [put_length]; exact hl), agetD_out (by rw [aput_size, ← I.len]; exact hl)]
        exact .undef
    · rw [put_getD_ne he, aput_getD_ne he]
      exact (I.clean t fun j oj hj hoj => ht j oj (hlag' j hj) hoj).mono hle
  · rcases getD_list hj with rfl | hj
    · exact (testBit_add G _ _).2 (.inr rfl)
    · exact (testBit_add G _ _).2 (.inl (I.sub j hj))
  · rcases (testBit_add G i j).1 hj with hj | rfl
    · exact (testBit_add G i k).2 (.inl (I.gcl j k hj hk))
    · exact (testBit_add G i k).2 (.inl (I.sub k (pre_listed st I ho hall hk)))
  · rcases getD_list hj with rfl | hj
    · exact getD_set_true (pre_listed st I ho hall hk)
    · exact getD_set_true (I.lcl j k hj hk)
  · rcases (testBit_add G i j).1 hj with hj | rfl
    · exact I.gn j hj
    · exact hlt
  · obtain ⟨hij, hj⟩ := hlag j hj
    obtain ⟨e1, u, e2, e3, e4⟩ := I.lag j oj hj hoj
    have hc : ∀ t ∈ looks ops.toList oj, (put fr o.dst v).getD t .undef = fr.getD t .undef := fun t ht => put_getD_ne fun hd => by
      rcases st.war ho hoj hd ht with h | ⟨_, h | h⟩
      · rw [I.gcl _ _ hj.1 h] at hg; cases hg
      · exact hij h
      · have := pre_listed st I ho hall h; rw [hj.2] at this; cases this
    refine ⟨e1, u, fun d hd hl => ?_, ?_, e4.imp (fun h τ => (h τ).congr hc) fun ⟨again, k1, k2⟩ => ⟨again, k1, fun τ hτ => (k2 τ hτ).congr hc⟩⟩
    · rw [put_getD_ne fun he => hij (st.uniq ho hoj he hd)]
      exact e2 d hd (by rw [put_length] at hl; exact hl)
    · rcases hre with rfl | hre
      · exact e3.congr hc
      · rcases e4 with h | ⟨again, k1, k2⟩
        · exact (h σ').congr hc
        · rcases hre _ k1 with h | h
          · have := pre_listed st I ho hall h; rw [hj.2] at this; cases this
          · exact (k2 _ h).congr hc

end
end Go.AM
