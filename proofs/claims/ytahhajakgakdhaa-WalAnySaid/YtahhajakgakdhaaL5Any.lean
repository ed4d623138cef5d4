/- WalAny. -/
import Derived.Test.YtahhajakgakdhaaL5AnyP
import Derived.Test.YtahhajakgakdhaaL5Trees
import Derived.Test.YtahhajakgakdhaaGmRef
namespace Go.Proofs.Ytahhajakgakdhaa
set_option maxRecDepth 100000
open Go Go.AM Go.AM.St
attribute [local irreducible] IntKind.wrap Int.fdiv Int.tdiv Int.tmod BitVec.ofInt appendK sliceK indexAddrK ldK storeK seenK makeSliceK lookupK updateK deleteK mapK rangeK nextK keysF
variable {D : Drawer}
theorem storeR' {ρ : H} {id : Nat} {a b : SA} {r : RecP} {x y z : AV} {K : H → Bool} (hg : ρ[id]? = some (AO.cells [x, y, z] 3 .own))
    (hK : ∀ τ, τ[id]? = some (AO.cells [.int .i64 r.kind, .sl a r.nums.length, .sl b r.texts.length] 3 .own) → (∀ j, j ≠ id → τ[j]? = ρ[j]?) → τ.length = ρ.length → K τ = true) : storeK Try.prog 38 (.ptr (some ⟨id, 0, 0, 3⟩)) (recV a b r) ρ K = true :=
  storeS rfl hg rfl rfl (Nat.le_refl 3) rfl (hK _ (get_set hg _) (fun _ hj => List.getElem?_set_ne (Ne.symm hj)) (List.length_set ..))
theorem build1 {σ : H} {a b : SA} {r : RecP} {K : AV → H → Bool} (h : K (.sl (.at σ.length 0 3) 1) (σ ++ [AO.cells (recs [(a, b, r)]) 3 .own]) = true) : buildSliceK Try.prog 34 1 [(0, recV a b r)] σ K = true := by
  have e : recs [(a, b, r)] = [.int .i64 r.kind, .sl a r.nums.length, .sl b r.texts.length] := rfl
  rw [e] at h
  conv => lhs; whnf
  exact h
attribute [local irreducible] buildSliceK
theorem walAny_run {n : Nat} {a s x y : SA} {as' : List Nat} {l : List El} {r : RecP} (hn : l.length + 2000000 ≤ n) (hD : ByPlan Try.prog D) (hT : ByTree Try.prog D) (hl : l.length ≤ 9223372036854775807)
    {σ : H} (ha : Rw σ 1 a as'.length (u8s as')) (la : ∀ b ∈ as', b < 256) (hs : Rw σ 3 s l.length (recs l)) (hi : IsRs σ l) (ho : ∀ e ∈ l, OkR e.2.2) (hr : IsR σ x y r) (hor : OkR r) :
    acall Try.prog tab D n 4 [.sl a as'.length, .sl s l.length, recV x y r] σ isTrue = true := by
  obtain ⟨n, rfl, hn⟩ := up hn
  have nm1 : mayN [108, 111, 103] = true := by decide
  have pb := List.prefix_append σ [AO.cells [AV.int .i64 r.kind, .sl x r.nums.length, .sl y r.texts.length] 3 .own]
  have gb := get_new σ (AO.cells [AV.int .i64 r.kind, .sl x r.nums.length, .sl y r.texts.length] 3 .own)
  conv => lhs; whnf
  refine begun_spec ?_
  conv => lhs; whnf
  refine short_own (by omega) (m := 40) rfl (by decide) (ha.mono pb) _ fun a1 σ1 p1 r1 => ?_
  have lx : ∀ b ∈ as'.take 40, b < 256 := fun b h => la b (List.mem_of_mem_take h)
  have sx : (as'.take 40).length ≤ 40 := by rw [List.length_take]; omega
  generalize as'.take 40 = xs at r1 lx sx ⊢
  conv => lhs; whnf
  refine few_spec (m := 4) rfl (by decide) (by omega) hl (hs.mono (pb.trans p1)) (hi.mono (pb.trans p1)) ho hD fun o2 a2 L σ2 p2 l2 is2 f2 r2 => ?_
  have hLr := r2.rw
  have eL := encL_small f2
  conv => lhs; whnf
  refine loop_rule (m := 803) (fun q fr τ => ∃ (z : Int) (i : Nat) (o : Option Nat) (b : SA), z = (i : Int) ∧ i + q = L.length ∧
      fr = [.sl a1 xs.length, .sl a2 L.length, .bad, .bad, .bad, .ptr (some ⟨σ.length, 0, 0, 3⟩), .bad, .bad, .sl b (encFr (rlE (L.take i))).length, .int .i64 z, .bad, .bad, .bad, .bad, .bad, .bad, .bad, .bad, .bad, .bad, .bad, .bad, .bad, .bad, .bad, .bad, .bad, .bad, .bad, .bad, .bad, .bad, .bad, .bad, .bad, .bad, .bad, .bad, .bad, .bad, .bad, .bad, .bad, .bad, .bad, .bad, .bad, .bad, .bad, .bad, .bad, .bad, .bad, .bad, .bad, .bad, .bad, .bad, .bad, .bad, .bad, .bad, .bad, .bad, .bad, .bad, .bad, .bad, .bad, .bad, .bad, .bad, .bad, .bad, .bad, .bad, .bad, .bad, .bad, .bad, .bad, .bad, .bad, .bad, .bad, .bad, .bad, .bad, .bad, .bad, .bad, .bad, .bad, .bad, .bad, .bad, .bad, .bad, .bad, .bad, .bad, .bad, .bad, .bad, .bad, .bad, .bad, .bad, .bad, .bad, .bad, .bad, .bad, .bad, .bad, .bad] ∧ σ2 <+: τ ∧ Own σ2 τ 1 o b (encFr (rlE (L.take i))).length (u8s (encFr (rlE (L.take i))))) ?_ _ L.length _ _ (by omega)
      ⟨_, 0, none, .nil, rfl, by omega, rfl, List.prefix_rfl, Own.nil _ _ _⟩
  rintro q fr τ C ⟨z, i, o, b, rfl, hq, rfl, hp, how⟩ next fin
  conv => lhs; whnf
  by_cases hlt : i < L.length
  · rw [show decide ((i : Int) < (L.length : Int)) = true from decide_eq_true (by omega)]
    have he := f2 _ (List.getElem_mem hlt)
    have hie := is2 _ (List.getElem_mem hlt)
    have hE := rlE_take hlt
    have hlen : (encFr (rlE (L.take (i + 1)))).length ≤ 10000 := by
      have := encL_small (L := L.take (i + 1)) fun e he => f2 e (List.mem_of_mem_take he)
      rw [List.length_take] at this
      omega
    conv => lhs; whnf
    refine idx60 hLr rfl hlt fun p hp' => ?_
    conv => lhs; whnf
    generalize hle : L[i] = e at he hie hp' hE
    refine ldE (hp'.mono hp) ?_
    conv => lhs; whnf
    refine rframe_spec (by omega) he.t he.n (hie.mono hp) he.ok hD (fun h => by rw [he.may] at h; cases h) fun _ o3 a3 σ3 p3 r3 => ?_
    conv => lhs; whnf
    refine bt.app (hp.trans p3) (how.mono p3) r3.rw (encFr (rlE (L.take (i + 1)))) (by rw [hE, encFr_snoc]) (by omega) fun o4 a4 σ4 p4 _ _ _ r4 => ?_
    conv => lhs; whnf
    exact next (q - 1) _ _ (by omega) ⟨_, i + 1, o4, a4, inc_i64 (by omega), by omega, rfl, p4, r4⟩
  rw [show decide ((i : Int) < (L.length : Int)) = false from decide_eq_false (by omega)]
  rw [show L.take i = L from List.take_of_length_le (by omega)] at how ⊢
  conv => lhs; whnf
  refine fin _ _ _ nofun ?_
  clear next fin
  conv => lhs; whnf
  have r1' : Rw τ 1 a1 xs.length (u8s xs) := (r1.rw.mono p2).mono hp
  refine bt.app hp how r1' (encFr (rlE L) ++ xs) rfl (by rw [List.length_append]; omega) fun o3 a3 σ3 p3 _ _ _ r3 => ?_
  have lP : ∀ b ∈ encFr (rlE L) ++ xs, b < 256 := fun b h => (List.mem_append.1 h).elim (encFr_ok (okL f2) b) (lx b)
  have sP : (encFr (rlE L) ++ xs).length ≤ 2000 := by rw [List.length_append]; omega
  generalize encFr (rlE L) ++ xs = P at r3 lP sP ⊢
  conv => lhs; whnf
  refine rscan_spec (by omega) (by omega) hD r3.rw lP fun o4 a4 W σ4 p4 is4 e4 r4 => ?_
  have hWl : W.length ≤ 2000 := by
    have h1 := congrArg List.length e4
    have h2 := scanL_len (P.length + 1) P
    simp only [List.length_map] at h1
    have h3 : (scanF P).1.length ≤ P.length := h2
    omega
  have hPc : (P.take (scanF P).2).length ≤ 2000 := by rw [List.length_take]; omega
  conv => lhs; whnf
  refine dv_new (by omega) fun σ5 B m F5 p5 d5 g5 => ?_
  have Q4 : σ2 <+: σ4 := p3.trans p4
  have Q5 : σ2 <+: σ5 := Q4.trans p5
  have gb5 := prefix_get (p1.trans (p2.trans Q5)) gb
  have hr5 := hr.mono (pb.trans (p1.trans (p2.trans Q5)))
  have nF5 : ¬ F5 σ.length := fun h => by
    have h1 := g5 _ h
    have h2 := get_lt (prefix_get (p1.trans (p2.trans Q4)) gb)
    omega
  have l23 : σ.length < σ3.length := get_lt (prefix_get (p1.trans (p2.trans p3)) gb)
  have RW5 : RQ σ5 (FW F5 σ.length) a4 W := RQ.ofOwn (r4.mono p5) (fun id e hf => by
    subst e
    obtain ⟨_, _, _, _, h2, h3, _⟩ := r4
    have := get_lt h3
    rcases hf with hf | hf
    · have := g5 id hf
      omega
    · omega) (is4.mono p5)
  have hO5 : OkS ⟨[], -1, false, 0⟩ 0 0 := ⟨by show (-1 : Int) ≤ -1; decide, by show (-1 : Int) ≤ _; decide, Nat.le_refl _, Nat.le_refl _, fun x hx => by cases hx⟩
  conv => lhs; whnf
  refine dv_app (name := [108, 111, 103]) (by omega) d5 hO5 (by decide) ((r3.rw.mono p4).mono p5) (by omega) fun σ6 F6 d6 s6 => ?_
  have eA : dApp [108, 111, 103] P ⟨[], -1, false, 0⟩ = (⟨[⟨[108, 111, 103], P, 0, false⟩], -1, false, 1⟩, 0) := by
    unfold dApp
    rw [if_neg nf, if_neg (by rw [nm1]; decide), if_neg n1]; rfl
  rw [eA] at d6
  have nF6 : ¬ F6 σ.length := fun h => (s6.fp _ h).elim nF5 fun h => by have := get_lt gb5; omega
  have gb6 := (s6.keep _ (get_lt gb5) nF5).trans gb5
  have RW6 := RW5.step (s6.fw σ.length)
  have hr6 : IsR σ6 x y r := ⟨Rw.ext hr5.nums s6.ext, Rw.ext hr5.texts s6.ext⟩
  have hO6 : OkS ⟨[⟨[108, 111, 103], P, 0, false⟩], -1, false, 1⟩ 1 2000 := OkS.one rfl (Nat.le_refl _) (Nat.le_refl _) sP (Nat.zero_le _) lP
  conv => lhs; whnf
  refine open_spec (name := [108, 111, 103]) hD d6 hO6 (by omega) (by decide) (by decide) (fun h => absurd open_one h) fun _ σ7 F7 Wp o7 w7 G ws7 s7 hW7 is7 e7 r7 f7 => ?_
  rw [wRecs_one] at e7
  have eGW : rlE G = rlE W := e7.trans e4.symm
  have hGl : G.length = W.length := by have := congrArg List.length eGW; simpa using this
  obtain ⟨s', t', o', eO, hs', ho'⟩ := open_any (nm := [108, 111, 103]) (b := P) (s := 0) (t := false) (o := 1) (Nat.zero_le _)
  rw [eO] at ws7
  have S7 := s7.opened hW7
  have RW7 := RW6.step (S7.fw σ.length)
  have nF7 : ¬ FW F7 Wp σ.length := fun h => (S7.fp _ h).elim nF6 fun h => by have := get_lt gb6; omega
  have gb7 := (s7.keep _ (get_lt gb6) nF6).trans gb6
  have hr7 : IsR σ7 x y r := ⟨Rw.ext hr6.nums s7.ext, Rw.ext hr6.texts s7.ext⟩
  have hO7 : OkS ⟨[⟨[108, 111, 103], P.take (scanF P).2, s', t'⟩], -1, false, o'⟩ 2 2000 := OkS.one rfl ho' (by decide) hPc hs' fun b hb => lP b (List.mem_of_mem_take hb)
  have small : ∀ rs, rs = (scanF P).1 → ∀ q ∈ rs, q.nums.length ≤ 50 ∧ q.texts.length ≤ 50 := fun rs e q hq => by
    subst e
    have := scanF_small P q hq
    omega
  have G50 : ∀ e ∈ G, e.2.2.nums.length ≤ 50 ∧ e.2.2.texts.length ≤ 50 := fun e he => small _ e7 _ (List.mem_map_of_mem (f := fun x : El => x.2.2) he)
  conv => lhs; whnf
  refine eqs_spec (by omega) (by omega) r7.rw RW7.rw is7 RW7.is G50 hD fun σ8 p8 => ?_
  rw [recsEq_iff.2 eGW]
  have ws8 := ws7.mono p8
  have RW8 := RW7.mono p8
  have gb8 := prefix_get p8 gb7
  have hr8 := hr7.mono p8
  conv => lhs; whnf
  refine len_spec (by omega) ws8.w ?_
  rw [hGl]
  conv => lhs; whnf
  rw [show (!((W.length : Int) == (W.length : Int))) = false by simp]
  conv => lhs; whnf
  refine ldR gb8 ?_
  conv => lhs; whnf
  refine rec_spec (by omega) hD hr8 fun x9 y9 σ9 p9 i9 => ?_
  have oc := hor.cut
  have n9 : (cutR r).nums.length ≤ 50 := by show (r.nums.take 45).length ≤ _; rw [List.length_take]; omega
  have t9 : (cutR r).texts.length ≤ 50 := by show (r.texts.take 45).length ≤ _; rw [List.length_take]; omega
  generalize cutR r = rc at i9 oc n9 t9
  have gb9 := prefix_get p9 gb8
  conv => lhs; whnf
  refine storeR' gb9 fun σA gbA kA lA => ?_
  have StA : Stp (FW (FW F7 Wp) σ.length) (FW (FW F7 Wp) σ.length) σ9 σA :=
    ⟨Nat.le_of_eq lA.symm, fun id _ hf => kA id fun e => hf (.inr e), fun _ h => .inl h, Ext.ne gb9 nofun kA⟩
  have ws9 := ws8.mono p9
  have wsA : WS σA B m ⟨[⟨[108, 111, 103], P.take (scanF P).2, s', t'⟩], -1, false, o'⟩ F7 Wp [108, 111, 103] G.length false :=
    ⟨ws9.d.keep fun id hf => kA id fun e => nF7 (.inl (by subst e; exact hf)), (kA Wp fun e => nF7 (.inr e.symm)).trans ws9.w, ws9.f⟩
  have RWA := (RW8.mono p9).step StA
  have iA : IsR σA x9 y9 rc := ⟨Rw.ext i9.nums StA.ext, Rw.ext i9.texts StA.ext⟩
  conv => lhs; whnf
  refine ldR gbA ?_
  conv => lhs; whnf
  refine rmay_spec (by omega) t9 n9 iA fun σB pB => ?_
  have gbB := prefix_get pB gbA
  have wsB := wsA.mono pB
  have RWB := RWA.mono pB
  have iB := iA.mono pB
  have row1 : ∀ τ : H, IsR τ x9 y9 rc → IsRs (τ ++ [AO.cells (recs [(x9, y9, rc)]) 3 .own]) [(x9, y9, rc)] ∧ Rw (τ ++ [AO.cells (recs [(x9, y9, rc)]) 3 .own]) 3 (.at τ.length 0 3) 1 (recs [(x9, y9, rc)]) := fun τ h => ⟨fun e he => by
    rw [List.mem_singleton] at he; subst he; exact h.mono (List.prefix_append _ _), Rw.new _ _ rfl⟩
  cases hmay : mayR rc with
  | false =>
    obtain ⟨iC, rC⟩ := row1 σB iB
    have pC := List.prefix_append σB [AO.cells (recs [(x9, y9, rc)]) 3 .own]
    conv => lhs; whnf
    refine ldR gbB ?_
    conv => lhs; whnf
    refine build1 ?_
    conv => lhs; whnf
    refine wadd_spec (L := [(x9, y9, rc)]) hD (by show 1 + _ ≤ _; omega) (by show 1 ≤ _; omega) (wsB.mono pC) rfl hO7 (by decide) (by omega) rC iC (fun e he => by rw [List.mem_singleton] at he; subst he; exact oc) (fun h => by have := h _ (List.mem_singleton.2 rfl); rw [hmay] at this; cases this) (fun _ σD pD => ?_) (fun h => by have := h _ (List.mem_singleton.2 rfl); rw [hmay] at this; cases this)
    conv => lhs; whnf
    refine len_spec (by omega) ((wsB.mono pC).mono pD).w ?_
    rw [hGl]
    conv => lhs; whnf
    rw [show ((W.length : Int) == (W.length : Int)) = true by simp]
    conv => lhs; whnf
  | true =>
    obtain ⟨iC, rC⟩ := row1 σB iB
    have pC := List.prefix_append σB [AO.cells (recs [(x9, y9, rc)]) 3 .own]
    have hFine : Fine rc := ⟨hmay, oc.ns⟩
    have hpl := putF_len hmay
    have eR : encFr (rlE [(x9, y9, rc)]) = putF rc := by show putF rc ++ [] = _; rw [List.append_nil]
    conv => lhs; whnf
    refine ldR gbB ?_
    conv => lhs; whnf
    refine build1 ?_
    conv => lhs; whnf
    refine wadd_spec (L := [(x9, y9, rc)]) hD (by show 1 + _ ≤ _; omega) (by show 1 ≤ _; omega) (wsB.mono pC) rfl hO7 (by decide) (by omega) rC iC (fun e he => by rw [List.mem_singleton] at he; subst he; exact oc) (fun _ => by rw [eR]; omega) (fun ⟨e, he, hn⟩ => by rw [List.mem_singleton] at he; subst he; rw [hmay] at hn; cases hn) fun _ σD FD wsD sD => ?_
    rw [eR, writes_one nm1] at wsD ⊢
    have RWD := (RWB.mono pC).step (sD.fw σ.length)
    have nFD : ¬ FW FD Wp σ.length := fun h => (sD.fp _ h).elim nF7 fun h => by have := get_lt gbB; rw [List.length_append] at h; omega
    have gbD := (sD.keep _ (get_lt (prefix_get pC gbB)) nF7).trans (prefix_get pC gbB)
    have iD : IsR σD x9 y9 rc := ⟨Rw.ext (iB.mono pC).nums sD.ext, Rw.ext (iB.mono pC).texts sD.ext⟩
    have lQ : ∀ b ∈ P.take (scanF P).2 ++ putF rc, b < 256 := fun b h => (List.mem_append.1 h).elim (fun h => lP b (List.mem_of_mem_take h)) (putF_lt (fun t ht => (oc.ts t ht).1) b)
    have sQ : (P.take (scanF P).2 ++ putF rc).length ≤ 12000 := by rw [List.length_append]; omega
    have eQ : (scanF (P.take (scanF P).2 ++ putF rc)).1 = (scanF P).1 ++ [rc] := scanF_more hFine P
    have smallQ := scanF_small (P.take (scanF P).2 ++ putF rc)
    generalize P.take (scanF P).2 ++ putF rc = Q at wsD lQ sQ eQ smallQ
    have hOD : OkS ⟨[⟨[108, 111, 103], Q, Q.length, true⟩], -1, false, o' + 2⟩ 4 12000 := OkS.one rfl (by omega) (by decide) sQ (Nat.le_refl _) lQ
    conv => lhs; whnf
    refine dv_crash hD wsD.d hOD (by omega) (by decide) fun σE FE dE sE => ?_
    rw [crash_one] at dE
    have nF1 : ¬ FD σ.length := fun h => nFD (.inl h)
    have gbE := (sE.keep _ (get_lt gbD) nF1).trans gbD
    have nFE : ¬ FE σ.length := fun h => (sE.fp _ h).elim nF1 fun h => by have := get_lt gbD; omega
    have RWE := (RWD.other (F' := FD) fun id _ hf => .inl (.inl hf)).step sE
    have iE : IsR σE x9 y9 rc := ⟨Rw.ext iD.nums sE.ext, Rw.ext iD.texts sE.ext⟩
    have hOE := hOD.crash (keep := 0)
    rw [crash_one] at hOE
    conv => lhs; whnf
    refine open_spec (name := [108, 111, 103]) hD dE hOE (by omega) (by decide) (by decide) (fun h => absurd open_one h) fun _ σG FG' WG oG wG G2 wsG sG hWG isG eG rG fG => ?_
    rw [wRecs_one] at eG
    have gbG := (sG.keep _ (get_lt gbE) nFE).trans gbE
    have RWG := RWE.step sG
    have iG : IsR σG x9 y9 rc := ⟨Rw.ext iE.nums sG.ext, Rw.ext iE.texts sG.ext⟩
    have G250 : ∀ e ∈ G2, e.2.2.nums.length ≤ 50 ∧ e.2.2.texts.length ≤ 50 := fun e he => by
      have := smallQ e.2.2 (eG ▸ List.mem_map_of_mem (f := fun x : El => x.2.2) he)
      omega
    have hG2 : rlE G2 = rlE (W ++ [(x9, y9, rc)]) := by
      rw [eG, eQ, ← e4]
      show _ = List.map _ _
      rw [List.map_append]; rfl
    have hG2l : G2.length = W.length + 1 := by have := congrArg List.length hG2; simpa using this
    conv => lhs; whnf
    refine goT hT tree4x26 ordT4x26 fun KK hKK => ?_
    conv => lhs; whnf
    refine ldR gbG ?_
    conv => lhs; whnf
    have fin2 : ∀ (τ : H) (aw : SA), σG <+: τ → Rw τ 3 aw (W ++ [(x9, y9, rc)]).length (recs (W ++ [(x9, y9, rc)])) → IsRs τ (W ++ [(x9, y9, rc)]) → ∀ (K : AV → H → Bool), (∀ τ', K (.bool true) τ' = true) → ∀ k, k = n → acall Try.prog tab D k 26 [.sl wG G2.length, .sl aw (W ++ [(x9, y9, rc)]).length] τ K = true := fun τ aw hp hw hi K hK k hk => by
      subst hk
      refine eqs_spec (by omega) (by omega) (rG.rw.mono hp) hw (isG.mono hp) hi G250 hD fun σ12 p12 => ?_
      rw [recsEq_iff.2 hG2]
      exact hK σ12
    refine and_true ?_ ?_
    · conv => lhs; whnf
      refine appQ List.prefix_rfl (L := []) (Own.nil _ _ _) (IsRs.nil _) RWG.rw rfl RWG.is (by rw [List.nil_append]; omega) fun oH aH σH pH xH wH isH => ?_
      rw [List.nil_append] at wH isH ⊢
      conv => lhs; whnf
      refine and_true (all_cons ?_ rfl) ?_
      · conv => lhs; whnf
        refine ldR (prefix_get pH gbG) ?_
        exact same_rec _ _ _
      obtain ⟨iI, rI⟩ := row1 σH (iG.mono pH)
      have pI := List.prefix_append σH [AO.cells (recs [(x9, y9, rc)]) 3 .own]
      conv => lhs; whnf
      refine build1 ?_
      conv => lhs; whnf
      refine appQ (M := [(x9, y9, rc)]) (pH.trans pI) (wH.mono pI) (isH.mono pI) rI rfl iI (by rw [List.length_append]; show _ + 1 ≤ _; omega) fun oJ aJ σJ pJ xJ wJ isJ => ?_
      conv => lhs; whnf
      refine fin2 σJ aJ pJ wJ.rw isJ _ (fun τ' => ?_) _ rfl
      conv => lhs; whnf
      subst hKK
      conv => lhs; whnf
    · obtain ⟨iI, rI⟩ := row1 σG iG
      have pI := List.prefix_append σG [AO.cells (recs [(x9, y9, rc)]) 3 .own]
      show Go.AM.stepT Try.prog _ _ 7 [] _ _ _ _ _ = true
      refine stepT_hide fun ih hih => ?_
      conv => lhs; whnf
      refine build1 ?_
      conv => lhs; whnf
      subst hih
      conv => lhs; whnf
      refine appQ List.prefix_rfl (L := []) (Own.nil _ _ _) (IsRs.nil _) (RWG.rw.mono pI) rfl (RWG.is.mono pI) (by rw [List.nil_append]; omega) fun oH aH σH pH' xH wH isH => ?_
      have pH := pI.trans pH'
      replace wH := wH.low (σ0 := σG) (prefix_len pI)
      rw [List.nil_append] at wH isH ⊢
      conv => lhs; whnf
      refine and_true (all_cons ?_ rfl) ?_
      · conv => lhs; whnf
        refine ldR (prefix_get pH gbG) ?_
        exact same_rec _ _ _
      conv => lhs; whnf
      refine appQ (M := [(x9, y9, rc)]) pH wH isH (rI.mono pH') rfl (iI.mono pH') (by rw [List.length_append]; show _ + 1 ≤ _; omega) fun oJ aJ σJ pJ xJ wJ isJ => ?_
      conv => lhs; whnf
      refine fin2 σJ aJ pJ wJ.rw isJ _ (fun τ' => ?_) _ rfl
      conv => lhs; whnf
      subst hKK
      conv => lhs; whnf
theorem walAny_law (σ : H) (vs : List AV) (h : ArgsShp Try.prog σ 9 [22, 34, 38] vs) : ∃ n, acall Try.prog tab (drawRegion Try.prog) n 4 vs σ isTrue = true := by
  obtain ⟨a, vs, rfl, ha, h⟩ := args_cons h
  obtain ⟨b, vs, rfl, hb, h⟩ := args_cons h
  obtain ⟨c, vs, rfl, hc, h⟩ := args_cons h
  obtain rfl := args_nil h
  obtain ⟨t, cs, rfl, b1, b2, b3⟩ := arg_bytes Try.underlying22 Try.underlying5 rfl ha
  obtain ⟨s, l, rfl, a1, a2, a3, a4⟩ := arg_recs hb
  obtain ⟨x, y, r, rfl, c1, c2⟩ := rec_arg hc
  exact ⟨l.length + 2000000, walAny_run (Nat.le_refl _) (byPlan _) (byTree _) a4 b1 b3 a1 a2 a3 c1 c2⟩
end Go.Proofs.Ytahhajakgakdhaa
