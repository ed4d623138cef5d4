/- Regions whose order is drawn: every order comes out as AM says. -/
import Derived.Test.YtpagagiojnhhfaaAmDraw2
namespace Go.AM
open Go Go.RowKit

theorem befs_keep : ∀ (os : List Oper) (acc : List Nat) (j : Nat), j < acc.length → (befs os acc).getD j 0 = acc.getD j 0
  | [], acc, j, h => rfl
  | o :: os, acc, j, h => by
    rw [befs, befs_keep os _ j (by simp; omega)]
    simp [List.getD_eq_getElem?_getD, List.getElem?_append_left h]

theorem befs_at : ∀ (os : List Oper) (acc : List Nat) (i : Nat) (o : Oper), os[i]? = some o → ∃ acc' : List Nat, acc'.length = acc.length + i ∧ (∀ j < acc'.length, (befs os acc).getD j 0 = acc'.getD j 0) ∧
    (befs os acc).getD (acc.length + i) 0 = edgeMask acc' o
  | [], acc, i, o, h => by simp at h
  | o' :: os, acc, 0, o, h => by
    simp at h
    subst h
    refine ⟨acc, rfl, fun j hj => befs_keep _ _ j hj, ?_⟩
    rw [befs, befs_keep _ _ _ (by simp)]
    simp [List.getD_eq_getElem?_getD]
  | o' :: os, acc, i + 1, o, h => by
    rw [List.getElem?_cons_succ] at h
    obtain ⟨acc', h1, h2, h3⟩ := befs_at os (acc ++ [edgeMask acc o']) i o h
    rw [List.length_append, List.length_singleton] at h1 h3
    refine ⟨acc', by omega, h2, ?_⟩
    rw [befs, ← h3]
    congr 1
    omega

theorem edgesOk_at : ∀ (os : List Oper) (k i : Nat) (o : Oper) (e : Edge), edgesOk os k = true → os[i]? = some o → e ∈ o.after → Region.binds .any e = true → e.on < k + i
  | [], k, i, o, e, h, ho, he, hb => by simp at ho
  | o' :: os, k, 0, o, e, h, ho, he, hb => by
    simp at ho
    subst ho
    simp only [edgesOk, Bool.and_eq_true, List.all_eq_true] at h
    have := h.1 e (by simpa using he)
    rw [hb] at this
    simpa using this
  | o' :: os, k, i + 1, o, e, h, ho, he, hb => by
    rw [List.getElem?_cons_succ] at ho
    simp only [edgesOk, Bool.and_eq_true] at h
    have := edgesOk_at os (k + 1) i o e h.2 ho he hb
    omega

theorem static_of {P : Program} {ops : Array Oper} (he : edgesOk ops.toList 0 = true) (ha : apartOk P ops.toList (befs ops.toList []) = true) : Static P ops (befs ops.toList []) := by
  have key : ∀ {i : Nat} {o : Oper}, ops[i]? = some o → ∀ j, Pre (befs ops.toList []) i j ↔ ∃ e ∈ o.after, Region.binds .any e = true ∧ (e.on = j ∨ Pre (befs ops.toList []) e.on j) := by
    intro i o ho j
    have ho' : ops.toList[i]? = some o := by simpa using ho
    obtain ⟨acc', h1, h2, h3⟩ := befs_at ops.toList [] i o ho'
    simp only [List.length_nil, Nat.zero_add] at h1 h3
    unfold Pre
    rw [h3, edgeMask, edgeMask_go]
    simp only [Nat.zero_testBit, Bool.false_eq_true, false_or, Array.mem_toList_iff]
    refine exists_congr fun e => and_congr_right fun hm => and_congr_right fun hb => ?_
    have hlt := edgesOk_at ops.toList 0 i o e he ho' hm hb
    rw [h2 e.on (by omega)]
  have apart : ∀ {i j : Nat} {oi oj : Oper} {d : Nat}, ops[i]? = some oi → ops[j]? = some oj → oi.dst = some d →
      (i = j ∨ oj.dst ≠ some d) ∧ (d ∉ looks ops.toList oj ∨ Pre (befs ops.toList []) j i ∨ (eager P oi.op = false ∧ (i = j ∨ Pre (befs ops.toList []) i j))) := by
    intro i j oi oj d hi hj hd
    have li : i < ops.toList.length := by rw [Array.length_toList]; exact (Array.getElem?_eq_some_iff.1 hi).1
    have lj : j < ops.toList.length := by rw [Array.length_toList]; exact (Array.getElem?_eq_some_iff.1 hj).1
    unfold apartOk at ha
    have h1 := List.all_eq_true.1 ha i (List.mem_range.2 li)
    have hi' : ops.toList[i]? = some oi := by simpa using hi
    have hj' : ops.toList[j]? = some oj := by simpa using hj
    simp only [hi', hd] at h1
    have h2 := List.all_eq_true.1 h1 j (List.mem_range.2 lj)
    simp only [hj', Bool.and_eq_true, Bool.or_eq_true, beq_iff_eq, bne_iff_ne, ne_eq, Bool.not_eq_true', List.contains_eq_mem, decide_eq_false_iff_not] at h2
    refine ⟨h2.1, ?_⟩
    rcases h2.2 with (h | h) | h
    · exact .inl h
    · exact .inr (.inl h)
    · exact .inr (.inr h)
  refine ⟨fun {i o e} ho hm hb => ⟨?_, (key ho e.on).2 ⟨e, hm, hb, .inl rfl⟩⟩, fun {i j o} ho hp => (key ho j).1 hp, fun hi hj hd hd' => (apart hi hj hd).1.resolve_right fun h => h hd', fun hi hj hd hl => (apart hi hj hd).2.resolve_left fun h => h hl⟩
  have := edgesOk_at ops.toList 0 i o e he (by simpa using ho) hm hb
  omega

theorem count_set {listed : Array Bool} {i m : Nat} (h : listed.getD i true = false) (hm : listed.toList.count false ≤ m + 1) : (listed.setIfInBounds i true).toList.count false ≤ m := by
  have hl : i < listed.size := by
    refine Nat.lt_of_not_le fun hq => ?_
    rw [Array.getD_eq_getD_getElem?, Array.getElem?_eq_none hq] at h
    cases h
  have hf : listed.toList[i]'(by simpa using hl) = false := by
    rw [Array.getD_eq_getD_getElem?, Array.getElem?_eq_getElem hl] at h
    simpa using h
  have hmem : false ∈ listed.toList := hf ▸ List.getElem_mem _
  have hpos := List.count_pos_iff.2 hmem
  rw [Array.toList_setIfInBounds, List.count_set (by simpa using hl), hf]
  show _ - 1 + 0 ≤ m
  omega

section
variable {P : Program} {callf : CallF} (hcall : CallsOK P callf) {ops : Array Oper} {bef : List Nat} (st : Static P ops bef) {B : Nat} {w0 : World} {ρ0 : Rho} {K : Fr → H → Bool} {Q : Exit → Act → World → Prop}
  (fin : ∀ fr' σ' ρ' a' w', ρ0.le ρ' → FrR ρ' fr' a' → Sim B w0 ρ' σ' w' → a'.defers = [] → K fr' σ' = true → Q .normal a' w')
include st

theorem all_listed {G : Nat} {hist : Hist} {σ : H} {fr : Fr} {listed : Array Bool} {a : Act} {w : World} {ρ : Rho} (I : Inv P ops bef B w0 G hist σ fr listed a w ρ) (h : Region.ready .any ops listed = []) :
    ∀ i, i < ops.size → listed.getD i false = true := fun i => by
  induction i using Nat.strongRecOn with
  | ind i ih =>
    intro hi
    cases hq : listed.getD i false with
    | true => rfl
    | false =>
      exfalso
      have : i ∈ Region.ready .any ops listed := mem_ready.2 ⟨by rw [← getD_false (by rw [I.sz]; exact hi)]; exact hq, ops[i], Array.getElem?_eq_getElem hi, fun e he hb => by
        obtain ⟨h1, _⟩ := st.edge (Array.getElem?_eq_getElem hi) he hb
        exact ih _ h1 (Nat.lt_trans h1 hi)⟩
      rw [h] at this
      cases this

include fin
omit st in
theorem draw_fin {G : Nat} {hist : Hist} {σ : H} {fr : Fr} {listed : Array Bool} {a : Act} {w : World} {ρ : Rho} (I : Inv P ops bef B w0 G hist σ fr listed a w ρ) (hle : ρ0.le ρ) (hall : ∀ i, i < ops.size → listed.getD i false = true)
    (h : readyA ops.toList bef G = [] → (bif G == 2 ^ ops.toList.length - 1 then K fr σ else false) = true) : Q .normal a w := by
  have hnil : readyA ops.toList bef G = [] := by
    cases hq : readyA ops.toList bef G with
    | nil => rfl
    | cons x xs =>
      obtain ⟨h1, h2, _⟩ := mem_readyA (by rw [hq]; exact List.mem_cons_self : x ∈ readyA ops.toList bef G)
      rw [I.sub x (hall x h1)] at h2
      cases h2
  have h := h hnil
  cases hG : (G == 2 ^ ops.toList.length - 1) with
  | false => rw [hG] at h; cases h
  | true =>
    rw [hG, cond_true] at h
    refine fin fr σ ρ a w hle ⟨I.len, fun t => I.clean t fun i o hi ho => ?_⟩ I.sim I.defers h
    have := hall i (Array.getElem?_eq_some_iff.1 ho).1
    rw [hi.2] at this
    cases this

include hcall
theorem draw_inv : ∀ (n G : Nat) (hist : Hist) (fr : Fr) (σ : H), drawK P callf ops ops.toList bef n G hist fr σ K = true →
    ∀ (m : Nat) (ρ : Rho) (listed : Array Bool) (a : Act) (w : World), Inv P ops bef B w0 G hist σ fr listed a w ρ → ρ0.le ρ → listed.toList.count false ≤ m → wpAny P .any ops Q m listed a w := by
  intro n
  induction n with
  | zero => intro G hist fr σ h; cases h
  | succ n ih =>
    intro G hist fr σ h
    rw [drawK] at h
    simp only [splitB_eq, putK_eq] at h
    split at h
    · rename_i i hi
      have hmem := List.mem_of_find?_eq_some hi
      have heag := List.find?_some hi
      split at h
      · rename_i o ho
        rw [ho] at heag
        simp only at heag
        have ho' : ops[i]? = some o := by simpa using ho
        intro m ρ listed a w I hle hm
        obtain ⟨aH, hH⟩ := I.hyp
        rcases wantedK_cases h with hw | hw
        · rw [hw] at h
          cases hok : opOk o.op (ev fr) with
          | false => rw [hok] at h; cases h
          | true =>
            rw [hok, cond_true] at h
            split at h
            · rename_i hk
              obtain ⟨v, vc, h1, h2, h3, _⟩ := pure_sound (P := P) o (ev_EvR hH hok) hk _ h
              have hE : ∀ τ, Evid P ops B w0 o v τ fr := fun τ => Evid.pure hw hok hk h3
              exact ih _ _ _ _ h1 m ρ listed a w (Inv.ahead st I hmem ho' heag (fun r hr => hr) (hE σ) (.inl hE) ⟨_, hH.put o.dst h2⟩) hle hm
            · rename_i hk
              obtain ⟨v, vc, h1, h2, h3, _⟩ := read_sound (P := P) I.sim o (ev_EvR hH hok) hk _ h
              have hE : Evid P ops B w0 o v σ fr := Evid.read hw hok hk (fun u => @decide (u = v) (Classical.propDecidable _)) (fun u hu => @of_decide_eq_true _ (Classical.propDecidable _) hu) (by rw [h3]; exact @decide_eq_true _ (Classical.propDecidable _) rfl)
              refine ih _ _ _ _ h1 m ρ listed a w (Inv.ahead st I hmem ho' heag (fun r hr => List.mem_cons_of_mem _ hr) hE (.inr ⟨_, List.mem_cons_self, fun τ hτ => ?_⟩) ⟨_, hH.put o.dst h2⟩) hle hm
              exact Evid.read hw hok hk _ (fun u hu => sameV_eq hu) hτ
            · cases h
        · rw [hw] at h
          have hE : ∀ τ, Evid P ops B w0 o .undef τ fr := fun τ => Evid.unwanted hw
          exact ih _ _ _ _ h m ρ listed a w (Inv.ahead st I hmem ho' heag (fun r hr => hr) (hE σ) (.inl hE) ⟨_, hH.put o.dst VR.undef⟩) hle hm
      · cases h
    · rename_i hnone
      intro m
      induction m with
      | zero =>
        intro ρ listed a w I hle hm
        have hall : ∀ i, i < ops.size → listed.getD i false = true := fun i hi => by
          cases hq : listed.getD i false with
          | true => rfl
          | false =>
            exfalso
            rw [getD_false (by rw [I.sz]; exact hi)] at hq
            have hl : i < listed.size := by rw [I.sz]; exact hi
            rw [Array.getD_eq_getD_getElem?, Array.getElem?_eq_getElem hl, Option.getD_some] at hq
            have : false ∈ listed.toList := by rw [← hq]; simp
            have := List.count_pos_iff.2 this
            omega
        refine ⟨List.eq_nil_iff_forall_not_mem.2 fun i hi => ?_, draw_fin fin I hle hall (fun hq => by rw [hq] at h; exact h)⟩
        obtain ⟨h1, o, h2, _⟩ := mem_ready.1 hi
        have hlt : i < ops.size := (Array.getElem?_eq_some_iff.1 h2).1
        rw [← getD_false (by rw [I.sz]; exact hlt), hall i hlt] at h1
        cases h1
      | succ m ihm =>
        intro ρ listed a w I hle hm
        refine ⟨fun hr => draw_fin fin I hle (all_listed st I hr) (fun hq => by rw [hq] at h; exact h), fun i hi => ?_⟩
        obtain ⟨h1, o, ho, hall⟩ := mem_ready.1 hi
        have hlook := I.lookR st ho hall
        have hlt : i < ops.size := (Array.getElem?_eq_some_iff.1 ho).1
        have hnl : listed.getD i false = false := by rw [getD_false (by rw [I.sz]; exact hlt)]; exact h1
        unfold wpOp
        simp only [ho]
        cases hg : G.testBit i with
        | true =>
          obtain ⟨_, v, e2, e3, _⟩ := I.lag i o ⟨hg, hnl⟩ ho
          obtain ⟨vc, hv, ⟨k1, k2⟩ | ⟨k1, rfl⟩⟩ := e3 ρ a w hlook I.sim
          · rw [if_pos k1]
            refine .inl ?_
            unfold Oper.wp
            rw [k2, Oper.upon_value]
            exact ihm ρ _ _ w (I.behind st ho hall hg e2 hv) hle (count_set h1 hm)
          · rw [if_neg (by rw [k1]; simp)]
            exact ihm ρ _ _ w (I.behind st ho hall hg e2 hv) hle (count_set h1 hm)
        | false =>
          have hrd : i ∈ readyA ops.toList bef G := readyA_mem hlt hg fun j hj => I.sub j (pre_listed st I ho hall hj)
          have ho' : ops.toList[i]? = some o := by simpa using ho
          split at h
          · rename_i hq; rw [hq] at hrd; cases hrd
          · have hb := List.all_eq_true.1 h i hrd
            simp only [ho'] at hb
            rcases wanted_of ops o hlook hb with ⟨hw, hb⟩ | ⟨hw, hb⟩
            · rw [if_pos hw]
              refine .inl (op_sound hcall I.sim o (fun hok => hlook.evR hok) hb fun v vc σ' ρ' w' k1 k2 k3 k4 => ?_)
              rw [Bool.and_eq_true, List.all_eq_true] at k4
              refine ih _ _ _ _ k4.2 m ρ' _ _ w' (I.beside st ho hall hg k1 k2 k3 (.inr fun r hr => ?_)) (hle.trans k1) (count_set h1 hm)
              have := k4.1 r hr
              simpa using this
            · rw [if_neg (by rw [hw]; simp)]
              exact ih _ _ _ _ hb m ρ _ _ w (I.beside st ho hall hg (.refl ρ) VR.undef I.sim (.inl rfl)) hle (count_set h1 hm)

end

theorem draw_ok (P : Program) (callf : CallF) (hcall : CallsOK P callf) : DrawOK P callf := by
  intro ops B w0 ρ σ w fr a K Q hsim hfr hd h fin
  unfold drawRegion at h
  simp only at h
  cases hq : (edgesOk ops.toList 0 && apartOk P ops.toList (befs ops.toList [])) with
  | false => rw [hq] at h; cases h
  | true =>
    rw [hq, cond_true] at h
    rw [Bool.and_eq_true] at hq
    have hf : ∀ j, (Array.replicate ops.size false).getD j false = false := fun j => by
      rw [Array.getD_eq_getD_getElem?, Array.getElem?_replicate]
      split <;> rfl
    have hnot : ∀ {p : Prop} {j : Nat}, (Array.replicate ops.size false).getD j false = true → p := fun {p j} hj => by rw [hf j] at hj; cases hj
    have hz : ∀ {p : Prop} {j : Nat}, (0 : Nat).testBit j = true → p := fun {p j} hj => by rw [Nat.zero_testBit] at hj; cases hj
    refine draw_inv hcall (static_of hq.1 hq.2) fin _ _ _ _ _ h ops.size ρ _ a w ⟨hsim, hd, ⟨a, hfr⟩, ?_, fun t _ => hfr.getD t, fun i hi => hnot hi, fun i j hi => hz hi, fun i j hi => hnot hi, fun i hi => hz hi, Array.size_replicate, fun i o hi => hz hi.1⟩ (.refl ρ) ?_
    · exact hfr.1
    · rw [Array.toList_replicate, List.count_replicate]; simp

theorem acall_ok {P : Program} {T : Tab} (hT : TabOK P T) (hmix : P.follows .mixedOrders = true) (hno : NoCount P) (n : Nat) : CallsOK P (acall P T (drawRegion P) n) := acall_sound hT hmix hno (draw_ok P) n

/-- What a function's own text gives, on top of contracts, is a contract. -/
theorem soundAt_of {P : Program} {T : Tab} (hT : TabOK P T) (hmix : P.follows .mixedOrders = true) (hno : NoCount P) {g : Nat} {F : List AV → H → (AV → H → Bool) → Bool}
    (h : ∀ args σ K, F args σ K = true → ∃ n, acall P T (drawRegion P) n g args σ K = true) : SoundAt P g F := fun B w0 ρ σ w args argsc K hs ha hF => by
  obtain ⟨n, hn⟩ := h args σ K hF
  exact acall_ok hT hmix hno n B w0 ρ σ w g args argsc K hs ha hn

end Go.AM
