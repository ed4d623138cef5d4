/- Every pure operation. -/
import Derived.Test.YtpagagiojnhhfaaAmPure4
namespace Go.AM
open Go Go.RowKit

/-- A temporary: forgotten, or what stands for it. -/
def TR (ρ : Rho) (v : AV) (vc : Value) : Prop := v = .bad ∨ VR ρ v vc
theorem TR.mono {ρ ρ' : Rho} (hle : ρ.le ρ') {v : AV} {vc : Value} (h : TR ρ v vc) : TR ρ' v vc := h.imp id (VR.mono hle)
theorem TR.undef {ρ : Rho} : TR ρ .undef Go.undef := .inr VR.undef
theorem TR.get {ρ : Rho} {v : AV} {vc : Value} (h : TR ρ v vc) (hn : notBad v = true) : VR ρ v vc := by
  rcases h with rfl | h
  · cases hn
  · exact h

/-- A frame and what stands for it. -/
def FrR (ρ : Rho) (fr : Fr) (a : Act) : Prop := fr.length = a.tmps.size ∧ ∀ t, TR ρ (fr.getD t .undef) (a.tmps.getD t Go.undef)
theorem FrR.mono {ρ ρ' : Rho} (hle : ρ.le ρ') {fr : Fr} {a : Act} (h : FrR ρ fr a) : FrR ρ' fr a := ⟨h.1, fun t => (h.2 t).mono hle⟩
theorem FrR.getD {ρ : Rho} {fr : Fr} {a : Act} (h : FrR ρ fr a) (t : Nat) : TR ρ (fr.getD t .undef) (a.tmps.getD t undef) := h.2 t

theorem FrR.of_VRs {ρ : Rho} {fr : Fr} {a : Act} (h : VRs ρ fr a.tmps.toList) : FrR ρ fr a := by
  have e : fr.length = a.tmps.size := by have := h.1; rwa [Array.length_toList] at this
  refine ⟨e, fun t => .inr ?_⟩
  rw [List.getD_eq_getElem?_getD]
  by_cases ht : t < fr.length
  · obtain ⟨vc, h1, h2⟩ := VRs.get h (List.getElem?_eq_getElem ht)
    rw [List.getElem?_eq_getElem ht]
    have : a.tmps[t]? = some vc := by simpa using h1
    simp only [Option.getD_some, Array.getD_eq_getD_getElem?, this]
    exact h2
  · have h' : ¬ t < a.tmps.size := by rw [← e]; exact ht
    rw [List.getElem?_eq_none (by omega), Array.getD_eq_getD_getElem?, Array.getElem?_eq_none (by omega)]
    exact VR.undef

theorem put_length (fr : Fr) (dst : Option Nat) (v : AV) : (put fr dst v).length = fr.length := by
  cases dst <;> simp [put]
theorem put_getD_ne {fr : Fr} {dst : Option Nat} {v : AV} {t : Nat} (h : dst ≠ some t) : (put fr dst v).getD t .undef = fr.getD t .undef := by
  cases dst with
  | none => rfl
  | some d =>
    have : d ≠ t := fun e => h (e ▸ rfl)
    simp [put, List.getD_eq_getElem?_getD, List.getElem?_set_ne this]
theorem put_getD_self {fr : Fr} {d : Nat} {v : AV} (h : d < fr.length) : (put fr (some d) v).getD d .undef = v := by
  simp [put, List.getD_eq_getElem?_getD, List.getElem?_set_self h]
theorem aput_getD_ne {a : Act} {dst : Option Nat} {v : Value} {t : Nat} (h : dst ≠ some t) : (a.put dst v).tmps.getD t undef = a.tmps.getD t undef := by
  cases dst with
  | none => rfl
  | some d =>
    have : d ≠ t := fun e => h (e ▸ rfl)
    simp [Act.put, Array.getD_eq_getD_getElem?, Array.getElem?_setIfInBounds_ne this]
theorem aput_getD_self {a : Act} {d : Nat} {v : Value} (h : d < a.tmps.size) : (a.put (some d) v).tmps.getD d undef = v := by
  simp [Act.put, Array.getD_eq_getD_getElem?, h]
theorem aput_size (a : Act) (dst : Option Nat) (v : Value) : (a.put dst v).tmps.size = a.tmps.size := by
  cases dst <;> simp [Act.put]
theorem getD_out {fr : Fr} {t : Nat} (h : ¬ t < fr.length) : fr.getD t .undef = .undef := by
  simp [List.getD_eq_getElem?_getD, List.getElem?_eq_none (Nat.le_of_not_lt h)]
theorem agetD_out {a : Act} {t : Nat} (h : ¬ t < a.tmps.size) : a.tmps.getD t undef = undef := by
  simp [Array.getD_eq_getD_getElem?, Array.getElem?_eq_none (Nat.le_of_not_lt h)]

theorem FrR.put {ρ : Rho} {fr : Fr} {a : Act} (h : FrR ρ fr a) (dst : Option Nat) {v : AV} {vc : Value} (hv : VR ρ v vc) : FrR ρ (put fr dst v) (a.put dst vc) := by
  refine ⟨by rw [put_length, aput_size]; exact h.1, fun t => ?_⟩
  by_cases he : dst = some t
  · rw [he]
    by_cases hl : t < fr.length
    · rw [put_getD_self hl, aput_getD_self (h.1 ▸ hl)]
      exact .inr hv
    · rw [getD_out (by rw [put_length]; exact hl), agetD_out (by rw [aput_size, ← h.1]; exact hl)]
      exact .undef
  · rw [put_getD_ne he, aput_getD_ne he]
    exact h.2 t

/-- What operands come to: one reading of AM's, one of the model's. -/
def EvR (ρ : Rho) (e : Operand → AV) (ec : Operand → Value) (o : Op) : Prop := ∀ x ∈ o.operands, VR ρ (e x) (ec x)

theorem ev_VR {ρ : Rho} {fr : Fr} {a : Act} (h : FrR ρ fr a) {x : Operand} (hx : operandOk x = true) (hn : notBad (ev fr x) = true) : VR ρ (ev fr x) (a.eval x) := by
  cases x with
  | tmp t => exact (h.getD t).get hn
  | const v => exact constOk_VR hx
  | global g => cases hx
  | func f => exact .fn f [] #[] rfl fun i v vc hv => by simp at hv

theorem ev_EvR {ρ : Rho} {fr : Fr} {a : Act} (h : FrR ρ fr a) {o : Op} (ho : opOk o (ev fr) = true) : EvR ρ (ev fr) a.eval o := fun x hx => by
  unfold opOk at ho
  rw [List.all_eq_true] at ho
  have := ho x (by simpa using hx)
  rw [Bool.and_eq_true] at this
  exact ev_VR h this.1 this.2

theorem PureOK.exec {P : Program} {ρ : Rho} {f : (AV → Bool) → Bool} {s : Sem Value} (h : PureOK P ρ f s) (K : AV → Bool) (hK : f K = true) :
    ∃ v vc, K v = true ∧ VR ρ v vc ∧ (∀ K', f K' = K' v) ∧ ∀ w, (do pure (Next.value (← s)) : Sem Next).run P w = .ok (.value vc) w := by
  obtain ⟨v, vc, h1, h2, h3, h4⟩ := h K hK
  exact ⟨v, vc, h1, h2, h3, fun w => by simp [h4]⟩

theorem evals_VRs {ρ : Rho} {e : Operand → AV} {ec : Operand → Value} : ∀ {l : List Operand}, (∀ x ∈ l, VR ρ (e x) (ec x)) → VRs ρ (l.map e) (l.map ec)
  | [], _ => .nil
  | x :: l, h => .cons (h x (by simp)) (evals_VRs fun y hy => h y (by simp [hy]))

theorem OVR_map {ρ : Rho} {e : Operand → AV} {ec : Operand → Value} {o : Option Operand} (h : ∀ x ∈ o, VR ρ (e x) (ec x)) : OVR ρ (o.map e) (o.map ec) := by
  cases o with
  | none => trivial
  | some x => exact h x rfl

theorem len_ok {P : Program} {ρ : Rho} {x : AV} {xc : Value} (hx : VR ρ x xc) (t ty : TypeId) : PureOK P ρ (lenK P t x) (Builtin.len_ #[t] ty #[xc]) := by
  intro K h
  unfold lenK at h
  split at h
  · rename_i s ht
    obtain ⟨b, rfl, rfl⟩ := hx.of_str
    refine ⟨_, _, h, .int .i64 _, fun K' => by simp only [lenK, ht], fun w => ?_⟩
    rw [bytesL_length]
    simp [Builtin.len_, run_underlying ht, goInt]
  · rename_i e a n ht
    refine ⟨_, .int .i64 n, h, .int .i64 _, fun K' => by simp only [lenK, ht], fun w => ?_⟩
    cases hx <;> simp [Builtin.len_, run_underlying ht, goInt]
  · rename_i n e ht
    refine ⟨_, _, h, .int .i64 n, fun K' => by simp only [lenK, ht], fun w => ?_⟩
    cases xc <;> simp [Builtin.len_, run_underlying ht, goInt]
  · rename_i k e ht
    refine ⟨_, _, h, .int .i64 0, fun K' => by simp only [lenK, ht], fun w => ?_⟩
    cases hx
    simp [Builtin.len_, run_underlying ht, goInt]
  · cases h

theorem build_ok {P : Program} {ρ : Rho} {parts : List (Nat × AV)} {partsC : Array (Nat × Value)} (hp : PartsR ρ parts partsC.toList) (t : TypeId) :
    PureOK P ρ (buildK P t parts) (Instr.build t partsC) := by
  intro K h
  unfold buildK at h
  split at h
  · rename_i fs ht
    cases hall : fs.toList.all (fun f => (P.info? f.type).isSome) with
    | false => rw [hall] at h; cases h
    | true =>
    rw [hall, cond_true] at h
    obtain ⟨z, zc, h, hz, ez, hzr, i, hi, hiz, hofc⟩ := zeroK_of (ρ := ρ) h
    split at h
    · rename_i cs hfill
      have hpl : (fun i => (fs[i]?).map fun (f : Field) => (f.offset, P.cellsOf f.type)) = fun i => (fs.map fun (f : Field) => (f.offset, P.cellsOf f.type))[i]? := funext fun i => by
        rw [Array.getElem?_map]
      have hfill' := hfill
      rw [hpl] at hfill'
      obtain ⟨vs', h1, h2⟩ := fill_ok hp.1 hp.2 hz.cells hfill'
      refine ⟨_, .agg vs', h, by have := VR.mk_agg h2; simpa using this, fun K' => ?_, fun w => ?_⟩
      · simp only [buildK, ht, hall, cond_true]; rw [ez]; simp only [hfill]
      · have hm : ∀ w, (fs.mapM fun f => (do pure (f.offset, ← sizeOf f.type) : Sem (Nat × Nat))).run P w = .ok (fs.map fun f => (f.offset, P.cellsOf f.type)) w := fun w => by
          rw [Array.mapM_eq_mapM_toList, Sem.run_map, mapM_places w fs fs.toList (List.all_eq_true.1 hall)]
          simp [← Array.toList_map]
        simp only [Instr.build, Sem.run_bind, hzr, Result.andThen_ok, run_underlying ht, hm, h1, Sem.run_pure]
    · cases h
  · rename_i n e ht
    obtain ⟨z, zc, h, hz, ez, hzr, i, hi, hiz, hofc⟩ := zeroK_of (ρ := ρ) h
    split at h
    · rename_i ie hie
      split at h
      · rename_i cs hfill
        obtain ⟨vs', h1, h2⟩ := fill_ok hp.1 hp.2 hz.cells hfill
        refine ⟨_, .agg vs', h, by have := VR.mk_agg h2; simpa using this, fun K' => ?_, fun w => ?_⟩
        · simp only [buildK, ht]; rw [ez]; simp only [hie, hfill]
        · simp only [Instr.build, Sem.run_bind, hzr, Result.andThen_ok, run_underlying ht, run_sizeOf_of hie, h1, Sem.run_pure]
      · cases h
    · cases h
  · cases h

theorem parts_R {ρ : Rho} {e : Operand → AV} {ec : Operand → Value} {ps : Array (Nat × Operand)} (h : ∀ p ∈ ps.toList, VR ρ (e p.2) (ec p.2)) :
    PartsR ρ (ps.toList.map fun (i, x) => (i, e x)) (ps.map fun (i, x) => (i, ec x)).toList := by
  refine ⟨by simp, fun j p q hp hq => ?_⟩
  rw [Array.toList_map, List.getElem?_map] at hq
  rw [List.getElem?_map] at hp
  cases hj : ps.toList[j]? with
  | none => rw [hj] at hp; simp at hp
  | some r =>
    rw [hj] at hp hq
    simp only [Option.map_some, Option.some.injEq] at hp hq
    subst hp hq
    exact ⟨rfl, h r (List.mem_of_getElem? hj)⟩

theorem pure_sound {P : Program} {ρ : Rho} (o : Oper) {e : Operand → AV} {ec : Operand → Value} (he : EvR ρ e ec o.op) (hk : kindOf P o.op = .pure) (K : AV → Bool)
    (h : pureK P o.op e K = true) : ∃ v vc, K v = true ∧ VR ρ v vc ∧ (∀ K', pureK P o.op e K' = K' v) ∧ ∀ w, (execOp ec o).run P w = .ok (.value vc) w := by
  obtain ⟨dst, op, ty, pos, after, guard⟩ := o
  simp only at he hk h ⊢
  unfold pureK at h
  split at h
  · rename_i x
    exact ⟨_, _, h, he x (by simp [Op.operands]), fun K' => rfl, fun w => by simp [execOp]⟩
  · rename_i x
    exact ⟨_, _, h, he x (by simp [Op.operands]), fun K' => rfl, fun w => by simp [execOp]⟩
  · rename_i c a b
    have hc := he c (by simp [Op.operands])
    split at h
    · rename_i t ht
      rw [ht] at hc
      have hcc := hc.of_bool
      cases t with
      | true => exact ⟨_, _, h, he a (by simp [Op.operands]), fun K' => by simp only [pureK, ht, cond_true], fun w => by simp [execOp, hcc, Go.asBool]⟩
      | false => exact ⟨_, _, h, he b (by simp [Op.operands]), fun K' => by simp only [pureK, ht, cond_false], fun w => by simp [execOp, hcc, Go.asBool]⟩
    · cases h
  · rename_i x
    have hx := he x (by simp [Op.operands])
    split at h
    · rename_i a ha
      rw [ha] at hx
      have hx' := hx
      generalize hxc : ec x = xc at hx
      cases hx with
      | ptr h1 h2 h3 h4 h5 => exact ⟨_, ec x, h, hx', fun K' => by simp only [pureK, ha], fun w => by simp [execOp, hxc]⟩
    · rename_i f cs ha
      rw [ha] at hx
      obtain ⟨vs, hv, _⟩ := hx.of_fn
      exact ⟨_, ec x, h, hx, fun K' => by simp only [pureK, ha], fun w => by simp [execOp, hv]⟩
    · cases h
  · rename_i bop t x y u
    exact PureOK.exec (bin_ok (he x (by simp [Op.operands])) (he y (by simp [Op.operands])) bop t x y) K h
  · rename_i uop t x
    exact PureOK.exec (un_ok (he x (by simp [Op.operands])) uop) K h
  · rename_i s d x
    exact PureOK.exec (conv_ok (he x (by simp [Op.operands])) s d) K h
  · rename_i f first caps
    cases hf : first.isEmpty with
    | false => rw [hf] at h; cases h
    | true =>
      rw [hf, cond_true] at h
      have hf' : first = #[] := by simpa using hf
      subst hf'
      have hv := evals_VRs (l := caps.toList) (ρ := ρ) (e := e) (ec := ec) fun x hx => he x (by simp [Op.operands]; simpa using hx)
      refine ⟨_, .func (.func f) #[] (caps.map ec), h, .fn f _ _ (by simp) (fun i v vc a b => hv.2 i v vc a ?_), fun K' => by simp [pureK], fun w => by simp [execOp, Instr.makeFunc]⟩
      rw [← Array.toList_map]; simpa using b
  · rename_i t x lo hi mx
    have ho : ∀ y, (y = x ∨ y ∈ lo ∨ y ∈ hi ∨ y ∈ mx) → VR ρ (e y) (ec y) := fun y hy => he y (by
      rcases hy with rfl | hy | hy | hy
      · simp [Op.operands]
      all_goals (simp only [Option.mem_def] at hy; subst hy; simp [Op.operands]))
    exact PureOK.exec (slice_ok (ho x (.inl rfl)) (OVR_map fun y hy => ho y (.inr (.inl hy))) (OVR_map fun y hy => ho y (.inr (.inr (.inl hy)))) (OVR_map fun y hy => ho y (.inr (.inr (.inr hy)))) t) K h
  · rename_i s x f
    have hx := he x (by simp [Op.operands])
    split at h
    · rename_i fs id b d z hs ha
      rw [ha] at hx
      split at h
      · rename_i fd hfd
        obtain ⟨i, hi, hz, h, ez⟩ := esizeK_of h
        cases hc : decide (d + fd.offset < z) with
        | false => rw [hc] at h; cases h
        | true =>
          rw [hc, cond_true] at h
          generalize hxc : ec x = xc at hx
          cases hx with
          | @ptr _ _ _ _ cs c h1 h2 h3 h4 h5 =>
            refine ⟨_, _, h, VR.ptr (d := d + fd.offset) h1 h2 h3 h4 (by simpa using hc), fun K' => by simp only [pureK, hs, ha, hfd]; rw [ez, hc, cond_true], fun w => ?_⟩
            have e1 : (⟨c.blk, c.boff + (b + d - c.lo), none⟩ : Addr).add fd.offset = ⟨c.blk, c.boff + (b + (d + fd.offset) - c.lo), none⟩ := by
              rw [Addr.add_none]; congr 1; omega
            have e2 : i.size ≠ 0 := by omega
            simp [execOp, Instr.fieldAt, Instr.sureAddr, run_underlying hs, hfd, hxc, fieldPlace, run_sizeOf_of hi, e1, e2]
      · cases h
    · cases h
  · rename_i t x f
    have hx := he x (by simp [Op.operands])
    split at h
    · rename_i fs cs ht ha
      rw [ha] at hx
      obtain ⟨vs, hvs, hv⟩ := hx.of_agg
      split at h
      · rename_i fd hfd
        obtain ⟨v, vc, h1, h2, h3, h4⟩ := part_ok (P := P) hv fd.type fd.offset K h
        exact ⟨v, vc, h1, h2, fun K' => by simp only [pureK, ht, ha, hfd]; exact h3 K', fun w => by simp [execOp, Instr.field, run_underlying ht, hfd, hvs, Go.asAgg, h4]⟩
      · cases h
    · cases h
  · rename_i t x i
    exact PureOK.exec (indexAddr_ok (he x (by simp [Op.operands])) (he i (by simp [Op.operands])) t) K h
  · rename_i t x i
    exact PureOK.exec (index_ok (he x (by simp [Op.operands])) (he i (by simp [Op.operands])) t) K h
  · rename_i x i
    have hx := he x (by simp [Op.operands])
    split at h
    · rename_i vs ha
      rw [ha] at hx
      obtain ⟨vc, hvc, hv⟩ := hx.of_tup
      split at h
      · rename_i v hvi
        obtain ⟨u, hu, hr⟩ := hv.get hvi
        have hu' : vc[i]? = some u := by simpa using hu
        exact ⟨v, u, h, hr, fun K' => by simp only [pureK, ha, hvi], fun w => by simp [execOp, Instr.extract, hvc, hu']⟩
      · cases h
    · cases h
  · rename_i t parts
    have hp := parts_R (ps := parts) (ρ := ρ) (e := e) (ec := ec) fun p hp => he p.2 (by simp [Op.operands]; exact ⟨p.1, by simpa using hp⟩)
    exact PureOK.exec (build_ok hp t) K h
  · rename_i args argTypes
    split at h
    · rename_i x t ha ht
      have ha' : args = #[x] := by apply Array.ext'; rw [ha]
      have ht' : argTypes = #[t] := by apply Array.ext'; rw [ht]
      subst ha' ht'
      obtain ⟨v, vc, h1, h2, h3, h4⟩ := len_ok (P := P) (he x (by simp [Op.operands, Call.operands])) t ty K h
      exact ⟨v, vc, h1, h2, fun K' => by simp only [pureK]; exact h3 K', fun w => by simp [execOp, resolve, invoke, builtin, h4]⟩
    · cases h
  · rename_i args argTypes
    split at h
    · rename_i x rest ha
      have hv := evals_VRs (l := args.toList) (ρ := ρ) (e := e) (ec := ec) fun x hx => he x (by simp [Op.operands, Call.operands]; simpa using hx)
      rw [ha] at hv
      obtain ⟨xc, restC, hc, hxr, hr⟩ := hv.inv_cons
      obtain ⟨v, vc, h1, h2, h3, h4⟩ := minmax_ok (P := P) true hxr hr K h
      refine ⟨v, vc, h1, h2, fun K' => by simp only [pureK, ha]; exact h3 K', fun w => ?_⟩
      have := h4 w
      simp only [if_true] at this
      simp [execOp, resolve, invoke, builtin, Builtin.min_, hc, this]
    · cases h
  · rename_i args argTypes
    split at h
    · rename_i x rest ha
      have hv := evals_VRs (l := args.toList) (ρ := ρ) (e := e) (ec := ec) fun x hx => he x (by simp [Op.operands, Call.operands]; simpa using hx)
      rw [ha] at hv
      obtain ⟨xc, restC, hc, hxr, hr⟩ := hv.inv_cons
      obtain ⟨v, vc, h1, h2, h3, h4⟩ := minmax_ok (P := P) false hxr hr K h
      refine ⟨v, vc, h1, h2, fun K' => by simp only [pureK, ha]; exact h3 K', fun w => ?_⟩
      have := h4 w
      simp only [Bool.false_eq_true, if_false] at this
      simp [execOp, resolve, invoke, builtin, Builtin.max_, hc, this]
    · cases h
  · cases h

end Go.AM
