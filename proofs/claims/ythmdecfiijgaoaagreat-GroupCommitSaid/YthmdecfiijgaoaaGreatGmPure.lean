/- Pure operations: what AM makes of them is what the model makes of them, in whatever world. Pure operations, the rest; and all of them in one law. Pure operations: addresses, parts, aggregates; and all of them in one law. Pure operations: aggregates, lengths, least and greatest; and all of them in one law. Every pure operation. -/
import Derived.Test.YthmdecfiijgaoaaGreatAmKey
namespace Go.AM
open Go Go.RowKit

/-- A pure operation, in continuation form, stands for a run that leaves every world alone. -/
def PureOK (P : Program) (ρ : Rho) (f : (AV → Bool) → Bool) (s : Sem Value) : Prop :=
  ∀ K, f K = true → ∃ v vc, K v = true ∧ VR ρ v vc ∧ (∀ K', f K' = K' v) ∧ ∀ w, s.run P w = .ok vc w

section
variable {P : Program} {ρ : Rho} {f g : (AV → Bool) → Bool} {s : Sem Value}
theorem PureOK.one {v : AV} {vc : Value} (hv : VR ρ v vc) (hf : ∀ K, f K = K v) (hs : ∀ w, s.run P w = .ok vc w) : PureOK P ρ f s :=
  fun K hK => ⟨v, vc, by rw [hf] at hK; exact hK, hv, hf, hs⟩
theorem PureOK.no (hf : ∀ K, f K = false) : PureOK P ρ f s := fun K hK => by rw [hf] at hK; cases hK
theorem PureOK.congr (hf : ∀ K, f K = g K) (h : PureOK P ρ g s) : PureOK P ρ f s := by
  have : f = g := funext hf
  rw [this]; exact h
theorem PureOK.guard {c : Bool} (h : c = true → PureOK P ρ f s) : PureOK P ρ (fun K => bif c then f K else false) s := by
  cases c
  · exact .no fun K => rfl
  · exact h rfl
theorem PureOK.guardN {c : Bool} (h : c = false → PureOK P ρ f s) : PureOK P ρ (fun K => bif c then false else f K) s := by
  cases c
  · exact h rfl
  · exact .no fun K => rfl
end

/-! Bytes. -/
theorem bytes_eq (l m : List UInt8) : (l.map (fun b => (b.toNat : Int)) == m.map (fun b => (b.toNat : Int))) = (l == m) := by
  induction l generalizing m with
  | nil => cases m <;> simp
  | cons a l ih =>
    cases m with
    | nil => simp
    | cons b m =>
      simp only [List.map_cons, List.cons_beq_cons, ih]
      congr 1
      rw [Bool.eq_iff_iff]
      simp only [beq_iff_eq]
      constructor
      · intro h; exact UInt8.toNat_inj.1 (by omega)
      · intro h; rw [h]
theorem bytesL_eq (a b : ByteArray) : (bytesL a == bytesL b) = (a.toList == b.toList) := by
  rw [ByteArray.toList_eq, ByteArray.toList_eq]; exact bytes_eq _ _
theorem bytes_lt (l m : List UInt8) : ltL (l.map (fun b => (b.toNat : Int))) (m.map (fun b => (b.toNat : Int))) = Op.bytesLess l m := by
  induction l generalizing m with
  | nil => cases m <;> simp [ltL, Op.bytesLess]
  | cons a l ih =>
    cases m with
    | nil => simp [ltL, Op.bytesLess]
    | cons b m =>
      simp only [List.map_cons, ltL, Op.bytesLess, ih]
      have h1 : decide ((a.toNat : Int) < (b.toNat : Int)) = decide (a < b) := by
        rw [Bool.eq_iff_iff]; simp only [decide_eq_true_eq, UInt8.lt_iff_toNat_lt]; omega
      have h2 : ((a.toNat : Int) == (b.toNat : Int)) = (a == b) := by
        rw [Bool.eq_iff_iff]
        simp only [beq_iff_eq]
        constructor
        · intro h; exact UInt8.toNat_inj.1 (by omega)
        · intro h; rw [h]
      rw [h1, h2]
theorem bytesL_lt (a b : ByteArray) : ltL (bytesL a) (bytesL b) = Op.bytesLess a.toList b.toList := by
  rw [ByteArray.toList_eq, ByteArray.toList_eq]; exact bytes_lt _ _
theorem bytesL_length (s : ByteArray) : (bytesL s).length = s.size := by unfold bytesL; rw [List.length_map, Array.length_toList]; rfl
theorem bytesL_append (a b : ByteArray) : bytesL (a ++ b) = bytesL a ++ bytesL b := by
  unfold bytesL; rw [ByteArray.data_append, Array.toList_append, List.map_append]
theorem bytesL_extract (s : ByteArray) (l h : Nat) : bytesL (s.extract l h) = ((bytesL s).take h).drop l := by
  unfold bytesL
  rw [ByteArray.data_extract, Array.toList_extract, List.extract_eq_take_drop, ← List.map_take, ← List.map_drop, List.drop_take]
theorem bytesL_get (s : ByteArray) (i : Nat) (h : i < s.size) : (bytesL s).getD i 0 = ((s[i]'h).toNat : Int) := by
  have h' : i < s.data.toList.length := by rw [Array.length_toList]; exact h
  unfold bytesL
  rw [List.getD_eq_getElem?_getD, List.getElem?_map, List.getElem?_eq_getElem h']
  rfl

/-! Equality, and operators. -/
theorem eqGuard_int (P : Program) (w : World) (op : BinOp) (t : TypeId) (X Y : Operand) (k : IntKind) (a : Int) (v : Value) : (eqGuard op t X Y (.int k a) v).run P w = .ok () w := by
  unfold eqGuard; cases op <;> simp
theorem eqGuard_of (P : Program) (w : World) (op : BinOp) (t : TypeId) (X Y : Operand) {ρ : Rho} {x : AV} {v u : Value} (hx : VR ρ x v) (hn : ∀ cs, x ≠ .agg cs) :
    (eqGuard op t X Y v u).run P w = .ok () w := by
  unfold eqGuard
  cases hx <;> first | (cases op <;> simp; done) | exact absurd rfl (hn _)

theorem wrapBits (P : Program) (w : World) (op : BinOp) (k : IntKind) (a b r : Int) (h : abits op k a b = some r) : (Op.intBits op k a b).run P w = .ok (.int k r) w := by
  cases op <;> simp [abits] at h <;> simp [Op.intBits, h]

theorem bin_int {P : Program} {ρ : Rho} (op : BinOp) (t : TypeId) (k k' : IntKind) (a b : Int) :
    PureOK P ρ (binK P op t (.int k a) (.int k' b)) (binOp op t (.int k a) (.int k' b)) := by
  by_cases hk : k = k'
  · subst hk
    have hbits : ∀ r, abits op k a b = some r → (op = .and ∨ op = .or ∨ op = .xor ∨ op = .andNot) → PureOK P ρ (binK P op t (.int k a) (.int k b)) (binOp op t (.int k a) (.int k b)) := fun r hr hop => by
      refine .one (.int k r) (fun K => ?_) (fun w => ?_)
      · rcases hop with rfl | rfl | rfl | rfl <;> simp [binK, hr]
      · have := wrapBits P w op k a b r hr
        rcases hop with rfl | rfl | rfl | rfl <;> simpa [binOp] using this
    cases op with
    | and => exact hbits _ rfl (by simp)
    | or => exact hbits _ rfl (by simp)
    | xor => exact hbits _ rfl (by simp)
    | andNot => exact hbits _ rfl (by simp)
    | add => exact .one (.int k (k.wrap (a + b))) (fun K => by simp [binK]) (fun w => by simp [binOp, Op.intArith])
    | sub => exact .one (.int k (k.wrap (a - b))) (fun K => by simp [binK]) (fun w => by simp [binOp, Op.intArith])
    | mul => exact .one (.int k (k.wrap (a * b))) (fun K => by simp [binK]) (fun w => by simp [binOp, Op.intArith])
    | quo =>
      by_cases hb : b = 0
      · subst hb; exact .no fun K => by simp [binK]
      · exact .one (.int k (k.wrap (a.tdiv b))) (fun K => by simp [binK, hb]) (fun w => by simp [binOp, Op.intDiv, hb])
    | rem =>
      by_cases hb : b = 0
      · subst hb; exact .no fun K => by simp [binK]
      · exact .one (.int k (a.tmod b)) (fun K => by simp [binK, hb]) (fun w => by simp [binOp, Op.intDiv, hb])
    | shl =>
      by_cases hb : b < 0
      · exact .no fun K => by simp [binK, hb]
      · exact .one (.int k (k.wrap (a * 2 ^ (min b.toNat k.bits)))) (fun K => by simp [binK, hb]) (fun w => by simp [binOp, Op.shift, hb])
    | shr =>
      by_cases hb : b < 0
      · exact .no fun K => by simp [binK, hb]
      · exact .one (.int k (a.fdiv (2 ^ (min b.toNat k.bits)))) (fun K => by simp [binK, hb]) (fun w => by simp [binOp, Op.shift, hb])
    | eql => exact .one (.bool (a == b)) (fun K => by simp [binK, eqK]) (fun w => by simp [binOp, Op.intCmp])
    | neq => exact .one (.bool (!(a == b))) (fun K => by simp [binK, eqK]) (fun w => by simp [binOp, Op.intCmp]; rfl)
    | lss => exact .one (.bool (decide (a < b))) (fun K => by simp [binK]) (fun w => by simp [binOp, Op.intCmp])
    | leq => exact .one (.bool (decide (a ≤ b))) (fun K => by simp [binK]) (fun w => by simp [binOp, Op.intCmp])
    | gtr => exact .one (.bool (decide (a > b))) (fun K => by simp [binK]) (fun w => by simp [binOp, Op.intCmp])
    | geq => exact .one (.bool (decide (a ≥ b))) (fun K => by simp [binK]) (fun w => by simp [binOp, Op.intCmp])
  · have hk' : (k == k') = false := by simpa using hk
    cases op with
    | shl =>
      by_cases hb : b < 0
      · exact .no fun K => by simp [binK, hb]
      · exact .one (.int k (k.wrap (a * 2 ^ (min b.toNat k.bits)))) (fun K => by simp [binK, hb]) (fun w => by simp [binOp, Op.shift, hb])
    | shr =>
      by_cases hb : b < 0
      · exact .no fun K => by simp [binK, hb]
      · exact .one (.int k (a.fdiv (2 ^ (min b.toNat k.bits)))) (fun K => by simp [binK, hb]) (fun w => by simp [binOp, Op.shift, hb])
    | _ => exact .no fun K => by simp [binK, eqK, hk']

theorem bin_str {P : Program} {ρ : Rho} (op : BinOp) (t : TypeId) (a b : ByteArray) :
    PureOK P ρ (binK P op t (.str (bytesL a)) (.str (bytesL b))) (binOp op t (.string a) (.string b)) := by
  cases op with
  | add =>
    cases hl : Nat.ble ((bytesL a).length + (bytesL b).length) 9223372036854775807 with
    | true =>
      refine .one (v := .str (bytesL a ++ bytesL b)) (vc := .string (a ++ b)) (by rw [← bytesL_append]; exact .str _) (fun K => ?_) (fun w => ?_)
      · simp only [binK, hl, cond_true]
      · have hl := Nat.le_of_ble_eq_true hl
        rw [bytesL_length, bytesL_length] at hl
        have := run_string_add_sum (P := P) w a b (by omega)
        simpa [binOp] using this
    | false => exact .no fun K => by simp only [binK, hl, cond_false]
  | eql => exact .one (.bool (bytesL a == bytesL b)) (fun K => by simp only [binK, eqK]) (fun w => by simp [binOp, Op.stringOp, bytesL_eq])
  | neq => exact .one (.bool (!(bytesL a == bytesL b))) (fun K => by simp only [binK, eqK]) (fun w => by simp [binOp, Op.stringOp, bytesL_eq])
  | lss => exact .one (.bool (ltL (bytesL a) (bytesL b))) (fun K => by simp only [binK]) (fun w => by simp [binOp, Op.stringOp, bytesL_lt])
  | leq => exact .one (.bool (ltL (bytesL a) (bytesL b) || bytesL a == bytesL b)) (fun K => by simp only [binK]) (fun w => by simp [binOp, Op.stringOp, bytesL_lt, bytesL_eq])
  | gtr => exact .one (.bool (!(ltL (bytesL a) (bytesL b) || bytesL a == bytesL b))) (fun K => by simp only [binK]) (fun w => by simp [binOp, Op.stringOp, bytesL_lt, bytesL_eq])
  | geq => exact .one (.bool (!ltL (bytesL a) (bytesL b))) (fun K => by simp only [binK]) (fun w => by simp [binOp, Op.stringOp, bytesL_lt])
  | _ => exact .no fun K => by simp [binK]

set_option maxHeartbeats 2000000 in
theorem eqIn_ok {P : Program} {ρ : Rho} {t : TypeId} {x y : AV} {xc yc : Value} (hx : VR ρ x xc) (hy : VR ρ y yc) (hi : ∀ k n, x ≠ .int k n) (hs : ∀ s, x ≠ .str s)
    (K : Bool → Bool) (h : eqK P t x y K = true) (d : Nat) : ∃ b, K b = true ∧ (∀ K', eqK P t x y K' = K' b) ∧ ∀ w, (Op.equalIn (d + 2) t xc yc).run P w = .ok b w := by
  unfold eqK at h
  split at h
  · exact absurd rfl (hi _ _)
  · exact absurd rfl (hs _)
  · rename_i as bs
    unfold eqSK at h
    cases hp : plainS P t with
    | false => rw [hp] at h; cases h
    | true =>
      rw [hp, cond_true] at h
      obtain ⟨A, rfl, hA⟩ := hx.of_agg
      obtain ⟨B, rfl, hB⟩ := hy.of_agg
      obtain ⟨h1, h2⟩ := castLeaves_of h
      split at h1
      · rename_i b hb
        exact ⟨b, h1, fun K' => by simp only [eqK, eqSK, hp, cond_true, h2, hb], fun w => eqStruct hp hA hB h hb d w⟩
      · cases h1
  · split at h
    all_goals first | (cases h; done) | skip
    all_goals
      have hu := ‹P.underlying t = some _›
      cases hx <;> cases hy
      all_goals first | exact absurd rfl ‹SA.nil = SA.nil → False› | exact ⟨_, h, fun K' => by simp only [eqK, hu], fun w => by simp [Op.equalIn, run_underlying hu]⟩

theorem eq_ok {P : Program} {ρ : Rho} {t : TypeId} {x y : AV} {xc yc : Value} (hx : VR ρ x xc) (hy : VR ρ y yc) (hi : ∀ k n, x ≠ .int k n) (hs : ∀ s, x ≠ .str s)
    (K : Bool → Bool) (h : eqK P t x y K = true) : ∃ b, K b = true ∧ (∀ K', eqK P t x y K' = K' b) ∧ ∀ w, (Op.equal t xc yc).run P w = .ok b w :=
  eqIn_ok hx hy hi hs K h 9998

theorem bin_ok {P : Program} {ρ : Rho} {x y : AV} {xc yc : Value} (hx : VR ρ x xc) (hy : VR ρ y yc) (op : BinOp) (t : TypeId) (X Y : Operand) :
    PureOK P ρ (binK P op t x y) (do eqGuard op t X Y xc yc; binOp op t xc yc) := by
  by_cases hag : ∃ cs, x = .agg cs
  · obtain ⟨cs, rfl⟩ := hag
    intro K h
    obtain ⟨A, rfl, hA⟩ := hx.of_agg
    have main : ∀ {K : Bool → Bool}, eqK P t (.agg cs) y K = true → ∃ b, K b = true ∧ (∀ K', eqK P t (.agg cs) y K' = K' b) ∧ (∀ w, (Op.equal t (.agg A) yc).run P w = .ok b w) ∧
        ∀ w, (eqGuard op t X Y (.agg A) yc).run P w = .ok () w := by
      intro K h
      obtain ⟨b, h1, h2, h3⟩ := eq_ok hx hy (fun _ _ e => by cases e) (fun _ e => by cases e) K h
      refine ⟨b, h1, h2, h3, fun w => ?_⟩
      unfold eqK at h
      cases y <;> simp only at h <;> first | (split at h <;> simp_all; done) | skip
      obtain ⟨B, rfl, hB⟩ := hy.of_agg
      unfold eqSK at h
      cases hp : plainS P t with
      | false => rw [hp] at h; cases h
      | true =>
        obtain ⟨_, _, _, _, hg⟩ := plainS_of hp
        exact run_eqGuard_agg w op t X Y A B hg
    cases op with
    | eql =>
      obtain ⟨b, h1, h2, h3, h4⟩ := main (K := fun b => K (.bool b)) h
      exact ⟨.bool b, .bool b, h1, .bool b, fun K' => h2 fun b => K' (.bool b), fun w => by simp [h4 w, binOp, h3 w]⟩
    | neq =>
      obtain ⟨b, h1, h2, h3, h4⟩ := main (K := fun b => K (.bool (!b))) h
      exact ⟨.bool (!b), .bool (!b), h1, .bool _, fun K' => h2 fun b => K' (.bool (!b)), fun w => by simp [h4 w, binOp, h3 w]⟩
    | _ => cases h
  · have hg : ∀ w, (eqGuard op t X Y xc yc).run P w = .ok () w := fun w => eqGuard_of P w op t X Y hx fun cs e => hag ⟨cs, e⟩
    have key : PureOK P ρ (binK P op t x y) (binOp op t xc yc) := by
      by_cases hi : ∃ k n, x = .int k n
      · obtain ⟨k, n, rfl⟩ := hi
        cases hx
        cases hy
        case int k' b => exact bin_int op t k k' n b
        all_goals
          refine .no fun K => ?_
          cases op <;> simp only [binK, eqK] <;> (repeat' split) <;> first | rfl | simp_all
      · by_cases hs : ∃ s, x = .str s
        · obtain ⟨s, rfl⟩ := hs
          cases hx
          cases hy
          case str b => exact bin_str op t _ b
          all_goals
            refine .no fun K => ?_
            cases op <;> simp only [binK, eqK] <;> (repeat' split) <;> first | rfl | simp_all
        · have hi' : ∀ k n, x ≠ .int k n := fun k n e => hi ⟨k, n, e⟩
          have hs' : ∀ s, x ≠ .str s := fun s e => hs ⟨s, e⟩
          by_cases hop : op = .eql ∨ op = .neq
          · intro K hK
            have hsp : ∀ w, (binOp .eql t xc yc).run P w = ((Op.equal t xc yc).run P w).andThen fun b w => .ok (.bool b) w := fun w => by
              cases hx <;> first | exact absurd rfl (hi' _ _) | exact absurd rfl (hs' _) | simp [binOp]
            have hsn : ∀ w, (binOp .neq t xc yc).run P w = ((Op.equal t xc yc).run P w).andThen fun b w => .ok (.bool (!b)) w := fun w => by
              cases hx <;> first | exact absurd rfl (hi' _ _) | exact absurd rfl (hs' _) | simp [binOp]
            rcases hop with rfl | rfl
            · obtain ⟨b, h1, h2, h3⟩ := eq_ok hx hy hi' hs' (fun b => K (.bool b)) hK
              exact ⟨.bool b, .bool b, h1, .bool b, fun K' => h2 fun b => K' (.bool b), fun w => by rw [hsp, h3]; rfl⟩
            · obtain ⟨b, h1, h2, h3⟩ := eq_ok hx hy hi' hs' (fun b => K (.bool (!b))) hK
              exact ⟨.bool (!b), .bool (!b), h1, .bool _, fun K' => h2 fun b => K' (.bool (!b)), fun w => by rw [hsn, h3]; rfl⟩
          · refine .no fun K => ?_
            cases op <;> first | exact absurd (.inl rfl) hop | exact absurd (.inr rfl) hop | skip
            all_goals
              cases x <;> first | exact absurd rfl (hi' _ _) | exact absurd rfl (hs' _) | rfl
    intro K hK
    obtain ⟨v, vc, h1, h2, h3, h4⟩ := key K hK
    exact ⟨v, vc, h1, h2, h3, fun w => by simp [hg w, h4 w]⟩

theorem un_ok {P : Program} {ρ : Rho} {x : AV} {xc : Value} (hx : VR ρ x xc) (op : UnOp) : PureOK P ρ (unK op x) (Op.unary op xc) := by
  cases hx
  case int k n =>
    cases op with
    | neg => exact .one (.int k (k.wrap (0 - n))) (fun K => by simp [unK]) (fun w => by simp [Op.unary, Op.intArith])
    | xor =>
      refine .one (.int k _) (fun K => by simp only [unK, abits]; rfl) (fun w => ?_)
      simp only [Op.unary]
      exact wrapBits P w .xor k _ n _ rfl
    | _ => exact .no fun K => by simp [unK]
  case bool b =>
    cases op with
    | not => exact .one (.bool (!b)) (fun K => by simp [unK]) (fun w => by simp [Op.unary])
    | _ => exact .no fun K => by simp [unK]
  all_goals exact .no fun K => by cases op <;> simp [unK]

theorem conv_ok {P : Program} {ρ : Rho} {x : AV} {xc : Value} (hx : VR ρ x xc) (src dst : TypeId) : PureOK P ρ (convK P src dst x) (convert src dst xc) := by
  intro K h
  unfold convK at h
  split at h
  · rename_i d k k' n hs hd
    obtain rfl := hx.of_int
    exact ⟨_, _, h, .int k (k.wrap n), fun K' => by simp only [convK, hs, hd], fun w => by simp [convert, run_underlying hs, run_underlying hd, Conv.intToInt]⟩
  · rename_i d s hs hd
    obtain ⟨b, rfl, rfl⟩ := hx.of_str
    refine ⟨_, _, h, .str b, fun K' => by simp only [convK, hs, hd], fun w => ?_⟩
    cases d <;> simp [convert, run_underlying hs, run_underlying hd]
  · cases h

end Go.AM
namespace Go.AM
open Go Go.RowKit

theorem run_sizeOf_of {P : Program} {t : TypeId} {i : TypeInfo} (h : P.info? t = some i) (w : World) : (sizeOf t).run P w = .ok i.size w := by
  simp [sizeOf, typeInfo, h]
theorem run_typeInfo_of {P : Program} {t : TypeId} {i : TypeInfo} (h : P.info? t = some i) (w : World) : (typeInfo t).run P w = .ok i w := by
  simp [typeInfo, h]

theorem esizeK_of {P : Program} {e : TypeId} {K : Nat → Bool} (h : esizeK P e K = true) :
    ∃ i, P.info? e = some i ∧ 0 < i.size ∧ K i.size = true ∧ ∀ K', esizeK P e K' = K' i.size := by
  unfold esizeK at h
  split at h
  · rename_i i hi
    cases hz : (i.size == 0) with
    | true => rw [hz] at h; cases h
    | false =>
      rw [hz] at h
      have : i.size ≠ 0 := by simpa using hz
      exact ⟨i, hi, by omega, h, fun K' => by unfold esizeK; simp only [hi, hz, cond_false]⟩
  · cases h

theorem boundK_of {v : Option AV} {d lo hi : Nat} {K : Nat → Bool} (h : boundK v d lo hi K = true) :
    ∃ n, K n = true ∧ (∀ K', boundK v d lo hi K' = K' n) ∧ ((v = none ∧ n = d) ∨ ∃ k i, v = some (.int k i) ∧ (lo : Int) ≤ i ∧ i ≤ (hi : Int) ∧ n = i.toNat) := by
  unfold boundK at h
  split at h
  · exact ⟨d, h, fun K' => rfl, .inl ⟨rfl, rfl⟩⟩
  · rename_i k i
    cases hc : (decide ((lo : Int) ≤ i) && decide (i ≤ (hi : Int))) with
    | false => rw [hc] at h; cases h
    | true =>
      rw [hc] at h
      have hc' := hc
      simp only [Bool.and_eq_true, decide_eq_true_eq] at hc'
      exact ⟨i.toNat, h, fun K' => by simp only [boundK, hc, cond_true], .inr ⟨k, i, rfl, hc'.1, hc'.2, rfl⟩⟩
  · cases h

/-- Optional operands. -/
def OVR (ρ : Rho) : Option AV → Option Value → Prop
  | none, none => True
  | some v, some vc => VR ρ v vc
  | _, _ => False
theorem OVR.int {ρ : Rho} {k : IntKind} {i : Int} {o : Option Value} (h : OVR ρ (some (.int k i)) o) : o = some (.int k i) := by
  cases o with
  | none => exact h.elim
  | some v => rw [VR.of_int h]
theorem OVR.none {ρ : Rho} {o : Option Value} (h : OVR ρ none o) : o = none := by
  cases o with
  | none => rfl
  | some v => exact h.elim

theorem run_sliceBound {P : Program} (w : World) (k : IntKind) (i : Int) (y : Nat) (code : BoundsCode) (h0 : 0 ≤ i) (h1 : i ≤ (y : Int)) :
    (Instr.sliceBound (.int k i) y code).run P w = .ok i.toNat w := by
  simp [Instr.sliceBound, asIntOf, h0, h1]

/-- The three bounds. -/
theorem bounds_ok {P : Program} {ρ : Rho} {lo hi mx : Option AV} {loc hic mxc : Option Value} (hlo : OVR ρ lo loc) (hhi : OVR ρ hi hic) (hmx : OVR ρ mx mxc) {n cap : Nat} (hn : n ≤ cap)
    (b : Bool) {m h l : Nat} (hg : mx = none ∨ hi ≠ none)
    (em : (mx = none ∧ m = n) ∨ ∃ k i, mx = some (.int k i) ∧ ((0 : Nat) : Int) ≤ i ∧ i ≤ (n : Int) ∧ m = i.toNat)
    (eh : (hi = none ∧ h = n) ∨ ∃ k i, hi = some (.int k i) ∧ ((0 : Nat) : Int) ≤ i ∧ i ≤ (m : Int) ∧ h = i.toNat)
    (el : (lo = none ∧ l = 0) ∨ ∃ k i, lo = some (.int k i) ∧ ((0 : Nat) : Int) ≤ i ∧ i ≤ (h : Int) ∧ l = i.toNat) :
    l ≤ h ∧ h ≤ n ∧ ∃ m', (m' = if mx = none then cap else m) ∧ h ≤ m' ∧ m' ≤ cap ∧ ∀ w, (Instr.sliceBounds b n cap loc hic mxc).run P w = .ok (l, h, m') w := by
  rcases em with ⟨rfl, rfl⟩ | ⟨km, im, rfl, m0, m1, rfl⟩
  · obtain rfl := hmx.none
    rcases eh with ⟨rfl, rfl⟩ | ⟨kh, ih, rfl, h0, h1, rfl⟩
    · obtain rfl := hhi.none
      rcases el with ⟨rfl, rfl⟩ | ⟨kl, il, rfl, l0, l1, rfl⟩
      · obtain rfl := hlo.none
        exact ⟨by omega, by omega, cap, by simp, hn, by omega, fun w => by simp [Instr.sliceBounds]⟩
      · obtain rfl := hlo.int
        exact ⟨by omega, by omega, cap, by simp, hn, by omega, fun w => by simp [Instr.sliceBounds, run_sliceBound (P := P) w kl il _ _ (by omega) l1]⟩
    · obtain rfl := hhi.int
      have hh : ∀ w c, (Instr.sliceBound (.int kh ih) cap c).run P w = .ok ih.toNat w := fun w c => run_sliceBound w kh ih cap _ (by omega) (by omega)
      rcases el with ⟨rfl, rfl⟩ | ⟨kl, il, rfl, l0, l1, rfl⟩
      · obtain rfl := hlo.none
        exact ⟨by omega, by omega, cap, by simp, by omega, by omega, fun w => by simp [Instr.sliceBounds, hh]⟩
      · obtain rfl := hlo.int
        exact ⟨by omega, by omega, cap, by simp, by omega, by omega, fun w => by simp [Instr.sliceBounds, hh, run_sliceBound (P := P) w kl il ih.toNat _ (by omega) l1]⟩
  · obtain rfl := hmx.int
    have hm : ∀ w c, (Instr.sliceBound (.int km im) cap c).run P w = .ok im.toNat w := fun w c => run_sliceBound w km im cap _ (by omega) (by omega)
    rcases eh with ⟨rfl, rfl⟩ | ⟨kh, ih, rfl, h0, h1, rfl⟩
    · rcases hg with hg | hg
      · cases hg
      · exact absurd rfl hg
    · obtain rfl := hhi.int
      have hh : ∀ w c, (Instr.sliceBound (.int kh ih) im.toNat c).run P w = .ok ih.toNat w := fun w c => run_sliceBound w kh ih im.toNat _ (by omega) (by omega)
      rcases el with ⟨rfl, rfl⟩ | ⟨kl, il, rfl, l0, l1, rfl⟩
      · obtain rfl := hlo.none
        exact ⟨by omega, by omega, im.toNat, by simp, by omega, by omega, fun w => by simp [Instr.sliceBounds, hm, hh]⟩
      · obtain rfl := hlo.int
        exact ⟨by omega, by omega, im.toNat, by simp, by omega, by omega, fun w => by simp [Instr.sliceBounds, hm, hh, run_sliceBound (P := P) w kl il ih.toNat _ (by omega) l1]⟩

theorem Addr.add_none (b o n : Nat) : (⟨b, o, none⟩ : Addr).add n = ⟨b, o + n, none⟩ := by
  unfold Addr.add; split
  · rename_i h; subst h; rfl
  · rfl

theorem slice_ok {P : Program} {ρ : Rho} {x : AV} {xc : Value} (hx : VR ρ x xc) {lo hi mx : Option AV} {loc hic mxc : Option Value} (hlo : OVR ρ lo loc) (hhi : OVR ρ hi hic) (hmx : OVR ρ mx mxc)
    (t : TypeId) : PureOK P ρ (sliceK P t x lo hi mx) (Instr.sliceAt t xc loc hic mxc) := by
  intro K h
  unfold sliceK at h
  split at h
  · rename_i ht
    split at h
    · rename_i s _
      obtain ⟨s', rfl, rfl⟩ := hx.of_str
      obtain rfl := hmx.none
      obtain ⟨nh, h, eh, ch⟩ := boundK_of h
      obtain ⟨nl, h, el, cl⟩ := boundK_of h
      obtain ⟨a1, a2, m', rfl, a3, a4, hb⟩ := bounds_ok (P := P) (n := (bytesL s').length) (cap := (bytesL s').length) hlo hhi hmx (Nat.le_refl _) false (.inl rfl) (.inl ⟨rfl, rfl⟩) ch cl
      rw [bytesL_length] at hb
      refine ⟨_, .string (s'.extract nl nh), h, by rw [← bytesL_extract]; exact .str _, fun K' => by simp only [sliceK, ht]; rw [eh, el], fun w => ?_⟩
      simp [Instr.sliceAt, Instr.slice, run_underlying ht, hb]
    · cases h
  · rename_i e ht
    split at h
    · rename_i n
      cases hc : (n == 0 && (mx.isNone || hi.isSome)) with
      | false => rw [hc] at h; cases h
      | true =>
        rw [hc, cond_true] at h
        simp only [Bool.and_eq_true, beq_iff_eq, Bool.or_eq_true] at hc
        obtain ⟨rfl, hg⟩ := hc
        obtain rfl : xc = .slice none 0 0 := by cases hx; rfl
        obtain ⟨nm, h, em, cm⟩ := boundK_of h
        obtain ⟨nh, h, eh, ch⟩ := boundK_of h
        obtain ⟨nl, h, el, cl⟩ := boundK_of h
        obtain ⟨i, hi', hz, h, ez⟩ := esizeK_of h
        have hnm : nm = 0 := by rcases cm with ⟨_, e⟩ | ⟨_, _, _, _, _, e⟩ <;> omega
        have hnh : nh = 0 := by rcases ch with ⟨_, e⟩ | ⟨_, _, _, _, _, e⟩ <;> omega
        subst hnm hnh
        obtain ⟨a1, a2, m', rfl, a3, a4, hb⟩ := bounds_ok (P := P) (n := 0) (cap := 0) (l := nl) (h := 0) (m := 0) hlo hhi hmx (Nat.le_refl _) true
          (by rcases hg with hg | hg; exact .inl (by simpa using hg); exact .inr (by intro e; rw [e] at hg; cases hg)) cm ch cl
        have hnl : nl = 0 := by omega
        subst hnl
        refine ⟨_, .slice none 0 0, h, .slNil, fun K' => ?_, fun w => ?_⟩
        · simp only [sliceK, ht, beq_self_eq_true, Bool.true_and]
          rw [show (mx.isNone || hi.isSome) = true by simpa using hg, cond_true, em, eh, el, ez]
        · have hm0 : (if mx = none then 0 else 0) = 0 := by split <;> rfl
          rw [hm0] at hb
          simp [Instr.sliceAt, Instr.slice, run_underlying ht, hb, run_sizeOf_of hi']
    · rename_i n
      cases hc : (n == 0 && (mx.isNone || hi.isSome)) with
      | false => rw [hc] at h; cases h
      | true =>
        rw [hc, cond_true] at h
        simp only [Bool.and_eq_true, beq_iff_eq, Bool.or_eq_true] at hc
        obtain ⟨rfl, hg⟩ := hc
        obtain ⟨a, rfl⟩ : ∃ a, xc = .slice (some a) 0 0 := by cases hx; exact ⟨_, rfl⟩
        obtain ⟨nm, h, em, cm⟩ := boundK_of h
        obtain ⟨nh, h, eh, ch⟩ := boundK_of h
        obtain ⟨nl, h, el, cl⟩ := boundK_of h
        obtain ⟨i, hi', hz, h, ez⟩ := esizeK_of h
        have hnm : nm = 0 := by rcases cm with ⟨_, e⟩ | ⟨_, _, _, _, _, e⟩ <;> omega
        have hnh : nh = 0 := by rcases ch with ⟨_, e⟩ | ⟨_, _, _, _, _, e⟩ <;> omega
        subst hnm hnh
        obtain ⟨a1, a2, m', rfl, a3, a4, hb⟩ := bounds_ok (P := P) (n := 0) (cap := 0) (l := nl) (h := 0) (m := 0) hlo hhi hmx (Nat.le_refl _) true
          (by rcases hg with hg | hg; exact .inl (by simpa using hg); exact .inr (by intro e; rw [e] at hg; cases hg)) cm ch cl
        have hnl : nl = 0 := by omega
        subst hnl
        refine ⟨_, .slice (some a) 0 0, h, .slZero a, fun K' => ?_, fun w => ?_⟩
        · simp only [sliceK, ht, beq_self_eq_true, Bool.true_and]
          rw [show (mx.isNone || hi.isSome) = true by simpa using hg, cond_true, em, eh, el, ez]
        · have hm0 : (if mx = none then 0 else 0) = 0 := by split <;> rfl
          rw [hm0] at hb
          simp [Instr.sliceAt, Instr.slice, run_underlying ht, hb, run_sizeOf_of hi']
    · rename_i id off z n
      obtain ⟨i, hi', hz, h, ez⟩ := esizeK_of h
      cases hc : (i.size == z && (mx.isNone || hi.isSome)) with
      | false => rw [hc] at h; cases h
      | true =>
        rw [hc, cond_true] at h
        have hc' := hc
        simp only [Bool.and_eq_true, beq_iff_eq, Bool.or_eq_true] at hc'
        obtain ⟨hiz, hg⟩ := hc'
        obtain ⟨nm, h, em, cm⟩ := boundK_of h
        obtain ⟨nh, h, eh, ch⟩ := boundK_of h
        obtain ⟨nl, h, el, cl⟩ := boundK_of h
        have hK : ∀ K', sliceK P t (.sl (.at id off z) n) lo hi mx K' = bif mx.isSome && nm == nl then K' (.sl .zero 0) else K' (.sl (.at id (off + nl * z) z) (nh - nl)) := fun K' => by
          simp only [sliceK, ht]
          rw [ez]
          simp only [hc, cond_true]
          rw [em, eh, el]
        have hg' : mx = none ∨ hi ≠ none := by
          rcases hg with hg | hg
          · exact .inl (by simpa using hg)
          · exact .inr (by intro e; rw [e] at hg; cases hg)
        -- what the model does, and what comes of it
        have fin : ∀ (a : Addr) (cap : Nat), xc = .slice (some a) n cap → n ≤ cap →
            (∀ (l h m : Nat), l ≤ h → h ≤ n → h ≤ m → m ≤ cap → l < m → VR ρ (.sl (.at id (off + l * z) z) (h - l)) (.slice (some (a.add (l * z))) (h - l) (m - l))) →
            (∃ cs, ρ id = some (.cells z cs)) → ∃ v vc, K v = true ∧ VR ρ v vc ∧ (∀ K', sliceK P t (.sl (.at id off z) n) lo hi mx K' = K' v) ∧ ∀ w, (Instr.sliceAt t xc loc hic mxc).run P w = .ok vc w := by
          rintro a cap rfl hcap hv ⟨cs, hcs⟩
          obtain ⟨a1, a2, m', em', a3, a4, hb⟩ := bounds_ok (P := P) (n := n) (cap := cap) hlo hhi hmx hcap true hg' cm ch cl
          have hrun : ∀ w, (Instr.sliceAt t (.slice (some a) n cap) loc hic mxc).run P w = .ok (.slice (if m' = nl then some a else some (a.add (nl * z))) (nh - nl) (m' - nl)) w := fun w => by
            simp only [Instr.sliceAt, Sem.run_bind, run_underlying ht, Result.andThen_ok, Instr.slice, hb, run_sizeOf_of hi', hiz, Sem.run_pure, Option.map_some]
          cases hb' : (mx.isSome && nm == nl) with
          | true =>
            rw [hb', cond_true] at h
            simp only [Bool.and_eq_true, beq_iff_eq] at hb'
            have hmn : mx ≠ none := by intro e; rw [e] at hb'; exact absurd hb'.1 (by simp)
            rw [if_neg hmn] at em'
            have e1 : m' = nl := by omega
            refine ⟨_, _, h, .slZero a, fun K' => ?_, fun w => ?_⟩
            · rw [hK]; simp only [hb'.1, hb'.2, beq_self_eq_true, Bool.and_self, cond_true]
            · rw [hrun, if_pos e1, show nh - nl = 0 by omega, show m' - nl = 0 by omega]
          | false =>
            rw [hb', cond_false] at h
            by_cases e1 : m' = nl
            · refine ⟨_, _, h, ?_, fun K' => by rw [hK, hb', cond_false], fun w => by rw [hrun, if_pos e1]⟩
              rw [show nh - nl = 0 by omega, show m' - nl = 0 by omega]
              exact .slEnd a hcs
            · exact ⟨_, _, h, hv nl nh m' a1 a2 a3 a4 (by omega), fun K' => by rw [hK, hb', cond_false], fun w => by rw [hrun, if_neg e1]⟩
        cases hx with
        | @sl _ _ _ _ cap cs c hcs hcm h1 h2 h3 h4 =>
          refine fin _ cap rfl h3 (fun l h m q1 q2 q3 q4 q5 => ?_) ⟨cs, hcs⟩
          rw [Addr.add_none]
          have e1 : l * z ≤ n * z := Nat.mul_le_mul_right z (by omega)
          have e2 : h * z ≤ n * z := Nat.mul_le_mul_right z q2
          have e3 : m * z ≤ cap * z := Nat.mul_le_mul_right z q4
          have e4 : l * z ≤ h * z := Nat.mul_le_mul_right z q1
          have e5 : l * z ≤ m * z := Nat.mul_le_mul_right z (by omega)
          have := VR.sl (ρ := ρ) (off := off + l * z) (len := h - l) (cap := m - l) hcs hcm (by omega) (by rw [Nat.sub_mul]; omega) (by omega) (by rw [Nat.sub_mul]; omega)
          rw [show c.boff + (off + l * z - c.lo) = c.boff + (off - c.lo) + l * z by omega] at this
          exact this
        | slEnd a hcs => exact fin a 0 rfl (Nat.le_refl _) (fun l h m q1 q2 q3 q4 q5 => by omega) ⟨_, hcs⟩
    · cases h
  · cases h

end Go.AM
namespace Go.AM
open Go Go.RowKit

theorem indexAddr_ok {P : Program} {ρ : Rho} {x i : AV} {xc ic : Value} (hx : VR ρ x xc) (hi : VR ρ i ic) (t : TypeId) : PureOK P ρ (indexAddrK P t x i) (Instr.indexAt t xc ic) := by
  intro K h
  unfold indexAddrK at h
  split at h
  · rename_i e id off z n k' k ht
    obtain rfl := hi.of_int
    obtain ⟨ie, hie, hz, h, ez⟩ := esizeK_of h
    cases hc : (ie.size == z && (decide (0 ≤ k) && decide (k < (n : Int)))) with
    | false => rw [hc] at h; cases h
    | true =>
      rw [hc, cond_true] at h
      have hc' := hc
      simp only [Bool.and_eq_true, beq_iff_eq, decide_eq_true_eq] at hc'
      obtain ⟨hzz, h0, h1⟩ := hc'
      have hK : ∀ K', indexAddrK P t (.sl (.at id off z) n) (.int k' k) K' = K' (.ptr (some ⟨id, off + k.toNat * z, 0, z⟩)) := fun K' => by
        simp only [indexAddrK, ht]; rw [ez]; simp only [hc, cond_true]
      cases hx with
      | @sl _ _ _ _ cap cs c hcs hcm h1' h2 h3 h4 =>
        have e1 : (k.toNat + 1) * z ≤ n * z := Nat.mul_le_mul_right z (by omega)
        rw [Nat.add_mul] at e1
        refine ⟨_, _, h, VR.ptr (d := 0) hcs hcm (by omega) (by omega) (by omega), hK, fun w => ?_⟩
        have : (⟨c.blk, c.boff + (off - c.lo), none⟩ : Addr).add (k.toNat * ie.size) = ⟨c.blk, c.boff + (off + k.toNat * z + 0 - c.lo), none⟩ := by
          rw [Addr.add_none, hzz]; congr 1; omega
        simp [Instr.indexAt, asIntOf, run_underlying ht, h0, h1, run_sizeOf_of hie, this]
      | slEnd a hcs => omega
  · rename_i n e id b d z k' k ht
    obtain rfl := hi.of_int
    obtain ⟨ie, hie, hz, h, ez⟩ := esizeK_of h
    cases hc : (decide (0 ≤ k) && decide (k < (n : Int)) && decide (d + k.toNat * ie.size < z)) with
    | false => rw [hc] at h; cases h
    | true =>
      rw [hc, cond_true] at h
      have hc' := hc
      simp only [Bool.and_eq_true, decide_eq_true_eq] at hc'
      obtain ⟨⟨h0, h1⟩, h2⟩ := hc'
      have hK : ∀ K', indexAddrK P t (.ptr (some ⟨id, b, d, z⟩)) (.int k' k) K' = K' (.ptr (some ⟨id, b, d + k.toNat * ie.size, z⟩)) := fun K' => by
        simp only [indexAddrK, ht]; rw [ez]; simp only [hc, cond_true]
      cases hx with
      | @ptr _ _ _ _ cs c hcs hcm h1' h2' h3 =>
        refine ⟨_, _, h, VR.ptr (d := d + k.toNat * ie.size) hcs hcm h1' h2' h2, hK, fun w => ?_⟩
        have : (⟨c.blk, c.boff + (b + d - c.lo), none⟩ : Addr).add (k.toNat * ie.size) = ⟨c.blk, c.boff + (b + (d + k.toNat * ie.size) - c.lo), none⟩ := by
          rw [Addr.add_none]; congr 1; omega
        simp [Instr.indexAt, Instr.sureAddr, asIntOf, run_underlying ht, h0, h1, run_sizeOf_of hie, this]
  · cases h

theorem part_ok {P : Program} {ρ : Rho} {cs : List AV} {vs : Array Value} (hv : VRs ρ cs vs.toList) (t : TypeId) (off : Nat) : PureOK P ρ (partK P t cs off) (part t vs off) := by
  have agg : ∀ (i : TypeInfo) (K : AV → Bool), P.info? t = some i → (isAgg t).run P = (fun w => .ok true w) → (∀ K', partK P t cs off K' = bif decide (off + i.size ≤ cs.length) then K' (.agg ((cs.drop off).take i.size)) else false) →
      (bif decide (off + i.size ≤ cs.length) then K (.agg ((cs.drop off).take i.size)) else false) = true →
      ∃ v vc, K v = true ∧ VR ρ v vc ∧ (∀ K', partK P t cs off K' = K' v) ∧ ∀ w, (part t vs off).run P w = .ok vc w := by
    intro i K hi hag hK h
    cases hc : decide (off + i.size ≤ cs.length) with
    | false => rw [hc] at h; cases h
    | true =>
      rw [hc, cond_true] at h
      refine ⟨_, .agg (vs.extract off (off + i.size)), h, ?_, fun K' => by rw [hK, hc, cond_true], fun w => ?_⟩
      · have := VR.mk_agg ((hv.drop off).take i.size)
        have e : ((vs.toList.drop off).take i.size).toArray = vs.extract off (off + i.size) := by
          apply Array.ext'
          rw [Array.toList_extract, List.extract_eq_take_drop]
          simp
        rw [e] at this; exact this
      · have := congrFun hag w
        simp [part, this, run_sizeOf_of hi]
  intro K h
  unfold partK at h
  split at h
  · rename_i fs i ht hi
    exact agg i K hi (funext fun w => by simp [isAgg, run_underlying ht]) (fun K' => by unfold partK; simp only [ht, hi]) h
  · rename_i n e i ht hi
    exact agg i K hi (funext fun w => by simp [isAgg, run_underlying ht]) (fun K' => by unfold partK; simp only [ht, hi]) h
  · rename_i d i hn1 hn2 ht hi
    split at h
    · rename_i v hv'
      obtain ⟨vc, hvc, hr⟩ := hv.get hv'
      refine ⟨v, vc, h, hr, fun K' => ?_, fun w => ?_⟩
      · unfold partK; rw [ht, hi]
        cases d <;> first | exact (hn1 _ rfl).elim | exact (hn2 _ _ rfl).elim | simp only [hv']
      · have hag : (isAgg t).run P w = .ok false w := by
          cases d <;> first | exact (hn1 _ rfl).elim | exact (hn2 _ _ rfl).elim | simp [isAgg, run_underlying ht]
        have hvc' : vs[off]? = some vc := by simpa using hvc
        simp [part, hag, hvc']
    · cases h
  · cases h

theorem index_ok {P : Program} {ρ : Rho} {x i : AV} {xc ic : Value} (hx : VR ρ x xc) (hi : VR ρ i ic) (t : TypeId) : PureOK P ρ (indexK P t x i) (Instr.index t xc ic) := by
  intro K h
  unfold indexK at h
  split at h
  · rename_i s k' k ht
    obtain rfl := hi.of_int
    obtain ⟨b, rfl, rfl⟩ := hx.of_str
    cases hc : (decide (0 ≤ k) && decide (k < ((bytesL b).length : Int))) with
    | false => rw [hc] at h; cases h
    | true =>
      rw [hc, cond_true] at h
      have hc' := hc
      simp only [Bool.and_eq_true, decide_eq_true_eq, bytesL_length] at hc'
      have hlt : k.toNat < b.size := by omega
      have e := bytesL_get b k.toNat hlt
      refine ⟨_, _, h, .int .u8 _, fun K' => by simp only [indexK, ht, hc, cond_true], fun w => ?_⟩
      rw [run_index_string w t b k' k ht, dif_pos hc', e]
  · rename_i n e cs k' k ht
    obtain rfl := hi.of_int
    obtain ⟨vs, rfl, hv⟩ := hx.of_agg
    split at h
    · rename_i ie hie
      cases hc : (decide (0 ≤ k) && decide (k < (n : Int))) with
      | false => rw [hc] at h; cases h
      | true =>
        rw [hc, cond_true] at h
        have hc' := hc
        simp only [Bool.and_eq_true, decide_eq_true_eq] at hc'
        obtain ⟨v, vc, h1, h2, h3, h4⟩ := part_ok (P := P) hv e (k.toNat * ie.size) K h
        exact ⟨v, vc, h1, h2, fun K' => by simp only [indexK, ht, hie, hc, cond_true]; exact h3 K', fun w => by simp [Instr.index, asIntOf, run_underlying ht, hc', run_sizeOf_of hie, h4]⟩
    · cases h
  · cases h

end Go.AM
namespace Go.AM
open Go Go.RowKit

theorem foldSet (off : Nat) : ∀ (L : List Value) (j0 : Nat) (A : Array Value), off + j0 + L.length ≤ A.size →
    ((L.zipIdx j0).foldl (fun cs (x : Value × Nat) => cs.setIfInBounds (off + x.2) x.1) A).toList = A.toList.take (off + j0) ++ L ++ A.toList.drop (off + j0 + L.length)
  | [], j0, A, h => by simp
  | c :: L, j0, A, h => by
    simp only [List.length_cons] at h
    have hlt : off + j0 < A.toList.length := by rw [Array.length_toList]; omega
    simp only [List.zipIdx_cons, List.foldl_cons]
    rw [foldSet off L (j0 + 1) _ (by rw [Array.size_setIfInBounds]; omega), Array.toList_setIfInBounds]
    have e1 : (A.toList.set (off + j0) c).take (off + (j0 + 1)) = A.toList.take (off + j0) ++ [c] := by
      rw [show off + (j0 + 1) = off + j0 + 1 by omega, List.take_succ_eq_append_getElem (by rw [List.length_set]; exact hlt)]
      rw [List.take_set_of_le (Nat.le_refl _)]
      simp
    have e2 : (A.toList.set (off + j0) c).drop (off + (j0 + 1) + L.length) = A.toList.drop (off + j0 + (L.length + 1)) := by
      rw [List.drop_set_of_lt (by omega)]
      congr 1; omega
    rw [e1, e2]
    simp

theorem fill_ok {ρ : Rho} {pA : Nat → Option (Nat × Nat)} : ∀ {parts : List (Nat × AV)} {partsC : List (Nat × Value)} {cs cs' : List AV} {vs : Array Value},
    parts.length = partsC.length → (∀ (j : Nat) p q, parts[j]? = some p → partsC[j]? = some q → p.1 = q.1 ∧ VR ρ p.2 q.2) → VRs ρ cs vs.toList → fillA pA cs parts = some cs' →
    ∃ vs' : Array Value, Instr.fill pA vs partsC = some vs' ∧ VRs ρ cs' vs'.toList
  | [], partsC, cs, cs', vs, hl, _, hv, h => by
    have : partsC = [] := by cases partsC with | nil => rfl | cons a b => simp at hl
    subst this
    simp only [fillA, Option.some.injEq] at h
    subst h
    exact ⟨vs, rfl, hv⟩
  | (i, v) :: rest, partsC, cs, cs', vs, hl, hp, hv, h => by
    cases partsC with
    | nil => simp at hl
    | cons q restC =>
      obtain ⟨iq, vq⟩ := q
      obtain ⟨e1, hvr⟩ := hp 0 (i, v) (iq, vq) rfl rfl
      obtain rfl : i = iq := e1
      simp only [fillA, forceO_eq] at h
      cases hpl : pA i with
      | none => rw [hpl] at h; cases h
      | some os =>
        obtain ⟨off, size⟩ := os
        rw [hpl] at h
        simp only at h
        cases hc : (v.cells.length != size || decide (off + size > cs.length)) with
        | true => rw [hc] at h; cases h
        | false =>
          rw [hc, cond_false] at h
          simp only [Bool.or_eq_false_iff, bne_eq_false_iff_eq, decide_eq_false_iff_not] at hc
          obtain ⟨hsz, hfit⟩ := hc
          have hcell := hvr.cells
          have hszc : vq.cells.size = size := by rw [← Array.length_toList, ← hcell.1]; exact hsz
          have hlv : cs.length = vs.size := by rw [← Array.length_toList]; exact hv.1
          have hfold : (vq.cells.zipIdx.foldl (fun cs (x : Value × Nat) => cs.setIfInBounds (off + x.2) x.1) vs).toList = vs.toList.take off ++ vq.cells.toList ++ vs.toList.drop (off + size) := by
            rw [← Array.foldl_toList, Array.toList_zipIdx]
            have := foldSet off vq.cells.toList 0 vs (by rw [Array.length_toList]; omega)
            rw [this, Array.length_toList, hszc]; simp
          have hv' : VRs ρ (cs.take off ++ v.cells ++ cs.drop (off + size)) (vq.cells.zipIdx.foldl (fun cs (x : Value × Nat) => cs.setIfInBounds (off + x.2) x.1) vs).toList := by
            rw [hfold]; exact ((hv.take off).append hcell).append (hv.drop (off + size))
          obtain ⟨vs', h1, h2⟩ := fill_ok (pA := pA) (partsC := restC) (by simpa using hl) (fun j p q a b => hp (j + 1) p q (by simpa using a) (by simpa using b)) hv' h
          refine ⟨vs', ?_, h2⟩
          rw [Instr.fill, hpl]
          simp only
          rw [if_neg (by rw [hszc]; simp; omega)]
          exact h1

theorem zeroK_of {P : Program} {ρ : Rho} {t : TypeId} {K : AV → Bool} (h : zeroK P t K = true) :
    ∃ v vc, K v = true ∧ VR ρ v vc ∧ (∀ K', zeroK P t K' = K' v) ∧ (∀ w, (zeroValue t).run P w = .ok vc w) ∧ ∃ i, P.info? t = some i ∧ i.zero = some vc ∧ v = ofConst vc := by
  unfold zeroK at h
  split at h
  · rename_i i hi
    split at h
    · rename_i z hz
      cases hc : constOk z with
      | false => rw [hc] at h; cases h
      | true =>
        rw [hc, cond_true] at h
        exact ⟨_, z, h, constOk_VR hc, fun K' => by simp only [zeroK, hi, hz, hc, cond_true], fun w => by simp [zeroValue, typeInfo, hi, hz], i, hi, hz, rfl⟩
    · cases h
  · cases h

/-- Parts of an aggregate, evaluated. -/
def PartsR (ρ : Rho) (parts : List (Nat × AV)) (partsC : List (Nat × Value)) : Prop :=
  parts.length = partsC.length ∧ ∀ (j : Nat) p q, parts[j]? = some p → partsC[j]? = some q → p.1 = q.1 ∧ VR ρ p.2 q.2

theorem mapM_places {P : Program} (w : World) (fs : Array Field) : ∀ (l : List Field), (∀ f ∈ l, (P.info? f.type).isSome = true) →
    (l.mapM fun f => (do pure (f.offset, ← sizeOf f.type) : Sem (Nat × Nat))).run P w = .ok (l.map fun f => (f.offset, P.cellsOf f.type)) w
  | [], _ => by simp
  | f :: l, h => by
    obtain ⟨i, hi⟩ := Option.isSome_iff_exists.1 (h f (by simp))
    have := mapM_places (P := P) w fs l (fun g hg => h g (by simp [hg]))
    simp only [List.mapM_cons, Sem.run_bind, run_sizeOf_of hi, Result.andThen_ok, Sem.run_pure, this]
    simp [Program.cellsOf, hi]

theorem minmax_ok {P : Program} {ρ : Rho} (mn : Bool) : ∀ {rest : List AV} {restC : List Value} {x : AV} {xc : Value}, VR ρ x xc → VRs ρ rest restC →
    PureOK P ρ (minmaxK mn x rest) (restC.foldlM (if mn then Builtin.min2 else Builtin.max2) xc)
  | [], restC, x, xc, hx, hr => by
    obtain rfl := hr.inv_nil
    exact .one hx (fun K => by cases x <;> rfl) (fun w => by simp)
  | y :: rest, restC, x, xc, hx, hr => by
    obtain ⟨yc, restC', rfl, hy, hr'⟩ := hr.inv_cons
    cases hx with
    | int k a =>
      cases hy with
      | int k' b =>
        intro K h
        cases hk : (k == k') with
        | false => rw [minmaxK, hk] at h; cases h
        | true =>
          rw [minmaxK, hk, cond_true] at h
          obtain ⟨v, vc, h1, h2, h3, h4⟩ := minmax_ok (P := P) (ρ := ρ) mn (.int k (bif mn then (if b < a then b else a) else (if a < b then b else a))) hr' K h
          refine ⟨v, vc, h1, h2, fun K' => ?_, fun w => ?_⟩
          · rw [minmaxK, hk, cond_true]; exact h3 K'
          · rw [← h4 w]
            cases mn <;> simp [Builtin.min2, Builtin.max2]
      | _ => exact .no fun K => by rw [minmaxK]; all_goals (intros; simp_all)
    | _ => exact .no fun K => by rw [minmaxK]; all_goals (intros; simp_all)

end Go.AM
namespace Go.AM
open Go Go.RowKit

/-- A temporary: forgotten, or what stands for it. -/
def TR (ρ : Rho) (v : AV) (vc : Value) : Prop := v = .bad ∨ VR ρ v vc
theorem TR.mono {ρ ρ' : Rho} (hle : ρ.le ρ') {v : AV} {vc : Value} (h : TR ρ v vc) : TR ρ' v vc := h.imp id (VR.mono hle)
theorem TR.undef {ρ : Rho} : TR ρ .undef Go.undef := .inr VR.undef
theorem TR.get {ρ : Rho} {v : AV} {vc : Value} (h : TR ρ v vc) (hn : notBad v = true) : VR ρ v vc := by
  rcases h with rfl | h
  · cases hn
  · exact h

/-- A frame and what stands for it. -/
def FrR (ρ : Rho) (fr : Fr) (a : Act) : Prop := fr.length = a.tmps.size ∧ ∀ t, TR ρ (fr.getD t .undef) (a.tmps.getD t Go.undef)
theorem FrR.mono {ρ ρ' : Rho} (hle : ρ.le ρ') {fr : Fr} {a : Act} (h : FrR ρ fr a) : FrR ρ' fr a := ⟨h.1, fun t => (h.2 t).mono hle⟩
theorem FrR.getD {ρ : Rho} {fr : Fr} {a : Act} (h : FrR ρ fr a) (t : Nat) : TR ρ (fr.getD t .undef) (a.tmps.getD t undef) := h.2 t

theorem FrR.of_VRs {ρ : Rho} {fr : Fr} {a : Act} (h : VRs ρ fr a.tmps.toList) : FrR ρ fr a := by
  have e : fr.length = a.tmps.size := by have := h.1; rwa [Array.length_toList] at this
  refine ⟨e, fun t => .inr ?_⟩
  rw [List.getD_eq_getElem?_getD]
  by_cases ht : t < fr.length
  · obtain ⟨vc, h1, h2⟩ := VRs.get h (List.getElem?_eq_getElem ht)
    rw [List.getElem?_eq_getElem ht]
    have : a.tmps[t]? = some vc := by simpa using h1
    simp only [Option.getD_some, Array.getD_eq_getD_getElem?, this]
    exact h2
  · have h' : ¬ t < a.tmps.size := by rw [← e]; exact ht
    rw [List.getElem?_eq_none (by omega), Array.getD_eq_getD_getElem?, Array.getElem?_eq_none (by omega)]
    exact VR.undef

theorem put_length (fr : Fr) (dst : Option Nat) (v : AV) : (put fr dst v).length = fr.length := by
  cases dst <;> simp [put]
theorem put_getD_ne {fr : Fr} {dst : Option Nat} {v : AV} {t : Nat} (h : dst ≠ some t) : (put fr dst v).getD t .undef = fr.getD t .undef := by
  cases dst with
  | none => rfl
  | some d =>
    have : d ≠ t := fun e => h (e ▸ rfl)
    simp [put, List.getD_eq_getElem?_getD, List.getElem?_set_ne this]
theorem put_getD_self {fr : Fr} {d : Nat} {v : AV} (h : d < fr.length) : (put fr (some d) v).getD d .undef = v := by
  simp [put, List.getD_eq_getElem?_getD, List.getElem?_set_self h]
theorem aput_getD_ne {a : Act} {dst : Option Nat} {v : Value} {t : Nat} (h : dst ≠ some t) : (a.put dst v).tmps.getD t undef = a.tmps.getD t undef := by
  cases dst with
  | none => rfl
  | some d =>
    have : d ≠ t := fun e => h (e ▸ rfl)
    simp [Act.put, Array.getD_eq_getD_getElem?, Array.getElem?_setIfInBounds_ne this]
theorem aput_getD_self {a : Act} {d : Nat} {v : Value} (h : d < a.tmps.size) : (a.put (some d) v).tmps.getD d undef = v := by
  simp [Act.put, Array.getD_eq_getD_getElem?, h]
theorem aput_size (a : Act) (dst : Option Nat) (v : Value) : (a.put dst v).tmps.size = a.tmps.size := by
  cases dst <;> simp [Act.put]
theorem getD_out {fr : Fr} {t : Nat} (h : ¬ t < fr.length) : fr.getD t .undef = .undef := by
  simp [List.getD_eq_getElem?_getD, List.getElem?_eq_none (Nat.le_of_not_lt h)]
theorem agetD_out {a : Act} {t : Nat} (h : ¬ t < a.tmps.size) : a.tmps.getD t undef = undef := by
  simp [Array.getD_eq_getD_getElem?, Array.getElem?_eq_none (Nat.le_of_not_lt h)]

theorem FrR.put {ρ : Rho} {fr : Fr} {a : Act} (h : FrR ρ fr a) (dst : Option Nat) {v : AV} {vc : Value} (hv : VR ρ v vc) : FrR ρ (put fr dst v) (a.put dst vc) := by
  refine ⟨by rw [put_length, aput_size]; exact h.1, fun t => ?_⟩
  by_cases he : dst = some t
  · rw [he]
    by_cases hl : t < fr.length
    · rw [put_getD_self hl, aput_getD_self (h.1 ▸ hl)]
      exact .inr hv
    · rw [getD_out (by rw [put_length]; exact hl), agetD_out (by rw [aput_size, ← h.1]; exact hl)]
      exact .undef
  · rw [put_getD_ne he, aput_getD_ne he]
    exact h.2 t

/-- What operands come to: one reading of AM's, one of the model's. -/
def EvR (ρ : Rho) (e : Operand → AV) (ec : Operand → Value) (o : Op) : Prop := ∀ x ∈ o.operands, VR ρ (e x) (ec x)

theorem ev_VR {ρ : Rho} {fr : Fr} {a : Act} (h : FrR ρ fr a) {x : Operand} (hx : operandOk x = true) (hn : notBad (ev fr x) = true) : VR ρ (ev fr x) (a.eval x) := by
  cases x with
  | tmp t => exact (h.getD t).get hn
  | const v => exact constOk_VR hx
  | global g => cases hx
  | func f => exact .fn f [] #[] rfl fun i v vc hv => by simp at hv

theorem ev_EvR {ρ : Rho} {fr : Fr} {a : Act} (h : FrR ρ fr a) {o : Op} (ho : opOk o (ev fr) = true) : EvR ρ (ev fr) a.eval o := fun x hx => by
  unfold opOk at ho
  rw [List.all_eq_true] at ho
  have := ho x (by simpa using hx)
  rw [Bool.and_eq_true] at this
  exact ev_VR h this.1 this.2

theorem PureOK.exec {P : Program} {ρ : Rho} {f : (AV → Bool) → Bool} {s : Sem Value} (h : PureOK P ρ f s) (K : AV → Bool) (hK : f K = true) :
    ∃ v vc, K v = true ∧ VR ρ v vc ∧ (∀ K', f K' = K' v) ∧ ∀ w, (do pure (Next.value (← s)) : Sem Next).run P w = .ok (.value vc) w := by
  obtain ⟨v, vc, h1, h2, h3, h4⟩ := h K hK
  exact ⟨v, vc, h1, h2, h3, fun w => by simp [h4]⟩

theorem evals_VRs {ρ : Rho} {e : Operand → AV} {ec : Operand → Value} : ∀ {l : List Operand}, (∀ x ∈ l, VR ρ (e x) (ec x)) → VRs ρ (l.map e) (l.map ec)
  | [], _ => .nil
  | x :: l, h => .cons (h x (by simp)) (evals_VRs fun y hy => h y (by simp [hy]))

theorem OVR_map {ρ : Rho} {e : Operand → AV} {ec : Operand → Value} {o : Option Operand} (h : ∀ x ∈ o, VR ρ (e x) (ec x)) : OVR ρ (o.map e) (o.map ec) := by
  cases o with
  | none => trivial
  | some x => exact h x rfl

theorem len_ok {P : Program} {ρ : Rho} {x : AV} {xc : Value} (hx : VR ρ x xc) (t ty : TypeId) : PureOK P ρ (lenK P t x) (Builtin.len_ #[t] ty #[xc]) := by
  intro K h
  unfold lenK at h
  split at h
  · rename_i s ht
    obtain ⟨b, rfl, rfl⟩ := hx.of_str
    refine ⟨_, _, h, .int .i64 _, fun K' => by simp only [lenK, ht], fun w => ?_⟩
    rw [bytesL_length]
    simp [Builtin.len_, run_underlying ht, goInt]
  · rename_i e a n ht
    refine ⟨_, .int .i64 n, h, .int .i64 _, fun K' => by simp only [lenK, ht], fun w => ?_⟩
    cases hx <;> simp [Builtin.len_, run_underlying ht, goInt]
  · rename_i n e ht
    refine ⟨_, _, h, .int .i64 n, fun K' => by simp only [lenK, ht], fun w => ?_⟩
    cases xc <;> simp [Builtin.len_, run_underlying ht, goInt]
  · rename_i k e ht
    refine ⟨_, _, h, .int .i64 0, fun K' => by simp only [lenK, ht], fun w => ?_⟩
    cases hx
    simp [Builtin.len_, run_underlying ht, goInt]
  · cases h

theorem build_ok {P : Program} {ρ : Rho} {parts : List (Nat × AV)} {partsC : Array (Nat × Value)} (hp : PartsR ρ parts partsC.toList) (t : TypeId) :
    PureOK P ρ (buildK P t parts) (Instr.build t partsC) := by
  intro K h
  unfold buildK at h
  split at h
  · rename_i fs ht
    cases hall : fs.toList.all (fun f => (P.info? f.type).isSome) with
    | false => rw [hall] at h; cases h
    | true =>
    rw [hall, cond_true] at h
    obtain ⟨z, zc, h, hz, ez, hzr, i, hi, hiz, hofc⟩ := zeroK_of (ρ := ρ) h
    split at h
    · rename_i cs hfill
      have hpl : (fun i => (fs[i]?).map fun (f : Field) => (f.offset, P.cellsOf f.type)) = fun i => (fs.map fun (f : Field) => (f.offset, P.cellsOf f.type))[i]? := funext fun i => by
        rw [Array.getElem?_map]
      have hfill' := hfill
      rw [hpl] at hfill'
      obtain ⟨vs', h1, h2⟩ := fill_ok hp.1 hp.2 hz.cells hfill'
      refine ⟨_, .agg vs', h, by have := VR.mk_agg h2; simpa using this, fun K' => ?_, fun w => ?_⟩
      · simp only [buildK, ht, hall, cond_true]; rw [ez]; simp only [hfill]
      · have hm : ∀ w, (fs.mapM fun f => (do pure (f.offset, ← sizeOf f.type) : Sem (Nat × Nat))).run P w = .ok (fs.map fun f => (f.offset, P.cellsOf f.type)) w := fun w => by
          rw [Array.mapM_eq_mapM_toList, Sem.run_map, mapM_places w fs fs.toList (List.all_eq_true.1 hall)]
          simp [← Array.toList_map]
        simp only [Instr.build, Sem.run_bind, hzr, Result.andThen_ok, run_underlying ht, hm, h1, Sem.run_pure]
    · cases h
  · rename_i n e ht
    obtain ⟨z, zc, h, hz, ez, hzr, i, hi, hiz, hofc⟩ := zeroK_of (ρ := ρ) h
    split at h
    · rename_i ie hie
      split at h
      · rename_i cs hfill
        obtain ⟨vs', h1, h2⟩ := fill_ok hp.1 hp.2 hz.cells hfill
        refine ⟨_, .agg vs', h, by have := VR.mk_agg h2; simpa using this, fun K' => ?_, fun w => ?_⟩
        · simp only [buildK, ht]; rw [ez]; simp only [hie, hfill]
        · simp only [Instr.build, Sem.run_bind, hzr, Result.andThen_ok, run_underlying ht, run_sizeOf_of hie, h1, Sem.run_pure]
      · cases h
    · cases h
  · cases h

theorem parts_R {ρ : Rho} {e : Operand → AV} {ec : Operand → Value} {ps : Array (Nat × Operand)} (h : ∀ p ∈ ps.toList, VR ρ (e p.2) (ec p.2)) :
    PartsR ρ (ps.toList.map fun (i, x) => (i, e x)) (ps.map fun (i, x) => (i, ec x)).toList := by
  refine ⟨by simp, fun j p q hp hq => ?_⟩
  rw [Array.toList_map, List.getElem?_map] at hq
  rw [List.getElem?_map] at hp
  cases hj : ps.toList[j]? with
  | none => rw [hj] at hp; simp at hp
  | some r =>
    rw [hj] at hp hq
    simp only [Option.map_some, Option.some.injEq] at hp hq
    subst hp hq
    exact ⟨rfl, h r (List.mem_of_getElem? hj)⟩

theorem pure_sound {P : Program} {ρ : Rho} (o : Oper) {e : Operand → AV} {ec : Operand → Value} (he : EvR ρ e ec o.op) (hk : kindOf P o.op = .pure) (K : AV → Bool)
    (h : pureK P o.op e K = true) : ∃ v vc, K v = true ∧ VR ρ v vc ∧ (∀ K', pureK P o.op e K' = K' v) ∧ ∀ w, (execOp ec o).run P w = .ok (.value vc) w := by
  obtain ⟨dst, op, ty, pos, after, guard⟩ := o
  simp only at he hk h ⊢
  unfold pureK at h
  split at h
  · rename_i x
    exact ⟨_, _, h, he x (by simp [Op.operands]), fun K' => rfl, fun w => by simp [execOp]⟩
  · rename_i x
    exact ⟨_, _, h, he x (by simp [Op.operands]), fun K' => rfl, fun w => by simp [execOp]⟩
  · rename_i c a b
    have hc := he c (by simp [Op.operands])
    split at h
    · rename_i t ht
      rw [ht] at hc
      have hcc := hc.of_bool
      cases t with
      | true => exact ⟨_, _, h, he a (by simp [Op.operands]), fun K' => by simp only [pureK, ht, cond_true], fun w => by simp [execOp, hcc, Go.asBool]⟩
      | false => exact ⟨_, _, h, he b (by simp [Op.operands]), fun K' => by simp only [pureK, ht, cond_false], fun w => by simp [execOp, hcc, Go.asBool]⟩
    · cases h
  · rename_i x
    have hx := he x (by simp [Op.operands])
    split at h
    · rename_i a ha
      rw [ha] at hx
      have hx' := hx
      generalize hxc : ec x = xc at hx
      cases hx with
      | ptr h1 h2 h3 h4 h5 => exact ⟨_, ec x, h, hx', fun K' => by simp only [pureK, ha], fun w => by simp [execOp, hxc]⟩
    · rename_i f cs ha
      rw [ha] at hx
      obtain ⟨vs, hv, _⟩ := hx.of_fn
      exact ⟨_, ec x, h, hx, fun K' => by simp only [pureK, ha], fun w => by simp [execOp, hv]⟩
    · cases h
  · rename_i bop t x y u
    exact PureOK.exec (bin_ok (he x (by simp [Op.operands])) (he y (by simp [Op.operands])) bop t x y) K h
  · rename_i uop t x
    exact PureOK.exec (un_ok (he x (by simp [Op.operands])) uop) K h
  · rename_i s d x
    exact PureOK.exec (conv_ok (he x (by simp [Op.operands])) s d) K h
  · rename_i f first caps
    cases hf : first.isEmpty with
    | false => rw [hf] at h; cases h
    | true =>
      rw [hf, cond_true] at h
      have hf' : first = #[] := by simpa using hf
      subst hf'
      have hv := evals_VRs (l := caps.toList) (ρ := ρ) (e := e) (ec := ec) fun x hx => he x (by simp [Op.operands]; simpa using hx)
      refine ⟨_, .func (.func f) #[] (caps.map ec), h, .fn f _ _ (by simp) (fun i v vc a b => hv.2 i v vc a ?_), fun K' => by simp [pureK], fun w => by simp [execOp, Instr.makeFunc]⟩
      rw [← Array.toList_map]; simpa using b
  · rename_i t x lo hi mx
    have ho : ∀ y, (y = x ∨ y ∈ lo ∨ y ∈ hi ∨ y ∈ mx) → VR ρ (e y) (ec y) := fun y hy => he y (by
      rcases hy with rfl | hy | hy | hy
      · simp [Op.operands]
      all_goals (simp only [Option.mem_def] at hy; subst hy; simp [Op.operands]))
    exact PureOK.exec (slice_ok (ho x (.inl rfl)) (OVR_map fun y hy => ho y (.inr (.inl hy))) (OVR_map fun y hy => ho y (.inr (.inr (.inl hy)))) (OVR_map fun y hy => ho y (.inr (.inr (.inr hy)))) t) K h
  · rename_i s x f
    have hx := he x (by simp [Op.operands])
    split at h
    · rename_i fs id b d z hs ha
      rw [ha] at hx
      split at h
      · rename_i fd hfd
        obtain ⟨i, hi, hz, h, ez⟩ := esizeK_of h
        cases hc : decide (d + fd.offset < z) with
        | false => rw [hc] at h; cases h
        | true =>
          rw [hc, cond_true] at h
          generalize hxc : ec x = xc at hx
          cases hx with
          | @ptr _ _ _ _ cs c h1 h2 h3 h4 h5 =>
            refine ⟨_, _, h, VR.ptr (d := d + fd.offset) h1 h2 h3 h4 (by simpa using hc), fun K' => by simp only [pureK, hs, ha, hfd]; rw [ez, hc, cond_true], fun w => ?_⟩
            have e1 : (⟨c.blk, c.boff + (b + d - c.lo), none⟩ : Addr).add fd.offset = ⟨c.blk, c.boff + (b + (d + fd.offset) - c.lo), none⟩ := by
              rw [Addr.add_none]; congr 1; omega
            have e2 : i.size ≠ 0 := by omega
            simp [execOp, Instr.fieldAt, Instr.sureAddr, run_underlying hs, hfd, hxc, fieldPlace, run_sizeOf_of hi, e1, e2]
      · cases h
    · cases h
  · rename_i t x f
    have hx := he x (by simp [Op.operands])
    split at h
    · rename_i fs cs ht ha
      rw [ha] at hx
      obtain ⟨vs, hvs, hv⟩ := hx.of_agg
      split at h
      · rename_i fd hfd
        obtain ⟨v, vc, h1, h2, h3, h4⟩ := part_ok (P := P) hv fd.type fd.offset K h
        exact ⟨v, vc, h1, h2, fun K' => by simp only [pureK, ht, ha, hfd]; exact h3 K', fun w => by simp [execOp, Instr.field, run_underlying ht, hfd, hvs, Go.asAgg, h4]⟩
      · cases h
    · cases h
  · rename_i t x i
    exact PureOK.exec (indexAddr_ok (he x (by simp [Op.operands])) (he i (by simp [Op.operands])) t) K h
  · rename_i t x i
    exact PureOK.exec (index_ok (he x (by simp [Op.operands])) (he i (by simp [Op.operands])) t) K h
  · rename_i x i
    have hx := he x (by simp [Op.operands])
    split at h
    · rename_i vs ha
      rw [ha] at hx
      obtain ⟨vc, hvc, hv⟩ := hx.of_tup
      split at h
      · rename_i v hvi
        obtain ⟨u, hu, hr⟩ := hv.get hvi
        have hu' : vc[i]? = some u := by simpa using hu
        exact ⟨v, u, h, hr, fun K' => by simp only [pureK, ha, hvi], fun w => by simp [execOp, Instr.extract, hvc, hu']⟩
      · cases h
    · cases h
  · rename_i t parts
    have hp := parts_R (ps := parts) (ρ := ρ) (e := e) (ec := ec) fun p hp => he p.2 (by simp [Op.operands]; exact ⟨p.1, by simpa using hp⟩)
    exact PureOK.exec (build_ok hp t) K h
  · rename_i args argTypes
    split at h
    · rename_i x t ha ht
      have ha' : args = #[x] := by apply Array.ext'; rw [ha]
      have ht' : argTypes = #[t] := by apply Array.ext'; rw [ht]
      subst ha' ht'
      obtain ⟨v, vc, h1, h2, h3, h4⟩ := len_ok (P := P) (he x (by simp [Op.operands, Call.operands])) t ty K h
      exact ⟨v, vc, h1, h2, fun K' => by simp only [pureK]; exact h3 K', fun w => by simp [execOp, resolve, invoke, builtin, h4]⟩
    · cases h
  · rename_i args argTypes
    split at h
    · rename_i x rest ha
      have hv := evals_VRs (l := args.toList) (ρ := ρ) (e := e) (ec := ec) fun x hx => he x (by simp [Op.operands, Call.operands]; simpa using hx)
      rw [ha] at hv
      obtain ⟨xc, restC, hc, hxr, hr⟩ := hv.inv_cons
      obtain ⟨v, vc, h1, h2, h3, h4⟩ := minmax_ok (P := P) true hxr hr K h
      refine ⟨v, vc, h1, h2, fun K' => by simp only [pureK, ha]; exact h3 K', fun w => ?_⟩
      have := h4 w
      simp only [if_true] at this
      simp [execOp, resolve, invoke, builtin, Builtin.min_, hc, this]
    · cases h
  · rename_i args argTypes
    split at h
    · rename_i x rest ha
      have hv := evals_VRs (l := args.toList) (ρ := ρ) (e := e) (ec := ec) fun x hx => he x (by simp [Op.operands, Call.operands]; simpa using hx)
      rw [ha] at hv
      obtain ⟨xc, restC, hc, hxr, hr⟩ := hv.inv_cons
      obtain ⟨v, vc, h1, h2, h3, h4⟩ := minmax_ok (P := P) false hxr hr K h
      refine ⟨v, vc, h1, h2, fun K' => by simp only [pureK, ha]; exact h3 K', fun w => ?_⟩
      have := h4 w
      simp only [Bool.false_eq_true, if_false] at this
      simp [execOp, resolve, invoke, builtin, Builtin.max_, hc, this]
    · cases h
  · cases h

end Go.AM
