/- Pure operations: what AM makes of them is what the model makes of them, in whatever world. -/
import Derived.Test.YtpagagiojnhhfaaAmRel
import Derived.WalkSpells
namespace Go.AM
open Go Go.RowKit

/-- A pure operation, in continuation form, stands for a run that leaves every world alone. -/
def PureOK (P : Program) (ρ : Rho) (f : (AV → Bool) → Bool) (s : Sem Value) : Prop :=
  ∀ K, f K = true → ∃ v vc, K v = true ∧ VR ρ v vc ∧ (∀ K', f K' = K' v) ∧ ∀ w, s.run P w = .ok vc w

section
variable {P : Program} {ρ : Rho} {f g : (AV → Bool) → Bool} {s : Sem Value}
theorem PureOK.one {v : AV} {vc : Value} (hv : VR ρ v vc) (hf : ∀ K, f K = K v) (hs : ∀ w, s.run P w = .ok vc w) : PureOK P ρ f s :=
  fun K hK => ⟨v, vc, by rw [hf] at hK; exact hK, hv, hf, hs⟩
theorem PureOK.no (hf : ∀ K, f K = false) : PureOK P ρ f s := fun K hK => by rw [hf] at hK; cases hK
theorem PureOK.congr (hf : ∀ K, f K = g K) (h : PureOK P ρ g s) : PureOK P ρ f s := by
  have : f = g := funext hf
  rw [this]; exact h
theorem PureOK.guard {c : Bool} (h : c = true → PureOK P ρ f s) : PureOK P ρ (fun K => bif c then f K else false) s := by
  cases c
  · exact .no fun K => rfl
  · exact h rfl
theorem PureOK.guardN {c : Bool} (h : c = false → PureOK P ρ f s) : PureOK P ρ (fun K => bif c then false else f K) s := by
  cases c
  · exact h rfl
  · exact .no fun K => rfl
end

/-! Bytes. -/
theorem bytes_eq (l m : List UInt8) : (l.map (fun b => (b.toNat : Int)) == m.map (fun b => (b.toNat : Int))) = (l == m) := by
  induction l generalizing m with
  | nil => cases m <;> simp
  | cons a l ih =>
    cases m with
    | nil => simp
    | cons b m =>
      simp only [List.map_cons, List.cons_beq_cons, ih]
      congr 1
      rw [Bool.eq_iff_iff]
      simp only [beq_iff_eq]
      constructor
      · intro h; exact UInt8.toNat_inj.1 (by omega)
      · intro h; rw [h]
theorem bytesL_eq (a b : ByteArray) : (bytesL a == bytesL b) = (a.toList == b.toList) := by
  rw [ByteArray.toList_eq, ByteArray.toList_eq]; exact bytes_eq _ _
theorem bytes_lt (l m : List UInt8) : ltL (l.map (fun b => (b.toNat : Int))) (m.map (fun b => (b.toNat : Int))) = Op.bytesLess l m := by
  induction l generalizing m with
  | nil => cases m <;> simp [ltL, Op.bytesLess]
  | cons a l ih =>
    cases m with
    | nil => simp [ltL, Op.bytesLess]
    | cons b m =>
      simp only [List.map_cons, ltL, Op.bytesLess, ih]
      have h1 : decide ((a.toNat : Int) < (b.toNat : Int)) = decide (a < b) := by
        rw [Bool.eq_iff_iff]; simp only [decide_eq_true_eq, UInt8.lt_iff_toNat_lt]; omega
      have h2 : ((a.toNat : Int) == (b.toNat : Int)) = (a == b) := by
        rw [Bool.eq_iff_iff]
        simp only [beq_iff_eq]
        constructor
        · intro h; exact UInt8.toNat_inj.1 (by omega)
        · intro h; rw [h]
      rw [h1, h2]
theorem bytesL_lt (a b : ByteArray) : ltL (bytesL a) (bytesL b) = Op.bytesLess a.toList b.toList := by
  rw [ByteArray.toList_eq, ByteArray.toList_eq]; exact bytes_lt _ _
theorem bytesL_length (s : ByteArray) : (bytesL s).length = s.size := by unfold bytesL; rw [List.length_map, Array.length_toList]; rfl
theorem bytesL_append (a b : ByteArray) : bytesL (a ++ b) = bytesL a ++ bytesL b := by
  unfold bytesL; rw [ByteArray.data_append, Array.toList_append, List.map_append]
theorem bytesL_extract (s : ByteArray) (l h : Nat) : bytesL (s.extract l h) = ((bytesL s).take h).drop l := by
  unfold bytesL
  rw [ByteArray.data_extract, Array.toList_extract, List.extract_eq_take_drop, ← List.map_take, ← List.map_drop, List.drop_take]
theorem bytesL_get (s : ByteArray) (i : Nat) (h : i < s.size) : (bytesL s).getD i 0 = ((s[i]'h).toNat : Int) := by
  have h' : i < s.data.toList.length := by rw [Array.length_toList]; exact h
  unfold bytesL
  rw [List.getD_eq_getElem?_getD, List.getElem?_map, List.getElem?_eq_getElem h']
  rfl

/-! Equality, and operators. -/
theorem eqGuard_int (P : Program) (w : World) (op : BinOp) (t : TypeId) (X Y : Operand) (k : IntKind) (a : Int) (v : Value) : (eqGuard op t X Y (.int k a) v).run P w = .ok () w := by
  unfold eqGuard; cases op <;> simp
theorem eqGuard_of (P : Program) (w : World) (op : BinOp) (t : TypeId) (X Y : Operand) {ρ : Rho} {x : AV} {v u : Value} (hx : VR ρ x v) (hn : ∀ cs, x ≠ .agg cs) :
    (eqGuard op t X Y v u).run P w = .ok () w := by
  unfold eqGuard
  cases hx <;> first | (cases op <;> simp; done) | exact absurd rfl (hn _)

theorem wrapBits (P : Program) (w : World) (op : BinOp) (k : IntKind) (a b r : Int) (h : abits op k a b = some r) : (Op.intBits op k a b).run P w = .ok (.int k r) w := by
  cases op <;> simp [abits] at h <;> simp [Op.intBits, h]

theorem bin_int {P : Program} {ρ : Rho} (op : BinOp) (t : TypeId) (k k' : IntKind) (a b : Int) :
    PureOK P ρ (binK P op t (.int k a) (.int k' b)) (binOp op t (.int k a) (.int k' b)) := by
  by_cases hk : k = k'
  · subst hk
    have hbits : ∀ r, abits op k a b = some r → (op = .and ∨ op = .or ∨ op = .xor ∨ op = .andNot) → PureOK P ρ (binK P op t (.int k a) (.int k b)) (binOp op t (.int k a) (.int k b)) := fun r hr hop => by
      refine .one (.int k r) (fun K => ?_) (fun w => ?_)
      · rcases hop with rfl | rfl | rfl | rfl <;> simp [binK, hr]
      · have := wrapBits P w op k a b r hr
        rcases hop with rfl | rfl | rfl | rfl <;> simpa [binOp] using this
    cases op with
    | and => exact hbits _ rfl (by simp)
    | or => exact hbits _ rfl (by simp)
    | xor => exact hbits _ rfl (by simp)
    | andNot => exact hbits _ rfl (by simp)
    | add => exact .one (.int k (k.wrap (a + b))) (fun K => by simp [binK]) (fun w => by simp [binOp, Op.intArith])
    | sub => exact .one (.int k (k.wrap (a - b))) (fun K => by simp [binK]) (fun w => by simp [binOp, Op.intArith])
    | mul => exact .one (.int k (k.wrap (a * b))) (fun K => by simp [binK]) (fun w => by simp [binOp, Op.intArith])
    | quo =>
      by_cases hb : b = 0
      · subst hb; exact .no fun K => by simp [binK]
      · exact .one (.int k (k.wrap (a.tdiv b))) (fun K => by simp [binK, hb]) (fun w => by simp [binOp, Op.intDiv, hb])
    | rem =>
      by_cases hb : b = 0
      · subst hb; exact .no fun K => by simp [binK]
      · exact .one (.int k (a.tmod b)) (fun K => by simp [binK, hb]) (fun w => by simp [binOp, Op.intDiv, hb])
    | shl =>
      by_cases hb : b < 0
      · exact .no fun K => by simp [binK, hb]
      · exact .one (.int k (k.wrap (a * 2 ^ (min b.toNat k.bits)))) (fun K => by simp [binK, hb]) (fun w => by simp [binOp, Op.shift, hb])
    | shr =>
      by_cases hb : b < 0
      · exact .no fun K => by simp [binK, hb]
      · exact .one (.int k (a.fdiv (2 ^ (min b.toNat k.bits)))) (fun K => by simp [binK, hb]) (fun w => by simp [binOp, Op.shift, hb])
    | eql => exact .one (.bool (a == b)) (fun K => by simp [binK, eqK]) (fun w => by simp [binOp, Op.intCmp])
    | neq => exact .one (.bool (!(a == b))) (fun K => by simp [binK, eqK]) (fun w => by simp [binOp, Op.intCmp]; rfl)
    | lss => exact .one (.bool (decide (a < b))) (fun K => by simp [binK]) (fun w => by simp [binOp, Op.intCmp])
    | leq => exact .one (.bool (decide (a ≤ b))) (fun K => by simp [binK]) (fun w => by simp [binOp, Op.intCmp])
    | gtr => exact .one (.bool (decide (a > b))) (fun K => by simp [binK]) (fun w => by simp [binOp, Op.intCmp])
    | geq => exact .one (.bool (decide (a ≥ b))) (fun K => by simp [binK]) (fun w => by simp [binOp, Op.intCmp])
  · have hk' : (k == k') = false := by simpa using hk
    cases op with
    | shl =>
      by_cases hb : b < 0
      · exact .no fun K => by simp [binK, hb]
      · exact .one (.int k (k.wrap (a * 2 ^ (min b.toNat k.bits)))) (fun K => by simp [binK, hb]) (fun w => by simp [binOp, Op.shift, hb])
    | shr =>
      by_cases hb : b < 0
      · exact .no fun K => by simp [binK, hb]
      · exact .one (.int k (a.fdiv (2 ^ (min b.toNat k.bits)))) (fun K => by simp [binK, hb]) (fun w => by simp [binOp, Op.shift, hb])
    | _ => exact .no fun K => by simp [binK, eqK, hk']

theorem bin_str {P : Program} {ρ : Rho} (op : BinOp) (t : TypeId) (a b : ByteArray) :
    PureOK P ρ (binK P op t (.str (bytesL a)) (.str (bytesL b))) (binOp op t (.string a) (.string b)) := by
  cases op with
  | add =>
    by_cases hl : (((bytesL a).length + (bytesL b).length : Nat) : Int) ≤ 9223372036854775807
    · refine .one (v := .str (bytesL a ++ bytesL b)) (vc := .string (a ++ b)) (by rw [← bytesL_append]; exact .str _) (fun K => ?_) (fun w => ?_)
      · simp only [binK, decide_eq_true hl, cond_true]
      · rw [bytesL_length, bytesL_length] at hl
        have := run_string_add_sum (P := P) w a b (by omega)
        simpa [binOp] using this
    · exact .no fun K => by simp only [binK, decide_eq_false hl, cond_false]
  | eql => exact .one (.bool (bytesL a == bytesL b)) (fun K => by simp only [binK, eqK]) (fun w => by simp [binOp, Op.stringOp, bytesL_eq])
  | neq => exact .one (.bool (!(bytesL a == bytesL b))) (fun K => by simp only [binK, eqK]) (fun w => by simp [binOp, Op.stringOp, bytesL_eq])
  | lss => exact .one (.bool (ltL (bytesL a) (bytesL b))) (fun K => by simp only [binK]) (fun w => by simp [binOp, Op.stringOp, bytesL_lt])
  | leq => exact .one (.bool (ltL (bytesL a) (bytesL b) || bytesL a == bytesL b)) (fun K => by simp only [binK]) (fun w => by simp [binOp, Op.stringOp, bytesL_lt, bytesL_eq])
  | gtr => exact .one (.bool (!(ltL (bytesL a) (bytesL b) || bytesL a == bytesL b))) (fun K => by simp only [binK]) (fun w => by simp [binOp, Op.stringOp, bytesL_lt, bytesL_eq])
  | geq => exact .one (.bool (!ltL (bytesL a) (bytesL b))) (fun K => by simp only [binK]) (fun w => by simp [binOp, Op.stringOp, bytesL_lt])
  | _ => exact .no fun K => by simp [binK]

set_option maxHeartbeats 2000000 in
theorem eqIn_ok {P : Program} {ρ : Rho} {t : TypeId} {x y : AV} {xc yc : Value} (hx : VR ρ x xc) (hy : VR ρ y yc) (hi : ∀ k n, x ≠ .int k n) (hs : ∀ s, x ≠ .str s)
    (K : Bool → Bool) (h : eqK P t x y K = true) (d : Nat) : ∃ b, K b = true ∧ (∀ K', eqK P t x y K' = K' b) ∧ ∀ w, (Op.equalIn (d + 1) t xc yc).run P w = .ok b w := by
  unfold eqK at h
  split at h
  · exact absurd rfl (hi _ _)
  · exact absurd rfl (hs _)
  · split at h
    all_goals first | (cases h; done) | skip
    all_goals
      have hu := ‹P.underlying t = some _›
      cases hx <;> cases hy
      all_goals first | exact absurd rfl ‹SA.nil = SA.nil → False› | exact ⟨_, h, fun K' => by simp only [eqK, hu], fun w => by simp [Op.equalIn, run_underlying hu]⟩

theorem eq_ok {P : Program} {ρ : Rho} {t : TypeId} {x y : AV} {xc yc : Value} (hx : VR ρ x xc) (hy : VR ρ y yc) (hi : ∀ k n, x ≠ .int k n) (hs : ∀ s, x ≠ .str s)
    (K : Bool → Bool) (h : eqK P t x y K = true) : ∃ b, K b = true ∧ (∀ K', eqK P t x y K' = K' b) ∧ ∀ w, (Op.equal t xc yc).run P w = .ok b w :=
  eqIn_ok hx hy hi hs K h 9999

theorem bin_ok {P : Program} {ρ : Rho} {x y : AV} {xc yc : Value} (hx : VR ρ x xc) (hy : VR ρ y yc) (op : BinOp) (t : TypeId) (X Y : Operand) :
    PureOK P ρ (binK P op t x y) (do eqGuard op t X Y xc yc; binOp op t xc yc) := by
  by_cases hag : ∃ cs, x = .agg cs
  · obtain ⟨cs, rfl⟩ := hag
    refine .no fun K => ?_
    cases op <;> simp only [binK, eqK] <;> (repeat' split) <;> first | rfl | simp_all
  · have hg : ∀ w, (eqGuard op t X Y xc yc).run P w = .ok () w := fun w => eqGuard_of P w op t X Y hx fun cs e => hag ⟨cs, e⟩
    have key : PureOK P ρ (binK P op t x y) (binOp op t xc yc) := by
      by_cases hi : ∃ k n, x = .int k n
      · obtain ⟨k, n, rfl⟩ := hi
        cases hx
        cases hy
        case int k' b => exact bin_int op t k k' n b
        all_goals
          refine .no fun K => ?_
          cases op <;> simp only [binK, eqK] <;> (repeat' split) <;> first | rfl | simp_all
      · by_cases hs : ∃ s, x = .str s
        · obtain ⟨s, rfl⟩ := hs
          cases hx
          cases hy
          case str b => exact bin_str op t _ b
          all_goals
            refine .no fun K => ?_
            cases op <;> simp only [binK, eqK] <;> (repeat' split) <;> first | rfl | simp_all
        · have hi' : ∀ k n, x ≠ .int k n := fun k n e => hi ⟨k, n, e⟩
          have hs' : ∀ s, x ≠ .str s := fun s e => hs ⟨s, e⟩
          by_cases hop : op = .eql ∨ op = .neq
          · intro K hK
            have hsp : ∀ w, (binOp .eql t xc yc).run P w = ((Op.equal t xc yc).run P w).andThen fun b w => .ok (.bool b) w := fun w => by
              cases hx <;> first | exact absurd rfl (hi' _ _) | exact absurd rfl (hs' _) | simp [binOp]
            have hsn : ∀ w, (binOp .neq t xc yc).run P w = ((Op.equal t xc yc).run P w).andThen fun b w => .ok (.bool (!b)) w := fun w => by
              cases hx <;> first | exact absurd rfl (hi' _ _) | exact absurd rfl (hs' _) | simp [binOp]
            rcases hop with rfl | rfl
            · obtain ⟨b, h1, h2, h3⟩ := eq_ok hx hy hi' hs' (fun b => K (.bool b)) hK
              exact ⟨.bool b, .bool b, h1, .bool b, fun K' => h2 fun b => K' (.bool b), fun w => by rw [hsp, h3]; rfl⟩
            · obtain ⟨b, h1, h2, h3⟩ := eq_ok hx hy hi' hs' (fun b => K (.bool (!b))) hK
              exact ⟨.bool (!b), .bool (!b), h1, .bool _, fun K' => h2 fun b => K' (.bool (!b)), fun w => by rw [hsn, h3]; rfl⟩
          · refine .no fun K => ?_
            cases op <;> first | exact absurd (.inl rfl) hop | exact absurd (.inr rfl) hop | skip
            all_goals
              cases x <;> first | exact absurd rfl (hi' _ _) | exact absurd rfl (hs' _) | rfl
    intro K hK
    obtain ⟨v, vc, h1, h2, h3, h4⟩ := key K hK
    exact ⟨v, vc, h1, h2, h3, fun w => by simp [hg w, h4 w]⟩

theorem un_ok {P : Program} {ρ : Rho} {x : AV} {xc : Value} (hx : VR ρ x xc) (op : UnOp) : PureOK P ρ (unK op x) (Op.unary op xc) := by
  cases hx
  case int k n =>
    cases op with
    | neg => exact .one (.int k (k.wrap (0 - n))) (fun K => by simp [unK]) (fun w => by simp [Op.unary, Op.intArith])
    | xor =>
      refine .one (.int k _) (fun K => by simp only [unK, abits]; rfl) (fun w => ?_)
      simp only [Op.unary]
      exact wrapBits P w .xor k _ n _ rfl
    | _ => exact .no fun K => by simp [unK]
  case bool b =>
    cases op with
    | not => exact .one (.bool (!b)) (fun K => by simp [unK]) (fun w => by simp [Op.unary])
    | _ => exact .no fun K => by simp [unK]
  all_goals exact .no fun K => by cases op <;> simp [unK]

theorem conv_ok {P : Program} {ρ : Rho} {x : AV} {xc : Value} (hx : VR ρ x xc) (src dst : TypeId) : PureOK P ρ (convK P src dst x) (convert src dst xc) := by
  intro K h
  unfold convK at h
  split at h
  · rename_i d k k' n hs hd
    obtain rfl := hx.of_int
    exact ⟨_, _, h, .int k (k.wrap n), fun K' => by simp only [convK, hs, hd], fun w => by simp [convert, run_underlying hs, run_underlying hd, Conv.intToInt]⟩
  · rename_i d s hs hd
    obtain ⟨b, rfl, rfl⟩ := hx.of_str
    refine ⟨_, _, h, .str b, fun K' => by simp only [convK, hs, hd], fun w => ?_⟩
    cases d <;> simp [convert, run_underlying hs, run_underlying hd]
  · cases h

end Go.AM
