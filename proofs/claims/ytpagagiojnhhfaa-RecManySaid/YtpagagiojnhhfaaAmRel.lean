/- AM's memory and the model's: what stands for what. -/
import Derived.Test.YtpagagiojnhhfaaAmCore
import Derived.Below
import Derived.WalkKit
namespace Go.AM
open Go Go.RowKit

/-- One place where an abstract row's cells lo .. hi lie: block blk, from boff on; the block has sz cells. -/
structure Copy where
  blk : Nat
  boff : Nat
  lo : Nat
  hi : Nat
  sz : Nat

inductive Loc where
  | cells (z : Nat) (cs : List Copy)
  | obj (r : Nat)

abbrev Rho := Nat → Option Loc

inductive VR (ρ : Rho) : AV → Value → Prop where
  | bool (b : Bool) : VR ρ (.bool b) (.bool b)
  | int (k : IntKind) (n : Int) : VR ρ (.int k n) (.int k n)
  | str (s : ByteArray) : VR ρ (.str (bytesL s)) (.string s)
  | ptrNil : VR ρ (.ptr none) (.pointer none)
  | ptr {id b d z : Nat} {cs : List Copy} {c : Copy} (h : ρ id = some (.cells z cs)) (hc : c ∈ cs) (h1 : c.lo ≤ b) (h2 : b + z ≤ c.hi) (h3 : d < z) :
      VR ρ (.ptr (some ⟨id, b, d, z⟩)) (.pointer (some ⟨c.blk, c.boff + (b + d - c.lo), none⟩))
  | iter {id r : Nat} (h : ρ id = some (.obj r)) : VR ρ (.it id) (.pointer (some ⟨r, 0, none⟩))
  | slNil : VR ρ (.sl .nil 0) (.slice none 0 0)
  | slZero (a : Addr) : VR ρ (.sl .zero 0) (.slice (some a) 0 0)
  | sl {id off z len cap : Nat} {cs : List Copy} {c : Copy} (h : ρ id = some (.cells z cs)) (hc : c ∈ cs) (h1 : c.lo ≤ off) (h2 : off + len * z ≤ c.hi)
      (h3 : len ≤ cap) (h4 : c.boff + (off - c.lo) + cap * z ≤ c.sz) :
      VR ρ (.sl (.at id off z) len) (.slice (some ⟨c.blk, c.boff + (off - c.lo), none⟩) len cap)
  | slEnd {id off z : Nat} {cs : List Copy} (a : Addr) (h : ρ id = some (.cells z cs)) : VR ρ (.sl (.at id off z) 0) (.slice (some a) 0 0)
  | mapNil : VR ρ (.map none) (.map none)
  | map {id r : Nat} (h : ρ id = some (.obj r)) : VR ρ (.map (some id)) (.map (some r))
  | fn (f : Nat) (cs : List AV) (vs : Array Value) (hl : cs.length = vs.size) (h : ∀ (i : Nat) v vc, cs[i]? = some v → vs[i]? = some vc → VR ρ v vc) :
      VR ρ (.fn f cs) (.func (.func f) #[] vs)
  | nilfn : VR ρ .nilfn .nilFunc
  | agg (cs : List AV) (vs : Array Value) (hl : cs.length = vs.size) (h : ∀ (i : Nat) v vc, cs[i]? = some v → vs[i]? = some vc → VR ρ v vc) :
      VR ρ (.agg cs) (.agg vs)
  | tup (cs : List AV) (vs : Array Value) (hl : cs.length = vs.size) (h : ∀ (i : Nat) v vc, cs[i]? = some v → vs[i]? = some vc → VR ρ v vc) :
      VR ρ (.tup cs) (.tuple vs)

def CopyLe (c c' : Copy) : Prop := c'.blk = c.blk ∧ c'.boff = c.boff ∧ c'.lo = c.lo ∧ c.hi ≤ c'.hi ∧ c'.sz = c.sz
theorem CopyLe.refl (c : Copy) : CopyLe c c := ⟨rfl, rfl, rfl, Nat.le_refl _, rfl⟩
theorem CopyLe.trans {a b c : Copy} (h : CopyLe a b) (k : CopyLe b c) : CopyLe a c :=
  ⟨k.1.trans h.1, k.2.1.trans h.2.1, k.2.2.1.trans h.2.2.1, Nat.le_trans h.2.2.2.1 k.2.2.2.1, k.2.2.2.2.trans h.2.2.2.2⟩

def LocLe : Loc → Loc → Prop
  | .cells z cs, .cells z' cs' => z' = z ∧ ∀ c ∈ cs, ∃ c' ∈ cs', CopyLe c c'
  | .obj r, .obj r' => r' = r
  | _, _ => False
theorem LocLe.refl (l : Loc) : LocLe l l := by
  cases l with
  | cells z cs => exact ⟨rfl, fun c hc => ⟨c, hc, .refl c⟩⟩
  | obj r => rfl
theorem LocLe.trans {a b c : Loc} (h : LocLe a b) (k : LocLe b c) : LocLe a c := by
  cases a <;> cases b <;> cases c <;> simp only [LocLe] at *
  · refine ⟨k.1.trans h.1, fun x hx => ?_⟩
    obtain ⟨y, hy, hxy⟩ := h.2 x hx
    obtain ⟨z, hz, hyz⟩ := k.2 y hy
    exact ⟨z, hz, hxy.trans hyz⟩
  · exact k.trans h

def Rho.le (ρ ρ' : Rho) : Prop := ∀ id l, ρ id = some l → ∃ l', ρ' id = some l' ∧ LocLe l l'
theorem Rho.le.refl (ρ : Rho) : ρ.le ρ := fun _ l h => ⟨l, h, .refl l⟩
theorem Rho.le.trans {a b c : Rho} (h : a.le b) (k : b.le c) : a.le c := fun id l hl => by
  obtain ⟨l', h', hle⟩ := h id l hl
  obtain ⟨l'', h'', hle'⟩ := k id l' h'
  exact ⟨l'', h'', hle.trans hle'⟩

theorem Rho.le.cells {ρ ρ' : Rho} (h : ρ.le ρ') {id z : Nat} {cs : List Copy} (hl : ρ id = some (.cells z cs)) :
    ∃ cs', ρ' id = some (.cells z cs') ∧ ∀ c ∈ cs, ∃ c' ∈ cs', CopyLe c c' := by
  obtain ⟨l', h', hle⟩ := h id _ hl
  cases l' with
  | cells z' cs' => obtain ⟨rfl, hc⟩ := hle; exact ⟨cs', h', hc⟩
  | obj r => exact hle.elim
theorem Rho.le.obj {ρ ρ' : Rho} (h : ρ.le ρ') {id r : Nat} (hl : ρ id = some (.obj r)) : ρ' id = some (.obj r) := by
  obtain ⟨l', h', hle⟩ := h id _ hl
  cases l' with
  | cells z' cs' => exact hle.elim
  | obj r' => have e : r' = r := hle; rw [← e]; exact h'

theorem VR.mono {ρ ρ' : Rho} (hle : ρ.le ρ') {v : AV} {vc : Value} (h : VR ρ v vc) : VR ρ' v vc := by
  induction h with
  | bool b => exact .bool b
  | int k n => exact .int k n
  | str s => exact .str s
  | ptrNil => exact .ptrNil
  | ptr h hc h1 h2 h3 =>
    obtain ⟨cs', h', hh⟩ := hle.cells h
    obtain ⟨c', hc', e1, e2, e3, e4, e5⟩ := hh _ hc
    have := VR.ptr (ρ := ρ') h' hc' (by omega) (Nat.le_trans h2 e4) h3
    rwa [e1, e2, e3] at this
  | iter h => exact .iter (hle.obj h)
  | slNil => exact .slNil
  | slZero a => exact .slZero a
  | sl h hc h1 h2 h3 h4 =>
    obtain ⟨cs', h', hh⟩ := hle.cells h
    obtain ⟨c', hc', e1, e2, e3, e4, e5⟩ := hh _ hc
    have := VR.sl (ρ := ρ') h' hc' (by omega) (Nat.le_trans h2 e4) h3 (by rw [e2, e3, e5]; exact h4)
    rwa [e1, e2, e3] at this
  | slEnd a h => obtain ⟨cs', h', _⟩ := hle.cells h; exact .slEnd a h'
  | mapNil => exact .mapNil
  | map h => exact .map (hle.obj h)
  | fn f cs vs hl _ ih => exact .fn f cs vs hl ih
  | nilfn => exact .nilfn
  | agg cs vs hl _ ih => exact .agg cs vs hl ih
  | tup cs vs hl _ ih => exact .tup cs vs hl ih

/-- Lists of values. -/
def VRs (ρ : Rho) (cs : List AV) (vs : List Value) : Prop := cs.length = vs.length ∧ ∀ (i : Nat) v vc, cs[i]? = some v → vs[i]? = some vc → VR ρ v vc
theorem VRs.mono {ρ ρ' : Rho} (hle : ρ.le ρ') {cs : List AV} {vs : List Value} (h : VRs ρ cs vs) : VRs ρ' cs vs := ⟨h.1, fun i v vc a b => (h.2 i v vc a b).mono hle⟩
theorem VRs.nil {ρ : Rho} : VRs ρ [] [] := ⟨rfl, fun i v vc h => by simp at h⟩
theorem VRs.cons {ρ : Rho} {v : AV} {vc : Value} {cs : List AV} {vs : List Value} (h : VR ρ v vc) (t : VRs ρ cs vs) : VRs ρ (v :: cs) (vc :: vs) := by
  refine ⟨by simp [t.1], fun i u uc a b => ?_⟩
  cases i with
  | zero => simp at a b; subst a b; exact h
  | succ i => simp at a b; exact t.2 i u uc a b
theorem VRs.inv_cons {ρ : Rho} {v : AV} {cs : List AV} {vs : List Value} (h : VRs ρ (v :: cs) vs) : ∃ vc vs', vs = vc :: vs' ∧ VR ρ v vc ∧ VRs ρ cs vs' := by
  cases vs with
  | nil => exact absurd h.1 (by simp)
  | cons vc vs' =>
    refine ⟨vc, vs', rfl, h.2 0 v vc rfl rfl, by have := h.1; simpa using this, fun i u uc a b => h.2 (i + 1) u uc (by simpa using a) (by simpa using b)⟩
theorem VRs.inv_nil {ρ : Rho} {vs : List Value} (h : VRs ρ [] vs) : vs = [] := by
  cases vs with
  | nil => rfl
  | cons vc vs' => exact absurd h.1 (by simp)
theorem VRs.append {ρ : Rho} {a b : List AV} {c d : List Value} (h : VRs ρ a c) (k : VRs ρ b d) : VRs ρ (a ++ b) (c ++ d) := by
  refine ⟨by simp [h.1, k.1], fun i v vc hv hc => ?_⟩
  by_cases hi : i < a.length
  · rw [List.getElem?_append_left hi] at hv
    rw [List.getElem?_append_left (by rw [← h.1]; exact hi)] at hc
    exact h.2 i v vc hv hc
  · rw [List.getElem?_append_right (by omega)] at hv
    rw [List.getElem?_append_right (by rw [← h.1]; omega), ← h.1] at hc
    exact k.2 _ v vc hv hc
theorem VRs.take {ρ : Rho} {a : List AV} {c : List Value} (n : Nat) (h : VRs ρ a c) : VRs ρ (a.take n) (c.take n) := by
  refine ⟨by simp [h.1], fun i v vc hv hc => ?_⟩
  rw [List.getElem?_take] at hv hc
  split at hv
  · rename_i hlt; rw [if_pos hlt] at hc; exact h.2 i v vc hv hc
  · simp at hv
theorem VRs.drop {ρ : Rho} {a : List AV} {c : List Value} (n : Nat) (h : VRs ρ a c) : VRs ρ (a.drop n) (c.drop n) := by
  refine ⟨by simp [h.1], fun i v vc hv hc => ?_⟩
  rw [List.getElem?_drop] at hv hc
  exact h.2 _ v vc hv hc
theorem VRs.get {ρ : Rho} {a : List AV} {c : List Value} (h : VRs ρ a c) {i : Nat} {v : AV} (hv : a[i]? = some v) : ∃ vc, c[i]? = some vc ∧ VR ρ v vc := by
  have hi : i < a.length := (List.getElem?_eq_some_iff.1 hv).1
  have hi' : i < c.length := by rw [← h.1]; exact hi
  exact ⟨c[i], List.getElem?_eq_getElem hi', h.2 i v _ hv (List.getElem?_eq_getElem hi')⟩
theorem VRs.replicate {ρ : Rho} {v : AV} {vc : Value} (n : Nat) (h : VR ρ v vc) : VRs ρ (List.replicate n v) (List.replicate n vc) := by
  induction n with
  | zero => exact .nil
  | succ n ih => exact .cons h ih
theorem VRs.set {ρ : Rho} {a : List AV} {c : List Value} {v : AV} {vc : Value} (i : Nat) (h : VRs ρ a c) (hv : VR ρ v vc) : VRs ρ (a.set i v) (c.set i vc) := by
  refine ⟨by simp [h.1], fun j u uc hu hc => ?_⟩
  by_cases e : i = j
  · subst e
    by_cases hi : i < a.length
    · rw [List.getElem?_set_self hi] at hu
      rw [List.getElem?_set_self (by rw [← h.1]; exact hi)] at hc
      simp at hu hc; subst hu hc; exact hv
    · rw [List.getElem?_eq_none (by simp; omega)] at hu; simp at hu
  · rw [List.getElem?_set_ne e] at hu hc; exact h.2 j u uc hu hc

theorem VR.of_agg {ρ : Rho} {cs : List AV} {vc : Value} (h : VR ρ (.agg cs) vc) : ∃ vs : Array Value, vc = .agg vs ∧ VRs ρ cs vs.toList := by
  cases h with
  | agg _ vs hl h => exact ⟨vs, rfl, by simpa using hl, fun i v vc a b => h i v vc a (by simpa using b)⟩
theorem VR.mk_agg {ρ : Rho} {cs : List AV} {vs : List Value} (h : VRs ρ cs vs) : VR ρ (.agg cs) (.agg vs.toArray) :=
  .agg cs vs.toArray (by simpa using h.1) (fun i v vc a b => h.2 i v vc a (by simpa using b))
theorem VR.of_tup {ρ : Rho} {cs : List AV} {vc : Value} (h : VR ρ (.tup cs) vc) : ∃ vs : Array Value, vc = .tuple vs ∧ VRs ρ cs vs.toList := by
  cases h with
  | tup _ vs hl h => exact ⟨vs, rfl, by simpa using hl, fun i v vc a b => h i v vc a (by simpa using b)⟩
theorem VR.mk_tup {ρ : Rho} {cs : List AV} {vs : List Value} (h : VRs ρ cs vs) : VR ρ (.tup cs) (.tuple vs.toArray) :=
  .tup cs vs.toArray (by simpa using h.1) (fun i v vc a b => h.2 i v vc a (by simpa using b))
theorem VR.of_fn {ρ : Rho} {f : Nat} {cs : List AV} {vc : Value} (h : VR ρ (.fn f cs) vc) : ∃ vs : Array Value, vc = .func (.func f) #[] vs ∧ VRs ρ cs vs.toList := by
  cases h with
  | fn _ _ vs hl h => exact ⟨vs, rfl, by simpa using hl, fun i v vc a b => h i v vc a (by simpa using b)⟩
theorem VR.undef {ρ : Rho} : VR ρ .undef Go.undef := VR.mk_tup .nil

theorem VR.of_int {ρ : Rho} {k : IntKind} {n : Int} {vc : Value} (h : VR ρ (.int k n) vc) : vc = .int k n := by cases h; rfl
theorem VR.of_bool {ρ : Rho} {b : Bool} {vc : Value} (h : VR ρ (.bool b) vc) : vc = .bool b := by cases h; rfl
theorem VR.of_str {ρ : Rho} {s : List Int} {vc : Value} (h : VR ρ (.str s) vc) : ∃ b, vc = .string b ∧ bytesL b = s := by cases h; exact ⟨_, rfl, rfl⟩

theorem VR.cells {ρ : Rho} {v : AV} {vc : Value} (h : VR ρ v vc) : VRs ρ v.cells vc.cells.toList := by
  cases h with
  | agg cs vs hl h => exact ⟨by simpa [AV.cells, Value.cells] using hl, fun i v vc a b => h i v vc a (by simpa [Value.cells] using b)⟩
  | bool b => exact .cons (.bool b) .nil
  | int k n => exact .cons (.int k n) .nil
  | str s => exact .cons (.str s) .nil
  | ptrNil => exact .cons .ptrNil .nil
  | ptr h hc h1 h2 h3 => exact .cons (.ptr h hc h1 h2 h3) .nil
  | iter h => exact .cons (.iter h) .nil
  | slNil => exact .cons .slNil .nil
  | slZero a => exact .cons (.slZero a) .nil
  | sl h hc h1 h2 h3 h4 => exact .cons (.sl h hc h1 h2 h3 h4) .nil
  | slEnd a h => exact .cons (.slEnd a h) .nil
  | mapNil => exact .cons .mapNil .nil
  | map h => exact .cons (.map h) .nil
  | fn f cs vs hl h => exact .cons (.fn f cs vs hl h) .nil
  | nilfn => exact .cons .nilfn .nil
  | tup cs vs hl h => exact .cons (.tup cs vs hl h) .nil

theorem VR.one {ρ : Rho} {v : AV} {vc : Value} (h : VR ρ v vc) (hl : isLeaf v = true) : vc.oneCell' = true := by
  cases h <;> first | rfl | simp [isLeaf] at hl

/-! Constants. -/
theorem leafOk_VR {ρ : Rho} {v : Value} (h : leafOk v = true) : VR ρ (ofLeaf v) v := by
  unfold leafOk at h
  split at h
  · exact .bool _
  · exact .int _ _
  · exact .str _
  · exact .ptrNil
  · exact .slNil
  · exact .mapNil
  · exact .nilfn
  · simp at h

theorem leafOks_VRs {ρ : Rho} : ∀ {l : List Value}, l.all leafOk = true → VRs ρ (l.map ofLeaf) l
  | [], _ => .nil
  | v :: l, h => by
    simp only [List.all_cons, Bool.and_eq_true] at h
    exact .cons (leafOk_VR h.1) (leafOks_VRs h.2)

theorem constOk_VR {ρ : Rho} {v : Value} (h : constOk v = true) : VR ρ (ofConst v) v := by
  cases v with
  | agg cs => have := VR.mk_agg (leafOks_VRs (ρ := ρ) (l := cs.toList) h); rw [Array.toArray_toList] at this; exact this
  | tuple cs => have := VR.mk_tup (leafOks_VRs (ρ := ρ) (l := cs.toList) h); rw [Array.toArray_toList] at this; exact this
  | _ => simp only [constOk] at h; simp only [ofConst]; exact leafOk_VR h

/-! Memory. -/
structure CR (B : Nat) (ρ : Rho) (w : World) (xs : List AV) (md : Md) (c : Copy) : Prop where
  lo : c.lo ≤ c.hi
  hi : c.hi ≤ xs.length
  cell : ∀ j, c.lo ≤ j → j < c.hi → ∃ v vc, xs[j]? = some v ∧ w.cell? ⟨c.blk, c.boff + (j - c.lo), none⟩ = some vc ∧ VR ρ v vc ∧ vc.oneCell' = true
  ro : md = .ro → c.blk < B
  own : md ≠ .ro → c.boff = 0 ∧ B ≤ c.blk ∧ c.hi - c.lo ≤ c.sz ∧ ∃ C T fz, w.heap[c.blk]? = some (.cells C T fz) ∧ C.size = c.sz ∧ (fz.1 = fz.2 ∨ C.size ≤ fz.1)

def OR (B : Nat) (ρ : Rho) (w : World) : AO → Loc → Prop
  | .cells xs z md, .cells z' cs => z' = z ∧ 0 < z ∧ (∀ c ∈ cs, CR B ρ w xs md c) ∧
      (md ≠ .ro → ∃ c0 rest, cs = c0 :: rest ∧ c0.hi = xs.length ∧ (∀ c ∈ rest, c.hi < xs.length) ∧ (md = .own → rest = []) ∧ (∀ c ∈ rest, c.blk ≠ c0.blk))
  | .map es clock, .obj r => B ≤ r ∧ ∃ ces : Array MapEntry, w.heap[r]? = some (.map ces clock) ∧ es.length = ces.size ∧
      ∀ (i : Nat) e ce, es[i]? = some e → ces[i]? = some ce → VR ρ e.key ce.key ∧ VR ρ e.val ce.val ∧ e.born = ce.born
  | .siter s pos, .obj r => B ≤ r ∧ ∃ b, w.heap[r]? = some (.stringIter b pos) ∧ bytesL b = s
  | .miter none since seen last, .obj r => B ≤ r ∧ w.heap[r]? = some (.mapIter none since seen.toArray last)
  | .miter (some m) since seen last, .obj r => B ≤ r ∧ ∃ rm, ρ m = some (.obj rm) ∧ w.heap[r]? = some (.mapIter (some rm) since seen.toArray last)
  | .dead, _ => True
  | _, _ => False

def owns : AO → Loc → Nat → Prop
  | .cells _ _ md, .cells _ cs, b => md ≠ .ro ∧ ∃ c ∈ cs, c.blk = b
  | .cells .., .obj _, _ => False
  | .dead, _, _ => False
  | _, .obj r, b => r = b
  | _, .cells .., _ => False

structure Sim (B : Nat) (w0 : World) (ρ : Rho) (σ : H) (w : World) : Prop where
  below : Below B w0 w
  size : B ≤ w.heap.size
  obj : ∀ id l, ρ id = some l → ∃ o, σ[id]? = some o ∧ OR B ρ w o l
  apart : ∀ i j oi oj li lj b, ρ i = some li → ρ j = some lj → σ[i]? = some oi → σ[j]? = some oj → owns oi li b → owns oj lj b → i = j

theorem OR.lt {B : Nat} {ρ : Rho} {w : World} {o : AO} {l : Loc} {b : Nat} (h : OR B ρ w o l) (hb : owns o l b) : B ≤ b ∧ b < w.heap.size := by
  have lt : ∀ {r : Nat} {x : Obj}, w.heap[r]? = some x → r < w.heap.size := fun h => (Array.getElem?_eq_some_iff.1 h).1
  cases o with
  | cells xs z md =>
    cases l with
    | cells z' cs =>
      obtain ⟨hm, c, hc, rfl⟩ := hb
      obtain ⟨_, h2, _, C, T, fz, hh, _⟩ := (h.2.2.1 c hc).own hm
      exact ⟨h2, lt hh⟩
    | obj r => exact hb.elim
  | map es clock => cases l with | cells z' cs => exact hb.elim | obj r => obtain rfl : r = b := hb; obtain ⟨h1, ces, hh, _⟩ := h; exact ⟨h1, lt hh⟩
  | siter s pos => cases l with | cells z' cs => exact hb.elim | obj r => obtain rfl : r = b := hb; obtain ⟨h1, ces, hh, _⟩ := h; exact ⟨h1, lt hh⟩
  | miter m since seen last => cases l with
    | cells z' cs => exact hb.elim
    | obj r =>
      obtain rfl : r = b := hb
      cases m with
      | none => exact ⟨h.1, lt h.2⟩
      | some m => obtain ⟨h1, rm, _, hh⟩ := h; exact ⟨h1, lt hh⟩
  | dead => exact hb.elim

theorem CR.keep {B : Nat} {ρ ρ' : Rho} {w w' : World} {xs : List AV} {md : Md} {c : Copy} (h : CR B ρ w xs md c) (hle : ρ.le ρ')
    (hag : w'.heap[c.blk]? = w.heap[c.blk]?) : CR B ρ' w' xs md c := by
  refine ⟨h.lo, h.hi, fun j h1 h2 => ?_, h.ro, fun hm => ?_⟩
  · obtain ⟨v, vc, e1, e2, e3, e4⟩ := h.cell j h1 h2
    exact ⟨v, vc, e1, (World.cell?_of_block (w := w) (a := ⟨c.blk, c.boff + (j - c.lo), none⟩) hag).trans e2, e3.mono hle, e4⟩
  · obtain ⟨h1, h2, h3, C, T, fz, e, r⟩ := h.own hm
    exact ⟨h1, h2, h3, C, T, fz, hag.trans e, r⟩

theorem OR.keep {B : Nat} {ρ ρ' : Rho} {w w' : World} {o : AO} {l : Loc} (h : OR B ρ w o l) (hle : ρ.le ρ')
    (hag : ∀ k, k < B ∨ owns o l k → w'.heap[k]? = w.heap[k]?) : OR B ρ' w' o l := by
  cases o with
  | cells xs z md =>
    cases l with
    | cells z' cs =>
      refine ⟨h.1, h.2.1, fun c hc => (h.2.2.1 c hc).keep hle (hag _ ?_), h.2.2.2⟩
      by_cases hm : md = .ro
      · exact .inl ((h.2.2.1 c hc).ro hm)
      · exact .inr ⟨hm, c, hc, rfl⟩
    | obj r => exact h.elim
  | map es clock => cases l with
    | cells z' cs => exact h.elim
    | obj r =>
      obtain ⟨h1, ces, hh, hl, he⟩ := h
      exact ⟨h1, ces, (hag r (.inr rfl)).trans hh, hl, fun i e ce a b => ⟨(he i e ce a b).1.mono hle, (he i e ce a b).2.1.mono hle, (he i e ce a b).2.2⟩⟩
  | siter s pos => cases l with
    | cells z' cs => exact h.elim
    | obj r => obtain ⟨h1, b, hh, hl⟩ := h; exact ⟨h1, b, (hag r (.inr rfl)).trans hh, hl⟩
  | miter m since seen last => cases l with
    | cells z' cs => cases m <;> exact h.elim
    | obj r =>
      cases m with
      | none => exact ⟨h.1, (hag r (.inr rfl)).trans h.2⟩
      | some m => obtain ⟨h1, rm, hr, hh⟩ := h; exact ⟨h1, rm, hle.obj hr, (hag r (.inr rfl)).trans hh⟩
  | dead => trivial

/-- Nothing but the tape's count has moved. -/
theorem Sim.world {B : Nat} {w0 : World} {ρ : Rho} {σ : H} {w w' : World} (h : Sim B w0 ρ σ w) (hh : w'.heap = w.heap) (ho : w'.os = w.os) (ht : w'.tape = w.tape)
    (hu : w'.output = w.output) : Sim B w0 ρ σ w' := by
  refine ⟨h.below.trans ⟨ho, ht, hu, by rw [hh]; exact Nat.le_refl _, fun k _ => by rw [hh]⟩, by rw [hh]; exact h.size, fun id l hl => ?_, h.apart⟩
  obtain ⟨o, e, hr⟩ := h.obj id l hl
  exact ⟨o, e, hr.keep (.refl ρ) fun k _ => by rw [hh]⟩

/-- Nothing but new blocks has come. -/
theorem Sim.grown {B : Nat} {w0 : World} {ρ : Rho} {σ : H} {w w' : World} (h : Sim B w0 ρ σ w) (hb : Below w.heap.size w w') : Sim B w0 ρ σ w' := by
  refine ⟨h.below.trans (hb.mono h.size), Nat.le_trans h.size hb.size, fun id l hl => ?_, h.apart⟩
  obtain ⟨o, e, hr⟩ := h.obj id l hl
  refine ⟨o, e, hr.keep (.refl ρ) fun k hk => hb.block k ?_⟩
  rcases hk with hk | hk
  · exact Nat.lt_of_lt_of_le hk h.size
  · exact (hr.lt hk).2

theorem Sim.drew {B : Nat} {w0 : World} {ρ : Rho} {σ : H} {w : World} (h : Sim B w0 ρ σ w) : Sim B w0 ρ σ w.drew := h.world rfl rfl rfl rfl

def Rho.upd (ρ : Rho) (id : Nat) (l : Loc) : Rho := fun i => if i = id then some l else ρ i

theorem Sim.fresh {B : Nat} {w0 : World} {ρ : Rho} {σ : H} {w : World} (h : Sim B w0 ρ σ w) {id : Nat} (hid : σ.length ≤ id) : ρ id = none := by
  cases e : ρ id with
  | none => rfl
  | some l =>
    obtain ⟨o, ho, _⟩ := h.obj id l e
    have := (List.getElem?_eq_some_iff.1 ho).1
    omega

theorem Sim.upd_le {B : Nat} {w0 : World} {ρ : Rho} {σ : H} {w : World} (h : Sim B w0 ρ σ w) (l : Loc) : ρ.le (ρ.upd σ.length l) := by
  intro id l' hl
  have hne : id ≠ σ.length := fun e => by rw [h.fresh (Nat.le_of_eq e.symm)] at hl; cases hl
  exact ⟨l', by simp [Rho.upd, hne, hl], .refl _⟩

/-- A new object, in new blocks. -/
theorem Sim.extend {B : Nat} {w0 : World} {ρ : Rho} {σ : H} {w w' : World} (h : Sim B w0 ρ σ w) (o : AO) (l : Loc) (hb : Below w.heap.size w w')
    (hor : OR B (ρ.upd σ.length l) w' o l) (hown : ∀ b, owns o l b → w.heap.size ≤ b) : Sim B w0 (ρ.upd σ.length l) (σ ++ [o]) w' := by
  have hle := h.upd_le l
  refine ⟨h.below.trans (hb.mono h.size), Nat.le_trans h.size hb.size, fun id l' hl => ?_, fun i j oi oj li lj b hi hj ei ej bi bj => ?_⟩
  · by_cases e : id = σ.length
    · subst e
      simp [Rho.upd] at hl
      subst hl
      exact ⟨o, by simp, hor⟩
    · simp [Rho.upd, e] at hl
      obtain ⟨o', ho', hr⟩ := h.obj id l' hl
      refine ⟨o', by rw [List.getElem?_append_left (List.getElem?_eq_some_iff.1 ho').1]; exact ho', hr.keep hle fun k hk => hb.block k ?_⟩
      rcases hk with hk | hk
      · exact Nat.lt_of_lt_of_le hk h.size
      · exact (hr.lt hk).2
  · have key : ∀ (i : Nat) oi li, ρ.upd σ.length l i = some li → (σ ++ [o])[i]? = some oi → owns oi li b → (i = σ.length ∧ w.heap.size ≤ b) ∨ (ρ i = some li ∧ σ[i]? = some oi ∧ b < w.heap.size) := by
      intro i oi li hi ei bi
      by_cases e : i = σ.length
      · subst e
        simp [Rho.upd] at hi
        simp at ei
        subst hi ei
        exact .inl ⟨rfl, hown b bi⟩
      · simp [Rho.upd, e] at hi
        obtain ⟨o', ho', hr⟩ := h.obj i li hi
        have hlt := (List.getElem?_eq_some_iff.1 ho').1
        rw [List.getElem?_append_left hlt, ho'] at ei
        obtain rfl := Option.some.inj ei
        exact .inr ⟨hi, ho', (hr.lt bi).2⟩
    rcases key i oi li hi ei bi with ⟨a1, a2⟩ | ⟨a1, a2, a3⟩ <;> rcases key j oj lj hj ej bj with ⟨b1, b2⟩ | ⟨b1, b2, b3⟩
    · omega
    · omega
    · omega
    · exact h.apart i j oi oj li lj b a1 b1 a2 b2 bi bj

/-- An object turns: only blocks that it has, or new ones, have turned. -/
theorem Sim.change {B : Nat} {w0 : World} {ρ : Rho} {σ : H} {w w' : World} (h : Sim B w0 ρ σ w) {id : Nat} {o o' : AO} {l l' : Loc}
    (hl : ρ id = some l) (ho : σ[id]? = some o) (hle : LocLe l l') (hb : Below B w w')
    (hag : ∀ k, k < w.heap.size → ¬ owns o l k → w'.heap[k]? = w.heap[k]?)
    (hor : OR B (ρ.upd id l') w' o' l') (hown : ∀ b, owns o' l' b → owns o l b ∨ w.heap.size ≤ b) :
    ρ.le (ρ.upd id l') ∧ Sim B w0 (ρ.upd id l') (σ.set id o') w' := by
  have hle' : ρ.le (ρ.upd id l') := by
    intro i li hi
    by_cases e : i = id
    · subst e; rw [hl] at hi; obtain rfl := Option.some.inj hi; exact ⟨l', by simp [Rho.upd], hle⟩
    · exact ⟨li, by simp [Rho.upd, e, hi], .refl _⟩
  have hlt := (List.getElem?_eq_some_iff.1 ho).1
  refine ⟨hle', h.below.trans hb, Nat.le_trans h.size hb.size, fun i li hi => ?_, fun i j oi oj li lj b hi hj ei ej bi bj => ?_⟩
  · by_cases e : i = id
    · subst e
      simp [Rho.upd] at hi
      subst hi
      exact ⟨o', by simp [hlt], hor⟩
    · simp [Rho.upd, e] at hi
      obtain ⟨oi, hoi, hr⟩ := h.obj i li hi
      refine ⟨oi, by rw [List.getElem?_set_ne (Ne.symm e)]; exact hoi, hr.keep hle' fun k hk => ?_⟩
      rcases hk with hk | hk
      · exact hb.block k hk
      · exact hag k (hr.lt hk).2 fun hk' => e (h.apart i id oi o li l k hi hl hoi ho hk hk')
  · have key : ∀ (i : Nat) oi li, ρ.upd id l' i = some li → (σ.set id o')[i]? = some oi → owns oi li b →
        (i = id ∧ (owns o l b ∨ w.heap.size ≤ b)) ∨ (i ≠ id ∧ ρ i = some li ∧ σ[i]? = some oi ∧ b < w.heap.size) := by
      intro i oi li hi ei bi
      by_cases e : i = id
      · subst e
        simp [Rho.upd] at hi
        simp [hlt] at ei
        subst hi ei
        exact .inl ⟨rfl, hown b bi⟩
      · simp [Rho.upd, e] at hi
        rw [List.getElem?_set_ne (Ne.symm e)] at ei
        obtain ⟨o1, ho1, hr⟩ := h.obj i li hi
        rw [ho1] at ei
        obtain rfl := Option.some.inj ei
        exact .inr ⟨e, hi, ho1, (hr.lt bi).2⟩
    rcases key i oi li hi ei bi with ⟨a1, a2⟩ | ⟨a0, a1, a2, a3⟩ <;> rcases key j oj lj hj ej bj with ⟨b1, b2⟩ | ⟨b0, b1, b2, b3⟩
    · rw [a1, b1]
    · rcases a2 with a2 | a2
      · exact absurd (h.apart id j o oj l lj b hl b1 ho b2 a2 bj).symm b0
      · omega
    · rcases b2 with b2 | b2
      · exact absurd (h.apart i id oi o li l b a1 hl a2 ho bi b2) a0
      · omega
    · exact h.apart i j oi oj li lj b a1 b1 a2 b2 bi bj

end Go.AM
