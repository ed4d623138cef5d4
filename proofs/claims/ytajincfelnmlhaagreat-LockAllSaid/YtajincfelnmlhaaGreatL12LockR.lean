/- LockAll: the rows of the law; its arguments. -/
import Derived.Test.YtajincfelnmlhaaGreatGmLock
import Derived.Test.YtajincfelnmlhaaGreatL12Span
import Derived.Test.YtajincfelnmlhaaGreatGmParts
import Derived.Test.YtajincfelnmlhaaGreatPLockA
import Derived.Test.YtajincfelnmlhaaGreatAmFlat
namespace Go.Proofs.YtajincfelnmlhaaGreat
set_option maxRecDepth 100000
open Go Go.AM Go.AM.St
/-- A step of the script. -/
structure LockV where
  kind : Int
  id : Int × Int
  a : AM.SA
  ops : List OpV
def lv (v : LockV) : List AV := [.int .i64 v.kind, .int .i64 v.id.1, .int .i64 v.id.2, .sl v.a v.ops.length]
theorem lv_len (v : LockV) : (lv v).length = 4 := rfl
abbrev lvs (l : List LockV) : List AV := l.flatMap lv
structure OkLV (σ : H) (v : LockV) : Prop where
  rw : Rw σ 5 v.a v.ops.length (opvs v.ops)
  ok : ∀ o ∈ v.ops, OkL o
theorem shp_lock {σ : H} {cs : List AV} (hl : cs.length = 4) (h : Shp Tryz.prog σ 8 57 cs) : ∃ v, cs = lv v ∧ OkLV σ v := by
  match cs, hl with
  | [x, y, z, u], _ =>
    unfold Shp at h
    rw [Tryz.underlying57] at h
    obtain ⟨k, e1, _, _⟩ := shp_i (m := 6) (cs := [x]) Tryz.underlying3 (h _ (.head _))
    cases e1
    have h2 : Shp Tryz.prog σ 7 26 [y, z] := h _ (.tail _ (.head _))
    have h3 : Shp Tryz.prog σ 7 24 [u] := h _ (.tail _ (.tail _ (.head _)))
    unfold Shp at h2
    rw [Tryz.underlying26] at h2
    obtain ⟨c, e2, _, _⟩ := shp_i (m := 5) (cs := [y]) Tryz.underlying3 (h2 _ (.head _))
    cases e2
    obtain ⟨q, e3, _, _⟩ := shp_i (m := 5) (cs := [z]) Tryz.underlying2 (h2 _ (.tail _ (.head _)))
    cases e3
    obtain ⟨s, m, xs, e4, h5, h6, h7⟩ := shp_slice (n := 6) Tryz.underlying24 h3
    obtain rfl : u = .sl s m := List.singleton_inj.1 e4
    obtain ⟨l, rfl, hk, i1⟩ := shp_ops (m := 4) (show xs.length = m * 5 from h5.len) h7
    subst hk
    exact ⟨⟨k, (c, q), s, l⟩, rfl, h5, i1⟩
theorem shp_locks {σ : H} : ∀ {k : Nat} {xs : List AV}, xs.length = k * 4 → (∀ i, i < k → Shp Tryz.prog σ 8 57 ((xs.drop (i * 4)).take 4)) → ∃ l : List LockV, xs = lvs l ∧ l.length = k ∧ ∀ v ∈ l, OkLV σ v := by
  intro k
  induction k with
  | zero => intro xs hl _; exact ⟨[], List.length_eq_zero_iff.1 (by omega), rfl, fun o ho => by simp at ho⟩
  | succ k ih =>
    intro xs hl h
    have h0 := h 0 (by omega)
    rw [Nat.zero_mul, List.drop_zero] at h0
    obtain ⟨v, e1, i1⟩ := shp_lock (by rw [List.length_take]; omega) h0
    obtain ⟨l, e2, hlen, i2⟩ := ih (xs := xs.drop 4) (by rw [List.length_drop]; omega) (fun i hi => by
      have := h (i + 1) (by omega)
      rw [List.drop_drop]
      rwa [show 4 + i * 4 = (i + 1) * 4 by omega])
    refine ⟨v :: l, ?_, by simp [hlen], fun e he => ?_⟩
    · rw [lvs, List.flatMap_cons, ← lvs, ← e2]
      conv => lhs; rw [← List.take_append_drop 4 xs, e1]
    · rcases List.mem_cons.1 he with rfl | he
      · exact i1
      · exact i2 e he
theorem arg_locks {σ : H} {a : AV} (ha : ArgShp Tryz.prog σ 9 52 a) : ∃ (s : AM.SA) (l : List LockV), a = .sl s l.length ∧ Rw σ 4 s l.length (lvs l) ∧ ∀ v ∈ l, OkLV σ v := by
  obtain ⟨s, m, xs, rfl, h2, h3, h4⟩ := arg_slice (n := 8) Tryz.underlying52 ha
  obtain ⟨l, rfl, hk, i1⟩ := shp_locks (show xs.length = m * 4 from h2.len) h4
  subst hk
  exact ⟨s, l, rfl, h2, i1⟩
theorem idxLV {σ : H} {s : AM.SA} {l : List LockV} (hs : Rw σ 4 s l.length (lvs l)) {k : IntKind} {y : Int} {i : Nat} {K : AV → Bool} (hy : y = (i : Int)) (hi : i < l.length) (hK : ∀ p, Elem σ 4 p (lv l[i]) → K (.ptr (some p)) = true) :
    indexAddrK Tryz.prog 52 (.sl s l.length) (.int k y) K = true := indexAddrK_rw Tryz.underlying52 (fun _ => rfl) hs hy hi (fm_at lv_len hi) hK
theorem ldLV {σ : H} {p : PA} {v : LockV} {K : AV → Bool} (hp : Elem σ 4 p (lv v)) (hK : K (.agg (lv v)) = true) : ldK Tryz.prog 57 σ p K = true := by
  refine ldK_struct Tryz.underlying57 rfl rfl hp ?_
  conv => lhs; whnf
  exact hK
theorem storeLV {σ : H} {h : Nat} {a b c d : AV} {v : LockV} {K : H → Bool} (hh : σ[h]? = some (.cells [a, b, c, d] 4 .own)) (hK : K (σ.set h (.cells (lv v) 4 .own)) = true) : storeK Tryz.prog 57 (.ptr (some ⟨h, 0, 0, 4⟩)) (.agg (lv v)) σ K = true :=
  storeS (i := Tryz.prog.types[57]) rfl hh rfl rfl (Nat.le_refl 4) rfl hK
/-- The name in such a row. -/
theorem ldLId {σ : H} {h : Nat} {v : LockV} {md : Md} {K : AV → Bool} (hh : σ[h]? = some (.cells (lv v) 4 md)) (hK : K (.agg (idv v.id.1 v.id.2)) = true) : ldK Tryz.prog 26 σ ⟨h, 0, 1, 4⟩ K = true := by
  refine ldS (ys := idv v.id.1 v.id.2) Tryz.underlying26 rfl hh (by decide) (by show 0 + 1 + 2 ≤ 4; decide) rfl ?_
  conv => lhs; whnf
  exact hK
/-! Rows of those that have locks. -/
def hv (x : HV) : List AV := [.int .i64 x.id.1, .int .i64 x.id.2, .sl x.a x.L.length]
theorem hv_len (x : HV) : (hv x).length = 3 := rfl
abbrev hvs (l : List HV) : List AV := l.flatMap hv
variable {σ : H}
theorem idxH {σ0 : H} {o : Option Nat} {a : AM.SA} {W : List HV} (hs : OwnS σ0 σ 3 o a W.length (hvs W)) {k : IntKind} {y : Int} {i : Nat} (hy : y = (i : Int)) (hi : i < W.length) {K : AV → Bool}
    (hK : ∀ id, o = some id → σ[id]? = some (AO.cells (hvs W) 3 .own) → K (.ptr (some ⟨id, i * 3, 0, 3⟩)) = true) : indexAddrK Tryz.prog 55 (.sl a W.length) (.int k y) K = true :=
  Go.AM.St.idxS Tryz.underlying55 (fun _ => rfl) hs hy hi hK
theorem ldHId {id i : Nat} {W : List HV} {md : Md} (hr : σ[id]? = some (AO.cells (hvs W) 3 md)) (hi : i < W.length) {K : AV → Bool} (hK : K (.agg (idv W[i].id.1 W[i].id.2)) = true) : ldK Tryz.prog 26 σ ⟨id, i * 3, 0, 3⟩ K = true := by
  refine ldS (ys := idv W[i].id.1 W[i].id.2) Tryz.underlying26 rfl hr (by decide) (by rw [fm_len hv_len]; show i * 3 + 0 + 2 ≤ _; omega) ?_ ?_
  · show ((hvs W).drop (i * 3 + 0)).take 2 = _
    have := congrArg (List.take 2) (fm_at hv_len hi)
    rw [List.take_take] at this
    exact this
  conv => lhs; whnf
  exact hK
theorem ldHL {id i : Nat} {W : List HV} {md : Md} (hr : σ[id]? = some (AO.cells (hvs W) 3 md)) (hi : i < W.length) {K : AV → Bool} (hK : K (.sl W[i].a W[i].L.length) = true) : ldK Tryz.prog 58 σ ⟨id, i * 3, 2, 3⟩ K = true := by
  refine ldF Tryz.underlying58 rfl rfl hr ((fm_get hv_len hi (by decide)).trans rfl) ?_
  conv => lhs; whnf
  exact hK
theorem stHL {id i : Nat} {W : List HV} {x : HV} {a : AM.SA} {n : Nat} (hr : σ[id]? = some (AO.cells (hvs W) 3 .own)) (hi : i < W.length) (hx : x.id = W[i].id) (ha : x.a = a) (hn : x.L.length = n) {K : H → Bool} (hK : K (σ.set id (.cells (hvs (W.set i x)) 3 .own)) = true) :
    storeK Tryz.prog 58 (.ptr (some ⟨id, i * 3, 2, 3⟩)) (.sl a n) σ K = true := by
  subst ha hn
  refine storeK_of (i := Tryz.prog.types[58]) rfl rfl (by decide) hr rfl (by rw [fm_len hv_len]; omega) ?_
  have : (hvs W).set (i * 3 + 2) (.sl x.a x.L.length) = hvs (W.set i x) := by
    rw [show hvs (W.set i x) = (W.set i x).flatMap hv from rfl, ← fm_set hv_len hi x]
    apply List.ext_getElem?
    intro j
    have hl : (hvs W).length = W.length * 3 := fm_len hv_len W
    have ht : ((W.flatMap hv).take (i * 3)).length = i * 3 := by rw [List.length_take, show (W.flatMap hv).length = W.length * 3 from fm_len hv_len W]; omega
    by_cases h1 : j < i * 3
    · rw [List.getElem?_set_ne (by omega), List.append_assoc, List.getElem?_append_left (by omega), List.getElem?_take_of_lt h1]
    · by_cases h2 : j < i * 3 + 3
      · rw [List.append_assoc, List.getElem?_append_right (by omega), ht, List.getElem?_append_left (by rw [hv_len]; omega)]
        have hg := fun (d : Nat) (hd : d < 3) => fm_get hv_len hi hd
        obtain rfl | rfl | rfl : j = i * 3 ∨ j = i * 3 + 1 ∨ j = i * 3 + 2 := by omega
        · rw [List.getElem?_set_ne (by omega)]
          have := hg 0 (by decide)
          rw [Nat.add_zero] at this
          rw [this, Nat.sub_self, hv, hv, hx]
          rfl
        · rw [List.getElem?_set_ne (by omega), hg 1 (by decide), show i * 3 + 1 - i * 3 = 1 by omega, hv, hv, hx]
          rfl
        · rw [List.getElem?_set_self (by omega), show i * 3 + 2 - i * 3 = 2 by omega]
          rfl
      · rw [List.getElem?_set_ne (by omega), List.getElem?_append_right (by rw [List.length_append, ht, hv_len]; omega), List.length_append, ht, hv_len, List.getElem?_drop]
        congr 1
        omega
  rw [this]
  exact hK
theorem build55 {i : Int × Int} {a : AM.SA} {L : List KeyB} {K : AV → H → Bool} (hK : K (.sl (.at σ.length 0 3) 1) (σ ++ [.cells (hvs [⟨i, a, L⟩]) 3 .own]) = true) : buildSliceK Tryz.prog 55 1 [(0, .agg [.int .i64 i.1, .int .i64 i.2, .sl a L.length])] σ K = true := by
  conv => lhs; whnf
  exact hK
theorem appH {σ0 : H} (h0 : σ0 <+: σ) {o : Option Nat} {a b : AM.SA} {n m : Nat} {l ys : List HV} {K : AV → H → Bool} (hs : OwnS σ0 σ 3 o a n (hvs l)) (hn : l.length = n) (hx : Rw σ 3 b m (hvs ys)) (hm : ys.length = m) (hb : (l ++ ys).length ≤ 1000000)
    (hK : ∀ o' a' σ', σ0 <+: σ' → σ.length ≤ σ'.length → (∀ id, id < σ.length → o ≠ some id → σ'[id]? = σ[id]?) → (∀ id, o' = some id → o = some id ∨ σ.length ≤ id) → OwnS σ0 σ' 3 o' a' (l ++ ys).length (hvs (l ++ ys)) → K (.sl a' (l ++ ys).length) σ' = true) :
    appendK Tryz.prog 55 (.sl a n) (.sl b m) σ K = true :=
  appS Tryz.underlying55 rfl rfl rfl rfl (by decide) h0 hs hx (N := (l ++ ys).length) (zs := hvs (l ++ ys)) (by rw [List.length_append, hn, hm]) List.flatMap_append.symm (by show (l ++ ys).length * 40 ≤ _; omega) fun o' a' σ' p l2 kk k3 _ w => hK o' a' σ' p l2 kk k3 w
theorem slHT {a : AM.SA} {l : List HV} {j : Nat} (hs : Rw σ 3 a l.length (hvs l)) (hj : j ≤ l.length) {K : AV → Bool} (hK : ∀ a', Rw σ 3 a' j (hvs (l.take j)) → K (.sl a' j) = true) :
    sliceK Tryz.prog 55 (.sl a l.length) none (some (.int .i64 (j : Int))) none K = true :=
  sliceK_rw (z := 3) Tryz.underlying55 (fun K => rfl) hs (.inl ⟨rfl, rfl⟩) (.inr ⟨_, _, rfl, rfl⟩) (Nat.zero_le _) hj (Nat.sub_zero _) (by rw [fm_take hv_len]; simp) hK
theorem slHD {a : AM.SA} {l : List HV} {j : Nat} {y : Int} (hs : Rw σ 3 a l.length (hvs l)) (hy : y = (j : Int)) (hj : j ≤ l.length) {K : AV → Bool} (hK : ∀ a', Rw σ 3 a' (l.length - j) (hvs (l.drop j)) → K (.sl a' (l.length - j)) = true) :
    sliceK Tryz.prog 55 (.sl a l.length) (some (.int .i64 y)) none none K = true := by
  subst hy
  exact sliceK_rw (z := 3) Tryz.underlying55 (fun K => rfl) hs (.inr ⟨_, _, rfl, rfl⟩) (.inl ⟨rfl, rfl⟩) hj (Nat.le_refl _) rfl (by rw [List.take_of_length_le (by rw [fm_len hv_len]; exact Nat.le_refl _), fm_drop hv_len]) hK
/-- The law's list, and the program's map. -/
structure HasAt (σ0 σ : H) (B m : Nat) (f : Own1) (o : Option Nat) (a : AM.SA) (W : List HV) : Prop where
  lk : LkAt σ B m f
  w : OwnS σ0 σ 3 o a W.length (hvs W)
  rows : ∀ x ∈ W, Rw σ 3 x.a x.L.length (kcs x.L) ∧ ∀ j off z, x.a = .at j off z → o ≠ some j
theorem HasAt.mono {σ0 σ σ' : H} {B m : Nat} {f : Own1} {o : Option Nat} {a : AM.SA} {W : List HV} (h : HasAt σ0 σ B m f o a W) (p : σ <+: σ') : HasAt σ0 σ' B m f o a W :=
  ⟨h.lk.mono p, h.w.mono p, fun x hx => ⟨(h.rows x hx).1.mono p, (h.rows x hx).2⟩⟩
theorem own_ne {σ0 : H} {o : Option Nat} {a : AM.SA} {W : List HV} (h : OwnS σ0 σ 3 o a W.length (hvs W)) {m : Nat} {es : List ME} {c : Nat} (hm : σ[m]? = some (.map es c)) : o ≠ some m := by
  rintro rfl
  have := h.2.2.1
  rw [hm] at this
  cases this
/-- All but the map is as it was. -/
theorem HasAt.frm {σ0 σ σ' : H} {B m : Nat} {f g : Own1} {o : Option Nat} {a : AM.SA} {W : List HV} (h : HasAt σ0 σ B m f o a W) (hf : Frm m σ σ') (lk : LkAt σ' B m g) : HasAt σ0 σ' B m g o a W := by
  refine ⟨lk, h.w.keep fun id e => ?_, fun x hx => ⟨h.lk.m.rw hf (h.rows x hx).1, (h.rows x hx).2⟩⟩
  subst e
  obtain ⟨es, c, hm⟩ := h.lk.m.isMap
  exact hf.same id h.w.lt fun e => own_ne h.w hm (by rw [e])
/-- Rows that are not the list's own stay. -/
theorem rw_keep {σ σ' : H} {o : Option Nat} {z n : Nat} {a : AM.SA} {cs : List AV} (h : Rw σ z a n cs) (ho : ∀ j off z, a = .at j off z → o ≠ some j) (hk : ∀ id, id < σ.length → o ≠ some id → σ'[id]? = σ[id]?) : Rw σ' z a n cs := by
  rcases h with h | h | ⟨id, off, xs, md, h1, h2, h3⟩
  · exact .inl h
  · exact .inr (.inl h)
  · exact .inr (.inr ⟨id, off, xs, md, h1, (hk id (get_lt h2) (ho id off z h1)).trans h2, h3⟩)
end Go.Proofs.YtajincfelnmlhaaGreat
