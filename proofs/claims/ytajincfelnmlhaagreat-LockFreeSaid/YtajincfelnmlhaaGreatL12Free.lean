/- LockFree: what one frees another can have. -/
import Derived.Test.YtajincfelnmlhaaGreatGmLock
import Derived.Test.YtajincfelnmlhaaGreatL12Span
import Derived.Test.YtajincfelnmlhaaGreatGmParts
namespace Go.Proofs.YtajincfelnmlhaaGreat
set_option maxRecDepth 100000
open Go Go.AM Go.AM.St
attribute [local irreducible] IntKind.wrap Int.fdiv Int.tdiv Int.tmod BitVec.ofInt appendK sliceK indexAddrK ldK storeK seenK makeSliceK lookupK updateK deleteK mapK rangeK nextK buildSliceK indexK clearK
variable {σ : H} {D : Drawer}
theorem lockFree_run {n : Nat} {s t : AM.SA} {l l' : List OpV} (hD : ByPlan Tryz.prog D) (hn : 5000 ≤ n) (hs : Rw σ 5 s l.length (opvs l)) (ht : Rw σ 5 t l'.length (opvs l')) (ho : ∀ o ∈ l, OkV o) (ho' : ∀ o ∈ l', OkV o) :
    acall Tryz.prog tab D n 13 [.sl s l.length, .sl t l'.length] σ isTrue = true := by
  obtain ⟨n, rfl, hn⟩ := up (n := n) (k := 4999) (by omega)
  conv => lhs; whnf
  refine begun_spec ?_
  conv => lhs; whnf
  refine lnew_spec (by omega) fun B m σ1 p1 lk hB hm => ?_
  conv => lhs; whnf
  refine storeI (i := (1, 1)) (get_old (get_new _ _) _) ?_
  rw [set_two]
  conv => lhs; whnf
  refine storeI (i := (2, 1)) (get_two _ _ _ _) ?_
  rw [set_two']
  have P3 := (List.prefix_append σ1 [AO.cells (idv 1 1) 2 .own]).trans (List.prefix_append _ [AO.cells (idv 2 1) 2 .own])
  have T7 := get_old (get_new σ1 (AO.cells (idv 1 1) 2 .own)) (AO.cells (idv 2 1) 2 .own)
  have T8 := get_two σ1 (AO.cells (idv 1 1) 2 .own) (AO.cells (idv 2 1) 2 .own) (AO.cells [.int .i64 0, .int .i64 0] 2 .own)
  have p3 := p1.trans P3
  replace lk := lk.mono P3
  have ho2 : ∀ o ∈ l.take 10, OkV o := fun o h => ho o (List.mem_of_mem_take h)
  have ho3 : ∀ o ∈ l'.take 10, OkV o := fun o h => ho' o (List.mem_of_mem_take h)
  have hl2 : (l.take 10).length ≤ 10 := by rw [List.length_take]; omega
  have hl3 : (l'.take 10).length ≤ 10 := by rw [List.length_take]; omega
  have hP : (srtV (keysOf (l.take 10) ho2)).length ≤ 10 := Nat.le_trans (srtV_len _) (by rw [keysOf_len]; exact hl2)
  have hQ : (srtV (keysOf (l'.take 10) ho3)).length ≤ 10 := Nat.le_trans (srtV_len _) (by rw [keysOf_len]; exact hl3)
  have sP := srtV_strict (keysOf (l.take 10) ho2)
  have sQ := srtV_strict (keysOf (l'.take 10) ho3)
  conv => lhs; whnf
  refine ops_spec (by omega) (hs.mono p3) fun o a σ4 p4 ow => ?_
  conv => lhs; whnf
  refine lockOf_spec hD (by omega) (by omega) ow.rw ho2 fun aP σ5 p5 rP _ => ?_
  conv => lhs; whnf
  refine ops_spec (by omega) (ht.mono (p3.trans (p4.trans p5))) fun o a σ6 p6 ow => ?_
  conv => lhs; whnf
  refine lockOf_spec hD (by omega) (by omega) ow.rw ho3 fun aQ σ7 p7 rQ _ => ?_
  replace rP := rP.mono (p6.trans p7)
  have p47 := p4.trans (p5.trans (p6.trans p7))
  replace lk := lk.mono p47
  replace T7 := prefix_get p47 T7
  replace T8 := prefix_get p47 T8
  generalize srtV (keysOf (l.take 10) ho2) = P at rP hP sP ⊢
  generalize srtV (keysOf (l'.take 10) ho3) = Q at rQ hQ sQ ⊢
  clear ow p7 p6 p5 p4 p47 P3 p3 hs ht
  conv => lhs; whnf
  refine ldI (i := (1, 1)) T7 ?_
  conv => lhs; whnf
  refine take_spec (id := (1, 1)) hD (fun L hL h => ?_) (by omega) (by omega) lk rP (fun ⟨k', i, h, _⟩ => by cases h) fun _ σ8 F8 lk8 => ?_
  · have := nodup_sub (m := []) hL fun x hx => absurd rfl (h x hx)
    simp at this
    rw [this]; simp; omega
  replace T7 := lk.m.cells F8 T7
  replace T8 := lk.m.cells F8 T8
  replace rP := lk.m.rw F8 rP
  replace rQ := lk.m.rw F8 rQ
  clear F8 lk
  conv => lhs; whnf
  refine ldI (i := (2, 1)) T8 ?_
  have sup1 : ∀ k, (if k ∈ P then some ((1 : Int), (1 : Int)) else none) ≠ none → k ∈ P := fun k h => Classical.byContradiction fun h2 => h (if_neg h2)
  conv => lhs; whnf
  refine take_spec (id := (2, 1)) hD (fun L hL h => ?_) (by omega) (by omega) lk8 rQ (fun hmeet σ9 p9 => ?_) fun hno σ9 F9 lk9 => ?_
  · have := nodup_sub hL fun x hx => sup1 x (h x hx)
    omega
  · obtain ⟨k0, i0, h1, h2, k1, h3, h4⟩ := hmeet
    have lk9 := lk8.mono p9
    replace T7 := prefix_get p9 T7
    replace T8 := prefix_get p9 T8
    replace rQ := rQ.mono p9
    clear lk8 p9
    generalize hf2 : (fun k => if k ∈ P then some ((1 : Int), (1 : Int)) else none) = f2 at lk9
    have F1 : ∀ k, f2 k = some (1, 1) ↔ k ∈ P := fun k => by
      rw [← hf2]
      by_cases hk : k ∈ P
      · simp [hk]
      · simp [hk]
    have F2 : ∀ k i, f2 k = some i → i ≠ (1, 1) → i = (2, 1) ∧ k ∈ Q := fun k i h hne => by
      rw [← hf2] at h
      simp only at h
      by_cases hk : k ∈ P
      · rw [if_pos hk] at h; cases h; exact absurd rfl hne
      · rw [if_neg hk] at h; cases h
    have bnd : ∀ M : List KeyB, M.Nodup → (∀ k ∈ M, f2 k ≠ none) → M.length ≤ 20 := fun M hM h => by
      have := nodup_sub (m := P) hM fun x hx => sup1 x (by have := h x hx; rw [← hf2] at this; exact this)
      omega
    conv => lhs; whnf
    refine ldI (i := (1, 1)) T7 ?_
    conv => lhs; whnf
    refine lfree_spec (N := 20) (id := (1, 1)) hD (by omega) (by omega) bnd lk9 fun L σa Fa hL hm lka => ?_
    obtain rfl : L = P := strict_ext hL sP fun k => by rw [hm, F1]
    replace T7 := lk9.m.cells Fa T7
    replace T8 := lk9.m.cells Fa T8
    replace rQ := lk9.m.rw Fa rQ
    clear lk9 Fa
    have f3no : ∀ k i, (if f2 k = some ((1 : Int), (1 : Int)) then none else f2 k) = some i → i = (2, 1) ∧ k ∈ Q := fun k i h => by
      by_cases h2 : f2 k = some (1, 1)
      · rw [if_pos h2] at h; cases h
      · rw [if_neg h2] at h
        exact F2 k i h fun e => h2 (by rw [h, e])
    conv => lhs; whnf
    rw [show (!((L.length : Int) == (L.length : Int))) = false by simp]
    conv => lhs; whnf
    refine ldI (i := (2, 1)) T8 ?_
    conv => lhs; whnf
    refine take_spec (id := (2, 1)) hD (fun M hM h => ?_) (by omega) (by omega) lka rQ (fun ⟨k', i, h, hne, _⟩ => absurd (f3no k' i h).1 hne) fun _ σb Fb lkb => ?_
    · have := nodup_sub (m := Q) hM fun x hx => by
        cases hq : (if f2 x = some ((1 : Int), (1 : Int)) then none else f2 x) with
        | none => exact absurd hq (h x hx)
        | some i => exact (f3no x i hq).2
      omega
    replace T7 := lka.m.cells Fb T7
    replace T8 := lka.m.cells Fb T8
    clear lka Fb
    have F4 : ∀ k i, (if k ∈ Q then some ((2 : Int), (1 : Int)) else if f2 k = some ((1 : Int), (1 : Int)) then none else f2 k) = some i → i = (2, 1) ∧ k ∈ Q := fun k i h => by
      by_cases hk : k ∈ Q
      · rw [if_pos hk] at h; cases h; exact ⟨rfl, hk⟩
      · rw [if_neg hk] at h; exact f3no k i h
    have F5 : ∀ k, k ∈ Q → (if k ∈ Q then some ((2 : Int), (1 : Int)) else if f2 k = some ((1 : Int), (1 : Int)) then none else f2 k) = some (2, 1) := fun k h => if_pos h
    generalize hf4 : (fun k => if k ∈ Q then some ((2 : Int), (1 : Int)) else if f2 k = some ((1 : Int), (1 : Int)) then none else f2 k) = f4 at lkb
    replace F4 : ∀ k i, f4 k = some i → i = (2, 1) ∧ k ∈ Q := fun k i h => F4 k i (by rw [← hf4] at h; exact h)
    replace F5 : ∀ k, k ∈ Q → f4 k = some (2, 1) := fun k h => by rw [← hf4]; exact F5 k h
    have bnd4 : ∀ M : List KeyB, M.Nodup → (∀ k ∈ M, f4 k ≠ none) → M.length ≤ 20 := fun M hM h => by
      have := nodup_sub (m := Q) hM fun x hx => by
        cases hq : f4 x with
        | none => exact absurd hq (h x hx)
        | some i => exact (F4 x i hq).2
      omega
    conv => lhs; whnf
    refine llen_spec (by omega) lkb fun M hM hm4 => ?_
    have eM : M.length = Q.length := nodup_len hM (strict_nodup sQ) fun k => by
      rw [hm4]
      constructor
      · intro h
        cases hq : f4 k with
        | none => exact absurd hq h
        | some i => exact (F4 k i hq).2
      · intro h e
        rw [F5 k h] at e
        cases e
    rw [eM]
    conv => lhs; whnf
    rw [show ((Q.length : Int) == (Q.length : Int)) = true by simp]
    conv => lhs; whnf
    refine ldI (i := (1, 1)) T7 ?_
    conv => lhs; whnf
    refine lhas_spec (N := 20) (id := (1, 1)) hD (by omega) (by omega) bnd4 lkb fun ah Lh σh ph _ hmh _ => ?_
    obtain rfl : Lh = [] := nil_of_none fun k h => by
      have := (F4 k _ ((hmh k).1 h)).1
      cases this
    conv => lhs; whnf
  · replace T7 := lk8.m.cells F9 T7
    replace T8 := lk8.m.cells F9 T8
    replace rQ := lk8.m.rw F9 rQ
    have apart : ∀ k, k ∈ P → k ∉ Q := fun k hk hq => by
      have := hno k (1, 1) (if_pos hk) (by decide) k hq
      rw [meet_self] at this
      cases this
    clear lk8 F9
    generalize hf2 : (fun k => if k ∈ Q then some ((2 : Int), (1 : Int)) else if k ∈ P then some ((1 : Int), (1 : Int)) else none) = f2 at lk9
    have F1 : ∀ k, f2 k = some (1, 1) ↔ k ∈ P := fun k => by
      rw [← hf2]
      by_cases hq : k ∈ Q
      · have hk : k ∉ P := fun h => apart k h hq
        simp [hq, hk]
      · by_cases hk : k ∈ P
        · simp [hq, hk]
        · simp [hq, hk]
    have F2 : ∀ k i, f2 k = some i → i ≠ (1, 1) → i = (2, 1) ∧ k ∈ Q := fun k i h hne => by
      rw [← hf2] at h
      simp only at h
      by_cases hq : k ∈ Q
      · rw [if_pos hq] at h; cases h; exact ⟨rfl, hq⟩
      · rw [if_neg hq] at h
        by_cases hk : k ∈ P
        · rw [if_pos hk] at h; cases h; exact absurd rfl hne
        · rw [if_neg hk] at h; cases h
    have bnd : ∀ M : List KeyB, M.Nodup → (∀ k ∈ M, f2 k ≠ none) → M.length ≤ 20 := fun M hM h => by
      have := nodup_sub (m := P ++ Q) hM fun x hx => by
        have := h x hx
        rw [← hf2] at this
        simp only at this
        by_cases hq : x ∈ Q
        · simp [hq]
        · by_cases hk : x ∈ P
          · simp [hk]
          · rw [if_neg hq, if_neg hk] at this; exact absurd rfl this
      rw [List.length_append] at this
      omega
    conv => lhs; whnf
    refine ldI (i := (1, 1)) T7 ?_
    conv => lhs; whnf
    refine lfree_spec (N := 20) (id := (1, 1)) hD (by omega) (by omega) bnd lk9 fun L σa Fa hL hm lka => ?_
    obtain rfl : L = P := strict_ext hL sP fun k => by rw [hm, F1]
    replace T7 := lk9.m.cells Fa T7
    replace T8 := lk9.m.cells Fa T8
    replace rQ := lk9.m.rw Fa rQ
    clear lk9 Fa
    have f3no : ∀ k i, (if f2 k = some ((1 : Int), (1 : Int)) then none else f2 k) = some i → i = (2, 1) ∧ k ∈ Q := fun k i h => by
      by_cases h2 : f2 k = some (1, 1)
      · rw [if_pos h2] at h; cases h
      · rw [if_neg h2] at h
        exact F2 k i h fun e => h2 (by rw [h, e])
    conv => lhs; whnf
    rw [show (!((L.length : Int) == (L.length : Int))) = false by simp]
    conv => lhs; whnf
    refine ldI (i := (2, 1)) T8 ?_
    conv => lhs; whnf
    refine take_spec (id := (2, 1)) hD (fun M hM h => ?_) (by omega) (by omega) lka rQ (fun ⟨k', i, h, hne, _⟩ => absurd (f3no k' i h).1 hne) fun _ σb Fb lkb => ?_
    · have := nodup_sub (m := Q) hM fun x hx => by
        cases hq : (if f2 x = some ((1 : Int), (1 : Int)) then none else f2 x) with
        | none => exact absurd hq (h x hx)
        | some i => exact (f3no x i hq).2
      omega
    replace T7 := lka.m.cells Fb T7
    replace T8 := lka.m.cells Fb T8
    clear lka Fb
    have F4 : ∀ k i, (if k ∈ Q then some ((2 : Int), (1 : Int)) else if f2 k = some ((1 : Int), (1 : Int)) then none else f2 k) = some i → i = (2, 1) ∧ k ∈ Q := fun k i h => by
      by_cases hk : k ∈ Q
      · rw [if_pos hk] at h; cases h; exact ⟨rfl, hk⟩
      · rw [if_neg hk] at h; exact f3no k i h
    have F5 : ∀ k, k ∈ Q → (if k ∈ Q then some ((2 : Int), (1 : Int)) else if f2 k = some ((1 : Int), (1 : Int)) then none else f2 k) = some (2, 1) := fun k h => if_pos h
    generalize hf4 : (fun k => if k ∈ Q then some ((2 : Int), (1 : Int)) else if f2 k = some ((1 : Int), (1 : Int)) then none else f2 k) = f4 at lkb
    replace F4 : ∀ k i, f4 k = some i → i = (2, 1) ∧ k ∈ Q := fun k i h => F4 k i (by rw [← hf4] at h; exact h)
    replace F5 : ∀ k, k ∈ Q → f4 k = some (2, 1) := fun k h => by rw [← hf4]; exact F5 k h
    have bnd4 : ∀ M : List KeyB, M.Nodup → (∀ k ∈ M, f4 k ≠ none) → M.length ≤ 20 := fun M hM h => by
      have := nodup_sub (m := Q) hM fun x hx => by
        cases hq : f4 x with
        | none => exact absurd hq (h x hx)
        | some i => exact (F4 x i hq).2
      omega
    conv => lhs; whnf
    refine llen_spec (by omega) lkb fun M hM hm4 => ?_
    have eM : M.length = Q.length := nodup_len hM (strict_nodup sQ) fun k => by
      rw [hm4]
      constructor
      · intro h
        cases hq : f4 k with
        | none => exact absurd hq h
        | some i => exact (F4 k i hq).2
      · intro h e
        rw [F5 k h] at e
        cases e
    rw [eM]
    conv => lhs; whnf
    rw [show ((Q.length : Int) == (Q.length : Int)) = true by simp]
    conv => lhs; whnf
    refine ldI (i := (1, 1)) T7 ?_
    conv => lhs; whnf
    refine lhas_spec (N := 20) (id := (1, 1)) hD (by omega) (by omega) bnd4 lkb fun ah Lh σh ph _ hmh _ => ?_
    obtain rfl : Lh = [] := nil_of_none fun k h => by
      have := (F4 k _ ((hmh k).1 h)).1
      cases this
    conv => lhs; whnf
    refine ldI (i := (2, 1)) (prefix_get ph T8) ?_
    conv => lhs; whnf
    refine lfree_spec (N := 20) (id := (2, 1)) hD (by omega) (by omega) bnd4 (lkb.mono ph) fun Lq σq Fq hLq hmq _ => ?_
    obtain rfl : Lq = Q := strict_ext hLq sQ fun k => by
      rw [hmq]
      exact ⟨fun h => (F4 k _ h).2, F5 k⟩
    conv => lhs; whnf
    rw [show ((Lq.length : Int) == (Lq.length : Int)) = true by simp]
    conv => lhs; whnf
theorem lockFree_law (σ : H) (vs : List AV) (h : ArgsShp Tryz.prog σ 9 [24, 24] vs) : ∃ n, acall Tryz.prog tab (drawRegion Tryz.prog) n 13 vs σ isTrue = true := by
  obtain ⟨a, us, rfl, h1, h⟩ := args_cons h
  obtain ⟨b, us, rfl, h2, h⟩ := args_cons h
  obtain rfl := args_nil h
  obtain ⟨s, l, rfl, r1, o1, _⟩ := arg_ops h1
  obtain ⟨t, l', rfl, r2, o2, _⟩ := arg_ops h2
  exact ⟨5000, lockFree_run (byPlan _) (Nat.le_refl _) r1 r2 (fun o h => (o1 o h).ok) fun o h => (o2 o h).ok⟩
end Go.Proofs.YtajincfelnmlhaaGreat
