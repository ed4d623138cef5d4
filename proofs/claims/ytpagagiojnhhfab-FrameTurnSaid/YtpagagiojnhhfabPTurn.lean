/- A frame of which a byte behind its length was turned: plain. -/
import Derived.Test.YtpagagiojnhhfabPScan
namespace Go.AM.St
open Go Go.AM

theorem unfixL_inj : ∀ (xs ys : List Nat), xs.length = ys.length → (∀ b ∈ xs, b < 256) → (∀ b ∈ ys, b < 256) → unfixL xs = unfixL ys → xs = ys
  | [], [], _, _, _, _ => rfl
  | [], _ :: _, h, _, _, _ => by cases h
  | _ :: _, [], h, _, _, _ => by cases h
  | x :: xs, y :: ys, hl, hx, hy, h => by
    rw [unfixL, unfixL] at h
    have h1 := hx x List.mem_cons_self
    have h2 := hy y List.mem_cons_self
    have e1 : x = y := by omega
    have e2 := unfixL_inj xs ys (by simpa using hl) (fun b hb => hx b (List.mem_cons_of_mem _ hb)) (fun b hb => hy b (List.mem_cons_of_mem _ hb)) (by omega)
    rw [e1, e2]
theorem getF_turn {r : RecP} (hm : mayR r = true) (hb : ∀ b ∈ putF r, b < 256) {i y : Nat} (h2 : 2 ≤ i) (hi : i < (putF r).length) (hy : y < 256) (hne : (putF r)[i] ≠ y) : getF ((putF r).set i y) = (⟨0, [], []⟩, 0, 1) := by
  have hl := putF_length r
  have hlen : ((putF r).set i y).length = (putF r).length := List.length_set
  have hs := take_head (A := fixL (putR r).length 2) (B := fixL (markN 1 (putR r)) 4) (C := putR r) (fixL_len _ _) (fixL_len _ _)
  have hsp : fixL (putR r).length 2 ++ fixL (markN 1 (putR r)) 4 ++ putR r = putF r := rfl
  rw [hsp] at hs
  obtain ⟨s1, s2, s3⟩ := hs
  have t2 : ((putF r).set i y).take 2 = fixL (putR r).length 2 := by rw [List.take_set_of_le h2, s1]
  have hN := getFN_put hm t2
  have hbs : ∀ b ∈ (putF r).set i y, b < 256 := fun b h => by
    rcases List.mem_or_eq_of_mem_set h with h | h
    · exact hb b h
    · rw [h]; exact hy
  have hB : getFB ((putF r).set i y) = ((putF r).set i y).drop 6 := by
    unfold getFB
    rw [hN, List.take_of_length_le (by omega)]
  have hR : ∀ b ∈ putR r, b < 256 := fun b h => hb b (by rw [← s3] at h; exact List.mem_of_mem_drop h)
  have hml := markN_lt 1 (putR r)
  unfold getF
  rw [if_neg (by omega), if_neg (by rw [hN]; omega), if_pos]
  refine .inr (.inr ?_)
  rw [hB]
  by_cases h6 : i < 6
  · rw [List.drop_set_of_lt h6, s3]
    intro h
    have e4 : unfix (((putF r).take (2 + 4)).drop 2) = markN 1 (putR r) := by rw [s2, unfix4_put (by omega)]
    rw [← e4] at h
    have u : ∀ l : List Nat, l.length ≤ 8 → unfix l = unfixL l := fun l h => by unfold unfix; rw [List.take_of_length_le h]
    have l1 : (((putF r).take (2 + 4)).drop 2).length = 4 := by rw [List.length_drop, List.length_take]; omega
    have l2 : ((((putF r).set i y).take 6).drop 2).length = 4 := by rw [List.length_drop, List.length_take]; omega
    rw [u _ (by omega), u _ (by omega)] at h
    have e := unfixL_inj _ _ (by rw [l1, l2]) (fun b h => hbs b (List.mem_of_mem_take (List.mem_of_mem_drop h))) (fun b h => hb b (List.mem_of_mem_take (List.mem_of_mem_drop h))) h
    have e1 := congrArg (·[i - 2]?) e
    simp only [List.getElem?_drop] at e1
    rw [show 2 + (i - 2) = i by omega, List.getElem?_take_of_lt h6, List.getElem?_take_of_lt h6, List.getElem?_set_self hi, List.getElem?_eq_getElem hi] at e1
    exact hne (Option.some.inj e1).symm
  · have t6 : (((putF r).set i y).take 6).drop 2 = fixL (markN 1 (putR r)) 4 := by rw [List.take_set_of_le (by omega)]; exact s2
    rw [t6, unfix4_put (by omega), List.drop_set, if_neg h6, show (putF r).drop 6 = putR r from s3]
    have hk : i - 6 < (putR r).length := by omega
    have hg : (putR r)[i - 6] = (putF r)[i] := by
      have : (putR r)[i - 6]? = (putF r)[i]? := by rw [← s3, List.getElem?_drop, show 2 + 4 + (i - 6) = i by omega]
      rw [List.getElem?_eq_getElem hk, List.getElem?_eq_getElem hi] at this
      exact Option.some.inj this
    intro h
    have := (mark_turn hk hR hy).1 h
    rw [hg] at this
    exact hne this
theorem scanF_bad {bs : List Nat} (h : (getF bs).2.2 ≠ 0) : scanF bs = ([], 0) := by
  unfold scanF
  rw [scanL, if_pos h]
end Go.AM.St
