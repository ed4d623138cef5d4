/- Frames one behind the other, cut off anywhere: plain. -/
import Derived.Test.YtpagagiojnhhfabGmPlain
namespace Go.AM.St
open Go Go.AM

/-- A record that may be, of numbers that are numbers. -/
def Fine (r : RecP) : Prop := mayR r = true ∧ ∀ x ∈ r.nums, -9223372036854775808 ≤ x ∧ x ≤ 9223372036854775807

theorem take_head {A B C : List Nat} {a b : Nat} (hA : A.length = a) (hB : B.length = b) : ((A ++ B ++ C).take a = A) ∧ ((A ++ B ++ C).take (a + b)).drop a = B ∧ (A ++ B ++ C).drop (a + b) = C := by
  subst hA hB
  refine ⟨?_, ?_, ?_⟩
  · rw [List.append_assoc, List.take_left]
  · rw [← List.length_append, List.take_left, List.drop_left]
  · rw [← List.length_append, List.drop_left]
theorem putF_split (r : RecP) (rest : List Nat) : putF r ++ rest = fixL (putR r).length 2 ++ fixL (markN 1 (putR r)) 4 ++ (putR r ++ rest) := by
  unfold putF; simp only [List.append_assoc]
theorem putF_length (r : RecP) : (putF r).length = 6 + (putR r).length := by
  unfold putF; simp only [List.length_append, fixL_len]
theorem unfix2_put {u : Nat} (h : u < 65536) : unfix (fixL u 2) = u := by
  unfold unfix
  rw [List.take_of_length_le (by rw [fixL_len]; decide), unfix_fix]
  exact Nat.mod_eq_of_lt h
theorem unfix4_put {u : Nat} (h : u < 4294967296) : unfix (fixL u 4) = u := by
  unfold unfix
  rw [List.take_of_length_le (by rw [fixL_len]; decide), unfix_fix]
  exact Nat.mod_eq_of_lt h
theorem getFN_put {r : RecP} (h : mayR r = true) {l : List Nat} (hl : l.take 2 = fixL (putR r).length 2) : getFN l = (putF r).length := by
  have := putR_len h
  unfold getFN
  rw [hl, unfix2_put (by omega), putF_length]
theorem getF_put {r : RecP} (h : Fine r) (rest : List Nat) : getF (putF r ++ rest) = (r, (putF r).length, 0) := by
  obtain ⟨hm, hn⟩ := h
  have hl := putF_length r
  have hs := take_head (A := fixL (putR r).length 2) (B := fixL (markN 1 (putR r)) 4) (C := putR r ++ rest) (fixL_len _ _) (fixL_len _ _)
  rw [← putF_split] at hs
  obtain ⟨h1, h2, h3⟩ := hs
  have hN := getFN_put hm h1
  have hB : getFB (putF r ++ rest) = putR r := by
    unfold getFB
    rw [hN, List.take_left]
    have := (take_head (A := fixL (putR r).length 2) (B := fixL (markN 1 (putR r)) 4) (C := putR r ++ []) (fixL_len _ _) (fixL_len _ _)).2.2
    rw [← putF_split, List.append_nil, List.append_nil] at this
    exact this
  have hg := recGet_put hm hn []
  rw [List.append_nil] at hg
  have hml := markN_lt 1 (putR r)
  unfold getF
  rw [if_neg (by rw [List.length_append]; omega), if_neg (by rw [hN, List.length_append]; omega), if_neg, hB, hg, hN]
  unfold getFbad
  rw [hB, hg, hN, h2, unfix4_put (by omega)]
  simp only
  omega
theorem getF_cut {r : RecP} (h : mayR r = true) {k : Nat} (hk : k < (putF r).length) : (getF ((putF r).take k)).2.2 ≠ 0 := by
  have hlen : ((putF r).take k).length = k := by rw [List.length_take]; omega
  unfold getF
  by_cases h6 : k < 6
  · rw [if_pos (by omega)]; decide
  · rw [if_neg (by omega)]
    have h2 : ((putF r).take k).take 2 = fixL (putR r).length 2 := by
      rw [List.take_take, Nat.min_eq_left (by omega)]
      have := (take_head (A := fixL (putR r).length 2) (B := fixL (markN 1 (putR r)) 4) (C := putR r ++ []) (fixL_len _ _) (fixL_len _ _)).1
      rw [← putF_split, List.append_nil] at this
      exact this
    rw [getFN_put h h2, if_pos (by omega)]; decide
def encFr : List RecP → List Nat
  | [] => []
  | r :: l => putF r ++ encFr l
theorem encFr_app : ∀ (a b : List RecP), encFr (a ++ b) = encFr a ++ encFr b
  | [], b => rfl
  | r :: l, b => by rw [List.cons_append, encFr, encFr, encFr_app l b, List.append_assoc]
theorem encFr_snoc (l : List RecP) (r : RecP) : encFr (l ++ [r]) = encFr l ++ putF r := by
  rw [encFr_app]; simp [encFr]
theorem encFr_lt : ∀ (l : List RecP), (∀ r ∈ l, ∀ t ∈ r.texts, ∀ b ∈ t, b < 256) → ∀ b ∈ encFr l, b < 256
  | [], _, b, h => by cases h
  | r :: l, hl, b, h => (List.mem_append.1 h).elim (putF_lt (hl r List.mem_cons_self) b) (encFr_lt l (fun x hx => hl x (List.mem_cons_of_mem _ hx)) b)
theorem scanL_cut : ∀ (j : Nat) (W : List RecP) (c m : Nat), (∀ r ∈ W, Fine r) → j ≤ W.length → (encFr (W.take j)).length ≤ c → (j < W.length → c < (encFr (W.take (j + 1))).length) → c < m →
    scanL m ((encFr W).take c) = (W.take j, (encFr (W.take j)).length)
  | _, _, _, 0, _, _, _, _, h => absurd h (Nat.not_lt_zero _)
  | 0, W, c, m + 1, hW, _, _, h2, _ => by
    have he : (getF ((encFr W).take c)).2.2 ≠ 0 := by
      cases W with
      | nil => rw [encFr, List.take_nil]; decide
      | cons r l =>
        have h3 := h2 (Nat.zero_lt_succ _)
        rw [List.take_succ_cons, List.take_zero, encFr, encFr, List.append_nil] at h3
        rw [encFr, List.take_append_of_le_length (by omega)]
        exact getF_cut (hW r List.mem_cons_self).1 h3
    rw [scanL, if_pos he, List.take_zero]; rfl
  | j + 1, [], c, m + 1, _, h1, _, _, _ => by cases h1
  | j + 1, r :: l, c, m + 1, hW, h1, h2, h3, h4 => by
    rw [List.take_succ_cons, encFr, List.length_append] at h2
    have hpos := putF_length r
    have hsplit : (encFr (r :: l)).take c = putF r ++ (encFr l).take (c - (putF r).length) := by
      rw [encFr, List.take_append, List.take_of_length_le (by omega)]
    have ih := scanL_cut j l (c - (putF r).length) m (fun x hx => hW x (List.mem_cons_of_mem _ hx)) (by simpa using h1) (by omega)
      (fun h => by
        have := h3 (by simpa using h)
        rw [List.take_succ_cons, encFr, List.length_append] at this
        omega) (by omega)
    rw [hsplit, scanL, getF_put (hW r List.mem_cons_self), if_neg (by simp)]
    simp only
    rw [List.drop_left, ih, List.take_succ_cons, encFr, List.length_append]
theorem scanF_cut {W : List RecP} {c j : Nat} (hW : ∀ r ∈ W, Fine r) (h1 : j ≤ W.length) (h2 : (encFr (W.take j)).length ≤ c) (h3 : j < W.length → c < (encFr (W.take (j + 1))).length) (hc : c ≤ (encFr W).length) :
    scanF ((encFr W).take c) = (W.take j, (encFr (W.take j)).length) := by
  unfold scanF
  exact scanL_cut j W c _ hW h1 h2 h3 (by rw [List.length_take]; omega)
theorem scanF_all {W : List RecP} (hW : ∀ r ∈ W, Fine r) : scanF (encFr W) = (W, (encFr W).length) := by
  have := scanF_cut (c := (encFr W).length) (j := W.length) hW (Nat.le_refl _) (by rw [List.take_length]; exact Nat.le_refl _) (fun h => absurd h (Nat.lt_irrefl _)) (Nat.le_refl _)
  rw [List.take_length, List.take_length] at this
  exact this
/-- Where the frames end. -/
def endsR (W : List RecP) : List Int := (List.range W.length).map fun k => ((encFr (W.take (k + 1))).length : Int)
theorem endsR_len (W : List RecP) : (endsR W).length = W.length := by simp [endsR]
theorem endsR_at {W : List RecP} {k : Nat} (h : k < (endsR W).length) : (endsR W)[k] = ((encFr (W.take (k + 1))).length : Int) := by simp [endsR]
theorem endsR_snoc (W : List RecP) (r : RecP) : endsR (W ++ [r]) = endsR W ++ [((encFr (W ++ [r])).length : Int)] := by
  unfold endsR
  rw [List.length_append, List.length_singleton, List.range_succ, List.map_append]
  congr 1
  · refine List.map_congr_left fun k hk => ?_
    have := List.mem_range.1 hk
    rw [List.take_append_of_le_length (by omega)]
  · simp [List.take_of_length_le]
end Go.AM.St
