/- Rows of structs, sorted where they lie: a contract for the library's sorting with a comparison of one's own. -/
import Derived.Test.YtjooccdeeejecaaGmCode
import Derived.Shelf.SlSortCmp.WholeK
namespace Go.AM
open Go Go.RowKit Go.Proofs Go.Sort

/-- A world behind another: new blocks, and draws. -/
theorem grow_of {w w' : World} (hb : Below w.heap.size w w') (hd : w.drawn ≤ w'.drawn) : ∃ q os', w' = Go.Sort.grow (w.drewN q) os' := by
  refine ⟨w'.drawn - w.drawn, w'.heap.extract w.heap.size w'.heap.size, ?_⟩
  have hh : w'.heap = w.heap ++ w'.heap.extract w.heap.size w'.heap.size := by
    apply Array.ext_getElem?
    intro k
    rw [Array.getElem?_append]
    by_cases hk : k < w.heap.size
    · rw [if_pos hk, hb.block k hk]
    · rw [if_neg hk, Array.getElem?_extract]
      by_cases hk2 : k < w'.heap.size
      · rw [if_pos (by omega)]
        congr 1
        omega
      · rw [if_neg (by omega), Array.getElem?_eq_none (by omega)]
  obtain ⟨h1, h2, h3, h4, h5⟩ := w'
  simp only [Go.Sort.grow, World.drewN]
  have e1 := hb.os
  have e2 := hb.tape
  have e3 := hb.output
  simp only at e1 e2 e3 hh hd
  rw [World.mk.injEq]
  exact ⟨hh, e2, by omega, e1, e3⟩

/-- What a function without contracts below it gives, from whatever world, where its arguments speak of no place: its answer; new blocks, and draws. -/
theorem calls_grown {P : Program} {T : Tab} (hT : ∀ g, T.F g = none) (hmix : P.follows .mixedOrders = true) (hno : NoCount P) {n g : Nat} {args : List AV} {argsc : Array Value} {k : IntKind} {r : Int}
    (ha : VRs (fun _ => none) args argsc.toList) (h : acall P T (drawRegion P) n g args [] (fun v _ => match v with | .int j m => j == k && decide (m = r) | _ => false) = true) (w : World) :
    Calls P g argsc w fun e w' => e = .returned (.int k r) ∧ ∃ q os', w' = Go.Sort.grow (w.drewN q) os' := by
  have hS : @Sim Grade.count w.heap.size w (fun _ => none) [] w :=
    @Sim.mk Grade.count _ _ _ _ _ (@Bel.refl Grade.count _ _) (Nat.le_refl _) (fun _ _ h => by cases h) (fun _ _ _ _ _ _ _ h => by cases h)
  have hTT : @TabOK Grade.count P T := fun g F hF => by rw [hT g] at hF; cases hF
  obtain ⟨_, hc⟩ := @acall_ok Grade.count P T hTT hmix hno n w.heap.size w (fun _ => none) [] w g args argsc _ hS ha h
  refine hc.mono fun e w' hh => ?_
  obtain ⟨v, vc, σ', ρ', rfl, _, hv, hs, hk⟩ := hh
  split at hk
  · rename_i j m
    rw [Bool.and_eq_true, beq_iff_eq, decide_eq_true_eq] at hk
    obtain ⟨rfl, rfl⟩ := hk
    rw [hv.of_int]
    exact ⟨rfl, grow_of (@Bel.b Grade.count _ _ _ (@Sim.below Grade.count _ _ _ _ _ hs)) (@Bel.g Grade.count _ _ _ (@Sim.below Grade.count _ _ _ _ _ hs))⟩
  · cases hk

def isOwn : Md → Bool
  | .own => true
  | _ => false
/-- The contract: the row is laid anew, sorted. Where there is nothing, the machine runs. -/
def sortF {α : Type} (run : List AV → H → (AV → H → Bool) → Bool) (gc z : Nat) (rows : List AV → Option (List α)) (av : α → List AV) (srt : List α → List α) (args : List AV) (σ : H) (K : AV → H → Bool) : Bool :=
  match args with
  | [.sl (.at id off z') n, .fn f []] =>
    bif Nat.beq n 0 then run args σ K else
    bif Nat.beq f gc && Nat.beq z' z && Nat.ble n 1000000 then
      (match σ[id]? with
      | some (.cells xs z'' md) => bif Nat.beq z'' z && isOwn md && Nat.ble (off + n * z) xs.length then
          (match rows ((xs.drop off).take (n * z)) with
          | some l => bif Nat.beq l.length n then K (.tup []) (σ.set id (.cells (xs.take off ++ (srt l).flatMap av ++ xs.drop (off + n * z)) z .own)) else false
          | none => false) else false
      | _ => false)
    else false
  | _ => run args σ K

section
variable {α : Type} [Inhabited α] {P : Program} {z : Nat} {av : α → List AV} {enc : α → List Value}

theorem srow_get (hz : 0 < z) (hav : ∀ x, (av x).length = z) : ∀ (l : List α) (t : Nat), t < l.length * z → (l.flatMap av)[t]? = (av l.toArray[t / z]!)[t % z]?
  | [], _, ht => by simp at ht
  | x :: l, t, ht => by
    rw [List.flatMap_cons, List.getElem?_append, hav]
    by_cases h : t < z
    · rw [if_pos h, Nat.div_eq_of_lt h, Nat.mod_eq_of_lt h]
      simp
    · rw [if_neg h]
      have ht2 : t - z < l.length * z := by rw [List.length_cons, Nat.add_mul] at ht; omega
      rw [srow_get hz hav l (t - z) ht2]
      have e1 : t / z = (t - z) / z + 1 := by
        conv => lhs; rw [show t = t - z + z by omega]
        rw [Nat.add_div_right _ hz]
      have e2 : t % z = (t - z) % z := by
        conv => lhs; rw [show t = t - z + z by omega]
        rw [Nat.add_mod_right]
      have hlt : (t - z) / z < l.length := by
        rw [Nat.div_lt_iff_lt_mul hz]; exact ht2
      rw [e1, e2]
      congr 1
      rw [getElem!_pos l.toArray _ (by simpa using hlt), getElem!_pos (x :: l).toArray _ (by simpa using hlt)]
      simp
omit [Inhabited α] in
theorem srow_len (hav : ∀ x, (av x).length = z) : ∀ l : List α, (l.flatMap av).length = l.length * z
  | [] => by simp
  | x :: l => by rw [List.flatMap_cons, List.length_append, hav, srow_len hav l, List.length_cons, Nat.add_mul]; omega

theorem sort_sound {g gc : Nat} {rows : List AV → Option (List α)} {cf : α → α → Int} {srt : List α → List α} {run : List AV → H → (AV → H → Bool) → Bool} (hz : 0 < z)
    (hav : ∀ x, (av x).length = z) (henc : ∀ x, (enc x).length = z) (hrows : ∀ xs l, rows xs = some l → xs = l.flatMap av)
    (hrel : ∀ (ρ : Rho) (x : α) (i : Nat) (v : AV) (vc : Value), (av x)[i]? = some v → VR ρ v vc → (enc x)[i]? = some vc)
    (hback : ∀ (ρ : Rho) (x : α) (i : Nat) (vc : Value), (enc x)[i]? = some vc → ∃ v, (av x)[i]? = some v ∧ VR ρ v vc ∧ vc.oneCell' = true)
    (hsrt : ∀ (l : List α) (d' : Array α), Go.Sort.PermIn 0 l.length l.toArray d' → Go.Sort.SortedIn (ltOf cf) 0 l.length d' → d'.toList = srt l)
    (hrun : SoundAt P g run) (henter : ∀ args w, (callFunc g args).run P w = .ok (.enter g args) w)
    (hcall : ∀ (blk off cap : Nat) (d : Array α) (w : World), HoldsK enc z w blk off d → blk < w.heap.size → d.size < 4611686018427387904 →
      Calls P g #[.slice (some ⟨blk, off, none⟩) d.size cap, .func (.func gc) #[] #[]] w fun e w' => e = .returned (.tuple #[]) ∧ ∃ d' n os, Go.Sort.PermIn 0 d.size d d' ∧ Go.Sort.SortedIn (ltOf cf) 0 d.size d' ∧ w' = sortWorldK enc z w blk off n d' os) :
    SoundAt P g (sortF run gc z rows av srt) := fun B w0 ρ σ w args argsc K hs ha hF => by
  unfold sortF at hF
  split at hF
  case h_2 => exact hrun B w0 ρ σ w args argsc K hs ha hF
  case h_1 id off z' n f =>
    cases hn0 : Nat.beq n 0 with
    | true =>
      rw [hn0] at hF
      exact hrun B w0 ρ σ w _ argsc K hs ha hF
    | false =>
      rw [hn0, cond_false] at hF
      have hn : n ≠ 0 := fun e => by rw [e] at hn0; cases hn0
      cases hc1 : Nat.beq f gc && Nat.beq z' z && Nat.ble n 1000000 with
      | false => rw [hc1] at hF; cases hF
      | true =>
        rw [hc1, cond_true] at hF
        simp only [Bool.and_eq_true] at hc1
        obtain ⟨⟨q1, q2⟩, q3⟩ := hc1
        obtain rfl := Nat.eq_of_beq_eq_true q1
        obtain rfl := Nat.eq_of_beq_eq_true q2
        have q3 := Nat.le_of_ble_eq_true q3
        split at hF
        case h_2 => cases hF
        case h_1 xs z'' md hσ =>
          cases hc2 : (Nat.beq z'' z' && isOwn md && Nat.ble (off + n * z') xs.length) with
          | false => rw [hc2] at hF; cases hF
          | true =>
            rw [hc2, cond_true] at hF
            simp only [Bool.and_eq_true] at hc2
            obtain ⟨⟨q4, q5⟩, q6⟩ := hc2
            obtain rfl := Nat.eq_of_beq_eq_true q4
            have q6 := Nat.le_of_ble_eq_true q6
            have hmd : md = .own := by cases md <;> first | rfl | cases q5
            subst hmd
            split at hF
            case h_2 => cases hF
            case h_1 l hl =>
              cases hc3 : Nat.beq l.length n with
              | false => rw [hc3] at hF; cases hF
              | true =>
                rw [hc3, cond_true] at hF
                have hln := Nat.eq_of_beq_eq_true hc3
                have hl := hrows _ _ hl
                obtain ⟨vc1, t1, e1, hv1, ht1⟩ := ha.inv_cons
                obtain ⟨vc2, t2, e2, hv2, ht2⟩ := ht1.inv_cons
                obtain rfl := ht2.inv_nil
                subst e2
                cases hv1 with
                | slEnd a h => exact absurd rfl hn
                | @sl _ _ _ _ cap cs c h hc h1 h2 h3 h4 =>
                  subst hln
                  obtain ⟨cb, rfl, hcb⟩ := hv2.of_fn
                  have hcb0 : cb = #[] := Array.toList_eq_nil_iff.1 hcb.inv_nil
                  subst hcb0
                  have hargs : argsc = #[.slice (some ⟨c.blk, c.boff + (off - c.lo), none⟩) l.length cap, .func (.func f) #[] #[]] := Array.toList_inj.1 e1
                  subst hargs
                  -- the row in the world
                  obtain ⟨o, ho, hor⟩ := hs.obj id _ h
                  rw [hσ] at ho
                  obtain rfl := Option.some.inj ho
                  obtain ⟨c0, rest, hcs, hhi, _, hrest, _⟩ := hor.2.2.2 (by decide)
                  have hr0 := hrest rfl
                  subst hr0
                  rw [hcs] at hc
                  obtain rfl := List.mem_singleton.1 hc
                  have hcr := hor.2.2.1 c (by rw [hcs]; exact List.mem_singleton.2 rfl)
                  obtain ⟨hb0, hBb, hsz, C, Ty, fz, hheap, hCs, hfz⟩ := hcr.own (by decide)
                  have hblk : c.blk < w.heap.size := (Array.getElem?_eq_some_iff.1 hheap).1
                  have hlo := hcr.lo
                  -- a cell of it
                  have hav1 : ∀ t, t < l.length * z'' → xs[off + t]? = (av l.toArray[t / z'']!)[t % z'']? := fun t ht => by
                    rw [← srow_get hz hav l t ht, ← hl, List.getElem?_take, if_pos ht, List.getElem?_drop]
                  have hwc : ∀ t, t < l.length * z'' → w.cell? ⟨c.blk, (off - c.lo) + t, none⟩ = (enc l.toArray[t / z'']!)[t % z'']? := fun t ht => by
                    obtain ⟨v, vc, k1, k2, k3, _⟩ := hcr.cell (off + t) (by omega) (by omega)
                    rw [hav1 t ht] at k1
                    rw [hrel ρ _ _ v vc k1 k3, ← k2, hb0]
                    congr 2
                    omega
                  have hmodlt : ∀ t, t % z'' < z'' := fun t => Nat.mod_lt _ hz
                  have hget : ∀ (x : α) i, i < z'' → (enc x)[i]? = some (enc x)[i]! := fun x i hi => by
                    rw [List.getElem?_eq_getElem (by rw [henc]; exact hi), getElem!_pos (enc x) i (by rw [henc]; exact hi)]
                  have hH : HoldsK enc z'' w c.blk (off - c.lo) l.toArray := by
                    intro t ht
                    rw [size_flatK] at ht
                    have ht' : t < l.length * z'' := by simpa using ht
                    refine ⟨?_, ?_⟩
                    · rw [hwc t ht', hget _ _ (hmodlt t), get_flatK _ _ _ t ht]
                      rfl
                    · simp only [World.frozen?, hheap]
                      have : off - c.lo + t < C.size := by rw [hCs]; omega
                      rcases hfz with e | e
                      · simp [e]
                      · simp; omega
                  refine ⟨henter _ _, ?_⟩
                  have hcl := hcall c.blk (off - c.lo) cap l.toArray w hH hblk (by simp; omega)
                  have eadd : c.boff + (off - c.lo) = off - c.lo := by rw [hb0]; omega
                  rw [eadd]
                  have esz : l.toArray.size = l.length := by simp
                  rw [esz] at hcl
                  refine hcl.mono fun e w' hh => ?_
                  obtain ⟨rfl, d', m, os, hperm, hsort, rfl⟩ := hh
                  have hd' := hsrt l d' hperm hsort
                  have hds : d'.size = l.length := by have := hperm.1; simpa using this
                  have hsl : (srt l).length = l.length := by rw [← hd']; simpa using hds
                  -- the world behind it
                  let w1 : World := putRowK enc z'' (Go.Sort.ahead w m) c.blk (off - c.lo) d'
                  have hw1h : ∀ k, k ≠ c.blk → w1.heap[k]? = w.heap[k]? := fun k hk => by
                    show ((Go.Sort.ahead w m).heap.modify c.blk _)[k]? = _
                    rw [Array.getElem?_modify, if_neg (Ne.symm hk)]
                    rfl
                  have hw1b : w1.heap[c.blk]? = some (.cells (Go.Sort.putCells (fun v => v) (off - c.lo) (flatK enc z'' d') C) Ty fz) := by
                    show ((Go.Sort.ahead w m).heap.modify c.blk _)[c.blk]? = _
                    rw [Array.getElem?_modify, if_pos rfl]
                    show (w.heap[c.blk]?).map _ = _
                    rw [hheap]
                    rfl
                  have hbel : Bel B w w1 := ⟨⟨rfl, rfl, rfl, by show _ ≤ ((Go.Sort.ahead w m).heap.modify c.blk _).size; rw [Array.size_modify]; exact Nat.le_refl _, fun k hk => hw1h k (by omega)⟩, trivial⟩
                  have hXlen : (xs.take off ++ (srt l).flatMap av ++ xs.drop (off + l.length * z'')).length = xs.length := by
                    rw [List.length_append, List.length_append, List.length_take, List.length_drop, srow_len hav, hsl]
                    omega
                  have hupd : ρ.upd id (.cells z'' [c]) = ρ := by
                    funext j
                    by_cases ej : j = id
                    · subst ej; simp [Rho.upd, h, hcs]
                    · simp [Rho.upd, ej]
                  have hcell : ∀ j, c.lo ≤ j → j < c.hi → ∃ v vc, (xs.take off ++ (srt l).flatMap av ++ xs.drop (off + l.length * z''))[j]? = some v ∧ w1.cell? ⟨c.blk, c.boff + (j - c.lo), none⟩ = some vc ∧ VR ρ v vc ∧ vc.oneCell' = true := fun j j1 j2 => by
                    rw [hb0, Nat.zero_add]
                    by_cases ja : off ≤ j ∧ j < off + l.length * z''
                    · have ht : j - off < l.length * z'' := by omega
                      have e3 : w1.cell? ⟨c.blk, (off - c.lo) + (j - off), none⟩ = some ((flatK enc z'' d')[j - off]!) := Go.Sort.cell?_putRow _ (Go.Sort.ahead w m) c.blk (off - c.lo) (flatK enc z'' l.toArray) (flatK enc z'' d') (fun t ht => hH t ht) (by rw [size_flatK, size_flatK, hds, esz]) (j - off) (by rw [size_flatK, hds]; exact ht)
                      have e4 : (flatK enc z'' d')[j - off]! = (enc d'[(j - off) / z'']!)[(j - off) % z'']! := get_flatK _ _ _ _ (by rw [hds]; exact ht)
                      obtain ⟨v, hv, hvr, hone⟩ := hback ρ _ _ _ (hget d'[(j - off) / z'']! _ (hmodlt (j - off)))
                      refine ⟨v, _, ?_, ?_, hvr, hone⟩
                      · rw [List.append_assoc, List.getElem?_append_right (by rw [List.length_take]; omega), List.length_take, Nat.min_eq_left (by omega), List.getElem?_append_left (by rw [srow_len hav, hsl]; exact ht),
                          srow_get hz hav _ _ (by rw [hsl]; exact ht)]
                        rw [← hd']
                        exact hv
                      · rw [show j - c.lo = off - c.lo + (j - off) by omega, e3, e4]
                    · obtain ⟨v, vc, k1, k2, k3, k4⟩ := hcr.cell j j1 j2
                      refine ⟨v, vc, ?_, ?_, k3, k4⟩
                      · by_cases jb : j < off
                        · rw [List.append_assoc, List.getElem?_append_left (by rw [List.length_take]; omega), List.getElem?_take, if_pos jb]
                          exact k1
                        · rw [List.getElem?_append_right (by rw [List.length_append, List.length_take, srow_len hav, hsl]; omega), List.length_append, List.length_take, srow_len hav, hsl, List.getElem?_drop, ← k1]
                          congr 1
                          omega
                      · rw [hb0, Nat.zero_add] at k2
                        rw [← k2]
                        exact Go.Sort.cell?_putRow_other _ (Go.Sort.ahead w m) c.blk (off - c.lo) (flatK enc z'' d') ⟨c.blk, j - c.lo, none⟩ (.inr (by rw [size_flatK, hds]; show j - c.lo < off - c.lo ∨ off - c.lo + l.length * z'' ≤ j - c.lo; omega))
                  have hnew : OR B (ρ.upd id (.cells z'' [c])) w1 (.cells (xs.take off ++ (srt l).flatMap av ++ xs.drop (off + l.length * z'')) z'' .own) (.cells z'' [c]) := by
                    rw [hupd]
                    refine ⟨rfl, hz, fun c' hc' => ?_, fun _ => ⟨c, [], rfl, by rw [hXlen]; exact hhi, (fun c' hc' => by cases hc'), (fun _ => rfl), (fun c' hc' => by cases hc')⟩⟩
                    obtain rfl := List.mem_singleton.1 hc'
                    exact ⟨hlo, by rw [hXlen]; exact hcr.hi, hcell, (fun e => by cases e), fun _ => ⟨hb0, hBb, hsz, _, Ty, fz, hw1b, by rw [← hCs]; simp [Go.Sort.putCells], by simpa [Go.Sort.putCells] using hfz⟩⟩
                  rw [hcs] at h
                  obtain ⟨hle, hs1⟩ := hs.change (w' := w1) (o' := .cells (xs.take off ++ (srt l).flatMap av ++ xs.drop (off + l.length * z'')) z'' .own) (l' := .cells z'' [c]) h hσ (.refl _) hbel
                    (fun k hk hno => hw1h k fun e => hno ⟨by decide, c, List.mem_singleton.2 rfl, e.symm⟩) hnew (fun b hb => .inl ⟨by decide, hb.2⟩)
                  have hg : Bel w1.heap.size w1 (Go.Sort.grow w1 os) := ⟨⟨rfl, rfl, rfl, by rw [Go.Sort.size_grow]; omega, fun k hk => by show (w1.heap ++ os)[k]? = _; rw [Array.getElem?_append_left hk]⟩, trivial⟩
                  exact ⟨.tup [], _, _, _, rfl, hle, VR.mk_tup .nil, hs1.grown hg, hF⟩
end
end Go.AM
