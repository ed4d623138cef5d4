/- Every operation that reads. -/
import Derived.Test.YtpagagiojnhhfaaAmRead2
namespace Go.AM
open Go Go.RowKit

theorem find_ent {ρ : Rho} (b : Nat) : ∀ {es : List ME} {ces : List MapEntry} {e : ME}, EntR ρ es ces → es.find? (fun e => e.born == b) = some e →
    ∃ ce, ces.find? (fun e => e.born == b) = some ce ∧ VR ρ e.key ce.key ∧ VR ρ e.val ce.val
  | [], ces, e, he, h => by simp at h
  | x :: es, ces, e, he, h => by
    obtain ⟨ce, ces', rfl, h1, h2, h3, h4⟩ := he.inv_cons
    rw [List.find?_cons] at h ⊢
    rw [← h3]
    cases hx : (x.born == b) with
    | true => rw [hx] at h; obtain rfl := Option.some.inj h; exact ⟨ce, rfl, h1, h2⟩
    | false => rw [hx] at h; exact find_ent b h4 h

section
variable {P : Program} {B : Nat} {w0 : World} {ρ : Rho} {σ : H} {w : World} (hsim : Sim B w0 ρ σ w)
include hsim

theorem Sim.miter {id r m : Nat} {since : Nat} {seen : List Nat} {last : Nat} (hl : ρ id = some (.obj r)) (hs : σ[id]? = some (.miter (some m) since seen last)) :
    ∃ rm, B ≤ r ∧ ρ m = some (.obj rm) ∧ w.heap[r]? = some (.mapIter (some rm) since seen.toArray last) := by
  obtain ⟨o, ho, hr⟩ := hsim.obj id _ hl
  rw [hs] at ho
  obtain rfl := Option.some.inj ho
  obtain ⟨h1, rm, h2, h3⟩ := hr
  exact ⟨rm, h1, h2, h3⟩

theorem read_sound (o : Oper) {e : Operand → AV} {ec : Operand → Value} (he : EvR ρ e ec o.op) (hk : kindOf P o.op = .read) (K : AV → Bool)
    (h : readK P o.op e σ K = true) : ∃ v vc, K v = true ∧ VR ρ v vc ∧ (∀ K', readK P o.op e σ K' = K' v) ∧ (execOp ec o).run P w = .ok (.value vc) w := by
  obtain ⟨dst, op, ty, pos, after, guard⟩ := o
  simp only at he hk h ⊢
  unfold readK at h
  split at h
  · rename_i t a
    have ha := he a (by simp [Op.operands])
    split at h
    · rename_i p hp
      rw [hp] at ha
      obtain ⟨v, vc, h1, h2, h3, h4⟩ := ld_ok hsim ha t K h
      exact ⟨v, vc, h1, h2, fun K' => by simp only [readK, hp]; exact h3 K', by simp [execOp, h4]⟩
    · cases h
  · rename_i t m k ok
    obtain ⟨v, vc, h1, h2, h3, h4⟩ := lookup_ok hsim (he m (by simp [Op.operands])) (he k (by simp [Op.operands])) t ok K h
    exact ⟨v, vc, h1, h2, fun K' => by simp only [readK]; exact h3 K', by simp [execOp, h4]⟩
  · rename_i s d x
    have hx := he x (by simp [Op.operands])
    split at h
    · rename_i el a n hs hd ha
      rw [ha] at hx
      split at h
      · rename_i hel
        obtain ⟨vs, ys, h, hv, ek, hl, h1, hcase⟩ := seen_ok hsim hx h
        obtain ⟨ns, rfl, h, eb⟩ := bytesOf_ok hv h
        have hK : ∀ K', readK P (.convert s d x) e σ K' = K' (.str (ns.map fun n => ((n.toNat % 256 : Nat) : Int))) := fun K' => by
          simp only [readK, hs, hd, ha, hel]; rw [ek, eb]
        have hb : bytesL (ns.foldl (fun r n => r.push (UInt8.ofNat n.toNat)) ByteArray.empty) = ns.map fun n => ((n.toNat % 256 : Nat) : Int) := by
          have : ∀ (ns : List Int) (s : ByteArray), bytesL (ns.foldl (fun r n => r.push (UInt8.ofNat n.toNat)) s) = bytesL s ++ ns.map fun n => ((n.toNat % 256 : Nat) : Int) := by
            intro ns
            induction ns with
            | nil => intro s; simp
            | cons n ns ih =>
              intro s
              rw [List.foldl_cons, ih]
              have hp : bytesL (s.push (UInt8.ofNat n.toNat)) = bytesL s ++ [((n.toNat % 256 : Nat) : Int)] := by
                unfold bytesL
                show List.map _ (s.data.push _).toList = _
                rw [Array.toList_push, List.map_append]
                simp
              rw [hp]; simp
          have h0 := this ns ByteArray.empty
          rw [h0]
          rfl
        rcases hcase with ⟨ad, cap, hxc, hload, _⟩ | ⟨hxc, rfl⟩
        · refine ⟨_, .string _, h, by rw [← hb]; exact .str _, hK, ?_⟩
          rw [Nat.mul_one] at hload
          have := run_bytesToString (P := P) w ad n cap ns hload
          simp [execOp, hxc, run_convert_bytes_string w s d el _ _ _ hs hel hd, this]
        · have hns : ns = [] := by
            have := hl; simp at this; exact this
          subst hns
          refine ⟨_, .string ByteArray.empty, h, .str ByteArray.empty, hK, ?_⟩
          simp [execOp, hxc, run_convert_bytes_string w s d el _ _ _ hs hel hd, Conv.bytesToString]
      · cases h
    · cases h
  · rename_i it
    have hi := he it (by simp [Op.operands])
    split at h
    · rename_i id hid
      rw [hid] at hi
      split at h
      · rename_i m since seen last hs
        split at h
        · rename_i es clock b hm hb
          cases hc : (clock == last) with
          | false => rw [hc] at h; cases h
          | true =>
            rw [hc, cond_true] at h
            split at h
            · rename_i en hen
              generalize hxc : ec it = xc at hi
              cases hi with
              | iter hl =>
                obtain ⟨rm, _, hlm, hw⟩ := Sim.miter hsim hl hs
                obtain ⟨ces, _, hwm, hent⟩ := Sim.map hsim hlm hm
                obtain ⟨ce, hce, h2, h3⟩ := find_ent b hent hen
                refine ⟨_, .tuple #[ce.key, ce.val], h, VR.mk_tup (.cons h2 (.cons h3 .nil)), fun K' => by simp only [readK, hid, hs, hm, hb, hc, cond_true, hen], ?_⟩
                have hcl : clock = last := by simpa using hc
                have hbk : (seen.toArray).back? = some b := by rw [List.back?_toArray]; exact hb
                have hfd : ces.find? (fun e => e.born == b) = some ce := by rw [← Array.find?_toList]; exact hce
                simp [execOp, hxc, Instr.entry, run_getObj_of hw (by simp), run_getObj_of hwm (by simp), hbk, hcl, hfd]
            · cases h
        · cases h
      · cases h
    · cases h
  · rename_i args argTypes
    split at h
    · rename_i x ha
      have ha' : args = #[x] := by apply Array.ext'; rw [ha]
      subst ha'
      have hx := he x (by simp [Op.operands, Call.operands])
      split at h
      · rename_i r hr
        rw [hr] at hx
        -- the type: a map's
        have htm : ∃ t, argTypes[0]? = some t ∧ isMapT P t = true := by
          unfold kindOf at hk
          cases h0 : argTypes[0]? with
          | none => simp [h0] at hk
          | some t =>
            refine ⟨t, rfl, ?_⟩
            cases hm : isMapT P t with
            | true => rfl
            | false => simp [h0, hm] at hk
        obtain ⟨t, h0, htm⟩ := htm
        unfold isMapT at htm
        split at htm
        · rename_i kt et ht
          cases r with
          | none =>
            generalize hxc : ec x = xc at hx
            cases hx
            refine ⟨_, .int .i64 0, h, .int .i64 0, fun K' => by simp only [readK, hr]; rfl, ?_⟩
            simp [execOp, resolve, invoke, builtin, Builtin.len_, h0, hxc, run_underlying ht, goInt]
          | some id =>
            unfold mapK at h
            simp only at h
            split at h
            · rename_i es clock hs
              generalize hxc : ec x = xc at hx
              cases hx with
              | map hl =>
                obtain ⟨ces, _, hw, hent⟩ := Sim.map hsim hl hs
                refine ⟨_, .int .i64 es.length, h, .int .i64 _, fun K' => by simp only [readK, hr, mapK, hs], ?_⟩
                have hsz : ces.size = es.length := by rw [← Array.length_toList]; exact hent.1.symm
                simp [execOp, resolve, invoke, builtin, Builtin.len_, h0, hxc, run_underlying ht, goInt, run_getObj_of hw (by simp), hsz]
            · cases h
        · cases htm
      · cases h
    · cases h
  · cases h

end
end Go.AM
