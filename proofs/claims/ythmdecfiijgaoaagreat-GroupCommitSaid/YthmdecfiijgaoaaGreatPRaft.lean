/- A node of a group, step by step, over entries that are a term and a rest: plain. -/
namespace Go.Raft
variable {α : Type}
structure Lt (α : Type) where
  kind : Int
  src : Int
  dst : Int
  term : Int
  a : Int
  b : Int
  commit : Int
  yes : Bool
  es : List (Int × α)
structure NS (α : Type) where
  me : Nat
  term : Int
  voted : Int
  log : List (Int × α)
  role : Int
  leader : Int
  silent : Int
  commit : Int
  box : Nat → Bool
  next : Nat → Int
  mat : Nat → Int
def len (l : List (Int × α)) : Int := (l.length : Int)
/-- The term of a place. -/
def termAt (l : List (Int × α)) (i : Int) : Int :=
  if i < 0 ∨ len l < i then -1 else if i = 0 then 0 else ((l[(i - 1).toNat]?).map (·.1)).getD (-1)
/-- Entries from a place on. -/
def fromL (l : List (Int × α)) (i : Int) (most : Nat) : List (Int × α) :=
  if i < 1 ∨ len l < i then [] else (l.drop (i - 1).toNat).take most
/-- The first entry that is not there. -/
def mis (l : List (Int × α)) : Nat → List (Int × α) → Option Nat
  | _, [] => none
  | p, e :: es => if (l[p]?).map (·.1) = some e.1 then (mis l (p + 1) es).map (· + 1) else some 0
/-- Put: the first place that was changed, the last one, the log. -/
def put (l : List (Int × α)) (prev term : Int) (es : List (Int × α)) : Option (Int × Int × List (Int × α)) :=
  if prev < 0 ∨ len l < prev ∨ termAt l prev ≠ term then none else
  match mis l prev.toNat es with
  | none => some (0, prev + len es, l)
  | some i => if 2000 < prev + len es then none else some (prev + 1 + (i : Int), prev + len es, l.take (prev.toNat + i) ++ es.drop i)
def newer (l : List (Int × α)) (last term : Int) : Bool := decide (termAt l (len l) < term ∨ term = termAt l (len l) ∧ len l ≤ last)
def wait (me : Nat) : Int := 3 * ((me : Int) + 1)
def others (me : Nat) : List Nat := [0, 1, 2].filter (· ≠ me)
def upd {β : Type} (f : Nat → β) (i : Nat) (v : β) : Nat → β := fun j => if j = i then v else f j
def rising : Int → Int → List (Int × α) → Bool
  | _, _, [] => true
  | last, top, e :: es => if e.1 < last ∨ top < e.1 then false else rising e.1 top es
def zeros : Nat → Int := fun _ => 0
def none0 : Nat → Bool := fun _ => false
def newN (me : Nat) (term voted : Int) (log : List (Int × α)) : NS α := ⟨me, term, voted, log, 1, -1, 0, 0, none0, zeros, zeros⟩
def adds (n : NS α) (to : Nat) : Lt α :=
  ⟨3, n.me, to, n.term, n.next to - 1, termAt n.log (n.next to - 1), n.commit, false, fromL n.log (n.next to) 4⟩
def all (n : NS α) : List (Lt α) := (others n.me).map (adds n)
def ask (n : NS α) (to : Nat) : Lt α := ⟨1, n.me, to, n.term, len n.log, termAt n.log (len n.log), 0, false, []⟩
def seek (n : NS α) : NS α := { n with term := n.term + 1, voted := n.me, role := 2, leader := -1, silent := 0, box := upd none0 n.me true }
def tick (n : NS α) : NS α × List (Lt α) :=
  if n.role = 3 then (n, all n)
  else if n.silent + 1 < wait n.me then ({ n with silent := n.silent + 1 }, [])
  else (seek n, (others n.me).map (ask (seek n)))
def may (n : NS α) (l : Lt α) : Bool :=
  decide (l.dst = n.me ∧ l.src ≠ n.me ∧ 0 ≤ l.src ∧ l.src < 3 ∧ 1 ≤ l.kind ∧ l.kind ≤ 4 ∧ 0 ≤ l.term ∧ 0 ≤ l.a ∧ 0 ≤ l.b ∧ 0 ≤ l.commit ∧ l.es.length ≤ 4) && rising 1 l.term l.es
def higher (n : NS α) (l : Lt α) : NS α := if n.term < l.term then { n with term := l.term, voted := -1, role := 1, leader := -1 } else n
def give (n : NS α) (l : Lt α) (yes : Bool) : Lt α := ⟨2, n.me, l.src, n.term, 0, 0, 0, yes, []⟩
def votes (n : NS α) (l : Lt α) : Bool := decide (l.term = n.term ∧ (n.voted = -1 ∨ n.voted = l.src)) && newer n.log l.a l.b
def asked (n : NS α) (l : Lt α) : NS α × List (Lt α) :=
  if votes n l then ({ n with voted := l.src, silent := 0 }, [give n l true]) else (n, [give n l false])
def won (n : NS α) : Bool := decide (2 ≤ ([0, 1, 2].filter n.box).length)

/-- To lead; z: the entry that says nothing. -/
def lead (z : α) (n : NS α) : NS α :=
  { n with role := 3, leader := n.me, next := fun i => if i ∈ others n.me then len n.log + 1 else n.next i, mat := fun i => if i ∈ others n.me then 0 else n.mat i,
           log := if n.log.length < 2000 then n.log ++ [(n.term, z)] else n.log }
def given (z : α) (n : NS α) (l : Lt α) : NS α × List (Lt α) :=
  if n.role ≠ 2 ∨ l.yes = false then (n, []) else
  if won { n with box := upd n.box l.src.toNat true } then (lead z { n with box := upd n.box l.src.toNat true }, all (lead z { n with box := upd n.box l.src.toNat true }))
  else ({ n with box := upd n.box l.src.toNat true }, [])
def addedL (n : NS α) (l : Lt α) (yes : Bool) (a : Int) : Lt α := ⟨4, n.me, l.src, n.term, a, 0, 0, yes, []⟩
def added (n : NS α) (l : Lt α) : NS α × List (Lt α) :=
  if l.term < n.term then (n, [addedL n l false 0]) else
  match put n.log l.a l.b l.es with
  | none => ({ n with role := 1, leader := l.src, silent := 0 }, [addedL n l false 0])
  | some (_, last, log) => ({ n with role := 1, leader := l.src, silent := 0, log := log, commit := max n.commit (min l.commit last) }, [addedL n l true last])
/-- The middle one of three. -/
def median3 (a b c : Int) : Int := max (min a b) (min (max a b) c)
def reach (n : NS α) : Int := match others n.me with
  | [i, j] => median3 (len n.log) (n.mat i) (n.mat j)
  | _ => 0
def commits (n : NS α) : NS α := if n.commit < reach n ∧ termAt n.log (reach n) = n.term then { n with commit := reach n } else n
def has (n : NS α) (l : Lt α) : NS α × List (Lt α) :=
  if n.role ≠ 3 ∨ (l.yes = true ∧ len n.log < l.a) then (n, []) else
  if l.yes = false then
    let n := { n with next := upd n.next l.src.toNat (max (n.next l.src.toNat - 1) (n.mat l.src.toNat + 1)) }
    (n, [adds n l.src.toNat])
  else
    let n := { n with mat := upd n.mat l.src.toNat (max (n.mat l.src.toNat) l.a), next := upd n.next l.src.toNat (max (n.mat l.src.toNat) l.a + 1) }
    let n := commits n
    (n, if len n.log < n.next l.src.toNat then [] else [adds n l.src.toNat])
def take (z : α) (n : NS α) (l : Lt α) : NS α × List (Lt α) :=
  if may n l = false then (n, []) else
  let n := higher n l
  if l.kind = 1 then asked n l
  else if l.kind = 3 then added n l
  else if l.term < n.term then (n, [])
  else if l.kind = 2 then given z n l
  else has n l
def propose (n : NS α) (r : α) : NS α × Int × Int :=
  if n.role ≠ 3 then (n, 0, 8) else
  if n.log.length < 2000 then ({ n with log := n.log ++ [(n.term, r)] }, len n.log + 1, 0) else (n, 0, 6)
end Go.Raft
