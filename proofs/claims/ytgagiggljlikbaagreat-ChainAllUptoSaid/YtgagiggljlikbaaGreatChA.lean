/- Layer 4's machines, plain: what a step makes of an index and its arena. No program in sight. -/
import Derived.Test.YtgagiggljlikbaaGreatCeSix
namespace Go.Proofs.YtgagiggljlikbaaGreat.Ch
open Go.RowKit Go.Proofs.YtgagiggljlikbaaGreat.Ar Go.Proofs.YtgagiggljlikbaaGreat.En
set_option linter.unusedVariables false

/-- the unmarked link of a number; a link's number; its mark -/
def lk (n : Int) : Int := 2 * n
def numL (w : Int) : Int := w / 2
def mkL (w : Int) : Bool := decide (w % 2 = 1)
/-- no slot's number, but an end's -/
def beyond (n : Int) : Bool := decide (4096 < n)
def last (b : Int) : Int := 4097 + b
/-- a word that may stand in a link -/
def okL (w : Int) : Prop := 0 ≤ w ∧ w ≤ 8705

abbrev Ars := Arena Ent
/-- an index: the cell of its links, its heads, how often these were read or swapped -/
structure CI where
  cell : Nat
  heads : List Int
  count : Int
def CI.has (X : CI) (b : Int) : Bool := decide (0 ≤ b) && decide (b < X.heads.length)
def CI.head (X : CI) (b : Int) : Int := nth X.heads b.toNat 0
def CI.tick (X : CI) : CI := { X with count := wrap64 (X.count + 1) }
def CI.put (X : CI) (b w : Int) : CI := { X with heads := X.heads.set b.toNat w }

/-- Load, Store, CAS of a cell of the width -/
def wordA (A : Ars) (s : Int) (c : Nat) : Int := nth A.words (wordAt A s.toNat c) 0
def putA (A : Ars) (s : Int) (c : Nat) (v : Int) : Ars := { counted A with words := A.words.set (wordAt A s.toNat c) v }
def ldA (A : Ars) (s : Int) (c : Nat) : Ars × Int × Int := if inUseB A s then (counted A, wordA A s c, 0) else (missed A, 0, 22)
def stA (A : Ars) (s : Int) (c : Nat) (v : Int) : Ars × Int := if inUseB A s then (putA A s c v, 0) else (missed A, 22)
def casA (A : Ars) (s : Int) (c : Nat) (x y : Int) : Ars × Bool × Int :=
  if inUseB A s then (if wordA A s c = x then (putA A s c y, true, 0) else (counted A, false, 0)) else (missed A, false, 22)
/-- the swap of a head (from = 0), or of a slot's link -/
def swA (X : CI) (A : Ars) (b f x y : Int) : CI × Ars × Bool × Int :=
  if f = 0 then (if X.head b = x then (X.tick.put b y, A, true, 0) else (X.tick, A, false, 0)) else let r := casA A f X.cell x y; (X, r.1, r.2.1, r.2.2)

/-- an Insert; at_: 0 done, else what its next step does -/
structure MI where
  bucket : Int
  slot : Int
  at_ : Nat
  head : Int
  code : Int
  tries : Int
def MI.over (m : MI) (e : Int) : MI := { m with at_ := 0, code := e }
def newI (b s : Int) : MI := ⟨b, s, 1, 0, 0, 0⟩
def stepI (X : CI) (A : Ars) (m : MI) : CI × Ars × MI × Bool :=
  match m.at_ with
  | 0 => (X, A, m, true)
  | 1 =>
    if X.has m.bucket then
      let r := ldA A m.slot X.cell
      if r.2.2 = 0 then (if r.2.1 = 0 then (X, r.1, { m with at_ := 2 }, false) else (X, r.1, m.over 41, true)) else (X, r.1, m.over r.2.2, true)
    else (X, A, m.over 40, true)
  | 2 => (X.tick, A, { m with at_ := 3, head := X.head m.bucket }, false)
  | 3 =>
    let r := stA A m.slot X.cell m.head
    if r.2 = 0 then (X, r.1, { m with at_ := 4 }, false) else (X, r.1, m.over r.2, true)
  | _ =>
    if X.head m.bucket = m.head then (X.tick.put m.bucket (lk m.slot), A, m.over 0, true) else (X.tick, A, { m with at_ := 2, tries := wrap64 (m.tries + 1) }, false)

/-- a walk; whole: from a bucket's head; src: its source is still to be read; from_: the slot of Behind -/
structure MW where
  bucket : Int
  whole : Bool
  from_ : Int
  src : Bool
  next : Int
  slot : Int
  ended : Bool
  code : Int
def newW (b : Int) : MW := ⟨b, true, 0, true, 0, 0, false, 0⟩
def newB (s : Int) : MW := ⟨-1, false, s, true, 0, 0, false, 0⟩
/-- what a walk's step reads -/
def srcW (X : CI) (A : Ars) (m : MW) : CI × Ars × Int × Int :=
  if m.src && m.whole then (if X.has m.bucket then (X.tick, A, X.head m.bucket, 0) else (X, A, 0, 40))
  else let r := ldA A (if m.src then m.from_ else m.next) X.cell; (X, r.1, r.2.1, r.2.2)
def stepW (X : CI) (A : Ars) (m : MW) : CI × Ars × MW × Bool :=
  if m.ended then (X, A, { m with slot := 0 }, true)
  else
    let r := srcW X A m
    let w := r.2.2.1
    let e := if r.2.2.2 = 0 ∧ numL w = 0 then 42 else r.2.2.2
    if e = 0 then
      let s := if !m.src && !mkL w then m.next else 0
      let d := beyond (numL w)
      (r.1, r.2.1, { m with src := false, next := numL w, slot := s, ended := d, code := if d && m.whole && decide (numL w ≠ last m.bucket) then 43 else m.code }, d || decide (s ≠ 0))
    else (r.1, r.2.1, { m with slot := 0, ended := true, code := e }, true)

/-- a Remove; at_: 0 done, 1 own, 2 mark, 3 search, 4 look, 5 unlink -/
structure MR where
  bucket : Int
  slot : Int
  at_ : Nat
  word : Int
  ahead : Int
  now : Int
  code : Int
  marked : Bool
  helped : Int
def MR.over (m : MR) (e : Int) : MR := { m with at_ := 0, code := e }
def newR (b s : Int) : MR := ⟨b, s, 1, 0, 0, 0, 0, false, 0⟩
/-- the slot n is the present one -/
def MR.come (m : MR) (n : Int) : MR × Bool := if beyond n then ({ m with now := n }.over 0, true) else ({ m with now := n, at_ := 4 }, false)
def stepR (X : CI) (A : Ars) (m : MR) : CI × Ars × MR × Bool :=
  match m.at_ with
  | 0 => (X, A, m, true)
  | 1 =>
    if X.has m.bucket then
      let r := ldA A m.slot X.cell
      if r.2.2 = 0 then
        (if r.2.1 = 0 then (X, r.1, m.over 42, true) else if mkL r.2.1 then (X, r.1, { m with at_ := 3 }, false) else (X, r.1, { m with at_ := 2, word := r.2.1 }, false))
      else (X, r.1, m.over r.2.2, true)
    else (X, A, m.over 40, true)
  | 2 =>
    let r := casA A m.slot X.cell m.word (m.word + 1)
    if r.2.2 = 0 then (if r.2.1 then (X, r.1, { m with at_ := 3, marked := true }, false) else (X, r.1, { m with at_ := 1 }, false)) else (X, r.1, m.over r.2.2, true)
  | 3 => let c := { m with ahead := 0 }.come (numL (X.head m.bucket)); (X.tick, A, c.1, c.2)
  | 4 =>
    let r := ldA A m.now X.cell
    if r.2.2 = 0 then
      (if numL r.2.1 = 0 then (X, r.1, m.over 42, true)
       else if mkL r.2.1 then (X, r.1, { m with at_ := 5, word := r.2.1 }, false)
       else let c := { m with ahead := m.now }.come (numL r.2.1); (X, r.1, c.1, c.2))
    else (X, r.1, m.over r.2.2, true)
  | _ =>
    let r := swA X A m.bucket m.ahead (lk m.now) (lk (numL m.word))
    if r.2.2.2 = 0 then
      (if r.2.2.1 then
        (if m.now = m.slot then (r.1, r.2.1, m.over 0, true) else let c := { m with helped := wrap64 (m.helped + 1) }.come (numL m.word); (r.1, r.2.1, c.1, c.2))
       else (r.1, r.2.1, { m with at_ := 3 }, false))
    else (r.1, r.2.1, m.over r.2.2.2, true)

/-- the slots of a bucket as they are linked, and which of them are marked: so many at most -/
def rowA (X : CI) (A : Ars) : Nat → Int → List (Int × Bool)
  | 0, _ => []
  | k + 1, n =>
    if n ≠ 0 ∧ beyond n = false ∧ inUseB A n = true then (n, mkL (wordA A n X.cell)) :: rowA X A k (numL (wordA A n X.cell)) else []
def rowX (X : CI) (A : Ars) (b : Int) : List (Int × Bool) := rowA X A 4096 (numL (X.head b))
def listX (X : CI) (A : Ars) (b : Int) : List Int × Int := if X.has b then (((rowX X A b).filter fun p => !p.2).map Prod.fst, 0) else ([], 40)
def heldX (X : CI) (A : Ars) (b : Int) : Int × Int := if X.has b then ((rowX X A b).length, 0) else (0, 40)
end Go.Proofs.YtgagiggljlikbaaGreat.Ch
