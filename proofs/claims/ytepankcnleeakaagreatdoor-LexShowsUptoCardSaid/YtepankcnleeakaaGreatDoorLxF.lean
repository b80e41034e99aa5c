/- What the lexer reads of any source: as one function. -/
import Derived.Test.YtepankcnleeakaaGreatDoorLxD
import Derived.Test.YtepankcnleeakaaGreatDoorTyA
namespace Go.Proofs.YtepankcnleeakaaGreatDoor.Ab
open Go
structure LTok where
  k : Int
  s : List UInt8
  n : Int
  p : Int
  deriving DecidableEq
def LTok.cells (t : LTok) : List SV := tokC t.k t.s t.n t.p
def digB (c : UInt8) : Bool := decide (48 ≤ c.toNat) && decide (c.toNat ≤ 57)
def letB (c : UInt8) : Bool := ((decide (97 ≤ c.toNat) && decide (c.toNat ≤ 122)) || (decide (65 ≤ c.toNat) && decide (c.toNat ≤ 90))) || decide (c.toNat = 95)
def ldB (c : UInt8) : Bool := letB c || digB c
def lookF (s : List UInt8) (i k : Nat) : UInt8 := (s[i + k]?).getD 0
def runF (p : UInt8 → Bool) (s : List UInt8) (i : Nat) : List UInt8 := (s.drop i).takeWhile p
def unitsL : List (List UInt8 × Nat) := [([109, 115], 1), ([115], 1000), ([109], 60000), ([104], 3600000), ([100], 86400000)]
def unitOf (s : List UInt8) (i : Nat) : List (List UInt8 × Nat) → Nat × Nat
  | [] => (0, 0)
  | (u, n) :: l => if u.isPrefixOf (s.drop i) && !letB (lookF s i u.length) && !digB (lookF s i u.length) then (n, u.length) else unitOf s i l
def unitF (s : List UInt8) (i : Nat) : Nat × Nat := unitOf s i unitsL
def valF (d : List UInt8) : Nat := d.foldl (fun n c => n * 10 + (c.toNat - 48)) 0
def mostN : Nat := 9223372036854775807
def fst1 (a b : Option Int) : Option Int := match a with
  | some e => some e
  | none => b
def numF (s : List UInt8) (i : Nat) : LTok × Nat × Option Int :=
  let d := runF digB s i
  let j := i + d.length
  let e1 : Option Int := if 1 < d.length ∧ s[i]? = some 48 then some 50 else none
  let u := unitF s j
  if 0 < u.2 then (⟨7, [], valF d * u.1, i⟩, j + u.2, fst1 e1 (if mostN < valF d ∨ 1099511627776 / u.1 < valF d then some 51 else none))
  else if lookF s j 0 = 46 ∧ digB (lookF s j 1) = true then
    let f := runF digB s (j + 1)
    let m := j + 1 + f.length
    if 4 < f.length ∨ letB (lookF s m 0) = true then (⟨4, [], 0, i⟩, m, fst1 e1 (some 50))
    else
      let x := valF (d ++ f ++ List.replicate (4 - f.length) 48)
      (⟨4, [], x, i⟩, m, fst1 e1 (if mostN < x then some 51 else none))
  else (⟨3, [], valF d, i⟩, j, fst1 e1 (fst1 (if letB (lookF s j 0) = true then some 50 else none) (if mostN < valF d then some 51 else none)))
def bodyF (s : List UInt8) : Nat → Nat → List UInt8 → Option (List UInt8 × Nat)
  | 0, _, _ => none
  | f + 1, i, out => match s[i]? with
    | none => none
    | some c => if c = 39 then (if s[i + 1]? = some 39 then bodyF s f (i + 2) (out ++ [39]) else some (out, i + 1)) else bodyF s f (i + 1) (out ++ [c])
def signsL : List (List UInt8) := [[60, 61], [62, 61], [33, 61], [45, 62], [60], [62], [61], [43], [45], [42], [47], [37], [40], [41], [44], [46], [59], [91], [93], [35]]
def signF (s : List UInt8) (i : Nat) : Option (List UInt8) := signsL.find? fun x => x.isPrefixOf (s.drop i)
def findF (t s : List UInt8) : Nat → Nat → Option Nat
  | 0, _ => none
  | f + 1, i => if t.isPrefixOf (s.drop i) then some i else findF t s f (i + 1)
def skipF (s : List UInt8) : Nat → Nat → Nat × Bool
  | 0, i => (i, true)
  | f + 1, i => match s[i]? with
    | none => (i, true)
    | some c =>
      if c = 9 ∨ c = 10 ∨ c = 13 ∨ c = 32 then skipF s f (i + 1)
      else if [45, 45].isPrefixOf (s.drop i) then skipF s f (i + (runF (fun c => c != 10) s i).length)
      else if [47, 42].isPrefixOf (s.drop i) then match findF [42, 47] s (s.length + 1) (i + 2) with
        | some k => skipF s f (k + 2)
        | none => (i, false)
      else (i, true)
def textF (s : List UInt8) (i : Nat) : LTok × Nat × Option Int := match bodyF s (s.length + 1) (i + 1) [] with
  | some (x, j) => (⟨5, x, 0, i⟩, j, if 1024 < x.length ∨ Lib.validD x = false then some 52 else none)
  | none => (⟨5, [], 0, i⟩, i, some 52)
def tokF (s : List UInt8) (i : Nat) : LTok × Nat × Option Int :=
  let c := lookF s i 0
  if letB c then
    let x := runF ldB s i
    (if low x ∈ wordsL then ⟨2, low x, 0, i⟩ else ⟨1, x, 0, i⟩, i + x.length, none)
  else if digB c then numF s i
  else if c = 39 then textF s i
  else match signF s i with
    | some x => (⟨6, x, 0, i⟩, i + x.length, none)
    | none => (⟨0, [], 0, 0⟩, i, some 50)
def lexF (s : List UInt8) : Nat → Nat → List LTok → List LTok × Int × Int
  | 0, _, l => (l, 0, 0)
  | f + 1, i, l => match skipF s (s.length + 1) i with
    | (j, false) => ([], j, 50)
    | (j, true) => if s.length ≤ j then (l, 0, 0) else match tokF s j with
      | (t, k, none) => lexF s f k (l ++ [t])
      | (_, _, some e) => ([], j, e)
end Go.Proofs.YtepankcnleeakaaGreatDoor.Ab
