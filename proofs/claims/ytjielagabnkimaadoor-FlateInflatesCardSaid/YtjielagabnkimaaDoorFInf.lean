/- What is read, as a function of the bits. -/
import Derived.Test.YtjielagabnkimaaDoorFCode
namespace Go.Proofs.YtjielagabnkimaaDoor
def takeB (n : Nat) (r : List Bool) : Except Nat (Nat × List Bool) := if n ≤ r.length then .ok (num (r.take n), r.drop n) else .error 2
def ordT : List Nat := [16, 17, 18, 0, 8, 7, 9, 6, 10, 5, 11, 4, 12, 3, 13, 2, 14, 1, 15]
/-- the lengths of the code of lengths, from place i on -/
def shortGo : Nat → Nat → List Nat → List Bool → Except Nat (List Nat × List Bool)
  | 0, _, l, r => .ok (l, r)
  | f + 1, i, l, r => match takeB 3 r with
    | .error e => .error e
    | .ok (x, r1) => shortGo f (i + 1) (l.set (ordT.getD i 0) x) r1
/-- one symbol of the code of lengths: how often, what, what is left -/
def lenOne (short l : List Nat) (r : List Bool) : Except Nat (Nat × Nat × List Bool) := match symP short r with
  | .error e => .error e
  | .ok (x, r1) =>
    if x = 16 then match takeB 2 r1 with
      | .error e => .error e
      | .ok (t, r2) => if l.length = 0 then .error 4 else .ok (3 + t, l.getD (l.length - 1) 0, r2)
    else if x = 17 then match takeB 3 r1 with
      | .error e => .error e
      | .ok (t, r2) => .ok (3 + t, 0, r2)
    else if x = 18 then match takeB 7 r1 with
      | .error e => .error e
      | .ok (t, r2) => .ok (11 + t, 0, r2)
    else .ok (1, x, r1)
def lensGo (short : List Nat) (many : Nat) : Nat → List Nat → List Bool → Except Nat (List Nat × List Bool)
  | 0, l, r => .ok (l, r)
  | f + 1, l, r => if l.length < many then match lenOne short l r with
      | .error e => .error e
      | .ok (t, x, r1) => if many - l.length < t then .error 4 else lensGo short many f (l ++ List.replicate t x) r1
    else .ok (l, r)
/-- are these codes refused? -/
def badCodes (l : List Nat) (a : Nat) : Bool := l.getD 256 0 == 0 || kraft (l.take a) != 32768 || (kraft (l.drop a) != 32768 && decide (0 < (symsN (l.drop a)).length) && !((symsN (l.drop a)).length == 1 && cntN (l.drop a) 1 == 1))
/-- the codes of a block -/
def codesP (r : List Bool) : Except Nat (List Nat × List Nat × List Bool) := match takeB 5 r with
  | .error e => .error e
  | .ok (x, r1) => match takeB 5 r1 with
    | .error e => .error e
    | .ok (y, r2) => match takeB 4 r2 with
      | .error e => .error e
      | .ok (z, r3) => if 286 < 257 + x ∨ 30 < 1 + y then .error 4 else match shortGo (4 + z) 0 (List.replicate 19 0) r3 with
        | .error e => .error e
        | .ok (short, r4) => if kraft short ≠ 32768 then .error 4 else match lensGo short (257 + x + (1 + y)) (257 + x + (1 + y) + 1) [] r4 with
          | .error e => .error e
          | .ok (l, r5) => if badCodes l (257 + x) then .error 4 else .ok (l.take (257 + x), l.drop (257 + x), r5)
def storedGo (most : Int) : Nat → List UInt8 → List Bool → Except Nat (List UInt8 × List Bool)
  | 0, out, r => .ok (out, r)
  | f + 1, out, r => if most ≤ (out.length : Int) then .error 5 else match takeB 8 r with
    | .error e => .error e
    | .ok (x, r1) => storedGo most f (out ++ [UInt8.ofNat x]) r1
def storedB (most : Int) (out : List UInt8) (r : List Bool) : Except Nat (List UInt8 × List Bool) := match takeB 16 (r.drop (r.length % 8)) with
  | .error e => .error e
  | .ok (n, r1) => match takeB 16 r1 with
    | .error e => .error e
    | .ok (m, r2) => if n ^^^ m ≠ 65535 then .error 4 else storedGo most n out r2
/-- n bytes from d back -/
def copyN (d : Nat) : Nat → List UInt8 → List UInt8
  | 0, out => out
  | n + 1, out => copyN d n (out ++ [out.getD (out.length - d) 0])
/-- one symbol of a block: nothing more, or what there is then -/
def blockOne (most : Int) (la lb : List Nat) (out : List UInt8) (r : List Bool) : Except Nat (Option (List UInt8) × List Bool) := match symP la r with
  | .error e => .error e
  | .ok (x, r1) =>
    if x = 256 then .ok (none, r1)
    else if x < 256 then (if most ≤ (out.length : Int) then .error 5 else .ok (some (out ++ [UInt8.ofNat x]), r1))
    else if 285 < x then .error 4
    else match takeB (lensT.getD (x - 257) (0, 0)).2 r1 with
      | .error e => .error e
      | .ok (t, r2) => match symP lb r2 with
        | .error e => .error e
        | .ok (y, r3) => if 29 < y then .error 4 else match takeB (distT.getD y (0, 0)).2 r3 with
          | .error e => .error e
          | .ok (u, r4) =>
            if out.length < (distT.getD y (0, 0)).1 + u then .error 4
            else if most - (out.length : Int) < (((lensT.getD (x - 257) (0, 0)).1 + t : Nat) : Int) then .error 5
            else .ok (some (copyN ((distT.getD y (0, 0)).1 + u) ((lensT.getD (x - 257) (0, 0)).1 + t) out), r4)
def blockGo (most : Int) (la lb : List Nat) : Nat → List UInt8 → List Bool → Except Nat (List UInt8 × List Bool)
  | 0, out, r => .ok (out, r)
  | f + 1, out, r => match blockOne most la lb out r with
    | .error e => .error e
    | .ok (none, r1) => .ok (out, r1)
    | .ok (some out1, r1) => blockGo most la lb f out1 r1
/-- one block: is it the last one? -/
def inflOne (most : Int) (out : List UInt8) (r : List Bool) : Except Nat (Bool × List UInt8 × List Bool) := match takeB 1 r with
  | .error e => .error e
  | .ok (l, r1) => match takeB 2 r1 with
    | .error e => .error e
    | .ok (k, r2) =>
      if k = 0 then match storedB most out r2 with
        | .error e => .error e
        | .ok (o, r3) => .ok (l == 1, o, r3)
      else if k = 1 then match blockGo most ((List.range 288).map (fun i => if i < 144 then 8 else if i < 256 then 9 else if i < 280 then 7 else 8)) (List.replicate 32 5) (r2.length + 1) out r2 with
        | .error e => .error e
        | .ok (o, r3) => .ok (l == 1, o, r3)
      else if k = 2 then match codesP r2 with
        | .error e => .error e
        | .ok (la, lb, r3) => match blockGo most la lb (r3.length + 1) out r3 with
          | .error e => .error e
          | .ok (o, r4) => .ok (l == 1, o, r4)
      else .error 4
def inflGo (most : Int) : Nat → List UInt8 → List Bool → Except Nat (List UInt8 × List Bool)
  | 0, out, r => .ok (out, r)
  | f + 1, out, r => match inflOne most out r with
    | .error e => .error e
    | .ok (true, o, r1) => .ok (o, r1)
    | .ok (false, o, r1) => inflGo most f o r1
/-- what comes, how many bytes that takes -/
def inflP (s : List UInt8) (most : Int) : Except Nat (List UInt8 × Nat) := match inflGo most (8 * s.length + 1) [] (bitsOf s) with
  | .error e => .error e
  | .ok (o, r) => .ok (o, s.length - r.length / 8)
end Go.Proofs.YtjielagabnkimaaDoor
