/- What lex reads, in plain words: bytes' kinds, runs, remarks, lexemes, and all of a text (lists of bytes; no program in sight). -/
import Derived.Lib.IndexLaws
namespace Go.Proofs.YtnidkdjapieinaaDoor

def smallN (n : Nat) : Bool := (Nat.ble 97 n && Nat.ble n 122) || Nat.beq n 95
def capN (n : Nat) : Bool := Nat.ble 65 n && Nat.ble n 90
def digN (n : Nat) : Bool := Nat.ble 48 n && Nat.ble n 57
def nameN (n : Nat) : Bool := smallN n || capN n || digN n || Nat.beq n 39
def blankN (n : Nat) : Bool := Nat.beq n 32 || Nat.beq n 9 || Nat.beq n 10
def symL : List Nat := [33, 35, 36, 37, 38, 42, 43, 46, 47, 60, 61, 62, 63, 64, 92, 94, 124, 45, 126, 58]
def inL (n : Nat) : List Nat → Bool
  | [] => false
  | m :: l => Nat.beq n m || inL n l
def symN (n : Nat) : Bool := inL n symL
def markN (n : Nat) : Bool := inL n [40, 41, 91, 93, 44, 59, 96, 123, 125]
/-- A hexadecimal digit's value; 16: it is none. -/
def hexV (n : Nat) : Nat := if digN n then n - 48 else if Nat.ble 97 n && Nat.ble n 102 then n - 87 else if Nat.ble 65 n && Nat.ble n 70 then n - 55 else 16
def hexI (n : Nat) : Int := if digN n then Int.ofNat (n - 48) else if Nat.ble 97 n && Nat.ble n 102 then Int.ofNat (n - 87) else if Nat.ble 65 n && Nat.ble n 70 then Int.ofNat (n - 55) else -1
def hexN (n : Nat) : Bool := digN n || (Nat.ble 97 n && Nat.ble n 102) || (Nat.ble 65 n && Nat.ble n 70)

def by1 (p : Nat → Bool) (c : UInt8) : Bool := p c.toNat
/-- How many bytes at the beginning are such. -/
def spanB (p : Nat → Bool) : List UInt8 → Nat
  | [] => 0
  | c :: l => if p c.toNat then spanB p l + 1 else 0

def dashes : List UInt8 → Bool
  | [] => true
  | c :: l => c.toNat == 45 && dashes l
/-- A remark in braces, from its i-th byte on, d deep: where it ends. -/
def nestGo : Nat → List UInt8 → Int → Nat → Int
  | 0, _, _, _ => -1
  | _ + 1, [], _, _ => -1
  | _ + 1, [_], _, _ => -1
  | f + 1, a :: b :: l, d, i =>
    if a = 123 ∧ b = 45 then nestGo f l (d + 1) (i + 2)
    else if a = 45 ∧ b = 125 then (if d - 1 = 0 then ((i + 2 : Nat) : Int) else nestGo f l (d - 1) (i + 2))
    else nestGo f (b :: l) d (i + 1)
def remarkK (l : List UInt8) : Int :=
  if 2 ≤ spanB symN l ∧ dashes (l.take (spanB symN l)) = true then (spanB (fun n => !Nat.beq n 10) l : Nat)
  else if l.take 2 = [123, 45] then nestGo l.length l 0 0 else 0

/-- Digits of a base: none if they are too great. -/
def wholeGo (base : Nat) : List UInt8 → Nat → Option Nat
  | [], x => some x
  | c :: l, x => if (9223372036854775807 - hexV c.toNat) / base < x then none else wholeGo base l (x * base + hexV c.toNat)
def wholeK (base : Nat) (l : List UInt8) : Option Nat := wholeGo base l 0

/-- A token without its place. -/
structure Tk where
  kind : Nat
  text : List UInt8
  num : Nat
deriving DecidableEq

def wordsL : List (List UInt8) := [[99, 97, 115, 101], [100, 97, 116, 97], [100, 111], [101, 108, 115, 101], [105, 102], [105, 110], [105, 110, 102, 105, 120], [105, 110, 102, 105, 120, 108], [105, 110, 102, 105, 120, 114], [108, 101, 116], [111, 102], [116, 104, 101, 110], [119, 104, 101, 114, 101], [95]]
def signsL : List (List UInt8) := [[46, 46], [61], [92], [124], [60, 45], [45, 62], [64], [126]]

/-- What a lexeme finder answers: no such kind; none though it begins so; a token and its length. -/
inductive Fd where
  | no
  | bad
  | tok (t : Tk) (n : Nat)
deriving DecidableEq

def charK (l : List UInt8) (q : Nat) : Option (Nat × Nat) := match l with
  | [] => none
  | a :: l =>
    if a.toNat < 32 ∨ 126 < a.toNat ∨ a.toNat = q then none
    else if a.toNat ≠ 92 then some (a.toNat, 1)
    else match l with
      | [] => none
      | b :: r =>
        if b.toNat = 110 then some (10, 2) else if b.toNat = 116 then some (9, 2)
        else if b.toNat = 92 ∨ b.toNat = 39 ∨ b.toNat = 34 then some (b.toNat, 2)
        else if b.toNat = 120 then
          (if spanB hexN r = 0 then none else match wholeK 16 (r.take (spanB hexN r)) with
            | none => none
            | some x => if 255 < x then none else some (x, 2 + spanB hexN r))
        else (if spanB digN (b :: r) = 0 then none else match wholeK 10 ((b :: r).take (spanB digN (b :: r))) with
            | none => none
            | some x => if 255 < x then none else some (x, 1 + spanB digN (b :: r)))
def gapK (l : List UInt8) : Nat := match l with
  | a :: r =>
    if a.toNat = 92 then (match r with
      | [] => 0
      | b :: _ => if b.toNat = 38 then 2 else if spanB blankN r = 0 then 0 else match r.drop (spanB blankN r) with
        | c :: _ => if c.toNat = 92 then spanB blankN r + 2 else 0
        | [] => 0)
    else 0
  | [] => 0
def textGo : Nat → List UInt8 → List UInt8 → Nat → Fd
  | 0, _, _, _ => .bad
  | f + 1, l, b, i => match l with
    | [] => .bad
    | a :: r => if a.toNat = 34 then .tok ⟨7, b, 0⟩ (i + 1)
      else if gapK (a :: r) ≠ 0 then textGo f ((a :: r).drop (gapK (a :: r))) b (i + gapK (a :: r))
      else match charK (a :: r) 34 with
        | none => .bad
        | some (c, n) => textGo f ((a :: r).drop n) (b ++ [UInt8.ofNat c]) (i + n)
def nameK (l : List UInt8) : Fd := match l with
  | [] => .no
  | a :: _ => if smallN a.toNat then .tok ⟨if l.take (spanB nameN l) ∈ wordsL then 9 else 1, l.take (spanB nameN l), 0⟩ (spanB nameN l) else .no
def conK (l : List UInt8) : Fd := match l with
  | [] => .no
  | a :: _ => if capN a.toNat then .tok ⟨2, l.take (spanB nameN l), 0⟩ (spanB nameN l) else .no
def symbolK (l : List UInt8) : Fd := match l with
  | [] => .no
  | a :: _ => if spanB symN l = 0 then .no else .tok ⟨if a.toNat = 58 then 4 else if l.take (spanB symN l) ∈ signsL then 10 else 3, l.take (spanB symN l), 0⟩ (spanB symN l)
def fdNum (kind n : Nat) : Option Nat → Fd
  | none => .bad
  | some x => .tok ⟨kind, [], x⟩ n
def numberK (l : List UInt8) : Fd := match l with
  | [] => .no
  | a :: _ => if digN a.toNat then
      (if l.take 2 = [48, 120] ∧ 0 < spanB hexN (l.drop 2) then fdNum 5 (2 + spanB hexN (l.drop 2)) (wholeK 16 ((l.drop 2).take (spanB hexN (l.drop 2))))
       else fdNum 5 (spanB digN l) (wholeK 10 (l.take (spanB digN l))))
    else .no
def charTK (l : List UInt8) : Fd := match l with
  | [] => .no
  | a :: r => if a.toNat = 39 then (match charK r 39 with
      | none => .bad
      | some (c, n) => match r.drop n with
        | [] => .bad
        | b :: _ => if b.toNat = 39 then .tok ⟨6, [], c⟩ (n + 2) else .bad)
    else .no
def textK (l : List UInt8) : Fd := match l with
  | [] => .no
  | a :: r => if a.toNat = 34 then textGo l.length r [] 1 else .no
def markK (l : List UInt8) : Fd := match l with
  | [] => .no
  | a :: _ => if markN a.toNat then .tok ⟨8, [a], 0⟩ 1 else .no
def Fd.or : Fd → Fd → Fd
  | .no, g => g
  | f, _ => f
def oneK (l : List UInt8) : Fd := (nameK l).or ((conK l).or ((symbolK l).or ((numberK l).or ((charTK l).or ((textK l).or (markK l))))))

/-- Line and column behind a byte. -/
def overB (p : Nat × Nat) (c : UInt8) : Nat × Nat :=
  if c.toNat = 10 then (p.1 + 1, 1) else if c.toNat = 9 then (p.1, p.2 + (8 - (p.2 - 1) % 8)) else (p.1, p.2 + 1)
def overL (p : Nat × Nat) (l : List UInt8) : Nat × Nat := l.foldl overB p

/-- One step of All: blanks or a remark gone over; a token; a fault. -/
inductive St1 where
  | skip (n : Nat)
  | tok (t : Tk) (n : Nat)
  | bad
deriving DecidableEq
def step1 (l : List UInt8) : St1 :=
  if 0 < spanB blankN l then .skip (spanB blankN l)
  else if 0 < remarkK l then .skip (remarkK l).toNat
  else if remarkK l < 0 then .bad
  else match oneK l with
    | .tok t n => .tok t n
    | _ => .bad

/-- A token with its place. -/
structure Tp where
  t : Tk
  at_ : Nat
  line : Nat
  col : Nat
  first : Bool
deriving DecidableEq
def allGo : Nat → List UInt8 → Nat → Nat × Nat → Nat → List Tp → Except Nat (List Tp)
  | 0, _, _, _, _, out => .ok out
  | f + 1, l, i, p, last, out => match l with
    | [] => .ok out
    | a :: r => match step1 (a :: r) with
      | .bad => .error i
      | .skip n => allGo f ((a :: r).drop n) (i + n) (overL p ((a :: r).take n)) last out
      | .tok t n => allGo f ((a :: r).drop n) (i + n) (overL p ((a :: r).take n)) p.1 (out ++ [⟨t, i, p.1, p.2, p.1 != last⟩])
def allK (l : List UInt8) : Except Nat (List Tp) := allGo l.length l 0 (1, 1) 0 []

end Go.Proofs.YtnidkdjapieinaaDoor
