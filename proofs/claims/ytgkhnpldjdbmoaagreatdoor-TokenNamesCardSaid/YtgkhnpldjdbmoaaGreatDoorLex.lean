/- The plain laws of the tokens: what the program's layers 1 to 5 compute, on lists of bytes; no program in sight. -/
set_option linter.unusedVariables false
set_option linter.unusedSimpArgs false
namespace Go.Proofs.YtgkhnpldjdbmoaaGreatDoor

abbrev Bytes := List UInt8

/-! ### class -/
def isWhite (b : UInt8) : Bool := b == 0 || b == 9 || b == 10 || b == 12 || b == 13 || b == 32
def isDelim (b : UInt8) : Bool := b == 40 || b == 41 || b == 60 || b == 62 || b == 91 || b == 93 || b == 123 || b == 125 || b == 47 || b == 37
def isReg (b : UInt8) : Bool := !isWhite b && !isDelim b
def isDigit (b : UInt8) : Bool := 48 ≤ b && b ≤ 57
def hexv (b : UInt8) : Int :=
  if isDigit b then (b.toNat : Int) - 48 else if 65 ≤ b && b ≤ 70 then (b.toNat : Int) - 55 else if 97 ≤ b && b ≤ 102 then (b.toNat : Int) - 87 else -1
def eol : Bytes → Nat
  | [] => 0
  | [c] => if c == 10 || c == 13 then 1 else 0
  | c :: d :: _ => if c == 13 && d == 10 then 2 else if c == 10 || c == 13 then 1 else 0
def isEol (b : UInt8) : Bool := b == 10 || b == 13
def skipR : Bool → Bytes → Nat
  | _, [] => 0
  | false, b :: l => if isWhite b then 1 + skipR false l else if b == 37 then 1 + skipR true l else 0
  | true, b :: l => if isEol b then 1 + skipR false l else 1 + skipR true l
def skip (l : Bytes) : Nat := skipR false l
def run (l : Bytes) : Nat := (l.takeWhile isReg).length
def place (n : Nat) (at_ : Int) : Nat := if at_ < 0 then 0 else min at_.toNat n

/-! ### number -/
def sgn : Bytes → Bool × Bytes
  | [] => (false, [])
  | c :: l => if c == 45 then (true, l) else if c == 43 then (false, l) else (false, c :: l)
structure Parts where
  kind : Nat
  neg : Bool
  ahead : Bytes
  back : Bytes
  deriving DecidableEq
/-- What stands ahead of the first point, and behind it; whether there is one. -/
def dotA (l : Bytes) : Bytes := l.takeWhile (· != 46)
def dotB (l : Bytes) : Bytes := (l.dropWhile (· != 46)).drop 1
def dotP (l : Bytes) : Bool := l.any (· == 46)
/-- Are all bytes digits? -/
def allDig (l : Bytes) : Bool := l.all isDigit
def none2 (a b : Bytes) : Bool := (a ++ b).isEmpty
def cutN (l : Bytes) : Parts :=
  if allDig (dotA (sgn l).2) && allDig (dotB (sgn l).2) && !none2 (dotA (sgn l).2) (dotB (sgn l).2) then ⟨if dotP (sgn l).2 then 2 else 1, (sgn l).1, dotA (sgn l).2, dotB (sgn l).2⟩ else ⟨0, false, [], []⟩
def numKind (l : Bytes) : Nat := (cutN l).kind
def trimL (l : Bytes) : Bytes := l.dropWhile (· == 48)
def trimR (l : Bytes) : Bytes := (l.reverse.dropWhile (· == 48)).reverse
def decVal (l : Bytes) : Nat := l.foldl (fun n c => 10 * n + (c.toNat - 48)) 0
def numInt (l : Bytes) : Int × Nat :=
  let p := cutN l
  if p.kind ≠ 1 then (0, 7) else
  let a := trimL p.ahead
  if 10 < a.length then (0, 3) else
  let n := decVal a
  if 2147483647 < n then (0, 3) else
  if p.neg && !none2 a (trimR p.back) then (-(n : Int), 0) else ((n : Int), 0)
def orZero (l : Bytes) : Bytes := if l.isEmpty then [48] else l
def numReal (l : Bytes) : Bytes × Nat :=
  let p := cutN l
  if p.kind ≠ 2 then ([], 7) else
  if 64 < p.ahead.length + p.back.length then ([], 3) else
  let a := trimL p.ahead
  let b := trimR p.back
  if 64 < (orZero a).length + (orZero b).length then ([], 3) else
  ((if p.neg && !none2 a b then [45] else []) ++ orZero a ++ [46] ++ orZero b, 0)

/-! ### name -/
def escName (a b : UInt8) : Option UInt8 :=
  if 0 ≤ hexv a ∧ 0 ≤ hexv b ∧ 0 < hexv a + hexv b then some (UInt8.ofNat (16 * hexv a + hexv b).toNat) else none
def readN : Bytes → Bytes × Bool
  | [] => ([], true)
  | [c] => ([c], c != 35)
  | [c, d] => ([c, d], c != 35 && d != 35)
  | c :: d :: e :: l =>
    if c != 35 then let r := readN (d :: e :: l); (c :: r.1, r.2) else
    match escName d e with
    | some x => let r := readN l; (x :: r.1, r.2)
    | none => let r := readN (d :: e :: l); (35 :: r.1, false)
def nameStrict (l : Bytes) : Bytes × Nat :=
  if l.all isReg && (readN l).2 then (if 127 < (readN l).1.length then ([], 3) else ((readN l).1, 0)) else ([], 7)

/-! ### text -/
def isOctal (b : UInt8) : Bool := 48 ≤ b && b ≤ 55
def escLetter (c : UInt8) : Option UInt8 :=
  if c == 110 then some 10 else if c == 114 then some 13 else if c == 116 then some 9 else if c == 98 then some 8 else if c == 102 then some 12 else none
def octN : Nat → Nat → Bytes → Nat × Nat   -- what is left of three, the number so far; the number, how many
  | 0, n, _ => (n, 0)
  | _ + 1, n, [] => (n, 0)
  | k + 1, n, c :: l => if isOctal c then let r := octN k (8 * n + (c.toNat - 48)) l; (r.1, r.2 + 1) else (n, 0)
/-- What stands behind a backslash (not nothing): the bytes that it tells, how many it takes. -/
def escaped (l : Bytes) : Bytes × Nat :=
  if 0 < eol l then ([], eol l) else
  match l with
  | [] => ([], 1)
  | c :: _ =>
    if isOctal c then ([UInt8.ofNat ((octN 3 0 l).1 % 256)], (octN 3 0 l).2) else
    match escLetter c with
    | some x => ([x], 1)
    | none => ([c], 1)
inductive Res where
  | err (e : Nat)
  | ok (v : Bytes) (used : Nat)
  deriving DecidableEq
def Res.more (n : Nat) : Res → Res
  | .err e => .err e
  | .ok v u => .ok v (u + n)
/-- A literal behind its bracket. -/
def litGo : Nat → Nat → Bytes → Bytes → Res
  | 0, _, _, _ => .err 8
  | _ + 1, _, _, [] => .err 8
  | k + 1, open_, out, c :: l =>
    if c == 92 then (if l.isEmpty then .err 8 else (litGo k open_ (out ++ (escaped l).1) (l.drop (escaped l).2)).more (1 + (escaped l).2))
    else if isEol c then (litGo k open_ (out ++ [10]) ((c :: l).drop (eol (c :: l)))).more (eol (c :: l))
    else if c == 41 then (if open_ ≤ 1 then (if 65536 < out.length then .err 3 else .ok out 1) else (litGo k (open_ - 1) (out ++ [c]) l).more 1)
    else if c == 40 then (litGo k (open_ + 1) (out ++ [c]) l).more 1
    else (litGo k open_ (out ++ [c]) l).more 1
def literal (l : Bytes) : Res := (litGo l.length 1 [] l).more 1
/-- Hexadecimal digits behind <. -/
def hexDigits : Bytes → Res
  | [] => .err 8
  | c :: l =>
    if c == 62 then .ok [] 1
    else if isWhite c then (hexDigits l).more 1
    else if hexv c < 0 then .err 7
    else match hexDigits l with
      | .err e => .err e
      | .ok v u => .ok (UInt8.ofNat (hexv c).toNat :: v) (u + 1)
def pairs : Bytes → Bytes
  | [] => []
  | [a] => [16 * a]
  | a :: b :: l => (16 * a + b) :: pairs l
def hexStr (l : Bytes) : Res :=
  match hexDigits l with
  | .err e => .err e
  | .ok v u => if 65536 < (pairs v).length then .err 3 else .ok (pairs v) (u + 1)

/-! ### token -/
/-- A token without its places. -/
structure T where
  kind : Nat
  n : Int
  s : Bytes
  deriving DecidableEq
inductive Lexed where
  | err (e : Nat)
  | ok (t : T) (len : Nat)
  deriving DecidableEq
def plainT (w : Bytes) : T × Nat :=
  if numKind w = 1 then (⟨1, (numInt w).1, []⟩, (numInt w).2)
  else if numKind w = 2 then (⟨2, 0, (numReal w).1⟩, (numReal w).2)
  else (⟨9, 0, w⟩, if 127 < w.length then 3 else 0)
def lexed (t : T) (e : Nat) (len : Nat) : Lexed := if e = 0 then .ok t len else .err e
def ofRes : Res → Lexed
  | .err e => .err e
  | .ok v u => .ok ⟨4, 0, v⟩ u
/-- The token at the head of bytes that are not nothing, and begin with no white byte and no remark. -/
def lex : Bytes → Lexed
  | [] => .err 0
  | c :: l =>
    if c == 91 then .ok ⟨5, 0, []⟩ 1
    else if c == 93 then .ok ⟨6, 0, []⟩ 1
    else if c == 60 then (if l.head? == some 60 then .ok ⟨7, 0, []⟩ 2 else ofRes (hexStr l))
    else if c == 62 then (if l.head? == some 62 then .ok ⟨8, 0, []⟩ 2 else .err 7)
    else if c == 41 || c == 123 || c == 125 then .err 7
    else if c == 40 then ofRes (literal l)
    else if c == 47 then lexed ⟨3, 0, (nameStrict (l.takeWhile isReg)).1⟩ (nameStrict (l.takeWhile isReg)).2 (1 + run l)
    else lexed (plainT ((c :: l).takeWhile isReg)).1 (plainT ((c :: l).takeWhile isReg)).2 (run (c :: l))
/-- A token with its places. -/
structure Tok where
  t : T
  from_ : Nat
  to : Nat
  deriving DecidableEq
def nextAt (l : Bytes) (p : Nat) : Tok × Nat :=
  let a := p + skip (l.drop p)
  if a = l.length then (⟨⟨0, 0, []⟩, a, a⟩, 0) else
  match lex (l.drop a) with
  | .err e => (⟨⟨0, 0, []⟩, 0, 0⟩, e)
  | .ok t n => (⟨t, a, a + n⟩, 0)
def next (l : Bytes) (at_ : Int) : Tok × Nat := nextAt l (place l.length at_)
def allGo (l : Bytes) : Nat → Nat → List Tok → List Tok × Nat × Nat
  | 0, _, out => (out, 0, 0)
  | k + 1, p, out =>
    let r := nextAt l p
    if r.2 ≠ 0 then (out, p + skip (l.drop p), r.2)
    else if r.1.t.kind = 0 then (out, l.length, 0)
    else allGo l k r.1.to (out ++ [r.1])
def all (l : Bytes) : List Tok × Nat × Nat := allGo l (l.length + 1) 0 []
end Go.Proofs.YtgkhnpldjdbmoaaGreatDoor
