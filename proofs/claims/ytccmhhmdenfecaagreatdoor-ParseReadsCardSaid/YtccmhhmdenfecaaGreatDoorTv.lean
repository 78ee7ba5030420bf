/- A text as a value; a world by its name. The plain model of lex and of utf.Unquote: no program here. -/
import Derived.WalkKit
import Derived.ProofKit
import Derived.Lib.ParseIntBCases
import Derived.Lib.RuneBytes
import Derived.Lib.DecodeN
namespace Go.Proofs.YtccmhhmdenfecaaGreatDoor
set_option linter.unusedVariables false
set_option linter.unusedSimpArgs false
section
open Go.RowKit
def strV (l : List UInt8) : Value := .string ⟨l.toArray⟩
theorem wp_named {P : Program} {c : Code} {Q : Exit → Act → World → Prop} {a : Act} {W : World} (R : World → Prop) (hR : R W) (h : ∀ wn, R wn → c.wp P Q a wn) : c.wp P Q a W := h W hR
end
section
/-- What utf8.DecodeRuneInString finds at the start. -/
def decL (l : List UInt8) : Nat × Nat := if l = [] then (65533, 0) else Lib.decodeN l.length (l.getD 0 0).toNat (l.getD 1 0).toNat (l.getD 2 0).toNat (l.getD 3 0).toNat
def isU (l : List UInt8) : Bool := !(decide ((decL l).1 = 65533) && decide ((decL l).2 < 2))
/-- utf8.FullRuneInString. -/
def fullU (l : List UInt8) : Bool :=
  !(decide (l = [])) && (decide (Lib.firstT (l.getD 0 0).toNat % 8 ≤ l.length)
    || (decide (1 < l.length) && (decide ((l.getD 1 0).toNat < Lib.accLo (Lib.firstT (l.getD 0 0).toNat / 16)) || decide (Lib.accHi (Lib.firstT (l.getD 0 0).toNat / 16) < (l.getD 1 0).toNat)))
    || (decide (2 < l.length) && (decide ((l.getD 2 0).toNat < 128) || decide (191 < (l.getD 2 0).toNat))))
/-- The reader of a literal: state, text so far, bytes of an incomplete encoding, digits read, their value, first half. -/
structure UQ where
  st : Int
  out : List UInt8
  ru : List UInt8
  many : Int
  n : Int
  first : Int
/-- An errno, or the reader behind the byte. -/
abbrev QR := Except Int UQ
def hexV (c : UInt8) : Int := if 48 ≤ c.toNat ∧ c.toNat ≤ 57 then c.toNat - 48 else if 97 ≤ c.toNat ∧ c.toNat ≤ 102 then c.toNat - 87 else if 65 ≤ c.toNat ∧ c.toNat ≤ 70 then c.toNat - 55 else -1
def escV (c : UInt8) : Int := if c = 34 then 34 else if c = 92 then 92 else if c = 47 then 47 else if c = 98 then 8 else if c = 102 then 12 else if c = 110 then 10 else if c = 114 then 13 else if c = 116 then 9 else -1
def putQ (Q : UQ) (x : Int) : UQ := { Q with out := Q.out ++ Lib.encodeRune x, st := 1 }
def plainQ (Q : UQ) (c : UInt8) : QR :=
  if isU (Q.ru ++ [c]) = true then .ok { Q with out := Q.out ++ (Q.ru ++ [c]).take (decL (Q.ru ++ [c])).2, ru := [] }
  else if fullU (Q.ru ++ [c]) = true then .error 40 else .ok { Q with ru := Q.ru ++ [c] }
def beginQ (Q : UQ) (c : UInt8) : QR :=
  if Q.ru ≠ [] then plainQ Q c else if c = 34 then .ok { Q with st := 7 } else if c = 92 then .ok { Q with st := 2 } else if c.toNat < 32 then .error 41 else plainQ Q c
def escapeQ (Q : UQ) (c : UInt8) : QR :=
  if 0 ≤ escV c then .ok (putQ Q (escV c)) else if c = 117 then .ok { Q with st := 3, many := 0, n := 0 } else .error 41
/-- The value of the digits read, padded with zeros to four. -/
def padV (n many : Int) : Int := n * 16 ^ (4 - many).toNat
def lowB (n many : Int) : Bool := decide (1 < many) && (decide (56320 ≤ padV n many) && decide (padV n many < 57344))
def badD (st n many : Int) : Bool := (decide (st = 3) && lowB n many) || (decide (st = 6) && ((decide (many = 1) && !(decide (padV n many = 53248))) || (decide (1 < many) && !(lowB n many))))
def digitQ (Q : UQ) (c : UInt8) : QR :=
  if hexV c < 0 then .error 41
  else if badD Q.st (16 * Q.n + hexV c) (Q.many + 1) = true then .error 41
  else if Q.many + 1 < 4 then .ok { Q with n := 16 * Q.n + hexV c, many := Q.many + 1 }
  else if Q.st = 6 then .ok (putQ { Q with n := 16 * Q.n + hexV c, many := Q.many + 1 } (65536 + (Q.first - 55296) * 1024 + (16 * Q.n + hexV c) - 56320))
  else if 55296 ≤ 16 * Q.n + hexV c ∧ 16 * Q.n + hexV c < 56320 then .ok { Q with n := 16 * Q.n + hexV c, many := Q.many + 1, st := 4, first := 16 * Q.n + hexV c }
  else .ok (putQ { Q with n := 16 * Q.n + hexV c, many := Q.many + 1 } (16 * Q.n + hexV c))
def wantQ (Q : UQ) (c must : UInt8) (next : Int) : QR := if c = must then .ok { Q with st := next, many := 0, n := 0 } else .error 41
def takeQ (Q : UQ) (c : UInt8) : QR :=
  if Q.st = 0 then wantQ Q c 34 1 else if Q.st = 1 then beginQ Q c else if Q.st = 2 then escapeQ Q c else if Q.st = 4 then wantQ Q c 92 5 else if Q.st = 5 then wantQ Q c 117 6 else digitQ Q c
/-- Text, length, offset of the error, errno. -/
abbrev UR := List UInt8 × Int × Int × Int
def uqRun : UQ → Int → List UInt8 → UR
  | _, i, [] => ([], 0, i, 3)
  | Q, i, c :: l => match takeQ Q c with
    | .error e => ([], 0, i, e)
    | .ok Q' => if Q'.st = 7 then (Q'.out, i + 1, 0, 0) else uqRun Q' (i + 1) l
def uq0 : UQ := ⟨0, [], [], 0, 0, 0⟩
def unqM (l : List UInt8) : UR := uqRun uq0 0 l
/-- A token with its errno. -/
structure Tok where
  kind : Int
  from_ : Int
  to_ : Int
  n : Int
  u : Int
  text : List UInt8
deriving DecidableEq
abbrev TR := Tok × Int
def wrongT (a e : Int) : TR := (⟨0, a, a, 0, 0, []⟩, e)
def blankB (c : UInt8) : Bool := c == 32 || c == 9 || c == 10 || c == 13
def digB (c : UInt8) : Bool := decide (48 ≤ c.toNat) && decide (c.toNat ≤ 57)
def digs (l : List UInt8) : Nat := (l.takeWhile digB).length
def valU (l : List UInt8) : Nat := l.foldl (fun a c => 10 * a + (c.toNat - 48)) 0
/-- The fixed spelling that starts with a byte, and its kind. -/
def spellW (c : UInt8) : Option (List UInt8 × Int) :=
  if c = 123 then some ([123], 1) else if c = 125 then some ([125], 2) else if c = 91 then some ([91], 3) else if c = 93 then some ([93], 4) else if c = 44 then some ([44], 5) else if c = 58 then some ([58], 6)
  else if c = 110 then some ([110, 117, 108, 108], 7) else if c = 102 then some ([102, 97, 108, 115, 101], 8) else if c = 116 then some ([116, 114, 117, 101], 9) else none
def commonN : List UInt8 → List UInt8 → Nat
  | a :: w, b :: l => if a = b then commonN w l + 1 else 0
  | _, _ => 0
def wordM (w : List UInt8) (k : Int) (l : List UInt8) (a : Int) : TR := if commonN w l = w.length then (⟨k, a, a + w.length, 0, 0, []⟩, 0) else wrongT (a + commonN w l) 100
/-- Whether a list starts with a byte of a kind. -/
def headB (p : UInt8 → Bool) (l : List UInt8) : Bool := l.head?.any p
def signN (l : List UInt8) : Nat := if headB (· == 45) l then 1 else 0
def wholeN (l : List UInt8) : Nat := if headB (· == 48) l then 1 else digs l
/-- The length of a fraction, if its digits are there. -/
def expB (c : UInt8) : Bool := c == 101 || c == 69
def plusB (c : UInt8) : Bool := c == 43 || c == 45
/-- The value of a number's digits as a token. -/
def intT (neg : Bool) (u : Nat) (a b : Int) : TR :=
  if 2 ^ 64 ≤ u ∨ (neg = true ∧ 2 ^ 63 < u) then wrongT a 101
  else if neg = true then (⟨10, a, b, -u, 0, []⟩, 0) else if 2 ^ 63 ≤ u then (⟨11, a, b, 0, u, []⟩, 0) else (⟨10, a, b, u, 0, []⟩, 0)
/-- Behind the exponent's letter: where the digits begin. -/
def expN (l : List UInt8) : Nat := if headB plusB l then 1 else 0
/-- Behind the fraction (z bytes of the number are read; whether it has one). -/
def numE (neg : Bool) (u : Nat) (pt : Bool) (l : List UInt8) (z : Nat) (a : Int) : TR :=
  if headB expB l then
    (if digs ((l.drop 1).drop (expN (l.drop 1))) = 0 then wrongT (a + z + 1 + expN (l.drop 1)) 100 else wrongT a 101)
  else if pt then wrongT a 101 else intT neg u a (a + z)
/-- Behind the digits (z bytes of the number are read). -/
def numF (neg : Bool) (u : Nat) (l : List UInt8) (z : Nat) (a : Int) : TR :=
  if headB (· == 46) l then
    (if digs (l.drop 1) = 0 then wrongT (a + z + 1) 100 else numE neg u true ((l.drop 1).drop (digs (l.drop 1))) (z + 1 + digs (l.drop 1)) a)
  else numE neg u false l z a
def numM (l : List UInt8) (a : Int) : TR :=
  if wholeN (l.drop (signN l)) = 0 then wrongT (a + signN l) 100
  else numF (headB (· == 45) l) (valU ((l.drop (signN l)).take (wholeN (l.drop (signN l))))) ((l.drop (signN l)).drop (wholeN (l.drop (signN l)))) (signN l + wholeN (l.drop (signN l))) a
def litM (l : List UInt8) (a : Int) : TR := if (unqM l).2.2.2 ≠ 0 then wrongT (a + (unqM l).2.2.1) (unqM l).2.2.2 else (⟨12, a, a + (unqM l).2.1, 0, 0, (unqM l).1⟩, 0)
def tokM : List UInt8 → Int → TR
  | [], a => (⟨0, a, a, 0, 0, []⟩, 0)
  | c :: l, a => match spellW c with
    | some (w, k) => wordM w k (c :: l) a
    | none => if c = 34 then litM (c :: l) a else if c = 45 ∨ digB c = true then numM (c :: l) a else wrongT a 100
def blanksN (l : List UInt8) : Nat := (l.takeWhile blankB).length
def nextM (s : List UInt8) (at_ : Int) : TR :=
  if at_ < 0 ∨ s.length < at_ then wrongT 0 6 else tokM ((s.drop at_.toNat).drop (blanksN (s.drop at_.toNat))) (at_ + blanksN (s.drop at_.toNat))
def allN (s : List UInt8) : Nat → Int → List Tok → List Tok × Int × Int
  | 0, _, _ => ([], 0, -1)
  | f + 1, end_, acc => if (nextM s end_).2 ≠ 0 then ([], (nextM s end_).1.from_, (nextM s end_).2) else if (nextM s end_).1.kind = 0 then (acc, 0, 0) else allN s f (nextM s end_).1.to_ (acc ++ [(nextM s end_).1])
def allM (s : List UInt8) : List Tok × Int × Int := if 1048576 < s.length then ([], 0, 5) else allN s (s.length + 1) 0 []
end
end Go.Proofs.YtccmhhmdenfecaaGreatDoor
