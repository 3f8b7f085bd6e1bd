/-
  What the functions of package ascii compute, in plain Lean: no program here.
  No condition.
-/
import Derived.Test.YtilpaopkhghicaaDoorBase
namespace Go.Proofs.YtilpaopkhghicaaDoor.Asc
open Go.Proofs.YtilpaopkhghicaaDoor.Pb

def lowerB (c : UInt8) : UInt8 := if 65 ≤ c.toNat ∧ c.toNat ≤ 90 then c + 32 else c
def lower (l : List UInt8) : List UInt8 := l.map lowerB
def isDig (c : UInt8) : Bool := decide (48 ≤ c.toNat) && decide (c.toNat ≤ 57)
def isLet (c : UInt8) : Bool := (decide (97 ≤ c.toNat) && decide (c.toNat ≤ 122)) || (decide (65 ≤ c.toNat) && decide (c.toNat ≤ 90))
/-- !#$%&'*+-.^_|~` -/
def marks : List UInt8 := [33, 35, 36, 37, 38, 39, 42, 43, 45, 46, 94, 95, 124, 126, 96]
def hasB (l : List UInt8) (c : UInt8) : Bool := l.contains c
def isTok (c : UInt8) : Bool := isLet c || isDig c || hasB marks c
def token (l : List UInt8) : Bool := !l.isEmpty && l.all isTok
def isTB (c : UInt8) : Bool := c.toNat == 32 || c.toNat == 9
def isBlank (c : UInt8) : Bool := c.toNat == 9 || c.toNat == 10 || c.toNat == 12 || c.toNat == 13 || c.toNat == 32
def trimL (l : List UInt8) : List UInt8 := l.dropWhile isTB
def trimR (l : List UInt8) : List UInt8 := (l.reverse.dropWhile isTB).reverse
def trim (l : List UInt8) : List UInt8 := trimL (trimR l)

/-- a part of a text -/
def cut (s : List UInt8) (a b : Nat) : List UInt8 := (s.take b).drop a

/-- what stands between blanks: the words so far, and where the open one begins -/
def blSt (s : List UInt8) : Nat → List (List UInt8) × Option Nat
  | 0 => ([], none)
  | k + 1 =>
    let st := blSt s k
    let blank := (s[k]?.map isBlank).getD true
    match st.2 with
    | none => if blank then st else (st.1, some k)
    | some f => if blank then (st.1 ++ [cut s f k], none) else st
def blanks (s : List UInt8) : List (List UInt8) := (blSt s (s.length + 1)).1

def spSt (s : List UInt8) (sep : UInt8) : Nat → List (List UInt8) × Nat
  | 0 => ([], 0)
  | k + 1 => if s[k]? = some sep then ((spSt s sep k).1 ++ [cut s (spSt s sep k).2 k], k + 1) else spSt s sep k
def split (s : List UInt8) (sep : UInt8) : List (List UInt8) := (spSt s sep s.length).1 ++ [s.drop (spSt s sep s.length).2]

/-- a number's digits, read -/
def numOf (l : List UInt8) : Int := l.foldl (fun n c => 10 * n + ((c.toNat : Int) - 48)) 0
def number (s : List UInt8) (max : Int) : Int × Bool :=
  if s.isEmpty || decide ((s.length : Int) > min max 18) || (decide (s[0]? = some 48) && decide (s.length > 1)) || !s.all isDig then (0, false) else (numOf s, true)

/-- the digits of a number that is not 0, the last one first -/
def digs : Nat → Nat → List UInt8
  | 0, _ => []
  | k + 1, n => if n = 0 then [] else UInt8.ofNat (48 + n % 10) :: digs k (n / 10)
def decimal (n : Int) : List UInt8 :=
  (if n < 0 then [45] else []) ++ (UInt8.ofNat (48 + n.natAbs % 10) :: digs 20 (n.natAbs / 10)).reverse

theorem extract_cut (s : ByteArray) (a b : Nat) : s.extract a b = ofL (cut (toL s) a b) := by
  apply toL_inj
  rw [toL_ofL]
  show (s.extract a b).data.toList = _
  rw [ByteArray.data_extract, Array.toList_extract, List.extract_eq_take_drop]
  show _ = List.drop a (List.take b s.data.toList)
  rw [List.drop_take]

theorem getD_toL (s : ByteArray) (k : Nat) (h : k < s.size) : (toL s)[k]? = some s[k] := by
  rw [List.getElem?_eq_getElem (by rw [toL_len]; exact h)]; rfl
end Go.Proofs.YtilpaopkhghicaaDoor.Asc
