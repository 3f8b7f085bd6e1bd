/-
  What the functions of package http compute, in plain Lean: no program here.
  No condition.
-/
import Derived.Test.YtaihjnicondifaaDoorHdrG
namespace Go.Proofs.YtaihjnicondifaaDoor.Asc
open Go Go.RowKit Go.Proofs.YtaihjnicondifaaDoor.Pb

/-- an Item -/
structure It where
  st : Int
  meth : List UInt8
  path : List UInt8
  flds : List Fd
  body : List UInt8
  close : Bool
deriving DecidableEq

/-- a parser -/
structure PS where
  line : List UInt8 := []
  cr : Bool := false
  head : Int := 0
  state : Int := 0
  meth : List UInt8 := []
  path : List UInt8 := []
  flds : List Fd := []
  digit : UInt8 := 0
  left : Int := 0
  body : List UInt8 := []
  sizes : Int := 0
  over : Bool := false
deriving DecidableEq

def badI (n : Int) : It := ⟨n, [], [], [], [], false⟩

/-- a line that has ended -/
structure Rd where
  ps : PS
  line : List UInt8
  ended : Bool
  st : Int

def readN (p : PS) (c : UInt8) : Rd :=
  if p.head + 1 > 65536 then ⟨{ p with head := p.head + 1 }, [], false, 431⟩
  else if p.cr && c == 10 then ⟨{ p with head := p.head + 1, line := [], cr := false }, p.line, true, 0⟩
  else if p.cr || c == 10 then ⟨{ p with head := p.head + 1 }, [], false, 400⟩
  else if c == 13 then ⟨{ p with head := p.head + 1, cr := true }, [], false, 0⟩
  else if p.line.length ≥ 8192 then ⟨{ p with head := p.head + 1 }, [], false, 431⟩
  else ⟨{ p with head := p.head + 1, line := p.line ++ [c] }, [], false, 0⟩

/-- "HTTP/1." -/
def httpB : List UInt8 := [72, 84, 84, 80, 47, 49, 46]
def firstOk (l : List UInt8) : Bool :=
  let r := (cutAt 32 l).2
  let t := (cutAt 32 r).1
  let v := (cutAt 32 r).2
  v.take 7 == httpB && token (cutAt 32 l).1 && (v.drop 7).length == 1 && (v.drop 7).all isDig && t.head? == some 47 && t.all (fun c => decide (33 ≤ c.toNat) && decide (c.toNat ≤ 126))
def firstN (p : PS) (l : List UInt8) : PS :=
  { p with meth := (cutAt 32 l).1, path := (cutAt 32 (cutAt 32 l).2).1, digit := ((cutAt 32 (cutAt 32 l).2).2.drop 7).headD 0 }

def fieldN (l : List UInt8) : Fd := ((cutAt 58 l).1, trim (cutAt 58 l).2)
def fieldOk (l : List UInt8) : Bool := l.contains 58 && valid (fieldN l).1 (fieldN l).2

def valsN (p : PS) (n : List UInt8) : List (List UInt8) := values p.flds [n]
def oldN (p : PS) : Bool := p.digit == 48

/-- "host", "transfer-encoding", "content-length", "connection", "chunked", "close", "keep-alive" -/
def hostB : List UInt8 := [104, 111, 115, 116]
def codingB : List UInt8 := [116, 114, 97, 110, 115, 102, 101, 114, 45, 101, 110, 99, 111, 100, 105, 110, 103]
def lengthB : List UInt8 := [99, 111, 110, 116, 101, 110, 116, 45, 108, 101, 110, 103, 116, 104]
def connB : List UInt8 := [99, 111, 110, 110, 101, 99, 116, 105, 111, 110]
def chunkedB : List UInt8 := [99, 104, 117, 110, 107, 101, 100]
def closeB : List UInt8 := [99, 108, 111, 115, 101]
def keepB : List UInt8 := [107, 101, 101, 112, 45, 97, 108, 105, 118, 101]
def sameB (a b : List UInt8) : Bool := lower a == lower b

def zerosOff (l : List UInt8) : List UInt8 := l.dropWhile (· == 48)
/-- how long the body is, and a status -/
def lengthN (l : List (List UInt8)) : Int × Int :=
  match l with
  | [] => (0, 400)
  | x :: _ =>
    if !l.all (fun s => s == x && s.all isDig) then (0, 400)
    else if (zerosOff x).length > 9 then (0, 413)
    else if (number (zerosOff x) 9).1 > 1048576 then (0, 413)
    else ((number (zerosOff x) 9).1, 0)

def saysN (p : PS) (s : List UInt8) : Bool := (listOf (valsN p connB)).any fun v => sameB v s
def doneN (p : PS) : It := ⟨0, p.meth, p.path, p.flds, p.body, saysN p closeB || (oldN p && !saysN p keepB)⟩

/-- what the end of a head says: a status, or that the request is done, or chunks, or so many bytes -/
def headedN (p : PS) : PS × Option It :=
  let hosts := (valsN p hostB).length
  let coded := (valsN p codingB).length
  let sized := (valsN p lengthB).length
  let codings := listOf (valsN p codingB)
  let lengths := listOf (valsN p lengthB)
  if hosts > 1 || (hosts == 0 && !oldN p) then (p, some (badI 400))
  else if coded > 0 && sized > 0 then (p, some (badI 400))
  else if coded > 0 && (codings.length != 1 || !sameB (codings.headD []) chunkedB) then (p, some (badI 501))
  else if coded > 0 && oldN p then (p, some (badI 400))
  else if coded > 0 then ({ p with state := 3 }, none)
  else if sized == 0 then (p, some (doneN p))
  else if (lengthN lengths).2 != 0 then (p, some (badI (lengthN lengths).2))
  else if (lengthN lengths).1 == 0 then (p, some (doneN p))
  else ({ p with state := 2, left := (lengthN lengths).1 }, none)

def hexB : List UInt8 := [48, 49, 50, 51, 52, 53, 54, 55, 56, 57, 97, 98, 99, 100, 101, 102]
def hexN (c : UInt8) : Int := Lib.indexByte hexB (lowerB c)
def hexSum (l : List UInt8) : Int := l.foldl (fun n c => min (16 * n + hexN c) 2097152) 0
/-- what is read as a chunk's size -/
def sizeT (l : List UInt8) : List UInt8 := if l.contains 59 then trimR (cutAt 59 l).1 else l
def sizeN (p : PS) (l : List UInt8) : PS × Option It :=
  if (sizeT l).isEmpty then (p, some (badI 400))
  else if (sizeT l).any (fun c => decide (hexN c < 0)) then (p, some (badI 400))
  else if p.sizes + hexSum (sizeT l) > 1048576 then ({ p with sizes := p.sizes + hexSum (sizeT l) }, some (badI 413))
  else ({ p with sizes := p.sizes + hexSum (sizeT l), state := if hexSum (sizeT l) == 0 then 7 else 4, left := hexSum (sizeT l) }, none)

def endedN (p : PS) (l : List UInt8) : PS × Option It :=
  if p.state == 0 then
    if l.isEmpty then ({ p with head := 0 }, none)
    else if firstOk l then (firstN { p with state := 1 } l, none) else ({ p with state := 1 }, some (badI 400))
  else if p.state == 3 then sizeN p l
  else if l.isEmpty then if p.state == 7 then (p, some (doneN p)) else headedN p
  else if !fieldOk l then (p, some (badI 400))
  else if p.state == 1 then ({ p with flds := p.flds ++ [fieldN l] }, none) else (p, none)

def takeN (p : PS) (c : UInt8) : PS × Option It :=
  if p.state == 2 || p.state == 4 then
    let q := { p with body := p.body ++ [c], left := p.left - 1 }
    if p.left - 1 > 0 then (q, none)
    else if p.state == 2 then (q, some (doneN q)) else ({ q with state := 5 }, none)
  else if p.state == 5 then ({ p with state := 6 }, if c != 13 then some (badI 400) else none)
  else if p.state == 6 then ({ p with state := 3 }, if c != 10 then some (badI 400) else none)
  else if (readN p c).st != 0 then ((readN p c).ps, some (badI (readN p c).st))
  else if !(readN p c).ended then ((readN p c).ps, none)
  else endedN (readN p c).ps (readN p c).line

/-- one byte fed -/
def stepN (p : PS) (c : UInt8) : PS × List It :=
  if p.over then (p, [])
  else match takeN p c with
    | (q, none) => (q, [])
    | (q, some x) => if x.st == 0 then ({}, [x]) else ({ q with over := true }, [x])
def feedN (p : PS) (l : List UInt8) : PS × List It :=
  l.foldl (fun r c => ((stepN r.1 c).1, r.2 ++ (stepN r.1 c).2)) (p, [])

theorem fold_acc (l : List UInt8) : ∀ (p : PS) (a : List It), l.foldl (fun r c => ((stepN r.1 c).1, r.2 ++ (stepN r.1 c).2)) (p, a) = ((feedN p l).1, a ++ (feedN p l).2) := by
  induction l with
  | nil => intro p a; simp [feedN]
  | cons c l ih =>
    intro p a
    unfold feedN
    rw [List.foldl_cons, List.foldl_cons, ih, ih]
    simp
theorem feedN_nil (p : PS) : feedN p [] = (p, []) := rfl
theorem feedN_cons (p : PS) (c : UInt8) (l : List UInt8) : feedN p (c :: l) = ((feedN (stepN p c).1 l).1, (stepN p c).2 ++ (feedN (stepN p c).1 l).2) := by
  conv => lhs; unfold feedN
  rw [List.foldl_cons, fold_acc]
  simp
theorem feedN_app (a b : List UInt8) : ∀ p, feedN p (a ++ b) = ((feedN (feedN p a).1 b).1, (feedN p a).2 ++ (feedN (feedN p a).1 b).2) := by
  induction a with
  | nil => intro p; simp [feedN_nil]
  | cons c a ih => intro p; rw [List.cons_append, feedN_cons, feedN_cons, ih]; simp
theorem feedN_snoc (p : PS) (a : List UInt8) (c : UInt8) : feedN p (a ++ [c]) = ((stepN (feedN p a).1 c).1, (feedN p a).2 ++ (stepN (feedN p a).1 c).2) := by
  rw [feedN_app, feedN_cons, feedN_nil]; simp
theorem stepN_over (p : PS) (c : UInt8) (h : p.over = true) : stepN p c = (p, []) := by unfold stepN; rw [h]; rfl
theorem feedN_over (l : List UInt8) (p : PS) (h : p.over = true) : feedN p l = (p, []) := by
  induction l with
  | nil => rfl
  | cons c l ih => rw [feedN_cons, stepN_over p c h]; simp [ih]
end Go.Proofs.YtaihjnicondifaaDoor.Asc
