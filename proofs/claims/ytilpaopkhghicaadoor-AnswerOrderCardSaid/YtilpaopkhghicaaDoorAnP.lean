/-
  What the functions of package answer compute, in plain Lean: no program here.
  No condition.
-/
import Derived.Test.YtilpaopkhghicaaDoorHdrC
namespace Go.Proofs.YtilpaopkhghicaaDoor.Asc
open Go Go.RowKit Go.Proofs.YtilpaopkhghicaaDoor.Pb

/-- a query -/
structure Qr where
  doc : List UInt8 := []
  url : List UInt8 := []
  dest : List UInt8 := []
  meth : List UInt8 := []
  cors : Bool := false
  creds : Bool := false
  redir : Int := 0
  hds : List Fd := []
deriving DecidableEq

/-- "url", "doc", "dest", "method", "cors", "creds", "redirect", "header", "GET" -/
def wUrl : List UInt8 := [117, 114, 108]
def wDoc : List UInt8 := [100, 111, 99]
def wDest : List UInt8 := [100, 101, 115, 116]
def wMethod : List UInt8 := [109, 101, 116, 104, 111, 100]
def wCors : List UInt8 := [99, 111, 114, 115]
def wCreds : List UInt8 := [99, 114, 101, 100, 115]
def wRedir : List UInt8 := [114, 101, 100, 105, 114, 101, 99, 116]
def wHeader : List UInt8 := [104, 101, 97, 100, 101, 114]
def wGet : List UInt8 := [71, 69, 84]

def graphic (l : List UInt8) : Bool := l.all (fun c => decide (33 ≤ c.toNat) && decide (c.toNat ≤ 126)) && !l.isEmpty

/-- a reader -/
structure QS where
  q : Qr := { meth := wGet }
  met : List (List UInt8) := []
  bad : Bool := false
deriving DecidableEq

/-- what a word that is counted turns -/
def metN (st : QS) (w : List UInt8) : QS := if w == wHeader then st else { st with met := st.met ++ [w], bad := st.bad || st.met.contains w }
def headN (st : QS) (s : List UInt8) : QS :=
  { st with q := { st.q with hds := st.q.hds ++ [((Lib.cut s [58, 32]).1, (Lib.cut s [58, 32]).2.1)] }, bad := st.bad || (!(Lib.cut s [58, 32]).2.2 || (Lib.cut s [58, 32]).2.1.isEmpty || !valid (Lib.cut s [58, 32]).1 (Lib.cut s [58, 32]).2.1) }
/-- what a line turns, its word counted -/
def wordN (st : QS) (w r : List UInt8) (ok : Bool) : QS :=
  if w == wUrl then { st with q := { st.q with url := r }, bad := st.bad || (!ok || !graphic r) }
  else if w == wDoc then { st with q := { st.q with doc := r }, bad := st.bad || (!ok || !graphic r) }
  else if w == wDest then { st with q := { st.q with dest := r }, bad := st.bad || (!ok || !graphic r) }
  else if w == wMethod then { st with q := { st.q with meth := r }, bad := st.bad || (!ok || !graphic r) }
  else if w == wCors then { st with q := { st.q with cors := true }, bad := st.bad || ok }
  else if w == wCreds then { st with q := { st.q with creds := true }, bad := st.bad || ok }
  else if w == wRedir then { st with q := { st.q with redir := (number r 2).1 }, bad := st.bad || !(number r 2).2 }
  else if w == wHeader then headN st r
  else { st with bad := true }
def lineQ (st : QS) (l : List UInt8) : QS := wordN (metN st (cutAt 32 l).1) (cutAt 32 l).1 (cutAt 32 l).2 (l.contains 32)
def linesQ (ls : List (List UInt8)) : QS := ls.foldl lineQ {}
/-- a text's lines, without an empty one at the end -/
def linesOf (s : List UInt8) : List (List UInt8) := if (split s 10).getLast? == some [] then (split s 10).dropLast else split s 10
def queryN (s : List UInt8) : Qr × Int :=
  if decide (s.length > 4000) || !(s.take 4 == [117, 114, 108, 32]) then ({}, 8)
  else if (linesQ (linesOf s)).bad then ({}, 8) else ((linesQ (linesOf s)).q, 0)

theorem linesQ_snoc (ls : List (List UInt8)) (l : List UInt8) : linesQ (ls ++ [l]) = lineQ (linesQ ls) l := by
  unfold linesQ; rw [List.foldl_append]; rfl
end Go.Proofs.YtilpaopkhghicaaDoor.Asc
