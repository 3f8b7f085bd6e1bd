/-
  Contracts: the reference's Valid, unsafe; Simple of both.
  Lengths within the rows' own reach.
-/
import Derived.Test.YtilpaopkhghicaaDoorHdrC
namespace Go.Proofs.YtilpaopkhghicaaDoor.Asc
open Go Go.RowKit Go.Proofs.YtilpaopkhghicaaDoor.Pb

theorem has_unsafes (c : UInt8) : hasB (toL { data := #[34, 40, 41, 58, 60, 62, 63, 64, 91, 92, 93, 123, 125] }) c = hasB unsafes c := rfl

theorem isCtl_int (c : UInt8) : isCtl c = (decide ((c.toNat : Int) < 32) && ((c.toNat : Int) != 9) || ((c.toNat : Int) == 127)) := by
  unfold isCtl
  rw [Bool.eq_iff_iff]
  simp
  omega

/-! ### Simple -/
def wAccept : List UInt8 := [97, 99, 99, 101, 112, 116]
def wAccLang : List UInt8 := [97, 99, 99, 101, 112, 116, 45, 108, 97, 110, 103, 117, 97, 103, 101]
def wConLang : List UInt8 := [99, 111, 110, 116, 101, 110, 116, 45, 108, 97, 110, 103, 117, 97, 103, 101]
def wConType : List UInt8 := [99, 111, 110, 116, 101, 110, 116, 45, 116, 121, 112, 101]
def forms : List (List UInt8) := [[97, 112, 112, 108, 105, 99, 97, 116, 105, 111, 110, 47, 120, 45, 119, 119, 119, 45, 102, 111, 114, 109, 45, 117, 114, 108, 101, 110, 99, 111, 100, 101, 100], [109, 117, 108, 116, 105, 112, 97, 114, 116, 47, 102, 111, 114, 109, 45, 100, 97, 116, 97], [116, 101, 120, 116, 47, 112, 108, 97, 105, 110]]
def simple (n v : List UInt8) : Bool :=
  decide (v.length ≤ 128) && (if lower n == wAccept then v.all isSafe else if lower n == wAccLang || lower n == wConLang then v.all isLang else if lower n == wConType then v.all isSafe && decide ((essence v).1 ∈ forms) else false)

theorem texts_lit (w : World) (l : List (List UInt8)) (cs : Array Value) (h : cs.toList = l.map fun x => Value.string (ofL x)) (hl : l.length ≤ 1000000) (n : Nat) (hn : n = l.length) :
    View Rp.str (w.alloc (.cells cs 9)) (fun k => w.heap.size ≤ k) l (.slice (some ⟨w.heap.size, 0, none⟩) n n) := by
  have hh := Own.lit (d := Rp.str) (e := 9) w (G := fun _ => False) (xs := l) (cs := l.map fun x => Value.string (ofL x)) (Elems.of_map l) hn (by unfold maxLen; omega)
  rw [← h] at hh
  exact (hh.view).mono fun k hk => by rcases hk with hk | hk; exact hk.elim; exact hk
theorem beq_at {a b : List UInt8} {c : Bool} (h : (a == b) = c) (L : ByteArray) (hL : L.toList = a) : (L.toList == b) = c := by rw [hL]; exact h

end Go.Proofs.YtilpaopkhghicaaDoor.Asc
