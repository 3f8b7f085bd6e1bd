/-
  The law parapetlaw13.HeaderUnsafe answers true; the package's own example.
  The library's MaxLen is a number; arguments within the rows' own reach.
-/
import Derived.Test.YtalbadmefpdldaaDoorHdrJ
namespace Go.Proofs.YtalbadmefpdldaaDoor.Asc
open Go Go.RowKit Go.Proofs.YtalbadmefpdldaaDoor.Pb

def MaxLen (m : Int) (w : World) : Prop := w.cell? ⟨0, 0, none⟩ = some (.int .i64 m)
theorem MaxLen.below {m : Int} {w w' : World} (h : MaxLen m w) (hb : Below w.heap.size w w') : MaxLen m w' :=
  (hb.cell (p := ⟨0, 0, none⟩) (World.block_lt_of_cell? w _ h)).trans h
theorem MaxLen.kept {m : Int} {w w0 w' : World} (h : MaxLen m w0) (hb : Below w0.heap.size w0 w') : MaxLen m w' := h.below hb

theorem lits {w : World} (l : List (List UInt8)) (cs : Array Value) (h : cs.toList = l.map fun x => Value.string (ofL x)) (hl : l.length ≤ 1000000) (n : Nat) (hn : n = l.length) :
    View Rp.str (w.alloc (.cells cs 9)) (fun _ => True) l (.slice (some ⟨w.heap.size, 0, none⟩) n n) :=
  (texts_lit w l cs h hl n hn).mono fun _ _ => trivial
theorem flds_lit {w : World} (l : List Fd) (cs : Array Value) (h : cs.toList = l.flatMap fun x => [Value.string (ofL x.1), Value.string (ofL x.2)]) (hl : l.length ≤ 1000000) (n : Nat) (hn : n = l.length) :
    View fld (w.alloc (.cells cs 34)) (fun _ => True) l (.slice (some ⟨w.heap.size, 0, none⟩) n n) := by
  have he : ∀ l : List Fd, Elems (fld.rep w fun _ => False) l (l.flatMap fun x => [Value.string (ofL x.1), Value.string (ofL x.2)]) := by
    intro l
    induction l with
    | nil => rfl
    | cons x l ih => exact ⟨[Value.string (ofL x.1), Value.string (ofL x.2)], _, rfl, ⟨[_], [_], rfl, rfl, rfl⟩, ih⟩
  have hh := Own.lit (d := fld) (e := 34) w (G := fun _ => False) (xs := l) (he l) hn (by unfold maxLen; omega)
  rw [← h, Array.toArray_toList] at hh
  exact hh.view.mono fun _ _ => trivial

theorem awake_ess : essence (toL ⟨#[84, 101, 120, 116, 47, 80, 108, 97, 105, 110, 59, 32, 99, 104, 97, 114, 115, 101, 116, 61, 120]⟩) = ([116, 101, 120, 116, 47, 112, 108, 97, 105, 110], true) := by decide
def awakeL : List Fd := [([88, 45, 65], [49]), ([65, 99, 99, 101, 112, 116], [97])]
theorem awake_uns : unsafeN awakeL = [[120, 45, 97]] := by
  unfold unsafeN
  rw [show gsize awakeL = 1 by decide, if_neg (by decide), show bads awakeL = [[120, 45, 97]] by decide]
  exact (sortU_of _ [[120, 45, 97]] (by simp [Rise]) (fun _ => Iff.rfl)).symm

end Go.Proofs.YtalbadmefpdldaaDoor.Asc
