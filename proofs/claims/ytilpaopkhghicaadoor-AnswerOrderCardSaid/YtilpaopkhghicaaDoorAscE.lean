/-
  Contracts of package ascii: Lower, Same, Any, Token, Trim, Blanks, Split, Number.
  Texts of at most a million bytes; Split: the library's MaxLen is a number.
-/
import Derived.Test.YtilpaopkhghicaaDoorAscD
import Derived.Test.YtilpaopkhghicaaDoorShelf
import Derived.Shelf.Strings.SlTrimAscii
namespace Go.Proofs.YtilpaopkhghicaaDoor.Asc
open Go Go.RowKit Go.Proofs.YtilpaopkhghicaaDoor.Pb

/-- how far ascii.Lower is at byte k -/
def lowAt (l : List UInt8) (k : Nat) : List UInt8 := lower (l.take k) ++ l.drop k
theorem lowAt_len (l : List UInt8) (k : Nat) : (lowAt l k).length = l.length := by
  unfold lowAt lower; rw [List.length_append, List.length_map, List.length_take, List.length_drop]; omega
theorem lowAt_zero (l : List UInt8) : lowAt l 0 = l := by simp [lowAt, lower]
theorem lowAt_all (l : List UInt8) (k : Nat) (h : l.length ≤ k) : lowAt l k = lower l := by
  unfold lowAt; rw [List.take_of_length_le h, List.drop_of_length_le h, List.append_nil]
theorem lowAt_get (l : List UInt8) (k : Nat) (h : k < l.length) : (lowAt l k)[k]? = some l[k] := by
  unfold lowAt lower
  rw [List.getElem?_append_right (by simp; omega)]
  simp [List.length_take, Nat.min_eq_left (Nat.le_of_lt h)]
theorem lowAt_succ (l : List UInt8) (k : Nat) (h : k < l.length) : lowAt l (k + 1) = (lowAt l k).set k (lowerB l[k]) := by
  unfold lowAt lower
  have e : l.drop k = l[k] :: l.drop (k + 1) := List.drop_eq_getElem_cons h
  rw [e, List.set_append_right _ _ (by simp; omega)]
  rw [List.length_map, List.length_take, Nat.min_eq_left (Nat.le_of_lt h), Nat.sub_self, List.set_cons_zero, List.take_add_one, List.getElem?_eq_getElem h, List.map_append, List.append_assoc]
  rfl
theorem lowAt_step (s : ByteArray) (k : Nat) (h : k < s.size) {X : Int} (hX : X = ((lowerB s[k]).toNat : Int)) : (lowAt (toL s) (k + 1)).map u8v = ((lowAt (toL s) k).map u8v).set k (.int .u8 X) := by
  rw [hX, lowAt_succ (toL s) k (by rw [toL_len]; exact h), List.map_set]; rfl
theorem lowAt_same (l : List UInt8) (k : Nat) (h : k < l.length) (hc : lowerB l[k] = l[k]) : lowAt l (k + 1) = lowAt l k := by
  rw [lowAt_succ l k h, hc]
  have := lowAt_get l k h
  exact List.ext_getElem? fun j => by
    rw [List.getElem?_set]
    split
    · rename_i e; subst e
      split
      · exact this.symm
      · rename_i hj; rw [lowAt_len] at hj; omega
    · rfl

end Go.Proofs.YtilpaopkhghicaaDoor.Asc
