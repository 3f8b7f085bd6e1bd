/-
  Contracts of the reference's Blanks, Split, Number, Decimal, Trim.
  Texts of at most a million bytes.
-/
import Derived.Test.YtilpaopkhghicaaDoorAscB
import Derived.Deep.DeepCutAuto
import Derived.Deep.CutBlock
namespace Go.Proofs.YtilpaopkhghicaaDoor.Asc
open Go Go.RowKit Go.Proofs.YtilpaopkhghicaaDoor.Pb

theorem info9 : (Tryd.prog.info? 9).map (fun i => (i.zero, i.size, i.bytes)) = some (some (.string ByteArray.empty), 1, 16) := by kernel_rfl

def fromV : Option Nat → Int
  | none => -1
  | some f => f
theorem fromV_none : fromV none = -1 := rfl
theorem fromV_some (f : Nat) : fromV (some f) = (f : Int) := rfl
theorem blSt_len (s : List UInt8) (k : Nat) : (blSt s k).1.length ≤ k ∧ ∀ f, (blSt s k).2 = some f → f < k := by
  induction k with
  | zero => simp [blSt]
  | succ k ih =>
    obtain ⟨h1, h2⟩ := ih
    simp only [blSt]
    cases h : (blSt s k).2 with
    | none =>
      simp only
      split
      · exact ⟨by omega, fun f hf => by rw [h] at hf; cases hf⟩
      · exact ⟨by simp; omega, fun f hf => by simp at hf; omega⟩
    | some f =>
      simp only
      split
      · refine ⟨by simp; omega, fun g hg => by simp at hg⟩
      · refine ⟨by omega, fun g hg => ?_⟩
        have := h2 g hg; omega

def blankAt (s : List UInt8) (k : Nat) : Bool := (s[k]?.map isBlank).getD true
theorem blankAt_end (s : ByteArray) : blankAt (toL s) s.size = true := by
  unfold blankAt; rw [List.getElem?_eq_none (by rw [toL_len]; exact Nat.le_refl _)]; rfl
theorem blankAt_lt (s : ByteArray) (k : Nat) (h : k < s.size) : blankAt (toL s) k = isBlank s[k] := by
  unfold blankAt; rw [getD_toL s k h]; rfl
theorem blSt_succ (s : List UInt8) (k : Nat) : blSt s (k + 1) = (match (blSt s k).2 with
  | none => if blankAt s k then blSt s k else ((blSt s k).1, some k)
  | some f => if blankAt s k then ((blSt s k).1 ++ [cut s f k], none) else blSt s k) := rfl

end Go.Proofs.YtilpaopkhghicaaDoor.Asc
