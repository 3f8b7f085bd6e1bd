/-
  Contracts: List of both.
  Lengths within the rows' own reach.
-/
import Derived.Test.YtalbadmefpdldaaDoorHdrF
namespace Go.Proofs.YtalbadmefpdldaaDoor.Asc
open Go Go.RowKit Go.Proofs.YtalbadmefpdldaaDoor.Pb

def someOf (l : List (List UInt8)) : List (List UInt8) := (l.map trim).filter fun x => !x.isEmpty
def listOf (vs : List (List UInt8)) : List (List UInt8) := vs.flatMap fun v => someOf (split v 44)
theorem someOf_snoc (l : List (List UInt8)) (j : Nat) (x : List UInt8) (h : l[j]? = some x) : someOf (l.take (j + 1)) = someOf (l.take j) ++ (if (trim x).isEmpty then [] else [trim x]) := by
  unfold someOf
  rw [List.take_add_one, h, List.map_append, List.filter_append]
  cases hs : (trim x).isEmpty <;> simp [hs]
theorem someOf_len (l : List (List UInt8)) (j : Nat) : (someOf (l.take j)).length ≤ j := by
  unfold someOf
  have := List.length_filter_le (fun x : List UInt8 => !x.isEmpty) ((l.take j).map trim)
  rw [List.length_map, List.length_take] at this; omega
theorem listOf_snoc (l : List (List UInt8)) (k : Nat) (x : List UInt8) (h : l[k]? = some x) : listOf (l.take (k + 1)) = listOf (l.take k) ++ someOf (split x 44) := by
  unfold listOf
  rw [List.take_add_one, h, List.flatMap_append]
  simp
theorem split_len (s : List UInt8) (sep : UInt8) : (split s sep).length ≤ s.length + 1 := by
  rw [split_eq]
  induction s with
  | nil => simp [splitR]
  | cons c l ih =>
    unfold splitR
    split
    · simp; omega
    · have hne := splitR_ne sep l
      cases hs : splitR sep l with
      | nil => exact (hne hs).elim
      | cons a b => rw [hs] at ih; simp at ih ⊢; omega
theorem split_ne (s : List UInt8) (sep : UInt8) : split s sep ≠ [] := by rw [split_eq]; exact splitR_ne sep s
theorem split_small (s : List UInt8) (sep : UInt8) : ∀ x ∈ split s sep, x.length ≤ s.length := by
  rw [split_eq]
  induction s with
  | nil => intro x hx; simp [splitR] at hx; rw [hx]; simp
  | cons c l ih =>
    intro x hx
    unfold splitR at hx
    split at hx
    · rcases List.mem_cons.1 hx with rfl | hx
      · simp
      · have := ih x hx; simp; omega
    · cases hs : splitR sep l with
      | nil => exact (splitR_ne sep l hs).elim
      | cons a b =>
        rw [hs] at hx ih
        rcases List.mem_cons.1 hx with rfl | hx
        · have := ih a (by simp); simp; omega
        · have := ih x (by simp [hx]); simp; omega
theorem listOf_len (l : List (List UInt8)) (k : Nat) (hl : ∀ x ∈ l, x.length ≤ 1000000) : (listOf (l.take k)).length ≤ k * 1000001 := by
  induction k with
  | zero => simp [listOf]
  | succ k ih =>
    by_cases h : k < l.length
    · have e : l[k]? = some l[k] := List.getElem?_eq_getElem h
      rw [listOf_snoc l k _ e, List.length_append]
      have h1 := someOf_len (split l[k] 44) (split l[k] 44).length
      rw [List.take_length] at h1
      have h2 := split_len l[k] 44
      have h3 := hl l[k] (List.getElem_mem h)
      omega
    · rw [List.take_of_length_le (by omega)]
      rw [List.take_of_length_le (by omega)] at ih
      exact Nat.le_trans ih (Nat.mul_le_mul_right _ (Nat.le_succ k))
theorem isEmpty_beq (l : List UInt8) : (l == ([] : List UInt8)) = l.isEmpty := by cases l <;> rfl

end Go.Proofs.YtalbadmefpdldaaDoor.Asc
