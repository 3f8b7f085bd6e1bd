/-
  Contracts: ascii.Number, slices.Reverse of bytes, ascii.Decimal, the reference's Decimal.
  Texts of at most a million bytes; numbers that an int holds.
-/
import Derived.Test.YtnjkoegepjhklaaDoorAscG
import Derived.RegionTactic
namespace Go.Proofs.YtnjkoegepjhklaaDoor.Asc
open Go Go.RowKit Go.Proofs.YtnjkoegepjhklaaDoor.Pb

/-! ### the digits -/
theorem digs_succ (k n : Nat) (h : n ≠ 0) : digs (k + 1) n = UInt8.ofNat (48 + n % 10) :: digs k (n / 10) := by rw [digs, if_neg h]
theorem digs_zero (k : Nat) : digs k 0 = [] := by cases k <;> simp [digs]
theorem dig_nat (n : Nat) : (UInt8.ofNat (48 + n % 10)).toNat = 48 + n % 10 := by
  rw [UInt8.toNat_ofNat']; omega
theorem digs_len (k n : Nat) : (digs k n).length ≤ k := by
  induction k generalizing n with
  | zero => simp [digs]
  | succ k ih => unfold digs; split <;> simp; exact ih _

/-- a row of bytes, turned from both ends up to the k-th -/
def revAt (l : List UInt8) (k : Nat) : List UInt8 := (List.range l.length).map fun p => if p < k ∨ l.length - k ≤ p then l.getD (l.length - 1 - p) 0 else l.getD p 0
theorem revAt_len (l : List UInt8) (k : Nat) : (revAt l k).length = l.length := by simp [revAt]
theorem revAt_get (l : List UInt8) (k p : Nat) (h : p < l.length) : (revAt l k)[p]? = some (if p < k ∨ l.length - k ≤ p then l.getD (l.length - 1 - p) 0 else l.getD p 0) := by
  unfold revAt; rw [List.getElem?_map, List.getElem?_range h]; rfl
theorem revAt_zero (l : List UInt8) : revAt l 0 = l := by
  apply List.ext_getElem?
  intro p
  by_cases h : p < l.length
  · rw [revAt_get l 0 p h, if_neg (by omega), List.getD_eq_getElem?_getD, List.getElem?_eq_getElem h]; rfl
  · rw [List.getElem?_eq_none (by rw [revAt_len]; omega), List.getElem?_eq_none (by omega)]
theorem revAt_end (l : List UInt8) (k : Nat) (h : l.length ≤ 2 * k + 1) : revAt l k = l.reverse := by
  apply List.ext_getElem?
  intro p
  by_cases hp : p < l.length
  · rw [revAt_get l k p hp, List.getElem?_reverse hp]
    by_cases hc : p < k ∨ l.length - k ≤ p
    · rw [if_pos hc, List.getD_eq_getElem?_getD, List.getElem?_eq_getElem (by omega)]; rfl
    · have e : l.length - 1 - p = p := by omega
      rw [if_neg hc, List.getD_eq_getElem?_getD, e, List.getElem?_eq_getElem hp]; rfl
  · rw [List.getElem?_eq_none (by rw [revAt_len]; omega), List.getElem?_eq_none (by simp; omega)]
theorem revAt_mid (l : List UInt8) (k : Nat) (h : 2 * k + 1 < l.length) : (revAt l k)[k]? = some (l.getD k 0) ∧ (revAt l k)[l.length - 1 - k]? = some (l.getD (l.length - 1 - k) 0) := by
  rw [revAt_get l k k (by omega), revAt_get l k _ (by omega), if_neg (by omega), if_neg (by omega)]
  exact ⟨rfl, rfl⟩
theorem revAt_succ (l : List UInt8) (k : Nat) (h : 2 * k + 1 < l.length) : revAt l (k + 1) = ((revAt l k).set k (l.getD (l.length - 1 - k) 0)).set (l.length - 1 - k) (l.getD k 0) := by
  apply List.ext_getElem?
  intro p
  by_cases hp : p < l.length
  · rw [revAt_get l (k + 1) p hp, List.getElem?_set, List.getElem?_set, revAt_get l k p hp, List.length_set, revAt_len]
    by_cases h1 : l.length - 1 - k = p
    · rw [if_pos h1, if_pos (by omega), if_pos (by omega)]
      congr 2; omega
    · rw [if_neg h1]
      by_cases h2 : k = p
      · rw [if_pos h2, if_pos (by omega), if_pos (by omega)]; congr 2; omega
      · rw [if_neg h2]
        by_cases h3 : p < k ∨ l.length - k ≤ p
        · rw [if_pos h3, if_pos (by omega)]
        · rw [if_neg h3, if_neg (by omega)]
  · rw [List.getElem?_eq_none (by rw [revAt_len]; omega), List.getElem?_eq_none (by simp [revAt_len]; omega)]

theorem u64_neg (n : Int) (h : n < 0) (h0 : -9223372036854775808 ≤ n) : IntKind.u64.wrap (-IntKind.u64.wrap n) = -n := by
  have e : ∀ x : Int, IntKind.u64.wrap x = x % 18446744073709551616 := fun _ => rfl
  rw [e, e]; omega
theorem u64_id (n : Int) (h : 0 ≤ n) (h1 : n ≤ 9223372036854775807) : IntKind.u64.wrap n = n := by
  have e : ∀ x : Int, IntKind.u64.wrap x = x % 18446744073709551616 := fun _ => rfl
  rw [e]; omega
theorem u64_div (u : Nat) (h : u < 18446744073709551616) : IntKind.u64.wrap ((u : Int) / 10) = ((u / 10 : Nat) : Int) := by
  have e : ∀ x : Int, IntKind.u64.wrap x = x % 18446744073709551616 := fun _ => rfl
  rw [e]; omega
theorem ofL_append (a b : List UInt8) : ofL a ++ ofL b = ofL (a ++ b) := by
  apply toL_inj
  rw [toL_ofL]
  show (ofL a ++ ofL b).data.toList = _
  rw [ByteArray.data_append, Array.toList_append]
  rfl

end Go.Proofs.YtnjkoegepjhklaaDoor.Asc
