/-
  Contracts of the reference's Split, Number, Trim.
  Texts of at most a million bytes.
-/
import Derived.Test.YtaihjnicondifaaDoorAscC
namespace Go.Proofs.YtaihjnicondifaaDoor.Asc
open Go Go.RowKit Go.Proofs.YtaihjnicondifaaDoor.Pb

theorem spSt_len (s : List UInt8) (sep : UInt8) (k : Nat) : (spSt s sep k).1.length ≤ k ∧ (spSt s sep k).2 ≤ k := by
  induction k with
  | zero => simp [spSt]
  | succ k ih =>
    simp only [spSt]
    split
    · simp; omega
    · omega
theorem spSt_yes (s : ByteArray) (sep : UInt8) (k : Nat) (h : k < s.size) (e : s[k] = sep) : spSt (toL s) sep (k + 1) = ((spSt (toL s) sep k).1 ++ [cut (toL s) (spSt (toL s) sep k).2 k], k + 1) := by
  rw [spSt, if_pos (by rw [getD_toL s k h, e])]
theorem spSt_no (s : ByteArray) (sep : UInt8) (k : Nat) (h : k < s.size) (e : s[k] ≠ sep) : spSt (toL s) sep (k + 1) = spSt (toL s) sep k := by
  rw [spSt, if_neg (by rw [getD_toL s k h]; simpa using e)]
theorem u8_beq {a b : UInt8} : ((a.toNat : Int) == (b.toNat : Int)) = decide (a = b) := by
  rw [Bool.eq_iff_iff, beq_iff_eq, decide_eq_true_iff, Int.natCast_inj, UInt8.toNat_inj]

/-! ### numbers -/
theorem numOf_snoc (l : List UInt8) (c : UInt8) : numOf (l ++ [c]) = 10 * numOf l + ((c.toNat : Int) - 48) := by simp [numOf]
def numF (n : Int) (l : List UInt8) : Int := l.foldl (fun n c => 10 * n + ((c.toNat : Int) - 48)) n
theorem isDig_iff (c : UInt8) : isDig c = true ↔ 48 ≤ c.toNat ∧ c.toNat ≤ 57 := by simp [isDig]
theorem numF_bd (l : List UInt8) : ∀ n : Int, 0 ≤ n → l.all isDig = true → 0 ≤ numF n l ∧ numF n l < (n + 1) * 10 ^ l.length := by
  induction l with
  | nil => intro n h _; simp [numF]; omega
  | cons c l ih =>
    intro n h hd
    rw [List.all_cons, Bool.and_eq_true, isDig_iff] at hd
    obtain ⟨⟨h1, h2⟩, h3⟩ := hd
    have := ih (10 * n + ((c.toNat : Int) - 48)) (by omega) h3
    refine ⟨this.1, Int.lt_of_lt_of_le this.2 ?_⟩
    have e : (n + 1) * 10 ^ (c :: l).length = (10 * (n + 1)) * 10 ^ l.length := by
      rw [List.length_cons, Int.pow_succ, Int.mul_comm (10 ^ l.length) 10, ← Int.mul_assoc, Int.mul_comm (n + 1) 10]
    rw [e]
    refine Int.mul_le_mul_of_nonneg_right (by omega) ?_
    exact Int.pow_nonneg (by omega)
theorem pow10_mono {a b : Nat} (h : a ≤ b) : (10 : Int) ^ a ≤ 10 ^ b := by
  obtain ⟨c, rfl⟩ := Nat.exists_eq_add_of_le h
  rw [Int.pow_add]
  have h1 : (0 : Int) ≤ 10 ^ a := Int.pow_nonneg (by omega)
  have h2 : (0 : Int) < 10 ^ c := Int.pow_pos (by omega)
  have : (10 : Int) ^ a * 1 ≤ 10 ^ a * 10 ^ c := Int.mul_le_mul_of_nonneg_left (by omega) h1
  omega
theorem numOf_bd (l : List UInt8) (h : l.all isDig = true) (hl : l.length ≤ 17) : 0 ≤ numOf l ∧ numOf l < 100000000000000000 := by
  have := numF_bd l 0 (by omega) h
  refine ⟨this.1, Int.lt_of_lt_of_le this.2 ?_⟩
  have := pow10_mono hl
  rw [show (0 : Int) + 1 = 1 from rfl, Int.one_mul]
  exact Int.le_trans this (by decide)

/-- what number refuses ahead of its digits -/
def numBad (s : List UInt8) (max : Int) : Bool := s.isEmpty || decide ((s.length : Int) > min max 18) || (decide (s[0]? = some 48) && decide (s.length > 1))
theorem number_bad (s : List UInt8) (max : Int) (h : numBad s max = true) : number s max = (0, false) := by
  unfold number; rw [show (s.isEmpty || decide ((s.length : Int) > min max 18) || (decide (s[0]? = some 48) && decide (s.length > 1))) = true from h]; rfl
theorem number_good (s : List UInt8) (max : Int) (h : numBad s max = false) (hd : s.all isDig = true) : number s max = (numOf s, true) := by
  unfold number; rw [show (s.isEmpty || decide ((s.length : Int) > min max 18) || (decide (s[0]? = some 48) && decide (s.length > 1))) = false from h, hd]; rfl
theorem number_none (s : List UInt8) (max : Int) (h : numBad s max = false) (hd : s.all isDig = false) : number s max = (0, false) := by
  unfold number; rw [show (s.isEmpty || decide ((s.length : Int) > min max 18) || (decide (s[0]? = some 48) && decide (s.length > 1))) = false from h, hd]; rfl

theorem numBad_eq (s : ByteArray) (max : Int) (h : 0 < s.size) : numBad (toL s) max = (decide ((s.size : Int) > min max 18) || (decide (s[0].toNat = 48) && decide (s.size > 1))) := by
  unfold numBad
  have h1 : (toL s).isEmpty = false := by
    cases h' : toL s with
    | nil => have := toL_len s; rw [h'] at this; simp at this; omega
    | cons => rfl
  have h2 : decide ((toL s)[0]? = some 48) = decide (s[0].toNat = 48) := by
    rw [getD_toL s 0 h, decide_eq_decide]
    constructor
    · intro e; injection e with e; rw [e]; rfl
    · intro e; congr 1; exact UInt8.toNat_inj.1 (by rw [e]; rfl)
  rw [h1, h2, toL_len, Bool.false_or]

theorem ret2 {k : IntKind} {a b : Int} {p q : Bool} (h : (a, p) = (b, q)) : Ending.returned (.tuple #[.int k a, .bool p]) = .returned (.tuple #[.int k b, .bool q]) := by cases h; rfl

end Go.Proofs.YtaihjnicondifaaDoor.Asc
