/-
  Plain laws of the functions of package ascii: split, blanks, trim, numbers. No program here.
  No condition.
-/
import Derived.Test.YtilpaopkhghicaaDoorAscSpec
import Derived.Lib.SplitLaws
import Derived.Lib.IndexBytes
import Derived.Lib.CountLaws
namespace Go.Proofs.YtilpaopkhghicaaDoor.Asc
open Go.Proofs.YtilpaopkhghicaaDoor.Pb

/-- what stands between bytes, from the front -/
def splitR (sep : UInt8) : List UInt8 → List (List UInt8)
  | [] => [[]]
  | c :: l => if c = sep then [] :: splitR sep l else match splitR sep l with
    | h :: t => (c :: h) :: t
    | [] => [[c]]
theorem splitR_ne (sep : UInt8) (l : List UInt8) : splitR sep l ≠ [] := by
  cases l with
  | nil => simp [splitR]
  | cons c l => unfold splitR; split <;> (try split) <;> simp
theorem splitR_none (sep : UInt8) (l : List UInt8) (h : sep ∉ l) : splitR sep l = [l] := by
  induction l with
  | nil => rfl
  | cons c l ih =>
    simp only [List.mem_cons, not_or] at h
    unfold splitR
    rw [if_neg (fun e => h.1 e.symm), ih h.2]
theorem splitR_at (sep : UInt8) (a b : List UInt8) (h : sep ∉ a) : splitR sep (a ++ sep :: b) = a :: splitR sep b := by
  induction a with
  | nil => simp [splitR]
  | cons c a ih =>
    simp only [List.mem_cons, not_or] at h
    rw [List.cons_append, splitR, if_neg (fun e => h.1 e.symm), ih h.2]

theorem cut_snoc (s : List UInt8) (f k : Nat) (hf : f ≤ k) (hk : k < s.length) : cut s f (k + 1) = cut s f k ++ [s[k]] := by
  unfold cut
  rw [List.take_add_one, List.getElem?_eq_getElem hk, List.drop_append_of_le_length (by simp; omega)]
  rfl
theorem cut_drop (s : List UInt8) (f k : Nat) (hf : f ≤ k) : s.drop f = cut s f k ++ s.drop k := by
  unfold cut
  conv => lhs; rw [← List.take_append_drop k s]
  by_cases h : k ≤ s.length
  · rw [List.drop_append_of_le_length (by simp; omega)]
  · rw [List.take_of_length_le (by omega), List.drop_of_length_le (show s.length ≤ k by omega)]; simp

theorem spSt_inv (s : List UInt8) (sep : UInt8) : ∀ k, k ≤ s.length → (spSt s sep k).2 ≤ k ∧ sep ∉ cut s (spSt s sep k).2 k ∧ (spSt s sep k).1 ++ splitR sep (s.drop (spSt s sep k).2) = splitR sep s := by
  intro k
  induction k with
  | zero => intro _; simp [spSt, cut]
  | succ k ih =>
    intro hk
    obtain ⟨h1, h2, h3⟩ := ih (by omega)
    have hlt : k < s.length := by omega
    simp only [spSt]
    by_cases hc : s[k]? = some sep
    · rw [if_pos hc]
      refine ⟨Nat.le_refl _, by simp [cut], ?_⟩
      rw [← h3, List.append_assoc]
      congr 1
      have hg : s[k] = sep := by rw [List.getElem?_eq_getElem hlt] at hc; exact Option.some.inj hc
      rw [cut_drop s _ k h1, show s.drop k = sep :: s.drop (k + 1) by rw [List.drop_eq_getElem_cons hlt, hg], splitR_at sep _ _ h2]
      rfl
    · rw [if_neg hc]
      refine ⟨by omega, ?_, h3⟩
      rw [cut_snoc s _ k h1 hlt]
      intro hm
      rcases List.mem_append.1 hm with hm | hm
      · exact h2 hm
      · simp at hm
        apply hc
        rw [List.getElem?_eq_getElem hlt, hm]
theorem split_eq (s : List UInt8) (sep : UInt8) : split s sep = splitR sep s := by
  obtain ⟨h1, h2, h3⟩ := spSt_inv s sep s.length (Nat.le_refl _)
  unfold split
  rw [← h3, cut_drop s _ s.length h1, List.drop_length, List.append_nil, splitR_none sep _ h2]

theorem ix (s : ByteArray) (c : UInt8) : Lib.indexB s ⟨#[c]⟩ = Lib.indexByte (toL s) c := Lib.index_one _ _
theorem ix_cases (s : ByteArray) (c : UInt8) : (Lib.indexB s ⟨#[c]⟩ = -1 ∧ c ∉ toL s) ∨ (∃ i : Nat, Lib.indexB s ⟨#[c]⟩ = i ∧ i < s.size ∧ c ∉ (toL s).take i ∧ toL s = (toL s).take i ++ c :: (toL s).drop (i + 1)) := by
  rw [ix]
  have hge := Lib.indexByte_ge (toL s) c
  by_cases h : Lib.indexByte (toL s) c = -1
  · refine .inl ⟨h, fun hm => ?_⟩
    obtain ⟨i, hi, e⟩ := List.getElem_of_mem hm
    exact Lib.indexByte_none h i (by rw [List.getElem?_eq_getElem hi, e])
  · obtain ⟨i, hi⟩ : ∃ i : Nat, Lib.indexByte (toL s) c = i := ⟨(Lib.indexByte (toL s) c).toNat, by omega⟩
    obtain ⟨h1, h2⟩ := Lib.indexByte_some hi
    have hlt : i < (toL s).length := (List.getElem?_eq_some_iff.1 h1).1
    have hg : (toL s)[i] = c := by rw [List.getElem?_eq_getElem hlt] at h1; exact Option.some.inj h1
    refine .inr ⟨i, hi, by rw [← toL_len]; exact hlt, fun hm => ?_, ?_⟩
    · obtain ⟨j, hj, e⟩ := List.getElem_of_mem hm
      rw [List.length_take] at hj
      rw [List.getElem_take] at e
      exact h2 j (by omega) (by rw [List.getElem?_eq_getElem (by omega), e])
    · conv => lhs; rw [← List.take_append_drop i (toL s), List.drop_eq_getElem_cons hlt, hg]

/-- the library's split, at a separator of one byte -/
theorem splitB_eq (c : UInt8) : ∀ (k : Nat) (s : ByteArray), Lib.countB s ⟨#[c]⟩ ≤ k → (Lib.splitB ⟨#[c]⟩ 0 k s).map toL = splitR c (toL s) := by
  intro k
  induction k with
  | zero =>
    intro s h
    rcases ix_cases s c with ⟨_, hm⟩ | ⟨i, hi, hlt, _, _⟩
    · rw [splitR_none c _ hm]; rfl
    · have := Lib.countB_hit s ⟨#[c]⟩ i (Nat.le_refl 1) hi
      omega
  | succ k ih =>
    intro s h
    rcases ix_cases s c with ⟨hi, hm⟩ | ⟨i, hi, hlt, hm, he⟩
    · rw [Lib.splitB_miss _ _ _ _ hi, splitR_none c _ hm]; rfl
    · have hc := Lib.countB_hit s ⟨#[c]⟩ i (Nat.le_refl 1) hi
      unfold Lib.splitB
      have hne : (Lib.indexB s ⟨#[c]⟩ == -1) = false := by rw [beq_eq_false_iff_ne, hi]; omega
      rw [hne, hi]
      simp only [Bool.false_eq_true, if_false, List.map_cons]
      have e1 : (i : Int).toNat + 0 = i := by omega
      have e2 : (i : Int).toNat + (⟨#[c]⟩ : ByteArray).size = i + 1 := by simp [ByteArray.size]
      have e3 : i + (⟨#[c]⟩ : ByteArray).size = i + 1 := rfl
      rw [e3] at hc
      rw [e1, e2, ih _ (by omega), extract_cut, extract_cut, toL_ofL, toL_ofL]
      conv => rhs; rw [he, splitR_at c _ _ hm]
      unfold cut
      rw [List.drop_zero, List.take_of_length_le (l := toL s) (i := s.size) (by rw [toL_len]; exact Nat.le_refl _)]
theorem lib_split (c : UInt8) (s : ByteArray) : (Lib.splitB ⟨#[c]⟩ 0 (Lib.countB s ⟨#[c]⟩) s).map toL = split (toL s) c := by
  rw [splitB_eq c _ s (Nat.le_refl _), split_eq]

/-! ### trim -/
theorem dropWhile_app {p : UInt8 → Bool} (l : List UInt8) (x : UInt8) (h : p x = false) : ∀ r, (r ++ [x] ++ l).dropWhile p = (r ++ [x]).dropWhile p ++ l := by
  intro r
  induction r with
  | nil => simp [h]
  | cons a r ih =>
    simp only [List.cons_append, List.dropWhile_cons]
    split
    · exact ih
    · rfl
theorem dropWhile_end {p : UInt8 → Bool} (x : UInt8) (h : p x = false) : ∀ r, ∃ r', (r ++ [x]).dropWhile p = r' ++ [x] := by
  intro r
  induction r with
  | nil => exact ⟨[], by simp [h]⟩
  | cons a r ih =>
    simp only [List.cons_append, List.dropWhile_cons]
    split
    · exact ih
    · exact ⟨a :: r, rfl⟩
theorem dropWhile_none {p : UInt8 → Bool} (l : List UInt8) (h : l.all p = true) : l.dropWhile p = [] := by
  induction l with
  | nil => rfl
  | cons a l ih =>
    rw [List.all_cons, Bool.and_eq_true] at h
    rw [List.dropWhile_cons, if_pos h.1, ih h.2]
theorem dropWhile_pre {p : UInt8 → Bool} (a : List UInt8) (x : UInt8) (b : List UInt8) (h : a.all p = true) (hx : p x = false) : (a ++ x :: b).dropWhile p = x :: b := by
  induction a with
  | nil => simp [hx]
  | cons c a ih =>
    rw [List.all_cons, Bool.and_eq_true] at h
    rw [List.cons_append, List.dropWhile_cons, if_pos h.1, ih h.2]
theorem first_not {p : UInt8 → Bool} (l : List UInt8) (h : l.all p = false) : ∃ a x b, l = a ++ x :: b ∧ a.all p = true ∧ p x = false := by
  induction l with
  | nil => simp at h
  | cons c l ih =>
    by_cases hc : p c = true
    · rw [List.all_cons, hc, Bool.true_and] at h
      obtain ⟨a, x, b, e, h1, h2⟩ := ih h
      exact ⟨c :: a, x, b, by rw [e]; rfl, by rw [List.all_cons, hc, h1]; rfl, h2⟩
    · exact ⟨[], c, l, rfl, rfl, by simpa using hc⟩
theorem trimR_at (a : List UInt8) (x : UInt8) (b : List UInt8) (hx : isTB x = false) : ∃ r, trimR (x :: b) = x :: r ∧ trimR (a ++ x :: b) = a ++ x :: r := by
  obtain ⟨r', hr⟩ := dropWhile_end (p := isTB) x hx b.reverse
  refine ⟨r'.reverse, ?_, ?_⟩
  · unfold trimR; rw [List.reverse_cons, hr]; simp
  · unfold trimR
    rw [List.reverse_append, List.reverse_cons, dropWhile_app _ _ hx, hr]; simp
theorem all_rev {p : UInt8 → Bool} (l : List UInt8) : l.reverse.all p = l.all p := by simp
theorem trim_none (l : List UInt8) (h : l.all isTB = true) : trim l = [] := by
  unfold trim trimR trimL
  rw [dropWhile_none l.reverse (by rw [all_rev]; exact h)]; rfl
theorem trim_at (a : List UInt8) (x : UInt8) (b : List UInt8) (ha : a.all isTB = true) (hx : isTB x = false) : trim (a ++ x :: b) = trimR (x :: b) := by
  obtain ⟨r, h1, h2⟩ := trimR_at a x b hx
  unfold trim trimL
  rw [h2, h1, dropWhile_pre a x r ha hx]
/-- from either end first -/
theorem trim_comm (l : List UInt8) : trimR (trimL l) = trim l := by
  cases h : l.all isTB
  · obtain ⟨a, x, b, rfl, ha, hx⟩ := first_not l h
    rw [trim_at a x b ha hx]
    unfold trimL
    rw [dropWhile_pre a x b ha hx]
  · rw [trim_none l h]
    unfold trimL
    rw [dropWhile_none l h]; rfl
end Go.Proofs.YtilpaopkhghicaaDoor.Asc
