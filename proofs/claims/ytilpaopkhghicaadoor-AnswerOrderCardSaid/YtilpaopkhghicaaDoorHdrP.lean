/-
  Plain laws for package header: cutting at a byte, media types. No program here.
  No condition.
-/
import Derived.Test.YtilpaopkhghicaaDoorAscPure
import Derived.Lib.IndexMore
namespace Go.Proofs.YtilpaopkhghicaaDoor.Asc
open Go.Proofs.YtilpaopkhghicaaDoor.Pb

/-- around the first such byte -/
def cutAt (c : UInt8) (l : List UInt8) : List UInt8 × List UInt8 := (l.takeWhile (· != c), (l.dropWhile (· != c)).drop 1)
theorem take_all_while {p : UInt8 → Bool} (l : List UInt8) (h : ∀ x ∈ l, p x = true) : l.takeWhile p = l ∧ l.dropWhile p = [] := by
  induction l with
  | nil => exact ⟨rfl, rfl⟩
  | cons a l ih =>
    obtain ⟨h1, h2⟩ := ih fun x hx => h x (by simp [hx])
    rw [List.takeWhile_cons, List.dropWhile_cons, if_pos (h a (by simp)), if_pos (h a (by simp)), h1, h2]
    exact ⟨rfl, rfl⟩
theorem cutAt_none (c : UInt8) (l : List UInt8) (h : c ∉ l) : cutAt c l = (l, []) := by
  have h1 : ∀ x ∈ l, (x != c) = true := fun x hx => by rw [bne_iff_ne]; rintro rfl; exact h hx
  unfold cutAt
  rw [(take_all_while l h1).1, (take_all_while l h1).2]; rfl
theorem cutAt_at (c : UInt8) (a b : List UInt8) (h : c ∉ a) : cutAt c (a ++ c :: b) = (a, b) := by
  have h1 : ∀ x ∈ a, (x != c) = true := fun x hx => by rw [bne_iff_ne]; rintro rfl; exact h hx
  unfold cutAt
  rw [List.takeWhile_append_of_pos h1, List.dropWhile_append_of_pos h1]
  simp
theorem cut_ways (c : UInt8) (l : List UInt8) : c ∉ l ∨ ∃ a b, l = a ++ c :: b ∧ c ∉ a := by
  induction l with
  | nil => exact .inl (by simp)
  | cons x l ih =>
    by_cases hx : x = c
    · exact .inr ⟨[], l, by rw [hx]; rfl, by simp⟩
    · rcases ih with h | ⟨a, b, rfl, h⟩
      · exact .inl (by simp only [List.mem_cons, not_or]; exact ⟨fun e => hx e.symm, h⟩)
      · exact .inr ⟨x :: a, b, rfl, by simp only [List.mem_cons, not_or]; exact ⟨fun e => hx e.symm, h⟩⟩
theorem lib_cut (c : UInt8) (l : List UInt8) : (Lib.cut l [c]).1 = (cutAt c l).1 ∧ (Lib.cut l [c]).2.1 = (cutAt c l).2 := by
  unfold Lib.cut
  rw [Lib.index_one]
  rcases cut_ways c l with h | ⟨a, b, rfl, h⟩
  · have : Lib.indexByte l c = -1 := by
      have hge := Lib.indexByte_ge l c
      by_cases e : Lib.indexByte l c = -1
      · exact e
      · obtain ⟨i, hi⟩ : ∃ i : Nat, Lib.indexByte l c = i := ⟨(Lib.indexByte l c).toNat, by omega⟩
        obtain ⟨h1, _⟩ := Lib.indexByte_some hi
        exact (h (List.mem_of_getElem? h1)).elim
    rw [this, if_neg (by omega), cutAt_none c l h]
    exact ⟨rfl, rfl⟩
  · have : Lib.indexByte (a ++ c :: b) c = (a.length : Int) := by
      have hge := Lib.indexByte_ge (a ++ c :: b) c
      have hne : Lib.indexByte (a ++ c :: b) c ≠ -1 := fun e => Lib.indexByte_none e a.length (by simp)
      obtain ⟨i, hi⟩ : ∃ i : Nat, Lib.indexByte (a ++ c :: b) c = i := ⟨(Lib.indexByte (a ++ c :: b) c).toNat, by omega⟩
      obtain ⟨h1, h2⟩ := Lib.indexByte_some hi
      rw [hi]
      congr 1
      by_cases e1 : i < a.length
      · rw [List.getElem?_append_left e1] at h1
        exact (h (List.mem_of_getElem? h1)).elim
      · by_cases e2 : i = a.length
        · exact e2
        · exact (h2 a.length (by omega) (by simp)).elim
    rw [this, if_pos (by omega), cutAt_at c a b h]
    simp [List.drop_append]

theorem trim_len (l : List UInt8) : (trim l).length ≤ l.length := by
  unfold trim trimL trimR
  have h1 := (List.dropWhile_sublist isTB (l := (l.reverse.dropWhile isTB).reverse)).length_le
  have h2 := (List.dropWhile_sublist isTB (l := l.reverse)).length_le
  simp only [List.length_reverse] at h1 h2
  omega

/-- what stands ahead of the parameters, trimmed, in small letters -/
def essIn (s : List UInt8) : List UInt8 := lower (trim (cutAt 59 s).1)
def essence (s : List UInt8) : List UInt8 × Bool := if token (cutAt 47 (essIn s)).1 && token (cutAt 47 (essIn s)).2 then (essIn s, true) else ([], false)
theorem not_tok : isTok 47 = false := by decide
theorem token_mem {l : List UInt8} (h : (47 : UInt8) ∈ l) : token l = false := by
  unfold token
  rw [Bool.and_eq_false_iff]
  right
  rw [List.all_eq_false]
  exact ⟨47, h, by rw [not_tok]; simp⟩
/-- the reference's way -/
theorem essence_split (e : List UInt8) : (∃ a b, split e 47 = [a, b] ∧ cutAt 47 e = (a, b)) ∨ ((split e 47).length ≠ 2 ∧ (token (cutAt 47 e).1 && token (cutAt 47 e).2) = false) := by
  rw [split_eq]
  rcases cut_ways 47 e with h | ⟨a, b, rfl, h⟩
  · right
    rw [splitR_none 47 e h, cutAt_none 47 e h]
    exact ⟨by simp, by simp [token]⟩
  · rw [splitR_at 47 a b h, cutAt_at 47 a b h]
    rcases cut_ways 47 b with h' | ⟨a', b', rfl, h'⟩
    · left
      exact ⟨a, b, by rw [splitR_none 47 b h'], rfl⟩
    · right
      rw [splitR_at 47 a' b' h']
      refine ⟨?_, by rw [token_mem (l := a' ++ 47 :: b') (by simp)]; simp⟩
      have := splitR_ne 47 b'
      cases hs : splitR 47 b' with
      | nil => exact (this hs).elim
      | cons => simp
end Go.Proofs.YtilpaopkhghicaaDoor.Asc
