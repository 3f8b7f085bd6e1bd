/-
  Plain laws of rising lists of texts: sorted, each once. No program here.
  No condition.
-/
import Derived.Test.YtlfcbhagbdonhaaBase
import Derived.Sort.Walk0
import Derived.Lib.SlicesCompact
namespace Go.Proofs.Ytlfcbhagbdonhaa.Asc
open Go.Proofs.Ytlfcbhagbdonhaa.Pb

abbrev Tx := List UInt8
def Rise (l : List Tx) : Prop := l.Pairwise (· < ·)
theorem tx_total (a b : Tx) : a < b ∨ a = b ∨ b < a := by
  by_cases h : a < b
  · exact .inl h
  · by_cases k : b < a
    · exact .inr (.inr k)
    · exact .inr (.inl (List.le_antisymm (List.not_lt.1 k) (List.not_lt.1 h)))
theorem tx_lt_of_le {a b : Tx} (h : a ≤ b) (hne : a ≠ b) : a < b := by
  rcases tx_total a b with k | k | k
  · exact k
  · exact (hne k).elim
  · exact (List.not_lt.2 h k).elim
theorem tx_le_of_lt {a b : Tx} (h : a < b) : a ≤ b := List.not_lt.1 (List.lt_asymm h)

/-- a rising list is told by what is in it -/
theorem rise_uniq : ∀ {a b : List Tx}, Rise a → Rise b → (∀ x, x ∈ a ↔ x ∈ b) → a = b := by
  intro a
  induction a with
  | nil =>
    intro b _ _ h
    cases b with
    | nil => rfl
    | cons y b => exact absurd ((h y).2 (by simp)) (by simp)
  | cons x a ih =>
    intro b ha hb h
    cases b with
    | nil => exact absurd ((h x).1 (by simp)) (by simp)
    | cons y b =>
      rw [Rise, List.pairwise_cons] at ha hb
      have hxy : x = y := by
        rcases tx_total x y with k | k | k
        · have hx := (h x).1 (by simp)
          rcases List.mem_cons.1 hx with e | hx
          · exact e
          · exact (List.lt_asymm k (hb.1 x hx)).elim
        · exact k
        · have hy := (h y).2 (by simp)
          rcases List.mem_cons.1 hy with e | hy
          · exact e.symm
          · exact (List.lt_asymm k (ha.1 y hy)).elim
      subst hxy
      rw [ih ha.2 hb.2 fun z => ?_]
      constructor
      · intro hz
        rcases List.mem_cons.1 ((h z).1 (by simp [hz])) with e | hz'
        · exact (List.lt_irrefl x (e ▸ ha.1 z hz)).elim
        · exact hz'
      · intro hz
        rcases List.mem_cons.1 ((h z).2 (by simp [hz])) with e | hz'
        · exact (List.lt_irrefl x (e ▸ hb.1 z hz)).elim
        · exact hz'

theorem sorted_le (l : List Tx) : (l.mergeSort fun x y => decide (x ≤ y)).Pairwise (fun x y => x ≤ y) := by
  have := List.pairwise_mergeSort (le := fun x y : Tx => decide (x ≤ y)) (fun a b c h k => by simpa using List.le_trans (by simpa using h) (by simpa using k)) (fun a b => by simpa using List.le_total a b) l
  simpa using this

theorem compact_upto (zs : List Tx) (hs : zs.Pairwise (fun x y => x ≤ y)) : ∀ m, m ≤ zs.length → Rise (Lib.compactUpTo zs.toArray m) ∧ ∀ x, x ∈ Lib.compactUpTo zs.toArray m ↔ x ∈ zs.take m := by
  intro m
  induction m with
  | zero => intro _; exact ⟨by simp [Lib.compactUpTo, Rise], by simp [Lib.compactUpTo]⟩
  | succ m ih =>
    intro hm
    obtain ⟨h1, h2⟩ := ih (by omega)
    have hlt : m < zs.length := by omega
    have hd : zs.toArray[m]! = zs[m] := by simp [hlt]
    have htk : zs.take (m + 1) = zs.take m ++ [zs[m]] := by rw [List.take_add_one, List.getElem?_eq_getElem hlt]; rfl
    have hle : ∀ j (hj : j < zs.length), j ≤ m → zs[j] ≤ zs[m] := fun j hj hjm => by
      by_cases e : j = m
      · subst e; exact List.le_refl _
      · exact List.pairwise_iff_getElem.1 hs j m hj hlt (by omega)
    rw [Lib.compactUpTo_succ, hd, htk]
    by_cases hk : m = 0 ∨ zs[m] ≠ zs[m - 1]
    · have hkeep : Lib.keeps zs.toArray m = true := by
        rcases hk with rfl | hk
        · exact Lib.keeps_lt_one _ 0 (by omega)
        · refine Lib.keeps_pos ?_
          rw [hd]
          have : zs.toArray[m - 1]! = zs[m - 1] := by simp [show m - 1 < zs.length by omega]
          rw [this]; exact hk
      rw [hkeep, if_pos rfl]
      refine ⟨?_, fun x => by rw [List.mem_append, List.mem_append, h2 x]⟩
      rw [Rise, List.pairwise_append]
      refine ⟨h1, by simp, fun a ha b hb => ?_⟩
      simp at hb
      subst hb
      have ha' := (h2 a).1 ha
      obtain ⟨j, hj, rfl⟩ := List.mem_iff_getElem.1 ha'
      rw [List.length_take] at hj
      rw [List.getElem_take]
      rcases hk with rfl | hk
      · omega
      · have h3 : zs[j] ≤ zs[m - 1] := by
          by_cases e : j = m - 1
          · subst e; exact List.le_refl _
          · exact List.pairwise_iff_getElem.1 hs j (m - 1) (by omega) (by omega) (by omega)
        have h4 : zs[m - 1] < zs[m] := tx_lt_of_le (hle (m - 1) (by omega) (by omega)) (fun e => hk e.symm)
        rcases tx_total zs[j] zs[m - 1] with k | k | k
        · exact List.lt_trans k h4
        · rw [k]; exact h4
        · exact (List.not_lt.2 h3 k).elim
    · simp only [not_or, ne_eq, Decidable.not_not] at hk
      have hkeep : Lib.keeps zs.toArray m = false := by
        refine Lib.keeps_neg (by omega) ?_
        rw [hd]
        have : zs.toArray[m - 1]! = zs[m - 1] := by simp [show m - 1 < zs.length by omega]
        rw [this]; exact hk.2
      rw [hkeep]
      simp only [Bool.false_eq_true, if_false, List.append_nil]
      refine ⟨h1, fun x => ?_⟩
      rw [h2 x, List.mem_append]
      constructor
      · exact .inl
      · rintro (h | h)
        · exact h
        · simp at h
          rw [h, hk.2]
          exact List.mem_iff_getElem.2 ⟨m - 1, by rw [List.length_take]; omega, by rw [List.getElem_take]⟩

/-- sorted, each once -/
def sortU (l : List Tx) : List Tx := Lib.compact (l.mergeSort fun x y => decide (x ≤ y))
theorem sortU_rise (l : List Tx) : Rise (sortU l) := (compact_upto _ (sorted_le l) _ (Nat.le_refl _)).1
theorem sortU_mem (l : List Tx) (x : Tx) : x ∈ sortU l ↔ x ∈ l := by
  have := (compact_upto _ (sorted_le l) _ (Nat.le_refl _)).2 x
  rw [List.take_length] at this
  exact this.trans List.mem_mergeSort
theorem compact_len (zs : List Tx) : (Lib.compact zs).length ≤ zs.length := by
  unfold Lib.compact Lib.compactUpTo
  rw [List.length_map]
  have := List.length_filter_le (Lib.keeps zs.toArray) (List.range zs.length)
  rw [List.length_range] at this; exact this
theorem sortU_len (l : List Tx) : (sortU l).length ≤ l.length := by
  unfold sortU
  have := compact_len (l.mergeSort fun x y => decide (x ≤ y))
  rw [List.length_mergeSort] at this; exact this
theorem sortU_of (l r : List Tx) (h : Rise r) (hm : ∀ x, x ∈ r ↔ x ∈ l) : r = sortU l :=
  rise_uniq h (sortU_rise l) fun x => (hm x).trans (sortU_mem l x).symm
end Go.Proofs.Ytlfcbhagbdonhaa.Asc
