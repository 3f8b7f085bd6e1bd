/-
  Plain laws of the functions of package ascii that its outright laws ask for. No program here.
  No condition.
-/
import Derived.Test.YtmidfabneioiiaaDoorAscL
namespace Go.Proofs.YtmidfabneioiiaaDoor.Asc
open Go.Proofs.YtmidfabneioiiaaDoor.Pb

/-! ### a token is what its bytes are -/
theorem cut_one (s : List UInt8) (k : Nat) (h : k < s.length) : cut s k (k + 1) = [s[k]] := by
  rw [cut_snoc s k k (Nat.le_refl _) h]; simp [cut]
theorem token_one (s : ByteArray) (k : Nat) (h : k < s.size) : token (toL (s.extract k (k + 1))) = isTok s[k] := by
  rw [extract_cut, toL_ofL, cut_one _ k (by rw [toL_len]; exact h), toL_get s k h]
  simp [token]

/-! ### what is split is the text again -/
def joinAt (l : List (List UInt8)) (sep : UInt8) : Nat → List UInt8
  | 0 => []
  | k + 1 => joinAt l sep k ++ (if 0 < k then [sep] else []) ++ (l[k]?).getD []
theorem joinAt_cons (x : List UInt8) (l : List (List UInt8)) (sep : UInt8) : ∀ k, joinAt (x :: l) sep (k + 1) = x ++ (if 0 < k then sep :: joinAt l sep k else []) := by
  intro k
  induction k with
  | zero => simp [joinAt]
  | succ k ih =>
    rw [joinAt, ih]
    simp only [Nat.zero_lt_succ, if_true, List.getElem?_cons_succ]
    rcases Nat.eq_zero_or_pos k with rfl | h
    · simp [joinAt]
    · rw [if_pos h, joinAt, if_pos h]; simp
theorem join_split (sep : UInt8) (s : List UInt8) : joinAt (splitR sep s) sep (splitR sep s).length = s := by
  induction s with
  | nil => simp [splitR, joinAt]
  | cons c s ih =>
    have hne := splitR_ne sep s
    unfold splitR
    by_cases hc : c = sep
    · rw [if_pos hc, List.length_cons, joinAt_cons, if_pos (List.length_pos_iff.2 hne), ih, hc]; rfl
    · rw [if_neg hc]
      cases h : splitR sep s with
      | nil => exact absurd h hne
      | cons x t =>
        rw [h, List.length_cons, joinAt_cons] at ih
        simp only [List.length_cons, joinAt_cons]
        rw [List.cons_append, ih]

/-! ### a number that is written is read -/
theorem digs_num (k : Nat) : ∀ n, n < 10 ^ k → numOf (digs k n).reverse = n ∧ (digs k n).all isDig = true := by
  induction k with
  | zero => intro n h; simp at h; subst h; simp [digs, numOf]
  | succ k ih =>
    intro n h
    rcases Nat.eq_zero_or_pos n with rfl | hp
    · rw [digs_zero]; simp [numOf]
    · rw [digs_succ k n (by omega)]
      obtain ⟨h1, h2⟩ := ih (n / 10) (by rw [Nat.pow_succ] at h; omega)
      refine ⟨?_, ?_⟩
      · rw [List.reverse_cons, numOf_snoc, h1, dig_nat]; omega
      · rw [List.all_cons, h2, Bool.and_true, isDig_iff, dig_nat]; omega
theorem digs_short (k : Nat) : ∀ n j, n < 10 ^ j → (digs k n).length ≤ j := by
  induction k with
  | zero => intro n j _; simp [digs]
  | succ k ih =>
    intro n j h
    rcases Nat.eq_zero_or_pos n with rfl | hp
    · rw [digs_zero]; simp
    · rw [digs_succ k n (by omega), List.length_cons]
      cases j with
      | zero => simp at h; omega
      | succ j => have := ih (n / 10) j (by rw [Nat.pow_succ] at h; omega); omega
theorem digs_long (k : Nat) : ∀ n j, n < 10 ^ k → 10 ^ j ≤ n → j < (digs k n).length := by
  induction k with
  | zero => intro n j h h'; have := Nat.pow_pos (n := j) (show 0 < 10 by omega); simp at h; omega
  | succ k ih =>
    intro n j h h'
    have hp := Nat.pow_pos (n := j) (show 0 < 10 by omega)
    rw [digs_succ k n (by omega), List.length_cons]
    cases j with
    | zero => omega
    | succ j => have := ih (n / 10) j (by rw [Nat.pow_succ] at h; omega) (by rw [Nat.pow_succ] at h'; omega); omega
theorem digs_last (k : Nat) : ∀ n, n ≠ 0 → n < 10 ^ k → ∃ q y, digs k n = q ++ [y] ∧ y ≠ 48 := by
  induction k with
  | zero => intro n h h'; simp at h'; omega
  | succ k ih =>
    intro n h h'
    rw [digs_succ k n h]
    by_cases hz : n / 10 = 0
    · rw [hz, digs_zero]
      refine ⟨[], _, rfl, fun e => ?_⟩
      have := congrArg UInt8.toNat e
      rw [dig_nat] at this
      simp at this; omega
    · obtain ⟨q, y, e, hy⟩ := ih (n / 10) hz (by rw [Nat.pow_succ] at h'; omega)
      exact ⟨_ :: q, y, by rw [e]; rfl, hy⟩
theorem decimal_pos (m : Nat) (h : m ≠ 0) (n : Int) (hn : 0 ≤ n) (e : n.natAbs = m) : decimal n = (digs 21 m).reverse := by
  unfold decimal
  rw [if_neg (by omega), e, digs_succ 20 m h]; rfl
theorem number_decimal (n : Int) (h0 : -9223372036854775808 ≤ n) (h1 : n ≤ 9223372036854775807) :
    number (decimal n) 18 = (if 0 ≤ n ∧ n < 1000000000000000000 then (n, true) else (0, false)) := by
  by_cases hneg : n < 0
  · rw [if_neg (by omega)]
    unfold number decimal
    rw [if_pos hneg]
    have : (([45] ++ (UInt8.ofNat (48 + n.natAbs % 10) :: digs 20 (n.natAbs / 10)).reverse).all isDig) = false := by
      rw [List.singleton_append, List.all_cons]; rfl
    rw [this]; simp
  · by_cases hz : n = 0
    · subst hz; decide
    · obtain ⟨m, hm⟩ : ∃ m, n.natAbs = m := ⟨_, rfl⟩
      have hmz : m ≠ 0 := by omega
      have hmb : m < 10 ^ 21 := by omega
      rw [decimal_pos m hmz n (by omega) hm]
      obtain ⟨g1, g2⟩ := digs_num 21 m hmb
      obtain ⟨q, y, e, hy⟩ := digs_last 21 m hmz hmb
      unfold number
      have ha : (digs 21 m).reverse.all isDig = true := by rw [all_rev]; exact g2
      have hd : (digs 21 m).reverse[0]? ≠ some 48 := by
        rw [e, List.reverse_append]; simp [hy]
      have he : (digs 21 m).reverse.isEmpty = false := by
        rw [e, List.reverse_append]; rfl
      rw [ha, he, g1, decide_eq_false hd]
      simp only [Bool.false_or, Bool.false_and, Bool.not_true, Bool.or_false, decide_eq_true_eq]
      rw [List.length_reverse]
      by_cases hlt : m < 10 ^ 18
      · have := digs_short 21 m 18 hlt
        rw [if_neg (by omega), if_pos (by omega)]
        congr 1; omega
      · have := digs_long 21 m 18 hmb (by omega)
        rw [if_pos (by omega), if_neg (by omega)]

/-! ### words -/
def openW (s : List UInt8) (k : Nat) : List UInt8 := match (blSt s k).2 with
  | none => []
  | some f => cut s f k
theorem filter_snoc (s : List UInt8) (k : Nat) (h : k < s.length) : (s.take (k + 1)).filter (fun c => !isBlank c) = (s.take k).filter (fun c => !isBlank c) ++ (if isBlank s[k] then [] else [s[k]]) := by
  rw [List.take_add_one, List.getElem?_eq_getElem h, List.filter_append]
  congr 1
  by_cases hb : isBlank s[k] = true
  · simp [hb]
  · simp [hb]
theorem blSt_words (s : List UInt8) : ∀ k, k ≤ s.length → (blSt s k).1.flatten ++ openW s k = (s.take k).filter (fun c => !isBlank c) ∧ (∀ x ∈ (blSt s k).1, x ≠ [] ∧ x.all (fun c => !isBlank c) = true) ∧ (∀ f, (blSt s k).2 = some f → f < k ∧ (cut s f k).all (fun c => !isBlank c) = true) := by
  intro k
  induction k with
  | zero => intro _; simp [blSt, openW]
  | succ k ih =>
    intro hk
    have hlt : k < s.length := by omega
    obtain ⟨h1, h2, h3⟩ := ih (by omega)
    have hg : (s[k]?.map isBlank).getD true = isBlank s[k] := by rw [List.getElem?_eq_getElem hlt]; rfl
    rw [filter_snoc s k hlt, ← h1]
    unfold openW at h1 ⊢
    simp only [blSt, hg]
    cases hst : (blSt s k).2 with
    | none =>
      by_cases hb : isBlank s[k] = true
      · simp only [hb, if_true, hst]
        exact ⟨by simp, h2, fun f e => by cases e⟩
      · simp only [hb, if_false, Bool.false_eq_true]
        refine ⟨by rw [cut_one s k hlt]; simp, h2, fun f e => ?_⟩
        cases e
        refine ⟨by omega, ?_⟩
        rw [cut_one s k hlt]; simp [hb]
    | some f =>
      obtain ⟨hf, ha⟩ := h3 f hst
      have hs := cut_snoc s f k (by omega) hlt
      by_cases hb : isBlank s[k] = true
      · simp only [hb, if_true]
        refine ⟨by simp, fun x hx => ?_, fun f' e => by cases e⟩
        rcases List.mem_append.1 hx with hx | hx
        · exact h2 x hx
        · simp only [List.mem_singleton] at hx
          subst hx
          refine ⟨fun e => ?_, ha⟩
          have := congrArg List.length e
          unfold cut at this; simp at this; omega
      · simp only [hb, if_false, Bool.false_eq_true, hst]
        refine ⟨by rw [hs]; simp, h2, fun f' e => ?_⟩
        cases e
        exact ⟨by omega, by rw [hs, List.all_append, ha]; simp [hb]⟩
theorem blanks_words (s : List UInt8) : (blanks s).flatten = s.filter (fun c => !isBlank c) ∧ ∀ x ∈ blanks s, x ≠ [] ∧ x.all (fun c => !isBlank c) = true := by
  obtain ⟨h1, h2, h3⟩ := blSt_words s s.length (Nat.le_refl _)
  rw [List.take_length] at h1
  unfold openW at h1
  have hg : (s[s.length]?.map isBlank).getD true = true := by simp
  unfold blanks
  simp only [blSt, hg]
  cases hst : (blSt s s.length).2 with
  | none =>
    simp only [hst] at h1
    simp only [if_true]
    exact ⟨by rw [← h1, List.append_nil], h2⟩
  | some f =>
    simp only [hst] at h1
    obtain ⟨hf, ha⟩ := h3 f hst
    simp only [if_true]
    refine ⟨by rw [← h1]; simp, fun x hx => ?_⟩
    rcases List.mem_append.1 hx with hx | hx
    · exact h2 x hx
    · simp only [List.mem_singleton] at hx
      subst hx
      refine ⟨fun e => ?_, ha⟩
      have := congrArg List.length e
      unfold cut at this; simp at this; omega
theorem blSt_word (s : List UInt8) (h : s.all (fun c => !isBlank c) = true) : ∀ k, k < s.length → blSt s (k + 1) = ([], some 0) := by
  intro k
  induction k with
  | zero =>
    intro hk
    have hb : isBlank s[0] = false := by have := List.all_eq_true.1 h _ (List.getElem_mem hk); simpa using this
    have hg : (s[0]?.map isBlank).getD true = isBlank s[0] := by rw [List.getElem?_eq_getElem hk]; rfl
    simp only [blSt, hg, hb]; rfl
  | succ k ih =>
    intro hk
    have hb : isBlank s[k + 1] = false := by have := List.all_eq_true.1 h _ (List.getElem_mem hk); simpa using this
    have hg : (s[k + 1]?.map isBlank).getD true = isBlank s[k + 1] := by rw [List.getElem?_eq_getElem hk]; rfl
    rw [blSt]
    simp only [ih (by omega), hg, hb]; rfl
theorem blanks_word (s : List UInt8) (h : s.all (fun c => !isBlank c) = true) (hne : s ≠ []) : blanks s = [s] := by
  have hp := List.length_pos_iff.2 hne
  obtain ⟨k, hk⟩ : ∃ k, s.length = k + 1 := ⟨s.length - 1, by omega⟩
  have hg : (s[k + 1]?.map isBlank).getD true = true := by rw [List.getElem?_eq_none (by omega)]; rfl
  unfold blanks
  rw [hk, blSt]
  simp only [blSt_word s h k (by omega), hg, if_true]
  unfold cut
  rw [List.drop_zero, List.take_of_length_le (by omega)]; rfl

/-! ### trimmed -/
theorem dropWhile_idem {p : UInt8 → Bool} (l : List UInt8) : (l.dropWhile p).dropWhile p = l.dropWhile p := by
  induction l with
  | nil => rfl
  | cons c l ih =>
    rw [List.dropWhile_cons]
    by_cases h : p c = true
    · rw [if_pos h, ih]
    · rw [if_neg h, List.dropWhile_cons, if_neg h]
theorem dropWhile_skip {p : UInt8 → Bool} (a l : List UInt8) (h : a.all p = true) : (a ++ l).dropWhile p = l.dropWhile p := by
  induction a with
  | nil => rfl
  | cons c a ih =>
    rw [List.all_cons, Bool.and_eq_true] at h
    rw [List.cons_append, List.dropWhile_cons, if_pos h.1, ih h.2]
theorem trimR_idem (l : List UInt8) : trimR (trimR l) = trimR l := by
  unfold trimR; rw [List.reverse_reverse, dropWhile_idem]
theorem trimR_skipL (l b : List UInt8) (h : b.all isTB = true) : trimR (l ++ b) = trimR l := by
  unfold trimR; rw [List.reverse_append, dropWhile_skip _ _ (by rw [all_rev]; exact h)]
theorem trim_more (a s b : List UInt8) (ha : a.all isTB = true) (hb : b.all isTB = true) : trim (a ++ s ++ b) = trim s := by
  unfold trim
  rw [trimR_skipL _ _ hb]
  show trim (a ++ s) = trim s
  rw [← trim_comm, ← trim_comm]
  unfold trimL
  rw [dropWhile_skip _ _ ha]
theorem trim_idem (s : List UInt8) : trim (trim s) = trim s := by
  cases h : s.all isTB
  · obtain ⟨a, x, b, rfl, ha, hx⟩ := first_not s h
    rw [trim_at a x b ha hx]
    obtain ⟨r, h1, _⟩ := trimR_at [] x b hx
    have := trim_at [] x r rfl hx
    rw [h1]
    rw [List.nil_append] at this
    rw [this, ← h1, trimR_idem]
  · rw [trim_none s h]; rfl
theorem trim_ends (s : List UInt8) (hne : trim s ≠ []) : ∃ x y, (trim s)[0]? = some x ∧ (trim s)[(trim s).length - 1]? = some y ∧ isTB x = false ∧ isTB y = false := by
  cases h : s.all isTB
  · obtain ⟨a, x, b, rfl, ha, hx⟩ := first_not s h
    rw [trim_at a x b ha hx] at hne ⊢
    obtain ⟨r, h1, _⟩ := trimR_at [] x b hx
    have hl : ∃ q y, trimR (x :: b) = q ++ [y] ∧ isTB y = false := by
      unfold trimR
      cases hq : (List.dropWhile isTB (x :: b).reverse) with
      | nil => unfold trimR at hne; rw [hq] at hne; exact absurd rfl hne
      | cons y q =>
        refine ⟨q.reverse, y, by simp, ?_⟩
        have := List.head?_dropWhile_not isTB (x :: b).reverse
        rw [hq] at this
        simpa using this
    obtain ⟨q, y, h2, hy⟩ := hl
    refine ⟨x, y, by rw [h1]; rfl, ?_, hx, hy⟩
    rw [h2]; simp
  · exact absurd (trim_none s h) hne
end Go.Proofs.YtmidfabneioiiaaDoor.Asc
