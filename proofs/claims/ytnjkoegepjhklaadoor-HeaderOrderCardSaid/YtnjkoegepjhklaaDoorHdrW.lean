/-
  Plain law of lists: what stands between commas is trimmed; the list of the joined pieces is the pieces.
  No program here.
-/
import Derived.Test.YtnjkoegepjhklaaDoorHdrV
namespace Go.Proofs.YtnjkoegepjhklaaDoor.Asc
open Go Go.RowKit Go.Proofs.YtnjkoegepjhklaaDoor.Pb

def sepT : List UInt8 := [32, 44, 9]
def joinT : List Tx → Tx
  | [] => []
  | [x] => x
  | x :: y :: r => x ++ sepT ++ joinT (y :: r)
def Piece (x : Tx) : Prop := x ≠ [] ∧ (44 : UInt8) ∉ x ∧ trim x = x
theorem dropWhile_le {p : UInt8 → Bool} (l : List UInt8) : (l.dropWhile p).length ≤ l.length := (List.dropWhile_sublist p).length_le
theorem dropWhile_idem {p : UInt8 → Bool} (l : List UInt8) : (l.dropWhile p).dropWhile p = l.dropWhile p := by
  induction l with
  | nil => rfl
  | cons a l ih =>
    rw [List.dropWhile_cons]
    cases h : p a
    · simp [List.dropWhile_cons, h]
    · simpa using ih
theorem trimR_idem (l : List UInt8) : trimR (trimR l) = trimR l := by
  unfold trimR; rw [List.reverse_reverse, dropWhile_idem]
theorem trimR_snoc (l : List UInt8) (c : UInt8) (h : isTB c = true) : trimR (l ++ [c]) = trimR l := by
  unfold trimR
  rw [List.reverse_append]
  simp [List.dropWhile_cons, h]
theorem trim_idem (s : List UInt8) : trim (trim s) = trim s := by
  cases h : s.all isTB
  · obtain ⟨a, y, b, rfl, ha, hy⟩ := first_not s h
    rw [trim_at a y b ha hy]
    obtain ⟨r, h1, _⟩ := trimR_at [] y b hy
    have h2 := trim_at [] y r (by simp) hy
    rw [List.nil_append, ← h1] at h2
    rw [h2, trimR_idem]
  · rw [trim_none s h]; exact trim_none [] rfl
theorem piece_at (x : Tx) (h : Piece x) : ∃ y r, x = y :: r ∧ isTB y = false ∧ trimR x = x := by
  obtain ⟨h1, _, h3⟩ := h
  cases hs : x.all isTB
  · obtain ⟨a, y, b, rfl, ha, hy⟩ := first_not x hs
    rw [trim_at a y b ha hy] at h3
    obtain ⟨r, e1, _⟩ := trimR_at [] y b hy
    refine ⟨y, r, by rw [← h3, e1], hy, ?_⟩
    rw [← h3, trimR_idem]
  · rw [trim_none x hs] at h3; exact (h1 h3.symm).elim
theorem piece_trim (x q : Tx) (h : Piece x) (hq : q.all isTB = true) : trim (q ++ x) = x := by
  obtain ⟨y, r, rfl, hy, hr⟩ := piece_at x h
  rw [trim_at q y r hq hy, hr]
theorem piece_trim2 (x q : Tx) (h : Piece x) (hq : q.all isTB = true) : trim (q ++ x ++ [32]) = x := by
  obtain ⟨y, r, rfl, hy, hr⟩ := piece_at x h
  have e : q ++ y :: r ++ [32] = q ++ y :: (r ++ [32]) := by simp
  rw [e, trim_at q y _ hq hy, show y :: (r ++ [32]) = (y :: r) ++ [32] by simp, trimR_snoc _ _ rfl, hr]
theorem piece_last (x : Tx) (h : Piece x) (hl : x.length - 1 < x.length) : isTB (x[x.length - 1]'hl) = false := by
  obtain ⟨y, r, e, hy, hr⟩ := piece_at x h
  have h0 : x ≠ [] := h.1
  rw [← List.getLast_eq_getElem h0]
  have h1 : (x.reverse.dropWhile isTB) = x.reverse := by
    have := congrArg List.reverse hr
    unfold trimR at this
    rwa [List.reverse_reverse] at this
  have h2 : x.reverse ≠ [] := by simpa using h0
  have h3 : x.reverse = x.getLast h0 :: x.reverse.tail := by
    rw [← List.head_reverse h2]; exact (List.cons_head_tail h2).symm
  cases hb : isTB (x.getLast h0)
  · rfl
  · rw [h3, List.dropWhile_cons, if_pos hb] at h1
    have := congrArg List.length h1
    have h4 := dropWhile_le (p := isTB) x.reverse.tail
    simp only [List.length_cons] at this
    omega
theorem splitR_no (sep : UInt8) (l : List UInt8) : ∀ x ∈ splitR sep l, sep ∉ x := by
  induction l with
  | nil => intro x hx; simp [splitR] at hx; rw [hx]; simp
  | cons c l ih =>
    intro x hx
    unfold splitR at hx
    split at hx
    · rcases List.mem_cons.1 hx with rfl | hx
      · simp
      · exact ih x hx
    · rename_i hc
      cases hs : splitR sep l with
      | nil => exact (splitR_ne sep l hs).elim
      | cons a b =>
        rw [hs] at hx ih
        rcases List.mem_cons.1 hx with rfl | hx
        · intro h
          rcases List.mem_cons.1 h with h | h
          · simp [h] at hc
          · exact ih a (by simp) h
        · exact ih x (by simp [hx])
theorem mem_trim (s : List UInt8) (c : UInt8) (h : c ∈ trim s) : c ∈ s := by
  unfold trim trimL trimR at h
  have h1 := (List.dropWhile_sublist isTB).subset h
  rw [List.mem_reverse] at h1
  have h2 := (List.dropWhile_sublist isTB).subset h1
  rwa [List.mem_reverse] at h2
theorem listOf_piece (vs : List Tx) : ∀ x ∈ listOf vs, Piece x := by
  intro x hx
  unfold listOf at hx
  obtain ⟨v, _, hv⟩ := List.mem_flatMap.1 hx
  unfold someOf at hv
  obtain ⟨h1, h2⟩ := List.mem_filter.1 hv
  obtain ⟨p, hp, rfl⟩ := List.mem_map.1 h1
  refine ⟨by intro h; rw [h] at h2; simp at h2, ?_, trim_idem p⟩
  intro h
  rw [split_eq] at hp
  exact splitR_no 44 v p hp (mem_trim p 44 h)
theorem listOf_app (a b : List Tx) : listOf (a ++ b) = listOf a ++ listOf b := by
  unfold listOf; rw [List.flatMap_append]
theorem tb_no (q : Tx) (h : q.all isTB = true) : (44 : UInt8) ∉ q := by
  intro hm
  have := List.all_eq_true.1 h 44 hm
  simp [isTB] at this
theorem someOf_cons (x : Tx) (l : List Tx) (y : Tx) (h : trim x = y) (hy : y ≠ []) : someOf (x :: l) = y :: someOf l := by
  unfold someOf
  rw [List.map_cons, h, List.filter_cons]
  cases y with
  | nil => exact (hy rfl).elim
  | cons a b => simp
theorem join_law (l : List Tx) : ∀ (x q : Tx), Piece x → (∀ y ∈ l, Piece y) → q.all isTB = true → someOf (splitR 44 (q ++ joinT (x :: l))) = x :: l := by
  induction l with
  | nil =>
    intro x q hx _ hq
    show someOf (splitR 44 (q ++ x)) = [x]
    rw [splitR_none 44 _ (by rw [List.mem_append]; exact fun h => h.elim (tb_no q hq) hx.2.1)]
    rw [someOf_cons _ _ x (piece_trim x q hx hq) hx.1]; rfl
  | cons y l ih =>
    intro x q hx hl hq
    have e : q ++ joinT (x :: y :: l) = (q ++ x ++ [32]) ++ 44 :: ([9] ++ joinT (y :: l)) := by
      show q ++ (x ++ sepT ++ joinT (y :: l)) = _
      simp [sepT]
    rw [e, splitR_at 44 _ _ (by
      rw [List.mem_append, List.mem_append]
      rintro ((h | h) | h)
      · exact tb_no q hq h
      · exact hx.2.1 h
      · simp at h)]
    rw [someOf_cons _ _ x (piece_trim2 x q hx hq) hx.1]
    rw [ih y [9] (hl y (by simp)) (fun z hz => hl z (by simp [hz])) rfl]
theorem listOf_join (l : List Tx) (h : ∀ x ∈ l, Piece x) : listOf [joinT l] = l := by
  unfold listOf
  rw [List.flatMap_cons, List.flatMap_nil, List.append_nil, split_eq]
  cases l with
  | nil => rfl
  | cons x l =>
    have := join_law l x [] (h x (by simp)) (fun y hy => h y (by simp [hy])) rfl
    rwa [List.nil_append] at this
theorem joinT_app (l : List Tx) (x : Tx) : joinT (l ++ [x]) = joinT l ++ ((if l.length = 0 then [] else sepT) ++ x) := by
  induction l with
  | nil => rfl
  | cons y l ih =>
    cases l with
    | nil => simp [joinT]
    | cons z l =>
      have e : joinT (y :: z :: l ++ [x]) = y ++ sepT ++ joinT (z :: l ++ [x]) := rfl
      rw [e, ih]
      simp [joinT]
theorem joinT_snoc (l : List Tx) (k : Nat) (x : Tx) (h : l[k]? = some x) : joinT (l.take (k + 1)) = joinT (l.take k) ++ ((if k = 0 then [] else sepT) ++ x) := by
  have hk : k < l.length := by
    rcases Nat.lt_or_ge k l.length with h' | h'
    · exact h'
    · rw [List.getElem?_eq_none h'] at h; cases h
  rw [List.take_add_one, h]
  show joinT (l.take k ++ [x]) = _
  rw [joinT_app, List.length_take, Nat.min_eq_left (by omega)]
theorem sumLen_cons (x : Tx) (l : List Tx) : sumLen (x :: l) = x.length + 1 + sumLen l := by
  unfold sumLen; rw [List.map_cons, List.sum_cons]
theorem sumLen_app (a b : List Tx) : sumLen (a ++ b) = sumLen a + sumLen b := by
  unfold sumLen; rw [List.map_append, List.sum_append]
theorem sumLen_take (l : List Tx) (k : Nat) : sumLen (l.take k) ≤ sumLen l := by
  have := sumLen_app (l.take k) (l.drop k)
  rw [List.take_append_drop] at this; omega
theorem splitR_sum (sep : UInt8) (s : Tx) : sumLen (splitR sep s) = s.length + 1 := by
  induction s with
  | nil => simp [splitR, sumLen]
  | cons c l ih =>
    unfold splitR
    split
    · rw [sumLen_cons, ih, List.length_cons, List.length_nil]; omega
    · cases hs : splitR sep l with
      | nil => exact (splitR_ne sep l hs).elim
      | cons a b => rw [hs, sumLen_cons] at ih; simp only [sumLen_cons, List.length_cons]; omega
theorem someOf_sum (l : List Tx) : sumLen (someOf l) ≤ sumLen l := by
  induction l with
  | nil => simp [someOf, sumLen]
  | cons x l ih =>
    unfold someOf at *
    rw [List.map_cons, List.filter_cons]
    have := trim_len x
    split
    · rw [sumLen_cons, sumLen_cons]; omega
    · rw [sumLen_cons]; omega
theorem listOf_sum (vs : List Tx) : sumLen (listOf vs) ≤ sumLen vs := by
  induction vs with
  | nil => simp [listOf, sumLen]
  | cons v vs ih =>
    have h1 := someOf_sum (split v 44)
    rw [split_eq, splitR_sum, ← split_eq] at h1
    unfold listOf at *
    rw [List.flatMap_cons, sumLen_app, sumLen_cons]
    omega
theorem joinT_sum (l : List Tx) : (joinT l).length ≤ 3 * sumLen l := by
  induction l with
  | nil => simp [joinT]
  | cons x l ih =>
    cases l with
    | nil => simp only [joinT, sumLen_cons]; omega
    | cons y l =>
      show (x ++ sepT ++ joinT (y :: l)).length ≤ _
      rw [List.length_append, List.length_append, sumLen_cons]
      simp only [sepT, List.length_cons, List.length_nil]
      omega
theorem sumLen_total (l : List Tx) : sumLen l = total l := by
  unfold total totalAt
  rw [List.take_length]
  induction l with
  | nil => simp [sumLen]
  | cons x l ih => rw [sumLen_cons, ih, List.map_cons, List.sum_cons, List.length_cons]; omega
theorem toL_cat (a b : ByteArray) : toL (a ++ b) = toL a ++ toL b := by
  have := congrArg toL (ofL_append (toL a) (toL b)); rwa [toL_ofL, ofL_toL, ofL_toL] at this
end Go.Proofs.YtnjkoegepjhklaaDoor.Asc
