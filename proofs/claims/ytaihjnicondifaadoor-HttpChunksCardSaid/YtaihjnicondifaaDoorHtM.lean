/-
  A parser that was fed so many bytes is within bounds; plain Lean.
  No condition.
-/
import Derived.Test.YtaihjnicondifaaDoorHtL
namespace Go.Proofs.YtaihjnicondifaaDoor.Asc
open Go Go.RowKit Go.Proofs.YtaihjnicondifaaDoor.Pb

/-- within the bounds that so many bytes set -/
structure Fed (n : Nat) (p : PS) : Prop where
  hd : 0 ≤ p.head ∧ p.head ≤ n
  ln : p.line.length ≤ n
  fl : p.flds.length ≤ n
  fx : ∀ x ∈ p.flds, x.1.length ≤ n ∧ x.2.length ≤ n
  bd : p.body.length ≤ n
  lf : -(n : Int) ≤ p.left ∧ p.left ≤ 2097152
  sz : 0 ≤ p.sizes

theorem fed_zero : Fed 0 {} := ⟨by decide, by decide, by decide, by simp, by decide, by decide, by decide⟩
theorem Fed.mono {n m : Nat} {p : PS} (h : Fed n p) (hm : n ≤ m) : Fed m p :=
  ⟨⟨h.hd.1, by have := h.hd.2; omega⟩, Nat.le_trans h.ln hm, Nat.le_trans h.fl hm, fun x hx => ⟨Nat.le_trans (h.fx x hx).1 hm, Nat.le_trans (h.fx x hx).2 hm⟩, Nat.le_trans h.bd hm, ⟨by have := h.lf.1; omega, h.lf.2⟩, h.sz⟩

theorem readN_fed {n : Nat} {p : PS} (h : Fed n p) (c : UInt8) : Fed (n + 1) (readN p c).ps ∧ (readN p c).line.length ≤ n ∧ (readN p c).ps.over = p.over ∧ (readN p c).ps.sizes = p.sizes := by
  obtain ⟨⟨h1, h2⟩, h3, h4, h5, h6, ⟨h7, h8⟩, h9⟩ := h
  have h5' : ∀ x ∈ p.flds, x.1.length ≤ n + 1 ∧ x.2.length ≤ n + 1 := fun x hx => ⟨Nat.le_succ_of_le (h5 x hx).1, Nat.le_succ_of_le (h5 x hx).2⟩
  unfold readN
  repeat' split
  all_goals
    refine ⟨⟨⟨by dsimp only; omega, by dsimp only; omega⟩, ?_, by dsimp only; omega, h5', by dsimp only; omega, ⟨by dsimp only; omega, by dsimp only; omega⟩, h9⟩, ?_, rfl, rfl⟩
    all_goals first | (dsimp only; omega) | (simp; try omega)

theorem numOf_nonneg (l : List UInt8) (h : l.all isDig = true) : 0 ≤ numOf l := by
  have key : ∀ (l : List UInt8), l.all isDig = true → ∀ n : Int, 0 ≤ n → 0 ≤ l.foldl (fun n c => 10 * n + ((c.toNat : Int) - 48)) n := by
    intro l
    induction l with
    | nil => intro _ n h; exact h
    | cons c l ih =>
      intro h n hn
      simp only [List.all_cons, Bool.and_eq_true] at h
      have hc : 48 ≤ c.toNat := by
        have := h.1; unfold isDig at this; simp at this; omega
      exact ih h.2 _ (show 0 ≤ 10 * n + ((c.toNat : Int) - 48) by omega)
  exact key l h 0 (by omega)
theorem number_nonneg (l : List UInt8) (k : Int) : 0 ≤ (number l k).1 := by
  unfold number
  split
  · exact Int.le_refl _
  · rename_i h
    apply numOf_nonneg
    cases hd : l.all isDig with
    | true => rfl
    | false => rw [hd] at h; simp at h
theorem lengthN_range (l : List (List UInt8)) : 0 ≤ (lengthN l).1 ∧ (lengthN l).1 ≤ 1048576 := by
  unfold lengthN
  split
  · simp
  · rename_i x _
    have := number_nonneg (zerosOff x) 9
    repeat' split
    all_goals (dsimp only; omega)
theorem headedN_fed {n : Nat} {p : PS} (h : Fed n p) : Fed n (headedN p).1 ∧ (headedN p).1.over = p.over ∧ (headedN p).1.sizes = p.sizes := by
  obtain ⟨h0, h3, h4, h5, h6, h7, h9⟩ := h
  have hr := lengthN_range (listOf (valsN p lengthB))
  rw [headedF_eq]
  unfold headedF
  repeat' split
  all_goals exact ⟨⟨h0, h3, h4, h5, h6, by first | exact h7 | (dsimp only; omega), h9⟩, rfl, rfl⟩
theorem sizeN_fed {n : Nat} {p : PS} (h : Fed n p) (l : List UInt8) : Fed n (sizeN p l).1 ∧ (sizeN p l).1.over = p.over ∧ (p.sizes ≤ 1048576 → (sizeN p l).2 = none → (sizeN p l).1.sizes ≤ 1048576) := by
  obtain ⟨h0, h3, h4, h5, h6, h7, h9⟩ := h
  unfold sizeN
  split
  · exact ⟨⟨h0, h3, h4, h5, h6, h7, h9⟩, rfl, fun h _ => h⟩
  split
  · exact ⟨⟨h0, h3, h4, h5, h6, h7, h9⟩, rfl, fun h _ => h⟩
  · rename_i hany
    have hr := hexSum_range (sizeT l) (fun x hx => by
      rw [Bool.not_eq_true, List.any_eq_false] at hany
      have := hany x hx
      simp at this; omega)
    split
    · exact ⟨⟨h0, h3, h4, h5, h6, h7, by dsimp only; omega⟩, rfl, fun _ h => by cases h⟩
    · exact ⟨⟨h0, h3, h4, h5, h6, ⟨by dsimp only; omega, by dsimp only; omega⟩, by dsimp only; omega⟩, rfl, fun _ _ => by dsimp only; omega⟩
theorem fieldN_len (l : List UInt8) : (fieldN l).1.length ≤ l.length ∧ (fieldN l).2.length ≤ l.length := by
  unfold fieldN
  exact ⟨cut_le 58 l, Nat.le_trans (trim_len _) (cut2_le 58 l)⟩
theorem endedN_fed {n : Nat} {p : PS} (h : Fed n p) (l : List UInt8) (hl : l.length ≤ n) (hf : p.flds.length < n) : Fed n (endedN p l).1 ∧ (endedN p l).1.over = p.over ∧ (p.sizes ≤ 1048576 → (endedN p l).2 = none → (endedN p l).1.sizes ≤ 1048576) := by
  have h' := h
  obtain ⟨h0, h3, h4, h5, h6, h7, h9⟩ := h'
  unfold endedN
  split
  · split
    · exact ⟨⟨⟨by simp, by simp⟩, h3, h4, h5, h6, h7, h9⟩, rfl, fun h _ => h⟩
    split
    · exact ⟨⟨h0, h3, h4, h5, h6, h7, h9⟩, rfl, fun h _ => h⟩
    · exact ⟨⟨h0, h3, h4, h5, h6, h7, h9⟩, rfl, fun h _ => h⟩
  split
  · exact sizeN_fed h l
  split
  · split
    · exact ⟨h, rfl, fun h _ => h⟩
    · obtain ⟨a, b, c⟩ := headedN_fed h
      exact ⟨a, b, fun h _ => by rw [c]; exact h⟩
  split
  · exact ⟨h, rfl, fun h _ => h⟩
  split
  · refine ⟨⟨h0, h3, by simp; omega, fun x hx => ?_, h6, h7, h9⟩, rfl, fun h _ => h⟩
    rcases List.mem_append.1 hx with hx | hx
    · exact h5 x hx
    · rw [List.mem_singleton.1 hx]
      exact ⟨Nat.le_trans (fieldN_len l).1 hl, Nat.le_trans (fieldN_len l).2 hl⟩
  · exact ⟨h, rfl, fun h _ => h⟩
theorem takeN_fed {n : Nat} {p : PS} (h : Fed n p) (c : UInt8) : Fed (n + 1) (takeN p c).1 ∧ (takeN p c).1.over = p.over ∧ (p.sizes ≤ 1048576 → (takeN p c).2 = none → (takeN p c).1.sizes ≤ 1048576) := by
  have hm := h.mono (Nat.le_succ n)
  have hm' := hm
  obtain ⟨h0, h3, h4, h5, h6, h7, h9⟩ := hm'
  have h6' := h.bd
  have h7' := h.lf
  have hb : Fed (n + 1) { p with body := p.body ++ [c], left := p.left - 1 } := ⟨h0, h3, h4, h5, by simp; omega, ⟨by dsimp only; omega, by dsimp only; omega⟩, h9⟩
  unfold takeN
  split
  · dsimp only
    split
    · exact ⟨hb, rfl, fun h _ => h⟩
    split
    · exact ⟨hb, rfl, fun h _ => h⟩
    · exact ⟨⟨hb.hd, hb.ln, hb.fl, hb.fx, hb.bd, hb.lf, hb.sz⟩, rfl, fun h _ => h⟩
  split
  · exact ⟨⟨h0, h3, h4, h5, h6, h7, h9⟩, rfl, fun h _ => h⟩
  split
  · exact ⟨⟨h0, h3, h4, h5, h6, h7, h9⟩, rfl, fun h _ => h⟩
  obtain ⟨r1, r2, r3, r4⟩ := readN_fed h c
  have r5 := (readN_flds p c).1
  split
  · exact ⟨r1, r3, fun h _ => by rw [r4]; exact h⟩
  split
  · exact ⟨r1, r3, fun h _ => by rw [r4]; exact h⟩
  · obtain ⟨e1, e2, e3⟩ := endedN_fed r1 (readN p c).line (by omega) (by rw [r5]; have := h.fl; omega)
    exact ⟨e1, e2.trans r3, fun h => e3 (by rw [r4]; exact h)⟩
/-- a parser that is over holds what it held; one that isn't has chunks within bounds -/
structure Live (n : Nat) (p : PS) : Prop where
  fed : Fed n p
  sz : p.over = false → p.sizes ≤ 1048576
theorem live_zero (n : Nat) : Live n {} := ⟨fed_zero.mono (Nat.zero_le n), fun _ => by decide⟩
theorem Live.mono {n m : Nat} {p : PS} (h : Live n p) (hm : n ≤ m) : Live m p := ⟨h.fed.mono hm, h.sz⟩
theorem stepN_live {n : Nat} {p : PS} (h : Live n p) (c : UInt8) : Live (n + 1) (stepN p c).1 := by
  unfold stepN
  cases ho : p.over with
  | true => rw [if_pos rfl]; exact h.mono (Nat.le_succ n)
  | false =>
    rw [if_neg (by decide)]
    obtain ⟨t1, t2, t3⟩ := takeN_fed h.fed c
    have hs := h.sz ho
    rcases hr : takeN p c with ⟨q, _ | x⟩
    · rw [hr] at t1 t3
      exact ⟨t1, fun _ => t3 hs rfl⟩
    · rw [hr] at t1
      dsimp only
      cases hx : x.st == 0 with
      | true => rw [if_pos rfl]; exact live_zero _
      | false => rw [if_neg (by decide)]; exact ⟨⟨t1.hd, t1.ln, t1.fl, t1.fx, t1.bd, t1.lf, t1.sz⟩, fun h => by cases h⟩
theorem feedN_live (l : List UInt8) : ∀ {n : Nat} {p : PS}, Live n p → Live (n + l.length) (feedN p l).1 := by
  induction l with
  | nil => intro n p h; exact h
  | cons c l ih =>
    intro n p h
    rw [feedN_cons]
    have := ih (stepN_live h c)
    rw [List.length_cons, show n + (l.length + 1) = n + 1 + l.length by omega]; exact this
/-- so many Items at most as bytes -/
theorem stepN_len (p : PS) (c : UInt8) : (stepN p c).2.length ≤ 1 := by
  unfold stepN
  repeat' split
  all_goals simp
theorem feedN_len (l : List UInt8) : ∀ p, (feedN p l).2.length ≤ l.length := by
  induction l with
  | nil => intro p; simp [feedN_nil]
  | cons c l ih =>
    intro p
    rw [feedN_cons]
    have h1 := stepN_len p c
    have h2 := ih (stepN p c).1
    simp; omega
end Go.Proofs.YtaihjnicondifaaDoor.Asc
