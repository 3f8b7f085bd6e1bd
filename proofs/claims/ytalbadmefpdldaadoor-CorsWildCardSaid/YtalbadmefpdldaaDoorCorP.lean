/-
  Plain laws of shares: what says more allows no less; a star. No program here.
-/
import Derived.Test.YtalbadmefpdldaaDoorCorD
namespace Go.Proofs.YtalbadmefpdldaaDoor.Asc
open Go Go.RowKit Go.Proofs.YtalbadmefpdldaaDoor.Pb

theorem imp_bool {a b : Bool} (h : a = true → b = true) : (!a || b) = true := by cases a <;> cases b <;> simp_all
theorem sameIn_more (x : Tx) (hs : List Tx) (h : Tx) (k : sameIn x hs = true) : sameIn x (hs ++ [h]) = true := by
  unfold sameIn at *
  rw [List.any_append, k]; rfl
theorem headOk_more (hs : List Tx) (h : Tx) (cr : Bool) (x : Tx) (k : headOk hs cr x = true) : headOk (hs ++ [h]) cr x = true := by
  unfold headOk at *
  rw [Bool.or_eq_true] at k ⊢
  rcases k with k | k
  · exact .inl (sameIn_more x hs h k)
  · simp only [Bool.and_eq_true, decide_eq_true_eq] at k ⊢
    exact .inr ⟨k.1, List.mem_append_left _ k.2⟩
theorem methOk_more (ms : List Tx) (m : Tx) (S : Tx) (cr : Bool) (k : methOk ms S cr = true) : methOk (ms ++ [m]) S cr = true := by
  unfold methOk at *
  simp only [Bool.or_eq_true, Bool.and_eq_true, decide_eq_true_eq] at k ⊢
  rcases k with (k | k) | k
  · exact .inl (.inl k)
  · exact .inl (.inr (List.mem_append_left _ k))
  · exact .inr ⟨k.1, List.mem_append_left _ k.2⟩
theorem allows_more (o : Tx) (ms hs : List Tx) (c : Bool) (S : Tx) (l : List Fd) (m h : Tx) (cr : Bool) (k : allowsN o ms hs c S l cr = true) : allowsN o (ms ++ [m]) (hs ++ [h]) c S l cr = true := by
  unfold allowsN at *
  simp only [Bool.and_eq_true, List.all_eq_true] at k ⊢
  obtain ⟨⟨k1, k2⟩, k3⟩ := k
  exact ⟨⟨k1, methOk_more ms m S cr k2⟩, fun x hx => headOk_more hs h cr x (k3 x hx)⟩

/-! a star -/
def quoT : Tx := [34]
theorem simple_quo (n : Tx) : simple n quoT = false := by
  unfold simple
  rw [show decide (quoT.length ≤ 128) = true by decide, Bool.true_and]
  have h1 : quoT.all isSafe = false := by decide
  have h2 : quoT.all isLang = false := by decide
  rw [h1, h2, Bool.false_and]
  split
  · rfl
  · split
    · rfl
    · split <;> rfl
theorem uns_quo (n : Tx) : unsafeN [(n, quoT)] = [lower n] := by
  unfold unsafeN
  have hb : bads [(n, quoT)] = [lower n] := by unfold bads; simp [simple_quo]
  have hg : gsize [(n, quoT)] = 0 := by unfold gsize; simp [simple_quo]
  rw [hb, hg, if_neg (by decide)]
  exact (sortU_of _ [lower n] (by simp [Rise]) (fun _ => Iff.rfl)).symm
theorem lower_star (n : Tx) : (lower starT == lower (lower n)) = (n == starT) := by
  have hll : lower (lower n) = lower n := by
    unfold lower
    rw [List.map_map]
    refine List.map_congr_left fun c _ => ?_
    show lowerB (lowerB c) = lowerB c
    unfold lowerB
    by_cases h : 65 ≤ c.toNat ∧ c.toNat ≤ 90
    · rw [if_pos h]
      have e : (c + 32).toNat = c.toNat + 32 := by rw [UInt8.toNat_add]; show (c.toNat + 32) % 256 = _; omega
      rw [if_neg (by omega)]
    · rw [if_neg h, if_neg h]
  rw [hll, show lower starT = [42] by decide, Bool.eq_iff_iff]
  simp only [beq_iff_eq]
  constructor
  · intro h
    unfold lower at h
    cases n with
    | nil => simp at h
    | cons c r =>
      simp only [List.map_cons, List.cons.injEq] at h
      obtain ⟨h1, h2⟩ := h
      have : r = [] := by simpa using h2.symm
      subst this
      unfold lowerB at h1
      by_cases hc : 65 ≤ c.toNat ∧ c.toNat ≤ 90
      · rw [if_pos hc] at h1
        have e : (c + 32).toNat = c.toNat + 32 := by rw [UInt8.toNat_add]; show (c.toNat + 32) % 256 = _; omega
        rw [← h1] at e
        have : (42 : UInt8).toNat = 42 := rfl
        omega
      · rw [if_neg hc] at h1
        rw [← h1]; rfl
  · rintro rfl; decide
theorem meth_star (M : Tx) : decide (methodN M ∈ [starT]) = (M == starT) := by
  rw [Bool.eq_iff_iff]
  simp only [decide_eq_true_eq, List.mem_singleton, beq_iff_eq]
  constructor
  · intro h
    unfold methodN at h
    split at h
    · rename_i h6
      rw [h] at h6
      exact absurd h6 (by decide)
    · exact h
  · rintro rfl; decide
def httpsA : Tx := [104, 116, 116, 112, 115, 58, 47, 47, 97]
theorem wild1 (M n : Tx) : allowsN httpsA [starT] [starT] true M [(n, quoT)] false = !(lower n == authT) := by
  unfold allowsN
  rw [uns_quo]
  have h1 : methOk [starT] M false = true := by unfold methOk; simp
  have h2 : headOk [starT] false (lower n) = !(lower n == authT) := by
    unfold headOk sameIn
    simp only [List.any_cons, List.any_nil, Bool.or_false]
    rw [lower_star]
    cases hs : (n == starT) with
    | true => rw [beq_iff_eq] at hs; subst hs; decide
    | false => simp
  rw [h1, List.all_cons, List.all_nil, h2]; simp
theorem wild2 (M : Tx) (hu : unsafeN [] = []) : allowsN httpsA [starT] [starT] true M [] false = true := by
  unfold allowsN
  have h1 : methOk [starT] M false = true := by unfold methOk; simp
  rw [h1, hu]; rfl
theorem wild3 (M : Tx) (hu : unsafeN [] = []) : allowsN httpsA [starT] [starT] true M [] true = (simpleM M || (M == starT)) := by
  unfold allowsN
  have h1 : methOk [starT] M true = (simpleM M || (M == starT)) := by unfold methOk; rw [meth_star]; simp
  rw [h1, hu, show (!(true && (!true || httpsA == starT))) = true by decide]; simp
theorem wild4 (M n : Tx) (h : (n == starT) = false) : allowsN httpsA [starT] [starT] true M [(n, quoT)] true = false := by
  unfold allowsN
  rw [uns_quo]
  have h2 : headOk [starT] true (lower n) = false := by
    unfold headOk sameIn
    simp only [List.any_cons, List.any_nil, Bool.or_false]
    rw [lower_star, h]; rfl
  rw [List.all_cons, h2]; simp
/-- the law's own loop -/
def sameAt (n : Tx) (k : Nat) : Bool := decide (n.length = 13) && ((lower n).take k == authT.take k)
theorem sameAt_zero (n : Tx) : sameAt n 0 = decide (n.length = 13) := by unfold sameAt; simp
theorem sameAt_succ (n : Tx) (k : Nat) (c : UInt8) (h : n[k]? = some c) (hk : k < 13) (ht : sameAt n k = true) : sameAt n (k + 1) = (authT[k]? == some (lowerB c)) := by
  unfold sameAt at *
  rw [Bool.and_eq_true] at ht
  obtain ⟨h1, h2⟩ := ht
  rw [h1, Bool.true_and]
  rw [beq_iff_eq] at h2
  have e1 : (lower n)[k]? = some (lowerB c) := by unfold lower; rw [List.getElem?_map, h]; rfl
  have e2 : authT[k]? = some (authT[k]'hk) := List.getElem?_eq_getElem hk
  rw [List.take_add_one, List.take_add_one, e1, e2, h2, Bool.eq_iff_iff]
  simp only [Option.toList, beq_iff_eq, List.append_cancel_left_eq, List.cons.injEq, and_true, Option.some.injEq]
  exact eq_comm
theorem sameAt_end (n : Tx) (k : Nat) (b : Bool) (hb : sameAt n k = b) (h : b = false ∨ n.length ≤ k) : b = (lower n == authT) := by
  have hl : (lower n).length = n.length := by simp [lower]
  subst hb
  rcases h with h | h
  · rw [h]
    symm
    rw [beq_eq_false_iff_ne]
    intro e
    have h13 : n.length = 13 := by rw [← hl, e]; rfl
    unfold sameAt at h
    rw [e, decide_eq_true h13] at h
    simp at h
  · unfold sameAt
    rw [List.take_of_length_le (by omega)]
    by_cases h13 : n.length = 13
    · rw [decide_eq_true h13, Bool.true_and, List.take_of_length_le (show authT.length ≤ k by show 13 ≤ k; omega)]
    · rw [decide_eq_false h13, Bool.false_and]
      symm
      rw [beq_eq_false_iff_ne]
      intro e
      exact h13 (by rw [← hl, e]; rfl)
end Go.Proofs.YtalbadmefpdldaaDoor.Asc
