/-
  Plain law of equal fields: so many fields of the same name and so long a value. No program here.
-/
import Derived.Test.YtnjkoegepjhklaaDoorHdrT
namespace Go.Proofs.YtnjkoegepjhklaaDoor.Asc
open Go Go.RowKit Go.Proofs.YtnjkoegepjhklaaDoor.Pb

def acT : Tx := [65, 99, 99, 101, 112, 116]
def acL : Tx := [97, 99, 99, 101, 112, 116]
theorem acLow : lower acT = acL := by decide
theorem simple_ac (n : Nat) : simple acT (List.replicate n 97) = decide (n ≤ 128) := by
  unfold simple
  rw [acLow, show (acL == wAccept) = true by decide, if_pos rfl, List.length_replicate]
  have : (List.replicate n (97 : UInt8)).all isSafe = true := by
    rw [List.all_eq_true]; intro x hx; rw [List.eq_of_mem_replicate hx]; decide
  rw [this, Bool.and_true]
theorem sortU_rep (k : Nat) (x : Tx) : sortU (List.replicate k x) = if 0 < k then [x] else [] := by
  symm
  by_cases h : 0 < k
  · rw [if_pos h]
    refine sortU_of _ _ (by simp [Rise]) fun y => ?_
    rw [List.mem_replicate, List.mem_singleton]
    exact ⟨fun e => ⟨by omega, e⟩, fun e => e.2⟩
  · rw [if_neg h]
    obtain rfl : k = 0 := by omega
    exact sortU_of _ _ (by simp [Rise]) fun y => by simp
theorem uns_rep (k sz : Nat) : unsafeN (List.replicate k (acT, List.replicate sz 97)) = if 0 < k ∧ (128 < sz ∨ 1024 < k * sz) then [acL] else [] := by
  unfold unsafeN bads goods gsize
  by_cases h : sz ≤ 128
  · have hs : simple acT (List.replicate sz 97) = true := by rw [simple_ac]; exact decide_eq_true h
    have f1 : (List.replicate k (acT, List.replicate sz (97 : UInt8))).filter (fun f => !simple f.1 f.2) = [] := by
      rw [List.filter_eq_nil_iff]; intro f hf; rw [List.eq_of_mem_replicate hf]; simp [hs]
    have f2 : (List.replicate k (acT, List.replicate sz (97 : UInt8))).filter (fun f => simple f.1 f.2) = List.replicate k (acT, List.replicate sz 97) := by
      rw [List.filter_eq_self]; intro f hf; rw [List.eq_of_mem_replicate hf]; exact hs
    rw [f1, f2, List.map_replicate, List.map_replicate, List.sum_replicate_nat, acLow, List.length_replicate, List.map_nil, List.nil_append]
    by_cases hk : 1024 < k * sz
    · rw [if_pos hk, sortU_rep]
      by_cases h0 : 0 < k
      · rw [if_pos h0, if_pos ⟨h0, .inr hk⟩]
      · rw [if_neg h0, if_neg (fun e => h0 e.1)]
    · rw [if_neg hk, if_neg (by rintro ⟨_, e | e⟩; omega; exact hk e)]
      exact sortU_rep 0 []
  · have hs : simple acT (List.replicate sz 97) = false := by rw [simple_ac]; exact decide_eq_false h
    have f1 : (List.replicate k (acT, List.replicate sz (97 : UInt8))).filter (fun f => simple f.1 f.2) = [] := by
      rw [List.filter_eq_nil_iff]; intro f hf; rw [List.eq_of_mem_replicate hf]; simp [hs]
    have f2 : (List.replicate k (acT, List.replicate sz (97 : UInt8))).filter (fun f => !simple f.1 f.2) = List.replicate k (acT, List.replicate sz 97) := by
      rw [List.filter_eq_self]; intro f hf; rw [List.eq_of_mem_replicate hf]; simp [hs]
    rw [f1, f2, List.map_replicate, List.map_nil, List.map_nil, acLow, if_neg (by simp), sortU_rep]
    by_cases h0 : 0 < k
    · rw [if_pos h0, if_pos ⟨h0, .inl (by omega)⟩]
    · rw [if_neg h0, if_neg (fun e => h0 e.1)]

/-- so many small a, the first k of them written -/
def ltAt (n k : Nat) : List UInt8 := List.replicate k 97 ++ List.replicate (n - k) 0
theorem ltAt_len (n k : Nat) (h : k ≤ n) : (ltAt n k).length = n := by unfold ltAt; simp; omega
theorem ltAt_step (n k : Nat) (h : k < n) : (ltAt n (k + 1)).map u8v = ((ltAt n k).map u8v).set k (.int .u8 97) := by
  have e : ltAt n (k + 1) = (ltAt n k).set k 97 := by
    unfold ltAt
    rw [show n - k = (n - (k + 1)) + 1 by omega, List.replicate_succ (n := n - (k + 1)), List.set_append_right _ _ (by simp), List.length_replicate, Nat.sub_self, List.set_cons_zero, List.replicate_succ']
    simp
  rw [e, List.map_set]; rfl
theorem ltAt_get (n k : Nat) (h : k < n) : (ltAt n k)[k]? = some 0 := by
  unfold ltAt
  rw [List.getElem?_append_right (by simp), List.length_replicate, Nat.sub_self, show n - k = (n - (k + 1)) + 1 by omega, List.replicate_succ]; rfl
theorem ltAt_all (n : Nat) : ltAt n n = List.replicate n 97 := by simp [ltAt]
end Go.Proofs.YtnjkoegepjhklaaDoor.Asc
