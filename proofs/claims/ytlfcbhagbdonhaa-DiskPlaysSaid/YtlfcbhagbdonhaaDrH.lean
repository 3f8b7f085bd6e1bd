/-
  What the document's put and Rename come to, in plain Lean.
  No condition.
-/
import Derived.Test.YtlfcbhagbdonhaaDrG
namespace Go.Proofs.Ytlfcbhagbdonhaa.Asc
set_option linter.unusedSimpArgs false
set_option linter.unusedVariables false
open Go.Proofs.Ytlfcbhagbdonhaa.Pb

/-- a file stands where it belongs -/
theorem putF_mid (f : Fl) : ∀ {A B : List Fl}, (∀ a ∈ A, ¬ f.name < a.name) → (∀ x ∈ B, f.name < x.name) → putF (A ++ B) f = A ++ f :: B
  | [], [], _, _ => rfl
  | [], x :: B, _, hB => by
    show putF (x :: B) f = f :: x :: B
    unfold putF
    rw [if_pos (hB x (by simp))]
  | a :: A, B, hA, hB => by
    show putF (a :: (A ++ B)) f = a :: (A ++ f :: B)
    unfold putF
    rw [if_neg (hA a (by simp)), putF_mid f (fun x hx => hA x (List.mem_cons_of_mem _ hx)) hB]
/-- none ahead of the last one that is not behind it -/
theorem ord_last {A : List Fl} {y : Fl} {n : Tx} (h : Ord (A ++ [y])) (hy : ¬ n < y.name) : ∀ a ∈ A ++ [y], ¬ n < a.name := by
  intro a ha
  rcases List.mem_append.1 ha with ha | ha
  · intro hn
    have hp : List.Pairwise (· < ·) (names A ++ names [y]) := by have := h; unfold Ord names at this; rw [List.map_append] at this; exact this
    have := (List.pairwise_append.1 hp).2.2 a.name (List.mem_map.2 ⟨a, ha, rfl⟩) y.name (by simp [names])
    exact hy (List.lt_trans hn this)
  · rw [List.mem_singleton] at ha; rw [ha]; exact hy
/-- one step of put's loop -/
theorem swap_mid (A B : List Fl) (y f : Fl) : ((A ++ y :: f :: B).set (A.length + 1) y).set A.length f = A ++ f :: y :: B := by
  rw [List.set_append_right _ _ (by omega), Nat.add_sub_cancel_left]
  show (A ++ y :: y :: B).set A.length f = _
  rw [List.set_append_right _ _ (Nat.le_refl _), Nat.sub_self]; rfl
theorem get_mid (A B : List Fl) (y : Fl) : (A ++ y :: B)[A.length]? = some y := by simp
theorem get_mid1 (A B : List Fl) (y f : Fl) : (A ++ y :: f :: B)[A.length + 1]? = some f := by
  rw [List.getElem?_append_right (by omega), Nat.add_sub_cancel_left]; rfl
theorem split_last {A : List Fl} (h : A ≠ []) : ∃ A' y, A = A' ++ [y] := ⟨A.dropLast, A.getLast h, (List.dropLast_concat_getLast h).symm⟩
theorem pos_drop {fs : List Fl} (h : Ord fs) {n m : Tx} (hn : n ≠ m) : look (dropF fs n) m = look fs m := by rw [h.look_drop, if_neg fun e => hn e.symm]
/-- a file that is given its own name -/
theorem rename_same {fs : List Fl} (h : Ord fs) {n : Tx} {f : Fl} (hl : look fs n = some f) : putF (dropF (dropF fs n) n) { f with name := n } = fs := by
  have ho := (h.drop n).drop n
  have hnn : look (dropF (dropF fs n) n) n = none := by rw [(h.drop n).look_drop, if_pos rfl]
  refine (ho.put _ hnn).ext h fun m => ?_
  rw [ho.look_put _ hnn, (h.drop n).look_drop, h.look_drop]
  by_cases e : m = n
  · rw [if_pos e, e, hl]
    obtain ⟨_, h2⟩ := look_some hl
    cases f; cases h2; rfl
  · rw [if_neg e, if_neg e, if_neg e]
end Go.Proofs.Ytlfcbhagbdonhaa.Asc
