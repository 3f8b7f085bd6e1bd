/-
  Plain: the lines behind a query's first one may stand in any order, each once.
  No condition.
-/
import Derived.Test.YtilpaopkhghicaaDoorAnS
namespace Go.Proofs.YtilpaopkhghicaaDoor.Asc
open Go Go.RowKit Go.Proofs.YtilpaopkhghicaaDoor.Pb

/-- "http://u/", "http://d/", "image", "PUT" -/
def tU : List UInt8 := [104, 116, 116, 112, 58, 47, 47, 117, 47]
def tD : List UInt8 := [104, 116, 116, 112, 58, 47, 47, 100, 47]
def tI : List UInt8 := [105, 109, 97, 103, 101]
def tP : List UInt8 := [80, 85, 84]
/-- the six lines, and their words -/
def ordW : Nat → List UInt8
  | 0 => wDoc ++ 32 :: tD
  | 1 => wDest ++ 32 :: tI
  | 2 => wMethod ++ 32 :: tP
  | 3 => wCors
  | 4 => wCreds
  | _ => wRedir ++ 32 :: [55]
def ordF : Nat → List UInt8
  | 0 => wDoc
  | 1 => wDest
  | 2 => wMethod
  | 3 => wCors
  | 4 => wCreds
  | _ => wRedir
def ordQ (o : List Nat) : Qr :=
  { url := tU, meth := if 2 ∈ o then tP else wGet, cors := decide (3 ∈ o), creds := decide (4 ∈ o), doc := if 0 ∈ o then tD else [], dest := if 1 ∈ o then tI else [], redir := if 5 ∈ o then 7 else 0 }
theorem ordF_inj {a b : Nat} (ha : a < 6) (hb : b < 6) (h : ordF a = ordF b) : a = b := by
  have : ∀ a < 6, ∀ b < 6, ordF a = ordF b → a = b := by decide
  exact this a ha b hb h
theorem ordF_no (o : List Nat) (k : Nat) (hk : k < 6) (ho : ∀ j ∈ o, j < 6) (h : k ∉ o) : ordF k ∉ wUrl :: o.map ordF := by
  intro hm
  rcases List.mem_cons.1 hm with hm | hm
  · have : ∀ k < 6, ordF k ≠ wUrl := by decide
    exact this k hk hm
  · obtain ⟨j, hj, e⟩ := List.mem_map.1 hm
    exact h (ordF_inj (ho j hj) hk e ▸ hj)
theorem ord_line (o : List Nat) (k : Nat) (hk : k < 6) (ho : ∀ j ∈ o, j < 6) (h : k ∉ o) : lineQ ⟨ordQ o, wUrl :: o.map ordF, false⟩ (ordW k) = ⟨ordQ (o ++ [k]), wUrl :: (o ++ [k]).map ordF, false⟩ := by
  have hn := ordF_no o k hk ho h
  match k, hk with
  | 0, _ =>
    show lineQ ⟨ordQ o, wUrl :: o.map ordF, false⟩ (wDoc ++ 32 :: tD) = _
    replace hn : wDoc ∉ wUrl :: o.map ordF := hn
    rw [lineQ_word _ _ _ (by decide), metN_new _ _ _ (by decide) hn, wD, show graphic tD = true from rfl]
    simp [ordQ, ordF, h]
  | 1, _ =>
    show lineQ ⟨ordQ o, wUrl :: o.map ordF, false⟩ (wDest ++ 32 :: tI) = _
    replace hn : wDest ∉ wUrl :: o.map ordF := hn
    rw [lineQ_word _ _ _ (by decide), metN_new _ _ _ (by decide) hn, wE, show graphic tI = true from rfl]
    simp [ordQ, ordF, h]
  | 2, _ =>
    show lineQ ⟨ordQ o, wUrl :: o.map ordF, false⟩ (wMethod ++ 32 :: tP) = _
    replace hn : wMethod ∉ wUrl :: o.map ordF := hn
    rw [lineQ_word _ _ _ (by decide), metN_new _ _ _ (by decide) hn, wM, show graphic tP = true from rfl]
    simp [ordQ, ordF, h]
  | 3, _ =>
    show lineQ ⟨ordQ o, wUrl :: o.map ordF, false⟩ (wCors) = _
    replace hn : wCors ∉ wUrl :: o.map ordF := hn
    rw [lineQ_bare _ _ (by decide), metN_new _ _ _ (by decide) hn, wC]
    simp [ordQ, ordF, h]
  | 4, _ =>
    show lineQ ⟨ordQ o, wUrl :: o.map ordF, false⟩ (wCreds) = _
    replace hn : wCreds ∉ wUrl :: o.map ordF := hn
    rw [lineQ_bare _ _ (by decide), metN_new _ _ _ (by decide) hn, wCr]
    simp [ordQ, ordF, h]
  | 5, _ =>
    show lineQ ⟨ordQ o, wUrl :: o.map ordF, false⟩ (wRedir ++ 32 :: [55]) = _
    replace hn : wRedir ∉ wUrl :: o.map ordF := hn
    rw [lineQ_word _ _ _ (by decide), metN_new _ _ _ (by decide) hn, wn6', show number [55] 2 = (7, true) by decide]
    simp [ordQ, ordF, h]
theorem ord_fold (o : List Nat) : ∀ a : List Nat, (a ++ o).Nodup → (∀ j ∈ a ++ o, j < 6) → (o.map ordW).foldl lineQ ⟨ordQ a, wUrl :: a.map ordF, false⟩ = ⟨ordQ (a ++ o), wUrl :: (a ++ o).map ordF, false⟩ := by
  induction o with
  | nil => intro a _ _; simp
  | cons k o ih =>
    intro a hn hl
    have hk : k ∉ a := fun h => by
      rw [List.nodup_append] at hn
      exact hn.2.2 k h k (by simp) rfl
    rw [List.map_cons, List.foldl_cons, ord_line a k (hl k (by simp)) (fun j hj => hl j (by simp [hj])) hk, ih (a ++ [k]) (by simpa using hn) (by simpa using hl)]
    simp
def urlL : List UInt8 := wUrl ++ 32 :: tU
theorem ord_url : lineQ {} urlL = ⟨ordQ [], [wUrl], false⟩ := by decide
/-- the lines: the first of the six may stand twice -/
def ordL (tw : Bool) : List Nat → List (List UInt8)
  | [] => [urlL]
  | k :: o => urlL :: ordW k :: ((if tw then [ordW k] else []) ++ o.map ordW)
theorem ordL_snoc (tw : Bool) (o : List Nat) (k : Nat) : ordL tw (o ++ [k]) = if o = [] then urlL :: ordW k :: (if tw then [ordW k] else []) else ordL tw o ++ [ordW k] := by
  cases o with
  | nil => simp [ordL]
  | cons a o => simp [ordL]
theorem ordW_no (k : Nat) : (10 : UInt8) ∉ ordW k ∧ (ordW k).length ≤ 13 := by
  unfold ordW
  split <;> exact ⟨by decide, by decide⟩
theorem ordL_no (tw : Bool) (o : List Nat) : ∀ l ∈ ordL tw o, (10 : UInt8) ∉ l := by
  intro l hl
  cases o with
  | nil => simp only [ordL, List.mem_singleton] at hl; rw [hl]; decide
  | cons k o =>
    simp only [ordL, List.mem_cons, List.mem_append, List.mem_map] at hl
    rcases hl with hl | hl | hl | ⟨j, _, hl⟩
    · rw [hl]; decide
    · rw [hl]; exact (ordW_no k).1
    · cases tw <;> simp at hl; rw [hl]; exact (ordW_no k).1
    · rw [← hl]; exact (ordW_no j).1
theorem ordL_read (o : List Nat) (hn : o.Nodup) (hl : ∀ j ∈ o, j < 6) : linesQ (ordL false o) = ⟨ordQ o, wUrl :: o.map ordF, false⟩ := by
  have : linesQ (ordL false o) = (o.map ordW).foldl lineQ ⟨ordQ [], [wUrl], false⟩ := by
    cases o with
    | nil => exact ord_url
    | cons k o => simp only [ordL, linesQ, List.foldl_cons, ord_url]; rfl
  rw [this]
  exact ord_fold o [] (by simpa using hn) (by simpa using hl)
theorem ordL_twice (k : Nat) (o : List Nat) (hk : k < 6) : (linesQ (ordL true (k :: o))).bad = true := by
  cases hb : (linesQ (ordL true (k :: o))).bad with
  | true => rfl
  | false =>
    have h1 : linesQ (ordL true (k :: o)) = (o.map ordW).foldl lineQ (lineQ (lineQ (lineQ {} urlL) (ordW k)) (ordW k)) := by simp [ordL, linesQ]
    rw [h1] at hb
    have h2 := fold_bad _ _ hb
    rw [ord_url] at h2
    have : ∀ k < 6, (lineQ (lineQ ⟨ordQ [], [wUrl], false⟩ (ordW k)) (ordW k)).bad = true := by decide
    rw [this k hk] at h2
    exact absurd h2 (by decide)
theorem join_len (ls : List (List UInt8)) (m : Nat) (h : ∀ l ∈ ls, l.length ≤ m) : (joinL ls).length ≤ ls.length * (m + 1) := by
  induction ls with
  | nil => simp [joinL]
  | cons l ls ih =>
    have h1 := ih fun x hx => h x (by simp [hx])
    have h2 := h l (by simp)
    have e : (joinL (l :: ls)).length = l.length + 1 + (joinL ls).length := by unfold joinL; simp; omega
    rw [e, List.length_cons, Nat.add_mul]
    omega
theorem ordL_len (tw : Bool) (o : List Nat) : (joinL (ordL tw o)).length ≤ (o.length + 2) * 14 := by
  refine Nat.le_trans (join_len _ 13 fun l hl => ?_) (Nat.mul_le_mul_right _ ?_)
  · cases o with
    | nil => simp only [ordL, List.mem_singleton] at hl; rw [hl]; decide
    | cons k o =>
      simp only [ordL, List.mem_cons, List.mem_append, List.mem_map] at hl
      rcases hl with hl | hl | hl | ⟨j, _, hl⟩
      · rw [hl]; decide
      · rw [hl]; exact (ordW_no k).2
      · cases tw <;> simp at hl; rw [hl]; exact (ordW_no k).2
      · rw [← hl]; exact (ordW_no j).2
  · cases o with
    | nil => simp [ordL]
    | cons k o => cases tw <;> simp [ordL]
theorem ordL_head (tw : Bool) (o : List Nat) : ∃ r, joinL (ordL tw o) = [117, 114, 108, 32] ++ r := by
  cases o with
  | nil => exact ⟨tU ++ [10], by cases tw <;> decide⟩
  | cons k o => exact ⟨tU ++ [10] ++ joinL ((ordL tw (k :: o)).drop 1), by simp [ordL, joinL, urlL, wUrl]⟩
theorem ord_query (o : List Nat) (hn : o.Nodup) (hl : ∀ j ∈ o, j < 6) (h6 : o.length ≤ 6) : queryN (joinL (ordL false o)) = (ordQ o, 0) := by
  obtain ⟨r, hr⟩ := ordL_head false o
  have h := ordL_len false o
  unfold queryN
  rw [if_neg (by
    rw [Bool.or_eq_true, not_or, decide_eq_true_eq]
    exact ⟨by omega, by rw [hr]; simp⟩), linesOf_join _ (ordL_no _ _), ordL_read o hn hl]
  rfl
theorem ord_twice (k : Nat) (o : List Nat) (hk : k < 6) : (queryN (joinL (ordL true (k :: o)))).2 = 8 := by
  unfold queryN
  split
  · rfl
  · rw [linesOf_join _ (ordL_no _ _), ordL_twice k o hk]
    rfl
theorem ord_cors (s : List UInt8) : (queryN ([99, 111, 114, 115, 10] ++ s)).2 = 8 := by
  unfold queryN
  rw [if_pos (by simp)]
end Go.Proofs.YtilpaopkhghicaaDoor.Asc
