/-
  Plain: what the document makes of a query's line.
  No condition.
-/
import Derived.Test.YtilpaopkhghicaaDoorAnT
namespace Go.Proofs.YtilpaopkhghicaaDoor.Asc
open Go Go.RowKit Go.Proofs.YtilpaopkhghicaaDoor.Pb

def begN (t s : List UInt8) : List UInt8 × Bool := if s.take t.length == t then (s.drop t.length, true) else ([], false)
theorem begN_app (t x : List UInt8) : begN t (t ++ x) = (x, true) := by
  unfold begN; rw [if_pos (by simp)]; simp
theorem begN_no (t s : List UInt8) (h : ∀ x, s ≠ t ++ x) : begN t s = ([], false) := by
  unfold begN
  rw [if_neg]
  intro e
  have : s.take t.length = t := by simpa using e
  exact h (s.drop t.length) (by conv => lhs; rw [← List.take_append_drop t.length s, this])
/-- a header's line, behind its word: is it one, and which -/
def fieldR (v : List UInt8) : Option Fd :=
  if (cutAt 58 v).1.length + 2 ≥ v.length || !(v[(cutAt 58 v).1.length + 1]? == some 32) then none else some (v.take (cutAt 58 v).1.length, v.drop ((cutAt 58 v).1.length + 2))
/-- what the document makes of a line: is it one, and the query with it -/
def wordR (q : Qr) (l : List UInt8) : Bool × Qr :=
  if l == wCors then (true, { q with cors := true })
  else if l == wCreds then (true, { q with creds := true })
  else if (begN (wUrl ++ [32]) l).2 then (graphic (begN (wUrl ++ [32]) l).1, { q with url := (begN (wUrl ++ [32]) l).1 })
  else if (begN (wDoc ++ [32]) l).2 then (graphic (begN (wDoc ++ [32]) l).1, { q with doc := (begN (wDoc ++ [32]) l).1 })
  else if (begN (wDest ++ [32]) l).2 then (graphic (begN (wDest ++ [32]) l).1, { q with dest := (begN (wDest ++ [32]) l).1 })
  else if (begN (wMethod ++ [32]) l).2 then (graphic (begN (wMethod ++ [32]) l).1, { q with meth := (begN (wMethod ++ [32]) l).1 })
  else if (begN (wRedir ++ [32]) l).2 then ((number (begN (wRedir ++ [32]) l).1 2).2, { q with redir := (number (begN (wRedir ++ [32]) l).1 2).1 })
  else if (begN (wHeader ++ [32]) l).2 then
    match fieldR (begN (wHeader ++ [32]) l).1 with
    | none => (false, q)
    | some f => (valid f.1 f.2, { q with hds := q.hds ++ [f] })
  else (false, q)

theorem beg_word {w x r : List UInt8} (h : (32 : UInt8) ∉ w) (hx : (32 : UInt8) ∉ x) (hne : w ≠ x) : begN (x ++ [32]) (w ++ 32 :: r) = ([], false) := by
  refine begN_no _ _ fun y e => hne ?_
  have h1 : cutAt 32 (w ++ 32 :: r) = (w, r) := cutAt_at 32 w r h
  rw [e, List.append_assoc] at h1
  have h2 : cutAt 32 (x ++ ([32] ++ y)) = (x, y) := cutAt_at 32 x y hx
  rw [h2] at h1
  exact (Prod.mk.inj h1).1.symm
theorem beg_bare {w x : List UInt8} (h : (32 : UInt8) ∉ w) : begN (x ++ [32]) w = ([], false) :=
  begN_no _ _ fun y e => h (by rw [e]; simp)
theorem beg_self {w r : List UInt8} : begN (w ++ [32]) (w ++ 32 :: r) = (r, true) := by
  have := begN_app (w ++ [32]) r
  rwa [List.append_assoc] at this
theorem word_ne {w r x : List UInt8} (hx : (32 : UInt8) ∉ x) : ((w ++ 32 :: r) == x) = false := by
  rw [beq_eq_false_iff_ne]; intro e; exact hx (by rw [← e]; simp)

/-- the document's reading of a header agrees with the program's -/
theorem field_agree (q : Qr) (met : List (List UInt8)) (r : List UInt8) :
    (∀ f, fieldR r = some f → valid f.1 f.2 = true → headN ⟨q, met, false⟩ r = ⟨{ q with hds := q.hds ++ [f] }, met, false⟩) ∧
    (∀ f, fieldR r = some f → valid f.1 f.2 = false → (headN ⟨q, met, false⟩ r).bad = true) ∧
    (fieldR r = none → (headN ⟨q, met, false⟩ r).bad = true) := by
  rcases cut_ways 58 r with h | ⟨a, b, rfl, h⟩
  · -- no colon
    have hn : fieldR r = none := by
      unfold fieldR
      rw [cutAt_none 58 r h, if_pos (by simp)]
    have hb : (headN ⟨q, met, false⟩ r).bad = true := by
      unfold headN
      rcases cut2_ways r with ⟨hc, _⟩ | ⟨a, b, rfl, _⟩
      · rw [hc]; simp
      · exact (h (by simp)).elim
    rw [hn]
    exact ⟨fun f e => (by cases e), fun f e => (by cases e), fun _ => hb⟩
  · have hcut : cutAt 58 (a ++ 58 :: b) = (a, b) := cutAt_at 58 a b h
    by_cases hb32 : ∃ b', b = 32 :: b'
    · obtain ⟨b', rfl⟩ := hb32
      have hc := cut2_at a b' h
      cases b' with
      | nil =>
        have hn : fieldR (a ++ 58 :: 32 :: []) = none := by
          unfold fieldR
          rw [hcut, if_pos (by simp)]
        have hb : (headN ⟨q, met, false⟩ (a ++ 58 :: 32 :: [])).bad = true := by
          unfold headN
          rw [hc]; simp
        rw [hn]
        exact ⟨fun f e => (by cases e), fun f e => (by cases e), fun _ => hb⟩
      | cons c b' =>
        have hs : fieldR (a ++ 58 :: 32 :: c :: b') = some (a, c :: b') := by
          unfold fieldR
          rw [hcut]
          dsimp only
          have e1 : (a ++ 58 :: 32 :: c :: b')[a.length + 1]? = some 32 := by
            rw [List.getElem?_append_right (by omega)]
            simp
          rw [e1, if_neg (by simp)]
          simp [List.drop_append]
        have hh : headN ⟨q, met, false⟩ (a ++ 58 :: 32 :: c :: b') = ⟨{ q with hds := q.hds ++ [(a, c :: b')] }, met, !valid a (c :: b')⟩ := by
          unfold headN
          rw [hc]; simp
        rw [hs]
        refine ⟨fun f e hv => ?_, fun f e hv => ?_, fun e => (by cases e)⟩
        · cases e; rw [hh]; dsimp only at hv; rw [hv]; rfl
        · cases e; rw [hh]; dsimp only at hv; rw [hv]; rfl
    · have hn : fieldR (a ++ 58 :: b) = none := by
        unfold fieldR
        rw [hcut]
        dsimp only
        have e1 : ((a ++ 58 :: b)[a.length + 1]? == some 32) = false := by
          rw [List.getElem?_append_right (by omega), beq_eq_false_iff_ne]
          intro e
          cases b with
          | nil => simp at e
          | cons x b => simp at e; exact hb32 ⟨b, by rw [e]⟩
        rw [if_pos (by rw [e1]; simp)]
      have hb : (headN ⟨q, met, false⟩ (a ++ 58 :: b)).bad = true := by
        unfold headN
        rcases cut2_ways (a ++ 58 :: b) with ⟨hc, _⟩ | ⟨a', b', he, hc⟩
        · rw [hc]; simp
        · rw [hc]
          have hm : (58 : UInt8) ∈ a' := by
            by_cases hm : (58 : UInt8) ∈ a'
            · exact hm
            · have h1 : cutAt 58 (a' ++ 58 :: 32 :: b') = (a', 32 :: b') := cutAt_at 58 a' _ hm
              rw [← he, hcut] at h1
              exact (hb32 ⟨b', (Prod.mk.inj h1).2⟩).elim
          have : valid a' b' = false := by unfold valid; rw [tok_colon hm]; rfl
          simp [this]
      rw [hn]
      exact ⟨fun f e => (by cases e), fun f e => (by cases e), fun _ => hb⟩

set_option maxHeartbeats 4000000 in
theorem word_agree (q : Qr) (met : List (List UInt8)) (l : List UInt8) :
    ((wordR q l).1 = true → wordN ⟨q, met, false⟩ (cutAt 32 l).1 (cutAt 32 l).2 (l.contains 32) = ⟨(wordR q l).2, met, false⟩) ∧
    ((wordR q l).1 = false → (wordN ⟨q, met, false⟩ (cutAt 32 l).1 (cutAt 32 l).2 (l.contains 32)).bad = true) := by
  rcases cut_ways 32 l with h | ⟨w, r, rfl, h⟩
  · rw [cutAt_none 32 l h, show l.contains 32 = false by simpa using h]
    unfold wordR
    rw [beg_bare h, beg_bare h, beg_bare h, beg_bare h, beg_bare h, beg_bare h]
    dsimp only
    by_cases h4 : (l == wCors) = true
    · have e : l = wCors := by simpa using h4
      subst e
      rw [wn4 (by decide) (by decide) (by decide) (by decide) (by decide), if_pos h4]
      exact ⟨fun _ => rfl, fun e => by cases e⟩
    rw [if_neg h4]
    by_cases h5 : (l == wCreds) = true
    · have e : l = wCreds := by simpa using h5
      subst e
      rw [wn5 (by decide) (by decide) (by decide) (by decide) (by decide) (by decide), if_pos h5]
      exact ⟨fun _ => rfl, fun e => by cases e⟩
    rw [if_neg h5]
    simp only [Bool.false_eq_true, if_false]
    refine ⟨fun e => (by cases e), fun _ => ?_⟩
    unfold wordN
    rw [if_neg h4, if_neg h5]
    repeat' split
    all_goals first | (simp; done) | (simp [number]; done) | (unfold headN; simp [Lib.cut, Lib.index]; done) | rfl
  · rw [cutAt_at 32 w r h, show (w ++ 32 :: r).contains 32 = true by simp]
    dsimp only
    unfold wordR
    rw [word_ne (by decide), word_ne (by decide)]
    simp only [Bool.false_eq_true, if_false]
    by_cases h0 : w = wUrl
    · subst h0
      rw [wn0 (by decide), beg_self]
      simp only [if_true, setQ]
      cases hg : graphic r <;> simp
    rw [beg_word h (by decide) h0]
    simp only [Bool.false_eq_true, if_false]
    by_cases h1 : w = wDoc
    · subst h1
      rw [wn1 (by decide) (by decide), beg_self]
      simp only [if_true, setQ]
      cases hg : graphic r <;> simp
    rw [beg_word h (by decide) h1]
    simp only [Bool.false_eq_true, if_false]
    by_cases h2 : w = wDest
    · subst h2
      rw [wn2 (by decide) (by decide) (by decide), beg_self]
      simp only [if_true, setQ]
      cases hg : graphic r <;> simp
    rw [beg_word h (by decide) h2]
    simp only [Bool.false_eq_true, if_false]
    by_cases h3 : w = wMethod
    · subst h3
      rw [wn3 (by decide) (by decide) (by decide) (by decide), beg_self]
      simp only [if_true, setQ]
      cases hg : graphic r <;> simp
    rw [beg_word h (by decide) h3]
    simp only [Bool.false_eq_true, if_false]
    by_cases h6 : w = wRedir
    · subst h6
      rw [wn6', beg_self]
      simp only [if_true]
      cases hg : (number r 2).2 <;> simp
    rw [beg_word h (by decide) h6]
    simp only [Bool.false_eq_true, if_false]
    by_cases h7 : w = wHeader
    · subst h7
      rw [wn7 (by decide) (by decide) (by decide) (by decide) (by decide) (by decide) (by decide) (by decide), beg_self]
      simp only [if_true]
      obtain ⟨k1, k2, k3⟩ := field_agree q met r
      cases hf : fieldR r with
      | none => exact ⟨fun e => (by cases e), fun _ => k3 hf⟩
      | some f => exact ⟨k1 f hf, k2 f hf⟩
    rw [beg_word h (by decide) h7]
    simp only [Bool.false_eq_true, if_false]
    refine ⟨fun e => (by cases e), fun _ => ?_⟩
    unfold wordN
    repeat' split
    all_goals first | (simp; done) | (exfalso; simp_all; done) | rfl
end Go.Proofs.YtilpaopkhghicaaDoor.Asc
