/-
  How lines, bodies and chunks are fed; plain Lean.
  No condition.
-/
import Derived.Test.YtaihjnicondifaaDoorHtS
namespace Go.Proofs.YtaihjnicondifaaDoor.Asc
open Go Go.RowKit Go.Proofs.YtaihjnicondifaaDoor.Pb

/-- lines are read -/
def isLn (s : Int) : Bool := !(s == 2) && !(s == 4) && !(s == 5) && !(s == 6)
theorem isLn_out {s : Int} (h : isLn s = true) : (s == 2) = false ∧ (s == 4) = false ∧ (s == 5) = false ∧ (s == 6) = false := by
  unfold isLn at h
  cases h1 : s == 2 <;> cases h2 : s == 4 <;> cases h3 : s == 5 <;> cases h4 : s == 6 <;> simp_all
/-- what an end leaves -/
def endStep (r : PS × Option It) : PS × List It :=
  match r with
  | (q, none) => (q, [])
  | (q, some x) => if x.st == 0 then ({}, [x]) else ({ q with over := true }, [x])
theorem stepN_end (p : PS) (c : UInt8) (ho : p.over = false) : stepN p c = endStep (takeN p c) := by
  unfold stepN endStep
  rw [ho]; rfl
theorem takeN_ln (p : PS) (c : UInt8) (h : isLn p.state = true) : takeN p c = if (readN p c).st != 0 then ((readN p c).ps, some (badI (readN p c).st)) else if !(readN p c).ended then ((readN p c).ps, none) else endedN (readN p c).ps (readN p c).line := by
  obtain ⟨h2, h4, h5, h6⟩ := isLn_out h
  exact tk7 h2 h4 h5 h6
theorem step_in (p : PS) (c : UInt8) (ho : p.over = false) (hs : isLn p.state = true) (hc : p.cr = false) (h13 : c ≠ 13) (h10 : c ≠ 10) (hl : p.line.length < 8192) (hh : p.head + 1 ≤ 65536) :
    stepN p c = ({ p with head := p.head + 1, line := p.line ++ [c] }, []) := by
  have e1 : (c == 10) = false := beq_eq_false_iff_ne.2 h10
  have e2 : (c == 13) = false := beq_eq_false_iff_ne.2 h13
  have hr : readN p c = ⟨{ p with head := p.head + 1, line := p.line ++ [c] }, [], false, 0⟩ := by
    unfold readN
    rw [if_neg (by omega), hc, e1, e2]
    rw [if_neg (by decide), if_neg (by decide), if_neg (by decide), if_neg (by omega)]
  rw [stepN_end p c ho, takeN_ln p c hs, hr]
  rfl
theorem line_bytes (l : List UInt8) : ∀ (p : PS), p.over = false → isLn p.state = true → p.cr = false → (∀ c ∈ l, c ≠ 13 ∧ c ≠ 10) → p.line.length + l.length ≤ 8192 → p.head + l.length ≤ 65536 →
    feedN p l = ({ p with head := p.head + l.length, line := p.line ++ l }, []) := by
  induction l with
  | nil => intro p _ _ _ _ _ _; rw [feedN_nil]; simp
  | cons c l ih =>
    intro p ho hs hc hx hl hh
    rw [List.length_cons] at hl hh
    rw [feedN_cons, step_in p c ho hs hc (hx c (by simp)).1 (hx c (by simp)).2 (by omega) (by omega)]
    dsimp only
    rw [ih { p with head := p.head + 1, line := p.line ++ [c] } ho hs hc (fun c hc => hx c (by simp [hc])) (by dsimp only; rw [List.length_append, List.length_singleton]; omega) (by dsimp only; omega)]
    simp only [List.append_assoc, List.singleton_append, List.nil_append, List.length_cons]
    have e : p.head + 1 + (l.length : Int) = p.head + ((l.length + 1 : Nat) : Int) := by omega
    rw [e]
theorem line_end (p : PS) (ho : p.over = false) (hs : isLn p.state = true) (hc : p.cr = false) (hh : p.head + 2 ≤ 65536) :
    feedN p [13, 10] = endStep (endedN { p with head := p.head + 2, line := [], cr := false } p.line) := by
  have h1 : readN p 13 = ⟨{ p with head := p.head + 1, cr := true }, [], false, 0⟩ := by
    unfold readN
    rw [if_neg (by omega), hc]
    rfl
  have h2 : readN { p with head := p.head + 1, cr := true } 10 = ⟨{ p with head := p.head + 2, line := [], cr := false }, p.line, true, 0⟩ := by
    unfold readN
    rw [if_neg (by dsimp only; omega)]
    dsimp only
    rw [if_pos (show (true && (10 : UInt8) == 10) = true from rfl), show p.head + 1 + 1 = p.head + 2 by omega]
  rw [feedN_cons, stepN_end p 13 ho, takeN_ln p 13 hs, h1]
  have e : endStep (if (0 : Int) != 0 then (({ p with head := p.head + 1, cr := true } : PS), some (badI 0)) else if !false then ({ p with head := p.head + 1, cr := true }, none) else endedN { p with head := p.head + 1, cr := true } []) = ({ p with head := p.head + 1, cr := true }, []) := rfl
  dsimp only at e ⊢
  rw [e]
  dsimp only
  rw [feedN_cons, stepN_end { p with head := p.head + 1, cr := true } 10 ho, takeN_ln { p with head := p.head + 1, cr := true } 10 hs, h2, feedN_nil]
  dsimp only
  rw [if_neg (by decide), if_neg (by decide)]
  simp
theorem line_feed (l : List UInt8) (p : PS) (ho : p.over = false) (hs : isLn p.state = true) (hc : p.cr = false) (hp : p.line = []) (hx : ∀ c ∈ l, c ≠ 13 ∧ c ≠ 10) (hl : l.length ≤ 8192) (hh : p.head + l.length + 2 ≤ 65536) :
    feedN p (l ++ [13, 10]) = endStep (endedN { p with head := p.head + l.length + 2, line := [], cr := false } l) := by
  rw [feedN_app, line_bytes l p ho hs hc hx (by rw [hp]; simp; omega) (by omega)]
  dsimp only
  rw [line_end { p with head := p.head + l.length, line := p.line ++ l } ho hs hc (by dsimp only; omega)]
  dsimp only
  rw [hp, List.nil_append]
  simp
/-- bytes of a body -/
theorem body_feed (l : List UInt8) : ∀ (p : PS), p.over = false → p.state = 2 → p.left = l.length → l ≠ [] → feedN p l = ({}, [doneN { p with body := p.body ++ l, left := 0 }]) := by
  induction l with
  | nil => intro p _ _ _ h; exact absurd rfl h
  | cons c l ih =>
    intro p ho hs hl _
    rw [List.length_cons] at hl
    have hst : (p.state == 2) = true := by rw [hs]; rfl
    rw [feedN_cons, stepN_end p c ho]
    by_cases h0 : l = []
    · subst h0
      rw [tk2 hst (by simp at hl; omega)]
      have e : p.left - 1 = 0 := by simp at hl; omega
      rw [e]
      rfl
    · have hpos : 0 < l.length := List.length_pos_iff.2 h0
      rw [tk1 hst (by omega)]
      show ((feedN { p with body := p.body ++ [c], left := p.left - 1 } l).1, [] ++ (feedN { p with body := p.body ++ [c], left := p.left - 1 } l).2) = _
      rw [ih { p with body := p.body ++ [c], left := p.left - 1 } ho hs (by dsimp only; omega) h0]
      simp
/-- bytes of a chunk -/
theorem chunk_feed (l : List UInt8) : ∀ (p : PS), p.over = false → p.state = 4 → p.left = l.length → l ≠ [] → feedN p l = ({ p with body := p.body ++ l, left := 0, state := 5 }, []) := by
  induction l with
  | nil => intro p _ _ _ h; exact absurd rfl h
  | cons c l ih =>
    intro p ho hs hl _
    rw [List.length_cons] at hl
    have h2 : (p.state == 2) = false := by rw [hs]; rfl
    have h4 : (p.state == 4) = true := by rw [hs]; rfl
    rw [feedN_cons, stepN_end p c ho]
    by_cases h0 : l = []
    · subst h0
      rw [tk4 h2 h4 (by simp at hl; omega)]
      have e : p.left - 1 = 0 := by simp at hl; omega
      rw [e]
      rfl
    · have hpos : 0 < l.length := List.length_pos_iff.2 h0
      rw [tk3 h2 h4 (by omega)]
      show ((feedN { p with body := p.body ++ [c], left := p.left - 1 } l).1, [] ++ (feedN { p with body := p.body ++ [c], left := p.left - 1 } l).2) = _
      rw [ih { p with body := p.body ++ [c], left := p.left - 1 } ho hs (by dsimp only; omega) h0]
      simp

/-- letters -/
def letterN (n k : Nat) : List UInt8 := (List.range n).map fun i => UInt8.ofNat (97 + (i + k) % 26)
theorem letterN_len (n k : Nat) : (letterN n k).length = n := by simp [letterN]
theorem letterN_mem (n k : Nat) : ∀ c ∈ letterN n k, 97 ≤ c.toNat ∧ c.toNat ≤ 122 := by
  intro c hc
  unfold letterN at hc
  obtain ⟨i, _, rfl⟩ := List.mem_map.1 hc
  have : (i + k) % 26 < 26 := Nat.mod_lt _ (by decide)
  rw [UInt8.toNat_ofNat_of_lt' (by have h8 : UInt8.size = 256 := rfl; omega)]
  omega
theorem letterN_get (n k j : Nat) (h : j < n) : (letterN n k)[j]? = some (UInt8.ofNat (97 + (j + k) % 26)) := by
  simp [letterN, h]
theorem letterN_line (n k : Nat) : ∀ c ∈ letterN n k, c ≠ 13 ∧ c ≠ 10 := fun c hc => by
  have := (letterN_mem n k c hc).1
  constructor <;> (rintro rfl; revert this; decide)
end Go.Proofs.YtaihjnicondifaaDoor.Asc
