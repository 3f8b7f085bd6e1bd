/-
  How much a line and a head may have, in plain Lean.
  No condition.
-/
import Derived.Test.YtaihjnicondifaaDoorHtLd
namespace Go.Proofs.YtaihjnicondifaaDoor.Asc
open Go Go.RowKit Go.Proofs.YtaihjnicondifaaDoor.Pb

/-- one Item of that status; over or not -/
def OneIs (r : PS × List It) (n : Int) (o : Bool) : Prop := (∃ x : It, r.2 = [x] ∧ x.st = n) ∧ r.1.over = o
theorem one_behind {p q : PS} {a b : List UInt8} {n : Int} (h : feedN p a = (q, [])) (k : OneIs (feedN q b) n true) : OneIs (feedN p (a ++ b)) n true := by
  rw [feedN_app, h]
  exact ⟨by simpa using k.1, k.2⟩
theorem one_go {p q : PS} {a b : List UInt8} {n : Int} {o : Bool} (h : feedN p a = (q, [])) (k : OneIs (feedN q b) n o) : OneIs (feedN p (a ++ b)) n o := by
  rw [feedN_app, h]
  exact ⟨by simpa using k.1, k.2⟩
theorem one_more {p : PS} {a b : List UInt8} {n : Int} (h : OneIs (feedN p a) n true) : OneIs (feedN p (a ++ b)) n true := by
  rw [feedN_app, feedN_over b _ h.2]
  exact ⟨by simpa using h.1, h.2⟩
/-- a byte too much in a head -/
theorem head_over (p : PS) (c : UInt8) (ho : p.over = false) (hs : isLn p.state = true) (hh : p.head ≥ 65536) : OneIs (feedN p [c]) 431 true := by
  have hr : readN p c = ⟨{ p with head := p.head + 1 }, [], false, 431⟩ := by
    unfold readN; rw [if_pos (by omega)]
  rw [feedN_cons, stepN_end p c ho, takeN_ln p c hs, hr, feedN_nil]
  exact ⟨⟨badI 431, rfl, rfl⟩, rfl⟩
/-- a byte too much in a line -/
theorem line_over (p : PS) (c : UInt8) (ho : p.over = false) (hs : isLn p.state = true) (hc : p.cr = false) (h13 : c ≠ 13) (h10 : c ≠ 10) (hl : p.line.length ≥ 8192) : OneIs (feedN p [c]) 431 true := by
  have e1 : (c == 10) = false := beq_eq_false_iff_ne.2 h10
  have e2 : (c == 13) = false := beq_eq_false_iff_ne.2 h13
  have hr : readN p c = ⟨{ p with head := p.head + 1 }, [], false, 431⟩ := by
    unfold readN
    by_cases hh : p.head + 1 > 65536
    · rw [if_pos hh]
    · rw [if_neg hh, hc, e1, e2, if_neg (by decide), if_neg (by decide), if_neg (by decide), if_pos hl]
  rw [feedN_cons, stepN_end p c ho, takeN_ln p c hs, hr, feedN_nil]
  exact ⟨⟨badI 431, rfl, rfl⟩, rfl⟩
theorem line_long (l : List UInt8) (p : PS) (ho : p.over = false) (hs : isLn p.state = true) (hc : p.cr = false) (hp : p.line = []) (hx : ∀ c ∈ l, c ≠ 13 ∧ c ≠ 10) (hl : 8192 < l.length) (hh : p.head + 8192 ≤ 65536) : OneIs (feedN p l) 431 true := by
  have e : l = l.take 8192 ++ ([l[8192]] ++ l.drop 8193) := by
    rw [List.singleton_append, ← List.drop_eq_getElem_cons hl, List.take_append_drop]
  have hlt : (l.take 8192).length = 8192 := by rw [List.length_take]; omega
  rw [e]
  refine one_behind (line_bytes (l.take 8192) p ho hs hc (fun c hc => hx c (List.mem_of_mem_take hc)) (by rw [hp, hlt]; decide) (by rw [hlt]; exact hh)) ?_
  refine one_more (line_over _ _ ho hs hc (hx _ (List.getElem_mem hl)).1 (hx _ (List.getElem_mem hl)).2 ?_)
  dsimp only
  rw [hp, List.nil_append, hlt]; exact Nat.le_refl _

theorem ltr_facts (n k : Nat) : (∀ c ∈ letterN n k, isTB c = false ∧ isCtl c = false) ∧ (letterN n k).all (fun c => decide (33 ≤ c.toNat) && decide (c.toNat ≤ 126)) = true ∧ (32 : UInt8) ∉ letterN n k := by
  refine ⟨fun c hc => ?_, List.all_eq_true.2 fun c hc => ?_, fun hc => ?_⟩
  · have := letterN_mem n k c hc
    exact ⟨by unfold isTB; simp; omega, by unfold isCtl; simp; omega⟩
  · have := letterN_mem n k c hc
    simp; omega
  · have := (letterN_mem n k 32 hc).1
    revert this; decide

/-- "GET", "Host" -/
def getB : List UInt8 := [71, 69, 84]
def hostC : List UInt8 := [72, 111, 115, 116]
def preG : List UInt8 := [71, 69, 84, 32, 47, 32, 72, 84, 84, 80, 47, 49, 46, 49, 13, 10, 72, 111, 115, 116, 58, 32, 97, 13, 10]
def psG : PS := { head := 25, state := 1, meth := getB, path := [47], flds := [(hostC, [97])], digit := 49 }
theorem pre_feed : feedN {} preG = (psG, []) := by decide +kernel

/-- a head whose fields are a Host, and others that say nothing -/
structure Plain (p : PS) : Prop where
  ov : p.over = false
  st : p.state = 1
  cr : p.cr = false
  ln : p.line = []
  fl : ∃ fs : List Fd, p.flds = (hostC, [97]) :: fs ∧ ∀ f ∈ fs, f.1 = [88]
theorem plain_vals (fs : List Fd) (hf : ∀ f ∈ fs, f.1 = [88]) (n : List UInt8) (hn : sameIn [88] [n] = false) : values ((hostC, [97]) :: fs) [n] = if sameIn hostC [n] = true then [[97]] else [] := by
  have : fs.filter (fun f => sameIn f.1 [n]) = [] := List.filter_eq_nil_iff.2 fun f h => by rw [hf f h, hn]; decide
  unfold values
  rw [List.filter_cons, this]
  split <;> rfl
/-- the end of such a head -/
theorem plain_end (p : PS) (h : Plain p) (hh : p.head + 2 ≤ 65536) : OneIs (feedN p [13, 10]) 0 false := by
  obtain ⟨h1, h2, h3, h4, fs, h5, h6⟩ := h
  have e : ∀ q : PS, q.state = 1 → q.flds = (hostC, [97]) :: fs → endedN q [] = (q, some (doneN q)) := fun q hs hf => by
    rw [en6 (by rw [hs]; rfl) (by rw [hs]; rfl) rfl (by rw [hs]; rfl)]
    have v1 : valsN q hostB = [[97]] := by unfold valsN; rw [hf, plain_vals fs h6 hostB (by decide +kernel), if_pos (by decide +kernel)]
    have v2 : valsN q codingB = [] := by unfold valsN; rw [hf, plain_vals fs h6 codingB (by decide +kernel), if_neg (by decide +kernel)]
    have v3 : valsN q lengthB = [] := by unfold valsN; rw [hf, plain_vals fs h6 lengthB (by decide +kernel), if_neg (by decide +kernel)]
    rw [headedF_eq, v1, v2, v3]
    exact hd8 (hn := 1) (cn := 0) (sn := 0) rfl (by decide) (by decide)
  rw [line_end p h1 (by rw [h2]; rfl) h3 hh, h4, e { p with head := p.head + 2, line := [], cr := false } h2 h5]
  exact ⟨⟨doneN _, rfl, rfl⟩, rfl⟩
/-- a field "X: .." more -/
theorem field_x (V : List UInt8) (hv : ∀ c ∈ V, isTB c = false ∧ isCtl c = false) : fieldN (88 :: 58 :: 32 :: V) = ([88], V) ∧ fieldOk (88 :: 58 :: 32 :: V) = true := by
  by_cases h : V = []
  · subst h; decide +kernel
  · exact field_of [88] V (by decide +kernel) (by decide) h hv
theorem x_line (n : Nat) : ∀ c ∈ (88 :: 58 :: 32 :: letterN n 0 : List UInt8), c ≠ 13 ∧ c ≠ 10 := fun c hc => by
  rcases List.mem_cons.1 hc with rfl | hc
  · decide
  rcases List.mem_cons.1 hc with rfl | hc
  · decide
  rcases List.mem_cons.1 hc with rfl | hc
  · decide
  exact letterN_line n 0 c hc
theorem plain_field (p : PS) (h : Plain p) (n : Nat) (hn : n ≤ 8189) (hh : p.head + n + 5 ≤ 65536) : ∃ q, feedN p ((88 :: 58 :: 32 :: letterN n 0) ++ [13, 10]) = (q, []) ∧ Plain q ∧ q.head = p.head + n + 5 := by
  obtain ⟨h1, h2, h3, h4, fs, h5, h6⟩ := h
  obtain ⟨f1, f2⟩ := field_x (letterN n 0) (ltr_facts n 0).1
  have hl : (88 :: 58 :: 32 :: letterN n 0 : List UInt8).length = n + 3 := by simp [letterN_len]
  rw [line_feed _ p h1 (by rw [h2]; rfl) h3 h4 (x_line n) (by rw [hl]; omega) (by rw [hl]; omega), hl]
  have e : ∀ q : PS, q.state = 1 → endedN q (88 :: 58 :: 32 :: letterN n 0) = ({ q with flds := q.flds ++ [([88], letterN n 0)] }, none) := fun q hs => by
    rw [en8 (by rw [hs]; rfl) (by rw [hs]; rfl) rfl f2 (by rw [hs]; rfl), f1]
  rw [e { p with head := p.head + ((n + 3 : Nat) : Int) + 2, line := [], cr := false } h2]
  refine ⟨_, rfl, ⟨h1, h2, rfl, rfl, fs ++ [([88], letterN n 0)], ?_, fun f hf => ?_⟩, ?_⟩
  · dsimp only; rw [h5]; rfl
  · rcases List.mem_append.1 hf with hf | hf
    · exact h6 f hf
    · rw [List.mem_singleton.1 hf]
  · dsimp only; omega
theorem psG_plain : Plain psG := ⟨rfl, rfl, rfl, rfl, [], rfl, fun f h => by cases h⟩

/-! ### the three limits -/
/-- a request's line -/
def limA (n : Nat) : List UInt8 := ([71, 69, 84, 32, 47] ++ letterN n 0) ++ [32, 72, 84, 84, 80, 47, 49, 46, 49, 13, 10, 72, 111, 115, 116, 58, 32, 97, 13, 10, 13, 10]
theorem lim_a (n : Nat) (hn : n ≤ 9000) : OneIs (feedN {} (limA n)) (if n ≤ 8178 then 0 else 431) (decide (¬ n ≤ 8178)) := by
  have e : limA n = ([71, 69, 84, 32, 47] ++ letterN n 0 ++ [32, 72, 84, 84, 80, 47, 49, 46, 49]) ++ ([13, 10] ++ ([72, 111, 115, 116, 58, 32, 97] ++ [13, 10] ++ [13, 10])) := by simp [limA]
  obtain ⟨t1, t2, t3⟩ := ltr_facts n 0
  have hx : ∀ c ∈ ([71, 69, 84, 32, 47] ++ letterN n 0 ++ [32, 72, 84, 84, 80, 47, 49, 46, 49] : List UInt8), c ≠ 13 ∧ c ≠ 10 := fun c hc => by
    rcases List.mem_append.1 hc with hc | hc
    · rcases List.mem_append.1 hc with hc | hc
      · have key : ∀ c ∈ ([71, 69, 84, 32, 47] : List UInt8), c ≠ 13 ∧ c ≠ 10 := by decide
        exact key c hc
      · exact letterN_line n 0 c hc
    · have key : ∀ c ∈ ([32, 72, 84, 84, 80, 47, 49, 46, 49] : List UInt8), c ≠ 13 ∧ c ≠ 10 := by decide
      exact key c hc
  have hl : ([71, 69, 84, 32, 47] ++ letterN n 0 ++ [32, 72, 84, 84, 80, 47, 49, 46, 49] : List UInt8).length = n + 14 := by simp [letterN_len]
  rw [e]
  by_cases h : n ≤ 8178
  · rw [if_pos h, show decide (¬ n ≤ 8178) = false from decide_eq_false (by omega)]
    have hc : cutAt 32 ([71, 69, 84, 32, 47] ++ letterN n 0 ++ [32, 72, 84, 84, 80, 47, 49, 46, 49]) = (getB, 47 :: letterN n 0 ++ 32 :: [72, 84, 84, 80, 47, 49, 46, 49]) := by
      have := cutAt_at 32 getB (47 :: letterN n 0 ++ 32 :: [72, 84, 84, 80, 47, 49, 46, 49]) (by decide)
      rw [← this]; simp [getB]
    have hc2 : cutAt 32 (47 :: letterN n 0 ++ 32 :: [72, 84, 84, 80, 47, 49, 46, 49]) = (47 :: letterN n 0, [72, 84, 84, 80, 47, 49, 46, 49]) :=
      cutAt_at 32 (47 :: letterN n 0) _ (fun hm => (List.mem_cons.1 hm).elim (fun h => absurd h (by decide)) t3)
    have hf : firstOk ([71, 69, 84, 32, 47] ++ letterN n 0 ++ [32, 72, 84, 84, 80, 47, 49, 46, 49]) = true := by
      unfold firstOk
      rw [hc]
      dsimp only
      rw [hc2]
      dsimp only
      rw [show (47 :: letterN n 0 : List UInt8).all (fun c => decide (33 ≤ c.toNat) && decide (c.toNat ≤ 126)) = true by rw [List.all_cons, t2]; rfl]
      rw [show token getB = true by decide +kernel]
      rfl
    rw [← List.append_assoc]
    have e2 : ∀ q : PS, q.state = 0 → endedN q ([71, 69, 84, 32, 47] ++ letterN n 0 ++ [32, 72, 84, 84, 80, 47, 49, 46, 49]) = ({ q with state := 1, meth := getB, path := 47 :: letterN n 0, digit := 49 }, none) := fun q hs => by
      rw [en2 (by rw [hs]; rfl) rfl hf]
      unfold firstN
      rw [hc]
      dsimp only
      rw [hc2]
      rfl
    have e3 := line_feed ([71, 69, 84, 32, 47] ++ letterN n 0 ++ [32, 72, 84, 84, 80, 47, 49, 46, 49]) {} rfl rfl rfl rfl hx (by rw [hl]; omega) (by rw [hl]; show (0 : Int) + ((n + 14 : Nat) : Int) + 2 ≤ 65536; omega)
    rw [e2 _ rfl, hl] at e3
    refine one_go e3 ?_
    generalize hq : ({ head := (0 : Int) + ((n + 14 : Nat) : Int) + 2, state := 1, meth := getB, path := 47 :: letterN n 0, digit := 49 } : PS) = q
    have q1 : q.over = false := by rw [← hq]
    have q2 : q.state = 1 := by rw [← hq]
    have q3 : q.cr = false := by rw [← hq]
    have q4 : q.line = [] := by rw [← hq]
    have q5 : q.head = (n : Int) + 16 := by rw [← hq]; dsimp only; omega
    have q6 : q.flds = [] := by rw [← hq]
    have hgoal : OneIs (feedN q ([72, 111, 115, 116, 58, 32, 97] ++ [13, 10] ++ [13, 10])) 0 false := by
      have e4 := line_feed [72, 111, 115, 116, 58, 32, 97] q q1 (by rw [q2]; rfl) q3 q4 (by decide) (by decide) (by rw [q5]; show (n : Int) + 16 + 7 + 2 ≤ 65536; omega)
      have e5 : ∀ q : PS, q.state = 1 → endedN q [72, 111, 115, 116, 58, 32, 97] = ({ q with flds := q.flds ++ [(hostC, [97])] }, none) := fun q hs => by
        rw [en8 (by rw [hs]; rfl) (by rw [hs]; rfl) rfl (by decide +kernel) (by rw [hs]; rfl)]; rfl
      rw [e5 { q with head := q.head + (([72, 111, 115, 116, 58, 32, 97] : List UInt8).length : Int) + 2, line := [], cr := false } q2] at e4
      refine one_go e4 (plain_end _ ⟨q1, q2, rfl, rfl, [], ?_, fun f h => by cases h⟩ ?_)
      · dsimp only; rw [q6]; rfl
      · dsimp only; rw [q5]; show (n : Int) + 16 + 7 + 2 + 2 ≤ 65536; omega
    exact hgoal
  · rw [if_neg h, show decide (¬ n ≤ 8178) = true from decide_eq_true h]
    exact one_more (line_long _ {} rfl rfl rfl rfl hx (by rw [hl]; omega) (by decide))
/-- a field's line -/
def limB (n : Nat) : List UInt8 := ((preG ++ [88, 58, 32]) ++ letterN n 0) ++ [13, 10, 13, 10]
theorem lim_b (n : Nat) (hn : n ≤ 9000) : OneIs (feedN {} (limB n)) (if n ≤ 8189 then 0 else 431) (decide (¬ n ≤ 8189)) := by
  have e : limB n = preG ++ ((88 :: 58 :: 32 :: letterN n 0) ++ [13, 10] ++ [13, 10]) := by simp [limB]
  rw [e]
  refine one_go pre_feed ?_
  by_cases h : n ≤ 8189
  · rw [if_pos h, show decide (¬ n ≤ 8189) = false from decide_eq_false (by omega)]
    obtain ⟨q, h1, h2, h3⟩ := plain_field psG psG_plain n h (by show (25 : Int) + n + 5 ≤ 65536; omega)
    exact one_go h1 (plain_end q h2 (by rw [h3]; show (25 : Int) + n + 5 + 2 ≤ 65536; omega))
  · rw [if_neg h, show decide (¬ n ≤ 8189) = true from decide_eq_true h, List.append_assoc]
    exact one_more (line_long _ psG rfl rfl rfl rfl (x_line n) (by simp [letterN_len]; omega) (by decide))
/-- a head -/
def limL : Nat → List UInt8
  | 0 => preG
  | k + 1 => ((limL k ++ [88, 58, 32]) ++ letterN 995 0) ++ [13, 10]
theorem limL_len (k : Nat) : (limL k).length = 25 + 1000 * k := by
  induction k with
  | zero => rfl
  | succ k ih => simp only [limL, List.length_append, ih, letterN_len, List.length_cons, List.length_nil]; omega
theorem limL_feed (k : Nat) (hk : k ≤ 65) : ∃ q, feedN {} (limL k) = (q, []) ∧ Plain q ∧ q.head = 25 + 1000 * k := by
  induction k with
  | zero => exact ⟨psG, pre_feed, psG_plain, rfl⟩
  | succ k ih =>
    obtain ⟨q, h1, h2, h3⟩ := ih (by omega)
    obtain ⟨q', k1, k2, k3⟩ := plain_field q h2 995 (by omega) (by rw [h3]; omega)
    refine ⟨q', ?_, k2, by rw [k3, h3]; omega⟩
    have e : limL (k + 1) = limL k ++ ((88 :: 58 :: 32 :: letterN 995 0) ++ [13, 10]) := by simp [limL]
    rw [e, feedN_app, h1]
    dsimp only
    rw [k1]; rfl
def limC (r : Nat) : List UInt8 := ((limL 65 ++ [88, 58, 32]) ++ letterN r 0) ++ [13, 10, 13, 10]
theorem lim_c (r : Nat) (hr : r < 2000) : OneIs (feedN {} (limC r)) (if r ≤ 504 then 0 else 431) (decide (¬ r ≤ 504)) := by
  have e : limC r = limL 65 ++ ((88 :: 58 :: 32 :: letterN r 0) ++ [13, 10] ++ [13, 10]) := by simp [limC]
  obtain ⟨q, h1, h2, h3⟩ := limL_feed 65 (Nat.le_refl _)
  rw [e]
  refine one_go h1 ?_
  by_cases h : r ≤ 504
  · rw [if_pos h, show decide (¬ r ≤ 504) = false from decide_eq_false (by omega)]
    obtain ⟨q', k1, k2, k3⟩ := plain_field q h2 r (by omega) (by rw [h3]; omega)
    exact one_go k1 (plain_end q' k2 (by rw [k3, h3]; omega))
  rw [if_neg h, show decide (¬ r ≤ 504) = true from decide_eq_true h]
  have hln : isLn q.state = true := by rw [h2.st]; rfl
  have h13 : ∀ p : PS, p.over = false → isLn p.state = true → p.cr = false → p.head = 65535 → OneIs (feedN p ([13] ++ [10])) 431 true := fun p a b c d => by
    have hr1 : readN p 13 = ⟨{ p with head := p.head + 1, cr := true }, [], false, 0⟩ := by
      unfold readN
      rw [if_neg (by omega), c]; rfl
    have hf : feedN p [13] = ({ p with head := p.head + 1, cr := true }, []) := by
      rw [feedN_cons, stepN_end p 13 a, takeN_ln p 13 b, hr1, feedN_nil]; rfl
    exact one_go hf (head_over _ 10 a b (by dsimp only; omega))
  by_cases h8 : 508 ≤ r
  · -- within the line
    have hl : (88 :: 58 :: 32 :: letterN r 0 : List UInt8).length = r + 3 := by simp [letterN_len]
    have hta : ((88 :: 58 :: 32 :: letterN r 0 : List UInt8).take 511).length = 511 := by rw [List.length_take, hl]; omega
    have hb := line_bytes ((88 :: 58 :: 32 :: letterN r 0 : List UInt8).take 511) q h2.ov hln h2.cr (fun c hc => x_line r c (List.mem_of_mem_take hc)) (by rw [h2.ln, hta]; decide) (by rw [h3, hta]; omega)
    have e2 : (88 :: 58 :: 32 :: letterN r 0) ++ [13, 10] ++ [13, 10] = (88 :: 58 :: 32 :: letterN r 0 : List UInt8).take 511 ++ ((88 :: 58 :: 32 :: letterN r 0 : List UInt8).drop 511 ++ [13, 10] ++ [13, 10]) := by
      conv => lhs; rw [← List.take_append_drop 511 (88 :: 58 :: 32 :: letterN r 0 : List UInt8)]
      simp only [List.append_assoc]
    rw [e2]
    refine one_go hb ?_
    obtain ⟨c, t, ht⟩ : ∃ c t, (88 :: 58 :: 32 :: letterN r 0 : List UInt8).drop 511 ++ [13, 10] ++ [13, 10] = [c] ++ t := by
      cases hd : (88 :: 58 :: 32 :: letterN r 0 : List UInt8).drop 511 with
      | nil => exact ⟨13, [10, 13, 10], rfl⟩
      | cons c t => exact ⟨c, t ++ [13, 10] ++ [13, 10], rfl⟩
    rw [ht]
    exact one_more (head_over _ c h2.ov hln (by dsimp only; rw [h3, hta]; omega))
  have hc : r = 505 ∨ r = 506 ∨ r = 507 := by omega
  rcases hc with rfl | rfl | rfl
  · obtain ⟨q', k1, k2, k3⟩ := plain_field q h2 505 (by omega) (by rw [h3]; omega)
    refine one_go k1 ?_
    exact h13 q' k2.ov (by rw [k2.st]; rfl) k2.cr (by rw [k3, h3]; omega)
  · obtain ⟨q', k1, k2, k3⟩ := plain_field q h2 506 (by omega) (by rw [h3]; omega)
    refine one_go k1 ?_
    exact one_more (a := [13]) (b := [10]) (head_over q' 13 k2.ov (by rw [k2.st]; rfl) (by rw [k3, h3]; omega))
  · have hl : (88 :: 58 :: 32 :: letterN 507 0 : List UInt8).length = 510 := by simp [letterN_len]
    have hb := line_bytes (88 :: 58 :: 32 :: letterN 507 0) q h2.ov hln h2.cr (x_line 507) (by rw [h2.ln, hl]; decide) (by rw [h3, hl]; omega)
    rw [List.append_assoc]
    refine one_go hb ?_
    exact one_more (a := [13] ++ [10]) (h13 { q with head := q.head + ((88 :: 58 :: 32 :: letterN 507 0 : List UInt8).length : Int), line := q.line ++ (88 :: 58 :: 32 :: letterN 507 0) } h2.ov hln h2.cr (by dsimp only; rw [h3, hl]; omega))
end Go.Proofs.YtaihjnicondifaaDoor.Asc
