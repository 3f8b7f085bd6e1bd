/-
  Requests with a length, in plain Lean.
  No condition.
-/
import Derived.Test.YtaihjnicondifaaDoorHtLa
namespace Go.Proofs.YtaihjnicondifaaDoor.Asc
open Go Go.RowKit Go.Proofs.YtaihjnicondifaaDoor.Pb

theorem dwhile_none {p : UInt8 → Bool} (l : List UInt8) (h : ∀ c ∈ l, p c = false) : l.dropWhile p = l := by
  cases l with
  | nil => rfl
  | cons c l => rw [List.dropWhile_cons, h c (by simp)]; simp
theorem dwhile_app {p : UInt8 → Bool} (l r : List UInt8) (hne : l ≠ []) (h : ∀ c ∈ l, p c = false) : (l ++ r).dropWhile p = l ++ r := by
  cases l with
  | nil => exact absurd rfl hne
  | cons c l => rw [List.cons_append, List.dropWhile_cons, h c (by simp)]; simp
theorem trim_solid (l : List UInt8) (h : ∀ c ∈ l, isTB c = false) : trim l = l := by
  unfold trim trimL trimR
  rw [dwhile_none l.reverse (fun c hc => h c (List.mem_reverse.1 hc)), List.reverse_reverse, dwhile_none l h]
theorem trim_lead (l : List UInt8) (hne : l ≠ []) (h : ∀ c ∈ l, isTB c = false) : trim (32 :: l) = l := by
  unfold trim trimL trimR
  rw [List.reverse_cons, dwhile_app l.reverse [32] (by simpa using hne) (fun c hc => h c (List.mem_reverse.1 hc)), ← List.reverse_cons, List.reverse_reverse, List.dropWhile_cons, show isTB 32 = true from rfl, if_pos rfl, dwhile_none l h]

theorem digs_numB (k : Nat) : ∀ n, n < 10 ^ k → numOf (digs k n).reverse = n ∧ (digs k n).all isDig = true := by
  induction k with
  | zero => intro n h; simp at h; subst h; simp [digs, numOf]
  | succ k ih =>
    intro n h
    rcases Nat.eq_zero_or_pos n with rfl | hp
    · rw [digs_zero]; simp [numOf]
    · rw [digs_succ k n (by omega)]
      obtain ⟨h1, h2⟩ := ih (n / 10) (by rw [Nat.pow_succ] at h; omega)
      refine ⟨?_, ?_⟩
      · rw [List.reverse_cons, numOf_snoc, h1, dig_nat]; omega
      · rw [List.all_cons, h2, Bool.and_true, isDig_iff, dig_nat]; omega
theorem digs_shortB (k : Nat) : ∀ n j, n < 10 ^ j → (digs k n).length ≤ j := by
  induction k with
  | zero => intro n j _; simp [digs]
  | succ k ih =>
    intro n j h
    rcases Nat.eq_zero_or_pos n with rfl | hp
    · rw [digs_zero]; simp
    · rw [digs_succ k n (by omega), List.length_cons]
      cases j with
      | zero => simp at h; omega
      | succ j => have := ih (n / 10) j (by rw [Nat.pow_succ] at h; omega); omega
theorem dec_facts (n : Nat) (hn : n ≤ 3000) : numOf (decimal n) = n ∧ (∀ c ∈ decimal n, isDig c = true) ∧ (decimal n).length ≤ 5 ∧ decimal n ≠ [] := by
  have e : decimal n = (digs 20 (n / 10)).reverse ++ [UInt8.ofNat (48 + n % 10)] := by
    unfold decimal
    rw [if_neg (by omega), Int.natAbs_natCast, List.reverse_cons]; rfl
  obtain ⟨h1, h2⟩ := digs_numB 20 (n / 10) (by omega)
  have h3 := digs_shortB 20 (n / 10) 4 (by omega)
  rw [e]
  refine ⟨by rw [numOf_snoc, h1, dig_nat]; omega, fun c hc => ?_, by rw [List.length_append, List.length_reverse, List.length_singleton]; omega, by simp⟩
  rcases List.mem_append.1 hc with hc | hc
  · exact List.all_eq_true.1 h2 c (List.mem_reverse.1 hc)
  · rw [List.mem_singleton.1 hc, isDig_iff, dig_nat]; omega

theorem numOf_zero (l : List UInt8) : numOf (48 :: l) = numOf l := rfl
theorem numOf_off (l : List UInt8) : numOf (zerosOff l) = numOf l := by
  induction l with
  | nil => rfl
  | cons c l ih =>
    unfold zerosOff
    rw [List.dropWhile_cons]
    cases h : c == 48 with
    | true => rw [beq_iff_eq] at h; subst h; rw [if_pos rfl, numOf_zero]; exact ih
    | false => rw [if_neg (by decide)]
theorem off_head (l : List UInt8) : (zerosOff l)[0]? ≠ some 48 := by
  induction l with
  | nil => simp [zerosOff]
  | cons c l ih =>
    unfold zerosOff
    rw [List.dropWhile_cons]
    cases h : c == 48 with
    | true => rw [if_pos rfl]; exact ih
    | false => rw [if_neg (by decide)]; simp; exact beq_eq_false_iff_ne.1 h
theorem off_mem (l : List UInt8) : ∀ c ∈ zerosOff l, c ∈ l := fun c hc => (List.dropWhile_sublist _).subset hc
/-- a length that is written with zeros ahead -/
theorem length_of (V : List UInt8) (n : Nat) (h0 : n ≤ 1048576) (hv : ∀ c ∈ V, isDig c = true) (hn : numOf V = n) (hl : (zerosOff V).length ≤ 9) : lengthN [V] = ((n : Int), 0) := by
  have hall : V.all isDig = true := List.all_eq_true.2 hv
  have hnum : (number (zerosOff V) 9).1 = n := by
    unfold number
    cases hz : (zerosOff V).isEmpty with
    | true =>
      rw [Bool.true_or, Bool.true_or, Bool.true_or, if_pos rfl]
      have : zerosOff V = [] := List.isEmpty_iff.1 hz
      have e := numOf_off V
      rw [this, hn] at e
      exact e
    | false =>
      have h1 : decide (((zerosOff V).length : Int) > min 9 18) = false := decide_eq_false (by omega)
      have h2 : decide ((zerosOff V)[0]? = some 48) = false := decide_eq_false (off_head V)
      have h3 : (zerosOff V).all isDig = true := List.all_eq_true.2 fun c hc => hv c (off_mem V c hc)
      rw [h1, h2, h3]
      show numOf (zerosOff V) = _
      rw [numOf_off, hn]
  unfold lengthN
  dsimp only
  rw [show ([V].all fun s => s == V && s.all isDig) = true by simp [hall]]
  rw [if_neg (by decide), if_neg (by omega), hnum, if_neg (by omega)]

theorem dig_facts (c : UInt8) (h : isDig c = true) : isTB c = false ∧ isCtl c = false ∧ c ≠ 44 ∧ c ≠ 13 ∧ c ≠ 10 ∧ c ≠ 58 := by
  have key : ∀ c : UInt8, isDig c = true → isTB c = false ∧ isCtl c = false ∧ c ≠ 44 ∧ c ≠ 13 ∧ c ≠ 10 ∧ c ≠ 58 := by
    intro c h
    rw [isDig_iff] at h
    refine ⟨?_, ?_, ?_, ?_, ?_, ?_⟩
    · unfold isTB; simp; omega
    · unfold isCtl; simp; omega
    all_goals (rintro rfl; revert h; decide)
  exact key c h
theorem list_one (V : List UInt8) (hne : V ≠ []) (hv : ∀ c ∈ V, isTB c = false ∧ c ≠ 44) : listOf [V] = [V] := by
  unfold listOf
  rw [List.flatMap_cons, List.flatMap_nil, List.append_nil, split_eq, splitR_none 44 V (fun h => (hv 44 h).2 rfl)]
  unfold someOf
  rw [List.map_cons, List.map_nil, trim_solid V (fun c hc => (hv c hc).1), List.filter_cons]
  cases V with
  | nil => exact absurd rfl hne
  | cons c l => rfl
/-- a field: a name, a colon, a blank, a value -/
theorem field_of (N V : List UInt8) (hN : token N = true) (h58 : (58 : UInt8) ∉ N) (hne : V ≠ []) (hv : ∀ c ∈ V, isTB c = false ∧ isCtl c = false) : fieldN (N ++ 58 :: 32 :: V) = (N, V) ∧ fieldOk (N ++ 58 :: 32 :: V) = true := by
  have e : fieldN (N ++ 58 :: 32 :: V) = (N, V) := by
    unfold fieldN
    rw [cutAt_at 58 N (32 :: V) h58]
    dsimp only
    rw [trim_lead V hne fun c hc => (hv c hc).1]
  refine ⟨e, ?_⟩
  unfold fieldOk
  rw [e]
  dsimp only
  unfold valid
  rw [hN, trim_solid V fun c hc => (hv c hc).1]
  have h1 : (N ++ 58 :: 32 :: V).contains 58 = true := by simp
  have h2 : V.all (fun c => !isCtl c) = true := List.all_eq_true.2 fun c hc => by rw [(hv c hc).2]; rfl
  rw [h1, h2]
  simp

/-- a head of a Host and a length -/
theorem headed_len (p : PS) (V : List UInt8) (n : Nat) (hf : p.flds = [(hostB, [97]), (lengthB, V)]) (hd : p.digit = 49) (hne : V ≠ []) (hv : ∀ c ∈ V, isTB c = false ∧ c ≠ 44) (hL : lengthN [V] = ((n : Int), 0)) :
    headedN p = if n = 0 then (p, some (doneN p)) else ({ p with state := 2, left := n }, none) := by
  have v1 : valsN p hostB = [[97]] := by unfold valsN; rw [hf]; rfl
  have v2 : valsN p codingB = [] := by unfold valsN; rw [hf]; rfl
  have v3 : valsN p lengthB = [V] := by unfold valsN; rw [hf]; rfl
  rw [headedF_eq, v1, v2, v3, list_one V hne hv]
  have hA : (decide ((1 : Nat) > 1) || ((1 : Nat) == 0 && !oldN p)) = false := rfl
  by_cases h0 : n = 0
  · rw [if_pos h0]
    subst h0
    exact hd10 (hn := 1) (cn := 0) (sn := 1) hA (by decide) (by decide) hL (by decide) (by decide)
  · rw [if_neg h0]
    exact hd11 (hn := 1) (cn := 0) (sn := 1) hA (by decide) (by decide) hL (by decide) (by rw [beq_eq_false_iff_ne]; omega)
theorem done_len (p : PS) (V : List UInt8) (hf : p.flds = [(hostB, [97]), (lengthB, V)]) (hd : p.digit = 49) : doneN p = ⟨0, p.meth, p.path, p.flds, p.body, false⟩ := by
  have v1 : valsN p connB = [] := by unfold valsN; rw [hf]; rfl
  have h1 : oldN p = false := by unfold oldN; rw [hd]; rfl
  have h2 : ∀ s, saysN p s = false := fun s => by unfold saysN; rw [v1]; rfl
  unfold doneN
  rw [h1, h2]; rfl

def vLen (n : Nat) : List UInt8 := [48, 48, 48] ++ decimal n
theorem vLen_facts (n : Nat) (hn : n ≤ 3000) : lengthN [vLen n] = ((n : Int), 0) ∧ vLen n ≠ [] ∧ (∀ c ∈ vLen n, isDig c = true) ∧ (vLen n).length ≤ 8 := by
  obtain ⟨h1, h2, h3, h4⟩ := dec_facts n hn
  have hd : ∀ c ∈ vLen n, isDig c = true := fun c hc => by
    unfold vLen at hc
    rcases List.mem_append.1 hc with hc | hc
    · simp at hc; subst hc; rfl
    · exact h2 c hc
  refine ⟨length_of (vLen n) n (by omega) hd (by show numOf (48 :: 48 :: 48 :: decimal n) = n; rw [numOf_zero, numOf_zero, numOf_zero, h1]) ?_, by simp [vLen], hd, by simp [vLen]; omega⟩
  have : (zerosOff (vLen n)).length ≤ (vLen n).length := (List.dropWhile_sublist _).length_le
  simp [vLen] at this ⊢
  omega

def psA (k : UInt8) : PS := { head := 25, state := 1, meth := [80, 85, 84], path := [47, k], flds := [(hostB, [97])], digit := 49 }
def putB : List UInt8 := [80, 85, 84, 32, 47]
def midB : List UInt8 := [32, 72, 84, 84, 80, 47, 49, 46, 49, 13, 10, 104, 111, 115, 116, 58, 97, 13, 10]
theorem len_pre (i : Nat) (hi : i ≤ 3) : feedN {} ((putB ++ decimal i) ++ midB) = (psA (UInt8.ofNat (48 + i)), []) := by
  have h : i = 0 ∨ i = 1 ∨ i = 2 ∨ i = 3 := by omega
  rcases h with rfl | rfl | rfl | rfl <;> decide +kernel
def itLen (n i : Nat) : It := ⟨0, [80, 85, 84], [47, UInt8.ofNat (48 + i)], [(hostB, [97]), (lengthB, vLen n)], letterN n i, false⟩
theorem len_req (n i : Nat) (hn : n ≤ 3000) (hi : i ≤ 3) : feedN {} ((putB ++ decimal i) ++ midB ++ ((lengthB ++ 58 :: 32 :: vLen n) ++ [13, 10]) ++ [13, 10] ++ letterN n i) = ({}, [itLen n i]) := by
  obtain ⟨hL, hne, hdg, hvl⟩ := vLen_facts n hn
  have hv1 : ∀ c ∈ vLen n, isTB c = false ∧ isCtl c = false := fun c hc => ⟨(dig_facts c (hdg c hc)).1, (dig_facts c (hdg c hc)).2.1⟩
  have hv2 : ∀ c ∈ vLen n, isTB c = false ∧ c ≠ 44 := fun c hc => ⟨(dig_facts c (hdg c hc)).1, (dig_facts c (hdg c hc)).2.2.1⟩
  obtain ⟨f1, f2⟩ := field_of lengthB (vLen n) (by decide +kernel) (by decide) hne hv1
  generalize hLL : lengthB ++ 58 :: 32 :: vLen n = LL at f1 f2
  have hll : LL.length ≤ 24 := by rw [← hLL]; simp [lengthB]; omega
  have hle : LL.isEmpty = false := by rw [← hLL]; rfl
  have hlx : ∀ c ∈ LL, c ≠ 13 ∧ c ≠ 10 := fun c hc => by
    rw [← hLL] at hc
    rcases List.mem_append.1 hc with hc | hc
    · have key : ∀ c ∈ lengthB, c ≠ 13 ∧ c ≠ 10 := by decide
      exact key c hc
    · rcases List.mem_cons.1 hc with rfl | hc
      · decide
      · rcases List.mem_cons.1 hc with rfl | hc
        · decide
        · exact ⟨(dig_facts c (hdg c hc)).2.2.2.1, (dig_facts c (hdg c hc)).2.2.2.2.1⟩
  generalize hk : UInt8.ofNat (48 + i) = kb
  rw [feedN_app, feedN_app, feedN_app, len_pre i hi, hk]
  dsimp only
  rw [line_feed LL (psA kb) rfl rfl rfl rfl hlx (by omega) (by show (25 : Int) + LL.length + 2 ≤ 65536; omega)]
  rw [en8 (p := { psA kb with head := (psA kb).head + LL.length + 2, line := [], cr := false }) rfl rfl hle f2 rfl, f1]
  generalize hh : (psA kb).head + LL.length + 2 = hd
  have hdr : 27 ≤ hd ∧ hd ≤ 100 := by rw [← hh]; show (27 : Int) ≤ 25 + LL.length + 2 ∧ (25 : Int) + LL.length + 2 ≤ 100; omega
  have e1 : endStep (({ { psA kb with head := hd, line := [], cr := false } with flds := (psA kb).flds ++ [(lengthB, vLen n)] } : PS), none) = ({ psA kb with head := hd, flds := [(hostB, [97]), (lengthB, vLen n)] }, []) := rfl
  rw [e1]
  obtain ⟨q, hq⟩ : ∃ q, ({ psA kb with head := hd, flds := [(hostB, [97]), (lengthB, vLen n)] } : PS) = q := ⟨_, rfl⟩
  have q1 : q.over = false := by rw [← hq]; rfl
  have q2 : q.state = 1 := by rw [← hq]; rfl
  have q3 : q.cr = false := by rw [← hq]; rfl
  have q4 : q.line = [] := by rw [← hq]; rfl
  have q5 : q.head = hd := by rw [← hq]
  have q6 : q.flds = [(hostB, [97]), (lengthB, vLen n)] := by rw [← hq]
  have q7 : q.digit = 49 := by rw [← hq]; rfl
  have q8 : q.meth = [80, 85, 84] := by rw [← hq]; rfl
  have q9 : q.path = [47, kb] := by rw [← hq]; rfl
  have q10 : q.body = [] := by rw [← hq]; rfl
  rw [hq]
  clear hq e1
  dsimp only
  have e2 : ∀ q : PS, q.state = 1 → q.flds = [(hostB, [97]), (lengthB, vLen n)] → q.digit = 49 → endedN q [] = if n = 0 then (q, some (doneN q)) else ({ q with state := 2, left := n }, none) := fun q hs hf hd => by
    rw [en6 (by rw [hs]; rfl) (by rw [hs]; rfl) rfl (by rw [hs]; rfl)]
    exact headed_len q (vLen n) n hf hd hne hv2 hL
  rw [line_end q q1 (by rw [q2]; rfl) q3 (by rw [q5]; omega), q4, e2 { q with head := q.head + 2, line := [], cr := false } q2 q6 q7]
  by_cases h0 : n = 0
  · subst h0
    rw [if_pos rfl, done_len { q with head := q.head + 2, line := [], cr := false } (vLen 0) q6 q7]
    dsimp only
    rw [q8, q9, q6, q10]
    show ((feedN {} []).1, _) = _
    rw [feedN_nil]
    simp only [itLen, hk]
    rfl
  · rw [if_neg h0]
    show ((feedN { q with head := q.head + 2, line := [], cr := false, state := 2, left := n } (letterN n i)).1, [] ++ (feedN { q with head := q.head + 2, line := [], cr := false, state := 2, left := n } (letterN n i)).2) = _
    rw [body_feed (letterN n i) { q with head := q.head + 2, line := [], cr := false, state := 2, left := n } q1 rfl (by rw [letterN_len]) (by intro e; have := congrArg List.length e; rw [letterN_len] at this; exact h0 this)]
    rw [done_len _ (vLen n) (by exact q6) (by exact q7)]
    dsimp only
    rw [q8, q9, q6, q10]
    simp only [itLen, hk]
    rfl

/-- all requests -/
def reqsT (n : Nat) : Nat → List UInt8
  | 0 => []
  | k + 1 => (((((reqsT n k ++ putB) ++ decimal k) ++ (midB ++ lengthB ++ [58, 32, 48, 48, 48])) ++ decimal n) ++ [13, 10, 13, 10]) ++ letterN n k
def reqsI (n : Nat) : Nat → List It
  | 0 => []
  | k + 1 => reqsI n k ++ [itLen n k]
theorem reqs_feed (n : Nat) (hn : n ≤ 3000) : ∀ k, k ≤ 4 → feedN {} (reqsT n k) = ({}, reqsI n k) := by
  intro k
  induction k with
  | zero => intro _; rfl
  | succ k ih =>
    intro hk
    have e : reqsT n (k + 1) = reqsT n k ++ ((putB ++ decimal k) ++ midB ++ ((lengthB ++ 58 :: 32 :: vLen n) ++ [13, 10]) ++ [13, 10] ++ letterN n k) := by
      simp [reqsT, vLen]
    rw [e, feedN_app, ih (by omega)]
    dsimp only
    rw [len_req n k hn (by omega)]
    rfl
theorem reqs_len (n : Nat) (hn : n ≤ 3000) : ∀ k, k ≤ 4 → (reqsT n k).length ≤ k * 3100 := by
  intro k
  induction k with
  | zero => intro _; simp [reqsT]
  | succ k ih =>
    intro hk
    have h1 := (dec_facts n hn).2.2.1
    have h2 := (dec_facts k (by omega)).2.2.1
    have h3 := ih (by omega)
    simp only [reqsT, List.length_append, letterN_len, List.length_cons, List.length_nil, putB, midB, lengthB]
    omega
theorem reqsI_len (n : Nat) : ∀ k, (reqsI n k).length = k := by
  intro k
  induction k with
  | zero => rfl
  | succ k ih => simp [reqsI, ih]
theorem reqsI_get (n : Nat) : ∀ k j, j < k → (reqsI n k)[j]? = some (itLen n j) := by
  intro k
  induction k with
  | zero => intro j h; omega
  | succ k ih =>
    intro j h
    unfold reqsI
    by_cases e : j < k
    · rw [List.getElem?_append_left (by rw [reqsI_len]; exact e)]; exact ih j e
    · obtain rfl : j = k := by omega
      rw [List.getElem?_append_right (by rw [reqsI_len]; omega), reqsI_len, Nat.sub_self]; rfl
end Go.Proofs.YtaihjnicondifaaDoor.Asc
