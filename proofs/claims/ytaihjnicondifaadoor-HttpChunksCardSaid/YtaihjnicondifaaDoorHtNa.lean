/-
  Bodies in chunks, in plain Lean.
  No condition.
-/
import Derived.Test.YtaihjnicondifaaDoorHtLd
namespace Go.Proofs.YtaihjnicondifaaDoor.Asc
open Go Go.RowKit Go.Proofs.YtaihjnicondifaaDoor.Pb

/-- a number's digits to the base sixteen -/
def hexL : List UInt8 := [48, 49, 50, 51, 52, 53, 54, 55, 56, 57, 97, 66, 99, 68, 101, 70]
def hexD (d : Nat) : UInt8 := (hexL[d]?).getD 0
def hexF : Nat → Nat → List UInt8
  | 0, _ => []
  | f + 1, n => if n / 16 = 0 then [hexD (n % 16)] else hexF f (n / 16) ++ [hexD (n % 16)]
def hexT (n : Nat) : List UInt8 := hexF 4 n
def extB (e : Bool) : List UInt8 := if e then [32, 9, 59, 97, 61, 34, 98] else []
def lineC (n : Nat) (e : Bool) : List UInt8 := ([48] ++ hexT n) ++ extB e
theorem chunk_all : ∀ e : Bool, ∀ n : Fin 301, n.val = 0 ∨ ((sizeT (lineC n.val e)).isEmpty = false ∧ (sizeT (lineC n.val e)).any (fun c => decide (hexN c < 0)) = false ∧ hexSum (sizeT (lineC n.val e)) = n.val ∧ (lineC n.val e).length ≤ 20 ∧ (lineC n.val e).all (fun c => c != 13 && c != 10) = true ∧ (hexT n.val).length ≤ 4) := by decide +kernel
theorem chunk_line (e : Bool) (n : Nat) (h0 : 0 < n) (h : n ≤ 300) : (∀ p : PS, p.sizes + n ≤ 1048576 → sizeN p (lineC n e) = ({ p with sizes := p.sizes + n, state := 4, left := n }, none)) ∧ (lineC n e).length ≤ 20 ∧ (∀ c ∈ lineC n e, c ≠ 13 ∧ c ≠ 10) ∧ (hexT n).length ≤ 4 := by
  rcases chunk_all e ⟨n, by omega⟩ with h1 | ⟨h1, h2, h3, h4, h5, h6⟩
  · exact absurd h1 (by simp; omega)
  · refine ⟨fun p hp => ?_, h4, fun c hc => ?_, h6⟩
    · unfold sizeN
      simp only [] at h3
      rw [h1, h2, h3, if_neg (by decide), if_neg (by decide), if_neg (by omega)]
      rw [show ((n : Int) == 0) = false by rw [beq_eq_false_iff_ne]; omega]
      rfl
    · have := List.all_eq_true.1 h5 c hc
      simpa using this

def fldC : List Fd := [([72, 111, 115, 116], [97]), ([84, 114, 97, 110, 115, 102, 101, 114, 45, 69, 110, 99, 111, 100, 105, 110, 103], [44, 32, 67, 72, 85, 78, 75, 69, 68])]
def preC : List UInt8 := [80, 79, 83, 84, 32, 47, 120, 32, 72, 84, 84, 80, 47, 49, 46, 49, 13, 10, 72, 111, 115, 116, 58, 32, 97, 13, 10, 84, 114, 97, 110, 115, 102, 101, 114, 45, 69, 110, 99, 111, 100, 105, 110, 103, 58, 32, 44, 32, 67, 72, 85, 78, 75, 69, 68, 13, 10, 13, 10]
/-- a parser at a chunk's line -/
structure Chk (p : PS) (h s : Int) (b : List UInt8) : Prop where
  ov : p.over = false
  st : p.state = 3
  cr : p.cr = false
  ln : p.line = []
  hd : p.head ≤ h
  sz : p.sizes ≤ s
  bd : p.body = b
  fl : p.flds = fldC
  dg : p.digit = 49
  mt : p.meth = [80, 79, 83, 84]
  pt : p.path = [47, 120]
def psC : PS := { head := 59, state := 3, meth := [80, 79, 83, 84], path := [47, 120], flds := fldC, digit := 49 }
theorem pre_c : feedN {} preC = (psC, []) := by decide +kernel
theorem psC_chk : Chk psC 59 0 [] := ⟨rfl, rfl, rfl, rfl, Int.le_refl _, Int.le_refl _, rfl, rfl, rfl, rfl, rfl⟩
/-- one byte behind a chunk -/
theorem step5 (p : PS) (ho : p.over = false) (hs : p.state = 5) : feedN p [13, 10] = ({ p with state := 3 }, []) := by
  have h1 : stepN p 13 = ({ p with state := 6 }, []) := by
    rw [stepN_end p 13 ho, tk5 (by rw [hs]; rfl) (by rw [hs]; rfl) (by rw [hs]; rfl)]; rfl
  have h2 : stepN { p with state := 6 } 10 = ({ p with state := 3 }, []) := by
    rw [stepN_end { p with state := 6 } 10 ho, tk6 (p := { p with state := 6 }) rfl rfl rfl rfl]; rfl
  rw [feedN_cons, h1]
  dsimp only
  rw [feedN_cons, h2, feedN_nil]; rfl
def chunkT (n k : Nat) (e : Bool) : List UInt8 := (lineC n e ++ [13, 10]) ++ (letterN n k ++ [13, 10])
theorem chunk_one (p : PS) (h s : Int) (b : List UInt8) (hc : Chk p h s b) (n k : Nat) (e : Bool) (h0 : 0 < n) (hn : n ≤ 300) (hh : h + 22 ≤ 65536) (hs : s + n ≤ 1048576) :
    ∃ q, feedN p (chunkT n k e) = (q, []) ∧ Chk q (h + 22) (s + n) (b ++ letterN n k) := by
  obtain ⟨c1, c2, c3, _⟩ := chunk_line e n h0 hn
  have hhd := hc.hd
  have hsz := hc.sz
  have e1 := line_feed (lineC n e) p hc.ov (by rw [hc.st]; rfl) hc.cr hc.ln c3 (by omega) (by omega)
  have e2 : ∀ q : PS, q.state = 3 → q.sizes + n ≤ 1048576 → endedN q (lineC n e) = ({ q with sizes := q.sizes + n, state := 4, left := n }, none) := fun q hq hs => by
    rw [en4 (by rw [hq]; rfl) (by rw [hq]; rfl)]; exact c1 q hs
  rw [e2 { p with head := p.head + ((lineC n e).length : Int) + 2, line := [], cr := false } hc.st (by dsimp only; omega)] at e1
  obtain ⟨p1, hp1⟩ : ∃ q : PS, ({ p with head := p.head + ((lineC n e).length : Int) + 2, line := [], cr := false, sizes := p.sizes + n, state := 4, left := n } : PS) = q := ⟨_, rfl⟩
  have e1' : feedN p (lineC n e ++ [13, 10]) = (p1, []) := by rw [e1, ← hp1]; rfl
  have a1 : p1.over = false := by rw [← hp1]; exact hc.ov
  have a2 : p1.state = 4 := by rw [← hp1]
  have a3 : p1.left = ((letterN n k).length : Int) := by rw [← hp1, letterN_len]
  have a4 := chunk_feed (letterN n k) p1 a1 a2 a3 (by intro hnil; have := congrArg List.length hnil; rw [letterN_len] at this; simp at this; omega)
  have a5 := step5 { p1 with body := p1.body ++ letterN n k, left := 0, state := 5 } a1 rfl
  refine ⟨{ p1 with body := p1.body ++ letterN n k, left := 0, state := 3 }, ?_, ?_⟩
  · unfold chunkT
    rw [feedN_app, e1']
    dsimp only
    rw [feedN_app, a4]
    dsimp only
    rw [a5]; rfl
  · rw [← hp1]
    refine ⟨hc.ov, rfl, rfl, rfl, ?_, ?_, ?_, hc.fl, hc.dg, hc.mt, hc.pt⟩
    · dsimp only; omega
    · dsimp only; omega
    · dsimp only; rw [hc.bd]
/-- so many chunks -/
def chunksT (nf : Nat → Nat) (e : Bool) : Nat → List UInt8
  | 0 => preC
  | k + 1 => chunksT nf e k ++ chunkT (nf k) k e
def wantT (nf : Nat → Nat) : Nat → List UInt8
  | 0 => []
  | k + 1 => wantT nf k ++ letterN (nf k) k
theorem chunks_feed (nf : Nat → Nat) (e : Bool) (K : Nat) (hK : K ≤ 20) (hnf : ∀ k, k < K → 0 < nf k ∧ nf k ≤ 300) : ∀ k, k ≤ K → ∃ q, feedN {} (chunksT nf e k) = (q, []) ∧ Chk q (59 + 22 * k) (300 * k) (wantT nf k) := by
  intro k
  induction k with
  | zero => intro _; exact ⟨psC, pre_c, psC_chk⟩
  | succ k ih =>
    intro hk
    obtain ⟨q, h1, h2⟩ := ih (by omega)
    obtain ⟨n1, n2⟩ := hnf k (by omega)
    obtain ⟨q', k1, k2⟩ := chunk_one q _ _ _ h2 (nf k) k e n1 n2 (by omega) (by omega)
    refine ⟨q', ?_, ⟨k2.ov, k2.st, k2.cr, k2.ln, ?_, ?_, k2.bd, k2.fl, k2.dg, k2.mt, k2.pt⟩⟩
    · unfold chunksT
      rw [feedN_app, h1]
      dsimp only
      rw [k1]; rfl
    · have := k2.hd; omega
    · have := k2.sz; omega
theorem wantT_len (nf : Nat → Nat) (K : Nat) (hnf : ∀ k, k < K → 0 < nf k ∧ nf k ≤ 300) : ∀ k, k ≤ K → (wantT nf k).length ≤ 300 * k := by
  intro k
  induction k with
  | zero => intro _; simp [wantT]
  | succ k ih =>
    intro hk
    have := ih (by omega)
    have := (hnf k (by omega)).2
    simp only [wantT, List.length_append, letterN_len]; omega
theorem chunksT_len (nf : Nat → Nat) (e : Bool) (K : Nat) (hnf : ∀ k, k < K → 0 < nf k ∧ nf k ≤ 300) : ∀ k, k ≤ K → (chunksT nf e k).length ≤ 59 + 330 * k := by
  intro k
  induction k with
  | zero => intro _; simp [chunksT, preC]
  | succ k ih =>
    intro hk
    have h1 := ih (by omega)
    have h2 := (hnf k (by omega))
    have h3 := (chunk_line e (nf k) h2.1 h2.2).2.1
    simp only [chunksT, chunkT, List.length_append, letterN_len, List.length_cons, List.length_nil]; omega
/-- what stands behind the chunks -/
def trailB (t : Bool) : List UInt8 := if t then [88, 45, 65, 58, 32, 98, 13, 10] else []
def lastC : List UInt8 := [71, 69, 84, 32, 47, 121, 32, 72, 84, 84, 80, 47, 49, 46, 48, 13, 10, 13, 10]
def itY : It := ⟨0, [71, 69, 84], [47, 121], [], [], true⟩
theorem last_feed : feedN {} lastC = ({}, [itY]) := by decide +kernel
def itX2 (b : List UInt8) : It := ⟨0, [80, 79, 83, 84], [47, 120], fldC, b, false⟩
def allC (nf : Nat → Nat) (e t : Bool) (K : Nat) : List UInt8 := ((chunksT nf e K ++ [48, 48, 13, 10]) ++ trailB t) ++ ([13, 10] ++ lastC)
theorem chunks_end (q : PS) (h s : Int) (b : List UInt8) (hc : Chk q h s b) (hh : h + 20 ≤ 65536) (hs : s ≤ 1048576) (t : Bool) : feedN q (([48, 48] ++ [13, 10]) ++ trailB t ++ [13, 10]) = ({}, [itX2 b]) := by
  have hhd := hc.hd
  have hsz := hc.sz
  have e1 := line_feed [48, 48] q hc.ov (by rw [hc.st]; rfl) hc.cr hc.ln (by decide) (by decide) (by show q.head + 2 + 2 ≤ 65536; omega)
  have e2 : ∀ q : PS, q.state = 3 → q.sizes ≤ 1048576 → endedN q [48, 48] = ({ q with sizes := q.sizes + 0, state := 7, left := 0 }, none) := fun q hq hs => by
    rw [en4 (by rw [hq]; rfl) (by rw [hq]; rfl)]
    unfold sizeN
    rw [show (sizeT [48, 48]).isEmpty = false by decide +kernel, show (sizeT [48, 48]).any (fun c => decide (hexN c < 0)) = false by decide +kernel, show hexSum (sizeT [48, 48]) = 0 by decide +kernel, if_neg (by decide), if_neg (by decide), if_neg (by omega)]
    rfl
  rw [e2 { q with head := q.head + (([48, 48] : List UInt8).length : Int) + 2, line := [], cr := false } hc.st (by dsimp only; omega)] at e1
  obtain ⟨p1, hp1⟩ : ∃ r : PS, ({ q with head := q.head + (([48, 48] : List UInt8).length : Int) + 2, line := [], cr := false, sizes := q.sizes + 0, state := 7, left := 0 } : PS) = r := ⟨_, rfl⟩
  have e1' : feedN q ([48, 48] ++ [13, 10]) = (p1, []) := by rw [e1, ← hp1]; rfl
  have a1 : p1.over = false := by rw [← hp1]; exact hc.ov
  have a2 : p1.state = 7 := by rw [← hp1]
  have a3 : p1.cr = false := by rw [← hp1]
  have a4 : p1.line = [] := by rw [← hp1]
  have a5 : p1.head ≤ h + 4 := by rw [← hp1]; show q.head + 2 + 2 ≤ h + 4; omega
  have a6 : p1.flds = fldC := by rw [← hp1]; exact hc.fl
  have a7 : p1.digit = 49 := by rw [← hp1]; exact hc.dg
  have a8 : p1.meth = [80, 79, 83, 84] := by rw [← hp1]; exact hc.mt
  have a9 : p1.path = [47, 120] := by rw [← hp1]; exact hc.pt
  have a10 : p1.body = b := by rw [← hp1]; exact hc.bd
  clear hp1 e1 e2
  have fin : ∀ p : PS, p.over = false → p.state = 7 → p.cr = false → p.line = [] → p.head + 2 ≤ 65536 → p.flds = fldC → p.digit = 49 → p.meth = [80, 79, 83, 84] → p.path = [47, 120] → p.body = b → feedN p [13, 10] = ({}, [itX2 b]) := by
    intro p b1 b2 b3 b4 b5 b6 b7 b8 b9 b10
    have e3 : ∀ q : PS, q.state = 7 → endedN q [] = (q, some (doneN q)) := fun q hq => en5 (by rw [hq]; rfl) (by rw [hq]; rfl) rfl (by rw [hq]; rfl)
    have e4 : ∀ q : PS, q.flds = fldC → q.digit = 49 → q.meth = [80, 79, 83, 84] → q.path = [47, 120] → q.body = b → doneN q = itX2 b := fun q q1 q2 q3 q4 q5 => by
      have v1 : valsN q connB = [] := by unfold valsN; rw [q1]; decide +kernel
      have h1 : oldN q = false := by unfold oldN; rw [q2]; rfl
      have h2 : ∀ s, saysN q s = false := fun s => by unfold saysN; rw [v1]; rfl
      unfold doneN itX2
      rw [h1, h2, q1, q3, q4, q5]; rfl
    rw [line_end p b1 (by rw [b2]; rfl) b3 b5, b4, e3 { p with head := p.head + 2, line := [], cr := false } b2, e4 { p with head := p.head + 2, line := [], cr := false } b6 b7 b8 b9 b10]
    rfl
  rw [feedN_app, feedN_app, e1']
  dsimp only
  cases t with
  | false =>
    show ((feedN (feedN p1 []).1 [13, 10]).1, _) = _
    rw [feedN_nil]
    dsimp only
    rw [show trailB false = [] from rfl, feedN_nil]
    dsimp only
    rw [fin p1 a1 a2 a3 a4 (by omega) a6 a7 a8 a9 a10]; rfl
  | true =>
    have e5 := line_feed [88, 45, 65, 58, 32, 98] p1 a1 (by rw [a2]; rfl) a3 a4 (by decide) (by decide) (by show p1.head + 6 + 2 ≤ 65536; omega)
    have e6 : ∀ q : PS, q.state = 7 → endedN q [88, 45, 65, 58, 32, 98] = (q, none) := fun q hq => by
      rw [en9 (by rw [hq]; rfl) (by rw [hq]; rfl) rfl (by decide +kernel) (by rw [hq]; rfl)]
    rw [e6 { p1 with head := p1.head + (([88, 45, 65, 58, 32, 98] : List UInt8).length : Int) + 2, line := [], cr := false } a2] at e5
    have e7 : feedN p1 (trailB true) = ({ p1 with head := p1.head + (([88, 45, 65, 58, 32, 98] : List UInt8).length : Int) + 2, line := [], cr := false }, []) := e5
    rw [e7]
    dsimp only
    rw [fin { p1 with head := p1.head + (([88, 45, 65, 58, 32, 98] : List UInt8).length : Int) + 2, line := [], cr := false } a1 a2 rfl rfl (by show p1.head + 6 + 2 + 2 ≤ 65536; omega) a6 a7 a8 a9 a10]
    rfl
theorem all_feed (nf : Nat → Nat) (e t : Bool) (K : Nat) (hK : K ≤ 20) (hnf : ∀ k, k < K → 0 < nf k ∧ nf k ≤ 300) : feedN {} (allC nf e t K) = ({}, [itX2 (wantT nf K), itY]) := by
  obtain ⟨q, h1, h2⟩ := chunks_feed nf e K hK hnf K (Nat.le_refl _)
  have h3 := chunks_end q _ _ _ h2 (by omega) (by omega) t
  have e1 : allC nf e t K = chunksT nf e K ++ ((([48, 48] ++ [13, 10]) ++ trailB t ++ [13, 10]) ++ lastC) := by simp [allC]
  rw [e1, feedN_app, h1]
  dsimp only
  rw [feedN_app, h3]
  dsimp only
  rw [last_feed]; rfl
theorem allC_len (nf : Nat → Nat) (e t : Bool) (K : Nat) (hK : K ≤ 20) (hnf : ∀ k, k < K → 0 < nf k ∧ nf k ≤ 300) : (allC nf e t K).length ≤ 7000 := by
  have := chunksT_len nf e K hnf K (Nat.le_refl _)
  have h2 : (trailB t).length ≤ 8 := by cases t <;> decide
  simp only [allC, lastC, List.length_append, List.length_cons, List.length_nil]; omega
end Go.Proofs.YtaihjnicondifaaDoor.Asc
