/-
  Plain: a query's text is read again, and is at most one byte longer than the text that was read.
  No condition.
-/
import Derived.Test.YtilpaopkhghicaaDoorAnI
import Derived.Test.YtilpaopkhghicaaDoorAnN
namespace Go.Proofs.YtilpaopkhghicaaDoor.Asc
open Go Go.RowKit Go.Proofs.YtilpaopkhghicaaDoor.Pb

/-- lines, each with its end -/
def joinL (ls : List (List UInt8)) : List UInt8 := (ls.map fun l => l ++ [10]).flatten
theorem joinL_app (a b : List (List UInt8)) : joinL (a ++ b) = joinL a ++ joinL b := by
  unfold joinL; rw [List.map_append, List.flatten_append]
theorem splitR_join (ls : List (List UInt8)) (h : ∀ l ∈ ls, (10 : UInt8) ∉ l) : splitR 10 (joinL ls) = ls ++ [[]] := by
  induction ls with
  | nil => rfl
  | cons a ls ih =>
    have e : joinL (a :: ls) = a ++ 10 :: joinL ls := by unfold joinL; simp
    rw [e, splitR_at 10 a _ (h a (by simp)), ih fun l hl => h l (by simp [hl])]
    rfl
theorem linesOf_join (ls : List (List UInt8)) (h : ∀ l ∈ ls, (10 : UInt8) ∉ l) : linesOf (joinL ls) = ls := by
  unfold linesOf
  rw [split_eq, splitR_join ls h, if_pos (by simp), List.dropLast_concat]

def optL (b : Bool) (l : List UInt8) : List (List UInt8) := if b then [l] else []
theorem joinL_opt (b : Bool) (l : List UInt8) : joinL (optL b l) = addN b l := by
  unfold optL addN joinL; cases b <;> simp
def linesT (q : Qr) : List (List UInt8) :=
  [wUrl ++ 32 :: q.url] ++ optL (!q.doc.isEmpty) (wDoc ++ 32 :: q.doc) ++ optL (!q.dest.isEmpty) (wDest ++ 32 :: q.dest) ++ optL (!(q.meth == wGet)) (wMethod ++ 32 :: q.meth)
    ++ optL q.cors wCors ++ optL q.creds wCreds ++ optL (!(q.redir == 0)) (wRedir ++ 32 :: decimal q.redir) ++ q.hds.map hdL
theorem text_join (q : Qr) : textN q = joinL (linesT q) := by
  unfold linesT
  rw [joinL_app, joinL_app, joinL_app, joinL_app, joinL_app, joinL_app, joinL_app, joinL_opt, joinL_opt, joinL_opt, joinL_opt, joinL_opt, joinL_opt]
  unfold textN tx6 tx5 tx4 tx3 tx2 tx1 tx0
  have e1 : joinL [wUrl ++ 32 :: q.url] = [117, 114, 108, 32] ++ q.url ++ [10] := by unfold joinL wUrl; simp
  have e2 : joinL (q.hds.map hdL) = hdsL q.hds := by unfold joinL hdsL; rw [List.map_map]; rfl
  rw [e1, e2]
  rfl

/-! ### what a field's line is cut into -/
theorem cut2_at (a b : List UInt8) (h : (58 : UInt8) ∉ a) : Lib.cut (a ++ 58 :: 32 :: b) [58, 32] = (a, b, true) := by
  have : Lib.index (a ++ 58 :: 32 :: b) [58, 32] = (a.length : Int) := by
    refine Lib.index_first (by simp) (by unfold Lib.occAt; rw [List.drop_left]; rfl) fun j hj => ?_
    cases ho : Lib.occAt (a ++ 58 :: 32 :: b) [58, 32] j with
    | false => rfl
    | true =>
      have := Lib.occAt_head rfl ho
      rw [List.getElem?_append_left hj] at this
      exact (h (List.mem_of_getElem? this)).elim
  unfold Lib.cut
  rw [this, if_pos (by omega)]
  simp [List.drop_append]
theorem cut2_ways (v : List UInt8) : (Lib.cut v [58, 32] = (v, [], false) ∧ ∀ a b, v ≠ a ++ 58 :: 32 :: b) ∨ ∃ a b, v = a ++ 58 :: 32 :: b ∧ Lib.cut v [58, 32] = (a, b, true) := by
  rcases Lib.index_spec v [58, 32] with ⟨h1, h2⟩ | ⟨i, h1, h2, h3, _⟩
  · refine .inl ⟨by unfold Lib.cut; rw [h1, if_neg (by omega)], fun a b e => ?_⟩
    have := h2 a.length (by rw [e]; simp)
    rw [e] at this
    unfold Lib.occAt at this
    rw [List.drop_left] at this
    exact absurd this (by simp)
  · refine .inr ⟨v.take i, v.drop (i + 2), ?_, by unfold Lib.cut; rw [h1, if_pos (by omega)]; rfl⟩
    unfold Lib.occAt at h3
    have h3 := List.isPrefixOf_iff_prefix.1 h3
    obtain ⟨t, ht⟩ := h3
    have e : v.drop (i + 2) = t := by
      rw [← List.drop_drop, ← ht]; rfl
    rw [e, show (58 : UInt8) :: 32 :: t = [58, 32] ++ t from rfl, ht, List.take_append_drop]
theorem tok_colon {a : List UInt8} (h : (58 : UInt8) ∈ a) : token a = false := by
  unfold token
  have : a.all isTok = false := List.all_eq_false.2 ⟨58, h, by decide⟩
  rw [this, Bool.and_false]

/-! ### what may stand in a query that was read -/
/-- a query as it is read -/
structure Can (q : Qr) : Prop where
  url : graphic q.url = true
  doc : q.doc = [] ∨ graphic q.doc = true
  dest : q.dest = [] ∨ graphic q.dest = true
  meth : graphic q.meth = true
  redir : q.redir = 0 ∨ number (decimal q.redir) 2 = (q.redir, true)
  hds : ∀ f ∈ q.hds, f.2 ≠ [] ∧ valid f.1 f.2 = true

theorem graphic_no (c : UInt8) (hc : c.toNat < 33) {l : List UInt8} (h : graphic l = true) : c ∉ l := by
  unfold graphic at h
  rw [Bool.and_eq_true] at h
  intro hm
  have := List.all_eq_true.1 h.1 c hm
  simp at this; omega
theorem valid_parts {n v : List UInt8} (h : valid n v = true) : token n = true ∧ (10 : UInt8) ∉ v ∧ (58 : UInt8) ∉ n ∧ (10 : UInt8) ∉ n := by
  unfold valid at h
  rw [Bool.and_eq_true, Bool.and_eq_true] at h
  obtain ⟨⟨h1, h2⟩, _⟩ := h
  refine ⟨h1, fun hm => ?_, fun hm => ?_, fun hm => ?_⟩
  · have := List.all_eq_true.1 h2 10 hm
    exact absurd this (by decide)
  · rw [tok_colon hm] at h1; exact absurd h1 (by decide)
  · unfold token at h1
    rw [Bool.and_eq_true] at h1
    have := List.all_eq_true.1 h1.2 10 hm
    exact absurd this (by decide)
theorem digs_no (k : Nat) : ∀ n, (10 : UInt8) ∉ digs k n := by
  induction k with
  | zero => intro n; simp [digs]
  | succ k ih =>
    intro n
    unfold digs
    split
    · simp
    · intro h
      rcases List.mem_cons.1 h with h | h
      · have := congrArg UInt8.toNat h
        rw [UInt8.toNat_ofNat'] at this
        have h10 : (10 : UInt8).toNat = 10 := rfl
        omega
      · exact ih _ h
theorem decimal_no (n : Int) : (10 : UInt8) ∉ decimal n := by
  unfold decimal
  intro h
  rcases List.mem_append.1 h with h | h
  · split at h
    · exact absurd h (by decide)
    · simp at h
  · rw [List.mem_reverse] at h
    rcases List.mem_cons.1 h with h | h
    · have := congrArg UInt8.toNat h
      rw [UInt8.toNat_ofNat'] at this
      have h10 : (10 : UInt8).toNat = 10 := rfl
      omega
    · exact digs_no _ _ h

theorem Can.lines {q : Qr} (h : Can q) : ∀ l ∈ linesT q, (10 : UInt8) ∉ l := by
  have hw : ∀ (w x : List UInt8), (10 : UInt8) ∉ w → (10 : UInt8) ∉ x → (10 : UInt8) ∉ w ++ 32 :: x := by
    intro w x h1 h2 hm
    rcases List.mem_append.1 hm with hm | hm
    · exact h1 hm
    · rcases List.mem_cons.1 hm with hm | hm
      · exact absurd hm (by decide)
      · exact h2 hm
  have ho : ∀ (b : Bool) (x l : List UInt8), l ∈ optL b x → l = x := by
    intro b x l hm
    unfold optL at hm
    cases b <;> simp at hm
    exact hm
  have hg : ∀ x : List UInt8, graphic x = true → (10 : UInt8) ∉ x := fun x hx => graphic_no 10 (by decide) hx
  have hg' : ∀ x : List UInt8, x = [] ∨ graphic x = true → (10 : UInt8) ∉ x := fun x hx => by
    rcases hx with rfl | hx
    · simp
    · exact hg x hx
  intro l hl
  unfold linesT at hl
  simp only [List.mem_append] at hl
  rcases hl with ((((((hl | hl) | hl) | hl) | hl) | hl) | hl) | hl
  · rw [List.mem_singleton] at hl; rw [hl]; exact hw _ _ (by decide) (hg _ h.url)
  · rw [ho _ _ _ hl]; exact hw _ _ (by decide) (hg' _ h.doc)
  · rw [ho _ _ _ hl]; exact hw _ _ (by decide) (hg' _ h.dest)
  · rw [ho _ _ _ hl]; exact hw _ _ (by decide) (hg _ h.meth)
  · rw [ho _ _ _ hl]; decide
  · rw [ho _ _ _ hl]; decide
  · rw [ho _ _ _ hl]; exact hw _ _ (by decide) (decimal_no _)
  · obtain ⟨f, hf, rfl⟩ := List.mem_map.1 hl
    obtain ⟨_, h1, _, h2⟩ := valid_parts (h.hds f hf).2
    unfold hdL
    intro hm
    simp only [List.mem_append] at hm
    rcases hm with ((hm | hm) | hm) | hm
    · exact absurd hm (by decide)
    · exact h2 hm
    · exact absurd hm (by decide)
    · exact h1 hm

/-! ### reading such lines -/
theorem lineQ_word (st : QS) (w x : List UInt8) (h : (32 : UInt8) ∉ w) : lineQ st (w ++ 32 :: x) = wordN (metN st w) w x true := by
  unfold lineQ
  rw [cutAt_at 32 w x h, show (w ++ 32 :: x).contains 32 = true by simp]
theorem lineQ_bare (st : QS) (w : List UInt8) (h : (32 : UInt8) ∉ w) : lineQ st w = wordN (metN st w) w [] false := by
  unfold lineQ
  rw [cutAt_none 32 w h, show w.contains 32 = false by simpa using h]
theorem metN_new (q : Qr) (met : List (List UInt8)) (w : List UInt8) (hw : (w == wHeader) = false) (h : w ∉ met) : metN ⟨q, met, false⟩ w = ⟨q, met ++ [w], false⟩ := by
  unfold metN
  rw [if_neg (by rw [hw]; decide), show met.contains w = false by simpa using h]
  rfl
theorem fold_opt (st su : QS) (b : Bool) (l : List UInt8) (h0 : b = false → st = su) (h1 : b = true → lineQ st l = su) : (optL b l).foldl lineQ st = su := by
  unfold optL
  cases b with
  | false => exact h0 rfl
  | true => exact h1 rfl
def metT (q : Qr) (k : Nat) : List (List UInt8) :=
  ([[wUrl], optL (!q.doc.isEmpty) wDoc, optL (!q.dest.isEmpty) wDest, optL (!(q.meth == wGet)) wMethod, optL q.cors wCors, optL q.creds wCreds, optL (!(q.redir == 0)) wRedir].take (k + 1)).flatten
theorem not_opt {w x : List UInt8} (b : Bool) (h : (w == x) = false) : w ∉ optL b x := by
  unfold optL
  cases b
  · simp
  · simp only [if_true, List.mem_singleton]
    intro e; rw [e] at h; simp at h
theorem hd_read (st : QS) (hs : List Fd) (h : ∀ f ∈ hs, f.2 ≠ [] ∧ valid f.1 f.2 = true) : (hs.map hdL).foldl lineQ st = { st with q := { st.q with hds := st.q.hds ++ hs } } := by
  induction hs generalizing st with
  | nil => simp
  | cons f hs ih =>
    obtain ⟨h1, h2⟩ := h f (by simp)
    rw [List.map_cons, List.foldl_cons]
    have e : lineQ st (hdL f) = { st with q := { st.q with hds := st.q.hds ++ [f] } } := by
      have e1 : hdL f = wHeader ++ 32 :: (f.1 ++ 58 :: 32 :: f.2) := by unfold hdL wHeader; simp
      rw [e1, lineQ_word st _ _ (by decide), wn7 (by decide) (by decide) (by decide) (by decide) (by decide) (by decide) (by decide) (by decide)]
      have e2 : metN st wHeader = st := by unfold metN; rw [if_pos (by decide)]
      rw [e2]
      unfold headN
      rw [cut2_at _ _ (valid_parts h2).2.2.1]
      have e3 : f.2.isEmpty = false := by simpa using h1
      simp only [h2, e3]
      simp
    rw [e, ih _ fun g hg => h g (by simp [hg])]
    simp
theorem wU {st : QS} {r : List UInt8} {ok : Bool} : wordN st wUrl r ok = { st with q := { st.q with url := r }, bad := st.bad || (!ok || !graphic r) } := (wn0 (by decide)).trans rfl
theorem wD {st : QS} {r : List UInt8} {ok : Bool} : wordN st wDoc r ok = { st with q := { st.q with doc := r }, bad := st.bad || (!ok || !graphic r) } := (wn1 (by decide) (by decide)).trans rfl
theorem wE {st : QS} {r : List UInt8} {ok : Bool} : wordN st wDest r ok = { st with q := { st.q with dest := r }, bad := st.bad || (!ok || !graphic r) } := (wn2 (by decide) (by decide) (by decide)).trans rfl
theorem wM {st : QS} {r : List UInt8} {ok : Bool} : wordN st wMethod r ok = { st with q := { st.q with meth := r }, bad := st.bad || (!ok || !graphic r) } := (wn3 (by decide) (by decide) (by decide) (by decide)).trans rfl
theorem wC {st : QS} {r : List UInt8} {ok : Bool} : wordN st wCors r ok = { st with q := { st.q with cors := true }, bad := st.bad || ok } := (wn4 (by decide) (by decide) (by decide) (by decide) (by decide)).trans rfl
theorem wCr {st : QS} {r : List UInt8} {ok : Bool} : wordN st wCreds r ok = { st with q := { st.q with creds := true }, bad := st.bad || ok } := (wn5 (by decide) (by decide) (by decide) (by decide) (by decide) (by decide)).trans rfl
theorem wn6' {st : QS} {r : List UInt8} {ok : Bool} : wordN st wRedir r ok = { st with q := { st.q with redir := (number r 2).1 }, bad := st.bad || !(number r 2).2 } := wn6 (by decide) (by decide) (by decide) (by decide) (by decide) (by decide) (by decide)
theorem Can.read {q : Qr} (h : Can q) : linesQ (linesT q) = ⟨q, metT q 6, false⟩ := by
  unfold linesQ linesT
  simp only [List.foldl_append]
  have s0 : [wUrl ++ 32 :: q.url].foldl lineQ {} = ⟨{ meth := wGet, url := q.url }, metT q 0, false⟩ := by
    rw [List.foldl_cons, List.foldl_nil, lineQ_word _ _ _ (by decide), metN_new _ _ _ (by decide) (by simp), wn0 (by decide)]
    simp [setQ, h.url, metT]
  have s1 : (optL (!q.doc.isEmpty) (wDoc ++ 32 :: q.doc)).foldl lineQ ⟨{ meth := wGet, url := q.url }, metT q 0, false⟩ = ⟨{ meth := wGet, url := q.url, doc := q.doc }, metT q 1, false⟩ := by
    refine fold_opt _ _ _ _ (fun hb => ?_) fun hb => ?_
    · have : q.doc = [] := by simpa using hb
      simp [this, metT, optL]
    · rw [lineQ_word _ _ _ (by decide), metN_new _ _ _ (by decide) (by
        simp only [metT, List.take_succ_cons, List.take_zero, List.flatten_cons, List.flatten_nil, List.append_nil]; decide), wn1 (by decide) (by decide)]
      have hg := h.doc.resolve_left (by simpa using hb)
      have hb' : q.doc.isEmpty = false := by simpa using hb
      simp [setQ, hg, metT, optL, hb']
  have s2 : (optL (!q.dest.isEmpty) (wDest ++ 32 :: q.dest)).foldl lineQ ⟨{ meth := wGet, url := q.url, doc := q.doc }, metT q 1, false⟩ = ⟨{ meth := wGet, url := q.url, doc := q.doc, dest := q.dest }, metT q 2, false⟩ := by
    refine fold_opt _ _ _ _ (fun hb => ?_) fun hb => ?_
    · have : q.dest = [] := by simpa using hb
      simp [this, metT, optL]
    · rw [lineQ_word _ _ _ (by decide), metN_new _ _ _ (by decide) (by
        simp only [metT, List.take_succ_cons, List.take_zero, List.flatten_cons, List.flatten_nil, List.append_nil, List.mem_append, not_or]
        exact ⟨by decide, not_opt _ (by decide)⟩), wn2 (by decide) (by decide) (by decide)]
      have hg := h.dest.resolve_left (by simpa using hb)
      have hb' : q.dest.isEmpty = false := by simpa using hb
      simp [setQ, hg, metT, optL, hb']
  have s3 : (optL (!(q.meth == wGet)) (wMethod ++ 32 :: q.meth)).foldl lineQ ⟨{ meth := wGet, url := q.url, doc := q.doc, dest := q.dest }, metT q 2, false⟩ = ⟨{ meth := q.meth, url := q.url, doc := q.doc, dest := q.dest }, metT q 3, false⟩ := by
    refine fold_opt _ _ _ _ (fun hb => ?_) fun hb => ?_
    · have : q.meth = wGet := by simpa using hb
      simp [this, metT, optL]
    · rw [lineQ_word _ _ _ (by decide), metN_new _ _ _ (by decide) (by
        simp only [metT, List.take_succ_cons, List.take_zero, List.flatten_cons, List.flatten_nil, List.append_nil, List.mem_append, not_or]
        exact ⟨by decide, not_opt _ (by decide), not_opt _ (by decide)⟩), wn3 (by decide) (by decide) (by decide) (by decide)]
      have hb' : (q.meth == wGet) = false := by simpa using hb
      simp [setQ, h.meth, metT, optL, hb']
  have s4 : (optL q.cors wCors).foldl lineQ ⟨{ meth := q.meth, url := q.url, doc := q.doc, dest := q.dest }, metT q 3, false⟩ = ⟨{ meth := q.meth, url := q.url, doc := q.doc, dest := q.dest, cors := q.cors }, metT q 4, false⟩ := by
    refine fold_opt _ _ _ _ (fun hb => ?_) fun hb => ?_
    · simp [hb, metT, optL]
    · rw [lineQ_bare _ _ (by decide), metN_new _ _ _ (by decide) (by
        simp only [metT, List.take_succ_cons, List.take_zero, List.flatten_cons, List.flatten_nil, List.append_nil, List.mem_append, not_or]
        exact ⟨by decide, not_opt _ (by decide), not_opt _ (by decide), not_opt _ (by decide)⟩), wn4 (by decide) (by decide) (by decide) (by decide) (by decide)]
      simp [metT, optL, hb]
  have s5 : (optL q.creds wCreds).foldl lineQ ⟨{ meth := q.meth, url := q.url, doc := q.doc, dest := q.dest, cors := q.cors }, metT q 4, false⟩ = ⟨{ meth := q.meth, url := q.url, doc := q.doc, dest := q.dest, cors := q.cors, creds := q.creds }, metT q 5, false⟩ := by
    refine fold_opt _ _ _ _ (fun hb => ?_) fun hb => ?_
    · simp [hb, metT, optL]
    · rw [lineQ_bare _ _ (by decide), metN_new _ _ _ (by decide) (by
        simp only [metT, List.take_succ_cons, List.take_zero, List.flatten_cons, List.flatten_nil, List.append_nil, List.mem_append, not_or]
        exact ⟨by decide, not_opt _ (by decide), not_opt _ (by decide), not_opt _ (by decide), not_opt _ (by decide)⟩), wn5 (by decide) (by decide) (by decide) (by decide) (by decide) (by decide)]
      simp [metT, optL, hb]
  have s6 : (optL (!(q.redir == 0)) (wRedir ++ 32 :: decimal q.redir)).foldl lineQ ⟨{ meth := q.meth, url := q.url, doc := q.doc, dest := q.dest, cors := q.cors, creds := q.creds }, metT q 5, false⟩ = ⟨{ meth := q.meth, url := q.url, doc := q.doc, dest := q.dest, cors := q.cors, creds := q.creds, redir := q.redir }, metT q 6, false⟩ := by
    refine fold_opt _ _ _ _ (fun hb => ?_) fun hb => ?_
    · have : q.redir = 0 := by simpa using hb
      simp [this, metT, optL]
    · rw [lineQ_word _ _ _ (by decide), metN_new _ _ _ (by decide) (by
        simp only [metT, List.take_succ_cons, List.take_zero, List.flatten_cons, List.flatten_nil, List.append_nil, List.mem_append, not_or]
        exact ⟨by decide, not_opt _ (by decide), not_opt _ (by decide), not_opt _ (by decide), not_opt _ (by decide), not_opt _ (by decide)⟩), wn6']
      have hg := h.redir.resolve_left (by simpa using hb)
      have hb' : (q.redir == 0) = false := by simpa using hb
      simp [hg, metT, optL, hb']
  rw [s0, s1, s2, s3, s4, s5, s6, hd_read _ _ h.hds]
  simp
theorem Can.again {q : Qr} (h : Can q) (hl : (textN q).length ≤ 4000) : queryN (textN q) = (q, 0) := by
  unfold queryN
  rw [if_neg]
  · rw [text_join, linesOf_join _ h.lines, h.read]; rfl
  · rw [Bool.or_eq_true, not_or, decide_eq_true_eq]
    refine ⟨by omega, ?_⟩
    have : textN q = [117, 114, 108, 32] ++ ((q.url ++ [10]) ++ joinL ((linesT q).drop 1)) := by
      rw [text_join]; unfold linesT; simp [joinL, wUrl]
    rw [this]
    simp

/-! ### a query that was read -/
/-- how long it is as a text -/
def tlen (q : Qr) : Nat := (q.url.length + 5) + (if q.doc = [] then 0 else q.doc.length + 5) + (if q.dest = [] then 0 else q.dest.length + 6) + (if q.meth = wGet then 0 else q.meth.length + 8)
  + (if q.cors then 5 else 0) + (if q.creds then 6 else 0) + (if q.redir = 0 then 0 else (decimal q.redir).length + 10) + (hdsL q.hds).length
theorem tlen_eq (q : Qr) : (textN q).length = tlen q := by
  have ha : ∀ (b : Bool) (l : List UInt8), (addN b l).length = if b then l.length + 1 else 0 := by
    intro b l; unfold addN; cases b <;> simp
  unfold textN tx6 tx5 tx4 tx3 tx2 tx1 tx0 tlen
  simp only [List.length_append, ha, List.length_cons, List.length_nil]
  have e1 : (if (!q.doc.isEmpty) = true then 0 + 1 + 1 + 1 + 1 + q.doc.length + 1 else 0) = if q.doc = [] then 0 else q.doc.length + 5 := by
    cases q.doc <;> simp; omega
  have e2 : (if (!q.dest.isEmpty) = true then 0 + 1 + 1 + 1 + 1 + 1 + q.dest.length + 1 else 0) = if q.dest = [] then 0 else q.dest.length + 6 := by
    cases q.dest <;> simp; omega
  have e3 : (if (!(q.meth == wGet)) = true then 0 + 1 + 1 + 1 + 1 + 1 + 1 + 1 + q.meth.length + 1 else 0) = if q.meth = wGet then 0 else q.meth.length + 8 := by
    by_cases h : q.meth = wGet
    · simp [h]
    · simp [h]; omega
  have e4 : (if (!(q.redir == 0)) = true then 0 + 1 + 1 + 1 + 1 + 1 + 1 + 1 + 1 + 1 + (decimal q.redir).length + 1 else 0) = if q.redir = 0 then 0 else (decimal q.redir).length + 10 := by
    by_cases h : q.redir = 0
    · simp [h]
    · simp [h]; omega
  rw [e1, e2, e3, e4]
  generalize q.cors = c1
  generalize q.creds = c2
  cases c1 <;> cases c2 <;> simp <;> omega

/-- what is so while lines are read -/
structure Rd (st : QS) (n : Nat) : Prop where
  url : (wUrl ∉ st.met ∧ st.q.url = []) ∨ (wUrl ∈ st.met ∧ graphic st.q.url = true)
  doc : st.q.doc = [] ∨ (wDoc ∈ st.met ∧ graphic st.q.doc = true)
  dest : st.q.dest = [] ∨ (wDest ∈ st.met ∧ graphic st.q.dest = true)
  meth : (st.q.meth = wGet) ∨ (wMethod ∈ st.met ∧ graphic st.q.meth = true)
  cors : st.q.cors = false ∨ wCors ∈ st.met
  creds : st.q.creds = false ∨ wCreds ∈ st.met
  redir : st.q.redir = 0 ∨ (wRedir ∈ st.met ∧ number (decimal st.q.redir) 2 = (st.q.redir, true))
  hds : ∀ f ∈ st.q.hds, f.2 ≠ [] ∧ valid f.1 f.2 = true
  len : tlen st.q ≤ n + (if wUrl ∈ st.met then 0 else 5)

theorem number_two (r : List UInt8) (h : (number r 2).2 = true) : number (decimal (number r 2).1) 2 = ((number r 2).1, true) ∧ (decimal (number r 2).1).length ≤ r.length := by
  by_cases hc : (r.isEmpty || decide ((r.length : Int) > min 2 18) || (decide (r[0]? = some 48) && decide (r.length > 1)) || !r.all isDig) = true
  · unfold number at h; rw [if_pos hc] at h; exact absurd h (by decide)
  · have hn : number r 2 = (numOf r, true) := by unfold number; rw [if_neg hc]
    rw [hn]
    dsimp only
    rw [Bool.or_eq_true, Bool.or_eq_true, Bool.or_eq_true, not_or, not_or, not_or] at hc
    obtain ⟨⟨⟨h1, h2⟩, _⟩, h4⟩ := hc
    have h1 : r ≠ [] := by simpa using h1
    have h2 : r.length ≤ 2 := by
      have e : min (2 : Int) 18 = 2 := rfl
      rw [e, decide_eq_true_eq] at h2; omega
    have hall : ∀ c ∈ r, isDig c = true := by
      intro c hc
      have : r.all isDig = true := by simpa using h4
      exact List.all_eq_true.1 this c hc
    have hd : ∀ c : UInt8, isDig c = true → ∃ k : Nat, k < 10 ∧ ((c.toNat : Int) - 48) = k := by
      intro c hc
      unfold isDig at hc
      rw [Bool.and_eq_true, decide_eq_true_eq, decide_eq_true_eq] at hc
      exact ⟨c.toNat - 48, by omega, by omega⟩
    have hk : ∀ k < 100, number (decimal (k : Nat)) 2 = ((k : Int), true) ∧ (decimal (k : Nat)).length ≤ 2 ∧ (k < 10 → (decimal (k : Nat)).length ≤ 1) := by decide
    clear hn h
    match r, h1, h2, hall with
    | [c], _, _, hall =>
      obtain ⟨k, hk1, hk2⟩ := hd c (hall c (by simp))
      have e : numOf [c] = k := by unfold numOf; simp [hk2]
      rw [e]
      obtain ⟨a1, a2, a3⟩ := hk k (by omega)
      exact ⟨a1, a3 hk1⟩
    | [c, d], _, _, hall =>
      obtain ⟨k, hk1, hk2⟩ := hd c (hall c (by simp))
      obtain ⟨j, hj1, hj2⟩ := hd d (hall d (by simp))
      have e : numOf [c, d] = ((10 * k + j : Nat) : Int) := by unfold numOf; simp [hk2, hj2]
      rw [e]
      obtain ⟨a1, a2, a3⟩ := hk (10 * k + j) (by omega)
      exact ⟨a1, a2⟩
    | c :: d :: e :: r, _, h2, _ => simp at h2

theorem hdsL_snoc (l : List Fd) (f : Fd) : hdsL (l ++ [f]) = hdsL l ++ (hdL f ++ [10]) := by unfold hdsL; simp

theorem wordN_bad {st : QS} {w r : List UInt8} {ok : Bool} (h : (wordN st w r ok).bad = false) : st.bad = false := by
  cases hb : st.bad with
  | false => rfl
  | true =>
    rw [← h]
    unfold wordN headN
    repeat' split
    all_goals simp [hb]
theorem metN_ok {st : QS} {w : List UInt8} (hw : (w == wHeader) = false) (h : (metN st w).bad = false) : st.bad = false ∧ w ∉ st.met ∧ metN st w = ⟨st.q, st.met ++ [w], false⟩ := by
  unfold metN at h ⊢
  rw [if_neg (by rw [hw]; decide)] at h ⊢
  simp only [Bool.or_eq_false_iff] at h
  refine ⟨h.1, by simpa using h.2, ?_⟩
  rw [h.1, h.2]; rfl
theorem Rd.met {q : Qr} {met : List (List UInt8)} {n : Nat} (h : Rd ⟨q, met, false⟩ n) (w : List UInt8) (hw : (w == wUrl) = false) : Rd ⟨q, met ++ [w], false⟩ n := by
  have hu : wUrl ∈ met ++ [w] ↔ wUrl ∈ met := by
    rw [List.mem_append, List.mem_singleton]
    exact ⟨fun e => e.resolve_right fun e => by rw [← e] at hw; simp at hw, .inl⟩
  have hm : ∀ {x : List UInt8}, x ∈ met → x ∈ met ++ [w] := fun h => List.mem_append_left _ h
  refine ⟨?_, h.doc.imp id (.imp hm id), h.dest.imp id (.imp hm id), h.meth.imp id (.imp hm id), h.cors.imp id hm, h.creds.imp id hm, h.redir.imp id (.imp hm id), h.hds, ?_⟩
  · rcases h.url with ⟨h1, h2⟩ | ⟨h1, h2⟩
    · exact .inl ⟨fun e => h1 (hu.1 e), h2⟩
    · exact .inr ⟨hm h1, h2⟩
  · have := h.len
    dsimp only at this ⊢
    by_cases e : wUrl ∈ met
    · rw [if_pos e] at this; rw [if_pos (hu.2 e)]; exact this
    · rw [if_neg e] at this; rw [if_neg (fun k => e (hu.1 k))]; exact this
theorem line_parts (l : List UInt8) : (l.contains 32 = true ∧ l.length = (cutAt 32 l).1.length + 1 + (cutAt 32 l).2.length) ∨ (l.contains 32 = false ∧ (cutAt 32 l).2 = [] ∧ (cutAt 32 l).1 = l) := by
  rcases cut_ways 32 l with h | ⟨a, b, rfl, h⟩
  · exact .inr ⟨by simpa using h, by rw [cutAt_none 32 l h], by rw [cutAt_none 32 l h]⟩
  · exact .inl ⟨by simp, by rw [cutAt_at 32 a b h]; simp; omega⟩
theorem graphic_ne {l : List UInt8} (h : graphic l = true) : l ≠ [] := by
  intro e; rw [e] at h; exact absurd h (by decide)

set_option maxHeartbeats 4000000 in
theorem Rd.step {st : QS} {n : Nat} (h : Rd st n) (l : List UInt8) (hn : (lineQ st l).bad = false) : Rd (lineQ st l) (n + l.length + 1) := by
  have hp := line_parts l
  unfold lineQ at hn ⊢
  obtain ⟨w, hw⟩ : ∃ w, (cutAt 32 l).1 = w := ⟨_, rfl⟩
  obtain ⟨r, hr⟩ : ∃ r, (cutAt 32 l).2 = r := ⟨_, rfl⟩
  obtain ⟨ok, ho⟩ : ∃ ok, l.contains 32 = ok := ⟨_, rfl⟩
  rw [hw, hr, ho] at hn hp ⊢
  have hm := wordN_bad hn
  by_cases hh : (w == wHeader) = true
  · have ew : w = wHeader := by simpa using hh
    subst ew
    have e2 : metN st wHeader = st := by unfold metN; rw [if_pos (by decide)]
    rw [e2] at hn hm ⊢
    rw [wn7 (by decide) (by decide) (by decide) (by decide) (by decide) (by decide) (by decide) (by decide)] at hn ⊢
    unfold headN at hn ⊢
    rcases cut2_ways r with ⟨hc, _⟩ | ⟨a, b, rfl, hc⟩
    · rw [hc] at hn; simp at hn
    · rw [hc] at hn ⊢
      simp only [Bool.or_eq_false_iff, Bool.not_eq_eq_eq_not, Bool.not_false, Bool.not_true] at hn
      obtain ⟨h0, ⟨_, h1⟩, h2⟩ := hn
      have hlen : l.length = 6 + 1 + (a.length + (b.length + 1 + 1)) := by
        rcases hp with ⟨_, hp⟩ | ⟨_, hp, _⟩
        · rw [hp]; simp [wHeader]
        · simp at hp
      refine ⟨h.url, h.doc, h.dest, h.meth, h.cors, h.creds, h.redir, fun f hf => ?_, ?_⟩
      · rcases List.mem_append.1 hf with hf | hf
        · exact h.hds f hf
        · rw [List.mem_singleton] at hf; rw [hf]; exact ⟨by simpa using h1, h2⟩
      · have := h.len
        unfold tlen at this ⊢
        dsimp only
        rw [hdsL_snoc, List.length_append]
        have e3 : (hdL (a, b) ++ [10]).length = a.length + b.length + 10 := by unfold hdL; simp; omega
        omega
  · obtain ⟨hb, hnm, hmet⟩ := metN_ok (by simpa using hh) hm
    rw [hmet] at hn ⊢
    obtain ⟨q, met, bad⟩ := st
    subst hb
    dsimp only at hn hnm hmet ⊢
    clear hm hmet
    have hmem : w ∈ met ++ [w] := by simp
    by_cases hu : (w == wUrl) = true
    · have ew : w = wUrl := by simpa using hu
      subst ew
      rw [wU] at hn ⊢
      simp only [Bool.false_or, Bool.or_eq_false_iff, Bool.not_eq_eq_eq_not, Bool.not_false] at hn ⊢
      obtain ⟨h0, h1⟩ := hn
      have hlen : l.length = 3 + 1 + r.length := by
        rcases hp with ⟨_, hp⟩ | ⟨hp, _, _⟩
        · rw [hp]; simp [wUrl]
        · rw [h0] at hp; exact absurd hp (by decide)
      have hm : ∀ {x : List UInt8}, x ∈ met → x ∈ met ++ [wUrl] := fun h => List.mem_append_left _ h
      have hq : q.url = [] := by
        rcases h.url with ⟨_, h2⟩ | ⟨h1, _⟩
        · exact h2
        · exact (hnm h1).elim
      refine ⟨.inr ⟨hmem, h1⟩, h.doc.imp id (.imp hm id), h.dest.imp id (.imp hm id), h.meth.imp id (.imp hm id), h.cors.imp id hm, h.creds.imp id hm, h.redir.imp id (.imp hm id), h.hds, ?_⟩
      have := h.len
      dsimp only at this ⊢
      rw [if_neg hnm] at this
      rw [if_pos hmem]
      unfold tlen at this ⊢
      rw [hq] at this
      dsimp only [List.length_nil] at this ⊢
      omega
    · have h1 := h.met w (by simpa using hu)
      have hlu : (if wUrl ∈ met ++ [w] then 0 else 5) ≤ 5 := by split <;> omega
      by_cases hd : (w == wDoc) = true
      · have ew : w = wDoc := by simpa using hd
        subst ew
        rw [wD] at hn ⊢
        simp only [Bool.false_or, Bool.or_eq_false_iff, Bool.not_eq_eq_eq_not, Bool.not_false] at hn ⊢
        obtain ⟨h0, h2⟩ := hn
        have hlen : l.length = 3 + 1 + r.length := by
          rcases hp with ⟨_, hp⟩ | ⟨hp, _, _⟩
          · rw [hp]; simp [wDoc]
          · rw [h0] at hp; exact absurd hp (by decide)
        have hq : q.doc = [] := h.doc.resolve_right fun e => hnm e.1
        refine ⟨h1.url, .inr ⟨hmem, h2⟩, h1.dest, h1.meth, h1.cors, h1.creds, h1.redir, h1.hds, ?_⟩
        have := h1.len
        unfold tlen at this ⊢
        dsimp only at this ⊢
        rw [if_pos hq] at this
        rw [if_neg (graphic_ne h2)]
        omega
      by_cases hd : (w == wDest) = true
      · have ew : w = wDest := by simpa using hd
        subst ew
        rw [wE] at hn ⊢
        simp only [Bool.false_or, Bool.or_eq_false_iff, Bool.not_eq_eq_eq_not, Bool.not_false] at hn ⊢
        obtain ⟨h0, h2⟩ := hn
        have hlen : l.length = 4 + 1 + r.length := by
          rcases hp with ⟨_, hp⟩ | ⟨hp, _, _⟩
          · rw [hp]; simp [wDest]
          · rw [h0] at hp; exact absurd hp (by decide)
        have hq : q.dest = [] := h.dest.resolve_right fun e => hnm e.1
        refine ⟨h1.url, h1.doc, .inr ⟨hmem, h2⟩, h1.meth, h1.cors, h1.creds, h1.redir, h1.hds, ?_⟩
        have := h1.len
        unfold tlen at this ⊢
        dsimp only at this ⊢
        rw [if_pos hq] at this
        rw [if_neg (graphic_ne h2)]
        omega
      by_cases hd : (w == wMethod) = true
      · have ew : w = wMethod := by simpa using hd
        subst ew
        rw [wM] at hn ⊢
        simp only [Bool.false_or, Bool.or_eq_false_iff, Bool.not_eq_eq_eq_not, Bool.not_false] at hn ⊢
        obtain ⟨h0, h2⟩ := hn
        have hlen : l.length = 6 + 1 + r.length := by
          rcases hp with ⟨_, hp⟩ | ⟨hp, _, _⟩
          · rw [hp]; simp [wMethod]
          · rw [h0] at hp; exact absurd hp (by decide)
        have hq : q.meth = wGet := h.meth.resolve_right fun e => hnm e.1
        refine ⟨h1.url, h1.doc, h1.dest, .inr ⟨hmem, h2⟩, h1.cors, h1.creds, h1.redir, h1.hds, ?_⟩
        have := h1.len
        unfold tlen at this ⊢
        dsimp only at this ⊢
        rw [if_pos hq] at this
        have hle : (if r = wGet then 0 else r.length + 8) ≤ r.length + 8 := by split <;> omega
        omega
      by_cases hd : (w == wCors) = true
      · have ew : w = wCors := by simpa using hd
        subst ew
        rw [wC] at hn ⊢
        simp only [Bool.false_or] at hn ⊢
        have hlen : l.length = 4 := by
          rcases hp with ⟨hp, _⟩ | ⟨_, _, hp⟩
          · rw [hn] at hp; exact absurd hp (by decide)
          · rw [← hp]; rfl
        have hq : q.cors = false := h.cors.resolve_right fun e => hnm e
        subst hn
        refine ⟨h1.url, h1.doc, h1.dest, h1.meth, .inr hmem, h1.creds, h1.redir, h1.hds, ?_⟩
        have := h1.len
        unfold tlen at this ⊢
        dsimp only at this ⊢
        rw [hq] at this
        rw [if_pos rfl]
        omega
      by_cases hd : (w == wCreds) = true
      · have ew : w = wCreds := by simpa using hd
        subst ew
        rw [wCr] at hn ⊢
        simp only [Bool.false_or] at hn ⊢
        have hlen : l.length = 5 := by
          rcases hp with ⟨hp, _⟩ | ⟨_, _, hp⟩
          · rw [hn] at hp; exact absurd hp (by decide)
          · rw [← hp]; rfl
        have hq : q.creds = false := h.creds.resolve_right fun e => hnm e
        subst hn
        refine ⟨h1.url, h1.doc, h1.dest, h1.meth, h1.cors, .inr hmem, h1.redir, h1.hds, ?_⟩
        have := h1.len
        unfold tlen at this ⊢
        dsimp only at this ⊢
        rw [hq] at this
        rw [if_pos rfl]
        omega
      by_cases hd : (w == wRedir) = true
      · have ew : w = wRedir := by simpa using hd
        subst ew
        rw [wn6'] at hn ⊢
        simp only [Bool.false_or, Bool.not_eq_eq_eq_not, Bool.not_false] at hn ⊢
        have hlen : l.length = 8 + 1 + r.length := by
          rcases hp with ⟨_, hp⟩ | ⟨_, hp, _⟩
          · rw [hp]; simp [wRedir]
          · rw [hp] at hn; exact absurd hn (by decide)
        have hq : q.redir = 0 := h.redir.resolve_right fun e => hnm e.1
        obtain ⟨n1, n2⟩ := number_two r hn
        refine ⟨h1.url, h1.doc, h1.dest, h1.meth, h1.cors, h1.creds, .inr ⟨hmem, n1⟩, h1.hds, ?_⟩
        have := h1.len
        unfold tlen at this ⊢
        dsimp only at this ⊢
        rw [if_pos hq] at this
        have hle : (if (number r 2).1 = 0 then 0 else (decimal (number r 2).1).length + 10) ≤ (decimal (number r 2).1).length + 10 := by split <;> omega
        omega
      rw [wn8 (by simpa using hu) (by simpa using ‹¬(w == wDoc) = true›) (by simpa using ‹¬(w == wDest) = true›) (by simpa using ‹¬(w == wMethod) = true›) (by simpa using ‹¬(w == wCors) = true›) (by simpa using ‹¬(w == wCreds) = true›) (by simpa using ‹¬(w == wRedir) = true›) (by simpa using hh)] at hn
      exact absurd hn (by simp)

theorem lineQ_bad {st : QS} {l : List UInt8} (h : (lineQ st l).bad = false) : st.bad = false := by
  have := wordN_bad (st := metN st (cutAt 32 l).1) (w := (cutAt 32 l).1) (r := (cutAt 32 l).2) (ok := l.contains 32) h
  unfold metN at this
  split at this
  · exact this
  · simp only [Bool.or_eq_false_iff] at this; exact this.1
theorem fold_bad (ls : List (List UInt8)) : ∀ st : QS, (ls.foldl lineQ st).bad = false → st.bad = false := by
  induction ls with
  | nil => intro st h; exact h
  | cons l ls ih => intro st h; exact lineQ_bad (ih _ h)
theorem fold_rd (ls : List (List UInt8)) : ∀ (st : QS) (n : Nat), Rd st n → (ls.foldl lineQ st).bad = false → Rd (ls.foldl lineQ st) (n + (joinL ls).length) := by
  induction ls with
  | nil => intro st n h _; exact h
  | cons l ls ih =>
    intro st n h hb
    have h1 := h.step l (fold_bad ls _ hb)
    have := ih _ _ h1 hb
    have e : (joinL (l :: ls)).length = l.length + 1 + (joinL ls).length := by unfold joinL; simp; omega
    rw [List.foldl_cons, e, show n + (l.length + 1 + (joinL ls).length) = n + l.length + 1 + (joinL ls).length by omega]
    exact this
theorem fold_met (ls : List (List UInt8)) : ∀ (st : QS) (w : List UInt8), w ∈ st.met → w ∈ (ls.foldl lineQ st).met := by
  have hw : ∀ (st : QS) (w r : List UInt8) (ok : Bool), (wordN st w r ok).met = st.met := by
    intro st w r ok
    unfold wordN headN
    repeat' split
    all_goals rfl
  induction ls with
  | nil => intro st w h; exact h
  | cons l ls ih =>
    intro st w h
    refine ih _ _ ?_
    unfold lineQ
    rw [hw]
    unfold metN
    split
    · exact h
    · exact List.mem_append_left _ h
theorem join_split (s : List UInt8) : (joinL (splitR 10 s)).length = s.length + 1 := by
  induction s with
  | nil => rfl
  | cons c l ih =>
    unfold splitR
    split
    · have e : (joinL ([] :: splitR 10 l)).length = 1 + (joinL (splitR 10 l)).length := by unfold joinL; simp; omega
      rw [e, ih]; simp; omega
    · cases hs : splitR 10 l with
      | nil => exact (splitR_ne 10 l hs).elim
      | cons a b =>
        rw [hs] at ih
        have e : ∀ x : List UInt8, (joinL (x :: b)).length = x.length + 1 + (joinL b).length := by intro x; unfold joinL; simp; omega
        rw [e] at ih
        dsimp only
        rw [e]
        simp only [List.length_cons] at ih ⊢; omega
theorem join_lines (s : List UInt8) : (joinL (linesOf s)).length ≤ s.length + 1 := by
  have h := join_split s
  unfold linesOf
  rw [split_eq]
  split
  · rename_i hl
    have hne := splitR_ne 10 s
    have e : splitR 10 s = (splitR 10 s).dropLast ++ [(splitR 10 s).getLast hne] := (List.dropLast_concat_getLast hne).symm
    rw [e, joinL_app, List.length_append] at h
    omega
  · omega
theorem first_line (s : List UInt8) (h : (s.take 4 == [117, 114, 108, 32]) = true) : ∃ r ls, linesOf s = (wUrl ++ 32 :: r) :: ls := by
  obtain ⟨t, rfl⟩ : ∃ t, s = [117, 114, 108, 32] ++ t := by
    have := List.take_append_drop 4 s
    rw [show s.take 4 = [117, 114, 108, 32] by simpa using h] at this
    exact ⟨_, this.symm⟩
  have hs : ∃ r ls, splitR 10 ([117, 114, 108, 32] ++ t) = (wUrl ++ 32 :: r) :: ls := by
    rcases cut_ways 10 t with hc | ⟨a, b, rfl, ha⟩
    · refine ⟨t, [], ?_⟩
      rw [splitR_none 10 _ (by
        intro hm
        rcases List.mem_append.1 hm with hm | hm
        · exact absurd hm (by decide)
        · exact hc hm)]
      rfl
    · refine ⟨a, splitR 10 b, ?_⟩
      rw [← List.append_assoc, splitR_at 10 _ b (by
        intro hm
        rcases List.mem_append.1 hm with hm | hm
        · exact absurd hm (by decide)
        · exact ha hm)]
      rfl
  obtain ⟨r, ls, hs⟩ := hs
  unfold linesOf
  rw [split_eq, hs]
  split
  · rename_i hl
    cases ls with
    | nil => simp [wUrl] at hl
    | cons b ls => exact ⟨r, (b :: ls).dropLast, rfl⟩
  · exact ⟨r, ls, rfl⟩
/-- AnswerBack's law: a query that was read is short as a text, and is read again -/
theorem read_back (s : List UInt8) (h : (queryN s).2 = 0) : Can (queryN s).1 ∧ (textN (queryN s).1).length ≤ s.length + 1 := by
  unfold queryN at h ⊢
  split at h
  · exact absurd h (by decide)
  · rename_i hc
    rw [if_neg hc]
    simp only [Bool.or_eq_true, not_or, Bool.not_eq_true, Bool.not_eq_eq_eq_not, Bool.not_false, Bool.not_true] at hc
    split at h
    · exact absurd h (by decide)
    · rename_i hb
      rw [if_neg hb]
      have hb : (linesQ (linesOf s)).bad = false := by simpa using hb
      have h0 : Rd {} 0 := ⟨.inl ⟨by simp, rfl⟩, .inl rfl, .inl rfl, .inl rfl, .inl rfl, .inl rfl, .inl rfl, by simp, by decide⟩
      have hr := fold_rd (linesOf s) {} 0 h0 hb
      obtain ⟨r, ls, hf⟩ := first_line s (by simpa using hc.2)
      have hu : wUrl ∈ (linesQ (linesOf s)).met := by
        unfold linesQ
        rw [hf, List.foldl_cons]
        refine fold_met ls _ _ ?_
        rw [lineQ_word _ _ _ (by decide), metN_new _ _ _ (by decide) (by simp), wn0 (by decide)]
        simp
      have hr : Rd (linesQ (linesOf s)) (0 + (joinL (linesOf s)).length) := hr
      refine ⟨⟨?_, hr.doc.imp id And.right, hr.dest.imp id And.right, ?_, hr.redir.imp id And.right, hr.hds⟩, ?_⟩
      · rcases hr.url with ⟨h1, _⟩ | ⟨_, h2⟩
        · exact (h1 hu).elim
        · exact h2
      · rcases hr.meth with h1 | ⟨_, h2⟩
        · rw [h1]; rfl
        · exact h2
      · have := hr.len
        rw [if_pos hu] at this
        have h2 := join_lines s
        show (textN (linesQ (linesOf s)).q).length ≤ s.length + 1
        rw [tlen_eq]
        omega
end Go.Proofs.YtilpaopkhghicaaDoor.Asc
