/-
  Contract: the document's word.
  Lengths within the rows' own reach.
-/
import Derived.Test.YtilpaopkhghicaaDoorAnV
namespace Go.Proofs.YtilpaopkhghicaaDoor.Asc
open Go Go.RowKit Go.Proofs.YtilpaopkhghicaaDoor.Pb

def qcells (q : Qr) (F : Value) : List Value := [.string (ofL q.doc), .string (ofL q.url), .string (ofL q.dest), .string (ofL q.meth), .bool q.cors, .bool q.creds, .int .i64 q.redir, F]
/-- a query lies at b; its headers lie in a block of S -/
structure QIn (w : World) (S : Nat → Prop) (b : Nat) (q : Qr) (F : Value) : Prop where
  blk : w.heap[b]? = some (.cells (qcells q F).toArray 25 (0, 0))
  hds : Own fld 42 w (fun k => F.ownBlock = some k) q.hds F
  inF : ∀ k, F.ownBlock = some k → S k
  out : ¬ S b
theorem QIn.lt {w : World} {S : Nat → Prop} {b : Nat} {q : Qr} {F : Value} (h : QIn w S b q F) : b < w.heap.size := blk_lt h.blk
theorem QIn.mono {w : World} {S S' : Nat → Prop} {b : Nat} {q : Qr} {F : Value} (h : QIn w S b q F) (hS : ∀ k, k < w.heap.size → S k → S' k) (ho : ¬ S' b) : QIn w S' b q F :=
  ⟨h.blk, h.hds, fun k hk => hS k (own_lt2 h.hds hk) (h.inF k hk), ho⟩
theorem QIn.keep {w w' : World} {S G : Nat → Prop} {b : Nat} {q : Qr} {F : Value} (h : QIn w S b q F) (hk : Keep G w w') (hG : ∀ k, k < w.heap.size → S k ∨ k = b → ¬ G k) : QIn w' S b q F :=
  ⟨hk.blk h.blk (hG b h.lt (.inr rfl)), h.hds.move fun k hF hl => hk.block k hl (hG k hl (.inl (h.inF k hF))), h.inF, h.out⟩
theorem QIn.below {w w' : World} {S : Nat → Prop} {b : Nat} {q : Qr} {F : Value} (h : QIn w S b q F) (hk : Below w.heap.size w w') : QIn w' S b q F :=
  h.keep (G := fun k => w.heap.size ≤ k) (Keep.of_below hk) fun k hl _ => by omega
theorem QIn.scal {w w' : World} {S : Nat → Prop} {b : Nat} {q q' : Qr} {F : Value} (h : QIn w S b q F) (hk : Keep (fun k => k = b) w w') (hb : w'.heap[b]? = some (.cells (qcells q' F).toArray 25 (0, 0))) (e1 : q'.hds = q.hds) : QIn w' S b q' F :=
  ⟨hb, e1 ▸ h.hds.keep hk (fun k hF hG => h.out (hG ▸ h.inF k hF)), h.inF, h.out⟩
/-- one more header: the row may be a new one -/
theorem QIn.newF {w w' : World} {S : Nat → Prop} {b : Nat} {q q' : Qr} {F F' : Value} (h : QIn w S b q F) (hb : w'.heap[b]? = some (.cells (qcells q' F').toArray 25 (0, 0)))
    (hl : Own fld 42 w' (fun k => F'.ownBlock = some k) q'.hds F') (hL : ∀ k, F'.ownBlock = some k → F.ownBlock = some k ∨ w.heap.size ≤ k) : QIn w' (fun k => S k ∨ w.heap.size ≤ k) b q' F' := by
  have hlt := h.lt
  refine ⟨hb, hl, fun k hk' => (hL k hk').imp (h.inF k) id, ?_⟩
  rintro (h1 | h1)
  · exact h.out h1
  · omega

/-- the four words with a text behind, as the document has them -/
def nmR : Nat → List UInt8
  | 0 => wUrl ++ [32]
  | 1 => wDoc ++ [32]
  | 2 => wDest ++ [32]
  | _ => wMethod ++ [32]
def setR : Nat → Qr → List UInt8 → Qr
  | 0, q, l => { q with url := l }
  | 1, q, l => { q with doc := l }
  | 2, q, l => { q with dest := l }
  | _, q, l => { q with meth := l }
theorem wordR_at (q : Qr) (l : List UInt8) (h4 : (l == wCors) = false) (h5 : (l == wCreds) = false) (k : Nat) (hk : k < 4) (hn : ∀ j, j < k → (begN (nmR j) l).2 = false) (r : List UInt8) (hb : begN (nmR k) l = (r, true)) : wordR q l = (graphic r, setR k q r) := by
  unfold wordR
  rw [if_neg (by rw [h4]; decide), if_neg (by rw [h5]; decide)]
  match k, hk with
  | 0, _ => rw [show wUrl ++ [32] = nmR 0 from rfl, hb]; rfl
  | 1, _ =>
    have h0 := hn 0 (by decide)
    rw [show wUrl ++ [32] = nmR 0 from rfl, show wDoc ++ [32] = nmR 1 from rfl, h0, hb]; rfl
  | 2, _ =>
    have h0 := hn 0 (by decide)
    have h1 := hn 1 (by decide)
    rw [show wUrl ++ [32] = nmR 0 from rfl, show wDoc ++ [32] = nmR 1 from rfl, show wDest ++ [32] = nmR 2 from rfl, h0, h1, hb]; rfl
  | 3, _ =>
    have h0 := hn 0 (by decide)
    have h1 := hn 1 (by decide)
    have h2 := hn 2 (by decide)
    rw [show wUrl ++ [32] = nmR 0 from rfl, show wDoc ++ [32] = nmR 1 from rfl, show wDest ++ [32] = nmR 2 from rfl, show wMethod ++ [32] = nmR 3 from rfl, h0, h1, h2, hb]; rfl
theorem wordR_past (q : Qr) (l : List UInt8) (h4 : (l == wCors) = false) (h5 : (l == wCreds) = false) (hn : ∀ j, j < 4 → (begN (nmR j) l).2 = false) :
    wordR q l = if (begN (wRedir ++ [32]) l).2 then ((number (begN (wRedir ++ [32]) l).1 2).2, { q with redir := (number (begN (wRedir ++ [32]) l).1 2).1 })
      else if (begN (wHeader ++ [32]) l).2 then
        match fieldR (begN (wHeader ++ [32]) l).1 with
        | none => (false, q)
        | some f => (valid f.1 f.2, { q with hds := q.hds ++ [f] })
      else (false, q) := by
  have h0 := hn 0 (by decide)
  have h1 := hn 1 (by decide)
  have h2 := hn 2 (by decide)
  have h3 := hn 3 (by decide)
  conv => lhs; unfold wordR
  rw [if_neg (by rw [h4]; decide), if_neg (by rw [h5]; decide)]
  rw [show wUrl ++ [32] = nmR 0 from rfl, show wDoc ++ [32] = nmR 1 from rfl, show wDest ++ [32] = nmR 2 from rfl, show wMethod ++ [32] = nmR 3 from rfl, h0, h1, h2, h3]
  rfl

set_option maxHeartbeats 8000000 in
set_option maxRecDepth 20000 in
theorem word_any (w : World) (S : Nat → Prop) (b : Nat) (q : Qr) (F : Value) (h : QIn w S b q F) (hl : q.hds.length ≤ 1000000) (s : ByteArray) (hs : s.size ≤ 100000) :
    Calls Tryd.prog 31 #[.pointer (some ⟨b, 0, none⟩), .string s] w fun e w' => e = .returned (.bool (wordR q (toL s)).1) ∧
      ∃ F', QIn w' (fun k => S k ∨ w.heap.size ≤ k) b (wordR q (toL s)).2 F' ∧ Keep (fun k => S k ∨ k = b) w w' := by
  refine calls_gen fun R hR => ?_
  obtain ⟨FA, fn, rfl, hfn⟩ := h.hds.slice
  have H := Lib.hid h
  clear h
  have HLB : Hid (b < w.heap.size) := Lib.hid H.out.lt
  go_enter Tryd.func31, Tryd.ntmps31
  have hltb := HLB.out
  have c4 := blk_cell H.out.blk 4
  have c5 := blk_cell H.out.blk 5
  have f4 := blk_free H.out.blk 4
  have f5 := blk_free H.out.blk 5
  simp only [qcells, List.getElem?_toArray, List.getElem?_cons_zero, List.getElem?_cons_succ] at c4 c5
  cases h4 : (s.toList == [99, 111, 114, 115]) with
  | true =>
    have e4 : (toL s == wCors) = true := by rw [← toList_toL]; exact h4
    have hw : wordR q (toL s) = (true, { q with cors := true }) := by unfold wordR; rw [if_pos e4]
    rw [hw] at hR
    clear hw e4
    go_wp2_with fail
    go_ret
    have k2 := (Keep.refl (fun k => k = b) w).set (p := ⟨b, 4, none⟩) rfl (.bool true)
    exact hR _ _ ⟨rfl, _, (H.out.scal (q' := { q with cors := true }) k2 (blk_set H.out.blk 4 (.bool true)) rfl).mono (fun _ _ h => .inl h) (fun h => h.elim H.out.out fun h => by have := HLB.out; omega), k2.mono fun _ _ h => .inr h⟩
  | false =>
  cases h5 : (s.toList == [99, 114, 101, 100, 115]) with
  | true =>
    have e4 : ¬ (toL s == wCors) = true := by rw [← toList_toL]; intro e; rw [show (s.toList == wCors) = (s.toList == [99, 111, 114, 115]) from rfl, h4] at e; exact absurd e (by decide)
    have e5 : (toL s == wCreds) = true := by rw [← toList_toL]; exact h5
    have hw : wordR q (toL s) = (true, { q with creds := true }) := by unfold wordR; rw [if_neg e4, if_pos e5]
    rw [hw] at hR
    clear hw e4 e5
    go_wp2_with fail
    go_ret
    have k2 := (Keep.refl (fun k => k = b) w).set (p := ⟨b, 5, none⟩) rfl (.bool true)
    exact hR _ _ ⟨rfl, _, (H.out.scal (q' := { q with creds := true }) k2 (blk_set H.out.blk 5 (.bool true)) rfl).mono (fun _ _ h => .inl h) (fun h => h.elim H.out.out fun h => by have := HLB.out; omega), k2.mono fun _ _ h => .inr h⟩
  | false =>
    have H4 : Hid ((toL s == wCors) = false) := Lib.hid (by rw [← toList_toL]; exact h4)
    have H5 : Hid ((toL s == wCreds) = false) := Lib.hid (by rw [← toList_toL]; exact h5)
    go_upto_region 9 with fail
    clear h4 h5 c4 c5 f4 f5
    obtain ⟨w1, hw1⟩ : ∃ w1, w.alloc (.cells #[.string ⟨#[117, 114, 108, 32]⟩, .string ⟨#[100, 111, 99, 32]⟩, .string ⟨#[100, 101, 115, 116, 32]⟩, .string ⟨#[109, 101, 116, 104, 111, 100, 32]⟩] 9) = w1 := ⟨_, rfl⟩
    have HB1 : Hid (Below w.heap.size w w1) := Lib.hid (hw1 ▸ below_new w _)
    have HG1 : Hid (w1.heap[w.heap.size]? = some (.cells #[.string ⟨#[117, 114, 108, 32]⟩, .string ⟨#[100, 111, 99, 32]⟩, .string ⟨#[100, 101, 115, 116, 32]⟩, .string ⟨#[109, 101, 116, 104, 111, 100, 32]⟩] 9 (0, 0))) := Lib.hid (hw1 ▸ blk_new w (.cells #[.string ⟨#[117, 114, 108, 32]⟩, .string ⟨#[100, 111, 99, 32]⟩, .string ⟨#[100, 101, 115, 116, 32]⟩, .string ⟨#[109, 101, 116, 104, 111, 100, 32]⟩] 9))
    rw [hw1]
    clear hw1 hltb
    have H1 : Hid (QIn w1 S b q (.slice FA q.hds.length fn)) := Lib.hid (H.out.below HB1.out)
    have hltb := H1.out.lt
    have hltn := blk_lt HG1.out
    have n0 : w1.cell? ⟨w.heap.size, 0, none⟩ = some (.string ⟨#[117, 114, 108, 32]⟩) := blk_cell HG1.out 0
    have n1 : w1.cell? ⟨w.heap.size, 1, none⟩ = some (.string ⟨#[100, 111, 99, 32]⟩) := blk_cell HG1.out 1
    have n2 : w1.cell? ⟨w.heap.size, 2, none⟩ = some (.string ⟨#[100, 101, 115, 116, 32]⟩) := blk_cell HG1.out 2
    have n3 : w1.cell? ⟨w.heap.size, 3, none⟩ = some (.string ⟨#[109, 101, 116, 104, 111, 100, 32]⟩) := blk_cell HG1.out 3
    have HFIN : Hid (∀ (bb : Bool) (q2 : Qr) (F2 : Value) (W : World), wordR q (toL s) = (bb, q2) → QIn W (fun k => S k ∨ w1.heap.size ≤ k) b q2 F2 → Keep (fun k => S k ∨ k = b) w1 W → Pb.Fin (R (.returned (.bool bb)) W)) := Lib.hid fun bb q2 F2 W e1 e2 e3 => by
      refine hR _ _ ⟨by rw [e1], F2, by
        rw [e1]
        exact e2.mono (fun k _ h => h.imp id fun h => Nat.le_trans HB1.out.size h) (fun h => h.elim H.out.out fun h => by have := HLB.out; omega), (Keep.old (F := fun k => S k ∨ k = b) HB1.out).trans e3 fun i _ h => h⟩
    clear hR
    go_wp2_with fail
    go_loopw [6] (fun i wr => ∃ k : Nat, k ≤ 4 ∧ i = .int .i64 k ∧ wr = w1 ∧ ∀ j, j < k → (begN (nmR j) (toL s)).2 = false) (fun i _ => 4 - (intOf i).toNat)
    case atStart => exact ⟨0, by omega, rfl, rfl, fun j h => by omega⟩
    case round =>
      obtain ⟨k, hk, rfl, hwr, hno⟩ := hrel
      rw [hwr]
      have HWR := Lib.hid hwr
      have HNO := Lib.hid hno
      clear hwr hno
      by_cases hlt : k < 4
      · have hlti : (k : Int) < 4 := by omega
        have hk4 : k = 0 ∨ k = 1 ∨ k = 2 ∨ k = 3 := by omega
        rcases hk4 with rfl | rfl | rfl | rfl
        · go_wp2_with fail
          refine (begins_any s ⟨#[117, 114, 108, 32]⟩ w1 (by omega) (by show 4 ≤ _; decide)).mono ?_
          rintro e w2 ⟨rfl, hw2⟩
          rw [hw2, show toL ⟨#[117, 114, 108, 32]⟩ = nmR 0 from rfl]
          obtain ⟨⟨r, t⟩, hbn⟩ : ∃ p, begN (nmR 0) (toL s) = p := ⟨_, rfl⟩
          have hrl := begN_len (nmR 0) (toL s)
          rw [hbn, toL_len] at hrl
          rw [hbn]
          have HBN := Lib.hid hbn
          clear hw2 hbn
          dsimp only at hrl ⊢
          cases t with
          | false =>
            go_wp2_with fail
            go_roundw
            case rel => exact ⟨0 + 1, by omega, by go_num, by first | trivial | rfl | exact HWR.out, fun j hj => by
              by_cases e : j = 0
              · rw [e, HBN.out]
              · exact HNO.out j (by omega)⟩
            case measure => simp [intOf]
          | true =>
            have HW : Hid (wordR q (toL s) = (graphic r, setR 0 q r)) := Lib.hid (wordR_at q (toL s) H4.out H5.out 0 (by decide) HNO.out r HBN.out)
            obtain ⟨X, hX⟩ : ∃ X, ofL r = X := ⟨_, rfl⟩
            have HX : Hid (toL X = r) := Lib.hid (by rw [← hX, toL_ofL])
            have hXs : X.size ≤ 1000000 := by rw [← hX, ofL_size]; omega
            rw [hX]
            have HXX := Lib.hid hX
            clear hX
            have cc := blk_cell H1.out.blk 1
            have cf := blk_free H1.out.blk 1
            simp only [qcells, List.getElem?_toArray, List.getElem?_cons_zero, List.getElem?_cons_succ] at cc
            go_wp2_with fail
            refine (visible_any X _ hXs).mono ?_
            rintro e w2 ⟨rfl, hw2⟩
            rw [hw2]
            clear hw2
            go_wp2_with fail
            go_ret
            have k2 := (Keep.refl (fun k => k = b) w1).set (p := ⟨b, 1, none⟩) rfl (.string X)
            refine HFIN.out _ (setR 0 q r) (.slice FA q.hds.length fn) _ (by rw [HX.out]; exact HW.out) ?_ (k2.mono fun _ _ h => .inr h)
            refine (H1.out.scal (q' := setR 0 q r) k2 ?_ rfl).mono (fun _ _ h => .inl h) (fun h => h.elim H.out.out fun h => by have := HLB.out; have := HB1.out.size; omega)
            have hb := blk_set H1.out.blk 1 (.string X)
            rw [← HXX.out] at hb ⊢
            exact hb
        · go_wp2_with fail
          refine (begins_any s ⟨#[100, 111, 99, 32]⟩ w1 (by omega) (by show 4 ≤ _; decide)).mono ?_
          rintro e w2 ⟨rfl, hw2⟩
          rw [hw2, show toL ⟨#[100, 111, 99, 32]⟩ = nmR 1 from rfl]
          obtain ⟨⟨r, t⟩, hbn⟩ : ∃ p, begN (nmR 1) (toL s) = p := ⟨_, rfl⟩
          have hrl := begN_len (nmR 1) (toL s)
          rw [hbn, toL_len] at hrl
          rw [hbn]
          have HBN := Lib.hid hbn
          clear hw2 hbn
          dsimp only at hrl ⊢
          cases t with
          | false =>
            go_wp2_with fail
            go_roundw
            case rel => exact ⟨1 + 1, by omega, by go_num, by first | trivial | rfl | exact HWR.out, fun j hj => by
              by_cases e : j = 1
              · rw [e, HBN.out]
              · exact HNO.out j (by omega)⟩
            case measure => simp [intOf]
          | true =>
            have HW : Hid (wordR q (toL s) = (graphic r, setR 1 q r)) := Lib.hid (wordR_at q (toL s) H4.out H5.out 1 (by decide) HNO.out r HBN.out)
            obtain ⟨X, hX⟩ : ∃ X, ofL r = X := ⟨_, rfl⟩
            have HX : Hid (toL X = r) := Lib.hid (by rw [← hX, toL_ofL])
            have hXs : X.size ≤ 1000000 := by rw [← hX, ofL_size]; omega
            rw [hX]
            have HXX := Lib.hid hX
            clear hX
            have cc := blk_cell H1.out.blk 0
            have cf := blk_free H1.out.blk 0
            simp only [qcells, List.getElem?_toArray, List.getElem?_cons_zero, List.getElem?_cons_succ] at cc
            go_wp2_with fail
            refine (visible_any X _ hXs).mono ?_
            rintro e w2 ⟨rfl, hw2⟩
            rw [hw2]
            clear hw2
            go_wp2_with fail
            go_ret
            have k2 := (Keep.refl (fun k => k = b) w1).set (p := ⟨b, 0, none⟩) rfl (.string X)
            refine HFIN.out _ (setR 1 q r) (.slice FA q.hds.length fn) _ (by rw [HX.out]; exact HW.out) ?_ (k2.mono fun _ _ h => .inr h)
            refine (H1.out.scal (q' := setR 1 q r) k2 ?_ rfl).mono (fun _ _ h => .inl h) (fun h => h.elim H.out.out fun h => by have := HLB.out; have := HB1.out.size; omega)
            have hb := blk_set H1.out.blk 0 (.string X)
            rw [← HXX.out] at hb ⊢
            exact hb
        · go_wp2_with fail
          refine (begins_any s ⟨#[100, 101, 115, 116, 32]⟩ w1 (by omega) (by show 5 ≤ _; decide)).mono ?_
          rintro e w2 ⟨rfl, hw2⟩
          rw [hw2, show toL ⟨#[100, 101, 115, 116, 32]⟩ = nmR 2 from rfl]
          obtain ⟨⟨r, t⟩, hbn⟩ : ∃ p, begN (nmR 2) (toL s) = p := ⟨_, rfl⟩
          have hrl := begN_len (nmR 2) (toL s)
          rw [hbn, toL_len] at hrl
          rw [hbn]
          have HBN := Lib.hid hbn
          clear hw2 hbn
          dsimp only at hrl ⊢
          cases t with
          | false =>
            go_wp2_with fail
            go_roundw
            case rel => exact ⟨2 + 1, by omega, by go_num, by first | trivial | rfl | exact HWR.out, fun j hj => by
              by_cases e : j = 2
              · rw [e, HBN.out]
              · exact HNO.out j (by omega)⟩
            case measure => simp [intOf]
          | true =>
            have HW : Hid (wordR q (toL s) = (graphic r, setR 2 q r)) := Lib.hid (wordR_at q (toL s) H4.out H5.out 2 (by decide) HNO.out r HBN.out)
            obtain ⟨X, hX⟩ : ∃ X, ofL r = X := ⟨_, rfl⟩
            have HX : Hid (toL X = r) := Lib.hid (by rw [← hX, toL_ofL])
            have hXs : X.size ≤ 1000000 := by rw [← hX, ofL_size]; omega
            rw [hX]
            have HXX := Lib.hid hX
            clear hX
            have cc := blk_cell H1.out.blk 2
            have cf := blk_free H1.out.blk 2
            simp only [qcells, List.getElem?_toArray, List.getElem?_cons_zero, List.getElem?_cons_succ] at cc
            go_wp2_with fail
            refine (visible_any X _ hXs).mono ?_
            rintro e w2 ⟨rfl, hw2⟩
            rw [hw2]
            clear hw2
            go_wp2_with fail
            go_ret
            have k2 := (Keep.refl (fun k => k = b) w1).set (p := ⟨b, 2, none⟩) rfl (.string X)
            refine HFIN.out _ (setR 2 q r) (.slice FA q.hds.length fn) _ (by rw [HX.out]; exact HW.out) ?_ (k2.mono fun _ _ h => .inr h)
            refine (H1.out.scal (q' := setR 2 q r) k2 ?_ rfl).mono (fun _ _ h => .inl h) (fun h => h.elim H.out.out fun h => by have := HLB.out; have := HB1.out.size; omega)
            have hb := blk_set H1.out.blk 2 (.string X)
            rw [← HXX.out] at hb ⊢
            exact hb
        · go_wp2_with fail
          refine (begins_any s ⟨#[109, 101, 116, 104, 111, 100, 32]⟩ w1 (by omega) (by show 7 ≤ _; decide)).mono ?_
          rintro e w2 ⟨rfl, hw2⟩
          rw [hw2, show toL ⟨#[109, 101, 116, 104, 111, 100, 32]⟩ = nmR 3 from rfl]
          obtain ⟨⟨r, t⟩, hbn⟩ : ∃ p, begN (nmR 3) (toL s) = p := ⟨_, rfl⟩
          have hrl := begN_len (nmR 3) (toL s)
          rw [hbn, toL_len] at hrl
          rw [hbn]
          have HBN := Lib.hid hbn
          clear hw2 hbn
          dsimp only at hrl ⊢
          cases t with
          | false =>
            go_wp2_with fail
            go_roundw
            case rel => exact ⟨3 + 1, by omega, by go_num, by first | trivial | rfl | exact HWR.out, fun j hj => by
              by_cases e : j = 3
              · rw [e, HBN.out]
              · exact HNO.out j (by omega)⟩
            case measure => simp [intOf]
          | true =>
            have HW : Hid (wordR q (toL s) = (graphic r, setR 3 q r)) := Lib.hid (wordR_at q (toL s) H4.out H5.out 3 (by decide) HNO.out r HBN.out)
            obtain ⟨X, hX⟩ : ∃ X, ofL r = X := ⟨_, rfl⟩
            have HX : Hid (toL X = r) := Lib.hid (by rw [← hX, toL_ofL])
            have hXs : X.size ≤ 1000000 := by rw [← hX, ofL_size]; omega
            rw [hX]
            have HXX := Lib.hid hX
            clear hX
            have cc := blk_cell H1.out.blk 3
            have cf := blk_free H1.out.blk 3
            simp only [qcells, List.getElem?_toArray, List.getElem?_cons_zero, List.getElem?_cons_succ] at cc
            go_wp2_with fail
            refine (visible_any X _ hXs).mono ?_
            rintro e w2 ⟨rfl, hw2⟩
            rw [hw2]
            clear hw2
            go_wp2_with fail
            go_ret
            have k2 := (Keep.refl (fun k => k = b) w1).set (p := ⟨b, 3, none⟩) rfl (.string X)
            refine HFIN.out _ (setR 3 q r) (.slice FA q.hds.length fn) _ (by rw [HX.out]; exact HW.out) ?_ (k2.mono fun _ _ h => .inr h)
            refine (H1.out.scal (q' := setR 3 q r) k2 ?_ rfl).mono (fun _ _ h => .inl h) (fun h => h.elim H.out.out fun h => by have := HLB.out; have := HB1.out.size; omega)
            have hb := blk_set H1.out.blk 3 (.string X)
            rw [← HXX.out] at hb ⊢
            exact hb
      · obtain rfl : k = 4 := by omega
        go_wp2_with fail
        clear n0 n1 n2 n3 hltn
        refine (begins_any s ⟨#[114, 101, 100, 105, 114, 101, 99, 116, 32]⟩ w1 (by omega) (by show 9 ≤ _; decide)).mono ?_
        rintro e w2 ⟨rfl, hw2⟩
        rw [hw2, show toL ⟨#[114, 101, 100, 105, 114, 101, 99, 116, 32]⟩ = wRedir ++ [32] from rfl]
        have HPW := Lib.hid (wordR_past q (toL s) H4.out H5.out HNO.out)
        obtain ⟨⟨r, t⟩, hbn⟩ : ∃ p, begN (wRedir ++ [32]) (toL s) = p := ⟨_, rfl⟩
        have hrl := begN_len (wRedir ++ [32]) (toL s)
        rw [hbn, toL_len] at hrl
        rw [hbn] at HPW ⊢
        clear hw2 hbn
        dsimp only at hrl HPW ⊢
        cases t with
        | true =>
          have HW : Hid (wordR q (toL s) = ((number r 2).2, { q with redir := (number r 2).1 })) := Lib.hid (by rw [HPW.out, if_pos rfl])
          obtain ⟨X, hX⟩ : ∃ X, ofL r = X := ⟨_, rfl⟩
          have HX : Hid (toL X = r) := Lib.hid (by rw [← hX, toL_ofL])
          have hXs : X.size ≤ 1000000 := by rw [← hX, ofL_size]; omega
          rw [hX]
          clear hX HPW
          have cc := blk_cell H1.out.blk 6
          have cf := blk_free H1.out.blk 6
          simp only [qcells, List.getElem?_toArray, List.getElem?_cons_zero, List.getElem?_cons_succ] at cc
          go_wp2_with fail
          refine (rnumber_any X 2 _ hXs).mono ?_
          rintro e w2 ⟨rfl, hw2⟩
          rw [← hw2, HX.out]
          clear hw2
          obtain ⟨⟨n, ok⟩, hnum⟩ : ∃ p, number r 2 = p := ⟨_, rfl⟩
          rw [hnum] at HW ⊢
          clear hnum
          dsimp only at HW ⊢
          go_wp2_with fail
          go_ret
          have k2 := (Keep.refl (fun k => k = b) w1).set (p := ⟨b, 6, none⟩) rfl (.int .i64 n)
          refine HFIN.out _ { q with redir := n } (.slice FA q.hds.length fn) _ HW.out ?_ (k2.mono fun _ _ h => .inr h)
          exact (H1.out.scal (q' := { q with redir := n }) k2 (blk_set H1.out.blk 6 (.int .i64 n)) rfl).mono (fun _ _ h => .inl h) (fun h => h.elim H.out.out fun h => by have := HLB.out; have := HB1.out.size; omega)
        | false =>
          rw [if_neg (by decide)] at HPW
          clear hrl
          go_wp2_with fail
          refine (begins_any s ⟨#[104, 101, 97, 100, 101, 114, 32]⟩ w1 (by omega) (by show 7 ≤ _; decide)).mono ?_
          rintro e w2 ⟨rfl, hw2⟩
          rw [hw2, show toL ⟨#[104, 101, 97, 100, 101, 114, 32]⟩ = wHeader ++ [32] from rfl]
          obtain ⟨⟨v, t⟩, hbn⟩ : ∃ p, begN (wHeader ++ [32]) (toL s) = p := ⟨_, rfl⟩
          have hrl := begN_len (wHeader ++ [32]) (toL s)
          rw [hbn, toL_len] at hrl
          rw [hbn] at HPW ⊢
          clear hw2 hbn
          dsimp only at hrl HPW ⊢
          have HSAME : Hid (QIn w1 (fun k => S k ∨ w1.heap.size ≤ k) b q (.slice FA q.hds.length fn)) := Lib.hid (H1.out.mono (fun _ _ h => .inl h) (fun h => h.elim H.out.out fun h => by have := HLB.out; have := HB1.out.size; omega))
          cases t with
          | false =>
            rw [if_neg (by decide)] at HPW
            go_wp2_with fail
            go_ret
            exact HFIN.out _ q (.slice FA q.hds.length fn) _ HPW.out HSAME.out (Keep.refl _ _)
          | true =>
            rw [if_pos rfl] at HPW
            obtain ⟨V, hV⟩ : ∃ X, ofL v = X := ⟨_, rfl⟩
            have HV : Hid (toL V = v) := Lib.hid (by rw [← hV, toL_ofL])
            have hVs : V.size ≤ 100000 := by rw [← hV, ofL_size]; omega
            rw [hV]
            have HVL : Hid (v.length = V.size) := Lib.hid (by rw [← HV.out, toL_len])
            clear hV hrl
            go_wp2_with fail
            go_loopw [13] (fun i wr => ∃ k : Nat, k ≤ V.size ∧ i = .int .i64 k ∧ wr = w1 ∧ ((toL V).take k).all (· != 58) = true) (fun i _ => V.size - (intOf i).toNat)
            case atStart => exact ⟨0, Nat.zero_le _, rfl, rfl, by simp⟩
            case round =>
              obtain ⟨k, hk, rfl, hwr, hall⟩ := hrel
              rw [hwr]
              have HWR := Lib.hid hwr
              have HA := Lib.hid hall
              clear hwr hall
              have HTW : Hid (∀ r, (toL V).drop k = r → (∀ x t, r = x :: t → x = 58) → (cutAt 58 v).1.length = k) := Lib.hid (by
                intro r hr hx
                rw [← HV.out]
                unfold cutAt
                have e : toL V = (toL V).take k ++ r := by rw [← hr, List.take_append_drop]
                rw [e, List.takeWhile_append_of_pos (List.all_eq_true.1 HA.out)]
                cases r with
                | nil =>
                  have : (toL V).length ≤ k := by
                    have := congrArg List.length hr; simp at this; omega
                  simp only [List.takeWhile_nil, List.append_nil, List.length_take]; rw [toL_len] at *; omega
                | cons x t =>
                  rw [hx x t rfl, List.takeWhile_cons, if_neg (by simp)]
                  simp only [List.append_nil, List.length_take]; rw [toL_len]; omega)
              by_cases hlt : k < V.size
              · by_cases ht : (V[k].toNat : Int) = 58
                · have HK : Hid ((cutAt 58 v).1.length = k) := Lib.hid (HTW.out _ rfl fun x t e => by
                    have h1 : (toL V)[k]? = some x := by
                      have := congrArg (fun l => l[0]?) e; simpa [List.getElem?_drop] using this
                    rw [getD_toL V k hlt] at h1
                    rw [← Option.some.inj h1]; exact UInt8.toNat_inj.1 (by show V[k].toNat = 58; omega))
                  have hq : ((V[k].toNat : Int) == 58) = true := by rw [ht]; rfl
                  clear HTW ht
                  by_cases hge : (k : Int) + 2 ≥ (V.size : Int)
                  · have HW : Hid (wordR q (toL s) = (false, q)) := Lib.hid (by
                      rw [HPW.out]; unfold fieldR
                      rw [HK.out, HVL.out, if_pos (by simp; omega)])
                    go_wp2_with fail
                    go_ret
                    exact HFIN.out _ q (.slice FA q.hds.length fn) _ HW.out HSAME.out (Keep.refl _ _)
                  · have hlt1 : k + 1 < V.size := by omega
                    by_cases h32 : (V[k + 1].toNat : Int) = 32
                    · have hq2 : ((V[k + 1].toNat : Int) == 32) = true := by rw [h32]; rfl
                      have HFR : Hid (fieldR v = some (v.take k, v.drop (k + 2))) := Lib.hid (by
                        have h1 : v[k + 1]? = some 32 := by
                          rw [← HV.out, getD_toL V (k + 1) hlt1]
                          congr 1; exact UInt8.toNat_inj.1 (by show V[k + 1].toNat = 32; omega)
                        unfold fieldR
                        rw [HK.out, HVL.out, h1, if_neg (by simp; omega)])
                      clear h32
                      have hi1 : (0 : Int) ≤ (k : Int) := by omega
                      have hi2 : (k : Int) ≤ (V.size : Int) := by omega
                      have hi3 : ((k : Int)).toNat = k := by omega
                      have hi4 : (k : Int) + 2 ≤ (V.size : Int) := by omega
                      have hi5 : ((k : Int) + 2).toNat = k + 2 := by omega
                      have hi6 : (0 : Int) ≤ (k : Int) + 2 := by omega
                      have hi7 : IntKind.i64.wrap ((k : Int) + 2) = (k : Int) + 2 := by rw [IntKind.wrap_i64]; omega
                      go_upto_region 37 with fail
                      go_region_law fail
                      obtain ⟨N, hN⟩ : ∃ N, V.extract 0 k = N := ⟨_, rfl⟩
                      obtain ⟨T, hT⟩ : ∃ N, V.extract (k + 2) V.size = N := ⟨_, rfl⟩
                      have HN : Hid (toL N = v.take k ∧ toL T = v.drop (k + 2)) := Lib.hid ⟨by
                        rw [← hN, extract_cut, toL_ofL, HV.out]; unfold cut; rw [List.drop_zero], by
                        rw [← hT, extract_cut, toL_ofL, HV.out]; unfold cut; rw [← HVL.out, List.take_length]⟩
                      have hns : N.size ≤ 1000000 := by rw [← hN]; have := extract_le V 0 k; omega
                      have hts : T.size ≤ 1000000 := by rw [← hT]; have := extract_le V (k + 2) V.size; omega
                      rw [hN, hT]
                      clear hN hT
                      have HW : Hid (wordR q (toL s) = (valid (toL N) (toL T), { q with hds := q.hds ++ [(toL N, toL T)] })) := Lib.hid (by
                        rw [HPW.out, HFR.out, HN.out.1, HN.out.2])
                      clear HFR HPW
                      obtain ⟨w3, hw3⟩ : ∃ w3, (w1.alloc (.cells #[.string N, .string T] 42)).drew = w3 := ⟨_, rfl⟩
                      have hk3 : Keep (fun _ => False) w1 w3 := hw3 ▸ (Keep.alloc _ w1 _).drew
                      have HG3 : Hid (w3.heap[w1.heap.size]? = some (.cells #[.string N, .string T] 42 (0, 0))) := Lib.hid (hw3 ▸ blk_new w1 (.cells #[.string N, .string T] 42))
                      have HP3 : Hid (QIn w3 S b q (.slice FA q.hds.length fn)) := Lib.hid (H1.out.keep hk3 fun _ _ _ h => h)
                      have HK3 := Lib.hid hk3
                      rw [hw3]
                      clear hw3 hk3
                      obtain ⟨fls, hfls⟩ : ∃ l, q.hds = l := ⟨_, rfl⟩
                      have HFL := Lib.hid hfls
                      rw [hfls] at hl hfn HP3
                      clear hfls
                      have c7 := blk_cell HP3.out.blk 7
                      have f7 := blk_free HP3.out.blk 7
                      have y0 := blk_cell HG3.out 0
                      have y1 := blk_cell HG3.out 1
                      simp only [qcells, List.getElem?_toArray, List.getElem?_cons_zero, List.getElem?_cons_succ] at c7 y0 y1
                      have hltb3 := HP3.out.lt
                      have hltx := blk_lt HG3.out
                      clear hltb
                      have HNB : Hid (b < w1.heap.size) := Lib.hid H1.out.lt
                      have HNF : Hid (¬ (Value.slice FA fls.length fn).ownBlock = some b) := Lib.hid (fun e => HP3.out.out (HP3.out.inF b e))
                      have HNX : Hid (¬ some w1.heap.size = (Value.slice FA fls.length fn).ownBlock) := Lib.hid (fun e => by
                        have := own_lt2 H1.out.hds (k := w1.heap.size) (by rw [HFL.out]; exact e.symm); omega)
                      have HKW : Hid (∀ W : World, Keep (fun _ => False) w3 W → Own fld 42 W (fun k => (Value.slice FA fls.length fn).ownBlock = some k) fls (.slice FA fls.length fn)) := Lib.hid fun W hk => by
                        have := HP3.out.hds; rw [HFL.out] at this; exact this.keep hk fun _ _ h => h
                      go_upto_region 38 with fail
                      go_region_law (first
                        | (refine step_append1_gen (r := fld) (F := fun k => (Value.slice FA fls.length fn).ownBlock = some k) (G := fun _ => False) (k0 := w3.heap.size) (cs := #[.string N, .string T]) (y := (toL N, toL T)) Tryd.underlying23 infoF rfl (by decide) (HKW.out _ (by first | exact (Keep.alloc _ w3 _).drew | exact (Keep.refl _ w3).drew.new _ | exact Keep.alloc _ w3 _)) (by simp [Act.eval]) (by simp [Act.eval]) (blk_new w3 _) (fl_rep _ _ _ _ rfl rfl) (fun k h => h.elim) (by omega) (by decide) ?_
                           intro v6 w6 ho6 hk6 hp6
                           have HWK : Hid (∀ k, k < w3.heap.size → (some k ≠ (Value.slice FA fls.length fn).ownBlock) → w6.heap[k]? = w3.heap[k]?) := Lib.hid fun k hk hne => (hk6.block k (Nat.lt_of_lt_of_le hk (by simp)) hne).trans (by first | exact Below.heap_alloc _ _ _ hk | exact (Below.heap_alloc w3.drew _ _ hk))
                           have HK6 : Hid (Keep (fun k => some k = (Value.slice FA fls.length fn).ownBlock) w3 w6) := Lib.hid ⟨hk6.os, hk6.tape, hk6.output, Nat.le_trans (by simp) hk6.size, HWK.out⟩
                           have HP6 : Hid (∀ k, v6.ownBlock = some k → (Value.slice FA fls.length fn).ownBlock = some k ∨ w3.heap.size ≤ k) := Lib.hid fun k hk => by
                             rcases hp6 with h | ⟨j, h, hj⟩
                             · exact .inl (h ▸ hk)
                             · rw [h] at hk; cases hk; simp at hj; exact .inr (by omega)
                           obtain ⟨zz, hzz⟩ : ∃ z, fls ++ [(toL N, toL T)] = z := ⟨_, rfl⟩
                           rw [hzz] at ho6
                           have HO6 := Lib.hid (ho6.fields (F' := fun k => v6.ownBlock = some k) fun k hk => hk)
                           have HZZ := Lib.hid hzz
                           clear hzz ho6 hk6 hp6 HWK
                           obtain ⟨A6, n6, rfl, hn6⟩ := HO6.out.slice
                           have HB6 := Lib.hid (HK6.out.blk HP3.out.blk (fun e => HNF.out e.symm))
                           have HX6 := Lib.hid (HK6.out.blk HG3.out (fun e => HNX.out e))
                           have g6 := blk_cell HB6.out 7
                           have fg6 := blk_free HB6.out 7
                           have hb6 := blk_lt HB6.out
                           have y60 := blk_cell HX6.out 0
                           have y61 := blk_cell HX6.out 1
                           have hx6 := blk_lt HX6.out
                           simp only [qcells, List.getElem?_toArray, List.getElem?_cons_zero, List.getElem?_cons_succ] at g6 y60 y61))
                      all_goals
                        have hbx : b ≠ w1.heap.size := by have := HNB.out; omega
                        have hbx' : w1.heap.size ≠ b := by have := HNB.out; omega
                        go_wp2_with fail
                        refine (rvalid_any N T _ hns hts).mono ?_
                        rintro e w7 ⟨rfl, hb7⟩
                        have kS := (Keep.refl (fun k => k = b) w6).set (p := ⟨b, 7, none⟩) rfl (.slice A6 zz.length n6)
                        have bS := blk_set HB6.out 7 (.slice A6 zz.length n6)
                        have hoS := HO6.out.keep kS (fun k hk e => by
                          subst e
                          rcases HP6.out k hk with h | h
                          · exact HNF.out h
                          · exact absurd (blk_lt HP3.out.blk) (by omega))
                        have PF := HP3.out.newF (q' := { q with hds := fls ++ [(toL N, toL T)] }) bS (by dsimp only; rw [HZZ.out]; exact hoS) HP6.out
                        have PF7 := Lib.hid (PF.below hb7)
                        have k36 : Keep (fun k => S k ∨ k = b) w3 (w6.setCell ⟨b, 7, none⟩ (.slice A6 zz.length n6)) := (HK6.out.mono (fun i _ h => .inl (HP3.out.inF i h.symm))).trans kS fun i _ h => .inr h
                        have k37 := Lib.hid (((HK3.out.mono (fun _ _ h => h.elim)).trans k36 fun i _ h => h).trans (Keep.old (F := fun k => S k ∨ k = b) hb7) fun i _ h => h)
                        clear kS bS hoS PF k36 hb7
                        go_wp2_with fail
                        go_ret
                        refine HFIN.out _ { q with hds := fls ++ [(toL N, toL T)] } _ _ (by rw [HW.out, HFL.out]) (PF7.out.mono (fun k _ h => h.imp id fun h => Nat.le_trans HK3.out.size h) (fun h => h.elim H.out.out fun h => by have := HNB.out; omega)) k37.out
                    · have HW : Hid (wordR q (toL s) = (false, q)) := Lib.hid (by
                        rw [HPW.out]
                        have h1 : (v[k + 1]? == some 32) = false := by
                          rw [← HV.out, getD_toL V (k + 1) hlt1, beq_eq_false_iff_ne]
                          intro e; rw [Option.some.inj e] at h32; exact h32 rfl
                        unfold fieldR
                        rw [HK.out, h1, if_pos (by simp)])
                      have hq2 : ((V[k + 1].toNat : Int) == 32) = false := by rw [beq_eq_false_iff_ne]; exact h32
                      go_wp2_with fail
                      go_ret
                      exact HFIN.out _ q (.slice FA q.hds.length fn) _ HW.out HSAME.out (Keep.refl _ _)
                · have hq : ((V[k].toNat : Int) == 58) = false := by rw [beq_eq_false_iff_ne]; exact ht
                  go_wp2_with fail
                  go_roundw
                  case rel => exact ⟨k + 1, by omega, by go_num, by first | trivial | rfl | exact HWR.out, by
                    rw [take_snoc V k hlt, List.all_append, HA.out]
                    simp only [List.all_cons, List.all_nil, Bool.and_true, Bool.true_and, bne_iff_ne, ne_eq]
                    intro e; rw [e] at ht; exact ht rfl⟩
                  case measure => simp [intOf]; omega
              · obtain rfl : k = V.size := by omega
                have HK : Hid ((cutAt 58 v).1.length = V.size) := Lib.hid (HTW.out _ rfl fun x t e => by
                  rw [List.drop_of_length_le (by rw [toL_len]; exact Nat.le_refl _)] at e; cases e)
                have HW : Hid (wordR q (toL s) = (false, q)) := Lib.hid (by
                  rw [HPW.out]; unfold fieldR
                  rw [HK.out, HVL.out, if_pos (by simp)])
                go_wp2_with fail
                go_ret
                exact HFIN.out _ q (.slice FA q.hds.length fn) _ HW.out HSAME.out (Keep.refl _ _)

end Go.Proofs.YtilpaopkhghicaaDoor.Asc
