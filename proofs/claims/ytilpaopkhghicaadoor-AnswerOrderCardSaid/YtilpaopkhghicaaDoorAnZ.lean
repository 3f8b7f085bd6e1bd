/-
  The law parapetlaw27.AnswerBack answers true.
  The library's MaxLen is a number.
-/
import Derived.Test.YtilpaopkhghicaaDoorAnY
import Derived.Test.YtilpaopkhghicaaDoorAnO
namespace Go.Proofs.YtilpaopkhghicaaDoor.Asc
open Go Go.RowKit Go.Proofs.YtilpaopkhghicaaDoor.Pb

theorem hdsL_sum (l : List Fd) : 10 * l.length + (l.map fun x => x.1.length + x.2.length).sum = (hdsL l).length := by
  unfold hdsL
  induction l with
  | nil => rfl
  | cons x l ih => simp [hdL] at ih ⊢; omega
theorem can_small (q : Qr) (h : Can q) (hl : (textN q).length ≤ 5001) : QSm q := by
  rw [tlen_eq] at hl
  have h1 : ∀ (x : List UInt8) (n : Nat), x.length ≤ (if x = [] then 0 else x.length + n) := fun x n => by
    cases x <;> simp
  have h2 : q.meth.length ≤ (if q.meth = wGet then 0 else q.meth.length + 8) + 3 := by
    split
    · rename_i e; rw [e]; decide
    · omega
  have d1 := h1 q.doc 5
  have d2 := h1 q.dest 6
  have hs := hdsL_sum q.hds
  unfold tlen at hl
  refine ⟨by omega, by omega, by omega, by omega, ?_, ?_⟩
  · unfold fsize fsizeAt; rw [List.take_length]; omega
  · rcases h.redir with e | e
    · rw [e]; exact ⟨by decide, by decide⟩
    · have hd : (number (decimal q.redir) 2).2 = true := by rw [e]
      have hn : (number (decimal q.redir) 2).1 = q.redir := by rw [e]
      unfold number at hd hn
      split at hd
      · exact absurd hd (by decide)
      · rename_i hc
        rw [if_neg hc] at hn
        rw [Bool.or_eq_true, Bool.or_eq_true, Bool.or_eq_true, not_or, not_or, not_or] at hc
        obtain ⟨⟨⟨_, c2⟩, _⟩, c4⟩ := hc
        have e2 : min (2 : Int) 18 = 2 := rfl
        rw [e2, decide_eq_true_eq] at c2
        have := numOf_bd (decimal q.redir) (by simpa using c4) (by omega)
        dsimp only at hn
        omega

set_option maxRecDepth 20000 in
set_option maxHeartbeats 4000000 in
theorem back_walk (s : ByteArray) (hs : s.size ≤ 140737488351232) (m : Int) (w : World) (hm : MaxLen m w) :
    Calls Tryd.prog 6 #[.string s] w fun e w' => e = .returned (.bool true) ∧ Below w.heap.size w w' := by
  refine calls_gen fun R hR => ?_
  have HM := Lib.hid hm
  clear hm
  go_enter Tryd.func6, Tryd.ntmps6
  by_cases hbig : (s.size : Int) > 5000
  · go_wp2_with fail
    refine (awake_any w m HM.out).mono ?_
    rintro e w9 ⟨rfl, hb9⟩
    go_wp2_with fail
    go_ret
    exact hR _ _ ⟨rfl, hb9⟩
  · go_wp2_with fail
    refine (query_any s (by omega) m w HM.out).mono ?_
    rintro e w1 ⟨fv, rfl, hv1, hb1⟩
    have hql := query_hds (toL s)
    have hrb := read_back (toL s)
    have hz : (queryN (toL s)).2 = 0 ∨ queryN (toL s) = ({}, 8) := by
      unfold queryN; split
      · exact .inr rfl
      · split
        · exact .inr rfl
        · exact .inl rfl
    rw [toL_len] at hql hrb
    obtain ⟨⟨q, n⟩, hq⟩ : ∃ p, queryN (toL s) = p := ⟨_, rfl⟩
    rw [hq] at hv1 hql hrb hz ⊢
    clear hq
    dsimp only at hv1 hql hrb hz ⊢
    obtain ⟨VA, VC, rfl, _, _⟩ := flds_get hv1
    have HV1 := Lib.hid hv1; have HB1 := Lib.hid hb1
    have HRB := Lib.hid hrb; have HZ := Lib.hid hz
    clear hv1 hb1 hrb hz
    obtain ⟨w2, hw2⟩ : ∃ w2, w1.alloc (.cells #[.string (ofL q.doc), .string (ofL q.url), .string (ofL q.dest), .string (ofL q.meth), .bool q.cors, .bool q.creds, .int .i64 q.redir, .slice VA q.hds.length VC] 25) = w2 := ⟨_, rfl⟩
    have HW2 := Lib.hid hw2
    have HG2 : Hid (w2.heap[w1.heap.size]? = some (.cells #[.string (ofL q.doc), .string (ofL q.url), .string (ofL q.dest), .string (ofL q.meth), .bool q.cors, .bool q.creds, .int .i64 q.redir, .slice VA q.hds.length VC] 25 (0, 0))) := Lib.hid (hw2 ▸ blk_new w1 _)
    have HB2 : Hid (Below w.heap.size w w2) := Lib.hid (HB1.out.trans ((hw2 ▸ below_new w1 _ : Below w1.heap.size w1 w2).mono HB1.out.size))
    have HV2 : Hid (View fld w2 (fun _ => True) q.hds (.slice VA q.hds.length VC)) := Lib.hid (HV1.out.below (hw2 ▸ below_new w1 _))
    clear hw2 HV1
    unfold agg8
    go_upto_region 4 with fail
    rw [HW2.out]
    obtain ⟨a0, a1, a2, a3, a4, a5, a6, a7⟩ := cell8 HG2.out
    have hlt2 := blk_lt HG2.out
    by_cases hn : n = 0
    · have hcan := (HRB.out hn).1
      have htl := (HRB.out hn).2
      have HQS : Hid (QSm q) := Lib.hid (can_small q hcan (by omega))
      have HAG : Hid ((textN q).length ≤ 4000 → queryN (textN q) = (q, 0)) := Lib.hid hcan.again
      subst hn
      clear hcan HRB HZ
      go_wp2_with fail
      refine (text_any' w2 q (.slice VA q.hds.length VC) (fun _ => True) HQS.out HV2.out).mono ?_
      rintro e w3 ⟨rfl, hb3⟩
      obtain ⟨T, hT⟩ : ∃ X, ofL (textN q) = X := ⟨_, rfl⟩
      have HT : Hid (toL T = textN q) := Lib.hid (by rw [← hT, toL_ofL])
      have hts : T.size ≤ 5001 := by rw [← hT, ofL_size]; omega
      have hts1 : (T.size : Int) ≤ (s.size : Int) + 1 := by rw [← hT, ofL_size]; omega
      rw [hT]
      have HTZ : Hid ((textN q).length = T.size) := Lib.hid (by rw [← hT, ofL_size])
      clear hT htl
      have HB3 : Hid (Below w.heap.size w w3) := Lib.hid (HB2.out.trans (hb3.mono HB2.out.size))
      have HG3 : Hid (w3.heap[w1.heap.size]? = _) := Lib.hid ((hb3.block _ hlt2).trans HG2.out)
      have HV3 : Hid (View fld w3 (fun _ => True) q.hds (.slice VA q.hds.length VC)) := Lib.hid (HV2.out.below hb3)
      clear hb3 a0 a1 a2 a3 a4 a5 a6 a7 hlt2 HV2 HG2
      go_wp2_with fail
      refine (query_any T (by omega) m w3 (HM.out.below HB3.out)).mono ?_
      rintro e w4 ⟨fu, rfl, hv4, hb4⟩
      rw [HT.out] at hv4 ⊢
      obtain ⟨⟨p, f⟩, hp⟩ : ∃ x, queryN (textN q) = x := ⟨_, rfl⟩
      have hag := HAG.out
      rw [hp, HTZ.out] at hag
      rw [hp] at hv4 ⊢
      dsimp only at hv4 hag ⊢
      have HAG2 := Lib.hid hag
      clear hag hp HAG
      have HB4 : Hid (Below w.heap.size w w4) := Lib.hid (HB3.out.trans (hb4.mono HB3.out.size))
      have hlt3 := blk_lt HG3.out
      have HG4 : Hid (w4.heap[w1.heap.size]? = _) := Lib.hid ((hb4.block _ hlt3).trans HG3.out)
      have HV4 : Hid (View fld w4 (fun _ => True) q.hds (.slice VA q.hds.length VC)) := Lib.hid (HV3.out.below hb4)
      obtain ⟨UA, UC, rfl, _, _⟩ := flds_get hv4
      have HU4 := Lib.hid hv4
      clear hb4 hlt3 HV3 HG3 hv4
      obtain ⟨w5, hw5⟩ : ∃ w5, w4.alloc (.cells #[.string (ofL p.doc), .string (ofL p.url), .string (ofL p.dest), .string (ofL p.meth), .bool p.cors, .bool p.creds, .int .i64 p.redir, .slice UA p.hds.length UC] 25) = w5 := ⟨_, rfl⟩
      have HW5 := Lib.hid hw5
      have HBN : Hid (Below w4.heap.size w4 w5) := Lib.hid (hw5 ▸ below_new w4 _)
      have HP5 : Hid (w5.heap[w4.heap.size]? = some (.cells #[.string (ofL p.doc), .string (ofL p.url), .string (ofL p.dest), .string (ofL p.meth), .bool p.cors, .bool p.creds, .int .i64 p.redir, .slice UA p.hds.length UC] 25 (0, 0))) := Lib.hid (hw5 ▸ blk_new w4 _)
      have HB5 : Hid (Below w.heap.size w w5) := Lib.hid (HB4.out.trans (HBN.out.mono HB4.out.size))
      have HG5 : Hid (w5.heap[w1.heap.size]? = _) := Lib.hid ((HBN.out.block _ (blk_lt HG4.out)).trans HG4.out)
      have HV5 : Hid (View fld w5 (fun _ => True) q.hds (.slice VA q.hds.length VC)) := Lib.hid (HV4.out.below HBN.out)
      have HU5 : Hid (View fld w5 (fun _ => True) p.hds (.slice UA p.hds.length UC)) := Lib.hid (HU4.out.below HBN.out)
      clear hw5 HV4 HU4 HG4
      unfold agg8
      go_upto_region 8 with fail
      rw [HW5.out]
      by_cases hbt : (T.size : Int) > 4000
      · go_wp2_with fail
        refine (awake_any w5 m (HM.out.below HB5.out)).mono ?_
        rintro e w6 ⟨rfl, hb6⟩
        go_wp2_with fail
        go_ret
        exact hR _ _ ⟨rfl, HB5.out.trans (hb6.mono HB5.out.size)⟩
      · obtain ⟨rfl, rfl⟩ : p = q ∧ f = 0 := by
          have := HAG2.out (by omega)
          cases this; exact ⟨rfl, rfl⟩
        obtain ⟨a0, a1, a2, a3, a4, a5, a6, a7⟩ := cell8 HG5.out
        obtain ⟨b0, b1, b2, b3, b4, b5, b6, b7⟩ := cell8 HP5.out
        have hl1 := blk_lt HG5.out
        have hl4 := blk_lt HP5.out
        go_wp2_with fail
        refine (sameq_any w5 p (by omega) (.slice UA p.hds.length UC) (.slice VA p.hds.length VC) _ _ HU5.out HV5.out).mono ?_
        rintro e w6 ⟨rfl, hb6⟩
        have HB6 : Hid (Below w.heap.size w w6) := Lib.hid (HB5.out.trans (hb6.mono HB5.out.size))
        clear a0 a1 a2 a3 a4 a5 a6 a7 b0 b1 b2 b3 b4 b5 b6 b7 hb6
        go_wp2_with fail
        refine (awake_any w6 m (HM.out.below HB6.out)).mono ?_
        rintro e w7 ⟨rfl, hb7⟩
        go_wp2_with fail
        go_ret
        exact hR _ _ ⟨rfl, HB6.out.trans (hb7.mono HB6.out.size)⟩
    · obtain ⟨rfl, rfl⟩ : q = {} ∧ n = 8 := by
        rcases HZ.out with h | h
        · exact (hn h).elim
        · cases h; exact ⟨rfl, rfl⟩
      clear HRB HZ hn
      go_wp2_with fail
      refine (sameq_any w2 {} (by decide) (.slice VA 0 VC) (.slice none 0 0) _ (fun _ => True) HV2.out (View.nil _ _ _)).mono ?_
      rintro e w5 ⟨rfl, hb5⟩
      have HB5 : Hid (Below w.heap.size w w5) := Lib.hid (HB2.out.trans (hb5.mono HB2.out.size))
      clear a0 a1 a2 a3 a4 a5 a6 a7 hb5
      go_wp2_with fail
      refine (awake_any w5 m (HM.out.below HB5.out)).mono ?_
      rintro e w6 ⟨rfl, hb6⟩
      go_wp2_with fail
      go_ret
      exact hR _ _ ⟨rfl, HB5.out.trans (hb6.mono HB5.out.size)⟩
theorem back_row {w : World} (s : ByteArray) (hs : s.size ≤ 140737488351232) (m : Int) (hm : MaxLen m w) :
    Calls Tryd.prog 6 #[.string s] w fun e w' => e = .returned (.bool true) ∧ Below w.heap.size w w' := back_walk s hs m w hm
end Go.Proofs.YtilpaopkhghicaaDoor.Asc
