/-
  The law parapetlaw27.AnswerQueries answers true.
  The library's MaxLen is a number.
-/
import Derived.Test.YtilpaopkhghicaaDoorAnX
import Derived.Test.YtilpaopkhghicaaDoorAnQ
namespace Go.Proofs.YtilpaopkhghicaaDoor.Asc
open Go Go.RowKit Go.Proofs.YtilpaopkhghicaaDoor.Pb

theorem query_hds (s : List UInt8) : (queryN s).1.hds.length ≤ s.length + 1 := by
  unfold queryN
  split
  · simp
  · split
    · simp
    · have h1 := (linesQ_len (linesOf s) (linesOf s).length (Nat.le_refl _)).2
      rw [List.take_length] at h1
      have h2 := (linesOf_facts s).1
      dsimp only; omega

set_option maxRecDepth 20000 in
set_option maxHeartbeats 4000000 in
theorem queries_walk (s : ByteArray) (hs : s.size ≤ 140737488351232) (m : Int) (w : World) (hm : MaxLen m w) :
    Calls Tryd.prog 3 #[.string s] w fun e w' => e = .returned (.bool true) ∧ Below w.heap.size w w' := by
  refine calls_gen fun R hR => ?_
  have HM := Lib.hid hm
  clear hm
  go_enter Tryd.func3, Tryd.ntmps3
  by_cases hbig : (s.size : Int) > 5000
  · go_wp2_with fail
    refine (awake_any w m HM.out).mono ?_
    rintro e w9 ⟨rfl, hb9⟩
    go_wp2_with fail
    go_ret
    exact hR _ _ ⟨rfl, hb9⟩
  · go_wp2_with fail
    refine (query_any s (by omega) m w HM.out).mono ?_
    rintro e w1 ⟨fv, rfl, hv1, hb1⟩
    have hql := query_hds (toL s)
    have HRQ := Lib.hid (rquery_any s (by omega))
    rw [toL_len] at hql
    obtain ⟨⟨q, n⟩, hq⟩ : ∃ p, queryN (toL s) = p := ⟨_, rfl⟩
    rw [hq] at hv1 hql HRQ ⊢
    clear hq
    dsimp only at hv1 hql HRQ ⊢
    obtain ⟨VA, VC, rfl, _, _⟩ := flds_get hv1
    have HV1 := Lib.hid hv1; have HB1 := Lib.hid hb1
    clear hv1 hb1
    unfold agg8
    obtain ⟨w2, hw2⟩ : ∃ w2, w1.alloc (.cells #[.string (ofL q.doc), .string (ofL q.url), .string (ofL q.dest), .string (ofL q.meth), .bool q.cors, .bool q.creds, .int .i64 q.redir, .slice VA q.hds.length VC] 25) = w2 := ⟨_, rfl⟩
    have HW2 := Lib.hid hw2
    have HG2 : Hid (w2.heap[w1.heap.size]? = some (.cells #[.string (ofL q.doc), .string (ofL q.url), .string (ofL q.dest), .string (ofL q.meth), .bool q.cors, .bool q.creds, .int .i64 q.redir, .slice VA q.hds.length VC] 25 (0, 0))) := Lib.hid (hw2 ▸ blk_new w1 _)
    have HB2 : Hid (Below w1.heap.size w1 w2) := Lib.hid (hw2 ▸ below_new w1 _)
    clear hw2
    go_upto_region 4 with fail
    rw [HW2.out]
    go_wp2_with fail
    refine (HRQ.out w2).mono ?_
    rintro e w3 ⟨fu, rfl, hv3, hb3⟩
    obtain ⟨UA, UC, rfl, _, _⟩ := flds_get hv3
    have HV3 := Lib.hid hv3; have HB3 := Lib.hid hb3
    clear hv3 hb3 HRQ
    unfold agg8
    obtain ⟨w4, hw4⟩ : ∃ w4, w3.alloc (.cells #[.string (ofL q.doc), .string (ofL q.url), .string (ofL q.dest), .string (ofL q.meth), .bool q.cors, .bool q.creds, .int .i64 q.redir, .slice UA q.hds.length UC] 25) = w4 := ⟨_, rfl⟩
    have HW4 := Lib.hid hw4
    have HG4 : Hid (w4.heap[w3.heap.size]? = some (.cells #[.string (ofL q.doc), .string (ofL q.url), .string (ofL q.dest), .string (ofL q.meth), .bool q.cors, .bool q.creds, .int .i64 q.redir, .slice UA q.hds.length UC] 25 (0, 0))) := Lib.hid (hw4 ▸ blk_new w3 _)
    have HB4 : Hid (Below w3.heap.size w3 w4) := Lib.hid (hw4 ▸ below_new w3 _)
    clear hw4
    go_upto_region 5 with fail
    rw [HW4.out]
    have hlt2 := blk_lt HG2.out
    have G24 : Hid (w4.heap[w1.heap.size]? = _) := Lib.hid ((HB4.out.block _ (Nat.lt_of_lt_of_le hlt2 HB3.out.size)).trans ((HB3.out.block _ hlt2).trans HG2.out))
    obtain ⟨a0, a1, a2, a3, a4, a5, a6, a7⟩ := cell8 G24.out
    obtain ⟨b0, b1, b2, b3, b4, b5, b6, b7⟩ := cell8 HG4.out
    have hlt4 := blk_lt HG4.out
    have hlt24 := blk_lt G24.out
    have HBW : Hid (Below w.heap.size w w4) := Lib.hid (((HB1.out.trans (HB2.out.mono HB1.out.size)).trans (HB3.out.mono (Nat.le_trans HB1.out.size HB2.out.size))).trans (HB4.out.mono (Nat.le_trans (Nat.le_trans HB1.out.size HB2.out.size) HB3.out.size)))
    have HV14 : Hid (View fld w4 (fun _ => True) q.hds (.slice VA q.hds.length VC)) := Lib.hid (((HV1.out.below HB2.out).below HB3.out).below HB4.out)
    have HV34 : Hid (View fld w4 (fun _ => True) q.hds (.slice UA q.hds.length UC)) := Lib.hid (HV3.out.below HB4.out)
    go_wp2_with fail
    refine (sameq_any w4 q (by omega) (.slice VA q.hds.length VC) (.slice UA q.hds.length UC) _ _ HV14.out HV34.out).mono ?_
    rintro e w5 ⟨rfl, hb5⟩
    have HB5 : Hid (Below w.heap.size w w5) := Lib.hid (HBW.out.trans (hb5.mono HBW.out.size))
    clear a0 a1 a2 a3 a4 a5 a6 a7 b0 b1 b2 b3 b4 b5 b6 b7 hb5
    go_wp2_with fail
    refine (awake_any w5 m (HM.out.below HB5.out)).mono ?_
    rintro e w6 ⟨rfl, hb6⟩
    go_wp2_with fail
    go_ret
    exact hR _ _ ⟨rfl, HB5.out.trans (hb6.mono HB5.out.size)⟩
theorem queries_row {w : World} (s : ByteArray) (hs : s.size ≤ 140737488351232) (m : Int) (hm : MaxLen m w) :
    Calls Tryd.prog 3 #[.string s] w fun e w' => e = .returned (.bool true) ∧ Below w.heap.size w w' := queries_walk s hs m w hm
end Go.Proofs.YtilpaopkhghicaaDoor.Asc
