/-
  The law parapetlaw27.AnswerTexts answers true.
  The library's MaxLen is a number.
-/
import Derived.Test.YtilpaopkhghicaaDoorAnQ
namespace Go.Proofs.YtilpaopkhghicaaDoor.Asc
open Go Go.RowKit Go.Proofs.YtilpaopkhghicaaDoor.Pb

set_option maxRecDepth 20000 in
set_option maxHeartbeats 8000000 in
theorem texts_walk (q : Qr) (v : Value) (F : Nat → Prop) (allow : Bool) (why rule : Int) (up pre : Bool) (ver st : Int) (B : ByteArray) (c : Bool) (xs : List Fd) (u : Value) (G : Nat → Prop) (m : Int) (w : World) (hm : MaxLen m w)
    (hv : View fld w F q.hds v) (h1 : q.doc.length ≤ 140737488351232) (h2 : q.url.length ≤ 140737488351232) (h3 : q.dest.length ≤ 140737488351232) (h4 : q.meth.length ≤ 140737488351232)
    (hl : q.hds.length ≤ 140737488351232) (hx : ∀ x ∈ q.hds, x.1.length ≤ 140737488351232 ∧ x.2.length ≤ 140737488351232) (hr0 : -9223372036854775808 ≤ q.redir) (hr1 : q.redir ≤ 9223372036854775807)
    (hu : View fld w G xs u) (hul : xs.length ≤ 140737488351232) (hux : ∀ x ∈ xs, x.1.length ≤ 140737488351232 ∧ x.2.length ≤ 140737488351232)
    (y0 : -9223372036854775808 ≤ rule) (y1 : rule ≤ 9223372036854775807) (v0 : -9223372036854775808 ≤ ver) (v1 : ver ≤ 9223372036854775807) (s0 : -9223372036854775808 ≤ st) (s1 : st ≤ 9223372036854775807) :
    Calls Tryd.prog 8 #[agg8 q v, aggV allow why rule up pre, .int .i64 ver, .int .i64 st, .string B, .bool c, u] w fun e w' => e = .returned (.bool true) ∧ Below w.heap.size w w' := by
  refine calls_gen fun R hR => ?_
  have HM := Lib.hid hm; have HV := Lib.hid hv; have HU := Lib.hid hu
  have HX := Lib.hid hx; have HL := Lib.hid hl; have HUX := Lib.hid hux; have HUL := Lib.hid hul
  have H1 := Lib.hid h1; have H2 := Lib.hid h2; have H3 := Lib.hid h3; have H4 := Lib.hid h4
  clear hm hv hu hx hl hux hul h1 h2 h3 h4
  have HBB : Hid (∀ k, k ≤ 6 → True) := Lib.hid fun _ _ => trivial
  obtain ⟨w1, hw1⟩ : ∃ w1, w.alloc (.cells #[.string (ofL q.doc), .string (ofL q.url), .string (ofL q.dest), .string (ofL q.meth), .bool q.cors, .bool q.creds, .int .i64 q.redir, v] 25) = w1 := ⟨_, rfl⟩
  have HW1 := Lib.hid hw1
  have HS1 : Hid (w1.heap.size = w.heap.size + 1) := Lib.hid (by rw [← hw1]; simp)
  have HB1 : Hid (Below w.heap.size w w1) := Lib.hid (hw1 ▸ below_new w _)
  have HG1 : Hid (w1.heap[w.heap.size]? = some (.cells #[.string (ofL q.doc), .string (ofL q.url), .string (ofL q.dest), .string (ofL q.meth), .bool q.cors, .bool q.creds, .int .i64 q.redir, v] 25 (0, 0))) := Lib.hid (hw1 ▸ blk_new w _)
  obtain ⟨w2, hw2⟩ : ∃ w2, w1.alloc (.cells #[.bool allow, .int .i64 why, .int .i64 rule, .bool up, .bool pre] 46) = w2 := ⟨_, rfl⟩
  have HW2 := Lib.hid hw2
  have HG2 : Hid (w2.heap[w.heap.size + 1]? = some (.cells #[.bool allow, .int .i64 why, .int .i64 rule, .bool up, .bool pre] 46 (0, 0))) := Lib.hid (by have h := blk_new w1 (.cells #[.bool allow, .int .i64 why, .int .i64 rule, .bool up, .bool pre] 46); rw [hw2, HS1.out] at h; exact h)
  have hb12 : Below w1.heap.size w1 w2 := hw2 ▸ below_new w1 _
  have HB2 : Hid (Below w.heap.size w w2) := Lib.hid (HB1.out.trans (hb12.mono HB1.out.size))
  have HR2 : Hid (w2.heap[w.heap.size]? = _) := Lib.hid ((hb12.block _ (blk_lt HG1.out)).trans HG1.out)
  clear hw1 hw2 hb12
  go_enter Tryd.func8, Tryd.ntmps8
  unfold agg8 aggV
  go_upto_region 1 with fail
  rw [HW1.out, HW2.out]
  obtain ⟨b0, b1, b2, b3, b4, b5, b6, b7⟩ := cell8 HR2.out
  have hltr := blk_lt HR2.out
  have hltv := blk_lt HG2.out
  have hg := HG2.out
  have k1 := blk_cell hg 1
  simp only [List.getElem?_toArray, List.getElem?_cons_zero, List.getElem?_cons_succ] at k1
  clear hg
  go_wp2_with fail
  refine (small_any w2 q v F (HV.out.below HB2.out) H1.out H2.out H3.out H4.out HL.out HX.out).mono ?_
  rintro e w3 ⟨rfl, hb3⟩
  have HB3 := Lib.hid (HB2.out.trans (hb3.mono HB2.out.size))
  have HR3 : Hid (w3.heap[w.heap.size]? = _) := Lib.hid ((hb3.block _ hltr).trans HR2.out)
  have HG3 : Hid (w3.heap[w.heap.size + 1]? = _) := Lib.hid ((hb3.block _ hltv).trans HG2.out)
  clear hb3 b0 b1 b2 b3 b4 b5 b6 b7 hltr hltv k1 HR2 HG2 HB2 HB1 HG1
  have HM3 := Lib.hid (HM.out.below HB3.out)
  cases hsm : smallN q with
  | false =>
    go_wp2_with fail
    refine (awake_any w3 m HM3.out).mono ?_
    rintro e w9 ⟨rfl, hb9⟩
    go_wp2_with fail
    go_ret
    exact hR _ _ ⟨rfl, HB3.out.trans (hb9.mono HB3.out.size)⟩
  | true =>
    by_cases hB : (B.size : Int) > 3000
    · skip
      go_wp2_with fail
      refine (awake_any w3 m HM3.out).mono ?_
      rintro e w9 ⟨rfl, hb9⟩
      go_wp2_with fail
      go_ret
      exact hR _ _ ⟨rfl, HB3.out.trans (hb9.mono HB3.out.size)⟩
    · go_wp2_with fail
      refine (fields_any xs u G w3 (HU.out.below HB3.out) HUL.out HUX.out).mono ?_
      rintro e w4 ⟨rfl, hb4⟩
      have HB4 := Lib.hid (HB3.out.trans (hb4.mono HB3.out.size))
      have HR4 : Hid (w4.heap[w.heap.size]? = _) := Lib.hid ((hb4.block _ (blk_lt HR3.out)).trans HR3.out)
      have HG4 : Hid (w4.heap[w.heap.size + 1]? = _) := Lib.hid ((hb4.block _ (blk_lt HG3.out)).trans HG3.out)
      have HM4 := Lib.hid (HM3.out.below hb4)
      clear hb4
      have hg := HG4.out
      have k1 := blk_cell hg 1
      simp only [List.getElem?_toArray, List.getElem?_cons_zero, List.getElem?_cons_succ] at k1
      have hltv := blk_lt hg
      clear hg
      cases hfs : decide (fsize xs ≤ 6000) with
      | false =>
        go_wp2_with fail
        refine (awake_any w4 m HM4.out).mono ?_
        rintro e w9 ⟨rfl, hb9⟩
        go_wp2_with fail
        go_ret
        exact hR _ _ ⟨rfl, HB4.out.trans (hb9.mono HB4.out.size)⟩
      | true =>
        by_cases hy0 : why < 0
        · skip
          go_wp2_with fail
          refine (awake_any w4 m HM4.out).mono ?_
          rintro e w9 ⟨rfl, hb9⟩
          go_wp2_with fail
          go_ret
          exact hR _ _ ⟨rfl, HB4.out.trans (hb9.mono HB4.out.size)⟩
        · by_cases hy6 : why > 6
          · skip
            go_wp2_with fail
            refine (awake_any w4 m HM4.out).mono ?_
            rintro e w9 ⟨rfl, hb9⟩
            go_wp2_with fail
            go_ret
            exact hR _ _ ⟨rfl, HB4.out.trans (hb9.mono HB4.out.size)⟩
          · have HQS : Hid (QSm q) := Lib.hid (by
              unfold smallN at hsm
              rw [Bool.and_eq_true, decide_eq_true_eq, decide_eq_true_eq] at hsm
              exact ⟨by omega, by omega, by omega, by omega, hsm.2, hr0, hr1⟩)
            have HXS : Hid (fsize xs ≤ 6000) := Lib.hid (of_decide_eq_true hfs)
            have HC : Hid (∀ wy, Ext w4 wy → View fld wy F q.hds v ∧ View fld wy G xs u ∧ MaxLen m wy) := Lib.hid fun wy hy => ⟨(HV.out.below HB4.out).below hy, (HU.out.below HB4.out).below hy, HM4.out.below hy⟩
            have HCQ : Hid (∀ wy, Ext w4 wy → wy.cell? ⟨w.heap.size, 0, none⟩ = some (.string (ofL q.doc)) ∧ wy.cell? ⟨w.heap.size, 1, none⟩ = some (.string (ofL q.url)) ∧ wy.cell? ⟨w.heap.size, 2, none⟩ = some (.string (ofL q.dest)) ∧ wy.cell? ⟨w.heap.size, 3, none⟩ = some (.string (ofL q.meth)) ∧ wy.cell? ⟨w.heap.size, 4, none⟩ = some (.bool q.cors) ∧ wy.cell? ⟨w.heap.size, 5, none⟩ = some (.bool q.creds) ∧ wy.cell? ⟨w.heap.size, 6, none⟩ = some (.int .i64 q.redir) ∧ wy.cell? ⟨w.heap.size, 7, none⟩ = some v) := Lib.hid fun wy hy => cell8 ((hy.block _ (blk_lt HR4.out)).trans HR4.out)
            have HCV : Hid (∀ wy, Ext w4 wy → wy.cell? ⟨w.heap.size + 1, 0, none⟩ = some (.bool allow) ∧ wy.cell? ⟨w.heap.size + 1, 1, none⟩ = some (.int .i64 why) ∧ wy.cell? ⟨w.heap.size + 1, 2, none⟩ = some (.int .i64 rule) ∧ wy.cell? ⟨w.heap.size + 1, 3, none⟩ = some (.bool up) ∧ wy.cell? ⟨w.heap.size + 1, 4, none⟩ = some (.bool pre)) := Lib.hid fun wy hy => by
              have h := (hy.block _ (blk_lt HG4.out)).trans HG4.out
              exact ⟨blk_cell h 0, blk_cell h 1, blk_cell h 2, blk_cell h 3, blk_cell h 4⟩
            obtain ⟨TX, hTX⟩ : ∃ X, ofL (textN q) = X := ⟨_, rfl⟩
            obtain ⟨VX, hVX⟩ : ∃ X, ofL (verdictN allow why rule up pre ver) = X := ⟨_, rfl⟩
            obtain ⟨SX, hSX⟩ : ∃ X, ofL (statusN st) = X := ⟨_, rfl⟩
            obtain ⟨AN, hAN⟩ : ∃ X, answerN st (toL B) c xs = X := ⟨_, rfl⟩
            have hanl : AN.length ≤ 140737488351232 := by
              rw [← hAN]
              have h1 := statusN_len st
              have h2 := decimal_lenB st
              have h3 := linesF_le (extraN xs (toL B).length c) (extraN xs (toL B).length c).length
              rw [List.take_length] at h3
              have h4 := extraN_size xs (toL B).length c HXS.out
              have h5 := toL_len B
              unfold fsize at h4
              unfold answerN
              simp only [List.length_append, List.length_cons, List.length_nil]
              omega
            have HANL := Lib.hid hanl
            have HT1 : Hid (∀ wx, Ext w4 wx → Calls Tryd.prog 14 #[agg8 q v] wx fun e w' => e = .returned (.string TX) ∧ Below wx.heap.size wx w') := Lib.hid fun wx hy => hTX ▸ text_any' wx q v F HQS.out (HC.out wx hy).1
            have HT2 : Hid (∀ wx, Ext w4 wx → Calls Tryd.prog 18 #[agg8 q v] wx fun e w' => e = .returned (.string TX) ∧ Below wx.heap.size wx w') := Lib.hid fun wx hy => hTX ▸ rtext_any wx q v F HQS.out (HC.out wx hy).1
            have HV1 : Hid (∀ wx, Calls Tryd.prog 19 #[aggV allow why rule up pre, .int .i64 ver] wx fun e w' => e = .returned (.string VX) ∧ Below wx.heap.size wx w') := Lib.hid fun wx => hVX ▸ verdict_any wx allow why rule up pre y0 y1 ver v0 v1
            have HV2 : Hid (∀ wx, Calls Tryd.prog 20 #[aggV allow why rule up pre, .int .i64 ver] wx fun e w' => e = .returned (.string VX) ∧ Below wx.heap.size wx w') := Lib.hid fun wx => hVX ▸ rverdict_any wx allow why rule up pre y0 y1 ver v0 v1 (by omega) (by omega)
            have HS1 : Hid (∀ wx, Calls Tryd.prog 23 #[.int .i64 st] wx fun e w' => e = .returned (.string SX) ∧ Below wx.heap.size wx w') := Lib.hid fun wx => hSX ▸ (reasonA_any wx st).mono fun e w' h => ⟨h.1, h.2 ▸ Below.refl _ _⟩
            have HS2 : Hid (∀ wx, Calls Tryd.prog 24 #[.int .i64 st] wx fun e w' => e = .returned (.string SX) ∧ Below wx.heap.size wx w') := Lib.hid fun wx => hSX ▸ (reasonB_any wx st).mono fun e w' h => ⟨h.1, h.2 ▸ Below.refl _ _⟩
            have HW1' : Hid (∀ wx, Ext w4 wx → Calls Tryd.prog 15 #[.int .i64 st, .string B, .bool c, u] wx fun e w' => ∃ z, e = .returned z ∧ Ext wx w' ∧ View Rp.u8 w' (fun _ => True) AN z) := Lib.hid fun wx hy => hAN ▸ (write_any wx st s0 s1 B (by omega) c xs u G (HC.out wx hy).2.1 HXS.out).mono fun e w' ⟨z, h1, h2, h3⟩ => ⟨z, h1, h3, h2.mono fun _ _ => trivial⟩
            have HW2' : Hid (∀ wx, Ext w4 wx → Calls Tryd.prog 22 #[.int .i64 st, .string B, .bool c, u] wx fun e w' => ∃ z, e = .returned z ∧ Ext wx w' ∧ View Rp.u8 w' (fun _ => True) AN z) := Lib.hid fun wx hy => hAN ▸ (rwrite_any wx st s0 s1 B (by omega) c xs u G (HC.out wx hy).2.1 HXS.out).mono fun e w' ⟨z, h1, h2, h3⟩ => ⟨z, h1, h3, h2.mono fun _ _ => trivial⟩
            clear hTX hVX hSX hAN hsm hfs hanl
            go_upto_region 3 with fail
            clear hy0 hy6 hB k1 hltv
            refine wp_region_any (by kernel_rfl) ?_
            refine region_ext [(fun vv _ => vv = agg8 q v), (fun vv _ => vv = .string TX), (fun vv _ => vv = agg8 q v), (fun vv _ => vv = .string TX), (fun vv _ => vv = .bool true), (fun vv _ => vv = .bool true), (fun vv _ => vv = aggV allow why rule up pre), (fun vv _ => vv = .int .i64 ver), (fun vv _ => vv = .string VX), (fun vv _ => vv = aggV allow why rule up pre), (fun vv _ => vv = .int .i64 ver), (fun vv _ => vv = .string VX), (fun vv _ => vv = .bool true), (fun vv _ => vv = .bool true), (fun vv _ => vv = .bool true), (fun vv _ => vv = .int .i64 st), (fun vv _ => vv = .string B), (fun vv _ => vv = .bool c), (fun vv _ => vv = u), (fun v w => View Rp.u8 w (fun _ => True) AN v), (fun vv _ => vv = .int .i64 st), (fun vv _ => vv = .string B), (fun vv _ => vv = .bool c), (fun vv _ => vv = u), (fun v w => View Rp.u8 w (fun _ => True) AN v), (fun vv _ => vv = .bool true), (fun vv _ => vv = .bool true), (fun vv _ => vv = .bool true), (fun vv _ => vv = .int .i64 st), (fun vv _ => vv = .string SX), (fun vv _ => vv = .int .i64 st), (fun vv _ => vv = .string SX), (fun vv _ => vv = .bool true), (fun vv _ => vv = .bool true), (fun vv _ => vv = .bool true), (fun vv _ => vv = .bool true), (fun vv _ => vv = .bool true)]
              [[], [(0, 39)], [], [(2, 41)], [(1, 40), (3, 42)], [(4, 43)], [(5, 44)], [(5, 44)], [(5, 44), (6, 45), (7, 46)], [(5, 44)], [(5, 44)], [(5, 44), (9, 48), (10, 49)], [(5, 44), (8, 47), (11, 50)], [(5, 44), (12, 51)], [(13, 52)], [(14, 53)], [(14, 53)], [(14, 53)], [(14, 53)], [(14, 53), (15, 54), (16, 55), (17, 56), (18, 57)], [(14, 53)], [(14, 53)], [(14, 53)], [(14, 53)], [(14, 53), (20, 59), (21, 60), (22, 61), (23, 62)], [(14, 53), (19, 58), (24, 63)], [(14, 53), (25, 64)], [(26, 65)], [(27, 66)], [(27, 66), (28, 67)], [(27, 66)], [(27, 66), (30, 69)], [(27, 66), (29, 68), (31, 70)], [(27, 66), (32, 71)], [(33, 72)], [(34, 73)], [(34, 73), (35, 74)], []]
              [none, none, none, none, none, none, some (44, true), some (44, true), some (44, true), some (44, true), some (44, true), some (44, true), some (44, true), none, none, some (53, true), some (53, true), some (53, true), some (53, true), some (53, true), some (53, true), some (53, true), some (53, true), some (53, true), some (53, true), some (53, true), none, none, some (66, true), some (66, true), some (66, true), some (66, true), some (66, true), none, none, some (73, true), none, none]
              [some 39, some 40, some 41, some 42, some 43, some 44, some 45, some 46, some 47, some 48, some 49, some 50, some 51, some 52, some 53, some 54, some 55, some 56, some 57, some 58, some 59, some 60, some 61, some 62, some 63, some 64, some 65, some 66, some 67, some 68, some 69, some 70, some 71, some 72, some 73, some 74, some 75] 37 (by kernel_rfl) (by kernel_rfl) (by kernel_rfl) rfl (by kernel_rfl) ?_ ?_ ?_
            · exact ⟨fun _ _ _ _ h => h, fun _ _ _ _ h => h, fun _ _ _ _ h => h, fun _ _ _ _ h => h, fun _ _ _ _ h => h, fun _ _ _ _ h => h, fun _ _ _ _ h => h, fun _ _ _ _ h => h, fun _ _ _ _ h => h, fun _ _ _ _ h => h, fun _ _ _ _ h => h, fun _ _ _ _ h => h, fun _ _ _ _ h => h, fun _ _ _ _ h => h, fun _ _ _ _ h => h, fun _ _ _ _ h => h, fun _ _ _ _ h => h, fun _ _ _ _ h => h, fun _ _ _ _ h => h, (fun _ _ _ h k => k.below h), fun _ _ _ _ h => h, fun _ _ _ _ h => h, fun _ _ _ _ h => h, fun _ _ _ _ h => h, (fun _ _ _ h k => k.below h), fun _ _ _ _ h => h, fun _ _ _ _ h => h, fun _ _ _ _ h => h, fun _ _ _ _ h => h, fun _ _ _ _ h => h, fun _ _ _ _ h => h, fun _ _ _ _ h => h, fun _ _ _ _ h => h, fun _ _ _ _ h => h, fun _ _ _ _ h => h, fun _ _ _ _ h => h, fun _ _ _ _ h => h, trivial⟩
            · refine ⟨?_, ?_, ?_, ?_, ?_, fun ρ wx _ _ hd => gives_move hd.1, ?_, ?_, ?_, ?_, ?_, ?_, ?_, ?_, fun ρ wx _ _ hd => gives_move hd.1, ?_, ?_, ?_, ?_, ?_, ?_, ?_, ?_, ?_, ?_, ?_, ?_, fun ρ wx _ _ hd => gives_move hd.1, ?_, ?_, ?_, ?_, ?_, ?_, fun ρ wx _ _ hd => gives_move hd.1, ?_, ?_, trivial⟩
              · intro ρ wx hE hx hd
                replace hE := Ext.undrew hE
                have e7 : ρ (.tmp 7) = .pointer (some ⟨w.heap.size, 0, none⟩) := hx (.tmp 7) (by simp)
                obtain ⟨k0, k1, k2, k3, k4, k5, k6, k7⟩ := HCQ.out wx hE; exact gives_val (G := fun vv _ => vv = agg8 q v) (v := agg8 q v) (by simp [execOp, e7, k0, k1, k2, k3, k4, k5, k6, k7, agg8, go_sem]) rfl
              · intro ρ wx hE hx hd
                replace hE := Ext.undrew hE
                have e39 : ρ (.tmp 39) = agg8 q v := hd.1
                have hf : ∀ f, ρ (.func f) = .func (.func f) #[] #[] := fun f => (hx (.func f) (by simp)).trans rfl
                refine gives_call (G := fun vv _ => vv = .string TX) (by simp [execOp, e39, hf, go_sem] <;> first | exact ⟨rfl, rfl⟩ | exact rfl) ?_
                exact call_below (HT1.out wx hE)
              · intro ρ wx hE hx hd
                replace hE := Ext.undrew hE
                have e7 : ρ (.tmp 7) = .pointer (some ⟨w.heap.size, 0, none⟩) := hx (.tmp 7) (by simp)
                obtain ⟨k0, k1, k2, k3, k4, k5, k6, k7⟩ := HCQ.out wx hE; exact gives_val (G := fun vv _ => vv = agg8 q v) (v := agg8 q v) (by simp [execOp, e7, k0, k1, k2, k3, k4, k5, k6, k7, agg8, go_sem]) rfl
              · intro ρ wx hE hx hd
                replace hE := Ext.undrew hE
                have e41 : ρ (.tmp 41) = agg8 q v := hd.1
                have hf : ∀ f, ρ (.func f) = .func (.func f) #[] #[] := fun f => (hx (.func f) (by simp)).trans rfl
                refine gives_call (G := fun vv _ => vv = .string TX) (by simp [execOp, e41, hf, go_sem] <;> first | exact ⟨rfl, rfl⟩ | exact rfl) ?_
                exact call_below (HT2.out wx hE)
              · intro ρ wx hE hx hd
                replace hE := Ext.undrew hE
                have e40 : ρ (.tmp 40) = .string TX := hd.1
                have e42 : ρ (.tmp 42) = .string TX := hd.2.1
                exact gives_val (G := fun vv _ => vv = .bool true) (v := .bool true) (by simp [execOp, e40, e42, go_sem]) rfl
              · intro ρ wx hE hx hd
                replace hE := Ext.undrew hE
                have e44 : ρ (.tmp 44) = .bool true := hd.1
                have e8 : ρ (.tmp 8) = .pointer (some ⟨w.heap.size + 1, 0, none⟩) := hx (.tmp 8) (by simp)
                refine .inl ⟨e44, ?_⟩
                obtain ⟨k0, k1, k2, k3, k4⟩ := HCV.out wx hE; exact gives_val (G := fun vv _ => vv = aggV allow why rule up pre) (v := aggV allow why rule up pre) (by simp [execOp, e8, k0, k1, k2, k3, k4, aggV, go_sem]) rfl
              · intro ρ wx hE hx hd
                replace hE := Ext.undrew hE
                have e44 : ρ (.tmp 44) = .bool true := hd.1
                have e2 : ρ (.tmp 2) = .int .i64 ver := hx (.tmp 2) (by simp)
                refine .inl ⟨e44, ?_⟩
                exact gives_val (G := fun vv _ => vv = .int .i64 ver) (v := .int .i64 ver) (by simp [execOp, e44, e2, go_sem]) rfl
              · intro ρ wx hE hx hd
                replace hE := Ext.undrew hE
                have e44 : ρ (.tmp 44) = .bool true := hd.1
                have e45 : ρ (.tmp 45) = aggV allow why rule up pre := hd.2.1
                have e46 : ρ (.tmp 46) = .int .i64 ver := hd.2.2.1
                have hf : ∀ f, ρ (.func f) = .func (.func f) #[] #[] := fun f => (hx (.func f) (by simp)).trans rfl
                refine .inl ⟨e44, ?_⟩
                refine gives_call (G := fun vv _ => vv = .string VX) (by simp [execOp, e44, e45, e46, hf, go_sem] <;> first | exact ⟨rfl, rfl⟩ | exact rfl) ?_
                exact call_below (HV1.out wx)
              · intro ρ wx hE hx hd
                replace hE := Ext.undrew hE
                have e44 : ρ (.tmp 44) = .bool true := hd.1
                have e8 : ρ (.tmp 8) = .pointer (some ⟨w.heap.size + 1, 0, none⟩) := hx (.tmp 8) (by simp)
                refine .inl ⟨e44, ?_⟩
                obtain ⟨k0, k1, k2, k3, k4⟩ := HCV.out wx hE; exact gives_val (G := fun vv _ => vv = aggV allow why rule up pre) (v := aggV allow why rule up pre) (by simp [execOp, e8, k0, k1, k2, k3, k4, aggV, go_sem]) rfl
              · intro ρ wx hE hx hd
                replace hE := Ext.undrew hE
                have e44 : ρ (.tmp 44) = .bool true := hd.1
                have e2 : ρ (.tmp 2) = .int .i64 ver := hx (.tmp 2) (by simp)
                refine .inl ⟨e44, ?_⟩
                exact gives_val (G := fun vv _ => vv = .int .i64 ver) (v := .int .i64 ver) (by simp [execOp, e44, e2, go_sem]) rfl
              · intro ρ wx hE hx hd
                replace hE := Ext.undrew hE
                have e44 : ρ (.tmp 44) = .bool true := hd.1
                have e48 : ρ (.tmp 48) = aggV allow why rule up pre := hd.2.1
                have e49 : ρ (.tmp 49) = .int .i64 ver := hd.2.2.1
                have hf : ∀ f, ρ (.func f) = .func (.func f) #[] #[] := fun f => (hx (.func f) (by simp)).trans rfl
                refine .inl ⟨e44, ?_⟩
                refine gives_call (G := fun vv _ => vv = .string VX) (by simp [execOp, e44, e48, e49, hf, go_sem] <;> first | exact ⟨rfl, rfl⟩ | exact rfl) ?_
                exact call_below (HV2.out wx)
              · intro ρ wx hE hx hd
                replace hE := Ext.undrew hE
                have e44 : ρ (.tmp 44) = .bool true := hd.1
                have e47 : ρ (.tmp 47) = .string VX := hd.2.1
                have e50 : ρ (.tmp 50) = .string VX := hd.2.2.1
                refine .inl ⟨e44, ?_⟩
                exact gives_val (G := fun vv _ => vv = .bool true) (v := .bool true) (by simp [execOp, e44, e47, e50, go_sem]) rfl
              · intro ρ wx hE hx hd
                replace hE := Ext.undrew hE
                have e44 : ρ (.tmp 44) = .bool true := hd.1
                have e51 : ρ (.tmp 51) = .bool true := hd.2.1
                have hk : ∀ v, ρ (.const v) = v := fun v => (hx (.const v) (by simp)).trans rfl
                exact gives_val (G := fun vv _ => vv = .bool true) (v := .bool true) (by simp [execOp, e44, e51, hk, go_sem]) rfl
              · intro ρ wx hE hx hd
                replace hE := Ext.undrew hE
                have e53 : ρ (.tmp 53) = .bool true := hd.1
                have e3 : ρ (.tmp 3) = .int .i64 st := hx (.tmp 3) (by simp)
                refine .inl ⟨e53, ?_⟩
                exact gives_val (G := fun vv _ => vv = .int .i64 st) (v := .int .i64 st) (by simp [execOp, e53, e3, go_sem]) rfl
              · intro ρ wx hE hx hd
                replace hE := Ext.undrew hE
                have e53 : ρ (.tmp 53) = .bool true := hd.1
                have e4 : ρ (.tmp 4) = .string B := hx (.tmp 4) (by simp)
                refine .inl ⟨e53, ?_⟩
                exact gives_val (G := fun vv _ => vv = .string B) (v := .string B) (by simp [execOp, e53, e4, go_sem]) rfl
              · intro ρ wx hE hx hd
                replace hE := Ext.undrew hE
                have e53 : ρ (.tmp 53) = .bool true := hd.1
                have e5 : ρ (.tmp 5) = .bool c := hx (.tmp 5) (by simp)
                refine .inl ⟨e53, ?_⟩
                exact gives_val (G := fun vv _ => vv = .bool c) (v := .bool c) (by simp [execOp, e53, e5, go_sem]) rfl
              · intro ρ wx hE hx hd
                replace hE := Ext.undrew hE
                have e53 : ρ (.tmp 53) = .bool true := hd.1
                have e6 : ρ (.tmp 6) = u := hx (.tmp 6) (by simp)
                refine .inl ⟨e53, ?_⟩
                exact gives_val (G := fun vv _ => vv = u) (v := u) (by simp [execOp, e53, e6, go_sem]) rfl
              · intro ρ wx hE hx hd
                replace hE := Ext.undrew hE
                have e53 : ρ (.tmp 53) = .bool true := hd.1
                have e54 : ρ (.tmp 54) = .int .i64 st := hd.2.1
                have e55 : ρ (.tmp 55) = .string B := hd.2.2.1
                have e56 : ρ (.tmp 56) = .bool c := hd.2.2.2.1
                have e57 : ρ (.tmp 57) = u := hd.2.2.2.2.1
                have hf : ∀ f, ρ (.func f) = .func (.func f) #[] #[] := fun f => (hx (.func f) (by simp)).trans rfl
                refine .inl ⟨e53, ?_⟩
                exact gives_call (G := fun v w => View Rp.u8 w (fun _ => True) AN v) (by simp [execOp, e54, e55, e56, e57, hf, go_sem] <;> first | exact ⟨rfl, rfl⟩ | exact rfl) (HW1'.out wx hE)
              · intro ρ wx hE hx hd
                replace hE := Ext.undrew hE
                have e53 : ρ (.tmp 53) = .bool true := hd.1
                have e3 : ρ (.tmp 3) = .int .i64 st := hx (.tmp 3) (by simp)
                refine .inl ⟨e53, ?_⟩
                exact gives_val (G := fun vv _ => vv = .int .i64 st) (v := .int .i64 st) (by simp [execOp, e53, e3, go_sem]) rfl
              · intro ρ wx hE hx hd
                replace hE := Ext.undrew hE
                have e53 : ρ (.tmp 53) = .bool true := hd.1
                have e4 : ρ (.tmp 4) = .string B := hx (.tmp 4) (by simp)
                refine .inl ⟨e53, ?_⟩
                exact gives_val (G := fun vv _ => vv = .string B) (v := .string B) (by simp [execOp, e53, e4, go_sem]) rfl
              · intro ρ wx hE hx hd
                replace hE := Ext.undrew hE
                have e53 : ρ (.tmp 53) = .bool true := hd.1
                have e5 : ρ (.tmp 5) = .bool c := hx (.tmp 5) (by simp)
                refine .inl ⟨e53, ?_⟩
                exact gives_val (G := fun vv _ => vv = .bool c) (v := .bool c) (by simp [execOp, e53, e5, go_sem]) rfl
              · intro ρ wx hE hx hd
                replace hE := Ext.undrew hE
                have e53 : ρ (.tmp 53) = .bool true := hd.1
                have e6 : ρ (.tmp 6) = u := hx (.tmp 6) (by simp)
                refine .inl ⟨e53, ?_⟩
                exact gives_val (G := fun vv _ => vv = u) (v := u) (by simp [execOp, e53, e6, go_sem]) rfl
              · intro ρ wx hE hx hd
                replace hE := Ext.undrew hE
                have e53 : ρ (.tmp 53) = .bool true := hd.1
                have e59 : ρ (.tmp 59) = .int .i64 st := hd.2.1
                have e60 : ρ (.tmp 60) = .string B := hd.2.2.1
                have e61 : ρ (.tmp 61) = .bool c := hd.2.2.2.1
                have e62 : ρ (.tmp 62) = u := hd.2.2.2.2.1
                have hf : ∀ f, ρ (.func f) = .func (.func f) #[] #[] := fun f => (hx (.func f) (by simp)).trans rfl
                refine .inl ⟨e53, ?_⟩
                exact gives_call (G := fun v w => View Rp.u8 w (fun _ => True) AN v) (by simp [execOp, e59, e60, e61, e62, hf, go_sem] <;> first | exact ⟨rfl, rfl⟩ | exact rfl) (HW2'.out wx hE)
              · intro ρ wx hE hx hd
                replace hE := Ext.undrew hE
                have e53 : ρ (.tmp 53) = .bool true := hd.1
                have e58 := hd.2.1
                have e63 := hd.2.2.1
                have hf : ∀ f, ρ (.func f) = .func (.func f) #[] #[] := fun f => (hx (.func f) (by simp)).trans rfl
                refine .inl ⟨e53, ?_⟩
                exact gives_call (G := fun vv _ => vv = .bool true) (by simp [execOp, hf, go_sem] <;> first | exact ⟨rfl, rfl⟩ | exact rfl) ((bytes_any AN AN _ _ _ _ wx e58 e63 HANL.out HANL.out).mono fun e w' h => ⟨_, h.1, h.2, by simp⟩)
              · intro ρ wx hE hx hd
                replace hE := Ext.undrew hE
                have e53 : ρ (.tmp 53) = .bool true := hd.1
                have e64 : ρ (.tmp 64) = .bool true := hd.2.1
                have hk : ∀ v, ρ (.const v) = v := fun v => (hx (.const v) (by simp)).trans rfl
                exact gives_val (G := fun vv _ => vv = .bool true) (v := .bool true) (by simp [execOp, e53, e64, hk, go_sem]) rfl
              · intro ρ wx hE hx hd
                replace hE := Ext.undrew hE
                have e66 : ρ (.tmp 66) = .bool true := hd.1
                have e3 : ρ (.tmp 3) = .int .i64 st := hx (.tmp 3) (by simp)
                refine .inl ⟨e66, ?_⟩
                exact gives_val (G := fun vv _ => vv = .int .i64 st) (v := .int .i64 st) (by simp [execOp, e66, e3, go_sem]) rfl
              · intro ρ wx hE hx hd
                replace hE := Ext.undrew hE
                have e66 : ρ (.tmp 66) = .bool true := hd.1
                have e67 : ρ (.tmp 67) = .int .i64 st := hd.2.1
                have hf : ∀ f, ρ (.func f) = .func (.func f) #[] #[] := fun f => (hx (.func f) (by simp)).trans rfl
                refine .inl ⟨e66, ?_⟩
                refine gives_call (G := fun vv _ => vv = .string SX) (by simp [execOp, e66, e67, hf, go_sem] <;> first | exact ⟨rfl, rfl⟩ | exact rfl) ?_
                exact call_below (HS1.out wx)
              · intro ρ wx hE hx hd
                replace hE := Ext.undrew hE
                have e66 : ρ (.tmp 66) = .bool true := hd.1
                have e3 : ρ (.tmp 3) = .int .i64 st := hx (.tmp 3) (by simp)
                refine .inl ⟨e66, ?_⟩
                exact gives_val (G := fun vv _ => vv = .int .i64 st) (v := .int .i64 st) (by simp [execOp, e66, e3, go_sem]) rfl
              · intro ρ wx hE hx hd
                replace hE := Ext.undrew hE
                have e66 : ρ (.tmp 66) = .bool true := hd.1
                have e69 : ρ (.tmp 69) = .int .i64 st := hd.2.1
                have hf : ∀ f, ρ (.func f) = .func (.func f) #[] #[] := fun f => (hx (.func f) (by simp)).trans rfl
                refine .inl ⟨e66, ?_⟩
                refine gives_call (G := fun vv _ => vv = .string SX) (by simp [execOp, e66, e69, hf, go_sem] <;> first | exact ⟨rfl, rfl⟩ | exact rfl) ?_
                exact call_below (HS2.out wx)
              · intro ρ wx hE hx hd
                replace hE := Ext.undrew hE
                have e66 : ρ (.tmp 66) = .bool true := hd.1
                have e68 : ρ (.tmp 68) = .string SX := hd.2.1
                have e70 : ρ (.tmp 70) = .string SX := hd.2.2.1
                refine .inl ⟨e66, ?_⟩
                exact gives_val (G := fun vv _ => vv = .bool true) (v := .bool true) (by simp [execOp, e66, e68, e70, go_sem]) rfl
              · intro ρ wx hE hx hd
                replace hE := Ext.undrew hE
                have e66 : ρ (.tmp 66) = .bool true := hd.1
                have e71 : ρ (.tmp 71) = .bool true := hd.2.1
                have hk : ∀ v, ρ (.const v) = v := fun v => (hx (.const v) (by simp)).trans rfl
                exact gives_val (G := fun vv _ => vv = .bool true) (v := .bool true) (by simp [execOp, e66, e71, hk, go_sem]) rfl
              · intro ρ wx hE hx hd
                replace hE := Ext.undrew hE
                have e73 : ρ (.tmp 73) = .bool true := hd.1
                have hf : ∀ f, ρ (.func f) = .func (.func f) #[] #[] := fun f => (hx (.func f) (by simp)).trans rfl
                refine .inl ⟨e73, ?_⟩
                refine gives_call (G := fun vv _ => vv = .bool true) (by simp [execOp, e73, hf, go_sem] <;> first | exact ⟨rfl, rfl⟩ | exact rfl) ?_
                exact call_below (awake_any wx m (HC.out wx hE).2.2)
              · intro ρ wx hE hx hd
                replace hE := Ext.undrew hE
                have e73 : ρ (.tmp 73) = .bool true := hd.1
                have e74 : ρ (.tmp 74) = .bool true := hd.2.1
                have hk : ∀ v, ρ (.const v) = v := fun v => (hx (.const v) (by simp)).trans rfl
                exact gives_val (G := fun vv _ => vv = .bool true) (v := .bool true) (by simp [execOp, e73, e74, hk, go_sem]) rfl
            intro wx hE
            refine fun v39 (e39 : v39 = agg8 q v) => ?_
            refine fun v40 (e40 : v40 = .string TX) => ?_
            refine fun v41 (e41 : v41 = agg8 q v) => ?_
            refine fun v42 (e42 : v42 = .string TX) => ?_
            refine fun v43 (e43 : v43 = .bool true) => ?_
            refine fun v44 (e44 : v44 = .bool true) => ?_
            refine fun v45 (e45 : v45 = aggV allow why rule up pre) => ?_
            refine fun v46 (e46 : v46 = .int .i64 ver) => ?_
            refine fun v47 (e47 : v47 = .string VX) => ?_
            refine fun v48 (e48 : v48 = aggV allow why rule up pre) => ?_
            refine fun v49 (e49 : v49 = .int .i64 ver) => ?_
            refine fun v50 (e50 : v50 = .string VX) => ?_
            refine fun v51 (e51 : v51 = .bool true) => ?_
            refine fun v52 (e52 : v52 = .bool true) => ?_
            refine fun v53 (e53 : v53 = .bool true) => ?_
            refine fun v54 (e54 : v54 = .int .i64 st) => ?_
            refine fun v55 (e55 : v55 = .string B) => ?_
            refine fun v56 (e56 : v56 = .bool c) => ?_
            refine fun v57 (e57 : v57 = u) => ?_
            refine fun v58 e58 => ?_
            refine fun v59 (e59 : v59 = .int .i64 st) => ?_
            refine fun v60 (e60 : v60 = .string B) => ?_
            refine fun v61 (e61 : v61 = .bool c) => ?_
            refine fun v62 (e62 : v62 = u) => ?_
            refine fun v63 e63 => ?_
            refine fun v64 (e64 : v64 = .bool true) => ?_
            refine fun v65 (e65 : v65 = .bool true) => ?_
            refine fun v66 (e66 : v66 = .bool true) => ?_
            refine fun v67 (e67 : v67 = .int .i64 st) => ?_
            refine fun v68 (e68 : v68 = .string SX) => ?_
            refine fun v69 (e69 : v69 = .int .i64 st) => ?_
            refine fun v70 (e70 : v70 = .string SX) => ?_
            refine fun v71 (e71 : v71 = .bool true) => ?_
            refine fun v72 (e72 : v72 = .bool true) => ?_
            refine fun v73 (e73 : v73 = .bool true) => ?_
            refine fun v74 (e74 : v74 = .bool true) => ?_
            refine fun v75 (e75 : v75 = .bool true) => ?_
            subst e39 e40 e41 e42 e43 e44 e45 e46 e47 e48 e49 e50 e51 e52 e53 e54 e55 e56 e57 e59 e60 e61 e62 e64 e65 e66 e67 e68 e69 e70 e71 e72 e73 e74 e75
            refine rest_nil ?_
            simp only [List.drop_succ_cons, List.drop_zero, Act.put, List.setIfInBounds_toArray, List.set_cons_zero, List.set_cons_succ]
            go_wp2_with fail
            go_ret
            exact hR _ _ ⟨rfl, HB4.out.trans (hE.mono HB4.out.size)⟩

/-- a query, a verdict: how they lie in a row's input -/
abbrev QT := List UInt8 × List UInt8 × List UInt8 × List UInt8 × Bool × Bool × Int × List Fd
def qry : Rp QT := Rp.str.pair (Rp.str.pair (Rp.str.pair (Rp.str.pair (Rp.bool.pair (Rp.bool.pair (Rp.int.pair fld.view))))))
abbrev VT := Bool × Int × Int × Bool × Bool
def ver : Rp VT := Rp.bool.pair (Rp.int.pair (Rp.int.pair (Rp.bool.pair Rp.bool)))
theorem qry_rep {w : World} {F : Nat → Prop} {x : QT} {cs : List Value} (h : qry.rep w F x cs) : ∃ v, cs = [.string (ofL x.1), .string (ofL x.2.1), .string (ofL x.2.2.1), .string (ofL x.2.2.2.1), .bool x.2.2.2.2.1, .bool x.2.2.2.2.2.1, .int .i64 x.2.2.2.2.2.2.1, v] ∧ View fld w F x.2.2.2.2.2.2.2 v := by
  obtain ⟨a1, a2, rfl, rfl, b1, b2, rfl, rfl, c1, c2, rfl, rfl, d1, d2, rfl, rfl, e1, e2, rfl, rfl, f1, f2, rfl, rfl, g1, g2, rfl, rfl, v, rfl, hv⟩ := h
  exact ⟨v, rfl, hv⟩
theorem ver_rep {w : World} {F : Nat → Prop} {x : VT} {cs : List Value} (h : ver.rep w F x cs) : cs = [.bool x.1, .int .i64 x.2.1, .int .i64 x.2.2.1, .bool x.2.2.2.1, .bool x.2.2.2.2] := by
  obtain ⟨a1, a2, rfl, rfl, b1, b2, rfl, rfl, c1, c2, rfl, rfl, d1, d2, rfl, rfl, rfl⟩ := h
  rfl
theorem texts_row {w : World} (x : QT) (cs : Array Value) (hb : x.1.length ≤ 140737488351232 ∧ x.2.1.length ≤ 140737488351232 ∧ x.2.2.1.length ≤ 140737488351232 ∧ x.2.2.2.1.length ≤ 140737488351232 ∧ True ∧ True ∧ (-9223372036854775808 ≤ x.2.2.2.2.2.2.1 ∧ x.2.2.2.2.2.2.1 ≤ 9223372036854775807) ∧ (x.2.2.2.2.2.2.2.length * Tryd.prog.bytesOf 42 ≤ 140737488351232 ∧ ∀ y ∈ x.2.2.2.2.2.2.2, y.1.length ≤ 140737488351232 ∧ y.2.length ≤ 140737488351232)) (hr : qry.rep w (fun _ => True) x cs.toList)
    (y : VT) (ds : Array Value) (hc : True ∧ (-9223372036854775808 ≤ y.2.1 ∧ y.2.1 ≤ 9223372036854775807) ∧ (-9223372036854775808 ≤ y.2.2.1 ∧ y.2.2.1 ≤ 9223372036854775807) ∧ True ∧ True) (hy : ver.rep w (fun _ => True) y ds.toList)
    (n : Int) (n0 : -9223372036854775808 ≤ n) (n1 : n ≤ 9223372036854775807) (st : Int) (s0 : -9223372036854775808 ≤ st) (s1 : st ≤ 9223372036854775807) (B : ByteArray) (_ : B.size ≤ 140737488351232) (c : Bool)
    (xs : List Fd) (u : Value) (G : Nat → Prop) (hub : xs.length * Tryd.prog.bytesOf 42 ≤ 140737488351232 ∧ ∀ x ∈ xs, x.1.length ≤ 140737488351232 ∧ x.2.length ≤ 140737488351232) (hu : View fld w G xs u) (m : Int) (hm : MaxLen m w) :
    Calls Tryd.prog 8 #[.agg cs, .agg ds, .int .i64 n, .int .i64 st, .string B, .bool c, u] w fun e w' => e = .returned (.bool true) ∧ Below w.heap.size w w' := by
  rw [show Tryd.prog.bytesOf 42 = 32 by kernel_rfl] at hb hub
  obtain ⟨v, e, hv⟩ := qry_rep hr
  have ec : cs = #[.string (ofL x.1), .string (ofL x.2.1), .string (ofL x.2.2.1), .string (ofL x.2.2.2.1), .bool x.2.2.2.2.1, .bool x.2.2.2.2.2.1, .int .i64 x.2.2.2.2.2.2.1, v] := by apply Array.ext'; exact e
  have ed : ds = #[.bool y.1, .int .i64 y.2.1, .int .i64 y.2.2.1, .bool y.2.2.2.1, .bool y.2.2.2.2] := by apply Array.ext'; exact ver_rep hy
  rw [ec, ed]
  obtain ⟨b1, b2, b3, b4, _, _, ⟨b5, b6⟩, b7, b8⟩ := hb
  exact texts_walk ⟨x.1, x.2.1, x.2.2.1, x.2.2.2.1, x.2.2.2.2.1, x.2.2.2.2.2.1, x.2.2.2.2.2.2.1, x.2.2.2.2.2.2.2⟩ v (fun _ => True) y.1 y.2.1 y.2.2.1 y.2.2.2.1 y.2.2.2.2 n st B c xs u G m w hm hv b1 b2 b3 b4 (by dsimp only; omega) b8 b5 b6 hu (by omega) hub.2 hc.2.2.1.1 hc.2.2.1.2 n0 n1 s0 s1

end Go.Proofs.YtilpaopkhghicaaDoor.Asc
