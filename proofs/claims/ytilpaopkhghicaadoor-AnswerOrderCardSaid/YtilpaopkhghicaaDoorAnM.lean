/-
  Contract: the document's Verdict.
  Lengths within the rows' own reach.
-/
import Derived.Test.YtilpaopkhghicaaDoorAnL
import Derived.Deep.CutBlock
namespace Go.Proofs.YtilpaopkhghicaaDoor.Asc
open Go Go.RowKit Go.Proofs.YtilpaopkhghicaaDoor.Pb

set_option maxHeartbeats 8000000 in
set_option maxRecDepth 20000 in
theorem rverdict_any (w : World) (allow : Bool) (why rule : Int) (up pre : Bool) (h0 : -9223372036854775808 ≤ rule) (h1 : rule ≤ 9223372036854775807) (ver : Int) (v0 : -9223372036854775808 ≤ ver) (v1 : ver ≤ 9223372036854775807) (y0 : 0 ≤ why) (y1 : why ≤ 6) :
    Calls Tryd.prog 20 #[aggV allow why rule up pre, .int .i64 ver] w fun e w' => e = .returned (.string (ofL (verdictN allow why rule up pre ver))) ∧ Below w.heap.size w w' := by
  refine calls_gen fun R hR => ?_
  unfold aggV
  obtain ⟨w1, hw1⟩ : ∃ w1, w.alloc (.cells #[.bool allow, .int .i64 why, .int .i64 rule, .bool up, .bool pre] 46) = w1 := ⟨_, rfl⟩
  have HW1 := Lib.hid hw1
  have HB1 : Hid (Below w.heap.size w w1) := Lib.hid (hw1 ▸ below_new w _)
  have HG : Hid (w1.heap[w.heap.size]? = some (.cells #[.bool allow, .int .i64 why, .int .i64 rule, .bool up, .bool pre] 46 (0, 0))) := Lib.hid (hw1 ▸ blk_new w _)
  clear hw1
  go_enter Tryd.func20, Tryd.ntmps20
  go_upto_region 1 with fail
  rw [HW1.out]
  have hg := HG.out
  have c0 := blk_cell hg 0
  have c1 := blk_cell hg 1
  have c2 := blk_cell hg 2
  have hlt := blk_lt hg
  simp only [List.getElem?_toArray, List.getElem?_cons_zero, List.getElem?_cons_succ] at c0 c1 c2
  clear hg
  obtain ⟨RS, hRS⟩ : ∃ X, ofL (reasonN why rule) = X := ⟨_, rfl⟩
  have hrs : RS.size ≤ 30 := by rw [← hRS, ofL_size]; exact reasonN_len why rule
  have HRS : Hid (toL RS = reasonN why rule) := Lib.hid (by rw [← hRS, toL_ofL])
  clear hRS
  obtain ⟨AL, hAL⟩ : ∃ X : ByteArray, (if allow then ⟨#[97, 108, 108, 111, 119]⟩ else ⟨#[100, 101, 110, 121]⟩) = X := ⟨_, rfl⟩
  go_upto_if 7 with fail
  go_cut [5] (fun v wc => v = .string AL ∧ wc = w1)
  case first =>
    cases allow
    all_goals
      go_wp2_with fail
      go_meet
      exact ⟨by rw [← hAL]; rfl, rfl⟩
  case rest =>
    obtain ⟨rfl, hwc⟩ := hcut
    rw [hwc]
    have HAL : Hid (toL AL = if allow then [97, 108, 108, 111, 119] else [100, 101, 110, 121]) := Lib.hid (by rw [← hAL]; cases allow <;> rfl)
    have hal : AL.size ≤ 5 := by rw [← hAL]; cases allow <;> decide
    clear hAL hwc
    have hg := HG.out
    go_upto_block 0 with fail
    go_cut [5] (fun v wc => ∃ T : ByteArray, v = .string T ∧ toL T = (toL AL ++ [32]) ++ reasonN why rule ∧ Below w1.heap.size w1 wc)
    case first =>
      cases k0 : (why == 0) with
      | true =>
        have hq : reasonN why rule = [114, 117, 108, 101, 32] ++ decimal rule := by
          unfold reasonN; rw [if_pos k0]
        go_wp2_with fail
        refine (rdecimal_any rule w1 h0 h1).mono ?_
        rintro e w2 ⟨rfl, hb2⟩
        obtain ⟨D, hD⟩ : ∃ D, ofL (decimal rule) = D := ⟨_, rfl⟩
        have hds : D.size ≤ 22 := by rw [← hD, ofL_size]; exact decimal_lenB rule
        have HDD : Hid (toL D = decimal rule) := Lib.hid (by rw [← hD, toL_ofL])
        rw [hD]
        have HB2 := Lib.hid hb2
        have HQ := Lib.hid hq
        clear hD hb2 hq
        go_wp2_with fail
        go_meet
        refine ⟨_, rfl, ?_, HB2.out⟩
        · rw [HQ.out]; simp only [toL_cat, HDD.out]; simp [toL]
      | false =>
        cases k1 : (why == 1) with
        | true =>
          have hq : reasonN why rule = [100, 101, 102, 97, 117, 108, 116] := by
            unfold reasonN; rw [if_neg (by rw [k0]; decide), if_pos k1]
          have HQ := Lib.hid hq
          clear hq
          go_wp2_with fail
          go_meet
          refine ⟨_, rfl, ?_, Below.refl _ _⟩
          · rw [HQ.out]; simp only [toL_cat]; simp [toL]
        | false =>
          cases k2 : (why == 2) with
          | true =>
            have hq : reasonN why rule = [109, 105, 120, 101, 100] := by
              unfold reasonN; rw [if_neg (by rw [k0]; decide), if_neg (by rw [k1]; decide), if_pos k2]
            have HQ := Lib.hid hq
            clear hq
            go_wp2_with fail
            go_meet
            refine ⟨_, rfl, ?_, Below.refl _ _⟩
            · rw [HQ.out]; simp only [toL_cat]; simp [toL]
          | false =>
            cases k3 : (why == 3) with
            | true =>
              have hq : reasonN why rule = [99, 115, 112] := by
                unfold reasonN; rw [if_neg (by rw [k0]; decide), if_neg (by rw [k1]; decide), if_neg (by rw [k2]; decide), if_pos k3]
              have HQ := Lib.hid hq
              clear hq
              go_wp2_with fail
              go_meet
              refine ⟨_, rfl, ?_, Below.refl _ _⟩
              · rw [HQ.out]; simp only [toL_cat]; simp [toL]
            | false =>
              cases k4 : (why == 4) with
              | true =>
                have hq : reasonN why rule = [99, 111, 114, 115] := by
                  unfold reasonN; rw [if_neg (by rw [k0]; decide), if_neg (by rw [k1]; decide), if_neg (by rw [k2]; decide), if_neg (by rw [k3]; decide), if_pos k4]
                have HQ := Lib.hid hq
                clear hq
                go_wp2_with fail
                go_meet
                refine ⟨_, rfl, ?_, Below.refl _ _⟩
                · rw [HQ.out]; simp only [toL_cat]; simp [toL]
              | false =>
                cases k5 : (why == 5) with
                | true =>
                  have hq : reasonN why rule = [117, 114, 108] := by
                    unfold reasonN; rw [if_neg (by rw [k0]; decide), if_neg (by rw [k1]; decide), if_neg (by rw [k2]; decide), if_neg (by rw [k3]; decide), if_neg (by rw [k4]; decide), if_pos k5]
                  have HQ := Lib.hid hq
                  clear hq
                  go_wp2_with fail
                  go_meet
                  refine ⟨_, rfl, ?_, Below.refl _ _⟩
                  · rw [HQ.out]; simp only [toL_cat]; simp [toL]
                | false =>
                  have k6 : (why == 6) = true := by
                    rw [beq_eq_false_iff_ne] at k0
                    rw [beq_eq_false_iff_ne] at k1
                    rw [beq_eq_false_iff_ne] at k2
                    rw [beq_eq_false_iff_ne] at k3
                    rw [beq_eq_false_iff_ne] at k4
                    rw [beq_eq_false_iff_ne] at k5
                    rw [beq_iff_eq]; omega
                  have hq : reasonN why rule = [109, 101, 116, 104, 111, 100] := by
                    unfold reasonN; rw [if_neg (by rw [k0]; decide), if_neg (by rw [k1]; decide), if_neg (by rw [k2]; decide), if_neg (by rw [k3]; decide), if_neg (by rw [k4]; decide), if_neg (by rw [k5]; decide), if_pos k6]
                  have HQ := Lib.hid hq
                  clear hq
                  go_wp2_with fail
                  go_meet
                  refine ⟨_, rfl, ?_, Below.refl _ _⟩
                  · rw [HQ.out]; simp only [toL_cat]; simp [toL]
    case rest =>
      obtain ⟨T, rfl, hT, hbc⟩ := hcut
      have hts : T.size ≤ 60 := by
        have h1 := reasonN_len why rule
        rw [← toL_len, hT, List.length_append, List.length_append, toL_len, List.length_singleton]; omega
      have HT := Lib.hid hT
      have HBC := Lib.hid (HB1.out.trans (hbc.mono HB1.out.size))
      have hgc := (hbc.block _ hlt).trans HG.out
      have d3 := blk_cell hgc 3
      have d4 := blk_cell hgc 4
      simp only [List.getElem?_toArray, List.getElem?_cons_zero, List.getElem?_cons_succ] at d3 d4
      have hltc := blk_lt hgc
      clear hT hgc hg hbc c0 c1 c2 hlt
      obtain ⟨D, hD⟩ : ∃ D, ofL (decimal ver) = D := ⟨_, rfl⟩
      have hds : D.size ≤ 22 := by rw [← hD, ofL_size]; exact decimal_lenB ver
      have HD : Hid (toL D = decimal ver) := Lib.hid (by rw [← hD, toL_ofL])
      have HDE := Lib.hid hD
      clear hD
      have HFI : Hid (∀ Y : ByteArray, toL Y = (((((toL T) ++ (if up then [32, 117, 112, 103, 114, 97, 100, 101] else [])) ++ (if pre then [32, 112, 114, 101, 102, 108, 105, 103, 104, 116] else [])) ++ [10, 118, 101, 114, 115, 105, 111, 110, 32]) ++ decimal ver) ++ [10] → toL Y = verdictN allow why rule up pre ver) := Lib.hid fun Y hY => by
        rw [hY, HT.out, HAL.out]
        unfold verdictN
        cases allow <;> cases up <;> cases pre <;> simp
      cases up <;> cases pre
      all_goals
        go_wp2_with fail
        refine (rdecimal_any ver wc v0 v1).mono ?_
        rintro e w3 ⟨rfl, hb3⟩
        have HB3 := Lib.hid (HBC.out.trans (hb3.mono HBC.out.size))
        rw [HDE.out]
        clear hb3
        go_wp2_with fail
        go_ret
        refine hR _ _ ⟨ret_str (toL_inj ?_), HB3.out⟩
        rw [HFI.out _ (by simp only [toL_cat, HD.out]; simp [toL]), toL_ofL]

end Go.Proofs.YtilpaopkhghicaaDoor.Asc
