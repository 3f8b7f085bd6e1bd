/-
  The law parapetlaw26.HttpLimits answers true.
  The library's MaxLen is a number.
-/
import Derived.Test.YtaihjnicondifaaDoorHtMa
namespace Go.Proofs.YtaihjnicondifaaDoor.Asc
open Go Go.RowKit Go.Proofs.YtaihjnicondifaaDoor.Pb

theorem limC_len (r : Nat) : (limC r).length = 65032 + r := by
  simp only [limC, List.length_append, limL_len, letterN_len, List.length_cons, List.length_nil]; omega
set_option maxRecDepth 20000 in
set_option maxHeartbeats 8000000 in
theorem limits_walk (n what : Int) (m : Int) (w : World) (hm : MaxLen m w) :
    Calls Tryd.prog 7 #[.int .i64 n, .int .i64 what] w fun e w' => e = .returned (.bool true) ∧ Below w.heap.size w w' := by
  refine calls_gen fun R hR => ?_
  have HM := Lib.hid hm
  clear hm
  go_enter Tryd.func7, Tryd.ntmps7
  by_cases c0 : n < 0
  · skip
    go_wp2_with fail
    refine (awake_any w m HM.out).mono ?_
    rintro e w3 ⟨rfl, hb3⟩
    go_wp2_with fail
    go_ret
    exact hR _ _ ⟨rfl, hb3⟩
  by_cases c1 : n > 9000
  · skip
    go_wp2_with fail
    refine (awake_any w m HM.out).mono ?_
    rintro e w3 ⟨rfl, hb3⟩
    go_wp2_with fail
    go_ret
    exact hR _ _ ⟨rfl, hb3⟩
  obtain ⟨N, rfl⟩ := Int.eq_ofNat_of_zero_le (show 0 ≤ n by omega)
  have hN : N ≤ 9000 := by omega
  go_wp2_with fail
  refine (round_any what 3 (by decide) (by decide) w).mono ?_
  rintro e w' ⟨rfl, rfl⟩
  have hj1 := Int.emod_nonneg what (show (3 : Int) ≠ 0 by decide)
  have hj2 := Int.emod_lt_of_pos what (show (0 : Int) < 3 by decide)
  obtain ⟨j, hj⟩ := Int.eq_ofNat_of_zero_le hj1
  rw [hj] at hj2 ⊢
  clear hj hj1
  have hjj : j = 0 ∨ j = 1 ∨ j = 2 := by omega
  rcases hjj with rfl | rfl | rfl
  · go_wp2_with fail
    refine (letters26_any N 0 w (by omega) (by omega)).mono ?_
    rintro e w2 ⟨rfl, hb2⟩
    obtain ⟨L, hL⟩ : ∃ D, ofL (letterN N 0) = D := ⟨_, rfl⟩
    have hls : L.size ≤ N := by rw [← hL, ofL_size, letterN_len]; exact Nat.le_refl _
    have HL : Hid (toL L = letterN N 0) := Lib.hid (by rw [← hL, toL_ofL])
    rw [hL]
    have HB2 := Lib.hid (hb2)
    clear hb2 hL
    by_cases hok : N ≤ 8178
    · have hkk : ((14 : Int) + (N : Int) ≤ 8192) := by omega
      go_wp2_with fail
      have HX : Hid (∀ Y : ByteArray, toL Y = limA N → ((∃ x : It, (feedN {} (toL Y)).2 = [x] ∧ x.st = 0) ∧ (feedN {} (toL Y)).1.over = false) ∧ Y.size ≤ 100000) := Lib.hid fun Y hY => by
        have h := lim_a N hN
        rw [if_pos hok, show decide (¬ N ≤ 8178) = false from decide_eq_false (by omega)] at h
        refine ⟨by rw [hY]; exact h, ?_⟩
        rw [← toL_len, hY]
        simp only [limA, List.length_append, letterN_len, List.length_cons, List.length_nil]; omega
      refine (feed_one _ 1000 (by decide) (by decide) (HX.out _ (by simp only [toL_cat, HL.out]; rfl)).2 _ m (HM.out.below HB2.out) 0 false (HX.out _ (by simp only [toL_cat, HL.out]; rfl)).1).mono ?_
      rintro e w3 ⟨v, rfl, ⟨g, c, rfl, hc, hg, z0⟩, hb3⟩
      have HB3 := Lib.hid (HB2.out.trans (hb3.mono HB2.out.size))
      clear hb3
      go_wp2_with fail
      refine (awake_any _ m (HM.out.below HB3.out)).mono ?_
      rintro e w4 ⟨rfl, hb4⟩
      go_wp2_with fail
      go_ret
      exact hR _ _ ⟨rfl, HB3.out.trans (hb4.mono HB3.out.size)⟩
    · have hkk : ¬ ((14 : Int) + (N : Int) ≤ 8192) := by omega
      go_wp2_with fail
      have HX : Hid (∀ Y : ByteArray, toL Y = limA N → ((∃ x : It, (feedN {} (toL Y)).2 = [x] ∧ x.st = 431) ∧ (feedN {} (toL Y)).1.over = true) ∧ Y.size ≤ 100000) := Lib.hid fun Y hY => by
        have h := lim_a N hN
        rw [if_neg hok, show decide (¬ N ≤ 8178) = true from decide_eq_true hok] at h
        refine ⟨by rw [hY]; exact h, ?_⟩
        rw [← toL_len, hY]
        simp only [limA, List.length_append, letterN_len, List.length_cons, List.length_nil]; omega
      refine (feed_one _ 1000 (by decide) (by decide) (HX.out _ (by simp only [toL_cat, HL.out]; rfl)).2 _ m (HM.out.below HB2.out) 431 true (HX.out _ (by simp only [toL_cat, HL.out]; rfl)).1).mono ?_
      rintro e w3 ⟨v, rfl, ⟨g, c, rfl, hc, hg, z0⟩, hb3⟩
      have HB3 := Lib.hid (HB2.out.trans (hb3.mono HB2.out.size))
      clear hb3
      go_wp2_with fail
      refine (awake_any _ m (HM.out.below HB3.out)).mono ?_
      rintro e w4 ⟨rfl, hb4⟩
      go_wp2_with fail
      go_ret
      exact hR _ _ ⟨rfl, HB3.out.trans (hb4.mono HB3.out.size)⟩
  · go_wp2_with fail
    refine (letters26_any N 0 w (by omega) (by omega)).mono ?_
    rintro e w2 ⟨rfl, hb2⟩
    obtain ⟨L, hL⟩ : ∃ D, ofL (letterN N 0) = D := ⟨_, rfl⟩
    have hls : L.size ≤ N := by rw [← hL, ofL_size, letterN_len]; exact Nat.le_refl _
    have HL : Hid (toL L = letterN N 0) := Lib.hid (by rw [← hL, toL_ofL])
    rw [hL]
    have HB2 := Lib.hid (hb2)
    clear hb2 hL
    by_cases hok : N ≤ 8189
    · have hkk : ((3 : Int) + (N : Int) ≤ 8192) := by omega
      go_wp2_with fail
      have HX : Hid (∀ Y : ByteArray, toL Y = limB N → ((∃ x : It, (feedN {} (toL Y)).2 = [x] ∧ x.st = 0) ∧ (feedN {} (toL Y)).1.over = false) ∧ Y.size ≤ 100000) := Lib.hid fun Y hY => by
        have h := lim_b N hN
        rw [if_pos hok, show decide (¬ N ≤ 8189) = false from decide_eq_false (by omega)] at h
        refine ⟨by rw [hY]; exact h, ?_⟩
        rw [← toL_len, hY]
        simp only [limB, List.length_append, letterN_len, List.length_cons, List.length_nil, preG]; omega
      refine (feed_one _ 1000 (by decide) (by decide) (HX.out _ (by simp only [toL_cat, HL.out]; rfl)).2 _ m (HM.out.below HB2.out) 0 false (HX.out _ (by simp only [toL_cat, HL.out]; rfl)).1).mono ?_
      rintro e w3 ⟨v, rfl, ⟨g, c, rfl, hc, hg, z0⟩, hb3⟩
      have HB3 := Lib.hid (HB2.out.trans (hb3.mono HB2.out.size))
      clear hb3
      go_wp2_with fail
      refine (awake_any _ m (HM.out.below HB3.out)).mono ?_
      rintro e w4 ⟨rfl, hb4⟩
      go_wp2_with fail
      go_ret
      exact hR _ _ ⟨rfl, HB3.out.trans (hb4.mono HB3.out.size)⟩
    · have hkk : ¬ ((3 : Int) + (N : Int) ≤ 8192) := by omega
      go_wp2_with fail
      have HX : Hid (∀ Y : ByteArray, toL Y = limB N → ((∃ x : It, (feedN {} (toL Y)).2 = [x] ∧ x.st = 431) ∧ (feedN {} (toL Y)).1.over = true) ∧ Y.size ≤ 100000) := Lib.hid fun Y hY => by
        have h := lim_b N hN
        rw [if_neg hok, show decide (¬ N ≤ 8189) = true from decide_eq_true hok] at h
        refine ⟨by rw [hY]; exact h, ?_⟩
        rw [← toL_len, hY]
        simp only [limB, List.length_append, letterN_len, List.length_cons, List.length_nil, preG]; omega
      refine (feed_one _ 1000 (by decide) (by decide) (HX.out _ (by simp only [toL_cat, HL.out]; rfl)).2 _ m (HM.out.below HB2.out) 431 true (HX.out _ (by simp only [toL_cat, HL.out]; rfl)).1).mono ?_
      rintro e w3 ⟨v, rfl, ⟨g, c, rfl, hc, hg, z0⟩, hb3⟩
      have HB3 := Lib.hid (HB2.out.trans (hb3.mono HB2.out.size))
      clear hb3
      go_wp2_with fail
      refine (awake_any _ m (HM.out.below HB3.out)).mono ?_
      rintro e w4 ⟨rfl, hb4⟩
      go_wp2_with fail
      go_ret
      exact hR _ _ ⟨rfl, HB3.out.trans (hb4.mono HB3.out.size)⟩
  · go_wp2_with fail
    go_loopw [11] (fun s wr => ∃ k : Nat, k ≤ 65 ∧ Below w.heap.size w wr ∧ ∃ T : ByteArray, s = .string T ∧ toL T = limL k) (fun s _ => 70000 - (match s with | .string T => T.size | _ => 0))
    case atStart => exact ⟨0, Nat.zero_le _, Below.refl _ _, _, rfl, rfl⟩
    case round =>
      obtain ⟨k, hk, hb, T, rfl, hT⟩ := hrel
      have HT := Lib.hid hT; have HB := Lib.hid hb
      have hsz : T.size = 25 + 1000 * k := by rw [← toL_len, hT, limL_len]
      have HSZ := Lib.hid hsz
      clear hT hb
      by_cases hlt : k < 65
      · have hcond : (T.size : Int) + 1002 < 65534 := by omega
        have hts : T.size ≤ 70000 := by omega
        clear hsz
        go_wp2_with fail
        refine (letters26_any 995 0 wr (by omega) (by omega)).mono ?_
        rintro e w2 ⟨rfl, hb2⟩
        obtain ⟨L, hL⟩ : ∃ D, ofL (letterN 995 0) = D := ⟨_, rfl⟩
        have hls : L.size ≤ 995 := by rw [← hL, ofL_size, letterN_len]; exact Nat.le_refl _
        have HL : Hid (toL L = letterN 995 0) := Lib.hid (by rw [← hL, toL_ofL])
        rw [hL]
        have HB2 := Lib.hid (HB.out.trans (hb2.mono HB.out.size))
        clear hb2 hL
        go_wp2_with fail
        go_roundw
        case rel => exact ⟨k + 1, by omega, HB2.out, _, rfl, by simp only [toL_cat, HT.out, HL.out]; rfl⟩
        case measure =>
          have h1 := HSZ.out
          simp only [ByteArray.size_append]
          have h2 : (⟨#[88, 58, 32]⟩ : ByteArray).size = 3 := rfl
          have h3 : (⟨#[13, 10]⟩ : ByteArray).size = 2 := rfl
          rw [h2, h3]; omega
      · obtain rfl : k = 65 := by omega
        have hcond : ¬ ((T.size : Int) + 1002 < 65534) := by omega
        have hts : T.size ≤ 70000 := by omega
        clear hsz
        obtain ⟨r, hr⟩ : ∃ r : Nat, N % 2000 = r := ⟨_, rfl⟩
        have hr2 : r < 2000 := by omega
        have hrem : (N : Int).tmod 2000 = (r : Int) := by rw [Int.tmod_eq_emod_of_nonneg (by omega)]; omega
        clear hr
        go_wp2_with fail
        refine (letters26_any r 0 wr (by omega) (by omega)).mono ?_
        rintro e w2 ⟨rfl, hb2⟩
        obtain ⟨L, hL⟩ : ∃ D, ofL (letterN r 0) = D := ⟨_, rfl⟩
        have hls : L.size ≤ r := by rw [← hL, ofL_size, letterN_len]; exact Nat.le_refl _
        have HL : Hid (toL L = letterN r 0) := Lib.hid (by rw [← hL, toL_ofL])
        rw [hL]
        have HB2 := Lib.hid (HB.out.trans (hb2.mono HB.out.size))
        clear hb2 hL
        go_upto_region 16 with fail
        obtain ⟨S, hS⟩ : ∃ S, T ++ ⟨#[88, 58, 32]⟩ ++ L ++ ⟨#[13, 10, 13, 10]⟩ = S := ⟨_, rfl⟩
        have hSl : toL S = limC r := by rw [← hS]; simp only [toL_cat, HT.out, HL.out]; rfl
        have hSs : S.size = 65032 + r := by rw [← toL_len, hSl, limC_len]
        have HS := Lib.hid hSl
        rw [hS]
        clear hS hSl
        have hs100 : S.size ≤ 100000 := by omega
        by_cases hok : r ≤ 504
        · have hkk : ((S.size : Int) ≤ 65536) := by omega
          clear hSs
          have HX : Hid ((∃ x : It, (feedN {} (toL S)).2 = [x] ∧ x.st = 0) ∧ (feedN {} (toL S)).1.over = false) := Lib.hid (by
            have h := lim_c r hr2
            rw [if_pos hok, show decide (¬ r ≤ 504) = false from decide_eq_false (by omega)] at h
            rw [HS.out]; exact h)
          go_wp2_with fail
          refine (feed_one S 5000 (by decide) (by decide) hs100 _ m (HM.out.below HB2.out) 0 false HX.out).mono ?_
          rintro e w3 ⟨v, rfl, ⟨g, c, rfl, hc, hg, z0⟩, hb3⟩
          have HB3 := Lib.hid (HB2.out.trans (hb3.mono HB2.out.size))
          clear hb3
          go_wp2_with fail
          refine (awake_any _ m (HM.out.below HB3.out)).mono ?_
          rintro e w4 ⟨rfl, hb4⟩
          go_wp2_with fail
          go_ret
          exact hR _ _ ⟨rfl, HB3.out.trans (hb4.mono HB3.out.size)⟩
        · have hkk : ¬ ((S.size : Int) ≤ 65536) := by omega
          clear hSs
          have HX : Hid ((∃ x : It, (feedN {} (toL S)).2 = [x] ∧ x.st = 431) ∧ (feedN {} (toL S)).1.over = true) := Lib.hid (by
            have h := lim_c r hr2
            rw [if_neg hok, show decide (¬ r ≤ 504) = true from decide_eq_true hok] at h
            rw [HS.out]; exact h)
          go_wp2_with fail
          refine (feed_one S 5000 (by decide) (by decide) hs100 _ m (HM.out.below HB2.out) 431 true HX.out).mono ?_
          rintro e w3 ⟨v, rfl, ⟨g, c, rfl, hc, hg, z0⟩, hb3⟩
          have HB3 := Lib.hid (HB2.out.trans (hb3.mono HB2.out.size))
          clear hb3
          go_wp2_with fail
          refine (awake_any _ m (HM.out.below HB3.out)).mono ?_
          rintro e w4 ⟨rfl, hb4⟩
          go_wp2_with fail
          go_ret
          exact hR _ _ ⟨rfl, HB3.out.trans (hb4.mono HB3.out.size)⟩
theorem limits_row {w : World} (n : Int) (_ : -9223372036854775808 ≤ n) (_ : n ≤ 9223372036854775807) (what : Int) (_ : -9223372036854775808 ≤ what) (_ : what ≤ 9223372036854775807) (m : Int) (hm : MaxLen m w) :
    Calls Tryd.prog 7 #[.int .i64 n, .int .i64 what] w fun e w' => e = .returned (.bool true) ∧ Below w.heap.size w w' := limits_walk n what m w hm
end Go.Proofs.YtaihjnicondifaaDoor.Asc
