/-
  The outright laws of parapetlaw1, AsciiBytes and AsciiTrims: each answers true.
  The library's MaxLen is a number; arguments within the rows' own reach.
-/
import Derived.Test.YtmidfabneioiiaaDoorAscP2
namespace Go.Proofs.YtmidfabneioiiaaDoor.Asc
open Go Go.RowKit Go.Proofs.YtmidfabneioiiaaDoor.Pb

set_option maxHeartbeats 1000000 in
/-- parapetlaw1.AsciiBytes -/
theorem bytes_walk (s : ByteArray) (m : Int) (w : World) (hm : MaxLen m w) (hs : s.size ≤ 140737488351232) :
    Calls Tryd.prog 5 #[.string s] w fun e w' => e = .returned (.bool true) ∧ Below w.heap.size w w' := by
  refine calls_gen fun R hR => ?_
  have HM := Lib.hid hm; clear hm
  go_enter Tryd.func5, Tryd.ntmps5
  by_cases hbig : 3000 < s.size
  · go_wp2_with fail
    refine (awake_any m w HM.out).mono ?_
    rintro e w1 ⟨rfl, hb1⟩
    go_wp2_with fail
    go_ret
    exact hR _ _ ⟨rfl, hb1⟩
  · have hs1 : s.size ≤ 1000000 := by omega
    go_wp2_with fail
    go_loop [3, 4] (fun b i => ∃ k : Nat, k ≤ s.size ∧ i = .int .i64 k ∧ ∃ q : Bool, b = .bool q ∧ Hid (q = (!(toL s).isEmpty && ((toL s).take k).all isTok))) (fun _ i => s.size - (intOf i).toNat)
    case atStart => exact ⟨0, Nat.zero_le _, rfl, _, rfl, by simp [Hid, toList_toL]⟩
    case round =>
      obtain ⟨k, hk, rfl, q, rfl, hq⟩ := hrel
      by_cases hlt : k < s.size
      · have hne : Hid ((toL s).isEmpty = false) := Lib.hid (by
          cases h : toL s with
          | nil => have := toL_len s; rw [h] at this; simp at this; omega
          | cons => rfl)
        have hsn := Lib.hid (take_snoc s k hlt)
        cases q
        · go_wp2_with fail
          go_round
          case rel => exact ⟨k + 1, by omega, by go_num, _, rfl, Lib.hid (by rw [hsn.out, List.all_append]; have := hq.out; rw [hne.out, Bool.not_false, Bool.true_and] at this ⊢; rw [← this]; rfl)⟩
          case measure => simp [intOf]; omega
        · have h1 : (k : Int) + 1 ≤ s.size := by omega
          have h2 : (k : Int) ≤ (k : Int) + 1 := by omega
          have ht1 := Lib.hid (token_one s k hlt)
          have hsz : (s.extract k (k + 1)).size ≤ 1000000 := by rw [ByteArray.size_extract]; omega
          have HZ := Lib.hid hsz; clear hsz
          go_wp2_with fail
          refine (token_any _ _ HZ.out).mono ?_
          rintro e w' ⟨rfl, rfl⟩
          go_wp2_with fail
          go_round
          case rel => exact ⟨k + 1, by omega, by go_num, _, rfl, Lib.hid (by rw [hsn.out, List.all_append, ht1.out]; have := hq.out; rw [hne.out, Bool.not_false, Bool.true_and] at this ⊢; rw [← this]; simp)⟩
          case measure => simp [intOf]; omega
      · obtain rfl : k = s.size := by omega
        have hq2 : Hid (q = token (toL s)) := Lib.hid (by rw [hq.out, take_all]; rfl)
        clear hq
        go_wp2_with fail
        refine (token_any s _ hs1).mono ?_
        rintro e w' ⟨rfl, rfl⟩
        rw [← hq2.out]
        go_wp2_with fail
        refine (awake_any m _ HM.out).mono ?_
        rintro e w1 ⟨rfl, hb1⟩
        go_wp2_with fail
        go_ret
        exact hR _ _ ⟨rfl, hb1⟩

theorem toL_app (a b : ByteArray) : toL (a ++ b) = toL a ++ toL b := by
  unfold toL; rw [ByteArray.data_append, Array.toList_append]
theorem size_app (a b : ByteArray) : (a ++ b).size = a.size + b.size := by
  rw [← toL_len, toL_app, List.length_append, toL_len, toL_len]
theorem size_one (c : UInt8) : (⟨#[c]⟩ : ByteArray).size = 1 := rfl
theorem rep_all (n : Nat) (c : UInt8) (h : isTB c = true) : (List.replicate n c).all isTB = true := by
  rw [List.all_eq_true]; intro x hx; rw [(List.mem_replicate.1 hx).2]; exact h
theorem trims_get (t : List UInt8) (k : Nat) (x : UInt8) (h : t[k]? = some x) : ∃ hk : k < (ofL t).size, (ofL t)[k] = x := by
  obtain ⟨h1, h2⟩ := List.getElem?_eq_some_iff.1 h
  have hk : k < (ofL t).size := by rw [ofL_size]; exact h1
  refine ⟨hk, ?_⟩
  rw [← toL_get (ofL t) k hk]
  have : ∀ (l : List UInt8) (hl : k < l.length), l = t → l[k] = x := by rintro l hl rfl; exact h2
  exact this _ _ (toL_ofL t)

set_option maxHeartbeats 1000000 in
/-- parapetlaw1.AsciiTrims -/
theorem trims_walk (s : ByteArray) (n k : Int) (m : Int) (w : World) (hm : MaxLen m w) (hs : s.size ≤ 140737488351232) :
    Calls Tryd.prog 10 #[.string s, .int .i64 n, .int .i64 k] w fun e w' => e = .returned (.bool true) ∧ Below w.heap.size w w' := by
  refine calls_gen fun R hR => ?_
  have HM := Lib.hid hm; clear hm
  go_enter Tryd.func10, Tryd.ntmps10
  refine Or.elim (Classical.em (3000 < s.size)) (fun c1 => ?_) (fun c1 => ?_)
  · go_wp2_with fail
    refine (awake_any m w HM.out).mono ?_
    rintro e w1 ⟨rfl, hb1⟩
    go_wp2_with fail
    go_ret
    exact hR _ _ ⟨rfl, hb1⟩
  refine Or.elim (Classical.em (n < 0)) (fun c2 => ?_) (fun c2 => ?_)
  · go_wp2_with fail
    refine (awake_any m w HM.out).mono ?_
    rintro e w1 ⟨rfl, hb1⟩
    go_wp2_with fail
    go_ret
    exact hR _ _ ⟨rfl, hb1⟩
  refine Or.elim (Classical.em (50 < n)) (fun c3 => ?_) (fun c3 => ?_)
  · go_wp2_with fail
    refine (awake_any m w HM.out).mono ?_
    rintro e w1 ⟨rfl, hb1⟩
    go_wp2_with fail
    go_ret
    exact hR _ _ ⟨rfl, hb1⟩
  refine Or.elim (Classical.em (k < 0)) (fun c4 => ?_) (fun c4 => ?_)
  · go_wp2_with fail
    refine (awake_any m w HM.out).mono ?_
    rintro e w1 ⟨rfl, hb1⟩
    go_wp2_with fail
    go_ret
    exact hR _ _ ⟨rfl, hb1⟩
  refine Or.elim (Classical.em (50 < k)) (fun c5 => ?_) (fun c5 => ?_)
  · go_wp2_with fail
    refine (awake_any m w HM.out).mono ?_
    rintro e w1 ⟨rfl, hb1⟩
    go_wp2_with fail
    go_ret
    exact hR _ _ ⟨rfl, hb1⟩
  have hs1 : s.size ≤ 1000000 := by omega
  obtain ⟨n, rfl⟩ := Int.eq_ofNat_of_zero_le (Int.not_lt.1 c2)
  obtain ⟨k, rfl⟩ := Int.eq_ofNat_of_zero_le (Int.not_lt.1 c4)
  go_wp2_with fail
  refine (trim_any s w hs1).mono ?_
  rintro e w1 ⟨rfl, hb1⟩
  obtain ⟨t, ht⟩ : ∃ t, trim (toL s) = t := ⟨_, rfl⟩
  have HB1 := Lib.hid hb1; clear hb1
  have HT := Lib.hid ht
  rw [ht]; clear ht
  go_wp2_with fail
  go_loop [8, 9] (fun x i => ∃ q : Nat, q ≤ n ∧ i = .int .i64 q ∧ ∃ X : ByteArray, x = .string X ∧ X.size = q ∧ Hid (toL X = List.replicate q 32)) (fun _ i => n - (intOf i).toNat)
  case atStart => exact ⟨0, Nat.zero_le _, rfl, _, rfl, rfl, rfl⟩
  case round =>
    obtain ⟨q, hq, rfl, X, rfl, hXs, hX⟩ := hrel
    by_cases hlt : q < n
    · go_wp2_with fail
      go_round
      case rel => exact ⟨q + 1, by omega, by go_num, _, rfl, by rw [size_app, size_one, hXs], Lib.hid (by rw [toL_app, hX.out, List.replicate_succ']; rfl)⟩
      case measure => simp [intOf]; omega
    · obtain rfl : q = n := by omega
      go_wp2_with fail
      go_loop [10, 11] (fun x i => ∃ q : Nat, q ≤ k ∧ i = .int .i64 q ∧ ∃ X : ByteArray, x = .string X ∧ X.size = q ∧ Hid (toL X = List.replicate q 9)) (fun _ i => k - (intOf i).toNat)
      case atStart => exact ⟨0, Nat.zero_le _, rfl, _, rfl, rfl, rfl⟩
      case round =>
        obtain ⟨q2, hq2, rfl, Y, rfl, hYs, hY⟩ := hrel
        by_cases hlt : q2 < k
        · go_wp2_with fail
          go_round
          case rel => exact ⟨q2 + 1, by omega, by go_num, _, rfl, by rw [size_app, size_one, hYs], Lib.hid (by rw [toL_app, hY.out, List.replicate_succ']; rfl)⟩
          case measure => simp [intOf]; omega
        · obtain rfl : q2 = k := by omega
          have hbig : X.size + s.size + Y.size ≤ 1000000 := by omega
          have hz : trim (toL (X ++ s ++ Y)) = t := by
            rw [toL_app, toL_app, hX.out, hY.out, trim_more _ _ _ (rep_all _ _ rfl) (rep_all _ _ rfl), HT.out]
          have HZ := Lib.hid hz
          have hsz := size_app (X ++ s) Y
          have hsz2 := size_app X s
          have HS3 : Hid ((X ++ s ++ Y).size ≤ 1000000) := Lib.hid (by omega)
          have hz4 : (X ++ s).size + Y.size ≤ 1000000 := by omega
          have hz2 : trim t = t := by rw [← HT.out, trim_idem]
          have HZ2 := Lib.hid hz2
          have htl : t.length ≤ 1000000 := by
            have : (trim (toL s)).length ≤ (toL s).length := by
              unfold trim trimL trimR
              refine Nat.le_trans (List.dropWhile_sublist _).length_le ?_
              rw [List.length_reverse]
              refine Nat.le_trans (List.dropWhile_sublist _).length_le ?_
              rw [List.length_reverse]; exact Nat.le_refl _
            rw [HT.out, toL_len] at this; omega
          obtain ⟨T, hT⟩ : ∃ T, ofL t = T := ⟨_, rfl⟩
          have HTT := Lib.hid hT
          have hTs : Hid (T.size ≤ 1000000) := Lib.hid (by rw [← hT, ofL_size]; exact htl)
          rw [hT]
          have HZ5 : Hid (ofL (trim (toL T)) = T) := Lib.hid (by rw [← hT, toL_ofL, HZ2.out])
          clear hz hsz hsz2 hz2 htl
          by_cases hne : t = []
          · have he : T.toList.isEmpty = true := by rw [← hT, hne, toList_ofL]; rfl
            clear hT
            go_wp2_with fail
            refine (trim_any _ _ HS3.out).mono ?_
            rintro e w2 ⟨rfl, hb2⟩
            have HB2 := Lib.hid (below2 HB1.out hb2); clear hb2
            rw [HZ.out, HTT.out]
            go_wp2_with fail
            refine (trim_any _ _ hTs.out).mono ?_
            rintro e w3 ⟨rfl, hb3⟩
            have HB3 := Lib.hid (below2 HB2.out hb3); clear hb3
            rw [HZ5.out]
            go_wp2_with fail
            refine (awake_any m _ (HM.out.below HB3.out)).mono ?_
            rintro e w4 ⟨rfl, hb4⟩
            go_wp2_with fail
            go_ret
            exact hR _ _ ⟨rfl, below2 HB3.out hb4⟩
          · have htne : trim (toL s) ≠ [] := by rw [HT.out]; exact hne
            obtain ⟨x, y, hx, hy, hxb, hyb⟩ := trim_ends (toL s) htne
            rw [HT.out] at hx hy
            have he : T.toList.isEmpty = false := by
              rw [← hT, toList_ofL]
              cases h : t with
              | nil => exact absurd h hne
              | cons => rfl
            have hlen : T.size = t.length := by rw [← hT, ofL_size]
            obtain ⟨hx1, hx2⟩ := trims_get t 0 x hx
            obtain ⟨hy1, hy2⟩ := trims_get t (t.length - 1) y hy
            rw [← hlen] at hy1
            have hT0 : 0 < T.size := by rw [← hT]; exact hx1
            have hT1 : T.size - 1 < T.size := by omega
            have e1 : T[0] = x := by subst hT; exact hx2
            have e2 : T[T.size - 1] = y := by subst hT; simp only [hlen]; exact hy2
            rw [← e1] at hxb
            rw [← e2] at hyb
            rcases isTB_ways T[0] with ⟨hc, _⟩ | ⟨hc, _, _⟩ | ⟨_, g1, g2⟩
            · rw [hxb] at hc; cases hc
            · rw [hxb] at hc; cases hc
            rcases isTB_ways T[T.size - 1] with ⟨hc, _⟩ | ⟨hc, _, _⟩ | ⟨_, g3, g4⟩
            · rw [hyb] at hc; cases hc
            · rw [hyb] at hc; cases hc
            have hi1 : (1 : Int) ≤ T.size := by omega
            have hTs2 : T.size ≤ 1000000 := hTs.out
            clear hT htne hx hy hxb hyb hlen hx1 hx2 hy1 hy2 e1 e2
            go_wp2_with fail
            refine (trim_any _ _ HS3.out).mono ?_
            rintro e w2 ⟨rfl, hb2⟩
            have HB2 := Lib.hid (below2 HB1.out hb2); clear hb2
            rw [HZ.out, HTT.out]
            go_wp2_with fail
            refine (trim_any _ _ hTs.out).mono ?_
            rintro e w3 ⟨rfl, hb3⟩
            have HB3 := Lib.hid (below2 HB2.out hb3); clear hb3
            rw [HZ5.out]
            go_wp2_with fail
            refine (awake_any m _ (HM.out.below HB3.out)).mono ?_
            rintro e w4 ⟨rfl, hb4⟩
            go_wp2_with fail
            go_ret
            exact hR _ _ ⟨rfl, below2 HB3.out hb4⟩
end Go.Proofs.YtmidfabneioiiaaDoor.Asc
