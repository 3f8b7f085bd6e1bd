/-
  Contracts: the reference's Valid and Simple.
  Lengths within the rows' own reach.
-/
import Derived.Test.YtalbadmefpdldaaDoorHdrD
namespace Go.Proofs.YtalbadmefpdldaaDoor.Asc
open Go Go.RowKit Go.Proofs.YtalbadmefpdldaaDoor.Pb

set_option maxHeartbeats 4000000 in
theorem rsimple_any (N V : ByteArray) (w : World) (hn : N.size ≤ 1000000) (hv : V.size ≤ 1000000) :
    Calls Tryd.prog 53 #[.agg #[.string N, .string V]] w fun e w' => e = .returned (.bool (simple (toL N) (toL V))) ∧ Below w.heap.size w w' := by
  refine calls_gen fun R hR => ?_
  have HS : Hid (simple (toL N) (toL V) = (decide ((toL V).length ≤ 128) && (if lower (toL N) == wAccept then (toL V).all isSafe else if lower (toL N) == wAccLang || lower (toL N) == wConLang then (toL V).all isLang else if lower (toL N) == wConType then (toL V).all isSafe && decide ((essence (toL V)).1 ∈ forms) else false))) := rfl
  rw [toL_len] at HS
  obtain ⟨S, hS⟩ : ∃ S, simple (toL N) (toL V) = S := ⟨_, rfl⟩
  rw [hS] at HS hR
  clear hS
  go_enter Tryd.func53, Tryd.ntmps53
  by_cases h128 : 128 < V.size
  · have HS2 : Hid (S = false) := Lib.hid (by rw [HS.out, decide_eq_false (by omega)]; rfl)
    clear HS
    go_wp2_with fail
    go_ret
    exact hR _ _ ⟨ret_bool HS2.out.symm, below_new _ _⟩
  have HS2 := HS
  rw [decide_eq_true (show V.size ≤ 128 by omega), Bool.true_and] at HS2
  clear HS
  go_wp2_with fail
  refine (rlower_any N _ hn).mono ?_
  rintro e w2 ⟨rfl, hb2⟩
  obtain ⟨L, hL⟩ : ∃ L, ofL (lower (toL N)) = L := ⟨_, rfl⟩
  have hLl : L.toList = lower (toL N) := by rw [← hL, toList_ofL]
  have HL := Lib.hid hLl
  rw [hL]
  have g1 := (hb2.block w.heap.size (by simp)).trans (blk_new w (.cells #[.string N, .string V] 34))
  have c0 := blk_cell g1 0
  have c1 := blk_cell g1 1
  simp at c0 c1
  have hsl := blk_lt g1
  have HB2 := Lib.hid ((below_new w (.cells #[.string N, .string V] 34)).trans (hb2.mono (by simp)))
  obtain ⟨sb, hsb⟩ : ∃ sb, w.heap.size = sb := ⟨_, rfl⟩
  rw [hsb] at c0 c1 hsl ⊢
  have HSB := Lib.hid hsb
  clear hL hLl hb2 g1 hsb
  cases h1 : (lower (toL N) == wAccept) with
  | true =>
    have e1 : (L.toList == [97, 99, 99, 101, 112, 116]) = true := beq_at h1 L HL.out
    rw [h1, if_pos rfl] at HS2
    have HS3 := HS2
    clear h1 HS2
    go_wp2_with fail
    refine (runsafe_any V w2 hv).mono ?_
    rintro e w' ⟨rfl, rfl⟩
    go_wp2_with fail
    go_ret
    exact hR _ _ ⟨ret_bool HS3.out.symm, HB2.out⟩
  | false =>
    have e1 : (L.toList == [97, 99, 99, 101, 112, 116]) = false := beq_at h1 L HL.out
    rw [h1, if_neg (by simp)] at HS2
    have HS3 := HS2
    clear h1 HS2
    cases h2 : (lower (toL N) == wAccLang || lower (toL N) == wConLang) with
    | true =>
      rw [h2, if_pos rfl] at HS3
      have HS4 := HS3
      clear HS3
      rw [Bool.or_eq_true] at h2
      rcases h2 with h2 | h2
      · have e2 : (L.toList == [97, 99, 99, 101, 112, 116, 45, 108, 97, 110, 103, 117, 97, 103, 101]) = true := beq_at h2 L HL.out
        clear h2
        go_wp2_with fail
        go_loop [2, 3, 4] (fun _ i _ => ∃ k : Nat, k ≤ V.size ∧ i = .int .i64 k ∧ Hid (((toL V).take k).all isLang = true)) (fun _ i _ => V.size - (intOf i).toNat)
        case atStart => exact ⟨0, Nat.zero_le _, rfl, by simp [Hid]⟩
        case round =>
          obtain ⟨k, hk, rfl, hall⟩ := hrel
          by_cases hlt : k < V.size
          · have hsf : isLang V[k] = (isLet V[k] || isDig V[k] || hasB langs V[k]) := rfl
            have h1 := letter_any V[k] w2
            have h2 := digit_any V[k] w2
            have h3 := has_any ⟨#[32, 42, 44, 45, 46, 59, 61]⟩ V[k] w2 (by decide)
            rw [show hasB (toL ⟨#[32, 42, 44, 45, 46, 59, 61]⟩) V[k] = hasB langs V[k] from rfl] at h3
            obtain ⟨a1, ha1⟩ : ∃ U, isLet V[k] = U := ⟨_, rfl⟩
            obtain ⟨a2, ha2⟩ : ∃ U, isDig V[k] = U := ⟨_, rfl⟩
            obtain ⟨a3, ha3⟩ : ∃ U, hasB langs V[k] = U := ⟨_, rfl⟩
            rw [ha1] at h1 hsf
            rw [ha2] at h2 hsf
            rw [ha3] at h3 hsf
            have H1 := Lib.hid h1; have H2 := Lib.hid h2; have H3 := Lib.hid h3; have HSF := Lib.hid hsf
            clear h1 h2 h3 hsf ha1 ha2 ha3
            cases a1 <;> cases a2 <;> cases a3
            all_goals
              go_wp2_with (first
                | (go_at_call 58; refine H1.out.mono ?_; rintro e w' ⟨rfl, rfl⟩)
                | (go_at_call 59; refine H2.out.mono ?_; rintro e w' ⟨rfl, rfl⟩)
                | (go_at_call 60; refine H3.out.mono ?_; rintro e w' ⟨rfl, rfl⟩))
              first
                | (go_ret
                   refine hR _ _ ⟨ret_bool ?_, HB2.out⟩
                   rw [HS4.out]
                   symm
                   rw [Bool.eq_false_iff]
                   intro h5
                   have h6 := all_get V k hlt h5
                   rw [HSF.out] at h6; cases h6)
                | (go_round
                   case rel => exact ⟨k + 1, by omega, by go_num, Lib.hid (by rw [take_snoc V k hlt, List.all_append, hall.out]; simp [HSF.out])⟩
                   case measure => simp [intOf]; omega)
          · obtain rfl : k = V.size := by omega
            go_wp2_with fail
            go_ret
            refine hR _ _ ⟨ret_bool ?_, HB2.out⟩
            have h7 := hall.out
            rw [take_all] at h7
            rw [HS4.out, h7]
      · have e2 : (L.toList == [99, 111, 110, 116, 101, 110, 116, 45, 108, 97, 110, 103, 117, 97, 103, 101]) = true := beq_at h2 L HL.out
        have e3 : (L.toList == [97, 99, 99, 101, 112, 116, 45, 108, 97, 110, 103, 117, 97, 103, 101]) = false := by
          rw [beq_iff_eq] at e2; rw [e2]; decide
        clear h2
        go_wp2_with fail
        go_loop [2, 3, 4] (fun _ i _ => ∃ k : Nat, k ≤ V.size ∧ i = .int .i64 k ∧ Hid (((toL V).take k).all isLang = true)) (fun _ i _ => V.size - (intOf i).toNat)
        case atStart => exact ⟨0, Nat.zero_le _, rfl, by simp [Hid]⟩
        case round =>
          obtain ⟨k, hk, rfl, hall⟩ := hrel
          by_cases hlt : k < V.size
          · have hsf : isLang V[k] = (isLet V[k] || isDig V[k] || hasB langs V[k]) := rfl
            have h1 := letter_any V[k] w2
            have h2 := digit_any V[k] w2
            have h3 := has_any ⟨#[32, 42, 44, 45, 46, 59, 61]⟩ V[k] w2 (by decide)
            rw [show hasB (toL ⟨#[32, 42, 44, 45, 46, 59, 61]⟩) V[k] = hasB langs V[k] from rfl] at h3
            obtain ⟨a1, ha1⟩ : ∃ U, isLet V[k] = U := ⟨_, rfl⟩
            obtain ⟨a2, ha2⟩ : ∃ U, isDig V[k] = U := ⟨_, rfl⟩
            obtain ⟨a3, ha3⟩ : ∃ U, hasB langs V[k] = U := ⟨_, rfl⟩
            rw [ha1] at h1 hsf
            rw [ha2] at h2 hsf
            rw [ha3] at h3 hsf
            have H1 := Lib.hid h1; have H2 := Lib.hid h2; have H3 := Lib.hid h3; have HSF := Lib.hid hsf
            clear h1 h2 h3 hsf ha1 ha2 ha3
            cases a1 <;> cases a2 <;> cases a3
            all_goals
              go_wp2_with (first
                | (go_at_call 58; refine H1.out.mono ?_; rintro e w' ⟨rfl, rfl⟩)
                | (go_at_call 59; refine H2.out.mono ?_; rintro e w' ⟨rfl, rfl⟩)
                | (go_at_call 60; refine H3.out.mono ?_; rintro e w' ⟨rfl, rfl⟩))
              first
                | (go_ret
                   refine hR _ _ ⟨ret_bool ?_, HB2.out⟩
                   rw [HS4.out]
                   symm
                   rw [Bool.eq_false_iff]
                   intro h5
                   have h6 := all_get V k hlt h5
                   rw [HSF.out] at h6; cases h6)
                | (go_round
                   case rel => exact ⟨k + 1, by omega, by go_num, Lib.hid (by rw [take_snoc V k hlt, List.all_append, hall.out]; simp [HSF.out])⟩
                   case measure => simp [intOf]; omega)
          · obtain rfl : k = V.size := by omega
            go_wp2_with fail
            go_ret
            refine hR _ _ ⟨ret_bool ?_, HB2.out⟩
            have h7 := hall.out
            rw [take_all] at h7
            rw [HS4.out, h7]
    | false =>
      rw [h2, if_neg (by simp)] at HS3
      have HS4 := HS3
      clear HS3
      rw [Bool.or_eq_false_iff] at h2
      have e2 : (L.toList == [97, 99, 99, 101, 112, 116, 45, 108, 97, 110, 103, 117, 97, 103, 101]) = false := beq_at h2.1 L HL.out
      have e3 : (L.toList == [99, 111, 110, 116, 101, 110, 116, 45, 108, 97, 110, 103, 117, 97, 103, 101]) = false := beq_at h2.2 L HL.out
      clear h2
      cases h3 : (lower (toL N) == wConType) with
      | false =>
        have e4 : (L.toList == [99, 111, 110, 116, 101, 110, 116, 45, 116, 121, 112, 101]) = false := beq_at h3 L HL.out
        rw [h3, if_neg (by simp)] at HS4
        have HS5 := HS4
        clear h3 HS4
        go_wp2_with fail
        go_ret
        exact hR _ _ ⟨ret_bool HS5.out.symm, HB2.out⟩
      | true =>
        have e4 : (L.toList == [99, 111, 110, 116, 101, 110, 116, 45, 116, 121, 112, 101]) = true := beq_at h3 L HL.out
        rw [h3, if_pos rfl] at HS4
        have HS5 := HS4
        clear h3 HS4
        go_wp2_with fail
        refine (ressence_any V w2 hv).mono ?_
        rintro e w3 ⟨rfl, hb3⟩
        obtain ⟨E, hE⟩ : ∃ E, (essence (toL V)).1 = E := ⟨_, rfl⟩
        obtain ⟨B, hB⟩ : ∃ B, (essence (toL V)).2 = B := ⟨_, rfl⟩
        rw [hE] at HS5
        rw [hE, hB]
        have d0 := (hb3.cell (p := ⟨sb, 0, none⟩) hsl).trans c0
        have d1 := (hb3.cell (p := ⟨sb, 1, none⟩) hsl).trans c1
        have hs3 := hb3.size
        have hsl3 : sb < w3.heap.size := by omega
        have HB3 := Lib.hid (HB2.out.trans (hb3.mono HB2.out.size))
        obtain ⟨X, hX⟩ : ∃ X, ofL E = X := ⟨_, rfl⟩
        have HX : Hid (X.toList = E) := Lib.hid (by rw [← hX, toList_ofL])
        rw [hX]
        have HFM : Hid (decide (E ∈ forms) = ((X.toList == [97, 112, 112, 108, 105, 99, 97, 116, 105, 111, 110, 47, 120, 45, 119, 119, 119, 45, 102, 111, 114, 109, 45, 117, 114, 108, 101, 110, 99, 111, 100, 101, 100]) || (X.toList == [109, 117, 108, 116, 105, 112, 97, 114, 116, 47, 102, 111, 114, 109, 45, 100, 97, 116, 97]) || (X.toList == [116, 101, 120, 116, 47, 112, 108, 97, 105, 110]))) := Lib.hid (by
          rw [HX.out, Bool.eq_iff_iff]; simp [forms, or_assoc])
        clear hb3 hE hB hX c0 c1
        go_wp2_with fail
        refine (runsafe_any V w3 hv).mono ?_
        rintro e w' ⟨rfl, rfl⟩
        cases ht : (toL V).all isSafe with
        | false =>
          rw [ht, Bool.false_and] at HS5
          have HS6 := HS5
          clear HS5 ht
          go_wp2_with fail
          go_ret
          exact hR _ _ ⟨ret_bool (by rw [HS6.out]), HB3.out⟩
        | true =>
          rw [ht, Bool.true_and, HFM.out] at HS5
          have HS6 := HS5
          clear HS5 ht
          cases k1 : (X.toList == [97, 112, 112, 108, 105, 99, 97, 116, 105, 111, 110, 47, 120, 45, 119, 119, 119, 45, 102, 111, 114, 109, 45, 117, 114, 108, 101, 110, 99, 111, 100, 101, 100]) <;> cases k2 : (X.toList == [109, 117, 108, 116, 105, 112, 97, 114, 116, 47, 102, 111, 114, 109, 45, 100, 97, 116, 97]) <;> cases k3 : (X.toList == [116, 101, 120, 116, 47, 112, 108, 97, 105, 110])
          all_goals
            rw [k1, k2, k3] at HS6
            go_wp2_with fail
            go_ret
            exact hR _ _ ⟨ret_bool (by rw [HS6.out]; rfl), HB3.out⟩
end Go.Proofs.YtalbadmefpdldaaDoor.Asc
