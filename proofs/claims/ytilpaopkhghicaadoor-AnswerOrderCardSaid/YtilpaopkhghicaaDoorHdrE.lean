/-
  Contracts: the reference's Valid and Simple.
  Lengths within the rows' own reach.
-/
import Derived.Test.YtilpaopkhghicaaDoorHdrD
namespace Go.Proofs.YtilpaopkhghicaaDoor.Asc
open Go Go.RowKit Go.Proofs.YtilpaopkhghicaaDoor.Pb

set_option maxHeartbeats 2000000 in
theorem rvalid_any (N V : ByteArray) (w : World) (hn : N.size ≤ 1000000) (hv : V.size ≤ 1000000) :
    Calls Tryd.prog 46 #[.agg #[.string N, .string V]] w fun e w' => e = .returned (.bool (valid (toL N) (toL V))) ∧ Below w.heap.size w w' := by
  refine calls_gen fun R hR => ?_
  have HS : Hid (valid (toL N) (toL V) = (token (toL N) && (toL V).all (fun c => !isCtl c) && (trim (toL V) == toL V))) := rfl
  obtain ⟨S, hS⟩ : ∃ S, valid (toL N) (toL V) = S := ⟨_, rfl⟩
  rw [hS] at HS hR
  clear hS
  go_enter Tryd.func46, Tryd.ntmps46
  go_wp2_with fail
  obtain ⟨wv, hwv⟩ : ∃ wv, w.alloc (.cells #[.string N, .string V] 42) = wv := ⟨_, rfl⟩
  have g1 := blk_new w (.cells #[.string N, .string V] 42)
  have hb := below_new w (.cells #[.string N, .string V] 42)
  rw [hwv] at g1 hb ⊢
  have c0 := blk_cell g1 0
  have c1 := blk_cell g1 1
  simp at c0 c1
  have hl := blk_lt g1
  have HB := Lib.hid hb
  clear hwv g1 hb
  obtain ⟨sb, hsb⟩ : ∃ sb, w.heap.size = sb := ⟨_, rfl⟩
  rw [hsb] at c0 c1 hl ⊢
  have HSB := Lib.hid hsb
  clear hsb
  go_loop [2, 3] (fun _ i => ∃ k : Nat, k ≤ V.size ∧ i = .int .i64 k ∧ Hid (((toL V).take k).all (fun c => !isCtl c) = true)) (fun _ i => V.size - (intOf i).toNat)
  case atStart => exact ⟨0, Nat.zero_le _, rfl, by simp [Hid]⟩
  case round =>
    obtain ⟨k, hk, rfl, hall⟩ := hrel
    by_cases hlt : k < V.size
    · go_upto_region 4 with fail
      go_cut [29] (fun v wc => v = .bool (isCtl V[k]) ∧ wc = wv)
      case first =>
        have hct := isCtl_int V[k]
        obtain ⟨n, hn⟩ : ∃ n : Int, (V[k].toNat : Int) = n := ⟨_, rfl⟩
        rw [hn] at hct
        have HCT := Lib.hid hct; have HNN := Lib.hid hn
        clear hct hn
        cases h1 : decide (n < 32) <;> cases h2 : (n != 9) <;> cases h3 : (n == 127)
        all_goals
          rw [h1, h2, h3] at HCT
          rw [← HNN.out] at h1 h2 h3
          go_wp2_with fail
          all_goals
            go_meet
            refine ⟨congrArg Value.bool ?_, rfl⟩
            rw [HCT.out]
            rfl
      case rest =>
        obtain ⟨rfl, hwc⟩ := hcut
        rw [hwc]
        clear hwc wc
        cases ht : isCtl V[k]
        · have HT := Lib.hid ht; clear ht
          go_wp2_with fail
          go_round
          case rel => exact ⟨k + 1, by omega, by go_num, Lib.hid (by rw [take_snoc V k hlt, List.all_append, hall.out]; simp [HT.out])⟩
          case measure => simp [intOf]; omega
        · have HT := Lib.hid ht; clear ht
          go_wp2_with fail
          go_ret
          refine hR _ _ ⟨ret_bool ?_, HB.out⟩
          rw [HS.out]
          have h6 : (toL V).all (fun c => !isCtl c) = false := by
            rw [Bool.eq_false_iff]
            intro h5
            have := all_get V k hlt h5
            rw [HT.out] at this; cases this
          rw [h6, Bool.and_false, Bool.false_and]
    · obtain rfl : k = V.size := by omega
      have hal := hall.out
      rw [take_all] at hal
      rw [hal, Bool.and_true] at HS
      have HS1 := HS
      clear hal HS
      cases ht : token (toL N) with
      | false =>
        rw [ht, Bool.false_and] at HS1
        have HS2 := HS1; have HT := Lib.hid ht
        clear HS1 ht
        go_wp2_with fail
        go_quiet ((go_at_call 53; exact Calls.quiet_of_same ((rtoken_any N _ (by omega)).mono fun e w' h => ⟨by rw [h.1, HT.out], h.2.symm⟩)))
        go_wp2_with fail
        go_ret
        exact hR _ _ ⟨ret_bool HS2.out.symm, HB.out.drewN _⟩
      | true =>
        rw [ht, Bool.true_and] at HS1
        have HS2 := HS1; have HT := Lib.hid ht
        clear HS1 ht
        go_wp2_with fail
        go_quiet ((first
          | (go_at_call 53; exact Calls.quiet_of_same ((rtoken_any N _ (by omega)).mono fun e w' h => ⟨by rw [h.1, HT.out], h.2.symm⟩))
          | (go_at_call 54; exact Calls.quiet_of_same ((rtrim_any V _ hv).mono fun e w' h => ⟨h.1, h.2.symm⟩))))
        go_wp2_with fail
        go_ret
        refine hR _ _ ⟨ret_bool ?_, HB.out.drewN _⟩
        rw [HS2.out]; simp [toList_toL, toL_ofL]

end Go.Proofs.YtilpaopkhghicaaDoor.Asc
