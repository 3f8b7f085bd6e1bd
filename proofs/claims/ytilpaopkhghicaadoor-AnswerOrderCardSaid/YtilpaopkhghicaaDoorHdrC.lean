/-
  Contracts of Valid, the reference's upTo, Essence, Valid, unsafe.
  Lengths within the rows' own reach.
-/
import Derived.Test.YtilpaopkhghicaaDoorHdrB
import Derived.RegionTactic
import Derived.Deep.RegionLaw
namespace Go.Proofs.YtilpaopkhghicaaDoor.Asc
open Go Go.RowKit Go.Proofs.YtilpaopkhghicaaDoor.Pb

def valid (n v : List UInt8) : Bool := token n && v.all (fun c => !isCtl c) && (trim v == v)
set_option maxHeartbeats 1000000 in
theorem valid_any (N V : ByteArray) (w : World) (hn : N.size ≤ 1000000) (hv : V.size ≤ 1000000) :
    Calls Tryd.prog 51 #[.agg #[.string N, .string V]] w fun e w' => e = .returned (.bool (valid (toL N) (toL V))) ∧ Below w.heap.size w w' := by
  refine calls_gen fun R hR => ?_
  have HS : Hid (valid (toL N) (toL V) = (token (toL N) && (toL V).all (fun c => !isCtl c) && (trim (toL V) == toL V))) := rfl
  have HE := Lib.hid (fun w => every_any 61 Tryd.call61 (fun c => !isCtl c) V w (by omega) (fun c w1 => valid1_any c w1))
  go_enter Tryd.func51, Tryd.ntmps51
  go_wp2_with fail
  obtain ⟨wv, hwv⟩ : ∃ wv, w.alloc (.cells #[.string N, .string V] 42) = wv := ⟨_, rfl⟩
  have g1 := blk_new w (.cells #[.string N, .string V] 42)
  have hb := below_new w (.cells #[.string N, .string V] 42)
  rw [hwv] at g1 hb ⊢
  have c0 := blk_cell g1 0
  have c1 := blk_cell g1 1
  simp at c0 c1
  have hl := blk_lt g1
  have HB := Lib.hid hb; have G1 := Lib.hid g1
  clear hwv g1 hb
  obtain ⟨sb, hsb⟩ : ∃ sb, w.heap.size = sb := ⟨_, rfl⟩
  have HSB := Lib.hid hsb
  rw [hsb] at c0 c1 hl ⊢
  rw [hsb] at G1
  clear hsb
  cases ht : token (toL N) with
  | false =>
    rw [ht] at HS
    have HS2 := HS; have HT := Lib.hid ht
    clear HS ht
    go_quiet ((go_at_call 59; exact Calls.quiet_of_same ((token_any N _ hn).mono fun e w' h => ⟨by rw [h.1, HT.out], h.2.symm⟩)))
    go_wp2_with fail
    go_ret
    exact hR _ _ ⟨ret_bool (by rw [HS2.out]; rfl), HB.out.drewN _⟩
  | true =>
    rw [ht] at HS
    have HS2 := HS; have HT := Lib.hid ht
    clear HS ht
    cases he : (toL V).all (fun c => !isCtl c) with
    | false =>
      rw [he] at HS2
      have HS3 := HS2; have HE2 := Lib.hid he
      clear HS2 he
      go_quiet ((first
        | (go_at_call 59; exact Calls.quiet_of_same ((token_any N _ hn).mono fun e w' h => ⟨by rw [h.1, HT.out], h.2.symm⟩))
        | (go_at_call 60; exact Calls.quiet_of_same ((HE.out _).mono fun e w' h => ⟨by rw [h.1, HE2.out], h.2.symm⟩))))
      go_wp2_with fail
      go_ret
      exact hR _ _ ⟨ret_bool (by rw [HS3.out]; rfl), HB.out.drewN _⟩
    | true =>
      rw [he] at HS2
      have HS3 := HS2; have HE2 := Lib.hid he
      clear HS2 he
      go_region_law (first
        | (go_simp
           go_at_call 59
           refine (token_any N _ hn).mono ?_
           rintro e w' ⟨rfl, rfl⟩
           rw [HT.out])
        | (go_simp
           go_at_call 60
           refine (HE.out _).mono ?_
           rintro e w' ⟨rfl, rfl⟩
           rw [HE2.out])
        | (go_simp
           go_at_call 63
           refine (trim_any V _ hv).mono ?_
           rintro e w5 ⟨rfl, hb5⟩
           have d1 := (hb5.cell (p := ⟨sb, 1, none⟩) hl).trans c1
           have hl5 : sb < w5.heap.size := Nat.lt_of_lt_of_le hl hb5.size
           have HB5 := Lib.hid hb5
           clear hb5))
      all_goals
        go_wp2_with fail
        go_ret
        refine hR _ _ ⟨ret_bool ?_, ?_⟩
        · rw [HS3.out]; simp [toList_toL, toL_ofL]
        · have h1 : Below w.heap.size w (wv.drewN 1) := HB.out.drewN 1
          exact h1.trans (HB5.out.mono h1.size)

/-! ### the reference's -/
theorem take_cut (c : UInt8) (l : List UInt8) : l.take (cutAt c l).1.length = (cutAt c l).1 := by
  unfold cutAt
  have := List.takeWhile_append_dropWhile (p := (· != c)) (l := l)
  conv => lhs; arg 2; rw [← this]
  rw [List.take_left]
theorem cut_le (c : UInt8) (l : List UInt8) : (cutAt c l).1.length ≤ l.length := (List.takeWhile_sublist _).length_le
theorem essIn_len (l : List UInt8) : (essIn l).length ≤ l.length := by
  unfold essIn lower
  rw [List.length_map]
  have h1 := trim_len (cutAt 59 l).1
  have h2 := cut_le 59 l
  omega

end Go.Proofs.YtilpaopkhghicaaDoor.Asc
