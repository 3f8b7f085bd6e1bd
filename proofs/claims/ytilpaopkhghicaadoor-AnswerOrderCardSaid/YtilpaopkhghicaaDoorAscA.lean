/-
  Contracts of the small functions of ascii's reference: what each answers; memory stays.
  Texts and numbers within the row's own reach.
-/
import Derived.Test.YtilpaopkhghicaaDoorAscSpec
import Derived.Test.YtilpaopkhghicaaDoorProg
import Derived.Outline
namespace Go.Proofs.YtilpaopkhghicaaDoor.Asc
open Go Go.RowKit Go.Proofs.YtilpaopkhghicaaDoor.Pb

/-- parapetref1.Digit -/
theorem digit_any (c : UInt8) (w : World) :
    Calls Tryd.prog 52 #[.int .u8 c.toNat] w fun e w' => e = .returned (.bool (isDig c)) ∧ w = w' := by
  refine calls_gen fun R hR => ?_
  go_enter Tryd.func52, Tryd.ntmps52
  go_wp2
  all_goals
    go_ret
    refine hR _ _ ⟨ret_bool ?_, rfl⟩
    unfold isDig
    first | (simp; done) | (simp; omega) | (rw [Bool.eq_iff_iff]; simp; omega)

/-- parapetref1.Letter -/
theorem letter_any (c : UInt8) (w : World) :
    Calls Tryd.prog 64 #[.int .u8 c.toNat] w fun e w' => e = .returned (.bool (isLet c)) ∧ w = w' := by
  refine calls_gen fun R hR => ?_
  go_enter Tryd.func64, Tryd.ntmps64
  go_wp2
  all_goals
    go_ret
    refine hR _ _ ⟨ret_bool ?_, rfl⟩
    unfold isLet
    first | (simp; done) | (simp; omega) | (rw [Bool.eq_iff_iff]; simp; omega)

/-- parapetref1.Has -/
theorem has_any (s : ByteArray) (c : UInt8) (w : World) (hs : s.size ≤ 140737488351232) :
    Calls Tryd.prog 65 #[.string s, .int .u8 c.toNat] w fun e w' => e = .returned (.bool (hasB (toL s) c)) ∧ w = w' := by
  refine calls_gen fun R hR => ?_
  go_enter Tryd.func65, Tryd.ntmps65
  go_wp2
  go_loop [5] (fun i => ∃ k : Nat, k ≤ s.size ∧ i = .int .i64 k ∧ Hid (∀ b ∈ (toL s).take k, b ≠ c)) (fun i => s.size - (intOf i).toNat)
  case atStart => exact ⟨0, Nat.zero_le _, rfl, by simp [Hid]⟩
  case round =>
    obtain ⟨k, hk, rfl, hall⟩ := hrel
    go_wp2
    · have hlt : k < s.size := by assumption
      have he : ((s[k].toNat : Int) == (c.toNat : Int)) = true := by assumption
      go_ret
      refine hR _ _ ⟨ret_bool ?_, rfl⟩
      have h1 : s[k] = c := by
        apply UInt8.toNat_inj.1
        have := of_decide_eq_true he
        omega
      symm
      unfold hasB
      rw [List.contains_iff_mem, ← h1, ← toL_get s k hlt]
      exact List.getElem_mem _
    · have hlt : k < s.size := by assumption
      have he : ((s[k].toNat : Int) == (c.toNat : Int)) = false := by assumption
      go_round
      case rel =>
        refine ⟨k + 1, by omega, by go_num, ?_⟩
        intro b hb
        rw [List.take_add_one, getD_toL s k hlt] at hb
        rcases List.mem_append.1 hb with hb | hb
        · exact hall.out b hb
        · simp at hb
          subst hb
          rintro rfl
          simp at he
      case measure => simp [intOf]; omega
    · have hge : ¬ k < s.size := by assumption
      go_ret
      refine hR _ _ ⟨ret_bool ?_, rfl⟩
      have hl := toL_len s
      have := hall.out
      rw [List.take_of_length_le (by omega)] at this
      symm
      unfold hasB
      rw [Bool.eq_false_iff, ne_eq, List.contains_iff_mem]
      exact fun h => this c h rfl
end Go.Proofs.YtilpaopkhghicaaDoor.Asc
