/-
  Contracts of package ascii: Token, Trim, Blanks, Split, Number.
  Texts of at most a million bytes; Split: the library's MaxLen is a number.
-/
import Derived.Test.YtilpaopkhghicaaDoorAscE
namespace Go.Proofs.YtilpaopkhghicaaDoor.Asc
open Go Go.RowKit Go.Proofs.YtilpaopkhghicaaDoor.Pb

/-- strings.IndexByte(s, c) >= 0 -/
theorem index_has (l : List UInt8) (c : UInt8) : decide (0 ≤ Lib.indexByte l ((c.toNat : Int)).toNat.toUInt8) = hasB l c := by
  have e : ((c.toNat : Int)).toNat.toUInt8 = c := by
    apply UInt8.toNat_inj.1
    simp
  rw [e]
  unfold hasB
  induction l with
  | nil => rfl
  | cons b l ih =>
    unfold Lib.indexByte
    rw [List.contains_cons]
    by_cases h : b = c
    · subst h; simp
    · have h1 : (b == c) = false := by simpa using h
      have h2 : (c == b) = false := by simpa using fun e => h e.symm
      rw [h1, h2, Bool.false_or, ← ih]
      have hge := Lib.indexByte_ge l c
      by_cases h3 : Lib.indexByte l c = -1
      · rw [h3]; rfl
      · have h4 : (Lib.indexByte l c == -1) = false := by simpa using h3
        rw [h4]
        simp only [Bool.false_eq_true, if_false]
        rw [decide_eq_decide]; omega

theorem u8_eq_nat (a b : UInt8) : (a == b) = (a.toNat == b.toNat) := by
  rw [Bool.eq_iff_iff, beq_iff_eq, beq_iff_eq, UInt8.toNat_inj]
theorem blank_lit (c : UInt8) : hasB (toL { data := #[9, 10, 12, 13, 32] }) c = isBlank c := by
  show List.contains [9, 10, 12, 13, 32] c = _
  unfold isBlank
  simp only [List.contains_cons, u8_eq_nat, List.contains_nil]
  simp [Bool.or_assoc]
theorem ascii_IndexByte (s : ByteArray) (c : UInt8) (w : World) :
    Calls Tryd.prog 73 #[.string s, .int .u8 c.toNat] w fun e w' => ∃ i : Int, e = .returned (.int .i64 i) ∧ w = w' ∧ decide (0 ≤ i) = hasB (toL s) c := by
  refine (Tryd.strings_IndexByte s c.toNat w).mono ?_
  rintro e w' ⟨rfl, rfl⟩
  exact ⟨_, rfl, rfl, index_has _ _⟩

set_option maxHeartbeats 1000000 in
/-- ascii.Token -/
theorem token_any (s : ByteArray) (w : World) (hs : s.size ≤ 1000000) :
    Calls Tryd.prog 59 #[.string s] w fun e w' => e = .returned (.bool (token (toL s))) ∧ w = w' := by
  refine calls_gen fun R hR => ?_
  go_enter Tryd.func59, Tryd.ntmps59
  go_wp2
  go_loop [3, 4, 7] (fun _ _ i => ∃ k : Nat, k ≤ s.size ∧ i = .int .i64 k ∧ Hid (((toL s).take k).all isTok = true)) (fun _ _ i => s.size - (intOf i).toNat)
  case atStart => exact ⟨0, Nat.zero_le _, rfl, by simp [Hid]⟩
  case round =>
    obtain ⟨k, hk, rfl, hall⟩ := hrel
    by_cases hlt : k < s.size
    · go_upto_region 5 with fail
      go_cut [40] (fun v wc => v = .bool (!isTok s[k]) ∧ wc = w)
      case first =>
        go_wp2_with (first
          | (go_at_call 73; refine (ascii_IndexByte _ s[k] _).mono ?_; rintro e w' ⟨j, rfl, rfl, hj⟩; rw [marks_lit] at hj; have HJ := Lib.hid hj; clear hj))
        all_goals
          go_meet
          refine ⟨congrArg Value.bool ?_, rfl⟩
          unfold isTok isLet isDig
          first
            | (rw [← HJ.out]; rw [Bool.eq_iff_iff]; simp; omega)
            | (rw [Bool.eq_iff_iff]; simp; omega)
            | (simp; omega)
      case rest =>
        obtain ⟨rfl, rfl⟩ := hcut
        cases ht : isTok s[k]
        · have HT := Lib.hid ht; clear ht
          go_wp2
          go_ret
          refine hR _ _ ⟨ret_bool ?_, rfl⟩
          symm
          rw [Bool.eq_false_iff]
          intro h5
          have := all_get s k hlt (Bool.and_eq_true_iff.1 h5).2
          rw [HT.out] at this; cases this
        · have HT := Lib.hid ht; clear ht
          go_wp2
          go_round
          case rel => exact ⟨k + 1, by omega, by go_num, Lib.hid (by rw [take_snoc s k hlt, List.all_append, hall.out]; simp [HT.out])⟩
          case measure => simp [intOf]; omega
    · obtain rfl : k = s.size := by omega
      go_wp2
      go_ret
      refine hR _ _ ⟨ret_bool ?_, rfl⟩
      have := hall.out
      rw [take_all] at this
      unfold token
      rw [this, Bool.and_true, toList_toL]

/-- ascii.Trim -/
theorem trim_any (s : ByteArray) (w : World) (hs : s.size ≤ 1000000) :
    Calls Tryd.prog 63 #[.string s] w fun e w' => e = .returned (.string (ofL (trim (toL s)))) ∧ Below w.heap.size w w' := by
  refine calls_gen fun R hR => ?_
  go_enter Tryd.func63, Tryd.ntmps63
  go_wp2_with fail
  refine (Any.strings_Trim_laid Tryd.lays160 (by kernel_rfl) s ⟨#[32, 9]⟩ w (by omega) (by decide) (ascii_of_all (by decide))).mono ?_
  rintro e w1 ⟨rfl, hb⟩
  go_wp2_with fail
  go_ret
  refine hR _ _ ⟨ret_str ?_, hb⟩
  have e : ∀ c : UInt8, List.contains [32, 9] c = isTB c := by
    intro c; unfold isTB
    have h : ∀ a : UInt8, (c == a) = (c.toNat == a.toNat) := by
      intro a; rw [Bool.eq_iff_iff, beq_iff_eq, beq_iff_eq, UInt8.toNat_inj]
    rw [List.contains_cons, List.contains_cons, h, h]
    simp
  unfold trim trimL trimR Lib.trimS Lib.trimLeftS Lib.trimRightS ofL
  simp only [e]
  rfl

end Go.Proofs.YtilpaopkhghicaaDoor.Asc
