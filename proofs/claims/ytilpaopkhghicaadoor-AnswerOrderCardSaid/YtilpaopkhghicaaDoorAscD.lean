/-
  Contracts of the reference's Split, Number, Trim.
  Texts of at most a million bytes.
-/
import Derived.Test.YtilpaopkhghicaaDoorAscC
namespace Go.Proofs.YtilpaopkhghicaaDoor.Asc
open Go Go.RowKit Go.Proofs.YtilpaopkhghicaaDoor.Pb

theorem spSt_len (s : List UInt8) (sep : UInt8) (k : Nat) : (spSt s sep k).1.length ≤ k ∧ (spSt s sep k).2 ≤ k := by
  induction k with
  | zero => simp [spSt]
  | succ k ih =>
    simp only [spSt]
    split
    · simp; omega
    · omega
theorem spSt_yes (s : ByteArray) (sep : UInt8) (k : Nat) (h : k < s.size) (e : s[k] = sep) : spSt (toL s) sep (k + 1) = ((spSt (toL s) sep k).1 ++ [cut (toL s) (spSt (toL s) sep k).2 k], k + 1) := by
  rw [spSt, if_pos (by rw [getD_toL s k h, e])]
theorem spSt_no (s : ByteArray) (sep : UInt8) (k : Nat) (h : k < s.size) (e : s[k] ≠ sep) : spSt (toL s) sep (k + 1) = spSt (toL s) sep k := by
  rw [spSt, if_neg (by rw [getD_toL s k h]; simpa using e)]
theorem u8_beq {a b : UInt8} : ((a.toNat : Int) == (b.toNat : Int)) = decide (a = b) := by
  rw [Bool.eq_iff_iff, beq_iff_eq, decide_eq_true_iff, Int.natCast_inj, UInt8.toNat_inj]

set_option maxHeartbeats 1000000 in
/-- parapetref1.Split -/
theorem rsplit_any (s : ByteArray) (sep : UInt8) (w : World) (hs : s.size ≤ 1000000) :
    Calls Tryd.prog 29 #[.string s, .int .u8 sep.toNat] w fun e w' => ∃ v, e = .returned v ∧ Own Rp.str 9 w' (w.heap.size ≤ ·) (split (toL s) sep) v ∧ Below w.heap.size w w' := by
  refine calls_gen fun R hR => ?_
  go_enter Tryd.func29, Tryd.ntmps29
  go_wp2
  go_loopw [5, 6, 7] (fun v f i wr => ∃ k : Nat, k ≤ s.size ∧ i = .int .i64 k ∧ f = .int .i64 (spSt (toL s) sep k).2 ∧ Own Rp.str 9 wr (w.heap.size ≤ ·) (spSt (toL s) sep k).1 v ∧ Below w.heap.size w wr) (fun _ _ i _ => s.size - (intOf i).toNat)
  case atStart => exact ⟨0, by omega, rfl, rfl, Own.nil _ _ _ _, Below.refl _ _⟩
  case round =>
    obtain ⟨k, hk, rfl, rfl, hown, hb⟩ := hrel
    have hbs := hb.size
    obtain ⟨hll, hfk⟩ := spSt_len (toL s) sep k
    obtain ⟨st, hst⟩ : ∃ st, spSt (toL s) sep k = st := ⟨_, rfl⟩
    have HST := Lib.hid hst
    rw [hst] at hown hll hfk ⊢
    clear hst
    obtain ⟨l, f⟩ := st
    simp only at hown hll hfk ⊢
    by_cases hlt : k < s.size
    · by_cases hc : s[k] = sep
      · have hs' := spSt_yes s sep k hlt hc
        have hex := Lib.hid (extract_cut s f k)
        have h0 : ((s[k].toNat : Int) == (sep.toNat : Int)) = true := by rw [u8_beq]; simpa using hc
        have HS := Lib.hid hs'; clear hs' hc
        go_wp2_with (with_reducible (first | refine stop_append ?_))
        refine ⟨wp_append1_flat (y := cut (toL s) f k) Tryd.underlying36 info9 rfl hown rfl rfl (by rw [← hex.out]) (by omega) (by decide) hbs ?_⟩
        intro v1 w1 ho1 hb1 _ _
        have hb2 := hb.trans hb1
        go_wp2
        go_roundw
        case rel => exact ⟨k + 1, by omega, by go_num, by rw [HS.out]; go_num, by rw [HS.out, HST.out]; exact ho1, hb2⟩
        case measure => simp [intOf]; omega
      · have hs' := spSt_no s sep k hlt hc
        have h0 : ((s[k].toNat : Int) == (sep.toNat : Int)) = false := by rw [u8_beq]; simpa using hc
        have HS := Lib.hid hs'; clear hs' hc
        go_wp2
        go_roundw
        case rel => exact ⟨k + 1, by omega, by go_num, by rw [HS.out, HST.out], by rw [HS.out, HST.out]; exact hown, hb⟩
        case measure => simp [intOf]; omega
    · obtain rfl : k = s.size := by omega
      have hex := Lib.hid (extract_cut s f s.size)
      go_wp2_with (with_reducible (first | refine stop_append ?_))
      refine ⟨wp_append1_flat (y := (toL s).drop f) Tryd.underlying36 info9 rfl hown rfl rfl ?_ (by omega) (by decide) hbs ?_⟩
      · have : cut (toL s) f s.size = (toL s).drop f := by unfold cut; rw [List.take_of_length_le (by rw [toL_len]; omega)]
        rw [← this, ← hex.out]
      intro v1 w1 ho1 hb1 _ _
      go_wp2
      go_ret
      exact hR _ _ ⟨_, rfl, by unfold split; rw [toL_len, HST.out]; exact ho1, hb.trans hb1⟩

/-! ### numbers -/
theorem numOf_snoc (l : List UInt8) (c : UInt8) : numOf (l ++ [c]) = 10 * numOf l + ((c.toNat : Int) - 48) := by simp [numOf]
def numF (n : Int) (l : List UInt8) : Int := l.foldl (fun n c => 10 * n + ((c.toNat : Int) - 48)) n
theorem isDig_iff (c : UInt8) : isDig c = true ↔ 48 ≤ c.toNat ∧ c.toNat ≤ 57 := by simp [isDig]
theorem numF_bd (l : List UInt8) : ∀ n : Int, 0 ≤ n → l.all isDig = true → 0 ≤ numF n l ∧ numF n l < (n + 1) * 10 ^ l.length := by
  induction l with
  | nil => intro n h _; simp [numF]; omega
  | cons c l ih =>
    intro n h hd
    rw [List.all_cons, Bool.and_eq_true, isDig_iff] at hd
    obtain ⟨⟨h1, h2⟩, h3⟩ := hd
    have := ih (10 * n + ((c.toNat : Int) - 48)) (by omega) h3
    refine ⟨this.1, Int.lt_of_lt_of_le this.2 ?_⟩
    have e : (n + 1) * 10 ^ (c :: l).length = (10 * (n + 1)) * 10 ^ l.length := by
      rw [List.length_cons, Int.pow_succ, Int.mul_comm (10 ^ l.length) 10, ← Int.mul_assoc, Int.mul_comm (n + 1) 10]
    rw [e]
    refine Int.mul_le_mul_of_nonneg_right (by omega) ?_
    exact Int.pow_nonneg (by omega)
theorem pow10_mono {a b : Nat} (h : a ≤ b) : (10 : Int) ^ a ≤ 10 ^ b := by
  obtain ⟨c, rfl⟩ := Nat.exists_eq_add_of_le h
  rw [Int.pow_add]
  have h1 : (0 : Int) ≤ 10 ^ a := Int.pow_nonneg (by omega)
  have h2 : (0 : Int) < 10 ^ c := Int.pow_pos (by omega)
  have : (10 : Int) ^ a * 1 ≤ 10 ^ a * 10 ^ c := Int.mul_le_mul_of_nonneg_left (by omega) h1
  omega
theorem numOf_bd (l : List UInt8) (h : l.all isDig = true) (hl : l.length ≤ 17) : 0 ≤ numOf l ∧ numOf l < 100000000000000000 := by
  have := numF_bd l 0 (by omega) h
  refine ⟨this.1, Int.lt_of_lt_of_le this.2 ?_⟩
  have := pow10_mono hl
  rw [show (0 : Int) + 1 = 1 from rfl, Int.one_mul]
  exact Int.le_trans this (by decide)

/-- what number refuses ahead of its digits -/
def numBad (s : List UInt8) (max : Int) : Bool := s.isEmpty || decide ((s.length : Int) > min max 18) || (decide (s[0]? = some 48) && decide (s.length > 1))
theorem number_bad (s : List UInt8) (max : Int) (h : numBad s max = true) : number s max = (0, false) := by
  unfold number; rw [show (s.isEmpty || decide ((s.length : Int) > min max 18) || (decide (s[0]? = some 48) && decide (s.length > 1))) = true from h]; rfl
theorem number_good (s : List UInt8) (max : Int) (h : numBad s max = false) (hd : s.all isDig = true) : number s max = (numOf s, true) := by
  unfold number; rw [show (s.isEmpty || decide ((s.length : Int) > min max 18) || (decide (s[0]? = some 48) && decide (s.length > 1))) = false from h, hd]; rfl
theorem number_none (s : List UInt8) (max : Int) (h : numBad s max = false) (hd : s.all isDig = false) : number s max = (0, false) := by
  unfold number; rw [show (s.isEmpty || decide ((s.length : Int) > min max 18) || (decide (s[0]? = some 48) && decide (s.length > 1))) = false from h, hd]; rfl

theorem numBad_eq (s : ByteArray) (max : Int) (h : 0 < s.size) : numBad (toL s) max = (decide ((s.size : Int) > min max 18) || (decide (s[0].toNat = 48) && decide (s.size > 1))) := by
  unfold numBad
  have h1 : (toL s).isEmpty = false := by
    cases h' : toL s with
    | nil => have := toL_len s; rw [h'] at this; simp at this; omega
    | cons => rfl
  have h2 : decide ((toL s)[0]? = some 48) = decide (s[0].toNat = 48) := by
    rw [getD_toL s 0 h, decide_eq_decide]
    constructor
    · intro e; injection e with e; rw [e]; rfl
    · intro e; congr 1; exact UInt8.toNat_inj.1 (by rw [e]; rfl)
  rw [h1, h2, toL_len, Bool.false_or]

theorem ret2 {k : IntKind} {a b : Int} {p q : Bool} (h : (a, p) = (b, q)) : Ending.returned (.tuple #[.int k a, .bool p]) = .returned (.tuple #[.int k b, .bool q]) := by cases h; rfl

set_option maxHeartbeats 1000000 in
/-- parapetref1.Number, the loop's part -/
theorem rnumber_any (s : ByteArray) (max : Int) (w : World) (hs : s.size ≤ 1000000) :
    Calls Tryd.prog 45 #[.string s, .int .i64 max] w fun e w' => e = .returned (.tuple #[.int .i64 (number (toL s) max).1, .bool (number (toL s) max).2]) ∧ w = w' := by
  refine calls_gen fun R hR => ?_
  go_enter Tryd.func45, Tryd.ntmps45
  go_upto_if 9 with fail
  go_cut [1] (fun v wc => v = .int .i64 (min max 18) ∧ wc = w)
  case first =>
    go_wp2_with fail
    all_goals
      go_meet
      refine ⟨?_, rfl⟩
      congr 1
      omega
  case rest =>
    obtain ⟨rfl, rfl⟩ := hcut
    obtain ⟨m, hm⟩ : ∃ m, min max 18 = m := ⟨_, rfl⟩
    rw [hm]
    have HM := Lib.hid hm; clear hm
    go_upto_region 3 with fail
    go_cut [27] (fun v wc' => v = .bool (numBad (toL s) max) ∧ wc' = wc)
    case first =>
      by_cases h0 : s.size = 0
      · have h1 : s.toList = [] := by rw [toList_toL]; exact List.eq_nil_of_length_eq_zero (by rw [toL_len]; exact h0)
        go_wp2
        go_meet
        refine ⟨?_, rfl⟩
        rw [toList_toL] at h1
        unfold numBad; rw [h1]; rfl
      · have hpos : 0 < s.size := by omega
        have h1 : s.toList.isEmpty = false := by
          rw [toList_toL]; cases h : toL s with
          | nil => have := toL_len s; rw [h] at this; simp at this; omega
          | cons => rfl
        have HE := Lib.hid (numBad_eq s max hpos)
        go_wp2
        all_goals
          go_meet
          refine ⟨congrArg Value.bool ?_, rfl⟩
          rw [HE.out, HM.out]
          first | (rw [Bool.eq_iff_iff]; simp; omega) | (simp; omega)
    case rest =>
      obtain ⟨rfl, rfl⟩ := hcut
      cases hbad : numBad (toL s) max
      · have hsz : s.size ≤ 18 := by
          by_cases hpos : 0 < s.size
          · rw [numBad_eq s max hpos] at hbad
            simp at hbad
            omega
          · omega
        have HB := Lib.hid hbad; clear hbad
        go_wp2
        go_loop [6, 7] (fun n i => ∃ k : Nat, k ≤ s.size ∧ i = .int .i64 k ∧ n = .int .i64 (numOf ((toL s).take k)) ∧ Hid (((toL s).take k).all isDig = true)) (fun _ i => s.size - (intOf i).toNat)
        case atStart => exact ⟨0, by omega, rfl, rfl, by simp [Hid]⟩
        case round =>
          obtain ⟨k, hk, rfl, rfl, hall⟩ := hrel
          have hn01 := fun h : k < s.size => numOf_bd ((toL s).take k) hall.out (by rw [List.length_take]; omega)
          obtain ⟨n, hn⟩ : ∃ n, numOf ((toL s).take k) = n := ⟨_, rfl⟩
          rw [hn] at hn01 ⊢
          have HN := Lib.hid hn; clear hn
          have H01 := Lib.hid hn01; clear hn01
          go_wp2_with (go_at_call 52; refine (digit_any s[k] _).mono ?_; rintro e w' ⟨rfl, rfl⟩)
          · have hlt : k < s.size := by assumption
            have hd : (!isDig s[k]) = true := by assumption
            go_ret2
            refine hR _ _ ⟨ret2 ?_, rfl⟩
            rw [number_none _ _ HB.out]
            rw [Bool.eq_false_iff]
            intro h5
            have := all_get s k hlt h5
            simp [this] at hd
          · have hlt : k < s.size := by assumption
            have hd : (!isDig s[k]) = false := by assumption
            have hd' : isDig s[k] = true := by simpa using hd
            have hd2 := (isDig_iff _).1 hd'
            obtain ⟨hn0, hn1⟩ := H01.out hlt
            go_round
            case rel =>
              refine ⟨k + 1, by omega, by go_num, ?_, ?_⟩
              · congr 1
                rw [take_snoc s k hlt, numOf_snoc, HN.out]
                have e1 : wrap64 (10 * n) = 10 * n := by unfold wrap64; omega
                have e2 : ((s[k].toNat : Int) - 48) % 256 = (s[k].toNat : Int) - 48 := by omega
                rw [e1, e2]
                unfold wrap64; omega
              · exact Lib.hid (by rw [take_snoc s k hlt, List.all_append, hall.out]; simp [hd'])
            case measure => simp [intOf]; omega
          · obtain rfl : k = s.size := by omega
            go_ret2
            refine hR _ _ ⟨ret2 ?_, rfl⟩
            have h1 := hall.out
            have h2 := HN.out
            rw [take_all] at h1 h2
            rw [number_good _ _ HB.out h1, h2]
      · go_wp2
        go_ret2
        exact hR _ _ ⟨ret2 (by rw [number_bad _ _ hbad]), rfl⟩
end Go.Proofs.YtilpaopkhghicaaDoor.Asc
