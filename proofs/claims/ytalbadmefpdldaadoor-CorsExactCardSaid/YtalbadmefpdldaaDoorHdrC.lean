/-
  Contracts of Valid, the reference's upTo, Essence, Valid, unsafe.
  Lengths within the rows' own reach.
-/
import Derived.Test.YtalbadmefpdldaaDoorHdrB
import Derived.RegionTactic
import Derived.Deep.RegionLaw
namespace Go.Proofs.YtalbadmefpdldaaDoor.Asc
open Go Go.RowKit Go.Proofs.YtalbadmefpdldaaDoor.Pb

def valid (n v : List UInt8) : Bool := token n && v.all (fun c => !isCtl c) && (trim v == v)
/-! ### the reference's -/
theorem upto_any (s : ByteArray) (c : UInt8) (w : World) (hs : s.size ≤ 1000000) :
    Calls Tryd.prog 90 #[.string s, .string ⟨#[c]⟩] w fun e w' => e = .returned (.int .i64 (cutAt c (toL s)).1.length) ∧ w = w' := by
  refine calls_gen fun R hR => ?_
  have hh : ∀ x : UInt8, hasB (toL ⟨#[c]⟩) x = (x == c) := fun x => by
    show List.contains [c] x = _
    rw [Bool.eq_iff_iff]; simp
  have HH := Lib.hid hh
  clear hh
  go_enter Tryd.func90, Tryd.ntmps90
  go_wp2_with fail
  go_loop [4, 5] (fun _ i => ∃ k : Nat, k ≤ s.size ∧ i = .int .i64 k ∧ Hid (((toL s).take k).all (· != c) = true)) (fun _ i => s.size - (intOf i).toNat)
  case atStart => exact ⟨0, Nat.zero_le _, rfl, by simp [Hid]⟩
  case round =>
    obtain ⟨k, hk, rfl, hall⟩ := hrel
    have htw : ∀ r, (toL s).drop k = r → (∀ x t, r = x :: t → x = c) → (cutAt c (toL s)).1.length = k := by
      intro r hr hx
      unfold cutAt
      have e : toL s = (toL s).take k ++ r := by rw [← hr, List.take_append_drop]
      rw [e, List.takeWhile_append_of_pos (List.all_eq_true.1 hall.out)]
      cases r with
      | nil =>
        have : (toL s).length ≤ k := by
          have := congrArg List.length hr; simp at this; omega
        simp only [List.takeWhile_nil, List.append_nil, List.length_take]; rw [toL_len] at *; omega
      | cons x t =>
        rw [hx x t rfl, List.takeWhile_cons, if_neg (by simp)]
        simp only [List.append_nil, List.length_take]; rw [toL_len]; omega
    have HTW := Lib.hid htw
    clear htw
    by_cases hlt : k < s.size
    · go_wp2_with fail
      refine (has_any ⟨#[c]⟩ s[k] w (by show 1 ≤ _; decide)).mono ?_
      rintro e w' ⟨rfl, rfl⟩
      rw [HH.out]
      cases ht : (s[k] == c) with
      | true =>
        have HT := Lib.hid ht
        clear ht
        go_wp2_with fail
        go_ret
        refine hR _ _ ⟨ret_int ?_, rfl⟩
        rw [HTW.out _ rfl fun x t e => ?_]
        have h1 : (toL s)[k]? = some x := by
          have := congrArg (fun l => l[0]?) e; simpa [List.getElem?_drop] using this
        rw [getD_toL s k hlt] at h1
        rw [← Option.some.inj h1]; exact beq_iff_eq.1 HT.out
      | false =>
        have HT := Lib.hid ht
        clear ht
        go_wp2_with fail
        go_round
        case rel => exact ⟨k + 1, by omega, by go_num, Lib.hid (by rw [take_snoc s k hlt, List.all_append, hall.out]; simpa using HT.out)⟩
        case measure => simp [intOf]; omega
    · obtain rfl : k = s.size := by omega
      go_wp2_with fail
      go_ret
      refine hR _ _ ⟨ret_int ?_, rfl⟩
      rw [HTW.out _ rfl fun x t e => ?_]
      rw [List.drop_of_length_le (by rw [toL_len]; exact Nat.le_refl _)] at e; cases e

theorem take_cut (c : UInt8) (l : List UInt8) : l.take (cutAt c l).1.length = (cutAt c l).1 := by
  unfold cutAt
  have := List.takeWhile_append_dropWhile (p := (· != c)) (l := l)
  conv => lhs; arg 2; rw [← this]
  rw [List.take_left]
theorem cut_le (c : UInt8) (l : List UInt8) : (cutAt c l).1.length ≤ l.length := (List.takeWhile_sublist _).length_le
theorem essIn_len (l : List UInt8) : (essIn l).length ≤ l.length := by
  unfold essIn lower
  rw [List.length_map]
  have h1 := trim_len (cutAt 59 l).1
  have h2 := cut_le 59 l
  omega

set_option maxHeartbeats 400000 in
/-- parapetref9.Essence -/
theorem ressence_any (s : ByteArray) (w : World) (hs : s.size ≤ 1000000) :
    Calls Tryd.prog 72 #[.string s] w fun e w' => e = .returned (.tuple #[.string (ofL (essence (toL s)).1), .bool (essence (toL s)).2]) ∧ Below w.heap.size w w' := by
  refine calls_gen fun R hR => ?_
  have hk := cut_le 59 (toL s)
  rw [toL_len] at hk
  have HI := Lib.hid (show essIn (toL s) = lower (trim (cutAt 59 (toL s)).1) from rfl)
  have HTC := Lib.hid (take_cut 59 (toL s))
  have HES := Lib.hid (essence_split (essIn (toL s)))
  have HEL := Lib.hid (essIn_len (toL s))
  have HE : Hid (essence (toL s) = if token (cutAt 47 (essIn (toL s))).1 && token (cutAt 47 (essIn (toL s))).2 then (essIn (toL s), true) else ([], false)) := rfl
  obtain ⟨n, hn⟩ : ∃ n, (cutAt 59 (toL s)).1.length = n := ⟨_, rfl⟩
  have hu := Lib.hid (upto_any s 59 w hs)
  rw [hn] at hk HTC hu
  clear hn
  go_enter Tryd.func72, Tryd.ntmps72
  go_wp2_with fail
  refine hu.out.mono ?_
  rintro e w' ⟨rfl, rfl⟩
  have hk0 : (0 : Int) ≤ (n : Int) := by omega
  have hk1 : (n : Int) ≤ (s.size : Int) := by omega
  go_wp2_with fail
  refine (rtrim_any (s.extract 0 n) _ (by have := extract_le s 0 n; omega)).mono ?_
  rintro e w' ⟨rfl, rfl⟩
  have he : trim (toL (s.extract 0 n)) = trim (cutAt 59 (toL s)).1 := by
    rw [extract_cut, toL_ofL]; unfold cut; rw [List.drop_zero, HTC.out]
  rw [he]
  obtain ⟨T, hT⟩ : ∃ T, trim (cutAt 59 (toL s)).1 = T := ⟨_, rfl⟩
  rw [hT] at HI he ⊢
  have hTl : T.length ≤ 1000000 := by
    rw [← he]; have := trim_len (toL (s.extract 0 n)); rw [toL_len] at this; have := extract_le s 0 n; omega
  clear he hT HTC
  go_wp2_with fail
  refine (rlower_any (ofL T) w (by rw [ofL_size]; exact hTl)).mono ?_
  rintro e w1 ⟨rfl, hb1⟩
  rw [toL_ofL, ← HI.out]
  obtain ⟨E, hE⟩ : ∃ E, essIn (toL s) = E := ⟨_, rfl⟩
  rw [hE] at HES HEL HE ⊢
  have hEl : E.length ≤ 1000000 := by have := HEL.out; rw [toL_len] at this; omega
  have HB1 := Lib.hid hb1
  clear hE hb1 HI
  go_wp2_with fail
  refine (rsplit_any (ofL E) 47 w1 (by rw [ofL_size]; exact hEl)).mono ?_
  rintro e w2 ⟨v2, rfl, ho2, hb2⟩
  rw [toL_ofL] at ho2
  have HB2 := Lib.hid (HB1.out.trans (hb2.mono HB1.out.size))
  clear hb2
  rcases HES.out with ⟨a, b, hsp, hct⟩ | ⟨hlen, htk⟩
  · rw [hsp] at ho2
    rw [hct] at HE
    have hab : a.length ≤ 1000000 ∧ b.length ≤ 1000000 := by
      have h1 := cut_le 47 E
      have h2 : (cutAt 47 E).2.length ≤ E.length := by
        unfold cutAt; have := (List.dropWhile_sublist (· != (47 : UInt8)) (l := E)).length_le; simp only [List.length_drop]; omega
      rw [hct] at h1 h2
      simp only at h1 h2
      omega
    obtain ⟨g, cp, rfl, _, hcp, hrow⟩ := ho2.row (by simp)
    have c0 := hrow.cell (i := 0) rfl
    have c1 := hrow.cell (i := 1) rfl
    have hgl := hrow.len
    clear ho2 hrow hsp hct HES
    simp only at HE
    obtain ⟨ha, hb⟩ := hab
    go_wp2_with fail
    refine (rtoken_any (ofL a) w2 (by rw [ofL_size]; omega)).mono ?_
    rintro e w' ⟨rfl, rfl⟩
    rw [toL_ofL]
    cases ht : token a with
    | false =>
      rw [ht] at HE
      have HE2 := HE
      clear HE ht
      go_wp2_with fail
      go_ret2
      exact hR _ _ ⟨by rw [HE2.out]; rfl, HB2.out⟩
    | true =>
      rw [ht] at HE
      have HE2 := HE
      clear HE ht
      go_wp2_with fail
      refine (rtoken_any (ofL b) w2 (by rw [ofL_size]; omega)).mono ?_
      rintro e w' ⟨rfl, rfl⟩
      rw [toL_ofL]
      cases ht : token b with
      | false =>
        rw [ht] at HE2
        have HE3 := HE2
        clear HE2 ht
        go_wp2_with fail
        go_ret2
        exact hR _ _ ⟨by rw [HE3.out]; rfl, HB2.out⟩
      | true =>
        rw [ht] at HE2
        have HE3 := HE2
        clear HE2 ht
        go_wp2_with fail
        go_ret2
        exact hR _ _ ⟨by rw [HE3.out]; rfl, HB2.out⟩
  · rw [htk] at HE
    obtain ⟨A, c, rfl, hc⟩ := ho2.slice
    obtain ⟨L, hL⟩ : ∃ L, (split E 47).length = L := ⟨_, rfl⟩
    rw [hL] at hlen ⊢
    have hbe : ((L : Int) != 2) = true := by rw [bne_iff_ne]; omega
    clear ho2 hL htk HES hlen hc
    go_wp2_with fail
    go_ret2
    exact hR _ _ ⟨by rw [HE.out]; rfl, HB2.out⟩
end Go.Proofs.YtalbadmefpdldaaDoor.Asc
