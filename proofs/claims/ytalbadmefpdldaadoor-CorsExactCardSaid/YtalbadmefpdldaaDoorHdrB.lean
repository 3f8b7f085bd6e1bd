/-
  Contracts of package header's tests of bytes, of every, of Essence, and of the reference's.
  Lengths within the rows' own reach.
-/
import Derived.Test.YtalbadmefpdldaaDoorHdrA
import Derived.Test.YtalbadmefpdldaaDoorHdrP
namespace Go.Proofs.YtalbadmefpdldaaDoor.Asc
open Go Go.RowKit Go.Proofs.YtalbadmefpdldaaDoor.Pb

def isCtl (c : UInt8) : Bool := decide (c.toNat < 32) && !decide (c.toNat = 9) || decide (c.toNat = 127)
/-- "():<>?@[\]{} -/
def unsafes : List UInt8 := [34, 40, 41, 58, 60, 62, 63, 64, 91, 92, 93, 123, 125]
def isSafe (c : UInt8) : Bool := !hasB unsafes c && !isCtl c
/-- blank*,-.;= -/
def langs : List UInt8 := [32, 42, 44, 45, 46, 59, 61]
def isLang (c : UInt8) : Bool := isLet c || isDig c || hasB langs c

theorem control_any (c : UInt8) (w : World) :
    Calls Tryd.prog 75 #[.int .u8 c.toNat] w fun e w' => e = .returned (.bool (isCtl c)) ∧ w = w' := by
  refine calls_gen fun R hR => ?_
  go_enter Tryd.func75, Tryd.ntmps75
  go_wp2
  all_goals
    go_ret
    refine hR _ _ ⟨ret_bool ?_, rfl⟩
    unfold isCtl
    first | (simp; done) | (simp; omega) | (rw [Bool.eq_iff_iff]; simp; omega)
theorem safe_any (c : UInt8) (w : World) :
    Calls Tryd.prog 65 #[.int .u8 c.toNat] w fun e w' => e = .returned (.bool (isSafe c)) ∧ w = w' := by
  refine calls_gen fun R hR => ?_
  have hh : hasB unsafes c = (decide ((c.toNat : Int) = 34) || decide ((c.toNat : Int) = 40) || decide ((c.toNat : Int) = 41) || decide ((c.toNat : Int) = 58) || decide ((c.toNat : Int) = 60) || decide ((c.toNat : Int) = 62) || decide ((c.toNat : Int) = 63) || decide ((c.toNat : Int) = 64) || decide ((c.toNat : Int) = 91) || decide ((c.toNat : Int) = 92) || decide ((c.toNat : Int) = 93) || decide ((c.toNat : Int) = 123) || decide ((c.toNat : Int) = 125)) := by
    have h : ∀ (a : UInt8) (n : Nat), a.toNat = n → (c == a) = decide ((c.toNat : Int) = (n : Int)) := by
      intro a n hn; rw [Bool.eq_iff_iff, beq_iff_eq, decide_eq_true_iff, ← UInt8.toNat_inj, hn]; omega
    unfold hasB unsafes
    simp only [List.contains_cons, List.contains_nil, Bool.or_false]
    rw [h 34 34 rfl, h 40 40 rfl, h 41 41 rfl, h 58 58 rfl, h 60 60 rfl, h 62 62 rfl, h 63 63 rfl, h 64 64 rfl, h 91 91 rfl, h 92 92 rfl, h 93 93 rfl, h 123 123 rfl, h 125 125 rfl]
    simp [Bool.or_assoc]
  have hc := Lib.hid (control_any c w)
  have hs : Hid (isSafe c = (!hasB unsafes c && !isCtl c)) := rfl
  obtain ⟨C, hC⟩ : ∃ C, isCtl c = C := ⟨_, rfl⟩
  rw [hC] at hc hs
  obtain ⟨n, hn⟩ : ∃ n : Int, (c.toNat : Int) = n := ⟨_, rfl⟩
  rw [hh] at hs
  rw [hn] at hc hs ⊢
  have HS := hs
  clear hh hC hn hs
  obtain ⟨S, hS⟩ : ∃ S, isSafe c = S := ⟨_, rfl⟩
  rw [hS] at HS hR
  clear hS
  go_enter Tryd.func65, Tryd.ntmps65
  go_wp2_with (first
    | (go_at_call 75; refine hc.out.mono ?_; rintro e w' ⟨rfl, rfl⟩))
  all_goals
    go_ret
    refine hR _ _ ⟨ret_bool ?_, rfl⟩
    rw [HS.out]
    simp_all

theorem language_any (c : UInt8) (w : World) :
    Calls Tryd.prog 66 #[.int .u8 c.toNat] w fun e w' => e = .returned (.bool (isLang c)) ∧ w = w' := by
  refine calls_gen fun R hR => ?_
  go_enter Tryd.func66, Tryd.ntmps66
  go_wp2_with (first
    | (go_at_call 57; refine (ascii_IndexByte _ c _).mono ?_; rintro e w' ⟨j, rfl, rfl, hj⟩; have HJ := Lib.hid hj; clear hj))
  all_goals
    go_ret
    refine hR _ _ ⟨ret_bool ?_, rfl⟩
    unfold isLang isLet isDig
    first
      | (rw [show hasB langs c = _ from HJ.out.symm]; rw [Bool.eq_iff_iff]; simp; omega)
      | (rw [Bool.eq_iff_iff]; simp; omega)
      | (simp; omega)

set_option maxHeartbeats 400000 in
/-- header.every, by whatever function that answers p -/
theorem every_any (fid : FuncId) (hent : ∀ (xs : Array Value) (w : World), (callFunc fid xs).run Tryd.prog w = .ok (.enter fid xs) w) (p : UInt8 → Bool) (s : ByteArray) (w : World) (hs : s.size ≤ 140737488351232)
    (hp : ∀ (c : UInt8) (w1 : World), Calls Tryd.prog fid #[.int .u8 c.toNat] w1 fun e w2 => e = .returned (.bool (p c)) ∧ w1 = w2) :
    Calls Tryd.prog 64 #[.string s, .func (.func fid) #[] #[]] w fun e w' => e = .returned (.bool ((toL s).all p)) ∧ w = w' := by
  refine calls_gen fun R hR => ?_
  have HENT := Lib.hid hent; have HP := Lib.hid hp
  clear hent hp
  go_enter Tryd.func64, Tryd.ntmps64
  go_wp2_with fail
  go_loop [4, 5, 8] (fun _ _ i => ∃ k : Nat, k ≤ s.size ∧ i = .int .i64 k ∧ Hid (((toL s).take k).all p = true)) (fun _ _ i => s.size - (intOf i).toNat)
  case atStart => exact ⟨0, Nat.zero_le _, rfl, by simp [Hid]⟩
  case round =>
    obtain ⟨k, hk, rfl, hall⟩ := hrel
    by_cases hlt : k < s.size
    · go_wp2_with (with_reducible (first | refine stop_callv ?_))
      refine ⟨?_⟩
      have hc := HP.out s[k] w
      refine wp_callv (fid := fid) (caps := #[]) (args' := #[.int .u8 (s[k].toNat : Int)]) (Post := fun e w2 => e = .returned (.bool (p s[k])) ∧ w = w2) HENT.out ?_ ?_ ?cc ?_
      case cc => exact hc
      · rfl
      · simp [Act.eval]
      rintro e w2 ⟨rfl, rfl⟩
      refine ⟨_, rfl, ?_⟩
      clear hc
      cases ht : p s[k]
      · have HT := Lib.hid ht; clear ht
        go_wp2_with fail
        go_ret
        refine hR _ _ ⟨ret_bool ?_, rfl⟩
        symm
        rw [Bool.eq_false_iff]
        intro h5
        have := all_get s k hlt h5
        rw [HT.out] at this; cases this
      · have HT := Lib.hid ht; clear ht
        go_wp2_with fail
        go_round
        case rel => exact ⟨k + 1, by omega, by go_num, Lib.hid (by rw [take_snoc s k hlt, List.all_append, hall.out]; simp [HT.out])⟩
        case measure => simp [intOf]; omega
    · obtain rfl : k = s.size := by omega
      go_wp2_with fail
      go_ret
      refine hR _ _ ⟨ret_bool ?_, rfl⟩
      have := hall.out
      rw [take_all] at this
      rw [this]

/-- strings.Cut at a byte -/
theorem cut_any (s : ByteArray) (c : UInt8) (m : Int) (w : World) (hs : s.size ≤ 1000000) (hm : w.cell? ⟨0, 0, none⟩ = some (.int .i64 m)) :
    Calls Tryd.prog 76 #[.string s, .string ⟨#[c]⟩] w fun e w' => ∃ b, e = .returned (.tuple #[.string (ofL (cutAt c (toL s)).1), .string (ofL (cutAt c (toL s)).2), .bool b]) ∧ ∃ n, w' = w.drewN n := by
  refine (Tryd.strings_Cut s ⟨#[c]⟩ m w (by omega) hm).mono ?_
  rintro e w' ⟨rfl, hw⟩
  obtain ⟨h1, h2⟩ := lib_cut c (toL s)
  refine ⟨(Lib.cut (toL s) [c]).2.2, ?_, hw⟩
  rw [← h1, ← h2]; rfl

set_option maxHeartbeats 400000 in
/-- header.Essence -/
theorem essence_any (s : ByteArray) (m : Int) (w : World) (hs : s.size ≤ 1000000) (hm : w.cell? ⟨0, 0, none⟩ = some (.int .i64 m)) :
    Calls Tryd.prog 67 #[.string s] w fun e w' => e = .returned (.tuple #[.string (ofL (essence (toL s)).1), .bool (essence (toL s)).2]) ∧ Below w.heap.size w w' := by
  refine calls_gen fun R hR => ?_
  have hml := World.block_lt_of_cell? w _ hm
  have HM := Lib.hid hm; have HML := Lib.hid hml
  clear hm hml
  go_enter Tryd.func67, Tryd.ntmps67
  go_wp2_with fail
  refine (cut_any s 59 m w hs HM.out).mono ?_
  rintro e w1 ⟨b1, rfl, n1, rfl⟩
  obtain ⟨S1, hS1⟩ : ∃ S, ofL (cutAt 59 (toL s)).1 = S := ⟨_, rfl⟩
  have h1 : toL S1 = (cutAt 59 (toL s)).1 := by rw [← hS1, toL_ofL]
  have h1s : S1.size ≤ 1000000 := by
    rw [← toL_len, h1]; unfold cutAt
    have := (List.takeWhile_sublist (· != (59 : UInt8)) (l := toL s)).length_le
    rw [toL_len] at this; simp only; omega
  have H1 := Lib.hid h1
  rw [hS1]
  obtain ⟨T1, hT1⟩ : ∃ S, ofL (cutAt 59 (toL s)).2 = S := ⟨_, rfl⟩
  rw [hT1]
  have hb1 : Hid (Below w.heap.size w (w.drewN n1)) := Lib.hid ((Below.refl _ _).drewN n1)
  obtain ⟨wa, hwa⟩ : ∃ wa, w.drewN n1 = wa := ⟨_, rfl⟩
  rw [hwa] at hb1 ⊢
  clear hS1 hT1 h1 hwa
  go_wp2_with fail
  refine (trim_any S1 wa h1s).mono ?_
  rintro e w2 ⟨rfl, hb2⟩
  have hb2' := Lib.hid (hb1.out.trans (hb2.mono hb1.out.size))
  have h2s : (ofL (trim (toL S1))).size ≤ 1000000 := by
    rw [ofL_size]; have := trim_len (toL S1); rw [toL_len] at this; omega
  clear hb2
  go_wp2_with fail
  refine (lower_any _ w2 h2s).mono ?_
  rintro e w3 ⟨rfl, hb3⟩
  have hb3' := Lib.hid (hb2'.out.trans (hb3.mono hb2'.out.size))
  have he : Hid (lower (toL (ofL (trim (toL S1)))) = essIn (toL s)) := Lib.hid (by rw [toL_ofL, H1.out]; rfl)
  rw [he.out]
  obtain ⟨E, hE⟩ : ∃ E, ofL (essIn (toL s)) = E := ⟨_, rfl⟩
  have HE : Hid (toL E = essIn (toL s)) := Lib.hid (by rw [← hE, toL_ofL])
  have hEs : E.size ≤ 1000000 := by
    rw [← hE, ofL_size, ← he.out]; unfold lower; rw [List.length_map, toL_len]; exact h2s
  rw [hE]
  have HES := Lib.hid hE
  clear hE hb3 h2s hb1 hb2'
  go_wp2_with fail
  refine (cut_any E 47 m w3 hEs ((hb3'.out.cell (p := ⟨0, 0, none⟩) HML.out).trans HM.out)).mono ?_
  rintro e w4 ⟨b4, rfl, n4, rfl⟩
  rw [HE.out]
  obtain ⟨Sa, hSa⟩ : ∃ S, ofL (cutAt 47 (essIn (toL s))).1 = S := ⟨_, rfl⟩
  obtain ⟨Sb, hSb⟩ : ∃ S, ofL (cutAt 47 (essIn (toL s))).2 = S := ⟨_, rfl⟩
  have ha : toL Sa = (cutAt 47 (essIn (toL s))).1 := by rw [← hSa, toL_ofL]
  have hb : toL Sb = (cutAt 47 (essIn (toL s))).2 := by rw [← hSb, toL_ofL]
  have hel : (essIn (toL s)).length ≤ 1000000 := by rw [← HE.out, toL_len]; exact hEs
  have has : Sa.size ≤ 1000000 := by
    rw [← toL_len, ha]; unfold cutAt
    have := (List.takeWhile_sublist (· != (47 : UInt8)) (l := essIn (toL s))).length_le
    simp only; omega
  have hbs : Sb.size ≤ 1000000 := by
    rw [← toL_len, hb]; unfold cutAt
    have := (List.dropWhile_sublist (· != (47 : UInt8)) (l := essIn (toL s))).length_le
    simp only [List.length_drop]; omega
  rw [hSa, hSb]
  have HS : Hid (essence (toL s) = if token (toL Sa) && token (toL Sb) then (essIn (toL s), true) else ([], false)) := Lib.hid (by rw [ha, hb]; rfl)
  have HB := Lib.hid (hb3'.out.trans (((Below.refl w3.heap.size w3).drewN n4).mono hb3'.out.size))
  clear ha hb hSa hSb hel
  go_wp2_with fail
  refine (token_any Sa _ has).mono ?_
  rintro e w' ⟨rfl, rfl⟩
  cases ht : token (toL Sa) with
  | false =>
    rw [ht] at HS
    have HS2 := HS
    clear ht HS
    go_wp2_with fail
    go_ret2
    exact hR _ _ ⟨by rw [HS2.out]; rfl, HB.out⟩
  | true =>
    rw [ht] at HS
    have HS2 := HS
    clear ht HS
    go_wp2_with fail
    refine (token_any Sb _ hbs).mono ?_
    rintro e w' ⟨rfl, rfl⟩
    cases ht : token (toL Sb) with
    | false =>
      rw [ht] at HS2
      have HS3 := HS2
      clear ht HS2
      go_wp2_with fail
      go_ret2
      exact hR _ _ ⟨by rw [HS3.out]; rfl, HB.out⟩
    | true =>
      rw [ht] at HS2
      have HS3 := HS2
      clear ht HS2
      go_wp2_with fail
      go_ret2
      exact hR _ _ ⟨by rw [HS3.out]; simp only [Bool.and_self, if_true]; rw [HES.out]; rfl, HB.out⟩
end Go.Proofs.YtalbadmefpdldaaDoor.Asc
