/-
  Contracts: an origin's text, of the program and of the document.
  Lengths within the rows' own reach.
-/
import Derived.Test.YtalbadmefpdldaaDoorCorF
namespace Go.Proofs.YtalbadmefpdldaaDoor.Asc
open Go Go.RowKit Go.Proofs.YtalbadmefpdldaaDoor.Pb

/-- an origin: scheme, host, port -/
abbrev Og := Tx × Tx × Int
def org : Rp Og := Rp.str.pair (Rp.str.pair Rp.int)
theorem org_rep {w : World} {F : Nat → Prop} {x : Og} {cs : List Value} (h : org.rep w F x cs) : cs = [.string (ofL x.1), .string (ofL x.2.1), .int .i64 x.2.2] := by
  obtain ⟨c1, c2, rfl, rfl, d1, d2, rfl, rfl, rfl⟩ := h
  rfl
def httpT : Tx := [104, 116, 116, 112]
def wsT : Tx := [119, 115]
def httpsT : Tx := [104, 116, 116, 112, 115]
def wssT : Tx := [119, 115, 115]
def ftpT : Tx := [102, 116, 112]
def dfl (S : Tx) : Int × Bool := if S == httpT || S == wsT then (80, true) else if S == httpsT || S == wssT then (443, true) else if S == ftpT then (21, true) else (0, false)
def nullT : Tx := [110, 117, 108, 108]
def sepT : Tx := [58, 47, 47]
def originN (S H : Tx) (P : Int) : Tx := if S.isEmpty && H.isEmpty && P == 0 then nullT else S ++ sepT ++ H ++ (if (dfl S).2 && (dfl S).1 == P then [] else 58 :: decimal P)
theorem origin_nostar (S H : Tx) (P : Int) : (originN S H P == starT) = false := by
  rw [beq_eq_false_iff_ne]
  intro e
  have hl := congrArg List.length e
  unfold originN at hl
  split at hl
  · simp [nullT, starT] at hl
  · simp [sepT, starT] at hl; omega

theorem default_any (S : ByteArray) (w : World) :
    Calls Tryd.prog 61 #[.string S] w fun e w' => e = .returned (.tuple #[.int .i64 (dfl (toL S)).1, .bool (dfl (toL S)).2]) ∧ w = w' := by
  refine calls_gen fun R hR => ?_
  have k1 : (S.toList == [104, 116, 116, 112]) = (toL S == httpT) := by rw [toList_toL]; rfl
  have k2 : (S.toList == [119, 115]) = (toL S == wsT) := by rw [toList_toL]; rfl
  have k3 : (S.toList == [104, 116, 116, 112, 115]) = (toL S == httpsT) := by rw [toList_toL]; rfl
  have k4 : (S.toList == [119, 115, 115]) = (toL S == wssT) := by rw [toList_toL]; rfl
  have k5 : (S.toList == [102, 116, 112]) = (toL S == ftpT) := by rw [toList_toL]; rfl
  have HD : Hid (dfl (toL S) = if toL S == httpT || toL S == wsT then (80, true) else if toL S == httpsT || toL S == wssT then (443, true) else if toL S == ftpT then (21, true) else (0, false)) := rfl
  obtain ⟨D, hD⟩ : ∃ D, dfl (toL S) = D := ⟨_, rfl⟩
  rw [hD] at HD hR
  clear hD
  cases b1 : (toL S == httpT) <;> cases b2 : (toL S == wsT) <;> cases b3 : (toL S == httpsT) <;> cases b4 : (toL S == wssT) <;> cases b5 : (toL S == ftpT)
  all_goals
    rw [b1] at k1; rw [b2] at k2; rw [b3] at k3; rw [b4] at k4; rw [b5] at k5
    rw [b1, b2, b3, b4, b5] at HD
    clear b1 b2 b3 b4 b5
    go_enter Tryd.func61, Tryd.ntmps61
    go_wp2_with fail
    go_ret2
    refine hR _ _ ⟨?_, rfl⟩
    rw [HD.out]; rfl
theorem rdefault_any (S : ByteArray) (w : World) :
    Calls Tryd.prog 44 #[.string S] w fun e w' => e = .returned (.tuple #[.int .i64 (dfl (toL S)).1, .bool (dfl (toL S)).2]) ∧ w = w' := by
  refine calls_gen fun R hR => ?_
  have k1 : (S.toList == [104, 116, 116, 112]) = (toL S == httpT) := by rw [toList_toL]; rfl
  have k2 : (S.toList == [119, 115]) = (toL S == wsT) := by rw [toList_toL]; rfl
  have k3 : (S.toList == [104, 116, 116, 112, 115]) = (toL S == httpsT) := by rw [toList_toL]; rfl
  have k4 : (S.toList == [119, 115, 115]) = (toL S == wssT) := by rw [toList_toL]; rfl
  have k5 : (S.toList == [102, 116, 112]) = (toL S == ftpT) := by rw [toList_toL]; rfl
  have HD : Hid (dfl (toL S) = if toL S == httpT || toL S == wsT then (80, true) else if toL S == httpsT || toL S == wssT then (443, true) else if toL S == ftpT then (21, true) else (0, false)) := rfl
  obtain ⟨D, hD⟩ : ∃ D, dfl (toL S) = D := ⟨_, rfl⟩
  rw [hD] at HD hR
  clear hD
  cases b1 : (toL S == httpT) <;> cases b2 : (toL S == wsT) <;> cases b3 : (toL S == httpsT) <;> cases b4 : (toL S == wssT) <;> cases b5 : (toL S == ftpT)
  all_goals
    rw [b1] at k1; rw [b2] at k2; rw [b3] at k3; rw [b4] at k4; rw [b5] at k5
    rw [b1, b2, b3, b4, b5] at HD
    clear b1 b2 b3 b4 b5
    go_enter Tryd.func44, Tryd.ntmps44
    go_wp2_with fail
    go_ret2
    refine hR _ _ ⟨?_, rfl⟩
    rw [HD.out]; rfl

theorem decimal_small (P : Int) (h0 : 0 ≤ P) (h1 : P ≤ 65535) : (decimal P).length ≤ 30 := by
  unfold decimal
  have := digs_len 20 (P.natAbs / 10)
  rw [List.length_append, List.length_reverse, List.length_cons]
  split <;> simp <;> omega

theorem cat_toL (a b : ByteArray) : toL (a ++ b) = toL a ++ toL b := by
  unfold toL
  rw [ByteArray.data_append, Array.toList_append]

set_option maxHeartbeats 4000000 in
theorem otext_any (S H : ByteArray) (P : Int) (w : World) (hS : S.size ≤ 1000) (hH : H.size ≤ 1000) (h0 : 0 ≤ P) (h1 : P ≤ 65535) :
    Calls Tryd.prog 39 #[.agg #[.string S, .string H, .int .i64 P]] w fun e w' => e = .returned (.string (ofL (originN (toL S) (toL H) P))) ∧ Below w.heap.size w w' := by
  refine calls_gen fun R hR => ?_
  have HD := Lib.hid (decimal_small P h0 h1)
  have H01 : Hid (-9223372036854775808 ≤ P ∧ P ≤ 9223372036854775807) := Lib.hid ⟨by omega, by omega⟩
  have HZ : Hid ((toL S).isEmpty && (toL H).isEmpty && P == 0 → originN (toL S) (toL H) P = nullT) := Lib.hid fun h => by unfold originN; rw [if_pos h]
  have HNZ : Hid (((toL S).isEmpty && (toL H).isEmpty && P == 0) = false → originN (toL S) (toL H) P = toL S ++ sepT ++ toL H ++ (if (dfl (toL S)).2 && (dfl (toL S)).1 == P then [] else 58 :: decimal P)) := Lib.hid fun h => by unfold originN; rw [if_neg (by rw [h]; simp)]
  obtain ⟨O, hO⟩ : ∃ O, originN (toL S) (toL H) P = O := ⟨_, rfl⟩
  rw [hO] at HZ HNZ hR
  clear hO
  go_enter Tryd.func39, Tryd.ntmps39
  obtain ⟨w1, hw1⟩ : ∃ w1, w.alloc (.cells #[.string S, .string H, .int .i64 P] 39) = w1 := ⟨_, rfl⟩
  have g1 := blk_new w (.cells #[.string S, .string H, .int .i64 P] 39)
  have hb1 := below_new w (.cells #[.string S, .string H, .int .i64 P] 39)
  rw [hw1] at g1 hb1
  obtain ⟨sb, hsb⟩ : ∃ sb, w.heap.size = sb := ⟨_, rfl⟩
  have HB1 := Lib.hid hb1; have HW1 := Lib.hid hw1; have HSB := Lib.hid hsb
  rw [hsb] at g1
  have d0 := blk_cell g1 0
  have d1 := blk_cell g1 1
  have d2 := blk_cell g1 2
  simp at d0 d1 d2
  have hl1 := blk_lt g1
  clear g1 hb1 hw1 hsb
  obtain ⟨Z, hZ⟩ : ∃ Z, ((toL S).isEmpty && (toL H).isEmpty && P == 0) = Z := ⟨_, rfl⟩
  have HZZ := Lib.hid hZ
  rw [hZ] at HZ HNZ
  clear hZ
  go_upto_region 1 with fail
  rw [HW1.out, HSB.out]
  go_cut [8] (fun v wc => v = .bool Z ∧ wc = w1)
  case first =>
    have eS : (S.toList = []) ↔ ((toL S).isEmpty = true) := by rw [toList_toL, List.isEmpty_iff]
    have eH : (H.toList = []) ↔ ((toL H).isEmpty = true) := by rw [toList_toL, List.isEmpty_iff]
    by_cases z1 : S.toList = []
    · by_cases z2 : H.toList = []
      · by_cases z3 : P = 0
        · have HE : Hid (true = Z) := Lib.hid (by rw [← HZZ.out, eS.1 z1, eH.1 z2, z3]; rfl)
          clear eS eH
          go_wp2_with fail
          go_meet
          exact ⟨congrArg Value.bool HE.out, rfl⟩
        · have HE : Hid (false = Z) := Lib.hid (by rw [← HZZ.out, beq_eq_false_iff_ne.2 z3, Bool.and_false])
          clear eS eH
          go_wp2_with fail
          go_meet
          exact ⟨congrArg Value.bool HE.out, rfl⟩
      · have HE : Hid (false = Z) := Lib.hid (by rw [← HZZ.out, Bool.eq_false_iff.2 (fun h => z2 (eH.2 h)), Bool.and_false, Bool.false_and])
        clear eS eH
        go_wp2_with fail
        go_meet
        exact ⟨congrArg Value.bool HE.out, rfl⟩
    · have HE : Hid (false = Z) := Lib.hid (by rw [← HZZ.out, Bool.eq_false_iff.2 (fun h => z1 (eS.2 h)), Bool.false_and, Bool.false_and])
      clear eS eH
      go_wp2_with fail
      go_meet
      exact ⟨congrArg Value.bool HE.out, rfl⟩
  case rest =>
    obtain ⟨rfl, hwc⟩ := hcut
    rw [hwc]
    clear hwc wc
    cases hz : Z with
    | true =>
      have HO := Lib.hid (HZ.out hz)
      clear hz
      go_wp2_with fail
      go_ret
      exact hR _ _ ⟨ret_str (by rw [HO.out]; rfl), HB1.out⟩
    | false =>
      have HO := Lib.hid (HNZ.out hz)
      clear hz HZ HNZ HZZ
      obtain ⟨dn, hdn⟩ : ∃ dn, (dfl (toL S)).1 = dn := ⟨_, rfl⟩
      obtain ⟨db, hdb⟩ : ∃ db, (dfl (toL S)).2 = db := ⟨_, rfl⟩
      rw [hdn, hdb] at HO
      have HDN := Lib.hid hdn; have HDB := Lib.hid hdb
      clear hdn hdb
      obtain ⟨DD, hDD⟩ : ∃ DD, ofL (decimal P) = DD := ⟨_, rfl⟩
      have hDs : DD.size ≤ 30 := by rw [← hDD, ofL_size]; exact HD.out
      have HDD := Lib.hid hDD
      have HTD : Hid (toL DD = decimal P) := Lib.hid (by rw [← hDD, toL_ofL])
      clear hDD
      go_wp2_with fail
      refine (default_any S w1).mono ?_
      rintro e w2 ⟨rfl, hw2⟩
      rw [← hw2, HDN.out, HDB.out]
      clear hw2 w2
      by_cases hp : db = true ∧ dn = P
      · obtain ⟨rfl, rfl⟩ := hp
        have HO2 : Hid (O = toL S ++ sepT ++ toL H) := Lib.hid (by rw [HO.out]; simp)
        go_wp2_with fail
        go_ret
        refine hR _ _ ⟨ret_str (toL_inj ?_), HB1.out⟩
        rw [toL_ofL, HO2.out, cat_toL, cat_toL]; rfl
      · have HO2 : Hid (O = toL S ++ sepT ++ toL H ++ 58 :: decimal P) := Lib.hid (by
          rw [HO.out, if_neg]
          intro h
          rw [Bool.and_eq_true, beq_iff_eq] at h
          exact hp h)
        cases db with
        | false =>
          clear hp
          go_wp2_with fail
          refine (decimal_any P w1 H01.out.1 H01.out.2).mono ?_
          rintro e w3 ⟨rfl, hb3⟩
          rw [HDD.out]
          have HB3 := Lib.hid (HB1.out.trans (hb3.mono HB1.out.size))
          clear hb3
          go_wp2_with fail
          go_ret
          refine hR _ _ ⟨ret_str (toL_inj ?_), HB3.out⟩
          rw [toL_ofL, HO2.out]
          simp only [cat_toL, HTD.out]
          simp [toL, sepT]
        | true =>
          have hpn : ¬ dn = P := fun h => hp ⟨rfl, h⟩
          clear hp
          go_wp2_with fail
          refine (decimal_any P w1 H01.out.1 H01.out.2).mono ?_
          rintro e w3 ⟨rfl, hb3⟩
          rw [HDD.out]
          have HB3 := Lib.hid (HB1.out.trans (hb3.mono HB1.out.size))
          clear hb3
          go_wp2_with fail
          go_ret
          refine hR _ _ ⟨ret_str (toL_inj ?_), HB3.out⟩
          rw [toL_ofL, HO2.out]
          simp only [cat_toL, HTD.out]
          simp [toL, sepT]
set_option maxHeartbeats 4000000 in
theorem rotext_any (S H : ByteArray) (P : Int) (w : World) (hS : S.size ≤ 1000) (hH : H.size ≤ 1000) (h0 : 0 ≤ P) (h1 : P ≤ 65535) :
    Calls Tryd.prog 27 #[.agg #[.string S, .string H, .int .i64 P]] w fun e w' => e = .returned (.string (ofL (originN (toL S) (toL H) P))) ∧ Below w.heap.size w w' := by
  refine calls_gen fun R hR => ?_
  have HD := Lib.hid (decimal_small P h0 h1)
  have H01 : Hid (-9223372036854775808 ≤ P ∧ P ≤ 9223372036854775807) := Lib.hid ⟨by omega, by omega⟩
  have HZ : Hid ((toL S).isEmpty && (toL H).isEmpty && P == 0 → originN (toL S) (toL H) P = nullT) := Lib.hid fun h => by unfold originN; rw [if_pos h]
  have HNZ : Hid (((toL S).isEmpty && (toL H).isEmpty && P == 0) = false → originN (toL S) (toL H) P = toL S ++ sepT ++ toL H ++ (if (dfl (toL S)).2 && (dfl (toL S)).1 == P then [] else 58 :: decimal P)) := Lib.hid fun h => by unfold originN; rw [if_neg (by rw [h]; simp)]
  obtain ⟨O, hO⟩ : ∃ O, originN (toL S) (toL H) P = O := ⟨_, rfl⟩
  rw [hO] at HZ HNZ hR
  clear hO
  go_enter Tryd.func27, Tryd.ntmps27
  obtain ⟨w1, hw1⟩ : ∃ w1, w.alloc (.cells #[.string S, .string H, .int .i64 P] 39) = w1 := ⟨_, rfl⟩
  have g1 := blk_new w (.cells #[.string S, .string H, .int .i64 P] 39)
  have hb1 := below_new w (.cells #[.string S, .string H, .int .i64 P] 39)
  rw [hw1] at g1 hb1
  obtain ⟨sb, hsb⟩ : ∃ sb, w.heap.size = sb := ⟨_, rfl⟩
  have HB1 := Lib.hid hb1; have HW1 := Lib.hid hw1; have HSB := Lib.hid hsb
  rw [hsb] at g1
  have d0 := blk_cell g1 0
  have d1 := blk_cell g1 1
  have d2 := blk_cell g1 2
  simp at d0 d1 d2
  have hl1 := blk_lt g1
  clear g1 hb1 hw1 hsb
  obtain ⟨Z, hZ⟩ : ∃ Z, ((toL S).isEmpty && (toL H).isEmpty && P == 0) = Z := ⟨_, rfl⟩
  have HZZ := Lib.hid hZ
  rw [hZ] at HZ HNZ
  clear hZ
  go_upto_region 1 with fail
  rw [HW1.out, HSB.out]
  go_cut [8] (fun v wc => v = .bool Z ∧ wc = w1)
  case first =>
    have eS : (S.toList = []) ↔ ((toL S).isEmpty = true) := by rw [toList_toL, List.isEmpty_iff]
    have eH : (H.toList = []) ↔ ((toL H).isEmpty = true) := by rw [toList_toL, List.isEmpty_iff]
    by_cases z1 : S.toList = []
    · by_cases z2 : H.toList = []
      · by_cases z3 : P = 0
        · have HE : Hid (true = Z) := Lib.hid (by rw [← HZZ.out, eS.1 z1, eH.1 z2, z3]; rfl)
          clear eS eH
          go_wp2_with fail
          go_meet
          exact ⟨congrArg Value.bool HE.out, rfl⟩
        · have HE : Hid (false = Z) := Lib.hid (by rw [← HZZ.out, beq_eq_false_iff_ne.2 z3, Bool.and_false])
          clear eS eH
          go_wp2_with fail
          go_meet
          exact ⟨congrArg Value.bool HE.out, rfl⟩
      · have HE : Hid (false = Z) := Lib.hid (by rw [← HZZ.out, Bool.eq_false_iff.2 (fun h => z2 (eH.2 h)), Bool.and_false, Bool.false_and])
        clear eS eH
        go_wp2_with fail
        go_meet
        exact ⟨congrArg Value.bool HE.out, rfl⟩
    · have HE : Hid (false = Z) := Lib.hid (by rw [← HZZ.out, Bool.eq_false_iff.2 (fun h => z1 (eS.2 h)), Bool.false_and, Bool.false_and])
      clear eS eH
      go_wp2_with fail
      go_meet
      exact ⟨congrArg Value.bool HE.out, rfl⟩
  case rest =>
    obtain ⟨rfl, hwc⟩ := hcut
    rw [hwc]
    clear hwc wc
    cases hz : Z with
    | true =>
      have HO := Lib.hid (HZ.out hz)
      clear hz
      go_wp2_with fail
      go_ret
      exact hR _ _ ⟨ret_str (by rw [HO.out]; rfl), HB1.out⟩
    | false =>
      have HO := Lib.hid (HNZ.out hz)
      clear hz HZ HNZ HZZ
      obtain ⟨dn, hdn⟩ : ∃ dn, (dfl (toL S)).1 = dn := ⟨_, rfl⟩
      obtain ⟨db, hdb⟩ : ∃ db, (dfl (toL S)).2 = db := ⟨_, rfl⟩
      rw [hdn, hdb] at HO
      have HDN := Lib.hid hdn; have HDB := Lib.hid hdb
      clear hdn hdb
      obtain ⟨DD, hDD⟩ : ∃ DD, ofL (decimal P) = DD := ⟨_, rfl⟩
      have hDs : DD.size ≤ 30 := by rw [← hDD, ofL_size]; exact HD.out
      have HDD := Lib.hid hDD
      have HTD : Hid (toL DD = decimal P) := Lib.hid (by rw [← hDD, toL_ofL])
      clear hDD
      go_wp2_with fail
      refine (rdefault_any S w1).mono ?_
      rintro e w2 ⟨rfl, hw2⟩
      rw [← hw2, HDN.out, HDB.out]
      clear hw2 w2
      by_cases hp : db = true ∧ dn = P
      · obtain ⟨rfl, rfl⟩ := hp
        have HO2 : Hid (O = toL S ++ sepT ++ toL H) := Lib.hid (by rw [HO.out]; simp)
        go_wp2_with fail
        go_ret
        refine hR _ _ ⟨ret_str (toL_inj ?_), HB1.out⟩
        rw [toL_ofL, HO2.out, cat_toL, cat_toL]; rfl
      · have HO2 : Hid (O = toL S ++ sepT ++ toL H ++ 58 :: decimal P) := Lib.hid (by
          rw [HO.out, if_neg]
          intro h
          rw [Bool.and_eq_true, beq_iff_eq] at h
          exact hp h)
        cases db with
        | false =>
          clear hp
          go_wp2_with fail
          refine (rdecimal_any P w1 H01.out.1 H01.out.2).mono ?_
          rintro e w3 ⟨rfl, hb3⟩
          rw [HDD.out]
          have HB3 := Lib.hid (HB1.out.trans (hb3.mono HB1.out.size))
          clear hb3
          go_wp2_with fail
          go_ret
          refine hR _ _ ⟨ret_str (toL_inj ?_), HB3.out⟩
          rw [toL_ofL, HO2.out]
          simp only [cat_toL, HTD.out]
          simp [toL, sepT]
        | true =>
          have hpn : ¬ dn = P := fun h => hp ⟨rfl, h⟩
          clear hp
          go_wp2_with fail
          refine (rdecimal_any P w1 H01.out.1 H01.out.2).mono ?_
          rintro e w3 ⟨rfl, hb3⟩
          rw [HDD.out]
          have HB3 := Lib.hid (HB1.out.trans (hb3.mono HB1.out.size))
          clear hb3
          go_wp2_with fail
          go_ret
          refine hR _ _ ⟨ret_str (toL_inj ?_), HB3.out⟩
          rw [toL_ofL, HO2.out]
          simp only [cat_toL, HTD.out]
          simp [toL, sepT]
end Go.Proofs.YtalbadmefpdldaaDoor.Asc
