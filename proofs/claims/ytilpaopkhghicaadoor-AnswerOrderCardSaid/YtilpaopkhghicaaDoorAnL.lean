/-
  Contracts: the document's Write; two rows of bytes held against each other.
  Lengths within the rows' own reach.
-/
import Derived.Test.YtilpaopkhghicaaDoorAnJ
namespace Go.Proofs.YtilpaopkhghicaaDoor.Asc
open Go Go.RowKit Go.Proofs.YtilpaopkhghicaaDoor.Pb

theorem view_at {α : Type} {d : Rp α} {w : World} {F : Nat → Prop} {xs : List α} {A : Option Addr} {n c : Nat} (h : View d w F xs (.slice A xs.length c)) (e : n = xs.length) : View d w F xs (.slice A n c) := e ▸ h
theorem linesF_cat (l m : List Fd) : linesF (l ++ m) = linesF l ++ linesF m := by simp [linesF]
theorem answer_doc (st : Int) (b : List UInt8) (c : Bool) (l : List Fd) : answerN st b c l =
    ((((((([72, 84, 84, 80, 47, 49, 46, 49, 32] ++ decimal st) ++ [32]) ++ statusN st) ++ [13, 10]) ++ linesF l) ++ [67, 111, 110, 116, 101, 110, 116, 45, 76, 101, 110, 103, 116, 104, 58, 32] ++ decimal b.length ++ [13, 10]) ++ (if c then [67, 111, 110, 110, 101, 99, 116, 105, 111, 110, 58, 32, 99, 108, 111, 115, 101, 13, 10] else []) ++ [13, 10]) ++ b := by
  unfold answerN extraN
  rw [linesF_cat, linesF_cat]
  cases c <;> simp [linesF, lineF, wLen, wCon, wClose]

set_option maxHeartbeats 8000000 in
set_option maxRecDepth 20000 in
theorem rwrite_any (w : World) (st : Int) (h0 : -9223372036854775808 ≤ st) (h1 : st ≤ 9223372036854775807) (B : ByteArray) (hB : B.size ≤ 10000) (c : Bool) (l : List Fd) (v : Value) (F : Nat → Prop) (hv : View fld w F l v) (hl : fsize l ≤ 6000) :
    Calls Tryd.prog 22 #[.int .i64 st, .string B, .bool c, v] w fun e w' => ∃ v', e = .returned v' ∧ View Rp.u8 w' (fun k => w.heap.size ≤ k) (answerN st (toL B) c l) v' ∧ Below w.heap.size w w' := by
  refine calls_gen fun R hR => ?_
  obtain ⟨A, n, rfl, hcl, hget⟩ := flds_get hv
  have HFS := Lib.hid hl
  have HG := Lib.hid hget
  have hlen := (fsize_mem l hl).1
  clear hv hl hget
  go_enter Tryd.func22, Tryd.ntmps22
  go_wp2_with fail
  refine (rdecimal_any st w h0 h1).mono ?_
  rintro e w1 ⟨rfl, hb1⟩
  obtain ⟨D, hD⟩ : ∃ D, ofL (decimal st) = D := ⟨_, rfl⟩
  have hds : D.size ≤ 22 := by rw [← hD, ofL_size]; exact decimal_lenB st
  have HD : Hid (toL D = decimal st) := Lib.hid (by rw [← hD, toL_ofL])
  have HB1 := Lib.hid hb1
  have HE1 : Hid (Ext w w1) := Lib.hid hb1
  rw [hD]
  clear hb1 hD
  go_wp2_with fail
  refine (reasonB_any w1 st).mono ?_
  rintro e w2 ⟨rfl, hw2⟩
  rw [hw2]
  clear hw2 w2
  obtain ⟨RS, hRS⟩ : ∃ X, ofL (statusN st) = X := ⟨_, rfl⟩
  have hrs : RS.size ≤ 40 := by rw [← hRS, ofL_size]; exact statusN_len st
  have HRS : Hid (toL RS = statusN st) := Lib.hid (by rw [← hRS, toL_ofL])
  rw [hRS]
  clear hRS
  obtain ⟨pr, hpr⟩ : ∃ p, ((([72, 84, 84, 80, 47, 49, 46, 49, 32] ++ decimal st ++ [32]) ++ statusN st) ++ [13, 10]) = p := ⟨_, rfl⟩
  have HPR := Lib.hid hpr
  have hpl : pr.length ≤ 100 := by
    have h1 := statusN_len st
    have h2 := decimal_lenB st
    rw [← hpr]; simp; omega
  clear hpr
  go_upto_region 2 with fail
  have HP0 : Hid (toL ((⟨#[72, 84, 84, 80, 47, 49, 46, 49, 32]⟩ : ByteArray) ++ D ++ ⟨#[32]⟩ ++ RS ++ ⟨#[13, 10]⟩) = pr) := Lib.hid (by
    simp only [toL_cat, HD.out, HRS.out, ← HPR.out]; rfl)
  obtain ⟨P0, hP0⟩ : ∃ x, (⟨#[72, 84, 84, 80, 47, 49, 46, 49, 32]⟩ : ByteArray) ++ D ++ ⟨#[32]⟩ ++ RS ++ ⟨#[13, 10]⟩ = x := ⟨_, rfl⟩
  rw [hP0] at HP0 ⊢
  clear hP0
  go_wp2_with fail
  go_loopw [9, 10] (fun o i wr => ∃ (k : Nat) (O : ByteArray), k ≤ l.length ∧ i = .int .i64 k ∧ o = .string O ∧ toL O = pr ++ linesF (l.take k) ∧ Below w.heap.size w wr) (fun _ i _ => l.length - (intOf i).toNat)
  case atStart => exact ⟨0, P0, Nat.zero_le _, rfl, rfl, by rw [HP0.out]; simp [linesF], HB1.out⟩
  case round =>
    obtain ⟨k, O, hk, rfl, rfl, hO, hb⟩ := hrel
    have HB := Lib.hid hb; have HO := Lib.hid hO
    have hos : O.size ≤ 30000 := by
      rw [← toL_len, hO, List.length_append]
      have h1 := linesF_le l k
      have h2 := fsizeAt_le l (a := k) (b := l.length) hk
      have h3 := HFS.out
      unfold fsize at h3
      omega
    clear hb hO
    by_cases hlt : k < l.length
    · obtain ⟨g, off, rfl, hg, hx⟩ := HG.out k hlt
      obtain ⟨x, he⟩ : ∃ x, l[k]? = some x := ⟨_, List.getElem?_eq_getElem hlt⟩
      obtain ⟨c0, c1⟩ := hx x he
      have d0 := ext_cell HB.out c0
      have d1 := ext_cell HB.out c1
      have HS := Lib.hid (linesF_succ l k x he)
      have hgr : g < wr.heap.size := Nat.lt_of_lt_of_le hg HB.out.size
      have hz := fsizeAt_succ l k x he
      have hz2 := fsizeAt_le l (a := k + 1) (b := l.length) hlt
      have hz3 := HFS.out
      unfold fsize at hz3
      have hl1 : (ofL x.1).size ≤ 6100 := by rw [ofL_size]; omega
      have hl2 : (ofL x.2).size ≤ 6100 := by rw [ofL_size]; omega
      obtain ⟨X1, hX1⟩ : ∃ X, ofL x.1 = X := ⟨_, rfl⟩
      obtain ⟨X2, hX2⟩ : ∃ X, ofL x.2 = X := ⟨_, rfl⟩
      have HX1 : Hid (toL X1 = x.1) := Lib.hid (by rw [← hX1, toL_ofL])
      have HX2 : Hid (toL X2 = x.2) := Lib.hid (by rw [← hX2, toL_ofL])
      rw [hX1] at d0 hl1
      rw [hX2] at d1 hl2
      have hq0 : (0 : Int) ≤ (k : Int) := by omega
      have hq1 : (k : Int) < (l.length : Int) := by omega
      clear hx he c0 c1 hX1 hX2 hz hz2 hz3
      go_wp2_with fail
      go_quiet (fail)
      go_wp2_with fail
      go_roundw
      case rel => exact ⟨k + 1, _, by omega, by go_num, rfl, by simp only [toL_cat, HO.out, HS.out, lineF, HX1.out, HX2.out]; simp [toL], HB.out.drewN _⟩
      case measure => simp [intOf]; omega
    · have hkl : k = l.length := by omega
      have HKL := Lib.hid hkl
      clear hkl
      go_wp2_with fail
      refine (rdecimal_any (B.size : Int) wr (by omega) (by omega)).mono ?_
      rintro e w3 ⟨rfl, hb3⟩
      obtain ⟨D2, hD2⟩ : ∃ D, ofL (decimal (B.size : Int)) = D := ⟨_, rfl⟩
      have hd2 : D2.size ≤ 22 := by rw [← hD2, ofL_size]; exact decimal_lenB _
      have HD2 : Hid (toL D2 = decimal (B.size : Int)) := Lib.hid (by rw [← hD2, toL_ofL])
      have HB3 := Lib.hid (HB.out.trans (hb3.mono HB.out.size))
      have HFI : Hid (∀ Y : ByteArray, toL Y = (((pr ++ linesF l) ++ [67, 111, 110, 116, 101, 110, 116, 45, 76, 101, 110, 103, 116, 104, 58, 32] ++ decimal (B.size : Int) ++ [13, 10]) ++ (if c then [67, 111, 110, 110, 101, 99, 116, 105, 111, 110, 58, 32, 99, 108, 111, 115, 101, 13, 10] else []) ++ [13, 10]) ++ toL B → toL Y = answerN st (toL B) c l) := Lib.hid fun Y hY => by
        rw [hY, answer_doc, ← HPR.out, toL_len]
      have HLN : Hid (∀ cc, (answerN st (toL B) cc l).length = O.size + 16 + D2.size + 2 + (if cc then 19 else 0) + 2 + B.size) := Lib.hid fun cc => by
        have h1 := toL_len O
        rw [HO.out, HKL.out, List.take_length, List.length_append] at h1
        rw [answer_doc, HPR.out, toL_len, ← HD2.out]
        cases cc <;> simp [toL_len] <;> omega
      rw [hD2]
      clear hb3 hD2
      cases c
      all_goals
        go_wp2_with (with_reducible (first | refine stop_convert ?_))
        refine ⟨wp_bytes Tryd.underlying9 Tryd.underlying33 Tryd.underlying5 rfl ?_⟩
        intro cv wv m hc hrow hm hbv hsz
        have hvx := hrow.view (h1 := fun _ => rfl) (c := cv) (by rw [toL_len]; exact hc) (F := fun k => w.heap.size ≤ k) HB3.out.size
        rw [HFI.out _ (by simp only [toL_cat, HO.out, HKL.out, List.take_length, HD2.out]; simp [toL])] at hvx
        have HVX := Lib.hid hvx
        have HBV := Lib.hid (HB3.out.trans (hbv.mono HB3.out.size))
        clear hrow hbv hsz hvx
        go_wp2_with fail
        go_ret
        exact hR _ _ ⟨_, rfl, view_at HVX.out (by rw [HLN.out]; rfl), HBV.out⟩

set_option maxHeartbeats 1000000 in
theorem bytes_any (l m : List UInt8) (v u : Value) (F G : Nat → Prop) (w : World) (hv : View Rp.u8 w F l v) (hu : View Rp.u8 w G m u) (hl : l.length ≤ 140737488351232) (hm : m.length ≤ 140737488351232) :
    Calls Tryd.prog 21 #[v, u] w fun e w' => e = .returned (.bool (l == m)) ∧ Below w.heap.size w w' := by
  refine calls_gen fun R hR => ?_
  obtain ⟨A, c, rfl, hc, hcell⟩ := hv.open1
  obtain ⟨A', c', rfl, hc', hcell'⟩ := hu.open1
  clear hv hu
  have HC := Lib.hid hcell; clear hcell
  have HC' := Lib.hid hcell'; clear hcell'
  by_cases hne : l.length = m.length
  · have h1 : ((l.length : Int) != (m.length : Int)) = false := by rw [bne_eq_false_iff_eq]; omega
    have h1' : (l.length : Int) = (m.length : Int) := by omega
    have HN := Lib.hid hne; clear hne
    go_enter Tryd.func21, Tryd.ntmps21
    go_wp2_with fail
    clear h1
    go_loopw [5] (fun i wr => ∃ k n : Nat, k ≤ l.length ∧ i = .int .i64 k ∧ wr = w.drewN n ∧ Hid (∀ j, j < k → l[j]? = m[j]?)) (fun i _ => l.length - (intOf i).toNat)
    case atStart => exact ⟨0, 0, Nat.zero_le _, rfl, rfl, fun _ h => by omega⟩
    case round =>
      obtain ⟨k, n, hk, rfl, rfl, hall⟩ := hrel
      by_cases hlt : k < l.length
      · obtain ⟨b, off, rfl, hbl, hce⟩ := HC.out k hlt
        obtain ⟨b', off', rfl, hbl', hce'⟩ := HC'.out k (by omega)
        have hlt' : k < m.length := by omega
        obtain ⟨x, hx⟩ : ∃ x, l[k]? = some x := ⟨_, lt_get hlt⟩
        obtain ⟨y, hy⟩ : ∃ y, m[k]? = some y := ⟨_, lt_get hlt'⟩
        have hck := hce k x hx
        have hck' := hce' k y hy
        unfold u8v at hck hck'
        clear hce hce'
        have HX := Lib.hid hx; clear hx
        have HY := Lib.hid hy; clear hy
        by_cases hxy : x = y
        · subst hxy
          go_wp2_with fail
          go_quiet (fail)
          go_wp2_with fail
          go_roundw
          case rel =>
            refine ⟨k + 1, _, by omega, by go_num, rfl, fun j hj => ?_⟩
            by_cases hjk : j = k
            · subst hjk; rw [HX.out, HY.out]
            · exact hall.out j (by omega)
          case measure => simp [intOf]; omega
        · have hxn : ¬ (x.toNat : Int) = (y.toNat : Int) := by rw [Int.natCast_inj, UInt8.toNat_inj]; exact hxy
          go_wp2_with fail
          go_quiet (fail)
          go_wp2_with fail
          go_ret
          refine hR _ _ ⟨ret_bool ?_, Below.drewN (Below.drewN (Below.refl _ _) _) _⟩
          symm
          rw [beq_eq_false_iff_ne]
          rintro rfl
          have := HX.out; rw [HY.out] at this; cases this
          exact hxy rfl
      · go_wp2_with fail
        go_ret
        refine hR _ _ ⟨ret_bool ?_, Below.drewN (Below.refl _ _) _⟩
        symm
        rw [beq_iff_eq]
        have hn := HN.out
        apply List.ext_getElem?
        intro j
        by_cases hj : j < k
        · exact hall.out j hj
        · rw [List.getElem?_eq_none (by omega), List.getElem?_eq_none (by omega)]
  · have h1 : ¬ (l.length : Int) = (m.length : Int) := by omega
    have hlm : Hid ((l == m) = false) := Lib.hid (by rw [beq_eq_false_iff_ne]; rintro rfl; exact hne rfl)
    go_enter Tryd.func21, Tryd.ntmps21
    go_wp2_with fail
    go_ret
    exact hR _ _ ⟨by rw [hlm.out]; rfl, Below.refl _ _⟩
end Go.Proofs.YtilpaopkhghicaaDoor.Asc
