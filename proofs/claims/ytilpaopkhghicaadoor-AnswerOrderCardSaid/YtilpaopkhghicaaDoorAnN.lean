/-
  Contract: a query as a text, the document's.
  Lengths within the rows' own reach.
-/
import Derived.Test.YtilpaopkhghicaaDoorAnM
namespace Go.Proofs.YtilpaopkhghicaaDoor.Asc
open Go Go.RowKit Go.Proofs.YtilpaopkhghicaaDoor.Pb

/-- a line, if it is one -/
def addN (is : Bool) (l : List UInt8) : List UInt8 := if is then l ++ [10] else []
def hdL (f : Fd) : List UInt8 := ([104, 101, 97, 100, 101, 114, 32] ++ f.1 ++ [58, 32]) ++ f.2
def hdsL (l : List Fd) : List UInt8 := (l.map fun f => hdL f ++ [10]).flatten
def tx0 (q : Qr) : List UInt8 := [117, 114, 108, 32] ++ q.url ++ [10]
def tx1 (q : Qr) : List UInt8 := tx0 q ++ addN (!q.doc.isEmpty) ([100, 111, 99, 32] ++ q.doc)
def tx2 (q : Qr) : List UInt8 := tx1 q ++ addN (!q.dest.isEmpty) ([100, 101, 115, 116, 32] ++ q.dest)
def tx3 (q : Qr) : List UInt8 := tx2 q ++ addN (!(q.meth == wGet)) ([109, 101, 116, 104, 111, 100, 32] ++ q.meth)
def tx4 (q : Qr) : List UInt8 := tx3 q ++ addN q.cors [99, 111, 114, 115]
def tx5 (q : Qr) : List UInt8 := tx4 q ++ addN q.creds [99, 114, 101, 100, 115]
def tx6 (q : Qr) : List UInt8 := tx5 q ++ addN (!(q.redir == 0)) ([114, 101, 100, 105, 114, 101, 99, 116, 32] ++ decimal q.redir)
/-- a query as a text -/
def textN (q : Qr) : List UInt8 := tx6 q ++ hdsL q.hds
/-- its parts are short -/
def QSm (q : Qr) : Prop := q.doc.length ≤ 6000 ∧ q.url.length ≤ 6000 ∧ q.dest.length ≤ 6000 ∧ q.meth.length ≤ 6000 ∧ fsize q.hds ≤ 6000 ∧ -9223372036854775808 ≤ q.redir ∧ q.redir ≤ 9223372036854775807
theorem addN_len (b : Bool) (l : List UInt8) : (addN b l).length ≤ l.length + 1 := by
  unfold addN; cases b <;> simp
theorem tx6_len (q : Qr) (h : QSm q) : (tx0 q).length ≤ 24100 ∧ (tx1 q).length ≤ 24100 ∧ (tx2 q).length ≤ 24100 ∧ (tx3 q).length ≤ 24100 ∧ (tx4 q).length ≤ 24100 ∧ (tx5 q).length ≤ 24100 ∧ (tx6 q).length ≤ 24100 := by
  obtain ⟨h1, h2, h3, h4, _, _, _⟩ := h
  have a1 := addN_len (!q.doc.isEmpty) ([100, 111, 99, 32] ++ q.doc)
  have a2 := addN_len (!q.dest.isEmpty) ([100, 101, 115, 116, 32] ++ q.dest)
  have a3 := addN_len (!(q.meth == wGet)) ([109, 101, 116, 104, 111, 100, 32] ++ q.meth)
  have a4 := addN_len q.cors [99, 111, 114, 115]
  have a5 := addN_len q.creds [99, 114, 101, 100, 115]
  have a6 := addN_len (!(q.redir == 0)) ([114, 101, 100, 105, 114, 101, 99, 116, 32] ++ decimal q.redir)
  have d := decimal_lenB q.redir
  simp only [List.length_append, List.length_cons, List.length_nil] at a1 a2 a3 a4 a5 a6
  unfold tx6 tx5 tx4 tx3 tx2 tx1 tx0
  simp only [List.length_append, List.length_cons, List.length_nil]
  omega
theorem hdsL_succ (l : List Fd) (k : Nat) (x : Fd) (h : l[k]? = some x) : hdsL (l.take (k + 1)) = hdsL (l.take k) ++ (hdL x ++ [10]) := by
  unfold hdsL; rw [List.take_add_one, h]; simp
theorem hdsL_le (l : List Fd) (k : Nat) : (hdsL (l.take k)).length ≤ 10 * l.length + 1 * ((l.take k).map fun x => x.1.length + x.2.length).sum := by
  have hf : ∀ j, j ≤ l.length → (hdsL (l.take j)).length ≤ 10 * j + ((l.take j).map fun x => x.1.length + x.2.length).sum := by
    intro j
    induction j with
    | zero => simp [hdsL]
    | succ j ih =>
      intro hj
      have ih := ih (by omega)
      have hx : l[j]? = some l[j] := List.getElem?_eq_getElem (by omega)
      have e : ((l.take (j + 1)).map fun x => x.1.length + x.2.length).sum = ((l.take j).map fun x => x.1.length + x.2.length).sum + (l[j].1.length + l[j].2.length) := by
        rw [List.take_add_one, hx, List.map_append, List.sum_append]; simp
      rw [hdsL_succ l j _ hx, e]
      simp only [hdL, List.length_append, List.length_cons, List.length_nil]; omega
  by_cases h : k ≤ l.length
  · have := hf k h; omega
  · have := hf l.length (Nat.le_refl _)
    rw [List.take_of_length_le (by omega)]
    rw [List.take_length] at this; omega
theorem hdsL_small (l : List Fd) (k : Nat) (h : fsize l ≤ 6000) : (hdsL (l.take k)).length ≤ 60000 := by
  have h1 := hdsL_le l k
  have h2 : ((l.take k).map fun x => x.1.length + x.2.length).sum + l.length ≤ 6000 := by
    by_cases hk : k ≤ l.length
    · have := fsizeAt_le l hk; unfold fsize at h; unfold fsizeAt at this h; omega
    · rw [List.take_of_length_le (by omega)]; unfold fsize fsizeAt at h; rw [List.take_length] at h; omega
  omega

set_option maxHeartbeats 8000000 in
set_option maxRecDepth 20000 in
theorem rtext_any (w : World) (q : Qr) (v : Value) (F : Nat → Prop) (hq : QSm q) (hv : View fld w F q.hds v) :
    Calls Tryd.prog 18 #[agg8 q v] w fun e w' => e = .returned (.string (ofL (textN q))) ∧ Below w.heap.size w w' := by
  refine calls_gen fun R hR => ?_
  obtain ⟨A, n, rfl, hcl, hget⟩ := flds_get hv
  have HQ := Lib.hid hq
  have HT := Lib.hid (tx6_len q hq)
  have hlen := (fsize_mem q.hds hq.2.2.2.2.1).1
  have r0 := hq.2.2.2.2.2.1
  have r1 := hq.2.2.2.2.2.2
  unfold agg8
  obtain ⟨XD, hXD⟩ : ∃ X, ofL q.doc = X := ⟨_, rfl⟩
  obtain ⟨XU, hXU⟩ : ∃ X, ofL q.url = X := ⟨_, rfl⟩
  obtain ⟨XE, hXE⟩ : ∃ X, ofL q.dest = X := ⟨_, rfl⟩
  obtain ⟨XM, hXM⟩ : ∃ X, ofL q.meth = X := ⟨_, rfl⟩
  have hsd : XD.size ≤ 6000 := by rw [← hXD, ofL_size]; exact hq.1
  have hsu : XU.size ≤ 6000 := by rw [← hXU, ofL_size]; exact hq.2.1
  have hse : XE.size ≤ 6000 := by rw [← hXE, ofL_size]; exact hq.2.2.1
  have hsm : XM.size ≤ 6000 := by rw [← hXM, ofL_size]; exact hq.2.2.2.1
  have HD : Hid (toL XD = q.doc) := Lib.hid (by rw [← hXD, toL_ofL])
  have HU : Hid (toL XU = q.url) := Lib.hid (by rw [← hXU, toL_ofL])
  have HE : Hid (toL XE = q.dest) := Lib.hid (by rw [← hXE, toL_ofL])
  have HM : Hid (toL XM = q.meth) := Lib.hid (by rw [← hXM, toL_ofL])
  rw [hXD, hXU, hXE, hXM]
  have HDe : Hid (XD.toList.isEmpty = q.doc.isEmpty) := Lib.hid (by rw [toList_toL, HD.out])
  have HEe : Hid (XE.toList.isEmpty = q.dest.isEmpty) := Lib.hid (by rw [toList_toL, HE.out])
  have HMe : Hid ((XM.toList == [71, 69, 84]) = (q.meth == wGet)) := Lib.hid (by rw [toList_toL, HM.out]; rfl)
  have HFE : Hid (ofL (textN q) = ofL (tx6 q ++ hdsL q.hds)) := Lib.hid rfl
  clear hXD hXU hXE hXM hv hq
  obtain ⟨cors, hcors⟩ : ∃ b, q.cors = b := ⟨_, rfl⟩
  obtain ⟨creds, hcreds⟩ : ∃ b, q.creds = b := ⟨_, rfl⟩
  obtain ⟨redir, hredir⟩ : ∃ b, q.redir = b := ⟨_, rfl⟩
  obtain ⟨ls, hls⟩ : ∃ b, q.hds = b := ⟨_, rfl⟩
  rw [hcors, hcreds, hredir]
  rw [hredir] at r0 r1
  rw [hls] at hlen hcl hget ⊢
  have HCO := Lib.hid hcors; have HCR := Lib.hid hcreds; have HRE := Lib.hid hredir; have HLS := Lib.hid hls
  have HG := Lib.hid hget
  clear hcors hcreds hredir hls hget
  obtain ⟨w1, hw1⟩ : ∃ w1, w.alloc (.cells #[.string XD, .string XU, .string XE, .string XM, .bool cors, .bool creds, .int .i64 redir, .slice A ls.length n] 25) = w1 := ⟨_, rfl⟩
  have HW1 := Lib.hid hw1
  have HB1 : Hid (Below w.heap.size w w1) := Lib.hid (hw1 ▸ below_new w _)
  have HG1 : Hid (w1.heap[w.heap.size]? = some (.cells #[.string XD, .string XU, .string XE, .string XM, .bool cors, .bool creds, .int .i64 redir, .slice A ls.length n] 25 (0, 0))) := Lib.hid (hw1 ▸ blk_new w _)
  clear hw1
  go_enter Tryd.func18, Tryd.ntmps18
  go_upto_region 1 with fail
  rw [HW1.out]
  obtain ⟨b0, b1, b2, b3, b4, b5, b6, b7⟩ := cell8 HG1.out
  have hlt := blk_lt HG1.out
  go_upto_if 11 with fail
  go_cut [3] (fun v wc => ∃ T : ByteArray, v = .string T ∧ toL T = tx1 q ∧ wc = w1)
  case first =>
    cases he : XD.toList.isEmpty
    all_goals
      have HHE := Lib.hid (HDe.out.symm.trans he)
      go_wp2_with fail
      go_meet
      exact ⟨_, rfl, by simp only [toL_cat, HU.out, HD.out, tx1, tx0, addN, HHE.out]; simp [toL], rfl⟩
  case rest =>
    obtain ⟨T1, rfl, hT1, hwc⟩ := hcut
    rw [hwc]
    have HT1 := Lib.hid hT1
    have hz1 : T1.size ≤ 24100 := by rw [← toL_len, hT1]; exact HT.out.2.1
    clear hwc hT1
    go_upto_if 20 with fail
    go_cut [3] (fun v wc => ∃ T : ByteArray, v = .string T ∧ toL T = tx2 q ∧ wc = w1)
    case first =>
      cases he : XE.toList.isEmpty
      all_goals
        have HHE := Lib.hid (HEe.out.symm.trans he)
        go_wp2_with fail
        go_meet
        exact ⟨_, rfl, by simp only [toL_cat, HT1.out, HE.out, tx2, addN, HHE.out]; simp [toL], rfl⟩
    case rest =>
      obtain ⟨T2, rfl, hT2, hwc⟩ := hcut
      rw [hwc]
      have HT2 := Lib.hid hT2
      have hz2 : T2.size ≤ 24100 := by rw [← toL_len, hT2]; exact HT.out.2.2.1
      clear hwc hT2
      go_upto_if 29 with fail
      go_cut [3] (fun v wc => ∃ T : ByteArray, v = .string T ∧ toL T = tx3 q ∧ wc = w1)
      case first =>
        cases he : (XM.toList == [71, 69, 84])
        all_goals
          have HHE := Lib.hid (HMe.out.symm.trans he)
          go_wp2_with fail
          go_meet
          exact ⟨_, rfl, by simp only [toL_cat, HT2.out, HM.out, tx3, addN, HHE.out]; simp [toL], rfl⟩
      case rest =>
        obtain ⟨T3, rfl, hT3, hwc⟩ := hcut
        rw [hwc]
        have HT3 := Lib.hid hT3
        have hz3 : T3.size ≤ 24100 := by rw [← toL_len, hT3]; exact HT.out.2.2.2.1
        clear hwc hT3
        go_upto_if 37 with fail
        go_cut [3] (fun v wc => ∃ T : ByteArray, v = .string T ∧ toL T = tx4 q ∧ wc = w1)
        case first =>
          cases cors
          all_goals
            go_wp2_with fail
            go_meet
            exact ⟨_, rfl, by simp only [toL_cat, HT3.out, tx4, addN, HCO.out]; simp [toL], rfl⟩
        case rest =>
          obtain ⟨T4, rfl, hT4, hwc⟩ := hcut
          rw [hwc]
          have HT4 := Lib.hid hT4
          have hz4 : T4.size ≤ 24100 := by rw [← toL_len, hT4]; exact HT.out.2.2.2.2.1
          clear hwc hT4
          go_upto_if 41 with fail
          go_cut [3] (fun v wc => ∃ T : ByteArray, v = .string T ∧ toL T = tx5 q ∧ wc = w1)
          case first =>
            cases creds
            all_goals
              go_wp2_with fail
              go_meet
              exact ⟨_, rfl, by simp only [toL_cat, HT4.out, tx5, addN, HCR.out]; simp [toL], rfl⟩
          case rest =>
            obtain ⟨T5, rfl, hT5, hwc⟩ := hcut
            rw [hwc]
            have HT5 := Lib.hid hT5
            have hz5 : T5.size ≤ 24100 := by rw [← toL_len, hT5]; exact HT.out.2.2.2.2.2.1
            clear hwc hT5
            go_upto_if 46 with fail
            go_cut [3] (fun v wc => ∃ T : ByteArray, v = .string T ∧ toL T = tx6 q ∧ Below w1.heap.size w1 wc)
            case first =>
              cases he : (redir == 0)
              case false =>
                have HHE := Lib.hid he
                go_wp2_with fail
                refine (rdecimal_any redir w1 r0 r1).mono ?_
                rintro e w2 ⟨rfl, hb2⟩
                obtain ⟨D, hDD⟩ : ∃ D, ofL (decimal redir) = D := ⟨_, rfl⟩
                have hds : D.size ≤ 22 := by rw [← hDD, ofL_size]; exact decimal_lenB redir
                have HDD : Hid (toL D = decimal redir) := Lib.hid (by rw [← hDD, toL_ofL])
                have HB2 := Lib.hid hb2
                rw [hDD]
                clear hDD hb2
                go_wp2_with fail
                go_meet
                exact ⟨_, rfl, by simp only [toL_cat, HT5.out, tx6, addN, HRE.out, HHE.out, HDD.out]; simp [toL], HB2.out⟩
              case true =>
                have HHE := Lib.hid he
                go_wp2_with fail
                go_meet
                exact ⟨_, rfl, by simp only [HT5.out, tx6, addN, HRE.out, HHE.out]; simp, Below.refl _ _⟩
            case rest =>
              obtain ⟨T6, rfl, hT6, hbc⟩ := hcut
              have HT6 := Lib.hid hT6
              have hz6 : T6.size ≤ 24100 := by rw [← toL_len, hT6]; exact HT.out.2.2.2.2.2.2
              clear  hT6
              have HBC := Lib.hid (HB1.out.trans (hbc.mono HB1.out.size))
              have hgc := (hbc.block _ hlt).trans HG1.out
              have HGC := Lib.hid hgc
              clear hbc hgc b0 b1 b2 b3 b4 b5 b6 b7 hlt
              have HLE : Hid (w.heap.size < wc.heap.size) := Lib.hid (blk_lt HGC.out)
              go_wp2_with fail
              go_loopw [3, 4] (fun o i wr => ∃ (k : Nat) (O : ByteArray), k ≤ ls.length ∧ i = .int .i64 k ∧ o = .string O ∧ toL O = tx6 q ++ hdsL (ls.take k) ∧ Below w.heap.size w wr ∧ Ext wc wr) (fun _ i _ => ls.length - (intOf i).toNat)
              case atStart => exact ⟨0, T6, Nat.zero_le _, rfl, rfl, by rw [HT6.out]; simp [hdsL], HBC.out, Below.refl _ _⟩
              case round =>
                obtain ⟨k, O, hk, rfl, rfl, hO, hb, hE⟩ := hrel
                have HB := Lib.hid hb; have HO := Lib.hid hO; have HEX := Lib.hid hE
                have hos : O.size ≤ 90000 := by
                  have h1 := hdsL_small ls k (HLS.out ▸ HQ.out.2.2.2.2.1)
                  have h2 := HT.out.2.2.2.2.2.2
                  rw [← toL_len, hO, List.length_append]; omega
                have hgr := (hE.block _ HLE.out).trans HGC.out
                have b7 := blk_cell hgr 7
                simp only [List.getElem?_toArray, List.getElem?_cons_zero, List.getElem?_cons_succ] at b7
                have hlt7 := blk_lt hgr
                clear hb hO hE hgr
                by_cases hlt : k < ls.length
                · obtain ⟨g, off, rfl, hg, hx⟩ := HG.out k hlt
                  obtain ⟨x, he⟩ : ∃ x, ls[k]? = some x := ⟨_, List.getElem?_eq_getElem hlt⟩
                  obtain ⟨c0, c1⟩ := hx x he
                  have d0 := ext_cell HB.out c0
                  have d1 := ext_cell HB.out c1
                  have HS := Lib.hid (hdsL_succ ls k x he)
                  have hgr : g < wr.heap.size := Nat.lt_of_lt_of_le hg HB.out.size
                  have hxm := (fsize_mem q.hds HQ.out.2.2.2.2.1).2 x (HLS.out ▸ List.mem_of_getElem? he)
                  have hl1 : (ofL x.1).size ≤ 6100 := by rw [ofL_size]; omega
                  have hl2 : (ofL x.2).size ≤ 6100 := by rw [ofL_size]; omega
                  obtain ⟨X1, hX1⟩ : ∃ X, ofL x.1 = X := ⟨_, rfl⟩
                  obtain ⟨X2, hX2⟩ : ∃ X, ofL x.2 = X := ⟨_, rfl⟩
                  have HX1 : Hid (toL X1 = x.1) := Lib.hid (by rw [← hX1, toL_ofL])
                  have HX2 : Hid (toL X2 = x.2) := Lib.hid (by rw [← hX2, toL_ofL])
                  rw [hX1] at d0 hl1
                  rw [hX2] at d1 hl2
                  have hq0 : (0 : Int) ≤ (k : Int) := by omega
                  have hq1 : (k : Int) < (ls.length : Int) := by omega
                  clear hx he c0 c1 hX1 hX2 hxm
                  go_wp2_with fail
                  go_quiet (fail)
                  go_wp2_with fail
                  go_roundw
                  case rel => exact ⟨k + 1, _, by omega, by go_num, rfl, by simp only [toL_cat, HO.out, HS.out, hdL, HX1.out, HX2.out]; simp [toL], HB.out.drewN _, Below.drewN HEX.out _⟩
                  case measure => simp [intOf]; omega
                · have hkl : k = ls.length := by omega
                  have HKL := Lib.hid hkl
                  clear hkl
                  go_wp2_with fail
                  go_ret
                  exact hR _ _ ⟨ret_str (toL_inj (by rw [HFE.out, HO.out, HKL.out, List.take_length, toL_ofL, HLS.out])), HB.out⟩

end Go.Proofs.YtilpaopkhghicaaDoor.Asc
