/-
  Contracts: the document's visible, begins, SameQuery and word.
  Lengths within the rows' own reach.
-/
import Derived.Test.YtilpaopkhghicaaDoorAnU
import Derived.Test.YtilpaopkhghicaaDoorAnG
import Derived.Test.YtilpaopkhghicaaDoorHdrE
namespace Go.Proofs.YtilpaopkhghicaaDoor.Asc
open Go Go.RowKit Go.Proofs.YtilpaopkhghicaaDoor.Pb

set_option maxHeartbeats 1000000 in
theorem visible_any (s : ByteArray) (w : World) (hs : s.size ≤ 1000000) :
    Calls Tryd.prog 44 #[.string s] w fun e w' => e = .returned (.bool (graphic (toL s))) ∧ w' = w := by
  refine calls_gen fun R hR => ?_
  go_enter Tryd.func44, Tryd.ntmps44
  go_wp2_with fail
  go_loopw [3] (fun i wr => ∃ k : Nat, k ≤ s.size ∧ i = .int .i64 k ∧ wr = w ∧ ((toL s).take k).all (fun c => decide (33 ≤ c.toNat) && decide (c.toNat ≤ 126)) = true) (fun i _ => s.size - (intOf i).toNat)
  case atStart => exact ⟨0, Nat.zero_le _, rfl, rfl, by simp⟩
  case round =>
    obtain ⟨k, hk, rfl, hww, hall⟩ := hrel
    rw [hww]
    have HW := Lib.hid hww; have HA := Lib.hid hall
    clear hww hall
    by_cases hlt : k < s.size
    · have hg := getD_toL s k hlt
      have HT := Lib.hid (beg_any (p := fun c => decide (33 ≤ c.toNat) && decide (c.toNat ≤ 126)) k (toL s) (by rw [toL_len]; exact hlt) s[k] hg)
      have HN : Hid ((decide (33 ≤ s[k].toNat) && decide (s[k].toNat ≤ 126)) = false → graphic (toL s) = false) := Lib.hid fun h => by
        have : (toL s).all (fun c => decide (33 ≤ c.toNat) && decide (c.toNat ≤ 126)) = false := List.all_eq_false.2 ⟨s[k], List.mem_of_getElem? hg, by rw [h]; decide⟩
        unfold graphic; rw [this]; rfl
      clear hg
      by_cases h1 : (s[k].toNat : Int) < 33
      · rw [HN.out (by simp; omega)] at hR
        go_wp2_with fail
        go_ret
        exact hR _ _ ⟨rfl, rfl⟩
      by_cases h2 : (s[k].toNat : Int) > 126
      · rw [HN.out (by simp; omega)] at hR
        go_wp2_with fail
        go_ret
        exact hR _ _ ⟨rfl, rfl⟩
      go_wp2_with fail
      go_roundw
      case rel => exact ⟨k + 1, by omega, by go_num, by first | trivial | rfl, by rw [HT.out, HA.out]; simp; omega⟩
      case measure => simp [intOf]; omega
    · obtain rfl : k = s.size := by omega
      rw [take_all] at HA
      have he : (!s.toList.isEmpty) = graphic (toL s) := by
        unfold graphic
        rw [HA.out, toList_toL, Bool.true_and]
      go_wp2_with fail
      go_ret
      exact hR _ _ ⟨rfl, rfl⟩

theorem begN_len (t s : List UInt8) : (begN t s).1.length ≤ s.length := by
  unfold begN; split
  · rw [List.length_drop]; omega
  · simp
set_option maxHeartbeats 1000000 in
theorem begins_any (s t : ByteArray) (w : World) (hs : s.size ≤ 1000000) (ht : t.size ≤ 1000000) :
    Calls Tryd.prog 43 #[.string s, .string t] w fun e w' => e = .returned (.tuple #[.string (ofL (begN (toL t) (toL s)).1), .bool (begN (toL t) (toL s)).2]) ∧ w' = w := by
  refine calls_gen fun R hR => ?_
  go_enter Tryd.func43, Tryd.ntmps43
  by_cases hl : (s.size : Int) < (t.size : Int)
  · have hb : begN (toL t) (toL s) = ([], false) := begN_no _ _ fun x e => by
      have := congrArg List.length e
      rw [List.length_append, toL_len, toL_len] at this; omega
    rw [hb] at hR
    clear hb
    go_wp2_with fail
    go_ret2
    exact hR _ _ ⟨rfl, rfl⟩
  · have hx : s.extract 0 t.size = ofL ((toL s).take t.size) := by rw [extract_cut]; unfold cut; rw [List.drop_zero]
    have hy : s.extract t.size s.size = ofL ((toL s).drop t.size) := by
      rw [extract_cut]; unfold cut; rw [← toL_len s, List.take_length]
    obtain ⟨X, hX⟩ : ∃ X, s.extract 0 t.size = X := ⟨_, rfl⟩
    obtain ⟨Y, hY⟩ : ∃ Y, s.extract t.size s.size = Y := ⟨_, rfl⟩
    have h0 : 0 ≤ (t.size : Int) := by omega
    have h1 : (t.size : Int) ≤ (s.size : Int) := by omega
    have h2 : ((t.size : Int)).toNat = t.size := by omega
    have hq : (X.toList == t.toList) = ((toL s).take (toL t).length == toL t) := by
      rw [← hX, hx, toList_ofL, toList_toL, toL_len]
    cases hb : ((toL s).take (toL t).length == toL t) with
    | true =>
      have hbn : begN (toL t) (toL s) = ((toL s).drop t.size, true) := by unfold begN; rw [if_pos hb, toL_len]
      rw [hbn] at hR
      have hR' : ∀ e w', (e = .returned (.tuple #[.string Y, .bool true]) ∧ w' = w) → Pb.Fin (R e w') := fun e w' h => hR e w' ⟨by rw [h.1, ← hY, hy], h.2⟩
      have HXX := Lib.hid hX; have HYY := Lib.hid hY
      rw [hb] at hq
      clear hb hbn hx hy hR hX hY
      rw [← HXX.out] at hq
      rw [← HYY.out] at hR'
      go_wp2_with fail
      go_ret2
      exact hR' _ _ ⟨rfl, rfl⟩
    | false =>
      have hbn : begN (toL t) (toL s) = ([], false) := by unfold begN; rw [if_neg (by rw [hb]; decide)]
      rw [hbn] at hR
      rw [hb] at hq
      rw [← hX] at hq
      clear hb hbn hx hy hX hY
      go_wp2_with fail
      go_ret2
      exact hR _ _ ⟨rfl, rfl⟩

set_option maxHeartbeats 4000000 in
set_option maxRecDepth 20000 in
/-- SameQuery of two that are alike -/
theorem sameq_any (w : World) (q : Qr) (hl : q.hds.length ≤ 1000000) (v1 v2 : Value) (F1 F2 : Nat → Prop) (h1 : View fld w F1 q.hds v1) (h2 : View fld w F2 q.hds v2) :
    Calls Tryd.prog 12 #[agg8 q v1, agg8 q v2] w fun e w' => e = .returned (.bool true) ∧ Below w.heap.size w w' := by
  refine calls_gen fun R hR => ?_
  obtain ⟨A1, n1, rfl, _, _⟩ := flds_get h1
  obtain ⟨A2, n2, rfl, _, _⟩ := flds_get h2
  have H1 := Lib.hid h1; have H2 := Lib.hid h2
  clear h1 h2
  obtain ⟨qd, qu, qe, qm, qc, qr, qi, fs⟩ := q
  dsimp only at hl H1 H2
  unfold agg8
  dsimp only
  obtain ⟨XD, hXD⟩ : ∃ X, ofL qd = X := ⟨_, rfl⟩
  obtain ⟨XU, hXU⟩ : ∃ X, ofL qu = X := ⟨_, rfl⟩
  obtain ⟨XE, hXE⟩ : ∃ X, ofL qe = X := ⟨_, rfl⟩
  obtain ⟨XM, hXM⟩ : ∃ X, ofL qm = X := ⟨_, rfl⟩
  rw [hXD, hXU, hXE, hXM]
  clear hXD hXU hXE hXM
  go_enter Tryd.func12, Tryd.ntmps12
  go_upto_region 1 with fail
  obtain ⟨w2, hw2⟩ : ∃ w2, (w.alloc (.cells #[.string XD, .string XU, .string XE, .string XM, .bool qc, .bool qr, .int .i64 qi, .slice A1 fs.length n1] 25)).alloc (.cells #[.string XD, .string XU, .string XE, .string XM, .bool qc, .bool qr, .int .i64 qi, .slice A2 fs.length n2] 25) = w2 := ⟨_, rfl⟩
  have GX : Hid (w2.heap[w.heap.size]? = some (.cells #[.string XD, .string XU, .string XE, .string XM, .bool qc, .bool qr, .int .i64 qi, .slice A1 fs.length n1] 25 (0, 0))) := Lib.hid (hw2 ▸ blk_past (blk_new w _))
  have GY : Hid (w2.heap[w.heap.size + 1]? = some (.cells #[.string XD, .string XU, .string XE, .string XM, .bool qc, .bool qr, .int .i64 qi, .slice A2 fs.length n2] 25 (0, 0))) := Lib.hid (by
    have := blk_new (w.alloc (.cells #[.string XD, .string XU, .string XE, .string XM, .bool qc, .bool qr, .int .i64 qi, .slice A1 fs.length n1] 25)) (.cells #[.string XD, .string XU, .string XE, .string XM, .bool qc, .bool qr, .int .i64 qi, .slice A2 fs.length n2] 25)
    simp only [World.size_alloc] at this
    rw [← hw2]; exact this)
  have HB2 : Hid (Below w.heap.size w w2) := Lib.hid (hw2 ▸ ((Below.refl w.heap.size w).alloc (Nat.le_refl _) _).alloc (by simp) _)
  rw [hw2]
  clear hw2
  obtain ⟨x0, x1, x2, x3, x4, x5, x6, x7⟩ := cell8 GX.out
  obtain ⟨y0, y1, y2, y3, y4, y5, y6, y7⟩ := cell8 GY.out
  have hltx := blk_lt GX.out
  have hlty := blk_lt GY.out
  go_wp2_with fail
  clear x0 x1 x2 x3 x4 x5 x6 x7 y0 y1 y2 y3 y4 y5 y6 y7
  go_loopw [5] (fun i wr => ∃ k : Nat, k ≤ fs.length ∧ i = .int .i64 k ∧ Below w2.heap.size w2 wr) (fun i _ => fs.length - (intOf i).toNat)
  case atStart => exact ⟨0, Nat.zero_le _, rfl, Below.refl _ _⟩
  case round =>
    obtain ⟨k, hk, rfl, hb⟩ := hrel
    have HB := Lib.hid hb
    have u2 := (hb.cell (p := ⟨w.heap.size, 7, none⟩) hltx).trans (blk_cell GX.out 7)
    have v2 := (hb.cell (p := ⟨w.heap.size + 1, 7, none⟩) hlty).trans (blk_cell GY.out 7)
    simp only [List.getElem?_toArray, List.getElem?_cons_zero, List.getElem?_cons_succ] at u2 v2
    have hl1r := Nat.lt_of_lt_of_le hltx hb.size
    have hl2r := Nat.lt_of_lt_of_le hlty hb.size
    have HBW : Hid (Below w.heap.size w wr) := Lib.hid (HB2.out.trans (hb.mono HB2.out.size))
    clear hb
    by_cases hlt : k < fs.length
    · obtain ⟨x, hx⟩ : ∃ x, fs[k]? = some x := ⟨_, List.getElem?_eq_getElem hlt⟩
      obtain ⟨B1, c1, e1, _, hg1⟩ := flds_get (H1.out.below HBW.out)
      obtain ⟨B2, c2, e2, _, hg2⟩ := flds_get (H2.out.below HBW.out)
      cases e1
      cases e2
      obtain ⟨b1, o1, e1, hb1, hc1⟩ := hg1 k hlt
      obtain ⟨b2, o2, e2, hb2, hc2⟩ := hg2 k hlt
      subst e1 e2
      obtain ⟨d1, d2⟩ := hc1 x hx
      obtain ⟨d3, d4⟩ := hc2 x hx
      obtain ⟨X, hX⟩ : ∃ X, ofL x.1 = X := ⟨_, rfl⟩
      obtain ⟨Y, hY⟩ : ∃ Y, ofL x.2 = Y := ⟨_, rfl⟩
      rw [hX] at d1 d3
      rw [hY] at d2 d4
      have hq0 : (0 : Int) ≤ (k : Int) := by omega
      have hq1 : (k : Int) < (fs.length : Int) := by omega
      clear hX hY hg1 hg2 hc1 hc2 hx
      go_wp2_with fail
      go_quiet (fail)
      go_wp2_with fail
      go_roundw
      case rel => exact ⟨k + 1, by omega, by go_num, HB.out.drewN _⟩
      case measure => simp [intOf]; omega
    · obtain rfl : k = fs.length := by omega
      go_wp2_with fail
      go_ret
      exact hR _ _ ⟨rfl, HBW.out⟩

end Go.Proofs.YtilpaopkhghicaaDoor.Asc
