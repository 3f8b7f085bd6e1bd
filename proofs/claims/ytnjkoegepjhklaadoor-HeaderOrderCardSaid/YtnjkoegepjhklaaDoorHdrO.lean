/-
  The law parapetlaw13.HeaderOrder answers true.
  The library's MaxLen is a number; arguments within the rows' own reach.
-/
import Derived.Test.YtnjkoegepjhklaaDoorHdrQ
namespace Go.Proofs.YtnjkoegepjhklaaDoor.Asc
open Go Go.RowKit Go.Proofs.YtnjkoegepjhklaaDoor.Pb

set_option maxRecDepth 20000 in
set_option maxHeartbeats 8000000 in
theorem order_walk (l : List Fd) (v : Value) (F : Nat → Prop) (m : Int) (w : World) (hm : MaxLen m w) (hv : View fld w F l v) (hl : l.length ≤ 140737488351232) (hx : ∀ x ∈ l, x.1.length ≤ 140737488351232 ∧ x.2.length ≤ 140737488351232) :
    Calls Tryd.prog 4 #[v] w fun e w' => e = .returned (.bool true) ∧ Below w.heap.size w w' := by
  refine calls_gen fun R hR => ?_
  have HM := Lib.hid hm; have HV := Lib.hid hv; have HX := Lib.hid hx
  clear hm hv hx
  go_enter Tryd.func4, Tryd.ntmps4
  go_wp2_with fail
  refine (fields_any l v F w HV.out hl HX.out).mono ?_
  rintro e w1 ⟨rfl, hb1⟩
  have HB1 := Lib.hid hb1; have HM1 := Lib.hid (HM.out.below hb1); have HV1 := Lib.hid (HV.out.below hb1)
  have hs1 := hb1.size
  clear hb1
  cases hd : decide (fsize l ≤ 6000) with
  | false =>
    clear hd
    go_wp2_with fail
    refine (awake_any m w1 HM1.out).mono ?_
    rintro e w2 ⟨rfl, hb2⟩
    go_wp2_with fail
    go_ret
    exact hR _ _ ⟨rfl, HB1.out.trans (hb2.mono HB1.out.size)⟩
  | true =>
    obtain ⟨h6, h6x⟩ := fsize_mem l (of_decide_eq_true hd)
    have HX6 : Hid (∀ x ∈ l, x.1.length ≤ 6000 ∧ x.2.length ≤ 6000) := Lib.hid h6x
    have HX7 : Hid (∀ x ∈ l, x.1.length ≤ 1000000 ∧ x.2.length ≤ 1000000) := Lib.hid fun x hx => by have := h6x x hx; omega
    clear hd h6x
    obtain ⟨A, c, rfl, hcl, hget⟩ := flds_get HV1.out
    have HG := Lib.hid hget
    clear hget
    go_wp2_with fail
    go_loopw [3, 4, 5, 6, 7] (fun mv i _ _ _ wr => ∃ (k : Nat) (q : Int), k ≤ l.length ∧ q = (k : Int) - 1 ∧ i = .int .i64 q ∧ Own fld 29 wr (w1.heap.size ≤ ·) ((l.drop k).reverse.map up1) mv ∧ Below w1.heap.size w1 wr) (fun _ i _ _ _ _ => (intOf i + 1).toNat)
    case atStart => exact ⟨l.length, _, Nat.le_refl _, rfl, rfl, by rw [List.drop_length]; exact Own.nil _ _ _ _, Below.refl _ _⟩
    case round =>
      obtain ⟨k, q, hk, hq, rfl, ho, hb⟩ := hrel
      have HO := Lib.hid ho; have HB := Lib.hid hb
      have hbs := hb.size
      have hlk := mirror_len l k
      clear ho hb
      by_cases hlt : 0 < k
      · obtain ⟨j, rfl⟩ : ∃ j, k = j + 1 := ⟨k - 1, by omega⟩
        obtain rfl : q = (j : Int) := by omega
        clear hq
        obtain ⟨g, off, rfl, hg, hx⟩ := HG.out j (by omega)
        obtain ⟨x, he⟩ : ∃ x, l[j]? = some x := ⟨_, List.getElem?_eq_getElem (by omega)⟩
        obtain ⟨c0, c1⟩ := hx x he
        have d0 := (HB.out.cell (p := ⟨g, off + j * 2, none⟩) hg).trans c0
        have d1 := (HB.out.cell (p := ⟨g, off + j * 2 + 1, none⟩) hg).trans c1
        have HST := Lib.hid (mirror_step l j x he)
        obtain ⟨hx1, hx2⟩ := HX6.out x (List.mem_of_getElem? he)
        have hgr : g < wr.heap.size := by omega
        obtain ⟨L, hL⟩ : ∃ L, (l.drop (j + 1)).reverse.map up1 = L := ⟨_, rfl⟩
        rw [hL] at HO HST hlk
        have hLL : L.length ≤ 6000 := by omega
        clear hlk
        obtain ⟨X, hX⟩ : ∃ X, ofL x.1 = X := ⟨_, rfl⟩
        obtain ⟨Y, hY⟩ : ∃ Y, ofL x.2 = Y := ⟨_, rfl⟩
        have hl1 : X.size ≤ 6000 := by rw [← hX, ofL_size]; exact hx1
        have hl2 : Y.size ≤ 6000 := by rw [← hY, ofL_size]; exact hx2
        have HXX : Hid (toL X = x.1) := Lib.hid (by rw [← hX, toL_ofL])
        have HYY : Hid (toL Y = x.2) := Lib.hid (by rw [← hY, toL_ofL])
        rw [hX] at d0
        rw [hY] at d1
        have hq0 : (0 : Int) ≤ (j : Int) := by omega
        have hq1 : (j : Int) < (l.length : Int) := by omega
        have hjl : j < l.length := by omega
        have HD1 := Lib.hid d1
        clear hx he c0 c1 hX hY hL hx1 hx2 d1
        obtain ⟨OA, oc, rfl, hoc⟩ := HO.out.slice
        go_wp2_with fail
        rename World => wo
        go_loopw [5, 6, 7] (fun nv i _ wy => ∃ (p : Nat) (T : ByteArray), p ≤ X.size ∧ i = .int .i64 p ∧ nv = .string T ∧ T.size = p ∧ Hid (toL T = upperT ((toL X).take p)) ∧ Below wo.heap.size wo wy) (fun _ i _ _ => X.size - (intOf i).toNat)
        case atStart => exact ⟨0, ByteArray.empty, Nat.zero_le _, rfl, rfl, rfl, Lib.hid rfl, Below.refl _ _⟩
        case round =>
          obtain ⟨p, T, hp, rfl, rfl, hTs, hT, hby⟩ := hrel
          have HBY := Lib.hid hby
          have hbys := hby.size
          have d0y := (hby.cell (p := ⟨g, off + j * 2, none⟩) hgr).trans d0
          have hgy : g < wr.heap.size := by omega
          clear hby
          by_cases hlp : p < X.size
          · have HUP : Hid (upperT ((toL X).take (p + 1)) = upperT ((toL X).take p) ++ [upB X[p]]) := Lib.hid (by rw [take_snoc X p hlp]; unfold upperT; rw [List.map_append]; rfl)
            have HTS := Lib.hid hTs
            have hT6 : T.size ≤ 6000 := by omega
            clear hTs
            by_cases hup : 97 ≤ X[p].toNat ∧ X[p].toNat ≤ 122
            · obtain ⟨h1, h2⟩ := hup
              have hub : ((upB X[p]).toNat : Int) = (X[p].toNat : Int) - 32 := by unfold upB; rw [if_pos ⟨h1, h2⟩, UInt8.toNat_sub_of_le _ _ (by rw [UInt8.le_iff_toNat_le]; show 32 ≤ X[p].toNat; omega)]; show ((X[p].toNat - 32 : Nat) : Int) = (X[p].toNat : Int) - 32; omega
              have HUB := Lib.hid hub
              clear hub
              go_wp2_with (with_reducible (first | refine stop_convert ?_))
              have hrow : RowAt (wr.alloc (.cells #[.int .u8 ((X[p].toNat : Int) - 32)] 5)) wr.heap.size 5 (0, 0) ([upB X[p]].map u8v) := ⟨_, blk_new wr _, by show [Value.int .u8 ((X[p].toNat : Int) - 32)] = [.int .u8 ((upB X[p]).toNat : Int)]; rw [HUB.out]⟩
              have hvv := hrow.view (h1 := fun _ => rfl) (F := fun _ => True) (c := 1) (Nat.le_refl 1) trivial
              refine ⟨wp_string Tryd.underlying30 Tryd.underlying5 Tryd.underlying9 hvv ?_⟩
              clear hrow hvv
              obtain ⟨U, hU⟩ : ∃ U, ofL [upB X[p]] = U := ⟨_, rfl⟩
              have hUs : U.size = 1 := by rw [← hU, ofL_size]; rfl
              have HU : Hid (toL U = [upB X[p]]) := Lib.hid (by rw [← hU, toL_ofL])
              rw [hU]
              clear hU
              go_wp2_with fail
              go_roundw
              case rel => exact ⟨p + 1, T ++ U, by omega, by go_num, rfl, by rw [ByteArray.size_append, hUs, HTS.out], Lib.hid (by rw [toL_cat, hT.out, HU.out, HUP.out]), HBY.out.alloc hbys _⟩
              case measure => simp [intOf]; omega
            · have hub : upB X[p] = X[p] := by unfold upB; rw [if_neg hup]
              have HUB := Lib.hid hub
              clear hub
              go_wp2_with (with_reducible (first | refine stop_convert ?_))
              all_goals
                have hrow : RowAt (wr.alloc (.cells #[.int .u8 (X[p].toNat : Int)] 5)) wr.heap.size 5 (0, 0) ([upB X[p]].map u8v) := ⟨_, blk_new wr _, by show [Value.int .u8 (X[p].toNat : Int)] = [.int .u8 ((upB X[p]).toNat : Int)]; rw [HUB.out]⟩
                have hvv := hrow.view (h1 := fun _ => rfl) (F := fun _ => True) (c := 1) (Nat.le_refl 1) trivial
                refine ⟨wp_string Tryd.underlying30 Tryd.underlying5 Tryd.underlying9 hvv ?_⟩
                clear hrow hvv
                obtain ⟨U, hU⟩ : ∃ U, ofL [upB X[p]] = U := ⟨_, rfl⟩
                have hUs : U.size = 1 := by rw [← hU, ofL_size]; rfl
                have HU : Hid (toL U = [upB X[p]]) := Lib.hid (by rw [← hU, toL_ofL])
                rw [hU]
                clear hU
                go_wp2_with fail
                go_roundw
                case rel => exact ⟨p + 1, T ++ U, by omega, by go_num, rfl, by rw [ByteArray.size_append, hUs, HTS.out], Lib.hid (by rw [toL_cat, hT.out, HU.out, HUP.out]), HBY.out.alloc hbys _⟩
                case measure => simp [intOf]; omega
          · obtain rfl : p = X.size := by omega
            have hT6 : T.size ≤ 6000 := by omega
            have HTX : Hid (toL T = upperT x.1) := Lib.hid (by rw [hT.out, take_all, HXX.out])
            have HOy := Lib.hid (HO.out.below HBY.out)
            have d1y := (HBY.out.cell (p := ⟨g, off + j * 2 + 1, none⟩) hgr).trans HD1.out
            clear hT hTs
            go_wp2_with (with_reducible (first | refine stop_append ?_))
            refine ⟨wp_append1 (r := fld) (F := fun k => w1.heap.size ≤ k) (G := fun _ => False) (y := up1 x) Tryd.underlying22 infoF rfl (by decide) HOy.out rfl rfl (fl_rep _ _ _ _ (by rw [HTX.out]; rfl) (by rw [HYY.out]; rfl)) (fun k h => h.elim) (by omega) (by decide) ?_⟩
            intro v6 w6 ho6 hk6 _ _
            have hoa : ∀ a, (Value.slice OA L.length oc).ownBlock = some a → w1.heap.size ≤ a := fun a ha => by
              obtain ⟨_, _, h2, _⟩ := HO.out
              exact h2 a ha
            have HB6 : Hid (Below w1.heap.size w1 w6) := Lib.hid ((HB.out.trans (HBY.out.mono hbs)).trans (hk6.below (B := w1.heap.size) (by omega) fun i hi e => by have := hoa i e.symm; omega))
            have HO6 : Hid (Own fld 29 w6 (w1.heap.size ≤ ·) ((l.drop j).reverse.map up1) v6) := Lib.hid (by
              rw [HST.out]
              refine ho6.mono fun a ha => ?_
              rcases ha with h | h | h
              · exact h
              · exact h.elim
              · show w1.heap.size ≤ a; omega)
            clear ho6 hk6 hoa
            go_wp2_with fail
            go_roundw
            case rel => exact ⟨j, (j : Int) - 1, by omega, rfl, by go_num, HO6.out, HB6.out⟩
            case measure => (simp [intOf]; try omega)
      · obtain rfl : k = 0 := by omega
        rw [List.drop_zero] at HO hlk
        obtain rfl : q = -1 := by omega
        clear hq hlt hk
        have HU := Lib.hid (uns_mirror l)
        have HML := Lib.hid (mirror_small l HX7.out)
        obtain ⟨L, hL⟩ : ∃ L, l.reverse.map up1 = L := ⟨_, rfl⟩
        rw [hL] at HO HU hlk HML
        have hLL : L.length ≤ 6000 := by omega
        clear hlk
        have HVr := Lib.hid (HV1.out.below HB.out); have HMr := Lib.hid (HM1.out.below HB.out); have HBr := Lib.hid (HB1.out.trans (HB.out.mono hs1))
        have hsr := HBr.out.size
        have HULEN : Hid ((unsafeN l).length ≤ 1000000) := Lib.hid (by
          have h1 := uns_len l l.length
          rw [List.take_length] at h1
          unfold unsafeN
          split
          · have := sortU_len (bads l ++ goods l); rw [List.length_append] at this; omega
          · have := sortU_len (bads l); omega)
        have HRI : Hid (Rise (unsafeN l)) := Lib.hid (sortU_rise _)
        clear hL
        go_wp2_with fail
        refine (unsafe_any l _ _ m wr HVr.out (by omega) HX7.out HMr.out).mono ?_
        rintro e w2 ⟨vx, rfl, hox, hb2⟩
        have HB2 := Lib.hid (HBr.out.trans (hb2.mono hsr)); have HM2 := Lib.hid (HMr.out.below hb2); have HX2 := Lib.hid hox; have HO2 := Lib.hid (HO.out.below hb2)
        have hs2 := HB2.out.size
        have hxl := HULEN.out
        obtain ⟨U, hU⟩ : ∃ U, unsafeN l = U := ⟨_, rfl⟩
        rw [hU] at HX2 HU HRI hxl
        clear hox hb2 hU HULEN HVr HMr HBr
        obtain ⟨XA, xc, rfl, hxc, hget⟩ := HX2.out.view.open1
        have HGX := Lib.hid hget
        clear hget
        go_wp2_with fail
        go_loopw [9] (fun i wy => ∃ (p n : Nat), 0 < p ∧ (p ≤ U.length ∨ p = 1) ∧ i = .int .i64 p ∧ wy = w2.drewN n) (fun i _ => U.length - (intOf i).toNat)
        case atStart => exact ⟨1, 0, by decide, .inr rfl, rfl, rfl⟩
        case round =>
          obtain ⟨p, n, hp0, hp, rfl, rfl⟩ := hrel
          by_cases hlp : p < U.length
          · obtain ⟨ug, uoff, rfl, hug, hux⟩ := HGX.out p hlp
            obtain ⟨b, hb⟩ : ∃ b, U[p]? = some b := ⟨_, List.getElem?_eq_getElem hlp⟩
            obtain ⟨a, ha⟩ : ∃ a, U[p - 1]? = some a := ⟨_, List.getElem?_eq_getElem (by omega)⟩
            have e0 := hux p b hb
            have e1 := hux (p - 1) a ha
            have hab : a < b := by
              obtain ⟨h1, rfl⟩ := List.getElem?_eq_some_iff.1 ha
              obtain ⟨h2, rfl⟩ := List.getElem?_eq_some_iff.1 hb
              exact List.pairwise_iff_getElem.1 HRI.out _ _ h1 h2 (by omega)
            obtain ⟨SA, hSA⟩ : ∃ SA, ofL a = SA := ⟨_, rfl⟩
            obtain ⟨SB, hSB⟩ : ∃ SB, ofL b = SB := ⟨_, rfl⟩
            have b1 : Op.bytesLess SA.toList SB.toList = true := by rw [← hSA, ← hSB, toList_ofL, toList_ofL, Go.Proofs.bytesLess_eq]; exact decide_eq_true hab
            rw [hSB] at e0
            rw [hSA] at e1
            have hq1 : (0 : Int) ≤ (p : Int) - 1 := by omega
            have hq2 : (p : Int) - 1 < (U.length : Int) := by omega
            have hq3 : ((p : Int) - 1).toNat = p - 1 := by omega
            have hq4 : (p : Int) < (U.length : Int) := by omega
            clear hux hb ha hab hSA hSB
            go_wp2_with fail
            go_quiet (fail)
            go_wp2_with fail
            go_roundw
            case rel => exact ⟨p + 1, _, by omega, .inl (by omega), by go_num, rfl⟩
            case measure => simp [intOf]; omega
          · go_wp2_with fail
            refine (unsafe_any L _ _ m _ (HO2.out.view.below ((Below.refl _ w2).drewN n)) (by omega) HML.out (HM2.out.below ((Below.refl _ w2).drewN n))).mono ?_
            rintro e w3 ⟨vy, rfl, hoy, hb3⟩
            rw [HU.out] at hoy
            have hb3' : Below w2.heap.size w2 w3 := ((Below.refl _ w2).drewN n).trans hb3
            have HB3 := Lib.hid (HB2.out.trans (hb3'.mono hs2)); have HM3 := Lib.hid (HM2.out.below hb3'); have HX3 := Lib.hid (HX2.out.below hb3'); have HY3 := Lib.hid hoy
            clear hoy hb3 hb3'
            go_wp2_with fail
            refine (texts_any U U _ _ _ _ _ HX3.out.view HY3.out.view hxl).mono ?_
            rintro e w4 ⟨rfl, hb4⟩
            have HB4 := Lib.hid (HB3.out.trans (hb4.mono HB3.out.size)); have HM4 := Lib.hid (HM3.out.below hb4)
            rw [show (U == U) = true by simp]
            clear hb4
            go_wp2_with fail
            refine (awake_any m w4 HM4.out).mono ?_
            rintro e w5 ⟨rfl, hb5⟩
            go_wp2_with fail
            go_ret
            exact hR _ _ ⟨rfl, HB4.out.trans (hb5.mono HB4.out.size)⟩

theorem order_row {w : World} (l : List Fd) (v : Value) (F : Nat → Prop) (hb : l.length * Tryd.prog.bytesOf 29 ≤ 140737488351232 ∧ ∀ x ∈ l, x.1.length ≤ 140737488351232 ∧ x.2.length ≤ 140737488351232) (hv : View fld w F l v) (m : Int) (hm : MaxLen m w) :
    Calls Tryd.prog 4 #[v] w fun e w' => e = .returned (.bool true) ∧ Below w.heap.size w w' :=
  order_walk l v F m w hm hv (by have := hb.1; rw [show Tryd.prog.bytesOf 29 = 32 by kernel_rfl] at this; omega) hb.2
end Go.Proofs.YtnjkoegepjhklaaDoor.Asc
