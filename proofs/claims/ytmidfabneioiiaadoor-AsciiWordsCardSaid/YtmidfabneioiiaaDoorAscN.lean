/-
  The outright laws of parapetlaw1, AsciiWords and AsciiBack: each answers true.
  The library's MaxLen is a number; arguments within the rows' own reach.
-/
import Derived.Test.YtmidfabneioiiaaDoorAscM
namespace Go.Proofs.YtmidfabneioiiaaDoor.Asc
open Go Go.RowKit Go.Proofs.YtmidfabneioiiaaDoor.Pb

theorem len_flatten_take (l : List (List UInt8)) (k : Nat) : (l.take k).flatten.length ≤ l.flatten.length := by
  conv => rhs; rw [← List.take_append_drop k l]
  rw [List.flatten_append, List.length_append]; omega
theorem flatten_snoc (l : List (List UInt8)) (k : Nat) (x : List UInt8) (h : l[k]? = some x) : (l.take (k + 1)).flatten = (l.take k).flatten ++ x := by
  rw [List.take_add_one, h]; simp
theorem isBlank_ways (c : UInt8) : (isBlank c = true ∧ (((c.toNat : Int) = 9) ∨ (¬ (c.toNat : Int) = 9 ∧ (c.toNat : Int) = 10) ∨ (¬ (c.toNat : Int) = 9 ∧ ¬ (c.toNat : Int) = 10 ∧ (c.toNat : Int) = 12) ∨ (¬ (c.toNat : Int) = 9 ∧ ¬ (c.toNat : Int) = 10 ∧ ¬ (c.toNat : Int) = 12 ∧ (c.toNat : Int) = 13) ∨ (¬ (c.toNat : Int) = 9 ∧ ¬ (c.toNat : Int) = 10 ∧ ¬ (c.toNat : Int) = 12 ∧ ¬ (c.toNat : Int) = 13 ∧ (c.toNat : Int) = 32))) ∨ (isBlank c = false ∧ ¬ (c.toNat : Int) = 9 ∧ ¬ (c.toNat : Int) = 10 ∧ ¬ (c.toNat : Int) = 12 ∧ ¬ (c.toNat : Int) = 13 ∧ ¬ (c.toNat : Int) = 32) := by
  unfold isBlank
  simp only [beq_iff_eq, beq_eq_false_iff_ne, Bool.or_eq_true, Bool.or_eq_false_iff, ne_eq]
  omega

set_option maxHeartbeats 1000000 in
/-- parapetlaw1.AsciiWords -/
theorem words_walk (s : ByteArray) (m : Int) (w : World) (hm : MaxLen m w) (hs : s.size ≤ 140737488351232) :
    Calls Tryd.prog 4 #[.string s] w fun e w' => e = .returned (.bool true) ∧ Below w.heap.size w w' := by
  refine calls_gen fun R hR => ?_
  have HM := Lib.hid hm; clear hm
  go_enter Tryd.func4, Tryd.ntmps4
  by_cases hbig : 3000 < s.size
  · go_wp2_with fail
    refine (awake_any m w HM.out).mono ?_
    rintro e w1 ⟨rfl, hb1⟩
    go_wp2_with fail
    go_ret
    exact hR _ _ ⟨rfl, hb1⟩
  · have hs1 : s.size ≤ 1000000 := by omega
    obtain ⟨hfl, hwd⟩ := blanks_words (toL s)
    have hfs : (blanks (toL s)).flatten.length ≤ s.size := by
      rw [hfl, ← toL_len]; exact List.length_filter_le _ _
    have hl1 : (blanks (toL s)).length ≤ 1000000 := by
      have := (blSt_len (toL s) ((toL s).length + 1)).1
      have h2 := toL_len s
      unfold blanks; omega
    have HFL := Lib.hid hfl; have HWD := Lib.hid hwd; clear hfl hwd
    go_wp2_with fail
    refine (blanks_any s w hs1).mono ?_
    rintro e w1 ⟨v1, rfl, hv1, hb1⟩
    obtain ⟨l, hl⟩ : ∃ l, blanks (toL s) = l := ⟨_, rfl⟩
    rw [hl] at hv1 hfs hl1
    rw [hl] at HFL HWD
    clear hl
    have HB1 := Lib.hid hb1; clear hb1
    obtain ⟨A, c, rfl, hc, hcell⟩ := hv1.view.open1
    have HC := Lib.hid hcell
    clear hcell hv1
    go_wp2_with fail
    go_loopw [4, 5] (fun t i wr => ∃ k : Nat, k ≤ l.length ∧ i = .int .i64 k ∧ Below w1.heap.size w1 wr ∧ ∃ X : ByteArray, t = .string X ∧ X.size ≤ 1000000 ∧ Hid (toL X = (l.take k).flatten)) (fun _ i _ => l.length - (intOf i).toNat)
    case atStart => exact ⟨0, Nat.zero_le _, rfl, Below.refl _ _, _, rfl, by decide, rfl⟩
    case round =>
      obtain ⟨k, hk, rfl, hb, X, rfl, hXs, hX⟩ := hrel
      have HB := Lib.hid hb; clear hb
      by_cases hlt : k < l.length
      · obtain ⟨b, off, rfl, hbl, hce⟩ := HC.out k hlt
        obtain ⟨x, hx⟩ : ∃ x, l[k]? = some x := ⟨_, lt_get hlt⟩
        have hck := HB.out.cell (p := ⟨b, off + k, none⟩) hbl |>.trans (hce k x hx)
        obtain ⟨hx1, hx2⟩ := HWD.out x (List.mem_of_getElem? hx)
        have hfn := flatten_snoc l k x hx
        have hft := len_flatten_take l (k + 1)
        rw [hfn, List.length_append, ← hX.out, toL_len] at hft
        have hxe : (ofL x).toList.isEmpty = false := by
          rw [toList_ofL]
          cases x with
          | nil => exact absurd rfl hx1
          | cons => rfl
        have hsz := ofL_size x
        have hblk := Lib.hid (show blanks (toL (ofL x)) = [x] by rw [toL_ofL]; exact blanks_word x hx2 hx1)
        have HFN := Lib.hid (show (l.take (k + 1)).flatten = toL (X ++ ofL x) by rw [toL_app, toL_ofL, hX.out]; exact hfn)
        have hszX := size_app X (ofL x)
        obtain ⟨y, hy⟩ : ∃ y, ofL x = y := ⟨_, rfl⟩
        rw [hy] at hck hxe hsz hblk HFN hszX
        rw [← hsz] at hft
        have hys : X.size + y.size ≤ 1000000 := by omega
        have hys2 : y.size ≤ 1000000 := by omega
        clear hce hx hy hsz hx1 hx2 hfn hft
        go_wp2_with fail
        refine (blanks_any y _ hys2).mono ?_
        rintro e w2 ⟨v2, rfl, hv2, hb2⟩
        rw [hblk.out] at hv2
        obtain ⟨A2, c2, rfl, hc2, hcell2⟩ := hv2.view.open1
        have hbx := below2 HB.out hb2
        have hck2 := hb2.cell (p := ⟨b, off + k, none⟩) (World.block_lt_of_cell? _ _ hck) |>.trans hck
        have HB2 := Lib.hid hbx
        clear hcell2 hv2 hb2 hbx hck
        go_wp2_with fail
        go_roundw
        case rel => exact ⟨k + 1, by omega, by go_num, HB2.out, _, rfl, by omega, Lib.hid HFN.out.symm⟩
        case measure => simp [intOf]; omega
      · obtain rfl : k = l.length := by omega
        have hXe : Hid (toL X = (toL s).filter (fun c => !isBlank c)) := Lib.hid (by rw [hX.out, List.take_length, HFL.out])
        clear hX HC HWD
        go_wp2_with fail
        go_loop [6, 7] (fun t i => ∃ k : Nat, k ≤ s.size ∧ i = .int .i64 k ∧ ∃ Y : ByteArray, t = .string Y ∧ Y.size ≤ k ∧ Hid (toL Y = ((toL s).take k).filter (fun c => !isBlank c))) (fun _ i => s.size - (intOf i).toNat)
        case atStart => exact ⟨0, Nat.zero_le _, rfl, _, rfl, by decide, rfl⟩
        case round =>
          obtain ⟨k, hk, rfl, Y, rfl, hYs, hY⟩ := hrel
          by_cases hlt : k < s.size
          · have hfs := Lib.hid (filter_snoc (toL s) k (by rw [toL_len]; exact hlt))
            rw [toL_get s k hlt] at hfs
            rcases isBlank_ways s[k] with ⟨hc, h1 | ⟨h1, h2⟩ | ⟨h1, h2, h3⟩ | ⟨h1, h2, h3, h4⟩ | ⟨h1, h2, h3, h4, h5⟩⟩ | ⟨hc, h1, h2, h3, h4, h5⟩
            · have HC2 := Lib.hid hc; clear hc
              go_wp2_with fail
              go_round
              case rel => exact ⟨k + 1, by omega, by go_num, _, rfl, by omega, Lib.hid (by rw [hfs.out, ← hY.out, HC2.out]; simp)⟩
              case measure => simp [intOf]; omega
            · have HC2 := Lib.hid hc; clear hc
              go_wp2_with fail
              go_round
              case rel => exact ⟨k + 1, by omega, by go_num, _, rfl, by omega, Lib.hid (by rw [hfs.out, ← hY.out, HC2.out]; simp)⟩
              case measure => simp [intOf]; omega
            · have HC2 := Lib.hid hc; clear hc
              go_wp2_with fail
              go_round
              case rel => exact ⟨k + 1, by omega, by go_num, _, rfl, by omega, Lib.hid (by rw [hfs.out, ← hY.out, HC2.out]; simp)⟩
              case measure => simp [intOf]; omega
            · have HC2 := Lib.hid hc; clear hc
              go_wp2_with fail
              go_round
              case rel => exact ⟨k + 1, by omega, by go_num, _, rfl, by omega, Lib.hid (by rw [hfs.out, ← hY.out, HC2.out]; simp)⟩
              case measure => simp [intOf]; omega
            · have HC2 := Lib.hid hc; clear hc
              go_wp2_with fail
              go_round
              case rel => exact ⟨k + 1, by omega, by go_num, _, rfl, by omega, Lib.hid (by rw [hfs.out, ← hY.out, HC2.out]; simp)⟩
              case measure => simp [intOf]; omega
            · have HC2 := Lib.hid hc; clear hc
              have k1 : (k : Int) + 1 ≤ s.size := by omega
              have k2 : (k : Int) ≤ (k : Int) + 1 := by omega
              have hone : Hid (toL (s.extract k (k + 1)) = [s[k]]) := Lib.hid (by rw [extract_cut, toL_ofL, cut_one _ k (by rw [toL_len]; exact hlt)]; congr 1)
              have hsz : (s.extract k (k + 1)).size = 1 := by rw [← toL_len, hone.out]; rfl
              have hszY := size_app Y (s.extract k (k + 1))
              go_wp2_with fail
              any_goals (exfalso; rename_i hx; simp [h1, h2, h3, h4, h5] at hx; done)
              go_round
              case rel => exact ⟨k + 1, by omega, by go_num, _, rfl, by omega, Lib.hid (by rw [toL_app, hfs.out, ← hY.out, HC2.out, hone.out]; rfl)⟩
              case measure => simp [intOf]; omega
          · obtain rfl : k = s.size := by omega
            have hYX : X = Y := toL_inj (by rw [hXe.out, hY.out, take_all])
            subst hYX
            clear hY hXe
            go_wp2_with fail
            refine (awake_any m _ (HM.out.below (below2 HB1.out HB.out))).mono ?_
            rintro e w4 ⟨rfl, hb4⟩
            go_wp2_with fail
            go_ret
            exact hR _ _ ⟨rfl, below2 (below2 HB1.out HB.out) hb4⟩
end Go.Proofs.YtmidfabneioiiaaDoor.Asc
