/-
  The outright law of parapetlaw1, AsciiBack: it answers true.
  The library's MaxLen is a number; arguments within the rows' own reach.
-/
import Derived.Test.YtmidfabneioiiaaDoorAscM
namespace Go.Proofs.YtmidfabneioiiaaDoor.Asc
open Go Go.RowKit Go.Proofs.YtmidfabneioiiaaDoor.Pb

theorem joinAt_len (l : List (List UInt8)) (sep : UInt8) (a b : Nat) (h : a ≤ b) : (joinAt l sep a).length ≤ (joinAt l sep b).length := by
  induction b with
  | zero => obtain rfl : a = 0 := by omega
            exact Nat.le_refl _
  | succ b ih =>
    by_cases he : a = b + 1
    · subst he; exact Nat.le_refl _
    · have := ih (by omega)
      rw [joinAt, List.length_append, List.length_append]; omega
theorem joinAt_snoc (l : List (List UInt8)) (sep : UInt8) (k : Nat) (x : List UInt8) (h : l[k]? = some x) (hk : 0 < k) : joinAt l sep (k + 1) = joinAt l sep k ++ [sep] ++ x := by
  rw [joinAt, h, if_pos hk]; rfl
theorem joinAt_one (l : List (List UInt8)) (sep : UInt8) (x : List UInt8) (h : l[0]? = some x) : joinAt l sep 1 = x := by
  rw [joinAt, h]; simp [joinAt]
theorem number_written (n : Int) (h0 : -9223372036854775808 ≤ n) (h1 : n ≤ 9223372036854775807) (a : Int) (b : Bool) (h : number (decimal n) 18 = (a, b)) :
    b = decide (0 ≤ n ∧ n < 1000000000000000000) ∧ (0 ≤ n ∧ n < 1000000000000000000 → a = n) := by
  rw [number_decimal n h0 h1] at h
  by_cases hc : 0 ≤ n ∧ n < 1000000000000000000
  · rw [if_pos hc] at h; cases h
    exact ⟨(decide_eq_true hc).symm, fun _ => rfl⟩
  · rw [if_neg hc] at h; cases h
    exact ⟨(decide_eq_false hc).symm, fun h => absurd h hc⟩

set_option maxHeartbeats 1000000 in
/-- parapetlaw1.AsciiBack -/
theorem back_walk (s : ByteArray) (sep : UInt8) (n : Int) (m : Int) (w : World) (hm : MaxLen m w) (hs : s.size ≤ 140737488351232) (h0 : -9223372036854775808 ≤ n) (h1 : n ≤ 9223372036854775807) :
    Calls Tryd.prog 9 #[.string s, .int .u8 sep.toNat, .int .i64 n] w fun e w' => e = .returned (.bool true) ∧ Below w.heap.size w w' := by
  refine calls_gen fun R hR => ?_
  have HM := Lib.hid hm; clear hm
  have H0 := Lib.hid h0; have H1 := Lib.hid h1; clear h0 h1
  go_enter Tryd.func9, Tryd.ntmps9
  by_cases hbig : 3000 < s.size
  · go_wp2_with fail
    refine (awake_any m w HM.out).mono ?_
    rintro e w1 ⟨rfl, hb1⟩
    go_wp2_with fail
    go_ret
    exact hR _ _ ⟨rfl, hb1⟩
  · have hs1 : s.size ≤ 1000000 := by omega
    have hl1 : (split (toL s) sep).length ≤ 1000000 := by
      have := (spSt_len (toL s) sep (toL s).length).1
      have h2 := toL_len s
      unfold split; simp; omega
    have hj : joinAt (split (toL s) sep) sep (split (toL s) sep).length = toL s := by
      rw [split_eq]; exact join_split sep (toL s)
    have HJ := Lib.hid hj; clear hj
    go_wp2_with fail
    refine (split_any s sep m w hs1 HM.out).mono ?_
    rintro e w1 ⟨v1, rfl, hv1, hb1⟩
    obtain ⟨l, hl⟩ : ∃ l, split (toL s) sep = l := ⟨_, rfl⟩
    rw [hl] at hv1 hl1 HJ
    clear hl
    have HB1 := Lib.hid hb1; clear hb1
    obtain ⟨A, c, rfl, hc, hcell⟩ := hv1.view.open1
    have HC := Lib.hid hcell
    clear hcell hv1
    go_wp2_with fail
    go_loopw [8, 9] (fun t i wr => ∃ k : Nat, k ≤ l.length ∧ i = .int .i64 k ∧ Below w1.heap.size w1 wr ∧ ∃ X : ByteArray, t = .string X ∧ X.size ≤ 1000000 ∧ Hid (toL X = joinAt l sep k)) (fun _ i _ => l.length - (intOf i).toNat)
    case atStart => exact ⟨0, Nat.zero_le _, rfl, Below.refl _ _, _, rfl, by decide, rfl⟩
    case round =>
      obtain ⟨k, hk, rfl, hb, X, rfl, hXs, hX⟩ := hrel
      have HB := Lib.hid hb; clear hb
      by_cases hlt : k < l.length
      · obtain ⟨b, off, rfl, hbl, hce⟩ := HC.out k hlt
        obtain ⟨x, hx⟩ : ∃ x, l[k]? = some x := ⟨_, lt_get hlt⟩
        have hck := HB.out.cell (p := ⟨b, off + k, none⟩) hbl |>.trans (hce k x hx)
        have hft := joinAt_len l sep (k + 1) l.length (by omega)
        rw [HJ.out, toL_len] at hft
        have hsz := ofL_size x
        by_cases hk0 : k = 0
        · subst hk0
          have hone := joinAt_one l sep x hx
          rw [Nat.add_zero] at hck
          rw [hone] at hft
          have hX0 : X = ByteArray.empty := toL_inj (by rw [hX.out]; rfl)
          have hszX := size_app X (ofL x)
          have HFN := Lib.hid (show joinAt l sep 1 = toL (X ++ ofL x) by rw [toL_app, toL_ofL, hX.out, hone]; rfl)
          have hXz : X.size = 0 := by rw [hX0]; rfl
          obtain ⟨y, hy⟩ : ∃ y, ofL x = y := ⟨_, rfl⟩
          rw [hy] at hck hsz HFN hszX
          rw [← hsz] at hft
          have hys : X.size + y.size ≤ 1000000 := by omega
          clear hce hx hy hsz hone hX0
          go_wp2_with fail
          go_roundw
          case rel => exact ⟨1, by omega, by go_num, HB.out, _, rfl, by omega, Lib.hid HFN.out.symm⟩
          case measure => simp [intOf]; omega
        · have hfn := joinAt_snoc l sep k x hx (by omega)
          rw [hfn, List.length_append, List.length_append, ← hX.out, toL_len, List.length_singleton] at hft
          have hszX := size_app X ⟨#[sep]⟩
          have hszY := size_app (X ++ ⟨#[sep]⟩) (ofL x)
          rw [size_one] at hszX
          have HFN := Lib.hid (show joinAt l sep (k + 1) = toL (X ++ ⟨#[sep]⟩ ++ ofL x) by rw [toL_app, toL_app, toL_ofL, hX.out]; exact hfn)
          obtain ⟨y, hy⟩ : ∃ y, ofL x = y := ⟨_, rfl⟩
          rw [hy] at hck hsz HFN hszY
          rw [← hsz] at hft
          have hys : (X ++ ⟨#[sep]⟩).size + y.size ≤ 1000000 := by omega
          have hys2 : X.size + (⟨#[sep]⟩ : ByteArray).size ≤ 1000000 := by rw [size_one]; omega
          have hbw := HB.out.size
          have hblk : b < wr.heap.size := by omega
          have hck2 := ((Below.refl wr.heap.size wr).alloc (Nat.le_refl _) (.cells #[.int .u8 sep.toNat] 5)).cell (p := ⟨b, off + k, none⟩) hblk |>.trans hck
          clear hce hx hy hsz hfn
          go_wp2_with (first | (with_reducible refine stop_convert ?_) | fail)
          have hrow : RowAt (wr.alloc (.cells #[.int .u8 sep.toNat] 5)) wr.heap.size 5 (0, 0) ([sep].map u8v) := ⟨_, blk_new wr _, rfl⟩
          have hv := hrow.view (h1 := fun _ => rfl) (F := fun _ => True) (c := 1) (Nat.le_refl 1) trivial
          refine ⟨wp_string Tryd.underlying38 Tryd.underlying5 Tryd.underlying9 hv ?_⟩
          have HB3 := Lib.hid (below2 HB.out (below_new wr (.cells #[.int .u8 sep.toNat] 5)))
          obtain ⟨w3, hw3⟩ : ∃ w3, wr.alloc (.cells #[.int .u8 sep.toNat] 5) = w3 := ⟨_, rfl⟩
          rw [hw3] at hck2 HB3 ⊢
          clear hrow hv hck
          have hof : ofL [sep] = ⟨#[sep]⟩ := rfl
          rw [hof]
          go_wp2_with fail
          go_roundw
          case rel => exact ⟨k + 1, by omega, by go_num, HB3.out, _, rfl, by omega, Lib.hid HFN.out.symm⟩
          case measure => simp [intOf]; omega
      · obtain rfl : k = l.length := by omega
        obtain rfl : X = s := toL_inj (by rw [hX.out, HJ.out])
        clear hX HJ HC
        go_wp2_with fail
        refine (decimal_any n _ H0.out H1.out).mono ?_
        rintro e w2 ⟨rfl, hb2⟩
        have HB2 := Lib.hid (below2 (below2 HB1.out HB.out) hb2); clear hb2
        have hdl : Hid ((ofL (decimal n)).size ≤ 1000000) := Lib.hid (by
          rw [ofL_size]; unfold decimal
          have := digs_len 20 (n.natAbs / 10)
          rw [List.length_append, List.length_reverse, List.length_cons]
          split <;> simp <;> omega)
        obtain ⟨p, hp⟩ : ∃ p, number (decimal n) 18 = p := ⟨_, rfl⟩
        obtain ⟨a, q⟩ := p
        obtain ⟨e1, e2⟩ := number_written n H0.out H1.out a q hp
        have HP : Hid (number (toL (ofL (decimal n))) 18 = (a, q)) := Lib.hid (by rw [toL_ofL]; exact hp)
        clear hp
        go_wp2_with fail
        refine (number_any _ 18 _ hdl.out).mono ?_
        rintro e w' ⟨rfl, rfl⟩
        rw [HP.out]
        simp only
        by_cases hn0 : 0 ≤ n
        · by_cases hn1 : n < 1000000000000000000
          · obtain rfl := e2 ⟨hn0, hn1⟩
            rw [decide_eq_true ⟨hn0, hn1⟩] at e1
            subst e1
            clear e2
            go_wp2_with fail
            refine (awake_any m _ (HM.out.below HB2.out)).mono ?_
            rintro e w4 ⟨rfl, hb4⟩
            go_wp2_with fail
            go_ret
            exact hR _ _ ⟨rfl, below2 HB2.out hb4⟩
          · rw [decide_eq_false (fun h => hn1 h.2)] at e1
            subst e1
            clear e2
            go_wp2_with fail
            refine (awake_any m _ (HM.out.below HB2.out)).mono ?_
            rintro e w4 ⟨rfl, hb4⟩
            go_wp2_with fail
            go_ret
            exact hR _ _ ⟨rfl, below2 HB2.out hb4⟩
        · rw [decide_eq_false (fun h => hn0 h.1)] at e1
          subst e1
          clear e2
          go_wp2_with fail
          refine (awake_any m _ (HM.out.below HB2.out)).mono ?_
          rintro e w4 ⟨rfl, hb4⟩
          go_wp2_with fail
          go_ret
          exact hR _ _ ⟨rfl, below2 HB2.out hb4⟩
end Go.Proofs.YtmidfabneioiiaaDoor.Asc
