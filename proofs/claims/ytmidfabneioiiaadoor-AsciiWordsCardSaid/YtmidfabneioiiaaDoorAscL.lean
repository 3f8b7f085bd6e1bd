/-
  The laws of parapetlaw1 that hold the package against its reference: each answers true.
  The library's MaxLen is a number; arguments within the rows' own reach.
-/
import Derived.Test.YtmidfabneioiiaaDoorAscI
namespace Go.Proofs.YtmidfabneioiiaaDoor.Asc
open Go Go.RowKit Go.Proofs.YtmidfabneioiiaaDoor.Pb

/-- the library's variable holds a number -/
def MaxLen (m : Int) (w : World) : Prop := w.cell? ⟨0, 0, none⟩ = some (.int .i64 m)
theorem MaxLen.below {m : Int} {w w' : World} (h : MaxLen m w) (hb : Below w.heap.size w w') : MaxLen m w' :=
  (hb.cell (p := ⟨0, 0, none⟩) (World.block_lt_of_cell? w _ h)).trans h
theorem below2 {a b c : World} (h : Below a.heap.size a b) (k : Below b.heap.size b c) : Below a.heap.size a c := below_then h (Nat.le_refl _) k
theorem below_new (w : World) (o : Obj) : Below w.heap.size w (w.alloc o) := (Below.refl _ _).alloc (Nat.le_refl _) _

set_option maxHeartbeats 1000000 in
/-- parapetlaw1.AsciiTokens -/
theorem tokens_walk (s : ByteArray) (m : Int) (w : World) (hm : MaxLen m w) (hs : s.size ≤ 140737488351232) :
    Calls Tryd.prog 11 #[.string s] w fun e w' => e = .returned (.bool true) ∧ Below w.heap.size w w' := by
  refine calls_gen fun R hR => ?_
  have HM := Lib.hid hm; clear hm
  go_enter Tryd.func11, Tryd.ntmps11
  by_cases hbig : 3000 < s.size
  · go_wp2_with fail
    refine (awake_any m w HM.out).mono ?_
    rintro e w1 ⟨rfl, hb1⟩
    go_wp2_with fail
    go_ret
    exact hR _ _ ⟨rfl, hb1⟩
  · have hs1 : s.size ≤ 1000000 := by omega
    go_wp2_with fail
    refine (token_any s w hs1).mono ?_
    rintro e w' ⟨rfl, rfl⟩
    go_wp2_with fail
    refine (rtoken_any s _ hs).mono ?_
    rintro e w' ⟨rfl, rfl⟩
    go_wp2_with fail
    refine (trim_any s _ hs1).mono ?_
    rintro e w1 ⟨rfl, hb1⟩
    have HB1 := Lib.hid hb1; clear hb1
    go_wp2_with fail
    refine (rtrim_any s _ hs1).mono ?_
    rintro e w' ⟨rfl, rfl⟩
    go_wp2_with fail
    refine (awake_any m _ (HM.out.below HB1.out)).mono ?_
    rintro e w2 ⟨rfl, hb2⟩
    go_wp2_with fail
    go_ret
    exact hR _ _ ⟨rfl, below2 HB1.out hb2⟩

set_option maxHeartbeats 1000000 in
/-- parapetlaw1.AsciiCuts -/
theorem cuts_walk (s : ByteArray) (sep : UInt8) (m : Int) (w : World) (hm : MaxLen m w) (hs : s.size ≤ 140737488351232) :
    Calls Tryd.prog 3 #[.string s, .int .u8 sep.toNat] w fun e w' => e = .returned (.bool true) ∧ Below w.heap.size w w' := by
  refine calls_gen fun R hR => ?_
  have HM := Lib.hid hm; clear hm
  go_enter Tryd.func3, Tryd.ntmps3
  by_cases hbig : 3000 < s.size
  · go_wp2_with fail
    refine (awake_any m w HM.out).mono ?_
    rintro e w1 ⟨rfl, hb1⟩
    go_wp2_with fail
    go_ret
    exact hR _ _ ⟨rfl, hb1⟩
  · have hs1 : s.size ≤ 1000000 := by omega
    have hl1 : (blanks (toL s)).length ≤ 1000000 := by
      have := (blSt_len (toL s) ((toL s).length + 1)).1
      have h2 := toL_len s
      unfold blanks; omega
    have hl2 : (split (toL s) sep).length ≤ 1000000 := by
      have := (spSt_len (toL s) sep (toL s).length).1
      have h2 := toL_len s
      unfold split; simp; omega
    have HL1 := Lib.hid hl1; have HL2 := Lib.hid hl2; clear hl1 hl2
    go_wp2_with fail
    refine (blanks_any s w hs1).mono ?_
    rintro e w1 ⟨v1, rfl, hv1, hb1⟩
    have HV1 := Lib.hid hv1; have HB1 := Lib.hid hb1; clear hv1 hb1
    go_wp2_with fail
    refine (rblanks_any s w1 hs1).mono ?_
    rintro e w2 ⟨v2, rfl, hv2, hb2⟩
    have HV2 := Lib.hid hv2; have HB2 := Lib.hid hb2; clear hv2 hb2
    go_wp2_with fail
    refine (texts_same _ v1 v2 _ _ w2 (HV1.out.view.below HB2.out) HV2.out.view HL1.out).mono ?_
    rintro e w3 ⟨rfl, hb3⟩
    have HB3 := Lib.hid (below2 (below2 HB1.out HB2.out) hb3); clear hb3
    clear HV1 HV2 HB2
    go_wp2_with fail
    refine (split_any s sep m w3 hs1 (HM.out.below HB3.out)).mono ?_
    rintro e w4 ⟨v4, rfl, hv4, hb4⟩
    have HV4 := Lib.hid hv4; have HB4 := Lib.hid hb4; clear hv4 hb4
    go_wp2_with fail
    refine (rsplit_any s sep w4 hs1).mono ?_
    rintro e w5 ⟨v5, rfl, hv5, hb5⟩
    have HV5 := Lib.hid hv5; have HB5 := Lib.hid hb5; clear hv5 hb5
    go_wp2_with fail
    refine (texts_same _ v4 v5 _ _ w5 (HV4.out.view.below HB5.out) HV5.out.view HL2.out).mono ?_
    rintro e w6 ⟨rfl, hb6⟩
    have HB6 := Lib.hid (below2 HB3.out (below2 (below2 HB4.out HB5.out) hb6)); clear hb6
    go_wp2_with fail
    refine (awake_any m w6 (HM.out.below HB6.out)).mono ?_
    rintro e w7 ⟨rfl, hb7⟩
    go_wp2_with fail
    go_ret
    exact hR _ _ ⟨rfl, below2 HB6.out hb7⟩

theorem lower_len (l : List UInt8) : (lower l).length = l.length := by simp [lower]
theorem lowerB_idem (c : UInt8) : lowerB (lowerB c) = lowerB c := by
  unfold lowerB
  by_cases h : 65 ≤ c.toNat ∧ c.toNat ≤ 90
  · rw [if_pos h]
    have : (c + 32).toNat = c.toNat + 32 := by rw [UInt8.toNat_add]; simp; omega
    rw [if_neg (by omega)]
  · rw [if_neg h, if_neg h]
theorem lower_idem (l : List UInt8) : lower (lower l) = lower l := by simp [lower, lowerB_idem]

set_option maxHeartbeats 1000000 in
/-- parapetlaw1.AsciiCases -/
theorem cases_walk (s t : ByteArray) (m : Int) (w : World) (hm : MaxLen m w) (hs : s.size ≤ 140737488351232) (ht : t.size ≤ 140737488351232) :
    Calls Tryd.prog 6 #[.string s, .string t] w fun e w' => e = .returned (.bool true) ∧ Below w.heap.size w w' := by
  refine calls_gen fun R hR => ?_
  have HM := Lib.hid hm; clear hm
  go_enter Tryd.func6, Tryd.ntmps6
  by_cases hbig : 3000 < s.size + t.size
  · go_wp2_with fail
    refine (awake_any m w HM.out).mono ?_
    rintro e w1 ⟨rfl, hb1⟩
    go_wp2_with fail
    go_ret
    exact hR _ _ ⟨rfl, hb1⟩
  · have hs1 : s.size ≤ 1000000 := by omega
    have ht1 : t.size ≤ 1000000 := by omega
    have hl1 : (ofL (lower (toL s))).size ≤ 1000000 := by rw [ofL_size, lower_len, toL_len]; omega
    have HL1 := Lib.hid hl1; clear hl1
    go_wp2_with fail
    refine (lower_any s w hs1).mono ?_
    rintro e w1 ⟨rfl, hb1⟩
    have HB1 := Lib.hid hb1; clear hb1
    go_wp2_with fail
    refine (rlower_any s w1 hs1).mono ?_
    rintro e w2 ⟨rfl, hb2⟩
    have HB2 := Lib.hid (below2 HB1.out hb2); clear hb2
    go_wp2_with fail
    refine (same_any s t w2 hs1 ht1).mono ?_
    rintro e w3 ⟨rfl, hb3⟩
    have HB3 := Lib.hid (below2 HB2.out hb3); clear hb3
    obtain ⟨q, hq⟩ : ∃ q, (lower (toL s) == lower (toL t)) = q := ⟨_, rfl⟩
    rw [hq]
    have HQ := Lib.hid hq; clear hq
    go_wp2_with fail
    refine (rsame_any s t w3 hs1 ht1).mono ?_
    rintro e w4 ⟨rfl, hb4⟩
    have HB4 := Lib.hid (below2 HB3.out hb4); clear hb4
    rw [HQ.out]
    go_wp2_with fail
    refine (lower_any s w4 hs1).mono ?_
    rintro e w5 ⟨rfl, hb5⟩
    have HB5 := Lib.hid (below2 HB4.out hb5); clear hb5
    go_wp2_with fail
    refine (same_any s _ w5 hs1 HL1.out).mono ?_
    rintro e w6 ⟨rfl, hb6⟩
    have HB6 := Lib.hid (below2 HB5.out hb6); clear hb6
    rw [toL_ofL, lower_idem, beq_self_eq_true]
    go_wp2_with fail
    refine (awake_any m w6 (HM.out.below HB6.out)).mono ?_
    rintro e w7 ⟨rfl, hb7⟩
    go_wp2_with fail
    go_ret
    exact hR _ _ ⟨rfl, below2 HB6.out hb7⟩

set_option maxHeartbeats 1000000 in
/-- parapetlaw1.AsciiNumbers -/
theorem numbers_walk (s : ByteArray) (max n : Int) (m : Int) (w : World) (hm : MaxLen m w) (hs : s.size ≤ 140737488351232) (h0 : -9223372036854775808 ≤ n) (h1 : n ≤ 9223372036854775807) :
    Calls Tryd.prog 8 #[.string s, .int .i64 max, .int .i64 n] w fun e w' => e = .returned (.bool true) ∧ Below w.heap.size w w' := by
  refine calls_gen fun R hR => ?_
  have HM := Lib.hid hm; clear hm
  have H0 := Lib.hid h0; have H1 := Lib.hid h1; clear h0 h1
  go_enter Tryd.func8, Tryd.ntmps8
  by_cases hbig : 3000 < s.size
  · go_wp2_with fail
    refine (awake_any m w HM.out).mono ?_
    rintro e w1 ⟨rfl, hb1⟩
    go_wp2_with fail
    go_ret
    exact hR _ _ ⟨rfl, hb1⟩
  · have hs1 : s.size ≤ 1000000 := by omega
    go_wp2_with fail
    refine (number_any s max w hs1).mono ?_
    rintro e w' ⟨rfl, rfl⟩
    obtain ⟨p, hp⟩ : ∃ p, number (toL s) max = p := ⟨_, rfl⟩
    rw [hp]
    have HP := Lib.hid hp; clear hp
    obtain ⟨a, b⟩ := p
    simp only
    go_wp2_with fail
    refine (rnumber_any s max _ hs1).mono ?_
    rintro e w' ⟨rfl, rfl⟩
    rw [HP.out]
    simp only
    go_wp2_with fail
    refine (decimal_any n _ H0.out H1.out).mono ?_
    rintro e w1 ⟨rfl, hb1⟩
    have HB1 := Lib.hid hb1; clear hb1
    go_wp2_with fail
    refine (rdecimal_any n w1 H0.out H1.out).mono ?_
    rintro e w2 ⟨rfl, hb2⟩
    have HB2 := Lib.hid (below2 HB1.out hb2); clear hb2
    go_wp2_with fail
    refine (awake_any m w2 (HM.out.below HB2.out)).mono ?_
    rintro e w7 ⟨rfl, hb7⟩
    go_wp2_with fail
    go_ret
    exact hR _ _ ⟨rfl, below2 HB2.out hb7⟩

set_option maxHeartbeats 1000000 in
/-- parapetlaw1.AsciiAny -/
theorem any_walk (s : ByteArray) (l : List (List UInt8)) (v : Value) (F : Nat → Prop) (m : Int) (w : World) (hm : MaxLen m w) (hs : s.size ≤ 140737488351232) (hl : ∀ x ∈ l, x.length ≤ 140737488351232) (hn : l.length ≤ 140737488351232) (hv : View Rp.str w F l v) :
    Calls Tryd.prog 7 #[.string s, v] w fun e w' => e = .returned (.bool true) ∧ Below w.heap.size w w' := by
  refine calls_gen fun R hR => ?_
  have HM := Lib.hid hm; clear hm
  have HV := Lib.hid hv; have HL := Lib.hid hl; clear hv hl
  go_enter Tryd.func7, Tryd.ntmps7
  go_wp2_with fail
  refine (total_any l v F w 3000 (by decide) HL.out hn HV.out).mono ?_
  rintro e w' ⟨rfl, t, rfl, ht1, ht2, ht3⟩
  have HT1 := Lib.hid ht1; have HT2 := Lib.hid ht2; clear ht1 ht2
  by_cases hbig : 3000 < t + s.size
  · go_wp2_with fail
    refine (awake_any m w HM.out).mono ?_
    rintro e w1 ⟨rfl, hb1⟩
    go_wp2_with fail
    go_ret
    exact hR _ _ ⟨rfl, hb1⟩
  · have hs1 : s.size ≤ 1000000 := by omega
    have hl1 : l.length ≤ 1000000 := by
      have := HT1.out (by omega)
      have := total_len l
      omega
    go_wp2_with fail
    refine (any_any s l v F w HV.out hl1).mono ?_
    rintro e w' ⟨rfl, rfl⟩
    obtain ⟨q, hq⟩ : ∃ q, decide (toL s ∈ l) = q := ⟨_, rfl⟩
    rw [hq]
    have HQ := Lib.hid hq; clear hq
    go_wp2_with fail
    refine (rin_any s l v F _ HV.out hl1).mono ?_
    rintro e w' ⟨rfl, rfl⟩
    rw [HQ.out]
    go_wp2_with fail
    refine (any_any s [] (.slice none 0 0) F _ (View.nil _ _ _) (by decide)).mono ?_
    rintro e w' ⟨rfl, rfl⟩
    rw [show decide (toL s ∈ ([] : List (List UInt8))) = false by simp]
    go_wp2_with fail
    refine (any_any s [toL s] _ _ _ (lit_view _ [toL s] _ rfl (by simp) 1 rfl) (by simp)).mono ?_
    rintro e w' ⟨rfl, rfl⟩
    rw [show decide (toL s ∈ [toL s]) = true by simp]
    go_wp2_with fail
    refine (awake_any m _ (HM.out.below (below_new _ _))).mono ?_
    rintro e w7 ⟨rfl, hb7⟩
    go_wp2_with fail
    go_ret
    exact hR _ _ ⟨rfl, below2 (below_new _ _) hb7⟩
theorem any_row {w : World} (s : ByteArray) (hs : s.size ≤ 140737488351232) (l : List (List UInt8)) (v : Value) (F : Nat → Prop) (hb : l.length * Tryd.prog.bytesOf 9 ≤ 140737488351232 ∧ ∀ x ∈ l, x.length ≤ 140737488351232) (hv : View Rp.str w F l v) (m : Int) (hm : MaxLen m w) :
    Calls Tryd.prog 7 #[.string s, v] w fun e w' => e = .returned (.bool true) ∧ Below w.heap.size w w' :=
  any_walk s l v F m w hm hs hb.2 (by have := hb.1; rw [show Tryd.prog.bytesOf 9 = 16 by kernel_rfl] at this; omega) hv
end Go.Proofs.YtmidfabneioiiaaDoor.Asc
