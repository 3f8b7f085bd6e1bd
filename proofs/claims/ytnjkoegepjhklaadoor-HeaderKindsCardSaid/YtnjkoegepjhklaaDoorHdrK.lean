/-
  The law parapetlaw13.HeaderKinds answers true.
  The library's MaxLen is a number; arguments within the rows' own reach.
-/
import Derived.Test.YtnjkoegepjhklaaDoorHdrL
namespace Go.Proofs.YtnjkoegepjhklaaDoor.Asc
open Go Go.RowKit Go.Proofs.YtnjkoegepjhklaaDoor.Pb

set_option maxHeartbeats 4000000 in
theorem kinds_walk (N V : ByteArray) (m : Int) (w : World) (hm : MaxLen m w) (hn : N.size ≤ 140737488351232) (hv : V.size ≤ 140737488351232) :
    Calls Tryd.prog 7 #[.agg #[.string N, .string V]] w fun e w' => e = .returned (.bool true) ∧ Below w.heap.size w w' := by
  refine calls_gen fun R hR => ?_
  have HM := Lib.hid hm
  clear hm
  go_enter Tryd.func7, Tryd.ntmps7
  have hbn := below_new w (.cells #[.string N, .string V] 29)
  have g1 := blk_new w (.cells #[.string N, .string V] 29)
  by_cases h3 : 3000 < (N.size : Int) + V.size
  · go_wp2_with fail
    refine (awake_any m _ (HM.out.below hbn)).mono ?_
    rintro e w2 ⟨rfl, hb2⟩
    go_wp2_with fail
    go_ret
    exact hR _ _ ⟨rfl, hbn.trans (hb2.mono hbn.size)⟩
  have hn1 : N.size ≤ 1000000 := by omega
  have hv1 : V.size ≤ 1000000 := by omega
  have HBN := Lib.hid hbn; have HM0 := Lib.hid (HM.out.below hbn); have G1 := Lib.hid g1
  clear hbn g1
  go_wp2_with fail
  refine (essence_any V m _ hv1 HM0.out).mono ?_
  rintro e w2 ⟨rfl, hb2⟩
  have g2 := (hb2.block w.heap.size (by simp)).trans G1.out
  have c0 := blk_cell g2 0
  have c1 := blk_cell g2 1
  simp at c0 c1
  have hl2 := blk_lt g2
  have HB2 := Lib.hid (HBN.out.trans (hb2.mono HBN.out.size)); have HM2 := Lib.hid (HM0.out.below hb2); have G2 := Lib.hid g2
  obtain ⟨E, hE⟩ : ∃ E, ofL (essence (toL V)).1 = E := ⟨_, rfl⟩
  obtain ⟨B, hB⟩ : ∃ B, (essence (toL V)).2 = B := ⟨_, rfl⟩
  have HRE : Hid (∀ w, Calls Tryd.prog 20 #[.string V] w fun e w' => e = .returned (.tuple #[.string E, .bool B]) ∧ Below w.heap.size w w') := Lib.hid fun w => by
    have := ressence_any V w hv1
    rw [hE, hB] at this; exact this
  rw [hE, hB]
  clear hb2 g2 hE hB
  obtain ⟨sb, hsb⟩ : ∃ sb, w.heap.size = sb := ⟨_, rfl⟩
  have HSB := Lib.hid hsb
  rw [hsb] at c0 c1 hl2 ⊢
  clear hsb
  go_wp2_with fail
  refine (HRE.out w2).mono ?_
  rintro e w3 ⟨rfl, hb3⟩
  have d0 := (hb3.cell (p := ⟨sb, 0, none⟩) hl2).trans c0
  have d1 := (hb3.cell (p := ⟨sb, 1, none⟩) hl2).trans c1
  have hl3 : sb < w3.heap.size := Nat.lt_of_lt_of_le hl2 hb3.size
  have HB3 := Lib.hid (HB2.out.trans (hb3.mono HB2.out.size)); have HM3 := Lib.hid (HM2.out.below hb3)
  have hdr : Below w3.heap.size w3 (w3.drewN 1) := (Below.refl _ _).drewN 1
  have HB3' := Lib.hid (HB3.out.trans (hdr.mono HB3.out.size)); have HM3' := Lib.hid (HM3.out.below hdr)
  clear hb3 c0 c1 hdr
  obtain ⟨KV, hKV⟩ : ∃ K, valid (toL N) (toL V) = K := ⟨_, rfl⟩
  obtain ⟨KS, hKS⟩ : ∃ K, simple (toL N) (toL V) = K := ⟨_, rfl⟩
  have H1 : Hid (∀ w, Calls Tryd.prog 21 #[.agg #[.string N, .string V]] w fun e w' => e = .returned (.bool KV) ∧ Below w.heap.size w w') := Lib.hid fun w => by rw [← hKV]; exact valid_any N V w hn1 hv1
  have H2 : Hid (∀ w, Calls Tryd.prog 22 #[.agg #[.string N, .string V]] w fun e w' => e = .returned (.bool KV) ∧ Below w.heap.size w w') := Lib.hid fun w => by rw [← hKV]; exact rvalid_any N V w hn1 hv1
  have H3 : Hid (∀ w, MaxLen m w → Calls Tryd.prog 19 #[.agg #[.string N, .string V]] w fun e w' => e = .returned (.bool KS) ∧ Below w.heap.size w w') := Lib.hid fun w hm => by rw [← hKS]; exact simple_any N V m w hn1 hv1 hm
  have H4 : Hid (∀ w, Calls Tryd.prog 23 #[.agg #[.string N, .string V]] w fun e w' => e = .returned (.bool KS) ∧ Below w.heap.size w w') := Lib.hid fun w => by rw [← hKS]; exact rsimple_any N V w hn1 hv1
  clear hKV hKS
  go_wp2_with fail
  go_region_law (first
    | (go_simp
       go_at_call 21
       refine (H1.out _).mono ?_
       rintro e w5 ⟨rfl, hb5⟩
       have a0 := (hb5.cell (p := ⟨sb, 0, none⟩) hl3).trans d0
       have a1 := (hb5.cell (p := ⟨sb, 1, none⟩) hl3).trans d1
       have hl5 : sb < w5.heap.size := Nat.lt_of_lt_of_le hl3 hb5.size
       have HB5 := Lib.hid (HB3'.out.trans (hb5.mono HB3'.out.size)); have HM5 := Lib.hid (HM3'.out.below hb5)
       clear hb5)
    | (go_simp
       go_at_call 22
       refine (H2.out _).mono ?_
       rintro e w6 ⟨rfl, hb6⟩
       have b0 := (hb6.cell (p := ⟨sb, 0, none⟩) hl5).trans a0
       have b1 := (hb6.cell (p := ⟨sb, 1, none⟩) hl5).trans a1
       have hl6 : sb < w6.heap.size := Nat.lt_of_lt_of_le hl5 hb6.size
       have HB6 := Lib.hid (HB5.out.trans (hb6.mono HB5.out.size)); have HM6 := Lib.hid (HM5.out.below hb6)
       clear hb6)
    | (go_simp
       go_at_call 19
       refine (H3.out _ HM6.out).mono ?_
       rintro e w7 ⟨rfl, hb7⟩
       have f0 := (hb7.cell (p := ⟨sb, 0, none⟩) hl6).trans b0
       have f1 := (hb7.cell (p := ⟨sb, 1, none⟩) hl6).trans b1
       have hl7 : sb < w7.heap.size := Nat.lt_of_lt_of_le hl6 hb7.size
       have HB7 := Lib.hid (HB6.out.trans (hb7.mono HB6.out.size)); have HM7 := Lib.hid (HM6.out.below hb7)
       clear hb7)
    | (go_simp
       go_at_call 23
       refine (H4.out _).mono ?_
       rintro e w8 ⟨rfl, hb8⟩
       have HB8 := Lib.hid (HB7.out.trans (hb8.mono HB7.out.size)); have HM8 := Lib.hid (HM7.out.below hb8)
       clear hb8)
    | (go_simp
       go_at_call 11
       refine (awake_any m _ HM8.out).mono ?_
       rintro e w9 ⟨rfl, hb9⟩
       have HB9 := Lib.hid (HB8.out.trans (hb9.mono HB8.out.size))
       clear hb9))
  all_goals
    go_wp2_with fail
    go_ret
    exact hR _ _ ⟨rfl, HB9.out⟩
theorem kinds_row {w : World} (x : Fd) (cs : Array Value) (hb : x.1.length ≤ 140737488351232 ∧ x.2.length ≤ 140737488351232) (hr : fld.rep w (fun _ => True) x cs.toList) (m : Int) (hm : MaxLen m w) :
    Calls Tryd.prog 7 #[.agg cs] w fun e w' => e = .returned (.bool true) ∧ Below w.heap.size w w' := by
  obtain ⟨c1, c2, h, rfl, rfl⟩ := hr
  have hcs : cs = #[.string (ofL x.1), .string (ofL x.2)] := by
    have := congrArg List.toArray h; simpa using this
  rw [hcs]
  exact kinds_walk (ofL x.1) (ofL x.2) m w hm (by rw [ofL_size]; exact hb.1) (by rw [ofL_size]; exact hb.2)
end Go.Proofs.YtnjkoegepjhklaaDoor.Asc
