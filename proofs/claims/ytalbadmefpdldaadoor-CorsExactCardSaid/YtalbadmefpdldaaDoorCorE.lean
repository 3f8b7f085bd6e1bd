/-
  What the document fixes; the laws parapetlaw17.CorsMethods, CorsAllows, CorsPlain answer true.
  Arguments within the rows' own reach; the library's MaxLen is a number.
-/
import Derived.Test.YtalbadmefpdldaaDoorCorD
namespace Go.Proofs.YtalbadmefpdldaaDoor.Asc
open Go Go.RowKit Go.Proofs.YtalbadmefpdldaaDoor.Pb

def putB : ByteArray := ⟨#[80, 85, 84]⟩
theorem uns_nil : unsafeN [] = [] := by
  unfold unsafeN
  rw [show gsize ([] : List Fd) = 0 from rfl, if_neg (by decide), show bads ([] : List Fd) = [] from rfl]
  exact (sortU_of _ [] (by simp [Rise]) (fun _ => Iff.rfl)).symm
theorem aw_pre : preN (toL putB) [] = true := by unfold preN; rw [show simpleM (toL putB) = false by decide]; rfl
theorem aw_all : allowsN (toL ⟨#[42]⟩) [[80, 85, 84]] [] false (toL putB) [] false = true := by unfold allowsN; rw [uns_nil]; decide
theorem aw_not : allowsN (toL ⟨#[42]⟩) [[80, 85, 84]] [] false (toL putB) [] true = false := by unfold allowsN; rw [uns_nil]; decide

set_option maxHeartbeats 4000000 in
theorem awake_any (m : Int) (w : World) (hm : MaxLen m w) :
    Calls Tryd.prog 12 #[] w fun e w' => e = .returned (.bool true) ∧ Below w.heap.size w w' := by
  refine calls_gen fun R hR => ?_
  have HM := Lib.hid hm
  clear hm
  go_enter Tryd.func12, Tryd.ntmps12
  obtain ⟨w1, hw1⟩ : ∃ w1, w.alloc (.cells #[.string putB] 9) = w1 := ⟨_, rfl⟩
  have hv := texts_lit w [[80, 85, 84]] #[.string putB] rfl (by decide) 1 rfl
  have hb1 := below_new w (.cells #[.string putB] 9)
  rw [hw1] at hv hb1
  have HV := Lib.hid hv; have HB1 := Lib.hid hb1; have HW1 := Lib.hid hw1
  clear hv hb1
  go_wp2_with fail
  rw [show w.alloc (.cells #[.string ⟨#[80, 85, 84]⟩] 9) = w1 from hw1]
  clear hw1
  have hs1 : w1.heap.size = w.heap.size + 1 := by rw [← HW1.out]; simp
  obtain ⟨w2, hw2⟩ : ∃ w2, w1.alloc (.cells #[.string ⟨#[42]⟩, .slice (some ⟨w.heap.size, 0, none⟩) 1 1, .slice none 0 0, .bool false] 24) = w2 := ⟨_, rfl⟩
  have g2 := blk_new w1 (.cells #[.string ⟨#[42]⟩, .slice (some ⟨w.heap.size, 0, none⟩) 1 1, .slice none 0 0, .bool false] 24)
  have hb2 := below_new w1 (.cells #[.string ⟨#[42]⟩, .slice (some ⟨w.heap.size, 0, none⟩) 1 1, .slice none 0 0, .bool false] 24)
  rw [hw2] at g2 hb2 ⊢
  rw [hs1] at g2
  have HV2 : Hid (View Rp.str w2 (fun k => w.heap.size ≤ k) [[80, 85, 84]] (.slice (some ⟨w.heap.size, 0, none⟩) 1 1)) := Lib.hid (HV.out.below hb2)
  have HB2 := Lib.hid (HB1.out.trans (hb2.mono HB1.out.size))
  obtain ⟨pb, hpb⟩ : ∃ pb, w.heap.size + 1 = pb := ⟨_, rfl⟩
  rw [hpb] at g2 ⊢
  have d0 := blk_cell g2 0
  have d1 := blk_cell g2 1
  have d2 := blk_cell g2 2
  have d3 := blk_cell g2 3
  simp at d0 d1 d2 d3
  have hlp := blk_lt g2
  have HD0 := Lib.hid d0; have HD1 := Lib.hid d1; have HD2 := Lib.hid d2; have HD3 := Lib.hid d3
  obtain ⟨vm, hvm⟩ : ∃ vm, Value.slice (some ⟨w.heap.size, 0, none⟩) 1 1 = vm := ⟨_, rfl⟩
  rw [hvm] at HV2 HD1 ⊢
  clear d0 d1 d2 d3 g2 hb2 hw2 hpb hs1 hvm HW1 HV HB1
  have HNIL : Hid (∀ w, View Rp.str w (fun k => True) [] (.slice none 0 0)) := Lib.hid fun w => View.nil _ _ _
  refine (pre_any putB [] _ (fun _ => True) m w2 (HM.out.below HB2.out) (View.nil _ _ _) (by decide) (by decide) (by simp)).mono ?_
  rintro e w3 ⟨rfl, hb3⟩
  rw [aw_pre]
  have HE3 : Hid (Ext w2 w3) := Lib.hid hb3
  clear hb3
  have e0 := ext_cell HE3.out HD0.out
  have e1 := ext_cell HE3.out HD1.out
  have e2 := ext_cell HE3.out HD2.out
  have e3 := ext_cell HE3.out HD3.out
  have hp4 := Nat.lt_of_lt_of_le hlp HE3.out.size
  go_wp2_with fail
  refine (allows_any ⟨#[42]⟩ [[80, 85, 84]] [] vm (.slice none 0 0) false (fun _ => True) putB [] _ (fun _ => True) false m w3 ((HM.out.below HB2.out).below HE3.out) ((HV2.out.below HE3.out).mono fun _ _ => trivial) (View.nil _ _ _) (View.nil _ _ _) (by decide) (by decide) (by simp) (by decide) (by decide) (by simp)).mono ?_
  rintro e w4 ⟨rfl, hb4⟩
  rw [aw_all]
  have HE4 := Lib.hid (Ext.trans HE3.out hb4)
  clear hb4 e0 e1 e2 e3 hp4
  have e0 := ext_cell HE4.out HD0.out
  have e1 := ext_cell HE4.out HD1.out
  have e2 := ext_cell HE4.out HD2.out
  have e3 := ext_cell HE4.out HD3.out
  have hp5 := Nat.lt_of_lt_of_le hlp HE4.out.size
  go_wp2_with fail
  refine (allows_any ⟨#[42]⟩ [[80, 85, 84]] [] vm (.slice none 0 0) false (fun _ => True) putB [] _ (fun _ => True) true m w4 ((HM.out.below HB2.out).below HE4.out) ((HV2.out.below HE4.out).mono fun _ _ => trivial) (View.nil _ _ _) (View.nil _ _ _) (by decide) (by decide) (by simp) (by decide) (by decide) (by simp)).mono ?_
  rintro e w5 ⟨rfl, hb5⟩
  rw [aw_not]
  have HE5 := Lib.hid (Ext.trans HE4.out hb5)
  clear hb5 e0 e1 e2 e3 hp5
  go_wp2_with fail
  refine (method_any ⟨#[112, 117, 116]⟩ w5 (by decide)).mono ?_
  rintro e w6 ⟨rfl, hb6⟩
  have HE6 := Lib.hid (Ext.trans HE5.out hb6)
  obtain ⟨E, hE⟩ : ∃ E, ofL (methodN (toL ⟨#[112, 117, 116]⟩)) = E := ⟨_, rfl⟩
  have hEl : (E.toList == [80, 85, 84]) = true := by rw [← hE, toList_ofL]; decide
  rw [hE]
  clear hE hb6
  go_wp2_with fail
  go_ret
  exact hR _ _ ⟨rfl, Ext.then HB2.out HE6.out (Nat.le_refl _)⟩

set_option maxHeartbeats 8000000 in
theorem methods_walk (s : ByteArray) (l : List Fd) (v : Value) (F : Nat → Prop) (m : Int) (w : World) (hm : MaxLen m w) (hv : View fld w F l v) (hl : l.length ≤ 140737488351232) (hx : ∀ x ∈ l, x.1.length ≤ 140737488351232 ∧ x.2.length ≤ 140737488351232) (hs : s.size ≤ 140737488351232) :
    Calls Tryd.prog 7 #[.string s, v] w fun e w' => e = .returned (.bool true) ∧ Below w.heap.size w w' := by
  refine calls_gen fun R hR => ?_
  have HM := Lib.hid hm; have HV := Lib.hid hv; have HX := Lib.hid hx
  clear hm hv hx
  go_enter Tryd.func7, Tryd.ntmps7
  by_cases hs2 : 2000 < s.size
  · go_wp2_with fail
    refine (awake_any m w HM.out).mono ?_
    rintro e w1 ⟨rfl, hb1⟩
    go_wp2_with fail
    go_ret
    exact hR _ _ ⟨rfl, hb1⟩
  · go_wp2_with fail
    refine (fields_any l v F w HV.out hl HX.out).mono ?_
    rintro e w1 ⟨rfl, hb1⟩
    have HB1 := Lib.hid hb1; have HM1 := Lib.hid (HM.out.below hb1)
    clear hb1
    cases hd : decide (fsize l ≤ 6000) with
    | false =>
      clear hd
      go_wp2_with fail
      refine (awake_any m w1 HM1.out).mono ?_
      rintro e w2 ⟨rfl, hb2⟩
      go_wp2_with fail
      go_ret
      exact hR _ _ ⟨rfl, HB1.out.trans (hb2.mono HB1.out.size)⟩
    | true =>
      obtain ⟨h6, h6x⟩ := fsize_mem l (of_decide_eq_true hd)
      have HX6 : Hid (∀ x ∈ l, x.1.length ≤ 1000000 ∧ x.2.length ≤ 1000000) := Lib.hid fun x hx => by have := h6x x hx; omega
      have HL6 : Hid (l.length ≤ 100000) := Lib.hid (by omega)
      have HS : Hid (s.size ≤ 1000000) := Lib.hid (by omega)
      clear hd h6x
      obtain ⟨M, hM⟩ : ∃ M, ofL (methodN (toL s)) = M := ⟨_, rfl⟩
      have HMM := Lib.hid hM
      clear hM
      have hself : (M.toList == M.toList) = true := by simp
      go_wp2_with fail
      refine (method_any s _ HS.out).mono ?_
      rintro e wx ⟨rfl, hbx⟩
      rw [HMM.out]
      have HBN := Lib.hid (HB1.out.trans (hbx.mono HB1.out.size))
      clear HB1 hbx
      have HB1 := HBN
      clear HBN
      go_wp2_with fail
      refine (rmethod_any s _ HS.out).mono ?_
      rintro e wx ⟨rfl, hbx⟩
      rw [HMM.out]
      have HBN := Lib.hid (HB1.out.trans (hbx.mono HB1.out.size))
      clear HB1 hbx
      have HB1 := HBN
      clear HBN
      obtain ⟨fo, hfo⟩ : ∃ b, forbidN (toL s) = b := ⟨_, rfl⟩
      have Hfo := Lib.hid hfo
      clear hfo
      go_wp2_with fail
      refine (forbid_any s _ HS.out).mono ?_
      rintro e wx ⟨rfl, hbx⟩
      rw [Hfo.out]
      have HBN := Lib.hid (HB1.out.trans (hbx.mono HB1.out.size))
      clear HB1 hbx
      have HB1 := HBN
      clear HBN
      go_wp2_with fail
      refine (rforbid_any s _ HS.out).mono ?_
      rintro e wx ⟨rfl, hbx⟩
      rw [Hfo.out]
      have HBN := Lib.hid (HB1.out.trans (hbx.mono HB1.out.size))
      clear HB1 hbx
      have HB1 := HBN
      clear HBN
      obtain ⟨si, hsi⟩ : ∃ b, simpleM (toL s) = b := ⟨_, rfl⟩
      have Hsi := Lib.hid hsi
      clear hsi
      go_wp2_with fail
      refine (simpleM_any s _ HS.out).mono ?_
      rintro e wx ⟨rfl, hbx⟩
      rw [Hsi.out]
      have HBN := Lib.hid (HB1.out.trans (hbx.mono HB1.out.size))
      clear HB1 hbx
      have HB1 := HBN
      clear HBN
      go_wp2_with fail
      refine (rsimpleM_any s _ HS.out).mono ?_
      rintro e wx ⟨rfl, hbx⟩
      rw [Hsi.out]
      have HBN := Lib.hid (HB1.out.trans (hbx.mono HB1.out.size))
      clear HB1 hbx
      have HB1 := HBN
      clear HBN
      obtain ⟨pr, hpr⟩ : ∃ b, preN (toL s) l = b := ⟨_, rfl⟩
      have Hpr := Lib.hid hpr
      clear hpr
      go_wp2_with fail
      refine (pre_any s l v F m _ (HM.out.below HB1.out) (HV.out.below HB1.out) HS.out HL6.out HX6.out).mono ?_
      rintro e wx ⟨rfl, hbx⟩
      rw [Hpr.out]
      have HBN := Lib.hid (HB1.out.trans (hbx.mono HB1.out.size))
      clear HB1 hbx
      have HB1 := HBN
      clear HBN
      go_wp2_with fail
      refine (rpre_any s l v F m _ (HM.out.below HB1.out) (HV.out.below HB1.out) HS.out HL6.out HX6.out).mono ?_
      rintro e wx ⟨rfl, hbx⟩
      rw [Hpr.out]
      have HBN := Lib.hid (HB1.out.trans (hbx.mono HB1.out.size))
      clear HB1 hbx
      have HB1 := HBN
      clear HBN
      go_wp2_with fail
      refine (awake_any m _ (HM.out.below HB1.out)).mono ?_
      rintro e w5 ⟨rfl, hb5⟩
      go_wp2_with fail
      go_ret
      exact hR _ _ ⟨rfl, HB1.out.trans (hb5.mono HB1.out.size)⟩
theorem methods_row {w : World} (s : ByteArray) (hs : s.size ≤ 140737488351232) (l : List Fd) (v : Value) (F : Nat → Prop) (hb : l.length * Tryd.prog.bytesOf 34 ≤ 140737488351232 ∧ ∀ x ∈ l, x.1.length ≤ 140737488351232 ∧ x.2.length ≤ 140737488351232) (hv : View fld w F l v) (m : Int) (hm : MaxLen m w) :
    Calls Tryd.prog 7 #[.string s, v] w fun e w' => e = .returned (.bool true) ∧ Below w.heap.size w w' :=
  methods_walk s l v F m w hm hv (by have := hb.1; rw [show Tryd.prog.bytesOf 34 = 32 by kernel_rfl] at this; omega) hb.2 hs
end Go.Proofs.YtalbadmefpdldaaDoor.Asc
