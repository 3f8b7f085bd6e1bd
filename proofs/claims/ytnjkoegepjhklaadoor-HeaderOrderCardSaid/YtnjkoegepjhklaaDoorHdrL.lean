/-
  The law parapetlaw13.HeaderUnsafe answers true; the package's own example.
  The library's MaxLen is a number; arguments within the rows' own reach.
-/
import Derived.Test.YtnjkoegepjhklaaDoorHdrJ
namespace Go.Proofs.YtnjkoegepjhklaaDoor.Asc
open Go Go.RowKit Go.Proofs.YtnjkoegepjhklaaDoor.Pb

def MaxLen (m : Int) (w : World) : Prop := w.cell? ⟨0, 0, none⟩ = some (.int .i64 m)
theorem MaxLen.below {m : Int} {w w' : World} (h : MaxLen m w) (hb : Below w.heap.size w w') : MaxLen m w' :=
  (hb.cell (p := ⟨0, 0, none⟩) (World.block_lt_of_cell? w _ h)).trans h
theorem MaxLen.kept {m : Int} {w w0 w' : World} (h : MaxLen m w0) (hb : Below w0.heap.size w0 w') : MaxLen m w' := h.below hb

theorem lits {w : World} (l : List (List UInt8)) (cs : Array Value) (h : cs.toList = l.map fun x => Value.string (ofL x)) (hl : l.length ≤ 1000000) (n : Nat) (hn : n = l.length) :
    View Rp.str (w.alloc (.cells cs 9)) (fun _ => True) l (.slice (some ⟨w.heap.size, 0, none⟩) n n) :=
  (texts_lit w l cs h hl n hn).mono fun _ _ => trivial
theorem flds_lit {w : World} (l : List Fd) (cs : Array Value) (h : cs.toList = l.flatMap fun x => [Value.string (ofL x.1), Value.string (ofL x.2)]) (hl : l.length ≤ 1000000) (n : Nat) (hn : n = l.length) :
    View fld (w.alloc (.cells cs 29)) (fun _ => True) l (.slice (some ⟨w.heap.size, 0, none⟩) n n) := by
  have he : ∀ l : List Fd, Elems (fld.rep w fun _ => False) l (l.flatMap fun x => [Value.string (ofL x.1), Value.string (ofL x.2)]) := by
    intro l
    induction l with
    | nil => rfl
    | cons x l ih => exact ⟨[Value.string (ofL x.1), Value.string (ofL x.2)], _, rfl, ⟨[_], [_], rfl, rfl, rfl⟩, ih⟩
  have hh := Own.lit (d := fld) (e := 29) w (G := fun _ => False) (xs := l) (he l) hn (by unfold maxLen; omega)
  rw [← h, Array.toArray_toList] at hh
  exact hh.view.mono fun _ _ => trivial

theorem awake_ess : essence (toL ⟨#[84, 101, 120, 116, 47, 80, 108, 97, 105, 110, 59, 32, 99, 104, 97, 114, 115, 101, 116, 61, 120]⟩) = ([116, 101, 120, 116, 47, 112, 108, 97, 105, 110], true) := by decide
def awakeL : List Fd := [([88, 45, 65], [49]), ([65, 99, 99, 101, 112, 116], [97])]
theorem awake_uns : unsafeN awakeL = [[120, 45, 97]] := by
  unfold unsafeN
  rw [show gsize awakeL = 1 by decide, if_neg (by decide), show bads awakeL = [[120, 45, 97]] by decide]
  exact (sortU_of _ [[120, 45, 97]] (by simp [Rise]) (fun _ => Iff.rfl)).symm

set_option maxHeartbeats 1000000 in
theorem awake_any (m : Int) (w : World) (hm : MaxLen m w) :
    Calls Tryd.prog 11 #[] w fun e w' => e = .returned (.bool true) ∧ Below w.heap.size w w' := by
  refine calls_gen fun R hR => ?_
  have HM := Lib.hid hm
  clear hm
  go_enter Tryd.func11, Tryd.ntmps11
  go_wp2_with fail
  refine (essence_any _ m w (by decide) HM.out).mono ?_
  rintro e w1 ⟨rfl, hb1⟩
  rw [awake_ess]
  have hm1 := HM.out.below hb1
  have HB1 := Lib.hid hb1; have HM1 := Lib.hid hm1
  obtain ⟨E, hE⟩ : ∃ E, ofL ([116, 101, 120, 116, 47, 112, 108, 97, 105, 110], true).1 = E := ⟨_, rfl⟩
  have hEl : (E.toList == [116, 101, 120, 116, 47, 112, 108, 97, 105, 110]) = true := by rw [← hE, toList_ofL]; decide
  rw [hE]
  clear hE hb1 hm1
  go_wp2_with fail
  have hbn := below_new w1 (.cells #[.string ⟨#[88, 45, 65]⟩, .string ⟨#[49]⟩, .string ⟨#[65, 99, 99, 101, 112, 116]⟩, .string ⟨#[97]⟩] 29)
  refine (unsafe_any awakeL _ _ m _ (flds_lit awakeL _ rfl (by decide) 2 rfl) (by decide) (by decide) (HM1.out.below hbn)).mono ?_
  rintro e w2 ⟨v2, rfl, ho2, hb2⟩
  rw [awake_uns] at ho2
  have HB2 := Lib.hid ((HB1.out.trans (hbn.mono HB1.out.size)).trans (hb2.mono (by have := HB1.out.size; simp; omega)))
  have HO2 := Lib.hid ho2
  clear hbn hb2 ho2
  go_wp2_with fail
  refine (texts_any [[120, 45, 97]] [[120, 45, 97]] _ _ _ _ _ (HO2.out.alloc _).view (lits [[120, 45, 97]] _ rfl (by decide) 1 rfl) (by decide)).mono ?_
  rintro e w3 ⟨rfl, hb3⟩
  have HB3 := Lib.hid (HB2.out.trans (((below_new w2 _).trans (hb3.mono (by simp))).mono HB2.out.size))
  rw [show (([[120, 45, 97]] : List (List UInt8)) == [[120, 45, 97]]) = true by decide]
  go_wp2_with fail
  go_ret
  exact hR _ _ ⟨rfl, HB3.out⟩

set_option maxHeartbeats 1000000 in
theorem unsafe_walk (l : List Fd) (v : Value) (F : Nat → Prop) (m : Int) (w : World) (hm : MaxLen m w) (hv : View fld w F l v) (hl : l.length ≤ 140737488351232) (hx : ∀ x ∈ l, x.1.length ≤ 140737488351232 ∧ x.2.length ≤ 140737488351232) :
    Calls Tryd.prog 3 #[v] w fun e w' => e = .returned (.bool true) ∧ Below w.heap.size w w' := by
  refine calls_gen fun R hR => ?_
  have HM := Lib.hid hm; have HV := Lib.hid hv; have HX := Lib.hid hx
  clear hm hv hx
  go_enter Tryd.func3, Tryd.ntmps3
  go_wp2_with fail
  refine (fields_any l v F w HV.out hl HX.out).mono ?_
  rintro e w1 ⟨rfl, hb1⟩
  have HB1 := Lib.hid hb1; have HM1 := Lib.hid (HM.out.below hb1); have HV1 := Lib.hid (HV.out.below hb1)
  clear hb1
  cases hd : decide (fsize l ≤ 6000) with
  | false =>
    clear hd
    go_wp2_with fail
    refine (awake_any m w1 HM1.out).mono ?_
    rintro e w2 ⟨rfl, hb2⟩
    go_wp2_with fail
    go_ret
    exact hR _ _ ⟨rfl, HB1.out.trans (hb2.mono HB1.out.size)⟩
  | true =>
    obtain ⟨h6, h6x⟩ := fsize_mem l (of_decide_eq_true hd)
    have HX6 : Hid (∀ x ∈ l, x.1.length ≤ 1000000 ∧ x.2.length ≤ 1000000) := Lib.hid fun x hx => by have := h6x x hx; omega
    clear hd h6x
    go_wp2_with fail
    refine (unsafe_any l v _ m w1 HV1.out (by omega) HX6.out HM1.out).mono ?_
    rintro e w2 ⟨v2, rfl, ho2, hb2⟩
    have HB2 := Lib.hid (HB1.out.trans (hb2.mono HB1.out.size)); have HV2 := Lib.hid (HV1.out.below hb2); have HM2 := Lib.hid (HM1.out.below hb2); have HO2 := Lib.hid ho2
    clear hb2 ho2
    go_wp2_with fail
    refine (runs_any l v _ w2 HV2.out (by omega) HX6.out).mono ?_
    rintro e w3 ⟨v3, rfl, ho3, hb3⟩
    have HB3 := Lib.hid (HB2.out.trans (hb3.mono HB2.out.size)); have HM3 := Lib.hid (HM2.out.below hb3); have HO3 := Lib.hid ho3; have HO23 := Lib.hid (HO2.out.below hb3)
    have hul : (unsafeN l).length ≤ 1000000 := by
      have h1 := uns_len l l.length
      rw [List.take_length] at h1
      unfold unsafeN
      split
      · have := sortU_len (bads l ++ goods l); rw [List.length_append] at this; omega
      · have := sortU_len (bads l); omega
    clear hb3 ho3
    go_wp2_with fail
    refine (texts_any (unsafeN l) (unsafeN l) _ _ _ _ _ HO23.out.view HO3.out.view hul).mono ?_
    rintro e w4 ⟨rfl, hb4⟩
    have HB4 := Lib.hid (HB3.out.trans (hb4.mono HB3.out.size)); have HM4 := Lib.hid (HM3.out.below hb4)
    rw [show (unsafeN l == unsafeN l) = true by simp]
    clear hb4
    go_wp2_with fail
    refine (awake_any m w4 HM4.out).mono ?_
    rintro e w5 ⟨rfl, hb5⟩
    go_wp2_with fail
    go_ret
    exact hR _ _ ⟨rfl, HB4.out.trans (hb5.mono HB4.out.size)⟩

theorem unsafe_row {w : World} (l : List Fd) (v : Value) (F : Nat → Prop) (hb : l.length * Tryd.prog.bytesOf 29 ≤ 140737488351232 ∧ ∀ x ∈ l, x.1.length ≤ 140737488351232 ∧ x.2.length ≤ 140737488351232) (hv : View fld w F l v) (m : Int) (hm : MaxLen m w) :
    Calls Tryd.prog 3 #[v] w fun e w' => e = .returned (.bool true) ∧ Below w.heap.size w w' :=
  unsafe_walk l v F m w hm hv (by have := hb.1; rw [show Tryd.prog.bytesOf 29 = 32 by kernel_rfl] at this; omega) hb.2
end Go.Proofs.YtnjkoegepjhklaaDoor.Asc
