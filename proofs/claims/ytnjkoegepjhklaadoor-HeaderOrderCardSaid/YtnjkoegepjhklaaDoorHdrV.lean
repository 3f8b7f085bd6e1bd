/-
  The law parapetlaw13.HeaderValues answers true.
  The library's MaxLen is a number; arguments within the rows' own reach.
-/
import Derived.Test.YtnjkoegepjhklaaDoorHdrL
namespace Go.Proofs.YtnjkoegepjhklaaDoor.Asc
open Go Go.RowKit Go.Proofs.YtnjkoegepjhklaaDoor.Pb

def sumLen (vs : List Tx) : Nat := (vs.map fun v => v.length + 1).sum
theorem listOf_size (vs : List Tx) : (listOf vs).length ≤ sumLen vs := by
  induction vs with
  | nil => simp [listOf, sumLen]
  | cons v vs ih =>
    have h1 := someOf_len (split v 44) (split v 44).length
    rw [List.take_length] at h1
    have h2 := split_len v 44
    unfold listOf sumLen at *
    rw [List.flatMap_cons, List.length_append, List.map_cons, List.sum_cons]
    omega
theorem values_size (l : List Fd) (ns : List Tx) : sumLen (values l ns) ≤ l.length + (l.map fun x => x.1.length + x.2.length).sum := by
  induction l with
  | nil => simp [values, sumLen]
  | cons x l ih =>
    unfold values sumLen at *
    rw [List.filter_cons]
    cases hs : sameIn x.1 ns
    · simp only [Bool.false_eq_true, if_false, List.map_cons, List.sum_cons, List.length_cons]; omega
    · simp only [if_true, List.map_cons, List.sum_cons, List.length_cons]; omega
theorem fsize_eq (l : List Fd) : fsize l = l.length + (l.map fun x => x.1.length + x.2.length).sum := by
  unfold fsize fsizeAt; rw [List.take_length]
theorem sum_mem_len (vs : List Tx) (x : Tx) (h : x ∈ vs) : x.length + 1 ≤ sumLen vs := le_sum_mem (fun v : Tx => v.length + 1) x vs h
theorem sum_count (vs : List Tx) : vs.length ≤ sumLen vs := by
  induction vs with
  | nil => simp [sumLen]
  | cons v vs ih => unfold sumLen at *; rw [List.map_cons, List.sum_cons, List.length_cons]; omega
theorem total_mem (l : List Tx) (x : Tx) (h : x ∈ l) : x.length ≤ total l := by
  have := le_sum_mem (fun v : Tx => v.length) x l h
  unfold total totalAt
  rw [List.take_length]
  have e : (l.map fun v => v.length) = l.map List.length := rfl
  rw [e] at this; omega
theorem values_nil (l : List Fd) : values l [] = [] := by
  unfold values
  have : (l.filter fun f => sameIn f.1 []) = [] := by rw [List.filter_eq_nil_iff]; intro f _; simp [sameIn]
  rw [this]; rfl

set_option maxHeartbeats 2000000 in
theorem values_walk (l : List Fd) (v : Value) (F : Nat → Prop) (ns : List Tx) (u : Value) (G : Nat → Prop) (m : Int) (w : World) (hm : MaxLen m w) (hv : View fld w F l v) (hl : l.length ≤ 140737488351232) (hx : ∀ x ∈ l, x.1.length ≤ 140737488351232 ∧ x.2.length ≤ 140737488351232)
    (hu : View Rp.str w G ns u) (hnl : ns.length ≤ 140737488351232) (hnx : ∀ x ∈ ns, x.length ≤ 140737488351232) :
    Calls Tryd.prog 9 #[v, u] w fun e w' => e = .returned (.bool true) ∧ Below w.heap.size w w' := by
  refine calls_gen fun R hR => ?_
  have HM := Lib.hid hm; have HV := Lib.hid hv; have HX := Lib.hid hx; have HU := Lib.hid hu; have HNX := Lib.hid hnx
  clear hm hv hx hu hnx
  go_enter Tryd.func9, Tryd.ntmps9
  go_wp2_with fail
  refine (fields_any l v F w HV.out hl HX.out).mono ?_
  rintro e w1 ⟨rfl, hb1⟩
  have HB1 := Lib.hid hb1; have HM1 := Lib.hid (HM.out.below hb1); have HV1 := Lib.hid (HV.out.below hb1); have HU1 := Lib.hid (HU.out.below hb1)
  clear hb1
  cases hd : decide (fsize l ≤ 6000) with
  | false =>
    clear hd
    go_wp2_with fail
    refine (awake_any m w1 HM1.out).mono ?_
    rintro e w2 ⟨rfl, hb2⟩
    go_wp2_with fail
    go_ret
    exact hR _ _ ⟨rfl, HB1.out.trans (hb2.mono HB1.out.size)⟩
  | true =>
    have hfs := of_decide_eq_true hd
    obtain ⟨h6, h6x⟩ := fsize_mem l hfs
    have hvs := values_size l ns
    rw [← fsize_eq] at hvs
    have HX6 : Hid (∀ x ∈ l, x.1.length ≤ 1000000) := Lib.hid fun x hx => by have := h6x x hx; omega
    have HVS : Hid (sumLen (values l ns) ≤ 6000) := Lib.hid (by omega)
    clear hd h6x hvs hfs
    go_wp2_with fail
    refine (total_any ns u _ w1 3000 (by omega) HNX.out hnl HU1.out).mono ?_
    rintro e w' ⟨rfl, n, rfl, ht1, ht2, ht3⟩
    by_cases h3 : 3000 < n
    · clear ht1 ht2
      go_wp2_with fail
      refine (awake_any m w1 HM1.out).mono ?_
      rintro e w2 ⟨rfl, hb2⟩
      go_wp2_with fail
      go_ret
      exact hR _ _ ⟨rfl, HB1.out.trans (hb2.mono HB1.out.size)⟩
    · have htot : total ns ≤ 3000 := by have := ht1 (by omega); omega
      have hnl2 : ns.length ≤ 1000000 := by have := total_len ns; omega
      have HNX2 : Hid (∀ x ∈ ns, x.length ≤ 1000000) := Lib.hid fun x hx => by have := total_mem ns x hx; omega
      clear ht1 ht2 htot
      go_wp2_with fail
      refine (values_any l ns v u _ _ w1 HV1.out HU1.out (by omega) HX6.out hnl2 HNX2.out).mono ?_
      rintro e w2 ⟨va, rfl, hoa, hb2⟩
      have HB2 := Lib.hid (HB1.out.trans (hb2.mono HB1.out.size)); have HM2 := Lib.hid (HM1.out.below hb2); have HV2 := Lib.hid (HV1.out.below hb2); have HU2 := Lib.hid (HU1.out.below hb2)
      have HA2 := Lib.hid hoa
      clear hb2 hoa
      go_wp2_with fail
      refine (rvalues_any l ns v u _ _ w2 HV2.out HU2.out (by omega) HX6.out hnl2 HNX2.out).mono ?_
      rintro e w3 ⟨vb, rfl, hob, hb3⟩
      have HB3 := Lib.hid (HB2.out.trans (hb3.mono HB2.out.size)); have HM3 := Lib.hid (HM2.out.below hb3); have HV3 := Lib.hid (HV2.out.below hb3)
      have HA3 := Lib.hid (HA2.out.below hb3); have HBV3 := Lib.hid hob
      have hcnt : (values l ns).length ≤ 6000 := by have := sum_count (values l ns); have := HVS.out; omega
      have HVX : Hid (∀ x ∈ values l ns, x.length ≤ 1000000) := Lib.hid fun x hx => by have := sum_mem_len _ x hx; have := HVS.out; omega
      have hlc : (listOf (values l ns)).length ≤ 6000 := by have := listOf_size (values l ns); have := HVS.out; omega
      obtain ⟨Z, hZ⟩ : ∃ Z, values l ns = Z := ⟨_, rfl⟩
      rw [hZ] at HA3 HBV3 hcnt HVX hlc
      clear hb3 hob hZ HA2
      go_wp2_with fail
      refine (texts_any Z Z _ _ _ _ w3 HA3.out.view HBV3.out.view (by omega)).mono ?_
      rintro e w4 ⟨rfl, hb4⟩
      rw [show (Z == Z) = true by simp]
      have HB4 := Lib.hid (HB3.out.trans (hb4.mono HB3.out.size)); have HM4 := Lib.hid (HM3.out.below hb4); have HV4 := Lib.hid (HV3.out.below hb4); have HBV4 := Lib.hid (HBV3.out.below hb4)
      clear hb4
      go_wp2_with fail
      refine (list_any Z vb _ w4 HBV4.out.view (by omega) HVX.out m HM4.out).mono ?_
      rintro e w5 ⟨vl, rfl, hol, hb5⟩
      have HB5 := Lib.hid (HB4.out.trans (hb5.mono HB4.out.size)); have HM5 := Lib.hid (HM4.out.below hb5); have HV5 := Lib.hid (HV4.out.below hb5); have HBV5 := Lib.hid (HBV4.out.below hb5); have HL5 := Lib.hid hol
      clear hb5 hol
      go_wp2_with fail
      refine (rlist_any Z vb _ w5 HBV5.out.view (by omega) HVX.out).mono ?_
      rintro e w6 ⟨vr, rfl, hor, hb6⟩
      have HB6 := Lib.hid (HB5.out.trans (hb6.mono HB5.out.size)); have HM6 := Lib.hid (HM5.out.below hb6); have HV6 := Lib.hid (HV5.out.below hb6); have HL6 := Lib.hid (HL5.out.below hb6); have HR6 := Lib.hid hor
      clear hb6 hor
      go_wp2_with fail
      refine (texts_any (listOf Z) (listOf Z) _ _ _ _ w6 HL6.out.view HR6.out.view (by omega)).mono ?_
      rintro e w7 ⟨rfl, hb7⟩
      rw [show (listOf Z == listOf Z) = true by simp]
      have HB7 := Lib.hid (HB6.out.trans (hb7.mono HB6.out.size)); have HM7 := Lib.hid (HM6.out.below hb7); have HV7 := Lib.hid (HV6.out.below hb7)
      clear hb7
      go_wp2_with fail
      refine (values_any l [] v _ _ (fun _ => False) w7 HV7.out (View.nil _ _ _) (by omega) HX6.out (by simp) (by simp)).mono ?_
      rintro e w8 ⟨vc, rfl, hoc, hb8⟩
      rw [values_nil] at hoc
      obtain ⟨CA, cc, rfl, hcc⟩ := hoc.slice
      have HB8 := Lib.hid (HB7.out.trans (hb8.mono HB7.out.size)); have HM8 := Lib.hid (HM7.out.below hb8)
      clear hb8 hoc
      go_wp2_with fail
      refine (awake_any m w8 HM8.out).mono ?_
      rintro e w9 ⟨rfl, hb9⟩
      go_wp2_with fail
      go_ret
      exact hR _ _ ⟨rfl, HB8.out.trans (hb9.mono HB8.out.size)⟩
theorem values_row {w : World} (l : List Fd) (v : Value) (F : Nat → Prop) (hb : l.length * Tryd.prog.bytesOf 29 ≤ 140737488351232 ∧ ∀ x ∈ l, x.1.length ≤ 140737488351232 ∧ x.2.length ≤ 140737488351232) (hv : View fld w F l v)
    (ns : List Tx) (u : Value) (G : Nat → Prop) (hn : ns.length * Tryd.prog.bytesOf 9 ≤ 140737488351232 ∧ ∀ x ∈ ns, x.length ≤ 140737488351232) (hu : View Rp.str w G ns u) (m : Int) (hm : MaxLen m w) :
    Calls Tryd.prog 9 #[v, u] w fun e w' => e = .returned (.bool true) ∧ Below w.heap.size w w' :=
  values_walk l v F ns u G m w hm hv (by have := hb.1; rw [show Tryd.prog.bytesOf 29 = 32 by kernel_rfl] at this; omega) hb.2 hu (by have := hn.1; rw [show Tryd.prog.bytesOf 9 = 16 by kernel_rfl] at this; omega) hn.2
end Go.Proofs.YtnjkoegepjhklaaDoor.Asc
