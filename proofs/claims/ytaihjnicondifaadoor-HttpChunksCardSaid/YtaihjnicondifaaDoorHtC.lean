/-
  Contracts: the small functions of package http.
  Lengths within the rows' own reach; the library's MaxLen is a number.
-/
import Derived.Test.YtaihjnicondifaaDoorHtB
namespace Go.Proofs.YtaihjnicondifaaDoor.Asc
open Go Go.RowKit Go.Proofs.YtaihjnicondifaaDoor.Pb

theorem old_any (w : World) (S : Nat → Prop) (b : Nat) (p : PS) (h : PAt w S b p) :
    Calls Tryd.prog 35 #[.pointer (some ⟨b, 0, none⟩)] w fun e w' => e = .returned (.bool (oldN p)) ∧ w' = w := by
  refine calls_gen fun R hR => ?_
  obtain ⟨L, F, B, h⟩ := h
  have c9 := blk_cell h.blk 9
  simp only [pcells, List.getElem?_toArray, List.getElem?_cons_zero, List.getElem?_cons_succ] at c9
  have H := Lib.hid h
  clear h
  go_enter Tryd.func35, Tryd.ntmps35
  go_wp2_with fail
  go_ret
  refine hR _ _ ⟨ret_bool ?_, rfl⟩
  unfold oldN
  rw [Bool.eq_iff_iff, beq_iff_eq, beq_iff_eq, ← UInt8.toNat_inj]; show _ ↔ p.digit.toNat = 48; omega

/-- an Item that holds a status alone -/
def itBad (n : Int) : Value := .agg #[.int .i64 n, .string ⟨#[]⟩, .string ⟨#[]⟩, .slice none 0 0, .string ⟨#[]⟩, .bool false]

theorem none_any (w : World) :
    Calls Tryd.prog 24 #[] w fun e w' => e = .returned (.tuple #[itBad 0, .bool false]) ∧ Below w.heap.size w w' := by
  refine calls_gen fun R hR => ?_
  go_enter Tryd.func24, Tryd.ntmps24
  go_wp2_with fail
  have hb := blk_new w (.cells #[.int .i64 0, .string ⟨#[]⟩, .string ⟨#[]⟩, .slice none 0 0, .string ⟨#[]⟩, .bool false] 41)
  have z0 := blk_cell hb 0
  have z1 := blk_cell hb 1
  have z2 := blk_cell hb 2
  have z3 := blk_cell hb 3
  have z4 := blk_cell hb 4
  have z5 := blk_cell hb 5
  simp only [List.getElem?_toArray, List.getElem?_cons_zero, List.getElem?_cons_succ] at z0 z1 z2 z3 z4 z5
  exact bodyPost_ret (v := .tuple #[itBad 0, .bool false]) (by simp [results, Tryd.results24, go_sem, z0, z1, z2, z3, z4, z5, itBad]) rfl (hR _ _ ⟨rfl, below_new w _⟩)

theorem bad_any (w : World) (n : Int) :
    Calls Tryd.prog 26 #[.int .i64 n] w fun e w' => e = .returned (.tuple #[itBad n, .bool true]) ∧ Below w.heap.size w w' := by
  refine calls_gen fun R hR => ?_
  go_enter Tryd.func26, Tryd.ntmps26
  go_wp2_with fail
  have hb := blk_new w (.cells #[.int .i64 n, .string ⟨#[]⟩, .string ⟨#[]⟩, .slice none 0 0, .string ⟨#[]⟩, .bool false] 41)
  have z0 := blk_cell hb 0
  have z1 := blk_cell hb 1
  have z2 := blk_cell hb 2
  have z3 := blk_cell hb 3
  have z4 := blk_cell hb 4
  have z5 := blk_cell hb 5
  simp only [List.getElem?_toArray, List.getElem?_cons_zero, List.getElem?_cons_succ] at z0 z1 z2 z3 z4 z5
  exact bodyPost_ret (v := .tuple #[itBad n, .bool true]) (by simp [results, Tryd.results26, go_sem, z0, z1, z2, z3, z4, z5, itBad]) rfl (hR _ _ ⟨rfl, below_new w _⟩)

set_option maxHeartbeats 400000 in
theorem pvalues_any (w : World) (S : Nat → Prop) (b : Nat) (p : PS) (h : PAt w S b p) (n : ByteArray) (hn : n.size ≤ 1000000) (hl : p.flds.length ≤ 100000) (hx : ∀ x ∈ p.flds, x.1.length ≤ 1000000 ∧ x.2.length ≤ 1000000) (m : Int) (hm : w.cell? ⟨0, 0, none⟩ = some (.int .i64 m)) :
    Calls Tryd.prog 31 #[.pointer (some ⟨b, 0, none⟩), .string n] w fun e w' => ∃ v, e = .returned (.tuple #[v, .int .i64 (valsN p (toL n)).length]) ∧ Own Rp.str 9 w' (fun _ => True) (listOf (valsN p (toL n))) v ∧ Below w.heap.size w w' := by
  refine calls_gen fun R hR => ?_
  obtain ⟨L, F, B, h⟩ := h
  obtain ⟨A, c, rfl, hc⟩ := h.flds.slice
  have c6 := blk_cell h.blk 6
  simp only [pcells, List.getElem?_toArray, List.getElem?_cons_zero, List.getElem?_cons_succ] at c6
  have hlt := blk_lt h.blk
  have H := Lib.hid h
  clear h
  have hml := World.block_lt_of_cell? w _ hm
  have HM := Lib.hid hm; have HML := Lib.hid hml
  have HX := Lib.hid hx
  clear hm hml hx
  go_enter Tryd.func31, Tryd.ntmps31
  go_wp2_with fail
  obtain ⟨W, hW⟩ : ∃ W, w.alloc (.cells #[.string n] 9) = W := ⟨_, rfl⟩
  have hb0 : Hid (Below w.heap.size w W) := Lib.hid (hW ▸ below_new w _)
  have hu : Hid (View Rp.str W (fun _ => True) [toL n] (.slice (some ⟨w.heap.size, 0, none⟩) 1 1)) := Lib.hid (by
    rw [← hW]
    exact (texts_lit w [toL n] #[.string n] (by simp [ofL_toL]) (by simp) 1 rfl).mono fun _ _ => trivial)
  rw [hW]
  clear hW
  refine (values_any p.flds [toL n] _ _ (fun _ => True) (fun _ => True) W ((H.out.flds.view.below hb0.out).mono fun _ _ => trivial) hu.out (by omega) (fun x hx => (HX.out x hx).1) (by simp) (fun x hx => by simp at hx; rw [hx, toL_len]; exact hn)).mono ?_
  rintro e w1 ⟨r, rfl, ho, hb⟩
  have HB := Lib.hid (hb0.out.trans (hb.mono hb0.out.size))
  obtain ⟨VS, hVS⟩ : ∃ VS, values p.flds [toL n] = VS := ⟨_, rfl⟩
  have hvl : VS.length ≤ 100000 := by
    have := values_len p.flds [toL n] p.flds.length
    rw [List.take_length, hVS] at this; omega
  have HVS : Hid (valsN p (toL n) = VS) := Lib.hid hVS
  have HVX : Hid (∀ x ∈ VS, x.length ≤ 1000000) := Lib.hid (fun x hx => by
    rw [← hVS] at hx
    unfold values at hx
    obtain ⟨y, hy, rfl⟩ := List.mem_map.1 hx
    exact (HX.out y ((List.mem_filter.1 hy).1)).2)
  rw [hVS] at ho
  clear hVS hb hb0 hu
  obtain ⟨A1, c1, rfl, hc1⟩ := ho.slice
  have HO := Lib.hid ho
  clear ho
  rw [HVS.out] at hR
  go_wp2_with fail
  refine (list_any VS _ (fun _ => True) w1 (HO.out.view.mono fun _ _ => trivial) hvl HVX.out m ((HB.out.cell (p := ⟨0, 0, none⟩) HML.out).trans HM.out)).mono ?_
  rintro e w2 ⟨r, rfl, ho2, hb2⟩
  have HB2 := Lib.hid (HB.out.trans (hb2.mono HB.out.size))
  have HO2 := Lib.hid ho2
  obtain ⟨LO, hLO⟩ : ∃ LO, listOf VS = LO := ⟨_, rfl⟩
  rw [hLO] at hR HO2
  clear ho2 hb2 hLO
  obtain ⟨A2, c2, rfl, hc2⟩ := HO2.out.slice
  go_wp2_with fail
  go_ret2
  exact hR _ _ ⟨_, rfl, HO2.out.mono fun _ _ => trivial, HB2.out⟩

theorem below_set {B : Nat} {w wx : World} (h : Below B w wx) {p : Addr} (hp : B ≤ p.block) (u : Value) : Below B w (wx.setCell p u) :=
  ⟨h.os, h.tape, h.output, by rw [size_setCell]; exact h.size, fun k hk => (Below.heap_setCell _ _ _ _ (by omega)).trans (h.block k hk)⟩
set_option maxHeartbeats 1000000 in
theorem field_any (w : World) (s : ByteArray) (hs : s.size ≤ 1000000) (m : Int) (hm : w.cell? ⟨0, 0, none⟩ = some (.int .i64 m)) :
    Calls Tryd.prog 39 #[.string s] w fun e w' => e = .returned (.tuple #[.agg #[.string (ofL (fieldN (toL s)).1), .string (ofL (fieldN (toL s)).2)], .bool (fieldOk (toL s))]) ∧ Below w.heap.size w w' := by
  refine calls_gen fun R hR => ?_
  have hml := World.block_lt_of_cell? w _ hm
  have HM := Lib.hid hm; have HML := Lib.hid hml
  clear hm hml
  obtain ⟨w1, hw1⟩ : ∃ w1, w.alloc (.cells #[.string ⟨#[]⟩, .string ⟨#[]⟩] 71) = w1 := ⟨_, rfl⟩
  have HW1 := Lib.hid hw1
  have HB1 : Hid (Below w.heap.size w w1) := Lib.hid (hw1 ▸ below_new w _)
  have HG1 : Hid (w1.heap[w.heap.size]? = some (.cells #[.string ⟨#[]⟩, .string ⟨#[]⟩] 71 (0, 0))) := Lib.hid (hw1 ▸ blk_new w _)
  clear hw1
  go_enter Tryd.func39, Tryd.ntmps39
  go_wp2_with fail
  rw [HW1.out]
  refine (cutb_any s 58 m w1 hs ((HB1.out.cell (p := ⟨0, 0, none⟩) HML.out).trans HM.out)).mono ?_
  rintro e w2 ⟨rfl, n, hn⟩
  have HB2 : Hid (Below w1.heap.size w1 w2) := Lib.hid (hn ▸ (Below.refl _ _).drewN n)
  clear hn
  obtain ⟨T, hT⟩ : ∃ T, ofL (cutAt 58 (toL s)).2 = T := ⟨_, rfl⟩
  have hts : T.size ≤ 1000000 := by
    rw [← hT, ofL_size]
    have := (List.dropWhile_sublist (· != (58 : UInt8)) (l := toL s)).length_le
    unfold cutAt; simp only [List.length_drop]; rw [toL_len] at this; omega
  obtain ⟨N, hN⟩ : ∃ N, ofL (cutAt 58 (toL s)).1 = N := ⟨_, rfl⟩
  have hns : N.size ≤ 1000000 := by
    rw [← hN, ofL_size]
    have := cut_le 58 (toL s)
    rw [toL_len] at this; omega
  obtain ⟨q, hq⟩ : ∃ q, (toL s).contains 58 = q := ⟨_, rfl⟩
  rw [hT, hN, hq]
  have HT := Lib.hid hT; have HN := Lib.hid hN; have HQ := Lib.hid hq
  clear hT hN hq
  go_wp2_with fail
  refine (trim_any T w2 hts).mono ?_
  rintro e w3 ⟨rfl, hb3⟩
  have HB3 := Lib.hid hb3
  clear hb3
  obtain ⟨V, hV⟩ : ∃ V, ofL (trim (toL T)) = V := ⟨_, rfl⟩
  have hvs : V.size ≤ 1000000 := by
    rw [← hV, ofL_size]; have := trim_len (toL T); rw [toL_len] at this; omega
  have HFN : Hid (ofL (fieldN (toL s)).1 = N ∧ ofL (fieldN (toL s)).2 = V) := Lib.hid ⟨HN.out, by unfold fieldN; rw [← hV, ← HT.out, toL_ofL]⟩
  have HFO : Hid (fieldOk (toL s) = (q && valid (toL N) (toL V))) := Lib.hid (by
    unfold fieldOk; rw [HQ.out]; rw [show toL N = (fieldN (toL s)).1 by rw [← HFN.out.1, toL_ofL], show toL V = (fieldN (toL s)).2 by rw [← HFN.out.2, toL_ofL]])
  rw [HFN.out.1, HFN.out.2, HFO.out] at hR
  rw [hV]
  clear hV
  obtain ⟨w4, hw4⟩ : ∃ w4, w3.alloc (.cells #[.string N, .string V] 71) = w4 := ⟨_, rfl⟩
  have HW4 := Lib.hid hw4
  have HB4 : Hid (Below w3.heap.size w3 w4) := Lib.hid (hw4 ▸ below_new w3 _)
  have HG4 : Hid (w4.heap[w3.heap.size]? = some (.cells #[.string N, .string V] 71 (0, 0))) := Lib.hid (hw4 ▸ blk_new w3 _)
  clear hw4
  go_upto_region 3 with fail
  have HR1 : Hid (w.heap.size < w1.heap.size) := Lib.hid (blk_lt HG1.out)
  have HE14 : Hid (Below w1.heap.size w1 w4) := Lib.hid ((HB2.out.trans (HB3.out.mono HB2.out.size)).trans (HB4.out.mono (Nat.le_trans HB2.out.size HB3.out.size)))
  rw [HW4.out]
  cases q with
  | true =>
    rw [Bool.true_and] at hR
    have HE0 : Hid (Below w4.heap.size w4 w4) := Lib.hid (Below.refl _ _)
    have hg7 := (HE0.out.block w3.heap.size (blk_lt HG4.out)).trans HG4.out
    have hgr := (HE0.out.block w.heap.size (Nat.lt_of_lt_of_le HR1.out HE14.out.size)).trans ((HE14.out.block _ HR1.out).trans HG1.out)
    have x0 := blk_cell hg7 0
    have x1 := blk_cell hg7 1
    have c0 := blk_cell hgr 0
    have c1 := blk_cell hgr 1
    have f0 := blk_free hgr 0
    have f1 := blk_free hgr 1
    have hlt := blk_lt hgr
    have hlt7 := blk_lt hg7
    have GR := Lib.hid hgr
    have HBX := Lib.hid ((HB1.out.trans (HE14.out.mono HB1.out.size)).trans (HE0.out.mono (Nat.le_trans HB1.out.size HE14.out.size)))
    simp only [List.getElem?_toArray, List.getElem?_cons_zero, List.getElem?_cons_succ] at x0 x1 c0 c1
    clear hg7 hgr
    have hne : w.heap.size ≠ w3.heap.size := fun e => by
      have h1 := HR1.out; have h2 := HB2.out.size; have h3 := HB3.out.size; omega
    go_region_law (first
      | (go_simp
         go_at_call 51
         refine (valid_any N V _ hns hvs).mono ?_
         rintro e w5 ⟨rfl, hb5⟩
         have HB5 : Hid (Below w4.heap.size w4 w5) := Lib.hid (by first | exact (Below.refl _ _).drew.trans hb5 | exact hb5)
         clear x0 x1 c0 c1 f0 f1 hlt hlt7 GR HBX hb5
         have hg7 := (HB5.out.block w3.heap.size (blk_lt HG4.out)).trans HG4.out
         have hgr := (HB5.out.block w.heap.size (Nat.lt_of_lt_of_le HR1.out HE14.out.size)).trans ((HE14.out.block _ HR1.out).trans HG1.out)
         have x0 := blk_cell hg7 0
         have x1 := blk_cell hg7 1
         have c0 := blk_cell hgr 0
         have c1 := blk_cell hgr 1
         have f0 := blk_free hgr 0
         have f1 := blk_free hgr 1
         have hlt := blk_lt hgr
         have hlt7 := blk_lt hg7
         have GR := Lib.hid hgr
         have HBX := Lib.hid ((HB1.out.trans (HE14.out.mono HB1.out.size)).trans (HB5.out.mono (Nat.le_trans HB1.out.size HE14.out.size)))
         simp only [List.getElem?_toArray, List.getElem?_cons_zero, List.getElem?_cons_succ] at x0 x1 c0 c1
         clear hg7 hgr
         skip))
    all_goals
      go_wp2_with fail
      have g2 := blk_set (blk_set GR.out 0 (.string N)) 1 (.string V)
      have z0 := blk_cell g2 0
      have z1 := blk_cell g2 1
      simp at z0 z1
      exact bodyPost_ret (v := .tuple #[.agg #[.string N, .string V], .bool (valid (toL N) (toL V))]) (by simp [results, Tryd.results39, go_sem, z0, z1]) rfl (hR _ _ ⟨rfl, below_set (below_set HBX.out (Nat.le_refl _) _) (Nat.le_refl _) _⟩)
  | false =>
    rw [Bool.false_and] at hR
    have HE0 : Hid (Below w4.heap.size w4 w4) := Lib.hid (Below.refl _ _)
    have hg7 := (HE0.out.block w3.heap.size (blk_lt HG4.out)).trans HG4.out
    have hgr := (HE0.out.block w.heap.size (Nat.lt_of_lt_of_le HR1.out HE14.out.size)).trans ((HE14.out.block _ HR1.out).trans HG1.out)
    have x0 := blk_cell hg7 0
    have x1 := blk_cell hg7 1
    have c0 := blk_cell hgr 0
    have c1 := blk_cell hgr 1
    have f0 := blk_free hgr 0
    have f1 := blk_free hgr 1
    have hlt := blk_lt hgr
    have hlt7 := blk_lt hg7
    have GR := Lib.hid hgr
    have HBX := Lib.hid ((HB1.out.trans (HE14.out.mono HB1.out.size)).trans (HE0.out.mono (Nat.le_trans HB1.out.size HE14.out.size)))
    simp only [List.getElem?_toArray, List.getElem?_cons_zero, List.getElem?_cons_succ] at x0 x1 c0 c1
    clear hg7 hgr
    have hne : w.heap.size ≠ w3.heap.size := fun e => by
      have h1 := HR1.out; have h2 := HB2.out.size; have h3 := HB3.out.size; omega
    have HB4X := Lib.hid HBX.out.drew
    go_region_law fail
    all_goals
      go_wp2_with fail
      have g1 := blk_set GR.out 0 (.string N)
      have g2 := blk_set g1 1 (.string V)
      have z0 := blk_cell g2 0
      have z1 := blk_cell g2 1
      simp at z0 z1
      exact bodyPost_ret (v := .tuple #[.agg #[.string N, .string V], .bool false]) (by simp [results, Tryd.results39, go_sem, z0, z1]) rfl (hR _ _ ⟨rfl, below_set (below_set HB4X.out (Nat.le_refl _) _) (Nat.le_refl _) _⟩)
end Go.Proofs.YtaihjnicondifaaDoor.Asc
