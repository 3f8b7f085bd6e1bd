/-
  Contracts: a request that has ended.
  Lengths within the rows' own reach; the library's MaxLen is a number.
-/
import Derived.Test.YtaihjnicondifaaDoorHtF
namespace Go.Proofs.YtaihjnicondifaaDoor.Asc
open Go Go.RowKit Go.Proofs.YtaihjnicondifaaDoor.Pb

set_option maxHeartbeats 400000 in
/-- func(v string) bool { return ascii.Same(v, s) } -/
theorem same_cl (x : List UInt8) (hx : x.length ≤ 1000000) (c : ByteArray) (hc : c.size ≤ 1000000) (g : Nat) (w : World) (hg : w.cell? ⟨g, 0, none⟩ = some (.string c)) :
    Calls Tryd.prog 33 (#[.string (ofL x)] ++ #[.pointer (some ⟨g, 0, none⟩)]) w fun e w2 => e = .returned (.bool (sameB x (toL c))) ∧ Below w.heap.size w w2 := by
  refine calls_gen fun R hR => ?_
  go_enter Tryd.func33, Tryd.ntmps33
  go_wp2_with fail
  refine (same_any (ofL x) c w (by rw [ofL_size]; exact hx) hc).mono ?_
  rintro e w2 ⟨rfl, hb⟩
  rw [toL_ofL]
  have HB := Lib.hid hb
  clear hb
  go_wp2_with fail
  go_ret
  exact hR _ _ ⟨rfl, HB.out⟩

/-- "connection" -/
theorem connB_eq : toL ⟨#[99, 111, 110, 110, 101, 99, 116, 105, 111, 110]⟩ = connB := rfl

set_option maxHeartbeats 1000000 in
/-- says -/
theorem says_any (w : World) (S : Nat → Prop) (b : Nat) (p : PS) (h : PAt w S b p) (c : ByteArray) (hc : c.size ≤ 1000000) (bx : Nat) (hbx : w.cell? ⟨bx, 0, none⟩ = some (.pointer (some ⟨b, 0, none⟩))) (hl : p.flds.length ≤ 100000) (hx : ∀ x ∈ p.flds, x.1.length ≤ 1000000 ∧ x.2.length ≤ 1000000)
    (hls : (listOf (valsN p connB)).length ≤ 140737488351232) (hlx : ∀ x ∈ listOf (valsN p connB), x.length ≤ 1000000) (m : Int) (hm : w.cell? ⟨0, 0, none⟩ = some (.int .i64 m)) :
    Calls Tryd.prog 30 #[.string c, .pointer (some ⟨bx, 0, none⟩)] w fun e w' => e = .returned (.bool (saysN p (toL c))) ∧ Below w.heap.size w w' := by
  refine calls_gen fun R hR => ?_
  have hml := World.block_lt_of_cell? w _ hm
  have HM := Lib.hid hm; have HML := Lib.hid hml
  have hbl := World.block_lt_of_cell? w _ hbx
  have H := Lib.hid h; have HX := Lib.hid hx; have HLX := Lib.hid hlx
  clear hm hml h hx hlx
  obtain ⟨w1, hw1⟩ : ∃ w1, w.alloc (.cells #[.string c] 9) = w1 := ⟨_, rfl⟩
  have HW1 := Lib.hid hw1
  have HB1 : Hid (Below w.heap.size w w1) := Lib.hid (hw1 ▸ below_new w _)
  have HG1 : Hid (w1.heap[w.heap.size]? = some (.cells #[.string c] 9 (0, 0))) := Lib.hid (hw1 ▸ blk_new w _)
  clear hw1
  go_enter Tryd.func30, Tryd.ntmps30
  go_wp2_with fail
  rw [HW1.out]
  refine (pvalues_any w1 S b p (H.out.below HB1.out) _ (by decide) hl HX.out m ((HB1.out.cell (p := ⟨0, 0, none⟩) HML.out).trans HM.out)).mono ?_
  rintro e w2 ⟨v, rfl, ho, hb2⟩
  rw [connB_eq] at ho ⊢
  have HB2 := Lib.hid hb2
  obtain ⟨LS, hLS⟩ : ∃ LS, listOf (valsN p connB) = LS := ⟨_, rfl⟩
  obtain ⟨nn, hnn⟩ : ∃ n, (valsN p connB).length = n := ⟨_, rfl⟩
  have HS : Hid (saysN p (toL c) = LS.any fun v => sameB v (toL c)) := Lib.hid (by unfold saysN; rw [hLS])
  rw [hLS] at ho hls HLX
  rw [hnn]
  rw [HS.out] at hR
  clear hLS hnn hb2
  obtain ⟨A, n, rfl, hn⟩ := ho.slice
  have HO := Lib.hid ho
  have HGC := Lib.hid ((HB2.out.block _ (blk_lt HG1.out)).trans HG1.out)
  clear ho
  go_wp2_with fail
  refine (containsfunc_any 33 (fun _ _ => rfl) #[.pointer (some ⟨w.heap.size, 0, none⟩)] (fun v => sameB v (toL c)) LS _ (fun _ => True) w2 HO.out.view hls fun w3 hb3 x hx =>
    same_cl x (HLX.out x hx) c hc w.heap.size w3 (blk_cell ((hb3.block _ (blk_lt HGC.out)).trans HGC.out) 0)).mono ?_
  rintro e w3 ⟨rfl, hb3⟩
  have HB3 := Lib.hid ((HB1.out.trans (HB2.out.mono HB1.out.size)).trans (hb3.mono (Nat.le_trans HB1.out.size HB2.out.size)))
  clear hb3
  go_wp2_with fail
  go_ret
  exact hR _ _ ⟨rfl, HB3.out⟩
end Go.Proofs.YtaihjnicondifaaDoor.Asc
