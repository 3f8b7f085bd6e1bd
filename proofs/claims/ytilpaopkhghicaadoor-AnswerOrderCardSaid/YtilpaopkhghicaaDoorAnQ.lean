/-
  Contract: whether a query is looked at.
  Lengths within the rows' own reach.
-/
import Derived.Test.YtilpaopkhghicaaDoorAnO
namespace Go.Proofs.YtilpaopkhghicaaDoor.Asc
open Go Go.RowKit Go.Proofs.YtilpaopkhghicaaDoor.Pb

/-- is it short? -/
def smallN (q : Qr) : Bool := decide (q.doc.length + q.url.length + q.dest.length + q.meth.length ≤ 6000) && decide (fsize q.hds ≤ 6000)
set_option maxHeartbeats 4000000 in
set_option maxRecDepth 20000 in
theorem small_any (w : World) (q : Qr) (v : Value) (F : Nat → Prop) (hv : View fld w F q.hds v) (h1 : q.doc.length ≤ 140737488351232) (h2 : q.url.length ≤ 140737488351232) (h3 : q.dest.length ≤ 140737488351232) (h4 : q.meth.length ≤ 140737488351232)
    (hl : q.hds.length ≤ 140737488351232) (hx : ∀ x ∈ q.hds, x.1.length ≤ 140737488351232 ∧ x.2.length ≤ 140737488351232) :
    Calls Tryd.prog 16 #[agg8 q v] w fun e w' => e = .returned (.bool (smallN q)) ∧ Below w.heap.size w w' := by
  refine calls_gen fun R hR => ?_
  have HV := Lib.hid hv
  have HXX := Lib.hid hx; have HLL := Lib.hid hl
  unfold agg8
  obtain ⟨XD, hXD⟩ : ∃ X, ofL q.doc = X := ⟨_, rfl⟩
  obtain ⟨XU, hXU⟩ : ∃ X, ofL q.url = X := ⟨_, rfl⟩
  obtain ⟨XE, hXE⟩ : ∃ X, ofL q.dest = X := ⟨_, rfl⟩
  obtain ⟨XM, hXM⟩ : ∃ X, ofL q.meth = X := ⟨_, rfl⟩
  have hsd : XD.size = q.doc.length := by rw [← hXD, ofL_size]
  have hsu : XU.size = q.url.length := by rw [← hXU, ofL_size]
  have hse : XE.size = q.dest.length := by rw [← hXE, ofL_size]
  have hsm : XM.size = q.meth.length := by rw [← hXM, ofL_size]
  rw [← hsd] at h1
  rw [← hsu] at h2
  rw [← hse] at h3
  rw [← hsm] at h4
  have HSN : Hid (smallN q = (decide (XD.size + XU.size + XE.size + XM.size ≤ 6000) && decide (fsize q.hds ≤ 6000))) := Lib.hid (by unfold smallN; rw [hsd, hsu, hse, hsm])
  rw [hXD, hXU, hXE, hXM]
  rw [HSN.out] at hR
  clear hXD hXU hXE hXM hv hx hsd hsu hse hsm hl
  obtain ⟨A, n, rfl, _, _⟩ := HV.out
  obtain ⟨ls, hls⟩ : ∃ b, q.hds = b := ⟨_, rfl⟩
  rw [hls] at HV HXX HLL hR ⊢
  clear HSN hls
  obtain ⟨w1, hw1⟩ : ∃ w1, w.alloc (.cells #[.string XD, .string XU, .string XE, .string XM, .bool q.cors, .bool q.creds, .int .i64 q.redir, .slice A ls.length n] 25) = w1 := ⟨_, rfl⟩
  have HW1 := Lib.hid hw1
  have HB1 : Hid (Below w.heap.size w w1) := Lib.hid (hw1 ▸ below_new w _)
  have HG1 : Hid (w1.heap[w.heap.size]? = some (.cells #[.string XD, .string XU, .string XE, .string XM, .bool q.cors, .bool q.creds, .int .i64 q.redir, .slice A ls.length n] 25 (0, 0))) := Lib.hid (hw1 ▸ blk_new w _)
  clear hw1
  go_enter Tryd.func16, Tryd.ntmps16
  go_upto_region 1 with fail
  rw [HW1.out]
  obtain ⟨b0, b1, b2, b3, b4, b5, b6, b7⟩ := cell8 HG1.out
  have hlt := blk_lt HG1.out
  by_cases hs : XD.size + XU.size + XE.size + XM.size ≤ 6000
  · have hd : decide (XD.size + XU.size + XE.size + XM.size ≤ 6000) = true := decide_eq_true hs
    have hi : (XD.size : Int) + (XU.size : Int) + (XE.size : Int) + (XM.size : Int) ≤ 6000 := by omega
    rw [hd] at hR
    clear hd
    go_wp2_with fail
    refine (fields_any ls _ F w1 (HV.out.below HB1.out) HLL.out HXX.out).mono ?_
    rintro e w2 ⟨rfl, hb2⟩
    have HB2 := Lib.hid (HB1.out.trans (hb2.mono HB1.out.size))
    clear hb2
    go_wp2_with fail
    go_ret
    exact hR _ _ ⟨ret_bool (by simp), HB2.out⟩
  · have hd : decide (XD.size + XU.size + XE.size + XM.size ≤ 6000) = false := decide_eq_false hs
    have hi : ¬ (XD.size : Int) + (XU.size : Int) + (XE.size : Int) + (XM.size : Int) ≤ 6000 := by omega
    rw [hd] at hR
    clear hd
    go_wp2_with fail
    go_ret
    exact hR _ _ ⟨rfl, HB1.out⟩

end Go.Proofs.YtilpaopkhghicaaDoor.Asc
