/-
  The laws parapetlaw17.CorsFinds and CorsExact answer true.
  Arguments within the rows' own reach; the library's MaxLen is a number.
-/
import Derived.Test.YtalbadmefpdldaaDoorCorJ
namespace Go.Proofs.YtalbadmefpdldaaDoor.Asc
open Go Go.RowKit Go.Proofs.YtalbadmefpdldaaDoor.Pb

theorem originOk_any (S H : ByteArray) (P : Int) (w : World) (hS : S.size ≤ 140737488351232) (hH : H.size ≤ 140737488351232) :
    Calls Tryd.prog 23 #[.agg #[.string S, .string H, .int .i64 P]] w fun e w' => ∃ b, e = .returned (.bool b) ∧ (b = true → 0 ≤ P ∧ P ≤ 65535 ∧ S.size + H.size ≤ 1000) ∧ Below w.heap.size w w' := by
  refine calls_gen fun R hR => ?_
  have HB := Lib.hid (below_new w (.cells #[.string S, .string H, .int .i64 P] 39))
  go_enter Tryd.func23, Tryd.ntmps23
  by_cases h0 : 0 ≤ P
  · by_cases h1 : P ≤ 65535
    · by_cases h2 : S.size + H.size ≤ 1000
      · go_wp2_with fail
        go_ret
        exact hR _ _ ⟨_, rfl, fun _ => ⟨h0, h1, h2⟩, HB.out⟩
      · have i2 : decide ((S.size : Int) + (H.size : Int) ≤ 1000) = false := decide_eq_false (by omega)
        go_wp2_with fail
        go_ret
        exact hR _ _ ⟨_, rfl, fun h => by simp at h, HB.out⟩
    · go_wp2_with fail
      go_ret
      exact hR _ _ ⟨_, rfl, fun h => by simp at h, HB.out⟩
  · go_wp2_with fail
    go_ret
    exact hR _ _ ⟨_, rfl, fun h => by simp at h, HB.out⟩

/-- the same share: held against itself -/
theorem samesh_any (O : ByteArray) (ms hs : List Tx) (mv hv mv' hv' : Value) (c : Bool) (F G : Nat → Prop) (w : World) (h1 : View Rp.str w F ms mv) (h2 : View Rp.str w F hs hv) (h3 : View Rp.str w G ms mv') (h4 : View Rp.str w G hs hv') (hml : ms.length ≤ 1000000) (hhl : hs.length ≤ 1000000) :
    Calls Tryd.prog 26 #[.agg #[.string O, mv, hv, .bool c], .agg #[.string O, mv', hv', .bool c]] w fun e w' => e = .returned (.bool true) ∧ Below w.heap.size w w' := by
  refine calls_gen fun R hR => ?_
  have H1 := Lib.hid h1; have H2 := Lib.hid h2; have H3 := Lib.hid h3; have H4 := Lib.hid h4
  clear h1 h2 h3 h4
  go_enter Tryd.func26, Tryd.ntmps26
  obtain ⟨w1, hw1⟩ : ∃ w1, w.alloc (.cells #[.string O, mv, hv, .bool c] 24) = w1 := ⟨_, rfl⟩
  obtain ⟨w2, hw2⟩ : ∃ w2, w1.alloc (.cells #[.string O, mv', hv', .bool c] 24) = w2 := ⟨_, rfl⟩
  have g1 := blk_new w (.cells #[.string O, mv, hv, .bool c] 24)
  have g2 := blk_new w1 (.cells #[.string O, mv', hv', .bool c] 24)
  have hb1 := below_new w (.cells #[.string O, mv, hv, .bool c] 24)
  have hb2 := below_new w1 (.cells #[.string O, mv', hv', .bool c] 24)
  have s1 : w1.heap.size = w.heap.size + 1 := by rw [← hw1]; simp
  rw [hw1] at g1 hb1
  rw [hw2, s1] at g2
  rw [hw2] at hb2
  have g1' := (hb2.block w.heap.size (by omega)).trans g1
  have HE : Hid (Ext w w2) := Lib.hid (Ext.trans hb1 hb2)
  have HC : Hid (∀ wy, Ext w2 wy → (w.heap.size < wy.heap.size ∧ wy.cell? ⟨w.heap.size, 0, none⟩ = some (.string O) ∧ wy.cell? ⟨w.heap.size, 1, none⟩ = some mv ∧ wy.cell? ⟨w.heap.size, 2, none⟩ = some hv ∧ wy.cell? ⟨w.heap.size, 3, none⟩ = some (.bool c)) ∧
      (w.heap.size + 1 < wy.heap.size ∧ wy.cell? ⟨w.heap.size + 1, 0, none⟩ = some (.string O) ∧ wy.cell? ⟨w.heap.size + 1, 1, none⟩ = some mv' ∧ wy.cell? ⟨w.heap.size + 1, 2, none⟩ = some hv' ∧ wy.cell? ⟨w.heap.size + 1, 3, none⟩ = some (.bool c))) := Lib.hid fun wy hy => by
    have e1 := (hy.block w.heap.size (blk_lt g1')).trans g1'
    have e2 := (hy.block (w.heap.size + 1) (blk_lt g2)).trans g2
    have a0 := blk_cell e1 0
    have a1 := blk_cell e1 1
    have a2 := blk_cell e1 2
    have a3 := blk_cell e1 3
    have b0 := blk_cell e2 0
    have b1 := blk_cell e2 1
    have b2 := blk_cell e2 2
    have b3 := blk_cell e2 3
    simp at a0 a1 a2 a3 b0 b1 b2 b3
    exact ⟨⟨blk_lt e1, a0, a1, a2, a3⟩, ⟨blk_lt e2, b0, b1, b2, b3⟩⟩
  have HW1 := Lib.hid hw1; have HW2 := Lib.hid hw2
  clear g1 g2 hb1 hb2 s1 g1' hw1 hw2
  have hos : (O.toList == O.toList) = true := by simp
  have hcc : (c == c) = true := by simp
  go_wp2_with fail
  rw [HW1.out, HW2.out]
  refine (texts_any ms ms _ _ F G w2 (H1.out.below HE.out) (H3.out.below HE.out) hml).mono ?_
  rintro e w3 ⟨rfl, hb3⟩
  rw [show (ms == ms) = true by simp]
  obtain ⟨⟨q0, q1, q2, q3, q4⟩, ⟨p0, p1, p2, p3, p4⟩⟩ := HC.out w3 hb3
  have HE3 : Hid (Ext w w3) := Lib.hid (Ext.trans HE.out hb3)
  clear hb3
  go_wp2_with fail
  refine (texts_any hs hs _ _ F G w3 (H2.out.below HE3.out) (H4.out.below HE3.out) hhl).mono ?_
  rintro e w4 ⟨rfl, hb4⟩
  rw [show (hs == hs) = true by simp]
  have HE4 : Hid (Ext w w4) := Lib.hid (Ext.trans HE3.out hb4)
  clear hb4
  go_wp2_with fail
  go_ret
  exact hR _ _ ⟨rfl, HE4.out⟩

theorem findN_mem (l : List Sh) (t : Tx) (cr : Bool) : (findN l t cr).getD shZ ∈ shZ :: l := by
  unfold findN
  cases h1 : l.find? (fun x => x.1 == t) with
  | some x => exact List.mem_cons_of_mem _ (List.mem_of_find?_eq_some h1)
  | none =>
    cases cr with
    | true => exact List.mem_cons_self
    | false =>
      cases h2 : l.find? (fun x => x.1 == starT) with
      | some x => exact List.mem_cons_of_mem _ (List.mem_of_find?_eq_some h2)
      | none => exact List.mem_cons_self

set_option maxRecDepth 20000 in
set_option maxHeartbeats 8000000 in
theorem finds_walk (l : List Sh) (v : Value) (F : Nat → Prop) (S H : ByteArray) (P : Int) (cr : Bool) (m : Int) (w : World) (hm : MaxLen m w) (hv : View shr w F l v) (hl : l.length ≤ 140737488351232) (hx : ∀ x ∈ l, shOk x) (hS : S.size ≤ 140737488351232) (hH : H.size ≤ 140737488351232) :
    Calls Tryd.prog 8 #[v, .agg #[.string S, .string H, .int .i64 P], .bool cr] w fun e w' => e = .returned (.bool true) ∧ Below w.heap.size w w' := by
  refine calls_gen fun R hR => ?_
  have HM := Lib.hid hm; have HV := Lib.hid hv; have HX := Lib.hid hx
  clear hm hv hx
  go_enter Tryd.func8, Tryd.ntmps8
  obtain ⟨w1, hw1⟩ : ∃ w1, w.alloc (.cells #[.string S, .string H, .int .i64 P] 39) = w1 := ⟨_, rfl⟩
  have g1 := blk_new w (.cells #[.string S, .string H, .int .i64 P] 39)
  have hb1 := below_new w (.cells #[.string S, .string H, .int .i64 P] 39)
  rw [hw1] at g1 hb1
  obtain ⟨ob, hob⟩ : ∃ ob, w.heap.size = ob := ⟨_, rfl⟩
  have HB1 := Lib.hid hb1; have HW1 := Lib.hid hw1; have HOB := Lib.hid hob
  rw [hob] at g1
  have HC : Hid (∀ wy, Ext w1 wy → ob < wy.heap.size ∧ wy.cell? ⟨ob, 0, none⟩ = some (.string S) ∧ wy.cell? ⟨ob, 1, none⟩ = some (.string H) ∧ wy.cell? ⟨ob, 2, none⟩ = some (.int .i64 P)) := Lib.hid fun wy hy => by
    have e1 := (hy.block ob (blk_lt g1)).trans g1
    have a0 := blk_cell e1 0
    have a1 := blk_cell e1 1
    have a2 := blk_cell e1 2
    simp at a0 a1 a2
    exact ⟨blk_lt e1, a0, a1, a2⟩
  clear g1 hb1 hw1 hob
  go_wp2_with fail
  rw [HW1.out, HOB.out]
  refine (small_any l v F w1 (HV.out.below HB1.out) hl HX.out).mono ?_
  rintro e w2 ⟨b, rfl, hbt, hb2⟩
  have HE2 : Hid (Ext w1 w2) := Lib.hid hb2
  have HBT := Lib.hid hbt
  clear hb2 hbt
  cases b with
  | false =>
    go_wp2_with fail
    refine (awake_any m w2 ((HM.out.below HB1.out).below HE2.out)).mono ?_
    rintro e w3 ⟨rfl, hb3⟩
    go_wp2_with fail
    go_ret
    exact hR _ _ ⟨rfl, Ext.then HB1.out (Ext.trans HE2.out hb3) (Nat.le_refl _)⟩
  | true =>
    obtain ⟨hl2, hsm⟩ := HBT.out rfl
    have HSM := Lib.hid hsm
    clear hsm HBT
    obtain ⟨q0, q1, q2, q3⟩ := HC.out w2 HE2.out
    go_wp2_with fail
    refine (originOk_any S H P w2 hS hH).mono ?_
    rintro e w3 ⟨b, rfl, hbt, hb3⟩
    have HE3 : Hid (Ext w1 w3) := Lib.hid (Ext.trans HE2.out hb3)
    have HBT := Lib.hid hbt
    clear hb3 hbt q0 q1 q2 q3
    cases b with
    | false =>
      go_wp2_with fail
      refine (awake_any m w3 ((HM.out.below HB1.out).below HE3.out)).mono ?_
      rintro e w4 ⟨rfl, hb4⟩
      go_wp2_with fail
      go_ret
      exact hR _ _ ⟨rfl, Ext.then HB1.out (Ext.trans HE3.out hb4) (Nat.le_refl _)⟩
    | true =>
      obtain ⟨h0, h1, hSH⟩ := HBT.out rfl
      have hS1 : S.size ≤ 1000 := by omega
      have hH1 : H.size ≤ 1000 := by omega
      clear hSH
      clear HBT hl hS hH
      obtain ⟨q0, q1, q2, q3⟩ := HC.out w3 HE3.out
      go_wp2_with fail
      refine (find_any l v F S H P cr w3 ((HV.out.below HB1.out).below HE3.out) hl2 HSM.out hS1 hH1 h0 h1).mono ?_
      rintro e w4 ⟨cs, rfl, hr4, hb4⟩
      have HE4 : Hid (Ext w1 w4) := Lib.hid (Ext.trans HE3.out hb4)
      have hmem := findN_mem l (originN (toL S) (toL H) P) cr
      obtain ⟨Z, hZ⟩ : ∃ Z, findN l (originN (toL S) (toL H) P) cr = Z := ⟨_, rfl⟩
      have HZ := Lib.hid hZ
      rw [hZ] at hr4 hmem ⊢
      obtain ⟨x, hxz⟩ : ∃ x, Z.getD shZ = x := ⟨_, rfl⟩
      have HXZ := Lib.hid hxz
      rw [hxz] at hr4 hmem
      have HSX : Hid (shSm x) := Lib.hid (by
        rcases List.mem_cons.1 hmem with rfl | h
        · exact ⟨by decide, by decide, by decide⟩
        · exact HSM.out x h)
      obtain ⟨mv, hv, ecs, hmv, hhv⟩ := share_rep hr4
      have ec : cs = #[.string (ofL x.1), mv, hv, .bool x.2.2.2] := by apply Array.ext'; exact ecs
      rw [ec]
      have HMV := Lib.hid hmv; have HHV := Lib.hid hhv
      obtain ⟨MA, mc, rfl, -, -, -⟩ := hmv
      obtain ⟨HA, hc, rfl, -, -, -⟩ := hhv
      obtain ⟨XB, hXB⟩ : ∃ XB, ofL x.1 = XB := ⟨_, rfl⟩
      have HXB := Lib.hid hXB
      rw [hXB]
      obtain ⟨zs, hzs⟩ : ∃ zs, Z.isSome = zs := ⟨_, rfl⟩
      have HZS := Lib.hid hzs
      rw [hzs]
      clear hb4 hZ hr4 hmem hxz ecs ec hXB hzs q0 q1 q2 q3
      obtain ⟨q0, q1, q2, q3⟩ := HC.out w4 HE4.out
      have HA4 := Lib.hid (below_new w4 (.cells #[.string XB, .slice MA x.2.1.length mc, .slice HA x.2.2.1.length hc, .bool x.2.2.2] 24))
      have ga := blk_new w4 (.cells #[.string XB, .slice MA x.2.1.length mc, .slice HA x.2.2.1.length hc, .bool x.2.2.2] 24)
      obtain ⟨w5, hw5⟩ : ∃ w5, w4.alloc (.cells #[.string XB, .slice MA x.2.1.length mc, .slice HA x.2.2.1.length hc, .bool x.2.2.2] 24) = w5 := ⟨_, rfl⟩
      obtain ⟨ab, hab⟩ : ∃ ab, w4.heap.size = ab := ⟨_, rfl⟩
      rw [hw5, hab] at ga
      rw [hw5] at HA4
      have HW5 := Lib.hid hw5; have HAB := Lib.hid hab; have HGA := Lib.hid ga
      have HE5 : Hid (Ext w1 w5) := Lib.hid (Ext.trans HE4.out HA4.out)
      clear hw5 hab ga
      go_wp2_with fail
      rw [HW5.out, HAB.out]
      clear q0 q1 q2 q3
      refine (share_any l v F S H P cr w5 ((HV.out.below HB1.out).below HE5.out) hl2 hS1 hH1 h0 h1).mono ?_
      rintro e w6 ⟨cs2, rfl, hr6, hb6⟩
      rw [HZ.out, HXZ.out] at hr6
      rw [HZ.out, HZS.out]
      have HE56 : Hid (Ext w5 w6) := Lib.hid hb6
      obtain ⟨mv2, hv2, ecs2, hmv2, hhv2⟩ := share_rep hr6
      have ec2 : cs2 = #[.string (ofL x.1), mv2, hv2, .bool x.2.2.2] := by apply Array.ext'; exact ecs2
      rw [ec2, HXB.out]
      have HMV2 := Lib.hid hmv2; have HHV2 := Lib.hid hhv2
      obtain ⟨MA2, mc2, rfl, -, -, -⟩ := hmv2
      obtain ⟨HA2, hc2, rfl, -, -, -⟩ := hhv2
      clear hb6 hr6 ecs2 ec2
      have HA6 := Lib.hid (below_new w6 (.cells #[.string XB, .slice MA2 x.2.1.length mc2, .slice HA2 x.2.2.1.length hc2, .bool x.2.2.2] 24))
      have gb := blk_new w6 (.cells #[.string XB, .slice MA2 x.2.1.length mc2, .slice HA2 x.2.2.1.length hc2, .bool x.2.2.2] 24)
      obtain ⟨w7, hw7⟩ : ∃ w7, w6.alloc (.cells #[.string XB, .slice MA2 x.2.1.length mc2, .slice HA2 x.2.2.1.length hc2, .bool x.2.2.2] 24) = w7 := ⟨_, rfl⟩
      obtain ⟨bb, hbb⟩ : ∃ bb, w6.heap.size = bb := ⟨_, rfl⟩
      rw [hw7, hbb] at gb
      rw [hw7] at HA6
      have HW7 := Lib.hid hw7; have HBB := Lib.hid hbb
      have HE57 : Hid (Ext w5 w7) := Lib.hid (Ext.trans HE56.out HA6.out)
      have g6 := (HE56.out.block ab (blk_lt HGA.out)).trans HGA.out
      have a0 := blk_cell g6 0
      have a1 := blk_cell g6 1
      have a2 := blk_cell g6 2
      have a3 := blk_cell g6 3
      simp at a0 a1 a2 a3
      have hla := blk_lt g6
      have hmlx : x.2.1.length ≤ 2000 := by have := total_len x.2.1; have := HSX.out.2.1; omega
      have hhlx : x.2.2.1.length ≤ 2000 := by have := total_len x.2.2.1; have := HSX.out.2.2; omega
      clear hw7 hbb gb g6
      go_wp2_with fail
      rw [HW7.out]
      clear a0 a1 a2 a3 hla
      have HB7 : Hid (Below w.heap.size w w7) := Lib.hid (Ext.then HB1.out (Ext.trans HE5.out HE57.out) (Nat.le_refl _))
      refine (samesh_any XB x.2.1 x.2.2.1 _ _ _ _ x.2.2.2 (fun _ => True) (fun _ => True) w7 ((HMV.out.below HA4.out).below HE57.out) ((HHV.out.below HA4.out).below HE57.out) (HMV2.out.below HA6.out) (HHV2.out.below HA6.out) (by omega) (by omega)).mono ?_
      rintro e w8 ⟨rfl, hb8⟩
      have HB8 : Hid (Below w.heap.size w w8) := Lib.hid (Ext.then HB7.out hb8 (Nat.le_refl _))
      have hzz : (zs == zs) = true := by simp
      clear hb8
      go_wp2_with fail
      refine (awake_any m w8 (HM.out.below HB8.out)).mono ?_
      rintro e w9 ⟨rfl, hb9⟩
      go_wp2_with fail
      go_ret
      exact hR _ _ ⟨rfl, Ext.then HB8.out hb9 (Nat.le_refl _)⟩
theorem finds_row {w : World} (l : List Sh) (v : Value) (F : Nat → Prop) (hb : l.length * Tryd.prog.bytesOf 24 ≤ 140737488351232 ∧ ∀ x ∈ l, x.1.length ≤ 140737488351232 ∧ (x.2.1.length * Tryd.prog.bytesOf 9 ≤ 140737488351232 ∧ ∀ y ∈ x.2.1, y.length ≤ 140737488351232) ∧ (x.2.2.1.length * Tryd.prog.bytesOf 9 ≤ 140737488351232 ∧ ∀ y ∈ x.2.2.1, y.length ≤ 140737488351232) ∧ True) (hv : View shr w F l v)
    (x : Og) (cs : Array Value) (ho : x.1.length ≤ 140737488351232 ∧ x.2.1.length ≤ 140737488351232 ∧ (-9223372036854775808 ≤ x.2.2 ∧ x.2.2 ≤ 9223372036854775807)) (hr : org.rep w (fun _ => True) x cs.toList) (cr : Bool) (m : Int) (hm : MaxLen m w) :
    Calls Tryd.prog 8 #[v, .agg cs, .bool cr] w fun e w' => e = .returned (.bool true) ∧ Below w.heap.size w w' := by
  rw [show Tryd.prog.bytesOf 9 = 16 by kernel_rfl, show Tryd.prog.bytesOf 24 = 72 by kernel_rfl] at hb
  have ec : cs = #[.string (ofL x.1), .string (ofL x.2.1), .int .i64 x.2.2] := by apply Array.ext'; exact org_rep hr
  rw [ec]
  exact finds_walk l v F (ofL x.1) (ofL x.2.1) x.2.2 cr m w hm hv (by omega) (fun y hy => by
    obtain ⟨k1, k2, k3, _⟩ := hb.2 y hy
    exact ⟨k1, ⟨by have := k2.1; omega, k2.2⟩, ⟨by have := k3.1; omega, k3.2⟩⟩) (by rw [ofL_size]; exact ho.1) (by rw [ofL_size]; exact ho.2.1)
end Go.Proofs.YtalbadmefpdldaaDoor.Asc
