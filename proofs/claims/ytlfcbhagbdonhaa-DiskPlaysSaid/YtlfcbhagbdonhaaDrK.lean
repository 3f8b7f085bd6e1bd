/-
  Contract: a file of the document's disk is named anew.
  Lengths within the rows' own reach.
-/
import Derived.Test.YtlfcbhagbdonhaaDrJ
namespace Go.Proofs.Ytlfcbhagbdonhaa.Asc
set_option linter.unusedSimpArgs false
set_option linter.unusedVariables false
open Go Go.RowKit Go.Proofs.Ytlfcbhagbdonhaa.Pb

theorem dropF_none {fs : List Fl} {n : Tx} (h : look fs n = none) : dropF fs n = fs := by
  unfold dropF
  rw [List.filter_eq_self]
  intro f hf
  simpa using look_none h f hf
section
variable {w w' : World} {F : Nat → Prop} {b : Nat} {dk : Dk} {lv : Value} {last : Int}
set_option maxHeartbeats 4000000 in
set_option maxRecDepth 20000 in
theorem rrename_any (h : RIn w F b dk lv last) (hok : dk.Ok) (ho : dk.ops ≤ 1000000) (hlen : dk.fs.length ≤ 1000) (T U : ByteArray) (hT : T.size ≤ 1000000) (hU : U.size ≤ 1000000) :
    Calls Try.prog 43 #[.pointer (some ⟨b, 0, none⟩), .string T, .string U] w fun e w' => e = .returned (.int .i64 (dk.rename (toL T) (toL U)).1) ∧ RAt w' (fun j => F j ∨ w.heap.size ≤ j) b (dk.rename (toL T) (toL U)).2 ∧ Keep (fun j => F j ∨ j = b) w w' := by
  refine calls_gen fun R hR => ?_
  have H := Lib.hid h; have HO := Lib.hid hok
  have hltb := h.lt
  clear h hok
  go_enter Try.func43, Try.ntmps43
  go_wp2_with fail
  refine (off_any H.out ho).mono ?_
  rintro e w1 ⟨rfl, h1, hk1⟩
  have H1 := Lib.hid h1
  have HK1 : Hid (Keep (fun j => j = b) w w1) := Lib.hid hk1
  have HS1 : Hid (w.heap.size ≤ w1.heap.size) := Lib.hid hk1.size
  clear h1 hk1
  have HKE : Hid (Keep (fun j => F j ∨ j = b) w w1) := Lib.hid (HK1.out.mono fun _ _ h => .inr h)
  have HRR : Hid (∀ dk', RIn w1 F b dk' lv last → RAt w1 (fun j => F j ∨ w.heap.size ≤ j) b dk') := Lib.hid fun dk' h => ⟨lv, last, h.mono (fun _ _ h => .inl h) fun h => h.elim H.out.out fun h => by omega⟩
  cases hoff : dk.off with
  | true =>
    have hw : dk.rename (toL T) (toL U) = (6, dk.tick) := by unfold Dk.rename; rw [if_pos hoff]
    rw [hw] at hR
    clear hw
    go_wp2_with fail
    go_ret
    exact hR _ _ ⟨rfl, HRR.out _ H1.out, HKE.out⟩
  | false =>
    go_wp2_with fail
    refine (find_any H1.out T hT hlen).mono ?_
    rintro e w2 ⟨rfl, hw2⟩
    rw [hw2]
    clear hw2
    rw [show dk.tick.fs = dk.fs from rfl]
    have hp := pos_look (fs := dk.fs) (n := toL T)
    cases hpo : pos dk.fs (toL T) with
    | none =>
      rw [hpo] at hp
      have hlk : look dk.fs (toL T) = none := hp
      have hw : dk.rename (toL T) (toL U) = (4, dk.tick) := by unfold Dk.rename; rw [if_neg (by rw [hoff]; decide), hlk]
      rw [hw] at hR
      clear hw hlk hp hpo
      unfold posV
      go_wp2_with fail
      go_ret
      exact hR _ _ ⟨rfl, HRR.out _ H1.out, HKE.out⟩
    | some k =>
      rw [hpo] at hp
      obtain ⟨x, hx, hxn, hlk⟩ := hp
      have HLK := Lib.hid hlk; have HX := Lib.hid hx; have HXN := Lib.hid hxn
      have HDR := Lib.hid (dropAt_pos HO.out.ord hpo)
      have hk : k < dk.fs.length := (List.getElem?_eq_some_iff.1 hx).1
      have hnn : ¬ (k : Int) < 0 := by omega
      have hw0 : dk.rename (toL T) (toL U) = if badName (toL U) then ((1 : Int), dk.tick) else (0, { dk.tick with fs := putF (dropF (dropF dk.fs (toL T)) (toL U)) { x with name := toL U } }) := by unfold Dk.rename; rw [if_neg (by rw [hoff]; decide), hlk]
      rw [hw0] at hR
      clear hw0 hlk hpo hx hxn
      unfold posV
      go_wp2_with fail
      refine (bad_any U w1 (by omega)).mono ?_
      rintro e w2 ⟨rfl, hw2⟩
      rw [hw2]
      clear hw2
      cases hbad : badName (toL U) with
      | true =>
        rw [hbad, if_pos rfl] at hR
        go_wp2_with fail
        go_ret
        exact hR _ _ ⟨rfl, HRR.out _ H1.out, HKE.out⟩
      | false =>
        rw [hbad, if_neg (by decide)] at hR
        by_cases hTU : T = U
        · subst hTU
          have hre := rename_same HO.out.ord HLK.out
          rw [hre] at hR
          clear hre
          go_wp2_with fail
          go_ret
          exact hR _ _ ⟨rfl, HRR.out _ H1.out, HKE.out⟩
        have hq1 : (T.toList == U.toList) = false := by rw [beq_eq_false_iff_ne, toList_toL, toList_toL]; exact fun e => hTU (toL_inj e)
        obtain ⟨g, c, B, c', hlv, hgF, hgl, hkl, hkc, d0, d1, d2, hbc, hvx, hfz, _⟩ := rf_at H1.out k x HX.out
        subst hlv
        have c1 := blk_cell H1.out.blk 1
        simp only [rcell, List.getElem?_toArray, List.getElem?_cons_zero, List.getElem?_cons_succ] at c1
        rw [show dk.tick.fs = dk.fs from rfl] at c1 hkl hkc
        have hlt1 := H1.out.lt
        obtain ⟨m, hm⟩ : ∃ m, dk.fs.length = m := ⟨_, rfl⟩
        obtain ⟨L, hL⟩ : ∃ L, x.b.length = L := ⟨_, rfl⟩
        obtain ⟨SX, hSX⟩ : ∃ SX, ofL x.name = SX := ⟨_, rfl⟩
        have HM := Lib.hid hm; have HLL := Lib.hid hL
        rw [hm] at c1 hkl hkc hk
        rw [hL] at d1 hbc hvx
        rw [hSX] at d0
        have hki : (k : Int) < (m : Int) := by omega
        have HVX := Lib.hid hvx; have HGF := Lib.hid hgF
        clear hvx hgF hfz hm hL hSX
        go_upto_region 11 with fail
        obtain ⟨w2, hw2⟩ : ∃ w2, w1.alloc (.cells #[.string SX, .slice B L c', .int .i64 x.sy] 95) = w2 := ⟨_, rfl⟩
        obtain ⟨q, hq⟩ : ∃ q, w1.heap.size = q := ⟨_, rfl⟩
        have hb2 : Ext w1 w2 := hw2 ▸ below_new _ _
        have hq2 : w2.heap[q]? = some (.cells #[.string SX, .slice B L c', .int .i64 x.sy] 95 (0, 0)) := hw2 ▸ hq ▸ blk_new _ _
        rw [hw2, hq]
        have HS1' : Hid (w.heap.size ≤ q) := Lib.hid (by rw [← hq]; exact HS1.out)
        have HQW : Hid (q < w2.heap.size) := Lib.hid (blk_lt hq2)
        have H2 : Hid (RIn w2 (fun j => F j ∧ j < q) b dk.tick (.slice (some ⟨g, 0, none⟩) dk.tick.fs.length c) last) := Lib.hid ((H1.out.mono (F' := fun j => F j ∧ j < q) (fun j hj h => ⟨h, by omega⟩) fun h => H1.out.out h.1).below hb2)
        have HVX2 : Hid (View Rp.u8 w2 (fun i => F i ∧ i ≠ g ∧ i < q) x.b (.slice B L c')) := Lib.hid ((HVX.out.bnd.mono fun i hi => ⟨hi.1.1, hi.1.2, by omega⟩).below hb2)
        have HK2 : Hid (Keep (fun j => F j ∨ j = b) w w2) := Lib.hid (HKE.out.trans (Keep.old (F := fun j => F j ∨ j = b) hb2) fun _ _ h => h)
        have HQ2 := Lib.hid hq2
        have hbq : b < q := by omega
        clear c1 d0 d1 d2 hw2 hb2 hq2 hlt1 hgl
        have HS1 := HS1'
        have hq' := hq
        clear hq
        go_wp2_with fail
        refine (without_own H2.out k (by rw [show dk.tick.fs = dk.fs from rfl, HM.out]; exact hk) hlen).mono ?_
        rintro e w3 ⟨rfl, ⟨lv3, last3, h3, hob3⟩, hk3⟩
        rw [show dk.tick.fs = dk.fs from rfl, HDR.out] at h3
        obtain ⟨fs1, hfs1⟩ : ∃ fs1, dropF dk.fs (toL T) = fs1 := ⟨_, rfl⟩
        rw [hfs1] at h3
        have HO1 : Hid (Ord fs1) := Lib.hid (hfs1 ▸ HO.out.ord.drop _)
        have hl1 : fs1.length ≤ 1000 := by rw [← hfs1]; unfold dropF; exact Nat.le_trans (List.length_filter_le _ _) hlen
        have H3 := Lib.hid h3; have HOB3 := Lib.hid hob3
        have HQ3 := Lib.hid (hk3.blk HQ2.out (by omega))
        have HVX3 : Hid (View Rp.u8 w3 (fun i => F i ∧ i ≠ g ∧ i < q) x.b (.slice B L c')) := Lib.hid (HVX2.out.keep hk3 fun i hi e => H.out.out (e ▸ hi.1))
        have HK3 : Hid (Keep (fun j => F j ∨ j = b) w w3) := Lib.hid (HK2.out.trans hk3 fun _ _ h => .inr h)
        have HS3 : Hid (w2.heap.size ≤ w3.heap.size) := Lib.hid hk3.size
        have HFS1 := Lib.hid hfs1
        clear h3 hob3 hk3 hfs1
        go_wp2_with fail
        refine (find_any H3.out U hU hl1).mono ?_
        rintro e w4 ⟨rfl, hw4⟩
        rw [show ({ dk.tick with fs := fs1 } : Dk).fs = fs1 from rfl]
        have hp := pos_look (fs := fs1) (n := toL U)
        cases hpo : pos fs1 (toL U) with
        | none =>
          rw [hpo] at hp
          have hlk : look fs1 (toL U) = none := hp
          obtain ⟨fs2, hfs2⟩ : ∃ fs2, fs1 = fs2 := ⟨_, rfl⟩
          have HFS2 : Hid (dropF (dropF dk.fs (toL T)) (toL U) = fs2) := Lib.hid (by rw [HFS1.out, dropF_none hlk, hfs2])
          rw [hfs2] at hlk HO1 hl1 H3
          have HN4 := Lib.hid hlk
          have HO4 := HO1; have hl4 := hl1
          obtain ⟨lv4, hlv4⟩ : ∃ lv4, lv3 = lv4 := ⟨_, rfl⟩
          obtain ⟨last4, hlast4⟩ : ∃ last4, last3 = last4 := ⟨_, rfl⟩
          rw [hlv4, hlast4] at H3
          rw [hlv4] at HOB3
          rw [← hw4] at H3 HQ3 HVX3 HK3 HS3
          have H4 := H3; have HQ4 := HQ3; have HVX4 := HVX3; have HK4 := HK3; have HS4 := HS3; have HOB4 := HOB3
          clear hp hlk hpo hw4 hfs2 hlv4 hlast4
          unfold posV
          go_upto_region 15 with fail
          have q0 := blk_cell HQ4.out 0
          have q1 := blk_cell HQ4.out 1
          have q2 := blk_cell HQ4.out 2
          have fz := blk_free HQ4.out 0
          simp only [List.getElem?_toArray, List.getElem?_cons_zero, List.getElem?_cons_succ] at q0 q1 q2
          have hql := blk_lt HQ4.out
          obtain ⟨w5, hw5⟩ : ∃ w5, w4.setCell ⟨q, 0, none⟩ (.string U) = w5 := ⟨_, rfl⟩
          have hk5 : Keep (fun j => j = q) w4 w5 := hw5 ▸ (Keep.refl (fun k => k = q) w4).set (p := ⟨q, 0, none⟩) rfl (.string U)
          have hq5 : w5.heap[q]? = some (.cells #[.string U, .slice B L c', .int .i64 x.sy] 95 (0, 0)) := by
            have := blk_set HQ4.out 0 (.string U)
            rw [hw5] at this
            exact this
          have H5 : Hid (RIn w5 (fun j => (F j ∧ j < q) ∨ w2.heap.size ≤ j) b { dk.tick with fs := fs2 } lv4 last4) := Lib.hid (H4.out.keep hk5 fun j hj e => by
            rcases hj with (hj | hj) | hj
            · omega
            · have := HQW.out; omega
            · omega)
          have HVX5 : Hid (View Rp.u8 w5 (fun i => F i ∧ i ≠ g ∧ i < q) x.b (.slice B L c')) := Lib.hid (HVX4.out.keep hk5 fun i hi e => by omega)
          have HW5 := Lib.hid hw5; have HQ5 := Lib.hid hq5
          have HK5 : Hid (Keep (fun j => F j ∨ j = b) w w5) := Lib.hid (HK4.out.trans hk5 fun i hi e => by have := HS1.out; omega)
          clear hw5 hk5 hq5
          go_upto_region 16 with fail
          rw [HW5.out]
          have r0 := blk_cell HQ5.out 0
          have r1 := blk_cell HQ5.out 1
          have r2 := blk_cell HQ5.out 2
          simp only [List.getElem?_toArray, List.getElem?_cons_zero, List.getElem?_cons_succ] at r0 r1 r2
          clear q0 q1 q2 fz hql HW5
          go_wp2_with fail
          refine (rput_any H5.out HO4.out hl4 { x with name := toL U } HN4.out U rfl B L c' (fun i => F i ∧ i ≠ g ∧ i < q) HVX5.out ?_ ?_).mono ?_
          · intro i hi e
            have := HOB4.out i e.symm; have := HQW.out; omega
          · exact fun h => H.out.out h.1
          rintro e w6 ⟨rfl, h6, hk6⟩
          have H6 := Lib.hid h6; have HK6 := Lib.hid hk6
          have HS5 := Lib.hid H5.out.lt
          have hs5 : q ≤ w5.heap.size := Nat.le_of_lt (blk_lt HQ5.out)
          clear h6 hk6 r0 r1 r2
          go_wp2_with fail
          go_ret
          obtain ⟨lv6, last6, h6⟩ := H6.out
          have hs1 := HS1.out; have hqw := HQW.out
          rw [HFS2.out] at hR
          refine hR _ _ ⟨rfl, ⟨lv6, last6, h6.mono (fun j _ h => ?_) fun h => h.elim H.out.out fun h => by omega⟩, HK5.out.trans HK6.out fun i hi h => ?_⟩
          · rcases h with (h | h) | h | h
            · exact .inl h.1
            · exact .inr (by omega)
            · exact .inl h.1
            · exact .inr (by omega)
          · rcases h with (h | h) | h
            · exact .inl h.1
            · omega
            · exact .inr h
        | some j =>
          rw [hpo] at hp
          have HDR2 := Lib.hid (dropAt_pos HO1.out hpo)
          obtain ⟨y, hy, _, _⟩ := hp
          have hj : j < fs1.length := (List.getElem?_eq_some_iff.1 hy).1
          have hjn : (j : Int) ≥ 0 := by omega
          rw [hw4]
          clear hy hpo hw4
          unfold posV
          go_wp2_with fail
          refine (without_own H3.out j hj hl1).mono ?_
          rintro e w4 ⟨rfl, ⟨lv4, last4, h4, hob4⟩, hk4⟩
          rw [show ({ dk.tick with fs := fs1 } : Dk).fs = fs1 from rfl, HDR2.out] at h4
          obtain ⟨fs2, hfs2⟩ : ∃ fs2, dropF fs1 (toL U) = fs2 := ⟨_, rfl⟩
          rw [hfs2] at h4
          have HFS2 : Hid (dropF (dropF dk.fs (toL T)) (toL U) = fs2) := Lib.hid (by rw [HFS1.out, hfs2])
          have HO4 : Hid (Ord fs2) := Lib.hid (hfs2 ▸ HO1.out.drop _)
          have hl4 : fs2.length ≤ 1000 := by rw [← hfs2]; unfold dropF; exact Nat.le_trans (List.length_filter_le _ _) hl1
          have HN4 : Hid (look fs2 (toL U) = none) := Lib.hid (by rw [← hfs2, HO1.out.look_drop, if_pos rfl])
          have hs3 := HS3.out
          have H4 : Hid (RIn w4 (fun j => (F j ∧ j < q) ∨ w2.heap.size ≤ j) b { dk.tick with fs := fs2 } lv4 last4) := Lib.hid (h4.mono (fun i _ h => h.elim id fun h => .inr (by omega)) fun h => h.elim (fun h => H.out.out h.1) fun h => by have := HQW.out; omega)
          have HOB4 : Hid (∀ k, lv4.ownBlock = some k → w2.heap.size ≤ k) := Lib.hid fun k hk => Nat.le_trans hs3 (hob4 k hk)
          have HQ4 := Lib.hid (hk4.blk HQ3.out (by omega))
          have HVX4 : Hid (View Rp.u8 w4 (fun i => F i ∧ i ≠ g ∧ i < q) x.b (.slice B L c')) := Lib.hid (HVX3.out.keep hk4 fun i hi e => H.out.out (e ▸ hi.1))
          have HK4 : Hid (Keep (fun j => F j ∨ j = b) w w4) := Lib.hid (HK3.out.trans hk4 fun _ _ h => .inr h)
          have HS4 : Hid (w2.heap.size ≤ w4.heap.size) := Lib.hid (Nat.le_trans hs3 hk4.size)
          clear h4 hob4 hk4 hfs2 hj hs3
          go_upto_region 15 with fail
          have q0 := blk_cell HQ4.out 0
          have q1 := blk_cell HQ4.out 1
          have q2 := blk_cell HQ4.out 2
          have fz := blk_free HQ4.out 0
          simp only [List.getElem?_toArray, List.getElem?_cons_zero, List.getElem?_cons_succ] at q0 q1 q2
          have hql := blk_lt HQ4.out
          obtain ⟨w5, hw5⟩ : ∃ w5, w4.setCell ⟨q, 0, none⟩ (.string U) = w5 := ⟨_, rfl⟩
          have hk5 : Keep (fun j => j = q) w4 w5 := hw5 ▸ (Keep.refl (fun k => k = q) w4).set (p := ⟨q, 0, none⟩) rfl (.string U)
          have hq5 : w5.heap[q]? = some (.cells #[.string U, .slice B L c', .int .i64 x.sy] 95 (0, 0)) := by
            have := blk_set HQ4.out 0 (.string U)
            rw [hw5] at this
            exact this
          have H5 : Hid (RIn w5 (fun j => (F j ∧ j < q) ∨ w2.heap.size ≤ j) b { dk.tick with fs := fs2 } lv4 last4) := Lib.hid (H4.out.keep hk5 fun j hj e => by
            rcases hj with (hj | hj) | hj
            · omega
            · have := HQW.out; omega
            · omega)
          have HVX5 : Hid (View Rp.u8 w5 (fun i => F i ∧ i ≠ g ∧ i < q) x.b (.slice B L c')) := Lib.hid (HVX4.out.keep hk5 fun i hi e => by omega)
          have HW5 := Lib.hid hw5; have HQ5 := Lib.hid hq5
          have HK5 : Hid (Keep (fun j => F j ∨ j = b) w w5) := Lib.hid (HK4.out.trans hk5 fun i hi e => by have := HS1.out; omega)
          clear hw5 hk5 hq5
          go_upto_region 16 with fail
          rw [HW5.out]
          have r0 := blk_cell HQ5.out 0
          have r1 := blk_cell HQ5.out 1
          have r2 := blk_cell HQ5.out 2
          simp only [List.getElem?_toArray, List.getElem?_cons_zero, List.getElem?_cons_succ] at r0 r1 r2
          clear q0 q1 q2 fz hql HW5
          go_wp2_with fail
          refine (rput_any H5.out HO4.out hl4 { x with name := toL U } HN4.out U rfl B L c' (fun i => F i ∧ i ≠ g ∧ i < q) HVX5.out ?_ ?_).mono ?_
          · intro i hi e
            have := HOB4.out i e.symm; have := HQW.out; omega
          · exact fun h => H.out.out h.1
          rintro e w6 ⟨rfl, h6, hk6⟩
          have H6 := Lib.hid h6; have HK6 := Lib.hid hk6
          have HS5 := Lib.hid H5.out.lt
          have hs5 : q ≤ w5.heap.size := Nat.le_of_lt (blk_lt HQ5.out)
          clear h6 hk6 r0 r1 r2
          go_wp2_with fail
          go_ret
          obtain ⟨lv6, last6, h6⟩ := H6.out
          have hs1 := HS1.out; have hqw := HQW.out
          rw [HFS2.out] at hR
          refine hR _ _ ⟨rfl, ⟨lv6, last6, h6.mono (fun j _ h => ?_) fun h => h.elim H.out.out fun h => by omega⟩, HK5.out.trans HK6.out fun i hi h => ?_⟩
          · rcases h with (h | h) | h | h
            · exact .inl h.1
            · exact .inr (by omega)
            · exact .inl h.1
            · exact .inr (by omega)
          · rcases h with (h | h) | h
            · exact .inl h.1
            · omega
            · exact .inr h
end
end Go.Proofs.Ytlfcbhagbdonhaa.Asc
