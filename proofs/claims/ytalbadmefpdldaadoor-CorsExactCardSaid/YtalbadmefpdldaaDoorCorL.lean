/-
  The law parapetlaw17.CorsExact answers true.
  Arguments within the rows' own reach; the library's MaxLen is a number.
-/
import Derived.Test.YtalbadmefpdldaaDoorCorK
namespace Go.Proofs.YtalbadmefpdldaaDoor.Asc
open Go Go.RowKit Go.Proofs.YtalbadmefpdldaaDoor.Pb

def allH : Tx := [97, 108, 108]
def ownH : Tx := [111, 119, 110]
def allS : Sh := (starT, [], [allH], false)
def ownS (t : Tx) : Sh := (t, [], [ownH], true)
theorem find_two (t : Tx) (cr : Bool) (h : (t == starT) = false) : findN [allS, ownS t] t cr = some (ownS t) := by
  unfold findN
  have h2 : (starT == t) = false := by rw [beq_eq_false_iff_ne] at h ⊢; exact fun e => h e.symm
  rw [List.find?_cons_of_neg (by show ¬ (starT == t) = true; rw [h2]; simp), List.find?_cons_of_pos (by show (t == t) = true; simp)]; rfl
theorem find_one (t : Tx) (cr : Bool) (h : (t == starT) = false) : findN [allS] t cr = if cr then none else some allS := by
  unfold findN
  have h2 : (starT == t) = false := by rw [beq_eq_false_iff_ne] at h ⊢; exact fun e => h e.symm
  rw [List.find?_cons_of_neg (by show ¬ (starT == t) = true; rw [h2]; simp)]
  cases cr with
  | true => rfl
  | false => rfl

set_option maxRecDepth 20000 in
set_option maxHeartbeats 8000000 in
theorem exact_walk (S H : ByteArray) (P : Int) (cr : Bool) (m : Int) (w : World) (hm : MaxLen m w) (hS : S.size ≤ 140737488351232) (hH : H.size ≤ 140737488351232) :
    Calls Tryd.prog 9 #[.agg #[.string S, .string H, .int .i64 P], .bool cr] w fun e w' => e = .returned (.bool true) ∧ Below w.heap.size w w' := by
  refine calls_gen fun R hR => ?_
  have HM := Lib.hid hm
  clear hm
  go_enter Tryd.func9, Tryd.ntmps9
  obtain ⟨w1, hw1⟩ : ∃ w1, w.alloc (.cells #[.string S, .string H, .int .i64 P] 39) = w1 := ⟨_, rfl⟩
  have g1 := blk_new w (.cells #[.string S, .string H, .int .i64 P] 39)
  have hb1 := below_new w (.cells #[.string S, .string H, .int .i64 P] 39)
  rw [hw1] at g1 hb1
  obtain ⟨ob, hob⟩ : ∃ ob, w.heap.size = ob := ⟨_, rfl⟩
  have HB1 := Lib.hid hb1; have HW1 := Lib.hid hw1; have HOB := Lib.hid hob
  rw [hob] at g1
  have HC : Hid (∀ wy, Ext w1 wy → ob < wy.heap.size ∧ wy.cell? ⟨ob, 0, none⟩ = some (.string S) ∧ wy.cell? ⟨ob, 1, none⟩ = some (.string H) ∧ wy.cell? ⟨ob, 2, none⟩ = some (.int .i64 P)) := Lib.hid fun wy hy => by
    have e1 := (hy.block ob (blk_lt g1)).trans g1
    have a0 := blk_cell e1 0
    have a1 := blk_cell e1 1
    have a2 := blk_cell e1 2
    simp at a0 a1 a2
    exact ⟨blk_lt e1, a0, a1, a2⟩
  clear g1 hb1 hw1 hob
  go_wp2_with fail
  rw [HW1.out, HOB.out]
  refine (originOk_any S H P w1 hS hH).mono ?_
  rintro e w2 ⟨b, rfl, hbt, hb2⟩
  have HE2 : Hid (Ext w1 w2) := Lib.hid hb2
  have HBT := Lib.hid hbt
  clear hb2 hbt
  cases b with
  | false =>
    go_wp2_with fail
    refine (awake_any m w2 ((HM.out.below HB1.out).below HE2.out)).mono ?_
    rintro e w3 ⟨rfl, hb3⟩
    go_wp2_with fail
    go_ret
    exact hR _ _ ⟨rfl, Ext.then HB1.out (Ext.trans HE2.out hb3) (Nat.le_refl _)⟩
  | true =>
    obtain ⟨h0, h1, hSH⟩ := HBT.out rfl
    have hS1 : S.size ≤ 1000 := by omega
    have hH1 : H.size ≤ 1000 := by omega
    clear HBT hS hH
    obtain ⟨q0, q1, q2, q3⟩ := HC.out w2 HE2.out
    cases hse : S.toList.isEmpty with
    | true =>
      go_wp2_with fail
      refine (awake_any m w2 ((HM.out.below HB1.out).below HE2.out)).mono ?_
      rintro e w3 ⟨rfl, hb3⟩
      go_wp2_with fail
      go_ret
      exact hR _ _ ⟨rfl, Ext.then HB1.out (Ext.trans HE2.out hb3) (Nat.le_refl _)⟩
    | false =>
      -- everybody's word
      have va := texts_lit w2 [allH] #[.string ⟨#[97, 108, 108]⟩] rfl (by decide) 1 rfl
      have xa := below_new w2 (.cells #[.string ⟨#[97, 108, 108]⟩] 9)
      have sa : (w2.alloc (.cells #[.string ⟨#[97, 108, 108]⟩] 9)).heap.size = w2.heap.size + 1 := by simp
      obtain ⟨lb, hlb⟩ : ∃ lb, w2.heap.size = lb := ⟨_, rfl⟩
      obtain ⟨c1, hc1⟩ : ∃ c1, w2.alloc (.cells #[.string ⟨#[97, 108, 108]⟩] 9) = c1 := ⟨_, rfl⟩
      rw [hc1] at va xa sa
      rw [hlb] at va sa
      have gb := blk_new c1 (.cells #[.string ⟨#[42]⟩, .slice none 0 0, .slice (some ⟨lb, 0, none⟩) 1 1, .bool false] 24)
      have xb := below_new c1 (.cells #[.string ⟨#[42]⟩, .slice none 0 0, .slice (some ⟨lb, 0, none⟩) 1 1, .bool false] 24)
      obtain ⟨c2, hc2⟩ : ∃ c2, c1.alloc (.cells #[.string ⟨#[42]⟩, .slice none 0 0, .slice (some ⟨lb, 0, none⟩) 1 1, .bool false] 24) = c2 := ⟨_, rfl⟩
      rw [hc2] at gb xb
      rw [sa] at gb
      obtain ⟨ab, hab⟩ : ∃ ab, lb + 1 = ab := ⟨_, rfl⟩
      rw [hab] at gb
      have HX2 : Hid (Ext w1 c2) := Lib.hid (Ext.trans HE2.out (Ext.trans xa xb))
      have HA : Hid (∀ wy, Ext c2 wy → (ab < wy.heap.size ∧ wy.cell? ⟨ab, 0, none⟩ = some (.string ⟨#[42]⟩) ∧ wy.cell? ⟨ab, 1, none⟩ = some (.slice none 0 0) ∧ wy.cell? ⟨ab, 2, none⟩ = some (.slice (some ⟨lb, 0, none⟩) 1 1) ∧ wy.cell? ⟨ab, 3, none⟩ = some (.bool false)) ∧ View Rp.str wy (fun _ => True) [allH] (.slice (some ⟨lb, 0, none⟩) 1 1)) := Lib.hid fun wy hy => by
        have e1 := (hy.block ab (blk_lt gb)).trans gb
        have a0 := blk_cell e1 0
        have a1 := blk_cell e1 1
        have a2 := blk_cell e1 2
        have a3 := blk_cell e1 3
        simp at a0 a1 a2 a3
        exact ⟨⟨blk_lt e1, a0, a1, a2, a3⟩, ((va.below xb).below hy).mono fun _ _ => trivial⟩
      have H1 := Lib.hid hlb; have H2 := Lib.hid hc1; have H3 := Lib.hid hc2; have H4 := Lib.hid hab
      clear va xa sa gb xb hlb hc1 hc2 hab
      go_wp2_with fail
      rw [H1.out, H2.out, H3.out, H4.out]
      clear H1 H2 H3 H4 q0 q1 q2 q3
      refine (rotext_any S H P c2 hS1 hH1 h0 h1).mono ?_
      rintro e w3 ⟨rfl, hb3⟩
      have HNS := Lib.hid (origin_nostar (toL S) (toL H) P)
      obtain ⟨T, hT⟩ : ∃ T, originN (toL S) (toL H) P = T := ⟨_, rfl⟩
      have HT := Lib.hid hT
      rw [hT] at HNS ⊢
      obtain ⟨TB, hTB⟩ : ∃ TB, ofL T = TB := ⟨_, rfl⟩
      have HTB := Lib.hid hTB
      rw [hTB]
      have HTT : Hid (toL TB = T) := Lib.hid (by rw [← hTB, toL_ofL])
      have HX3 : Hid (Ext c2 w3) := Lib.hid hb3
      clear hb3 hT hTB
      -- its own word
      have va := texts_lit w3 [ownH] #[.string ⟨#[111, 119, 110]⟩] rfl (by decide) 1 rfl
      have xa := below_new w3 (.cells #[.string ⟨#[111, 119, 110]⟩] 9)
      have sa : (w3.alloc (.cells #[.string ⟨#[111, 119, 110]⟩] 9)).heap.size = w3.heap.size + 1 := by simp
      obtain ⟨o1, ho1⟩ : ∃ lb, w3.heap.size = lb := ⟨_, rfl⟩
      obtain ⟨c4, hc4⟩ : ∃ c1, w3.alloc (.cells #[.string ⟨#[111, 119, 110]⟩] 9) = c1 := ⟨_, rfl⟩
      rw [hc4] at va xa sa
      rw [ho1] at va sa
      have gb := blk_new c4 (.cells #[.string TB, .slice none 0 0, .slice (some ⟨o1, 0, none⟩) 1 1, .bool true] 24)
      have xb := below_new c4 (.cells #[.string TB, .slice none 0 0, .slice (some ⟨o1, 0, none⟩) 1 1, .bool true] 24)
      obtain ⟨c5, hc5⟩ : ∃ c2, c4.alloc (.cells #[.string TB, .slice none 0 0, .slice (some ⟨o1, 0, none⟩) 1 1, .bool true] 24) = c2 := ⟨_, rfl⟩
      have s5 : c5.heap.size = o1 + 1 + 1 := by rw [← hc5, ← sa]; simp
      rw [hc5] at gb xb
      rw [sa] at gb
      obtain ⟨wb, hwb⟩ : ∃ ab, o1 + 1 = ab := ⟨_, rfl⟩
      rw [hwb] at gb s5
      have HX5 : Hid (Ext c2 c5) := Lib.hid (Ext.trans HX3.out (Ext.trans xa xb))
      have HW : Hid (∀ wy, Ext c5 wy → (wb < wy.heap.size ∧ wy.cell? ⟨wb, 0, none⟩ = some (.string TB) ∧ wy.cell? ⟨wb, 1, none⟩ = some (.slice none 0 0) ∧ wy.cell? ⟨wb, 2, none⟩ = some (.slice (some ⟨o1, 0, none⟩) 1 1) ∧ wy.cell? ⟨wb, 3, none⟩ = some (.bool true)) ∧ View Rp.str wy (fun _ => True) [ownH] (.slice (some ⟨o1, 0, none⟩) 1 1)) := Lib.hid fun wy hy => by
        have e1 := (hy.block wb (blk_lt gb)).trans gb
        have a0 := blk_cell e1 0
        have a1 := blk_cell e1 1
        have a2 := blk_cell e1 2
        have a3 := blk_cell e1 3
        simp at a0 a1 a2 a3
        exact ⟨⟨blk_lt e1, a0, a1, a2, a3⟩, ((va.below xb).below hy).mono fun _ _ => trivial⟩
      -- the two, as a row
      have r1 := rep_share (w := c5) (F := fun _ => True) ⟨#[42]⟩ [] [allH] _ _ false (View.nil _ _ _) (HA.out c5 HX5.out).2
      have r2 := rep_share (w := c5) (F := fun _ => True) TB [] [ownH] _ _ true (View.nil _ _ _) (HW.out c5 (Ext.refl _)).2
      rw [HTT.out] at r2
      have HR2 : Hid (View shr (c5.alloc (.cells #[.string ⟨#[42]⟩, .slice none 0 0, .slice (some ⟨lb, 0, none⟩) 1 1, .bool false, .string TB, .slice none 0 0, .slice (some ⟨o1, 0, none⟩) 1 1, .bool true] 24)) (fun _ => True) [allS, ownS T] (.slice (some ⟨c5.heap.size, 0, none⟩) 2 2)) := Lib.hid (by
        exact ((Own.lit (d := shr) (e := 24) c5 (xs := [allS, ownS T]) ((Elems.one r1).app (Elems.one r2)) rfl (by simp [maxLen])).view).mono (F' := fun _ => True) fun _ _ => trivial)
      have xr := below_new c5 (.cells #[.string ⟨#[42]⟩, .slice none 0 0, .slice (some ⟨lb, 0, none⟩) 1 1, .bool false, .string TB, .slice none 0 0, .slice (some ⟨o1, 0, none⟩) 1 1, .bool true] 24)
      obtain ⟨c6, hc6⟩ : ∃ c, c5.alloc (.cells #[.string ⟨#[42]⟩, .slice none 0 0, .slice (some ⟨lb, 0, none⟩) 1 1, .bool false, .string TB, .slice none 0 0, .slice (some ⟨o1, 0, none⟩) 1 1, .bool true] 24) = c := ⟨_, rfl⟩
      rw [hc6] at HR2 xr
      have HX6 : Hid (Ext c5 c6) := Lib.hid xr
      obtain ⟨q0, q1, q2, q3⟩ := HC.out w3 (Ext.trans HX2.out HX3.out)
      have H1 := Lib.hid ho1; have H2 := Lib.hid hc4; have H3 := Lib.hid hc5; have H4 := Lib.hid hwb; have H5 := Lib.hid hc6
      clear va xa sa gb xb ho1 hc4 hc5 hwb r1 r2 xr hc6 s5
      go_upto_region 5 with fail
      rw [H1.out, H2.out, H3.out, H4.out]
      clear H1 H2 H3 H4 q0 q1 q2 q3
      obtain ⟨⟨y0, y1, y2, y3, y4⟩, _⟩ := HA.out c5 HX5.out
      obtain ⟨⟨u0, u1, u2, u3, u4⟩, _⟩ := HW.out c5 (Ext.refl _)
      obtain ⟨q0, q1, q2, q3⟩ := HC.out c5 (Ext.trans HX2.out HX5.out)
      go_wp2_with fail
      rw [H5.out]
      clear H5 q0 q1 q2 q3 y0 y1 y2 y3 y4 u0 u1 u2 u3 u4
      have HSM : Hid (∀ x ∈ [allS, ownS T], shSm x) := Lib.hid fun x hx => by
        have hTl : T.length ≤ 2000 := by
          rw [← HT.out]; unfold originN
          split
          · decide
          · have := decimal_small P h0 h1
            simp only [List.length_append, toL_len]
            split
            · simp [sepT]; omega
            · simp [sepT]; omega
        simp at hx
        rcases hx with rfl | rfl
        · exact ⟨by decide, by decide, by decide⟩
        · exact ⟨hTl, by show total [] ≤ 2000; decide, by show total [ownH] ≤ 2000; decide⟩
      refine (find_any [allS, ownS T] _ _ S H P cr c6 HR2.out (by simp) HSM.out hS1 hH1 h0 h1).mono ?_
      rintro e w6 ⟨cs, rfl, hr6, hb6⟩
      rw [HT.out, find_two T cr HNS.out] at hr6 ⊢
      obtain ⟨mv, hv, ecs, hmv, hhv⟩ := share_rep hr6
      have ec : cs = #[.string (ofL T), mv, hv, .bool true] := by apply Array.ext'; exact ecs
      rw [ec, HTB.out]
      have HMV : Hid (View Rp.str w6 (fun _ => True) [] mv) := Lib.hid hmv
      have HHV : Hid (View Rp.str w6 (fun _ => True) [ownH] hv) := Lib.hid hhv
      have hmv2 := HMV.out; have hhv2 := HHV.out
      clear hmv hhv
      obtain ⟨MA, mc, rfl, -, -, -⟩ := hmv2
      obtain ⟨HA2, hc2, rfl, -, -, -⟩ := hhv2
      have HX66 : Hid (Ext c6 w6) := Lib.hid hb6
      clear hb6 hr6 ecs ec
      have ga := blk_new w6 (.cells #[.string TB, .slice MA 0 mc, .slice HA2 1 hc2, .bool true] 24)
      have xa := below_new w6 (.cells #[.string TB, .slice MA 0 mc, .slice HA2 1 hc2, .bool true] 24)
      have sa : (w6.alloc (.cells #[.string TB, .slice MA 0 mc, .slice HA2 1 hc2, .bool true] 24)).heap.size = w6.heap.size + 1 := by simp
      obtain ⟨c7, hc7⟩ : ∃ c, w6.alloc (.cells #[.string TB, .slice MA 0 mc, .slice HA2 1 hc2, .bool true] 24) = c := ⟨_, rfl⟩
      obtain ⟨fb, hfb⟩ : ∃ c, w6.heap.size = c := ⟨_, rfl⟩
      rw [hc7] at ga xa sa
      rw [hfb] at ga sa
      have HF7 : Hid (∀ wy, Ext c7 wy → (fb < wy.heap.size ∧ wy.cell? ⟨fb, 0, none⟩ = some (.string TB) ∧ wy.cell? ⟨fb, 1, none⟩ = some (.slice MA 0 mc) ∧ wy.cell? ⟨fb, 2, none⟩ = some (.slice HA2 1 hc2) ∧ wy.cell? ⟨fb, 3, none⟩ = some (.bool true))) := Lib.hid fun wy hy => by
        have e1 := (hy.block fb (blk_lt ga)).trans ga
        have a0 := blk_cell e1 0
        have a1 := blk_cell e1 1
        have a2 := blk_cell e1 2
        have a3 := blk_cell e1 3
        simp at a0 a1 a2 a3
        exact ⟨blk_lt e1, a0, a1, a2, a3⟩
      have HX57 : Hid (Ext c5 c7) := Lib.hid (Ext.trans HX6.out (Ext.trans HX66.out xa))
      have HX67 : Hid (Ext w6 c7) := Lib.hid xa
      -- everybody's alone, as a row
      have r1 := rep_share (w := c7) (F := fun _ => True) ⟨#[42]⟩ [] [allH] _ _ false (View.nil _ _ _) (HA.out c7 (Ext.trans HX5.out HX57.out)).2
      have HR3 : Hid (View shr (c7.alloc (.cells #[.string ⟨#[42]⟩, .slice none 0 0, .slice (some ⟨lb, 0, none⟩) 1 1, .bool false] 24)) (fun _ => True) [allS] (.slice (some ⟨c7.heap.size, 0, none⟩) 1 1)) := Lib.hid (by
        exact ((Own.lit (d := shr) (e := 24) c7 (xs := [allS]) (Elems.one r1) rfl (by simp [maxLen])).view).mono (F' := fun _ => True) fun _ _ => trivial)
      have xr := below_new c7 (.cells #[.string ⟨#[42]⟩, .slice none 0 0, .slice (some ⟨lb, 0, none⟩) 1 1, .bool false] 24)
      obtain ⟨c8, hc8⟩ : ∃ c, c7.alloc (.cells #[.string ⟨#[42]⟩, .slice none 0 0, .slice (some ⟨lb, 0, none⟩) 1 1, .bool false] 24) = c := ⟨_, rfl⟩
      rw [hc8] at HR3 xr
      have HX78 : Hid (Ext c7 c8) := Lib.hid xr
      have HC7 : Hid (Ext c2 c7) := Lib.hid (Ext.trans HX5.out HX57.out)
      have H1 := Lib.hid hc7; have H2 := Lib.hid hfb; have H3 := Lib.hid hc8
      clear ga xa sa hc7 hfb r1 xr hc8
      go_upto_region 6 with fail
      rw [H1.out, H2.out]
      obtain ⟨⟨y0, y1, y2, y3, y4⟩, _⟩ := HA.out c7 HC7.out
      obtain ⟨q0, q1, q2, q3⟩ := HC.out c7 (Ext.trans HX2.out HC7.out)
      go_wp2_with fail
      rw [H3.out]
      clear H1 H2 H3 q0 q1 q2 q3 y0 y1 y2 y3 y4
      refine (find_any [allS] _ _ S H P cr c8 HR3.out (by simp) (fun x hx => HSM.out x (by simp at hx; simp [hx])) hS1 hH1 h0 h1).mono ?_
      rintro e w8 ⟨cs, rfl, hr8, hb8⟩
      rw [HT.out, find_one T cr HNS.out] at hr8 ⊢
      have HX88 : Hid (Ext c8 w8) := Lib.hid hb8
      clear hb8
      cases cr with
      | true =>
        rw [if_pos rfl] at hr8 ⊢
        obtain ⟨mv3, hv3, ecs, hmv, hhv⟩ := share_rep hr8
        have ec : cs = #[.string ⟨#[]⟩, mv3, hv3, .bool false] := by apply Array.ext'; exact ecs
        rw [ec]
        have HMV3 : Hid (View Rp.str w8 (fun _ => True) [] mv3) := Lib.hid hmv
        have HHV3 : Hid (View Rp.str w8 (fun _ => True) [] hv3) := Lib.hid hhv
        have hmv2 := HMV3.out; have hhv2 := HHV3.out
        clear hmv hhv
        obtain ⟨MA3, mc3, rfl, -, -, -⟩ := hmv2
        obtain ⟨HA3, hc3, rfl, -, -, -⟩ := hhv2
        have ga := blk_new w8 (.cells #[.string ⟨#[]⟩, .slice MA3 0 mc3, .slice HA3 0 hc3, .bool false] 24)
        have xa := below_new w8 (.cells #[.string ⟨#[]⟩, .slice MA3 0 mc3, .slice HA3 0 hc3, .bool false] 24)
        obtain ⟨c9, hc9⟩ : ∃ c, w8.alloc (.cells #[.string ⟨#[]⟩, .slice MA3 0 mc3, .slice HA3 0 hc3, .bool false] 24) = c := ⟨_, rfl⟩
        obtain ⟨bb, hbb⟩ : ∃ c, w8.heap.size = c := ⟨_, rfl⟩
        rw [hc9] at ga xa
        rw [hbb] at ga
        have HX89 : Hid (Ext w8 c9) := Lib.hid xa
        have HX79 : Hid (Ext c7 c9) := Lib.hid (Ext.trans HX78.out (Ext.trans HX88.out xa))
        have HX59 : Hid (Ext c5 c9) := Lib.hid (Ext.trans HX57.out HX79.out)
        have HX29 : Hid (Ext c2 c9) := Lib.hid (Ext.trans HX5.out HX59.out)
        have HGB := Lib.hid ga
        obtain ⟨z0, z1, z2, z3, z4⟩ := HF7.out w8 (Ext.trans HX78.out HX88.out)
        obtain ⟨⟨y0, y1, y2, y3, y4⟩, _⟩ := HW.out w8 (Ext.trans HX57.out (Ext.trans HX78.out HX88.out))
        have H1 := Lib.hid hc9; have H2 := Lib.hid hbb
        clear ga xa hc9 hbb hr8 ecs ec
        go_wp2_with fail
        rw [H1.out]
        clear z0 z1 z2 z3 z4 y0 y1 y2 y3 y4
        have HOW := HW.out c9 HX59.out
        refine (samesh_any TB [] [ownH] _ _ _ _ true (fun _ => True) (fun _ => True) c9 ((HMV.out.below HX67.out).below HX79.out) ((HHV.out.below HX67.out).below HX79.out) (View.nil _ _ _) HOW.2 (by decide) (by decide)).mono ?_
        rintro e w10 ⟨rfl, hb10⟩
        have HX10 : Hid (Ext c9 w10) := Lib.hid hb10
        clear HOW hb10
        go_wp2_with fail
        refine (awake_any m w10 (HM.out.below (Ext.then HB1.out (Ext.trans HX2.out (Ext.trans HX29.out HX10.out)) (Nat.le_refl _)))).mono ?_
        rintro e w12 ⟨rfl, hb12⟩
        go_wp2_with fail
        go_ret
        exact hR _ _ ⟨rfl, Ext.then HB1.out (Ext.trans HX2.out (Ext.trans HX29.out (Ext.trans HX10.out hb12))) (Nat.le_refl _)⟩
      | false =>
        rw [if_neg (by simp)] at hr8 ⊢
        obtain ⟨mv3, hv3, ecs, hmv, hhv⟩ := share_rep hr8
        have ec : cs = #[.string ⟨#[42]⟩, mv3, hv3, .bool false] := by apply Array.ext'; exact ecs
        rw [ec]
        have HMV3 : Hid (View Rp.str w8 (fun _ => True) [] mv3) := Lib.hid hmv
        have HHV3 : Hid (View Rp.str w8 (fun _ => True) [allH] hv3) := Lib.hid hhv
        have hmv2 := HMV3.out; have hhv2 := HHV3.out
        clear hmv hhv
        obtain ⟨MA3, mc3, rfl, -, -, -⟩ := hmv2
        obtain ⟨HA3, hc3, rfl, -, -, -⟩ := hhv2
        have ga := blk_new w8 (.cells #[.string ⟨#[42]⟩, .slice MA3 0 mc3, .slice HA3 1 hc3, .bool false] 24)
        have xa := below_new w8 (.cells #[.string ⟨#[42]⟩, .slice MA3 0 mc3, .slice HA3 1 hc3, .bool false] 24)
        obtain ⟨c9, hc9⟩ : ∃ c, w8.alloc (.cells #[.string ⟨#[42]⟩, .slice MA3 0 mc3, .slice HA3 1 hc3, .bool false] 24) = c := ⟨_, rfl⟩
        obtain ⟨bb, hbb⟩ : ∃ c, w8.heap.size = c := ⟨_, rfl⟩
        rw [hc9] at ga xa
        rw [hbb] at ga
        have HX89 : Hid (Ext w8 c9) := Lib.hid xa
        have HX79 : Hid (Ext c7 c9) := Lib.hid (Ext.trans HX78.out (Ext.trans HX88.out xa))
        have HX59 : Hid (Ext c5 c9) := Lib.hid (Ext.trans HX57.out HX79.out)
        have HX29 : Hid (Ext c2 c9) := Lib.hid (Ext.trans HX5.out HX59.out)
        have HGB := Lib.hid ga
        obtain ⟨z0, z1, z2, z3, z4⟩ := HF7.out w8 (Ext.trans HX78.out HX88.out)
        obtain ⟨⟨y0, y1, y2, y3, y4⟩, _⟩ := HW.out w8 (Ext.trans HX57.out (Ext.trans HX78.out HX88.out))
        have H1 := Lib.hid hc9; have H2 := Lib.hid hbb
        clear ga xa hc9 hbb hr8 ecs ec
        go_wp2_with fail
        rw [H1.out]
        clear z0 z1 z2 z3 z4 y0 y1 y2 y3 y4
        have HOW := HW.out c9 HX59.out
        refine (samesh_any TB [] [ownH] _ _ _ _ true (fun _ => True) (fun _ => True) c9 ((HMV.out.below HX67.out).below HX79.out) ((HHV.out.below HX67.out).below HX79.out) (View.nil _ _ _) HOW.2 (by decide) (by decide)).mono ?_
        rintro e w10 ⟨rfl, hb10⟩
        have HX10 : Hid (Ext c9 w10) := Lib.hid hb10
        clear HOW hb10
        have g10 := (HX10.out.block bb (blk_lt HGB.out)).trans HGB.out
        have z0 := blk_cell g10 0
        have z1 := blk_cell g10 1
        have z2 := blk_cell g10 2
        have z3 := blk_cell g10 3
        simp at z0 z1 z2 z3
        have zl := blk_lt g10
        rw [H2.out]
        clear g10
        obtain ⟨⟨y0, y1, y2, y3, y4⟩, HVA⟩ := HA.out w10 (Ext.trans HX29.out HX10.out)
        have HVAL := Lib.hid HVA
        clear HVA
        go_wp2_with fail
        refine (samesh_any ⟨#[42]⟩ [] [allH] _ _ _ _ false (fun _ => True) (fun _ => True) w10 ((HMV3.out.below HX89.out).below HX10.out) ((HHV3.out.below HX89.out).below HX10.out) (View.nil _ _ _) HVAL.out (by decide) (by decide)).mono ?_
        rintro e w11 ⟨rfl, hb11⟩
        have HX11 : Hid (Ext c9 w11) := Lib.hid (Ext.trans HX10.out hb11)
        clear hb11
        go_wp2_with fail
        refine (awake_any m w11 (HM.out.below (Ext.then HB1.out (Ext.trans HX2.out (Ext.trans HX29.out HX11.out)) (Nat.le_refl _)))).mono ?_
        rintro e w12 ⟨rfl, hb12⟩
        go_wp2_with fail
        go_ret
        exact hR _ _ ⟨rfl, Ext.then HB1.out (Ext.trans HX2.out (Ext.trans HX29.out (Ext.trans HX11.out hb12))) (Nat.le_refl _)⟩
theorem exact_row {w : World} (x : Og) (cs : Array Value) (ho : x.1.length ≤ 140737488351232 ∧ x.2.1.length ≤ 140737488351232 ∧ (-9223372036854775808 ≤ x.2.2 ∧ x.2.2 ≤ 9223372036854775807)) (hr : org.rep w (fun _ => True) x cs.toList) (cr : Bool) (m : Int) (hm : MaxLen m w) :
    Calls Tryd.prog 9 #[.agg cs, .bool cr] w fun e w' => e = .returned (.bool true) ∧ Below w.heap.size w w' := by
  have ec : cs = #[.string (ofL x.1), .string (ofL x.2.1), .int .i64 x.2.2] := by apply Array.ext'; exact org_rep hr
  rw [ec]
  exact exact_walk (ofL x.1) (ofL x.2.1) x.2.2 cr m w hm (by rw [ofL_size]; exact ho.1) (by rw [ofL_size]; exact ho.2.1)
end Go.Proofs.YtalbadmefpdldaaDoor.Asc
