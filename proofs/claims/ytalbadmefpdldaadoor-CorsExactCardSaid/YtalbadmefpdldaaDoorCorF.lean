/-
  The laws parapetlaw17.CorsAllows and CorsPlain answer true.
  Arguments within the rows' own reach; the library's MaxLen is a number.
-/
import Derived.Test.YtalbadmefpdldaaDoorCorE
namespace Go.Proofs.YtalbadmefpdldaaDoor.Asc
open Go Go.RowKit Go.Proofs.YtalbadmefpdldaaDoor.Pb

theorem total_mem (l : List Tx) (x : Tx) (h : x ∈ l) : x.length ≤ total l := by
  have := le_sum_mem (fun v : Tx => v.length) x l h
  unfold total totalAt
  rw [List.take_length]
  have e : (l.map fun v => v.length) = l.map List.length := rfl
  rw [e] at this; omega
theorem allows_plain (o : Tx) (ms hs : List Tx) (c : Bool) (S : Tx) (l : List Fd) (cr : Bool) (h : preN S l = false) : allowsN o ms hs c S l cr = !(cr && (!c || o == starT)) := by
  unfold preN at h
  rw [Bool.or_eq_false_iff] at h
  obtain ⟨h1, h2⟩ := h
  have h3 : unsafeN l = [] := List.eq_nil_of_length_eq_zero (by simp at h2; simpa using h2)
  unfold allowsN
  rw [h3, methOk_t ms S cr (by simpa using h1)]; simp

set_option maxRecDepth 20000 in
set_option maxHeartbeats 8000000 in
theorem allows_walk (O : ByteArray) (ms hs : List Tx) (mv hv : Value) (c : Bool) (F : Nat → Prop) (s : ByteArray) (l : List Fd) (v : Value) (G : Nat → Prop) (cr : Bool) (m : Int) (w : World) (hm : MaxLen m w)
    (h1 : View Rp.str w F ms mv) (h2 : View Rp.str w F hs hv) (hlv : View fld w G l v) (hok : shOk (toL O, ms, hs, c)) (hsz : s.size ≤ 140737488351232) (hl : l.length ≤ 140737488351232) (hx : ∀ x ∈ l, x.1.length ≤ 140737488351232 ∧ x.2.length ≤ 140737488351232) :
    Calls Tryd.prog 3 #[.agg #[.string O, mv, hv, .bool c], .string s, v, .bool cr] w fun e w' => e = .returned (.bool true) ∧ Below w.heap.size w w' := by
  refine calls_gen fun R hR => ?_
  have HM := Lib.hid hm; have H1 := Lib.hid h1; have H2 := Lib.hid h2; have HV := Lib.hid hlv; have HX := Lib.hid hx; have HOK := Lib.hid hok
  clear hm h1 h2 hlv hx hok
  go_enter Tryd.func3, Tryd.ntmps3
  have g1 := blk_new w (.cells #[.string O, mv, hv, .bool c] 24)
  have hb1 := below_new w (.cells #[.string O, mv, hv, .bool c] 24)
  obtain ⟨w1, hw1⟩ : ∃ w1, w.alloc (.cells #[.string O, mv, hv, .bool c] 24) = w1 := ⟨_, rfl⟩
  have d0 := blk_cell g1 0
  have d1 := blk_cell g1 1
  have d2 := blk_cell g1 2
  have d3 := blk_cell g1 3
  rw [hw1] at g1 hb1 d0 d1 d2 d3
  simp at d0 d1 d2 d3
  have hl1 := blk_lt g1
  have HB1 := Lib.hid hb1
  obtain ⟨sb, hsb⟩ : ∃ sb, w.heap.size = sb := ⟨_, rfl⟩
  rw [hsb] at d0 d1 d2 d3 hl1
  have HD0 := Lib.hid d0; have HD1 := Lib.hid d1; have HD2 := Lib.hid d2; have HD3 := Lib.hid d3
  have HSB := Lib.hid hsb; have HW1 := Lib.hid hw1
  have hws1 : w1.heap.size = sb + 1 := by rw [← hw1, ← hsb]; simp
  -- the one share, as a row
  have HLS : Hid (View shr (w1.alloc (.cells #[.string O, mv, hv, .bool c] 24)) (fun _ => True) [(toL O, ms, hs, c)] (.slice (some ⟨w1.heap.size, 0, none⟩) 1 1)) := Lib.hid (by
    have hr := rep_share O ms hs mv hv c (H1.out.below HB1.out) (H2.out.below HB1.out)
    exact ((Own.lit (d := shr) (e := 24) w1 (xs := [(toL O, ms, hs, c)]) (Elems.one hr) rfl (by simp [maxLen])).view).mono fun _ _ => trivial)
  clear hsb hw1 g1 hb1 d0 d1 d2 d3
  rw [hws1] at HLS
  have HBN := Lib.hid (below_new w1 (.cells #[.string O, mv, hv, .bool c] 24))
  clear hws1
  go_wp2_with fail
  rw [HW1.out, HSB.out]
  have HE2 : Hid (Ext w1 (w1.alloc (.cells #[.string O, mv, hv, .bool c] 24))) := Lib.hid HBN.out
  refine (small_any [(toL O, ms, hs, c)] _ _ _ HLS.out (by simp) (fun x hx => by simp at hx; subst hx; exact HOK.out)).mono ?_
  rintro e w2 ⟨b, rfl, hbt, hb2⟩
  have HE3 := Lib.hid (Ext.trans HE2.out hb2)
  have HBT := Lib.hid hbt
  clear HE2 HBN HLS hb2 hbt
  cases b with
  | false =>
    go_wp2_with fail
    refine (awake_any m w2 ((HM.out.below HB1.out).below HE3.out)).mono ?_
    rintro e w3 ⟨rfl, hb3⟩
    go_wp2_with fail
    go_ret
    exact hR _ _ ⟨rfl, Ext.then HB1.out (Ext.trans HE3.out hb3) (Nat.le_refl _)⟩
  | true =>
    obtain ⟨_, hsm⟩ := HBT.out rfl
    obtain ⟨_, hsm2, hsm3⟩ := hsm _ (List.mem_singleton.2 rfl)
    simp only at hsm2 hsm3
    have HML : Hid (ms.length ≤ 2000) := Lib.hid (by have := total_len ms; omega)
    have HHL : Hid (hs.length ≤ 2000) := Lib.hid (by have := total_len hs; omega)
    have HHX : Hid (∀ x ∈ hs, x.length ≤ 1000000) := Lib.hid fun x hx => by have := total_mem hs x hx; omega
    clear HBT hsm hsm2 hsm3
    by_cases hs2 : 2000 < s.size
    · go_wp2_with fail
      refine (awake_any m w2 ((HM.out.below HB1.out).below HE3.out)).mono ?_
      rintro e w3 ⟨rfl, hb3⟩
      go_wp2_with fail
      go_ret
      exact hR _ _ ⟨rfl, Ext.then HB1.out (Ext.trans HE3.out hb3) (Nat.le_refl _)⟩
    · go_wp2_with fail
      refine (fields_any l v G w2 ((HV.out.below HB1.out).below HE3.out) hl HX.out).mono ?_
      rintro e w3 ⟨rfl, hb3⟩
      have HE4 := Lib.hid (Ext.trans HE3.out hb3)
      clear hb3
      cases hd : decide (fsize l ≤ 6000) with
      | false =>
        clear hd
        go_wp2_with fail
        refine (awake_any m w3 ((HM.out.below HB1.out).below HE4.out)).mono ?_
        rintro e w4 ⟨rfl, hb4⟩
        go_wp2_with fail
        go_ret
        exact hR _ _ ⟨rfl, Ext.then HB1.out (Ext.trans HE4.out hb4) (Nat.le_refl _)⟩
      | true =>
        obtain ⟨h6, h6x⟩ := fsize_mem l (of_decide_eq_true hd)
        have HX6 : Hid (∀ x ∈ l, x.1.length ≤ 1000000 ∧ x.2.length ≤ 1000000) := Lib.hid fun x hx => by have := h6x x hx; omega
        have HL6 : Hid (l.length ≤ 100000) := Lib.hid (by omega)
        have HS : Hid (s.size ≤ 1000000) := Lib.hid (by omega)
        clear hd h6x
        have hlw3 := Nat.lt_of_lt_of_le hl1 HE4.out.size
        obtain ⟨A, hA⟩ : ∃ A, allowsN (toL O) ms hs c (toL s) l cr = A := ⟨_, rfl⟩
        have HA := Lib.hid hA
        clear hA
        have HVW : Hid (∀ wy, Ext w3 wy → MaxLen m wy ∧ View Rp.str wy F ms mv ∧ View Rp.str wy F hs hv ∧ View fld wy G l v) := Lib.hid fun wy hy => by
          have hb := Ext.then HB1.out (Ext.trans HE4.out hy) (Nat.le_refl _)
          exact ⟨HM.out.below hb, H1.out.below hb, H2.out.below hb, HV.out.below hb⟩
        have HC : Hid (∀ wy, Ext w3 wy → wy.cell? ⟨sb, 0, none⟩ = some (.string O) ∧ wy.cell? ⟨sb, 1, none⟩ = some mv ∧ wy.cell? ⟨sb, 2, none⟩ = some hv ∧ wy.cell? ⟨sb, 3, none⟩ = some (.bool c)) := Lib.hid fun wy hy => by
          have he := Ext.trans HE4.out hy
          exact ⟨ext_cell he HD0.out, ext_cell he HD1.out, ext_cell he HD2.out, ext_cell he HD3.out⟩
        go_upto_region 3 with fail
        refine wp_region_any (by kernel_rfl) ?_
        refine region_ext [(fun vv _ => vv = .agg #[.string O, mv, hv, .bool c]), (fun vv _ => vv = .string s), (fun vv _ => vv = v), (fun vv _ => vv = .bool cr), (fun vv _ => vv = .bool A), (fun vv _ => vv = .agg #[.string O, mv, hv, .bool c]), (fun vv _ => vv = .string s), (fun vv _ => vv = v), (fun vv _ => vv = .bool cr), (fun vv _ => vv = .bool A), (fun vv _ => vv = .bool true), (fun vv _ => vv = .bool true), (fun vv _ => vv = .bool true), (fun vv _ => vv = .bool true)]
          [[], [], [], [], [(0, 24), (1, 25), (2, 26), (3, 27)], [], [], [], [], [(5, 29), (6, 30), (7, 31), (8, 32)], [(4, 28), (9, 33)], [(10, 34)], [(11, 35)], [(11, 35), (12, 36)], []]
          [none, none, none, none, none, none, none, none, none, none, none, none, some (35, true), none, none]
          [some 24, some 25, some 26, some 27, some 28, some 29, some 30, some 31, some 32, some 33, some 34, some 35, some 36, some 37] 14 (by kernel_rfl) (by kernel_rfl) (by kernel_rfl) rfl (by kernel_rfl) ?_ ?_ ?_
        · exact ⟨fun _ _ _ _ h => h, fun _ _ _ _ h => h, fun _ _ _ _ h => h, fun _ _ _ _ h => h, fun _ _ _ _ h => h, fun _ _ _ _ h => h, fun _ _ _ _ h => h, fun _ _ _ _ h => h, fun _ _ _ _ h => h, fun _ _ _ _ h => h, fun _ _ _ _ h => h, fun _ _ _ _ h => h, fun _ _ _ _ h => h, fun _ _ _ _ h => h, trivial⟩
        · refine ⟨?_, fun ρ wx _ hx _ => gives_move (hx (.tmp 1) (by simp)), fun ρ wx _ hx _ => gives_move (hx (.tmp 2) (by simp)), fun ρ wx _ hx _ => gives_move (hx (.tmp 3) (by simp)), ?_, ?_, fun ρ wx _ hx _ => gives_move (hx (.tmp 1) (by simp)), fun ρ wx _ hx _ => gives_move (hx (.tmp 2) (by simp)), fun ρ wx _ hx _ => gives_move (hx (.tmp 3) (by simp)), ?_, ?_, fun ρ wx _ _ hd => gives_move hd.1, ?_, ?_, trivial⟩
          · intro ρ wx hE hx hd
            replace hE := Ext.undrew hE
            have e4 : ρ (.tmp 4) = .pointer (some ⟨sb, 0, none⟩) := hx (.tmp 4) (by simp)
            obtain ⟨k0, k1, k2, k3⟩ := HC.out wx hE; exact gives_val (G := fun vv _ => vv = .agg #[.string O, mv, hv, .bool c]) (v := .agg #[.string O, mv, hv, .bool c]) (by simp [execOp, e4, k0, k1, k2, k3, go_sem]) rfl
          · intro ρ wx hE hx hd
            replace hE := Ext.undrew hE
            have e24 : ρ (.tmp 24) = .agg #[.string O, mv, hv, .bool c] := hd.1
            have e25 : ρ (.tmp 25) = .string s := hd.2.1
            have e26 : ρ (.tmp 26) = v := hd.2.2.1
            have e27 : ρ (.tmp 27) = .bool cr := hd.2.2.2.1
            have hf : ∀ f, ρ (.func f) = .func (.func f) #[] #[] := fun f => (hx (.func f) (by simp)).trans rfl
            refine gives_call (G := fun vv _ => vv = .bool A) (by simp [execOp, e24, e25, e26, e27, hf, go_sem] <;> first | exact ⟨rfl, rfl⟩ | exact rfl) ?_
            exact call_below (HA.out ▸ allows_any O ms hs mv hv c F s l v G cr m wx (HVW.out wx hE).1 (HVW.out wx hE).2.1 (HVW.out wx hE).2.2.1 (HVW.out wx hE).2.2.2 HS.out HL6.out HX6.out (by have := HML.out; omega) (by have := HHL.out; omega) HHX.out)
          · intro ρ wx hE hx hd
            replace hE := Ext.undrew hE
            have e4 : ρ (.tmp 4) = .pointer (some ⟨sb, 0, none⟩) := hx (.tmp 4) (by simp)
            obtain ⟨k0, k1, k2, k3⟩ := HC.out wx hE; exact gives_val (G := fun vv _ => vv = .agg #[.string O, mv, hv, .bool c]) (v := .agg #[.string O, mv, hv, .bool c]) (by simp [execOp, e4, k0, k1, k2, k3, go_sem]) rfl
          · intro ρ wx hE hx hd
            replace hE := Ext.undrew hE
            have e29 : ρ (.tmp 29) = .agg #[.string O, mv, hv, .bool c] := hd.1
            have e30 : ρ (.tmp 30) = .string s := hd.2.1
            have e31 : ρ (.tmp 31) = v := hd.2.2.1
            have e32 : ρ (.tmp 32) = .bool cr := hd.2.2.2.1
            have hf : ∀ f, ρ (.func f) = .func (.func f) #[] #[] := fun f => (hx (.func f) (by simp)).trans rfl
            refine gives_call (G := fun vv _ => vv = .bool A) (by simp [execOp, e29, e30, e31, e32, hf, go_sem] <;> first | exact ⟨rfl, rfl⟩ | exact rfl) ?_
            exact call_below (HA.out ▸ leave_any O ms hs mv hv c F s l v G cr m wx (HVW.out wx hE).1 (HVW.out wx hE).2.1 (HVW.out wx hE).2.2.1 (HVW.out wx hE).2.2.2 HS.out HL6.out HX6.out (by have := HML.out; omega) (by have := HHL.out; omega) HHX.out)
          · intro ρ wx hE hx hd
            replace hE := Ext.undrew hE
            have e28 : ρ (.tmp 28) = .bool A := hd.1
            have e33 : ρ (.tmp 33) = .bool A := hd.2.1
            exact gives_val (G := fun vv _ => vv = .bool true) (v := .bool true) (by simp [execOp, e28, e33, go_sem]) rfl
          · intro ρ wx hE hx hd
            replace hE := Ext.undrew hE
            have e35 : ρ (.tmp 35) = .bool true := hd.1
            have hf : ∀ f, ρ (.func f) = .func (.func f) #[] #[] := fun f => (hx (.func f) (by simp)).trans rfl
            refine .inl ⟨e35, ?_⟩
            refine gives_call (G := fun vv _ => vv = .bool true) (by simp [execOp, e35, hf, go_sem] <;> first | exact ⟨rfl, rfl⟩ | exact rfl) ?_
            exact call_below (awake_any m wx (HVW.out wx hE).1)
          · intro ρ wx hE hx hd
            replace hE := Ext.undrew hE
            have e35 : ρ (.tmp 35) = .bool true := hd.1
            have e36 : ρ (.tmp 36) = .bool true := hd.2.1
            have hk : ∀ v, ρ (.const v) = v := fun v => (hx (.const v) (by simp)).trans rfl
            exact gives_val (G := fun vv _ => vv = .bool true) (v := .bool true) (by simp [execOp, e35, e36, hk, go_sem]) rfl
        intro wx hE
        refine fun v24 (e24 : v24 = .agg #[.string O, mv, hv, .bool c]) => ?_
        refine fun v25 (e25 : v25 = .string s) => ?_
        refine fun v26 (e26 : v26 = v) => ?_
        refine fun v27 (e27 : v27 = .bool cr) => ?_
        refine fun v28 (e28 : v28 = .bool A) => ?_
        refine fun v29 (e29 : v29 = .agg #[.string O, mv, hv, .bool c]) => ?_
        refine fun v30 (e30 : v30 = .string s) => ?_
        refine fun v31 (e31 : v31 = v) => ?_
        refine fun v32 (e32 : v32 = .bool cr) => ?_
        refine fun v33 (e33 : v33 = .bool A) => ?_
        refine fun v34 (e34 : v34 = .bool true) => ?_
        refine fun v35 (e35 : v35 = .bool true) => ?_
        refine fun v36 (e36 : v36 = .bool true) => ?_
        refine fun v37 (e37 : v37 = .bool true) => ?_
        subst e24 e25 e26 e27 e28 e29 e30 e31 e32 e33 e34 e35 e36 e37
        refine rest_nil ?_
        simp only [List.drop_succ_cons, List.drop_zero, Act.put, List.setIfInBounds_toArray, List.set_cons_zero, List.set_cons_succ]
        go_wp2_with fail
        go_ret
        exact hR _ _ ⟨rfl, Ext.then HB1.out (Ext.trans HE4.out hE) (Nat.le_refl _)⟩
theorem allows_row {w : World} (x : Sh) (cs : Array Value) (hb : x.1.length ≤ 140737488351232 ∧ (x.2.1.length * Tryd.prog.bytesOf 9 ≤ 140737488351232 ∧ ∀ y ∈ x.2.1, y.length ≤ 140737488351232) ∧ (x.2.2.1.length * Tryd.prog.bytesOf 9 ≤ 140737488351232 ∧ ∀ y ∈ x.2.2.1, y.length ≤ 140737488351232) ∧ True) (hr : shr.rep w (fun _ => True) x cs.toList) (s : ByteArray) (hs : s.size ≤ 140737488351232)
    (l : List Fd) (v : Value) (F : Nat → Prop) (hlb : l.length * Tryd.prog.bytesOf 34 ≤ 140737488351232 ∧ ∀ x ∈ l, x.1.length ≤ 140737488351232 ∧ x.2.length ≤ 140737488351232) (hv : View fld w F l v) (cr : Bool) (m : Int) (hm : MaxLen m w) :
    Calls Tryd.prog 3 #[.agg cs, .string s, v, .bool cr] w fun e w' => e = .returned (.bool true) ∧ Below w.heap.size w w' := by
  rw [show Tryd.prog.bytesOf 9 = 16 by kernel_rfl] at hb
  rw [show Tryd.prog.bytesOf 34 = 32 by kernel_rfl] at hlb
  obtain ⟨mv, hv', e, h1, h2⟩ := share_rep hr
  obtain ⟨O, ms, hs', c⟩ := x
  have ec : cs = #[.string (ofL O), mv, hv', .bool c] := by apply Array.ext'; exact e
  rw [ec]
  have := allows_walk (ofL O) ms hs' mv hv' c (fun _ => True) s l v F cr m w hm h1 h2 hv (by rw [toL_ofL]; exact ⟨hb.1, ⟨by have := hb.2.1.1; simp only at this ⊢; omega, hb.2.1.2⟩, ⟨by have := hb.2.2.1.1; simp only at this ⊢; omega, hb.2.2.1.2⟩⟩) hs (by omega) hlb.2
  exact this

set_option maxRecDepth 20000 in
set_option maxHeartbeats 8000000 in
theorem plain_walk (O : ByteArray) (ms hs : List Tx) (mv hv : Value) (c : Bool) (F : Nat → Prop) (s : ByteArray) (l : List Fd) (v : Value) (G : Nat → Prop) (cr : Bool) (m : Int) (w : World) (hm : MaxLen m w)
    (h1 : View Rp.str w F ms mv) (h2 : View Rp.str w F hs hv) (hlv : View fld w G l v) (hok : shOk (toL O, ms, hs, c)) (hsz : s.size ≤ 140737488351232) (hl : l.length ≤ 140737488351232) (hx : ∀ x ∈ l, x.1.length ≤ 140737488351232 ∧ x.2.length ≤ 140737488351232) :
    Calls Tryd.prog 4 #[.agg #[.string O, mv, hv, .bool c], .string s, v, .bool cr] w fun e w' => e = .returned (.bool true) ∧ Below w.heap.size w w' := by
  refine calls_gen fun R hR => ?_
  have HM := Lib.hid hm; have H1 := Lib.hid h1; have H2 := Lib.hid h2; have HV := Lib.hid hlv; have HX := Lib.hid hx; have HOK := Lib.hid hok
  clear hm h1 h2 hlv hx hok
  go_enter Tryd.func4, Tryd.ntmps4
  have g1 := blk_new w (.cells #[.string O, mv, hv, .bool c] 24)
  have hb1 := below_new w (.cells #[.string O, mv, hv, .bool c] 24)
  obtain ⟨w1, hw1⟩ : ∃ w1, w.alloc (.cells #[.string O, mv, hv, .bool c] 24) = w1 := ⟨_, rfl⟩
  have d0 := blk_cell g1 0
  have d1 := blk_cell g1 1
  have d2 := blk_cell g1 2
  have d3 := blk_cell g1 3
  rw [hw1] at g1 hb1 d0 d1 d2 d3
  simp at d0 d1 d2 d3
  have hl1 := blk_lt g1
  have HB1 := Lib.hid hb1
  obtain ⟨sb, hsb⟩ : ∃ sb, w.heap.size = sb := ⟨_, rfl⟩
  rw [hsb] at d0 d1 d2 d3 hl1
  have HD0 := Lib.hid d0; have HD1 := Lib.hid d1; have HD2 := Lib.hid d2; have HD3 := Lib.hid d3
  have HSB := Lib.hid hsb; have HW1 := Lib.hid hw1
  have hws1 : w1.heap.size = sb + 1 := by rw [← hw1, ← hsb]; simp
  -- the one share, as a row
  have HLS : Hid (View shr (w1.alloc (.cells #[.string O, mv, hv, .bool c] 24)) (fun _ => True) [(toL O, ms, hs, c)] (.slice (some ⟨w1.heap.size, 0, none⟩) 1 1)) := Lib.hid (by
    have hr := rep_share O ms hs mv hv c (H1.out.below HB1.out) (H2.out.below HB1.out)
    exact ((Own.lit (d := shr) (e := 24) w1 (xs := [(toL O, ms, hs, c)]) (Elems.one hr) rfl (by simp [maxLen])).view).mono fun _ _ => trivial)
  clear hsb hw1 g1 hb1 d0 d1 d2 d3
  rw [hws1] at HLS
  have HBN := Lib.hid (below_new w1 (.cells #[.string O, mv, hv, .bool c] 24))
  clear hws1
  go_wp2_with fail
  rw [HW1.out, HSB.out]
  have HE2 : Hid (Ext w1 (w1.alloc (.cells #[.string O, mv, hv, .bool c] 24))) := Lib.hid HBN.out
  refine (small_any [(toL O, ms, hs, c)] _ _ _ HLS.out (by simp) (fun x hx => by simp at hx; subst hx; exact HOK.out)).mono ?_
  rintro e w2 ⟨b, rfl, hbt, hb2⟩
  have HE3 := Lib.hid (Ext.trans HE2.out hb2)
  have HBT := Lib.hid hbt
  clear HE2 HBN HLS hb2 hbt
  cases b with
  | false =>
    go_wp2_with fail
    refine (awake_any m w2 ((HM.out.below HB1.out).below HE3.out)).mono ?_
    rintro e w3 ⟨rfl, hb3⟩
    go_wp2_with fail
    go_ret
    exact hR _ _ ⟨rfl, Ext.then HB1.out (Ext.trans HE3.out hb3) (Nat.le_refl _)⟩
  | true =>
    obtain ⟨_, hsm⟩ := HBT.out rfl
    obtain ⟨_, hsm2, hsm3⟩ := hsm _ (List.mem_singleton.2 rfl)
    simp only at hsm2 hsm3
    have HML : Hid (ms.length ≤ 2000) := Lib.hid (by have := total_len ms; omega)
    have HHL : Hid (hs.length ≤ 2000) := Lib.hid (by have := total_len hs; omega)
    have HHX : Hid (∀ x ∈ hs, x.length ≤ 1000000) := Lib.hid fun x hx => by have := total_mem hs x hx; omega
    clear HBT hsm hsm2 hsm3
    by_cases hs2 : 2000 < s.size
    · go_wp2_with fail
      refine (awake_any m w2 ((HM.out.below HB1.out).below HE3.out)).mono ?_
      rintro e w3 ⟨rfl, hb3⟩
      go_wp2_with fail
      go_ret
      exact hR _ _ ⟨rfl, Ext.then HB1.out (Ext.trans HE3.out hb3) (Nat.le_refl _)⟩
    · go_wp2_with fail
      refine (fields_any l v G w2 ((HV.out.below HB1.out).below HE3.out) hl HX.out).mono ?_
      rintro e w3 ⟨rfl, hb3⟩
      have HE4 := Lib.hid (Ext.trans HE3.out hb3)
      clear hb3
      cases hd : decide (fsize l ≤ 6000) with
      | false =>
        clear hd
        go_wp2_with fail
        refine (awake_any m w3 ((HM.out.below HB1.out).below HE4.out)).mono ?_
        rintro e w4 ⟨rfl, hb4⟩
        go_wp2_with fail
        go_ret
        exact hR _ _ ⟨rfl, Ext.then HB1.out (Ext.trans HE4.out hb4) (Nat.le_refl _)⟩
      | true =>
        obtain ⟨h6, h6x⟩ := fsize_mem l (of_decide_eq_true hd)
        have HX6 : Hid (∀ x ∈ l, x.1.length ≤ 1000000 ∧ x.2.length ≤ 1000000) := Lib.hid fun x hx => by have := h6x x hx; omega
        have HL6 : Hid (l.length ≤ 100000) := Lib.hid (by omega)
        have HS : Hid (s.size ≤ 1000000) := Lib.hid (by omega)
        clear hd h6x
        have hlw3 := Nat.lt_of_lt_of_le hl1 HE4.out.size
        go_wp2_with fail
        refine (pre_any s l v G m w3 ((HM.out.below HB1.out).below HE4.out) ((HV.out.below HB1.out).below HE4.out) HS.out HL6.out HX6.out).mono ?_
        rintro e w4 ⟨rfl, hb4⟩
        have HE5 := Lib.hid (Ext.trans HE4.out hb4)
        clear hb4
        cases hp : preN (toL s) l with
        | true =>
          clear hp
          go_wp2_with fail
          refine (awake_any m w4 ((HM.out.below HB1.out).below HE5.out)).mono ?_
          rintro e w5 ⟨rfl, hb5⟩
          go_wp2_with fail
          go_ret
          exact hR _ _ ⟨rfl, Ext.then HB1.out (Ext.trans HE5.out hb5) (Nat.le_refl _)⟩
        | false =>
          have HP := Lib.hid hp
          clear hp
          have k0 := ext_cell HE5.out HD0.out
          have k1 := ext_cell HE5.out HD1.out
          have k2 := ext_cell HE5.out HD2.out
          have k3 := ext_cell HE5.out HD3.out
          have hlw4 := Nat.lt_of_lt_of_le hl1 HE5.out.size
          go_wp2_with fail
          have HB5 := Lib.hid (Ext.then HB1.out HE5.out (Nat.le_refl _))
          refine (allows_any O ms hs mv hv c F s l v G cr m w4 (HM.out.below HB5.out) (H1.out.below HB5.out) (H2.out.below HB5.out) (HV.out.below HB5.out) HS.out HL6.out HX6.out (by have := HML.out; omega) (by have := HHL.out; omega) HHX.out).mono ?_
          rintro e w5 ⟨rfl, hb5⟩
          rw [allows_plain _ _ _ _ _ _ _ HP.out]
          have HE6 := Lib.hid (Ext.trans HE5.out hb5)
          clear k0 k1 k2 k3 hlw4 hb5
          have k0 := ext_cell HE6.out HD0.out
          have k3 := ext_cell HE6.out HD3.out
          have hlw5 := Nat.lt_of_lt_of_le hl1 HE6.out.size
          have e0 : (O.toList == [42]) = (toL O == starT) := by rw [toList_toL]; rfl
          obtain ⟨os, hos⟩ : ∃ os, (toL O == starT) = os := ⟨_, rfl⟩
          rw [hos] at e0 ⊢
          clear hos
          cases cr <;> cases c <;> cases os
          all_goals
            go_wp2_with fail
            refine (awake_any m w5 ((HM.out.below HB1.out).below HE6.out)).mono ?_
            rintro e w6 ⟨rfl, hb6⟩
            go_wp2_with fail
            go_ret
            exact hR _ _ ⟨rfl, Ext.then HB1.out (Ext.trans HE6.out hb6) (Nat.le_refl _)⟩
theorem plain_row {w : World} (x : Sh) (cs : Array Value) (hb : x.1.length ≤ 140737488351232 ∧ (x.2.1.length * Tryd.prog.bytesOf 9 ≤ 140737488351232 ∧ ∀ y ∈ x.2.1, y.length ≤ 140737488351232) ∧ (x.2.2.1.length * Tryd.prog.bytesOf 9 ≤ 140737488351232 ∧ ∀ y ∈ x.2.2.1, y.length ≤ 140737488351232) ∧ True) (hr : shr.rep w (fun _ => True) x cs.toList) (s : ByteArray) (hs : s.size ≤ 140737488351232)
    (l : List Fd) (v : Value) (F : Nat → Prop) (hlb : l.length * Tryd.prog.bytesOf 34 ≤ 140737488351232 ∧ ∀ x ∈ l, x.1.length ≤ 140737488351232 ∧ x.2.length ≤ 140737488351232) (hv : View fld w F l v) (cr : Bool) (m : Int) (hm : MaxLen m w) :
    Calls Tryd.prog 4 #[.agg cs, .string s, v, .bool cr] w fun e w' => e = .returned (.bool true) ∧ Below w.heap.size w w' := by
  rw [show Tryd.prog.bytesOf 9 = 16 by kernel_rfl] at hb
  rw [show Tryd.prog.bytesOf 34 = 32 by kernel_rfl] at hlb
  obtain ⟨mv, hv', e, h1, h2⟩ := share_rep hr
  obtain ⟨O, ms, hs', c⟩ := x
  have ec : cs = #[.string (ofL O), mv, hv', .bool c] := by apply Array.ext'; exact e
  rw [ec]
  have := plain_walk (ofL O) ms hs' mv hv' c (fun _ => True) s l v F cr m w hm h1 h2 hv (by rw [toL_ofL]; exact ⟨hb.1, ⟨by have := hb.2.1.1; simp only at this ⊢; omega, hb.2.1.2⟩, ⟨by have := hb.2.2.1.1; simp only at this ⊢; omega, hb.2.2.1.2⟩⟩) hs (by omega) hlb.2
  exact this
end Go.Proofs.YtalbadmefpdldaaDoor.Asc
