/-
  Contracts: whether a word allows a request, of the document.
  Lengths within the rows' own reach; the library's MaxLen is a number.
-/
import Derived.Test.YtalbadmefpdldaaDoorCorB
namespace Go.Proofs.YtalbadmefpdldaaDoor.Asc
open Go Go.RowKit Go.Proofs.YtalbadmefpdldaaDoor.Pb

set_option maxRecDepth 20000 in
set_option maxHeartbeats 8000000 in
theorem leave_any (O : ByteArray) (ms hs : List Tx) (mv hv : Value) (c : Bool) (F : Nat → Prop) (s : ByteArray) (l : List Fd) (v : Value) (G : Nat → Prop) (cr : Bool) (m : Int) (w : World) (hm : MaxLen m w)
    (h1 : View Rp.str w F ms mv) (h2 : View Rp.str w F hs hv) (hlv : View fld w G l v) (hsz : s.size ≤ 1000000) (hl : l.length ≤ 100000) (hx : ∀ x ∈ l, x.1.length ≤ 1000000 ∧ x.2.length ≤ 1000000)
    (hml : ms.length ≤ 1000000) (hhl : hs.length ≤ 1000000) (hhx : ∀ x ∈ hs, x.length ≤ 1000000) :
    Calls Tryd.prog 14 #[.agg #[.string O, mv, hv, .bool c], .string s, v, .bool cr] w fun e w' => e = .returned (.bool (allowsN (toL O) ms hs c (toL s) l cr)) ∧ Below w.heap.size w w' := by
  refine calls_gen fun R hR => ?_
  have HM := Lib.hid hm; have H1 := Lib.hid h1; have H2 := Lib.hid h2; have HV := Lib.hid hlv; have HX := Lib.hid hx; have HHX := Lib.hid hhx; have HSZ := Lib.hid hsz
  clear hm h1 h2 hlv hx hhx
  go_enter Tryd.func14, Tryd.ntmps14
  have g1 := blk_new w (.cells #[.string O, mv, hv, .bool c] 24)
  have hb1 := below_new w (.cells #[.string O, mv, hv, .bool c] 24)
  obtain ⟨w1, hw1⟩ : ∃ w1, w.alloc (.cells #[.string O, mv, hv, .bool c] 24) = w1 := ⟨_, rfl⟩
  have d0 := blk_cell g1 0
  have d1 := blk_cell g1 1
  have d2 := blk_cell g1 2
  have d3 := blk_cell g1 3
  rw [hw1] at g1 hb1 d0 d1 d2 d3
  simp at d0 d1 d2 d3
  have hl1 := blk_lt g1
  have HB1 := Lib.hid hb1
  obtain ⟨sb, hsb⟩ : ∃ sb, w.heap.size = sb := ⟨_, rfl⟩
  rw [hsb] at d0 d1 d2 d3 hl1
  have HSB := Lib.hid hsb; have HW1 := Lib.hid hw1
  have HD2 := Lib.hid d2
  clear hsb hw1 g1 hb1
  obtain ⟨T1, hT1⟩ : ∃ T1, (cr && (!c || toL O == starT)) = T1 := ⟨_, rfl⟩
  have HT1 := Lib.hid hT1
  clear hT1
  go_upto_region 1 with fail
  rw [HW1.out, HSB.out]
  go_cut [21] (fun v wc => v = .bool T1 ∧ wc = w1)
  case first =>
    have e0 : (O.toList == [42]) = (toL O == starT) := by rw [toList_toL]; rfl
    obtain ⟨os, hos⟩ : ∃ os, (toL O == starT) = os := ⟨_, rfl⟩
    rw [hos] at e0
    have HT2 : Hid ((cr && (!c || os)) = T1) := Lib.hid (by rw [← hos]; exact HT1.out)
    clear hos
    cases cr <;> cases c <;> cases os
    all_goals
      go_wp2_with fail
      go_meet
      exact ⟨congrArg Value.bool HT2.out, rfl⟩
  case rest =>
    obtain ⟨rfl, hwc⟩ := hcut
    rw [hwc]
    clear hwc wc
    cases hT : T1 with
    | true =>
      go_wp2_with fail
      go_ret
      refine hR _ _ ⟨ret_bool ?_, HB1.out⟩
      unfold allowsN
      rw [HT1.out, hT]; rfl
    | false =>
      go_upto_region 3 with fail
      go_cut [41] (fun v wc => v = .bool (!methOk ms (toL s) cr) ∧ Ext w1 wc)
      case first =>
        cases hS : simpleM (toL s) with
        | true =>
          refine wp_region_any (by kernel_rfl) ?_
          refine region_ext [(fun vv _ => vv = .string s), (fun vv _ => vv = .bool true), (fun vv _ => vv = .bool false), (fun vv _ => vv = .bool false), (fun vv _ => vv = undef), (fun vv _ => vv = undef), (fun vv _ => vv = undef), (fun vv _ => vv = undef), (fun vv _ => vv = undef), (fun vv _ => vv = undef), (fun vv _ => vv = .bool false), (fun vv _ => vv = .bool false), (fun vv _ => vv = undef), (fun vv _ => vv = undef), (fun vv _ => vv = undef), (fun vv _ => vv = undef), (fun vv _ => vv = undef), (fun vv _ => vv = undef), (fun vv _ => vv = undef), (fun vv _ => vv = .bool false)]
            [[], [(0, 22)], [(1, 23)], [(2, 24)], [(3, 25)], [(3, 25), (4, 26)], [(3, 25)], [(3, 25), (6, 28)], [(3, 25), (5, 27), (7, 29)], [(3, 25), (8, 30)], [(3, 25), (9, 31)], [(10, 32)], [(11, 33)], [(11, 33), (12, 34)], [(13, 35)], [(13, 35), (14, 36)], [(13, 35), (15, 37)], [(13, 35), (16, 38)], [(11, 33), (13, 35), (17, 39)], [(11, 33), (18, 40)]]
            [none, none, none, none, some (25, true), some (25, true), some (25, true), some (25, true), some (25, true), some (25, true), none, none, some (33, true), some (33, true), some (35, false), some (35, false), some (35, false), some (35, false), some (33, true), none]
            [some 22, some 23, some 24, some 25, some 26, some 27, some 28, some 29, some 30, some 31, some 32, some 33, some 34, some 35, some 36, some 37, some 38, some 39, some 40, some 41] 20 (by kernel_rfl) (by kernel_rfl) (by kernel_rfl) rfl (by kernel_rfl) ?_ ?_ ?_
          · exact ⟨fun _ _ _ _ h => h, fun _ _ _ _ h => h, fun _ _ _ _ h => h, fun _ _ _ _ h => h, fun _ _ _ _ h => h, fun _ _ _ _ h => h, fun _ _ _ _ h => h, fun _ _ _ _ h => h, fun _ _ _ _ h => h, fun _ _ _ _ h => h, fun _ _ _ _ h => h, fun _ _ _ _ h => h, fun _ _ _ _ h => h, fun _ _ _ _ h => h, fun _ _ _ _ h => h, fun _ _ _ _ h => h, fun _ _ _ _ h => h, fun _ _ _ _ h => h, fun _ _ _ _ h => h, fun _ _ _ _ h => h, trivial⟩
          · refine ⟨fun ρ wx _ hx _ => gives_move (hx (.tmp 1) (by simp)), ?_, ?_, fun ρ wx _ _ hd => gives_move hd.1, fun ρ wx _ _ hd => .inr ⟨off_f hd.1, rfl⟩, fun ρ wx _ _ hd => .inr ⟨off_f hd.1, rfl⟩, fun ρ wx _ _ hd => .inr ⟨off_f hd.1, rfl⟩, fun ρ wx _ _ hd => .inr ⟨off_f hd.1, rfl⟩, fun ρ wx _ _ hd => .inr ⟨off_f hd.1, rfl⟩, fun ρ wx _ _ hd => .inr ⟨off_f hd.1, rfl⟩, ?_, fun ρ wx _ _ hd => gives_move hd.1, fun ρ wx _ _ hd => .inr ⟨off_f hd.1, rfl⟩, fun ρ wx _ _ hd => .inr ⟨off_f hd.1, rfl⟩, fun ρ wx _ _ hd => .inr ⟨off_u hd.1, rfl⟩, fun ρ wx _ _ hd => .inr ⟨off_u hd.1, rfl⟩, fun ρ wx _ _ hd => .inr ⟨off_u hd.1, rfl⟩, fun ρ wx _ _ hd => .inr ⟨off_u hd.1, rfl⟩, fun ρ wx _ _ hd => .inr ⟨off_f hd.1, rfl⟩, ?_, trivial⟩
            · intro ρ wx hE hx hd
              replace hE := Ext.undrew hE
              have e22 : ρ (.tmp 22) = .string s := hd.1
              have hf : ∀ f, ρ (.func f) = .func (.func f) #[] #[] := fun f => (hx (.func f) (by simp)).trans rfl
              refine gives_call (G := fun vv _ => vv = .bool true) (by simp [execOp, e22, hf, go_sem] <;> first | exact ⟨rfl, rfl⟩ | exact rfl) ?_
              exact call_below (hS ▸ rsimpleM_any s wx HSZ.out)
            · intro ρ wx hE hx hd
              replace hE := Ext.undrew hE
              have e23 : ρ (.tmp 23) = .bool true := hd.1
              exact gives_val (G := fun vv _ => vv = .bool false) (v := .bool false) (by simp [execOp, e23, go_sem]) rfl
            · intro ρ wx hE hx hd
              replace hE := Ext.undrew hE
              have e25 : ρ (.tmp 25) = .bool false := hd.1
              have e31 : ρ (.tmp 31) = undef := hd.2.1
              have hk : ∀ v, ρ (.const v) = v := fun v => (hx (.const v) (by simp)).trans rfl
              exact gives_val (G := fun vv _ => vv = .bool false) (v := .bool false) (by simp [execOp, e25, e31, hk, go_sem]) rfl
            · intro ρ wx hE hx hd
              replace hE := Ext.undrew hE
              have e33 : ρ (.tmp 33) = .bool false := hd.1
              have e40 : ρ (.tmp 40) = undef := hd.2.1
              have hk : ∀ v, ρ (.const v) = v := fun v => (hx (.const v) (by simp)).trans rfl
              exact gives_val (G := fun vv _ => vv = .bool false) (v := .bool false) (by simp [execOp, e33, e40, hk, go_sem]) rfl
          intro wx hE
          refine fun v22 (e22 : v22 = .string s) => ?_
          refine fun v23 (e23 : v23 = .bool true) => ?_
          refine fun v24 (e24 : v24 = .bool false) => ?_
          refine fun v25 (e25 : v25 = .bool false) => ?_
          refine fun v26 (e26 : v26 = undef) => ?_
          refine fun v27 (e27 : v27 = undef) => ?_
          refine fun v28 (e28 : v28 = undef) => ?_
          refine fun v29 (e29 : v29 = undef) => ?_
          refine fun v30 (e30 : v30 = undef) => ?_
          refine fun v31 (e31 : v31 = undef) => ?_
          refine fun v32 (e32 : v32 = .bool false) => ?_
          refine fun v33 (e33 : v33 = .bool false) => ?_
          refine fun v34 (e34 : v34 = undef) => ?_
          refine fun v35 (e35 : v35 = undef) => ?_
          refine fun v36 (e36 : v36 = undef) => ?_
          refine fun v37 (e37 : v37 = undef) => ?_
          refine fun v38 (e38 : v38 = undef) => ?_
          refine fun v39 (e39 : v39 = undef) => ?_
          refine fun v40 (e40 : v40 = undef) => ?_
          refine fun v41 (e41 : v41 = .bool false) => ?_
          subst e22 e23 e24 e25 e26 e27 e28 e29 e30 e31 e32 e33 e34 e35 e36 e37 e38 e39 e40 e41
          refine rest_nil ?_
          refine wpList_nil ?_
          simp only [Exit.then, Act.put, List.setIfInBounds_toArray, List.set_cons_zero, List.set_cons_succ]
          refine to_met (by assumption) ?_
          go_meet
          exact ⟨congrArg Value.bool (by rw [methOk_t _ _ _ hS]; rfl), hE⟩
        | false =>
          cases hA : decide (methodN (toL s) ∈ ms) with
          | true =>
            refine wp_region_any (by kernel_rfl) ?_
            refine region_ext [(fun vv _ => vv = .string s), (fun vv _ => vv = .bool false), (fun vv _ => vv = .bool true), (fun vv _ => vv = .bool true), (fun vv _ => vv = .string s), (fun vv _ => vv = .string (ofL (methodN (toL s)))), (fun vv _ => vv = .pointer (some ⟨sb, 1, none⟩)), (fun vv _ => vv = mv), (fun vv _ => vv = .bool true), (fun vv _ => vv = .bool false), (fun vv _ => vv = .bool false), (fun vv _ => vv = .bool false), (fun vv _ => vv = undef), (fun vv _ => vv = undef), (fun vv _ => vv = undef), (fun vv _ => vv = undef), (fun vv _ => vv = undef), (fun vv _ => vv = undef), (fun vv _ => vv = undef), (fun vv _ => vv = .bool false)]
              [[], [(0, 22)], [(1, 23)], [(2, 24)], [(3, 25)], [(3, 25), (4, 26)], [(3, 25)], [(3, 25), (6, 28)], [(3, 25), (5, 27), (7, 29)], [(3, 25), (8, 30)], [(3, 25), (9, 31)], [(10, 32)], [(11, 33)], [(11, 33), (12, 34)], [(13, 35)], [(13, 35), (14, 36)], [(13, 35), (15, 37)], [(13, 35), (16, 38)], [(11, 33), (13, 35), (17, 39)], [(11, 33), (18, 40)]]
              [none, none, none, none, some (25, true), some (25, true), some (25, true), some (25, true), some (25, true), some (25, true), none, none, some (33, true), some (33, true), some (35, false), some (35, false), some (35, false), some (35, false), some (33, true), none]
              [some 22, some 23, some 24, some 25, some 26, some 27, some 28, some 29, some 30, some 31, some 32, some 33, some 34, some 35, some 36, some 37, some 38, some 39, some 40, some 41] 20 (by kernel_rfl) (by kernel_rfl) (by kernel_rfl) rfl (by kernel_rfl) ?_ ?_ ?_
            · exact ⟨fun _ _ _ _ h => h, fun _ _ _ _ h => h, fun _ _ _ _ h => h, fun _ _ _ _ h => h, fun _ _ _ _ h => h, fun _ _ _ _ h => h, fun _ _ _ _ h => h, fun _ _ _ _ h => h, fun _ _ _ _ h => h, fun _ _ _ _ h => h, fun _ _ _ _ h => h, fun _ _ _ _ h => h, fun _ _ _ _ h => h, fun _ _ _ _ h => h, fun _ _ _ _ h => h, fun _ _ _ _ h => h, fun _ _ _ _ h => h, fun _ _ _ _ h => h, fun _ _ _ _ h => h, fun _ _ _ _ h => h, trivial⟩
            · refine ⟨fun ρ wx _ hx _ => gives_move (hx (.tmp 1) (by simp)), ?_, ?_, fun ρ wx _ _ hd => gives_move hd.1, ?_, ?_, ?_, ?_, ?_, ?_, ?_, fun ρ wx _ _ hd => gives_move hd.1, fun ρ wx _ _ hd => .inr ⟨off_f hd.1, rfl⟩, fun ρ wx _ _ hd => .inr ⟨off_f hd.1, rfl⟩, fun ρ wx _ _ hd => .inr ⟨off_u hd.1, rfl⟩, fun ρ wx _ _ hd => .inr ⟨off_u hd.1, rfl⟩, fun ρ wx _ _ hd => .inr ⟨off_u hd.1, rfl⟩, fun ρ wx _ _ hd => .inr ⟨off_u hd.1, rfl⟩, fun ρ wx _ _ hd => .inr ⟨off_f hd.1, rfl⟩, ?_, trivial⟩
              · intro ρ wx hE hx hd
                replace hE := Ext.undrew hE
                have e22 : ρ (.tmp 22) = .string s := hd.1
                have hf : ∀ f, ρ (.func f) = .func (.func f) #[] #[] := fun f => (hx (.func f) (by simp)).trans rfl
                refine gives_call (G := fun vv _ => vv = .bool false) (by simp [execOp, e22, hf, go_sem] <;> first | exact ⟨rfl, rfl⟩ | exact rfl) ?_
                exact call_below (hS ▸ rsimpleM_any s wx HSZ.out)
              · intro ρ wx hE hx hd
                replace hE := Ext.undrew hE
                have e23 : ρ (.tmp 23) = .bool false := hd.1
                exact gives_val (G := fun vv _ => vv = .bool true) (v := .bool true) (by simp [execOp, e23, go_sem]) rfl
              · intro ρ wx hE hx hd
                replace hE := Ext.undrew hE
                have e25 : ρ (.tmp 25) = .bool true := hd.1
                have e1 : ρ (.tmp 1) = .string s := hx (.tmp 1) (by simp)
                refine .inl ⟨e25, ?_⟩
                exact gives_val (G := fun vv _ => vv = .string s) (v := .string s) (by simp [execOp, e25, e1, go_sem]) rfl
              · intro ρ wx hE hx hd
                replace hE := Ext.undrew hE
                have e25 : ρ (.tmp 25) = .bool true := hd.1
                have e26 : ρ (.tmp 26) = .string s := hd.2.1
                have hf : ∀ f, ρ (.func f) = .func (.func f) #[] #[] := fun f => (hx (.func f) (by simp)).trans rfl
                refine .inl ⟨e25, ?_⟩
                refine gives_call (G := fun vv _ => vv = .string (ofL (methodN (toL s)))) (by simp [execOp, e25, e26, hf, go_sem] <;> first | exact ⟨rfl, rfl⟩ | exact rfl) ?_
                exact call_below (rmethod_any s wx HSZ.out)
              · intro ρ wx hE hx hd
                replace hE := Ext.undrew hE
                have e25 : ρ (.tmp 25) = .bool true := hd.1
                have e4 : ρ (.tmp 4) = .pointer (some ⟨sb, 0, none⟩) := hx (.tmp 4) (by simp)
                refine .inl ⟨e25, ?_⟩
                exact gives_val (G := fun vv _ => vv = .pointer (some ⟨sb, 1, none⟩)) (v := .pointer (some ⟨sb, 1, none⟩)) (by simp [execOp, e25, e4, go_sem]) rfl
              · intro ρ wx hE hx hd
                replace hE := Ext.undrew hE
                have e25 : ρ (.tmp 25) = .bool true := hd.1
                have e28 : ρ (.tmp 28) = .pointer (some ⟨sb, 1, none⟩) := hd.2.1
                refine .inl ⟨e25, ?_⟩
                have hcl := ext_cell hE d1
                exact gives_val (G := fun vv _ => vv = mv) (v := mv) (by simp [execOp, e25, e28, hcl, go_sem]) rfl
              · intro ρ wx hE hx hd
                replace hE := Ext.undrew hE
                have e25 : ρ (.tmp 25) = .bool true := hd.1
                have e27 : ρ (.tmp 27) = .string (ofL (methodN (toL s))) := hd.2.1
                have e29 : ρ (.tmp 29) = mv := hd.2.2.1
                have hf : ∀ f, ρ (.func f) = .func (.func f) #[] #[] := fun f => (hx (.func f) (by simp)).trans rfl
                refine .inl ⟨e25, ?_⟩
                refine gives_call (G := fun v _ => v = .bool true) (by simp [execOp, e27, e29, hf, go_sem] <;> first | exact ⟨rfl, rfl⟩ | exact rfl) (call_same ((rin_any (ofL (methodN (toL s))) ms mv _ wx (H1.out.below (Ext.then HB1.out hE (Nat.le_refl _))) hml).mono fun _ _ h => ⟨by rw [h.1, toL_ofL, hA], h.2⟩))
              · intro ρ wx hE hx hd
                replace hE := Ext.undrew hE
                have e25 : ρ (.tmp 25) = .bool true := hd.1
                have e30 : ρ (.tmp 30) = .bool true := hd.2.1
                refine .inl ⟨e25, ?_⟩
                exact gives_val (G := fun vv _ => vv = .bool false) (v := .bool false) (by simp [execOp, e25, e30, go_sem]) rfl
              · intro ρ wx hE hx hd
                replace hE := Ext.undrew hE
                have e25 : ρ (.tmp 25) = .bool true := hd.1
                have e31 : ρ (.tmp 31) = .bool false := hd.2.1
                have hk : ∀ v, ρ (.const v) = v := fun v => (hx (.const v) (by simp)).trans rfl
                exact gives_val (G := fun vv _ => vv = .bool false) (v := .bool false) (by simp [execOp, e25, e31, hk, go_sem]) rfl
              · intro ρ wx hE hx hd
                replace hE := Ext.undrew hE
                have e33 : ρ (.tmp 33) = .bool false := hd.1
                have e40 : ρ (.tmp 40) = undef := hd.2.1
                have hk : ∀ v, ρ (.const v) = v := fun v => (hx (.const v) (by simp)).trans rfl
                exact gives_val (G := fun vv _ => vv = .bool false) (v := .bool false) (by simp [execOp, e33, e40, hk, go_sem]) rfl
            intro wx hE
            refine fun v22 (e22 : v22 = .string s) => ?_
            refine fun v23 (e23 : v23 = .bool false) => ?_
            refine fun v24 (e24 : v24 = .bool true) => ?_
            refine fun v25 (e25 : v25 = .bool true) => ?_
            refine fun v26 (e26 : v26 = .string s) => ?_
            refine fun v27 (e27 : v27 = .string (ofL (methodN (toL s)))) => ?_
            refine fun v28 (e28 : v28 = .pointer (some ⟨sb, 1, none⟩)) => ?_
            refine fun v29 (e29 : v29 = mv) => ?_
            refine fun v30 (e30 : v30 = .bool true) => ?_
            refine fun v31 (e31 : v31 = .bool false) => ?_
            refine fun v32 (e32 : v32 = .bool false) => ?_
            refine fun v33 (e33 : v33 = .bool false) => ?_
            refine fun v34 (e34 : v34 = undef) => ?_
            refine fun v35 (e35 : v35 = undef) => ?_
            refine fun v36 (e36 : v36 = undef) => ?_
            refine fun v37 (e37 : v37 = undef) => ?_
            refine fun v38 (e38 : v38 = undef) => ?_
            refine fun v39 (e39 : v39 = undef) => ?_
            refine fun v40 (e40 : v40 = undef) => ?_
            refine fun v41 (e41 : v41 = .bool false) => ?_
            subst e22 e23 e24 e25 e26 e27 e28 e29 e30 e31 e32 e33 e34 e35 e36 e37 e38 e39 e40 e41
            refine rest_nil ?_
            refine wpList_nil ?_
            simp only [Exit.then, Act.put, List.setIfInBounds_toArray, List.set_cons_zero, List.set_cons_succ]
            refine to_met (by assumption) ?_
            go_meet
            exact ⟨congrArg Value.bool (by rw [methOk_a _ _ _ hS hA]; rfl), hE⟩
          | false =>
            cases cr with
            | true =>
              refine wp_region_any (by kernel_rfl) ?_
              refine region_ext [(fun vv _ => vv = .string s), (fun vv _ => vv = .bool false), (fun vv _ => vv = .bool true), (fun vv _ => vv = .bool true), (fun vv _ => vv = .string s), (fun vv _ => vv = .string (ofL (methodN (toL s)))), (fun vv _ => vv = .pointer (some ⟨sb, 1, none⟩)), (fun vv _ => vv = mv), (fun vv _ => vv = .bool false), (fun vv _ => vv = .bool true), (fun vv _ => vv = .bool true), (fun vv _ => vv = .bool true), (fun vv _ => vv = .bool true), (fun vv _ => vv = .bool true), (fun vv _ => vv = undef), (fun vv _ => vv = undef), (fun vv _ => vv = undef), (fun vv _ => vv = undef), (fun vv _ => vv = .bool true), (fun vv _ => vv = .bool true)]
                [[], [(0, 22)], [(1, 23)], [(2, 24)], [(3, 25)], [(3, 25), (4, 26)], [(3, 25)], [(3, 25), (6, 28)], [(3, 25), (5, 27), (7, 29)], [(3, 25), (8, 30)], [(3, 25), (9, 31)], [(10, 32)], [(11, 33)], [(11, 33), (12, 34)], [(13, 35)], [(13, 35), (14, 36)], [(13, 35), (15, 37)], [(13, 35), (16, 38)], [(11, 33), (13, 35), (17, 39)], [(11, 33), (18, 40)]]
                [none, none, none, none, some (25, true), some (25, true), some (25, true), some (25, true), some (25, true), some (25, true), none, none, some (33, true), some (33, true), some (35, false), some (35, false), some (35, false), some (35, false), some (33, true), none]
                [some 22, some 23, some 24, some 25, some 26, some 27, some 28, some 29, some 30, some 31, some 32, some 33, some 34, some 35, some 36, some 37, some 38, some 39, some 40, some 41] 20 (by kernel_rfl) (by kernel_rfl) (by kernel_rfl) rfl (by kernel_rfl) ?_ ?_ ?_
              · exact ⟨fun _ _ _ _ h => h, fun _ _ _ _ h => h, fun _ _ _ _ h => h, fun _ _ _ _ h => h, fun _ _ _ _ h => h, fun _ _ _ _ h => h, fun _ _ _ _ h => h, fun _ _ _ _ h => h, fun _ _ _ _ h => h, fun _ _ _ _ h => h, fun _ _ _ _ h => h, fun _ _ _ _ h => h, fun _ _ _ _ h => h, fun _ _ _ _ h => h, fun _ _ _ _ h => h, fun _ _ _ _ h => h, fun _ _ _ _ h => h, fun _ _ _ _ h => h, fun _ _ _ _ h => h, fun _ _ _ _ h => h, trivial⟩
              · refine ⟨fun ρ wx _ hx _ => gives_move (hx (.tmp 1) (by simp)), ?_, ?_, fun ρ wx _ _ hd => gives_move hd.1, ?_, ?_, ?_, ?_, ?_, ?_, ?_, fun ρ wx _ _ hd => gives_move hd.1, ?_, ?_, fun ρ wx _ _ hd => .inr ⟨off_t hd.1, rfl⟩, fun ρ wx _ _ hd => .inr ⟨off_t hd.1, rfl⟩, fun ρ wx _ _ hd => .inr ⟨off_t hd.1, rfl⟩, fun ρ wx _ _ hd => .inr ⟨off_t hd.1, rfl⟩, ?_, ?_, trivial⟩
                · intro ρ wx hE hx hd
                  replace hE := Ext.undrew hE
                  have e22 : ρ (.tmp 22) = .string s := hd.1
                  have hf : ∀ f, ρ (.func f) = .func (.func f) #[] #[] := fun f => (hx (.func f) (by simp)).trans rfl
                  refine gives_call (G := fun vv _ => vv = .bool false) (by simp [execOp, e22, hf, go_sem] <;> first | exact ⟨rfl, rfl⟩ | exact rfl) ?_
                  exact call_below (hS ▸ rsimpleM_any s wx HSZ.out)
                · intro ρ wx hE hx hd
                  replace hE := Ext.undrew hE
                  have e23 : ρ (.tmp 23) = .bool false := hd.1
                  exact gives_val (G := fun vv _ => vv = .bool true) (v := .bool true) (by simp [execOp, e23, go_sem]) rfl
                · intro ρ wx hE hx hd
                  replace hE := Ext.undrew hE
                  have e25 : ρ (.tmp 25) = .bool true := hd.1
                  have e1 : ρ (.tmp 1) = .string s := hx (.tmp 1) (by simp)
                  refine .inl ⟨e25, ?_⟩
                  exact gives_val (G := fun vv _ => vv = .string s) (v := .string s) (by simp [execOp, e25, e1, go_sem]) rfl
                · intro ρ wx hE hx hd
                  replace hE := Ext.undrew hE
                  have e25 : ρ (.tmp 25) = .bool true := hd.1
                  have e26 : ρ (.tmp 26) = .string s := hd.2.1
                  have hf : ∀ f, ρ (.func f) = .func (.func f) #[] #[] := fun f => (hx (.func f) (by simp)).trans rfl
                  refine .inl ⟨e25, ?_⟩
                  refine gives_call (G := fun vv _ => vv = .string (ofL (methodN (toL s)))) (by simp [execOp, e25, e26, hf, go_sem] <;> first | exact ⟨rfl, rfl⟩ | exact rfl) ?_
                  exact call_below (rmethod_any s wx HSZ.out)
                · intro ρ wx hE hx hd
                  replace hE := Ext.undrew hE
                  have e25 : ρ (.tmp 25) = .bool true := hd.1
                  have e4 : ρ (.tmp 4) = .pointer (some ⟨sb, 0, none⟩) := hx (.tmp 4) (by simp)
                  refine .inl ⟨e25, ?_⟩
                  exact gives_val (G := fun vv _ => vv = .pointer (some ⟨sb, 1, none⟩)) (v := .pointer (some ⟨sb, 1, none⟩)) (by simp [execOp, e25, e4, go_sem]) rfl
                · intro ρ wx hE hx hd
                  replace hE := Ext.undrew hE
                  have e25 : ρ (.tmp 25) = .bool true := hd.1
                  have e28 : ρ (.tmp 28) = .pointer (some ⟨sb, 1, none⟩) := hd.2.1
                  refine .inl ⟨e25, ?_⟩
                  have hcl := ext_cell hE d1
                  exact gives_val (G := fun vv _ => vv = mv) (v := mv) (by simp [execOp, e25, e28, hcl, go_sem]) rfl
                · intro ρ wx hE hx hd
                  replace hE := Ext.undrew hE
                  have e25 : ρ (.tmp 25) = .bool true := hd.1
                  have e27 : ρ (.tmp 27) = .string (ofL (methodN (toL s))) := hd.2.1
                  have e29 : ρ (.tmp 29) = mv := hd.2.2.1
                  have hf : ∀ f, ρ (.func f) = .func (.func f) #[] #[] := fun f => (hx (.func f) (by simp)).trans rfl
                  refine .inl ⟨e25, ?_⟩
                  refine gives_call (G := fun v _ => v = .bool false) (by simp [execOp, e27, e29, hf, go_sem] <;> first | exact ⟨rfl, rfl⟩ | exact rfl) (call_same ((rin_any (ofL (methodN (toL s))) ms mv _ wx (H1.out.below (Ext.then HB1.out hE (Nat.le_refl _))) hml).mono fun _ _ h => ⟨by rw [h.1, toL_ofL, hA], h.2⟩))
                · intro ρ wx hE hx hd
                  replace hE := Ext.undrew hE
                  have e25 : ρ (.tmp 25) = .bool true := hd.1
                  have e30 : ρ (.tmp 30) = .bool false := hd.2.1
                  refine .inl ⟨e25, ?_⟩
                  exact gives_val (G := fun vv _ => vv = .bool true) (v := .bool true) (by simp [execOp, e25, e30, go_sem]) rfl
                · intro ρ wx hE hx hd
                  replace hE := Ext.undrew hE
                  have e25 : ρ (.tmp 25) = .bool true := hd.1
                  have e31 : ρ (.tmp 31) = .bool true := hd.2.1
                  have hk : ∀ v, ρ (.const v) = v := fun v => (hx (.const v) (by simp)).trans rfl
                  exact gives_val (G := fun vv _ => vv = .bool true) (v := .bool true) (by simp [execOp, e25, e31, hk, go_sem]) rfl
                · intro ρ wx hE hx hd
                  replace hE := Ext.undrew hE
                  have e33 : ρ (.tmp 33) = .bool true := hd.1
                  have e3 : ρ (.tmp 3) = .bool true := hx (.tmp 3) (by simp)
                  refine .inl ⟨e33, ?_⟩
                  exact gives_val (G := fun vv _ => vv = .bool true) (v := .bool true) (by simp [execOp, e33, e3, go_sem]) rfl
                · intro ρ wx hE hx hd
                  replace hE := Ext.undrew hE
                  have e33 : ρ (.tmp 33) = .bool true := hd.1
                  have e34 : ρ (.tmp 34) = .bool true := hd.2.1
                  refine .inl ⟨e33, ?_⟩
                  exact gives_val (G := fun vv _ => vv = .bool true) (v := .bool true) (by simp [execOp, e33, e34, go_sem]) rfl
                · intro ρ wx hE hx hd
                  replace hE := Ext.undrew hE
                  have e33 : ρ (.tmp 33) = .bool true := hd.1
                  have e35 : ρ (.tmp 35) = .bool true := hd.2.1
                  have e39 : ρ (.tmp 39) = undef := hd.2.2.1
                  have hk : ∀ v, ρ (.const v) = v := fun v => (hx (.const v) (by simp)).trans rfl
                  refine .inl ⟨e33, ?_⟩
                  exact gives_val (G := fun vv _ => vv = .bool true) (v := .bool true) (by simp [execOp, e33, e35, e39, hk, go_sem]) rfl
                · intro ρ wx hE hx hd
                  replace hE := Ext.undrew hE
                  have e33 : ρ (.tmp 33) = .bool true := hd.1
                  have e40 : ρ (.tmp 40) = .bool true := hd.2.1
                  have hk : ∀ v, ρ (.const v) = v := fun v => (hx (.const v) (by simp)).trans rfl
                  exact gives_val (G := fun vv _ => vv = .bool true) (v := .bool true) (by simp [execOp, e33, e40, hk, go_sem]) rfl
              intro wx hE
              refine fun v22 (e22 : v22 = .string s) => ?_
              refine fun v23 (e23 : v23 = .bool false) => ?_
              refine fun v24 (e24 : v24 = .bool true) => ?_
              refine fun v25 (e25 : v25 = .bool true) => ?_
              refine fun v26 (e26 : v26 = .string s) => ?_
              refine fun v27 (e27 : v27 = .string (ofL (methodN (toL s)))) => ?_
              refine fun v28 (e28 : v28 = .pointer (some ⟨sb, 1, none⟩)) => ?_
              refine fun v29 (e29 : v29 = mv) => ?_
              refine fun v30 (e30 : v30 = .bool false) => ?_
              refine fun v31 (e31 : v31 = .bool true) => ?_
              refine fun v32 (e32 : v32 = .bool true) => ?_
              refine fun v33 (e33 : v33 = .bool true) => ?_
              refine fun v34 (e34 : v34 = .bool true) => ?_
              refine fun v35 (e35 : v35 = .bool true) => ?_
              refine fun v36 (e36 : v36 = undef) => ?_
              refine fun v37 (e37 : v37 = undef) => ?_
              refine fun v38 (e38 : v38 = undef) => ?_
              refine fun v39 (e39 : v39 = undef) => ?_
              refine fun v40 (e40 : v40 = .bool true) => ?_
              refine fun v41 (e41 : v41 = .bool true) => ?_
              subst e22 e23 e24 e25 e26 e27 e28 e29 e30 e31 e32 e33 e34 e35 e36 e37 e38 e39 e40 e41
              refine rest_nil ?_
              refine wpList_nil ?_
              simp only [Exit.then, Act.put, List.setIfInBounds_toArray, List.set_cons_zero, List.set_cons_succ]
              refine to_met (by assumption) ?_
              go_meet
              exact ⟨congrArg Value.bool (by rw [methOk_c _ _ hS hA]; rfl), hE⟩
            | false =>
              cases hB : decide (starT ∈ ms) with
              | true =>
                refine wp_region_any (by kernel_rfl) ?_
                refine region_ext [(fun vv _ => vv = .string s), (fun vv _ => vv = .bool false), (fun vv _ => vv = .bool true), (fun vv _ => vv = .bool true), (fun vv _ => vv = .string s), (fun vv _ => vv = .string (ofL (methodN (toL s)))), (fun vv _ => vv = .pointer (some ⟨sb, 1, none⟩)), (fun vv _ => vv = mv), (fun vv _ => vv = .bool false), (fun vv _ => vv = .bool true), (fun vv _ => vv = .bool true), (fun vv _ => vv = .bool true), (fun vv _ => vv = .bool false), (fun vv _ => vv = .bool false), (fun vv _ => vv = .pointer (some ⟨sb, 1, none⟩)), (fun vv _ => vv = mv), (fun vv _ => vv = .bool true), (fun vv _ => vv = .bool false), (fun vv _ => vv = .bool false), (fun vv _ => vv = .bool false)]
                  [[], [(0, 22)], [(1, 23)], [(2, 24)], [(3, 25)], [(3, 25), (4, 26)], [(3, 25)], [(3, 25), (6, 28)], [(3, 25), (5, 27), (7, 29)], [(3, 25), (8, 30)], [(3, 25), (9, 31)], [(10, 32)], [(11, 33)], [(11, 33), (12, 34)], [(13, 35)], [(13, 35), (14, 36)], [(13, 35), (15, 37)], [(13, 35), (16, 38)], [(11, 33), (13, 35), (17, 39)], [(11, 33), (18, 40)]]
                  [none, none, none, none, some (25, true), some (25, true), some (25, true), some (25, true), some (25, true), some (25, true), none, none, some (33, true), some (33, true), some (35, false), some (35, false), some (35, false), some (35, false), some (33, true), none]
                  [some 22, some 23, some 24, some 25, some 26, some 27, some 28, some 29, some 30, some 31, some 32, some 33, some 34, some 35, some 36, some 37, some 38, some 39, some 40, some 41] 20 (by kernel_rfl) (by kernel_rfl) (by kernel_rfl) rfl (by kernel_rfl) ?_ ?_ ?_
                · exact ⟨fun _ _ _ _ h => h, fun _ _ _ _ h => h, fun _ _ _ _ h => h, fun _ _ _ _ h => h, fun _ _ _ _ h => h, fun _ _ _ _ h => h, fun _ _ _ _ h => h, fun _ _ _ _ h => h, fun _ _ _ _ h => h, fun _ _ _ _ h => h, fun _ _ _ _ h => h, fun _ _ _ _ h => h, fun _ _ _ _ h => h, fun _ _ _ _ h => h, fun _ _ _ _ h => h, fun _ _ _ _ h => h, fun _ _ _ _ h => h, fun _ _ _ _ h => h, fun _ _ _ _ h => h, fun _ _ _ _ h => h, trivial⟩
                · refine ⟨fun ρ wx _ hx _ => gives_move (hx (.tmp 1) (by simp)), ?_, ?_, fun ρ wx _ _ hd => gives_move hd.1, ?_, ?_, ?_, ?_, ?_, ?_, ?_, fun ρ wx _ _ hd => gives_move hd.1, ?_, ?_, ?_, ?_, ?_, ?_, ?_, ?_, trivial⟩
                  · intro ρ wx hE hx hd
                    replace hE := Ext.undrew hE
                    have e22 : ρ (.tmp 22) = .string s := hd.1
                    have hf : ∀ f, ρ (.func f) = .func (.func f) #[] #[] := fun f => (hx (.func f) (by simp)).trans rfl
                    refine gives_call (G := fun vv _ => vv = .bool false) (by simp [execOp, e22, hf, go_sem] <;> first | exact ⟨rfl, rfl⟩ | exact rfl) ?_
                    exact call_below (hS ▸ rsimpleM_any s wx HSZ.out)
                  · intro ρ wx hE hx hd
                    replace hE := Ext.undrew hE
                    have e23 : ρ (.tmp 23) = .bool false := hd.1
                    exact gives_val (G := fun vv _ => vv = .bool true) (v := .bool true) (by simp [execOp, e23, go_sem]) rfl
                  · intro ρ wx hE hx hd
                    replace hE := Ext.undrew hE
                    have e25 : ρ (.tmp 25) = .bool true := hd.1
                    have e1 : ρ (.tmp 1) = .string s := hx (.tmp 1) (by simp)
                    refine .inl ⟨e25, ?_⟩
                    exact gives_val (G := fun vv _ => vv = .string s) (v := .string s) (by simp [execOp, e25, e1, go_sem]) rfl
                  · intro ρ wx hE hx hd
                    replace hE := Ext.undrew hE
                    have e25 : ρ (.tmp 25) = .bool true := hd.1
                    have e26 : ρ (.tmp 26) = .string s := hd.2.1
                    have hf : ∀ f, ρ (.func f) = .func (.func f) #[] #[] := fun f => (hx (.func f) (by simp)).trans rfl
                    refine .inl ⟨e25, ?_⟩
                    refine gives_call (G := fun vv _ => vv = .string (ofL (methodN (toL s)))) (by simp [execOp, e25, e26, hf, go_sem] <;> first | exact ⟨rfl, rfl⟩ | exact rfl) ?_
                    exact call_below (rmethod_any s wx HSZ.out)
                  · intro ρ wx hE hx hd
                    replace hE := Ext.undrew hE
                    have e25 : ρ (.tmp 25) = .bool true := hd.1
                    have e4 : ρ (.tmp 4) = .pointer (some ⟨sb, 0, none⟩) := hx (.tmp 4) (by simp)
                    refine .inl ⟨e25, ?_⟩
                    exact gives_val (G := fun vv _ => vv = .pointer (some ⟨sb, 1, none⟩)) (v := .pointer (some ⟨sb, 1, none⟩)) (by simp [execOp, e25, e4, go_sem]) rfl
                  · intro ρ wx hE hx hd
                    replace hE := Ext.undrew hE
                    have e25 : ρ (.tmp 25) = .bool true := hd.1
                    have e28 : ρ (.tmp 28) = .pointer (some ⟨sb, 1, none⟩) := hd.2.1
                    refine .inl ⟨e25, ?_⟩
                    have hcl := ext_cell hE d1
                    exact gives_val (G := fun vv _ => vv = mv) (v := mv) (by simp [execOp, e25, e28, hcl, go_sem]) rfl
                  · intro ρ wx hE hx hd
                    replace hE := Ext.undrew hE
                    have e25 : ρ (.tmp 25) = .bool true := hd.1
                    have e27 : ρ (.tmp 27) = .string (ofL (methodN (toL s))) := hd.2.1
                    have e29 : ρ (.tmp 29) = mv := hd.2.2.1
                    have hf : ∀ f, ρ (.func f) = .func (.func f) #[] #[] := fun f => (hx (.func f) (by simp)).trans rfl
                    refine .inl ⟨e25, ?_⟩
                    refine gives_call (G := fun v _ => v = .bool false) (by simp [execOp, e27, e29, hf, go_sem] <;> first | exact ⟨rfl, rfl⟩ | exact rfl) (call_same ((rin_any (ofL (methodN (toL s))) ms mv _ wx (H1.out.below (Ext.then HB1.out hE (Nat.le_refl _))) hml).mono fun _ _ h => ⟨by rw [h.1, toL_ofL, hA], h.2⟩))
                  · intro ρ wx hE hx hd
                    replace hE := Ext.undrew hE
                    have e25 : ρ (.tmp 25) = .bool true := hd.1
                    have e30 : ρ (.tmp 30) = .bool false := hd.2.1
                    refine .inl ⟨e25, ?_⟩
                    exact gives_val (G := fun vv _ => vv = .bool true) (v := .bool true) (by simp [execOp, e25, e30, go_sem]) rfl
                  · intro ρ wx hE hx hd
                    replace hE := Ext.undrew hE
                    have e25 : ρ (.tmp 25) = .bool true := hd.1
                    have e31 : ρ (.tmp 31) = .bool true := hd.2.1
                    have hk : ∀ v, ρ (.const v) = v := fun v => (hx (.const v) (by simp)).trans rfl
                    exact gives_val (G := fun vv _ => vv = .bool true) (v := .bool true) (by simp [execOp, e25, e31, hk, go_sem]) rfl
                  · intro ρ wx hE hx hd
                    replace hE := Ext.undrew hE
                    have e33 : ρ (.tmp 33) = .bool true := hd.1
                    have e3 : ρ (.tmp 3) = .bool false := hx (.tmp 3) (by simp)
                    refine .inl ⟨e33, ?_⟩
                    exact gives_val (G := fun vv _ => vv = .bool false) (v := .bool false) (by simp [execOp, e33, e3, go_sem]) rfl
                  · intro ρ wx hE hx hd
                    replace hE := Ext.undrew hE
                    have e33 : ρ (.tmp 33) = .bool true := hd.1
                    have e34 : ρ (.tmp 34) = .bool false := hd.2.1
                    refine .inl ⟨e33, ?_⟩
                    exact gives_val (G := fun vv _ => vv = .bool false) (v := .bool false) (by simp [execOp, e33, e34, go_sem]) rfl
                  · intro ρ wx hE hx hd
                    replace hE := Ext.undrew hE
                    have e35 : ρ (.tmp 35) = .bool false := hd.1
                    have e4 : ρ (.tmp 4) = .pointer (some ⟨sb, 0, none⟩) := hx (.tmp 4) (by simp)
                    refine .inl ⟨e35, ?_⟩
                    exact gives_val (G := fun vv _ => vv = .pointer (some ⟨sb, 1, none⟩)) (v := .pointer (some ⟨sb, 1, none⟩)) (by simp [execOp, e35, e4, go_sem]) rfl
                  · intro ρ wx hE hx hd
                    replace hE := Ext.undrew hE
                    have e35 : ρ (.tmp 35) = .bool false := hd.1
                    have e36 : ρ (.tmp 36) = .pointer (some ⟨sb, 1, none⟩) := hd.2.1
                    refine .inl ⟨e35, ?_⟩
                    have hcl := ext_cell hE d1
                    exact gives_val (G := fun vv _ => vv = mv) (v := mv) (by simp [execOp, e35, e36, hcl, go_sem]) rfl
                  · intro ρ wx hE hx hd
                    replace hE := Ext.undrew hE
                    have e35 : ρ (.tmp 35) = .bool false := hd.1
                    have e37 : ρ (.tmp 37) = mv := hd.2.1
                    have hk : ∀ v, ρ (.const v) = v := fun v => (hx (.const v) (by simp)).trans rfl
                    have hf : ∀ f, ρ (.func f) = .func (.func f) #[] #[] := fun f => (hx (.func f) (by simp)).trans rfl
                    refine .inl ⟨e35, ?_⟩
                    refine gives_call (G := fun v _ => v = .bool true) (by simp [execOp, e37, hf, hk, go_sem] <;> first | exact ⟨rfl, rfl⟩ | exact rfl) (call_same ((rin_any ⟨#[42]⟩ ms mv _ wx (H1.out.below (Ext.then HB1.out hE (Nat.le_refl _))) hml).mono fun _ _ h => ⟨by rw [h.1, show toL ⟨#[42]⟩ = starT from rfl, hB], h.2⟩))
                  · intro ρ wx hE hx hd
                    replace hE := Ext.undrew hE
                    have e35 : ρ (.tmp 35) = .bool false := hd.1
                    have e38 : ρ (.tmp 38) = .bool true := hd.2.1
                    refine .inl ⟨e35, ?_⟩
                    exact gives_val (G := fun vv _ => vv = .bool false) (v := .bool false) (by simp [execOp, e35, e38, go_sem]) rfl
                  · intro ρ wx hE hx hd
                    replace hE := Ext.undrew hE
                    have e33 : ρ (.tmp 33) = .bool true := hd.1
                    have e35 : ρ (.tmp 35) = .bool false := hd.2.1
                    have e39 : ρ (.tmp 39) = .bool false := hd.2.2.1
                    have hk : ∀ v, ρ (.const v) = v := fun v => (hx (.const v) (by simp)).trans rfl
                    refine .inl ⟨e33, ?_⟩
                    exact gives_val (G := fun vv _ => vv = .bool false) (v := .bool false) (by simp [execOp, e33, e35, e39, hk, go_sem]) rfl
                  · intro ρ wx hE hx hd
                    replace hE := Ext.undrew hE
                    have e33 : ρ (.tmp 33) = .bool true := hd.1
                    have e40 : ρ (.tmp 40) = .bool false := hd.2.1
                    have hk : ∀ v, ρ (.const v) = v := fun v => (hx (.const v) (by simp)).trans rfl
                    exact gives_val (G := fun vv _ => vv = .bool false) (v := .bool false) (by simp [execOp, e33, e40, hk, go_sem]) rfl
                intro wx hE
                refine fun v22 (e22 : v22 = .string s) => ?_
                refine fun v23 (e23 : v23 = .bool false) => ?_
                refine fun v24 (e24 : v24 = .bool true) => ?_
                refine fun v25 (e25 : v25 = .bool true) => ?_
                refine fun v26 (e26 : v26 = .string s) => ?_
                refine fun v27 (e27 : v27 = .string (ofL (methodN (toL s)))) => ?_
                refine fun v28 (e28 : v28 = .pointer (some ⟨sb, 1, none⟩)) => ?_
                refine fun v29 (e29 : v29 = mv) => ?_
                refine fun v30 (e30 : v30 = .bool false) => ?_
                refine fun v31 (e31 : v31 = .bool true) => ?_
                refine fun v32 (e32 : v32 = .bool true) => ?_
                refine fun v33 (e33 : v33 = .bool true) => ?_
                refine fun v34 (e34 : v34 = .bool false) => ?_
                refine fun v35 (e35 : v35 = .bool false) => ?_
                refine fun v36 (e36 : v36 = .pointer (some ⟨sb, 1, none⟩)) => ?_
                refine fun v37 (e37 : v37 = mv) => ?_
                refine fun v38 (e38 : v38 = .bool true) => ?_
                refine fun v39 (e39 : v39 = .bool false) => ?_
                refine fun v40 (e40 : v40 = .bool false) => ?_
                refine fun v41 (e41 : v41 = .bool false) => ?_
                subst e22 e23 e24 e25 e26 e27 e28 e29 e30 e31 e32 e33 e34 e35 e36 e37 e38 e39 e40 e41
                refine rest_nil ?_
                refine wpList_nil ?_
                simp only [Exit.then, Act.put, List.setIfInBounds_toArray, List.set_cons_zero, List.set_cons_succ]
                refine to_met (by assumption) ?_
                go_meet
                exact ⟨congrArg Value.bool (by rw [methOk_b _ _ true hS hA hB]; rfl), hE⟩
              | false =>
                refine wp_region_any (by kernel_rfl) ?_
                refine region_ext [(fun vv _ => vv = .string s), (fun vv _ => vv = .bool false), (fun vv _ => vv = .bool true), (fun vv _ => vv = .bool true), (fun vv _ => vv = .string s), (fun vv _ => vv = .string (ofL (methodN (toL s)))), (fun vv _ => vv = .pointer (some ⟨sb, 1, none⟩)), (fun vv _ => vv = mv), (fun vv _ => vv = .bool false), (fun vv _ => vv = .bool true), (fun vv _ => vv = .bool true), (fun vv _ => vv = .bool true), (fun vv _ => vv = .bool false), (fun vv _ => vv = .bool false), (fun vv _ => vv = .pointer (some ⟨sb, 1, none⟩)), (fun vv _ => vv = mv), (fun vv _ => vv = .bool false), (fun vv _ => vv = .bool true), (fun vv _ => vv = .bool true), (fun vv _ => vv = .bool true)]
                  [[], [(0, 22)], [(1, 23)], [(2, 24)], [(3, 25)], [(3, 25), (4, 26)], [(3, 25)], [(3, 25), (6, 28)], [(3, 25), (5, 27), (7, 29)], [(3, 25), (8, 30)], [(3, 25), (9, 31)], [(10, 32)], [(11, 33)], [(11, 33), (12, 34)], [(13, 35)], [(13, 35), (14, 36)], [(13, 35), (15, 37)], [(13, 35), (16, 38)], [(11, 33), (13, 35), (17, 39)], [(11, 33), (18, 40)]]
                  [none, none, none, none, some (25, true), some (25, true), some (25, true), some (25, true), some (25, true), some (25, true), none, none, some (33, true), some (33, true), some (35, false), some (35, false), some (35, false), some (35, false), some (33, true), none]
                  [some 22, some 23, some 24, some 25, some 26, some 27, some 28, some 29, some 30, some 31, some 32, some 33, some 34, some 35, some 36, some 37, some 38, some 39, some 40, some 41] 20 (by kernel_rfl) (by kernel_rfl) (by kernel_rfl) rfl (by kernel_rfl) ?_ ?_ ?_
                · exact ⟨fun _ _ _ _ h => h, fun _ _ _ _ h => h, fun _ _ _ _ h => h, fun _ _ _ _ h => h, fun _ _ _ _ h => h, fun _ _ _ _ h => h, fun _ _ _ _ h => h, fun _ _ _ _ h => h, fun _ _ _ _ h => h, fun _ _ _ _ h => h, fun _ _ _ _ h => h, fun _ _ _ _ h => h, fun _ _ _ _ h => h, fun _ _ _ _ h => h, fun _ _ _ _ h => h, fun _ _ _ _ h => h, fun _ _ _ _ h => h, fun _ _ _ _ h => h, fun _ _ _ _ h => h, fun _ _ _ _ h => h, trivial⟩
                · refine ⟨fun ρ wx _ hx _ => gives_move (hx (.tmp 1) (by simp)), ?_, ?_, fun ρ wx _ _ hd => gives_move hd.1, ?_, ?_, ?_, ?_, ?_, ?_, ?_, fun ρ wx _ _ hd => gives_move hd.1, ?_, ?_, ?_, ?_, ?_, ?_, ?_, ?_, trivial⟩
                  · intro ρ wx hE hx hd
                    replace hE := Ext.undrew hE
                    have e22 : ρ (.tmp 22) = .string s := hd.1
                    have hf : ∀ f, ρ (.func f) = .func (.func f) #[] #[] := fun f => (hx (.func f) (by simp)).trans rfl
                    refine gives_call (G := fun vv _ => vv = .bool false) (by simp [execOp, e22, hf, go_sem] <;> first | exact ⟨rfl, rfl⟩ | exact rfl) ?_
                    exact call_below (hS ▸ rsimpleM_any s wx HSZ.out)
                  · intro ρ wx hE hx hd
                    replace hE := Ext.undrew hE
                    have e23 : ρ (.tmp 23) = .bool false := hd.1
                    exact gives_val (G := fun vv _ => vv = .bool true) (v := .bool true) (by simp [execOp, e23, go_sem]) rfl
                  · intro ρ wx hE hx hd
                    replace hE := Ext.undrew hE
                    have e25 : ρ (.tmp 25) = .bool true := hd.1
                    have e1 : ρ (.tmp 1) = .string s := hx (.tmp 1) (by simp)
                    refine .inl ⟨e25, ?_⟩
                    exact gives_val (G := fun vv _ => vv = .string s) (v := .string s) (by simp [execOp, e25, e1, go_sem]) rfl
                  · intro ρ wx hE hx hd
                    replace hE := Ext.undrew hE
                    have e25 : ρ (.tmp 25) = .bool true := hd.1
                    have e26 : ρ (.tmp 26) = .string s := hd.2.1
                    have hf : ∀ f, ρ (.func f) = .func (.func f) #[] #[] := fun f => (hx (.func f) (by simp)).trans rfl
                    refine .inl ⟨e25, ?_⟩
                    refine gives_call (G := fun vv _ => vv = .string (ofL (methodN (toL s)))) (by simp [execOp, e25, e26, hf, go_sem] <;> first | exact ⟨rfl, rfl⟩ | exact rfl) ?_
                    exact call_below (rmethod_any s wx HSZ.out)
                  · intro ρ wx hE hx hd
                    replace hE := Ext.undrew hE
                    have e25 : ρ (.tmp 25) = .bool true := hd.1
                    have e4 : ρ (.tmp 4) = .pointer (some ⟨sb, 0, none⟩) := hx (.tmp 4) (by simp)
                    refine .inl ⟨e25, ?_⟩
                    exact gives_val (G := fun vv _ => vv = .pointer (some ⟨sb, 1, none⟩)) (v := .pointer (some ⟨sb, 1, none⟩)) (by simp [execOp, e25, e4, go_sem]) rfl
                  · intro ρ wx hE hx hd
                    replace hE := Ext.undrew hE
                    have e25 : ρ (.tmp 25) = .bool true := hd.1
                    have e28 : ρ (.tmp 28) = .pointer (some ⟨sb, 1, none⟩) := hd.2.1
                    refine .inl ⟨e25, ?_⟩
                    have hcl := ext_cell hE d1
                    exact gives_val (G := fun vv _ => vv = mv) (v := mv) (by simp [execOp, e25, e28, hcl, go_sem]) rfl
                  · intro ρ wx hE hx hd
                    replace hE := Ext.undrew hE
                    have e25 : ρ (.tmp 25) = .bool true := hd.1
                    have e27 : ρ (.tmp 27) = .string (ofL (methodN (toL s))) := hd.2.1
                    have e29 : ρ (.tmp 29) = mv := hd.2.2.1
                    have hf : ∀ f, ρ (.func f) = .func (.func f) #[] #[] := fun f => (hx (.func f) (by simp)).trans rfl
                    refine .inl ⟨e25, ?_⟩
                    refine gives_call (G := fun v _ => v = .bool false) (by simp [execOp, e27, e29, hf, go_sem] <;> first | exact ⟨rfl, rfl⟩ | exact rfl) (call_same ((rin_any (ofL (methodN (toL s))) ms mv _ wx (H1.out.below (Ext.then HB1.out hE (Nat.le_refl _))) hml).mono fun _ _ h => ⟨by rw [h.1, toL_ofL, hA], h.2⟩))
                  · intro ρ wx hE hx hd
                    replace hE := Ext.undrew hE
                    have e25 : ρ (.tmp 25) = .bool true := hd.1
                    have e30 : ρ (.tmp 30) = .bool false := hd.2.1
                    refine .inl ⟨e25, ?_⟩
                    exact gives_val (G := fun vv _ => vv = .bool true) (v := .bool true) (by simp [execOp, e25, e30, go_sem]) rfl
                  · intro ρ wx hE hx hd
                    replace hE := Ext.undrew hE
                    have e25 : ρ (.tmp 25) = .bool true := hd.1
                    have e31 : ρ (.tmp 31) = .bool true := hd.2.1
                    have hk : ∀ v, ρ (.const v) = v := fun v => (hx (.const v) (by simp)).trans rfl
                    exact gives_val (G := fun vv _ => vv = .bool true) (v := .bool true) (by simp [execOp, e25, e31, hk, go_sem]) rfl
                  · intro ρ wx hE hx hd
                    replace hE := Ext.undrew hE
                    have e33 : ρ (.tmp 33) = .bool true := hd.1
                    have e3 : ρ (.tmp 3) = .bool false := hx (.tmp 3) (by simp)
                    refine .inl ⟨e33, ?_⟩
                    exact gives_val (G := fun vv _ => vv = .bool false) (v := .bool false) (by simp [execOp, e33, e3, go_sem]) rfl
                  · intro ρ wx hE hx hd
                    replace hE := Ext.undrew hE
                    have e33 : ρ (.tmp 33) = .bool true := hd.1
                    have e34 : ρ (.tmp 34) = .bool false := hd.2.1
                    refine .inl ⟨e33, ?_⟩
                    exact gives_val (G := fun vv _ => vv = .bool false) (v := .bool false) (by simp [execOp, e33, e34, go_sem]) rfl
                  · intro ρ wx hE hx hd
                    replace hE := Ext.undrew hE
                    have e35 : ρ (.tmp 35) = .bool false := hd.1
                    have e4 : ρ (.tmp 4) = .pointer (some ⟨sb, 0, none⟩) := hx (.tmp 4) (by simp)
                    refine .inl ⟨e35, ?_⟩
                    exact gives_val (G := fun vv _ => vv = .pointer (some ⟨sb, 1, none⟩)) (v := .pointer (some ⟨sb, 1, none⟩)) (by simp [execOp, e35, e4, go_sem]) rfl
                  · intro ρ wx hE hx hd
                    replace hE := Ext.undrew hE
                    have e35 : ρ (.tmp 35) = .bool false := hd.1
                    have e36 : ρ (.tmp 36) = .pointer (some ⟨sb, 1, none⟩) := hd.2.1
                    refine .inl ⟨e35, ?_⟩
                    have hcl := ext_cell hE d1
                    exact gives_val (G := fun vv _ => vv = mv) (v := mv) (by simp [execOp, e35, e36, hcl, go_sem]) rfl
                  · intro ρ wx hE hx hd
                    replace hE := Ext.undrew hE
                    have e35 : ρ (.tmp 35) = .bool false := hd.1
                    have e37 : ρ (.tmp 37) = mv := hd.2.1
                    have hk : ∀ v, ρ (.const v) = v := fun v => (hx (.const v) (by simp)).trans rfl
                    have hf : ∀ f, ρ (.func f) = .func (.func f) #[] #[] := fun f => (hx (.func f) (by simp)).trans rfl
                    refine .inl ⟨e35, ?_⟩
                    refine gives_call (G := fun v _ => v = .bool false) (by simp [execOp, e37, hf, hk, go_sem] <;> first | exact ⟨rfl, rfl⟩ | exact rfl) (call_same ((rin_any ⟨#[42]⟩ ms mv _ wx (H1.out.below (Ext.then HB1.out hE (Nat.le_refl _))) hml).mono fun _ _ h => ⟨by rw [h.1, show toL ⟨#[42]⟩ = starT from rfl, hB], h.2⟩))
                  · intro ρ wx hE hx hd
                    replace hE := Ext.undrew hE
                    have e35 : ρ (.tmp 35) = .bool false := hd.1
                    have e38 : ρ (.tmp 38) = .bool false := hd.2.1
                    refine .inl ⟨e35, ?_⟩
                    exact gives_val (G := fun vv _ => vv = .bool true) (v := .bool true) (by simp [execOp, e35, e38, go_sem]) rfl
                  · intro ρ wx hE hx hd
                    replace hE := Ext.undrew hE
                    have e33 : ρ (.tmp 33) = .bool true := hd.1
                    have e35 : ρ (.tmp 35) = .bool false := hd.2.1
                    have e39 : ρ (.tmp 39) = .bool true := hd.2.2.1
                    have hk : ∀ v, ρ (.const v) = v := fun v => (hx (.const v) (by simp)).trans rfl
                    refine .inl ⟨e33, ?_⟩
                    exact gives_val (G := fun vv _ => vv = .bool true) (v := .bool true) (by simp [execOp, e33, e35, e39, hk, go_sem]) rfl
                  · intro ρ wx hE hx hd
                    replace hE := Ext.undrew hE
                    have e33 : ρ (.tmp 33) = .bool true := hd.1
                    have e40 : ρ (.tmp 40) = .bool true := hd.2.1
                    have hk : ∀ v, ρ (.const v) = v := fun v => (hx (.const v) (by simp)).trans rfl
                    exact gives_val (G := fun vv _ => vv = .bool true) (v := .bool true) (by simp [execOp, e33, e40, hk, go_sem]) rfl
                intro wx hE
                refine fun v22 (e22 : v22 = .string s) => ?_
                refine fun v23 (e23 : v23 = .bool false) => ?_
                refine fun v24 (e24 : v24 = .bool true) => ?_
                refine fun v25 (e25 : v25 = .bool true) => ?_
                refine fun v26 (e26 : v26 = .string s) => ?_
                refine fun v27 (e27 : v27 = .string (ofL (methodN (toL s)))) => ?_
                refine fun v28 (e28 : v28 = .pointer (some ⟨sb, 1, none⟩)) => ?_
                refine fun v29 (e29 : v29 = mv) => ?_
                refine fun v30 (e30 : v30 = .bool false) => ?_
                refine fun v31 (e31 : v31 = .bool true) => ?_
                refine fun v32 (e32 : v32 = .bool true) => ?_
                refine fun v33 (e33 : v33 = .bool true) => ?_
                refine fun v34 (e34 : v34 = .bool false) => ?_
                refine fun v35 (e35 : v35 = .bool false) => ?_
                refine fun v36 (e36 : v36 = .pointer (some ⟨sb, 1, none⟩)) => ?_
                refine fun v37 (e37 : v37 = mv) => ?_
                refine fun v38 (e38 : v38 = .bool false) => ?_
                refine fun v39 (e39 : v39 = .bool true) => ?_
                refine fun v40 (e40 : v40 = .bool true) => ?_
                refine fun v41 (e41 : v41 = .bool true) => ?_
                subst e22 e23 e24 e25 e26 e27 e28 e29 e30 e31 e32 e33 e34 e35 e36 e37 e38 e39 e40 e41
                refine rest_nil ?_
                refine wpList_nil ?_
                simp only [Exit.then, Act.put, List.setIfInBounds_toArray, List.set_cons_zero, List.set_cons_succ]
                refine to_met (by assumption) ?_
                go_meet
                exact ⟨congrArg Value.bool (by rw [methOk_b _ _ false hS hA hB]; rfl), hE⟩

      case rest =>
        obtain ⟨rfl, hE1⟩ := hcut
        have HE1 := Lib.hid hE1
        cases hmo : methOk ms (toL s) cr with
        | false =>
          clear hE1
          go_wp2_with fail
          go_ret
          refine hR _ _ ⟨ret_bool ?_, Ext.then HB1.out HE1.out (Nat.le_refl _)⟩
          unfold allowsN
          rw [hmo, Bool.and_false, Bool.false_and]
        | true =>
          have HMO := Lib.hid hmo
          have hl1c : sb < wc.heap.size := Nat.lt_of_lt_of_le hl1 hE1.size
          have d2c := ext_cell hE1 HD2.out
          have HBC := Lib.hid (Ext.then HB1.out hE1 (Nat.le_refl _))
          have HAL : Hid (allowsN (toL O) ms hs c (toL s) l cr = (unsafeN l).all (headOk hs cr)) := Lib.hid (by unfold allowsN; rw [HT1.out, hT, hmo]; rfl)
          have hsw := HBC.out.size
          clear hE1 hmo d0 d1 d2 d3 hl1
          go_wp2_with fail
          refine (runs_any l v _ wc (HV.out.below HBC.out) hl HX.out).mono ?_
          rintro e w2 ⟨vu, rfl, hou, hb2⟩
          have d2w := (hb2.cell (p := ⟨sb, 2, none⟩) hl1c).trans d2c
          have hl2 := Nat.lt_of_lt_of_le hl1c hb2.size
          have HB2 := Lib.hid (HBC.out.trans (hb2.mono hsw))
          have HUX : Hid (∀ x ∈ unsafeN l, x.length ≤ 1000000) := Lib.hid (unsafe_small l HX.out)
          have hUL := unsafe_len l hl
          obtain ⟨U, hU⟩ : ∃ U, unsafeN l = U := ⟨_, rfl⟩
          rw [hU] at hou HAL HUX hUL
          obtain ⟨UA, uc, rfl, huc, hget⟩ := hou.view.open1
          have HG := Lib.hid hget
          clear hou hb2 hU hget d2c hl1c
          go_wp2_with fail
          go_loopw [10] (fun i wr => ∃ k : Nat, k ≤ U.length ∧ i = .int .i64 k ∧ (∀ y ∈ U.take k, headOk hs cr y = true) ∧ Ext w2 wr) (fun i _ => U.length - (intOf i).toNat)
          case atStart => exact ⟨0, Nat.zero_le _, rfl, by simp, Ext.refl _⟩
          case round =>
            obtain ⟨k, hk, rfl, hall, hEr⟩ := hrel
            have HER := Lib.hid hEr; have HALL := Lib.hid hall
            have hl3 := Nat.lt_of_lt_of_le hl2 hEr.size
            have d2r := ext_cell hEr d2w
            clear hEr hall
            by_cases hlt : k < U.length
            · obtain ⟨ug, uo, rfl, hug, hux⟩ := HG.out k hlt
              obtain ⟨x, he⟩ : ∃ x, U[k]? = some x := ⟨_, List.getElem?_eq_getElem hlt⟩
              have dx := ext_cell HER.out (hux k x he)
              have hugr : ug < wr.heap.size := Nat.lt_of_lt_of_le hug HER.out.size
              have hxs := HUX.out x (List.mem_of_getElem? he)
              have HXM := Lib.hid (List.mem_of_getElem? he)
              have HTK := Lib.hid (mem_take_succ U k x · he)
              obtain ⟨X, hX⟩ : ∃ X, ofL x = X := ⟨_, rfl⟩
              rw [hX] at dx
              have hXs : X.size ≤ 1000000 := by rw [← hX, ofL_size]; exact hxs
              have HXX : Hid (toL X = x) := Lib.hid (by rw [← hX, toL_ofL])
              have hVM : Hid (∀ wy, Ext wr wy → View Rp.str wy F hs hv) := Lib.hid fun wy hy => H2.out.below (Ext.then (Ext.then HB2.out HER.out (Nat.le_refl _)) hy (Nat.le_refl _))
              have HXS := Lib.hid hXs
              have hq0 : (0 : Int) ≤ (k : Int) := by omega
              have hq1 : (k : Int) < (U.length : Int) := by omega
              clear hux he hX hxs hug d2w
              go_upto_region 9 with fail
              go_cut [73] (fun v wc => v = .bool (!headOk hs cr x) ∧ Ext wr wc)
              case first =>
                cases hS : sameIn x hs with
                | true =>
                  refine wp_region_any (by kernel_rfl) ?_
                  refine region_ext [(fun vv _ => vv = .slice (some ⟨ug, uo, none⟩) U.length uc), (fun vv _ => vv = .int .i64 k), (fun vv _ => vv = .pointer (some ⟨ug, uo + k, none⟩)), (fun vv _ => vv = .string X), (fun vv _ => vv = .pointer (some ⟨sb, 2, none⟩)), (fun vv _ => vv = hv), (fun vv _ => vv = .bool true), (fun vv _ => vv = .bool false), (fun vv _ => vv = .bool false), (fun vv _ => vv = undef), (fun vv _ => vv = undef), (fun vv _ => vv = undef), (fun vv _ => vv = undef), (fun vv _ => vv = undef), (fun vv _ => vv = undef), (fun vv _ => vv = undef), (fun vv _ => vv = undef), (fun vv _ => vv = undef), (fun vv _ => vv = undef), (fun vv _ => vv = undef), (fun vv _ => vv = undef), (fun vv _ => vv = undef), (fun vv _ => vv = undef), (fun vv _ => vv = .bool false)]
                    [[], [], [(0, 50), (1, 51)], [(2, 52)], [], [(4, 54)], [(3, 53), (5, 55)], [(6, 56)], [(7, 57)], [(8, 58)], [(8, 58), (9, 59)], [(10, 60)], [(10, 60)], [(10, 60), (11, 61), (12, 62)], [(10, 60), (13, 63)], [(10, 60), (14, 64)], [(8, 58), (10, 60), (15, 65)], [(8, 58), (16, 66)], [(17, 67)], [(17, 67), (18, 68)], [(17, 67), (19, 69)], [(17, 67), (20, 70)], [(8, 58), (17, 67), (21, 71)], [(8, 58), (22, 72)]]
                    [none, none, none, none, none, none, none, none, none, some (58, true), some (58, true), some (60, false), some (60, false), some (60, false), some (60, false), some (60, false), some (58, true), some (58, true), some (67, false), some (67, false), some (67, false), some (67, false), some (58, true), none]
                    [some 50, some 51, some 52, some 53, some 54, some 55, some 56, some 57, some 58, some 59, some 60, some 61, some 62, some 63, some 64, some 65, some 66, some 67, some 68, some 69, some 70, some 71, some 72, some 73] 24 (by kernel_rfl) (by kernel_rfl) (by kernel_rfl) rfl (by kernel_rfl) ?_ ?_ ?_
                  · exact ⟨fun _ _ _ _ h => h, fun _ _ _ _ h => h, fun _ _ _ _ h => h, fun _ _ _ _ h => h, fun _ _ _ _ h => h, fun _ _ _ _ h => h, fun _ _ _ _ h => h, fun _ _ _ _ h => h, fun _ _ _ _ h => h, fun _ _ _ _ h => h, fun _ _ _ _ h => h, fun _ _ _ _ h => h, fun _ _ _ _ h => h, fun _ _ _ _ h => h, fun _ _ _ _ h => h, fun _ _ _ _ h => h, fun _ _ _ _ h => h, fun _ _ _ _ h => h, fun _ _ _ _ h => h, fun _ _ _ _ h => h, fun _ _ _ _ h => h, fun _ _ _ _ h => h, fun _ _ _ _ h => h, fun _ _ _ _ h => h, trivial⟩
                  · refine ⟨fun ρ wx _ hx _ => gives_move (hx (.tmp 9) (by simp)), fun ρ wx _ hx _ => gives_move (hx (.tmp 10) (by simp)), ?_, ?_, ?_, ?_, ?_, ?_, fun ρ wx _ _ hd => gives_move hd.1, fun ρ wx _ _ hd => .inr ⟨off_f hd.1, rfl⟩, fun ρ wx _ _ hd => .inr ⟨off_f hd.1, rfl⟩, fun ρ wx _ _ hd => .inr ⟨off_u hd.1, rfl⟩, fun ρ wx _ _ hd => .inr ⟨off_u hd.1, rfl⟩, fun ρ wx _ _ hd => .inr ⟨off_u hd.1, rfl⟩, fun ρ wx _ _ hd => .inr ⟨off_u hd.1, rfl⟩, fun ρ wx _ _ hd => .inr ⟨off_u hd.1, rfl⟩, fun ρ wx _ _ hd => .inr ⟨off_f hd.1, rfl⟩, fun ρ wx _ _ hd => .inr ⟨off_f hd.1, rfl⟩, fun ρ wx _ _ hd => .inr ⟨off_u hd.1, rfl⟩, fun ρ wx _ _ hd => .inr ⟨off_u hd.1, rfl⟩, fun ρ wx _ _ hd => .inr ⟨off_u hd.1, rfl⟩, fun ρ wx _ _ hd => .inr ⟨off_u hd.1, rfl⟩, fun ρ wx _ _ hd => .inr ⟨off_f hd.1, rfl⟩, ?_, trivial⟩
                    · intro ρ wx hE hx hd
                      replace hE := Ext.undrew hE
                      have e50 : ρ (.tmp 50) = .slice (some ⟨ug, uo, none⟩) U.length uc := hd.1
                      have e51 : ρ (.tmp 51) = .int .i64 k := hd.2.1
                      exact gives_val (G := fun vv _ => vv = .pointer (some ⟨ug, uo + k, none⟩)) (v := .pointer (some ⟨ug, uo + k, none⟩)) (by simp [execOp, e50, e51, hq0, hq1, go_sem]) rfl
                    · intro ρ wx hE hx hd
                      replace hE := Ext.undrew hE
                      have e52 : ρ (.tmp 52) = .pointer (some ⟨ug, uo + k, none⟩) := hd.1
                      have hcl := ext_cell hE dx
                      exact gives_val (G := fun vv _ => vv = .string X) (v := .string X) (by simp [execOp, e52, hcl, go_sem]) rfl
                    · intro ρ wx hE hx hd
                      replace hE := Ext.undrew hE
                      have e4 : ρ (.tmp 4) = .pointer (some ⟨sb, 0, none⟩) := hx (.tmp 4) (by simp)
                      exact gives_val (G := fun vv _ => vv = .pointer (some ⟨sb, 2, none⟩)) (v := .pointer (some ⟨sb, 2, none⟩)) (by simp [execOp, e4, go_sem]) rfl
                    · intro ρ wx hE hx hd
                      replace hE := Ext.undrew hE
                      have e54 : ρ (.tmp 54) = .pointer (some ⟨sb, 2, none⟩) := hd.1
                      have hcl := ext_cell hE d2r
                      exact gives_val (G := fun vv _ => vv = hv) (v := hv) (by simp [execOp, e54, hcl, go_sem]) rfl
                    · intro ρ wx hE hx hd
                      replace hE := Ext.undrew hE
                      have e53 : ρ (.tmp 53) = .string X := hd.1
                      have e55 : ρ (.tmp 55) = hv := hd.2.1
                      have hf : ∀ f, ρ (.func f) = .func (.func f) #[] #[] := fun f => (hx (.func f) (by simp)).trans rfl
                      refine gives_call (G := fun v _ => v = .bool true) (by simp [execOp, e53, e55, hf, go_sem] <;> first | exact ⟨rfl, rfl⟩ | exact rfl) (call_below ((samein_any X hs hv _ wx (hVM.out wx hE) (by omega) HXS.out HHX.out).mono fun _ _ h => ⟨by rw [h.1, HXX.out, hS], h.2⟩))
                    · intro ρ wx hE hx hd
                      replace hE := Ext.undrew hE
                      have e56 : ρ (.tmp 56) = .bool true := hd.1
                      exact gives_val (G := fun vv _ => vv = .bool false) (v := .bool false) (by simp [execOp, e56, go_sem]) rfl
                    · intro ρ wx hE hx hd
                      replace hE := Ext.undrew hE
                      have e58 : ρ (.tmp 58) = .bool false := hd.1
                      have e72 : ρ (.tmp 72) = undef := hd.2.1
                      have hk : ∀ v, ρ (.const v) = v := fun v => (hx (.const v) (by simp)).trans rfl
                      exact gives_val (G := fun vv _ => vv = .bool false) (v := .bool false) (by simp [execOp, e58, e72, hk, go_sem]) rfl
                  intro wx hE
                  refine fun v50 (e50 : v50 = .slice (some ⟨ug, uo, none⟩) U.length uc) => ?_
                  refine fun v51 (e51 : v51 = .int .i64 k) => ?_
                  refine fun v52 (e52 : v52 = .pointer (some ⟨ug, uo + k, none⟩)) => ?_
                  refine fun v53 (e53 : v53 = .string X) => ?_
                  refine fun v54 (e54 : v54 = .pointer (some ⟨sb, 2, none⟩)) => ?_
                  refine fun v55 (e55 : v55 = hv) => ?_
                  refine fun v56 (e56 : v56 = .bool true) => ?_
                  refine fun v57 (e57 : v57 = .bool false) => ?_
                  refine fun v58 (e58 : v58 = .bool false) => ?_
                  refine fun v59 (e59 : v59 = undef) => ?_
                  refine fun v60 (e60 : v60 = undef) => ?_
                  refine fun v61 (e61 : v61 = undef) => ?_
                  refine fun v62 (e62 : v62 = undef) => ?_
                  refine fun v63 (e63 : v63 = undef) => ?_
                  refine fun v64 (e64 : v64 = undef) => ?_
                  refine fun v65 (e65 : v65 = undef) => ?_
                  refine fun v66 (e66 : v66 = undef) => ?_
                  refine fun v67 (e67 : v67 = undef) => ?_
                  refine fun v68 (e68 : v68 = undef) => ?_
                  refine fun v69 (e69 : v69 = undef) => ?_
                  refine fun v70 (e70 : v70 = undef) => ?_
                  refine fun v71 (e71 : v71 = undef) => ?_
                  refine fun v72 (e72 : v72 = undef) => ?_
                  refine fun v73 (e73 : v73 = .bool false) => ?_
                  subst e50 e51 e52 e53 e54 e55 e56 e57 e58 e59 e60 e61 e62 e63 e64 e65 e66 e67 e68 e69 e70 e71 e72 e73
                  refine rest_nil ?_
                  refine wpList_nil ?_
                  simp only [Exit.then, Act.put, List.setIfInBounds_toArray, List.set_cons_zero, List.set_cons_succ]
                  refine to_met (by assumption) ?_
                  go_meet
                  exact ⟨congrArg Value.bool (by rw [headOk_t _ _ _ hS]; rfl), hE⟩
                | false =>
                  cases cr with
                  | true =>
                    refine wp_region_any (by kernel_rfl) ?_
                    refine region_ext [(fun vv _ => vv = .slice (some ⟨ug, uo, none⟩) U.length uc), (fun vv _ => vv = .int .i64 k), (fun vv _ => vv = .pointer (some ⟨ug, uo + k, none⟩)), (fun vv _ => vv = .string X), (fun vv _ => vv = .pointer (some ⟨sb, 2, none⟩)), (fun vv _ => vv = hv), (fun vv _ => vv = .bool false), (fun vv _ => vv = .bool true), (fun vv _ => vv = .bool true), (fun vv _ => vv = .bool true), (fun vv _ => vv = .bool true), (fun vv _ => vv = undef), (fun vv _ => vv = undef), (fun vv _ => vv = undef), (fun vv _ => vv = undef), (fun vv _ => vv = undef), (fun vv _ => vv = .bool true), (fun vv _ => vv = .bool true), (fun vv _ => vv = undef), (fun vv _ => vv = undef), (fun vv _ => vv = undef), (fun vv _ => vv = undef), (fun vv _ => vv = .bool true), (fun vv _ => vv = .bool true)]
                      [[], [], [(0, 50), (1, 51)], [(2, 52)], [], [(4, 54)], [(3, 53), (5, 55)], [(6, 56)], [(7, 57)], [(8, 58)], [(8, 58), (9, 59)], [(10, 60)], [(10, 60)], [(10, 60), (11, 61), (12, 62)], [(10, 60), (13, 63)], [(10, 60), (14, 64)], [(8, 58), (10, 60), (15, 65)], [(8, 58), (16, 66)], [(17, 67)], [(17, 67), (18, 68)], [(17, 67), (19, 69)], [(17, 67), (20, 70)], [(8, 58), (17, 67), (21, 71)], [(8, 58), (22, 72)]]
                      [none, none, none, none, none, none, none, none, none, some (58, true), some (58, true), some (60, false), some (60, false), some (60, false), some (60, false), some (60, false), some (58, true), some (58, true), some (67, false), some (67, false), some (67, false), some (67, false), some (58, true), none]
                      [some 50, some 51, some 52, some 53, some 54, some 55, some 56, some 57, some 58, some 59, some 60, some 61, some 62, some 63, some 64, some 65, some 66, some 67, some 68, some 69, some 70, some 71, some 72, some 73] 24 (by kernel_rfl) (by kernel_rfl) (by kernel_rfl) rfl (by kernel_rfl) ?_ ?_ ?_
                    · exact ⟨fun _ _ _ _ h => h, fun _ _ _ _ h => h, fun _ _ _ _ h => h, fun _ _ _ _ h => h, fun _ _ _ _ h => h, fun _ _ _ _ h => h, fun _ _ _ _ h => h, fun _ _ _ _ h => h, fun _ _ _ _ h => h, fun _ _ _ _ h => h, fun _ _ _ _ h => h, fun _ _ _ _ h => h, fun _ _ _ _ h => h, fun _ _ _ _ h => h, fun _ _ _ _ h => h, fun _ _ _ _ h => h, fun _ _ _ _ h => h, fun _ _ _ _ h => h, fun _ _ _ _ h => h, fun _ _ _ _ h => h, fun _ _ _ _ h => h, fun _ _ _ _ h => h, fun _ _ _ _ h => h, fun _ _ _ _ h => h, trivial⟩
                    · refine ⟨fun ρ wx _ hx _ => gives_move (hx (.tmp 9) (by simp)), fun ρ wx _ hx _ => gives_move (hx (.tmp 10) (by simp)), ?_, ?_, ?_, ?_, ?_, ?_, fun ρ wx _ _ hd => gives_move hd.1, ?_, ?_, fun ρ wx _ _ hd => .inr ⟨off_t hd.1, rfl⟩, fun ρ wx _ _ hd => .inr ⟨off_t hd.1, rfl⟩, fun ρ wx _ _ hd => .inr ⟨off_t hd.1, rfl⟩, fun ρ wx _ _ hd => .inr ⟨off_t hd.1, rfl⟩, fun ρ wx _ _ hd => .inr ⟨off_t hd.1, rfl⟩, ?_, ?_, fun ρ wx _ _ hd => .inr ⟨off_t hd.1, rfl⟩, fun ρ wx _ _ hd => .inr ⟨off_t hd.1, rfl⟩, fun ρ wx _ _ hd => .inr ⟨off_t hd.1, rfl⟩, fun ρ wx _ _ hd => .inr ⟨off_t hd.1, rfl⟩, ?_, ?_, trivial⟩
                      · intro ρ wx hE hx hd
                        replace hE := Ext.undrew hE
                        have e50 : ρ (.tmp 50) = .slice (some ⟨ug, uo, none⟩) U.length uc := hd.1
                        have e51 : ρ (.tmp 51) = .int .i64 k := hd.2.1
                        exact gives_val (G := fun vv _ => vv = .pointer (some ⟨ug, uo + k, none⟩)) (v := .pointer (some ⟨ug, uo + k, none⟩)) (by simp [execOp, e50, e51, hq0, hq1, go_sem]) rfl
                      · intro ρ wx hE hx hd
                        replace hE := Ext.undrew hE
                        have e52 : ρ (.tmp 52) = .pointer (some ⟨ug, uo + k, none⟩) := hd.1
                        have hcl := ext_cell hE dx
                        exact gives_val (G := fun vv _ => vv = .string X) (v := .string X) (by simp [execOp, e52, hcl, go_sem]) rfl
                      · intro ρ wx hE hx hd
                        replace hE := Ext.undrew hE
                        have e4 : ρ (.tmp 4) = .pointer (some ⟨sb, 0, none⟩) := hx (.tmp 4) (by simp)
                        exact gives_val (G := fun vv _ => vv = .pointer (some ⟨sb, 2, none⟩)) (v := .pointer (some ⟨sb, 2, none⟩)) (by simp [execOp, e4, go_sem]) rfl
                      · intro ρ wx hE hx hd
                        replace hE := Ext.undrew hE
                        have e54 : ρ (.tmp 54) = .pointer (some ⟨sb, 2, none⟩) := hd.1
                        have hcl := ext_cell hE d2r
                        exact gives_val (G := fun vv _ => vv = hv) (v := hv) (by simp [execOp, e54, hcl, go_sem]) rfl
                      · intro ρ wx hE hx hd
                        replace hE := Ext.undrew hE
                        have e53 : ρ (.tmp 53) = .string X := hd.1
                        have e55 : ρ (.tmp 55) = hv := hd.2.1
                        have hf : ∀ f, ρ (.func f) = .func (.func f) #[] #[] := fun f => (hx (.func f) (by simp)).trans rfl
                        refine gives_call (G := fun v _ => v = .bool false) (by simp [execOp, e53, e55, hf, go_sem] <;> first | exact ⟨rfl, rfl⟩ | exact rfl) (call_below ((samein_any X hs hv _ wx (hVM.out wx hE) (by omega) HXS.out HHX.out).mono fun _ _ h => ⟨by rw [h.1, HXX.out, hS], h.2⟩))
                      · intro ρ wx hE hx hd
                        replace hE := Ext.undrew hE
                        have e56 : ρ (.tmp 56) = .bool false := hd.1
                        exact gives_val (G := fun vv _ => vv = .bool true) (v := .bool true) (by simp [execOp, e56, go_sem]) rfl
                      · intro ρ wx hE hx hd
                        replace hE := Ext.undrew hE
                        have e58 : ρ (.tmp 58) = .bool true := hd.1
                        have e3 : ρ (.tmp 3) = .bool true := hx (.tmp 3) (by simp)
                        refine .inl ⟨e58, ?_⟩
                        exact gives_val (G := fun vv _ => vv = .bool true) (v := .bool true) (by simp [execOp, e58, e3, go_sem]) rfl
                      · intro ρ wx hE hx hd
                        replace hE := Ext.undrew hE
                        have e58 : ρ (.tmp 58) = .bool true := hd.1
                        have e59 : ρ (.tmp 59) = .bool true := hd.2.1
                        refine .inl ⟨e58, ?_⟩
                        exact gives_val (G := fun vv _ => vv = .bool true) (v := .bool true) (by simp [execOp, e58, e59, go_sem]) rfl
                      · intro ρ wx hE hx hd
                        replace hE := Ext.undrew hE
                        have e58 : ρ (.tmp 58) = .bool true := hd.1
                        have e60 : ρ (.tmp 60) = .bool true := hd.2.1
                        have e65 : ρ (.tmp 65) = undef := hd.2.2.1
                        have hk : ∀ v, ρ (.const v) = v := fun v => (hx (.const v) (by simp)).trans rfl
                        refine .inl ⟨e58, ?_⟩
                        exact gives_val (G := fun vv _ => vv = .bool true) (v := .bool true) (by simp [execOp, e58, e60, e65, hk, go_sem]) rfl
                      · intro ρ wx hE hx hd
                        replace hE := Ext.undrew hE
                        have e58 : ρ (.tmp 58) = .bool true := hd.1
                        have e66 : ρ (.tmp 66) = .bool true := hd.2.1
                        refine .inl ⟨e58, ?_⟩
                        exact gives_val (G := fun vv _ => vv = .bool true) (v := .bool true) (by simp [execOp, e58, e66, go_sem]) rfl
                      · intro ρ wx hE hx hd
                        replace hE := Ext.undrew hE
                        have e58 : ρ (.tmp 58) = .bool true := hd.1
                        have e67 : ρ (.tmp 67) = .bool true := hd.2.1
                        have e71 : ρ (.tmp 71) = undef := hd.2.2.1
                        have hk : ∀ v, ρ (.const v) = v := fun v => (hx (.const v) (by simp)).trans rfl
                        refine .inl ⟨e58, ?_⟩
                        exact gives_val (G := fun vv _ => vv = .bool true) (v := .bool true) (by simp [execOp, e58, e67, e71, hk, go_sem]) rfl
                      · intro ρ wx hE hx hd
                        replace hE := Ext.undrew hE
                        have e58 : ρ (.tmp 58) = .bool true := hd.1
                        have e72 : ρ (.tmp 72) = .bool true := hd.2.1
                        have hk : ∀ v, ρ (.const v) = v := fun v => (hx (.const v) (by simp)).trans rfl
                        exact gives_val (G := fun vv _ => vv = .bool true) (v := .bool true) (by simp [execOp, e58, e72, hk, go_sem]) rfl
                    intro wx hE
                    refine fun v50 (e50 : v50 = .slice (some ⟨ug, uo, none⟩) U.length uc) => ?_
                    refine fun v51 (e51 : v51 = .int .i64 k) => ?_
                    refine fun v52 (e52 : v52 = .pointer (some ⟨ug, uo + k, none⟩)) => ?_
                    refine fun v53 (e53 : v53 = .string X) => ?_
                    refine fun v54 (e54 : v54 = .pointer (some ⟨sb, 2, none⟩)) => ?_
                    refine fun v55 (e55 : v55 = hv) => ?_
                    refine fun v56 (e56 : v56 = .bool false) => ?_
                    refine fun v57 (e57 : v57 = .bool true) => ?_
                    refine fun v58 (e58 : v58 = .bool true) => ?_
                    refine fun v59 (e59 : v59 = .bool true) => ?_
                    refine fun v60 (e60 : v60 = .bool true) => ?_
                    refine fun v61 (e61 : v61 = undef) => ?_
                    refine fun v62 (e62 : v62 = undef) => ?_
                    refine fun v63 (e63 : v63 = undef) => ?_
                    refine fun v64 (e64 : v64 = undef) => ?_
                    refine fun v65 (e65 : v65 = undef) => ?_
                    refine fun v66 (e66 : v66 = .bool true) => ?_
                    refine fun v67 (e67 : v67 = .bool true) => ?_
                    refine fun v68 (e68 : v68 = undef) => ?_
                    refine fun v69 (e69 : v69 = undef) => ?_
                    refine fun v70 (e70 : v70 = undef) => ?_
                    refine fun v71 (e71 : v71 = undef) => ?_
                    refine fun v72 (e72 : v72 = .bool true) => ?_
                    refine fun v73 (e73 : v73 = .bool true) => ?_
                    subst e50 e51 e52 e53 e54 e55 e56 e57 e58 e59 e60 e61 e62 e63 e64 e65 e66 e67 e68 e69 e70 e71 e72 e73
                    refine rest_nil ?_
                    refine wpList_nil ?_
                    simp only [Exit.then, Act.put, List.setIfInBounds_toArray, List.set_cons_zero, List.set_cons_succ]
                    refine to_met (by assumption) ?_
                    go_meet
                    exact ⟨congrArg Value.bool (by rw [headOk_c _ _ hS]; rfl), hE⟩
                  | false =>
                    cases hA0 : (x == authT) with
                    | true =>
                      have hA : (X.toList == [97, 117, 116, 104, 111, 114, 105, 122, 97, 116, 105, 111, 110]) = true := by rw [toList_toL, HXX.out]; exact hA0
                      refine wp_region_any (by kernel_rfl) ?_
                      refine region_ext [(fun vv _ => vv = .slice (some ⟨ug, uo, none⟩) U.length uc), (fun vv _ => vv = .int .i64 k), (fun vv _ => vv = .pointer (some ⟨ug, uo + k, none⟩)), (fun vv _ => vv = .string X), (fun vv _ => vv = .pointer (some ⟨sb, 2, none⟩)), (fun vv _ => vv = hv), (fun vv _ => vv = .bool false), (fun vv _ => vv = .bool true), (fun vv _ => vv = .bool true), (fun vv _ => vv = .bool false), (fun vv _ => vv = .bool false), (fun vv _ => vv = .slice (some ⟨ug, uo, none⟩) U.length uc), (fun vv _ => vv = .int .i64 k), (fun vv _ => vv = .pointer (some ⟨ug, uo + k, none⟩)), (fun vv _ => vv = .string X), (fun vv _ => vv = .bool true), (fun vv _ => vv = .bool true), (fun vv _ => vv = .bool true), (fun vv _ => vv = undef), (fun vv _ => vv = undef), (fun vv _ => vv = undef), (fun vv _ => vv = undef), (fun vv _ => vv = .bool true), (fun vv _ => vv = .bool true)]
                        [[], [], [(0, 50), (1, 51)], [(2, 52)], [], [(4, 54)], [(3, 53), (5, 55)], [(6, 56)], [(7, 57)], [(8, 58)], [(8, 58), (9, 59)], [(10, 60)], [(10, 60)], [(10, 60), (11, 61), (12, 62)], [(10, 60), (13, 63)], [(10, 60), (14, 64)], [(8, 58), (10, 60), (15, 65)], [(8, 58), (16, 66)], [(17, 67)], [(17, 67), (18, 68)], [(17, 67), (19, 69)], [(17, 67), (20, 70)], [(8, 58), (17, 67), (21, 71)], [(8, 58), (22, 72)]]
                        [none, none, none, none, none, none, none, none, none, some (58, true), some (58, true), some (60, false), some (60, false), some (60, false), some (60, false), some (60, false), some (58, true), some (58, true), some (67, false), some (67, false), some (67, false), some (67, false), some (58, true), none]
                        [some 50, some 51, some 52, some 53, some 54, some 55, some 56, some 57, some 58, some 59, some 60, some 61, some 62, some 63, some 64, some 65, some 66, some 67, some 68, some 69, some 70, some 71, some 72, some 73] 24 (by kernel_rfl) (by kernel_rfl) (by kernel_rfl) rfl (by kernel_rfl) ?_ ?_ ?_
                      · exact ⟨fun _ _ _ _ h => h, fun _ _ _ _ h => h, fun _ _ _ _ h => h, fun _ _ _ _ h => h, fun _ _ _ _ h => h, fun _ _ _ _ h => h, fun _ _ _ _ h => h, fun _ _ _ _ h => h, fun _ _ _ _ h => h, fun _ _ _ _ h => h, fun _ _ _ _ h => h, fun _ _ _ _ h => h, fun _ _ _ _ h => h, fun _ _ _ _ h => h, fun _ _ _ _ h => h, fun _ _ _ _ h => h, fun _ _ _ _ h => h, fun _ _ _ _ h => h, fun _ _ _ _ h => h, fun _ _ _ _ h => h, fun _ _ _ _ h => h, fun _ _ _ _ h => h, fun _ _ _ _ h => h, fun _ _ _ _ h => h, trivial⟩
                      · refine ⟨fun ρ wx _ hx _ => gives_move (hx (.tmp 9) (by simp)), fun ρ wx _ hx _ => gives_move (hx (.tmp 10) (by simp)), ?_, ?_, ?_, ?_, ?_, ?_, fun ρ wx _ _ hd => gives_move hd.1, ?_, ?_, ?_, ?_, ?_, ?_, ?_, ?_, ?_, fun ρ wx _ _ hd => .inr ⟨off_t hd.1, rfl⟩, fun ρ wx _ _ hd => .inr ⟨off_t hd.1, rfl⟩, fun ρ wx _ _ hd => .inr ⟨off_t hd.1, rfl⟩, fun ρ wx _ _ hd => .inr ⟨off_t hd.1, rfl⟩, ?_, ?_, trivial⟩
                        · intro ρ wx hE hx hd
                          replace hE := Ext.undrew hE
                          have e50 : ρ (.tmp 50) = .slice (some ⟨ug, uo, none⟩) U.length uc := hd.1
                          have e51 : ρ (.tmp 51) = .int .i64 k := hd.2.1
                          exact gives_val (G := fun vv _ => vv = .pointer (some ⟨ug, uo + k, none⟩)) (v := .pointer (some ⟨ug, uo + k, none⟩)) (by simp [execOp, e50, e51, hq0, hq1, go_sem]) rfl
                        · intro ρ wx hE hx hd
                          replace hE := Ext.undrew hE
                          have e52 : ρ (.tmp 52) = .pointer (some ⟨ug, uo + k, none⟩) := hd.1
                          have hcl := ext_cell hE dx
                          exact gives_val (G := fun vv _ => vv = .string X) (v := .string X) (by simp [execOp, e52, hcl, go_sem]) rfl
                        · intro ρ wx hE hx hd
                          replace hE := Ext.undrew hE
                          have e4 : ρ (.tmp 4) = .pointer (some ⟨sb, 0, none⟩) := hx (.tmp 4) (by simp)
                          exact gives_val (G := fun vv _ => vv = .pointer (some ⟨sb, 2, none⟩)) (v := .pointer (some ⟨sb, 2, none⟩)) (by simp [execOp, e4, go_sem]) rfl
                        · intro ρ wx hE hx hd
                          replace hE := Ext.undrew hE
                          have e54 : ρ (.tmp 54) = .pointer (some ⟨sb, 2, none⟩) := hd.1
                          have hcl := ext_cell hE d2r
                          exact gives_val (G := fun vv _ => vv = hv) (v := hv) (by simp [execOp, e54, hcl, go_sem]) rfl
                        · intro ρ wx hE hx hd
                          replace hE := Ext.undrew hE
                          have e53 : ρ (.tmp 53) = .string X := hd.1
                          have e55 : ρ (.tmp 55) = hv := hd.2.1
                          have hf : ∀ f, ρ (.func f) = .func (.func f) #[] #[] := fun f => (hx (.func f) (by simp)).trans rfl
                          refine gives_call (G := fun v _ => v = .bool false) (by simp [execOp, e53, e55, hf, go_sem] <;> first | exact ⟨rfl, rfl⟩ | exact rfl) (call_below ((samein_any X hs hv _ wx (hVM.out wx hE) (by omega) HXS.out HHX.out).mono fun _ _ h => ⟨by rw [h.1, HXX.out, hS], h.2⟩))
                        · intro ρ wx hE hx hd
                          replace hE := Ext.undrew hE
                          have e56 : ρ (.tmp 56) = .bool false := hd.1
                          exact gives_val (G := fun vv _ => vv = .bool true) (v := .bool true) (by simp [execOp, e56, go_sem]) rfl
                        · intro ρ wx hE hx hd
                          replace hE := Ext.undrew hE
                          have e58 : ρ (.tmp 58) = .bool true := hd.1
                          have e3 : ρ (.tmp 3) = .bool false := hx (.tmp 3) (by simp)
                          refine .inl ⟨e58, ?_⟩
                          exact gives_val (G := fun vv _ => vv = .bool false) (v := .bool false) (by simp [execOp, e58, e3, go_sem]) rfl
                        · intro ρ wx hE hx hd
                          replace hE := Ext.undrew hE
                          have e58 : ρ (.tmp 58) = .bool true := hd.1
                          have e59 : ρ (.tmp 59) = .bool false := hd.2.1
                          refine .inl ⟨e58, ?_⟩
                          exact gives_val (G := fun vv _ => vv = .bool false) (v := .bool false) (by simp [execOp, e58, e59, go_sem]) rfl
                        · intro ρ wx hE hx hd
                          replace hE := Ext.undrew hE
                          have e60 : ρ (.tmp 60) = .bool false := hd.1
                          have e9 : ρ (.tmp 9) = .slice (some ⟨ug, uo, none⟩) U.length uc := hx (.tmp 9) (by simp)
                          refine .inl ⟨e60, ?_⟩
                          exact gives_val (G := fun vv _ => vv = .slice (some ⟨ug, uo, none⟩) U.length uc) (v := .slice (some ⟨ug, uo, none⟩) U.length uc) (by simp [execOp, e60, e9, go_sem]) rfl
                        · intro ρ wx hE hx hd
                          replace hE := Ext.undrew hE
                          have e60 : ρ (.tmp 60) = .bool false := hd.1
                          have e10 : ρ (.tmp 10) = .int .i64 k := hx (.tmp 10) (by simp)
                          refine .inl ⟨e60, ?_⟩
                          exact gives_val (G := fun vv _ => vv = .int .i64 k) (v := .int .i64 k) (by simp [execOp, e60, e10, go_sem]) rfl
                        · intro ρ wx hE hx hd
                          replace hE := Ext.undrew hE
                          have e60 : ρ (.tmp 60) = .bool false := hd.1
                          have e61 : ρ (.tmp 61) = .slice (some ⟨ug, uo, none⟩) U.length uc := hd.2.1
                          have e62 : ρ (.tmp 62) = .int .i64 k := hd.2.2.1
                          refine .inl ⟨e60, ?_⟩
                          exact gives_val (G := fun vv _ => vv = .pointer (some ⟨ug, uo + k, none⟩)) (v := .pointer (some ⟨ug, uo + k, none⟩)) (by simp [execOp, e60, e61, e62, hq0, hq1, go_sem]) rfl
                        · intro ρ wx hE hx hd
                          replace hE := Ext.undrew hE
                          have e60 : ρ (.tmp 60) = .bool false := hd.1
                          have e63 : ρ (.tmp 63) = .pointer (some ⟨ug, uo + k, none⟩) := hd.2.1
                          refine .inl ⟨e60, ?_⟩
                          have hcl := ext_cell hE dx
                          exact gives_val (G := fun vv _ => vv = .string X) (v := .string X) (by simp [execOp, e60, e63, hcl, go_sem]) rfl
                        · intro ρ wx hE hx hd
                          replace hE := Ext.undrew hE
                          have e60 : ρ (.tmp 60) = .bool false := hd.1
                          have e64 : ρ (.tmp 64) = .string X := hd.2.1
                          have hk : ∀ v, ρ (.const v) = v := fun v => (hx (.const v) (by simp)).trans rfl
                          refine .inl ⟨e60, ?_⟩
                          exact gives_val (G := fun vv _ => vv = .bool true) (v := .bool true) (by simp [execOp, e60, e64, hk, hA, go_sem]) rfl
                        · intro ρ wx hE hx hd
                          replace hE := Ext.undrew hE
                          have e58 : ρ (.tmp 58) = .bool true := hd.1
                          have e60 : ρ (.tmp 60) = .bool false := hd.2.1
                          have e65 : ρ (.tmp 65) = .bool true := hd.2.2.1
                          have hk : ∀ v, ρ (.const v) = v := fun v => (hx (.const v) (by simp)).trans rfl
                          refine .inl ⟨e58, ?_⟩
                          exact gives_val (G := fun vv _ => vv = .bool true) (v := .bool true) (by simp [execOp, e58, e60, e65, hk, go_sem]) rfl
                        · intro ρ wx hE hx hd
                          replace hE := Ext.undrew hE
                          have e58 : ρ (.tmp 58) = .bool true := hd.1
                          have e66 : ρ (.tmp 66) = .bool true := hd.2.1
                          refine .inl ⟨e58, ?_⟩
                          exact gives_val (G := fun vv _ => vv = .bool true) (v := .bool true) (by simp [execOp, e58, e66, go_sem]) rfl
                        · intro ρ wx hE hx hd
                          replace hE := Ext.undrew hE
                          have e58 : ρ (.tmp 58) = .bool true := hd.1
                          have e67 : ρ (.tmp 67) = .bool true := hd.2.1
                          have e71 : ρ (.tmp 71) = undef := hd.2.2.1
                          have hk : ∀ v, ρ (.const v) = v := fun v => (hx (.const v) (by simp)).trans rfl
                          refine .inl ⟨e58, ?_⟩
                          exact gives_val (G := fun vv _ => vv = .bool true) (v := .bool true) (by simp [execOp, e58, e67, e71, hk, go_sem]) rfl
                        · intro ρ wx hE hx hd
                          replace hE := Ext.undrew hE
                          have e58 : ρ (.tmp 58) = .bool true := hd.1
                          have e72 : ρ (.tmp 72) = .bool true := hd.2.1
                          have hk : ∀ v, ρ (.const v) = v := fun v => (hx (.const v) (by simp)).trans rfl
                          exact gives_val (G := fun vv _ => vv = .bool true) (v := .bool true) (by simp [execOp, e58, e72, hk, go_sem]) rfl
                      intro wx hE
                      refine fun v50 (e50 : v50 = .slice (some ⟨ug, uo, none⟩) U.length uc) => ?_
                      refine fun v51 (e51 : v51 = .int .i64 k) => ?_
                      refine fun v52 (e52 : v52 = .pointer (some ⟨ug, uo + k, none⟩)) => ?_
                      refine fun v53 (e53 : v53 = .string X) => ?_
                      refine fun v54 (e54 : v54 = .pointer (some ⟨sb, 2, none⟩)) => ?_
                      refine fun v55 (e55 : v55 = hv) => ?_
                      refine fun v56 (e56 : v56 = .bool false) => ?_
                      refine fun v57 (e57 : v57 = .bool true) => ?_
                      refine fun v58 (e58 : v58 = .bool true) => ?_
                      refine fun v59 (e59 : v59 = .bool false) => ?_
                      refine fun v60 (e60 : v60 = .bool false) => ?_
                      refine fun v61 (e61 : v61 = .slice (some ⟨ug, uo, none⟩) U.length uc) => ?_
                      refine fun v62 (e62 : v62 = .int .i64 k) => ?_
                      refine fun v63 (e63 : v63 = .pointer (some ⟨ug, uo + k, none⟩)) => ?_
                      refine fun v64 (e64 : v64 = .string X) => ?_
                      refine fun v65 (e65 : v65 = .bool true) => ?_
                      refine fun v66 (e66 : v66 = .bool true) => ?_
                      refine fun v67 (e67 : v67 = .bool true) => ?_
                      refine fun v68 (e68 : v68 = undef) => ?_
                      refine fun v69 (e69 : v69 = undef) => ?_
                      refine fun v70 (e70 : v70 = undef) => ?_
                      refine fun v71 (e71 : v71 = undef) => ?_
                      refine fun v72 (e72 : v72 = .bool true) => ?_
                      refine fun v73 (e73 : v73 = .bool true) => ?_
                      subst e50 e51 e52 e53 e54 e55 e56 e57 e58 e59 e60 e61 e62 e63 e64 e65 e66 e67 e68 e69 e70 e71 e72 e73
                      refine rest_nil ?_
                      refine wpList_nil ?_
                      simp only [Exit.then, Act.put, List.setIfInBounds_toArray, List.set_cons_zero, List.set_cons_succ]
                      refine to_met (by assumption) ?_
                      go_meet
                      exact ⟨congrArg Value.bool (by rw [headOk_a _ _ hS hA0]; rfl), hE⟩
                    | false =>
                      have hA : (X.toList == [97, 117, 116, 104, 111, 114, 105, 122, 97, 116, 105, 111, 110]) = false := by rw [toList_toL, HXX.out]; exact hA0
                      cases hB : decide (starT ∈ hs) with
                      | true =>
                        refine wp_region_any (by kernel_rfl) ?_
                        refine region_ext [(fun vv _ => vv = .slice (some ⟨ug, uo, none⟩) U.length uc), (fun vv _ => vv = .int .i64 k), (fun vv _ => vv = .pointer (some ⟨ug, uo + k, none⟩)), (fun vv _ => vv = .string X), (fun vv _ => vv = .pointer (some ⟨sb, 2, none⟩)), (fun vv _ => vv = hv), (fun vv _ => vv = .bool false), (fun vv _ => vv = .bool true), (fun vv _ => vv = .bool true), (fun vv _ => vv = .bool false), (fun vv _ => vv = .bool false), (fun vv _ => vv = .slice (some ⟨ug, uo, none⟩) U.length uc), (fun vv _ => vv = .int .i64 k), (fun vv _ => vv = .pointer (some ⟨ug, uo + k, none⟩)), (fun vv _ => vv = .string X), (fun vv _ => vv = .bool false), (fun vv _ => vv = .bool false), (fun vv _ => vv = .bool false), (fun vv _ => vv = .pointer (some ⟨sb, 2, none⟩)), (fun vv _ => vv = hv), (fun vv _ => vv = .bool true), (fun vv _ => vv = .bool false), (fun vv _ => vv = .bool false), (fun vv _ => vv = .bool false)]
                          [[], [], [(0, 50), (1, 51)], [(2, 52)], [], [(4, 54)], [(3, 53), (5, 55)], [(6, 56)], [(7, 57)], [(8, 58)], [(8, 58), (9, 59)], [(10, 60)], [(10, 60)], [(10, 60), (11, 61), (12, 62)], [(10, 60), (13, 63)], [(10, 60), (14, 64)], [(8, 58), (10, 60), (15, 65)], [(8, 58), (16, 66)], [(17, 67)], [(17, 67), (18, 68)], [(17, 67), (19, 69)], [(17, 67), (20, 70)], [(8, 58), (17, 67), (21, 71)], [(8, 58), (22, 72)]]
                          [none, none, none, none, none, none, none, none, none, some (58, true), some (58, true), some (60, false), some (60, false), some (60, false), some (60, false), some (60, false), some (58, true), some (58, true), some (67, false), some (67, false), some (67, false), some (67, false), some (58, true), none]
                          [some 50, some 51, some 52, some 53, some 54, some 55, some 56, some 57, some 58, some 59, some 60, some 61, some 62, some 63, some 64, some 65, some 66, some 67, some 68, some 69, some 70, some 71, some 72, some 73] 24 (by kernel_rfl) (by kernel_rfl) (by kernel_rfl) rfl (by kernel_rfl) ?_ ?_ ?_
                        · exact ⟨fun _ _ _ _ h => h, fun _ _ _ _ h => h, fun _ _ _ _ h => h, fun _ _ _ _ h => h, fun _ _ _ _ h => h, fun _ _ _ _ h => h, fun _ _ _ _ h => h, fun _ _ _ _ h => h, fun _ _ _ _ h => h, fun _ _ _ _ h => h, fun _ _ _ _ h => h, fun _ _ _ _ h => h, fun _ _ _ _ h => h, fun _ _ _ _ h => h, fun _ _ _ _ h => h, fun _ _ _ _ h => h, fun _ _ _ _ h => h, fun _ _ _ _ h => h, fun _ _ _ _ h => h, fun _ _ _ _ h => h, fun _ _ _ _ h => h, fun _ _ _ _ h => h, fun _ _ _ _ h => h, fun _ _ _ _ h => h, trivial⟩
                        · refine ⟨fun ρ wx _ hx _ => gives_move (hx (.tmp 9) (by simp)), fun ρ wx _ hx _ => gives_move (hx (.tmp 10) (by simp)), ?_, ?_, ?_, ?_, ?_, ?_, fun ρ wx _ _ hd => gives_move hd.1, ?_, ?_, ?_, ?_, ?_, ?_, ?_, ?_, ?_, ?_, ?_, ?_, ?_, ?_, ?_, trivial⟩
                          · intro ρ wx hE hx hd
                            replace hE := Ext.undrew hE
                            have e50 : ρ (.tmp 50) = .slice (some ⟨ug, uo, none⟩) U.length uc := hd.1
                            have e51 : ρ (.tmp 51) = .int .i64 k := hd.2.1
                            exact gives_val (G := fun vv _ => vv = .pointer (some ⟨ug, uo + k, none⟩)) (v := .pointer (some ⟨ug, uo + k, none⟩)) (by simp [execOp, e50, e51, hq0, hq1, go_sem]) rfl
                          · intro ρ wx hE hx hd
                            replace hE := Ext.undrew hE
                            have e52 : ρ (.tmp 52) = .pointer (some ⟨ug, uo + k, none⟩) := hd.1
                            have hcl := ext_cell hE dx
                            exact gives_val (G := fun vv _ => vv = .string X) (v := .string X) (by simp [execOp, e52, hcl, go_sem]) rfl
                          · intro ρ wx hE hx hd
                            replace hE := Ext.undrew hE
                            have e4 : ρ (.tmp 4) = .pointer (some ⟨sb, 0, none⟩) := hx (.tmp 4) (by simp)
                            exact gives_val (G := fun vv _ => vv = .pointer (some ⟨sb, 2, none⟩)) (v := .pointer (some ⟨sb, 2, none⟩)) (by simp [execOp, e4, go_sem]) rfl
                          · intro ρ wx hE hx hd
                            replace hE := Ext.undrew hE
                            have e54 : ρ (.tmp 54) = .pointer (some ⟨sb, 2, none⟩) := hd.1
                            have hcl := ext_cell hE d2r
                            exact gives_val (G := fun vv _ => vv = hv) (v := hv) (by simp [execOp, e54, hcl, go_sem]) rfl
                          · intro ρ wx hE hx hd
                            replace hE := Ext.undrew hE
                            have e53 : ρ (.tmp 53) = .string X := hd.1
                            have e55 : ρ (.tmp 55) = hv := hd.2.1
                            have hf : ∀ f, ρ (.func f) = .func (.func f) #[] #[] := fun f => (hx (.func f) (by simp)).trans rfl
                            refine gives_call (G := fun v _ => v = .bool false) (by simp [execOp, e53, e55, hf, go_sem] <;> first | exact ⟨rfl, rfl⟩ | exact rfl) (call_below ((samein_any X hs hv _ wx (hVM.out wx hE) (by omega) HXS.out HHX.out).mono fun _ _ h => ⟨by rw [h.1, HXX.out, hS], h.2⟩))
                          · intro ρ wx hE hx hd
                            replace hE := Ext.undrew hE
                            have e56 : ρ (.tmp 56) = .bool false := hd.1
                            exact gives_val (G := fun vv _ => vv = .bool true) (v := .bool true) (by simp [execOp, e56, go_sem]) rfl
                          · intro ρ wx hE hx hd
                            replace hE := Ext.undrew hE
                            have e58 : ρ (.tmp 58) = .bool true := hd.1
                            have e3 : ρ (.tmp 3) = .bool false := hx (.tmp 3) (by simp)
                            refine .inl ⟨e58, ?_⟩
                            exact gives_val (G := fun vv _ => vv = .bool false) (v := .bool false) (by simp [execOp, e58, e3, go_sem]) rfl
                          · intro ρ wx hE hx hd
                            replace hE := Ext.undrew hE
                            have e58 : ρ (.tmp 58) = .bool true := hd.1
                            have e59 : ρ (.tmp 59) = .bool false := hd.2.1
                            refine .inl ⟨e58, ?_⟩
                            exact gives_val (G := fun vv _ => vv = .bool false) (v := .bool false) (by simp [execOp, e58, e59, go_sem]) rfl
                          · intro ρ wx hE hx hd
                            replace hE := Ext.undrew hE
                            have e60 : ρ (.tmp 60) = .bool false := hd.1
                            have e9 : ρ (.tmp 9) = .slice (some ⟨ug, uo, none⟩) U.length uc := hx (.tmp 9) (by simp)
                            refine .inl ⟨e60, ?_⟩
                            exact gives_val (G := fun vv _ => vv = .slice (some ⟨ug, uo, none⟩) U.length uc) (v := .slice (some ⟨ug, uo, none⟩) U.length uc) (by simp [execOp, e60, e9, go_sem]) rfl
                          · intro ρ wx hE hx hd
                            replace hE := Ext.undrew hE
                            have e60 : ρ (.tmp 60) = .bool false := hd.1
                            have e10 : ρ (.tmp 10) = .int .i64 k := hx (.tmp 10) (by simp)
                            refine .inl ⟨e60, ?_⟩
                            exact gives_val (G := fun vv _ => vv = .int .i64 k) (v := .int .i64 k) (by simp [execOp, e60, e10, go_sem]) rfl
                          · intro ρ wx hE hx hd
                            replace hE := Ext.undrew hE
                            have e60 : ρ (.tmp 60) = .bool false := hd.1
                            have e61 : ρ (.tmp 61) = .slice (some ⟨ug, uo, none⟩) U.length uc := hd.2.1
                            have e62 : ρ (.tmp 62) = .int .i64 k := hd.2.2.1
                            refine .inl ⟨e60, ?_⟩
                            exact gives_val (G := fun vv _ => vv = .pointer (some ⟨ug, uo + k, none⟩)) (v := .pointer (some ⟨ug, uo + k, none⟩)) (by simp [execOp, e60, e61, e62, hq0, hq1, go_sem]) rfl
                          · intro ρ wx hE hx hd
                            replace hE := Ext.undrew hE
                            have e60 : ρ (.tmp 60) = .bool false := hd.1
                            have e63 : ρ (.tmp 63) = .pointer (some ⟨ug, uo + k, none⟩) := hd.2.1
                            refine .inl ⟨e60, ?_⟩
                            have hcl := ext_cell hE dx
                            exact gives_val (G := fun vv _ => vv = .string X) (v := .string X) (by simp [execOp, e60, e63, hcl, go_sem]) rfl
                          · intro ρ wx hE hx hd
                            replace hE := Ext.undrew hE
                            have e60 : ρ (.tmp 60) = .bool false := hd.1
                            have e64 : ρ (.tmp 64) = .string X := hd.2.1
                            have hk : ∀ v, ρ (.const v) = v := fun v => (hx (.const v) (by simp)).trans rfl
                            refine .inl ⟨e60, ?_⟩
                            exact gives_val (G := fun vv _ => vv = .bool false) (v := .bool false) (by simp [execOp, e60, e64, hk, hA, go_sem]) rfl
                          · intro ρ wx hE hx hd
                            replace hE := Ext.undrew hE
                            have e58 : ρ (.tmp 58) = .bool true := hd.1
                            have e60 : ρ (.tmp 60) = .bool false := hd.2.1
                            have e65 : ρ (.tmp 65) = .bool false := hd.2.2.1
                            have hk : ∀ v, ρ (.const v) = v := fun v => (hx (.const v) (by simp)).trans rfl
                            refine .inl ⟨e58, ?_⟩
                            exact gives_val (G := fun vv _ => vv = .bool false) (v := .bool false) (by simp [execOp, e58, e60, e65, hk, go_sem]) rfl
                          · intro ρ wx hE hx hd
                            replace hE := Ext.undrew hE
                            have e58 : ρ (.tmp 58) = .bool true := hd.1
                            have e66 : ρ (.tmp 66) = .bool false := hd.2.1
                            refine .inl ⟨e58, ?_⟩
                            exact gives_val (G := fun vv _ => vv = .bool false) (v := .bool false) (by simp [execOp, e58, e66, go_sem]) rfl
                          · intro ρ wx hE hx hd
                            replace hE := Ext.undrew hE
                            have e67 : ρ (.tmp 67) = .bool false := hd.1
                            have e4 : ρ (.tmp 4) = .pointer (some ⟨sb, 0, none⟩) := hx (.tmp 4) (by simp)
                            refine .inl ⟨e67, ?_⟩
                            exact gives_val (G := fun vv _ => vv = .pointer (some ⟨sb, 2, none⟩)) (v := .pointer (some ⟨sb, 2, none⟩)) (by simp [execOp, e67, e4, go_sem]) rfl
                          · intro ρ wx hE hx hd
                            replace hE := Ext.undrew hE
                            have e67 : ρ (.tmp 67) = .bool false := hd.1
                            have e68 : ρ (.tmp 68) = .pointer (some ⟨sb, 2, none⟩) := hd.2.1
                            refine .inl ⟨e67, ?_⟩
                            have hcl := ext_cell hE d2r
                            exact gives_val (G := fun vv _ => vv = hv) (v := hv) (by simp [execOp, e67, e68, hcl, go_sem]) rfl
                          · intro ρ wx hE hx hd
                            replace hE := Ext.undrew hE
                            have e67 : ρ (.tmp 67) = .bool false := hd.1
                            have e69 : ρ (.tmp 69) = hv := hd.2.1
                            have hk : ∀ v, ρ (.const v) = v := fun v => (hx (.const v) (by simp)).trans rfl
                            have hf : ∀ f, ρ (.func f) = .func (.func f) #[] #[] := fun f => (hx (.func f) (by simp)).trans rfl
                            refine .inl ⟨e67, ?_⟩
                            refine gives_call (G := fun v _ => v = .bool true) (by simp [execOp, e69, hf, hk, go_sem] <;> first | exact ⟨rfl, rfl⟩ | exact rfl) (call_same ((rin_any ⟨#[42]⟩ hs hv _ wx (hVM.out wx hE) hhl).mono fun _ _ h => ⟨by rw [h.1, show toL ⟨#[42]⟩ = starT from rfl, hB], h.2⟩))
                          · intro ρ wx hE hx hd
                            replace hE := Ext.undrew hE
                            have e67 : ρ (.tmp 67) = .bool false := hd.1
                            have e70 : ρ (.tmp 70) = .bool true := hd.2.1
                            refine .inl ⟨e67, ?_⟩
                            exact gives_val (G := fun vv _ => vv = .bool false) (v := .bool false) (by simp [execOp, e67, e70, go_sem]) rfl
                          · intro ρ wx hE hx hd
                            replace hE := Ext.undrew hE
                            have e58 : ρ (.tmp 58) = .bool true := hd.1
                            have e67 : ρ (.tmp 67) = .bool false := hd.2.1
                            have e71 : ρ (.tmp 71) = .bool false := hd.2.2.1
                            have hk : ∀ v, ρ (.const v) = v := fun v => (hx (.const v) (by simp)).trans rfl
                            refine .inl ⟨e58, ?_⟩
                            exact gives_val (G := fun vv _ => vv = .bool false) (v := .bool false) (by simp [execOp, e58, e67, e71, hk, go_sem]) rfl
                          · intro ρ wx hE hx hd
                            replace hE := Ext.undrew hE
                            have e58 : ρ (.tmp 58) = .bool true := hd.1
                            have e72 : ρ (.tmp 72) = .bool false := hd.2.1
                            have hk : ∀ v, ρ (.const v) = v := fun v => (hx (.const v) (by simp)).trans rfl
                            exact gives_val (G := fun vv _ => vv = .bool false) (v := .bool false) (by simp [execOp, e58, e72, hk, go_sem]) rfl
                        intro wx hE
                        refine fun v50 (e50 : v50 = .slice (some ⟨ug, uo, none⟩) U.length uc) => ?_
                        refine fun v51 (e51 : v51 = .int .i64 k) => ?_
                        refine fun v52 (e52 : v52 = .pointer (some ⟨ug, uo + k, none⟩)) => ?_
                        refine fun v53 (e53 : v53 = .string X) => ?_
                        refine fun v54 (e54 : v54 = .pointer (some ⟨sb, 2, none⟩)) => ?_
                        refine fun v55 (e55 : v55 = hv) => ?_
                        refine fun v56 (e56 : v56 = .bool false) => ?_
                        refine fun v57 (e57 : v57 = .bool true) => ?_
                        refine fun v58 (e58 : v58 = .bool true) => ?_
                        refine fun v59 (e59 : v59 = .bool false) => ?_
                        refine fun v60 (e60 : v60 = .bool false) => ?_
                        refine fun v61 (e61 : v61 = .slice (some ⟨ug, uo, none⟩) U.length uc) => ?_
                        refine fun v62 (e62 : v62 = .int .i64 k) => ?_
                        refine fun v63 (e63 : v63 = .pointer (some ⟨ug, uo + k, none⟩)) => ?_
                        refine fun v64 (e64 : v64 = .string X) => ?_
                        refine fun v65 (e65 : v65 = .bool false) => ?_
                        refine fun v66 (e66 : v66 = .bool false) => ?_
                        refine fun v67 (e67 : v67 = .bool false) => ?_
                        refine fun v68 (e68 : v68 = .pointer (some ⟨sb, 2, none⟩)) => ?_
                        refine fun v69 (e69 : v69 = hv) => ?_
                        refine fun v70 (e70 : v70 = .bool true) => ?_
                        refine fun v71 (e71 : v71 = .bool false) => ?_
                        refine fun v72 (e72 : v72 = .bool false) => ?_
                        refine fun v73 (e73 : v73 = .bool false) => ?_
                        subst e50 e51 e52 e53 e54 e55 e56 e57 e58 e59 e60 e61 e62 e63 e64 e65 e66 e67 e68 e69 e70 e71 e72 e73
                        refine rest_nil ?_
                        refine wpList_nil ?_
                        simp only [Exit.then, Act.put, List.setIfInBounds_toArray, List.set_cons_zero, List.set_cons_succ]
                        refine to_met (by assumption) ?_
                        go_meet
                        exact ⟨congrArg Value.bool (by rw [headOk_b _ _ true hS hA0 hB]; rfl), hE⟩
                      | false =>
                        refine wp_region_any (by kernel_rfl) ?_
                        refine region_ext [(fun vv _ => vv = .slice (some ⟨ug, uo, none⟩) U.length uc), (fun vv _ => vv = .int .i64 k), (fun vv _ => vv = .pointer (some ⟨ug, uo + k, none⟩)), (fun vv _ => vv = .string X), (fun vv _ => vv = .pointer (some ⟨sb, 2, none⟩)), (fun vv _ => vv = hv), (fun vv _ => vv = .bool false), (fun vv _ => vv = .bool true), (fun vv _ => vv = .bool true), (fun vv _ => vv = .bool false), (fun vv _ => vv = .bool false), (fun vv _ => vv = .slice (some ⟨ug, uo, none⟩) U.length uc), (fun vv _ => vv = .int .i64 k), (fun vv _ => vv = .pointer (some ⟨ug, uo + k, none⟩)), (fun vv _ => vv = .string X), (fun vv _ => vv = .bool false), (fun vv _ => vv = .bool false), (fun vv _ => vv = .bool false), (fun vv _ => vv = .pointer (some ⟨sb, 2, none⟩)), (fun vv _ => vv = hv), (fun vv _ => vv = .bool false), (fun vv _ => vv = .bool true), (fun vv _ => vv = .bool true), (fun vv _ => vv = .bool true)]
                          [[], [], [(0, 50), (1, 51)], [(2, 52)], [], [(4, 54)], [(3, 53), (5, 55)], [(6, 56)], [(7, 57)], [(8, 58)], [(8, 58), (9, 59)], [(10, 60)], [(10, 60)], [(10, 60), (11, 61), (12, 62)], [(10, 60), (13, 63)], [(10, 60), (14, 64)], [(8, 58), (10, 60), (15, 65)], [(8, 58), (16, 66)], [(17, 67)], [(17, 67), (18, 68)], [(17, 67), (19, 69)], [(17, 67), (20, 70)], [(8, 58), (17, 67), (21, 71)], [(8, 58), (22, 72)]]
                          [none, none, none, none, none, none, none, none, none, some (58, true), some (58, true), some (60, false), some (60, false), some (60, false), some (60, false), some (60, false), some (58, true), some (58, true), some (67, false), some (67, false), some (67, false), some (67, false), some (58, true), none]
                          [some 50, some 51, some 52, some 53, some 54, some 55, some 56, some 57, some 58, some 59, some 60, some 61, some 62, some 63, some 64, some 65, some 66, some 67, some 68, some 69, some 70, some 71, some 72, some 73] 24 (by kernel_rfl) (by kernel_rfl) (by kernel_rfl) rfl (by kernel_rfl) ?_ ?_ ?_
                        · exact ⟨fun _ _ _ _ h => h, fun _ _ _ _ h => h, fun _ _ _ _ h => h, fun _ _ _ _ h => h, fun _ _ _ _ h => h, fun _ _ _ _ h => h, fun _ _ _ _ h => h, fun _ _ _ _ h => h, fun _ _ _ _ h => h, fun _ _ _ _ h => h, fun _ _ _ _ h => h, fun _ _ _ _ h => h, fun _ _ _ _ h => h, fun _ _ _ _ h => h, fun _ _ _ _ h => h, fun _ _ _ _ h => h, fun _ _ _ _ h => h, fun _ _ _ _ h => h, fun _ _ _ _ h => h, fun _ _ _ _ h => h, fun _ _ _ _ h => h, fun _ _ _ _ h => h, fun _ _ _ _ h => h, fun _ _ _ _ h => h, trivial⟩
                        · refine ⟨fun ρ wx _ hx _ => gives_move (hx (.tmp 9) (by simp)), fun ρ wx _ hx _ => gives_move (hx (.tmp 10) (by simp)), ?_, ?_, ?_, ?_, ?_, ?_, fun ρ wx _ _ hd => gives_move hd.1, ?_, ?_, ?_, ?_, ?_, ?_, ?_, ?_, ?_, ?_, ?_, ?_, ?_, ?_, ?_, trivial⟩
                          · intro ρ wx hE hx hd
                            replace hE := Ext.undrew hE
                            have e50 : ρ (.tmp 50) = .slice (some ⟨ug, uo, none⟩) U.length uc := hd.1
                            have e51 : ρ (.tmp 51) = .int .i64 k := hd.2.1
                            exact gives_val (G := fun vv _ => vv = .pointer (some ⟨ug, uo + k, none⟩)) (v := .pointer (some ⟨ug, uo + k, none⟩)) (by simp [execOp, e50, e51, hq0, hq1, go_sem]) rfl
                          · intro ρ wx hE hx hd
                            replace hE := Ext.undrew hE
                            have e52 : ρ (.tmp 52) = .pointer (some ⟨ug, uo + k, none⟩) := hd.1
                            have hcl := ext_cell hE dx
                            exact gives_val (G := fun vv _ => vv = .string X) (v := .string X) (by simp [execOp, e52, hcl, go_sem]) rfl
                          · intro ρ wx hE hx hd
                            replace hE := Ext.undrew hE
                            have e4 : ρ (.tmp 4) = .pointer (some ⟨sb, 0, none⟩) := hx (.tmp 4) (by simp)
                            exact gives_val (G := fun vv _ => vv = .pointer (some ⟨sb, 2, none⟩)) (v := .pointer (some ⟨sb, 2, none⟩)) (by simp [execOp, e4, go_sem]) rfl
                          · intro ρ wx hE hx hd
                            replace hE := Ext.undrew hE
                            have e54 : ρ (.tmp 54) = .pointer (some ⟨sb, 2, none⟩) := hd.1
                            have hcl := ext_cell hE d2r
                            exact gives_val (G := fun vv _ => vv = hv) (v := hv) (by simp [execOp, e54, hcl, go_sem]) rfl
                          · intro ρ wx hE hx hd
                            replace hE := Ext.undrew hE
                            have e53 : ρ (.tmp 53) = .string X := hd.1
                            have e55 : ρ (.tmp 55) = hv := hd.2.1
                            have hf : ∀ f, ρ (.func f) = .func (.func f) #[] #[] := fun f => (hx (.func f) (by simp)).trans rfl
                            refine gives_call (G := fun v _ => v = .bool false) (by simp [execOp, e53, e55, hf, go_sem] <;> first | exact ⟨rfl, rfl⟩ | exact rfl) (call_below ((samein_any X hs hv _ wx (hVM.out wx hE) (by omega) HXS.out HHX.out).mono fun _ _ h => ⟨by rw [h.1, HXX.out, hS], h.2⟩))
                          · intro ρ wx hE hx hd
                            replace hE := Ext.undrew hE
                            have e56 : ρ (.tmp 56) = .bool false := hd.1
                            exact gives_val (G := fun vv _ => vv = .bool true) (v := .bool true) (by simp [execOp, e56, go_sem]) rfl
                          · intro ρ wx hE hx hd
                            replace hE := Ext.undrew hE
                            have e58 : ρ (.tmp 58) = .bool true := hd.1
                            have e3 : ρ (.tmp 3) = .bool false := hx (.tmp 3) (by simp)
                            refine .inl ⟨e58, ?_⟩
                            exact gives_val (G := fun vv _ => vv = .bool false) (v := .bool false) (by simp [execOp, e58, e3, go_sem]) rfl
                          · intro ρ wx hE hx hd
                            replace hE := Ext.undrew hE
                            have e58 : ρ (.tmp 58) = .bool true := hd.1
                            have e59 : ρ (.tmp 59) = .bool false := hd.2.1
                            refine .inl ⟨e58, ?_⟩
                            exact gives_val (G := fun vv _ => vv = .bool false) (v := .bool false) (by simp [execOp, e58, e59, go_sem]) rfl
                          · intro ρ wx hE hx hd
                            replace hE := Ext.undrew hE
                            have e60 : ρ (.tmp 60) = .bool false := hd.1
                            have e9 : ρ (.tmp 9) = .slice (some ⟨ug, uo, none⟩) U.length uc := hx (.tmp 9) (by simp)
                            refine .inl ⟨e60, ?_⟩
                            exact gives_val (G := fun vv _ => vv = .slice (some ⟨ug, uo, none⟩) U.length uc) (v := .slice (some ⟨ug, uo, none⟩) U.length uc) (by simp [execOp, e60, e9, go_sem]) rfl
                          · intro ρ wx hE hx hd
                            replace hE := Ext.undrew hE
                            have e60 : ρ (.tmp 60) = .bool false := hd.1
                            have e10 : ρ (.tmp 10) = .int .i64 k := hx (.tmp 10) (by simp)
                            refine .inl ⟨e60, ?_⟩
                            exact gives_val (G := fun vv _ => vv = .int .i64 k) (v := .int .i64 k) (by simp [execOp, e60, e10, go_sem]) rfl
                          · intro ρ wx hE hx hd
                            replace hE := Ext.undrew hE
                            have e60 : ρ (.tmp 60) = .bool false := hd.1
                            have e61 : ρ (.tmp 61) = .slice (some ⟨ug, uo, none⟩) U.length uc := hd.2.1
                            have e62 : ρ (.tmp 62) = .int .i64 k := hd.2.2.1
                            refine .inl ⟨e60, ?_⟩
                            exact gives_val (G := fun vv _ => vv = .pointer (some ⟨ug, uo + k, none⟩)) (v := .pointer (some ⟨ug, uo + k, none⟩)) (by simp [execOp, e60, e61, e62, hq0, hq1, go_sem]) rfl
                          · intro ρ wx hE hx hd
                            replace hE := Ext.undrew hE
                            have e60 : ρ (.tmp 60) = .bool false := hd.1
                            have e63 : ρ (.tmp 63) = .pointer (some ⟨ug, uo + k, none⟩) := hd.2.1
                            refine .inl ⟨e60, ?_⟩
                            have hcl := ext_cell hE dx
                            exact gives_val (G := fun vv _ => vv = .string X) (v := .string X) (by simp [execOp, e60, e63, hcl, go_sem]) rfl
                          · intro ρ wx hE hx hd
                            replace hE := Ext.undrew hE
                            have e60 : ρ (.tmp 60) = .bool false := hd.1
                            have e64 : ρ (.tmp 64) = .string X := hd.2.1
                            have hk : ∀ v, ρ (.const v) = v := fun v => (hx (.const v) (by simp)).trans rfl
                            refine .inl ⟨e60, ?_⟩
                            exact gives_val (G := fun vv _ => vv = .bool false) (v := .bool false) (by simp [execOp, e60, e64, hk, hA, go_sem]) rfl
                          · intro ρ wx hE hx hd
                            replace hE := Ext.undrew hE
                            have e58 : ρ (.tmp 58) = .bool true := hd.1
                            have e60 : ρ (.tmp 60) = .bool false := hd.2.1
                            have e65 : ρ (.tmp 65) = .bool false := hd.2.2.1
                            have hk : ∀ v, ρ (.const v) = v := fun v => (hx (.const v) (by simp)).trans rfl
                            refine .inl ⟨e58, ?_⟩
                            exact gives_val (G := fun vv _ => vv = .bool false) (v := .bool false) (by simp [execOp, e58, e60, e65, hk, go_sem]) rfl
                          · intro ρ wx hE hx hd
                            replace hE := Ext.undrew hE
                            have e58 : ρ (.tmp 58) = .bool true := hd.1
                            have e66 : ρ (.tmp 66) = .bool false := hd.2.1
                            refine .inl ⟨e58, ?_⟩
                            exact gives_val (G := fun vv _ => vv = .bool false) (v := .bool false) (by simp [execOp, e58, e66, go_sem]) rfl
                          · intro ρ wx hE hx hd
                            replace hE := Ext.undrew hE
                            have e67 : ρ (.tmp 67) = .bool false := hd.1
                            have e4 : ρ (.tmp 4) = .pointer (some ⟨sb, 0, none⟩) := hx (.tmp 4) (by simp)
                            refine .inl ⟨e67, ?_⟩
                            exact gives_val (G := fun vv _ => vv = .pointer (some ⟨sb, 2, none⟩)) (v := .pointer (some ⟨sb, 2, none⟩)) (by simp [execOp, e67, e4, go_sem]) rfl
                          · intro ρ wx hE hx hd
                            replace hE := Ext.undrew hE
                            have e67 : ρ (.tmp 67) = .bool false := hd.1
                            have e68 : ρ (.tmp 68) = .pointer (some ⟨sb, 2, none⟩) := hd.2.1
                            refine .inl ⟨e67, ?_⟩
                            have hcl := ext_cell hE d2r
                            exact gives_val (G := fun vv _ => vv = hv) (v := hv) (by simp [execOp, e67, e68, hcl, go_sem]) rfl
                          · intro ρ wx hE hx hd
                            replace hE := Ext.undrew hE
                            have e67 : ρ (.tmp 67) = .bool false := hd.1
                            have e69 : ρ (.tmp 69) = hv := hd.2.1
                            have hk : ∀ v, ρ (.const v) = v := fun v => (hx (.const v) (by simp)).trans rfl
                            have hf : ∀ f, ρ (.func f) = .func (.func f) #[] #[] := fun f => (hx (.func f) (by simp)).trans rfl
                            refine .inl ⟨e67, ?_⟩
                            refine gives_call (G := fun v _ => v = .bool false) (by simp [execOp, e69, hf, hk, go_sem] <;> first | exact ⟨rfl, rfl⟩ | exact rfl) (call_same ((rin_any ⟨#[42]⟩ hs hv _ wx (hVM.out wx hE) hhl).mono fun _ _ h => ⟨by rw [h.1, show toL ⟨#[42]⟩ = starT from rfl, hB], h.2⟩))
                          · intro ρ wx hE hx hd
                            replace hE := Ext.undrew hE
                            have e67 : ρ (.tmp 67) = .bool false := hd.1
                            have e70 : ρ (.tmp 70) = .bool false := hd.2.1
                            refine .inl ⟨e67, ?_⟩
                            exact gives_val (G := fun vv _ => vv = .bool true) (v := .bool true) (by simp [execOp, e67, e70, go_sem]) rfl
                          · intro ρ wx hE hx hd
                            replace hE := Ext.undrew hE
                            have e58 : ρ (.tmp 58) = .bool true := hd.1
                            have e67 : ρ (.tmp 67) = .bool false := hd.2.1
                            have e71 : ρ (.tmp 71) = .bool true := hd.2.2.1
                            have hk : ∀ v, ρ (.const v) = v := fun v => (hx (.const v) (by simp)).trans rfl
                            refine .inl ⟨e58, ?_⟩
                            exact gives_val (G := fun vv _ => vv = .bool true) (v := .bool true) (by simp [execOp, e58, e67, e71, hk, go_sem]) rfl
                          · intro ρ wx hE hx hd
                            replace hE := Ext.undrew hE
                            have e58 : ρ (.tmp 58) = .bool true := hd.1
                            have e72 : ρ (.tmp 72) = .bool true := hd.2.1
                            have hk : ∀ v, ρ (.const v) = v := fun v => (hx (.const v) (by simp)).trans rfl
                            exact gives_val (G := fun vv _ => vv = .bool true) (v := .bool true) (by simp [execOp, e58, e72, hk, go_sem]) rfl
                        intro wx hE
                        refine fun v50 (e50 : v50 = .slice (some ⟨ug, uo, none⟩) U.length uc) => ?_
                        refine fun v51 (e51 : v51 = .int .i64 k) => ?_
                        refine fun v52 (e52 : v52 = .pointer (some ⟨ug, uo + k, none⟩)) => ?_
                        refine fun v53 (e53 : v53 = .string X) => ?_
                        refine fun v54 (e54 : v54 = .pointer (some ⟨sb, 2, none⟩)) => ?_
                        refine fun v55 (e55 : v55 = hv) => ?_
                        refine fun v56 (e56 : v56 = .bool false) => ?_
                        refine fun v57 (e57 : v57 = .bool true) => ?_
                        refine fun v58 (e58 : v58 = .bool true) => ?_
                        refine fun v59 (e59 : v59 = .bool false) => ?_
                        refine fun v60 (e60 : v60 = .bool false) => ?_
                        refine fun v61 (e61 : v61 = .slice (some ⟨ug, uo, none⟩) U.length uc) => ?_
                        refine fun v62 (e62 : v62 = .int .i64 k) => ?_
                        refine fun v63 (e63 : v63 = .pointer (some ⟨ug, uo + k, none⟩)) => ?_
                        refine fun v64 (e64 : v64 = .string X) => ?_
                        refine fun v65 (e65 : v65 = .bool false) => ?_
                        refine fun v66 (e66 : v66 = .bool false) => ?_
                        refine fun v67 (e67 : v67 = .bool false) => ?_
                        refine fun v68 (e68 : v68 = .pointer (some ⟨sb, 2, none⟩)) => ?_
                        refine fun v69 (e69 : v69 = hv) => ?_
                        refine fun v70 (e70 : v70 = .bool false) => ?_
                        refine fun v71 (e71 : v71 = .bool true) => ?_
                        refine fun v72 (e72 : v72 = .bool true) => ?_
                        refine fun v73 (e73 : v73 = .bool true) => ?_
                        subst e50 e51 e52 e53 e54 e55 e56 e57 e58 e59 e60 e61 e62 e63 e64 e65 e66 e67 e68 e69 e70 e71 e72 e73
                        refine rest_nil ?_
                        refine wpList_nil ?_
                        simp only [Exit.then, Act.put, List.setIfInBounds_toArray, List.set_cons_zero, List.set_cons_succ]
                        refine to_met (by assumption) ?_
                        go_meet
                        exact ⟨congrArg Value.bool (by rw [headOk_b _ _ false hS hA0 hB]; rfl), hE⟩

              case rest =>
                obtain ⟨rfl, hE2⟩ := hcut
                have HE2 : Hid (Ext w2 wc) := Lib.hid (HER.out.trans hE2)
                clear hE2
                cases hho : headOk hs cr x with
                | true =>
                  have HHO := Lib.hid hho
                  clear hho
                  go_wp2_with fail
                  go_roundw
                  case rel =>
                    refine ⟨k + 1, by omega, by go_num, fun y hy => ?_, HE2.out⟩
                    rcases (HTK.out y).1 hy with h | rfl
                    · exact HALL.out y h
                    · exact HHO.out
                  case measure => simp [intOf]; omega
                | false =>
                  have HHO := Lib.hid hho
                  clear hho
                  go_wp2_with fail
                  go_ret
                  refine hR _ _ ⟨ret_bool ?_, Ext.then HB2.out HE2.out (Nat.le_refl _)⟩
                  rw [HAL.out]
                  exact (List.all_eq_false.2 ⟨x, HXM.out, by rw [HHO.out]; decide⟩).symm
            · obtain rfl : k = U.length := by omega
              rw [List.take_length] at HALL
              go_wp2_with fail
              go_ret
              refine hR _ _ ⟨ret_bool ?_, Ext.then HB2.out HER.out (Nat.le_refl _)⟩
              rw [HAL.out, List.all_eq_true.2 HALL.out]

end Go.Proofs.YtalbadmefpdldaaDoor.Asc
