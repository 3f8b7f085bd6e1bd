/-
  The law parapetlaw26.HttpEnds answers true.
  The library's MaxLen is a number.
-/
import Derived.Test.YtaihjnicondifaaDoorHtS
namespace Go.Proofs.YtaihjnicondifaaDoor.Asc
open Go Go.RowKit Go.Proofs.YtaihjnicondifaaDoor.Pb

def endsS : List UInt8 := [71, 69, 84, 32, 47, 97, 98, 99, 32, 72, 84, 84, 80, 47, 49, 46, 49, 13, 10, 72, 111, 115, 116, 58, 32, 97, 13, 10, 88, 58, 32, 121, 122, 13, 10]
def endsT (j : Nat) (c : UInt8) : List UInt8 := ((endsS.take j ++ [c]) ++ endsS.drop j) ++ [13, 10]
def endsC (j : Nat) : Bool := decide (endsS[j]? = some 13) || decide (endsS[j]? = some 10) || (decide (0 < j) && decide (endsS[j - 1]? = some 13))
theorem ends_all : ∀ o : Bool, ∀ j : Fin 35, endsC j.val = true ∨ ((feedN {} (endsT j.val (if o then 10 else 13))).2 = [badI 400] ∧ (feedN {} (endsT j.val (if o then 10 else 13))).1.over = true) := by decide +kernel

set_option maxRecDepth 20000 in
set_option maxHeartbeats 8000000 in
theorem ends_walk (k lone : Int) (h1 : -9223372036854775808 ≤ lone) (h2 : lone ≤ 9223372036854775807) (m : Int) (w : World) (hm : MaxLen m w) :
    Calls Tryd.prog 9 #[.int .i64 k, .int .i64 lone] w fun e w' => e = .returned (.bool true) ∧ Below w.heap.size w w' := by
  refine calls_gen fun R hR => ?_
  have HM := Lib.hid hm
  clear hm
  go_enter Tryd.func9, Tryd.ntmps9
  go_upto_region 2 with fail
  obtain ⟨SB, hSB⟩ : ∃ X : ByteArray, ⟨#[71, 69, 84, 32, 47, 97, 98, 99, 32, 72, 84, 84, 80, 47, 49, 46, 49, 13, 10, 72, 111, 115, 116, 58, 32, 97, 13, 10, 88, 58, 32, 121, 122, 13, 10]⟩ = X := ⟨_, rfl⟩
  have HT : Hid (toL SB = endsS) := Lib.hid (by rw [← hSB]; rfl)
  have HSZ : Hid (SB.size = 35) := Lib.hid (by rw [← hSB]; rfl)
  rw [hSB]
  clear hSB
  go_wp2_with fail
  rw [HSZ.out]
  refine (round_any k 35 (by decide) (by decide) w).mono ?_
  rintro e w' ⟨rfl, rfl⟩
  have hj1 := Int.emod_nonneg k (show (35 : Int) ≠ 0 by decide)
  have hj2 := Int.emod_lt_of_pos k (show (0 : Int) < 35 by decide)
  obtain ⟨j, hj⟩ := Int.eq_ofNat_of_zero_le hj1
  rw [hj] at hj2 ⊢
  have hj35 : j < 35 := by omega
  clear hj hj1
  have hlt : j < SB.size := by rw [HSZ.out]; exact hj35
  have hszi : (SB.size : Int) = 35 := by rw [HSZ.out]; rfl
  obtain ⟨x, hx⟩ : ∃ x, SB[j]'hlt = x := ⟨_, rfl⟩
  have HX : Hid (endsS[j]? = some x) := Lib.hid (by rw [← HT.out, getD_toL SB j hlt, hx])
  have HAW : Hid (Calls Tryd.prog 11 #[] w fun e w' => e = .returned (.bool true) ∧ Below w.heap.size w w') := Lib.hid (awake_any w m HM.out)
  cases b1 : ((x.toNat : Int) == 13) with
  | true =>
    go_wp2_with fail
    refine HAW.out.mono ?_
    rintro e w3 ⟨rfl, hb3⟩
    go_wp2_with fail
    go_ret
    exact hR _ _ ⟨rfl, hb3⟩
  | false =>
  cases b2 : ((x.toNat : Int) == 10) with
  | true =>
    go_wp2_with fail
    refine HAW.out.mono ?_
    rintro e w3 ⟨rfl, hb3⟩
    go_wp2_with fail
    go_ret
    exact hR _ _ ⟨rfl, hb3⟩
  | false =>
  have HB1 : Hid (¬ endsS[j]? = some 13) := Lib.hid (by
    rw [HX.out]; intro e; cases e; revert b1; decide)
  have HB2 : Hid (¬ endsS[j]? = some 10) := Lib.hid (by
    rw [HX.out]; intro e; cases e; revert b2; decide)
  by_cases hp : (j : Int) > 0
  · have hp1 : (0 : Int) ≤ (j : Int) - 1 := by omega
    have hp2 : (j : Int) - 1 < (SB.size : Int) := by omega
    have hp3 : ((j : Int) - 1).toNat = j - 1 := by omega
    have hlt2 : j - 1 < SB.size := by omega
    obtain ⟨y, hy⟩ : ∃ y, SB[j - 1]'hlt2 = y := ⟨_, rfl⟩
    have HY : Hid (endsS[j - 1]? = some y) := Lib.hid (by rw [← HT.out, getD_toL SB (j - 1) hlt2, hy])
    cases b4 : ((y.toNat : Int) == 13) with
    | true =>
      go_wp2_with fail
      refine HAW.out.mono ?_
      rintro e w3 ⟨rfl, hb3⟩
      go_wp2_with fail
      go_ret
      exact hR _ _ ⟨rfl, hb3⟩
    | false =>
    have HB3 : Hid (¬ endsS[j - 1]? = some 13) := Lib.hid (by
      rw [HY.out]; intro e; cases e; revert b4; decide)
    have HC : Hid (endsC j = false) := Lib.hid (by unfold endsC; simp [HB1.out, HB2.out]; exact fun _ => HB3.out)
    cases bl : (lone.tmod 2 == 0) with
    | true =>
      have HF := Lib.hid ((ends_all true ⟨j, hj35⟩).resolve_left (by rw [show endsC (⟨j, hj35⟩ : Fin 35).val = false from HC.out]; decide))
      have HFE : Hid (∀ Y : ByteArray, toL Y = endsT j 10 → ((∃ x : It, (feedN {} (toL Y)).2 = [x] ∧ x.st = 400) ∧ (feedN {} (toL Y)).1.over = true) ∧ Y.size ≤ 100000) := Lib.hid fun Y hY => by
        refine ⟨by rw [hY]; exact ⟨⟨_, HF.out.1, rfl⟩, HF.out.2⟩, ?_⟩
        rw [← toL_len, hY]
        have hl : endsS.length = 35 := rfl
        simp only [endsT, List.length_append, List.length_take, List.length_drop, List.length_cons, List.length_nil, hl]; omega
      clear HF
      have hje : (j : Int) ≤ (SB.size : Int) := by omega
      have hj0 : (0 : Int) ≤ (j : Int) := by omega
      have hjn : j ≤ SB.size := by omega
      have hxs : (SB.extract 0 j).size ≤ 100 := by rw [ByteArray.size_extract]; omega
      have hys : (SB.extract j SB.size).size ≤ 100 := by rw [ByteArray.size_extract]; omega
      have HEQ : Hid (toL (((SB.extract 0 j ++ ⟨#[10]⟩) ++ SB.extract j SB.size) ++ ⟨#[13, 10]⟩) = endsT j 10) := Lib.hid (by
        simp only [toL_cat, extract_cut, toL_ofL, HT.out]
        unfold endsT cut
        rw [List.drop_zero, HSZ.out]; rfl)
      obtain ⟨X, hX⟩ : ∃ X, SB.extract 0 j = X := ⟨_, rfl⟩
      obtain ⟨Z, hZ⟩ : ∃ X, SB.extract j SB.size = X := ⟨_, rfl⟩
      rw [hX] at hxs HEQ
      rw [hZ] at hys HEQ
      have q1 : X.size ≤ 9223372036854775806 := by omega
      have q2 : X.size + 1 + Z.size ≤ 9223372036854775807 := by omega
      have q3 : X.size + 1 + Z.size ≤ 9223372036854775805 := by omega
      go_upto_region 8 with fail
      refine wp_region_any (by kernel_rfl) ?_
      refine region_ext [(fun vv _ => vv = .string SB), (fun vv _ => vv = .int .i64 j), (fun vv _ => vv = .string X), (fun vv _ => vv = .string ⟨#[10]⟩), (fun vv _ => vv = .string (X ++ ⟨#[10]⟩)), (fun vv _ => vv = .string SB), (fun vv _ => vv = .int .i64 j), (fun vv _ => vv = .string Z), (fun vv _ => vv = .string (X ++ ⟨#[10]⟩ ++ Z)), (fun vv _ => vv = .string (X ++ ⟨#[10]⟩ ++ Z ++ ⟨#[13, 10]⟩)), (fun v w => OneSt 400 true v w), (fun v w => OneSt 400 true v w), (fun v w => OneRow 400 v w), (fun vv _ => vv = .bool true), (fun v w => OneRow 400 v w), (fun vv _ => vv = .bool true)]
        [[], [], [(0, 39), (1, 40)], [], [(2, 41), (3, 42)], [], [], [(5, 44), (6, 45)], [(4, 43), (7, 46)], [(8, 47)], [(9, 48)], [(10, 49)], [(11, 38)], [(11, 38)], [(12, 50)], [(13, 51)]]
        [none, none, none, none, none, none, none, none, none, none, none, none, none, none, none, none]
        [some 39, some 40, some 41, some 42, some 43, some 44, some 45, some 46, some 47, some 48, some 49, some 38, some 50, some 51, some 7, some 8] 16 (by kernel_rfl) (by kernel_rfl) (by kernel_rfl) rfl (by kernel_rfl) ?_ ?_ ?_
      · exact ⟨fun _ _ _ _ h => h, fun _ _ _ _ h => h, fun _ _ _ _ h => h, fun _ _ _ _ h => h, fun _ _ _ _ h => h, fun _ _ _ _ h => h, fun _ _ _ _ h => h, fun _ _ _ _ h => h, fun _ _ _ _ h => h, fun _ _ _ _ h => h, (fun _ _ _ h k => k.last h), (fun _ _ _ h k => k.last h), (fun _ _ _ h k => k.last h), fun _ _ _ _ h => h, (fun _ _ _ h k => k.last h), fun _ _ _ _ h => h, trivial⟩
      · refine ⟨fun ρ wx _ hx _ => gives_move (hx (.tmp 5) (by simp)), fun ρ wx _ hx _ => gives_move (hx (.tmp 0) (by simp)), ?_, fun ρ wx _ hx _ => gives_move (hx (.tmp 6) (by simp)), ?_, fun ρ wx _ hx _ => gives_move (hx (.tmp 5) (by simp)), fun ρ wx _ hx _ => gives_move (hx (.tmp 0) (by simp)), ?_, ?_, ?_, ?_, fun ρ wx _ _ hd => gives_moveP (G := fun v w => OneSt 400 true v w) hd.1, ?_, ?_, fun ρ wx _ _ hd => gives_assignP (G := fun v w => OneRow 400 v w) hd.1, fun ρ wx _ _ hd => gives_assign hd.1, trivial⟩
        · intro ρ wx hE hx hd
          replace hE := Ext.undrew hE
          have e39 : ρ (.tmp 39) = .string SB := hd.1
          have e40 : ρ (.tmp 40) = .int .i64 j := hd.2.1
          exact gives_val (G := fun vv _ => vv = .string X) (v := .string X) (by simp [execOp, e39, e40, hje, hj0, hjn, hX, go_sem]) rfl
        · intro ρ wx hE hx hd
          replace hE := Ext.undrew hE
          have e41 : ρ (.tmp 41) = .string X := hd.1
          have e42 : ρ (.tmp 42) = .string ⟨#[10]⟩ := hd.2.1
          exact gives_val (G := fun vv _ => vv = .string (X ++ ⟨#[10]⟩)) (v := .string (X ++ ⟨#[10]⟩)) (by simp [execOp, e41, e42, q1, go_sem]) rfl
        · intro ρ wx hE hx hd
          replace hE := Ext.undrew hE
          have e44 : ρ (.tmp 44) = .string SB := hd.1
          have e45 : ρ (.tmp 45) = .int .i64 j := hd.2.1
          exact gives_val (G := fun vv _ => vv = .string Z) (v := .string Z) (by simp [execOp, e44, e45, hje, hj0, hjn, hZ, go_sem]) rfl
        · intro ρ wx hE hx hd
          replace hE := Ext.undrew hE
          have e43 : ρ (.tmp 43) = .string (X ++ ⟨#[10]⟩) := hd.1
          have e46 : ρ (.tmp 46) = .string Z := hd.2.1
          exact gives_val (G := fun vv _ => vv = .string (X ++ ⟨#[10]⟩ ++ Z)) (v := .string (X ++ ⟨#[10]⟩ ++ Z)) (by simp [execOp, e43, e46, q2, go_sem]) rfl
        · intro ρ wx hE hx hd
          replace hE := Ext.undrew hE
          have e47 : ρ (.tmp 47) = .string (X ++ ⟨#[10]⟩ ++ Z) := hd.1
          have hk : ∀ v, ρ (.const v) = v := fun v => (hx (.const v) (by simp)).trans rfl
          exact gives_val (G := fun vv _ => vv = .string (X ++ ⟨#[10]⟩ ++ Z ++ ⟨#[13, 10]⟩)) (v := .string (X ++ ⟨#[10]⟩ ++ Z ++ ⟨#[13, 10]⟩)) (by simp [execOp, e47, hk, q3, go_sem]) rfl
        · intro ρ wx hE hx hd
          replace hE := Ext.undrew hE
          have e48 : ρ (.tmp 48) = .string (X ++ ⟨#[10]⟩ ++ Z ++ ⟨#[13, 10]⟩) := hd.1
          have hk : ∀ v, ρ (.const v) = v := fun v => (hx (.const v) (by simp)).trans rfl
          have hf : ∀ f, ρ (.func f) = .func (.func f) #[] #[] := fun f => (hx (.func f) (by simp)).trans rfl
          refine gives_call (G := fun v w => OneSt 400 true v w) (by simp [execOp, e48, hk, hf, go_sem] <;> first | exact ⟨rfl, rfl⟩ | exact rfl) ((feed_one _ 100 (by decide) (by decide) (HFE.out _ HEQ.out).2 wx m (HM.out.below hE) 400 true (HFE.out _ HEQ.out).1).mono fun e w' h => ?_); obtain ⟨v, rfl, hv, hb⟩ := h; exact ⟨_, rfl, hb, hv⟩
        · intro ρ wx hE hx hd
          replace hE := Ext.undrew hE
          have e38 := hd.1
          obtain ⟨g, c, e, h1, h2, h3⟩ := e38; exact gives_val (G := fun v w => OneRow 400 v w) (v := .slice (some ⟨g, 0, none⟩) 1 c) (by simp [execOp, e, go_sem]) ⟨g, c, rfl, h1, h2, h3⟩
        · intro ρ wx hE hx hd
          replace hE := Ext.undrew hE
          have e38 := hd.1
          obtain ⟨g, c, e, h1, h2, h3⟩ := e38; exact gives_val (G := fun vv _ => vv = .bool true) (v := .bool true) (by simp [execOp, e, go_sem]) rfl
      intro wx hE
      refine fun v39 (e39 : v39 = .string SB) => ?_
      refine fun v40 (e40 : v40 = .int .i64 j) => ?_
      refine fun v41 (e41 : v41 = .string X) => ?_
      refine fun v42 (e42 : v42 = .string ⟨#[10]⟩) => ?_
      refine fun v43 (e43 : v43 = .string (X ++ ⟨#[10]⟩)) => ?_
      refine fun v44 (e44 : v44 = .string SB) => ?_
      refine fun v45 (e45 : v45 = .int .i64 j) => ?_
      refine fun v46 (e46 : v46 = .string Z) => ?_
      refine fun v47 (e47 : v47 = .string (X ++ ⟨#[10]⟩ ++ Z)) => ?_
      refine fun v48 (e48 : v48 = .string (X ++ ⟨#[10]⟩ ++ Z ++ ⟨#[13, 10]⟩)) => ?_
      refine fun v49 e49 => ?_
      refine fun v38 e38 => ?_
      refine fun v50 e50 => ?_
      refine fun v51 (e51 : v51 = .bool true) => ?_
      refine fun v7 e7 => ?_
      refine fun v8 (e8 : v8 = .bool true) => ?_
      subst e39 e40 e41 e42 e43 e44 e45 e46 e47 e48 e51 e8
      refine rest_nil ?_
      refine wpList_nil ?_
      simp only [Exit.then, Act.put, List.setIfInBounds_toArray, List.set_cons_zero, List.set_cons_succ]
      refine go_on (by assumption) ?_
      obtain ⟨g, c, rfl, h1, h2, h3⟩ := e7
      have HE := Lib.hid hE
      clear hE e49 e38 e50
      go_wp2_with fail
      refine (awake_any _ m (HM.out.below HE.out)).mono ?_
      rintro e w3 ⟨rfl, hb3⟩
      go_wp2_with fail
      go_ret
      exact hR _ _ ⟨rfl, HE.out.trans hb3⟩
    | false =>
      have HF := Lib.hid ((ends_all false ⟨j, hj35⟩).resolve_left (by rw [show endsC (⟨j, hj35⟩ : Fin 35).val = false from HC.out]; decide))
      have HFE : Hid (∀ Y : ByteArray, toL Y = endsT j 13 → ((∃ x : It, (feedN {} (toL Y)).2 = [x] ∧ x.st = 400) ∧ (feedN {} (toL Y)).1.over = true) ∧ Y.size ≤ 100000) := Lib.hid fun Y hY => by
        refine ⟨by rw [hY]; exact ⟨⟨_, HF.out.1, rfl⟩, HF.out.2⟩, ?_⟩
        rw [← toL_len, hY]
        have hl : endsS.length = 35 := rfl
        simp only [endsT, List.length_append, List.length_take, List.length_drop, List.length_cons, List.length_nil, hl]; omega
      clear HF
      have hje : (j : Int) ≤ (SB.size : Int) := by omega
      have hj0 : (0 : Int) ≤ (j : Int) := by omega
      have hjn : j ≤ SB.size := by omega
      have hxs : (SB.extract 0 j).size ≤ 100 := by rw [ByteArray.size_extract]; omega
      have hys : (SB.extract j SB.size).size ≤ 100 := by rw [ByteArray.size_extract]; omega
      have HEQ : Hid (toL (((SB.extract 0 j ++ ⟨#[13]⟩) ++ SB.extract j SB.size) ++ ⟨#[13, 10]⟩) = endsT j 13) := Lib.hid (by
        simp only [toL_cat, extract_cut, toL_ofL, HT.out]
        unfold endsT cut
        rw [List.drop_zero, HSZ.out]; rfl)
      obtain ⟨X, hX⟩ : ∃ X, SB.extract 0 j = X := ⟨_, rfl⟩
      obtain ⟨Z, hZ⟩ : ∃ X, SB.extract j SB.size = X := ⟨_, rfl⟩
      rw [hX] at hxs HEQ
      rw [hZ] at hys HEQ
      have q1 : X.size ≤ 9223372036854775806 := by omega
      have q2 : X.size + 1 + Z.size ≤ 9223372036854775807 := by omega
      have q3 : X.size + 1 + Z.size ≤ 9223372036854775805 := by omega
      go_upto_region 8 with fail
      refine wp_region_any (by kernel_rfl) ?_
      refine region_ext [(fun vv _ => vv = .string SB), (fun vv _ => vv = .int .i64 j), (fun vv _ => vv = .string X), (fun vv _ => vv = .string ⟨#[13]⟩), (fun vv _ => vv = .string (X ++ ⟨#[13]⟩)), (fun vv _ => vv = .string SB), (fun vv _ => vv = .int .i64 j), (fun vv _ => vv = .string Z), (fun vv _ => vv = .string (X ++ ⟨#[13]⟩ ++ Z)), (fun vv _ => vv = .string (X ++ ⟨#[13]⟩ ++ Z ++ ⟨#[13, 10]⟩)), (fun v w => OneSt 400 true v w), (fun v w => OneSt 400 true v w), (fun v w => OneRow 400 v w), (fun vv _ => vv = .bool true), (fun v w => OneRow 400 v w), (fun vv _ => vv = .bool true)]
        [[], [], [(0, 39), (1, 40)], [], [(2, 41), (3, 42)], [], [], [(5, 44), (6, 45)], [(4, 43), (7, 46)], [(8, 47)], [(9, 48)], [(10, 49)], [(11, 38)], [(11, 38)], [(12, 50)], [(13, 51)]]
        [none, none, none, none, none, none, none, none, none, none, none, none, none, none, none, none]
        [some 39, some 40, some 41, some 42, some 43, some 44, some 45, some 46, some 47, some 48, some 49, some 38, some 50, some 51, some 7, some 8] 16 (by kernel_rfl) (by kernel_rfl) (by kernel_rfl) rfl (by kernel_rfl) ?_ ?_ ?_
      · exact ⟨fun _ _ _ _ h => h, fun _ _ _ _ h => h, fun _ _ _ _ h => h, fun _ _ _ _ h => h, fun _ _ _ _ h => h, fun _ _ _ _ h => h, fun _ _ _ _ h => h, fun _ _ _ _ h => h, fun _ _ _ _ h => h, fun _ _ _ _ h => h, (fun _ _ _ h k => k.last h), (fun _ _ _ h k => k.last h), (fun _ _ _ h k => k.last h), fun _ _ _ _ h => h, (fun _ _ _ h k => k.last h), fun _ _ _ _ h => h, trivial⟩
      · refine ⟨fun ρ wx _ hx _ => gives_move (hx (.tmp 5) (by simp)), fun ρ wx _ hx _ => gives_move (hx (.tmp 0) (by simp)), ?_, fun ρ wx _ hx _ => gives_move (hx (.tmp 6) (by simp)), ?_, fun ρ wx _ hx _ => gives_move (hx (.tmp 5) (by simp)), fun ρ wx _ hx _ => gives_move (hx (.tmp 0) (by simp)), ?_, ?_, ?_, ?_, fun ρ wx _ _ hd => gives_moveP (G := fun v w => OneSt 400 true v w) hd.1, ?_, ?_, fun ρ wx _ _ hd => gives_assignP (G := fun v w => OneRow 400 v w) hd.1, fun ρ wx _ _ hd => gives_assign hd.1, trivial⟩
        · intro ρ wx hE hx hd
          replace hE := Ext.undrew hE
          have e39 : ρ (.tmp 39) = .string SB := hd.1
          have e40 : ρ (.tmp 40) = .int .i64 j := hd.2.1
          exact gives_val (G := fun vv _ => vv = .string X) (v := .string X) (by simp [execOp, e39, e40, hje, hj0, hjn, hX, go_sem]) rfl
        · intro ρ wx hE hx hd
          replace hE := Ext.undrew hE
          have e41 : ρ (.tmp 41) = .string X := hd.1
          have e42 : ρ (.tmp 42) = .string ⟨#[13]⟩ := hd.2.1
          exact gives_val (G := fun vv _ => vv = .string (X ++ ⟨#[13]⟩)) (v := .string (X ++ ⟨#[13]⟩)) (by simp [execOp, e41, e42, q1, go_sem]) rfl
        · intro ρ wx hE hx hd
          replace hE := Ext.undrew hE
          have e44 : ρ (.tmp 44) = .string SB := hd.1
          have e45 : ρ (.tmp 45) = .int .i64 j := hd.2.1
          exact gives_val (G := fun vv _ => vv = .string Z) (v := .string Z) (by simp [execOp, e44, e45, hje, hj0, hjn, hZ, go_sem]) rfl
        · intro ρ wx hE hx hd
          replace hE := Ext.undrew hE
          have e43 : ρ (.tmp 43) = .string (X ++ ⟨#[13]⟩) := hd.1
          have e46 : ρ (.tmp 46) = .string Z := hd.2.1
          exact gives_val (G := fun vv _ => vv = .string (X ++ ⟨#[13]⟩ ++ Z)) (v := .string (X ++ ⟨#[13]⟩ ++ Z)) (by simp [execOp, e43, e46, q2, go_sem]) rfl
        · intro ρ wx hE hx hd
          replace hE := Ext.undrew hE
          have e47 : ρ (.tmp 47) = .string (X ++ ⟨#[13]⟩ ++ Z) := hd.1
          have hk : ∀ v, ρ (.const v) = v := fun v => (hx (.const v) (by simp)).trans rfl
          exact gives_val (G := fun vv _ => vv = .string (X ++ ⟨#[13]⟩ ++ Z ++ ⟨#[13, 10]⟩)) (v := .string (X ++ ⟨#[13]⟩ ++ Z ++ ⟨#[13, 10]⟩)) (by simp [execOp, e47, hk, q3, go_sem]) rfl
        · intro ρ wx hE hx hd
          replace hE := Ext.undrew hE
          have e48 : ρ (.tmp 48) = .string (X ++ ⟨#[13]⟩ ++ Z ++ ⟨#[13, 10]⟩) := hd.1
          have hk : ∀ v, ρ (.const v) = v := fun v => (hx (.const v) (by simp)).trans rfl
          have hf : ∀ f, ρ (.func f) = .func (.func f) #[] #[] := fun f => (hx (.func f) (by simp)).trans rfl
          refine gives_call (G := fun v w => OneSt 400 true v w) (by simp [execOp, e48, hk, hf, go_sem] <;> first | exact ⟨rfl, rfl⟩ | exact rfl) ((feed_one _ 100 (by decide) (by decide) (HFE.out _ HEQ.out).2 wx m (HM.out.below hE) 400 true (HFE.out _ HEQ.out).1).mono fun e w' h => ?_); obtain ⟨v, rfl, hv, hb⟩ := h; exact ⟨_, rfl, hb, hv⟩
        · intro ρ wx hE hx hd
          replace hE := Ext.undrew hE
          have e38 := hd.1
          obtain ⟨g, c, e, h1, h2, h3⟩ := e38; exact gives_val (G := fun v w => OneRow 400 v w) (v := .slice (some ⟨g, 0, none⟩) 1 c) (by simp [execOp, e, go_sem]) ⟨g, c, rfl, h1, h2, h3⟩
        · intro ρ wx hE hx hd
          replace hE := Ext.undrew hE
          have e38 := hd.1
          obtain ⟨g, c, e, h1, h2, h3⟩ := e38; exact gives_val (G := fun vv _ => vv = .bool true) (v := .bool true) (by simp [execOp, e, go_sem]) rfl
      intro wx hE
      refine fun v39 (e39 : v39 = .string SB) => ?_
      refine fun v40 (e40 : v40 = .int .i64 j) => ?_
      refine fun v41 (e41 : v41 = .string X) => ?_
      refine fun v42 (e42 : v42 = .string ⟨#[13]⟩) => ?_
      refine fun v43 (e43 : v43 = .string (X ++ ⟨#[13]⟩)) => ?_
      refine fun v44 (e44 : v44 = .string SB) => ?_
      refine fun v45 (e45 : v45 = .int .i64 j) => ?_
      refine fun v46 (e46 : v46 = .string Z) => ?_
      refine fun v47 (e47 : v47 = .string (X ++ ⟨#[13]⟩ ++ Z)) => ?_
      refine fun v48 (e48 : v48 = .string (X ++ ⟨#[13]⟩ ++ Z ++ ⟨#[13, 10]⟩)) => ?_
      refine fun v49 e49 => ?_
      refine fun v38 e38 => ?_
      refine fun v50 e50 => ?_
      refine fun v51 (e51 : v51 = .bool true) => ?_
      refine fun v7 e7 => ?_
      refine fun v8 (e8 : v8 = .bool true) => ?_
      subst e39 e40 e41 e42 e43 e44 e45 e46 e47 e48 e51 e8
      refine rest_nil ?_
      refine wpList_nil ?_
      simp only [Exit.then, Act.put, List.setIfInBounds_toArray, List.set_cons_zero, List.set_cons_succ]
      refine go_on (by assumption) ?_
      obtain ⟨g, c, rfl, h1, h2, h3⟩ := e7
      have HE := Lib.hid hE
      clear hE e49 e38 e50
      go_wp2_with fail
      refine (awake_any _ m (HM.out.below HE.out)).mono ?_
      rintro e w3 ⟨rfl, hb3⟩
      go_wp2_with fail
      go_ret
      exact hR _ _ ⟨rfl, HE.out.trans hb3⟩

  · 
    have HC : Hid (endsC j = false) := Lib.hid (by unfold endsC; simp [HB1.out, HB2.out]; omega)
    cases bl : (lone.tmod 2 == 0) with
    | true =>
      have HF := Lib.hid ((ends_all true ⟨j, hj35⟩).resolve_left (by rw [show endsC (⟨j, hj35⟩ : Fin 35).val = false from HC.out]; decide))
      have HFE : Hid (∀ Y : ByteArray, toL Y = endsT j 10 → ((∃ x : It, (feedN {} (toL Y)).2 = [x] ∧ x.st = 400) ∧ (feedN {} (toL Y)).1.over = true) ∧ Y.size ≤ 100000) := Lib.hid fun Y hY => by
        refine ⟨by rw [hY]; exact ⟨⟨_, HF.out.1, rfl⟩, HF.out.2⟩, ?_⟩
        rw [← toL_len, hY]
        have hl : endsS.length = 35 := rfl
        simp only [endsT, List.length_append, List.length_take, List.length_drop, List.length_cons, List.length_nil, hl]; omega
      clear HF
      have hje : (j : Int) ≤ (SB.size : Int) := by omega
      have hj0 : (0 : Int) ≤ (j : Int) := by omega
      have hjn : j ≤ SB.size := by omega
      have hxs : (SB.extract 0 j).size ≤ 100 := by rw [ByteArray.size_extract]; omega
      have hys : (SB.extract j SB.size).size ≤ 100 := by rw [ByteArray.size_extract]; omega
      have HEQ : Hid (toL (((SB.extract 0 j ++ ⟨#[10]⟩) ++ SB.extract j SB.size) ++ ⟨#[13, 10]⟩) = endsT j 10) := Lib.hid (by
        simp only [toL_cat, extract_cut, toL_ofL, HT.out]
        unfold endsT cut
        rw [List.drop_zero, HSZ.out]; rfl)
      obtain ⟨X, hX⟩ : ∃ X, SB.extract 0 j = X := ⟨_, rfl⟩
      obtain ⟨Z, hZ⟩ : ∃ X, SB.extract j SB.size = X := ⟨_, rfl⟩
      rw [hX] at hxs HEQ
      rw [hZ] at hys HEQ
      have q1 : X.size ≤ 9223372036854775806 := by omega
      have q2 : X.size + 1 + Z.size ≤ 9223372036854775807 := by omega
      have q3 : X.size + 1 + Z.size ≤ 9223372036854775805 := by omega
      go_upto_region 8 with fail
      refine wp_region_any (by kernel_rfl) ?_
      refine region_ext [(fun vv _ => vv = .string SB), (fun vv _ => vv = .int .i64 j), (fun vv _ => vv = .string X), (fun vv _ => vv = .string ⟨#[10]⟩), (fun vv _ => vv = .string (X ++ ⟨#[10]⟩)), (fun vv _ => vv = .string SB), (fun vv _ => vv = .int .i64 j), (fun vv _ => vv = .string Z), (fun vv _ => vv = .string (X ++ ⟨#[10]⟩ ++ Z)), (fun vv _ => vv = .string (X ++ ⟨#[10]⟩ ++ Z ++ ⟨#[13, 10]⟩)), (fun v w => OneSt 400 true v w), (fun v w => OneSt 400 true v w), (fun v w => OneRow 400 v w), (fun vv _ => vv = .bool true), (fun v w => OneRow 400 v w), (fun vv _ => vv = .bool true)]
        [[], [], [(0, 39), (1, 40)], [], [(2, 41), (3, 42)], [], [], [(5, 44), (6, 45)], [(4, 43), (7, 46)], [(8, 47)], [(9, 48)], [(10, 49)], [(11, 38)], [(11, 38)], [(12, 50)], [(13, 51)]]
        [none, none, none, none, none, none, none, none, none, none, none, none, none, none, none, none]
        [some 39, some 40, some 41, some 42, some 43, some 44, some 45, some 46, some 47, some 48, some 49, some 38, some 50, some 51, some 7, some 8] 16 (by kernel_rfl) (by kernel_rfl) (by kernel_rfl) rfl (by kernel_rfl) ?_ ?_ ?_
      · exact ⟨fun _ _ _ _ h => h, fun _ _ _ _ h => h, fun _ _ _ _ h => h, fun _ _ _ _ h => h, fun _ _ _ _ h => h, fun _ _ _ _ h => h, fun _ _ _ _ h => h, fun _ _ _ _ h => h, fun _ _ _ _ h => h, fun _ _ _ _ h => h, (fun _ _ _ h k => k.last h), (fun _ _ _ h k => k.last h), (fun _ _ _ h k => k.last h), fun _ _ _ _ h => h, (fun _ _ _ h k => k.last h), fun _ _ _ _ h => h, trivial⟩
      · refine ⟨fun ρ wx _ hx _ => gives_move (hx (.tmp 5) (by simp)), fun ρ wx _ hx _ => gives_move (hx (.tmp 0) (by simp)), ?_, fun ρ wx _ hx _ => gives_move (hx (.tmp 6) (by simp)), ?_, fun ρ wx _ hx _ => gives_move (hx (.tmp 5) (by simp)), fun ρ wx _ hx _ => gives_move (hx (.tmp 0) (by simp)), ?_, ?_, ?_, ?_, fun ρ wx _ _ hd => gives_moveP (G := fun v w => OneSt 400 true v w) hd.1, ?_, ?_, fun ρ wx _ _ hd => gives_assignP (G := fun v w => OneRow 400 v w) hd.1, fun ρ wx _ _ hd => gives_assign hd.1, trivial⟩
        · intro ρ wx hE hx hd
          replace hE := Ext.undrew hE
          have e39 : ρ (.tmp 39) = .string SB := hd.1
          have e40 : ρ (.tmp 40) = .int .i64 j := hd.2.1
          exact gives_val (G := fun vv _ => vv = .string X) (v := .string X) (by simp [execOp, e39, e40, hje, hj0, hjn, hX, go_sem]) rfl
        · intro ρ wx hE hx hd
          replace hE := Ext.undrew hE
          have e41 : ρ (.tmp 41) = .string X := hd.1
          have e42 : ρ (.tmp 42) = .string ⟨#[10]⟩ := hd.2.1
          exact gives_val (G := fun vv _ => vv = .string (X ++ ⟨#[10]⟩)) (v := .string (X ++ ⟨#[10]⟩)) (by simp [execOp, e41, e42, q1, go_sem]) rfl
        · intro ρ wx hE hx hd
          replace hE := Ext.undrew hE
          have e44 : ρ (.tmp 44) = .string SB := hd.1
          have e45 : ρ (.tmp 45) = .int .i64 j := hd.2.1
          exact gives_val (G := fun vv _ => vv = .string Z) (v := .string Z) (by simp [execOp, e44, e45, hje, hj0, hjn, hZ, go_sem]) rfl
        · intro ρ wx hE hx hd
          replace hE := Ext.undrew hE
          have e43 : ρ (.tmp 43) = .string (X ++ ⟨#[10]⟩) := hd.1
          have e46 : ρ (.tmp 46) = .string Z := hd.2.1
          exact gives_val (G := fun vv _ => vv = .string (X ++ ⟨#[10]⟩ ++ Z)) (v := .string (X ++ ⟨#[10]⟩ ++ Z)) (by simp [execOp, e43, e46, q2, go_sem]) rfl
        · intro ρ wx hE hx hd
          replace hE := Ext.undrew hE
          have e47 : ρ (.tmp 47) = .string (X ++ ⟨#[10]⟩ ++ Z) := hd.1
          have hk : ∀ v, ρ (.const v) = v := fun v => (hx (.const v) (by simp)).trans rfl
          exact gives_val (G := fun vv _ => vv = .string (X ++ ⟨#[10]⟩ ++ Z ++ ⟨#[13, 10]⟩)) (v := .string (X ++ ⟨#[10]⟩ ++ Z ++ ⟨#[13, 10]⟩)) (by simp [execOp, e47, hk, q3, go_sem]) rfl
        · intro ρ wx hE hx hd
          replace hE := Ext.undrew hE
          have e48 : ρ (.tmp 48) = .string (X ++ ⟨#[10]⟩ ++ Z ++ ⟨#[13, 10]⟩) := hd.1
          have hk : ∀ v, ρ (.const v) = v := fun v => (hx (.const v) (by simp)).trans rfl
          have hf : ∀ f, ρ (.func f) = .func (.func f) #[] #[] := fun f => (hx (.func f) (by simp)).trans rfl
          refine gives_call (G := fun v w => OneSt 400 true v w) (by simp [execOp, e48, hk, hf, go_sem] <;> first | exact ⟨rfl, rfl⟩ | exact rfl) ((feed_one _ 100 (by decide) (by decide) (HFE.out _ HEQ.out).2 wx m (HM.out.below hE) 400 true (HFE.out _ HEQ.out).1).mono fun e w' h => ?_); obtain ⟨v, rfl, hv, hb⟩ := h; exact ⟨_, rfl, hb, hv⟩
        · intro ρ wx hE hx hd
          replace hE := Ext.undrew hE
          have e38 := hd.1
          obtain ⟨g, c, e, h1, h2, h3⟩ := e38; exact gives_val (G := fun v w => OneRow 400 v w) (v := .slice (some ⟨g, 0, none⟩) 1 c) (by simp [execOp, e, go_sem]) ⟨g, c, rfl, h1, h2, h3⟩
        · intro ρ wx hE hx hd
          replace hE := Ext.undrew hE
          have e38 := hd.1
          obtain ⟨g, c, e, h1, h2, h3⟩ := e38; exact gives_val (G := fun vv _ => vv = .bool true) (v := .bool true) (by simp [execOp, e, go_sem]) rfl
      intro wx hE
      refine fun v39 (e39 : v39 = .string SB) => ?_
      refine fun v40 (e40 : v40 = .int .i64 j) => ?_
      refine fun v41 (e41 : v41 = .string X) => ?_
      refine fun v42 (e42 : v42 = .string ⟨#[10]⟩) => ?_
      refine fun v43 (e43 : v43 = .string (X ++ ⟨#[10]⟩)) => ?_
      refine fun v44 (e44 : v44 = .string SB) => ?_
      refine fun v45 (e45 : v45 = .int .i64 j) => ?_
      refine fun v46 (e46 : v46 = .string Z) => ?_
      refine fun v47 (e47 : v47 = .string (X ++ ⟨#[10]⟩ ++ Z)) => ?_
      refine fun v48 (e48 : v48 = .string (X ++ ⟨#[10]⟩ ++ Z ++ ⟨#[13, 10]⟩)) => ?_
      refine fun v49 e49 => ?_
      refine fun v38 e38 => ?_
      refine fun v50 e50 => ?_
      refine fun v51 (e51 : v51 = .bool true) => ?_
      refine fun v7 e7 => ?_
      refine fun v8 (e8 : v8 = .bool true) => ?_
      subst e39 e40 e41 e42 e43 e44 e45 e46 e47 e48 e51 e8
      refine rest_nil ?_
      refine wpList_nil ?_
      simp only [Exit.then, Act.put, List.setIfInBounds_toArray, List.set_cons_zero, List.set_cons_succ]
      refine go_on (by assumption) ?_
      obtain ⟨g, c, rfl, h1, h2, h3⟩ := e7
      have HE := Lib.hid hE
      clear hE e49 e38 e50
      go_wp2_with fail
      refine (awake_any _ m (HM.out.below HE.out)).mono ?_
      rintro e w3 ⟨rfl, hb3⟩
      go_wp2_with fail
      go_ret
      exact hR _ _ ⟨rfl, HE.out.trans hb3⟩
    | false =>
      have HF := Lib.hid ((ends_all false ⟨j, hj35⟩).resolve_left (by rw [show endsC (⟨j, hj35⟩ : Fin 35).val = false from HC.out]; decide))
      have HFE : Hid (∀ Y : ByteArray, toL Y = endsT j 13 → ((∃ x : It, (feedN {} (toL Y)).2 = [x] ∧ x.st = 400) ∧ (feedN {} (toL Y)).1.over = true) ∧ Y.size ≤ 100000) := Lib.hid fun Y hY => by
        refine ⟨by rw [hY]; exact ⟨⟨_, HF.out.1, rfl⟩, HF.out.2⟩, ?_⟩
        rw [← toL_len, hY]
        have hl : endsS.length = 35 := rfl
        simp only [endsT, List.length_append, List.length_take, List.length_drop, List.length_cons, List.length_nil, hl]; omega
      clear HF
      have hje : (j : Int) ≤ (SB.size : Int) := by omega
      have hj0 : (0 : Int) ≤ (j : Int) := by omega
      have hjn : j ≤ SB.size := by omega
      have hxs : (SB.extract 0 j).size ≤ 100 := by rw [ByteArray.size_extract]; omega
      have hys : (SB.extract j SB.size).size ≤ 100 := by rw [ByteArray.size_extract]; omega
      have HEQ : Hid (toL (((SB.extract 0 j ++ ⟨#[13]⟩) ++ SB.extract j SB.size) ++ ⟨#[13, 10]⟩) = endsT j 13) := Lib.hid (by
        simp only [toL_cat, extract_cut, toL_ofL, HT.out]
        unfold endsT cut
        rw [List.drop_zero, HSZ.out]; rfl)
      obtain ⟨X, hX⟩ : ∃ X, SB.extract 0 j = X := ⟨_, rfl⟩
      obtain ⟨Z, hZ⟩ : ∃ X, SB.extract j SB.size = X := ⟨_, rfl⟩
      rw [hX] at hxs HEQ
      rw [hZ] at hys HEQ
      have q1 : X.size ≤ 9223372036854775806 := by omega
      have q2 : X.size + 1 + Z.size ≤ 9223372036854775807 := by omega
      have q3 : X.size + 1 + Z.size ≤ 9223372036854775805 := by omega
      go_upto_region 8 with fail
      refine wp_region_any (by kernel_rfl) ?_
      refine region_ext [(fun vv _ => vv = .string SB), (fun vv _ => vv = .int .i64 j), (fun vv _ => vv = .string X), (fun vv _ => vv = .string ⟨#[13]⟩), (fun vv _ => vv = .string (X ++ ⟨#[13]⟩)), (fun vv _ => vv = .string SB), (fun vv _ => vv = .int .i64 j), (fun vv _ => vv = .string Z), (fun vv _ => vv = .string (X ++ ⟨#[13]⟩ ++ Z)), (fun vv _ => vv = .string (X ++ ⟨#[13]⟩ ++ Z ++ ⟨#[13, 10]⟩)), (fun v w => OneSt 400 true v w), (fun v w => OneSt 400 true v w), (fun v w => OneRow 400 v w), (fun vv _ => vv = .bool true), (fun v w => OneRow 400 v w), (fun vv _ => vv = .bool true)]
        [[], [], [(0, 39), (1, 40)], [], [(2, 41), (3, 42)], [], [], [(5, 44), (6, 45)], [(4, 43), (7, 46)], [(8, 47)], [(9, 48)], [(10, 49)], [(11, 38)], [(11, 38)], [(12, 50)], [(13, 51)]]
        [none, none, none, none, none, none, none, none, none, none, none, none, none, none, none, none]
        [some 39, some 40, some 41, some 42, some 43, some 44, some 45, some 46, some 47, some 48, some 49, some 38, some 50, some 51, some 7, some 8] 16 (by kernel_rfl) (by kernel_rfl) (by kernel_rfl) rfl (by kernel_rfl) ?_ ?_ ?_
      · exact ⟨fun _ _ _ _ h => h, fun _ _ _ _ h => h, fun _ _ _ _ h => h, fun _ _ _ _ h => h, fun _ _ _ _ h => h, fun _ _ _ _ h => h, fun _ _ _ _ h => h, fun _ _ _ _ h => h, fun _ _ _ _ h => h, fun _ _ _ _ h => h, (fun _ _ _ h k => k.last h), (fun _ _ _ h k => k.last h), (fun _ _ _ h k => k.last h), fun _ _ _ _ h => h, (fun _ _ _ h k => k.last h), fun _ _ _ _ h => h, trivial⟩
      · refine ⟨fun ρ wx _ hx _ => gives_move (hx (.tmp 5) (by simp)), fun ρ wx _ hx _ => gives_move (hx (.tmp 0) (by simp)), ?_, fun ρ wx _ hx _ => gives_move (hx (.tmp 6) (by simp)), ?_, fun ρ wx _ hx _ => gives_move (hx (.tmp 5) (by simp)), fun ρ wx _ hx _ => gives_move (hx (.tmp 0) (by simp)), ?_, ?_, ?_, ?_, fun ρ wx _ _ hd => gives_moveP (G := fun v w => OneSt 400 true v w) hd.1, ?_, ?_, fun ρ wx _ _ hd => gives_assignP (G := fun v w => OneRow 400 v w) hd.1, fun ρ wx _ _ hd => gives_assign hd.1, trivial⟩
        · intro ρ wx hE hx hd
          replace hE := Ext.undrew hE
          have e39 : ρ (.tmp 39) = .string SB := hd.1
          have e40 : ρ (.tmp 40) = .int .i64 j := hd.2.1
          exact gives_val (G := fun vv _ => vv = .string X) (v := .string X) (by simp [execOp, e39, e40, hje, hj0, hjn, hX, go_sem]) rfl
        · intro ρ wx hE hx hd
          replace hE := Ext.undrew hE
          have e41 : ρ (.tmp 41) = .string X := hd.1
          have e42 : ρ (.tmp 42) = .string ⟨#[13]⟩ := hd.2.1
          exact gives_val (G := fun vv _ => vv = .string (X ++ ⟨#[13]⟩)) (v := .string (X ++ ⟨#[13]⟩)) (by simp [execOp, e41, e42, q1, go_sem]) rfl
        · intro ρ wx hE hx hd
          replace hE := Ext.undrew hE
          have e44 : ρ (.tmp 44) = .string SB := hd.1
          have e45 : ρ (.tmp 45) = .int .i64 j := hd.2.1
          exact gives_val (G := fun vv _ => vv = .string Z) (v := .string Z) (by simp [execOp, e44, e45, hje, hj0, hjn, hZ, go_sem]) rfl
        · intro ρ wx hE hx hd
          replace hE := Ext.undrew hE
          have e43 : ρ (.tmp 43) = .string (X ++ ⟨#[13]⟩) := hd.1
          have e46 : ρ (.tmp 46) = .string Z := hd.2.1
          exact gives_val (G := fun vv _ => vv = .string (X ++ ⟨#[13]⟩ ++ Z)) (v := .string (X ++ ⟨#[13]⟩ ++ Z)) (by simp [execOp, e43, e46, q2, go_sem]) rfl
        · intro ρ wx hE hx hd
          replace hE := Ext.undrew hE
          have e47 : ρ (.tmp 47) = .string (X ++ ⟨#[13]⟩ ++ Z) := hd.1
          have hk : ∀ v, ρ (.const v) = v := fun v => (hx (.const v) (by simp)).trans rfl
          exact gives_val (G := fun vv _ => vv = .string (X ++ ⟨#[13]⟩ ++ Z ++ ⟨#[13, 10]⟩)) (v := .string (X ++ ⟨#[13]⟩ ++ Z ++ ⟨#[13, 10]⟩)) (by simp [execOp, e47, hk, q3, go_sem]) rfl
        · intro ρ wx hE hx hd
          replace hE := Ext.undrew hE
          have e48 : ρ (.tmp 48) = .string (X ++ ⟨#[13]⟩ ++ Z ++ ⟨#[13, 10]⟩) := hd.1
          have hk : ∀ v, ρ (.const v) = v := fun v => (hx (.const v) (by simp)).trans rfl
          have hf : ∀ f, ρ (.func f) = .func (.func f) #[] #[] := fun f => (hx (.func f) (by simp)).trans rfl
          refine gives_call (G := fun v w => OneSt 400 true v w) (by simp [execOp, e48, hk, hf, go_sem] <;> first | exact ⟨rfl, rfl⟩ | exact rfl) ((feed_one _ 100 (by decide) (by decide) (HFE.out _ HEQ.out).2 wx m (HM.out.below hE) 400 true (HFE.out _ HEQ.out).1).mono fun e w' h => ?_); obtain ⟨v, rfl, hv, hb⟩ := h; exact ⟨_, rfl, hb, hv⟩
        · intro ρ wx hE hx hd
          replace hE := Ext.undrew hE
          have e38 := hd.1
          obtain ⟨g, c, e, h1, h2, h3⟩ := e38; exact gives_val (G := fun v w => OneRow 400 v w) (v := .slice (some ⟨g, 0, none⟩) 1 c) (by simp [execOp, e, go_sem]) ⟨g, c, rfl, h1, h2, h3⟩
        · intro ρ wx hE hx hd
          replace hE := Ext.undrew hE
          have e38 := hd.1
          obtain ⟨g, c, e, h1, h2, h3⟩ := e38; exact gives_val (G := fun vv _ => vv = .bool true) (v := .bool true) (by simp [execOp, e, go_sem]) rfl
      intro wx hE
      refine fun v39 (e39 : v39 = .string SB) => ?_
      refine fun v40 (e40 : v40 = .int .i64 j) => ?_
      refine fun v41 (e41 : v41 = .string X) => ?_
      refine fun v42 (e42 : v42 = .string ⟨#[13]⟩) => ?_
      refine fun v43 (e43 : v43 = .string (X ++ ⟨#[13]⟩)) => ?_
      refine fun v44 (e44 : v44 = .string SB) => ?_
      refine fun v45 (e45 : v45 = .int .i64 j) => ?_
      refine fun v46 (e46 : v46 = .string Z) => ?_
      refine fun v47 (e47 : v47 = .string (X ++ ⟨#[13]⟩ ++ Z)) => ?_
      refine fun v48 (e48 : v48 = .string (X ++ ⟨#[13]⟩ ++ Z ++ ⟨#[13, 10]⟩)) => ?_
      refine fun v49 e49 => ?_
      refine fun v38 e38 => ?_
      refine fun v50 e50 => ?_
      refine fun v51 (e51 : v51 = .bool true) => ?_
      refine fun v7 e7 => ?_
      refine fun v8 (e8 : v8 = .bool true) => ?_
      subst e39 e40 e41 e42 e43 e44 e45 e46 e47 e48 e51 e8
      refine rest_nil ?_
      refine wpList_nil ?_
      simp only [Exit.then, Act.put, List.setIfInBounds_toArray, List.set_cons_zero, List.set_cons_succ]
      refine go_on (by assumption) ?_
      obtain ⟨g, c, rfl, h1, h2, h3⟩ := e7
      have HE := Lib.hid hE
      clear hE e49 e38 e50
      go_wp2_with fail
      refine (awake_any _ m (HM.out.below HE.out)).mono ?_
      rintro e w3 ⟨rfl, hb3⟩
      go_wp2_with fail
      go_ret
      exact hR _ _ ⟨rfl, HE.out.trans hb3⟩

theorem ends_row {w : World} (k : Int) (_ : -9223372036854775808 ≤ k) (_ : k ≤ 9223372036854775807) (lone : Int) (h1 : -9223372036854775808 ≤ lone) (h2 : lone ≤ 9223372036854775807) (m : Int) (hm : MaxLen m w) :
    Calls Tryd.prog 9 #[.int .i64 k, .int .i64 lone] w fun e w' => e = .returned (.bool true) ∧ Below w.heap.size w w' := ends_walk k lone h1 h2 m w hm
end Go.Proofs.YtaihjnicondifaaDoor.Asc
