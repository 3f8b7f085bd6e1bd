/-
  The law parapetlaw26.HttpLengths answers true.
  The library's MaxLen is a number.
-/
import Derived.Test.YtaihjnicondifaaDoorHtLd
namespace Go.Proofs.YtaihjnicondifaaDoor.Asc
open Go Go.RowKit Go.Proofs.YtaihjnicondifaaDoor.Pb

set_option maxRecDepth 20000 in
set_option maxHeartbeats 8000000 in
theorem lengths_walk (n more size : Int) (h2 : size ≤ 9223372036854775807) (m : Int) (w : World) (hm : MaxLen m w) :
    Calls Tryd.prog 4 #[.int .i64 n, .int .i64 more, .int .i64 size] w fun e w' => e = .returned (.bool true) ∧ Below w.heap.size w w' := by
  refine calls_gen fun R hR => ?_
  have HM := Lib.hid hm
  clear hm
  go_enter Tryd.func4, Tryd.ntmps4
  by_cases c0 : n < 0
  · skip
    go_wp2_with fail
    refine (awake_any w m HM.out).mono ?_
    rintro e w3 ⟨rfl, hb3⟩
    go_wp2_with fail
    go_ret
    exact hR _ _ ⟨rfl, hb3⟩
  by_cases c1 : n > 3000
  · skip
    go_wp2_with fail
    refine (awake_any w m HM.out).mono ?_
    rintro e w3 ⟨rfl, hb3⟩
    go_wp2_with fail
    go_ret
    exact hR _ _ ⟨rfl, hb3⟩
  by_cases c2 : more < 0
  · skip
    go_wp2_with fail
    refine (awake_any w m HM.out).mono ?_
    rintro e w3 ⟨rfl, hb3⟩
    go_wp2_with fail
    go_ret
    exact hR _ _ ⟨rfl, hb3⟩
  by_cases c3 : more > 3
  · skip
    go_wp2_with fail
    refine (awake_any w m HM.out).mono ?_
    rintro e w3 ⟨rfl, hb3⟩
    go_wp2_with fail
    go_ret
    exact hR _ _ ⟨rfl, hb3⟩
  by_cases c4 : size < 1
  · skip
    go_wp2_with fail
    refine (awake_any w m HM.out).mono ?_
    rintro e w3 ⟨rfl, hb3⟩
    go_wp2_with fail
    go_ret
    exact hR _ _ ⟨rfl, hb3⟩
  obtain ⟨N, rfl⟩ := Int.eq_ofNat_of_zero_le (show 0 ≤ n by omega)
  obtain ⟨M, rfl⟩ := Int.eq_ofNat_of_zero_le (show 0 ≤ more by omega)
  have hN : N ≤ 3000 := by omega
  have hM3 : M ≤ 3 := by omega
  go_wp2_with fail
  go_loopw [7, 8] (fun s i wr => ∃ k : Nat, k ≤ M + 1 ∧ i = .int .i64 k ∧ Below w.heap.size w wr ∧ ∃ T : ByteArray, s = .string T ∧ toL T = reqsT N k) (fun _ i _ => M + 1 - (intOf i).toNat)
  case atStart => exact ⟨0, Nat.zero_le _, rfl, Below.refl _ _, ⟨#[]⟩, rfl, rfl⟩
  case round =>
    obtain ⟨k, hk, rfl, hb, T, rfl, hT⟩ := hrel
    have HT := Lib.hid hT; have HB := Lib.hid hb
    have hts : T.size ≤ 12400 := by
      rw [← toL_len, hT]; have := reqs_len N hN k (by omega); omega
    clear hT hb
    by_cases hlt : k ≤ M
    · have hki : (k : Int) ≤ (M : Int) := by omega
      go_wp2_with fail
      refine (rdecimal_any k wr (by omega) (by omega)).mono ?_
      rintro e w2 ⟨rfl, hb2⟩
      obtain ⟨D, hD⟩ : ∃ D, ofL (decimal k) = D := ⟨_, rfl⟩
      have hds : D.size ≤ 5 := by rw [← hD, ofL_size]; exact (dec_facts k (by omega)).2.2.1
      have HD : Hid (toL D = decimal k) := Lib.hid (by rw [← hD, toL_ofL])
      rw [hD]
      have HB2 := Lib.hid (HB.out.trans (hb2.mono HB.out.size))
      clear hb2 hD
      go_wp2_with fail
      refine (rdecimal_any N w2 (by omega) (by omega)).mono ?_
      rintro e w3 ⟨rfl, hb3⟩
      obtain ⟨E, hE⟩ : ∃ D, ofL (decimal N) = D := ⟨_, rfl⟩
      have hes : E.size ≤ 5 := by rw [← hE, ofL_size]; exact (dec_facts N hN).2.2.1
      have HE : Hid (toL E = decimal N) := Lib.hid (by rw [← hE, toL_ofL])
      rw [hE]
      have HB3 := Lib.hid (HB2.out.trans (hb3.mono HB2.out.size))
      clear hb3 hE
      go_wp2_with fail
      refine (letters26_any N k w3 (by omega) (by omega)).mono ?_
      rintro e w4 ⟨rfl, hb4⟩
      obtain ⟨L, hL⟩ : ∃ D, ofL (letterN N k) = D := ⟨_, rfl⟩
      have hls : L.size ≤ 3000 := by rw [← hL, ofL_size, letterN_len]; exact hN
      have HL : Hid (toL L = letterN N k) := Lib.hid (by rw [← hL, toL_ofL])
      rw [hL]
      have HB4 := Lib.hid (HB3.out.trans (hb4.mono HB3.out.size))
      clear hb4 hL
      go_wp2_with fail
      go_roundw
      case rel => exact ⟨k + 1, by omega, by go_num, HB4.out, _, rfl, by simp only [toL_cat, HT.out, HD.out, HE.out, HL.out]; rfl⟩
      case measure => simp [intOf]; omega
    · obtain rfl : k = M + 1 := by omega
      have hki : ¬ ((M + 1 : Nat) : Int) ≤ (M : Int) := by omega
      go_wp2_with fail
      refine (feed_at T size (by omega) h2 (by omega) wr m (HM.out.below HB.out) (reqsI N (M + 1)) false (by rw [HT.out, reqs_feed N hN (M + 1) (by omega)]; exact ⟨rfl, rfl⟩)).mono ?_
      rintro e w1 ⟨v, O, rfl, ho, -, hb⟩
      obtain ⟨g, c, rfl, -, hc, hg, hget⟩ := own_items ho (by intro e; have := reqsI_len N (M + 1); rw [e] at this; cases this)
      rw [reqsI_len] at hc ⊢
      have HGET : Hid (∀ j, j ≤ M → ∃ fv, ItCells w1 O g (j * 6) (itLen N j) fv) := Lib.hid fun j hj => hget j _ (reqsI_get N (M + 1) j (by omega))
      have HB1 := Lib.hid (HB.out.trans (hb.mono HB.out.size))
      clear hget hb ho
      go_wp2_with fail
      go_loopw [11] (fun i wr => ∃ j : Nat, j ≤ M + 1 ∧ i = .int .i64 j ∧ Below w1.heap.size w1 wr) (fun i _ => M + 1 - (intOf i).toNat)
      case atStart => exact ⟨0, Nat.zero_le _, rfl, Below.refl _ _⟩
      case round =>
        obtain ⟨j, hj, rfl, hbr⟩ := hrel
        have HBR := Lib.hid hbr
        clear hbr
        by_cases hjl : j ≤ M
        · have hji : (j : Int) ≤ (M : Int) := by omega
          obtain ⟨fv, hcc⟩ := HGET.out j hjl
          have I := hcc.below hg HBR.out
          have z0 := I.c0
          have z1 := I.c1
          have z2 : wr.cell? ⟨g, j * 6 + 1 + 1, none⟩ = _ := I.c2
          have z4 : wr.cell? ⟨g, j * 6 + 1 + 3, none⟩ = _ := I.c4
          have z5 : wr.cell? ⟨g, j * 6 + 1 + 4, none⟩ = _ := I.c5
          simp only [itLen] at z0 z1 z2 z4 z5
          obtain ⟨X, hX⟩ : ∃ D, ofL [80, 85, 84] = D := ⟨_, rfl⟩
          have hxx : X.toList = [80, 85, 84] := by rw [← hX, toList_ofL]
          rw [hX] at z1
          obtain ⟨D, hD⟩ : ∃ D, ofL (decimal j) = D := ⟨_, rfl⟩
          have hds : 1 + D.size ≤ 9223372036854775807 := by rw [← hD, ofL_size]; have := (dec_facts j (by omega)).2.2.1; omega
          have HDC : Hid (∀ wx, Calls Tryd.prog 16 #[.int .i64 j] wx fun e w' => e = .returned (.string D) ∧ Below wx.heap.size wx w') := Lib.hid fun wx => hD ▸ rdecimal_any j wx (by omega) (by omega)
          obtain ⟨Y, hY⟩ : ∃ D, ofL [47, UInt8.ofNat (48 + j)] = D := ⟨_, rfl⟩
          have hy : Y.toList = (⟨#[47]⟩ ++ D : ByteArray).toList := by
            rw [← hY, toList_ofL, toList_toL, toL_cat, ← hD, toL_ofL, dec_small j (by omega)]; rfl
          rw [hY] at z2
          obtain ⟨L, hL⟩ : ∃ D, ofL (letterN N j) = D := ⟨_, rfl⟩
          have HLC : Hid (∀ wx, Calls Tryd.prog 17 #[.int .i64 N, .int .i64 j] wx fun e w' => e = .returned (.string L) ∧ Below wx.heap.size wx w') := Lib.hid fun wx => hL ▸ letters26_any N j wx (by omega) (by omega)
          have hl : (L.toList != L.toList) = false := bne_self_eq_false ..
          rw [hL] at z4
          have hq0 : (0 : Int) ≤ (j : Int) := by omega
          have hq1 : (j : Int) < ((M + 1 : Nat) : Int) := by omega
          have hq2 : (j : Int) < (M : Int) + 1 := by omega
          have hq3 : j < M + 1 := by omega
          have hjt : ((j : Int)).toNat = j := by omega
          clear hX hD hY hL I hcc
          go_upto_region 14 with fail
          refine wp_region_any (by kernel_rfl) ?_
          refine region_ext [(fun vv _ => vv = .slice (some ⟨g, 0, none⟩) (M + 1) c), (fun vv _ => vv = .int .i64 j), (fun vv _ => vv = .pointer (some ⟨g, j * 6, none⟩)), (fun vv _ => vv = .pointer (some ⟨g, j * 6, none⟩)), (fun vv _ => vv = .int .i64 0), (fun vv _ => vv = .bool false), (fun vv _ => vv = .bool false), (fun vv _ => vv = .slice (some ⟨g, 0, none⟩) (M + 1) c), (fun vv _ => vv = .int .i64 j), (fun vv _ => vv = .pointer (some ⟨g, j * 6, none⟩)), (fun vv _ => vv = .pointer (some ⟨g, j * 6 + 1, none⟩)), (fun vv _ => vv = .pointer (some ⟨g, j * 6 + 1, none⟩)), (fun vv _ => vv = .string X), (fun vv _ => vv = .bool false), (fun vv _ => vv = .bool false), (fun vv _ => vv = .bool false), (fun vv _ => vv = .slice (some ⟨g, 0, none⟩) (M + 1) c), (fun vv _ => vv = .int .i64 j), (fun vv _ => vv = .pointer (some ⟨g, j * 6, none⟩)), (fun vv _ => vv = .pointer (some ⟨g, j * 6 + 1, none⟩)), (fun vv _ => vv = .pointer (some ⟨g, j * 6 + 1 + 1, none⟩)), (fun vv _ => vv = .string Y), (fun vv _ => vv = .int .i64 j), (fun vv _ => vv = .string D), (fun vv _ => vv = .string (⟨#[47]⟩ ++ D)), (fun vv _ => vv = .bool false), (fun vv _ => vv = .bool false), (fun vv _ => vv = .bool false), (fun vv _ => vv = .slice (some ⟨g, 0, none⟩) (M + 1) c), (fun vv _ => vv = .int .i64 j), (fun vv _ => vv = .pointer (some ⟨g, j * 6, none⟩)), (fun vv _ => vv = .pointer (some ⟨g, j * 6 + 1, none⟩)), (fun vv _ => vv = .pointer (some ⟨g, j * 6 + 1 + 3, none⟩)), (fun vv _ => vv = .string L), (fun vv _ => vv = .int .i64 N), (fun vv _ => vv = .int .i64 j), (fun vv _ => vv = .string L), (fun vv _ => vv = .bool false), (fun vv _ => vv = .bool false), (fun vv _ => vv = .bool false), (fun vv _ => vv = .slice (some ⟨g, 0, none⟩) (M + 1) c), (fun vv _ => vv = .int .i64 j), (fun vv _ => vv = .pointer (some ⟨g, j * 6, none⟩)), (fun vv _ => vv = .pointer (some ⟨g, j * 6 + 1, none⟩)), (fun vv _ => vv = .pointer (some ⟨g, j * 6 + 1 + 4, none⟩)), (fun vv _ => vv = .bool false), (fun vv _ => vv = .bool false)]
            [[], [], [(0, 69), (1, 70)], [(2, 71)], [(3, 72)], [(4, 73)], [(5, 74)], [(6, 75)], [(6, 75)], [(6, 75), (7, 76), (8, 77)], [(6, 75), (9, 78)], [(6, 75), (10, 79)], [(6, 75), (11, 80)], [(6, 75), (12, 81)], [(6, 75), (13, 82)], [(14, 83)], [(15, 84)], [(15, 84)], [(15, 84), (16, 85), (17, 86)], [(15, 84), (18, 87)], [(15, 84), (19, 88)], [(15, 84), (20, 89)], [(15, 84)], [(15, 84), (22, 91)], [(15, 84), (23, 92)], [(15, 84), (21, 90), (24, 93)], [(15, 84), (25, 94)], [(26, 95)], [(27, 96)], [(27, 96)], [(27, 96), (28, 97), (29, 98)], [(27, 96), (30, 99)], [(27, 96), (31, 100)], [(27, 96), (32, 101)], [(27, 96)], [(27, 96)], [(27, 96), (34, 103), (35, 104)], [(27, 96), (33, 102), (36, 105)], [(27, 96), (37, 106)], [(38, 107)], [(39, 108)], [(39, 108)], [(39, 108), (40, 109), (41, 110)], [(39, 108), (42, 111)], [(39, 108), (43, 112)], [(39, 108), (44, 113)], [(39, 108), (45, 114)]]
            [none, none, none, none, none, none, none, some (75, false), some (75, false), some (75, false), some (75, false), some (75, false), some (75, false), some (75, false), none, none, some (84, false), some (84, false), some (84, false), some (84, false), some (84, false), some (84, false), some (84, false), some (84, false), some (84, false), some (84, false), none, none, some (96, false), some (96, false), some (96, false), some (96, false), some (96, false), some (96, false), some (96, false), some (96, false), some (96, false), some (96, false), none, none, some (108, false), some (108, false), some (108, false), some (108, false), some (108, false), some (108, false), none]
            [some 69, some 70, some 71, some 72, some 73, some 74, some 75, some 76, some 77, some 78, some 79, some 80, some 81, some 82, some 83, some 84, some 85, some 86, some 87, some 88, some 89, some 90, some 91, some 92, some 93, some 94, some 95, some 96, some 97, some 98, some 99, some 100, some 101, some 102, some 103, some 104, some 105, some 106, some 107, some 108, some 109, some 110, some 111, some 112, some 113, some 114, some 115] 47 (by kernel_rfl) (by kernel_rfl) (by kernel_rfl) rfl (by kernel_rfl) ?_ ?_ ?_
          · exact ⟨fun _ _ _ _ h => h, fun _ _ _ _ h => h, fun _ _ _ _ h => h, fun _ _ _ _ h => h, fun _ _ _ _ h => h, fun _ _ _ _ h => h, fun _ _ _ _ h => h, fun _ _ _ _ h => h, fun _ _ _ _ h => h, fun _ _ _ _ h => h, fun _ _ _ _ h => h, fun _ _ _ _ h => h, fun _ _ _ _ h => h, fun _ _ _ _ h => h, fun _ _ _ _ h => h, fun _ _ _ _ h => h, fun _ _ _ _ h => h, fun _ _ _ _ h => h, fun _ _ _ _ h => h, fun _ _ _ _ h => h, fun _ _ _ _ h => h, fun _ _ _ _ h => h, fun _ _ _ _ h => h, fun _ _ _ _ h => h, fun _ _ _ _ h => h, fun _ _ _ _ h => h, fun _ _ _ _ h => h, fun _ _ _ _ h => h, fun _ _ _ _ h => h, fun _ _ _ _ h => h, fun _ _ _ _ h => h, fun _ _ _ _ h => h, fun _ _ _ _ h => h, fun _ _ _ _ h => h, fun _ _ _ _ h => h, fun _ _ _ _ h => h, fun _ _ _ _ h => h, fun _ _ _ _ h => h, fun _ _ _ _ h => h, fun _ _ _ _ h => h, fun _ _ _ _ h => h, fun _ _ _ _ h => h, fun _ _ _ _ h => h, fun _ _ _ _ h => h, fun _ _ _ _ h => h, fun _ _ _ _ h => h, fun _ _ _ _ h => h, trivial⟩
          · refine ⟨fun ρ wx _ hx _ => gives_move (hx (.tmp 9) (by simp)), fun ρ wx _ hx _ => gives_move (hx (.tmp 11) (by simp)), ?_, ?_, ?_, ?_, fun ρ wx _ _ hd => gives_move hd.1, ?_, ?_, ?_, ?_, ?_, ?_, ?_, ?_, fun ρ wx _ _ hd => gives_move hd.1, ?_, ?_, ?_, ?_, ?_, ?_, ?_, ?_, ?_, ?_, ?_, fun ρ wx _ _ hd => gives_move hd.1, ?_, ?_, ?_, ?_, ?_, ?_, ?_, ?_, ?_, ?_, ?_, fun ρ wx _ _ hd => gives_move hd.1, ?_, ?_, ?_, ?_, ?_, ?_, ?_, trivial⟩
            · intro ρ wx hE hx hd
              replace hE := Ext.undrew hE
              have e69 : ρ (.tmp 69) = .slice (some ⟨g, 0, none⟩) (M + 1) c := hd.1
              have e70 : ρ (.tmp 70) = .int .i64 j := hd.2.1
              exact gives_val (G := fun vv _ => vv = .pointer (some ⟨g, j * 6, none⟩)) (v := .pointer (some ⟨g, j * 6, none⟩)) (by simp [execOp, e69, e70, hq0, hq1, hq2, hq3, hjt, hjl, add_plain, go_sem]) rfl
            · intro ρ wx hE hx hd
              replace hE := Ext.undrew hE
              have e71 : ρ (.tmp 71) = .pointer (some ⟨g, j * 6, none⟩) := hd.1
              exact gives_val (G := fun vv _ => vv = .pointer (some ⟨g, j * 6, none⟩)) (v := .pointer (some ⟨g, j * 6, none⟩)) (by simp [execOp, e71, go_sem]) rfl
            · intro ρ wx hE hx hd
              replace hE := Ext.undrew hE
              have e72 : ρ (.tmp 72) = .pointer (some ⟨g, j * 6, none⟩) := hd.1
              have hcl := ext_cell hE z0
              exact gives_val (G := fun vv _ => vv = .int .i64 0) (v := .int .i64 0) (by simp [execOp, e72, hcl, go_sem]) rfl
            · intro ρ wx hE hx hd
              replace hE := Ext.undrew hE
              have e73 : ρ (.tmp 73) = .int .i64 0 := hd.1
              have hk : ∀ v, ρ (.const v) = v := fun v => (hx (.const v) (by simp)).trans rfl
              exact gives_val (G := fun vv _ => vv = .bool false) (v := .bool false) (by simp [execOp, e73, hk, go_sem]) rfl
            · intro ρ wx hE hx hd
              replace hE := Ext.undrew hE
              have e75 : ρ (.tmp 75) = .bool false := hd.1
              have e9 : ρ (.tmp 9) = .slice (some ⟨g, 0, none⟩) (M + 1) c := hx (.tmp 9) (by simp)
              refine .inl ⟨e75, ?_⟩
              exact gives_val (G := fun vv _ => vv = .slice (some ⟨g, 0, none⟩) (M + 1) c) (v := .slice (some ⟨g, 0, none⟩) (M + 1) c) (by simp [execOp, e75, e9, go_sem]) rfl
            · intro ρ wx hE hx hd
              replace hE := Ext.undrew hE
              have e75 : ρ (.tmp 75) = .bool false := hd.1
              have e11 : ρ (.tmp 11) = .int .i64 j := hx (.tmp 11) (by simp)
              refine .inl ⟨e75, ?_⟩
              exact gives_val (G := fun vv _ => vv = .int .i64 j) (v := .int .i64 j) (by simp [execOp, e75, e11, go_sem]) rfl
            · intro ρ wx hE hx hd
              replace hE := Ext.undrew hE
              have e75 : ρ (.tmp 75) = .bool false := hd.1
              have e76 : ρ (.tmp 76) = .slice (some ⟨g, 0, none⟩) (M + 1) c := hd.2.1
              have e77 : ρ (.tmp 77) = .int .i64 j := hd.2.2.1
              refine .inl ⟨e75, ?_⟩
              exact gives_val (G := fun vv _ => vv = .pointer (some ⟨g, j * 6, none⟩)) (v := .pointer (some ⟨g, j * 6, none⟩)) (by simp [execOp, e75, e76, e77, hq0, hq1, hq2, hq3, hjt, hjl, add_plain, go_sem]) rfl
            · intro ρ wx hE hx hd
              replace hE := Ext.undrew hE
              have e75 : ρ (.tmp 75) = .bool false := hd.1
              have e78 : ρ (.tmp 78) = .pointer (some ⟨g, j * 6, none⟩) := hd.2.1
              refine .inl ⟨e75, ?_⟩
              exact gives_val (G := fun vv _ => vv = .pointer (some ⟨g, j * 6 + 1, none⟩)) (v := .pointer (some ⟨g, j * 6 + 1, none⟩)) (by simp [execOp, e75, e78, go_sem]) rfl
            · intro ρ wx hE hx hd
              replace hE := Ext.undrew hE
              have e75 : ρ (.tmp 75) = .bool false := hd.1
              have e79 : ρ (.tmp 79) = .pointer (some ⟨g, j * 6 + 1, none⟩) := hd.2.1
              refine .inl ⟨e75, ?_⟩
              exact gives_val (G := fun vv _ => vv = .pointer (some ⟨g, j * 6 + 1, none⟩)) (v := .pointer (some ⟨g, j * 6 + 1, none⟩)) (by simp [execOp, e75, e79, go_sem]) rfl
            · intro ρ wx hE hx hd
              replace hE := Ext.undrew hE
              have e75 : ρ (.tmp 75) = .bool false := hd.1
              have e80 : ρ (.tmp 80) = .pointer (some ⟨g, j * 6 + 1, none⟩) := hd.2.1
              refine .inl ⟨e75, ?_⟩
              have hcl := ext_cell hE z1
              exact gives_val (G := fun vv _ => vv = .string X) (v := .string X) (by simp [execOp, e75, e80, hcl, go_sem]) rfl
            · intro ρ wx hE hx hd
              replace hE := Ext.undrew hE
              have e75 : ρ (.tmp 75) = .bool false := hd.1
              have e81 : ρ (.tmp 81) = .string X := hd.2.1
              have hk : ∀ v, ρ (.const v) = v := fun v => (hx (.const v) (by simp)).trans rfl
              refine .inl ⟨e75, ?_⟩
              exact gives_val (G := fun vv _ => vv = .bool false) (v := .bool false) (by simp [execOp, e75, e81, hk, hxx, go_sem]) rfl
            · intro ρ wx hE hx hd
              replace hE := Ext.undrew hE
              have e75 : ρ (.tmp 75) = .bool false := hd.1
              have e82 : ρ (.tmp 82) = .bool false := hd.2.1
              have hk : ∀ v, ρ (.const v) = v := fun v => (hx (.const v) (by simp)).trans rfl
              exact gives_val (G := fun vv _ => vv = .bool false) (v := .bool false) (by simp [execOp, e75, e82, hk, go_sem]) rfl
            · intro ρ wx hE hx hd
              replace hE := Ext.undrew hE
              have e84 : ρ (.tmp 84) = .bool false := hd.1
              have e9 : ρ (.tmp 9) = .slice (some ⟨g, 0, none⟩) (M + 1) c := hx (.tmp 9) (by simp)
              refine .inl ⟨e84, ?_⟩
              exact gives_val (G := fun vv _ => vv = .slice (some ⟨g, 0, none⟩) (M + 1) c) (v := .slice (some ⟨g, 0, none⟩) (M + 1) c) (by simp [execOp, e84, e9, go_sem]) rfl
            · intro ρ wx hE hx hd
              replace hE := Ext.undrew hE
              have e84 : ρ (.tmp 84) = .bool false := hd.1
              have e11 : ρ (.tmp 11) = .int .i64 j := hx (.tmp 11) (by simp)
              refine .inl ⟨e84, ?_⟩
              exact gives_val (G := fun vv _ => vv = .int .i64 j) (v := .int .i64 j) (by simp [execOp, e84, e11, go_sem]) rfl
            · intro ρ wx hE hx hd
              replace hE := Ext.undrew hE
              have e84 : ρ (.tmp 84) = .bool false := hd.1
              have e85 : ρ (.tmp 85) = .slice (some ⟨g, 0, none⟩) (M + 1) c := hd.2.1
              have e86 : ρ (.tmp 86) = .int .i64 j := hd.2.2.1
              refine .inl ⟨e84, ?_⟩
              exact gives_val (G := fun vv _ => vv = .pointer (some ⟨g, j * 6, none⟩)) (v := .pointer (some ⟨g, j * 6, none⟩)) (by simp [execOp, e84, e85, e86, hq0, hq1, hq2, hq3, hjt, hjl, add_plain, go_sem]) rfl
            · intro ρ wx hE hx hd
              replace hE := Ext.undrew hE
              have e84 : ρ (.tmp 84) = .bool false := hd.1
              have e87 : ρ (.tmp 87) = .pointer (some ⟨g, j * 6, none⟩) := hd.2.1
              refine .inl ⟨e84, ?_⟩
              exact gives_val (G := fun vv _ => vv = .pointer (some ⟨g, j * 6 + 1, none⟩)) (v := .pointer (some ⟨g, j * 6 + 1, none⟩)) (by simp [execOp, e84, e87, go_sem]) rfl
            · intro ρ wx hE hx hd
              replace hE := Ext.undrew hE
              have e84 : ρ (.tmp 84) = .bool false := hd.1
              have e88 : ρ (.tmp 88) = .pointer (some ⟨g, j * 6 + 1, none⟩) := hd.2.1
              refine .inl ⟨e84, ?_⟩
              exact gives_val (G := fun vv _ => vv = .pointer (some ⟨g, j * 6 + 1 + 1, none⟩)) (v := .pointer (some ⟨g, j * 6 + 1 + 1, none⟩)) (by simp [execOp, e84, e88, go_sem]) rfl
            · intro ρ wx hE hx hd
              replace hE := Ext.undrew hE
              have e84 : ρ (.tmp 84) = .bool false := hd.1
              have e89 : ρ (.tmp 89) = .pointer (some ⟨g, j * 6 + 1 + 1, none⟩) := hd.2.1
              refine .inl ⟨e84, ?_⟩
              have hcl := ext_cell hE z2
              exact gives_val (G := fun vv _ => vv = .string Y) (v := .string Y) (by simp [execOp, e84, e89, hcl, go_sem]) rfl
            · intro ρ wx hE hx hd
              replace hE := Ext.undrew hE
              have e84 : ρ (.tmp 84) = .bool false := hd.1
              have e11 : ρ (.tmp 11) = .int .i64 j := hx (.tmp 11) (by simp)
              refine .inl ⟨e84, ?_⟩
              exact gives_val (G := fun vv _ => vv = .int .i64 j) (v := .int .i64 j) (by simp [execOp, e84, e11, go_sem]) rfl
            · intro ρ wx hE hx hd
              replace hE := Ext.undrew hE
              have e84 : ρ (.tmp 84) = .bool false := hd.1
              have e91 : ρ (.tmp 91) = .int .i64 j := hd.2.1
              have hf : ∀ f, ρ (.func f) = .func (.func f) #[] #[] := fun f => (hx (.func f) (by simp)).trans rfl
              refine .inl ⟨e84, ?_⟩
              refine gives_call (G := fun vv _ => vv = .string D) (by simp [execOp, e84, e91, hf, go_sem] <;> first | exact ⟨rfl, rfl⟩ | exact rfl) ?_
              exact call_below (HDC.out wx)
            · intro ρ wx hE hx hd
              replace hE := Ext.undrew hE
              have e84 : ρ (.tmp 84) = .bool false := hd.1
              have e92 : ρ (.tmp 92) = .string D := hd.2.1
              have hk : ∀ v, ρ (.const v) = v := fun v => (hx (.const v) (by simp)).trans rfl
              refine .inl ⟨e84, ?_⟩
              exact gives_val (G := fun vv _ => vv = .string (⟨#[47]⟩ ++ D)) (v := .string (⟨#[47]⟩ ++ D)) (by simp [execOp, e84, e92, hk, hds, go_sem]) rfl
            · intro ρ wx hE hx hd
              replace hE := Ext.undrew hE
              have e84 : ρ (.tmp 84) = .bool false := hd.1
              have e90 : ρ (.tmp 90) = .string Y := hd.2.1
              have e93 : ρ (.tmp 93) = .string (⟨#[47]⟩ ++ D) := hd.2.2.1
              refine .inl ⟨e84, ?_⟩
              exact gives_val (G := fun vv _ => vv = .bool false) (v := .bool false) (by simp [execOp, e84, e90, e93, hy, go_sem]) rfl
            · intro ρ wx hE hx hd
              replace hE := Ext.undrew hE
              have e84 : ρ (.tmp 84) = .bool false := hd.1
              have e94 : ρ (.tmp 94) = .bool false := hd.2.1
              have hk : ∀ v, ρ (.const v) = v := fun v => (hx (.const v) (by simp)).trans rfl
              exact gives_val (G := fun vv _ => vv = .bool false) (v := .bool false) (by simp [execOp, e84, e94, hk, go_sem]) rfl
            · intro ρ wx hE hx hd
              replace hE := Ext.undrew hE
              have e96 : ρ (.tmp 96) = .bool false := hd.1
              have e9 : ρ (.tmp 9) = .slice (some ⟨g, 0, none⟩) (M + 1) c := hx (.tmp 9) (by simp)
              refine .inl ⟨e96, ?_⟩
              exact gives_val (G := fun vv _ => vv = .slice (some ⟨g, 0, none⟩) (M + 1) c) (v := .slice (some ⟨g, 0, none⟩) (M + 1) c) (by simp [execOp, e96, e9, go_sem]) rfl
            · intro ρ wx hE hx hd
              replace hE := Ext.undrew hE
              have e96 : ρ (.tmp 96) = .bool false := hd.1
              have e11 : ρ (.tmp 11) = .int .i64 j := hx (.tmp 11) (by simp)
              refine .inl ⟨e96, ?_⟩
              exact gives_val (G := fun vv _ => vv = .int .i64 j) (v := .int .i64 j) (by simp [execOp, e96, e11, go_sem]) rfl
            · intro ρ wx hE hx hd
              replace hE := Ext.undrew hE
              have e96 : ρ (.tmp 96) = .bool false := hd.1
              have e97 : ρ (.tmp 97) = .slice (some ⟨g, 0, none⟩) (M + 1) c := hd.2.1
              have e98 : ρ (.tmp 98) = .int .i64 j := hd.2.2.1
              refine .inl ⟨e96, ?_⟩
              exact gives_val (G := fun vv _ => vv = .pointer (some ⟨g, j * 6, none⟩)) (v := .pointer (some ⟨g, j * 6, none⟩)) (by simp [execOp, e96, e97, e98, hq0, hq1, hq2, hq3, hjt, hjl, add_plain, go_sem]) rfl
            · intro ρ wx hE hx hd
              replace hE := Ext.undrew hE
              have e96 : ρ (.tmp 96) = .bool false := hd.1
              have e99 : ρ (.tmp 99) = .pointer (some ⟨g, j * 6, none⟩) := hd.2.1
              refine .inl ⟨e96, ?_⟩
              exact gives_val (G := fun vv _ => vv = .pointer (some ⟨g, j * 6 + 1, none⟩)) (v := .pointer (some ⟨g, j * 6 + 1, none⟩)) (by simp [execOp, e96, e99, go_sem]) rfl
            · intro ρ wx hE hx hd
              replace hE := Ext.undrew hE
              have e96 : ρ (.tmp 96) = .bool false := hd.1
              have e100 : ρ (.tmp 100) = .pointer (some ⟨g, j * 6 + 1, none⟩) := hd.2.1
              refine .inl ⟨e96, ?_⟩
              exact gives_val (G := fun vv _ => vv = .pointer (some ⟨g, j * 6 + 1 + 3, none⟩)) (v := .pointer (some ⟨g, j * 6 + 1 + 3, none⟩)) (by simp [execOp, e96, e100, go_sem]) rfl
            · intro ρ wx hE hx hd
              replace hE := Ext.undrew hE
              have e96 : ρ (.tmp 96) = .bool false := hd.1
              have e101 : ρ (.tmp 101) = .pointer (some ⟨g, j * 6 + 1 + 3, none⟩) := hd.2.1
              refine .inl ⟨e96, ?_⟩
              have hcl := ext_cell hE z4
              exact gives_val (G := fun vv _ => vv = .string L) (v := .string L) (by simp [execOp, e96, e101, hcl, go_sem]) rfl
            · intro ρ wx hE hx hd
              replace hE := Ext.undrew hE
              have e96 : ρ (.tmp 96) = .bool false := hd.1
              have e0 : ρ (.tmp 0) = .int .i64 N := hx (.tmp 0) (by simp)
              refine .inl ⟨e96, ?_⟩
              exact gives_val (G := fun vv _ => vv = .int .i64 N) (v := .int .i64 N) (by simp [execOp, e96, e0, go_sem]) rfl
            · intro ρ wx hE hx hd
              replace hE := Ext.undrew hE
              have e96 : ρ (.tmp 96) = .bool false := hd.1
              have e11 : ρ (.tmp 11) = .int .i64 j := hx (.tmp 11) (by simp)
              refine .inl ⟨e96, ?_⟩
              exact gives_val (G := fun vv _ => vv = .int .i64 j) (v := .int .i64 j) (by simp [execOp, e96, e11, go_sem]) rfl
            · intro ρ wx hE hx hd
              replace hE := Ext.undrew hE
              have e96 : ρ (.tmp 96) = .bool false := hd.1
              have e103 : ρ (.tmp 103) = .int .i64 N := hd.2.1
              have e104 : ρ (.tmp 104) = .int .i64 j := hd.2.2.1
              have hf : ∀ f, ρ (.func f) = .func (.func f) #[] #[] := fun f => (hx (.func f) (by simp)).trans rfl
              refine .inl ⟨e96, ?_⟩
              refine gives_call (G := fun vv _ => vv = .string L) (by simp [execOp, e96, e103, e104, hf, go_sem] <;> first | exact ⟨rfl, rfl⟩ | exact rfl) ?_
              exact call_below (HLC.out wx)
            · intro ρ wx hE hx hd
              replace hE := Ext.undrew hE
              have e96 : ρ (.tmp 96) = .bool false := hd.1
              have e102 : ρ (.tmp 102) = .string L := hd.2.1
              have e105 : ρ (.tmp 105) = .string L := hd.2.2.1
              refine .inl ⟨e96, ?_⟩
              exact gives_val (G := fun vv _ => vv = .bool false) (v := .bool false) (by simp [execOp, e96, e102, e105, hl, go_sem]) rfl
            · intro ρ wx hE hx hd
              replace hE := Ext.undrew hE
              have e96 : ρ (.tmp 96) = .bool false := hd.1
              have e106 : ρ (.tmp 106) = .bool false := hd.2.1
              have hk : ∀ v, ρ (.const v) = v := fun v => (hx (.const v) (by simp)).trans rfl
              exact gives_val (G := fun vv _ => vv = .bool false) (v := .bool false) (by simp [execOp, e96, e106, hk, go_sem]) rfl
            · intro ρ wx hE hx hd
              replace hE := Ext.undrew hE
              have e108 : ρ (.tmp 108) = .bool false := hd.1
              have e9 : ρ (.tmp 9) = .slice (some ⟨g, 0, none⟩) (M + 1) c := hx (.tmp 9) (by simp)
              refine .inl ⟨e108, ?_⟩
              exact gives_val (G := fun vv _ => vv = .slice (some ⟨g, 0, none⟩) (M + 1) c) (v := .slice (some ⟨g, 0, none⟩) (M + 1) c) (by simp [execOp, e108, e9, go_sem]) rfl
            · intro ρ wx hE hx hd
              replace hE := Ext.undrew hE
              have e108 : ρ (.tmp 108) = .bool false := hd.1
              have e11 : ρ (.tmp 11) = .int .i64 j := hx (.tmp 11) (by simp)
              refine .inl ⟨e108, ?_⟩
              exact gives_val (G := fun vv _ => vv = .int .i64 j) (v := .int .i64 j) (by simp [execOp, e108, e11, go_sem]) rfl
            · intro ρ wx hE hx hd
              replace hE := Ext.undrew hE
              have e108 : ρ (.tmp 108) = .bool false := hd.1
              have e109 : ρ (.tmp 109) = .slice (some ⟨g, 0, none⟩) (M + 1) c := hd.2.1
              have e110 : ρ (.tmp 110) = .int .i64 j := hd.2.2.1
              refine .inl ⟨e108, ?_⟩
              exact gives_val (G := fun vv _ => vv = .pointer (some ⟨g, j * 6, none⟩)) (v := .pointer (some ⟨g, j * 6, none⟩)) (by simp [execOp, e108, e109, e110, hq0, hq1, hq2, hq3, hjt, hjl, add_plain, go_sem]) rfl
            · intro ρ wx hE hx hd
              replace hE := Ext.undrew hE
              have e108 : ρ (.tmp 108) = .bool false := hd.1
              have e111 : ρ (.tmp 111) = .pointer (some ⟨g, j * 6, none⟩) := hd.2.1
              refine .inl ⟨e108, ?_⟩
              exact gives_val (G := fun vv _ => vv = .pointer (some ⟨g, j * 6 + 1, none⟩)) (v := .pointer (some ⟨g, j * 6 + 1, none⟩)) (by simp [execOp, e108, e111, go_sem]) rfl
            · intro ρ wx hE hx hd
              replace hE := Ext.undrew hE
              have e108 : ρ (.tmp 108) = .bool false := hd.1
              have e112 : ρ (.tmp 112) = .pointer (some ⟨g, j * 6 + 1, none⟩) := hd.2.1
              refine .inl ⟨e108, ?_⟩
              exact gives_val (G := fun vv _ => vv = .pointer (some ⟨g, j * 6 + 1 + 4, none⟩)) (v := .pointer (some ⟨g, j * 6 + 1 + 4, none⟩)) (by simp [execOp, e108, e112, go_sem]) rfl
            · intro ρ wx hE hx hd
              replace hE := Ext.undrew hE
              have e108 : ρ (.tmp 108) = .bool false := hd.1
              have e113 : ρ (.tmp 113) = .pointer (some ⟨g, j * 6 + 1 + 4, none⟩) := hd.2.1
              refine .inl ⟨e108, ?_⟩
              have hcl := ext_cell hE z5
              exact gives_val (G := fun vv _ => vv = .bool false) (v := .bool false) (by simp [execOp, e108, e113, hcl, go_sem]) rfl
            · intro ρ wx hE hx hd
              replace hE := Ext.undrew hE
              have e108 : ρ (.tmp 108) = .bool false := hd.1
              have e114 : ρ (.tmp 114) = .bool false := hd.2.1
              have hk : ∀ v, ρ (.const v) = v := fun v => (hx (.const v) (by simp)).trans rfl
              exact gives_val (G := fun vv _ => vv = .bool false) (v := .bool false) (by simp [execOp, e108, e114, hk, go_sem]) rfl
          intro wx hE
          refine fun v69 (e69 : v69 = .slice (some ⟨g, 0, none⟩) (M + 1) c) => ?_
          refine fun v70 (e70 : v70 = .int .i64 j) => ?_
          refine fun v71 (e71 : v71 = .pointer (some ⟨g, j * 6, none⟩)) => ?_
          refine fun v72 (e72 : v72 = .pointer (some ⟨g, j * 6, none⟩)) => ?_
          refine fun v73 (e73 : v73 = .int .i64 0) => ?_
          refine fun v74 (e74 : v74 = .bool false) => ?_
          refine fun v75 (e75 : v75 = .bool false) => ?_
          refine fun v76 (e76 : v76 = .slice (some ⟨g, 0, none⟩) (M + 1) c) => ?_
          refine fun v77 (e77 : v77 = .int .i64 j) => ?_
          refine fun v78 (e78 : v78 = .pointer (some ⟨g, j * 6, none⟩)) => ?_
          refine fun v79 (e79 : v79 = .pointer (some ⟨g, j * 6 + 1, none⟩)) => ?_
          refine fun v80 (e80 : v80 = .pointer (some ⟨g, j * 6 + 1, none⟩)) => ?_
          refine fun v81 (e81 : v81 = .string X) => ?_
          refine fun v82 (e82 : v82 = .bool false) => ?_
          refine fun v83 (e83 : v83 = .bool false) => ?_
          refine fun v84 (e84 : v84 = .bool false) => ?_
          refine fun v85 (e85 : v85 = .slice (some ⟨g, 0, none⟩) (M + 1) c) => ?_
          refine fun v86 (e86 : v86 = .int .i64 j) => ?_
          refine fun v87 (e87 : v87 = .pointer (some ⟨g, j * 6, none⟩)) => ?_
          refine fun v88 (e88 : v88 = .pointer (some ⟨g, j * 6 + 1, none⟩)) => ?_
          refine fun v89 (e89 : v89 = .pointer (some ⟨g, j * 6 + 1 + 1, none⟩)) => ?_
          refine fun v90 (e90 : v90 = .string Y) => ?_
          refine fun v91 (e91 : v91 = .int .i64 j) => ?_
          refine fun v92 (e92 : v92 = .string D) => ?_
          refine fun v93 (e93 : v93 = .string (⟨#[47]⟩ ++ D)) => ?_
          refine fun v94 (e94 : v94 = .bool false) => ?_
          refine fun v95 (e95 : v95 = .bool false) => ?_
          refine fun v96 (e96 : v96 = .bool false) => ?_
          refine fun v97 (e97 : v97 = .slice (some ⟨g, 0, none⟩) (M + 1) c) => ?_
          refine fun v98 (e98 : v98 = .int .i64 j) => ?_
          refine fun v99 (e99 : v99 = .pointer (some ⟨g, j * 6, none⟩)) => ?_
          refine fun v100 (e100 : v100 = .pointer (some ⟨g, j * 6 + 1, none⟩)) => ?_
          refine fun v101 (e101 : v101 = .pointer (some ⟨g, j * 6 + 1 + 3, none⟩)) => ?_
          refine fun v102 (e102 : v102 = .string L) => ?_
          refine fun v103 (e103 : v103 = .int .i64 N) => ?_
          refine fun v104 (e104 : v104 = .int .i64 j) => ?_
          refine fun v105 (e105 : v105 = .string L) => ?_
          refine fun v106 (e106 : v106 = .bool false) => ?_
          refine fun v107 (e107 : v107 = .bool false) => ?_
          refine fun v108 (e108 : v108 = .bool false) => ?_
          refine fun v109 (e109 : v109 = .slice (some ⟨g, 0, none⟩) (M + 1) c) => ?_
          refine fun v110 (e110 : v110 = .int .i64 j) => ?_
          refine fun v111 (e111 : v111 = .pointer (some ⟨g, j * 6, none⟩)) => ?_
          refine fun v112 (e112 : v112 = .pointer (some ⟨g, j * 6 + 1, none⟩)) => ?_
          refine fun v113 (e113 : v113 = .pointer (some ⟨g, j * 6 + 1 + 4, none⟩)) => ?_
          refine fun v114 (e114 : v114 = .bool false) => ?_
          refine fun v115 (e115 : v115 = .bool false) => ?_
          subst e69 e70 e71 e72 e73 e74 e75 e76 e77 e78 e79 e80 e81 e82 e83 e84 e85 e86 e87 e88 e89 e90 e91 e92 e93 e94 e95 e96 e97 e98 e99 e100 e101 e102 e103 e104 e105 e106 e107 e108 e109 e110 e111 e112 e113 e114 e115
          refine rest_nil ?_
          refine wpList_nil ?_
          simp only [Exit.then, Act.put, List.setIfInBounds_toArray, List.set_cons_zero, List.set_cons_succ]
          refine go_on (by assumption) ?_
          have HE := Lib.hid hE
          clear hE
          go_wp2_with fail
          go_roundw
          case rel => exact ⟨j + 1, by omega, by go_num, HBR.out.trans (HE.out.mono HBR.out.size)⟩
          case measure => simp [intOf]; omega
        · obtain rfl : j = M + 1 := by omega
          have hji : ¬ ((M + 1 : Nat) : Int) ≤ (M : Int) := by omega
          have HBW := Lib.hid (HB1.out.trans (HBR.out.mono HB1.out.size))
          go_wp2_with fail
          refine (awake_any wr m (HM.out.below HBW.out)).mono ?_
          rintro e w3 ⟨rfl, hb3⟩
          go_wp2_with fail
          go_ret
          exact hR _ _ ⟨rfl, HBW.out.trans (hb3.mono HBW.out.size)⟩
theorem lengths_row {w : World} (n : Int) (_ : -9223372036854775808 ≤ n) (_ : n ≤ 9223372036854775807) (more : Int) (_ : -9223372036854775808 ≤ more) (_ : more ≤ 9223372036854775807) (size : Int) (_ : -9223372036854775808 ≤ size) (h2 : size ≤ 9223372036854775807) (m : Int) (hm : MaxLen m w) :
    Calls Tryd.prog 4 #[.int .i64 n, .int .i64 more, .int .i64 size] w fun e w' => e = .returned (.bool true) ∧ Below w.heap.size w w' := lengths_walk n more size h2 m w hm
end Go.Proofs.YtaihjnicondifaaDoor.Asc
