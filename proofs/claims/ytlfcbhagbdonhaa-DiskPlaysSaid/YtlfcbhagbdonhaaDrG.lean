/-
  Contract: a file of the document's disk is cut.
  Lengths within the rows' own reach.
-/
import Derived.Test.YtlfcbhagbdonhaaDrF
namespace Go.Proofs.Ytlfcbhagbdonhaa.Asc
set_option linter.unusedSimpArgs false
set_option linter.unusedVariables false
open Go Go.RowKit Go.Proofs.Ytlfcbhagbdonhaa.Pb

section
variable {w w' : World} {F : Nat → Prop} {b : Nat} {dk : Dk} {lv : Value} {last : Int}
set_option maxHeartbeats 4000000 in
set_option maxRecDepth 20000 in
theorem rtruncate_any (h : RIn w F b dk lv last) (hO : Ord dk.fs) (ho : dk.ops ≤ 1000000) (hlen : dk.fs.length ≤ 1000) (T : ByteArray) (hT : T.size ≤ 1000000) (z : Int) :
    Calls Try.prog 44 #[.pointer (some ⟨b, 0, none⟩), .string T, .int .i64 z] w fun e w' => e = .returned (.int .i64 (dk.truncate (toL T) z).1) ∧ RAt w' F b (dk.truncate (toL T) z).2 ∧ Keep (fun j => F j ∨ j = b) w w' := by
  refine calls_gen fun R hR => ?_
  have H := Lib.hid h; have HO := Lib.hid hO
  have hltb := h.lt
  clear h hO
  go_enter Try.func44, Try.ntmps44
  go_wp2_with fail
  refine (off_any H.out ho).mono ?_
  rintro e w1 ⟨rfl, h1, hk1⟩
  have H1 := Lib.hid h1
  have HK1 : Hid (Keep (fun j => F j ∨ j = b) w w1) := Lib.hid (hk1.mono fun _ _ h => .inr h)
  clear h1 hk1
  cases hoff : dk.off with
  | true =>
    have hw : dk.truncate (toL T) z = (6, dk.tick) := by unfold Dk.truncate; rw [if_pos hoff]
    rw [hw] at hR
    clear hw
    go_wp2_with fail
    go_ret
    exact hR _ _ ⟨rfl, ⟨lv, last, H1.out⟩, HK1.out⟩
  | false =>
    go_wp2_with fail
    refine (find_any H1.out T hT hlen).mono ?_
    rintro e w2 ⟨rfl, hw2⟩
    rw [hw2]
    clear hw2
    have hp := pos_look (fs := dk.fs) (n := toL T)
    rw [show dk.tick.fs = dk.fs from rfl]
    cases hpo : pos dk.fs (toL T) with
    | none =>
      rw [hpo] at hp
      have hlk : look dk.fs (toL T) = none := hp
      have hw : dk.truncate (toL T) z = (4, dk.tick) := by unfold Dk.truncate; rw [if_neg (by rw [hoff]; decide), hlk]
      rw [hw] at hR
      clear hw hlk hp hpo
      unfold posV
      go_wp2_with fail
      go_ret
      exact hR _ _ ⟨rfl, ⟨lv, last, H1.out⟩, HK1.out⟩
    | some k =>
      rw [hpo] at hp
      obtain ⟨x, hx, hxn, hlk⟩ := hp
      have hw : dk.truncate (toL T) z = if z < 0 ∨ z > x.b.length then (1, dk.tick) else (0, { dk.tick with fs := setF dk.fs { x with b := x.b.take z.toNat, sy := min x.sy z.toNat } }) := by unfold Dk.truncate; rw [if_neg (by rw [hoff]; decide), hlk]
      rw [hw] at hR
      have hk : k < dk.fs.length := (List.getElem?_eq_some_iff.1 hx).1
      have HSP : Hid (∀ f' : Fl, f'.name = toL T → dk.fs.set k f' = setF dk.fs f') := Lib.hid fun f' hf => set_pos HO.out hpo hf
      obtain ⟨g, c, B, c', hlv, hgF, hgl, hkl, hkc, d0, d1, d2, hbc, hvx, hfz, hBn⟩ := rf_at H1.out k x hx
      subst hlv
      have c1 := blk_cell H1.out.blk 1
      simp only [rcell, List.getElem?_toArray, List.getElem?_cons_zero, List.getElem?_cons_succ] at c1
      rw [show dk.tick.fs = dk.fs from rfl] at c1 hkl hkc
      have hlt1 := H1.out.lt
      obtain ⟨m, hm⟩ : ∃ m, dk.fs.length = m := ⟨_, rfl⟩
      obtain ⟨L, hL⟩ : ∃ L, x.b.length = L := ⟨_, rfl⟩
      have HM := Lib.hid hm; have HLL := Lib.hid hL
      rw [hm] at c1 hkl hkc
      rw [hL] at d1 hbc hvx hR
      have hki : (k : Int) < (m : Int) := by omega
      have hnn : ¬ (k : Int) < 0 := by omega
      have HX := Lib.hid hx; have HXN := Lib.hid hxn; have HVX := Lib.hid hvx; have HGF := Lib.hid hgF; have HFZ := Lib.hid hfz
      clear hw hlk hpo hx hxn d0 hvx hgF hfz hm hL
      unfold posV
      by_cases hz0 : z < 0
      · rw [if_pos (.inl hz0)] at hR
        go_wp2_with fail
        go_ret
        exact hR _ _ ⟨rfl, ⟨_, last, H1.out⟩, HK1.out⟩
      by_cases hz1 : z > (L : Int)
      · rw [if_pos (.inr hz1)] at hR
        go_wp2_with fail
        go_ret
        exact hR _ _ ⟨rfl, ⟨_, last, H1.out⟩, HK1.out⟩
      rw [if_neg (fun h => h.elim hz0 hz1)] at hR
      obtain ⟨n, rfl⟩ := Int.eq_ofNat_of_zero_le (show 0 ≤ z by omega)
      have hnL : n ≤ L := by omega
      have hnc : (n : Int) ≤ (c' : Int) := by omega
      have HC1 := Lib.hid c1; have HD1 := Lib.hid d1; have HD2 := Lib.hid d2
      go_upto_region 8 with fail
      clear c1 d1 d2
      have hn0 : (0 : Int) ≤ (n : Int) := by omega
      refine wp_region_any (by kernel_rfl) ?_
      refine region_ext [(fun vv _ => vv = .pointer (some ⟨b, 0, none⟩)), (fun vv _ => vv = .pointer (some ⟨b, 0, none⟩)), (fun vv _ => vv = .pointer (some ⟨b, 1, none⟩)), (fun vv _ => vv = .slice (some ⟨g, 0, none⟩) m c), (fun vv _ => vv = .int .i64 k), (fun vv _ => vv = .pointer (some ⟨b, 0, none⟩)), (fun vv _ => vv = .pointer (some ⟨b, 0, none⟩)), (fun vv _ => vv = .pointer (some ⟨b, 1, none⟩)), (fun vv _ => vv = .slice (some ⟨g, 0, none⟩) m c), (fun vv _ => vv = .int .i64 k), (fun vv _ => vv = .pointer (some ⟨g, k * 3, none⟩)), (fun vv _ => vv = .pointer (some ⟨g, k * 3 + 1, none⟩)), (fun vv _ => vv = .slice B L c'), (fun vv _ => vv = .int .i64 (n : Int)), (fun vv _ => vv = .slice B n c'), (fun vv _ => vv = .pointer (some ⟨g, k * 3, none⟩)), (fun vv _ => vv = .pointer (some ⟨g, k * 3 + 1, none⟩))]
        [[], [(0, 30)], [(1, 31)], [(2, 32)], [], [], [(5, 35)], [(6, 36)], [(7, 37)], [], [(8, 38), (9, 39)], [(10, 40)], [(11, 41)], [], [(12, 42), (13, 43)], [(3, 33), (4, 34)], [(15, 45)], []]
        [none, none, none, none, none, none, none, none, none, none, none, none, none, none, none, none, none, none]
        [some 30, some 31, some 32, some 33, some 34, some 35, some 36, some 37, some 38, some 39, some 40, some 41, some 42, some 43, some 44, some 45, some 46] 17 (by kernel_rfl) (by kernel_rfl) (by kernel_rfl) rfl (by kernel_rfl) ?_ ?_ ?_
      · exact ⟨fun _ _ _ _ h => h, fun _ _ _ _ h => h, fun _ _ _ _ h => h, fun _ _ _ _ h => h, fun _ _ _ _ h => h, fun _ _ _ _ h => h, fun _ _ _ _ h => h, fun _ _ _ _ h => h, fun _ _ _ _ h => h, fun _ _ _ _ h => h, fun _ _ _ _ h => h, fun _ _ _ _ h => h, fun _ _ _ _ h => h, fun _ _ _ _ h => h, fun _ _ _ _ h => h, fun _ _ _ _ h => h, fun _ _ _ _ h => h, trivial⟩
      · refine ⟨fun ρ wx _ hx _ => gives_move (hx (.tmp 0) (by simp)), ?_, ?_, ?_, fun ρ wx _ hx _ => gives_move (hx (.tmp 7) (by simp)), fun ρ wx _ hx _ => gives_move (hx (.tmp 0) (by simp)), ?_, ?_, ?_, fun ρ wx _ hx _ => gives_move (hx (.tmp 7) (by simp)), ?_, ?_, ?_, fun ρ wx _ hx _ => gives_move (hx (.tmp 2) (by simp)), ?_, ?_, ?_, trivial⟩
        · intro ρ wx hE hx hd
          replace hE := Ext.undrew hE
          have e30 : ρ (.tmp 30) = .pointer (some ⟨b, 0, none⟩) := hd.1
          exact gives_val (G := fun vv _ => vv = .pointer (some ⟨b, 0, none⟩)) (v := .pointer (some ⟨b, 0, none⟩)) (by simp [execOp, e30, go_sem]) rfl
        · intro ρ wx hE hx hd
          replace hE := Ext.undrew hE
          have e31 : ρ (.tmp 31) = .pointer (some ⟨b, 0, none⟩) := hd.1
          exact gives_val (G := fun vv _ => vv = .pointer (some ⟨b, 1, none⟩)) (v := .pointer (some ⟨b, 1, none⟩)) (by simp [execOp, e31, go_sem]) rfl
        · intro ρ wx hE hx hd
          replace hE := Ext.undrew hE
          have e32 : ρ (.tmp 32) = .pointer (some ⟨b, 1, none⟩) := hd.1
          have hcl := ext_cell hE HC1.out
          exact gives_val (G := fun vv _ => vv = .slice (some ⟨g, 0, none⟩) m c) (v := .slice (some ⟨g, 0, none⟩) m c) (by simp [execOp, e32, hcl, go_sem]) rfl
        · intro ρ wx hE hx hd
          replace hE := Ext.undrew hE
          have e35 : ρ (.tmp 35) = .pointer (some ⟨b, 0, none⟩) := hd.1
          exact gives_val (G := fun vv _ => vv = .pointer (some ⟨b, 0, none⟩)) (v := .pointer (some ⟨b, 0, none⟩)) (by simp [execOp, e35, go_sem]) rfl
        · intro ρ wx hE hx hd
          replace hE := Ext.undrew hE
          have e36 : ρ (.tmp 36) = .pointer (some ⟨b, 0, none⟩) := hd.1
          exact gives_val (G := fun vv _ => vv = .pointer (some ⟨b, 1, none⟩)) (v := .pointer (some ⟨b, 1, none⟩)) (by simp [execOp, e36, go_sem]) rfl
        · intro ρ wx hE hx hd
          replace hE := Ext.undrew hE
          have e37 : ρ (.tmp 37) = .pointer (some ⟨b, 1, none⟩) := hd.1
          have hcl := ext_cell hE HC1.out
          exact gives_val (G := fun vv _ => vv = .slice (some ⟨g, 0, none⟩) m c) (v := .slice (some ⟨g, 0, none⟩) m c) (by simp [execOp, e37, hcl, go_sem]) rfl
        · intro ρ wx hE hx hd
          replace hE := Ext.undrew hE
          have e38 : ρ (.tmp 38) = .slice (some ⟨g, 0, none⟩) m c := hd.1
          have e39 : ρ (.tmp 39) = .int .i64 k := hd.2.1
          exact gives_val (G := fun vv _ => vv = .pointer (some ⟨g, k * 3, none⟩)) (v := .pointer (some ⟨g, k * 3, none⟩)) (by simp [execOp, e38, e39, go_sem, hki]) rfl
        · intro ρ wx hE hx hd
          replace hE := Ext.undrew hE
          have e40 : ρ (.tmp 40) = .pointer (some ⟨g, k * 3, none⟩) := hd.1
          exact gives_val (G := fun vv _ => vv = .pointer (some ⟨g, k * 3 + 1, none⟩)) (v := .pointer (some ⟨g, k * 3 + 1, none⟩)) (by simp [execOp, e40, go_sem]) rfl
        · intro ρ wx hE hx hd
          replace hE := Ext.undrew hE
          have e41 : ρ (.tmp 41) = .pointer (some ⟨g, k * 3 + 1, none⟩) := hd.1
          have hcl := ext_cell hE HD1.out
          exact gives_val (G := fun vv _ => vv = .slice B L c') (v := .slice B L c') (by simp [execOp, e41, hcl, go_sem]) rfl
        · intro ρ wx hE hx hd
          replace hE := Ext.undrew hE
          have e42 : ρ (.tmp 42) = .slice B L c' := hd.1
          have e43 : ρ (.tmp 43) = .int .i64 (n : Int) := hd.2.1
          exact gives_val (G := fun vv _ => vv = .slice B n c') (v := .slice B n c') (by simp [execOp, e42, e43, go_sem, hn0, hnc]) rfl
        · intro ρ wx hE hx hd
          replace hE := Ext.undrew hE
          have e33 : ρ (.tmp 33) = .slice (some ⟨g, 0, none⟩) m c := hd.1
          have e34 : ρ (.tmp 34) = .int .i64 k := hd.2.1
          exact gives_val (G := fun vv _ => vv = .pointer (some ⟨g, k * 3, none⟩)) (v := .pointer (some ⟨g, k * 3, none⟩)) (by simp [execOp, e33, e34, go_sem, hki]) rfl
        · intro ρ wx hE hx hd
          replace hE := Ext.undrew hE
          have e45 : ρ (.tmp 45) = .pointer (some ⟨g, k * 3, none⟩) := hd.1
          exact gives_val (G := fun vv _ => vv = .pointer (some ⟨g, k * 3 + 1, none⟩)) (v := .pointer (some ⟨g, k * 3 + 1, none⟩)) (by simp [execOp, e45, go_sem]) rfl
      intro wx hE
      refine fun v30 (e30 : v30 = .pointer (some ⟨b, 0, none⟩)) => ?_
      refine fun v31 (e31 : v31 = .pointer (some ⟨b, 0, none⟩)) => ?_
      refine fun v32 (e32 : v32 = .pointer (some ⟨b, 1, none⟩)) => ?_
      refine fun v33 (e33 : v33 = .slice (some ⟨g, 0, none⟩) m c) => ?_
      refine fun v34 (e34 : v34 = .int .i64 k) => ?_
      refine fun v35 (e35 : v35 = .pointer (some ⟨b, 0, none⟩)) => ?_
      refine fun v36 (e36 : v36 = .pointer (some ⟨b, 0, none⟩)) => ?_
      refine fun v37 (e37 : v37 = .pointer (some ⟨b, 1, none⟩)) => ?_
      refine fun v38 (e38 : v38 = .slice (some ⟨g, 0, none⟩) m c) => ?_
      refine fun v39 (e39 : v39 = .int .i64 k) => ?_
      refine fun v40 (e40 : v40 = .pointer (some ⟨g, k * 3, none⟩)) => ?_
      refine fun v41 (e41 : v41 = .pointer (some ⟨g, k * 3 + 1, none⟩)) => ?_
      refine fun v42 (e42 : v42 = .slice B L c') => ?_
      refine fun v43 (e43 : v43 = .int .i64 (n : Int)) => ?_
      refine fun v44 (e44 : v44 = .slice B n c') => ?_
      refine fun v45 (e45 : v45 = .pointer (some ⟨g, k * 3, none⟩)) => ?_
      refine fun v46 (e46 : v46 = .pointer (some ⟨g, k * 3 + 1, none⟩)) => ?_
      subst e30 e31 e32 e33 e34 e35 e36 e37 e38 e39 e40 e41 e42 e43 e44 e45 e46
      refine rest_nil ?_
      simp only [List.drop_succ_cons, List.drop_zero, Act.put, List.setIfInBounds_toArray, List.set_cons_zero, List.set_cons_succ]
      have HBN : Hid (B = none → n = 0 ∧ c' = 0) := Lib.hid fun e => by have := hBn e; omega
      have HRX := Lib.hid (H1.out.below hE)
      have HVT : Hid (View Rp.u8 wx (fun i => F i ∧ i ≠ g) (x.b.take n) (.slice B n c')) := Lib.hid ((HVX.out.below hE).take n (by rw [HLL.out]; exact hnL) HBN.out)
      obtain ⟨hr3, hk3⟩ := rset_b HRX.out HGF.out k x HX.out (x.b.take n) (.slice B n c') HVT.out
      obtain ⟨w3, hw3⟩ : ∃ w3, wx.setCell ⟨g, k * 3 + 1, none⟩ (.slice B n c') = w3 := ⟨_, rfl⟩
      rw [hw3] at hr3 hk3
      have HR3 := Lib.hid hr3; have HW3 := Lib.hid hw3
      have HK3 : Hid (Keep (fun j => F j ∨ j = b) w w3) := Lib.hid (HK1.out.trans ((Keep.old hE).trans hk3 fun _ _ h => h) fun _ _ h => .inl h)
      have d1 := ext_cell hE HD1.out
      have hgx : g < wx.heap.size := Nat.lt_of_lt_of_le hgl hE.size
      have hfx : wx.frozen? ⟨g, k * 3 + 1, none⟩ = false := by
        obtain ⟨g4, c4, B4, c4', hlv4, _, _, _, _, _, _, _, _, _, hfz4, _⟩ := rf_at HRX.out k x HX.out
        cases hlv4; exact hfz4 _
      clear hr3 hk3 hw3
      go_wp2_with fail
      rw [HW3.out]
      clear d1 hgx hfx HW3 hE
      have hx3 : ({ dk.tick with fs := dk.tick.fs.set k { x with b := x.b.take n } } : Dk).fs[k]? = some { x with b := x.b.take n } := by
        show (dk.fs.set k _)[k]? = _
        rw [List.getElem?_set_self (by rw [HM.out]; exact hkl)]
      have HX3 := Lib.hid hx3
      obtain ⟨g5, c5, B5, c5', hlv5, _, hgl5, _, _, _, _, d5, _, _, hfz5, _⟩ := rf_at HR3.out k _ hx3
      have c15 := blk_cell HR3.out.blk 1
      simp only [rcell, List.getElem?_toArray, List.getElem?_cons_zero, List.getElem?_cons_succ] at c15
      have hge : g5 = g := by have h6 := congrArg Value.ownBlock hlv5; simp [Value.ownBlock] at h6; exact h6.symm
      subst hge
      rw [show dk.tick.fs = dk.fs from rfl, HM.out] at c15
      have d5 : w3.cell? ⟨g5, k * 3 + 2, none⟩ = some (.int .i64 x.sy) := d5
      have HC5 := Lib.hid c15; have HD5 := Lib.hid d5
      have HMIN : Hid (∀ (ts : Array TypeId) (ty : TypeId) (wx : World), (Builtin.min_ ts ty #[.int .i64 x.sy, .int .i64 n]).run Try.prog wx = .ok (.int .i64 ((min x.sy n : Nat) : Int)) wx) := Lib.hid fun ts ty wx => by
        have h1 : (Builtin.min_ ts ty #[.int .i64 x.sy, .int .i64 n]).run Try.prog wx = .ok (.int .i64 (if (n : Int) < (x.sy : Int) then (n : Int) else (x.sy : Int))) wx := run_min_int2 ..
        rw [h1]
        have h2 : (if (n : Int) < (x.sy : Int) then (n : Int) else (x.sy : Int)) = ((min x.sy n : Nat) : Int) := by omega
        rw [h2]
      clear hlv5 c15 d5 hx3 hfz5 hgl5
      go_upto_region 9 with fail
      refine wp_region_any (by kernel_rfl) ?_
      refine region_ext [(fun vv _ => vv = .pointer (some ⟨b, 0, none⟩)), (fun vv _ => vv = .pointer (some ⟨b, 0, none⟩)), (fun vv _ => vv = .pointer (some ⟨b, 1, none⟩)), (fun vv _ => vv = .slice (some ⟨g5, 0, none⟩) m c), (fun vv _ => vv = .int .i64 k), (fun vv _ => vv = .pointer (some ⟨b, 0, none⟩)), (fun vv _ => vv = .pointer (some ⟨b, 0, none⟩)), (fun vv _ => vv = .pointer (some ⟨b, 1, none⟩)), (fun vv _ => vv = .slice (some ⟨g5, 0, none⟩) m c), (fun vv _ => vv = .int .i64 k), (fun vv _ => vv = .pointer (some ⟨g5, k * 3, none⟩)), (fun vv _ => vv = .pointer (some ⟨g5, k * 3 + 2, none⟩)), (fun vv _ => vv = .int .i64 x.sy), (fun vv _ => vv = .int .i64 (n : Int)), (fun vv _ => vv = .int .i64 ((min x.sy n : Nat) : Int)), (fun vv _ => vv = .pointer (some ⟨g5, k * 3, none⟩)), (fun vv _ => vv = .pointer (some ⟨g5, k * 3 + 2, none⟩))]
        [[], [(0, 47)], [(1, 48)], [(2, 49)], [], [], [(5, 52)], [(6, 53)], [(7, 54)], [], [(8, 55), (9, 56)], [(10, 57)], [(11, 58)], [], [(12, 59), (13, 60)], [(3, 50), (4, 51)], [(15, 62)], []]
        [none, none, none, none, none, none, none, none, none, none, none, none, none, none, none, none, none, none]
        [some 47, some 48, some 49, some 50, some 51, some 52, some 53, some 54, some 55, some 56, some 57, some 58, some 59, some 60, some 61, some 62, some 63] 17 (by kernel_rfl) (by kernel_rfl) (by kernel_rfl) rfl (by kernel_rfl) ?_ ?_ ?_
      · exact ⟨fun _ _ _ _ h => h, fun _ _ _ _ h => h, fun _ _ _ _ h => h, fun _ _ _ _ h => h, fun _ _ _ _ h => h, fun _ _ _ _ h => h, fun _ _ _ _ h => h, fun _ _ _ _ h => h, fun _ _ _ _ h => h, fun _ _ _ _ h => h, fun _ _ _ _ h => h, fun _ _ _ _ h => h, fun _ _ _ _ h => h, fun _ _ _ _ h => h, fun _ _ _ _ h => h, fun _ _ _ _ h => h, fun _ _ _ _ h => h, trivial⟩
      · refine ⟨fun ρ wx _ hx _ => gives_move (hx (.tmp 0) (by simp)), ?_, ?_, ?_, fun ρ wx _ hx _ => gives_move (hx (.tmp 7) (by simp)), fun ρ wx _ hx _ => gives_move (hx (.tmp 0) (by simp)), ?_, ?_, ?_, fun ρ wx _ hx _ => gives_move (hx (.tmp 7) (by simp)), ?_, ?_, ?_, fun ρ wx _ hx _ => gives_move (hx (.tmp 2) (by simp)), ?_, ?_, ?_, trivial⟩
        · intro ρ wx hE hx hd
          replace hE := Ext.undrew hE
          have e47 : ρ (.tmp 47) = .pointer (some ⟨b, 0, none⟩) := hd.1
          exact gives_val (G := fun vv _ => vv = .pointer (some ⟨b, 0, none⟩)) (v := .pointer (some ⟨b, 0, none⟩)) (by simp [execOp, e47, go_sem]) rfl
        · intro ρ wx hE hx hd
          replace hE := Ext.undrew hE
          have e48 : ρ (.tmp 48) = .pointer (some ⟨b, 0, none⟩) := hd.1
          exact gives_val (G := fun vv _ => vv = .pointer (some ⟨b, 1, none⟩)) (v := .pointer (some ⟨b, 1, none⟩)) (by simp [execOp, e48, go_sem]) rfl
        · intro ρ wx hE hx hd
          replace hE := Ext.undrew hE
          have e49 : ρ (.tmp 49) = .pointer (some ⟨b, 1, none⟩) := hd.1
          have hcl := ext_cell hE HC5.out
          exact gives_val (G := fun vv _ => vv = .slice (some ⟨g5, 0, none⟩) m c) (v := .slice (some ⟨g5, 0, none⟩) m c) (by simp [execOp, e49, hcl, go_sem]) rfl
        · intro ρ wx hE hx hd
          replace hE := Ext.undrew hE
          have e52 : ρ (.tmp 52) = .pointer (some ⟨b, 0, none⟩) := hd.1
          exact gives_val (G := fun vv _ => vv = .pointer (some ⟨b, 0, none⟩)) (v := .pointer (some ⟨b, 0, none⟩)) (by simp [execOp, e52, go_sem]) rfl
        · intro ρ wx hE hx hd
          replace hE := Ext.undrew hE
          have e53 : ρ (.tmp 53) = .pointer (some ⟨b, 0, none⟩) := hd.1
          exact gives_val (G := fun vv _ => vv = .pointer (some ⟨b, 1, none⟩)) (v := .pointer (some ⟨b, 1, none⟩)) (by simp [execOp, e53, go_sem]) rfl
        · intro ρ wx hE hx hd
          replace hE := Ext.undrew hE
          have e54 : ρ (.tmp 54) = .pointer (some ⟨b, 1, none⟩) := hd.1
          have hcl := ext_cell hE HC5.out
          exact gives_val (G := fun vv _ => vv = .slice (some ⟨g5, 0, none⟩) m c) (v := .slice (some ⟨g5, 0, none⟩) m c) (by simp [execOp, e54, hcl, go_sem]) rfl
        · intro ρ wx hE hx hd
          replace hE := Ext.undrew hE
          have e55 : ρ (.tmp 55) = .slice (some ⟨g5, 0, none⟩) m c := hd.1
          have e56 : ρ (.tmp 56) = .int .i64 k := hd.2.1
          exact gives_val (G := fun vv _ => vv = .pointer (some ⟨g5, k * 3, none⟩)) (v := .pointer (some ⟨g5, k * 3, none⟩)) (by simp [execOp, e55, e56, go_sem, hki]) rfl
        · intro ρ wx hE hx hd
          replace hE := Ext.undrew hE
          have e57 : ρ (.tmp 57) = .pointer (some ⟨g5, k * 3, none⟩) := hd.1
          exact gives_val (G := fun vv _ => vv = .pointer (some ⟨g5, k * 3 + 2, none⟩)) (v := .pointer (some ⟨g5, k * 3 + 2, none⟩)) (by simp [execOp, e57, go_sem]) rfl
        · intro ρ wx hE hx hd
          replace hE := Ext.undrew hE
          have e58 : ρ (.tmp 58) = .pointer (some ⟨g5, k * 3 + 2, none⟩) := hd.1
          have hcl := ext_cell hE HD5.out
          exact gives_val (G := fun vv _ => vv = .int .i64 x.sy) (v := .int .i64 x.sy) (by simp [execOp, e58, hcl, go_sem]) rfl
        · intro ρ wx hE hx hd
          replace hE := Ext.undrew hE
          have e59 : ρ (.tmp 59) = .int .i64 x.sy := hd.1
          have e60 : ρ (.tmp 60) = .int .i64 (n : Int) := hd.2.1
          exact gives_val (G := fun vv _ => vv = .int .i64 ((min x.sy n : Nat) : Int)) (v := .int .i64 ((min x.sy n : Nat) : Int)) (by simp only [execOp, builtin, e59, e60]; simp [HMIN.out, go_sem, e59, e60]) rfl
        · intro ρ wx hE hx hd
          replace hE := Ext.undrew hE
          have e50 : ρ (.tmp 50) = .slice (some ⟨g5, 0, none⟩) m c := hd.1
          have e51 : ρ (.tmp 51) = .int .i64 k := hd.2.1
          exact gives_val (G := fun vv _ => vv = .pointer (some ⟨g5, k * 3, none⟩)) (v := .pointer (some ⟨g5, k * 3, none⟩)) (by simp [execOp, e50, e51, go_sem, hki]) rfl
        · intro ρ wx hE hx hd
          replace hE := Ext.undrew hE
          have e62 : ρ (.tmp 62) = .pointer (some ⟨g5, k * 3, none⟩) := hd.1
          exact gives_val (G := fun vv _ => vv = .pointer (some ⟨g5, k * 3 + 2, none⟩)) (v := .pointer (some ⟨g5, k * 3 + 2, none⟩)) (by simp [execOp, e62, go_sem]) rfl
      intro wx hE
      refine fun v47 (e47 : v47 = .pointer (some ⟨b, 0, none⟩)) => ?_
      refine fun v48 (e48 : v48 = .pointer (some ⟨b, 0, none⟩)) => ?_
      refine fun v49 (e49 : v49 = .pointer (some ⟨b, 1, none⟩)) => ?_
      refine fun v50 (e50 : v50 = .slice (some ⟨g5, 0, none⟩) m c) => ?_
      refine fun v51 (e51 : v51 = .int .i64 k) => ?_
      refine fun v52 (e52 : v52 = .pointer (some ⟨b, 0, none⟩)) => ?_
      refine fun v53 (e53 : v53 = .pointer (some ⟨b, 0, none⟩)) => ?_
      refine fun v54 (e54 : v54 = .pointer (some ⟨b, 1, none⟩)) => ?_
      refine fun v55 (e55 : v55 = .slice (some ⟨g5, 0, none⟩) m c) => ?_
      refine fun v56 (e56 : v56 = .int .i64 k) => ?_
      refine fun v57 (e57 : v57 = .pointer (some ⟨g5, k * 3, none⟩)) => ?_
      refine fun v58 (e58 : v58 = .pointer (some ⟨g5, k * 3 + 2, none⟩)) => ?_
      refine fun v59 (e59 : v59 = .int .i64 x.sy) => ?_
      refine fun v60 (e60 : v60 = .int .i64 (n : Int)) => ?_
      refine fun v61 (e61 : v61 = .int .i64 ((min x.sy n : Nat) : Int)) => ?_
      refine fun v62 (e62 : v62 = .pointer (some ⟨g5, k * 3, none⟩)) => ?_
      refine fun v63 (e63 : v63 = .pointer (some ⟨g5, k * 3 + 2, none⟩)) => ?_
      subst e47 e48 e49 e50 e51 e52 e53 e54 e55 e56 e57 e58 e59 e60 e61 e62 e63
      refine rest_nil ?_
      simp only [List.drop_succ_cons, List.drop_zero, Act.put, List.setIfInBounds_toArray, List.set_cons_zero, List.set_cons_succ]
      have HRY := Lib.hid (HR3.out.below hE)
      obtain ⟨hr6, hk6⟩ := rset_s HRY.out HGF.out k _ HX3.out (min x.sy n)
      obtain ⟨w6, hw6⟩ : ∃ w6, wx.setCell ⟨g5, k * 3 + 2, none⟩ (.int .i64 ((min x.sy n : Nat) : Int)) = w6 := ⟨_, rfl⟩
      rw [hw6] at hr6 hk6
      have HW6 := Lib.hid hw6
      have hfe : (dk.fs.set k { x with b := x.b.take n }).set k { x with b := x.b.take n, sy := min x.sy n } = setF dk.fs { x with b := x.b.take n, sy := min x.sy n } := by
        rw [List.set_set]; exact HSP.out _ HXN.out
      have hr7 : RIn w6 F b { dk.tick with fs := (dk.fs.set k { x with b := x.b.take n }).set k { x with b := x.b.take n, sy := min x.sy n } } _ last := hr6
      rw [hfe] at hr7
      have HR7 := Lib.hid hr7
      have HK6 : Hid (Keep (fun j => F j ∨ j = b) w w6) := Lib.hid (HK3.out.trans ((Keep.old hE).trans hk6 fun _ _ h => h) fun _ _ h => .inl h)
      have d1 := ext_cell hE HD5.out
      have hgx : g5 < wx.heap.size := by
        obtain ⟨g4, c4, B4, c4', hlv4, _, hgl4, _⟩ := rf_at HRY.out k _ HX3.out
        have h6 := congrArg Value.ownBlock hlv4; simp [Value.ownBlock] at h6; rw [h6]; exact hgl4
      have hfx : wx.frozen? ⟨g5, k * 3 + 2, none⟩ = false := by
        obtain ⟨g4, c4, B4, c4', hlv4, _, _, _, _, _, _, _, _, _, hfz4, _⟩ := rf_at HRY.out k _ HX3.out
        have h6 := congrArg Value.ownBlock hlv4; simp [Value.ownBlock] at h6; rw [h6]; exact hfz4 _
      clear hr6 hk6 hw6 hr7 hfe
      go_wp2_with fail
      go_ret
      rw [HW6.out]
      exact hR _ _ ⟨rfl, ⟨_, last, HR7.out⟩, HK6.out⟩
end
end Go.Proofs.Ytlfcbhagbdonhaa.Asc
