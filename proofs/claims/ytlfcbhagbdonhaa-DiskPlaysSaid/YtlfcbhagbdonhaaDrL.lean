/-
  Contracts: the document's disk is copied, and crashes.
  Lengths within the rows' own reach.
-/
import Derived.Test.YtlfcbhagbdonhaaDrK
import Derived.Test.YtlfcbhagbdonhaaRegC
namespace Go.Proofs.Ytlfcbhagbdonhaa.Asc
set_option linter.unusedSimpArgs false
set_option linter.unusedVariables false
open Go Go.RowKit Go.Proofs.Ytlfcbhagbdonhaa.Pb

section
variable {w w' : World} {F : Nat → Prop} {b : Nat} {dk : Dk} {lv : Value} {last : Int}
set_option maxHeartbeats 4000000 in
set_option maxRecDepth 20000 in
theorem rcopy_any (h : RIn w F b dk lv last) (hlen : dk.fs.length ≤ 1000) :
    Calls Try.prog 48 #[.pointer (some ⟨b, 0, none⟩)] w fun e w' => ∃ b', e = .returned (.pointer (some ⟨b', 0, none⟩)) ∧ w.heap.size ≤ b' ∧ RAt w' (fun j => (F j ∧ j < w.heap.size) ∨ (w.heap.size ≤ j ∧ j ≠ b')) b' dk ∧ Below w.heap.size w w' := by
  refine calls_gen fun R hR => ?_
  have H := Lib.hid h
  have hltb := h.lt
  obtain ⟨A, c, rfl, hc, _⟩ := rf_get h.row.view
  have c0 := blk_cell h.blk 0
  have c1 := blk_cell h.blk 1
  have c2 := blk_cell h.blk 2
  have c3 := blk_cell h.blk 3
  simp only [rcell, List.getElem?_toArray, List.getElem?_cons_zero, List.getElem?_cons_succ] at c0 c1 c2 c3
  obtain ⟨n, hn⟩ : ∃ n, dk.fs.length = n := ⟨_, rfl⟩
  obtain ⟨S0, hS0⟩ : ∃ S0, w.heap.size = S0 := ⟨_, rfl⟩
  have HV : Hid (View rfE w (fun j => F j ∧ j < S0) dk.fs (.slice A n c)) := Lib.hid (by rw [← hn, ← hS0]; exact h.row.view.bnd)
  have HN := Lib.hid hn
  have HS0 := Lib.hid hS0
  rw [hn] at c1 hlen
  rw [hS0] at hltb hR
  have HC0 := Lib.hid c0; have HC1 := Lib.hid c1; have HC2 := Lib.hid c2; have HC3 := Lib.hid c3
  clear h c0 c1 c2 c3 hn hS0
  go_enter Try.func48, Try.ntmps48
  go_upto_region 1 with fail
  have HSE : Hid (∀ wx, Ext w wx → S0 ≤ wx.heap.size) := Lib.hid fun wx hE => by have := hE.size; rw [HS0.out] at this; exact this
  refine wp_region_any (by kernel_rfl) ?_
  refine region_ext [(fun vv _ => vv = .pointer (some ⟨b, 0, none⟩)), (fun vv _ => vv = .pointer (some ⟨b, 0, none⟩)), (fun vv _ => vv = .pointer (some ⟨b, 0, none⟩)), (fun vv _ => vv = .int .i64 dk.room), (fun v w => ∃ q, v = .slice (some ⟨q, 0, none⟩) 0 0 ∧ S0 ≤ q ∧ w.heap[q]? = some (.cells #[] 95 (0, 0))), (fun vv _ => vv = .pointer (some ⟨b, 0, none⟩)), (fun vv _ => vv = .pointer (some ⟨b, 0, none⟩)), (fun vv _ => vv = .pointer (some ⟨b, 1, none⟩)), (fun vv _ => vv = .slice A n c), (fun v w => Own rfE 95 w (fun j => (F j ∧ j < S0) ∨ S0 ≤ j) dk.fs v), (fun vv _ => vv = .pointer (some ⟨b, 0, none⟩)), (fun vv _ => vv = .pointer (some ⟨b, 0, none⟩)), (fun vv _ => vv = .pointer (some ⟨b, 2, none⟩)), (fun vv _ => vv = .int .i64 dk.ops), (fun vv _ => vv = .pointer (some ⟨b, 0, none⟩)), (fun vv _ => vv = .pointer (some ⟨b, 0, none⟩)), (fun vv _ => vv = .pointer (some ⟨b, 3, none⟩)), (fun vv _ => vv = .int .i64 last), (fun v w => ∃ lv, v = .agg #[.int .i64 dk.room, lv, .int .i64 dk.ops, .int .i64 last] ∧ Own rfE 95 w (fun j => (F j ∧ j < S0) ∨ S0 ≤ j) dk.fs lv), (fun v w => ∃ lv q, v = .pointer (some ⟨q, 0, none⟩) ∧ S0 ≤ q ∧ w.heap[q]? = some (.cells #[.int .i64 dk.room, lv, .int .i64 dk.ops, .int .i64 last] 80 (0, 0)) ∧ Own rfE 95 w (fun j => (F j ∧ j < S0) ∨ (S0 ≤ j ∧ j ≠ q)) dk.fs lv)]
    [[], [(0, 3)], [(1, 4)], [(2, 5)], [], [], [(5, 8)], [(6, 9)], [(7, 10)], [(4, 7), (8, 11)], [], [(10, 13)], [(11, 14)], [(12, 15)], [], [(14, 17)], [(15, 18)], [(16, 19)], [(3, 6), (9, 12), (13, 16), (17, 20)], [(18, 21)], []]
    [none, none, none, none, none, none, none, none, none, none, none, none, none, none, none, none, none, none, none, none, none]
    [some 3, some 4, some 5, some 6, some 7, some 8, some 9, some 10, some 11, some 12, some 13, some 14, some 15, some 16, some 17, some 18, some 19, some 20, some 21, some 22] 20 (by kernel_rfl) (by kernel_rfl) (by kernel_rfl) rfl (by kernel_rfl) ?_ ?_ ?_
  · exact ⟨fun _ _ _ _ h => h, fun _ _ _ _ h => h, fun _ _ _ _ h => h, fun _ _ _ _ h => h, (fun _ _ _ hE ⟨q, h1, h2, h3⟩ => ⟨q, h1, h2, (Below.block hE q (blk_lt h3)).trans h3⟩), fun _ _ _ _ h => h, fun _ _ _ _ h => h, fun _ _ _ _ h => h, fun _ _ _ _ h => h, (fun _ _ _ hE h => h.below hE), fun _ _ _ _ h => h, fun _ _ _ _ h => h, fun _ _ _ _ h => h, fun _ _ _ _ h => h, fun _ _ _ _ h => h, fun _ _ _ _ h => h, fun _ _ _ _ h => h, fun _ _ _ _ h => h, (fun _ _ _ hE ⟨lv, h1, h2⟩ => ⟨lv, h1, h2.below hE⟩), (fun _ _ _ hE ⟨lv, q, h1, h2, h3, h4⟩ => ⟨lv, q, h1, h2, (Below.block hE q (blk_lt h3)).trans h3, h4.below hE⟩), trivial⟩
  · refine ⟨fun ρ wx _ hx _ => gives_move (hx (.tmp 0) (by simp)), ?_, ?_, ?_, ?_, fun ρ wx _ hx _ => gives_move (hx (.tmp 0) (by simp)), ?_, ?_, ?_, ?_, fun ρ wx _ hx _ => gives_move (hx (.tmp 0) (by simp)), ?_, ?_, ?_, fun ρ wx _ hx _ => gives_move (hx (.tmp 0) (by simp)), ?_, ?_, ?_, ?_, ?_, trivial⟩
    · intro ρ wx hE hx hd
      replace hE := Ext.undrew hE
      have e3 : ρ (.tmp 3) = .pointer (some ⟨b, 0, none⟩) := hd.1
      exact gives_val (G := fun vv _ => vv = .pointer (some ⟨b, 0, none⟩)) (v := .pointer (some ⟨b, 0, none⟩)) (by simp [execOp, e3, go_sem]) rfl
    · intro ρ wx hE hx hd
      replace hE := Ext.undrew hE
      have e4 : ρ (.tmp 4) = .pointer (some ⟨b, 0, none⟩) := hd.1
      exact gives_val (G := fun vv _ => vv = .pointer (some ⟨b, 0, none⟩)) (v := .pointer (some ⟨b, 0, none⟩)) (by simp [execOp, e4, go_sem]) rfl
    · intro ρ wx hE hx hd
      replace hE := Ext.undrew hE
      have e5 : ρ (.tmp 5) = .pointer (some ⟨b, 0, none⟩) := hd.1
      have hcl := ext_cell hE HC0.out
      exact gives_val (G := fun vv _ => vv = .int .i64 dk.room) (v := .int .i64 dk.room) (by simp [execOp, e5, hcl, go_sem]) rfl
    · intro ρ wx hE hx hd
      replace hE := Ext.undrew hE
      exact gives_new (G := fun v w => ∃ q, v = .slice (some ⟨q, 0, none⟩) 0 0 ∧ S0 ≤ q ∧ w.heap[q]? = some (.cells #[] 95 (0, 0))) (v := .slice (some ⟨wx.heap.size, 0, none⟩) 0 0) (w' := wx.alloc (.cells #[] 95)) (by simp [execOp, go_sem]) (below_new _ _) ⟨_, rfl, HSE.out _ hE, blk_new _ _⟩
    · intro ρ wx hE hx hd
      replace hE := Ext.undrew hE
      have e8 : ρ (.tmp 8) = .pointer (some ⟨b, 0, none⟩) := hd.1
      exact gives_val (G := fun vv _ => vv = .pointer (some ⟨b, 0, none⟩)) (v := .pointer (some ⟨b, 0, none⟩)) (by simp [execOp, e8, go_sem]) rfl
    · intro ρ wx hE hx hd
      replace hE := Ext.undrew hE
      have e9 : ρ (.tmp 9) = .pointer (some ⟨b, 0, none⟩) := hd.1
      exact gives_val (G := fun vv _ => vv = .pointer (some ⟨b, 1, none⟩)) (v := .pointer (some ⟨b, 1, none⟩)) (by simp [execOp, e9, go_sem]) rfl
    · intro ρ wx hE hx hd
      replace hE := Ext.undrew hE
      have e10 : ρ (.tmp 10) = .pointer (some ⟨b, 1, none⟩) := hd.1
      have hcl := ext_cell hE HC1.out
      exact gives_val (G := fun vv _ => vv = .slice A n c) (v := .slice A n c) (by simp [execOp, e10, hcl, go_sem]) rfl
    · intro ρ wx hE hx hd
      replace hE := Ext.undrew hE
      have e7 := hd.1
      have e11 : ρ (.tmp 11) = .slice A n c := hd.2.1
      obtain ⟨q, h1, h2, h3⟩ := e7; obtain ⟨v', w', hr, hx', ho', q', c4, hv', _, hq'⟩ := run_append_ext0 (P := Try.prog) (ty := 78) Try.underlying78 infoFl rfl (by decide) h3 ((HV.out).below hE) (fun h => by omega) (by rw [HN.out]; unfold maxLen; omega) (by rw [HN.out]; omega); have hs := HSE.out _ hE; exact gives_new (v := v') (w' := w') (exec_appendR (by simpa [h1, e11] using hr)) hx' (ho'.mono fun j hj => by rcases hj with h | h | h; exact .inl h; exact .inr (by omega); exact .inr (by omega))
    · intro ρ wx hE hx hd
      replace hE := Ext.undrew hE
      have e13 : ρ (.tmp 13) = .pointer (some ⟨b, 0, none⟩) := hd.1
      exact gives_val (G := fun vv _ => vv = .pointer (some ⟨b, 0, none⟩)) (v := .pointer (some ⟨b, 0, none⟩)) (by simp [execOp, e13, go_sem]) rfl
    · intro ρ wx hE hx hd
      replace hE := Ext.undrew hE
      have e14 : ρ (.tmp 14) = .pointer (some ⟨b, 0, none⟩) := hd.1
      exact gives_val (G := fun vv _ => vv = .pointer (some ⟨b, 2, none⟩)) (v := .pointer (some ⟨b, 2, none⟩)) (by simp [execOp, e14, go_sem]) rfl
    · intro ρ wx hE hx hd
      replace hE := Ext.undrew hE
      have e15 : ρ (.tmp 15) = .pointer (some ⟨b, 2, none⟩) := hd.1
      have hcl := ext_cell hE HC2.out
      exact gives_val (G := fun vv _ => vv = .int .i64 dk.ops) (v := .int .i64 dk.ops) (by simp [execOp, e15, hcl, go_sem]) rfl
    · intro ρ wx hE hx hd
      replace hE := Ext.undrew hE
      have e17 : ρ (.tmp 17) = .pointer (some ⟨b, 0, none⟩) := hd.1
      exact gives_val (G := fun vv _ => vv = .pointer (some ⟨b, 0, none⟩)) (v := .pointer (some ⟨b, 0, none⟩)) (by simp [execOp, e17, go_sem]) rfl
    · intro ρ wx hE hx hd
      replace hE := Ext.undrew hE
      have e18 : ρ (.tmp 18) = .pointer (some ⟨b, 0, none⟩) := hd.1
      exact gives_val (G := fun vv _ => vv = .pointer (some ⟨b, 3, none⟩)) (v := .pointer (some ⟨b, 3, none⟩)) (by simp [execOp, e18, go_sem]) rfl
    · intro ρ wx hE hx hd
      replace hE := Ext.undrew hE
      have e19 : ρ (.tmp 19) = .pointer (some ⟨b, 3, none⟩) := hd.1
      have hcl := ext_cell hE HC3.out
      exact gives_val (G := fun vv _ => vv = .int .i64 last) (v := .int .i64 last) (by simp [execOp, e19, hcl, go_sem]) rfl
    · intro ρ wx hE hx hd
      replace hE := Ext.undrew hE
      have e6 : ρ (.tmp 6) = .int .i64 dk.room := hd.1
      have e12 := hd.2.1
      have e16 : ρ (.tmp 16) = .int .i64 dk.ops := hd.2.2.1
      have e20 : ρ (.tmp 20) = .int .i64 last := hd.2.2.2.1
      obtain ⟨A4, c4, h4, _⟩ := e12.slice; rw [h4] at e12; exact gives_val (G := fun v w => ∃ lv, v = .agg #[.int .i64 dk.room, lv, .int .i64 dk.ops, .int .i64 last] ∧ Own rfE 95 w (fun j => (F j ∧ j < S0) ∨ S0 ≤ j) dk.fs lv) (v := .agg #[.int .i64 dk.room, .slice A4 dk.fs.length c4, .int .i64 dk.ops, .int .i64 last]) (by simp [execOp, e6, h4, e16, e20, go_sem]) ⟨_, rfl, e12⟩
    · intro ρ wx hE hx hd
      replace hE := Ext.undrew hE
      have e21 := hd.1
      obtain ⟨lv, h1, h2⟩ := e21; exact gives_new (v := .pointer (some ⟨wx.heap.size, 0, none⟩)) (w' := wx.alloc (.cells #[.int .i64 dk.room, lv, .int .i64 dk.ops, .int .i64 last] 80)) (by obtain ⟨A4, c4, h4, _⟩ := h2.slice; simp [execOp, h1, h4, go_sem]) (below_new _ _) ⟨lv, wx.heap.size, rfl, HSE.out _ hE, blk_new _ _, (h2.bnd.mono (F' := fun j => (F j ∧ j < S0) ∨ (S0 ≤ j ∧ j ≠ wx.heap.size)) fun j hj => hj.1.elim .inl fun h => .inr ⟨h, by omega⟩).below (below_new _ _)⟩
  intro wx hE
  refine fun v3 (e3 : v3 = .pointer (some ⟨b, 0, none⟩)) => ?_
  refine fun v4 (e4 : v4 = .pointer (some ⟨b, 0, none⟩)) => ?_
  refine fun v5 (e5 : v5 = .pointer (some ⟨b, 0, none⟩)) => ?_
  refine fun v6 (e6 : v6 = .int .i64 dk.room) => ?_
  refine fun v7 e7 => ?_
  refine fun v8 (e8 : v8 = .pointer (some ⟨b, 0, none⟩)) => ?_
  refine fun v9 (e9 : v9 = .pointer (some ⟨b, 0, none⟩)) => ?_
  refine fun v10 (e10 : v10 = .pointer (some ⟨b, 1, none⟩)) => ?_
  refine fun v11 (e11 : v11 = .slice A n c) => ?_
  refine fun v12 e12 => ?_
  refine fun v13 (e13 : v13 = .pointer (some ⟨b, 0, none⟩)) => ?_
  refine fun v14 (e14 : v14 = .pointer (some ⟨b, 0, none⟩)) => ?_
  refine fun v15 (e15 : v15 = .pointer (some ⟨b, 2, none⟩)) => ?_
  refine fun v16 (e16 : v16 = .int .i64 dk.ops) => ?_
  refine fun v17 (e17 : v17 = .pointer (some ⟨b, 0, none⟩)) => ?_
  refine fun v18 (e18 : v18 = .pointer (some ⟨b, 0, none⟩)) => ?_
  refine fun v19 (e19 : v19 = .pointer (some ⟨b, 3, none⟩)) => ?_
  refine fun v20 (e20 : v20 = .int .i64 last) => ?_
  refine fun v21 e21 => ?_
  refine fun v22 e22 => ?_
  subst e3 e4 e5 e6 e8 e9 e10 e11 e13 e14 e15 e16 e17 e18 e19 e20
  refine rest_nil ?_
  simp only [List.drop_succ_cons, List.drop_zero, Act.put, List.setIfInBounds_toArray, List.set_cons_zero, List.set_cons_succ]
  obtain ⟨lv, q, rfl, hq, hbk, hown⟩ := e22
  have HQ := Lib.hid hbk; have HW := Lib.hid hown
  clear hbk hown e7 e12 e21
  go_wp2_with fail
  go_ret
  refine hR _ _ ⟨q, rfl, hq, ⟨lv, last, HQ.out, HW.out, fun h => ?_, H.out.lok⟩, by rw [← HS0.out]; exact hE⟩
  rcases h with h | h
  · omega
  · exact h.2 rfl
end
end Go.Proofs.Ytlfcbhagbdonhaa.Asc
