/-
  Contract: a query as a text, the program's.
  Lengths within the rows' own reach.
-/
import Derived.Test.YtilpaopkhghicaaDoorAnN
namespace Go.Proofs.YtilpaopkhghicaaDoor.Asc
open Go Go.RowKit Go.Proofs.YtilpaopkhghicaaDoor.Pb

set_option maxHeartbeats 2000000 in
/-- a line is added, if it is one -/
theorem add_any (w : World) (p : Nat) (O L : ByteArray) (b : Bool) (hb : w.heap[p]? = some (.cells #[.string O] 9 (0, 0))) (hO : O.size ≤ 1000000) (hL : L.size ≤ 1000000) :
    Calls Tryd.prog 32 #[.bool b, .string L, .pointer (some ⟨p, 0, none⟩)] w fun e w' => e = .returned (.tuple #[]) ∧ (∃ O', w'.heap[p]? = some (.cells #[.string O'] 9 (0, 0)) ∧ toL O' = toL O ++ addN b (toL L)) ∧ Keep (fun k => k = p) w w' := by
  refine calls_gen fun R hR => ?_
  have c0 := blk_cell hb 0
  have f0 := blk_free hb 0
  simp only [List.getElem?_toArray, List.getElem?_cons_zero] at c0
  have hlt := blk_lt hb
  have HB := Lib.hid hb
  clear hb
  go_enter Tryd.func32, Tryd.ntmps32
  cases b with
  | false =>
    go_wp2_with fail
    exact bodyPost_end (v := .tuple #[]) (by simp [results, Tryd.results32]) rfl (hR _ _ ⟨rfl, ⟨O, HB.out, by simp [addN]⟩, Keep.refl _ _⟩)
  | true =>
    go_wp2_with fail
    have hbs := blk_set HB.out 0 (.string (O ++ (L ++ ⟨#[10]⟩)))
    have hk := (Keep.refl (fun k => k = p) w).set (p := ⟨p, 0, none⟩) rfl (.string (O ++ (L ++ ⟨#[10]⟩)))
    exact bodyPost_end (v := .tuple #[]) (by simp [results, Tryd.results32]) rfl (hR _ _ ⟨rfl, ⟨_, hbs, by simp only [toL_cat, addN]; simp [toL]⟩, hk⟩)

set_option maxHeartbeats 8000000 in
set_option maxRecDepth 20000 in
theorem text_any' (w : World) (q : Qr) (v : Value) (F : Nat → Prop) (hq : QSm q) (hv : View fld w F q.hds v) :
    Calls Tryd.prog 14 #[agg8 q v] w fun e w' => e = .returned (.string (ofL (textN q))) ∧ Below w.heap.size w w' := by
  refine calls_gen fun R hR => ?_
  obtain ⟨A, n, rfl, hcl, hget⟩ := flds_get hv
  have HQ := Lib.hid hq
  have HT := Lib.hid (tx6_len q hq)
  have hlen := (fsize_mem q.hds hq.2.2.2.2.1).1
  have r0 := hq.2.2.2.2.2.1
  have r1 := hq.2.2.2.2.2.2
  unfold agg8
  obtain ⟨XD, hXD⟩ : ∃ X, ofL q.doc = X := ⟨_, rfl⟩
  obtain ⟨XU, hXU⟩ : ∃ X, ofL q.url = X := ⟨_, rfl⟩
  obtain ⟨XE, hXE⟩ : ∃ X, ofL q.dest = X := ⟨_, rfl⟩
  obtain ⟨XM, hXM⟩ : ∃ X, ofL q.meth = X := ⟨_, rfl⟩
  have hsd : XD.size ≤ 6000 := by rw [← hXD, ofL_size]; exact hq.1
  have hsu : XU.size ≤ 6000 := by rw [← hXU, ofL_size]; exact hq.2.1
  have hse : XE.size ≤ 6000 := by rw [← hXE, ofL_size]; exact hq.2.2.1
  have hsm : XM.size ≤ 6000 := by rw [← hXM, ofL_size]; exact hq.2.2.2.1
  have HD : Hid (toL XD = q.doc) := Lib.hid (by rw [← hXD, toL_ofL])
  have HU : Hid (toL XU = q.url) := Lib.hid (by rw [← hXU, toL_ofL])
  have HE : Hid (toL XE = q.dest) := Lib.hid (by rw [← hXE, toL_ofL])
  have HM : Hid (toL XM = q.meth) := Lib.hid (by rw [← hXM, toL_ofL])
  rw [hXD, hXU, hXE, hXM]
  clear hXD hXU hXE hXM hv hq
  obtain ⟨cors, hcors⟩ : ∃ b, q.cors = b := ⟨_, rfl⟩
  obtain ⟨creds, hcreds⟩ : ∃ b, q.creds = b := ⟨_, rfl⟩
  obtain ⟨redir, hredir⟩ : ∃ b, q.redir = b := ⟨_, rfl⟩
  obtain ⟨ls, hls⟩ : ∃ b, q.hds = b := ⟨_, rfl⟩
  rw [hcors, hcreds, hredir]
  rw [hredir] at r0 r1
  rw [hls] at hlen hcl hget ⊢
  have HCO := Lib.hid hcors; have HCR := Lib.hid hcreds; have HRE := Lib.hid hredir; have HLS := Lib.hid hls
  have HG := Lib.hid hget
  clear hcors hcreds hredir hls hget
  obtain ⟨w1, hw1⟩ : ∃ w1, w.alloc (.cells #[.string XD, .string XU, .string XE, .string XM, .bool cors, .bool creds, .int .i64 redir, .slice A ls.length n] 25) = w1 := ⟨_, rfl⟩
  have HW1 := Lib.hid hw1
  have HB1 : Hid (Below w.heap.size w w1) := Lib.hid (hw1 ▸ below_new w _)
  have HG1 : Hid (w1.heap[w.heap.size]? = some (.cells #[.string XD, .string XU, .string XE, .string XM, .bool cors, .bool creds, .int .i64 redir, .slice A ls.length n] 25 (0, 0))) := Lib.hid (hw1 ▸ blk_new w _)
  clear hw1
  obtain ⟨T0, hT0⟩ : ∃ T : ByteArray, (⟨#[117, 114, 108, 32]⟩ : ByteArray) ++ XU ++ ⟨#[10]⟩ = T := ⟨_, rfl⟩
  have HT0 : Hid (toL T0 = tx0 q) := Lib.hid (by rw [← hT0, toL_cat, toL_cat, HU.out]; rfl)
  obtain ⟨w2, hw2⟩ : ∃ w2, w1.alloc (.cells #[.string T0] 9) = w2 := ⟨_, rfl⟩
  have HW2 := Lib.hid hw2
  have HB2 : Hid (Below w1.heap.size w1 w2) := Lib.hid (hw2 ▸ below_new w1 _)
  have HG2 : Hid (w2.heap[w1.heap.size]? = some (.cells #[.string T0] 9 (0, 0))) := Lib.hid (hw2 ▸ blk_new w1 _)
  clear hw2
  go_enter Tryd.func14, Tryd.ntmps14
  go_upto_region 1 with fail
  rw [HW1.out]
  obtain ⟨b0, b1, b2, b3, b4, b5, b6, b7⟩ := cell8 HG1.out
  have hlt := blk_lt HG1.out
  go_upto_region 2 with fail
  rw [HW2.out]
  clear hT0 b0 b1 b2 b3 b4 b5 b6 b7
  obtain ⟨b0, b1, b2, b3, b4, b5, b6, b7⟩ := cell8 ((HB2.out.block _ hlt).trans HG1.out)
  obtain ⟨p, hp⟩ : ∃ p, w1.heap.size = p := ⟨_, rfl⟩
  have HP : Hid (w.heap.size < p) := Lib.hid (hp ▸ hlt)
  have HW2' : Hid (Below w.heap.size w w2) := Lib.hid (HB1.out.trans (HB2.out.mono HB1.out.size))
  have HR2 := Lib.hid ((HB2.out.block _ hlt).trans HG1.out)
  rw [hp] at HG2 ⊢
  have hz0 : T0.size ≤ 24100 := by rw [← toL_len, HT0.out]; exact HT.out.1
  clear hp HB2 HG1 HW1 HW2
  obtain ⟨L1, hL1⟩ : ∃ L, (⟨#[100, 111, 99, 32]⟩ : ByteArray) ++ XD = L := ⟨_, rfl⟩
  obtain ⟨L2, hL2⟩ : ∃ L, (⟨#[100, 101, 115, 116, 32]⟩ : ByteArray) ++ XE = L := ⟨_, rfl⟩
  obtain ⟨L3, hL3⟩ : ∃ L, (⟨#[109, 101, 116, 104, 111, 100, 32]⟩ : ByteArray) ++ XM = L := ⟨_, rfl⟩
  have HL1 : Hid (toL L1 = [100, 111, 99, 32] ++ q.doc) := Lib.hid (by rw [← hL1, toL_cat, HD.out]; rfl)
  have HL2 : Hid (toL L2 = [100, 101, 115, 116, 32] ++ q.dest) := Lib.hid (by rw [← hL2, toL_cat, HE.out]; rfl)
  have HL3 : Hid (toL L3 = [109, 101, 116, 104, 111, 100, 32] ++ q.meth) := Lib.hid (by rw [← hL3, toL_cat, HM.out]; rfl)
  have hs1 : L1.size ≤ 7000 := by rw [← toL_len, HL1.out, ← HD.out]; simp [toL_len]; omega
  have hs2 : L2.size ≤ 7000 := by rw [← toL_len, HL2.out, ← HE.out]; simp [toL_len]; omega
  have hs3 : L3.size ≤ 7000 := by rw [← toL_len, HL3.out, ← HM.out]; simp [toL_len]; omega
  go_wp2_with (with_reducible (first | refine stop_callv ?_))
  refine ⟨?_⟩
  refine wp_callv (fid := 32) (caps := #[.pointer (some ⟨p, 0, none⟩)]) (args' := #[.bool (!XD.toList.isEmpty), .string L1, .pointer (some ⟨p, 0, none⟩)]) Tryd.call32 ?_ ?_ (add_any w2 p T0 L1 (!XD.toList.isEmpty) HG2.out (by omega) (by omega)) ?_
  · rfl
  · first | rfl | simp [Act.eval]
  rintro e w3 ⟨rfl, ⟨T1, hg, hT⟩, hk⟩
  refine ⟨_, rfl, ?_⟩
  have HT1 : Hid (toL T1 = tx1 q) := Lib.hid (by rw [hT, HT0.out]; rw [HL1.out, toList_toL, HD.out]; rfl)
  have hz1 : T1.size ≤ 24100 := by rw [← toL_len, HT1.out]; exact HT.out.2.1
  have HG3 := Lib.hid hg
  have HR3 : Hid (w3.heap[w.heap.size]? = _) := Lib.hid (hk.blk HR2.out (by have := HP.out; omega))
  have HW3' : Hid (Below w.heap.size w w3) := Lib.hid (HW2'.out.trans (hk.below HW2'.out.size fun i hi e => by have := HP.out; omega))
  clear hg hT hk b0 b1 b2 b3 b4 b5 b6 b7
  obtain ⟨b0, b1, b2, b3, b4, b5, b6, b7⟩ := cell8 HR3.out
  go_wp2_with (with_reducible (first | refine stop_callv ?_))
  refine ⟨?_⟩
  refine wp_callv (fid := 32) (caps := #[.pointer (some ⟨p, 0, none⟩)]) (args' := #[.bool (!XE.toList.isEmpty), .string L2, .pointer (some ⟨p, 0, none⟩)]) Tryd.call32 ?_ ?_ (add_any w3 p T1 L2 (!XE.toList.isEmpty) HG3.out (by omega) (by omega)) ?_
  · rfl
  · first | rfl | simp [Act.eval]
  rintro e w4 ⟨rfl, ⟨T2, hg, hT⟩, hk⟩
  refine ⟨_, rfl, ?_⟩
  have HT2 : Hid (toL T2 = tx2 q) := Lib.hid (by rw [hT, HT1.out]; rw [HL2.out, toList_toL, HE.out]; rfl)
  have hz2 : T2.size ≤ 24100 := by rw [← toL_len, HT2.out]; exact HT.out.2.2.1
  have HG4 := Lib.hid hg
  have HR4 : Hid (w4.heap[w.heap.size]? = _) := Lib.hid (hk.blk HR3.out (by have := HP.out; omega))
  have HW4' : Hid (Below w.heap.size w w4) := Lib.hid (HW3'.out.trans (hk.below HW3'.out.size fun i hi e => by have := HP.out; omega))
  clear hg hT hk b0 b1 b2 b3 b4 b5 b6 b7
  obtain ⟨b0, b1, b2, b3, b4, b5, b6, b7⟩ := cell8 HR4.out
  go_wp2_with (with_reducible (first | refine stop_callv ?_))
  refine ⟨?_⟩
  refine wp_callv (fid := 32) (caps := #[.pointer (some ⟨p, 0, none⟩)]) (args' := #[.bool (!XM.toList == [71, 69, 84]), .string L3, .pointer (some ⟨p, 0, none⟩)]) Tryd.call32 ?_ ?_ (add_any w4 p T2 L3 (!XM.toList == [71, 69, 84]) HG4.out (by omega) (by omega)) ?_
  · rfl
  · first | rfl | simp [Act.eval]
  rintro e w5 ⟨rfl, ⟨T3, hg, hT⟩, hk⟩
  refine ⟨_, rfl, ?_⟩
  have HT3 : Hid (toL T3 = tx3 q) := Lib.hid (by rw [hT, HT2.out]; rw [HL3.out, toList_toL, HM.out]; rfl)
  have hz3 : T3.size ≤ 24100 := by rw [← toL_len, HT3.out]; exact HT.out.2.2.2.1
  have HG5 := Lib.hid hg
  have HR5 : Hid (w5.heap[w.heap.size]? = _) := Lib.hid (hk.blk HR4.out (by have := HP.out; omega))
  have HW5' : Hid (Below w.heap.size w w5) := Lib.hid (HW4'.out.trans (hk.below HW4'.out.size fun i hi e => by have := HP.out; omega))
  clear hg hT hk b0 b1 b2 b3 b4 b5 b6 b7
  obtain ⟨b0, b1, b2, b3, b4, b5, b6, b7⟩ := cell8 HR5.out
  go_wp2_with (with_reducible (first | refine stop_callv ?_))
  refine ⟨?_⟩
  refine wp_callv (fid := 32) (caps := #[.pointer (some ⟨p, 0, none⟩)]) (args' := #[.bool (cors), .string ⟨#[99, 111, 114, 115]⟩, .pointer (some ⟨p, 0, none⟩)]) Tryd.call32 ?_ ?_ (add_any w5 p T3 ⟨#[99, 111, 114, 115]⟩ (cors) HG5.out (by omega) (by decide)) ?_
  · rfl
  · first | rfl | simp [Act.eval]
  rintro e w6 ⟨rfl, ⟨T4, hg, hT⟩, hk⟩
  refine ⟨_, rfl, ?_⟩
  have HT4 : Hid (toL T4 = tx4 q) := Lib.hid (by rw [hT, HT3.out]; rw [← HCO.out]; rfl)
  have hz4 : T4.size ≤ 24100 := by rw [← toL_len, HT4.out]; exact HT.out.2.2.2.2.1
  have HG6 := Lib.hid hg
  have HR6 : Hid (w6.heap[w.heap.size]? = _) := Lib.hid (hk.blk HR5.out (by have := HP.out; omega))
  have HW6' : Hid (Below w.heap.size w w6) := Lib.hid (HW5'.out.trans (hk.below HW5'.out.size fun i hi e => by have := HP.out; omega))
  clear hg hT hk b0 b1 b2 b3 b4 b5 b6 b7
  obtain ⟨b0, b1, b2, b3, b4, b5, b6, b7⟩ := cell8 HR6.out
  go_wp2_with (with_reducible (first | refine stop_callv ?_))
  refine ⟨?_⟩
  refine wp_callv (fid := 32) (caps := #[.pointer (some ⟨p, 0, none⟩)]) (args' := #[.bool (creds), .string ⟨#[99, 114, 101, 100, 115]⟩, .pointer (some ⟨p, 0, none⟩)]) Tryd.call32 ?_ ?_ (add_any w6 p T4 ⟨#[99, 114, 101, 100, 115]⟩ (creds) HG6.out (by omega) (by decide)) ?_
  · rfl
  · first | rfl | simp [Act.eval]
  rintro e w7 ⟨rfl, ⟨T5, hg, hT⟩, hk⟩
  refine ⟨_, rfl, ?_⟩
  have HT5 : Hid (toL T5 = tx5 q) := Lib.hid (by rw [hT, HT4.out]; rw [← HCR.out]; rfl)
  have hz5 : T5.size ≤ 24100 := by rw [← toL_len, HT5.out]; exact HT.out.2.2.2.2.2.1
  have HG7 := Lib.hid hg
  have HR7 : Hid (w7.heap[w.heap.size]? = _) := Lib.hid (hk.blk HR6.out (by have := HP.out; omega))
  have HW7' : Hid (Below w.heap.size w w7) := Lib.hid (HW6'.out.trans (hk.below HW6'.out.size fun i hi e => by have := HP.out; omega))
  clear hg hT hk b0 b1 b2 b3 b4 b5 b6 b7
  obtain ⟨b0, b1, b2, b3, b4, b5, b6, b7⟩ := cell8 HR7.out
  obtain ⟨D, hDD⟩ : ∃ D, ofL (decimal redir) = D := ⟨_, rfl⟩
  have hds : D.size ≤ 22 := by rw [← hDD, ofL_size]; exact decimal_lenB redir
  have HDD : Hid (toL D = decimal redir) := Lib.hid (by rw [← hDD, toL_ofL])
  have HDC : Hid (∀ wx, Calls Tryd.prog 33 #[.int .i64 redir] wx fun e w' => e = .returned (.string D) ∧ Below wx.heap.size wx w') := Lib.hid fun wx => by have := decimal_any redir wx r0 r1; rw [hDD] at this; exact this
  obtain ⟨L6, hL6⟩ : ∃ L, (⟨#[114, 101, 100, 105, 114, 101, 99, 116, 32]⟩ : ByteArray) ++ D = L := ⟨_, rfl⟩
  have HL6 : Hid (toL L6 = [114, 101, 100, 105, 114, 101, 99, 116, 32] ++ decimal q.redir) := Lib.hid (by rw [← hL6, toL_cat, HDD.out, HRE.out]; rfl)
  have hs6 : L6.size ≤ 7000 := by rw [← toL_len, HL6.out, HRE.out, ← HDD.out]; simp [toL_len]; omega
  clear hDD
  have hD6 : 9 + D.size ≤ 9223372036854775807 := by omega
  go_upto_region 8 with fail
  refine wp_region_any (by kernel_rfl) ?_
  refine region_ext [(fun vv _ => vv = .func (.func 32) #[] #[.pointer (some ⟨p, 0, none⟩)]), (fun vv _ => vv = .pointer (some ⟨w.heap.size, 6, none⟩)), (fun vv _ => vv = .int .i64 redir), (fun vv _ => vv = .bool (!(redir == 0))), (fun vv _ => vv = .pointer (some ⟨w.heap.size, 6, none⟩)), (fun vv _ => vv = .int .i64 redir), (fun vv _ => vv = .string D), (fun vv _ => vv = .string L6)]
    [[], [], [(1, 45)], [(2, 46)], [], [(4, 48)], [(5, 49)], [(6, 50)], []]
    [none, none, none, none, none, none, none, none, none]
    [some 44, some 45, some 46, some 47, some 48, some 49, some 50, some 51] 8 (by kernel_rfl) (by kernel_rfl) (by kernel_rfl) rfl (by kernel_rfl) ?_ ?_ ?_
  · exact ⟨fun _ _ _ _ h => h, fun _ _ _ _ h => h, fun _ _ _ _ h => h, fun _ _ _ _ h => h, fun _ _ _ _ h => h, fun _ _ _ _ h => h, fun _ _ _ _ h => h, fun _ _ _ _ h => h, trivial⟩
  · refine ⟨fun ρ wx _ hx _ => gives_move (hx (.tmp 4) (by simp)), ?_, ?_, ?_, ?_, ?_, ?_, ?_, trivial⟩
    · intro ρ wx hE hx hd
      replace hE := Ext.undrew hE
      have e1 : ρ (.tmp 1) = .pointer (some ⟨w.heap.size, 0, none⟩) := hx (.tmp 1) (by simp)
      exact gives_val (G := fun vv _ => vv = .pointer (some ⟨w.heap.size, 6, none⟩)) (v := .pointer (some ⟨w.heap.size, 6, none⟩)) (by simp [execOp, e1, go_sem]) rfl
    · intro ρ wx hE hx hd
      replace hE := Ext.undrew hE
      have e45 : ρ (.tmp 45) = .pointer (some ⟨w.heap.size, 6, none⟩) := hd.1
      have hcl := ext_cell hE b6
      exact gives_val (G := fun vv _ => vv = .int .i64 redir) (v := .int .i64 redir) (by simp [execOp, e45, hcl, go_sem]) rfl
    · intro ρ wx hE hx hd
      replace hE := Ext.undrew hE
      have e46 : ρ (.tmp 46) = .int .i64 redir := hd.1
      have hk : ∀ v, ρ (.const v) = v := fun v => (hx (.const v) (by simp)).trans rfl
      exact gives_val (G := fun vv _ => vv = .bool (!(redir == 0))) (v := .bool (!(redir == 0))) (by simp [execOp, e46, hk, bne, go_sem]) rfl
    · intro ρ wx hE hx hd
      replace hE := Ext.undrew hE
      have e1 : ρ (.tmp 1) = .pointer (some ⟨w.heap.size, 0, none⟩) := hx (.tmp 1) (by simp)
      exact gives_val (G := fun vv _ => vv = .pointer (some ⟨w.heap.size, 6, none⟩)) (v := .pointer (some ⟨w.heap.size, 6, none⟩)) (by simp [execOp, e1, go_sem]) rfl
    · intro ρ wx hE hx hd
      replace hE := Ext.undrew hE
      have e48 : ρ (.tmp 48) = .pointer (some ⟨w.heap.size, 6, none⟩) := hd.1
      have hcl := ext_cell hE b6
      exact gives_val (G := fun vv _ => vv = .int .i64 redir) (v := .int .i64 redir) (by simp [execOp, e48, hcl, go_sem]) rfl
    · intro ρ wx hE hx hd
      replace hE := Ext.undrew hE
      have e49 : ρ (.tmp 49) = .int .i64 redir := hd.1
      have hf : ∀ f, ρ (.func f) = .func (.func f) #[] #[] := fun f => (hx (.func f) (by simp)).trans rfl
      refine gives_call (G := fun vv _ => vv = .string D) (by simp [execOp, e49, hf, go_sem] <;> first | exact ⟨rfl, rfl⟩ | exact rfl) ?_
      exact call_below (HDC.out wx)
    · intro ρ wx hE hx hd
      replace hE := Ext.undrew hE
      have e50 : ρ (.tmp 50) = .string D := hd.1
      have hk : ∀ v, ρ (.const v) = v := fun v => (hx (.const v) (by simp)).trans rfl
      exact gives_val (G := fun vv _ => vv = .string L6) (v := .string L6) (by simp [execOp, e50, hk, hL6, hD6, go_sem]) rfl
  intro wx hE
  refine fun v44 (e44 : v44 = .func (.func 32) #[] #[.pointer (some ⟨p, 0, none⟩)]) => ?_
  refine fun v45 (e45 : v45 = .pointer (some ⟨w.heap.size, 6, none⟩)) => ?_
  refine fun v46 (e46 : v46 = .int .i64 redir) => ?_
  refine fun v47 (e47 : v47 = .bool (!(redir == 0))) => ?_
  refine fun v48 (e48 : v48 = .pointer (some ⟨w.heap.size, 6, none⟩)) => ?_
  refine fun v49 (e49 : v49 = .int .i64 redir) => ?_
  refine fun v50 (e50 : v50 = .string D) => ?_
  refine fun v51 (e51 : v51 = .string L6) => ?_
  subst e44 e45 e46 e47 e48 e49 e50 e51
  refine rest_nil ?_
  simp only [List.drop_succ_cons, List.drop_zero, Act.put, List.setIfInBounds_toArray, List.set_cons_zero, List.set_cons_succ]
  have HGx : Hid (wx.heap[p]? = _) := Lib.hid ((hE.block p (blk_lt HG7.out)).trans HG7.out)
  have HRx : Hid (wx.heap[w.heap.size]? = _) := Lib.hid ((hE.block _ (blk_lt HR7.out)).trans HR7.out)
  have HWx' : Hid (Below w.heap.size w wx) := Lib.hid (HW7'.out.trans (hE.mono HW7'.out.size))
  clear hE b0 b1 b2 b3 b4 b5 b6 b7
  refine wp_callv (fid := 32) (caps := #[.pointer (some ⟨p, 0, none⟩)]) (args' := #[.bool (!(redir == 0)), .string L6, .pointer (some ⟨p, 0, none⟩)]) Tryd.call32 ?_ ?_ (add_any wx p T5 L6 (!(redir == 0)) HGx.out (by omega) (by omega)) ?_
  · rfl
  · first | rfl | simp [Act.eval]
  rintro e w8 ⟨rfl, ⟨T6, hg, hT⟩, hk⟩
  refine ⟨_, rfl, ?_⟩
  have HT6 : Hid (toL T6 = tx6 q) := Lib.hid (by rw [hT, HT5.out, HL6.out, ← HRE.out]; rfl)
  have HG8 := Lib.hid hg
  have HR8 : Hid (w8.heap[w.heap.size]? = _) := Lib.hid (hk.blk HRx.out (by have := HP.out; omega))
  have HW8' : Hid (Below w.heap.size w w8) := Lib.hid (HWx'.out.trans (hk.below HWx'.out.size fun i hi e => by have := HP.out; omega))
  clear hg hT hk
  refine wpList_nil ?_
  simp only [Exit.then]
  refine go_on (by assumption) ?_
  obtain ⟨b0, b1, b2, b3, b4, b5, b6, b7⟩ := cell8 HR8.out
  have HFE : Hid (ofL (textN q) = ofL (tx6 q ++ hdsL q.hds)) := Lib.hid rfl
  have HPL : Hid (p < w8.heap.size) := Lib.hid (blk_lt HG8.out)
  go_wp2_with fail
  clear b0 b1 b2 b3 b4 b5 b6 b7
  go_loopw [56] (fun i wr => ∃ (k : Nat) (O : ByteArray), k ≤ ls.length ∧ i = .int .i64 k ∧ wr.heap[p]? = some (.cells #[.string O] 9 (0, 0)) ∧ toL O = tx6 q ++ hdsL (ls.take k) ∧ Below w.heap.size w wr) (fun i _ => ls.length - (intOf i).toNat)
  case atStart => exact ⟨0, T6, Nat.zero_le _, rfl, HG8.out, by rw [HT6.out]; simp [hdsL], HW8'.out⟩
  case round =>
    obtain ⟨k, O, hk, rfl, hp0, hO, hb⟩ := hrel
    have HB := Lib.hid hb; have HO := Lib.hid hO; have HPW := Lib.hid hp0
    have hos : O.size ≤ 90000 := by
      have h1 := hdsL_small ls k (HLS.out ▸ HQ.out.2.2.2.2.1)
      have h2 := HT.out.2.2.2.2.2.2
      rw [← toL_len, hO, List.length_append]; omega
    clear hb hO hp0
    by_cases hlt : k < ls.length
    · obtain ⟨g, off, rfl, hg, hx⟩ := HG.out k hlt
      obtain ⟨x, he⟩ : ∃ x, ls[k]? = some x := ⟨_, List.getElem?_eq_getElem hlt⟩
      obtain ⟨c0, c1⟩ := hx x he
      have d0 := ext_cell HB.out c0
      have d1 := ext_cell HB.out c1
      have HS := Lib.hid (hdsL_succ ls k x he)
      have hgr : g < wr.heap.size := Nat.lt_of_lt_of_le hg HB.out.size
      have hxm := (fsize_mem q.hds HQ.out.2.2.2.2.1).2 x (HLS.out ▸ List.mem_of_getElem? he)
      have hl1 : (ofL x.1).size ≤ 6100 := by rw [ofL_size]; omega
      have hl2 : (ofL x.2).size ≤ 6100 := by rw [ofL_size]; omega
      obtain ⟨X1, hX1⟩ : ∃ X, ofL x.1 = X := ⟨_, rfl⟩
      obtain ⟨X2, hX2⟩ : ∃ X, ofL x.2 = X := ⟨_, rfl⟩
      have HX1 : Hid (toL X1 = x.1) := Lib.hid (by rw [← hX1, toL_ofL])
      have HX2 : Hid (toL X2 = x.2) := Lib.hid (by rw [← hX2, toL_ofL])
      rw [hX1] at d0 hl1
      rw [hX2] at d1 hl2
      obtain ⟨LL, hLL⟩ : ∃ L, (⟨#[104, 101, 97, 100, 101, 114, 32]⟩ : ByteArray) ++ X1 ++ ⟨#[58, 32]⟩ ++ X2 = L := ⟨_, rfl⟩
      have HLL : Hid (toL LL = hdL x) := Lib.hid (by rw [← hLL]; simp only [toL_cat, HX1.out, HX2.out]; rfl)
      have hls2 : LL.size ≤ 20000 := by rw [← toL_len, HLL.out]; simp [hdL]; omega
      have hq0 : (0 : Int) ≤ (k : Int) := by omega
      have hq1 : (k : Int) < (ls.length : Int) := by omega
      clear hx he c0 c1 hX1 hX2 hxm
      go_wp2_with (with_reducible (first | refine stop_callv ?_))
      refine ⟨?_⟩
      obtain ⟨wa, hwa⟩ : ∃ wa, wr.alloc (.cells #[.string X1, .string X2] 42) = wa := ⟨_, rfl⟩
      have hba : Below wr.heap.size wr wa := hwa ▸ below_new wr _
      rw [hwa]
      have HPA : Hid (wa.heap[p]? = _) := Lib.hid ((hba.block p (blk_lt HPW.out)).trans HPW.out)
      have HBA := Lib.hid (HB.out.trans (hba.mono HB.out.size))
      clear hwa hba
      refine wp_callv (fid := 32) (caps := #[.pointer (some ⟨p, 0, none⟩)]) (args' := #[.bool true, .string LL, .pointer (some ⟨p, 0, none⟩)]) Tryd.call32 ?_ ?_ (add_any wa p O LL true HPA.out (by omega) (by omega)) ?_
      · rfl
      · first | rfl | simp [Act.eval]
      rintro e wb ⟨rfl, ⟨O2, hg2, hT2⟩, hk2⟩
      refine ⟨_, rfl, ?_⟩
      have HGB := Lib.hid hg2
      have HTB : Hid (toL O2 = tx6 q ++ hdsL (ls.take (k + 1))) := Lib.hid (by rw [hT2, HO.out, HLL.out, HS.out]; simp [addN])
      have HBB := Lib.hid (HBA.out.trans (hk2.below HBA.out.size fun i hi e => by have := HP.out; omega))
      clear hg2 hT2 hk2
      go_wp2_with fail
      go_roundw
      case rel => exact ⟨k + 1, O2, by omega, by go_num, HGB.out, HTB.out, HBB.out⟩
      case measure => simp [intOf]; omega
    · have hkl : k = ls.length := by omega
      have HKL := Lib.hid hkl
      have d0 := blk_cell HPW.out 0
      simp only [List.getElem?_toArray, List.getElem?_cons_zero] at d0
      have hplt := blk_lt HPW.out
      clear hkl
      go_wp2_with fail
      go_ret
      exact hR _ _ ⟨ret_str (toL_inj (by rw [HFE.out, HO.out, HKL.out, List.take_length, toL_ofL, HLS.out])), HB.out⟩

end Go.Proofs.YtilpaopkhghicaaDoor.Asc
