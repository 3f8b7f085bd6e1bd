/-
  Contracts: the law's does, same, small.
  Lengths within the rows' own reach.
-/
import Derived.Test.YtlfcbhagbdonhaaTxt
namespace Go.Proofs.Ytlfcbhagbdonhaa.Asc
set_option linter.unusedSimpArgs false
set_option linter.unusedVariables false
open Go Go.RowKit Go.Proofs.Ytlfcbhagbdonhaa.Pb

section
variable {w : World} {S F : Nat → Prop} {d b B0 : Nat} {dk : Dk}
theorem does4_any (hB : Two4 B0 w S F d b dk dk) (hf : Fits dk) (ho : dk.ops ≤ 100000) (k : Int) (A U : ByteArray) (n : Int) (pv : Value) (ps : List Int) (G : Nat → Prop) (hp : View Rp.int w G ps pv) (hG : ∀ k, G k → k < B0) (hA : A.size ≤ 60000) (hU : U.size ≤ 60000) (hn : n ≤ 3000) (hps : ps.length ≤ 60000) (c : Int) (hc0 : 0 ≤ c) (hc1 : c ≤ 1000) (R : Ending → World → Prop) (hR : Does R B0 w dk) :
    Calls Try.prog 26 #[.pointer (some ⟨d, 0, none⟩), .pointer (some ⟨b, 0, none⟩), stepV k A U n pv, .int .i64 c] w (fun e w' => Pb.Fin (R e w')) := by
  by_cases h1 : k = 1
  · subst h1; exact doesappend_any hB hf ho A U n pv ps G hp hG hA hU hn hps c hc0 hc1 R hR
  by_cases h2 : k = 2
  · subst h2; exact doessync1_any hB hf ho A U n pv ps G hp hG hA hU hn hps c hc0 hc1 R hR
  by_cases h3 : k = 3
  · subst h3; exact doesrename_any hB hf ho A U n pv ps G hp hG hA hU hn hps c hc0 hc1 R hR
  by_cases h4 : k = 4
  · subst h4; exact doestruncate_any hB hf ho A U n pv ps G hp hG hA hU hn hps c hc0 hc1 R hR
  by_cases h5 : k = 5
  · subst h5; exact doesremove_any hB hf ho A U n pv ps G hp hG hA hU hn hps c hc0 hc1 R hR
  by_cases h6 : k = 6
  · subst h6; exact doescut_any hB hf ho A U n pv ps G hp hG hA hU hn hps c hc0 hc1 R hR
  by_cases h7 : k = 7
  · subst h7; exact doescrash_any hB hf ho A U n pv ps G hp hG hA hU hn hps c hc0 hc1 R hR
  by_cases h8 : k = 8
  · subst h8; exact doescopy_any hB hf ho A U n pv ps G hp hG hA hU hn hps c hc0 hc1 R hR
  by_cases h9 : k = 9
  · subst h9; exact doessync2_any hB hf ho A U n pv ps G hp hG hA hU hn hps c hc0 hc1 R hR
  exact doesnone_any hB hf ho k (by omega) A U n pv ps G hp hG hA hU hn hps c hc0 hc1 R hR

theorem does4_post (hB : Two4 B0 w S F d b dk dk) (hf : Fits dk) (ho : dk.ops ≤ 100000) (k : Int) (A U : ByteArray) (n : Int) (pv : Value) (ps : List Int) (G : Nat → Prop) (hp : View Rp.int w G ps pv) (hG : ∀ k, G k → k < B0) (hA : A.size ≤ 60000) (hU : U.size ≤ 60000) (hn : n ≤ 3000) (hps : ps.length ≤ 60000) (c : Int) (hc0 : 0 ≤ c) (hc1 : c ≤ 1000) :
    Calls Try.prog 26 #[.pointer (some ⟨d, 0, none⟩), .pointer (some ⟨b, 0, none⟩), .agg #[.int .i64 k, .string A, .string U, .int .i64 n, pv], .int .i64 c] w fun e w' => ∃ (d' b' : Nat) (dk' : Dk) (S' F' : Nat → Prop), e = .returned (.tuple #[.pointer (some ⟨d', 0, none⟩), .pointer (some ⟨b', 0, none⟩), .bool true]) ∧ Two4 B0 w' S' F' d' b' dk' dk' ∧ Fits dk' ∧ dk'.ops ≤ dk.ops + 1 ∧ Below B0 w w' :=
  (does4_any hB hf ho k A U n pv ps G hp hG hA hU hn hps c hc0 hc1 (fun e w' => ∃ (d' b' : Nat) (dk' : Dk) (S' F' : Nat → Prop), e = .returned (.tuple #[.pointer (some ⟨d', 0, none⟩), .pointer (some ⟨b', 0, none⟩), .bool true]) ∧ Two4 B0 w' S' F' d' b' dk' dk' ∧ Fits dk' ∧ dk'.ops ≤ dk.ops + 1 ∧ Below B0 w w') fun d' b' dk' S' F' w' h1 h2 h3 h4 => ⟨⟨d', b', dk', S', F', rfl, h1, h2, h3, h4⟩⟩).mono fun _ _ h => h.out
set_option maxHeartbeats 4000000 in
set_option maxRecDepth 20000 in
theorem same4_any (hB : Two4 B0 w S F d b dk dk) (hf : Fits dk) (ho : dk.ops ≤ 100000) :
    Calls Try.prog 27 #[.pointer (some ⟨d, 0, none⟩), .pointer (some ⟨b, 0, none⟩)] w fun e w' => e = .returned (.bool true) ∧ Below w.heap.size w w' := by
  refine calls_gen fun R hR => ?_
  have HB := Lib.hid hB; have HF := Lib.hid hf; have HOK := Lib.hid hB.dd.ok
  have hlen : dk.fs.length ≤ 64 := hf.len
  have HNM : Hid (∀ f ∈ dk.fs, f.name.length ≤ 1000) := Lib.hid fun f hf' => by
    have := hB.dd.ok.nam f hf'
    unfold badName at this
    rw [Bool.or_eq_false_iff, decide_eq_false_iff_not] at this
    omega
  have HFL : Hid (∀ f ∈ dk.fs, f.b.length ≤ 140737488351232) := Lib.hid fun f hf' => Nat.le_trans (used_mem hf') (Nat.le_trans hf.usd (by decide))
  clear hB hf
  go_enter Try.func27, Try.ntmps27
  go_wp2_with fail
  obtain ⟨lv0, last0, hr0⟩ := HB.out.rr
  refine (rnames_any hr0 (by omega) (fun f hf' => Nat.le_trans (HNM.out f hf') (by decide))).mono ?_
  rintro e w1 ⟨nv, rfl, hn1, hb1⟩
  obtain ⟨NA, nc, rfl, hnc⟩ := hn1.slice
  have hnl : (names dk.fs).length = dk.fs.length := by simp [names]
  obtain ⟨N, hN⟩ : ∃ N, (names dk.fs).length = N := ⟨_, rfl⟩
  have hN1 : N ≤ 64 := by omega
  rw [hN] at hnc ⊢
  have HV1 : Hid (View Rp.str w1 (w.heap.size ≤ ·) (names dk.fs) (.slice NA N nc)) := Lib.hid (by rw [← hN]; exact hn1.view)
  have HN := Lib.hid hN
  have HT1 := Lib.hid (HB.out.below hb1)
  have HB1 := Lib.hid hb1
  clear hr0 hn1 hb1 hnl hN
  go_upto_region 2 with fail
  have HBK : Hid (w1.cell? ⟨b, 2, none⟩ = some (.int .i64 dk.ops)) := Lib.hid (by
    obtain ⟨lv, last, hr⟩ := HT1.out.rr
    rw [blk_cell hr.blk 2]; rfl)
  have hlt1 := HT1.out.rr.lt
  have HNC : Hid (∀ wx, Ext w1 wx → Calls Try.prog 17 #[.pointer (some ⟨d, 0, none⟩)] wx fun e w' => ∃ v, e = .returned v ∧ Own Rp.str 9 w' (wx.heap.size ≤ ·) (names dk.fs) v ∧ Below wx.heap.size wx w') := Lib.hid fun wx hE => by
    obtain ⟨g, tag, mv, hd⟩ := HT1.out.dd.below hE
    exact names_any hd (by omega)
  have HOC : Hid (∀ wx, Ext w1 wx → Calls Try.prog 20 #[.pointer (some ⟨d, 0, none⟩)] wx fun e w' => e = .returned (.int .i64 dk.ops) ∧ wx = w') := Lib.hid fun wx hE => (ops_at (HT1.out.dd.below hE) rfl).mono fun _ _ h => ⟨h.1, h.2.symm⟩
  refine wp_region_any (by kernel_rfl) ?_
  refine region_ext [(fun vv _ => vv = .pointer (some ⟨d, 0, none⟩)), (fun v w => View Rp.str w (fun _ => True) (names dk.fs) v), (fun vv _ => vv = .slice NA N nc), (fun vv _ => vv = .bool true), (fun vv _ => vv = .bool false), (fun vv _ => vv = .bool false), (fun vv _ => vv = .pointer (some ⟨d, 0, none⟩)), (fun vv _ => vv = .int .i64 dk.ops), (fun vv _ => vv = .pointer (some ⟨b, 0, none⟩)), (fun vv _ => vv = .pointer (some ⟨b, 0, none⟩)), (fun vv _ => vv = .pointer (some ⟨b, 2, none⟩)), (fun vv _ => vv = .int .i64 dk.ops), (fun vv _ => vv = .bool false), (fun vv _ => vv = .bool false)]
    [[], [(0, 13)], [], [(1, 14), (2, 15)], [(3, 16)], [(4, 17)], [(5, 18)], [(5, 18), (6, 19)], [(5, 18)], [(5, 18), (8, 21)], [(5, 18), (9, 22)], [(5, 18), (10, 23)], [(5, 18), (7, 20), (11, 24)], [(5, 18), (12, 25)]]
    [none, none, none, none, none, none, some (18, false), some (18, false), some (18, false), some (18, false), some (18, false), some (18, false), some (18, false), none]
    [some 13, some 14, some 15, some 16, some 17, some 18, some 19, some 20, some 21, some 22, some 23, some 24, some 25, some 26] 14 (by kernel_rfl) (by kernel_rfl) (by kernel_rfl) rfl (by kernel_rfl) ?_ ?_ ?_
  · exact ⟨fun _ _ _ _ h => h, (fun _ _ _ hE h => (h.bnd.move fun k hk _ => Below.block hE k hk.2).mono fun _ _ => trivial), fun _ _ _ _ h => h, fun _ _ _ _ h => h, fun _ _ _ _ h => h, fun _ _ _ _ h => h, fun _ _ _ _ h => h, fun _ _ _ _ h => h, fun _ _ _ _ h => h, fun _ _ _ _ h => h, fun _ _ _ _ h => h, fun _ _ _ _ h => h, fun _ _ _ _ h => h, fun _ _ _ _ h => h, trivial⟩
  · refine ⟨fun ρ wx _ hx _ => gives_move (hx (.tmp 0) (by simp)), ?_, fun ρ wx _ hx _ => gives_move (hx (.tmp 5) (by simp)), ?_, ?_, fun ρ wx _ _ hd => gives_move hd.1, ?_, ?_, ?_, ?_, ?_, ?_, ?_, ?_, trivial⟩
    · intro ρ wx hE hx hd
      replace hE := Ext.undrew hE
      have e13 : ρ (.tmp 13) = .pointer (some ⟨d, 0, none⟩) := hd.1
      have hf : ∀ f, ρ (.func f) = .func (.func f) #[] #[] := fun f => (hx (.func f) (by simp)).trans rfl
      refine gives_call (G := fun v w => View Rp.str w (fun _ => True) (names dk.fs) v) (by simp [execOp, e13, hf, go_sem] <;> first | exact ⟨rfl, rfl⟩ | exact rfl) ((HNC.out wx hE).mono fun e w' h => ?_); obtain ⟨v, h1, h2, h3⟩ := h; exact ⟨v, h1, h3, h2.view.mono fun _ _ => trivial⟩
    · intro ρ wx hE hx hd
      replace hE := Ext.undrew hE
      have e14 := hd.1
      have e15 : ρ (.tmp 15) = .slice NA N nc := hd.2.1
      have hf : ∀ f, ρ (.func f) = .func (.func f) #[] #[] := fun f => (hx (.func f) (by simp)).trans rfl
      refine gives_call (G := fun vv _ => vv = .bool true) (by simp [execOp, e15, hf, go_sem] <;> first | exact ⟨rfl, rfl⟩ | exact rfl) ((texts_any (names dk.fs) (names dk.fs) (ρ (.tmp 14)) (.slice NA N nc) _ _ wx e14 (HV1.out.below hE) (by rw [HN.out]; omega)).mono fun e w' h => ?_); exact ⟨_, h.1, h.2, by simp⟩
    · intro ρ wx hE hx hd
      replace hE := Ext.undrew hE
      have e16 : ρ (.tmp 16) = .bool true := hd.1
      exact gives_val (G := fun vv _ => vv = .bool false) (v := .bool false) (by simp [execOp, e16, go_sem]) rfl
    · intro ρ wx hE hx hd
      replace hE := Ext.undrew hE
      have e18 : ρ (.tmp 18) = .bool false := hd.1
      have e0 : ρ (.tmp 0) = .pointer (some ⟨d, 0, none⟩) := hx (.tmp 0) (by simp)
      refine .inl ⟨e18, ?_⟩
      exact gives_val (G := fun vv _ => vv = .pointer (some ⟨d, 0, none⟩)) (v := .pointer (some ⟨d, 0, none⟩)) (by simp [execOp, e18, e0, go_sem]) rfl
    · intro ρ wx hE hx hd
      replace hE := Ext.undrew hE
      have e18 : ρ (.tmp 18) = .bool false := hd.1
      have e19 : ρ (.tmp 19) = .pointer (some ⟨d, 0, none⟩) := hd.2.1
      have hf : ∀ f, ρ (.func f) = .func (.func f) #[] #[] := fun f => (hx (.func f) (by simp)).trans rfl
      refine .inl ⟨e18, ?_⟩
      refine gives_call (G := fun vv _ => vv = .int .i64 dk.ops) (by simp [execOp, e18, e19, hf, go_sem] <;> first | exact ⟨rfl, rfl⟩ | exact rfl) ?_
      exact call_same (HOC.out wx hE)
    · intro ρ wx hE hx hd
      replace hE := Ext.undrew hE
      have e18 : ρ (.tmp 18) = .bool false := hd.1
      have e1 : ρ (.tmp 1) = .pointer (some ⟨b, 0, none⟩) := hx (.tmp 1) (by simp)
      refine .inl ⟨e18, ?_⟩
      exact gives_val (G := fun vv _ => vv = .pointer (some ⟨b, 0, none⟩)) (v := .pointer (some ⟨b, 0, none⟩)) (by simp [execOp, e18, e1, go_sem]) rfl
    · intro ρ wx hE hx hd
      replace hE := Ext.undrew hE
      have e18 : ρ (.tmp 18) = .bool false := hd.1
      have e21 : ρ (.tmp 21) = .pointer (some ⟨b, 0, none⟩) := hd.2.1
      refine .inl ⟨e18, ?_⟩
      exact gives_val (G := fun vv _ => vv = .pointer (some ⟨b, 0, none⟩)) (v := .pointer (some ⟨b, 0, none⟩)) (by simp [execOp, e18, e21, go_sem]) rfl
    · intro ρ wx hE hx hd
      replace hE := Ext.undrew hE
      have e18 : ρ (.tmp 18) = .bool false := hd.1
      have e22 : ρ (.tmp 22) = .pointer (some ⟨b, 0, none⟩) := hd.2.1
      refine .inl ⟨e18, ?_⟩
      exact gives_val (G := fun vv _ => vv = .pointer (some ⟨b, 2, none⟩)) (v := .pointer (some ⟨b, 2, none⟩)) (by simp [execOp, e18, e22, go_sem]) rfl
    · intro ρ wx hE hx hd
      replace hE := Ext.undrew hE
      have e18 : ρ (.tmp 18) = .bool false := hd.1
      have e23 : ρ (.tmp 23) = .pointer (some ⟨b, 2, none⟩) := hd.2.1
      refine .inl ⟨e18, ?_⟩
      have hcl := ext_cell hE HBK.out
      exact gives_val (G := fun vv _ => vv = .int .i64 dk.ops) (v := .int .i64 dk.ops) (by simp [execOp, e18, e23, hcl, go_sem]) rfl
    · intro ρ wx hE hx hd
      replace hE := Ext.undrew hE
      have e18 : ρ (.tmp 18) = .bool false := hd.1
      have e20 : ρ (.tmp 20) = .int .i64 dk.ops := hd.2.1
      have e24 : ρ (.tmp 24) = .int .i64 dk.ops := hd.2.2.1
      refine .inl ⟨e18, ?_⟩
      exact gives_val (G := fun vv _ => vv = .bool false) (v := .bool false) (by simp [execOp, e20, e24, go_sem]) rfl
    · intro ρ wx hE hx hd
      replace hE := Ext.undrew hE
      have e18 : ρ (.tmp 18) = .bool false := hd.1
      have e25 : ρ (.tmp 25) = .bool false := hd.2.1
      have hk : ∀ v, ρ (.const v) = v := fun v => (hx (.const v) (by simp)).trans rfl
      exact gives_val (G := fun vv _ => vv = .bool false) (v := .bool false) (by simp [execOp, e18, e25, hk, go_sem]) rfl
  intro wx hE
  refine fun v13 (e13 : v13 = .pointer (some ⟨d, 0, none⟩)) => ?_
  refine fun v14 e14 => ?_
  refine fun v15 (e15 : v15 = .slice NA N nc) => ?_
  refine fun v16 (e16 : v16 = .bool true) => ?_
  refine fun v17 (e17 : v17 = .bool false) => ?_
  refine fun v18 (e18 : v18 = .bool false) => ?_
  refine fun v19 (e19 : v19 = .pointer (some ⟨d, 0, none⟩)) => ?_
  refine fun v20 (e20 : v20 = .int .i64 dk.ops) => ?_
  refine fun v21 (e21 : v21 = .pointer (some ⟨b, 0, none⟩)) => ?_
  refine fun v22 (e22 : v22 = .pointer (some ⟨b, 0, none⟩)) => ?_
  refine fun v23 (e23 : v23 = .pointer (some ⟨b, 2, none⟩)) => ?_
  refine fun v24 (e24 : v24 = .int .i64 dk.ops) => ?_
  refine fun v25 (e25 : v25 = .bool false) => ?_
  refine fun v26 (e26 : v26 = .bool false) => ?_
  subst e13 e15 e16 e17 e18 e19 e20 e21 e22 e23 e24 e25 e26
  refine rest_nil ?_
  refine wpList_nil ?_
  simp only [Exit.then, Act.put, List.setIfInBounds_toArray, List.set_cons_zero, List.set_cons_succ]
  have HTX := Lib.hid (HT1.out.below hE)
  have HVX := Lib.hid (HV1.out.below hE)
  have HBX : Hid (Below w.heap.size w wx) := Lib.hid (HB1.out.trans (hE.mono HB1.out.size))
  clear e14 hE hlt1
  go_wp2_with fail
  go_loopw [6] (fun i wr => ∃ k : Nat, k ≤ N ∧ i = .int .i64 k ∧ Below wx.heap.size wx wr) (fun i _ => N - (intOf i).toNat)
  case atStart => exact ⟨0, Nat.zero_le _, rfl, Below.refl _ _⟩
  case round =>
    obtain ⟨k, hk, rfl, hbr⟩ := hrel
    have HBR := Lib.hid hbr
    clear hbr
    by_cases hkN : k < N
    · obtain ⟨x, hx⟩ : ∃ x, (names dk.fs)[k]? = some x := ⟨_, List.getElem?_eq_getElem (by rw [HN.out]; exact hkN)⟩
      obtain ⟨f, hf1, hf2⟩ := List.mem_map.1 (List.mem_of_getElem? hx)
      have hlk : look dk.fs x = some f := hf2 ▸ HOK.out.ord.look_mem hf1
      have hxl : x.length ≤ 1000 := hf2 ▸ HNM.out f hf1
      have hfb : f.b.length ≤ 140737488351232 := HFL.out f hf1
      obtain ⟨A', c', e', _, hget⟩ := (HVX.out.below HBR.out).open1
      obtain ⟨rfl, he1, he2⟩ := Value.slice.inj e'
      obtain ⟨gb, off, rfl, hgb, hgx⟩ := hget k (by rw [HN.out]; exact hkN)
      have d0 : wr.cell? ⟨gb, off + k, none⟩ = some (.string (ofL x)) := hgx k x hx
      obtain ⟨X, hX⟩ : ∃ X, ofL x = X := ⟨_, rfl⟩
      have hXs : X.size ≤ 1000 := by rw [← hX, ofL_size]; exact hxl
      rw [hX] at d0
      have HRD : Hid ((match look dk.fs (toL X) with | none => (4, []) | some f => ((0 : Int), f.b)) = (0, f.b)) := Lib.hid (by rw [← hX, toL_ofL, hlk])
      have HTR := Lib.hid (HTX.out.below HBR.out)
      clear hx hf1 hf2 hlk e' he1 he2 hget hgx hX
      go_wp2_with fail
      refine (read_at HTR.out.dd X (by omega) HFL.out HRD.out).mono ?_
      rintro e w2 ⟨u1, rfl, ho1, hb2⟩
      obtain ⟨A1, c1, rfl, hc1⟩ := ho1.slice
      obtain ⟨L, hL⟩ : ∃ L, f.b.length = L := ⟨_, rfl⟩
      rw [hL] at hfb
      have HL := Lib.hid hL
      have HO1 := Lib.hid ho1; have HB2 := Lib.hid hb2
      have HT2 := Lib.hid (HTR.out.below hb2)
      have d0' : w2.cell? ⟨gb, off + k, none⟩ = some (.string X) := ext_cell hb2 d0
      have hgb2 : gb < w2.heap.size := Nat.lt_of_lt_of_le hgb hb2.size
      clear ho1 hb2 hL d0
      rw [HL.out]
      go_wp2_with fail
      obtain ⟨lv0, last0, hr0⟩ := HT2.out.rr
      refine (rread_any hr0 X (by omega) (by omega) HFL.out HRD.out).mono ?_
      rintro e w3 ⟨u2, rfl, ho2, hb3⟩
      obtain ⟨A2, c2, rfl, hc2⟩ := ho2.slice
      have HV3 : Hid (View Rp.u8 w3 (fun _ => True) f.b (.slice A1 L c1)) := Lib.hid ((HL.out ▸ HO1.out.view.below hb3).mono fun _ _ => trivial)
      have HO2 := Lib.hid (HL.out ▸ ho2.view); have HB3 := Lib.hid hb3
      rw [HL.out]
      clear ho2 hb3 hr0 d0'
      go_wp2_with fail
      refine (bytes_any f.b f.b _ _ _ _ w3 HV3.out HO2.out (by rw [HL.out]; exact hfb) (by rw [HL.out]; exact hfb)).mono ?_
      rintro e w4 ⟨rfl, hb4⟩
      have HB4 := Lib.hid hb4
      have hbb : (f.b == f.b) = true := beq_self_eq_true _
      rw [hbb]
      clear hb4 hbb
      go_wp2_with fail
      go_roundw
      case rel =>
        have h1 := HBR.out.size; have h2 := HB2.out.size; have h3 := HB3.out.size
        exact ⟨k + 1, by omega, by go_num, ((HBR.out.trans (HB2.out.mono (by omega))).trans (HB3.out.mono (by omega))).trans (HB4.out.mono (by omega))⟩
      case measure => simp [intOf]; omega
    · obtain rfl : N = k := by omega
      go_wp2_with fail
      go_ret
      exact hR _ _ ⟨rfl, HBX.out.trans (HBR.out.mono HBX.out.size)⟩

def stp : Rp (Int × List UInt8 × List UInt8 × Int × List Int) := Rp.int.pair (Rp.str.pair (Rp.str.pair (Rp.int.pair Rp.int.view)))
theorem stp_get {w : World} {G : Nat → Prop} {l : List (Int × List UInt8 × List UInt8 × Int × List Int)} {v : Value} (h : View stp w G l v) :
    ∃ A c, v = .slice A l.length c ∧ l.length ≤ c ∧ (∀ k, k < l.length → ∃ g off, A = some ⟨g, off, none⟩ ∧ g < w.heap.size ∧ G g ∧ ∀ x, l[k]? = some x → ∃ B c', View Rp.int w G x.2.2.2.2 (.slice B x.2.2.2.2.length c') ∧
      w.cell? ⟨g, off + k * 5, none⟩ = some (.int .i64 x.1) ∧ w.cell? ⟨g, off + k * 5 + 1, none⟩ = some (.string (ofL x.2.1)) ∧ w.cell? ⟨g, off + k * 5 + 2, none⟩ = some (.string (ofL x.2.2.1)) ∧ w.cell? ⟨g, off + k * 5 + 3, none⟩ = some (.int .i64 x.2.2.2.1) ∧ w.cell? ⟨g, off + k * 5 + 4, none⟩ = some (.slice B x.2.2.2.2.length c')) := by
  obtain ⟨A, c, rfl, hc, hA, h⟩ := h
  refine ⟨A, c, rfl, hc, fun k hk => ?_⟩
  rcases h with rfl | ⟨g, off, cells, rfl, hG, hlt, hat, hel⟩
  · simp at hk
  · refine ⟨g, off, rfl, hlt, hG, fun x hx => ?_⟩
    obtain ⟨us, cs, bs, rfl, ha, hr, _, _⟩ := hel.get (fun _ _ h => stp.len h) k hk
    have hx' : l[k] = x := by rw [List.getElem?_eq_getElem hk] at hx; exact Option.some.inj hx
    rw [hx'] at hr
    obtain ⟨c1, c2, rfl, rfl, d1, d2, rfl, rfl, f1, f2, rfl, rfl, g1, g2, rfl, rfl, ⟨u, rfl, hu⟩⟩ := hr
    obtain ⟨B, c', rfl, _⟩ : ∃ B c', u = .slice B x.2.2.2.2.length c' ∧ x.2.2.2.2.length ≤ c' := by obtain ⟨B, c', e, h, _⟩ := hu; exact ⟨B, c', e, h⟩
    have hcell : ∀ j y, ([Value.int .i64 x.1, Value.string (ofL x.2.1), Value.string (ofL x.2.2.1), Value.int .i64 x.2.2.2.1, Value.slice B x.2.2.2.2.length c'] : List Value)[j]? = some y → w.cell? ⟨g, off + k * 5 + j, none⟩ = some y := by
      intro j y hj
      have h3 : us.length = k * 5 := ha
      have hjl := (List.getElem?_eq_some_iff.1 hj).1
      rw [Nat.add_assoc]
      refine hat (k * 5 + j) y ?_
      rw [List.append_assoc, List.getElem?_append_right (by omega), h3, Nat.add_sub_cancel_left]
      exact (List.getElem?_append_left (l₁ := [Value.int .i64 x.1, Value.string (ofL x.2.1), Value.string (ofL x.2.2.1), Value.int .i64 x.2.2.2.1, Value.slice B x.2.2.2.2.length c']) (l₂ := bs) hjl).trans hj
    exact ⟨B, c', hu, hcell 0 _ rfl, hcell 1 _ rfl, hcell 2 _ rfl, hcell 3 _ rfl, hcell 4 _ rfl⟩
end
end Go.Proofs.Ytlfcbhagbdonhaa.Asc
