/-
  Contract: what a crash leaves of the document's disk.
  Lengths within the rows' own reach.
-/
import Derived.Test.YtlfcbhagbdonhaaDrL
namespace Go.Proofs.Ytlfcbhagbdonhaa.Asc
set_option linter.unusedSimpArgs false
set_option linter.unusedVariables false
open Go Go.RowKit Go.Proofs.Ytlfcbhagbdonhaa.Pb

section
variable {w w' : World} {F : Nat → Prop} {b : Nat} {dk : Dk} {lv : Value} {last : Int}
set_option maxHeartbeats 8000000 in
set_option maxRecDepth 20000 in
theorem rcrash_any (h : RIn w F b dk lv last) (hok : dk.Ok) (hlen : dk.fs.length ≤ 1000) (hfl : ∀ f ∈ dk.fs, f.b.length ≤ 999999999) (ps : List Int) (pv : Value) (G : Nat → Prop) (hp : View Rp.int w G ps pv) (hps : ps.length ≤ 1000000) :
    Calls Try.prog 47 #[.pointer (some ⟨b, 0, none⟩), pv] w fun e w' => e = .returned (.pointer (some ⟨w.heap.size, 0, none⟩)) ∧ RAt w' (fun j => w.heap.size < j) w.heap.size (dk.crash ps) ∧ Below w.heap.size w w' := by
  refine calls_gen fun R hR => ?_
  have H := Lib.hid h; have HFL := Lib.hid hfl; have HSY := Lib.hid hok.sy
  have hltb := h.lt
  obtain ⟨A, c, rfl, hc, _⟩ := rf_get h.row.view
  obtain ⟨PA, pc, rfl, hpc, _⟩ := hp.open1
  have c0 := blk_cell h.blk 0
  simp only [rcell, List.getElem?_toArray, List.getElem?_cons_zero, List.getElem?_cons_succ] at c0
  obtain ⟨S0, hS0⟩ : ∃ S0, w.heap.size = S0 := ⟨_, rfl⟩
  have HP := Lib.hid hp
  have HS0 := Lib.hid hS0
  obtain ⟨rm, hrm⟩ : ∃ rm, dk.room = rm := ⟨_, rfl⟩
  have HRM := Lib.hid hrm
  rw [hrm] at c0
  obtain ⟨m, hm⟩ : ∃ m, dk.fs.length = m := ⟨_, rfl⟩
  obtain ⟨pn, hpn⟩ : ∃ pn, ps.length = pn := ⟨_, rfl⟩
  have HM := Lib.hid hm; have HPN := Lib.hid hpn
  rw [hm] at hc hlen
  rw [hpn] at hpc hps ⊢
  obtain ⟨w1, hw1⟩ : ∃ w1, w.alloc (.cells #[.int .i64 rm, .slice none 0 0, .int .i64 0, .int .i64 (-1)] 80) = w1 := ⟨_, rfl⟩
  have hb1 : Below w.heap.size w w1 := hw1 ▸ below_new w _
  have hg1 : w1.heap[S0]? = some (.cells #[.int .i64 rm, .slice none 0 0, .int .i64 0, .int .i64 (-1)] 80 (0, 0)) := hw1 ▸ hS0 ▸ blk_new w _
  have HR1 : Hid (RIn w1 (fun j => S0 < j) S0 { room := rm, fs := [] } (.slice none 0 0) (-1)) := Lib.hid ⟨hg1, Own.nil _ _ _ _, by omega, rfl⟩
  have HB1 := Lib.hid hb1; have HW1 := Lib.hid hw1
  rw [hS0] at hltb hR
  clear h hp hok hfl hm hpn hb1 hg1 hw1 hrm
  go_enter Try.func47, Try.ntmps47
  go_upto_region 2 with fail
  rw [HW1.out]
  clear c0 hS0
  go_wp2_with fail
  go_loopw [6, 7] (fun av i wr => ∃ (k a : Nat) (D : List Fl) (lvr : Value), k ≤ m ∧ a ≤ k ∧ i = .int .i64 k ∧ av = .int .i64 a ∧ D.length = k ∧ crashF dk.fs ps = D ++ crashF (dk.fs.drop k) (ps.drop a) ∧ RIn wr (fun j => S0 < j) S0 { room := rm, fs := D } lvr (-1) ∧ Below S0 w wr) (fun _ i _ => m - (intOf i).toNat)
  case atStart => exact ⟨0, 0, [], _, Nat.zero_le _, Nat.le_refl _, rfl, rfl, rfl, rfl, HR1.out, HS0.out ▸ HB1.out⟩
  case round =>
    obtain ⟨k, a, D, lvr, hk, ha, rfl, rfl, hD, hcr, hri, hbw⟩ := hrel
    have HRI := Lib.hid hri; have HBW := Lib.hid hbw; have HCR := Lib.hid hcr; have HD := Lib.hid hD
    have HWB : Hid (RIn wr F b dk (.slice A dk.fs.length c) last) := Lib.hid (by have := H.out.below (hbw.mono (by rw [HS0.out]; exact Nat.le_refl _)); exact this)
    clear hri hbw hcr hD
    have hltr := HWB.out.lt
    have hltz := HRI.out.lt
    have c1 := blk_cell HWB.out.blk 1
    simp only [rcell, List.getElem?_toArray, List.getElem?_cons_zero, List.getElem?_cons_succ] at c1
    rw [HM.out] at c1
    by_cases hkm : k < m
    · obtain ⟨x, hx⟩ : ∃ x, dk.fs[k]? = some x := ⟨_, List.getElem?_eq_getElem (by rw [HM.out]; exact hkm)⟩
      obtain ⟨g, c3, B, c', hlv, hgF, hgl, hkl, _, d0, d1, d2, hbc, hvx, _, hBn⟩ := rf_at HWB.out k x hx
      obtain ⟨rfl, hlm, hlc⟩ := Value.slice.inj hlv
      have hxf := HFL.out x (List.mem_of_getElem? hx)
      have hxs := HSY.out x (List.mem_of_getElem? hx)
      have HDC : Hid (dk.fs.drop k = x :: dk.fs.drop (k + 1)) := Lib.hid (by
        have hk' : k < dk.fs.length := by rw [HM.out]; exact hkm
        rw [List.drop_eq_getElem_cons hk']; rw [List.getElem?_eq_getElem hk'] at hx; rw [Option.some.inj hx])
      obtain ⟨L, hL⟩ : ∃ L, x.b.length = L := ⟨_, rfl⟩
      obtain ⟨sy, hsy⟩ : ∃ sy, x.sy = sy := ⟨_, rfl⟩
      obtain ⟨N0, hN0⟩ : ∃ N0, ofL x.name = N0 := ⟨_, rfl⟩
      have HL := Lib.hid hL; have HSYX := Lib.hid hsy; have HN0 : Hid (toL N0 = x.name) := Lib.hid (by rw [← hN0, toL_ofL])
      rw [hN0] at d0
      rw [hL] at d1 hbc hvx hxf hxs
      rw [hsy] at d2 hxs
      have hki : (k : Int) < (m : Int) := by omega
      have HVX := Lib.hid hvx
      obtain ⟨kk, hkk⟩ : ∃ kk, (crash1 x (ps.drop a)).1 = kk := ⟨_, rfl⟩
      have hkl2 : sy + kk ≤ L := by have := crash1_le x (ps.drop a); omega
      have HKK := Lib.hid hkk
      obtain ⟨w2, hw2⟩ : ∃ w2, wr.alloc (.cells #[.string N0, .slice B L c', .int .i64 sy] 95) = w2 := ⟨_, rfl⟩
      obtain ⟨q, hq⟩ : ∃ q, wr.heap.size = q := ⟨_, rfl⟩
      have hb2 : Ext wr w2 := hw2 ▸ below_new _ _
      have hq2 : w2.heap[q]? = some (.cells #[.string N0, .slice B L c', .int .i64 sy] 95 (0, 0)) := hw2 ▸ hq ▸ blk_new _ _
      have HW2 := Lib.hid hw2; have HQ := Lib.hid hq; have HB2 := Lib.hid hb2; have HQ2 := Lib.hid hq2
      have HBN : Hid (B = none → c' = 0) := Lib.hid hBn
      clear hlv hlm hlc hx hL hsy hN0 hvx hkk hkl hgF hw2 hq hb2 hq2 hBn
      go_upto_region 7 with fail
      rw [HW2.out, HQ.out]
      clear d0 d1 d2 c1
      have q0 := blk_cell HQ2.out 0
      have q1 := blk_cell HQ2.out 1
      have q2 := blk_cell HQ2.out 2
      simp only [List.getElem?_toArray, List.getElem?_cons_zero, List.getElem?_cons_succ] at q0 q1 q2
      have hql := blk_lt HQ2.out
      have HWW : Hid (Below w.heap.size w w2) := Lib.hid (by
        have h1 : Below w.heap.size w wr := by rw [HS0.out]; exact HBW.out
        exact h1.trans (Below.mono HB2.out h1.size))
      go_upto_if 41 with fail
      go_cut [6, 10] (fun av kv wc => ∃ a' : Nat, a' ≤ k + 1 ∧ av = .int .i64 a' ∧ kv = .int .i64 kk ∧ ps.drop a' = (crash1 x (ps.drop a)).2 ∧ wc = w2)
      case first =>
        by_cases h0 : L = sy
        · have hcz := crash1_zero x (ps.drop a) (by rw [HL.out, HSYX.out]; omega)
          have HKZ : Hid (kk = 0) := Lib.hid (by rw [← HKK.out, hcz])
          have HCZ := Lib.hid hcz
          have hle : ¬ (L : Int) - (sy : Int) > 0 := by omega
          clear hcz h0
          go_wp2_with fail
          go_meet
          exact ⟨a, by omega, rfl, by rw [HKZ.out]; rfl, by rw [HCZ.out], by first | trivial | rfl⟩
        · have hgt : (L : Int) - (sy : Int) > 0 := by omega
          have HNZ : Hid (¬ x.b.length - x.sy = 0) := Lib.hid (by rw [HL.out, HSYX.out]; omega)
          by_cases hpa : a < pn
          · obtain ⟨p, hp⟩ : ∃ p, ps[a]? = some p := ⟨_, List.getElem?_eq_getElem (by rw [HPN.out]; exact hpa)⟩
            have hdr : ps.drop a = p :: ps.drop (a + 1) := by
              have ha' : a < ps.length := by rw [HPN.out]; exact hpa
              rw [List.drop_eq_getElem_cons ha']; rw [List.getElem?_eq_getElem ha'] at hp; rw [Option.some.inj hp]
            have hc1 := crash1_one x p (ps.drop (a + 1)) HNZ.out
            have HC2 : Hid ((crash1 x (ps.drop a)).2 = ps.drop (a + 1)) := Lib.hid (by rw [hdr, hc1])
            obtain ⟨h2, h3, h4, h5⟩ := modulo_eq p ((L : Int) - (sy : Int) + 1) (by omega)
            have HKP : Hid ((kk : Int) = p % ((L : Int) - (sy : Int) + 1)) := Lib.hid (by
              have h6 : kk = (p % (((x.b.length - x.sy : Nat) : Int) + 1)).toNat := by rw [← HKK.out, hdr, hc1]
              have h7 : ((x.b.length - x.sy : Nat) : Int) + 1 = (L : Int) - (sy : Int) + 1 := by rw [HL.out, HSYX.out]; omega
              rw [h7] at h6
              have h8 := Int.emod_nonneg p (show (L : Int) - (sy : Int) + 1 ≠ 0 by omega)
              rw [h6]; omega)
            obtain ⟨A', c', e', _, hget⟩ := (HP.out.below HWW.out).open1
            obtain ⟨rfl, he1, he2⟩ := Value.slice.inj e'
            obtain ⟨pb, po, rfl, hpb, hpx⟩ := hget a (by rw [HPN.out]; exact hpa)
            have p0 : w2.cell? ⟨pb, po + a, none⟩ = some (.int .i64 p) := hpx a p hp
            have hai : (a : Int) < (pn : Int) := by omega
            have H4 := Lib.hid h4; have H5 := Lib.hid h5
            clear hp hdr hc1 e' hget hpx h4 h5 h0 he1 he2
            by_cases ht : p.tmod ((L : Int) - (sy : Int) + 1) < 0
            · have HK4 := Lib.hid (H4.out ht)
              go_wp2_with fail
              go_meet
              refine ⟨a + 1, by omega, by go_num, ?_, HC2.out.symm, by first | trivial | rfl⟩
              rw [HKP.out, ← HK4.out]
              congr 1
              omega
            · have HK5 := Lib.hid (H5.out ht)
              go_wp2_with fail
              go_meet
              refine ⟨a + 1, by omega, by go_num, ?_, HC2.out.symm, by first | trivial | rfl⟩
              rw [HKP.out, ← HK5.out]
          · have hdr : ps.drop a = [] := List.drop_of_length_le (by rw [HPN.out]; omega)
            have hdr2 : ps.drop (a + 1) = [] := List.drop_of_length_le (by rw [HPN.out]; omega)
            have hc1 := crash1_nil x
            have HC2 : Hid (ps.drop (a + 1) = (crash1 x (ps.drop a)).2) := Lib.hid (by rw [hdr, hc1, hdr2])
            have HKZ : Hid (kk = 0) := Lib.hid (by rw [← HKK.out, hdr, hc1])
            clear hdr hdr2 hc1 h0
            go_wp2_with fail
            go_meet
            exact ⟨a + 1, by omega, by go_num, by rw [HKZ.out]; rfl, HC2.out, by first | trivial | rfl⟩
      case rest =>
        obtain ⟨a', ha', rfl, rfl, hdr, hwc⟩ := hcut
        rw [hwc]
        have HDR := Lib.hid hdr; have HWC := Lib.hid hwc
        have HVT : Hid (View Rp.u8 w2 (fun i => F i ∧ i ≠ g) (x.b.take (sy + kk)) (.slice B (sy + kk) c')) := Lib.hid ((HVX.out.below HB2.out).take (sy + kk) (by rw [HL.out]; exact hkl2) fun e => by have := HBN.out e; omega)
        have hskc : ((sy : Int) + (kk : Int)) ≤ (c' : Int) := by omega
        have hsk0 : (0 : Int) ≤ ((sy : Int) + (kk : Int)) := by omega
        have HTL : Hid ((x.b.take (sy + kk)).length = sy + kk) := Lib.hid (by rw [List.length_take, HL.out]; omega)
        clear hdr hwc
        go_wp2_with (with_reducible (first | refine stop_append ?_))
        refine ⟨wp_clone Try.underlying28 info5 rfl (show 0 < 1 by decide) rfl rfl HVT.out (by rw [HTL.out]; unfold maxLen; omega) (by rw [HTL.out]; omega) ?_⟩
        rintro v1 w3 ho1 hb3 ⟨g1, c1', rfl, hc1, hg1⟩
        have HO1 : Hid (Own Rp.u8 5 w3 (w2.heap.size ≤ ·) (x.b.take (sy + kk)) (.slice (some ⟨g1, 0, none⟩) (x.b.take (sy + kk)).length c1')) := Lib.hid (ho1.flat fun k hk => by simp [Value.ownBlock] at hk; omega)
        rw [HTL.out] at HO1 hc1 ⊢
        have HB3 := Lib.hid hb3
        have HR3 : Hid (RIn w3 (fun j => S0 < j ∧ j < q) S0 { room := rm, fs := D } lvr (-1)) := Lib.hid (((HRI.out.mono (F' := fun j => S0 < j ∧ j < q) (fun j hj h => ⟨h, by have := HQ.out; omega⟩) fun h => by omega).below HB2.out).below hb3)
        have HQ3 := Lib.hid ((hb3.block q hql).trans HQ2.out)
        have hs3 : w2.heap.size ≤ w3.heap.size := hb3.size
        obtain ⟨DA, dc, hlvr, hdc, _⟩ := rf_get HR3.out.row.view
        subst hlvr
        have HC1 := Lib.hid (blk_cell HR3.out.blk 1)
        simp only [rcell, List.getElem?_toArray, List.getElem?_cons_zero, List.getElem?_cons_succ] at HC1
        have HQ0 : Hid (w3.cell? ⟨q, 0, none⟩ = some (.string N0)) := Lib.hid (by rw [blk_cell HQ3.out 0]; rfl)
        rw [HD.out] at HC1
        have hdc' : k ≤ dc := by have h : D.length ≤ dc := hdc; rwa [HD.out] at h
        have HOB : Hid (∀ j, (Value.slice DA k dc).ownBlock = some j → S0 < j ∧ j < q) := Lib.hid fun j hj => by
          obtain ⟨_, _, h2, _⟩ := HR3.out.row
          exact h2 j (by show (Value.slice DA D.length dc).ownBlock = some j; rw [HD.out]; exact hj)
        have HROW : Hid (Own rfE 95 w3 (fun j => S0 < j ∧ j < q) D (.slice DA k dc)) := Lib.hid (by have h : Own rfE 95 w3 (fun j => S0 < j ∧ j < q) D (.slice DA D.length dc) := HR3.out.row; rwa [HD.out] at h)
        have hS0q : S0 < q := by have := HQ.out; omega
        have hqs : q < w2.heap.size := hql
        have HBW3 : Hid (Below S0 w w3) := Lib.hid ((HS0.out ▸ HWW.out).trans (hb3.mono (by omega)))
        clear ho1 hb3 q0 q1 q2
        go_upto_region 16 with fail
        refine wp_region_any (by kernel_rfl) ?_
        refine region_keep1 (fun j => some j = (Value.slice DA k dc).ownBlock) [(fun vv _ => vv = .pointer (some ⟨S0, 0, none⟩)), (fun vv _ => vv = .pointer (some ⟨S0, 0, none⟩)), (fun vv _ => vv = .pointer (some ⟨S0, 0, none⟩)), (fun vv _ => vv = .pointer (some ⟨S0, 1, none⟩)), (fun vv _ => vv = .slice DA k dc), (fun vv _ => vv = .pointer (some ⟨q, 0, none⟩)), (fun vv _ => vv = .string N0), (fun vv _ => vv = .slice (some ⟨g1, 0, none⟩) (sy + kk) c1'), (fun vv _ => vv = .slice (some ⟨g1, 0, none⟩) (sy + kk) c1'), (fun vv _ => vv = .int .i64 ((sy + kk : Nat) : Int)), (fun vv _ => vv = .agg #[.string N0, .slice (some ⟨g1, 0, none⟩) (sy + kk) c1', .int .i64 ((sy + kk : Nat) : Int)]), (fun v w => ∃ kq, v = .slice (some ⟨kq, 0, none⟩) 1 1 ∧ w2.heap.size ≤ kq ∧ w.heap[kq]? = some (.cells #[.string N0, .slice (some ⟨g1, 0, none⟩) (sy + kk) c1', .int .i64 ((sy + kk : Nat) : Int)] 95 (0, 0))), (fun v w => Own rfE 95 w (fun j => S0 < j) (D ++ [⟨x.name, x.b.take (sy + kk), sy + kk⟩]) v), (fun vv _ => vv = .pointer (some ⟨S0, 0, none⟩)), (fun vv _ => vv = .pointer (some ⟨S0, 1, none⟩))]
          [[], [], [(1, 71)], [(2, 72)], [(3, 73)], [], [(5, 75)], [], [], [(8, 78)], [(6, 76), (7, 77), (9, 79)], [(10, 80)], [(4, 74), (11, 81)], [(0, 70)], [(13, 83)], []]
          [none, none, none, none, none, none, none, none, none, none, none, none, none, none, none, none]
          [some 70, some 71, some 72, some 73, some 74, some 75, some 76, some 77, some 78, some 79, some 80, some 81, some 82, some 83, some 84] 15 12 [11] [1, 2, 3, 4, 5, 6, 7, 8, 9, 10, 11] (by kernel_rfl) (by kernel_rfl) (by kernel_rfl) rfl (by kernel_rfl) (by kernel_rfl) (by kernel_rfl) (by kernel_rfl) ?_ ?_ ?_ ?_
        · exact ⟨fun _ _ _ _ h => h, fun _ _ _ _ h => h, fun _ _ _ _ h => h, fun _ _ _ _ h => h, fun _ _ _ _ h => h, fun _ _ _ _ h => h, fun _ _ _ _ h => h, fun _ _ _ _ h => h, fun _ _ _ _ h => h, fun _ _ _ _ h => h, fun _ _ _ _ h => h, (fun _ _ _ hE ⟨kq, h1, h2, h3⟩ => ⟨kq, h1, h2, (Below.block hE kq (blk_lt h3)).trans h3⟩), (fun _ _ _ hE h => h.below hE), fun _ _ _ _ h => h, fun _ _ _ _ h => h, trivial⟩
        · exact ⟨.inr (.inr (fun _ _ _ _ h => h)), .inr (.inr (fun _ _ _ _ h => h)), .inr (.inr (fun _ _ _ _ h => h)), .inr (.inr (fun _ _ _ _ h => h)), .inr (.inr (fun _ _ _ _ h => h)), .inr (.inr (fun _ _ _ _ h => h)), .inr (.inr (fun _ _ _ _ h => h)), .inr (.inr (fun _ _ _ _ h => h)), .inr (.inr (fun _ _ _ _ h => h)), .inr (.inr (fun _ _ _ _ h => h)), .inr (.inr (fun _ _ _ _ h => h)), .inl rfl, .inr (.inl rfl), .inr (.inr (fun _ _ _ _ h => h)), .inr (.inr (fun _ _ _ _ h => h)), trivial⟩
        · refine ⟨fun ρ wx _ hx _ => gives_move (hx (.tmp 5) (by simp)), fun ρ wx _ hx _ => gives_move (hx (.tmp 5) (by simp)), ?_, ?_, ?_, ?_, ?_, fun ρ wx _ hx _ => gives_move (hx (.tmp 11) (by simp)), fun ρ wx _ hx _ => gives_move (hx (.tmp 11) (by simp)), ?_, ?_, ?_, ?_, ?_, ?_, trivial⟩
          · intro ρ wx hE hx hd
            replace hE := Ext.undrew hE
            have e71 : ρ (.tmp 71) = .pointer (some ⟨S0, 0, none⟩) := hd.1
            exact gives_val (G := fun vv _ => vv = .pointer (some ⟨S0, 0, none⟩)) (v := .pointer (some ⟨S0, 0, none⟩)) (by simp [execOp, e71, go_sem]) rfl
          · intro ρ wx hE hx hd
            replace hE := Ext.undrew hE
            have e72 : ρ (.tmp 72) = .pointer (some ⟨S0, 0, none⟩) := hd.1
            exact gives_val (G := fun vv _ => vv = .pointer (some ⟨S0, 1, none⟩)) (v := .pointer (some ⟨S0, 1, none⟩)) (by simp [execOp, e72, go_sem]) rfl
          · intro ρ wx hE hx hd
            replace hE := Ext.undrew hE
            have e73 : ρ (.tmp 73) = .pointer (some ⟨S0, 1, none⟩) := hd.1
            have hcl := ext_cell hE HC1.out
            exact gives_val (G := fun vv _ => vv = .slice DA k dc) (v := .slice DA k dc) (by simp [execOp, e73, hcl, go_sem]) rfl
          · intro ρ wx hE hx hd
            replace hE := Ext.undrew hE
            have e8 : ρ (.tmp 8) = .pointer (some ⟨q, 0, none⟩) := hx (.tmp 8) (by simp)
            exact gives_val (G := fun vv _ => vv = .pointer (some ⟨q, 0, none⟩)) (v := .pointer (some ⟨q, 0, none⟩)) (by simp [execOp, e8, go_sem]) rfl
          · intro ρ wx hE hx hd
            replace hE := Ext.undrew hE
            have e75 : ρ (.tmp 75) = .pointer (some ⟨q, 0, none⟩) := hd.1
            have hcl := ext_cell hE HQ0.out
            exact gives_val (G := fun vv _ => vv = .string N0) (v := .string N0) (by simp [execOp, e75, hcl, go_sem]) rfl
          · intro ρ wx hE hx hd
            replace hE := Ext.undrew hE
            have e78 : ρ (.tmp 78) = .slice (some ⟨g1, 0, none⟩) (sy + kk) c1' := hd.1
            exact gives_val (G := fun vv _ => vv = .int .i64 ((sy + kk : Nat) : Int)) (v := .int .i64 ((sy + kk : Nat) : Int)) (by simp [execOp, e78, go_sem]) rfl
          · intro ρ wx hE hx hd
            replace hE := Ext.undrew hE
            have e76 : ρ (.tmp 76) = .string N0 := hd.1
            have e77 : ρ (.tmp 77) = .slice (some ⟨g1, 0, none⟩) (sy + kk) c1' := hd.2.1
            have e79 : ρ (.tmp 79) = .int .i64 ((sy + kk : Nat) : Int) := hd.2.2.1
            exact gives_val (G := fun vv _ => vv = .agg #[.string N0, .slice (some ⟨g1, 0, none⟩) (sy + kk) c1', .int .i64 ((sy + kk : Nat) : Int)]) (v := .agg #[.string N0, .slice (some ⟨g1, 0, none⟩) (sy + kk) c1', .int .i64 ((sy + kk : Nat) : Int)]) (by simp [execOp, e76, e77, e79, go_sem]) rfl
          · intro ρ wx hE hx hd
            replace hE := Ext.undrew hE
            have e80 : ρ (.tmp 80) = .agg #[.string N0, .slice (some ⟨g1, 0, none⟩) (sy + kk) c1', .int .i64 ((sy + kk : Nat) : Int)] := hd.1
            have hs := hE.size; exact gives_new (G := fun v w => ∃ kq, v = .slice (some ⟨kq, 0, none⟩) 1 1 ∧ w2.heap.size ≤ kq ∧ w.heap[kq]? = some (.cells #[.string N0, .slice (some ⟨g1, 0, none⟩) (sy + kk) c1', .int .i64 ((sy + kk : Nat) : Int)] 95 (0, 0))) (v := .slice (some ⟨wx.heap.size, 0, none⟩) 1 1) (w' := wx.alloc (.cells #[.string N0, .slice (some ⟨g1, 0, none⟩) (sy + kk) c1', .int .i64 ((sy + kk : Nat) : Int)] 95)) (by simp [execOp, e80, go_sem]) (below_new _ _) ⟨_, rfl, by omega, blk_new _ _⟩
          · intro ρ wx hE hx hd
            replace hE := Ext.undrew hE
            have e74 : ρ (.tmp 74) = .slice DA k dc := hd.1
            have e81 := hd.2.1
            obtain ⟨kq, h1, h2, h3⟩ := e81; have hs := hE.size; obtain ⟨v', w', hr, ho', hk', _, _⟩ := run_append_rows (P := Try.prog) (ty := 78) (c := 1) (G := fun j => w2.heap.size ≤ j) (ys := [⟨x.name, x.b.take (sy + kk), sy + kk⟩]) (off := 0) Try.underlying78 infoFl rfl (by decide) (HROW.out.below hE) (b := kq) (news := [.string N0, .slice (some ⟨g1, 0, none⟩) (sy + kk) c1', .int .i64 ((sy + kk : Nat) : Int)]) (fun j u hu => by rw [blk_cell h3]; simpa using hu) (Elems.one ⟨[_], _, rfl, by show [Value.string N0] = [Value.string (ofL x.name)]; rw [← HN0.out, ofL_toL], [_], _, rfl, ⟨_, rfl, HO1.out.view.below hE⟩, rfl⟩) (fun j hj e => by have hj : w2.heap.size ≤ j := hj; have := HOB.out _ e.symm; omega) (by rw [HD.out]; simp; unfold maxLen; omega) (by rw [HD.out]; simp; omega); exact gives_keep (v := v') (w' := w') (exec_appendR (by simpa [e74, h1] using hr)) hk' (ho'.mono fun j hj => by rcases hj with h | h | h; exact h.1; (have h : w2.heap.size ≤ j := h; omega); omega)
          · intro ρ wx hE hx hd
            replace hE := Keep.undrew hE
            have e70 : ρ (.tmp 70) = .pointer (some ⟨S0, 0, none⟩) := hd.1
            exact gives_val (G := fun vv _ => vv = .pointer (some ⟨S0, 0, none⟩)) (v := .pointer (some ⟨S0, 0, none⟩)) (by simp [execOp, e70, go_sem]) rfl
          · intro ρ wx hE hx hd
            replace hE := Keep.undrew hE
            have e83 : ρ (.tmp 83) = .pointer (some ⟨S0, 0, none⟩) := hd.1
            exact gives_val (G := fun vv _ => vv = .pointer (some ⟨S0, 1, none⟩)) (v := .pointer (some ⟨S0, 1, none⟩)) (by simp [execOp, e83, go_sem]) rfl
        intro wx hE
        refine fun v70 (e70 : v70 = .pointer (some ⟨S0, 0, none⟩)) => ?_
        refine fun v71 (e71 : v71 = .pointer (some ⟨S0, 0, none⟩)) => ?_
        refine fun v72 (e72 : v72 = .pointer (some ⟨S0, 0, none⟩)) => ?_
        refine fun v73 (e73 : v73 = .pointer (some ⟨S0, 1, none⟩)) => ?_
        refine fun v74 (e74 : v74 = .slice DA k dc) => ?_
        refine fun v75 (e75 : v75 = .pointer (some ⟨q, 0, none⟩)) => ?_
        refine fun v76 (e76 : v76 = .string N0) => ?_
        refine fun v77 (e77 : v77 = .slice (some ⟨g1, 0, none⟩) (sy + kk) c1') => ?_
        refine fun v78 (e78 : v78 = .slice (some ⟨g1, 0, none⟩) (sy + kk) c1') => ?_
        refine fun v79 (e79 : v79 = .int .i64 ((sy + kk : Nat) : Int)) => ?_
        refine fun v80 (e80 : v80 = .agg #[.string N0, .slice (some ⟨g1, 0, none⟩) (sy + kk) c1', .int .i64 ((sy + kk : Nat) : Int)]) => ?_
        refine fun v81 _ => ?_
        refine fun v82 e82 => ?_
        refine fun v83 (e83 : v83 = .pointer (some ⟨S0, 0, none⟩)) => ?_
        refine fun v84 (e84 : v84 = .pointer (some ⟨S0, 1, none⟩)) => ?_
        subst e70 e71 e72 e73 e74 e75 e76 e77 e78 e79 e80 e83 e84
        refine rest_nil ?_
        simp only [List.drop_succ_cons, List.drop_zero, Act.put, List.setIfInBounds_toArray, List.set_cons_zero, List.set_cons_succ]
        obtain ⟨A8, c8, rfl, hc8⟩ := e82.slice
        have hlen8 : (D ++ [(⟨x.name, x.b.take (sy + kk), sy + kk⟩ : Fl)]).length = k + 1 := by rw [List.length_append, HD.out]; rfl
        rw [hlen8] at e82 hc8 ⊢
        have HO8 := Lib.hid e82
        have HE8 := Lib.hid hE
        have hbk8 := hE.blk HR3.out.blk (fun e => by have := HOB.out _ e.symm; omega)
        have HBK8 := Lib.hid hbk8
        have cb1 := blk_cell hbk8 1
        have fb1 := blk_free hbk8 1
        simp only [rcell, List.getElem?_toArray, List.getElem?_cons_zero, List.getElem?_cons_succ] at cb1
        have hlt8 := blk_lt hbk8
        have HCE : Hid (crashed x kk = ⟨x.name, x.b.take (sy + kk), sy + kk⟩) := Lib.hid (by unfold crashed; rw [HSYX.out])
        clear hbk8 e82 hlen8 hE
        go_wp2_with fail
        go_roundw
        case rel =>
          have k9 := (Keep.refl (fun k => k = S0) wx).set (p := ⟨S0, 1, none⟩) rfl (.slice A8 (k + 1) c8)
          have hrn : RIn (wx.setCell ⟨S0, 1, none⟩ (.slice A8 (k + 1) c8)) (fun j => S0 < j) S0 { room := rm, fs := D ++ [crashed x kk] } (.slice A8 (k + 1) c8) (-1) :=
            ⟨blk_set HBK8.out 1 _, by rw [HCE.out]; exact HO8.out.keep k9 fun j h e => by omega, by omega, rfl⟩
          have hb1 : Below S0 w3 wx := HE8.out.below (by omega) fun i hi e => by have := HOB.out _ e.symm; omega
          have hb2 : Below S0 wx (wx.setCell ⟨S0, 1, none⟩ (.slice A8 (k + 1) c8)) := k9.below (by omega) fun i hi e => by omega
          exact ⟨k + 1, a', D ++ [crashed x kk], .slice A8 (k + 1) c8, by omega, ha', by go_num, rfl, by rw [List.length_append, HD.out]; rfl, by rw [HCR.out, HDC.out, crashF_cons, HDR.out, HKK.out]; simp, hrn, HBW3.out.trans (hb1.trans hb2)⟩
        case measure => simp [intOf]; omega
    · have hkm2 : k = m := by omega
      have HFIN : Hid (dk.crash ps = { room := rm, fs := D }) := Lib.hid (by
        unfold Dk.crash
        rw [HCR.out, List.drop_of_length_le (by rw [HM.out]; omega), HRM.out]
        simp [crashF])
      rw [HFIN.out] at hR
      clear hkm2
      go_wp2_with fail
      go_ret
      exact hR _ _ ⟨rfl, ⟨lvr, -1, HRI.out⟩, HBW.out⟩
end
end Go.Proofs.Ytlfcbhagbdonhaa.Asc
