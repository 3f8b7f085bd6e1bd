/-
  Contract: bytes are put behind a file's, in the document's disk.
  Lengths within the rows' own reach.
-/
import Derived.Test.YtlfcbhagbdonhaaDrI
import Derived.Test.YtlfcbhagbdonhaaRegB
namespace Go.Proofs.Ytlfcbhagbdonhaa.Asc
set_option linter.unusedSimpArgs false
set_option linter.unusedVariables false
open Go Go.RowKit Go.Proofs.Ytlfcbhagbdonhaa.Pb

section
variable {w w' : World} {F : Nat → Prop} {b : Nat} {dk : Dk} {lv : Value} {last : Int}
theorem used_take {fs : List Fl} {k : Nat} {x : Fl} (h : fs[k]? = some x) : usedN (fs.take (k + 1)) = usedN (fs.take k) + x.b.length := by
  unfold usedN; rw [List.take_add_one, h]; simp
theorem used_le (fs : List Fl) (k : Nat) : usedN (fs.take k) ≤ usedN fs := by
  have := congrArg usedN (List.take_append_drop k fs)
  unfold usedN at this ⊢
  rw [List.map_append, List.sum_append] at this; omega
set_option maxHeartbeats 4000000 in
set_option maxRecDepth 20000 in
theorem rappend_any (h : RIn w F b dk lv last) (hok : dk.Ok) (ho : dk.ops ≤ 1000000) (hlen : dk.fs.length ≤ 1000) (hused : usedN dk.fs ≤ 4194304) (hroom : 0 ≤ dk.room ∧ dk.room ≤ 4194304) (T : ByteArray) (hT : T.size ≤ 1000000) (bs : List UInt8) (bv : Value) (G : Nat → Prop) (hv : View Rp.u8 w G bs bv) (hG : ∀ k, G k → ¬ F k ∧ k ≠ b) (hbl : bs.length ≤ 1000000) :
    Calls Try.prog 41 #[.pointer (some ⟨b, 0, none⟩), .string T, bv] w fun e w' => e = .returned (.int .i64 (dk.append (toL T) bs).1) ∧ RAt w' (fun j => F j ∨ w.heap.size ≤ j) b (dk.append (toL T) bs).2 ∧ Keep (fun j => F j ∨ j = b) w w' := by
  refine calls_gen fun R hR => ?_
  have H := Lib.hid h; have HO := Lib.hid hok
  have hltb := h.lt
  obtain ⟨UA, uc, rfl, huc, _⟩ := hv.open1
  have HV := Lib.hid hv; have HUS := Lib.hid hused
  clear h hok hv hused
  go_enter Try.func41, Try.ntmps41
  go_wp2_with fail
  refine (off_any H.out ho).mono ?_
  rintro e w1 ⟨rfl, h1, hk1⟩
  have H1 := Lib.hid h1
  have HK1 : Hid (Keep (fun j => F j ∨ j = b) w w1) := Lib.hid (hk1.mono fun _ _ h => .inr h)
  have HV1 : Hid (View Rp.u8 w1 G bs (.slice UA bs.length uc)) := Lib.hid (HV.out.keep hk1 fun k hk e => (hG k hk).2 e)
  have HS1 : Hid (w.heap.size ≤ w1.heap.size) := Lib.hid hk1.size
  clear h1 hk1
  have HRR : Hid (∀ dk', RIn w1 F b dk' lv last → RAt w1 (fun j => F j ∨ w.heap.size ≤ j) b dk') := Lib.hid fun dk' h => ⟨lv, last, h.mono (fun _ _ h => .inl h) fun h => h.elim H.out.out fun h => by omega⟩
  cases hoff : dk.off with
  | true =>
    have hw : dk.append (toL T) bs = (6, dk.tick) := by unfold Dk.append; rw [if_pos hoff]
    rw [hw] at hR
    clear hw
    go_wp2_with fail
    go_ret
    exact hR _ _ ⟨rfl, HRR.out _ H1.out, HK1.out⟩
  | false =>
    go_wp2_with fail
    refine (bad_any T w1 (by omega)).mono ?_
    rintro e w2 ⟨rfl, hw2⟩
    rw [hw2]
    clear hw2
    cases hbad : badName (toL T) with
    | true =>
      have hw : dk.append (toL T) bs = (1, dk.tick) := by unfold Dk.append; rw [if_neg (by rw [hoff]; decide), if_pos hbad]
      rw [hw] at hR
      clear hw
      go_wp2_with fail
      go_ret
      exact hR _ _ ⟨rfl, HRR.out _ H1.out, HK1.out⟩
    | false =>
      have hw0 : dk.append (toL T) bs = if ((look dk.fs (toL T)).isNone && decide (dk.fs.length ≥ 64)) || decide ((usedN dk.fs + bs.length : Int) > dk.room) then ((3 : Int), dk.tick)
          else match look dk.fs (toL T) with
            | none => ((0 : Int), { dk.tick with fs := putF dk.fs ⟨toL T, bs, 0⟩ })
            | some f => ((0 : Int), { dk.tick with fs := setF dk.fs { f with b := f.b ++ bs } }) := by
        unfold Dk.append; rw [if_neg (by rw [hoff]; decide), if_neg (by rw [hbad]; decide)]; rfl
      rw [hw0] at hR
      clear hw0
      go_wp2_with fail
      refine (find_any H1.out T hT hlen).mono ?_
      rintro e w2 ⟨rfl, hw2⟩
      rw [hw2]
      clear hw2
      rw [show dk.tick.fs = dk.fs from rfl]
      have HPL : Hid (match pos dk.fs (toL T) with | some k => ∃ x, dk.fs[k]? = some x ∧ x.name = toL T ∧ look dk.fs (toL T) = some x | none => look dk.fs (toL T) = none) := Lib.hid pos_look
      have HSP : Hid (∀ k, pos dk.fs (toL T) = some k → ∀ f' : Fl, f'.name = toL T → dk.fs.set k f' = setF dk.fs f') := Lib.hid fun k hp f' hf => set_pos HO.out.ord hp hf
      obtain ⟨pv, hpv⟩ : ∃ pv, posV (pos dk.fs (toL T)) = pv := ⟨_, rfl⟩
      rw [hpv]
      have HPV := Lib.hid hpv
      have hlt1 := H1.out.lt
      have c0 := blk_cell H1.out.blk 0
      have c1 := blk_cell H1.out.blk 1
      simp only [rcell, List.getElem?_toArray, List.getElem?_cons_zero, List.getElem?_cons_succ] at c0 c1
      rw [show dk.tick.room = dk.room from rfl] at c0
      obtain ⟨A, c, hlv, hc, _⟩ := rf_get H1.out.row.view
      subst hlv
      rw [show dk.tick.fs = dk.fs from rfl] at c1 hc
      obtain ⟨m, hm⟩ : ∃ m, dk.fs.length = m := ⟨_, rfl⟩
      obtain ⟨bn, hbn⟩ : ∃ bn, bs.length = bn := ⟨_, rfl⟩
      have HM := Lib.hid hm; have HBN := Lib.hid hbn
      rw [hm] at c1 hc hlen hR
      rw [hbn] at hbl hR huc ⊢
      have HC0 := Lib.hid c0; have HC1 := Lib.hid c1
      clear hpv hm hbn c0
      go_wp2_with fail
      go_loopw [8, 9] (fun nv i wr => ∃ k : Nat, k ≤ m ∧ i = .int .i64 k ∧ nv = .int .i64 (usedN (dk.fs.take k) : Nat) ∧ wr = w1) (fun _ i _ => m - (intOf i).toNat)
      case atStart => exact ⟨0, Nat.zero_le _, rfl, rfl, rfl⟩
      case round =>
        obtain ⟨k, hk, rfl, rfl, hwr⟩ := hrel
        rw [hwr]
        have HWR := Lib.hid hwr
        clear hwr
        have hus : usedN (dk.fs.take k) ≤ 4194304 := Nat.le_trans (used_le _ _) HUS.out
        obtain ⟨u, hu⟩ : ∃ u, usedN (dk.fs.take k) = u := ⟨_, rfl⟩
        rw [hu] at hus ⊢
        have HU := Lib.hid hu
        clear hu
        have c1 := HC1.out
        by_cases hlt2 : k < m
        · obtain ⟨x, hx⟩ : ∃ x, dk.fs[k]? = some x := ⟨_, List.getElem?_eq_getElem (by rw [HM.out]; exact hlt2)⟩
          obtain ⟨g, c3, B, c', hlv, _, hgl, _, _, _, d1, _⟩ := rf_at H1.out k x hx
          obtain ⟨rfl, hlm, hlc⟩ := Value.slice.inj hlv
          have HUX : Hid (usedN (dk.fs.take (k + 1)) = u + x.b.length) := Lib.hid (by rw [used_take hx, HU.out])
          obtain ⟨L, hL⟩ : ∃ L, x.b.length = L := ⟨_, rfl⟩
          rw [hL] at d1 HUX
          have hLb : u + L ≤ 4194304 := by rw [← HUX.out]; exact Nat.le_trans (used_le _ _) HUS.out
          clear hlv hlm hlc hx hL
          go_wp2_with fail
          go_roundw
          case rel => exact ⟨k + 1, by omega, by go_num, by rw [HUX.out]; go_num, by first | trivial | rfl | exact HWR.out⟩
          case measure => simp [intOf]; omega
        · obtain rfl : m = k := by omega
          have HU2 : Hid (usedN dk.fs = u) := Lib.hid (by have := HU.out; rwa [← HM.out, List.take_length] at this)
          rw [HU2.out] at hR
          have c0 := HC0.out
          obtain ⟨rm, hrm⟩ : ∃ rm, dk.room = rm := ⟨_, rfl⟩
          rw [hrm] at hR c0 hroom
          obtain ⟨hr0, hr1⟩ := hroom
          have HV2 : Hid (View Rp.u8 w1 G bs (.slice UA bn uc)) := Lib.hid (by rw [← HBN.out]; exact HV1.out)
          have HKF := HK1
          have HTK : Hid (∀ f', RIn w1 F b { dk.tick with fs := f' } (.slice A m c) last → True) := Lib.hid fun _ _ => trivial
          clear hrm HU
          cases hpo : pos dk.fs (toL T) with
          | none =>
            have hpv := HPV.out
            rw [hpo] at hpv
            obtain rfl : pv = -1 := hpv.symm
            have hlk : look dk.fs (toL T) = none := by have := HPL.out; rw [hpo] at this; exact this
            have HLK := Lib.hid hlk
            rw [hlk] at hR
            clear hpv hlk hpo
            by_cases h64 : 64 ≤ m
            · rw [if_pos (by simp [h64])] at hR
              go_wp2_with fail
              go_ret
              exact hR _ _ ⟨rfl, HRR.out _ H1.out, HK1.out⟩
            by_cases hfull : (bn : Int) > rm - (u : Int)
            · rw [if_pos (by simp; right; omega)] at hR
              go_wp2_with fail
              go_ret
              exact hR _ _ ⟨rfl, HRR.out _ H1.out, HK1.out⟩
            rw [if_neg (by simp; exact ⟨by omega, by omega⟩)] at hR
            go_wp2_with (with_reducible (first | refine stop_append ?_))
            refine ⟨wp_clone Try.underlying28 info5 rfl (show 0 < 1 by decide) rfl rfl HV2.out (by rw [HBN.out]; unfold maxLen; omega) (by rw [HBN.out]; omega) ?_⟩
            rintro v1 w2 ho1 hb1 ⟨g1, c1', rfl, hc1, hg1⟩
            have HO1 : Hid (Own Rp.u8 5 w2 (w1.heap.size ≤ ·) bs (.slice (some ⟨g1, 0, none⟩) bs.length c1')) := Lib.hid (ho1.flat fun k hk => by simp [Value.ownBlock] at hk; omega)
            have HB1 := Lib.hid hb1
            have HR2 := Lib.hid (H1.out.below hb1)
            clear ho1 hb1
            go_wp2_with fail
            refine (rput_any HR2.out HO.out.ord (by rw [show dk.tick.fs = dk.fs from rfl, HM.out]; exact hlen) ⟨toL T, bs, 0⟩ HLK.out T rfl _ _ _ (w1.heap.size ≤ ·) HO1.out.view ?_ ?_).mono ?_
            · intro q hq e
              obtain ⟨_, _, h2, _⟩ := H1.out.row.bnd
              have := (h2 q e.symm).2; omega
            · show ¬ w1.heap.size ≤ b
              omega
            rintro e w3 ⟨rfl, h3, hk3⟩
            have H3 := Lib.hid h3; have HK3 := Lib.hid hk3; have HB3 := Lib.hid HB1.out.size
            clear h3 hk3
            go_wp2_with fail
            go_ret
            obtain ⟨lv3, last3, h3⟩ := H3.out
            have hs1 := HS1.out; have hb3 := HB3.out
            refine hR _ _ ⟨rfl, ⟨lv3, last3, h3.mono (fun j _ h => ?_) fun h => h.elim H.out.out fun h => by omega⟩, HK1.out.trans ((Keep.old HB1.out).trans HK3.out fun _ _ h => h) fun _ _ h => h⟩
            rcases h with h | h | h
            · exact .inl h
            · have h : w1.heap.size ≤ j := h
              exact .inr (by omega)
            · exact .inr (by omega)
          | some k =>
            have hpv := HPV.out
            rw [hpo] at hpv
            obtain rfl : pv = (k : Int) := hpv.symm
            obtain ⟨x, hx, hxn, hlk⟩ : ∃ x, dk.fs[k]? = some x ∧ x.name = toL T ∧ look dk.fs (toL T) = some x := by have := HPL.out; rw [hpo] at this; exact this
            have HSK : Hid (dk.fs.set k { x with b := x.b ++ bs } = setF dk.fs { x with b := x.b ++ bs }) := Lib.hid (HSP.out k hpo _ hxn)
            have hxu : x.b.length ≤ 4194304 := Nat.le_trans (used_mem (List.mem_of_getElem? hx)) HUS.out
            rw [hlk] at hR
            have hnn : ¬ (k : Int) < 0 := by omega
            by_cases hfull : (bn : Int) > rm - (u : Int)
            · rw [if_pos (by simp; omega)] at hR
              clear hlk hpo hpv hx hxn
              go_wp2_with fail
              go_ret
              exact hR _ _ ⟨rfl, HRR.out _ H1.out, HK1.out⟩
            rw [if_neg (by simp; omega)] at hR
            obtain ⟨g, c3, B, c', hlv, hgF, hgl, hkl, _, _, d1, _, hbc, hvx, hfz, _⟩ := rf_at H1.out k x hx
            obtain ⟨rfl, hlm, hlc⟩ := Value.slice.inj hlv
            obtain ⟨L, hL⟩ : ∃ L, x.b.length = L := ⟨_, rfl⟩
            have HL := Lib.hid hL
            rw [hL] at d1 hbc hvx hxu
            have hki : (k : Int) < (m : Int) := by have := HM.out; rw [show dk.tick.fs = dk.fs from rfl] at hkl; omega
            have HX := Lib.hid hx; have HVX := Lib.hid hvx; have HD1 := Lib.hid d1; have HGF := Lib.hid hgF
            have HF1 : Hid (w1.cell? ⟨b, 1, none⟩ = some (.slice (some ⟨g, 0, none⟩) m c)) := Lib.hid c1
            clear hlk hpo hpv hx hxn hlv hlm hlc hL hvx d1 hgF hfz hkl HRR HSP HPL
            go_upto_region 16 with fail
            clear c0 c1
            refine wp_region_any (by kernel_rfl) ?_
            refine region_ext1 [(fun vv _ => vv = .pointer (some ⟨b, 0, none⟩)), (fun vv _ => vv = .pointer (some ⟨b, 0, none⟩)), (fun vv _ => vv = .pointer (some ⟨b, 1, none⟩)), (fun vv _ => vv = .slice (some ⟨g, 0, none⟩) m c), (fun vv _ => vv = .int .i64 (k : Int)), (fun v w => ∃ q, v = .slice (some ⟨q, 0, none⟩) 0 0 ∧ w1.heap.size ≤ q ∧ w.heap[q]? = some (.cells #[] 5 (0, 0))), (fun vv _ => vv = .pointer (some ⟨b, 0, none⟩)), (fun vv _ => vv = .pointer (some ⟨b, 0, none⟩)), (fun vv _ => vv = .pointer (some ⟨b, 1, none⟩)), (fun vv _ => vv = .slice (some ⟨g, 0, none⟩) m c), (fun vv _ => vv = .int .i64 (k : Int)), (fun vv _ => vv = .pointer (some ⟨g, k * 3, none⟩)), (fun vv _ => vv = .pointer (some ⟨g, k * 3 + 1, none⟩)), (fun vv _ => vv = .slice B L c'), (fun v w => ∃ q cq, v = .slice (some ⟨q, 0, none⟩) L cq ∧ w1.heap.size ≤ q ∧ Own Rp.u8 5 w (fun j => w1.heap.size ≤ j) x.b v), (fun vv _ => vv = .slice UA bn uc), (fun v w => ∃ A' c4, v = .slice A' (L + bn) c4 ∧ Own Rp.u8 5 w (fun j => w1.heap.size ≤ j) (x.b ++ bs) v), (fun vv _ => vv = .pointer (some ⟨g, k * 3, none⟩)), (fun vv _ => vv = .pointer (some ⟨g, k * 3 + 1, none⟩))]
              [[], [(0, 67)], [(1, 68)], [(2, 69)], [], [], [], [(6, 73)], [(7, 74)], [(8, 75)], [], [(9, 76), (10, 77)], [(11, 78)], [(12, 79)], [(5, 72), (13, 80)], [], [(14, 81), (15, 82)], [(3, 70), (4, 71)], [(17, 84)], []]
              [none, none, none, none, none, none, none, none, none, none, none, none, none, none, none, none, none, none, none, none]
              [some 67, some 68, some 69, some 70, some 71, some 72, some 73, some 74, some 75, some 76, some 77, some 78, some 79, some 80, some 81, some 82, some 83, some 84, some 85] 19 16 [5, 14] (by kernel_rfl) (by kernel_rfl) (by kernel_rfl) rfl (by kernel_rfl) (by kernel_rfl) (by kernel_rfl) ?_ ?_ ?_ ?_
            · exact ⟨fun _ _ _ _ h => h, fun _ _ _ _ h => h, fun _ _ _ _ h => h, fun _ _ _ _ h => h, fun _ _ _ _ h => h, (fun _ _ _ hE ⟨q, h1, h2, h3⟩ => ⟨q, h1, h2, (Below.block hE q (blk_lt h3)).trans h3⟩), fun _ _ _ _ h => h, fun _ _ _ _ h => h, fun _ _ _ _ h => h, fun _ _ _ _ h => h, fun _ _ _ _ h => h, fun _ _ _ _ h => h, fun _ _ _ _ h => h, fun _ _ _ _ h => h, (fun _ _ _ hE ⟨q, cq, h1, h2, h3⟩ => ⟨q, cq, h1, h2, h3.below hE⟩), fun _ _ _ _ h => h, (fun _ _ _ hE ⟨A', c4, h1, h2⟩ => ⟨A', c4, h1, h2.below hE⟩), fun _ _ _ _ h => h, fun _ _ _ _ h => h, trivial⟩
            · exact ⟨.inr (.inr (fun _ _ _ _ h => h)), .inr (.inr (fun _ _ _ _ h => h)), .inr (.inr (fun _ _ _ _ h => h)), .inr (.inr (fun _ _ _ _ h => h)), .inr (.inr (fun _ _ _ _ h => h)), .inl rfl, .inr (.inr (fun _ _ _ _ h => h)), .inr (.inr (fun _ _ _ _ h => h)), .inr (.inr (fun _ _ _ _ h => h)), .inr (.inr (fun _ _ _ _ h => h)), .inr (.inr (fun _ _ _ _ h => h)), .inr (.inr (fun _ _ _ _ h => h)), .inr (.inr (fun _ _ _ _ h => h)), .inr (.inr (fun _ _ _ _ h => h)), .inl rfl, .inr (.inr (fun _ _ _ _ h => h)), .inr (.inl rfl), .inr (.inr (fun _ _ _ _ h => h)), .inr (.inr (fun _ _ _ _ h => h)), trivial⟩
            · refine ⟨fun ρ wx _ hx _ => gives_move (hx (.tmp 0) (by simp)), ?_, ?_, ?_, fun ρ wx _ hx _ => gives_move (hx (.tmp 7) (by simp)), ?_, fun ρ wx _ hx _ => gives_move (hx (.tmp 0) (by simp)), ?_, ?_, ?_, fun ρ wx _ hx _ => gives_move (hx (.tmp 7) (by simp)), ?_, ?_, ?_, ?_, fun ρ wx _ hx _ => gives_move (hx (.tmp 2) (by simp)), ?_, ?_, ?_, trivial⟩
              · intro ρ wx hE hx hd
                replace hE := TTB.ext hE
                have e67 : ρ (.tmp 67) = .pointer (some ⟨b, 0, none⟩) := hd.1
                exact gives_val (G := fun vv _ => vv = .pointer (some ⟨b, 0, none⟩)) (v := .pointer (some ⟨b, 0, none⟩)) (by simp [execOp, e67, go_sem]) rfl
              · intro ρ wx hE hx hd
                replace hE := TTB.ext hE
                have e68 : ρ (.tmp 68) = .pointer (some ⟨b, 0, none⟩) := hd.1
                exact gives_val (G := fun vv _ => vv = .pointer (some ⟨b, 1, none⟩)) (v := .pointer (some ⟨b, 1, none⟩)) (by simp [execOp, e68, go_sem]) rfl
              · intro ρ wx hE hx hd
                replace hE := TTB.ext hE
                have e69 : ρ (.tmp 69) = .pointer (some ⟨b, 1, none⟩) := hd.1
                have hcl := ext_cell hE HF1.out
                exact gives_val (G := fun vv _ => vv = .slice (some ⟨g, 0, none⟩) m c) (v := .slice (some ⟨g, 0, none⟩) m c) (by simp [execOp, e69, hcl, go_sem]) rfl
              · intro ρ wx hE hx hd
                replace hE := TTB.ext hE
                exact gives_new (G := fun v w => ∃ q, v = .slice (some ⟨q, 0, none⟩) 0 0 ∧ w1.heap.size ≤ q ∧ w.heap[q]? = some (.cells #[] 5 (0, 0))) (v := .slice (some ⟨wx.heap.size, 0, none⟩) 0 0) (w' := wx.alloc (.cells #[] 5)) (by simp [execOp, go_sem]) (below_new _ _) ⟨_, rfl, hE.size, blk_new _ _⟩
              · intro ρ wx hE hx hd
                replace hE := TTB.ext hE
                have e73 : ρ (.tmp 73) = .pointer (some ⟨b, 0, none⟩) := hd.1
                exact gives_val (G := fun vv _ => vv = .pointer (some ⟨b, 0, none⟩)) (v := .pointer (some ⟨b, 0, none⟩)) (by simp [execOp, e73, go_sem]) rfl
              · intro ρ wx hE hx hd
                replace hE := TTB.ext hE
                have e74 : ρ (.tmp 74) = .pointer (some ⟨b, 0, none⟩) := hd.1
                exact gives_val (G := fun vv _ => vv = .pointer (some ⟨b, 1, none⟩)) (v := .pointer (some ⟨b, 1, none⟩)) (by simp [execOp, e74, go_sem]) rfl
              · intro ρ wx hE hx hd
                replace hE := TTB.ext hE
                have e75 : ρ (.tmp 75) = .pointer (some ⟨b, 1, none⟩) := hd.1
                have hcl := ext_cell hE HF1.out
                exact gives_val (G := fun vv _ => vv = .slice (some ⟨g, 0, none⟩) m c) (v := .slice (some ⟨g, 0, none⟩) m c) (by simp [execOp, e75, hcl, go_sem]) rfl
              · intro ρ wx hE hx hd
                replace hE := TTB.ext hE
                have e76 : ρ (.tmp 76) = .slice (some ⟨g, 0, none⟩) m c := hd.1
                have e77 : ρ (.tmp 77) = .int .i64 (k : Int) := hd.2.1
                exact gives_val (G := fun vv _ => vv = .pointer (some ⟨g, k * 3, none⟩)) (v := .pointer (some ⟨g, k * 3, none⟩)) (by simp [execOp, e76, e77, go_sem, hki]) rfl
              · intro ρ wx hE hx hd
                replace hE := TTB.ext hE
                have e78 : ρ (.tmp 78) = .pointer (some ⟨g, k * 3, none⟩) := hd.1
                exact gives_val (G := fun vv _ => vv = .pointer (some ⟨g, k * 3 + 1, none⟩)) (v := .pointer (some ⟨g, k * 3 + 1, none⟩)) (by simp [execOp, e78, go_sem]) rfl
              · intro ρ wx hE hx hd
                replace hE := TTB.ext hE
                have e79 : ρ (.tmp 79) = .pointer (some ⟨g, k * 3 + 1, none⟩) := hd.1
                have hcl := ext_cell hE HD1.out
                exact gives_val (G := fun vv _ => vv = .slice B L c') (v := .slice B L c') (by simp [execOp, e79, hcl, go_sem]) rfl
              · intro ρ wx hE hx hd
                replace hE := TTB.ext hE
                have e72 := hd.1
                have e80 : ρ (.tmp 80) = .slice B L c' := hd.2.1
                obtain ⟨q, h1, h2, h3⟩ := e72; obtain ⟨v', w', hr, hx', ho', q', c4, hv', _, hq'⟩ := run_append_ext0 (P := Try.prog) (ty := 28) Try.underlying28 info5 rfl (by decide) h3 (HVX.out.bnd.below hE) (fun h => by omega) (by rw [HL.out]; unfold maxLen; omega) (by rw [HL.out]; omega); have hs := hE.size; exact gives_new (v := v') (w' := w') (exec_appendR (by simpa [h1, e80] using hr)) hx' ⟨q', c4, by rw [hv', HL.out], by rcases hq' with h | h <;> omega, ho'.flat fun j hj => by rw [hv'] at hj; simp [Value.ownBlock] at hj; rcases hq' with h | h <;> omega⟩
              · intro ρ wx hE hx hd
                replace hE := TTB.ext hE
                have e81 := hd.1
                have e82 : ρ (.tmp 82) = .slice UA bn uc := hd.2.1
                obtain ⟨q, cq, h1, h2, h3⟩ := e81; obtain ⟨v', w', hr, hlow, ho', hob⟩ := run_append_low (P := Try.prog) (ty := 28) (B := w1.heap.size) Try.underlying28 info5 rfl (by decide) h3 (fun j hj => by rw [h1] at hj; simp [Value.ownBlock] at hj; omega) hE.size (HV2.out.bnd.below hE) (fun j hj e => by rw [h1] at e; simp [Value.ownBlock] at e; omega) (by rw [HL.out, HBN.out]; unfold maxLen; omega) (by rw [HL.out, HBN.out]; omega); obtain ⟨A4, c4, hv4, _⟩ := ho'.slice; exact gives_low (v := v') (w' := w') (exec_appendR (by simpa [e82] using hr)) hlow ⟨A4, c4, by rw [hv4, List.length_append, HL.out, HBN.out], ho'.flat hob⟩
              · intro ρ wx hE hx hd
                replace hE := TTB.ext hE
                have e70 : ρ (.tmp 70) = .slice (some ⟨g, 0, none⟩) m c := hd.1
                have e71 : ρ (.tmp 71) = .int .i64 (k : Int) := hd.2.1
                exact gives_val (G := fun vv _ => vv = .pointer (some ⟨g, k * 3, none⟩)) (v := .pointer (some ⟨g, k * 3, none⟩)) (by simp [execOp, e70, e71, go_sem, hki]) rfl
              · intro ρ wx hE hx hd
                replace hE := TTB.ext hE
                have e84 : ρ (.tmp 84) = .pointer (some ⟨g, k * 3, none⟩) := hd.1
                exact gives_val (G := fun vv _ => vv = .pointer (some ⟨g, k * 3 + 1, none⟩)) (v := .pointer (some ⟨g, k * 3 + 1, none⟩)) (by simp [execOp, e84, go_sem]) rfl
            intro wx hE
            refine fun v67 (e67 : v67 = .pointer (some ⟨b, 0, none⟩)) => ?_
            refine fun v68 (e68 : v68 = .pointer (some ⟨b, 0, none⟩)) => ?_
            refine fun v69 (e69 : v69 = .pointer (some ⟨b, 1, none⟩)) => ?_
            refine fun v70 (e70 : v70 = .slice (some ⟨g, 0, none⟩) m c) => ?_
            refine fun v71 (e71 : v71 = .int .i64 (k : Int)) => ?_
            refine fun v72 _ => ?_
            refine fun v73 (e73 : v73 = .pointer (some ⟨b, 0, none⟩)) => ?_
            refine fun v74 (e74 : v74 = .pointer (some ⟨b, 0, none⟩)) => ?_
            refine fun v75 (e75 : v75 = .pointer (some ⟨b, 1, none⟩)) => ?_
            refine fun v76 (e76 : v76 = .slice (some ⟨g, 0, none⟩) m c) => ?_
            refine fun v77 (e77 : v77 = .int .i64 (k : Int)) => ?_
            refine fun v78 (e78 : v78 = .pointer (some ⟨g, k * 3, none⟩)) => ?_
            refine fun v79 (e79 : v79 = .pointer (some ⟨g, k * 3 + 1, none⟩)) => ?_
            refine fun v80 (e80 : v80 = .slice B L c') => ?_
            refine fun v81 _ => ?_
            refine fun v82 (e82 : v82 = .slice UA bn uc) => ?_
            refine fun v83 e83 => ?_
            refine fun v84 (e84 : v84 = .pointer (some ⟨g, k * 3, none⟩)) => ?_
            refine fun v85 (e85 : v85 = .pointer (some ⟨g, k * 3 + 1, none⟩)) => ?_
            subst e67 e68 e69 e70 e71 e73 e74 e75 e76 e77 e78 e79 e80 e82 e84 e85
            refine rest_nil ?_
            simp only [List.drop_succ_cons, List.drop_zero, Act.put, List.setIfInBounds_toArray, List.set_cons_zero, List.set_cons_succ]
            obtain ⟨A4, c4, rfl, ho83⟩ := e83
            have hs1 := HS1.out
            have HRX : Hid (RIn wx (fun j => F j ∨ w.heap.size ≤ j) b dk.tick (.slice (some ⟨g, 0, none⟩) dk.tick.fs.length c) last) := Lib.hid ((H1.out.below hE).mono (fun _ _ h => .inl h) fun h => h.elim H.out.out fun h => by omega)
            have HVT : Hid (View Rp.u8 wx (fun i => (F i ∨ w.heap.size ≤ i) ∧ i ≠ g) (x.b ++ bs) (.slice A4 (L + bn) c4)) := Lib.hid (ho83.view.mono fun i hi => ⟨.inr (by omega), by omega⟩)
            obtain ⟨hr3, hk3⟩ := rset_b HRX.out (.inl HGF.out) k x HX.out (x.b ++ bs) (.slice A4 (L + bn) c4) HVT.out
            rw [show dk.tick.fs = dk.fs from rfl, HSK.out] at hr3
            obtain ⟨w3, hw3⟩ : ∃ w3, wx.setCell ⟨g, k * 3 + 1, none⟩ (.slice A4 (L + bn) c4) = w3 := ⟨_, rfl⟩
            rw [hw3] at hr3 hk3
            have HR3 := Lib.hid hr3; have HW3 := Lib.hid hw3
            have hk13 : Keep (fun j => F j ∨ w.heap.size ≤ j) w1 w3 := (Keep.old hE).trans hk3 fun _ _ h => h
            have HK3 : Hid (Keep (fun j => F j ∨ j = b) w w3) := Lib.hid (HK1.out.trans hk13 fun i hi h => by
              rcases h with h | h
              · exact .inl h
              · omega)
            have d1 := ext_cell hE HD1.out
            have hgx : g < wx.heap.size := Nat.lt_of_lt_of_le hgl hE.size
            have hfx : wx.frozen? ⟨g, k * 3 + 1, none⟩ = false := by
              obtain ⟨g4, c4, B4, c4', hlv4, _, _, _, _, _, _, _, _, _, hfz4, _⟩ := rf_at HRX.out k x HX.out
              cases hlv4; exact hfz4 _
            clear hr3 hk3 hw3 ho83 hk13
            go_wp2_with fail
            go_ret
            rw [HW3.out]
            exact hR _ _ ⟨rfl, ⟨_, last, HR3.out⟩, HK3.out⟩
end
end Go.Proofs.Ytlfcbhagbdonhaa.Asc
