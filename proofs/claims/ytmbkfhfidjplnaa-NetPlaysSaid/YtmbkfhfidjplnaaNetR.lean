/-
  The law parapetlaw5.NetPlays answers true.
  Lengths within the row's own reach.
-/
import Derived.Test.YtmbkfhfidjplnaaNetQ
import Derived.Deep.RegionWith
namespace Go.Proofs.Ytmbkfhfidjplnaa.Nt
open Go Go.RowKit Go.Proofs.Ytmbkfhfidjplnaa.Pb

/-- a step: its kind, its packets, its number -/
abbrev Sp := Int × List Pk × Int
def stp : Rp Sp := Rp.pair Rp.int (Rp.pair (Rp.view pkt) Rp.int)
def okS (x : Sp) : Prop := (-9223372036854775808 ≤ x.1 ∧ x.1 ≤ 9223372036854775807) ∧ (x.2.1.length ≤ 100000000000000 ∧ ∀ y ∈ x.2.1, y.2.2.length ≤ 140737488351232) ∧ (-9223372036854775808 ≤ x.2.2 ∧ x.2.2 ≤ 9223372036854775807)

theorem steps_get {w : World} {G : Nat → Prop} {l : List Sp} {v : Value} (h : View stp w G l v) :
    ∃ A c, v = .slice A l.length c ∧ l.length ≤ c ∧ (∀ k, k < l.length → ∃ g off, A = some ⟨g, off, none⟩ ∧ g < w.heap.size ∧ ∀ x, l[k]? = some x → ∃ B c', View pkt w G x.2.1 (.slice B x.2.1.length c') ∧
      w.cell? ⟨g, off + k * 3, none⟩ = some (.int .i64 x.1) ∧ w.cell? ⟨g, off + k * 3 + 1, none⟩ = some (.slice B x.2.1.length c') ∧ w.cell? ⟨g, off + k * 3 + 2, none⟩ = some (.int .i64 x.2.2)) := by
  obtain ⟨A, c, rfl, hc, hA, h⟩ := h
  refine ⟨A, c, rfl, hc, fun k hk => ?_⟩
  rcases h with rfl | ⟨g, off, cells, rfl, hG, hlt, hat, hel⟩
  · simp at hk
  · refine ⟨g, off, rfl, hlt, fun x hx => ?_⟩
    obtain ⟨us, cs, bs, rfl, ha, hr, _, _⟩ := hel.get (fun _ _ h => stp.len h) k hk
    have hx' : l[k] = x := by rw [List.getElem?_eq_getElem hk] at hx; exact Option.some.inj hx
    rw [hx'] at hr
    obtain ⟨c1, c2, rfl, rfl, d1, d2, rfl, ⟨u, rfl, hu⟩, rfl⟩ := hr
    obtain ⟨B, c', rfl, hc'⟩ : ∃ B c', u = .slice B x.2.1.length c' ∧ x.2.1.length ≤ c' := by obtain ⟨B, c', e, h, _⟩ := hu; exact ⟨B, c', e, h⟩
    have hcell : ∀ j y, ([Value.int .i64 x.1] ++ ([Value.slice B x.2.1.length c'] ++ [Value.int .i64 x.2.2]))[j]? = some y → w.cell? ⟨g, off + k * 3 + j, none⟩ = some y := by
      intro j y hj
      have h3 : us.length = k * 3 := ha
      have hjl := (List.getElem?_eq_some_iff.1 hj).1
      rw [Nat.add_assoc]
      refine hat (k * 3 + j) y ?_
      rw [List.append_assoc, List.getElem?_append_right (by omega), h3, Nat.add_sub_cancel_left, List.getElem?_append_left hjl]; exact hj
    exact ⟨B, c', hu, hcell 0 _ rfl, hcell 1 _ rfl, hcell 2 _ rfl⟩

set_option maxRecDepth 20000 in
set_option maxHeartbeats 4000000 in
theorem plays_walk (l : List Sp) (v : Value) (F : Nat → Prop) (w : World) (hv : View stp w F l v) (hl : l.length ≤ 140737488351232) (hb : ∀ x ∈ l, okS x) :
    Calls Try.prog 6 #[v] w fun e w' => e = .returned (.bool true) ∧ Below w.heap.size w w' := by
  refine calls_gen fun R hR => ?_
  obtain ⟨A, c, rfl, hc, hget⟩ := steps_get hv.bnd
  have HG := Lib.hid hget; have HB := Lib.hid hb
  clear hget hv hb
  go_enter Try.func6, Try.ntmps6
  refine Or.elim (Classical.em (150 < l.length)) (fun c1 => ?_) (fun c1 => ?_)
  · go_wp2_with fail
    refine (awake_any w).mono ?_
    rintro e w1 ⟨rfl, hb1⟩
    go_wp2_with fail
    go_ret
    exact hR _ _ ⟨rfl, hb1⟩
  go_wp2_with fail
  refine (new_any w).mono ?_
  rintro e w1 ⟨rfl, hb1, hn1, hs1⟩
  have hb2 := below_new w1 (.cells #[.slice none 0 0] 48)
  have ht : Two (fun _ => False) w.heap.size w.heap.size w1.heap.size (w1.alloc (.cells #[.slice none 0 0] 48)) [] [] := by
    refine ⟨_, fun k => k = w1.heap.size, hn1.below hb2, ⟨_, blk_new w1 _, rfl, Own.nil _ _ _ _⟩, fun k hk => ⟨by omega, by simp; omega, by show ¬ k = w1.heap.size; omega, fun h => h⟩, fun k hk => ⟨by omega, by simp; omega, fun h => h⟩, by simp; omega, fun _ h => h.elim⟩
  have HT0 := Lib.hid ht; have HB0 := Lib.hid (hb1.trans (hb2.mono (by omega)))
  obtain ⟨bm, hbm⟩ : ∃ bm, w1.heap.size = bm := ⟨_, rfl⟩
  have HBM := Lib.hid hbm
  clear hb1 hb2 hn1 ht hs1 hbm
  go_wp2_with fail
  rw [HBM.out] at HT0 ⊢
  go_loopw [5, 6, 7, 8, 9, 10, 11, 12, 13, 14, 15, 16, 17] (fun i _ _ _ _ _ _ _ _ _ _ _ _ wr => ∃ (j : Nat) (ps : List Pk), j ≤ l.length ∧ i = .int .i64 j ∧ Below w.heap.size w wr ∧ Two (fun _ => False) w.heap.size w.heap.size bm wr ps ps ∧ small ps) (fun i _ _ _ _ _ _ _ _ _ _ _ _ _ => l.length - (intOf i).toNat)
  case atStart => exact ⟨0, [], Nat.zero_le _, rfl, HB0.out, HT0.out, by simp [small]⟩
  case round =>
    obtain ⟨j, ps, hj, rfl, hbr, htw, hsm⟩ := hrel
    clear HB0 HT0
    have hbs := hbr.size
    have HBR := Lib.hid hbr; have HTW := Lib.hid htw; have HSM := Lib.hid hsm
    clear hbr htw hsm
    by_cases hlt : j < l.length
    · obtain ⟨g, off, rfl, hg, hx⟩ := HG.out j hlt
      obtain ⟨x, he⟩ : ∃ x, l[j]? = some x := ⟨_, List.getElem?_eq_getElem hlt⟩
      obtain ⟨B, c', hvx, hc0, hc1, hc2⟩ := hx x he
      obtain ⟨hk1, ⟨hl1, hl2⟩, hk2⟩ := HB.out x (List.mem_of_getElem? he)
      have d0 := (HBR.out.cell (p := ⟨g, off + j * 3, none⟩) hg).trans hc0
      have d1 := (HBR.out.cell (p := ⟨g, off + j * 3 + 1, none⟩) hg).trans hc1
      have d2 := (HBR.out.cell (p := ⟨g, off + j * 3 + 2, none⟩) hg).trans hc2
      have hgr : g < wr.heap.size := by omega
      have HVX := Lib.hid hvx; have HL2 := Lib.hid hl2
      clear hx he hvx hc0 hc1 hc2 hl2
      refine Or.elim (Classical.em (100 < x.2.1.length)) (fun c2 => ?_) (fun c2 => ?_)
      · go_wp2_with fail
        refine (awake_any _).mono ?_
        rintro e w4 ⟨rfl, hb4⟩
        go_wp2_with fail
        go_ret
        exact hR _ _ ⟨rfl, HBR.out.trans (((below_new wr _).trans (hb4.mono (by simp))).mono hbs)⟩
      · have hsx : Hid (small x.2.1) := Lib.hid ⟨by omega, HL2.out⟩
        obtain ⟨K, X, N⟩ := x
        simp only at hk1 hl1 hk2 d0 d1 d2 c2
        go_upto_block 2 with fail
        obtain ⟨sb, hsb⟩ : ∃ sb, wr.heap.size = sb := ⟨_, rfl⟩
        have hbv := below_new wr (.cells #[.int .i64 K, .slice B X.length c', .int .i64 N] 50)
        have hvs : (wr.alloc (.cells #[.int .i64 K, .slice B X.length c', .int .i64 N] 50)).heap.size = wr.heap.size + 1 := by simp
        have g1 := blk_new wr (.cells #[.int .i64 K, .slice B X.length c', .int .i64 N] 50)
        have hbm0 := HTW.out.row
        have HTV : Hid (Two (fun k => k = sb) w.heap.size w.heap.size bm (wr.alloc (.cells #[.int .i64 K, .slice B X.length c', .int .i64 N] 50)) ps ps) := Lib.hid (((HTW.out.less (Y := fun _ => False) (fun _ h => h.elim)).more hbv).less fun k hk => .inr (by rw [hvs]; omega))
        have HBV := Lib.hid (HBR.out.trans (hbv.mono hbs))
        obtain ⟨wv, hwv⟩ : ∃ wv, wr.alloc (.cells #[.int .i64 K, .slice B X.length c', .int .i64 N] 50) = wv := ⟨_, rfl⟩
        rw [hwv] at hvs g1 HTV HBV ⊢
        rw [hsb] at g1 hvs hbs ⊢
        have hbmr : bm < sb := by obtain ⟨_, _, _, _, h, _⟩ := hbm0; omega
        have HVV : Hid (View pkt wv (fun k => F k ∧ k < w.heap.size) X (.slice B X.length c')) := Lib.hid (HVX.out.move fun k hk hl => HBV.out.block k hk.2)
        have v0 := blk_cell g1 0
        have v1 := blk_cell g1 1
        have v2 := blk_cell g1 2
        simp at v0 v1 v2
        have hsl := blk_lt g1
        have HVS := Lib.hid hvs
        clear hwv hbv hvs hbm0 hsb HBR HTW HVX d0 d1 d2 g1
        go_cut [7] (fun ok wx => ∃ ps', ok = .bool true ∧ Below w.heap.size w wx ∧ Two (fun _ => False) w.heap.size w.heap.size bm wx ps' ps' ∧ small ps')
        case first =>
          by_cases k1 : K = 1
          · have e1 : (K == 1) = true := by simpa using k1
            clear k1
            have HTD := Lib.hid (HTV.out.below ((Below.refl wv.heap.size wv).drewN 1))
            have HVD : Hid (View pkt (wv.drewN 1) (fun k => F k ∧ k < w.heap.size) X (.slice B X.length c')) := Lib.hid (HVV.out.move fun k _ _ => rfl)
            have HBD : Hid (Below w.heap.size w (wv.drewN 1)) := Lib.hid (HBV.out.drewN 1)
            go_wp2_with fail
            go_region_law (first
              | (refine step_call rfl 9 #[.pointer (some ⟨w.heap.size, 0, none⟩), .slice B X.length c'] (by simp [Act.eval, go_sem]) (HTD.out.nsend X _ _ HVD.out (fun k h => h.2) HSM.out hsx.out) ?_
                 rintro e w3 ⟨rfl, ha3⟩
                 refine ⟨_, rfl, ?_⟩
                 have v03 := (World.cell?_of_block (w := wv.drewN 1) (w' := w3) (a := ⟨sb, 0, none⟩) (ha3.apart sb rfl)).trans v0
                 have v13 := (World.cell?_of_block (w := wv.drewN 1) (w' := w3) (a := ⟨sb, 1, none⟩) (ha3.apart sb rfl)).trans v1
                 have v23 := (World.cell?_of_block (w := wv.drewN 1) (w' := w3) (a := ⟨sb, 2, none⟩) (ha3.apart sb rfl)).trans v2
                 have hsl3 : sb < w3.heap.size := Nat.lt_of_lt_of_le hsl ha3.size
                 have HA3 := Lib.hid ha3
                 clear ha3)
              | (refine step_call rfl 17 #[.pointer (some ⟨bm, 0, none⟩), .slice B X.length c'] (by simp [Act.eval, go_sem]) (HA3.out.two.msend X _ _ (HVD.out.move fun k hk _ => HA3.out.bel.block k hk.2) (fun k h => h.2) HSM.out hsx.out) ?_
                 rintro e w4 ⟨rfl, ha4⟩
                 refine ⟨_, rfl, ?_⟩
                 have HA4 := Lib.hid ha4
                 clear ha4))
            all_goals
              go_wp2_with fail
              go_meet
              exact ⟨sends ps X, by simp, (HBD.out.trans HA3.out.bel).trans HA4.out.bel, HA4.out.two.less (fun _ h => h.elim), small_sends HSM.out hsx.out⟩
          have e1 : (K == 1) = false := by simpa using k1
          clear k1
          by_cases k2 : K = 2
          · have e2 : (K == 2) = true := by simpa using k2
            clear k2
            go_wp2_with fail
            refine (HTV.out.ndeliver N HSM.out).mono ?_
            rintro e w3 ⟨u, ok, rfl, ⟨hok, u2, rfl, hu⟩, ha3, hbm3⟩
            obtain ⟨A', c2, rfl, hc2'⟩ := hu.slice
            obtain ⟨x, hx⟩ : ∃ x, (peek ps N).getD (0, 0, []) = x := ⟨_, rfl⟩
            rw [hx] at hu hc2' ⊢
            have v03 := (World.cell?_of_block (w := wv) (w' := w3) (a := ⟨sb, 0, none⟩) (ha3.apart sb rfl)).trans v0
            have v13 := (World.cell?_of_block (w := wv) (w' := w3) (a := ⟨sb, 1, none⟩) (ha3.apart sb rfl)).trans v1
            have v23 := (World.cell?_of_block (w := wv) (w' := w3) (a := ⟨sb, 2, none⟩) (ha3.apart sb rfl)).trans v2
            have hs3 := ha3.size
            have hsl3 : sb < w3.heap.size := Nat.lt_of_lt_of_le hsl hs3
            have hb4 := below_new w3 (.cells #[.int .i64 x.1, .int .i64 x.2.1, .slice A' x.2.2.length c2] 33)
            have HX := Lib.hid hx; have HOK := Lib.hid hok; have HU := Lib.hid (hu.below hb4); have HB4 := Lib.hid ((HBV.out.trans ha3.bel).trans (hb4.mono (by omega))); have HT4 := Lib.hid (ha3.two.below hb4)
            have G4 := Lib.hid (blk_new w3 (.cells #[.int .i64 x.1, .int .i64 x.2.1, .slice A' x.2.2.length c2] 33))
            have HXS : Hid (x.2.2.length ≤ 140737488351232) := Lib.hid (by
              rw [← hx]
              cases hp : peek ps N with
              | none => simp
              | some y =>
                refine HSM.out.2 y ?_
                unfold peek at hp; split at hp
                · cases hp
                · exact List.mem_of_getElem? hp)
            clear hx hok hu ha3 hb4
            unfold pv
            go_wp2_with fail
            refine (HT4.out.mdeliver N HSM.out).mono ?_
            rintro e w5 ⟨u, ok2, rfl, ⟨hok2, u2, rfl, hu5⟩, ha5, hk5⟩
            rw [HX.out] at hu5 ⊢
            obtain ⟨A5, c5, e5, hc5⟩ : ∃ A c, u2 = .slice A x.2.2.length c ∧ x.2.2.length ≤ c := by obtain ⟨A, c, e, h, _⟩ := hu5; exact ⟨A, c, e, h⟩
            subst e5
            obtain rfl : ok2 = ok := hok2.trans HOK.out.symm
            have g5 := hk5.blk G4.out (by show ¬ w3.heap.size = bm; omega)
            have a0 := blk_cell g5 0
            have a1 := blk_cell g5 1
            have a2 := blk_cell g5 2
            simp at a0 a1 a2
            have hs5 := ha5.size
            have hl5 := blk_lt g5
            have hb6 := below_new w5 (.cells #[.int .i64 x.1, .int .i64 x.2.1, .slice A5 x.2.2.length c5] 33)
            have HU5 := Lib.hid (hu5.below hb6); have HU6 := Lib.hid ((HU.out.keep hk5 (fun k h e => by have e' : k = bm := e; have h' : wv.heap.size ≤ k := h; have := HVS.out; omega)).below hb6).view
            have HB6 := Lib.hid ((HB4.out.trans ha5.bel).trans (hb6.mono (by have := HB4.out.size; omega))); have HT6 := Lib.hid (ha5.two.below hb6)
            have hs6 := (HB4.out.trans ha5.bel).size
            clear hu5 hok2 ha5 hk5 hb6 g5
            unfold pv
            go_wp2_with fail
            refine (alike_any x x _ _ _ _ _ HU6.out HU5.out HXS.out HXS.out).mono ?_
            rintro e w7 ⟨rfl, hb7⟩
            have HB7 := Lib.hid (HB6.out.trans (hb7.mono (by simp; omega))); have HT7 := Lib.hid (HT6.out.below hb7)
            clear hb7
            rw [decide_eq_true rfl]
            go_wp2_with fail
            go_meet
            exact ⟨gone ps N, by simp, HB7.out, HT7.out.less (fun _ h => h.elim), small_gone HSM.out N⟩
          have e2 : (K == 2) = false := by simpa using k2
          clear k2
          by_cases k3 : K = 3
          · have e3 : (K == 3) = true := by simpa using k3
            clear k3
            go_wp2_with fail
            refine (HTV.out.mdeliver N HSM.out).mono ?_
            rintro e w5 ⟨u, ok, rfl, ⟨hok, u2, rfl, hu5⟩, ha5, hk5⟩
            obtain ⟨x, hx⟩ : ∃ x, (peek ps N).getD (0, 0, []) = x := ⟨_, rfl⟩
            rw [hx] at hu5 ⊢
            obtain ⟨A5, c5, e5, hc5⟩ : ∃ A c, u2 = .slice A x.2.2.length c ∧ x.2.2.length ≤ c := by obtain ⟨A, c, e, h, _⟩ := hu5; exact ⟨A, c, e, h⟩
            subst e5
            have v03 := (World.cell?_of_block (w := wv) (w' := w5) (a := ⟨sb, 0, none⟩) (ha5.apart sb rfl)).trans v0
            have v13 := (World.cell?_of_block (w := wv) (w' := w5) (a := ⟨sb, 1, none⟩) (ha5.apart sb rfl)).trans v1
            have v23 := (World.cell?_of_block (w := wv) (w' := w5) (a := ⟨sb, 2, none⟩) (ha5.apart sb rfl)).trans v2
            have hs5 := ha5.size
            have hsl5 : sb < w5.heap.size := Nat.lt_of_lt_of_le hsl hs5
            have hb6 := below_new w5 (.cells #[.int .i64 x.1, .int .i64 x.2.1, .slice A5 x.2.2.length c5] 33)
            have HB6 := Lib.hid ((HBV.out.trans ha5.bel).trans (hb6.mono (by have := HBV.out.size; omega))); have HT6 := Lib.hid (ha5.two.below hb6)
            have HOK := Lib.hid hok
            clear hu5 hok ha5 hk5 hb6 hx
            unfold pv
            go_wp2_with fail
            refine (HT6.out.ndrop N HSM.out).mono ?_
            rintro e w7 ⟨rfl, ha7⟩
            rw [← HOK.out]
            have HB7 := Lib.hid (HB6.out.trans ha7.bel); have HT7 := Lib.hid ha7.two
            clear ha7
            go_wp2_with fail
            go_meet
            exact ⟨gone ps N, by simp, HB7.out, HT7.out.less (fun _ h => h.elim), small_gone HSM.out N⟩
          have e3 : (K == 3) = false := by simpa using k3
          clear k3
          by_cases k4 : K = 4
          · have e4 : (K == 4) = true := by simpa using k4
            clear k4
            have HTD := Lib.hid (HTV.out.below ((Below.refl wv.heap.size wv).drewN 1))
            have HBD : Hid (Below w.heap.size w (wv.drewN 1)) := Lib.hid (HBV.out.drewN 1)
            go_wp2_with fail
            go_region_law (first
              | (refine step_call rfl 14 #[.pointer (some ⟨w.heap.size, 0, none⟩), .int .i64 N] (by simp [Act.eval, go_sem]) (HTD.out.ntwice N HSM.out) ?_
                 rintro e w3 ⟨rfl, ha3⟩
                 refine ⟨_, rfl, ?_⟩
                 have v03 := (World.cell?_of_block (w := wv.drewN 1) (w' := w3) (a := ⟨sb, 0, none⟩) (ha3.apart sb rfl)).trans v0
                 have v13 := (World.cell?_of_block (w := wv.drewN 1) (w' := w3) (a := ⟨sb, 1, none⟩) (ha3.apart sb rfl)).trans v1
                 have v23 := (World.cell?_of_block (w := wv.drewN 1) (w' := w3) (a := ⟨sb, 2, none⟩) (ha3.apart sb rfl)).trans v2
                 have hsl3 : sb < w3.heap.size := Nat.lt_of_lt_of_le hsl ha3.size
                 have HA3 := Lib.hid ha3
                 clear ha3)
              | (refine step_call rfl 21 #[.pointer (some ⟨bm, 0, none⟩), .int .i64 N] (by simp [Act.eval, go_sem]) (HA3.out.two.mtwice N HSM.out) ?_
                 rintro e w4 ⟨rfl, ha4⟩
                 refine ⟨_, rfl, ?_⟩
                 have HA4 := Lib.hid ha4
                 clear ha4))
            all_goals
              go_wp2_with fail
              go_meet
              exact ⟨twice ps N, by simp, (HBD.out.trans HA3.out.bel).trans HA4.out.bel, HA4.out.two.less (fun _ h => h.elim), small_twice HSM.out N⟩
          have e4 : (K == 4) = false := by simpa using k4
          clear k4
          by_cases k5 : K = 5
          · have e5 : (K == 5) = true := by simpa using k5
            clear k5
            have HTD := Lib.hid (HTV.out.below ((Below.refl wv.heap.size wv).drewN 1))
            have HBD : Hid (Below w.heap.size w (wv.drewN 1)) := Lib.hid (HBV.out.drewN 1)
            go_wp2_with fail
            go_region_law (first
              | (refine step_call rfl 15 #[.pointer (some ⟨w.heap.size, 0, none⟩), .int .i64 N] (by simp [Act.eval, go_sem]) (HTD.out.nclear N HSM.out) ?_
                 rintro e w3 ⟨rfl, ha3⟩
                 refine ⟨_, rfl, ?_⟩
                 have v03 := (World.cell?_of_block (w := wv.drewN 1) (w' := w3) (a := ⟨sb, 0, none⟩) (ha3.apart sb rfl)).trans v0
                 have v13 := (World.cell?_of_block (w := wv.drewN 1) (w' := w3) (a := ⟨sb, 1, none⟩) (ha3.apart sb rfl)).trans v1
                 have v23 := (World.cell?_of_block (w := wv.drewN 1) (w' := w3) (a := ⟨sb, 2, none⟩) (ha3.apart sb rfl)).trans v2
                 have hsl3 : sb < w3.heap.size := Nat.lt_of_lt_of_le hsl ha3.size
                 have HA3 := Lib.hid ha3
                 clear ha3)
              | (refine step_call rfl 22 #[.pointer (some ⟨bm, 0, none⟩), .int .i64 N] (by simp [Act.eval, go_sem]) (HA3.out.two.mclear N HSM.out) ?_
                 rintro e w4 ⟨rfl, ha4⟩
                 refine ⟨_, rfl, ?_⟩
                 have HA4 := Lib.hid ha4
                 clear ha4))
            all_goals
              go_wp2_with fail
              go_meet
              exact ⟨clears ps N, by simp, (HBD.out.trans HA3.out.bel).trans HA4.out.bel, HA4.out.two.less (fun _ h => h.elim), small_clears HSM.out N⟩
          have e5 : (K == 5) = false := by simpa using k5
          clear k5
          by_cases k6 : K = 6
          · have e6 : (K == 6) = true := by simpa using k6
            clear k6
            go_wp2_with fail
            refine (HTV.out.npeek N HSM.out).mono ?_
            rintro e w3 ⟨u, ok, rfl, ⟨hok, u2, rfl, hu⟩, hb3, ht3⟩
            obtain ⟨A', c2, rfl, hc2'⟩ := hu.slice
            obtain ⟨x, hx⟩ : ∃ x, (peek ps N).getD (0, 0, []) = x := ⟨_, rfl⟩
            rw [hx] at hu hc2' ⊢
            have v03 := (hb3.cell (p := ⟨sb, 0, none⟩) hsl).trans v0
            have v13 := (hb3.cell (p := ⟨sb, 1, none⟩) hsl).trans v1
            have v23 := (hb3.cell (p := ⟨sb, 2, none⟩) hsl).trans v2
            have hs3 := hb3.size
            have hsl3 : sb < w3.heap.size := Nat.lt_of_lt_of_le hsl hs3
            have hb4 := below_new w3 (.cells #[.int .i64 x.1, .int .i64 x.2.1, .slice A' x.2.2.length c2] 33)
            have HX := Lib.hid hx; have HOK := Lib.hid hok; have HU := Lib.hid (hu.below hb4); have HB4 := Lib.hid ((HBV.out.trans (hb3.mono HBV.out.size)).trans (hb4.mono (by have := HBV.out.size; omega))); have HT4 := Lib.hid (ht3.below hb4)
            have G4 := Lib.hid (blk_new w3 (.cells #[.int .i64 x.1, .int .i64 x.2.1, .slice A' x.2.2.length c2] 33))
            have HXS : Hid (x.2.2.length ≤ 140737488351232) := Lib.hid (by
              rw [← hx]
              cases hp : peek ps N with
              | none => simp
              | some y =>
                refine HSM.out.2 y ?_
                unfold peek at hp; split at hp
                · cases hp
                · exact List.mem_of_getElem? hp)
            clear hx hok hu ht3 hb3 hb4
            unfold pv
            go_wp2_with fail
            refine (HT4.out.mpeek N).mono ?_
            rintro e w5 ⟨u, ok2, rfl, ⟨hok2, u2, rfl, hu5⟩, hb5, ht5⟩
            rw [HX.out] at hu5 ⊢
            obtain ⟨A5, c5, e5, hc5⟩ : ∃ A c, u2 = .slice A x.2.2.length c ∧ x.2.2.length ≤ c := by obtain ⟨A, c, e, h, _⟩ := hu5; exact ⟨A, c, e, h⟩
            subst e5
            obtain rfl : ok2 = ok := hok2.trans HOK.out.symm
            have g5 := (hb5.block w3.heap.size (by simp)).trans G4.out
            have a0 := blk_cell g5 0
            have a1 := blk_cell g5 1
            have a2 := blk_cell g5 2
            simp at a0 a1 a2
            have hs5 := hb5.size
            have hl5 := blk_lt g5
            have hb6 := below_new w5 (.cells #[.int .i64 x.1, .int .i64 x.2.1, .slice A5 x.2.2.length c5] 33)
            have HU5 := Lib.hid (hu5.below hb6); have HU6 := Lib.hid ((HU.out.below hb5).below hb6).view
            have HB6 := Lib.hid ((HB4.out.trans (hb5.mono HB4.out.size)).trans (hb6.mono (by have := HB4.out.size; omega))); have HT6 := Lib.hid (ht5.below hb6)
            have hs6 := HB4.out.size
            clear hu5 hok2 hb5 ht5 hb6 g5
            unfold pv
            go_wp2_with fail
            refine (alike_any x x _ _ _ _ _ HU6.out HU5.out HXS.out HXS.out).mono ?_
            rintro e w7 ⟨rfl, hb7⟩
            have HB7 := Lib.hid (HB6.out.trans (hb7.mono (by have := HB6.out.size; omega))); have HT7 := Lib.hid (HT6.out.below hb7)
            clear hb7
            rw [decide_eq_true rfl]
            go_wp2_with fail
            go_meet
            exact ⟨ps, by simp, HB7.out, HT7.out.less (fun _ h => h.elim), HSM.out⟩
          have e6 : (K == 6) = false := by simpa using k6
          clear k6
          go_wp2_with fail
          go_meet
          exact ⟨ps, rfl, HBV.out, HTV.out.less (fun _ h => h.elim), HSM.out⟩
        case rest =>
          obtain ⟨ps', rfl, hbc, htc, hsc⟩ := hcut
          obtain ⟨RA, rc, hr0, hrc, hbmc, -⟩ := htc.row
          have HBC := Lib.hid hbc; have HTC := Lib.hid htc; have HSC := Lib.hid hsc
          have HLEN : Hid (∀ n, Calls Try.prog 12 #[.pointer (some ⟨w.heap.size, 0, none⟩)] (wc.drewN n) fun e w' => e = .returned (.int .i64 ps'.length) ∧ w' = wc.drewN n) := Lib.hid fun n => ((htc.below ((Below.refl wc.heap.size wc).drewN n)).nlen).mono fun e w' h => ⟨h.1, h.2.symm⟩
          clear hbc htc hsc HTV HVV HBV v0 v1 v2
          go_wp2_with fail
          go_quiet ((go_at_call 12; exact Calls.quiet_of_same (HLEN.out _)))
          go_wp2_with fail
          go_roundw
          case rel => exact ⟨j + 1, ps', by omega, by go_num, HBC.out.drewN _, HTC.out.below ((Below.refl wc.heap.size wc).drewN _), HSC.out⟩
          case measure => simp [intOf]; omega
    · obtain rfl : j = l.length := by omega
      go_wp2_with fail
      obtain ⟨hs1, hs2⟩ := HSM.out
      go_loopw [18, 19, 20] (fun i _ _ wr => ∃ q : Nat, q ≤ ps.length ∧ i = .int .i64 q ∧ Below w.heap.size w wr ∧ Two (fun _ => False) w.heap.size w.heap.size bm wr ps ps) (fun i _ _ _ => ps.length - (intOf i).toNat)
      case atStart => exact ⟨0, Nat.zero_le _, rfl, HBR.out, HTW.out⟩
      case round =>
        obtain ⟨q, hq, rfl, hbq, htq⟩ := hrel
        clear HBR HTW
        have hbs := hbq.size
        obtain ⟨RA, rc, hr0, hrc, hbmc, hget⟩ := htq.row
        have HBQ := Lib.hid hbq; have HTQ := Lib.hid htq; have HGT := Lib.hid hget
        clear hbq htq hget
        by_cases hlq : q < ps.length
        · obtain ⟨g, rfl, hg, hx⟩ := HGT.out q hlq
          obtain ⟨x, he⟩ : ∃ x, ps[q]? = some x := ⟨_, List.getElem?_eq_getElem hlq⟩
          obtain ⟨B, c', hvx, hc0, hc1, hc2⟩ := hx x he
          have hxl := hs2 x (List.mem_of_getElem? he)
          have hpk : Hid (peek ps q = some x) := Lib.hid (by unfold peek; rw [if_neg (by omega)]; exact he)
          have HVX := Lib.hid hvx
          clear hx he hvx
          go_wp2_with fail
          refine (HTQ.out.npeek q HSM.out).mono ?_
          rintro e w3 ⟨u, ok, rfl, ⟨hok, u2, rfl, hu⟩, hb3, ht3⟩
          rw [hpk.out] at hok hu ⊢
          simp only [Option.getD_some, Option.isSome_some] at hok hu ⊢
          subst hok
          obtain ⟨A', c2, rfl, hc2'⟩ := hu.slice
          have hs3 := hb3.size
          have hb4 := below_new w3 (.cells #[.int .i64 x.1, .int .i64 x.2.1, .slice A' x.2.2.length c2] 33)
          have r03 := (hb3.cell (p := ⟨bm, 0, none⟩) hbmc).trans hr0
          have d03 := (hb3.cell (p := ⟨g, q * 3, none⟩) hg).trans hc0
          have d13 := (hb3.cell (p := ⟨g, q * 3 + 1, none⟩) hg).trans hc1
          have d23 := (hb3.cell (p := ⟨g, q * 3 + 2, none⟩) hg).trans hc2
          have hg3 : g < w3.heap.size := by omega
          have hbm3 : bm < w3.heap.size := by omega
          have HU := Lib.hid (hu.below hb4).view; have HV3 := Lib.hid ((HVX.out.below hb3).below hb4)
          have HB4 := Lib.hid ((HBQ.out.trans (hb3.mono hbs)).trans (hb4.mono (by omega))); have HT4 := Lib.hid (ht3.below hb4)
          clear hu hb3 hb4 ht3 hr0 hc0 hc1 hc2
          unfold pv
          go_wp2_with fail
          obtain ⟨w4, hw4⟩ : ∃ w4, w3.alloc (.cells #[.int .i64 x.1, .int .i64 x.2.1, .slice A' x.2.2.length c2] 33) = w4 := ⟨_, rfl⟩
          have g4 := blk_new w3 (.cells #[.int .i64 x.1, .int .i64 x.2.1, .slice A' x.2.2.length c2] 33)
          have hb4 := below_new w3 (.cells #[.int .i64 x.1, .int .i64 x.2.1, .slice A' x.2.2.length c2] 33)
          have r04 := (hb4.cell (p := ⟨bm, 0, none⟩) hbm3).trans r03
          have d04 := (hb4.cell (p := ⟨g, q * 3, none⟩) hg3).trans d03
          have d14 := (hb4.cell (p := ⟨g, q * 3 + 1, none⟩) hg3).trans d13
          have d24 := (hb4.cell (p := ⟨g, q * 3 + 2, none⟩) hg3).trans d23
          have hs4 := hb4.size
          have hl4 := blk_lt g4
          rw [hw4] at g4 r04 d04 d14 d24 hs4 hl4 HU HV3 HB4 HT4 ⊢
          have a0 := blk_cell g4 0
          have a1 := blk_cell g4 1
          have a2 := blk_cell g4 2
          simp at a0 a1 a2
          have hg4 : g < w4.heap.size := by omega
          have hbm4 : bm < w4.heap.size := by omega
          clear g4 hb4 r03 d03 d13 d23 hw4
          have hq0 : (0 : Int) ≤ (q : Int) := by omega
          have hq1 : (q : Int) < (ps.length : Int) := by omega
          have HAL : Hid (Calls Try.prog 19 #[pv x (.slice A' x.2.2.length c2), pv x (.slice B x.2.2.length c')] (w4.drewN 1) fun e w' => e = .returned (.bool true) ∧ Below w4.heap.size w4 w') := Lib.hid (by
            have hd : Below w4.heap.size w4 (w4.drewN 1) := (Below.refl _ _).drewN 1
            refine (alike_any x x _ _ _ _ _ (HU.out.below hd) (HV3.out.below hd) hxl hxl).mono ?_
            rintro e w5 ⟨rfl, hb5⟩
            exact ⟨by rw [decide_eq_true rfl], hd.trans hb5⟩)
          unfold pv at HAL
          go_region_law (first
            | (go_simp
               go_at_call 19
               refine HAL.out.mono ?_
               rintro e w5 ⟨rfl, hb5⟩
               have HB5 := Lib.hid hb5
               clear hb5))
          all_goals
            go_wp2_with fail
            go_roundw
            case rel => exact ⟨q + 1, by omega, by go_num, HB4.out.trans (HB5.out.mono (by have := HB4.out.size; omega)), HT4.out.below HB5.out⟩
            case measure => simp [intOf]; omega
        · obtain rfl : q = ps.length := by omega
          go_wp2_with fail
          refine (awake_any _).mono ?_
          rintro e w4 ⟨rfl, hb4⟩
          go_wp2_with fail
          go_ret
          exact hR _ _ ⟨rfl, HBQ.out.trans (hb4.mono hbs)⟩
theorem plays_row {w : World} (l : List Sp) (v : Value) (F : Nat → Prop) (hb : l.length * Try.prog.bytesOf 50 ≤ 140737488351232 ∧ ∀ x ∈ l, (-9223372036854775808 ≤ x.1 ∧ x.1 ≤ 9223372036854775807) ∧ (x.2.1.length * Try.prog.bytesOf 33 ≤ 140737488351232 ∧ ∀ y ∈ x.2.1, (-9223372036854775808 ≤ y.1 ∧ y.1 ≤ 9223372036854775807) ∧ (-9223372036854775808 ≤ y.2.1 ∧ y.2.1 ≤ 9223372036854775807) ∧ (y.2.2.length * Try.prog.bytesOf 5 ≤ 140737488351232 ∧ ∀ z ∈ y.2.2, True)) ∧ (-9223372036854775808 ≤ x.2.2 ∧ x.2.2 ≤ 9223372036854775807)) (hv : View stp w F l v) :
    Calls Try.prog 6 #[v] w fun e w' => e = .returned (.bool true) ∧ Below w.heap.size w w' := by
  have e1 : Try.prog.bytesOf 50 = 40 := by kernel_rfl
  have e2 : Try.prog.bytesOf 33 = 40 := by kernel_rfl
  have e3 : Try.prog.bytesOf 5 = 1 := by kernel_rfl
  rw [e1, e2, e3] at hb
  exact plays_walk l v F w hv (by have := hb.1; omega) fun x hx => ⟨(hb.2 x hx).1, ⟨by have := (hb.2 x hx).2.1.1; omega, fun y hy => by have := ((hb.2 x hx).2.1.2 y hy).2.2.1; omega⟩, (hb.2 x hx).2.2⟩
end Go.Proofs.Ytmbkfhfidjplnaa.Nt
