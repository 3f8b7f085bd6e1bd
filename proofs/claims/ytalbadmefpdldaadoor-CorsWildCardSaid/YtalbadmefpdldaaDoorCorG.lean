/-
  The law parapetlaw17.CorsMore answers true.
  Arguments within the rows' own reach; the library's MaxLen is a number.
-/
import Derived.Test.YtalbadmefpdldaaDoorCorF
import Derived.Test.YtalbadmefpdldaaDoorCorP
namespace Go.Proofs.YtalbadmefpdldaaDoor.Asc
open Go Go.RowKit Go.Proofs.YtalbadmefpdldaaDoor.Pb

theorem shareE (O : ByteArray) (mv hv : Value) (c : Bool) : (#[.string O, mv, hv, .bool c] : Array Value).toList = [.string O, mv, hv, .bool c] := rfl
set_option maxRecDepth 20000 in
set_option maxHeartbeats 8000000 in
theorem more_walk (O : ByteArray) (ms hs : List Tx) (mv hv : Value) (c : Bool) (F : Nat → Prop) (s : ByteArray) (l : List Fd) (v : Value) (G : Nat → Prop) (p q : ByteArray) (m : Int) (w : World) (hm : MaxLen m w)
    (h1 : View Rp.str w F ms mv) (h2 : View Rp.str w F hs hv) (hlv : View fld w G l v) (hok : shOk (toL O, ms, hs, c)) (hsz : s.size ≤ 140737488351232) (hl : l.length ≤ 140737488351232) (hx : ∀ x ∈ l, x.1.length ≤ 140737488351232 ∧ x.2.length ≤ 140737488351232)
    (hps : p.size ≤ 140737488351232) (hqs : q.size ≤ 140737488351232) :
    Calls Tryd.prog 5 #[.agg #[.string O, mv, hv, .bool c], .string s, v, .string p, .string q] w fun e w' => e = .returned (.bool true) ∧ Below w.heap.size w w' := by
  refine calls_gen fun R hR => ?_
  have HM := Lib.hid hm; have H1 := Lib.hid h1; have H2 := Lib.hid h2; have HV := Lib.hid hlv; have HX := Lib.hid hx; have HOK := Lib.hid hok
  have hh1 := h1; have hh2 := h2
  clear hm h1 h2 hlv hx hok
  obtain ⟨MA, mc, rfl, -, -, -⟩ := hh1
  obtain ⟨HA, hc, rfl, -, -, -⟩ := hh2
  go_enter Tryd.func5, Tryd.ntmps5
  have g1 := blk_new w (.cells #[.string O, .slice MA ms.length mc, .slice HA hs.length hc, .bool c] 24)
  have hb1 := below_new w (.cells #[.string O, .slice MA ms.length mc, .slice HA hs.length hc, .bool c] 24)
  obtain ⟨w1, hw1⟩ : ∃ w1, w.alloc (.cells #[.string O, .slice MA ms.length mc, .slice HA hs.length hc, .bool c] 24) = w1 := ⟨_, rfl⟩
  have d0 := blk_cell g1 0
  have d1 := blk_cell g1 1
  have d2 := blk_cell g1 2
  have d3 := blk_cell g1 3
  rw [hw1] at g1 hb1 d0 d1 d2 d3
  simp at d0 d1 d2 d3
  have hl1 := blk_lt g1
  have HB1 := Lib.hid hb1
  obtain ⟨sb, hsb⟩ : ∃ sb, w.heap.size = sb := ⟨_, rfl⟩
  rw [hsb] at d0 d1 d2 d3 hl1
  have HD0 := Lib.hid d0; have HD1 := Lib.hid d1; have HD2 := Lib.hid d2; have HD3 := Lib.hid d3
  have HSB := Lib.hid hsb; have HW1 := Lib.hid hw1
  have hws1 : w1.heap.size = sb + 1 := by rw [← hw1, ← hsb]; simp
  have HLS : Hid (View shr (w1.alloc (.cells #[.string O, .slice MA ms.length mc, .slice HA hs.length hc, .bool c] 24)) (fun _ => True) [(toL O, ms, hs, c)] (.slice (some ⟨w1.heap.size, 0, none⟩) 1 1)) := Lib.hid (by
    have hr := rep_share O ms hs (.slice MA ms.length mc) (.slice HA hs.length hc) c (H1.out.below HB1.out) (H2.out.below HB1.out)
    exact ((Own.lit (d := shr) (e := 24) w1 (xs := [(toL O, ms, hs, c)]) (Elems.one hr) rfl (by simp [maxLen])).view).mono fun _ _ => trivial)
  clear hsb hw1 g1 hb1 d0 d1 d2 d3
  rw [hws1] at HLS
  have HBN := Lib.hid (below_new w1 (.cells #[.string O, .slice MA ms.length mc, .slice HA hs.length hc, .bool c] 24))
  clear hws1
  go_wp2_with fail
  rw [HW1.out, HSB.out]
  have HE2 : Hid (Ext w1 (w1.alloc (.cells #[.string O, .slice MA ms.length mc, .slice HA hs.length hc, .bool c] 24))) := Lib.hid HBN.out
  refine (small_any [(toL O, ms, hs, c)] _ _ _ HLS.out (by simp) (fun x hx => by simp at hx; subst hx; exact HOK.out)).mono ?_
  rintro e w2 ⟨b, rfl, hbt, hb2⟩
  have HE3 := Lib.hid (Ext.trans HE2.out hb2)
  have HBT := Lib.hid hbt
  clear HE2 HBN HLS hb2 hbt
  cases b with
  | false =>
    go_wp2_with fail
    refine (awake_any m w2 ((HM.out.below HB1.out).below HE3.out)).mono ?_
    rintro e w3 ⟨rfl, hb3⟩
    go_wp2_with fail
    go_ret
    exact hR _ _ ⟨rfl, Ext.then HB1.out (Ext.trans HE3.out hb3) (Nat.le_refl _)⟩
  | true =>
    obtain ⟨_, hsm⟩ := HBT.out rfl
    obtain ⟨_, hsm2, hsm3⟩ := hsm _ (List.mem_singleton.2 rfl)
    simp only at hsm2 hsm3
    have HML : Hid (ms.length ≤ 2000) := Lib.hid (by have := total_len ms; omega)
    have HHL : Hid (hs.length ≤ 2000) := Lib.hid (by have := total_len hs; omega)
    have HHX : Hid (∀ x ∈ hs, x.length ≤ 1000000) := Lib.hid fun x hx => by have := total_mem hs x hx; omega
    clear HBT hsm hsm2 hsm3
    by_cases hs2 : 2000 < s.size + p.size + q.size
    · go_wp2_with fail
      refine (awake_any m w2 ((HM.out.below HB1.out).below HE3.out)).mono ?_
      rintro e w3 ⟨rfl, hb3⟩
      go_wp2_with fail
      go_ret
      exact hR _ _ ⟨rfl, Ext.then HB1.out (Ext.trans HE3.out hb3) (Nat.le_refl _)⟩
    · go_wp2_with fail
      refine (fields_any l v G w2 ((HV.out.below HB1.out).below HE3.out) hl HX.out).mono ?_
      rintro e w3 ⟨rfl, hb3⟩
      have HE4 := Lib.hid (Ext.trans HE3.out hb3)
      clear hb3
      cases hd : decide (fsize l ≤ 6000) with
      | false =>
        clear hd
        go_wp2_with fail
        refine (awake_any m w3 ((HM.out.below HB1.out).below HE4.out)).mono ?_
        rintro e w4 ⟨rfl, hb4⟩
        go_wp2_with fail
        go_ret
        exact hR _ _ ⟨rfl, Ext.then HB1.out (Ext.trans HE4.out hb4) (Nat.le_refl _)⟩
      | true =>
        obtain ⟨h6, h6x⟩ := fsize_mem l (of_decide_eq_true hd)
        have HX6 : Hid (∀ x ∈ l, x.1.length ≤ 1000000 ∧ x.2.length ≤ 1000000) := Lib.hid fun x hx => by have := h6x x hx; omega
        have HL6 : Hid (l.length ≤ 100000) := Lib.hid (by omega)
        have HS : Hid (s.size ≤ 1000000) := Lib.hid (by omega)
        have HQ : Hid (q.size ≤ 2000) := Lib.hid (by omega)
        clear hd h6x HE3 hs2 hsz hps hqs hl h6
        have hlw3 := Nat.lt_of_lt_of_le hl1 HE4.out.size
        have HB4 := Lib.hid (Ext.then HB1.out HE4.out (Nat.le_refl _))
        have k0 := ext_cell HE4.out HD0.out
        have k1 := ext_cell HE4.out HD1.out
        have k2 := ext_cell HE4.out HD2.out
        have k3 := ext_cell HE4.out HD3.out
        go_wp2_with (with_reducible (first | refine stop_append ?_))
        obtain ⟨pb, hpb⟩ : ∃ pb, w3.heap.size = pb := ⟨_, rfl⟩
        obtain ⟨w4, hw4⟩ : ∃ w4, w3.alloc (.cells #[.string O, .slice MA ms.length mc, .slice HA hs.length hc, .bool c] 24) = w4 := ⟨_, rfl⟩
        have g4 := blk_new w3 (.cells #[.string O, .slice MA ms.length mc, .slice HA hs.length hc, .bool c] 24)
        have hb4 := below_new w3 (.cells #[.string O, .slice MA ms.length mc, .slice HA hs.length hc, .bool c] 24)
        have hs4 : w4.heap.size = pb + 1 := by rw [← hw4, ← hpb]; simp
        rw [hw4] at g4 hb4 ⊢
        rw [hpb] at g4 ⊢
        have HPB := Lib.hid hpb
        have HE34 : Hid (Ext w3 w4) := Lib.hid hb4
        have HG4 := Lib.hid g4
        have HS4 := Lib.hid hs4
        rw [← hs4]
        clear hw4 hpb g4 hb4 hs4 k0 k1 k2 k3 hlw3
        have HMV4 : Hid (View Rp.str w4 F ms (.slice MA ms.length mc)) := Lib.hid ((H1.out.below HB4.out).below HE34.out)
        refine ⟨wp_clone (r := Rp.str) Tryd.underlying22 infoS rfl (show 0 < 1 by decide) rfl rfl HMV4.out (by unfold maxLen; have := HML.out; omega) (by have := HML.out; omega) ?_⟩
        rintro v5 w5 ho5 hb5 ⟨g5, c5, rfl, hc5, hg5⟩
        have HO5 : Hid (Own Rp.str 9 w5 (fun k => w4.heap.size ≤ k) ms (.slice (some ⟨g5, 0, none⟩) ms.length c5)) := Lib.hid (ho5.flat fun k hk => by simp [Value.ownBlock] at hk; omega)
        have HE45 : Hid (Ext w4 w5) := Lib.hid hb5
        have HG5 : Hid (w5.heap[pb]? = _) := Lib.hid ((hb5.block pb (by rw [HS4.out]; exact Nat.lt_succ_self _)).trans HG4.out)
        have hs45 := hb5.size
        clear ho5 hb5 HMV4
        go_wp2_with (with_reducible (first | refine stop_append ?_))
        refine ⟨wp_append1 (r := Rp.str) (F := fun k => w4.heap.size ≤ k) (G := fun _ => False) (y := toL p) Tryd.underlying22 infoS rfl (show 0 < 1 by decide) HO5.out rfl rfl (by show [Value.string p] = [Value.string (ofL (toL p))]; rw [ofL_toL]) (fun k h => h.elim) (by have := HML.out; omega) (by decide) ?_⟩
        intro v6 w6 ho6 hk6 _ _
        have HO6 : Hid (Own Rp.str 9 w6 (fun k => w4.heap.size ≤ k) (ms ++ [toL p]) v6) := Lib.hid (ho6.mono fun k hk => by
          rcases hk with h | h | h
          · exact h
          · exact h.elim
          · exact Nat.le_trans hs45 h)
        have HG6 : Hid (w6.heap[pb]? = _) := Lib.hid (hk6.blk HG5.out fun e => by simp [Value.ownBlock] at e; have := HS4.out; omega)
        have HE36 : Hid (Ext w3 w6) := Lib.hid (Below.trans (Ext.trans HE34.out HE45.out) (hk6.below (B := w3.heap.size) (Nat.le_trans HE34.out.size hs45) fun i hi e => by simp [Value.ownBlock] at e; have := HPB.out; have := HS4.out; omega))
        obtain ⟨A6, c6, rfl, hc6⟩ := HO6.out.slice
        have hf6 := blk_free HG6.out 1
        have hx6 := blk_cell HG6.out 1
        simp at hx6
        have hp6 := blk_lt HG6.out
        have hlen6 : (ms ++ [toL p]).length = ms.length + 1 := by simp
        rw [hlen6] at hc6 ⊢
        have HO6' := HO6
        rw [hlen6] at HO6'
        clear ho6 hk6 HO6 HG5 HO5 HE45 hlen6
        have e2 := ext_cell (Ext.trans HE4.out HE36.out) HD2.out
        have hne1 : sb ≠ pb := by have := HPB.out; have := Nat.lt_of_lt_of_le hl1 HE4.out.size; omega
        have hne2 : pb ≠ sb := fun e => hne1 e.symm
        have hsb6 : sb < w6.heap.size := Nat.lt_of_lt_of_le (Nat.lt_of_lt_of_le hl1 HE4.out.size) HE36.out.size
        go_wp2_with (with_reducible (first | refine stop_append ?_))
        obtain ⟨w7, hw7⟩ : ∃ w7, w6.setCell ⟨pb, 1, none⟩ (.slice A6 (ms.length + 1) c6) = w7 := ⟨_, rfl⟩
        have g7 := blk_set HG6.out 1 (.slice A6 (ms.length + 1) c6)
        have hk7 : Keep (fun k => k = pb) w6 (w6.setCell ⟨pb, 1, none⟩ (.slice A6 (ms.length + 1) c6)) := (Keep.refl (fun k => k = pb) w6).set (p := ⟨pb, 1, none⟩) rfl _
        simp at g7
        have hs7 : w7.heap.size = w6.heap.size := by rw [← hw7, size_setCell]
        rw [hw7] at g7 hk7 ⊢
        have HG7 := Lib.hid g7
        have HE37 : Hid (Ext w3 w7) := Lib.hid (Below.trans HE36.out (hk7.below (B := w3.heap.size) HE36.out.size fun i hi e => by have := HPB.out; omega))
        have HO7 : Hid (Own Rp.str 9 w7 (fun k => w4.heap.size ≤ k) (ms ++ [toL p]) (.slice A6 (ms.length + 1) c6)) := Lib.hid (HO6'.out.keep hk7 fun k hk e => by have := HS4.out; omega)
        rw [← hs7]
        clear hw7 g7 hk7 hf6 hx6 hp6 e2 hsb6 HO6' HG6 HE36
        have hs47 : w4.heap.size ≤ w7.heap.size := by have := HS4.out; have := blk_lt HG7.out; omega
        clear hs7 hs45
        have HHV7 : Hid (View Rp.str w7 F hs (.slice HA hs.length hc)) := Lib.hid ((H2.out.below HB4.out).below HE37.out)
        refine ⟨wp_clone (r := Rp.str) Tryd.underlying22 infoS rfl (show 0 < 1 by decide) rfl rfl HHV7.out (by unfold maxLen; have := HHL.out; omega) (by have := HHL.out; omega) ?_⟩
        rintro v8 w8 ho8 hb8 ⟨g8, c8, rfl, hc8, hg8⟩
        have HO8 : Hid (Own Rp.str 9 w8 (fun k => w7.heap.size ≤ k) hs (.slice (some ⟨g8, 0, none⟩) hs.length c8)) := Lib.hid (ho8.flat fun k hk => by simp [Value.ownBlock] at hk; omega)
        have HP8 : Hid (Own Rp.str 9 w8 (fun k => w4.heap.size ≤ k ∧ k < w7.heap.size) (ms ++ [toL p]) (.slice A6 (ms.length + 1) c6)) := Lib.hid (HO7.out.bnd.below hb8)
        have HE38 : Hid (Ext w3 w8) := Lib.hid (Ext.trans HE37.out hb8)
        have HG8 : Hid (w8.heap[pb]? = _) := Lib.hid ((hb8.block pb (blk_lt HG7.out)).trans HG7.out)
        have hs78 := hb8.size
        clear ho8 hb8 HHV7
        go_wp2_with (with_reducible (first | refine stop_append ?_))
        refine ⟨wp_append1 (r := Rp.str) (F := fun k => w7.heap.size ≤ k) (G := fun _ => False) (y := toL q) Tryd.underlying22 infoS rfl (show 0 < 1 by decide) HO8.out rfl rfl (by show [Value.string q] = [Value.string (ofL (toL q))]; rw [ofL_toL]) (fun k h => h.elim) (by have := HHL.out; omega) (by decide) ?_⟩
        intro v9 w9 ho9 hk9 _ _
        have HO9 : Hid (Own Rp.str 9 w9 (fun k => w7.heap.size ≤ k) (hs ++ [toL q]) v9) := Lib.hid (ho9.mono fun k hk => by
          rcases hk with h | h | h
          · exact h
          · exact h.elim
          · exact Nat.le_trans hs78 h)
        have HP9 : Hid (Own Rp.str 9 w9 (fun k => w4.heap.size ≤ k ∧ k < w7.heap.size) (ms ++ [toL p]) (.slice A6 (ms.length + 1) c6)) := Lib.hid (HP8.out.keep hk9 fun k hk e => by simp [Value.ownBlock] at e; omega)
        have HG9 : Hid (w9.heap[pb]? = _) := Lib.hid (hk9.blk HG8.out fun e => by simp [Value.ownBlock] at e; have := HS4.out; omega)
        have HE39 : Hid (Ext w3 w9) := Lib.hid (Below.trans HE38.out (hk9.below (B := w3.heap.size) HE38.out.size fun i hi e => by simp [Value.ownBlock] at e; have := HE37.out.size; omega))
        obtain ⟨A9, c9, rfl, hc9⟩ := HO9.out.slice
        have hf9 := blk_free HG9.out 2
        have hx9 := blk_cell HG9.out 2
        simp at hx9
        have hp9 := blk_lt HG9.out
        have hlen9 : (hs ++ [toL q]).length = hs.length + 1 := by simp
        rw [hlen9] at hc9 ⊢
        have HO9' := HO9
        rw [hlen9] at HO9'
        clear ho9 hk9 HO9 HG8 HO8 hlen9 HP8
        -- behind both: a world, its facts
        obtain ⟨wt, hwt⟩ : ∃ wt, w9.setCell ⟨pb, 2, none⟩ (.slice A9 (hs.length + 1) c9) = wt := ⟨_, rfl⟩
        have gt := blk_set HG9.out 2 (.slice A9 (hs.length + 1) c9)
        have hkt : Keep (fun k => k = pb) w9 (w9.setCell ⟨pb, 2, none⟩ (.slice A9 (hs.length + 1) c9)) := (Keep.refl (fun k => k = pb) w9).set (p := ⟨pb, 2, none⟩) rfl _
        simp at gt
        rw [hwt] at gt hkt
        have HGT := Lib.hid gt
        have HWT := Lib.hid hwt
        have HET : Hid (Ext w3 wt) := Lib.hid (Below.trans HE39.out (hkt.below (B := w3.heap.size) HE39.out.size fun i hi e => by have := HPB.out; omega))
        have HMT : Hid (View Rp.str wt (fun _ => True) (ms ++ [toL p]) (.slice A6 (ms.length + 1) c6)) := Lib.hid ((HP9.out.keep hkt fun k hk e => by have := HS4.out; omega).view.mono fun _ _ => trivial)
        have HHT : Hid (View Rp.str wt (fun _ => True) (hs ++ [toL q]) (.slice A9 (hs.length + 1) c9)) := Lib.hid ((HO9'.out.keep hkt fun k hk e => by have := HS4.out; omega).view.mono fun _ _ => trivial)
        have HBT : Hid (Below w.heap.size w wt) := Lib.hid (Ext.then HB4.out HET.out (Nat.le_refl _))
        have e0 := ext_cell (Ext.trans HE4.out HE39.out) HD0.out
        have e1 := ext_cell (Ext.trans HE4.out HE39.out) HD1.out
        have e2 := ext_cell (Ext.trans HE4.out HE39.out) HD2.out
        have e3 := ext_cell (Ext.trans HE4.out HE39.out) HD3.out
        have hsb9 : sb < w9.heap.size := Nat.lt_of_lt_of_le (Nat.lt_of_lt_of_le hl1 HE4.out.size) HE39.out.size
        clear hwt gt hkt HG9 HP9 HO9' HO7 HE37 HE38 HG7
        -- what the calls come to
        have HVW : Hid (∀ wy, Ext wt wy → MaxLen m wy ∧ View Rp.str wy F ms (.slice MA ms.length mc) ∧ View Rp.str wy F hs (.slice HA hs.length hc) ∧ View fld wy G l v ∧ View Rp.str wy (fun _ => True) (ms ++ [toL p]) (.slice A6 (ms.length + 1) c6) ∧ View Rp.str wy (fun _ => True) (hs ++ [toL q]) (.slice A9 (hs.length + 1) c9)) := Lib.hid fun wy hy => by
          have hb := Ext.then HBT.out hy (Nat.le_refl _)
          exact ⟨HM.out.below hb, H1.out.below hb, H2.out.below hb, HV.out.below hb, HMT.out.below hy, HHT.out.below hy⟩
        have HC : Hid (∀ wy, Ext wt wy → sb < wy.heap.size ∧ pb < wy.heap.size ∧ wy.cell? ⟨sb, 0, none⟩ = some (.string O) ∧ wy.cell? ⟨sb, 1, none⟩ = some (.slice MA ms.length mc) ∧ wy.cell? ⟨sb, 2, none⟩ = some (.slice HA hs.length hc) ∧ wy.cell? ⟨sb, 3, none⟩ = some (.bool c) ∧
            wy.cell? ⟨pb, 0, none⟩ = some (.string O) ∧ wy.cell? ⟨pb, 1, none⟩ = some (.slice A6 (ms.length + 1) c6) ∧ wy.cell? ⟨pb, 2, none⟩ = some (.slice A9 (hs.length + 1) c9) ∧ wy.cell? ⟨pb, 3, none⟩ = some (.bool c)) := Lib.hid fun wy hy => by
          have he := Ext.trans (Ext.trans HE4.out HET.out) hy
          have c0 := blk_cell HGT.out 0
          have c1 := blk_cell HGT.out 1
          have c2 := blk_cell HGT.out 2
          have c3 := blk_cell HGT.out 3
          simp at c0 c1 c2 c3
          exact ⟨Nat.lt_of_lt_of_le hl1 he.size, Nat.lt_of_lt_of_le (blk_lt HGT.out) hy.size, ext_cell he HD0.out, ext_cell he HD1.out, ext_cell he HD2.out, ext_cell he HD3.out, ext_cell hy c0, ext_cell hy c1, ext_cell hy c2, ext_cell hy c3⟩
        have HX7 : Hid (∀ x ∈ hs ++ [toL q], x.length ≤ 1000000) := Lib.hid fun x hx => by
          rcases List.mem_append.1 hx with h | h
          · exact HHX.out x h
          · simp at h; rw [h, toL_len]; have := HQ.out; omega
        have HN : Hid (ms.length ≤ 1000000 ∧ hs.length ≤ 1000000 ∧ (ms ++ [toL p]).length ≤ 1000000 ∧ (hs ++ [toL q]).length ≤ 1000000) := Lib.hid (by have := HML.out; have := HHL.out; simp; omega)
        have HMO : Hid (∀ cr, allowsN (toL O) ms hs c (toL s) l cr = true → allowsN (toL O) (ms ++ [toL p]) (hs ++ [toL q]) c (toL s) l cr = true) := Lib.hid fun cr h => allows_more _ _ _ _ _ _ _ _ cr h
        have HS1 : Hid (∀ (cr : Bool) (wy : World), Ext wt wy → Calls Tryd.prog 13 #[.agg #[.string O, .slice MA ms.length mc, .slice HA hs.length hc, .bool c], .string s, v, .bool cr] wy fun e w' => e = .returned (.bool (allowsN (toL O) ms hs c (toL s) l cr)) ∧ Below wy.heap.size wy w') := Lib.hid fun cr wy hy => by
          obtain ⟨u0, u1, u2, u3, _, _⟩ := HVW.out wy hy
          exact allows_any O ms hs _ _ c F s l v G cr m wy u0 u1 u2 u3 HS.out HL6.out HX6.out HN.out.1 HN.out.2.1 HHX.out
        have HS2 : Hid (∀ (cr : Bool) (wy : World), Ext wt wy → Calls Tryd.prog 13 #[.agg #[.string O, .slice A6 (ms.length + 1) c6, .slice A9 (hs.length + 1) c9, .bool c], .string s, v, .bool cr] wy fun e w' => e = .returned (.bool (allowsN (toL O) (ms ++ [toL p]) (hs ++ [toL q]) c (toL s) l cr)) ∧ Below wy.heap.size wy w') := Lib.hid fun cr wy hy => by
          obtain ⟨u0, _, _, u3, u4, u5⟩ := HVW.out wy hy
          exact allows_any O _ _ _ _ c _ s l v G cr m wy u0 u4 u5 u3 HS.out HL6.out HX6.out HN.out.2.2.1 HN.out.2.2.2 HX7.out
        clear HVW HX7 HN HMT HHT HET HE39 HGT
        cases hA1 : allowsN (toL O) ms hs c (toL s) l false with
        | false =>
          cases hA2 : allowsN (toL O) ms hs c (toL s) l true with
          | false =>
            have HA1 := Lib.hid hA1; have HA2 := Lib.hid hA2
            clear hA1 hA2
            go_wp2_with fail
            rw [HWT.out]
            have hst : Ext wt wt := Ext.refl wt
            obtain ⟨q1, q2, q3, q4, q5, q6, q7, q8, q9, q10⟩ := HC.out wt hst
            clear e0 e1 e2 e3 hsb9 hf9 hx9 hp9
            refine (HS1.out false wt hst).mono ?_
            rintro e w10 ⟨rfl, hb10⟩
            rw [HA1.out]
            have HE10 : Hid (Ext wt w10) := Lib.hid hb10
            clear hb10 hst q1 q2 q3 q4 q5 q6 q7 q8 q9 q10
            obtain ⟨q1, q2, q3, q4, q5, q6, q7, q8, q9, q10⟩ := HC.out w10 HE10.out
            go_wp2_with fail
            refine (HS1.out true w10 HE10.out).mono ?_
            rintro e w11 ⟨rfl, hb11⟩
            rw [HA2.out]
            have HE11 : Hid (Ext wt w11) := Lib.hid (Ext.trans HE10.out hb11)
            clear hb11 HE10 q1 q2 q3 q4 q5 q6 q7 q8 q9 q10
            obtain ⟨q1, q2, q3, q4, q5, q6, q7, q8, q9, q10⟩ := HC.out w11 HE11.out
            go_wp2_with fail
            refine (awake_any m w11 ((HM.out.below HBT.out).below HE11.out)).mono ?_
            rintro e w12 ⟨rfl, hb12⟩
            go_wp2_with fail
            go_ret
            exact hR _ _ ⟨rfl, Ext.then HBT.out (Ext.trans HE11.out hb12) (Nat.le_refl _)⟩
          | true =>
            have HA1 := Lib.hid hA1; have HA2 := Lib.hid hA2
            clear hA1 hA2
            go_wp2_with fail
            rw [HWT.out]
            have hst : Ext wt wt := Ext.refl wt
            obtain ⟨q1, q2, q3, q4, q5, q6, q7, q8, q9, q10⟩ := HC.out wt hst
            clear e0 e1 e2 e3 hsb9 hf9 hx9 hp9
            refine (HS1.out false wt hst).mono ?_
            rintro e w10 ⟨rfl, hb10⟩
            rw [HA1.out]
            have HE10 : Hid (Ext wt w10) := Lib.hid hb10
            clear hb10 hst q1 q2 q3 q4 q5 q6 q7 q8 q9 q10
            obtain ⟨q1, q2, q3, q4, q5, q6, q7, q8, q9, q10⟩ := HC.out w10 HE10.out
            go_wp2_with fail
            refine (HS1.out true w10 HE10.out).mono ?_
            rintro e w11 ⟨rfl, hb11⟩
            rw [HA2.out]
            have HE11 : Hid (Ext wt w11) := Lib.hid (Ext.trans HE10.out hb11)
            clear hb11 HE10 q1 q2 q3 q4 q5 q6 q7 q8 q9 q10
            obtain ⟨q1, q2, q3, q4, q5, q6, q7, q8, q9, q10⟩ := HC.out w11 HE11.out
            go_wp2_with fail
            refine (HS2.out true w11 HE11.out).mono ?_
            rintro e w11 ⟨rfl, hb11⟩
            rw [HMO.out _ HA2.out]
            have HE11' : Hid (Ext wt w11) := Lib.hid (Ext.trans HE11.out hb11)
            clear HE11 hb11 q1 q2 q3 q4 q5 q6 q7 q8 q9 q10
            have HE11 := HE11'
            clear HE11'
            go_wp2_with fail
            refine (awake_any m w11 ((HM.out.below HBT.out).below HE11.out)).mono ?_
            rintro e w12 ⟨rfl, hb12⟩
            go_wp2_with fail
            go_ret
            exact hR _ _ ⟨rfl, Ext.then HBT.out (Ext.trans HE11.out hb12) (Nat.le_refl _)⟩
        | true =>
          cases hA2 : allowsN (toL O) ms hs c (toL s) l true with
          | false =>
            have HA1 := Lib.hid hA1; have HA2 := Lib.hid hA2
            clear hA1 hA2
            go_wp2_with fail
            rw [HWT.out]
            have hst : Ext wt wt := Ext.refl wt
            obtain ⟨q1, q2, q3, q4, q5, q6, q7, q8, q9, q10⟩ := HC.out wt hst
            clear e0 e1 e2 e3 hsb9 hf9 hx9 hp9
            refine (HS1.out false wt hst).mono ?_
            rintro e w10 ⟨rfl, hb10⟩
            rw [HA1.out]
            have HE10 : Hid (Ext wt w10) := Lib.hid hb10
            clear hb10 hst q1 q2 q3 q4 q5 q6 q7 q8 q9 q10
            obtain ⟨q1, q2, q3, q4, q5, q6, q7, q8, q9, q10⟩ := HC.out w10 HE10.out
            go_wp2_with fail
            refine (HS2.out false w10 HE10.out).mono ?_
            rintro e w10 ⟨rfl, hb10⟩
            rw [HMO.out _ HA1.out]
            have HE10' : Hid (Ext wt w10) := Lib.hid (Ext.trans HE10.out hb10)
            clear HE10 hb10 q1 q2 q3 q4 q5 q6 q7 q8 q9 q10
            have HE10 := HE10'
            clear HE10'
            obtain ⟨q1, q2, q3, q4, q5, q6, q7, q8, q9, q10⟩ := HC.out w10 HE10.out
            go_wp2_with fail
            refine (HS1.out true w10 HE10.out).mono ?_
            rintro e w11 ⟨rfl, hb11⟩
            rw [HA2.out]
            have HE11 : Hid (Ext wt w11) := Lib.hid (Ext.trans HE10.out hb11)
            clear hb11 HE10 q1 q2 q3 q4 q5 q6 q7 q8 q9 q10
            obtain ⟨q1, q2, q3, q4, q5, q6, q7, q8, q9, q10⟩ := HC.out w11 HE11.out
            go_wp2_with fail
            refine (awake_any m w11 ((HM.out.below HBT.out).below HE11.out)).mono ?_
            rintro e w12 ⟨rfl, hb12⟩
            go_wp2_with fail
            go_ret
            exact hR _ _ ⟨rfl, Ext.then HBT.out (Ext.trans HE11.out hb12) (Nat.le_refl _)⟩
          | true =>
            have HA1 := Lib.hid hA1; have HA2 := Lib.hid hA2
            clear hA1 hA2
            go_wp2_with fail
            rw [HWT.out]
            have hst : Ext wt wt := Ext.refl wt
            obtain ⟨q1, q2, q3, q4, q5, q6, q7, q8, q9, q10⟩ := HC.out wt hst
            clear e0 e1 e2 e3 hsb9 hf9 hx9 hp9
            refine (HS1.out false wt hst).mono ?_
            rintro e w10 ⟨rfl, hb10⟩
            rw [HA1.out]
            have HE10 : Hid (Ext wt w10) := Lib.hid hb10
            clear hb10 hst q1 q2 q3 q4 q5 q6 q7 q8 q9 q10
            obtain ⟨q1, q2, q3, q4, q5, q6, q7, q8, q9, q10⟩ := HC.out w10 HE10.out
            go_wp2_with fail
            refine (HS2.out false w10 HE10.out).mono ?_
            rintro e w10 ⟨rfl, hb10⟩
            rw [HMO.out _ HA1.out]
            have HE10' : Hid (Ext wt w10) := Lib.hid (Ext.trans HE10.out hb10)
            clear HE10 hb10 q1 q2 q3 q4 q5 q6 q7 q8 q9 q10
            have HE10 := HE10'
            clear HE10'
            obtain ⟨q1, q2, q3, q4, q5, q6, q7, q8, q9, q10⟩ := HC.out w10 HE10.out
            go_wp2_with fail
            refine (HS1.out true w10 HE10.out).mono ?_
            rintro e w11 ⟨rfl, hb11⟩
            rw [HA2.out]
            have HE11 : Hid (Ext wt w11) := Lib.hid (Ext.trans HE10.out hb11)
            clear hb11 HE10 q1 q2 q3 q4 q5 q6 q7 q8 q9 q10
            obtain ⟨q1, q2, q3, q4, q5, q6, q7, q8, q9, q10⟩ := HC.out w11 HE11.out
            go_wp2_with fail
            refine (HS2.out true w11 HE11.out).mono ?_
            rintro e w11 ⟨rfl, hb11⟩
            rw [HMO.out _ HA2.out]
            have HE11' : Hid (Ext wt w11) := Lib.hid (Ext.trans HE11.out hb11)
            clear HE11 hb11 q1 q2 q3 q4 q5 q6 q7 q8 q9 q10
            have HE11 := HE11'
            clear HE11'
            go_wp2_with fail
            refine (awake_any m w11 ((HM.out.below HBT.out).below HE11.out)).mono ?_
            rintro e w12 ⟨rfl, hb12⟩
            go_wp2_with fail
            go_ret
            exact hR _ _ ⟨rfl, Ext.then HBT.out (Ext.trans HE11.out hb12) (Nat.le_refl _)⟩
theorem more_row {w : World} (x : Sh) (cs : Array Value) (hb : x.1.length ≤ 140737488351232 ∧ (x.2.1.length * Tryd.prog.bytesOf 9 ≤ 140737488351232 ∧ ∀ y ∈ x.2.1, y.length ≤ 140737488351232) ∧ (x.2.2.1.length * Tryd.prog.bytesOf 9 ≤ 140737488351232 ∧ ∀ y ∈ x.2.2.1, y.length ≤ 140737488351232) ∧ True) (hr : shr.rep w (fun _ => True) x cs.toList) (s : ByteArray) (hs : s.size ≤ 140737488351232)
    (l : List Fd) (v : Value) (F : Nat → Prop) (hlb : l.length * Tryd.prog.bytesOf 34 ≤ 140737488351232 ∧ ∀ x ∈ l, x.1.length ≤ 140737488351232 ∧ x.2.length ≤ 140737488351232) (hv : View fld w F l v) (p : ByteArray) (hp : p.size ≤ 140737488351232) (q : ByteArray) (hq : q.size ≤ 140737488351232) (m : Int) (hm : MaxLen m w) :
    Calls Tryd.prog 5 #[.agg cs, .string s, v, .string p, .string q] w fun e w' => e = .returned (.bool true) ∧ Below w.heap.size w w' := by
  rw [show Tryd.prog.bytesOf 9 = 16 by kernel_rfl] at hb
  rw [show Tryd.prog.bytesOf 34 = 32 by kernel_rfl] at hlb
  obtain ⟨mv, hv', e, h1, h2⟩ := share_rep hr
  obtain ⟨O, ms, hs', c⟩ := x
  have ec : cs = #[.string (ofL O), mv, hv', .bool c] := by apply Array.ext'; exact e
  rw [ec]
  exact more_walk (ofL O) ms hs' mv hv' c (fun _ => True) s l v F p q m w hm h1 h2 hv (by rw [toL_ofL]; exact ⟨hb.1, ⟨by have := hb.2.1.1; simp only at this ⊢; omega, hb.2.1.2⟩, ⟨by have := hb.2.2.1.1; simp only at this ⊢; omega, hb.2.2.1.2⟩⟩) hs (by omega) hlb.2 hp hq
end Go.Proofs.YtalbadmefpdldaaDoor.Asc
