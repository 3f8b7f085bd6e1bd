/-
  The law parapetlaw5.NetClears answers true.
  Lengths within the row's own reach.
-/
import Derived.Test.YtmbkfhfidjplnaaNetL
import Derived.BigQuiet
namespace Go.Proofs.Ytmbkfhfidjplnaa.Nt
open Go Go.RowKit Go.Proofs.Ytmbkfhfidjplnaa.Pb

theorem MineX.send {B : Nat} (t : TypeId) (X : Nat → Prop) (wr : World) (b : Nat) (l : List Pk) (h : MineX t B X wr b l) (hX : ∀ a, X a → a < wr.heap.size) (f g : Int) (c : UInt8) (n : Int) (hn : n = c.toNat) (hl : l.length ≤ 1000000) (hB : B ≤ wr.heap.size) :
    Calls Try.prog 9 #[.pointer (some ⟨b, 0, none⟩), .slice (some ⟨wr.heap.size + 1, 0, none⟩) 1 1] ((wr.alloc (.cells #[.int .u8 n] 5)).alloc (.cells #[.int .i64 f, .int .i64 g, .slice (some ⟨wr.heap.size, 0, none⟩) 1 1] 33)) fun e w' =>
      e = .returned (.int .i64 (((put l (f, g, [c])).length - l.length : Nat) : Int)) ∧ Below B wr w' ∧ (∀ a, X a → w'.heap[a]? = wr.heap[a]?) ∧ MineX t B X w' b (put l (f, g, [c])) := by
  obtain ⟨F, h1, h2⟩ := h
  have hb1 := below_new wr (.cells #[.int .u8 n] 5)
  have hs1 : (wr.alloc (.cells #[.int .u8 n] 5)).heap.size = wr.heap.size + 1 := by simp
  have hb2 := hb1.trans ((below_new (wr.alloc (.cells #[.int .u8 n] 5)) (.cells #[.int .i64 f, .int .i64 g, .slice (some ⟨wr.heap.size, 0, none⟩) 1 1] 33)).mono (by omega))
  have hs2 : ((wr.alloc (.cells #[.int .u8 n] 5)).alloc (.cells #[.int .i64 f, .int .i64 g, .slice (some ⟨wr.heap.size, 0, none⟩) 1 1] 33)).heap.size = wr.heap.size + 2 := by simp
  have g1 := blk_past (o' := .cells #[.int .i64 f, .int .i64 g, .slice (some ⟨wr.heap.size, 0, none⟩) 1 1] 33) (blk_new wr (.cells #[.int .u8 n] 5))
  have g2 := blk_new (wr.alloc (.cells #[.int .u8 n] 5)) (.cells #[.int .i64 f, .int .i64 g, .slice (some ⟨wr.heap.size, 0, none⟩) 1 1] 33)
  rw [hs1] at g2
  obtain ⟨W, hW⟩ : ∃ W, (wr.alloc (.cells #[.int .u8 n] 5)).alloc (.cells #[.int .i64 f, .int .i64 g, .slice (some ⟨wr.heap.size, 0, none⟩) 1 1] 33) = W := ⟨_, rfl⟩
  rw [hW] at g1 g2 hb2 hs2 ⊢
  have hv := view_one (x := (f, g, [c])) (G := fun k => wr.heap.size ≤ k) g2 (view_byte g1 hn (Nat.le_refl _)) (by show wr.heap.size ≤ _; omega)
  refine (send_any t W F (fun k => wr.heap.size ≤ k) b l [(f, g, [c])] _ (h1.below hb2) hv (fun k hF => by have := (h2 k hF).2.1; omega) hl (by simp) (by simp)).mono ?_
  rintro e w' ⟨rfl, hk, hn'⟩
  have hs : sends l [(f, g, [c])] = put l (f, g, [c]) := rfl
  rw [hs] at hn' ⊢
  refine ⟨rfl, (hb2.mono hB).trans (hk.below (by omega) fun i hi h => by have := (h2 i h).1; omega), fun a ha => (hk.block a (by have := hX a ha; omega) (fun h => (h2 a h).2.2 ha)).trans (hb2.block a (hX a ha)), _, hn', fun a ha => ?_⟩
  rcases ha with ha | ha
  · exact ⟨(h2 a ha).1, by have := (h2 a ha).2.1; have := hk.size; omega, (h2 a ha).2.2⟩
  · exact ⟨by omega, ha.2, fun hx => by have := hX a hx; omega⟩

theorem clears_snoc (ps : List Pk) (x : Pk) (n : Int) : clears (ps ++ [x]) n = clears ps n ++ (if ofNode n x = true then [] else [x]) := by
  unfold clears
  rw [List.filter_append]
  cases h : ofNode n x <;> simp [h]

set_option maxRecDepth 20000 in
set_option maxHeartbeats 3000000 in
theorem clears_walk (l : List Int) (v : Value) (F : Nat → Prop) (nd : Int) (w : World) (hv : View Rp.int w F l v) (hl : l.length ≤ 140737488351232) (hb : ∀ x ∈ l, -9223372036854775808 ≤ x ∧ x ≤ 9223372036854775807) :
    Calls Try.prog 5 #[v, .int .i64 nd] w fun e w' => e = .returned (.bool true) ∧ Below w.heap.size w w' := by
  refine calls_gen fun R hR => ?_
  obtain ⟨A, c, rfl, hc, hcell⟩ := hv.open1
  have HC := Lib.hid hcell; have HB := Lib.hid hb
  clear hcell hv hb
  go_enter Try.func5, Try.ntmps5
  refine Or.elim (Classical.em (60 < l.length)) (fun c1 => ?_) (fun c1 => ?_)
  · go_wp2_with fail
    refine (awake_any w).mono ?_
    rintro e w1 ⟨rfl, hb1⟩
    go_wp2_with fail
    go_ret
    exact hR _ _ ⟨rfl, hb1⟩
  refine Or.elim (Classical.em (nd < 1)) (fun c2 => ?_) (fun c2 => ?_)
  · go_wp2_with fail
    refine (awake_any w).mono ?_
    rintro e w1 ⟨rfl, hb1⟩
    go_wp2_with fail
    go_ret
    exact hR _ _ ⟨rfl, hb1⟩
  refine Or.elim (Classical.em (9 < nd)) (fun c3 => ?_) (fun c3 => ?_)
  · go_wp2_with fail
    refine (awake_any w).mono ?_
    rintro e w1 ⟨rfl, hb1⟩
    go_wp2_with fail
    go_ret
    exact hR _ _ ⟨rfl, hb1⟩
  go_wp2_with fail
  refine (new_any w).mono ?_
  rintro e w1 ⟨rfl, hb1, hn1, hs1⟩
  have HB1 := Lib.hid hb1; have HN1 := Lib.hid hn1
  clear hb1 hn1
  go_wp2_with fail
  go_loopw [6, 7, 8, 9, 10] (fun n vl i _ _ wr => ∃ (j : Nat) (ps : List Pk) (bs : List UInt8), j ≤ l.length ∧ i = .int .i64 j ∧ n = .int .i64 ((ps.length : Int) - (clears ps nd).length) ∧ ps.length ≤ j ∧ Below w.heap.size w wr ∧ MineX 29 w.heap.size (fun k => vl.ownBlock = some k) wr w.heap.size ps ∧ Own Rp.u8 5 wr (fun k => w.heap.size ≤ k) bs vl ∧ (clears ps nd).map (fun x => x.2.2) = bs.map (fun b => [b]) ∧ ∀ x ∈ ps, x.2.2.length ≤ 1) (fun _ _ i _ _ _ => l.length - (intOf i).toNat)
  case atStart =>
    refine ⟨0, [], [], Nat.zero_le _, rfl, rfl, Nat.le_refl _, HB1.out, ⟨_, HN1.out, fun a ha => ⟨by omega, by omega, by simp [Value.ownBlock]⟩⟩, Own.nil _ _ _ _, rfl, by simp⟩
  case round =>
    obtain ⟨j, ps, bs, hj, rfl, rfl, hpj, hbr, hmr, hor, hmap, hsm⟩ := hrel
    obtain ⟨LA, lc, rfl, hlc⟩ := hor.slice
    have hob : ∀ a, (Value.slice LA bs.length lc).ownBlock = some a → w.heap.size ≤ a ∧ a < wr.heap.size := fun a ha => by
      obtain ⟨_, _, h2, _⟩ := hor.bnd
      exact h2 a ha
    have hbs := hbr.size
    have hcle := clears_len ps nd
    have HBR := Lib.hid hbr; have HMR := Lib.hid hmr; have HOR := Lib.hid hor; have HMAP := Lib.hid hmap; have HSM := Lib.hid hsm; have HOB := Lib.hid hob
    clear hbr hmr hor hmap hsm hob
    by_cases hlt : j < l.length
    · obtain ⟨b, off, rfl, hbl, hx⟩ := HC.out j hlt
      obtain ⟨x, hlx⟩ : ∃ x, l[j]? = some x := ⟨_, List.getElem?_eq_getElem hlt⟩
      have hxc := (HBR.out.cell (p := ⟨b, off + j, none⟩) hbl).trans (hx j x hlx)
      obtain ⟨hx1, hx2⟩ := HB.out x (List.mem_of_getElem? hlx)
      have hbq2 : b < wr.heap.size := by omega
      clear hx hlx
      have ha0 := Int.emod_nonneg x (show (9 : Int) ≠ 0 by decide)
      have ha1 := Int.emod_lt_of_pos x (show (0 : Int) < 9 by decide)
      have hra := Lib.hid (round_any x 9 (by decide) (by decide) wr)
      have hrb := Lib.hid (fun y => round_any y 8 (by decide) (by decide) wr)
      obtain ⟨a, ha⟩ : ∃ a, x % 9 = a := ⟨_, rfl⟩
      rw [ha] at ha0 ha1 hra
      clear ha
      go_wp2_with fail
      refine hra.out.mono ?_
      rintro e w' ⟨rfl, rfl⟩
      go_wp2_with fail
      refine (hrb.out _).mono ?_
      rintro e w' ⟨rfl, rfl⟩
      have hr0 := Int.emod_nonneg (x.tdiv 9) (show (8 : Int) ≠ 0 by decide)
      have hr1 := Int.emod_lt_of_pos (x.tdiv 9) (show (0 : Int) < 8 by decide)
      obtain ⟨r, hr⟩ : ∃ r, x.tdiv 9 % 8 = r := ⟨_, rfl⟩
      rw [hr] at hr0 hr1 ⊢
      obtain ⟨t, ht⟩ : ∃ t, (1 + a + r).tmod 9 = t := ⟨_, rfl⟩
      have ht0 : 0 ≤ t := by rw [← ht]; exact Int.tmod_nonneg 9 (by omega)
      have ht1 : t < 9 := by rw [← ht]; exact Int.tmod_lt_of_pos _ (by decide)
      clear hr hra hrb
      by_cases hft : a = t
      · have hfb : (1 + a == 1 + t) = true := by simp [hft]
        clear hft
        go_wp2_with fail
        go_roundw
        case rel => exact ⟨j + 1, ps, bs, by omega, by go_num, rfl, by omega, HBR.out, HMR.out, HOR.out, HMAP.out, HSM.out⟩
        case measure => simp [intOf]; omega
      · have hfb : (1 + a == 1 + t) = false := by rw [beq_eq_false_iff_ne]; omega
        go_wp2_with fail
        refine (HMR.out.send _ _ _ _ _ (fun k hk => (HOB.out k hk).2) (1 + a) (1 + t) (UInt8.ofNat j) j (byte_nat j (by omega)).symm (by omega) hbs).mono ?_
        rintro e w2 ⟨rfl, hb2, hX2, hm2⟩
        obtain ⟨p, hp⟩ : ∃ p : Pk, (1 + a, 1 + t, [UInt8.ofNat j]) = p := ⟨_, rfl⟩
        have hpu : put ps p = ps ++ [p] := by
          unfold put; rw [if_pos ⟨by omega, by rw [← hp]; simp [okP, isNode]; omega⟩]
        rw [hp, hpu] at hm2
        rw [hp, hpu, show ((ps ++ [p]).length - ps.length : Nat) = 1 by simp]
        have hor2 : Own Rp.u8 5 w2 (fun k => w.heap.size ≤ k) bs (.slice LA bs.length lc) :=
          ((HOR.out.flat (F' := fun k => (Value.slice LA bs.length lc).ownBlock = some k) (fun k h => h)).step (fun k hk => hX2 k hk)).flat (fun k hk => (HOB.out k hk).1)
        have hs2 := hb2.size
        have hsm2 : Hid (∀ x ∈ ps ++ [p], x.2.2.length ≤ 1) := Lib.hid fun y hy => by
          rcases List.mem_append.1 hy with hy | hy
          · exact HSM.out y hy
          · simp at hy; rw [hy, ← hp]; simp
        have hcs := clears_snoc ps p nd
        have hon : ofNode nd p = (decide (1 + a = nd) || decide (1 + t = nd)) := by rw [← hp]; rfl
        have hpl : Hid (p.2.2 = [UInt8.ofNat j]) := Lib.hid (by rw [← hp])
        have HB2 := Lib.hid (HBR.out.trans hb2); have HM2 := Lib.hid hm2; have HO2 := Lib.hid hor2
        have hw2s := HB2.out.size
        clear hb2 hX2 hm2 hor2 hp hpu ht hxc hfb
        by_cases h1 : 1 + a = nd
        · have hb1 : (1 + a == nd) = true := by simpa using h1
          have HCS : Hid (clears (ps ++ [p]) nd = clears ps nd) := Lib.hid (by rw [hcs, hon]; simp [h1])
          clear h1 hcs hon
          go_wp2_with fail
          go_roundw
          case rel => exact ⟨j + 1, ps ++ [p], bs, by omega, by go_num, by rw [HCS.out]; congr 1; simp; omega, by simp; omega, HB2.out, HM2.out, HO2.out, by rw [HCS.out]; exact HMAP.out, hsm2.out⟩
          case measure => simp [intOf]; omega
        · have hb1 : (1 + a == nd) = false := by simpa using h1
          by_cases h2 : 1 + t = nd
          · have hb2 : (1 + t == nd) = true := by simpa using h2
            have HCS : Hid (clears (ps ++ [p]) nd = clears ps nd) := Lib.hid (by rw [hcs, hon]; simp [h2])
            clear h1 h2 hcs hon
            go_wp2_with fail
            go_roundw
            case rel => exact ⟨j + 1, ps ++ [p], bs, by omega, by go_num, by rw [HCS.out]; congr 1; simp; omega, by simp; omega, HB2.out, HM2.out, HO2.out, by rw [HCS.out]; exact HMAP.out, hsm2.out⟩
            case measure => simp [intOf]; omega
          · have hb2 : (1 + t == nd) = false := by simpa using h2
            have HCS : Hid (clears (ps ++ [p]) nd = clears ps nd ++ [p]) := Lib.hid (by rw [hcs, hon]; simp [h1, h2])
            have HBL : Hid (bs.length = (clears ps nd).length) := Lib.hid (by
              have := congrArg List.length HMAP.out; simpa using this.symm)
            have hbl60 : bs.length ≤ 60 := by have := HBL.out; omega
            clear h1 h2 hcs hon
            go_wp2_with (with_reducible (first | refine stop_append ?_))
            refine ⟨wp_append1 (r := Rp.u8) (F := fun k => (Value.slice LA bs.length lc).ownBlock = some k) (G := fun _ => False) (y := UInt8.ofNat j) Try.underlying31 info5 rfl (show 0 < 1 by decide) (HO2.out.flat (fun k h => h)) rfl rfl ?_ (fun k h => h.elim) (by omega) (by decide) ?_⟩
            · exact u8_rep (byte_nat j (by omega)).symm
            intro v3 w3 ho3 hk3 hne3 hob3
            obtain ⟨LB, ld, rfl, hld⟩ := ho3.slice
            have hmx : MineX 29 w.heap.size (fun k => (Value.slice LB (bs ++ [UInt8.ofNat j]).length ld).ownBlock = some k) w3 w.heap.size (ps ++ [p]) := by
              obtain ⟨F0, f1, f2⟩ := HM2.out
              refine ⟨F0, f1.keep (G := fun k => some k = (Value.slice LA bs.length lc).ownBlock) hk3 (fun k hk e => (f2 k hk).2.2 e.symm), fun k hk => ⟨(f2 k hk).1, Nat.lt_of_lt_of_le (f2 k hk).2.1 hk3.size, fun e => ?_⟩⟩
              rcases hob3 with h3 | ⟨q, h3, h4⟩
              · exact (f2 k hk).2.2 (h3.symm.trans e)
              · rw [h3] at e; cases e; have := (f2 k hk).2.1; omega
            have hob4 : ∀ k, (Value.slice LB (bs ++ [UInt8.ofNat j]).length ld).ownBlock = some k → w.heap.size ≤ k := fun k e => by
              rcases hob3 with h3 | ⟨q, h3, h4⟩
              · exact (HOB.out k (h3.symm.trans e)).1
              · rw [h3] at e; cases e; omega
            have hb3 := HB2.out.trans (hk3.below (B := w.heap.size) hw2s fun i hi e => by have := (HOB.out i e.symm).1; omega)
            have ho4 : Own Rp.u8 5 w3 (fun k => w.heap.size ≤ k) (bs ++ [UInt8.ofNat j]) (.slice LB (bs ++ [UInt8.ofNat j]).length ld) := ho3.flat hob4
            have hmap3 : (clears (ps ++ [p]) nd).map (fun x => x.2.2) = (bs ++ [UInt8.ofNat j]).map (fun b => [b]) := by
              rw [HCS.out, List.map_append, HMAP.out, List.map_append]; simp [hpl.out]
            have hcl3 : (clears (ps ++ [p]) nd).length = (clears ps nd).length + 1 := by rw [HCS.out]; simp
            have HMX := Lib.hid hmx; have HB3 := Lib.hid hb3; have HO4 := Lib.hid ho4; have HMP := Lib.hid hmap3; have HCL := Lib.hid hcl3
            clear hmx hb3 ho4 hmap3 hcl3 hob4 hob3 hne3 hk3 ho3
            obtain ⟨bz, hbz⟩ : ∃ bz, bs ++ [UInt8.ofNat j] = bz := ⟨_, rfl⟩
            rw [hbz] at HMX HO4 HMP hld ⊢
            clear hbz
            go_wp2_with fail
            go_roundw
            case rel => exact ⟨j + 1, ps ++ [p], bz, by omega, by go_num, by rw [HCL.out]; congr 1; simp; omega, by simp; omega, HB3.out, HMX.out, HO4.out, HMP.out, hsm2.out⟩
            case measure => simp [intOf]; omega
    · obtain rfl : j = l.length := by omega
      have HBL : Hid (bs.length = (clears ps nd).length) := Lib.hid (by
        have := congrArg List.length HMAP.out; simpa using this.symm)
      have hb60 : bs.length ≤ 60 := by have := HBL.out; omega
      obtain ⟨F0, f1, f2⟩ := HMR.out
      have F1 := Lib.hid f1; have F2 := Lib.hid f2
      have HMS : Hid (∀ x ∈ clears ps nd, x.2.2.length ≤ 140737488351232) := Lib.hid fun x hx => by
        have := HSM.out x (List.mem_filter.1 hx).1; omega
      have HON : Hid (∀ x ∈ clears ps nd, ofNode nd x = false) := Lib.hid fun x hx => by
        have := (List.mem_filter.1 hx).2; simpa using this
      clear f1 f2
      go_wp2_with fail
      refine (clear_any _ wr F0 _ ps F1.out nd (by omega)).mono ?_
      rintro e w2 ⟨rfl, hk2, hn2⟩
      have hs2 := hk2.size
      have hb2 := HBR.out.trans (hk2.below (B := w.heap.size) hbs fun i hi h => by have := (F2.out i h).1; omega)
      have ho2 : Own Rp.u8 5 w2 (fun k => w.heap.size ≤ k) bs (.slice LA bs.length lc) :=
        ((HOR.out.flat (F' := fun k => (Value.slice LA bs.length lc).ownBlock = some k) (fun k h => h)).keep (G := F0) hk2 (fun k hk hF => (F2.out k hF).2.2 hk)).flat (fun k hk => (HOB.out k hk).1)
      obtain ⟨z, hz⟩ : ∃ z, clears ps nd = z := ⟨_, rfl⟩
      rw [hz] at hn2 HBL hcle HMAP HMS HON ⊢
      have hbe : ((ps.length : Int) - z.length != (ps.length : Int) - z.length) = false := by simp
      have HB2 := Lib.hid hb2; have HN2 := Lib.hid hn2; have HO2 := Lib.hid ho2
      clear hb2 hn2 ho2 hk2 hz
      go_wp2_with fail
      refine (len_any _ w2 F0 _ z HN2.out).mono ?_
      rintro e w' ⟨rfl, rfl⟩
      have hbe2 : ((z.length : Int) != (bs.length : Int)) = false := by rw [HBL.out]; simp
      go_wp2_with fail
      clear hbe hbe2
      have hs2 := HB2.out.size
      go_loopw [11, 12, 13] (fun i _ _ wr => ∃ q : Nat, q ≤ bs.length ∧ i = .int .i64 q ∧ Below w2.heap.size w2 wr) (fun i _ _ _ => bs.length - (intOf i).toNat)
      case atStart => exact ⟨0, Nat.zero_le _, rfl, Below.refl _ _⟩
      case round =>
        obtain ⟨q, hq, rfl, hbq⟩ := hrel
        have HBQ := Lib.hid hbq
        have hsq := hbq.size
        clear hbq
        by_cases hlq : q < bs.length
        · obtain ⟨x, hx⟩ : ∃ x, z[q]? = some x := ⟨_, List.getElem?_eq_getElem (by rw [← HBL.out]; exact hlq)⟩
          obtain ⟨y, hy⟩ : ∃ y, bs[q]? = some y := ⟨_, List.getElem?_eq_getElem hlq⟩
          have hxy : x.2.2 = [y] := by
            have h1 := congrArg (fun l => l[q]?) HMAP.out
            simp only [List.getElem?_map, hx, hy, Option.map_some] at h1
            exact Option.some.inj h1
          have hxm := List.mem_of_getElem? hx
          have hno := HON.out x hxm
          have hpk : peek z q = some x := by
            unfold peek; rw [if_neg (by omega)]; exact hx
          obtain ⟨g, cp, hcells, hgF, hcp, hrow⟩ := (HO2.out.below HBQ.out).row (by rintro rfl; simp at hlq)
          have hyc := hrow.cell (i := q) (u := u8v y) (by rw [List.getElem?_map, hy]; rfl)
          have hgl := hrow.len
          cases hcells
          have HPK := Lib.hid hpk; have HNO := Lib.hid hno; have HXY := Lib.hid hxy
          have HYC := Lib.hid hyc
          clear hx hxm hpk hno hrow hyc hxy hy
          have hq1 : (q : Int) < (bs.length : Int) := by omega
          go_wp2_with fail
          refine (peek_any _ _ F0 _ z (HN2.out.below HBQ.out) q HMS.out).mono ?_
          rintro e w3 ⟨u, ok, rfl, ⟨hok, u2, rfl, hu⟩, hb3⟩
          rw [HPK.out] at hok hu ⊢
          simp only [Option.getD_some, Option.isSome_some] at hok hu ⊢
          subst hok
          rw [HXY.out] at hu
          obtain ⟨g2, cap, rfl, hcap, hg2, hglt, hcell⟩ := Own.byte hu
          have hs3 := hb3.size
          have hyc3 : w3.cell? ⟨g, q, none⟩ = some (.int .u8 y.toNat) := (hb3.cell (p := ⟨g, q, none⟩) hgl).trans HYC.out
          have hno1 : (x.1 == nd) = false := by
            have := HNO.out; unfold ofNode at this; simp at this; simp [this.1]
          have hno2 : (x.2.1 == nd) = false := by
            have := HNO.out; unfold ofNode at this; simp at this; simp [this.2]
          have HB3 := Lib.hid ((HBQ.out.trans (hb3.mono hsq)).trans ((below_new w3 (.cells #[.int .i64 x.1, .int .i64 x.2.1, .slice (some ⟨g2, 0, none⟩) 1 cap] 33)).mono (by omega)))
          clear hu hb3
          obtain ⟨Y, hY⟩ : ∃ Y : Int, (y.toNat : Int) = Y := ⟨_, rfl⟩
          rw [hY] at hcell hyc3
          have hgl3 : g < w3.heap.size := by omega
          have hq0 : (0 : Int) < 1 := by decide
          clear hY
          unfold pv
          go_wp2_with fail
          go_quiet (fail)
          go_wp2_with fail
          go_roundw
          case rel => exact ⟨q + 1, by omega, by go_num, HB3.out.drewN _⟩
          case measure => simp [intOf]; omega
        · obtain rfl : q = bs.length := by omega
          go_wp2_with fail
          refine (awake_any _).mono ?_
          rintro e w4 ⟨rfl, hb4⟩
          go_wp2_with fail
          go_ret
          exact hR _ _ ⟨rfl, (HB2.out.trans (HBQ.out.mono hs2)).trans (hb4.mono (by omega))⟩
theorem clears_row {w : World} (l : List Int) (v : Value) (F : Nat → Prop) (hb : l.length * Try.prog.bytesOf 3 ≤ 140737488351232 ∧ ∀ x ∈ l, -9223372036854775808 ≤ x ∧ x ≤ 9223372036854775807) (hv : View Rp.int w F l v) (n : Int) (_ : -9223372036854775808 ≤ n) (_ : n ≤ 9223372036854775807) :
    Calls Try.prog 5 #[v, .int .i64 n] w fun e w' => e = .returned (.bool true) ∧ Below w.heap.size w w' :=
  clears_walk l v F n w hv (by have := hb.1; rw [show Try.prog.bytesOf 3 = 8 by kernel_rfl] at this; omega) hb.2
end Go.Proofs.Ytmbkfhfidjplnaa.Nt
