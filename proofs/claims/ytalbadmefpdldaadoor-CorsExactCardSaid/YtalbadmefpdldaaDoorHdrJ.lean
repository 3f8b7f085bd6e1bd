/-
  Contract of the reference's Unsafe.
  Lengths within the rows' own reach.
-/
import Derived.Test.YtalbadmefpdldaaDoorHdrI
namespace Go.Proofs.YtalbadmefpdldaaDoor.Asc
open Go Go.RowKit Go.Sort Go.Proofs.YtalbadmefpdldaaDoor.Pb

set_option maxRecDepth 4000 in
set_option maxHeartbeats 4000000 in
theorem runs_any (l : List Fd) (v : Value) (F : Nat → Prop) (w : World) (hv : View fld w F l v) (hl : l.length ≤ 100000) (hx : ∀ x ∈ l, x.1.length ≤ 1000000 ∧ x.2.length ≤ 1000000) :
    Calls Tryd.prog 33 #[v] w fun e w' => ∃ r, e = .returned r ∧ Own Rp.str 9 w' (w.heap.size ≤ ·) (unsafeN l) r ∧ Below w.heap.size w w' := by
  refine calls_gen fun R hR => ?_
  obtain ⟨A, c, rfl, hcl, hget⟩ := flds_get hv
  have HG := Lib.hid hget; have HXL := Lib.hid hx
  clear hget hv hx
  go_enter Tryd.func33, Tryd.ntmps33
  go_wp2_with fail
  go_loopw [3, 4, 5, 6] (fun bv gv n i wr => ∃ k : Nat, k ≤ l.length ∧ i = .int .i64 k ∧ n = .int .i64 (gsize (l.take k)) ∧ gsize (l.take k) ≤ k * 1000000 ∧ Own Rp.str 9 wr (w.heap.size ≤ ·) (bads (l.take k)) bv ∧ Own Rp.str 9 wr (w.heap.size ≤ ·) (goods (l.take k)) gv ∧ (∀ a, bv.ownBlock = some a → gv.ownBlock ≠ some a) ∧ Below w.heap.size w wr) (fun _ _ _ i _ => l.length - (intOf i).toNat)
  case atStart => exact ⟨0, Nat.zero_le _, rfl, rfl, Nat.zero_le _, Own.nil _ _ _ _, Own.nil _ _ _ _, by simp [Value.ownBlock], Below.refl _ _⟩
  case round =>
    obtain ⟨k, hk, rfl, rfl, hgs, hob, hog, hdis, hb⟩ := hrel
    have hlen := uns_len l k
    obtain ⟨BA, bc, rfl, hbc⟩ := hob.slice
    obtain ⟨GA, gc, rfl, hgc⟩ := hog.slice
    have hbs := hb.size
    obtain ⟨B, hB⟩ : ∃ z, bads (l.take k) = z := ⟨_, rfl⟩
    obtain ⟨G, hG⟩ : ∃ z, goods (l.take k) = z := ⟨_, rfl⟩
    obtain ⟨n, hn⟩ : ∃ z, gsize (l.take k) = z := ⟨_, rfl⟩
    have hn1 : n ≤ 100000000000 := by
      have : k * 1000000 ≤ 100000 * 1000000 := Nat.mul_le_mul_right _ (by omega)
      omega
    rw [hB] at hob hbc hdis hlen ⊢
    rw [hG] at hog hgc hdis hlen ⊢
    rw [hn] at hgs ⊢
    have HOB := Lib.hid hob; have HOG := Lib.hid hog; have HDIS := Lib.hid hdis; have HB := Lib.hid hb; have HEB := Lib.hid hB; have HEG := Lib.hid hG; have HEN := Lib.hid hn; have HGS := Lib.hid hgs
    have hB1 : B.length ≤ 100000 := by omega
    have hG1 : G.length ≤ 100000 := by omega
    clear hob hog hdis hb hB hG hn hgs hlen
    by_cases hlt : k < l.length
    · obtain ⟨g, off, rfl, hg, hx⟩ := HG.out k hlt
      obtain ⟨x, he⟩ : ∃ x, l[k]? = some x := ⟨_, List.getElem?_eq_getElem hlt⟩
      obtain ⟨c0, c1⟩ := hx x he
      have d0 := (HB.out.cell (p := ⟨g, off + k * 2, none⟩) hg).trans c0
      have d1 := (HB.out.cell (p := ⟨g, off + k * 2 + 1, none⟩) hg).trans c1
      obtain ⟨hx1, hx2⟩ := HXL.out x (List.mem_of_getElem? he)
      have HSN := Lib.hid (uns_snoc l k x he)
      have hgr : g < wr.heap.size := by omega
      have hNs : (ofL x.1).size ≤ 1000000 := by rw [ofL_size]; exact hx1
      have hVs : (ofL x.2).size ≤ 1000000 := by rw [ofL_size]; exact hx2
      have HVs := Lib.hid (ofL_size x.2)
      clear hx he c0 c1
      go_wp2_with fail
      refine (rsimple_any (ofL x.1) (ofL x.2) wr hNs hVs).mono ?_
      rintro e w3 ⟨rfl, hb3⟩
      rw [toL_ofL, toL_ofL]
      have f0 := (hb3.cell (p := ⟨g, off + k * 2, none⟩) hgr).trans d0
      have f1 := (hb3.cell (p := ⟨g, off + k * 2 + 1, none⟩) hgr).trans d1
      have hs3 := hb3.size
      have hl3 : g < w3.heap.size := by omega
      have HB3 := Lib.hid (HB.out.trans (hb3.mono hbs)); have HOB3 := Lib.hid (HOB.out.below hb3); have HOG3 := Lib.hid (HOG.out.below hb3)
      have hB3 : ∀ a, (Value.slice BA B.length bc).ownBlock = some a → w.heap.size ≤ a ∧ a < wr.heap.size := fun a ha => by
        obtain ⟨_, _, h2, _⟩ := HOB.out.bnd
        exact h2 a ha
      have hG3 : ∀ a, (Value.slice GA G.length gc).ownBlock = some a → w.heap.size ≤ a ∧ a < wr.heap.size := fun a ha => by
        obtain ⟨_, _, h2, _⟩ := HOG.out.bnd
        exact h2 a ha
      have HBa := Lib.hid hB3; have HGa := Lib.hid hG3
      clear hb3 hB3 hG3 d0 d1
      obtain ⟨Lx, hLx⟩ : ∃ Lx, lower x.1 = Lx := ⟨_, rfl⟩
      have HLX : Hid (lower (toL (ofL x.1)) = Lx) := Lib.hid (by rw [toL_ofL]; exact hLx)
      rw [hLx] at HSN
      clear hLx
      cases hp : simple x.1 x.2 with
      | true =>
        rw [hp] at HSN
        obtain ⟨s1, s2, s3⟩ := HSN.out
        rw [if_pos rfl, List.append_nil, HEB.out] at s1
        rw [if_pos rfl, HEG.out] at s2
        rw [if_pos rfl, HEN.out] at s3
        have S1 := Lib.hid s1; have S2 := Lib.hid s2; have S3 := Lib.hid s3
        clear hp s1 s2 s3
        have hvs := HVs.out
        go_wp2_with fail
        refine (rlower_any (ofL x.1) w3 hNs).mono ?_
        rintro e w5 ⟨rfl, hb5⟩
        rw [HLX.out]
        have hs5 := hb5.size
        have HB5 := Lib.hid (HB3.out.trans (hb5.mono (by omega))); have HOB5 := Lib.hid (HOB3.out.below hb5); have HOG5 := Lib.hid (HOG3.out.below hb5)
        have e1 := (hb5.cell (p := ⟨g, off + k * 2 + 1, none⟩) hl3).trans f1
        have hl5 : g < w5.heap.size := by omega
        clear hb5 f0 f1
        go_wp2_with (with_reducible (first | refine stop_append ?_))
        refine ⟨wp_append1 (r := Rp.str) (G := fun _ => False) (y := Lx) Tryd.underlying22 infoS rfl (show 0 < 1 by decide) HOG5.out rfl rfl rfl (fun k h => h.elim) (by omega) (by decide) ?_⟩
        intro v4 w4 ho4 hk4 _ hob4
        obtain ⟨OC, oe, rfl, hoe⟩ := ho4.slice
        have hl4 := hk4.size
        have HO4 : Hid (Own Rp.str 9 w4 (w.heap.size ≤ ·) (G ++ [Lx]) (.slice OC (G ++ [Lx]).length oe)) := Lib.hid (ho4.mono fun a ha => by
          rcases ha with h | h | h
          · exact h
          · exact h.elim
          · have h' : w5.heap.size ≤ a := h
            show w.heap.size ≤ a; omega)
        have HOB4 : Hid (Own Rp.str 9 w4 (w.heap.size ≤ ·) B (.slice BA B.length bc)) := Lib.hid
          (((HOB5.out.flat (F' := fun a => (Value.slice BA B.length bc).ownBlock = some a) (fun k h => h)).keep hk4 (fun a ha e => HDIS.out a ha e.symm)).flat (fun a ha => (HBa.out a ha).1))
        have HDIS4 : Hid (∀ a, (Value.slice BA B.length bc).ownBlock = some a → (Value.slice OC (G ++ [Lx]).length oe).ownBlock ≠ some a) := Lib.hid fun a ha e => by
          rcases hob4 with h | ⟨q, h, hq⟩
          · exact HDIS.out a ha (h.symm.trans e)
          · have e' := Option.some.inj (h.symm.trans e)
            have := (HBa.out a ha).2; omega
        have HB4 := Lib.hid (HB5.out.trans (hk4.below (B := w.heap.size) (by omega) fun i hi e => by have := (HGa.out i e.symm).1; omega))
        obtain ⟨G4, hG4⟩ : ∃ z, G ++ [Lx] = z := ⟨_, rfl⟩
        rw [hG4] at HO4 HDIS4 hoe S2 ⊢
        clear ho4 hk4 hob4 hG4
        go_wp2_with fail
        go_roundw
        case rel => exact ⟨k + 1, by omega, by go_num, by rw [S3.out]; first | rfl | (congr 1; omega), by rw [S3.out]; have := HGS.out; omega, by rw [S1.out]; exact HOB4.out, by rw [S2.out]; exact HO4.out, HDIS4.out, HB4.out⟩
        case measure => simp [intOf]; omega
      | false =>
        rw [hp] at HSN
        obtain ⟨s1, s2, s3⟩ := HSN.out
        rw [if_neg (by simp), HEB.out] at s1
        rw [if_neg (by simp), List.append_nil, HEG.out] at s2
        rw [if_neg (by simp), Nat.add_zero, HEN.out] at s3
        have S1 := Lib.hid s1; have S2 := Lib.hid s2; have S3 := Lib.hid s3
        clear hp s1 s2 s3
        go_wp2_with fail
        refine (rlower_any (ofL x.1) w3 hNs).mono ?_
        rintro e w5 ⟨rfl, hb5⟩
        rw [HLX.out]
        have hs5 := hb5.size
        have HB5 := Lib.hid (HB3.out.trans (hb5.mono (by omega))); have HOB5 := Lib.hid (HOB3.out.below hb5); have HOG5 := Lib.hid (HOG3.out.below hb5)
        have e1 := (hb5.cell (p := ⟨g, off + k * 2 + 1, none⟩) hl3).trans f1
        have hl5 : g < w5.heap.size := by omega
        clear hb5 f0 f1
        go_wp2_with (with_reducible (first | refine stop_append ?_))
        refine ⟨wp_append1 (r := Rp.str) (G := fun _ => False) (y := Lx) Tryd.underlying22 infoS rfl (show 0 < 1 by decide) HOB5.out rfl rfl rfl (fun k h => h.elim) (by omega) (by decide) ?_⟩
        intro v4 w4 ho4 hk4 _ hob4
        obtain ⟨OC, oe, rfl, hoe⟩ := ho4.slice
        have hl4 := hk4.size
        have HO4 : Hid (Own Rp.str 9 w4 (w.heap.size ≤ ·) (B ++ [Lx]) (.slice OC (B ++ [Lx]).length oe)) := Lib.hid (ho4.mono fun a ha => by
          rcases ha with h | h | h
          · exact h
          · exact h.elim
          · have h' : w5.heap.size ≤ a := h
            show w.heap.size ≤ a; omega)
        have HOG4 : Hid (Own Rp.str 9 w4 (w.heap.size ≤ ·) G (.slice GA G.length gc)) := Lib.hid
          (((HOG5.out.flat (F' := fun a => (Value.slice GA G.length gc).ownBlock = some a) (fun k h => h)).keep hk4 (fun a ha e => HDIS.out a e.symm ha)).flat (fun a ha => (HGa.out a ha).1))
        have HDIS4 : Hid (∀ a, (Value.slice OC (B ++ [Lx]).length oe).ownBlock = some a → (Value.slice GA G.length gc).ownBlock ≠ some a) := Lib.hid fun a ha e => by
          rcases hob4 with h | ⟨q, h, hq⟩
          · exact HDIS.out a (h.symm.trans ha) e
          · have e' := Option.some.inj (h.symm.trans ha)
            have := (HGa.out a e).2; omega
        have HB4 := Lib.hid (HB5.out.trans (hk4.below (B := w.heap.size) (by omega) fun i hi e => by have := (HBa.out i e.symm).1; omega))
        obtain ⟨B4, hB4⟩ : ∃ z, B ++ [Lx] = z := ⟨_, rfl⟩
        rw [hB4] at HO4 HDIS4 hoe S1 ⊢
        clear ho4 hk4 hob4 hB4
        go_wp2_with fail
        go_roundw
        case rel => exact ⟨k + 1, by omega, by go_num, by rw [S3.out, Nat.add_zero], by rw [S3.out, Nat.add_zero]; exact Nat.le_trans HGS.out (Nat.mul_le_mul_right _ (Nat.le_succ k)), by rw [S1.out]; exact HO4.out, by rw [S2.out]; exact HOG4.out, HDIS4.out, HB4.out⟩
        case measure => simp [intOf]; omega
    · obtain rfl : k = l.length := by omega
      rw [List.take_length] at HEB HEG HEN
      have HU : Hid (unsafeN l = Lib.compact ((if 1024 < n then B ++ G else B).mergeSort fun x y => decide (x ≤ y))) := Lib.hid (by unfold unsafeN sortU; rw [HEB.out, HEG.out, HEN.out])
      by_cases h1024 : 1024 < n
      · rw [if_pos h1024] at HU
        have HU2 := HU
        clear HU
        go_wp2_with (with_reducible (first | refine stop_append ?_))
        refine ⟨wp_append_view (r := Rp.str) (G := fun a => (Value.slice GA G.length gc).ownBlock = some a) Tryd.underlying22 infoS rfl (show 0 < 1 by decide) HOB.out rfl rfl (HOG.out.flat (fun k h => h)).view (fun a ha e => HDIS.out a e.symm ha) (by unfold maxLen; omega) (by omega) ?_⟩
        intro v4 w4 ho4 hk4 _ _
        have hl4 := hk4.size
        have hoba : ∀ a, (Value.slice BA B.length bc).ownBlock = some a → w.heap.size ≤ a := fun a ha => by
          obtain ⟨_, _, h2, _⟩ := HOB.out
          exact h2 a ha
        have hoga : ∀ a, (Value.slice GA G.length gc).ownBlock = some a → w.heap.size ≤ a := fun a ha => by
          obtain ⟨_, _, h2, _⟩ := HOG.out
          exact h2 a ha
        have HO4 : Hid (Own Rp.str 9 w4 (w.heap.size ≤ ·) (B ++ G) v4) := Lib.hid (ho4.mono fun a ha => by
          rcases ha with h | h | h
          · exact h
          · exact hoga a h
          · have h' : wr.heap.size ≤ a := h
            show w.heap.size ≤ a; omega)
        have HB4 := Lib.hid (HB.out.trans (hk4.below (B := w.heap.size) (by omega) fun i hi e => by have := hoba i e.symm; omega))
        clear ho4 hk4 hoba hoga
        go_wp2_with fail
        refine (rsorted_any (B ++ G) v4 _ w4 HO4.out.view (by rw [List.length_append]; omega)).mono ?_
        rintro e w6 ⟨u, rfl, ho6, hb6⟩
        have ho6' : Own Rp.str 9 w6 (w.heap.size ≤ ·) (unsafeN l) u := by
          rw [HU2.out]
          exact ho6.mono fun a h => by have h' : w4.heap.size ≤ a := h; show w.heap.size ≤ a; omega
        have HB6 := Lib.hid (HB4.out.trans (hb6.mono (by omega)))
        go_wp2_with fail
        go_ret
        exact hR _ _ ⟨_, rfl, ho6', HB6.out⟩
      · rw [if_neg h1024] at HU
        have HU2 := HU
        clear HU
        go_wp2_with fail
        refine (rsorted_any B _ _ wr HOB.out.view (by omega)).mono ?_
        rintro e w6 ⟨u, rfl, ho6, hb6⟩
        have ho6' : Own Rp.str 9 w6 (w.heap.size ≤ ·) (unsafeN l) u := by
          rw [HU2.out]
          exact ho6.mono fun a h => by have h' : wr.heap.size ≤ a := h; show w.heap.size ≤ a; omega
        have HB6 := Lib.hid (HB.out.trans (hb6.mono hbs))
        go_wp2_with fail
        go_ret
        exact hR _ _ ⟨_, rfl, ho6', HB6.out⟩
end Go.Proofs.YtalbadmefpdldaaDoor.Asc
