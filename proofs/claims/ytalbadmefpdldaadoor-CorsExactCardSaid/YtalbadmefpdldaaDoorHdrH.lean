/-
  Contracts: the library's Sort and Compact of texts, header.Unsafe.
  Lengths within the rows' own reach.
-/
import Derived.Test.YtalbadmefpdldaaDoorHdrG
import Derived.Test.YtalbadmefpdldaaDoorHdrS
import Derived.Sort.OwnSorted
namespace Go.Proofs.YtalbadmefpdldaaDoor.Asc
open Go Go.RowKit Go.Sort Go.Proofs.YtalbadmefpdldaaDoor.Pb

theorem enc_eq : (fun l : Tx => Value.string (ofL l)) = encStr := rfl

theorem sort_any (ss : List Tx) (v : Value) (F : Nat → Prop) (w : World) (ho : Own Rp.str 9 w F ss v) (hl : ss.length ≤ 1000000) :
    Calls Tryd.prog 49 #[v] w fun e w' => e = .returned (.tuple #[]) ∧ Own Rp.str 9 w' F (ss.mergeSort fun x y => decide (x ≤ y)) v ∧ Keep (fun k => v.ownBlock = some k) w w' := by
  by_cases hne : ss = []
  · subst hne
    obtain ⟨A, c, rfl, _⟩ := ho.slice
    refine (Tryd.slices_Sort_string_none A c w).mono ?_
    rintro e w' ⟨rfl, rfl⟩
    exact ⟨rfl, by simpa using ho, Keep.refl _ _⟩
  · obtain ⟨g, cap, cur, cells, rfl, hFg, hg, hc, hm, hs, hcl, ht, hel⟩ := ho.block hne
    obtain rfl := hel.to_map
    have ht' : cur.toList.take ss.length = ss.map encStr := by
      have : Rp.str.sz = 1 := rfl
      rw [this, Nat.mul_one] at ht; exact ht
    refine (Tryd.slices_Sort_string g 0 cap ss w (holds_of_block hg ht') (blk_lt hg) (by omega)).mono ?_
    rintro e w' ⟨rfl, n, os, rfl⟩
    refine ⟨rfl, ?_, Keep.mono (F := fun k => some k = some g) (Keep.of_grown (grownBy_sorted _)) (fun i _ h => by rw [h]; rfl)⟩
    have hl' : (ss.mergeSort fun x y => decide (x ≤ y)).length = ss.length := by simp
    have hr := ownsRow_sorted (w := w) (base := 0) (n := n) (os := os) (ss := ss) (ts := ss.mergeSort fun x y => decide (x ≤ y)) hl' (Nat.zero_le _) hg hc hm hs
    refine ⟨(ss.mergeSort fun x y => decide (x ≤ y)).map encStr, by rw [hl']; exact hr, fun k hk => ?_, Elems.of_map _⟩
    simp [Value.ownBlock] at hk; rw [← hk]; exact hFg

theorem compact_any (ss : List Tx) (v : Value) (F : Nat → Prop) (w : World) (ho : Own Rp.str 9 w F ss v) (hl : ss.length ≤ 1000000) :
    Calls Tryd.prog 50 #[v] w fun e w' => ∃ u, e = .returned u ∧ Own Rp.str 9 w' F (Lib.compact ss) u ∧ Keep (fun k => v.ownBlock = some k) w w' := by
  by_cases hne : ss = []
  · subst hne
    obtain ⟨A, c, rfl, _⟩ := ho.slice
    refine (Tryd.slices_Compact_string_empty A c w).mono ?_
    rintro e w' ⟨rfl, rfl⟩
    exact ⟨_, rfl, ho, Keep.refl _ _⟩
  · obtain ⟨g, cap, cur, cells, rfl, hFg, hg, hc, hm, hs, hcl, ht, hel⟩ := ho.block hne
    obtain rfl := hel.to_map
    have h1 : Rp.str.sz = 1 := rfl
    rw [h1, Nat.mul_one] at hs ht
    have ht' : cur.toList.take ss.length = ss.map encStr := ht
    refine (Tryd.slices_Compact_string g 0 cap ss w (holds_of_block hg ht') (by omega) hc).mono ?_
    rintro e w' ⟨rfl, q, hw⟩
    have hcl2 := Lib.compact_length_le ss
    obtain ⟨D, hD⟩ : ∃ D, Lib.compact ss ++ List.replicate (ss.length - (Lib.compact ss).length) ([] : Tx) = D := ⟨_, rfl⟩
    have hDl : D.length = ss.length := by rw [← hD]; simp; omega
    rw [hD] at hw
    have hw' : w' = grow (putRow encStr (Sort.ahead w q) g 0 D.toArray) #[] := by rw [hw, grow_empty]
    subst hw'
    refine ⟨_, rfl, ?_, Keep.mono (F := fun k => some k = some g) (Keep.of_grown (grownBy_sorted _)) (fun i _ h => by rw [h]; rfl)⟩
    refine ⟨(Lib.compact ss).map encStr, ⟨by rw [h1, Nat.mul_one]; simp, .inr ⟨g, cap, _, rfl, Nat.zero_le _, heap_sorted _ hg, by omega, hm, by rw [h1, Nat.mul_one]; simp [putCells, hs], ?_⟩⟩, fun k hk => ?_, Elems.of_map _⟩
    · rw [h1, Nat.mul_one]
      have h2 := take_putCells cur D (by omega)
      have h3 := congrArg (List.take (Lib.compact ss).length) h2
      rw [List.take_take, Nat.min_eq_left (by omega), ← List.map_take, ← hD, List.take_left] at h3
      rw [hD] at h3
      exact h3
    · simp [Value.ownBlock] at hk; rw [← hk]; exact hFg

/-! ### Unsafe -/
def bads (l : List Fd) : List Tx := (l.filter fun f => !simple f.1 f.2).map fun f => lower f.1
def goods (l : List Fd) : List Tx := (l.filter fun f => simple f.1 f.2).map fun f => lower f.1
def gsize (l : List Fd) : Nat := ((l.filter fun f => simple f.1 f.2).map fun f => f.2.length).sum
def unsafeN (l : List Fd) : List Tx := sortU (if 1024 < gsize l then bads l ++ goods l else bads l)
theorem uns_snoc (l : List Fd) (k : Nat) (x : Fd) (h : l[k]? = some x) :
    bads (l.take (k + 1)) = bads (l.take k) ++ (if simple x.1 x.2 = true then [] else [lower x.1]) ∧ goods (l.take (k + 1)) = goods (l.take k) ++ (if simple x.1 x.2 = true then [lower x.1] else []) ∧ gsize (l.take (k + 1)) = gsize (l.take k) + (if simple x.1 x.2 = true then x.2.length else 0) := by
  unfold bads goods gsize
  rw [List.take_add_one, h, List.filter_append, List.filter_append, List.map_append, List.map_append, List.map_append, List.sum_append]
  cases hs : simple x.1 x.2 <;> simp [hs]
theorem uns_len (l : List Fd) (k : Nat) : (bads (l.take k)).length + (goods (l.take k)).length ≤ k := by
  induction k with
  | zero => simp [bads, goods]
  | succ k ih =>
    by_cases h : k < l.length
    · obtain ⟨h1, h2, _⟩ := uns_snoc l k l[k] (List.getElem?_eq_getElem h)
      rw [h1, h2, List.length_append, List.length_append]
      cases hs : simple l[k].1 l[k].2 <;> simp <;> omega
    · rw [List.take_of_length_le (by omega)] at *
      omega

set_option maxRecDepth 4000 in
set_option maxHeartbeats 4000000 in
theorem unsafe_any (l : List Fd) (v : Value) (F : Nat → Prop) (m : Int) (w : World) (hv : View fld w F l v) (hl : l.length ≤ 100000) (hx : ∀ x ∈ l, x.1.length ≤ 1000000 ∧ x.2.length ≤ 1000000) (hm : w.cell? ⟨0, 0, none⟩ = some (.int .i64 m)) :
    Calls Tryd.prog 30 #[v] w fun e w' => ∃ r, e = .returned r ∧ Own Rp.str 9 w' (w.heap.size ≤ ·) (unsafeN l) r ∧ Below w.heap.size w w' := by
  refine calls_gen fun R hR => ?_
  have hml := World.block_lt_of_cell? w _ hm
  have HM := Lib.hid hm; have HML := Lib.hid hml
  obtain ⟨A, c, rfl, hcl, hget⟩ := flds_get hv
  have HG := Lib.hid hget; have HXL := Lib.hid hx
  clear hget hv hx hm hml
  go_enter Tryd.func30, Tryd.ntmps30
  go_wp2_with fail
  go_loopw [3, 4, 5, 11] (fun bv gv n i wr => ∃ k : Nat, k ≤ l.length ∧ i = .int .i64 k ∧ n = .int .i64 (gsize (l.take k)) ∧ gsize (l.take k) ≤ k * 1000000 ∧ Own Rp.str 9 wr (w.heap.size ≤ ·) (bads (l.take k)) bv ∧ Own Rp.str 9 wr (w.heap.size ≤ ·) (goods (l.take k)) gv ∧ (∀ a, bv.ownBlock = some a → gv.ownBlock ≠ some a) ∧ Below w.heap.size w wr) (fun _ _ _ i _ => l.length - (intOf i).toNat)
  case atStart => exact ⟨0, Nat.zero_le _, rfl, rfl, Nat.zero_le _, Own.nil _ _ _ _, Own.nil _ _ _ _, by simp [Value.ownBlock], Below.refl _ _⟩
  case round =>
    obtain ⟨k, hk, rfl, rfl, hgs, hob, hog, hdis, hb⟩ := hrel
    have hlen := uns_len l k
    obtain ⟨BA, bc, rfl, hbc⟩ := hob.slice
    obtain ⟨GA, gc, rfl, hgc⟩ := hog.slice
    have hbs := hb.size
    obtain ⟨B, hB⟩ : ∃ z, bads (l.take k) = z := ⟨_, rfl⟩
    obtain ⟨G, hG⟩ : ∃ z, goods (l.take k) = z := ⟨_, rfl⟩
    obtain ⟨n, hn⟩ : ∃ z, gsize (l.take k) = z := ⟨_, rfl⟩
    have hn1 : n ≤ 100000000000 := by
      have : k * 1000000 ≤ 100000 * 1000000 := Nat.mul_le_mul_right _ (by omega)
      omega
    rw [hB] at hob hbc hdis hlen ⊢
    rw [hG] at hog hgc hdis hlen ⊢
    rw [hn] at hgs ⊢
    have HOB := Lib.hid hob; have HOG := Lib.hid hog; have HDIS := Lib.hid hdis; have HB := Lib.hid hb; have HEB := Lib.hid hB; have HEG := Lib.hid hG; have HEN := Lib.hid hn; have HGS := Lib.hid hgs
    have hB1 : B.length ≤ 100000 := by omega
    have hG1 : G.length ≤ 100000 := by omega
    clear hob hog hdis hb hB hG hn hgs hlen
    by_cases hlt : k < l.length
    · obtain ⟨g, off, rfl, hg, hx⟩ := HG.out k hlt
      obtain ⟨x, he⟩ : ∃ x, l[k]? = some x := ⟨_, List.getElem?_eq_getElem hlt⟩
      obtain ⟨c0, c1⟩ := hx x he
      have d0 := (HB.out.cell (p := ⟨g, off + k * 2, none⟩) hg).trans c0
      have d1 := (HB.out.cell (p := ⟨g, off + k * 2 + 1, none⟩) hg).trans c1
      obtain ⟨hx1, hx2⟩ := HXL.out x (List.mem_of_getElem? he)
      have HSN := Lib.hid (uns_snoc l k x he)
      have hgr : g < wr.heap.size := by omega
      have hNs : (ofL x.1).size ≤ 1000000 := by rw [ofL_size]; exact hx1
      have hVs : (ofL x.2).size ≤ 1000000 := by rw [ofL_size]; exact hx2
      have HVs := Lib.hid (ofL_size x.2)
      clear hx he c0 c1
      go_wp2_with fail
      have hb1 := below_new wr (.cells #[.string (ofL x.1), .string (ofL x.2)] 34)
      have g1 := blk_new wr (.cells #[.string (ofL x.1), .string (ofL x.2)] 34)
      refine (lower_any (ofL x.1) _ hNs).mono ?_
      rintro e w2 ⟨rfl, hb2⟩
      rw [toL_ofL]
      have g2 := (hb2.block wr.heap.size (by simp)).trans g1
      have hb2' := hb1.trans (hb2.mono (by simp))
      have e0 := blk_cell g2 0
      have e1 := blk_cell g2 1
      simp at e0 e1
      have hl2 := blk_lt g2
      have hs2 := hb2'.size
      have HB2 := Lib.hid (HB.out.trans (hb2'.mono hbs)); have HOB2 := Lib.hid (HOB.out.below hb2'); have HOG2 := Lib.hid (HOG.out.below hb2')
      have G2 := Lib.hid g2
      clear hb1 hb2 g1 g2 hb2'
      go_wp2_with fail
      refine (simple_any (ofL x.1) (ofL x.2) m w2 hNs hVs ((HB2.out.cell (p := ⟨0, 0, none⟩) HML.out).trans HM.out)).mono ?_
      rintro e w3 ⟨rfl, hb3⟩
      rw [toL_ofL, toL_ofL]
      have g3 := (hb3.block wr.heap.size hl2).trans G2.out
      have f0 := blk_cell g3 0
      have f1 := blk_cell g3 1
      simp at f0 f1
      have hl3 := blk_lt g3
      have hs3 := hb3.size
      have hs23 : w2.heap.size ≤ w3.heap.size := hs3
      have HB3 := Lib.hid (HB2.out.trans (hb3.mono (by omega))); have HOB3 := Lib.hid (HOB2.out.below hb3); have HOG3 := Lib.hid (HOG2.out.below hb3)
      have hB3 : ∀ a, (Value.slice BA B.length bc).ownBlock = some a → w.heap.size ≤ a ∧ a < wr.heap.size := fun a ha => by
        obtain ⟨_, _, h2, _⟩ := HOB.out.bnd
        exact h2 a ha
      have hG3 : ∀ a, (Value.slice GA G.length gc).ownBlock = some a → w.heap.size ≤ a ∧ a < wr.heap.size := fun a ha => by
        obtain ⟨_, _, h2, _⟩ := HOG.out.bnd
        exact h2 a ha
      have HBa := Lib.hid hB3; have HGa := Lib.hid hG3
      clear g3 hb3 e0 e1 HOB2 HOG2 HB2 G2 hB3 hG3
      obtain ⟨Lx, hLx⟩ : ∃ Lx, lower x.1 = Lx := ⟨_, rfl⟩
      rw [hLx] at HSN ⊢
      clear hLx
      cases hp : simple x.1 x.2 with
      | true =>
        rw [hp] at HSN
        obtain ⟨s1, s2, s3⟩ := HSN.out
        rw [if_pos rfl, List.append_nil, HEB.out] at s1
        rw [if_pos rfl, HEG.out] at s2
        rw [if_pos rfl, HEN.out] at s3
        have S1 := Lib.hid s1; have S2 := Lib.hid s2; have S3 := Lib.hid s3
        clear hp s1 s2 s3
        go_wp2_with (with_reducible (first | refine stop_append ?_))
        refine ⟨wp_append1 (r := Rp.str) (G := fun _ => False) (y := Lx) Tryd.underlying22 infoS rfl (show 0 < 1 by decide) HOG3.out rfl rfl rfl (fun k h => h.elim) (by omega) (by decide) ?_⟩
        intro v4 w4 ho4 hk4 _ hob4
        obtain ⟨OC, oe, rfl, hoe⟩ := ho4.slice
        have hl4 := hk4.size
        have g4 := hk4.cell f1 (fun e => by have := (HGa.out _ e.symm).2; simp only at this; omega)
        have hlv : wr.heap.size < w4.heap.size := by omega
        have HO4 : Hid (Own Rp.str 9 w4 (w.heap.size ≤ ·) (G ++ [Lx]) (.slice OC (G ++ [Lx]).length oe)) := Lib.hid (ho4.mono fun a ha => by
          rcases ha with h | h | h
          · exact h
          · exact h.elim
          · have h' : w3.heap.size ≤ a := h
            show w.heap.size ≤ a; omega)
        have HOB4 : Hid (Own Rp.str 9 w4 (w.heap.size ≤ ·) B (.slice BA B.length bc)) := Lib.hid
          (((HOB3.out.flat (F' := fun a => (Value.slice BA B.length bc).ownBlock = some a) (fun k h => h)).keep hk4 (fun a ha e => HDIS.out a ha e.symm)).flat (fun a ha => (HBa.out a ha).1))
        have HDIS4 : Hid (∀ a, (Value.slice BA B.length bc).ownBlock = some a → (Value.slice OC (G ++ [Lx]).length oe).ownBlock ≠ some a) := Lib.hid fun a ha e => by
          rcases hob4 with h | ⟨q, h, hq⟩
          · exact HDIS.out a ha (h.symm.trans e)
          · have e' := Option.some.inj (h.symm.trans e)
            have := (HBa.out a ha).2; omega
        have HB4 := Lib.hid (HB3.out.trans (hk4.below (B := w.heap.size) (by omega) fun i hi e => by have := (HGa.out i e.symm).1; omega))
        obtain ⟨G4, hG4⟩ : ∃ z, G ++ [Lx] = z := ⟨_, rfl⟩
        rw [hG4] at HO4 HDIS4 hoe S2 ⊢
        clear ho4 hk4 hob4 f0 f1 hG4
        have hvs := HVs.out
        go_wp2_with fail
        go_roundw
        case rel => exact ⟨k + 1, by omega, by go_num, by rw [S3.out]; first | rfl | (congr 1; omega), by rw [S3.out]; have := HGS.out; omega, by rw [S1.out]; exact HOB4.out, by rw [S2.out]; exact HO4.out, HDIS4.out, HB4.out⟩
        case measure => simp [intOf]; omega
      | false =>
        rw [hp] at HSN
        obtain ⟨s1, s2, s3⟩ := HSN.out
        rw [if_neg (by simp), HEB.out] at s1
        rw [if_neg (by simp), List.append_nil, HEG.out] at s2
        rw [if_neg (by simp), Nat.add_zero, HEN.out] at s3
        have S1 := Lib.hid s1; have S2 := Lib.hid s2; have S3 := Lib.hid s3
        clear hp s1 s2 s3
        go_wp2_with (with_reducible (first | refine stop_append ?_))
        refine ⟨wp_append1 (r := Rp.str) (G := fun _ => False) (y := Lx) Tryd.underlying22 infoS rfl (show 0 < 1 by decide) HOB3.out rfl rfl rfl (fun k h => h.elim) (by omega) (by decide) ?_⟩
        intro v4 w4 ho4 hk4 _ hob4
        obtain ⟨OC, oe, rfl, hoe⟩ := ho4.slice
        have hl4 := hk4.size
        have HO4 : Hid (Own Rp.str 9 w4 (w.heap.size ≤ ·) (B ++ [Lx]) (.slice OC (B ++ [Lx]).length oe)) := Lib.hid (ho4.mono fun a ha => by
          rcases ha with h | h | h
          · exact h
          · exact h.elim
          · have h' : w3.heap.size ≤ a := h
            show w.heap.size ≤ a; omega)
        have HOG4 : Hid (Own Rp.str 9 w4 (w.heap.size ≤ ·) G (.slice GA G.length gc)) := Lib.hid
          (((HOG3.out.flat (F' := fun a => (Value.slice GA G.length gc).ownBlock = some a) (fun k h => h)).keep hk4 (fun a ha e => HDIS.out a e.symm ha)).flat (fun a ha => (HGa.out a ha).1))
        have HDIS4 : Hid (∀ a, (Value.slice OC (B ++ [Lx]).length oe).ownBlock = some a → (Value.slice GA G.length gc).ownBlock ≠ some a) := Lib.hid fun a ha e => by
          rcases hob4 with h | ⟨q, h, hq⟩
          · exact HDIS.out a (h.symm.trans ha) e
          · have e' := Option.some.inj (h.symm.trans ha)
            have := (HGa.out a e).2; omega
        have HB4 := Lib.hid (HB3.out.trans (hk4.below (B := w.heap.size) (by omega) fun i hi e => by have := (HBa.out i e.symm).1; omega))
        obtain ⟨B4, hB4⟩ : ∃ z, B ++ [Lx] = z := ⟨_, rfl⟩
        rw [hB4] at HO4 HDIS4 hoe S1 ⊢
        clear ho4 hk4 hob4 f0 f1 hB4
        go_wp2_with fail
        go_roundw
        case rel => exact ⟨k + 1, by omega, by go_num, by rw [S3.out, Nat.add_zero], by rw [S3.out, Nat.add_zero]; exact Nat.le_trans HGS.out (Nat.mul_le_mul_right _ (Nat.le_succ k)), by rw [S1.out]; exact HO4.out, by rw [S2.out]; exact HOG4.out, HDIS4.out, HB4.out⟩
        case measure => simp [intOf]; omega
    · obtain rfl : k = l.length := by omega
      rw [List.take_length] at HEB HEG HEN
      have HU : Hid (unsafeN l = Lib.compact ((if 1024 < n then B ++ G else B).mergeSort fun x y => decide (x ≤ y))) := Lib.hid (by unfold unsafeN sortU; rw [HEB.out, HEG.out, HEN.out])
      by_cases h1024 : 1024 < n
      · rw [if_pos h1024] at HU
        have HU2 := HU
        clear HU
        go_wp2_with (with_reducible (first | refine stop_append ?_))
        refine ⟨wp_append_view (r := Rp.str) (G := fun a => (Value.slice GA G.length gc).ownBlock = some a) Tryd.underlying22 infoS rfl (show 0 < 1 by decide) HOB.out rfl rfl (HOG.out.flat (fun k h => h)).view (fun a ha e => HDIS.out a e.symm ha) (by unfold maxLen; omega) (by omega) ?_⟩
        intro v4 w4 ho4 hk4 _ _
        have hl4 := hk4.size
        have hoba : ∀ a, (Value.slice BA B.length bc).ownBlock = some a → w.heap.size ≤ a := fun a ha => by
          obtain ⟨_, _, h2, _⟩ := HOB.out
          exact h2 a ha
        have hoga : ∀ a, (Value.slice GA G.length gc).ownBlock = some a → w.heap.size ≤ a := fun a ha => by
          obtain ⟨_, _, h2, _⟩ := HOG.out
          exact h2 a ha
        have HO4 : Hid (Own Rp.str 9 w4 (w.heap.size ≤ ·) (B ++ G) v4) := Lib.hid (ho4.mono fun a ha => by
          rcases ha with h | h | h
          · exact h
          · exact hoga a h
          · have h' : wr.heap.size ≤ a := h
            show w.heap.size ≤ a; omega)
        have HB4 := Lib.hid (HB.out.trans (hk4.below (B := w.heap.size) (by omega) fun i hi e => by have := hoba i e.symm; omega))
        clear ho4 hk4 hoba hoga
        go_wp2_with fail
        refine (sort_any (B ++ G) v4 _ w4 HO4.out (by rw [List.length_append]; omega)).mono ?_
        rintro e w5 ⟨rfl, ho5, hk5⟩
        have hv4 : ∀ a, v4.ownBlock = some a → w.heap.size ≤ a := fun a ha => by
          obtain ⟨_, _, h2, _⟩ := HO4.out
          exact h2 a ha
        have HB5 := Lib.hid (HB4.out.trans (hk5.below (B := w.heap.size) (by omega) fun i hi e => by have := hv4 i e; omega))
        have HO5 := Lib.hid ho5
        have hl5 := hk5.size
        clear ho5 hk5 hv4
        go_wp2_with fail
        refine (compact_any _ v4 _ w5 HO5.out (by rw [List.length_mergeSort, List.length_append]; omega)).mono ?_
        rintro e w6 ⟨u, rfl, ho6, hk6⟩
        have hv4 : ∀ a, v4.ownBlock = some a → w.heap.size ≤ a := fun a ha => by
          obtain ⟨_, _, h2, _⟩ := HO4.out
          exact h2 a ha
        have HB6 := Lib.hid (HB5.out.trans (hk6.below (B := w.heap.size) (by omega) fun i hi e => by have := hv4 i e; omega))
        rw [← HU2.out] at ho6
        go_wp2_with fail
        go_ret
        exact hR _ _ ⟨_, rfl, ho6, HB6.out⟩
      · rw [if_neg h1024] at HU
        have HU2 := HU
        clear HU
        go_wp2_with fail
        refine (sort_any B _ _ wr HOB.out (by omega)).mono ?_
        rintro e w5 ⟨rfl, ho5, hk5⟩
        have hv4 : ∀ a, (Value.slice BA B.length bc).ownBlock = some a → w.heap.size ≤ a := fun a ha => by
          obtain ⟨_, _, h2, _⟩ := HOB.out
          exact h2 a ha
        have HB5 := Lib.hid (HB.out.trans (hk5.below (B := w.heap.size) (by omega) fun i hi e => by have := hv4 i e; omega))
        have HO5 := Lib.hid ho5
        have hl5 := hk5.size
        clear ho5 hk5
        go_wp2_with fail
        refine (compact_any _ _ _ w5 HO5.out (by rw [List.length_mergeSort]; omega)).mono ?_
        rintro e w6 ⟨u, rfl, ho6, hk6⟩
        have HB6 := Lib.hid (HB5.out.trans (hk6.below (B := w.heap.size) (by omega) fun i hi e => by have := hv4 i e; omega))
        rw [← HU2.out] at ho6
        go_wp2_with fail
        go_ret
        exact hR _ _ ⟨_, rfl, ho6, HB6.out⟩
end Go.Proofs.YtalbadmefpdldaaDoor.Asc
