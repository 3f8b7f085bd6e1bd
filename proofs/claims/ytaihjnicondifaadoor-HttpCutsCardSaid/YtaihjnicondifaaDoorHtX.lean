/-
  Contracts: two rows of Items are held against each other; a parser that is none is fed.
  No condition.
-/
import Derived.Test.YtaihjnicondifaaDoorHtS
namespace Go.Proofs.YtaihjnicondifaaDoor.Asc
open Go Go.RowKit Go.Proofs.YtaihjnicondifaaDoor.Pb

def agg6 (st : Int) (a b : ByteArray) (A : Option Addr) (l c : Nat) (d : ByteArray) (e : Bool) : Value := .agg #[.int .i64 st, .string a, .string b, .slice A l c, .string d, .bool e]

set_option maxHeartbeats 1000000 in
set_option maxRecDepth 20000 in
theorem item_any (w : World) (st : Int) (a b : ByteArray) (A : Option Addr) (l c : Nat) (d : ByteArray) (q : Bool) :
    Calls Tryd.prog 22 #[agg6 st a b A l c d q] w fun e w' => e = .returned (agg6 st a b A l c d q) ∧ Below w.heap.size w w' := by
  refine calls_gen fun R hR => ?_
  unfold agg6 at hR ⊢
  go_enter Tryd.func22, Tryd.ntmps22
  go_upto_region 1 with fail
  obtain ⟨w2, hw2⟩ : ∃ w2, (w.alloc (.cells #[.int .i64 st, .string a, .string b, .slice A l c, .string d, .bool q] 41)).alloc (.cells #[.int .i64 0, .string ⟨#[]⟩, .string ⟨#[]⟩, .slice none 0 0, .string ⟨#[]⟩, .bool false] 54) = w2 := ⟨_, rfl⟩
  have GX : Hid (w2.heap[w.heap.size]? = some (.cells #[.int .i64 st, .string a, .string b, .slice A l c, .string d, .bool q] 41 (0, 0))) := Lib.hid (hw2 ▸ blk_past (blk_new w _))
  have GY : Hid (w2.heap[w.heap.size + 1]? = some (.cells #[.int .i64 0, .string ⟨#[]⟩, .string ⟨#[]⟩, .slice none 0 0, .string ⟨#[]⟩, .bool false] 54 (0, 0))) := Lib.hid (by
    have := blk_new (w.alloc (.cells #[.int .i64 st, .string a, .string b, .slice A l c, .string d, .bool q] 41)) (.cells #[.int .i64 0, .string ⟨#[]⟩, .string ⟨#[]⟩, .slice none 0 0, .string ⟨#[]⟩, .bool false] 54)
    simp only [World.size_alloc] at this
    rw [← hw2]; exact this)
  have HB2 : Hid (Below w.heap.size w w2) := Lib.hid (hw2 ▸ ((Below.refl w.heap.size w).alloc (Nat.le_refl _) _).alloc (by simp) _)
  rw [hw2]
  clear hw2
  obtain ⟨x0, x1, x2, x3, x4, x5⟩ := cell6 GX.out
  obtain ⟨y0, y1, y2, y3, y4, y5⟩ := cell6 GY.out
  have f0 := blk_free GY.out 0
  have f1 := blk_free GY.out 1
  have f2 := blk_free GY.out 2
  have f3 := blk_free GY.out 3
  have f4 := blk_free GY.out 4
  have f5 := blk_free GY.out 5
  have hltx := blk_lt GX.out
  have hlty := blk_lt GY.out
  go_wp2_with fail
  have Z := cell6 (blk6 GY.out (.int .i64 st) (.string a) (.string b) (.slice A l c) (.string d) (.bool q))
  unfold put6 at Z
  obtain ⟨z0, z1, z2, z3, z4, z5⟩ := Z
  exact bodyPost_ret (v := .agg #[.int .i64 st, .string a, .string b, .slice A l c, .string d, .bool q]) (by simp [results, Tryd.results22, go_sem, z0, z1, z2, z3, z4, z5]) rfl (hR _ _ ⟨rfl, below_set (below_set (below_set (below_set (below_set (below_set HB2.out (by show w.heap.size ≤ w.heap.size + 1; omega) _) (by show w.heap.size ≤ w.heap.size + 1; omega) _) (by show w.heap.size ≤ w.heap.size + 1; omega) _) (by show w.heap.size ≤ w.heap.size + 1; omega) _) (by show w.heap.size ≤ w.heap.size + 1; omega) _) (by show w.heap.size ≤ w.heap.size + 1; omega) _⟩)

set_option maxHeartbeats 2000000 in
set_option maxRecDepth 20000 in
/-- SameItem of two that are alike -/
theorem sameitem_any (w : World) (st : Int) (a b d : ByteArray) (q : Bool) (fs : List Fd) (hfs : fs.length ≤ 1000000) (A1 A2 : Option Addr) (n1 n2 : Nat) (F1 F2 : Nat → Prop) (h1 : View fld w F1 fs (.slice A1 fs.length n1)) (h2 : View fld w F2 fs (.slice A2 fs.length n2)) :
    Calls Tryd.prog 29 #[agg6 st a b A1 fs.length n1 d q, agg6 st a b A2 fs.length n2 d q] w fun e w' => e = .returned (.bool true) ∧ Below w.heap.size w w' := by
  refine calls_gen fun R hR => ?_
  unfold agg6
  have H1 := Lib.hid h1; have H2 := Lib.hid h2
  clear h1 h2
  go_enter Tryd.func29, Tryd.ntmps29
  go_upto_region 1 with fail
  obtain ⟨w2, hw2⟩ : ∃ w2, (w.alloc (.cells #[.int .i64 st, .string a, .string b, .slice A1 fs.length n1, .string d, .bool q] 54)).alloc (.cells #[.int .i64 st, .string a, .string b, .slice A2 fs.length n2, .string d, .bool q] 54) = w2 := ⟨_, rfl⟩
  have GX : Hid (w2.heap[w.heap.size]? = some (.cells #[.int .i64 st, .string a, .string b, .slice A1 fs.length n1, .string d, .bool q] 54 (0, 0))) := Lib.hid (hw2 ▸ blk_past (blk_new w _))
  have GY : Hid (w2.heap[w.heap.size + 1]? = some (.cells #[.int .i64 st, .string a, .string b, .slice A2 fs.length n2, .string d, .bool q] 54 (0, 0))) := Lib.hid (by
    have := blk_new (w.alloc (.cells #[.int .i64 st, .string a, .string b, .slice A1 fs.length n1, .string d, .bool q] 54)) (.cells #[.int .i64 st, .string a, .string b, .slice A2 fs.length n2, .string d, .bool q] 54)
    simp only [World.size_alloc] at this
    rw [← hw2]; exact this)
  have HB2 : Hid (Below w.heap.size w w2) := Lib.hid (hw2 ▸ ((Below.refl w.heap.size w).alloc (Nat.le_refl _) _).alloc (by simp) _)
  rw [hw2]
  clear hw2
  obtain ⟨x0, x1, x2, x3, x4, x5⟩ := cell6 GX.out
  obtain ⟨y0, y1, y2, y3, y4, y5⟩ := cell6 GY.out
  have hltx := blk_lt GX.out
  have hlty := blk_lt GY.out
  go_upto_region 3 with fail
  obtain ⟨w4, hw4⟩ : ∃ w4, (w2.alloc (.cells #[.string a, .string b, .slice A1 fs.length n1, .string d, .bool q] 31)).alloc (.cells #[.string a, .string b, .slice A2 fs.length n2, .string d, .bool q] 31) = w4 := ⟨_, rfl⟩
  have G1 : Hid (w4.heap[w2.heap.size]? = some (.cells #[.string a, .string b, .slice A1 fs.length n1, .string d, .bool q] 31 (0, 0))) := Lib.hid (hw4 ▸ blk_past (blk_new w2 _))
  have G2 : Hid (w4.heap[w2.heap.size + 1]? = some (.cells #[.string a, .string b, .slice A2 fs.length n2, .string d, .bool q] 31 (0, 0))) := Lib.hid (by
    have := blk_new (w2.alloc (.cells #[.string a, .string b, .slice A1 fs.length n1, .string d, .bool q] 31)) (.cells #[.string a, .string b, .slice A2 fs.length n2, .string d, .bool q] 31)
    simp only [World.size_alloc] at this
    rw [← hw4]; exact this)
  have HB24 : Hid (Below w2.heap.size w2 w4) := Lib.hid (hw4 ▸ ((Below.refl w2.heap.size w2).alloc (Nat.le_refl _) _).alloc (by simp) _)
  have HB4 : Hid (Below w.heap.size w w4) := Lib.hid (HB2.out.trans (HB24.out.mono HB2.out.size))
  rw [hw4]
  clear hw4 x0 x1 x2 x3 x4 x5 y0 y1 y2 y3 y4 y5
  have x0 := (HB24.out.cell (p := ⟨w.heap.size, 0, none⟩) hltx).trans (cell6 GX.out).1
  have y0 := (HB24.out.cell (p := ⟨w.heap.size + 1, 0, none⟩) hlty).trans (cell6 GY.out).1
  have hltx4 := Nat.lt_of_lt_of_le hltx HB24.out.size
  have hlty4 := Nat.lt_of_lt_of_le hlty HB24.out.size
  have u0 := blk_cell G1.out 0
  have v0 := blk_cell G2.out 0
  have u1 := blk_cell G1.out 1
  have v1 := blk_cell G2.out 1
  have u2 := blk_cell G1.out 2
  have v2 := blk_cell G2.out 2
  have u3 := blk_cell G1.out 3
  have v3 := blk_cell G2.out 3
  have u4 := blk_cell G1.out 4
  have v4 := blk_cell G2.out 4
  simp only [List.getElem?_toArray, List.getElem?_cons_zero, List.getElem?_cons_succ] at u0 u1 u2 u3 u4 v0 v1 v2 v3 v4
  have hl1 := blk_lt G1.out
  have hl2 := blk_lt G2.out
  have g1 : ((st : Int) != st) = false := bne_self_eq_false ..
  have g2 : (a.toList != a.toList) = false := bne_self_eq_false ..
  have g3 : (b.toList != b.toList) = false := bne_self_eq_false ..
  have g4 : (d.toList != d.toList) = false := bne_self_eq_false ..
  have g5 : (q != q) = false := bne_self_eq_false ..
  have g6 : ((fs.length : Int) != fs.length) = false := bne_self_eq_false ..
  go_upto_region 5 with fail
  go_wp2_with fail
  clear u0 u1 u2 u3 u4 v0 v1 v2 v3 v4 x0 y0 hltx4 hlty4 g1 g2 g3 g4 g5 g6
  go_loopw [7] (fun i wr => ∃ k : Nat, k ≤ fs.length ∧ i = .int .i64 k ∧ Below w4.heap.size w4 wr) (fun i _ => fs.length - (intOf i).toNat)
  case atStart => exact ⟨0, Nat.zero_le _, rfl, Below.refl _ _⟩
  case round =>
    obtain ⟨k, hk, rfl, hb⟩ := hrel
    have HB := Lib.hid hb
    have u2 := (hb.cell (p := ⟨w2.heap.size, 2, none⟩) hl1).trans (blk_cell G1.out 2)
    have v2 := (hb.cell (p := ⟨w2.heap.size + 1, 2, none⟩) hl2).trans (blk_cell G2.out 2)
    simp only [List.getElem?_toArray, List.getElem?_cons_zero, List.getElem?_cons_succ] at u2 v2
    have hl1r := Nat.lt_of_lt_of_le hl1 hb.size
    have hl2r := Nat.lt_of_lt_of_le hl2 hb.size
    have HBW : Hid (Below w.heap.size w wr) := Lib.hid (HB4.out.trans (hb.mono HB4.out.size))
    clear hb
    by_cases hlt : k < fs.length
    · obtain ⟨x, hx⟩ : ∃ x, fs[k]? = some x := ⟨_, List.getElem?_eq_getElem hlt⟩
      obtain ⟨B1, c1, e1, _, hg1⟩ := flds_get (H1.out.below HBW.out)
      obtain ⟨B2, c2, e2, _, hg2⟩ := flds_get (H2.out.below HBW.out)
      cases e1
      cases e2
      obtain ⟨b1, o1, e1, hb1, hc1⟩ := hg1 k hlt
      obtain ⟨b2, o2, e2, hb2, hc2⟩ := hg2 k hlt
      subst e1 e2
      obtain ⟨d1, d2⟩ := hc1 x hx
      obtain ⟨d3, d4⟩ := hc2 x hx
      obtain ⟨X, hX⟩ : ∃ X, ofL x.1 = X := ⟨_, rfl⟩
      obtain ⟨Y, hY⟩ : ∃ Y, ofL x.2 = Y := ⟨_, rfl⟩
      rw [hX] at d1 d3
      rw [hY] at d2 d4
      have hq0 : (0 : Int) ≤ (k : Int) := by omega
      have hq1 : (k : Int) < (fs.length : Int) := by omega
      clear hX hY hg1 hg2 hc1 hc2 hx
      go_wp2_with fail
      go_quiet (fail)
      go_wp2_with fail
      go_roundw
      case rel => exact ⟨k + 1, by omega, by go_num, HB.out.drewN _⟩
      case measure => simp [intOf]; omega
    · obtain rfl : k = fs.length := by omega
      go_wp2_with fail
      go_ret
      exact hR _ _ ⟨rfl, HBW.out⟩
end Go.Proofs.YtaihjnicondifaaDoor.Asc
