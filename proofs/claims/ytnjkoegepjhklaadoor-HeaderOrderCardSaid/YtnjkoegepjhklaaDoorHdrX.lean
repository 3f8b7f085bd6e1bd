/-
  The law parapetlaw13.HeaderLists answers true.
  The library's MaxLen is a number; arguments within the rows' own reach.
-/
import Derived.Test.YtnjkoegepjhklaaDoorHdrW
namespace Go.Proofs.YtnjkoegepjhklaaDoor.Asc
open Go Go.RowKit Go.Proofs.YtnjkoegepjhklaaDoor.Pb

set_option maxRecDepth 20000 in
set_option maxHeartbeats 4000000 in
theorem lists_walk (a : List Tx) (va : Value) (F : Nat → Prop) (b : List Tx) (vb : Value) (G : Nat → Prop) (m : Int) (w : World) (hm : MaxLen m w) (ha : View Rp.str w F a va) (hal : a.length ≤ 140737488351232) (hax : ∀ x ∈ a, x.length ≤ 140737488351232)
    (hb : View Rp.str w G b vb) (hbl : b.length ≤ 140737488351232) (hbx : ∀ x ∈ b, x.length ≤ 140737488351232) :
    Calls Tryd.prog 8 #[va, vb] w fun e w' => e = .returned (.bool true) ∧ Below w.heap.size w w' := by
  refine calls_gen fun R hR => ?_
  have HM := Lib.hid hm; have HA := Lib.hid ha; have HAX := Lib.hid hax; have HBV := Lib.hid hb; have HBX := Lib.hid hbx
  clear hm ha hax hb hbx
  go_enter Tryd.func8, Tryd.ntmps8
  go_wp2_with fail
  refine (total_any a va _ w 3000 (by omega) HAX.out hal HA.out).mono ?_
  rintro e w' ⟨rfl, n1, rfl, h11, h12, h13⟩
  go_wp2_with fail
  refine (total_any b vb _ w 3000 (by omega) HBX.out hbl HBV.out).mono ?_
  rintro e w' ⟨rfl, n2, rfl, h21, h22, h23⟩
  by_cases h3 : 3000 < n1 + n2
  · clear h11 h12 h21 h22
    go_wp2_with fail
    refine (awake_any m w HM.out).mono ?_
    rintro e w2 ⟨rfl, hb2⟩
    go_wp2_with fail
    go_ret
    exact hR _ _ ⟨rfl, hb2⟩
  · have hta : total a ≤ 3000 := by have := h11 (by omega); omega
    have htb : total b ≤ 3000 := by have := h21 (by omega); omega
    have hal2 : a.length ≤ 3000 := by have := total_len a; omega
    have hbl2 : b.length ≤ 3000 := by have := total_len b; omega
    have HAX2 : Hid (∀ x ∈ a, x.length ≤ 1000000) := Lib.hid fun x hx => by have := total_mem a x hx; omega
    have HBX2 : Hid (∀ x ∈ b, x.length ≤ 1000000) := Lib.hid fun x hx => by have := total_mem b x hx; omega
    have HAS : Hid (sumLen (listOf a) ≤ 3000) := Lib.hid (by have := listOf_sum a; have := sumLen_total a; omega)
    have HBS : Hid (sumLen (listOf b) ≤ 3000) := Lib.hid (by have := listOf_sum b; have := sumLen_total b; omega)
    have HABS : Hid (sumLen (listOf (a ++ b)) ≤ 6000) := Lib.hid (by rw [listOf_app, sumLen_app]; have := HAS.out; have := HBS.out; omega)
    clear h11 h12 h21 h22 hta htb HAX HBX
    go_wp2_with fail
    refine (list_any a va _ w HA.out (by omega) HAX2.out m HM.out).mono ?_
    rintro e w1 ⟨vx, rfl, hox, hb1⟩
    have HB1 := Lib.hid hb1; have HM1 := Lib.hid (HM.out.below hb1); have HA1 := Lib.hid (HA.out.below hb1); have HBV1 := Lib.hid (HBV.out.below hb1); have HX1 := Lib.hid hox
    clear hb1 hox
    go_wp2_with fail
    refine (list_any b vb _ w1 HBV1.out (by omega) HBX2.out m HM1.out).mono ?_
    rintro e w2 ⟨vy, rfl, hoy, hb2⟩
    have HB2 := Lib.hid (HB1.out.trans (hb2.mono HB1.out.size)); have HM2 := Lib.hid (HM1.out.below hb2); have HA2 := Lib.hid (HA1.out.below hb2); have HBV2 := Lib.hid (HBV1.out.below hb2); have HX2 := Lib.hid (HX1.out.below hb2); have HY2 := Lib.hid hoy
    have hs2 := HB2.out.size
    clear hb2 hoy HB1 HM1 HA1 HBV1 HX1
    go_wp2_with (with_reducible (first | refine stop_append ?_))
    refine ⟨wp_clone Tryd.underlying26 infoS rfl (show 0 < 1 by decide) rfl rfl HA2.out (by unfold maxLen; omega) (by omega) ?_⟩
    rintro v3 w3 ho3 hb3 ⟨g3, c3, rfl, hc3, hg3⟩
    have HO3 : Hid (Own Rp.str 9 w3 (fun k => k = g3) a (.slice (some ⟨g3, 0, none⟩) a.length c3)) := Lib.hid (ho3.flat fun k hk => by simp [Value.ownBlock] at hk; exact hk.symm)
    have hs3 := hb3.size
    have HK3 := Lib.hid hb3
    have HBV3 : Hid (View Rp.str w3 (fun k => G k ∧ k < w2.heap.size) b vb) := Lib.hid (HBV2.out.bnd.below hb3)
    clear ho3 hb3
    go_wp2_with (with_reducible (first | refine stop_append ?_))
    refine ⟨wp_append_view (r := Rp.str) (G := fun k => G k ∧ k < w2.heap.size) Tryd.underlying26 infoS rfl (show 0 < 1 by decide) HO3.out rfl rfl HBV3.out (fun k hk e => by simp [Value.ownBlock] at e; omega) (by unfold maxLen; omega) (by omega) ?_⟩
    intro v4 w4 ho4 hk4 _ _
    have hb4 : Below w2.heap.size w2 w4 := HK3.out.trans (hk4.below (B := w2.heap.size) hs3 fun i hi e => by simp [Value.ownBlock] at e; omega)
    have HB4 := Lib.hid (HB2.out.trans (hb4.mono hs2)); have HM4 := Lib.hid (HM2.out.below hb4); have HX4 := Lib.hid (HX2.out.below hb4); have HY4 := Lib.hid (HY2.out.below hb4); have HO4 := Lib.hid ho4
    have hs4 := HB4.out.size
    have HABX : Hid (∀ x ∈ a ++ b, x.length ≤ 1000000) := Lib.hid fun x hx => by
      rcases List.mem_append.1 hx with h | h
      · exact HAX2.out x h
      · exact HBX2.out x h
    have habl : (a ++ b).length ≤ 6000 := by rw [List.length_append]; omega
    clear ho4 hk4 hb4 HB2 HM2 HA2 HBV2 HX2 HY2 HO3 HK3 HBV3
    obtain ⟨Z, hZ⟩ : ∃ Z, a ++ b = Z := ⟨_, rfl⟩
    rw [hZ] at HO4 HABX habl HABS
    have HZ : Hid (listOf Z = listOf a ++ listOf b) := Lib.hid (by rw [← hZ, listOf_app])
    clear hZ
    go_wp2_with fail
    refine (list_any Z v4 _ w4 HO4.out.view (by omega) HABX.out m HM4.out).mono ?_
    rintro e w5 ⟨vz, rfl, hoz, hb5⟩
    have HB5 := Lib.hid (HB4.out.trans (hb5.mono hs4)); have HM5 := Lib.hid (HM4.out.below hb5); have HX5 := Lib.hid (HX4.out.below hb5); have HY5 := Lib.hid (HY4.out.below hb5); have HZ5 := Lib.hid hoz
    have hs5 := HB5.out.size
    clear hb5 hoz HB4 HM4 HX4 HY4 HO4
    have HP : Hid (∀ x ∈ listOf a, Piece x) := Lib.hid (listOf_piece a)
    obtain ⟨X, hX⟩ : ∃ X, listOf a = X := ⟨_, rfl⟩
    obtain ⟨Y, hY⟩ : ∃ Y, listOf b = Y := ⟨_, rfl⟩
    rw [hX] at HX5 HZ HAS HP
    rw [hY] at HY5 HZ HBS
    have hXl : X.length ≤ 3000 := by have := sum_count X; have := HAS.out; omega
    have hYl : Y.length ≤ 3000 := by have := sum_count Y; have := HBS.out; omega
    clear hX hY
    obtain ⟨XA, xc, rfl, hxc, hget⟩ := HX5.out.view.open1
    have HG := Lib.hid hget
    clear hget
    go_wp2_with fail
    go_loopw [8, 9] (fun t i wr => ∃ k : Nat, k ≤ X.length ∧ i = .int .i64 k ∧ Below w5.heap.size w5 wr ∧ ∃ T : ByteArray, t = .string T ∧ Hid (toL T = joinT (X.take k))) (fun _ i _ => X.length - (intOf i).toNat)
    case atStart => exact ⟨0, Nat.zero_le _, rfl, Below.refl _ _, _, rfl, Lib.hid rfl⟩
    case round =>
      obtain ⟨k, hk, rfl, hbr, T, rfl, hT⟩ := hrel
      have HBR := Lib.hid hbr
      have hbs := hbr.size
      clear hbr
      by_cases hlt : k < X.length
      · obtain ⟨g, off, rfl, hg, hx⟩ := HG.out k hlt
        obtain ⟨x, he⟩ : ∃ x, X[k]? = some x := ⟨_, List.getElem?_eq_getElem hlt⟩
        have d0 := (HBR.out.cell (p := ⟨g, off + k, none⟩) hg).trans (hx k x he)
        have hgr : g < wr.heap.size := by omega
        have hp := HP.out x (List.mem_of_getElem? he)
        have HSN := Lib.hid (joinT_snoc X k x he)
        have HXL : Hid (x.length ≤ 3000) := Lib.hid (by have := sum_mem_len X x (List.mem_of_getElem? he); have := HAS.out; omega)
        obtain ⟨S, hS⟩ : ∃ S, ofL x = S := ⟨_, rfl⟩
        rw [hS] at d0
        have HS : Hid (toL S = x) := Lib.hid (by rw [← hS, toL_ofL])
        have hsz : S.size = x.length := by rw [← hS, ofL_size]
        have h0 : 0 < S.size := by
          rw [hsz]; exact List.length_pos_iff.2 hp.1
        have hl1 : S.size - 1 < S.size := by omega
        have hsl : S.size ≤ 3000 := by have := HXL.out; omega
        have hTs : T.size ≤ 9000 := by
          rw [← toL_len, hT.out]
          have := joinT_sum (X.take k); have := sumLen_take X k; have := HAS.out; omega
        have hq1 : (1 : Int) ≤ (S.size : Int) := by omega
        have hq2 : (S.size : Int) - 1 < (S.size : Int) := by omega
        have hq3 : (0 : Int) ≤ (S.size : Int) - 1 := by omega
        have hq4 : ((S.size : Int) - 1).toNat = S.size - 1 := by omega
        have e1 : (S.toList == ([] : List UInt8)) = false := by
          rw [toList_toL, HS.out, isEmpty_beq]
          cases hxx : x with
          | nil => exact (hp.1 hxx).elim
          | cons _ _ => rfl
        have t0 : isTB S[0] = false := by
          obtain ⟨y, r, e, hy, _⟩ := piece_at x hp
          have : S[0] = y := by
            rw [← toL_get S 0 h0]
            simp only [HS.out, e, List.getElem_cons_zero]
          rw [this, hy]
        have tl : isTB S[S.size - 1] = false := by
          have hq : x.length - 1 < x.length := by omega
          have := piece_last x hp hq
          rw [← toL_get S (S.size - 1) hl1]
          simp only [HS.out, hsz]
          exact this
        have e2 : ((S[0].toNat : Int) == 32) = false := by
          rcases isTB_ways S[0] with ⟨h, _⟩ | ⟨h, _⟩ | ⟨_, h, _⟩
          · rw [h] at t0; cases t0
          · rw [h] at t0; cases t0
          · exact h
        have e3 : ((S[S.size - 1].toNat : Int) == 9) = false := by
          rcases isTB_ways S[S.size - 1] with ⟨h, _⟩ | ⟨h, _⟩ | ⟨_, _, h⟩
          · rw [h] at tl; cases tl
          · rw [h] at tl; cases tl
          · exact h
        clear hx he hp hS hsz t0 tl
        go_wp2_with fail
        go_quiet (fail)
        by_cases hk0 : 0 < k
        · rw [if_neg (by omega)] at HSN
          have HSN2 := HSN
          clear HSN
          go_wp2_with fail
          go_roundw
          case rel => exact ⟨k + 1, by omega, by go_num, HBR.out.drewN _, _, rfl, Lib.hid (by rw [toL_cat, toL_cat, HS.out, hT.out, HSN2.out, List.append_assoc]; rfl)⟩
          case measure => simp [intOf]; omega
        · rw [if_pos (by omega)] at HSN
          have HSN2 := HSN
          clear HSN
          go_wp2_with fail
          go_roundw
          case rel => exact ⟨k + 1, by omega, by go_num, HBR.out.drewN _, _, rfl, Lib.hid (by rw [toL_cat, HS.out, hT.out, HSN2.out]; rfl)⟩
          case measure => simp [intOf]; omega
      · obtain rfl : k = X.length := by omega
        rw [List.take_length] at hT
        have HXV : Hid (View Rp.str wr (fun k => w.heap.size ≤ k) X (.slice XA X.length xc)) := Lib.hid (HX5.out.view.below HBR.out)
        have HB5r := Lib.hid (HB5.out.trans (HBR.out.mono hs5)); have HM5r := Lib.hid (HM5.out.below HBR.out); have HY5r := Lib.hid (HY5.out.below HBR.out); have HZ5r := Lib.hid (HZ5.out.below HBR.out)
        have hs5r := HB5r.out.size
        have HJL : Hid (T.size ≤ 9000) := Lib.hid (by rw [← toL_len, hT.out]; have := joinT_sum X; have := HAS.out; omega)
        have HJ : Hid (listOf [toL T] = X) := Lib.hid (by rw [hT.out]; exact listOf_join X HP.out)
        clear HP hT
        go_wp2_with (with_reducible (first | refine stop_append ?_))
        refine ⟨wp_clone Tryd.underlying26 infoS rfl (show 0 < 1 by decide) rfl rfl HXV.out (by unfold maxLen; omega) (by omega) ?_⟩
        rintro v6 w6 ho6 hb6 ⟨g6, c6, rfl, hc6, hg6⟩
        have HO6 : Hid (Own Rp.str 9 w6 (fun k => k = g6) X (.slice (some ⟨g6, 0, none⟩) X.length c6)) := Lib.hid (ho6.flat fun k hk => by simp [Value.ownBlock] at hk; exact hk.symm)
        have hs6 := hb6.size
        have HK6 := Lib.hid hb6
        have HY6 : Hid (View Rp.str w6 (fun k => w1.heap.size ≤ k ∧ k < wr.heap.size) Y vy) := Lib.hid (HY5r.out.view.bnd.below hb6)
        clear ho6 hb6
        go_wp2_with (with_reducible (first | refine stop_append ?_))
        refine ⟨wp_append_view (r := Rp.str) (G := fun k => w1.heap.size ≤ k ∧ k < wr.heap.size) Tryd.underlying26 infoS rfl (show 0 < 1 by decide) HO6.out rfl rfl HY6.out (fun k hk e => by simp [Value.ownBlock] at e; omega) (by unfold maxLen; omega) (by omega) ?_⟩
        intro v7 w7 ho7 hk7 _ _
        have hb7 : Below wr.heap.size wr w7 := HK6.out.trans (hk7.below (B := wr.heap.size) hs6 fun i hi e => by simp [Value.ownBlock] at e; omega)
        have HB7 := Lib.hid (HB5r.out.trans (hb7.mono hs5r)); have HM7 := Lib.hid (HM5r.out.below hb7); have HX7 := Lib.hid (HXV.out.below hb7); have HZ7 := Lib.hid (HZ5r.out.below hb7); have HO7 := Lib.hid ho7
        have hs7 := HB7.out.size
        have hzl : (listOf Z).length ≤ 6000 := by have := sum_count (listOf Z); have := HABS.out; omega
        clear ho7 hk7 hb7 HK6 HY6 HO6
        go_wp2_with fail
        refine (texts_any (listOf Z) (X ++ Y) _ _ _ _ w7 HZ7.out.view HO7.out.view (by omega)).mono ?_
        rintro e w8 ⟨rfl, hb8⟩
        rw [show (listOf Z == X ++ Y) = true by rw [HZ.out]; simp]
        have HB8 := Lib.hid (HB7.out.trans (hb8.mono hs7)); have HM8 := Lib.hid (HM7.out.below hb8); have HX8 := Lib.hid (HX7.out.below hb8)
        have hs8 := HB8.out.size
        clear hb8 HZ7 HO7 HM7 HX7
        go_wp2_with fail
        have hbn := below_new w8 (.cells #[.string T] 9)
        have hlit : View Rp.str (w8.alloc (.cells #[.string T] 9)) (fun _ => True) [toL T] (.slice (some ⟨w8.heap.size, 0, none⟩) 1 1) := lits [toL T] _ rfl (by simp) 1 rfl
        refine (list_any [toL T] _ _ _ hlit (by simp) (by intro x hx; simp at hx; rw [hx, toL_len]; have := HJL.out; omega) m (HM8.out.below hbn)).mono ?_
        rintro e w9 ⟨vt, rfl, hot, hb9⟩
        rw [HJ.out] at hot
        have hb9' := hbn.trans (hb9.mono hbn.size)
        have HB9 := Lib.hid (HB8.out.trans (hb9'.mono hs8)); have HM9 := Lib.hid (HM8.out.below hb9'); have HX9 := Lib.hid (HX8.out.below hb9'); have HT9 := Lib.hid hot
        have hs9 := HB9.out.size
        clear hbn hlit hot hb9 hb9'
        go_wp2_with fail
        refine (texts_any X X _ _ _ _ w9 HT9.out.view HX9.out (by omega)).mono ?_
        rintro e w10 ⟨rfl, hb10⟩
        rw [show (X == X) = true by simp]
        have HB10 := Lib.hid (HB9.out.trans (hb10.mono hs9)); have HM10 := Lib.hid (HM9.out.below hb10)
        clear hb10
        go_wp2_with fail
        refine (awake_any m w10 HM10.out).mono ?_
        rintro e w11 ⟨rfl, hb11⟩
        go_wp2_with fail
        go_ret
        exact hR _ _ ⟨rfl, HB10.out.trans (hb11.mono HB10.out.size)⟩
theorem lists_row {w : World} (a : List Tx) (va : Value) (F : Nat → Prop) (hb : a.length * Tryd.prog.bytesOf 9 ≤ 140737488351232 ∧ ∀ x ∈ a, x.length ≤ 140737488351232) (hv : View Rp.str w F a va)
    (b : List Tx) (vb : Value) (G : Nat → Prop) (hn : b.length * Tryd.prog.bytesOf 9 ≤ 140737488351232 ∧ ∀ x ∈ b, x.length ≤ 140737488351232) (hu : View Rp.str w G b vb) (m : Int) (hm : MaxLen m w) :
    Calls Tryd.prog 8 #[va, vb] w fun e w' => e = .returned (.bool true) ∧ Below w.heap.size w w' :=
  lists_walk a va F b vb G m w hm hv (by have := hb.1; rw [show Tryd.prog.bytesOf 9 = 16 by kernel_rfl] at this; omega) hb.2 hu (by have := hn.1; rw [show Tryd.prog.bytesOf 9 = 16 by kernel_rfl] at this; omega) hn.2
end Go.Proofs.YtnjkoegepjhklaaDoor.Asc
