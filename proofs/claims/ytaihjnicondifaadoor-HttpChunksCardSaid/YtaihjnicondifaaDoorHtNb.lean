/-
  The law parapetlaw26.HttpChunks answers true.
  The library's MaxLen is a number.
-/
import Derived.Test.YtaihjnicondifaaDoorHtNa
namespace Go.Proofs.YtaihjnicondifaaDoor.Asc
open Go Go.RowKit Go.Proofs.YtaihjnicondifaaDoor.Pb

theorem chunksT_succ (nf : Nat → Nat) (e : Bool) (k : Nat) : chunksT nf e (k + 1) = chunksT nf e k ++ chunkT (nf k) k e := rfl
theorem wantT_succ (nf : Nat → Nat) (k : Nat) : wantT nf (k + 1) = wantT nf k ++ letterN (nf k) k := rfl
theorem hexF_len (f : Nat) : ∀ n, (hexF f n).length ≤ f := by
  induction f with
  | zero => intro n; simp [hexF]
  | succ f ih =>
    intro n
    unfold hexF
    split
    · simp
    · have := ih (n / 16); simp; omega
theorem hexD_at (d : Nat) (h : d < 16) : (⟨#[48, 49, 50, 51, 52, 53, 54, 55, 56, 57, 97, 66, 99, 68, 101, 70]⟩ : ByteArray)[d]'h = hexD d := by
  have key : ∀ d : Fin 16, (⟨#[48, 49, 50, 51, 52, 53, 54, 55, 56, 57, 97, 66, 99, 68, 101, 70]⟩ : ByteArray)[d.val]'d.isLt = hexD d.val := by decide +kernel
  exact key ⟨d, h⟩

set_option maxRecDepth 20000 in
set_option maxHeartbeats 4000000 in
theorem hex26_any (N : Nat) (hN : N ≤ 300) (w : World) :
    Calls Tryd.prog 19 #[.int .i64 N] w fun e w' => e = .returned (.string (ofL (hexT N))) ∧ Below w.heap.size w w' := by
  refine calls_gen fun R hR => ?_
  go_enter Tryd.func19, Tryd.ntmps19
  go_wp2_with fail
  go_loopw [0, 3] (fun i s wr => ∃ k f : Nat, k ≤ 300 ∧ k < 16 ^ f ∧ (f = 0 → k = 0) ∧ f ≤ 4 ∧ 0 < f ∧ i = .int .i64 k ∧ Below w.heap.size w wr ∧ ∃ T : ByteArray, s = .string T ∧ hexT N = hexF f k ++ toL T ∧ T.size + f ≤ 4) (fun i _ _ => (intOf i).toNat)
  case atStart => exact ⟨N, 4, hN, by omega, by omega, by omega, by omega, rfl, Below.refl _ _, ⟨#[]⟩, rfl, by rw [show toL ⟨#[]⟩ = [] from rfl, List.append_nil]; rfl, by decide⟩
  case round =>
    obtain ⟨k, f, hk, hkf, _, hf4, hf0, rfl, hb, T, rfl, hT, hts⟩ := hrel
    obtain ⟨f, rfl⟩ : ∃ f', f = f' + 1 := ⟨f - 1, by omega⟩
    have HB := Lib.hid hb; have HT := Lib.hid hT
    obtain ⟨r, hr⟩ : ∃ r : Nat, k % 16 = r := ⟨_, rfl⟩
    have hr16 : r < 16 := by omega
    have hrem : (k : Int).tmod 16 = (r : Int) := by rw [Int.tmod_eq_emod_of_nonneg (by omega)]; omega
    obtain ⟨q, hq⟩ : ∃ q : Nat, k / 16 = q := ⟨_, rfl⟩
    have hquo : (k : Int).tdiv 16 = (q : Int) := by rw [Int.tdiv_eq_ediv_of_nonneg (by omega)]; omega
    have hxd := hexD_at r hr16
    have hri : (r : Int) < 16 := by omega
    have hr0 : (0 : Int) ≤ (r : Int) := by omega
    have HR := Lib.hid hr; have HQ := Lib.hid hq
    have hqk : q ≤ k := by omega
    have hq16 : 16 * q ≤ k := by omega
    clear hb hT hr hq
    go_wp2_with (with_reducible (first | refine stop_convert ?_))
    refine ⟨wp_string (F := fun _ => True) (l := [hexD r]) Tryd.underlying26 Tryd.underlying5 Tryd.underlying9 ?_ ?_⟩
    · exact ((Own.lit (d := Rp.u8) (e := 5) wr (G := fun _ => False) (xs := [hexD r]) (cs := [u8v (hexD r)]) (Elems.of_map _) rfl (by unfold maxLen; simp)).view).mono fun _ _ => trivial
    have hb0 : Hid (Below w.heap.size w (wr.alloc (.cells #[.int .u8 (hexD r).toNat] 5))) := Lib.hid (HB.out.trans ((below_new wr _).mono HB.out.size))
    obtain ⟨S, hS⟩ : ∃ S, ofL [hexD r] = S := ⟨_, rfl⟩
    have hSs : S.size ≤ 1 := by rw [← hS, ofL_size]; simp
    have HS : Hid (toL S = [hexD r]) := Lib.hid (by rw [← hS, toL_ofL])
    rw [hS]
    clear hS hxd
    cases hq0 : ((q : Int) == 0) with
    | true =>
      have HEQ : Hid (ofL (hexT N) = S ++ T) := Lib.hid (by
        apply toL_inj
        rw [toL_ofL, HT.out, toL_cat, HS.out]
        have h0 : k / 16 = 0 := by rw [HQ.out]; rw [beq_iff_eq] at hq0; omega
        unfold hexF
        rw [if_pos h0, HR.out])
      rw [HEQ.out] at hR
      go_wp2_with fail
      go_ret
      exact hR _ _ ⟨rfl, hb0.out⟩
    | false =>
      have hqp : 0 < q := by rw [beq_eq_false_iff_ne] at hq0; omega
      have HEQ : Hid (hexT N = hexF f q ++ toL (S ++ T)) := Lib.hid (by
        rw [HT.out, toL_cat, HS.out]
        have h0 : ¬ k / 16 = 0 := by rw [HQ.out]; omega
        conv => lhs; unfold hexF
        rw [if_neg h0, HR.out, HQ.out, List.append_assoc])
      have hf1 : 0 < f := by
        rcases Nat.eq_zero_or_pos f with h | h
        · subst h; simp at hkf; omega
        · exact h
      have hqf : q < 16 ^ f := by rw [Nat.pow_succ] at hkf; omega
      have HST : Hid ((S ++ T).size + f ≤ 4) := Lib.hid (by rw [ByteArray.size_append]; omega)
      go_wp2_with fail
      go_roundw
      case rel => exact ⟨q, f, by omega, hqf, by omega, by omega, hf1, rfl, hb0.out, _, rfl, HEQ.out, HST.out⟩
      case measure => simp [intOf]; omega

set_option maxRecDepth 20000 in
set_option maxHeartbeats 8000000 in
theorem chunks_walk (l : List Int) (v : Value) (F : Nat → Prop) (ext trail : Bool) (size : Int) (h2 : size ≤ 9223372036854775807) (m : Int) (w : World) (hm : MaxLen m w) (hv : View Rp.int w F l v) (hl : l.length ≤ 140737488351232) (hb : ∀ x ∈ l, -9223372036854775808 ≤ x ∧ x ≤ 9223372036854775807) :
    Calls Tryd.prog 5 #[v, .bool ext, .bool trail, .int .i64 size] w fun e w' => e = .returned (.bool true) ∧ Below w.heap.size w w' := by
  refine calls_gen fun R hR => ?_
  obtain ⟨A, c, rfl, hcl, hget⟩ := hv.open1
  have HM := Lib.hid hm; have HG := Lib.hid hget; have HBD := Lib.hid hb
  clear hm hv hget hb
  go_enter Tryd.func5, Tryd.ntmps5
  by_cases c0 : (l.length : Int) > 20
  · skip
    go_wp2_with fail
    refine (awake_any w m HM.out).mono ?_
    rintro e w3 ⟨rfl, hb3⟩
    go_wp2_with fail
    go_ret
    exact hR _ _ ⟨rfl, hb3⟩
  by_cases c1 : size < 1
  · skip
    go_wp2_with fail
    refine (awake_any w m HM.out).mono ?_
    rintro e w3 ⟨rfl, hb3⟩
    go_wp2_with fail
    go_ret
    exact hR _ _ ⟨rfl, hb3⟩
  obtain ⟨nf, hnf⟩ : ∃ nf : Nat → Nat, nf = fun k => 1 + ((l[k]?.getD 0) % 300).toNat := ⟨_, rfl⟩
  have HNF : Hid (∀ (k : Nat) (x : Int), l[k]? = some x → x % 300 = (nf k : Int) - 1) := Lib.hid fun k x hx => by
    have h1 := Int.emod_nonneg x (show (300 : Int) ≠ 0 by decide)
    rw [hnf]; dsimp only; rw [hx]
    show x % 300 = ((1 + (x % 300).toNat : Nat) : Int) - 1
    omega
  have HNB : Hid (∀ k, k < l.length → 0 < nf k ∧ nf k ≤ 300) := Lib.hid fun k _ => by
    have h1 := Int.emod_nonneg (l[k]?.getD 0) (show (300 : Int) ≠ 0 by decide)
    have h2 := Int.emod_lt_of_pos (l[k]?.getD 0) (show (0 : Int) < 300 by decide)
    rw [hnf]; dsimp only; omega
  clear hnf
  have hl20 : l.length ≤ 20 := by omega
  cases ext
  case false =>
    go_wp2_with fail
    go_loopw [9, 10, 11] (fun s t i wr => ∃ k : Nat, k ≤ l.length ∧ i = .int .i64 k ∧ Below w.heap.size w wr ∧ (∃ T : ByteArray, s = .string T ∧ toL T = chunksT nf false k) ∧ ∃ W : ByteArray, t = .string W ∧ toL W = wantT nf k) (fun _ _ i _ => l.length - (intOf i).toNat)
    case atStart => exact ⟨0, Nat.zero_le _, rfl, Below.refl _ _, ⟨_, rfl, rfl⟩, ⟨#[]⟩, rfl, rfl⟩
    case round =>
      obtain ⟨k, hk, rfl, hb, ⟨T, rfl, hT⟩, W, rfl, hW⟩ := hrel
      have HT := Lib.hid hT; have HW := Lib.hid hW; have HB := Lib.hid hb
      have hts : T.size ≤ 6700 := by rw [← toL_len, hT]; have := chunksT_len nf false l.length HNB.out k hk; omega
      have hws : W.size ≤ 6000 := by rw [← toL_len, hW]; have := wantT_len nf l.length HNB.out k hk; omega
      clear hT hW
      by_cases hlt : k < l.length
      · obtain ⟨x, hx⟩ : ∃ x, l[k]? = some x := ⟨_, List.getElem?_eq_getElem hlt⟩
        obtain ⟨g, off, rfl, hg, hgx⟩ := HG.out k hlt
        have d0 : wr.cell? ⟨g, off + k, none⟩ = some (.int .i64 x) := (hb.cell (p := ⟨g, off + k, none⟩) hg).trans (hgx k x hx)
        have hnx := HNF.out k x hx
        obtain ⟨hn0, hn3⟩ := HNB.out k hlt
        obtain ⟨hb1, hb2⟩ := HBD.out x (List.mem_of_getElem? hx)
        have hgr := Nat.lt_of_lt_of_le hg hb.size
        clear hgx hx hb
        obtain ⟨n, hn⟩ : ∃ n, nf k = n := ⟨_, rfl⟩
        have HN := Lib.hid hn
        rw [hn] at hnx hn0 hn3
        clear hn
        go_wp2_with fail
        refine (round_any x 300 (by decide) (by decide) wr).mono ?_
        rintro e w2 ⟨rfl, hw2⟩
        rw [← hw2, hnx, show ((n : Int) - 1) = ((n - 1 : Nat) : Int) by omega]
        clear hw2 hnx d0
        have hn1 : (1 : Int) + ((n - 1 : Nat) : Int) = (n : Int) := by omega
        go_upto_region 9 with fail
        go_wp2_with fail
        first
          | refine (hex26_any n hn3 wr).mono ?_
          | (rw [hn1]; refine (hex26_any n hn3 wr).mono ?_)
        rintro e w3 ⟨rfl, hb3⟩
        obtain ⟨D, hD⟩ : ∃ D, ofL (hexT n) = D := ⟨_, rfl⟩
        have hds : D.size ≤ 4 := by rw [← hD, ofL_size]; exact hexF_len 4 n
        have HD : Hid (toL D = hexT n) := Lib.hid (by rw [← hD, toL_ofL])
        rw [hD]
        have HB3 := Lib.hid (HB.out.trans (hb3.mono HB.out.size))
        clear hb3 hD
        go_wp2_with fail
        first
          | refine (letters26_any n k w3 (by omega) (by omega)).mono ?_
          | (rw [hn1]; refine (letters26_any n k w3 (by omega) (by omega)).mono ?_)
        rintro e w4 ⟨rfl, hb4⟩
        obtain ⟨L, hL⟩ : ∃ D, ofL (letterN n k) = D := ⟨_, rfl⟩
        have hls : L.size ≤ 300 := by rw [← hL, ofL_size, letterN_len]; exact hn3
        have HL : Hid (toL L = letterN n k) := Lib.hid (by rw [← hL, toL_ofL])
        rw [hL]
        have HB4 := Lib.hid (HB3.out.trans (hb4.mono HB3.out.size))
        clear hb4
        go_wp2_with fail
        first
          | refine (letters26_any n k w4 (by omega) (by omega)).mono ?_
          | (rw [hn1]; refine (letters26_any n k w4 (by omega) (by omega)).mono ?_)
        rintro e w5 ⟨rfl, hb5⟩
        rw [hL]
        have HB5 := Lib.hid (HB4.out.trans (hb5.mono HB4.out.size))
        clear hb5 hL
        go_wp2_with fail
        go_roundw
        case rel =>
          refine ⟨k + 1, by omega, by go_num, HB5.out, ⟨_, rfl, ?_⟩, _, rfl, ?_⟩
          · simp only [toL_cat, HT.out, HD.out, HL.out]
            rw [chunksT_succ, HN.out]
            simp [chunkT, lineC, toL, extB]
          · simp only [toL_cat, HW.out, HL.out]
            rw [wantT_succ, HN.out]
        case measure => simp [intOf]; omega
      · obtain rfl : k = l.length := by omega
        clear hb
        cases trail
        case false =>
          go_upto_region 18 with fail
          obtain ⟨S, hS⟩ : ∃ S, T ++ ⟨#[48, 48, 13, 10]⟩ ++ ⟨#[13, 10, 71, 69, 84, 32, 47, 121, 32, 72, 84, 84, 80, 47, 49, 46, 48, 13, 10, 13, 10]⟩ = S := ⟨_, rfl⟩
          have hSl : toL S = allC nf false false l.length := by
            rw [← hS]; simp only [toL_cat, HT.out]
            unfold allC trailB lastC
            simp [toL]
          have HS := Lib.hid hSl
          have hss : S.size ≤ 7000 := by rw [← toL_len, hSl]; exact allC_len nf false false l.length hl20 HNB.out
          rw [hS]
          clear hS hSl
          go_wp2_with fail
          refine (feed_at S size (by omega) h2 (by omega) wr m (HM.out.below HB.out) [itX2 (wantT nf l.length), itY] false (by rw [HS.out, all_feed nf false false l.length hl20 HNB.out]; exact ⟨rfl, rfl⟩)).mono ?_
          rintro e w1 ⟨v, O, rfl, ho, -, hb⟩
          obtain ⟨g, c, rfl, -, hc, hg, hget⟩ := own_items ho (by simp)
          obtain ⟨fv, hca⟩ := hget 0 _ rfl
          obtain ⟨fv2, hcb⟩ := hget 1 _ rfl
          have a3 := hca.c3
          have a4 := hca.c4
          have a5 := hca.c5
          have b2 := hcb.c2
          have b5 := hcb.c5
          obtain ⟨FA, fc, rfl, hfc, -⟩ := hca.flds
          have HB1 := Lib.hid (HB.out.trans (hb.mono HB.out.size))
          clear hget hca hcb hb ho
          simp only [itX2, itY, fldC, List.length_cons, List.length_nil, Nat.zero_mul, Nat.zero_add, Nat.one_mul, Nat.reduceAdd] at a3 a4 a5 b2 b5 hc hfc ⊢
          obtain ⟨X, hX⟩ : ∃ X, ofL (wantT nf l.length) = X := ⟨_, rfl⟩
          have hxw : (X.toList == W.toList) = true := by rw [← hX, toList_ofL, toList_toL, HW.out]; exact beq_self_eq_true _
          rw [hX] at a4
          obtain ⟨Z, hZ⟩ : ∃ X, ofL [47, 121] = X := ⟨_, rfl⟩
          have hz : (Z.toList == [47, 121]) = true := by rw [← hZ, toList_ofL]; rfl
          rw [hZ] at b2
          clear hX hZ
          go_wp2_with fail
          refine (awake_any w1 m (HM.out.below HB1.out)).mono ?_
          rintro e w3 ⟨rfl, hb3⟩
          go_wp2_with fail
          go_ret
          exact hR _ _ ⟨rfl, HB1.out.trans (hb3.mono HB1.out.size)⟩
        case true =>
          go_upto_region 18 with fail
          obtain ⟨S, hS⟩ : ∃ S, T ++ ⟨#[48, 48, 13, 10]⟩ ++ ⟨#[88, 45, 65, 58, 32, 98, 13, 10]⟩ ++ ⟨#[13, 10, 71, 69, 84, 32, 47, 121, 32, 72, 84, 84, 80, 47, 49, 46, 48, 13, 10, 13, 10]⟩ = S := ⟨_, rfl⟩
          have hSl : toL S = allC nf false true l.length := by
            rw [← hS]; simp only [toL_cat, HT.out]
            unfold allC trailB lastC
            simp [toL]
          have HS := Lib.hid hSl
          have hss : S.size ≤ 7000 := by rw [← toL_len, hSl]; exact allC_len nf false true l.length hl20 HNB.out
          rw [hS]
          clear hS hSl
          go_wp2_with fail
          refine (feed_at S size (by omega) h2 (by omega) wr m (HM.out.below HB.out) [itX2 (wantT nf l.length), itY] false (by rw [HS.out, all_feed nf false true l.length hl20 HNB.out]; exact ⟨rfl, rfl⟩)).mono ?_
          rintro e w1 ⟨v, O, rfl, ho, -, hb⟩
          obtain ⟨g, c, rfl, -, hc, hg, hget⟩ := own_items ho (by simp)
          obtain ⟨fv, hca⟩ := hget 0 _ rfl
          obtain ⟨fv2, hcb⟩ := hget 1 _ rfl
          have a3 := hca.c3
          have a4 := hca.c4
          have a5 := hca.c5
          have b2 := hcb.c2
          have b5 := hcb.c5
          obtain ⟨FA, fc, rfl, hfc, -⟩ := hca.flds
          have HB1 := Lib.hid (HB.out.trans (hb.mono HB.out.size))
          clear hget hca hcb hb ho
          simp only [itX2, itY, fldC, List.length_cons, List.length_nil, Nat.zero_mul, Nat.zero_add, Nat.one_mul, Nat.reduceAdd] at a3 a4 a5 b2 b5 hc hfc ⊢
          obtain ⟨X, hX⟩ : ∃ X, ofL (wantT nf l.length) = X := ⟨_, rfl⟩
          have hxw : (X.toList == W.toList) = true := by rw [← hX, toList_ofL, toList_toL, HW.out]; exact beq_self_eq_true _
          rw [hX] at a4
          obtain ⟨Z, hZ⟩ : ∃ X, ofL [47, 121] = X := ⟨_, rfl⟩
          have hz : (Z.toList == [47, 121]) = true := by rw [← hZ, toList_ofL]; rfl
          rw [hZ] at b2
          clear hX hZ
          go_wp2_with fail
          refine (awake_any w1 m (HM.out.below HB1.out)).mono ?_
          rintro e w3 ⟨rfl, hb3⟩
          go_wp2_with fail
          go_ret
          exact hR _ _ ⟨rfl, HB1.out.trans (hb3.mono HB1.out.size)⟩
  case true =>
    go_wp2_with fail
    go_loopw [9, 10, 11] (fun s t i wr => ∃ k : Nat, k ≤ l.length ∧ i = .int .i64 k ∧ Below w.heap.size w wr ∧ (∃ T : ByteArray, s = .string T ∧ toL T = chunksT nf true k) ∧ ∃ W : ByteArray, t = .string W ∧ toL W = wantT nf k) (fun _ _ i _ => l.length - (intOf i).toNat)
    case atStart => exact ⟨0, Nat.zero_le _, rfl, Below.refl _ _, ⟨_, rfl, rfl⟩, ⟨#[]⟩, rfl, rfl⟩
    case round =>
      obtain ⟨k, hk, rfl, hb, ⟨T, rfl, hT⟩, W, rfl, hW⟩ := hrel
      have HT := Lib.hid hT; have HW := Lib.hid hW; have HB := Lib.hid hb
      have hts : T.size ≤ 6700 := by rw [← toL_len, hT]; have := chunksT_len nf true l.length HNB.out k hk; omega
      have hws : W.size ≤ 6000 := by rw [← toL_len, hW]; have := wantT_len nf l.length HNB.out k hk; omega
      clear hT hW
      by_cases hlt : k < l.length
      · obtain ⟨x, hx⟩ : ∃ x, l[k]? = some x := ⟨_, List.getElem?_eq_getElem hlt⟩
        obtain ⟨g, off, rfl, hg, hgx⟩ := HG.out k hlt
        have d0 : wr.cell? ⟨g, off + k, none⟩ = some (.int .i64 x) := (hb.cell (p := ⟨g, off + k, none⟩) hg).trans (hgx k x hx)
        have hnx := HNF.out k x hx
        obtain ⟨hn0, hn3⟩ := HNB.out k hlt
        obtain ⟨hb1, hb2⟩ := HBD.out x (List.mem_of_getElem? hx)
        have hgr := Nat.lt_of_lt_of_le hg hb.size
        clear hgx hx hb
        obtain ⟨n, hn⟩ : ∃ n, nf k = n := ⟨_, rfl⟩
        have HN := Lib.hid hn
        rw [hn] at hnx hn0 hn3
        clear hn
        go_wp2_with fail
        refine (round_any x 300 (by decide) (by decide) wr).mono ?_
        rintro e w2 ⟨rfl, hw2⟩
        rw [← hw2, hnx, show ((n : Int) - 1) = ((n - 1 : Nat) : Int) by omega]
        clear hw2 hnx d0
        have hn1 : (1 : Int) + ((n - 1 : Nat) : Int) = (n : Int) := by omega
        go_upto_region 9 with fail
        go_wp2_with fail
        first
          | refine (hex26_any n hn3 wr).mono ?_
          | (rw [hn1]; refine (hex26_any n hn3 wr).mono ?_)
        rintro e w3 ⟨rfl, hb3⟩
        obtain ⟨D, hD⟩ : ∃ D, ofL (hexT n) = D := ⟨_, rfl⟩
        have hds : D.size ≤ 4 := by rw [← hD, ofL_size]; exact hexF_len 4 n
        have HD : Hid (toL D = hexT n) := Lib.hid (by rw [← hD, toL_ofL])
        rw [hD]
        have HB3 := Lib.hid (HB.out.trans (hb3.mono HB.out.size))
        clear hb3 hD
        go_wp2_with fail
        first
          | refine (letters26_any n k w3 (by omega) (by omega)).mono ?_
          | (rw [hn1]; refine (letters26_any n k w3 (by omega) (by omega)).mono ?_)
        rintro e w4 ⟨rfl, hb4⟩
        obtain ⟨L, hL⟩ : ∃ D, ofL (letterN n k) = D := ⟨_, rfl⟩
        have hls : L.size ≤ 300 := by rw [← hL, ofL_size, letterN_len]; exact hn3
        have HL : Hid (toL L = letterN n k) := Lib.hid (by rw [← hL, toL_ofL])
        rw [hL]
        have HB4 := Lib.hid (HB3.out.trans (hb4.mono HB3.out.size))
        clear hb4
        go_wp2_with fail
        first
          | refine (letters26_any n k w4 (by omega) (by omega)).mono ?_
          | (rw [hn1]; refine (letters26_any n k w4 (by omega) (by omega)).mono ?_)
        rintro e w5 ⟨rfl, hb5⟩
        rw [hL]
        have HB5 := Lib.hid (HB4.out.trans (hb5.mono HB4.out.size))
        clear hb5 hL
        go_wp2_with fail
        go_roundw
        case rel =>
          refine ⟨k + 1, by omega, by go_num, HB5.out, ⟨_, rfl, ?_⟩, _, rfl, ?_⟩
          · simp only [toL_cat, HT.out, HD.out, HL.out]
            rw [chunksT_succ, HN.out]
            simp [chunkT, lineC, toL, extB]
          · simp only [toL_cat, HW.out, HL.out]
            rw [wantT_succ, HN.out]
        case measure => simp [intOf]; omega
      · obtain rfl : k = l.length := by omega
        clear hb
        cases trail
        case false =>
          go_upto_region 18 with fail
          obtain ⟨S, hS⟩ : ∃ S, T ++ ⟨#[48, 48, 13, 10]⟩ ++ ⟨#[13, 10, 71, 69, 84, 32, 47, 121, 32, 72, 84, 84, 80, 47, 49, 46, 48, 13, 10, 13, 10]⟩ = S := ⟨_, rfl⟩
          have hSl : toL S = allC nf true false l.length := by
            rw [← hS]; simp only [toL_cat, HT.out]
            unfold allC trailB lastC
            simp [toL]
          have HS := Lib.hid hSl
          have hss : S.size ≤ 7000 := by rw [← toL_len, hSl]; exact allC_len nf true false l.length hl20 HNB.out
          rw [hS]
          clear hS hSl
          go_wp2_with fail
          refine (feed_at S size (by omega) h2 (by omega) wr m (HM.out.below HB.out) [itX2 (wantT nf l.length), itY] false (by rw [HS.out, all_feed nf true false l.length hl20 HNB.out]; exact ⟨rfl, rfl⟩)).mono ?_
          rintro e w1 ⟨v, O, rfl, ho, -, hb⟩
          obtain ⟨g, c, rfl, -, hc, hg, hget⟩ := own_items ho (by simp)
          obtain ⟨fv, hca⟩ := hget 0 _ rfl
          obtain ⟨fv2, hcb⟩ := hget 1 _ rfl
          have a3 := hca.c3
          have a4 := hca.c4
          have a5 := hca.c5
          have b2 := hcb.c2
          have b5 := hcb.c5
          obtain ⟨FA, fc, rfl, hfc, -⟩ := hca.flds
          have HB1 := Lib.hid (HB.out.trans (hb.mono HB.out.size))
          clear hget hca hcb hb ho
          simp only [itX2, itY, fldC, List.length_cons, List.length_nil, Nat.zero_mul, Nat.zero_add, Nat.one_mul, Nat.reduceAdd] at a3 a4 a5 b2 b5 hc hfc ⊢
          obtain ⟨X, hX⟩ : ∃ X, ofL (wantT nf l.length) = X := ⟨_, rfl⟩
          have hxw : (X.toList == W.toList) = true := by rw [← hX, toList_ofL, toList_toL, HW.out]; exact beq_self_eq_true _
          rw [hX] at a4
          obtain ⟨Z, hZ⟩ : ∃ X, ofL [47, 121] = X := ⟨_, rfl⟩
          have hz : (Z.toList == [47, 121]) = true := by rw [← hZ, toList_ofL]; rfl
          rw [hZ] at b2
          clear hX hZ
          go_wp2_with fail
          refine (awake_any w1 m (HM.out.below HB1.out)).mono ?_
          rintro e w3 ⟨rfl, hb3⟩
          go_wp2_with fail
          go_ret
          exact hR _ _ ⟨rfl, HB1.out.trans (hb3.mono HB1.out.size)⟩
        case true =>
          go_upto_region 18 with fail
          obtain ⟨S, hS⟩ : ∃ S, T ++ ⟨#[48, 48, 13, 10]⟩ ++ ⟨#[88, 45, 65, 58, 32, 98, 13, 10]⟩ ++ ⟨#[13, 10, 71, 69, 84, 32, 47, 121, 32, 72, 84, 84, 80, 47, 49, 46, 48, 13, 10, 13, 10]⟩ = S := ⟨_, rfl⟩
          have hSl : toL S = allC nf true true l.length := by
            rw [← hS]; simp only [toL_cat, HT.out]
            unfold allC trailB lastC
            simp [toL]
          have HS := Lib.hid hSl
          have hss : S.size ≤ 7000 := by rw [← toL_len, hSl]; exact allC_len nf true true l.length hl20 HNB.out
          rw [hS]
          clear hS hSl
          go_wp2_with fail
          refine (feed_at S size (by omega) h2 (by omega) wr m (HM.out.below HB.out) [itX2 (wantT nf l.length), itY] false (by rw [HS.out, all_feed nf true true l.length hl20 HNB.out]; exact ⟨rfl, rfl⟩)).mono ?_
          rintro e w1 ⟨v, O, rfl, ho, -, hb⟩
          obtain ⟨g, c, rfl, -, hc, hg, hget⟩ := own_items ho (by simp)
          obtain ⟨fv, hca⟩ := hget 0 _ rfl
          obtain ⟨fv2, hcb⟩ := hget 1 _ rfl
          have a3 := hca.c3
          have a4 := hca.c4
          have a5 := hca.c5
          have b2 := hcb.c2
          have b5 := hcb.c5
          obtain ⟨FA, fc, rfl, hfc, -⟩ := hca.flds
          have HB1 := Lib.hid (HB.out.trans (hb.mono HB.out.size))
          clear hget hca hcb hb ho
          simp only [itX2, itY, fldC, List.length_cons, List.length_nil, Nat.zero_mul, Nat.zero_add, Nat.one_mul, Nat.reduceAdd] at a3 a4 a5 b2 b5 hc hfc ⊢
          obtain ⟨X, hX⟩ : ∃ X, ofL (wantT nf l.length) = X := ⟨_, rfl⟩
          have hxw : (X.toList == W.toList) = true := by rw [← hX, toList_ofL, toList_toL, HW.out]; exact beq_self_eq_true _
          rw [hX] at a4
          obtain ⟨Z, hZ⟩ : ∃ X, ofL [47, 121] = X := ⟨_, rfl⟩
          have hz : (Z.toList == [47, 121]) = true := by rw [← hZ, toList_ofL]; rfl
          rw [hZ] at b2
          clear hX hZ
          go_wp2_with fail
          refine (awake_any w1 m (HM.out.below HB1.out)).mono ?_
          rintro e w3 ⟨rfl, hb3⟩
          go_wp2_with fail
          go_ret
          exact hR _ _ ⟨rfl, HB1.out.trans (hb3.mono HB1.out.size)⟩
theorem chunks_row {w : World} (l : List Int) (v : Value) (F : Nat → Prop) (hb : l.length * Tryd.prog.bytesOf 3 ≤ 140737488351232 ∧ ∀ x ∈ l, -9223372036854775808 ≤ x ∧ x ≤ 9223372036854775807) (hv : View Rp.int w F l v) (ext trail : Bool) (size : Int) (_ : -9223372036854775808 ≤ size) (h2 : size ≤ 9223372036854775807) (m : Int) (hm : MaxLen m w) :
    Calls Tryd.prog 5 #[v, .bool ext, .bool trail, .int .i64 size] w fun e w' => e = .returned (.bool true) ∧ Below w.heap.size w w' := by
  have hbn : Tryd.prog.bytesOf 3 = 8 := by kernel_rfl
  have hlen := hb.1
  rw [hbn] at hlen
  exact chunks_walk l v F ext trail size h2 m w hm hv (by omega) hb.2
end Go.Proofs.YtaihjnicondifaaDoor.Asc
