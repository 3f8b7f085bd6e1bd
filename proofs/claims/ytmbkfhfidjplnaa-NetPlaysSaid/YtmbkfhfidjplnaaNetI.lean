/-
  The law parapetlaw5.NetRows answers true.
  No condition but the argument's own type.
-/
import Derived.Test.YtmbkfhfidjplnaaNetH
namespace Go.Proofs.Ytmbkfhfidjplnaa.Nt
open Go Go.RowKit Go.Proofs.Ytmbkfhfidjplnaa.Pb

/-- the i-th packet -/
def nth (i : Nat) : Pk := (2, 1, [UInt8.ofNat i])
def nths (n : Nat) : List Pk := (List.range n).map nth
theorem nths_len (n : Nat) : (nths n).length = n := by simp [nths]
theorem nths_succ (n : Nat) : nths (n + 1) = nths n ++ [nth n] := by simp [nths, List.range_succ]
theorem nths_small (n : Nat) : ∀ x ∈ nths n, x.2.2.length ≤ 140737488351232 := by
  intro x hx
  obtain ⟨i, _, rfl⟩ := List.mem_map.1 hx
  simp [nth]
theorem put_nth (l : List Pk) (i : Nat) (h : l.length < 64) : put l (nth i) = l ++ [nth i] := by
  unfold put; rw [if_pos ⟨h, by simp [okP, isNode, nth]⟩]

/-- a net of the call's own: its blocks lie from B on -/
def Mine (t : TypeId) (B : Nat) (w : World) (b : Nat) (l : List Pk) : Prop := ∃ F, NetAt t w F b l ∧ (∀ a, F a → B ≤ a ∧ a < w.heap.size)
theorem Mine.below {t : TypeId} {B b : Nat} {w w' : World} {l : List Pk} (h : Mine t B w b l) (hb : Below w.heap.size w w') : Mine t B w' b l := by
  obtain ⟨F, h1, h2⟩ := h
  exact ⟨F, h1.below hb, fun a ha => ⟨(h2 a ha).1, Nat.lt_of_lt_of_le (h2 a ha).2 hb.size⟩⟩
/-- Send of a packet that is new -/
theorem send_new {B : Nat} (t : TypeId) (wr : World) (b : Nat) (l : List Pk) (h : Mine t B wr b l) (f g : Int) (c : UInt8) (n : Int) (hn : n = c.toNat) (hl : l.length ≤ 1000000) (hB : B ≤ wr.heap.size) :
    Calls Try.prog 9 #[.pointer (some ⟨b, 0, none⟩), .slice (some ⟨wr.heap.size + 1, 0, none⟩) 1 1] ((wr.alloc (.cells #[.int .u8 n] 5)).alloc (.cells #[.int .i64 f, .int .i64 g, .slice (some ⟨wr.heap.size, 0, none⟩) 1 1] 33)) fun e w' =>
      e = .returned (.int .i64 (((put l (f, g, [c])).length - l.length : Nat) : Int)) ∧ Below B wr w' ∧ Mine t B w' b (put l (f, g, [c])) := by
  obtain ⟨F, h1, h2⟩ := h
  have hba := below_new wr (.cells #[.int .u8 n] 5)
  have ga := blk_new wr (.cells #[.int .u8 n] 5)
  have hsa : (wr.alloc (.cells #[.int .u8 n] 5)).heap.size = wr.heap.size + 1 := by simp
  have hbb := below_new (wr.alloc (.cells #[.int .u8 n] 5)) (.cells #[.int .i64 f, .int .i64 g, .slice (some ⟨wr.heap.size, 0, none⟩) 1 1] 33)
  have gb := blk_new (wr.alloc (.cells #[.int .u8 n] 5)) (.cells #[.int .i64 f, .int .i64 g, .slice (some ⟨wr.heap.size, 0, none⟩) 1 1] 33)
  have hbw := hba.trans (hbb.mono (by omega))
  have ga' := (hbb.block wr.heap.size (by omega)).trans ga
  rw [hsa] at gb
  have hvw : View pkt _ (fun k => wr.heap.size ≤ k) [(f, g, [c])] (.slice (some ⟨wr.heap.size + 1, 0, none⟩) 1 1) := view_one gb (view_byte ga' hn (Nat.le_refl _)) (Nat.le_succ _)
  refine (send_any t _ F (fun k => wr.heap.size ≤ k) b l [(f, g, [c])] _ (h1.below hbw) hvw (fun k hk h => by have := (h2 k hk).2; omega) hl (by simp) (fun z hz => by simp at hz; subst hz; simp)).mono ?_
  rintro e w' ⟨rfl, hk, hn'⟩
  refine ⟨rfl, (hbw.mono hB).trans (hk.below (by have := hbw.size; omega) (fun i hi h => by have := (h2 i h).1; omega)), _, hn', fun a ha => ?_⟩
  have h3 := hk.size
  have h4 := hbw.size
  rcases ha with ha | ha
  · exact ⟨(h2 a ha).1, by have := (h2 a ha).2; omega⟩
  · exact ⟨by omega, ha.2⟩
theorem Mine.len {t : TypeId} {B b : Nat} {w : World} {l : List Pk} (h : Mine t B w b l) :
    Calls Try.prog 12 #[.pointer (some ⟨b, 0, none⟩)] w fun e w' => e = .returned (.int .i64 l.length) ∧ w = w' := by
  obtain ⟨F, h1, _⟩ := h
  exact len_any t w F b l h1
theorem Mine.deliver {t : TypeId} {B b : Nat} {w : World} {l : List Pk} (h : Mine t B w b l) (k : Int) (hl : l.length ≤ 1000000) (hb : ∀ x ∈ l, x.2.2.length ≤ 140737488351232) (hB : B ≤ w.heap.size) :
    Calls Try.prog 11 #[.pointer (some ⟨b, 0, none⟩), .int .i64 k] w fun e w' => ∃ v ok, e = .returned (.tuple #[v, .bool ok]) ∧ Told w w' (peek l k) v ok ∧ Below B w w' ∧ Mine t B w' b (gone l k) := by
  obtain ⟨F, h1, h2⟩ := h
  refine (deliver_any t w F b l h1 k hl hb).mono ?_
  rintro e w' ⟨v, ok, rfl, ht, hk, hn⟩
  exact ⟨v, ok, rfl, ht, hk.below hB (fun i hi h => by have := (h2 i h).1; omega), F, hn, fun a ha => ⟨(h2 a ha).1, Nat.lt_of_lt_of_le (h2 a ha).2 hk.size⟩⟩
theorem Mine.twice {t : TypeId} {B b : Nat} {w : World} {l : List Pk} (h : Mine t B w b l) (k : Int) (hl : l.length ≤ 1000000) (hb : ∀ x ∈ l, x.2.2.length ≤ 140737488351232) (hB : B ≤ w.heap.size) :
    Calls Try.prog 14 #[.pointer (some ⟨b, 0, none⟩), .int .i64 k] w fun e w' => e = .returned (.bool (decide ((twice l k).length = l.length + 1))) ∧ Below B w w' ∧ Mine t B w' b (Nt.twice l k) := by
  obtain ⟨F, h1, h2⟩ := h
  refine (twice_any t w F b l h1 k hl hb).mono ?_
  rintro e w' ⟨rfl, hk, hn⟩
  refine ⟨rfl, hk.below hB (fun i hi h => by have := (h2 i h).1; omega), _, hn, fun a ha => ?_⟩
  have h3 := hk.size
  rcases ha with ha | ha
  · exact ⟨(h2 a ha).1, by have := (h2 a ha).2; omega⟩
  · exact ⟨by omega, ha.2⟩

/-- one byte that is told: its cell -/
theorem Own.byte {w : World} {F : Nat → Prop} {c : UInt8} {v : Value} (h : Own Rp.u8 5 w F [c] v) : ∃ g cap, v = .slice (some ⟨g, 0, none⟩) 1 cap ∧ 1 ≤ cap ∧ F g ∧ g < w.heap.size ∧ w.cell? ⟨g, 0, none⟩ = some (.int .u8 c.toNat) := by
  obtain ⟨g, cap, rfl, hF, hc, hr⟩ := Pb.Own.row h (by simp)
  exact ⟨g, cap, rfl, hc, hF, hr.len, hr.cell (i := 0) rfl⟩
theorem byte_nat (q : Nat) (h : q < 256) : ((UInt8.ofNat q).toNat : Int) = q := by simp; omega

set_option maxHeartbeats 2000000 in
theorem rows_walk (n k : Int) (w : World) :
    Calls Try.prog 4 #[.int .i64 n, .int .i64 k] w fun e w' => e = .returned (.bool true) ∧ Below w.heap.size w w' := by
  refine calls_gen fun R hR => ?_
  go_enter Try.func4, Try.ntmps4
  refine Or.elim (Classical.em (n < 1)) (fun c1 => ?_) (fun c1 => ?_)
  · go_wp2_with fail
    refine (awake_any w).mono ?_
    rintro e w1 ⟨rfl, hb1⟩
    go_wp2_with fail
    go_ret
    exact hR _ _ ⟨rfl, hb1⟩
  refine Or.elim (Classical.em (60 < n)) (fun c2 => ?_) (fun c2 => ?_)
  · go_wp2_with fail
    refine (awake_any w).mono ?_
    rintro e w1 ⟨rfl, hb1⟩
    go_wp2_with fail
    go_ret
    exact hR _ _ ⟨rfl, hb1⟩
  obtain ⟨n, rfl⟩ := Int.eq_ofNat_of_zero_le (show 0 ≤ n by omega)
  go_wp2_with fail
  refine (new_any w).mono ?_
  rintro e w1 ⟨rfl, hb1, hn1, hs1⟩
  have HB1 := Lib.hid hb1; have HN1 := Lib.hid hn1
  clear hb1 hn1
  go_wp2_with fail
  go_loopw [6] (fun i wr => ∃ j : Nat, j ≤ n ∧ i = .int .i64 j ∧ Below w.heap.size w wr ∧ Mine 29 w.heap.size wr w.heap.size (nths j)) (fun i _ => n - (intOf i).toNat)
  case atStart => exact ⟨0, Nat.zero_le _, rfl, HB1.out, _, HN1.out, fun a h => by omega⟩
  case round =>
    obtain ⟨j, hj, rfl, hbr, hnr⟩ := hrel
    have HBR := Lib.hid hbr; have HNR := Lib.hid hnr
    clear hbr hnr
    by_cases hlt : j < n
    · have hbs := HBR.out.size
      have hjl := nths_len j
      have hpt := Lib.hid (put_nth (nths j) j (by omega))
      go_wp2_with fail
      refine (send_new _ wr _ _ HNR.out 2 1 (UInt8.ofNat j) j (by simp; omega) (by omega) hbs).mono ?_
      rintro e w2 ⟨rfl, hb2, hm2⟩
      have hpe : put (nths j) (2, 1, [UInt8.ofNat j]) = nths (j + 1) := by rw [nths_succ]; exact hpt.out
      rw [hpe] at hm2 ⊢
      rw [show ((nths (j + 1)).length - (nths j).length : Nat) = 1 by rw [nths_len, nths_len]; omega]
      have HB2 := Lib.hid (HBR.out.trans hb2); have HM2 := Lib.hid hm2
      clear hb2 hm2 hpe hpt
      go_wp2_with fail
      go_roundw
      case rel => exact ⟨j + 1, by omega, by go_num, HB2.out, HM2.out⟩
      case measure => simp [intOf]; omega
    · obtain rfl : j = n := by omega
      have hjl := nths_len j
      have hbs := HBR.out.size
      obtain ⟨m, hm⟩ := Int.eq_ofNat_of_zero_le (Int.emod_nonneg k (show (j : Int) ≠ 0 by omega))
      have hml : (m : Int) < j := by rw [← hm]; exact Int.emod_lt_of_pos k (by omega)
      have hpk : peek (nths j) m = some (nth m) := by
        unfold peek; rw [if_neg (by omega)]
        show (nths j)[m]? = _
        unfold nths; rw [List.getElem?_map, List.getElem?_range (by omega)]; rfl
      have htw : twice (nths j) m = nths j ++ [nth m] := by
        unfold twice; rw [hpk]; exact put_nth _ _ (by omega)
      have HTW := Lib.hid htw; have HM := Lib.hid hm
      clear htw hpk hm
      go_wp2_with fail
      refine (round_any k j (by omega) (by omega) wr).mono ?_
      rintro e w' ⟨rfl, rfl⟩
      rw [HM.out]
      go_wp2_with fail
      refine (HNR.out.twice m (by omega) (nths_small j) hbs).mono ?_
      rintro e w2 ⟨rfl, hb2, hm2⟩
      rw [HTW.out] at hm2 ⊢
      rw [show decide ((nths j ++ [nth m]).length = (nths j).length + 1) = true by simp]
      have hs2 := hb2.size
      have HB2 := Lib.hid (HBR.out.trans hb2); have HM2 := Lib.hid hm2
      clear hb2 hm2
      go_wp2_with fail
      refine HM2.out.len.mono ?_
      rintro e w' ⟨rfl, rfl⟩
      rw [show (nths j ++ [nth m]).length = j + 1 by simp [nths_len]]
      have he : (((j + 1 : Nat) : Int) != (j : Int) + 1) = false := by simp
      obtain ⟨L, hL⟩ : ∃ L, nths j ++ [nth m] = L := ⟨_, rfl⟩
      have hLl : L.length = j + 1 := by rw [← hL]; simp [nths_len]
      have hLs : Hid (∀ x ∈ L, x.2.2.length ≤ 140737488351232) := Lib.hid fun x hx => by
        rw [← hL] at hx
        rcases List.mem_append.1 hx with hx | hx
        · exact nths_small j x hx
        · simp at hx; subst hx; simp [nth]
      have hLg : Hid (∀ q, q < j → L[q]? = some (nth q)) := Lib.hid fun q hq => by
        rw [← hL, List.getElem?_append_left (by rw [nths_len]; exact hq)]
        unfold nths; rw [List.getElem?_map, List.getElem?_range hq]; rfl
      have hLe : Hid (L[j]? = some (nth m)) := Lib.hid (by
        rw [← hL, List.getElem?_append_right (by rw [nths_len]; exact Nat.le_refl _), nths_len]; simp)
      rw [hL] at HM2
      clear hL HTW HM he
      go_wp2_with fail
      go_loopw [7, 8, 9, 10] (fun i _ _ _ wr => ∃ q : Nat, q ≤ j + 1 ∧ i = .int .i64 q ∧ Below w.heap.size w wr ∧ Mine 29 w.heap.size wr w.heap.size (L.drop q)) (fun i _ _ _ _ => j + 1 - (intOf i).toNat)
      case atStart => exact ⟨0, Nat.zero_le _, rfl, HB2.out, HM2.out⟩
      case round =>
        obtain ⟨q, hq, rfl, hbr, hmr⟩ := hrel
        have HBq := Lib.hid hbr; have HMq := Lib.hid hmr
        clear hbr hmr
        have hbq := HBq.out.size
        by_cases hlq : q ≤ j
        · obtain ⟨y, hx, hy⟩ : ∃ y, L[q]? = some (2, 1, [y]) ∧ (y.toNat : Int) = ((if q < j then q else m : Nat) : Int) := by
            by_cases h : q < j
            · exact ⟨_, hLg.out q h, by rw [if_pos h]; exact byte_nat q (by omega)⟩
            · obtain rfl : q = j := by omega
              exact ⟨_, hLe.out, by rw [if_neg h]; exact byte_nat m (by omega)⟩
          have hpk : peek (L.drop q) 0 = some (2, 1, [y]) := by
            unfold peek; rw [if_neg (by omega)]
            show (L.drop q)[0]? = _
            rw [List.getElem?_drop]; exact hx
          have hgn : gone (L.drop q) 0 = L.drop (q + 1) := by
            unfold gone; rw [if_neg (by omega)]
            show (L.drop q).take 0 ++ (L.drop q).drop (0 + 1) = _
            rw [List.drop_drop]; rfl
          have HPK := Lib.hid hpk; have HGN := Lib.hid hgn
          clear hpk hgn hx
          go_wp2_with fail
          refine (HMq.out.deliver 0 (by rw [List.length_drop]; omega) (fun x hx => hLs.out x (List.mem_of_mem_drop hx)) hbq).mono ?_
          rintro e w3 ⟨u, ok, rfl, ⟨hok, u2, rfl, hu⟩, hb3, hm3⟩
          rw [HPK.out] at hok hu ⊢
          rw [HGN.out] at hm3
          simp only [Option.getD_some, Option.isSome_some] at hok hu ⊢
          subst hok
          obtain ⟨g, cap, rfl, hcap, hg, hglt, hcell⟩ := Own.byte hu
          rw [hy] at hcell
          have hs3 := hb3.size
          have hbn := below_new w3 (.cells #[.int .i64 2, .int .i64 1, .slice (some ⟨g, 0, none⟩) 1 cap] 33)
          have HB4 := Lib.hid ((HBq.out.trans hb3).trans (hbn.mono (by omega)))
          have HM4 := Lib.hid (hm3.below hbn)
          clear hu hb3 hm3 hbn hy
          unfold pv
          by_cases hlj : q < j
          · rw [if_pos hlj] at hcell
            have hne : ((q : Int) == (j : Int)) = false := by rw [beq_eq_false_iff_ne]; omega
            go_wp2_with fail
            go_roundw
            case rel => exact ⟨q + 1, by omega, by go_num, HB4.out, HM4.out⟩
            case measure => simp [intOf]; omega
          · rw [if_neg hlj] at hcell
            obtain rfl : q = j := by omega
            have hmq : m < 256 := by omega
            go_wp2_with fail
            go_roundw
            case rel => exact ⟨q + 1, by omega, by go_num, HB4.out, HM4.out⟩
            case measure => simp [intOf]
        · obtain rfl : q = j + 1 := by omega
          rw [List.drop_of_length_le (by omega)] at HMq
          go_wp2_with fail
          refine HMq.out.len.mono ?_
          rintro e w' ⟨rfl, rfl⟩
          go_wp2_with fail
          refine (awake_any _).mono ?_
          rintro e w4 ⟨rfl, hb4⟩
          go_wp2_with fail
          go_ret
          exact hR _ _ ⟨rfl, HBq.out.trans (hb4.mono hbq)⟩
end Go.Proofs.Ytmbkfhfidjplnaa.Nt
