/-
  Contracts: ascii.Number, slices.Reverse of bytes, ascii.Decimal, the reference's Decimal.
  Texts of at most a million bytes; numbers that an int holds.
-/
import Derived.Test.YtilpaopkhghicaaDoorAscG
import Derived.RegionTactic
namespace Go.Proofs.YtilpaopkhghicaaDoor.Asc
open Go Go.RowKit Go.Proofs.YtilpaopkhghicaaDoor.Pb

set_option maxHeartbeats 1000000 in
/-- ascii.Number -/
theorem number_any (s : ByteArray) (max : Int) (w : World) (hs : s.size ≤ 1000000) :
    Calls Tryd.prog 41 #[.string s, .int .i64 max] w fun e w' => e = .returned (.tuple #[.int .i64 (number (toL s) max).1, .bool (number (toL s) max).2]) ∧ w = w' := by
  refine calls_gen fun R hR => ?_
  go_enter Tryd.func41, Tryd.ntmps41
  go_upto_region 1 with fail
  go_cut [25] (fun v wc' => v = .bool (numBad (toL s) max) ∧ wc' = w)
  case first =>
    by_cases h0 : s.size = 0
    · have h1 : s.toList = [] := by rw [toList_toL]; exact List.eq_nil_of_length_eq_zero (by rw [toL_len]; exact h0)
      go_wp2
      go_meet
      refine ⟨?_, rfl⟩
      rw [toList_toL] at h1
      unfold numBad; rw [h1]; rfl
    · have hpos : 0 < s.size := by omega
      have h1 : s.toList.isEmpty = false := by
        rw [toList_toL]; cases h : toL s with
        | nil => have := toL_len s; rw [h] at this; simp at this; omega
        | cons => rfl
      have HE := Lib.hid (numBad_eq s max hpos)
      go_wp2
      all_goals
        go_meet
        refine ⟨congrArg Value.bool ?_, rfl⟩
        rw [HE.out]
        first | (rw [Bool.eq_iff_iff]; simp; omega) | (simp; omega) | go_show
  case rest =>
    obtain ⟨rfl, rfl⟩ := hcut
    cases hbad : numBad (toL s) max
    · have hsz : s.size ≤ 18 := by
        by_cases hpos : 0 < s.size
        · rw [numBad_eq s max hpos] at hbad
          simp at hbad
          omega
        · omega
      have HB := Lib.hid hbad; clear hbad
      go_wp2
      go_loop [4, 6, 28] (fun n _ i => ∃ k : Nat, k ≤ s.size ∧ i = .int .i64 k ∧ n = .int .i64 (numOf ((toL s).take k)) ∧ Hid (((toL s).take k).all isDig = true)) (fun _ _ i => s.size - (intOf i).toNat)
      case atStart => exact ⟨0, by omega, rfl, rfl, by simp [Hid]⟩
      case round =>
        obtain ⟨k, hk, rfl, rfl, hall⟩ := hrel
        have hn01 := fun h : k < s.size => numOf_bd ((toL s).take k) hall.out (by rw [List.length_take]; omega)
        obtain ⟨n, hn⟩ : ∃ n, numOf ((toL s).take k) = n := ⟨_, rfl⟩
        rw [hn] at hn01 ⊢
        have HN := Lib.hid hn; clear hn
        have H01 := Lib.hid hn01; clear hn01
        by_cases hlt : k < s.size
        · by_cases hd : isDig s[k] = true
          · obtain ⟨hd1, hd2⟩ := (isDig_iff _).1 hd
            obtain ⟨hn0, hn1⟩ := H01.out hlt
            have HD := Lib.hid hd; clear hd
            have b1 : ((s[k].toNat : Int) - 48) % 256 = (s[k].toNat : Int) - 48 := by omega
            go_wp2
            go_round
            case rel =>
              refine ⟨k + 1, by omega, by go_num, ?_, ?_⟩
              · congr 1
                rw [take_snoc s k hlt, numOf_snoc, HN.out]
              · exact Lib.hid (by rw [take_snoc s k hlt, List.all_append, hall.out]; simp [HD.out])
            case measure => simp [intOf]; omega
          · have hd' : isDig s[k] = false := by simpa using hd
            have hd2 : ¬ (48 ≤ s[k].toNat ∧ s[k].toNat ≤ 57) := fun h => hd ((isDig_iff _).2 h)
            have HN' : Hid (number (toL s) max = (0, false)) := Lib.hid (number_none _ _ HB.out (by
              rw [Bool.eq_false_iff]
              intro h5
              have := all_get s k hlt h5
              exact hd this))
            clear hd hd'
            by_cases hlo : s[k].toNat < 48
            · go_wp2
              go_ret2
              exact hR _ _ ⟨ret2 (by rw [HN'.out]), rfl⟩
            · have hhi : 57 < s[k].toNat := by omega
              go_wp2
              go_ret2
              exact hR _ _ ⟨ret2 (by rw [HN'.out]), rfl⟩
        · obtain rfl : k = s.size := by omega
          go_wp2
          go_ret2
          refine hR _ _ ⟨ret2 ?_, rfl⟩
          have h1 := hall.out
          have h2 := HN.out
          rw [take_all] at h1 h2
          rw [number_good _ _ HB.out h1, h2]
    · have HB := Lib.hid (number_bad _ _ hbad)
      go_wp2
      go_ret2
      exact hR _ _ ⟨ret2 (by rw [HB.out]), rfl⟩

/-! ### the digits -/
theorem digs_succ (k n : Nat) (h : n ≠ 0) : digs (k + 1) n = UInt8.ofNat (48 + n % 10) :: digs k (n / 10) := by rw [digs, if_neg h]
theorem digs_zero (k : Nat) : digs k 0 = [] := by cases k <;> simp [digs]
theorem dig_nat (n : Nat) : (UInt8.ofNat (48 + n % 10)).toNat = 48 + n % 10 := by
  rw [UInt8.toNat_ofNat']; omega
theorem digs_len (k n : Nat) : (digs k n).length ≤ k := by
  induction k generalizing n with
  | zero => simp [digs]
  | succ k ih => unfold digs; split <;> simp; exact ih _

/-- a row of bytes, turned from both ends up to the k-th -/
def revAt (l : List UInt8) (k : Nat) : List UInt8 := (List.range l.length).map fun p => if p < k ∨ l.length - k ≤ p then l.getD (l.length - 1 - p) 0 else l.getD p 0
theorem revAt_len (l : List UInt8) (k : Nat) : (revAt l k).length = l.length := by simp [revAt]
theorem revAt_get (l : List UInt8) (k p : Nat) (h : p < l.length) : (revAt l k)[p]? = some (if p < k ∨ l.length - k ≤ p then l.getD (l.length - 1 - p) 0 else l.getD p 0) := by
  unfold revAt; rw [List.getElem?_map, List.getElem?_range h]; rfl
theorem revAt_zero (l : List UInt8) : revAt l 0 = l := by
  apply List.ext_getElem?
  intro p
  by_cases h : p < l.length
  · rw [revAt_get l 0 p h, if_neg (by omega), List.getD_eq_getElem?_getD, List.getElem?_eq_getElem h]; rfl
  · rw [List.getElem?_eq_none (by rw [revAt_len]; omega), List.getElem?_eq_none (by omega)]
theorem revAt_end (l : List UInt8) (k : Nat) (h : l.length ≤ 2 * k + 1) : revAt l k = l.reverse := by
  apply List.ext_getElem?
  intro p
  by_cases hp : p < l.length
  · rw [revAt_get l k p hp, List.getElem?_reverse hp]
    by_cases hc : p < k ∨ l.length - k ≤ p
    · rw [if_pos hc, List.getD_eq_getElem?_getD, List.getElem?_eq_getElem (by omega)]; rfl
    · have e : l.length - 1 - p = p := by omega
      rw [if_neg hc, List.getD_eq_getElem?_getD, e, List.getElem?_eq_getElem hp]; rfl
  · rw [List.getElem?_eq_none (by rw [revAt_len]; omega), List.getElem?_eq_none (by simp; omega)]
theorem revAt_mid (l : List UInt8) (k : Nat) (h : 2 * k + 1 < l.length) : (revAt l k)[k]? = some (l.getD k 0) ∧ (revAt l k)[l.length - 1 - k]? = some (l.getD (l.length - 1 - k) 0) := by
  rw [revAt_get l k k (by omega), revAt_get l k _ (by omega), if_neg (by omega), if_neg (by omega)]
  exact ⟨rfl, rfl⟩
theorem revAt_succ (l : List UInt8) (k : Nat) (h : 2 * k + 1 < l.length) : revAt l (k + 1) = ((revAt l k).set k (l.getD (l.length - 1 - k) 0)).set (l.length - 1 - k) (l.getD k 0) := by
  apply List.ext_getElem?
  intro p
  by_cases hp : p < l.length
  · rw [revAt_get l (k + 1) p hp, List.getElem?_set, List.getElem?_set, revAt_get l k p hp, List.length_set, revAt_len]
    by_cases h1 : l.length - 1 - k = p
    · rw [if_pos h1, if_pos (by omega), if_pos (by omega)]
      congr 2; omega
    · rw [if_neg h1]
      by_cases h2 : k = p
      · rw [if_pos h2, if_pos (by omega), if_pos (by omega)]; congr 2; omega
      · rw [if_neg h2]
        by_cases h3 : p < k ∨ l.length - k ≤ p
        · rw [if_pos h3, if_pos (by omega)]
        · rw [if_neg h3, if_neg (by omega)]
  · rw [List.getElem?_eq_none (by rw [revAt_len]; omega), List.getElem?_eq_none (by simp [revAt_len]; omega)]

set_option maxHeartbeats 1000000 in
/-- slices.Reverse at []byte: of a row that the call owns -/
theorem reverse_any (l : List UInt8) (g c : Nat) (fz : Nat × Nat) (w : World) (hl : l.length ≤ 1000000) (hrow : RowAt w g 5 fz (l.map u8v)) (hfz : l.length ≤ fz.1 ∨ fz.2 = 0) :
    Calls Tryd.prog 47 #[.slice (some ⟨g, 0, none⟩) l.length c] w fun e w' => e = .returned (.tuple #[]) ∧ RowAt w' g 5 fz (l.reverse.map u8v) ∧ Keep (· = g) w w' ∧ w'.heap.size = w.heap.size := by
  refine calls_gen fun R hR => ?_
  go_enter Tryd.func47, Tryd.ntmps47
  go_wp2
  go_loopw [2, 3] (fun i j wr => ∃ k : Nat, k ≤ l.length ∧ i = .int .i64 k ∧ j = .int .i64 ((l.length : Int) - 1 - k) ∧ RowAt wr g 5 fz ((revAt l k).map u8v) ∧ Keep (· = g) w wr ∧ Hid (wr.heap.size = w.heap.size)) (fun i _ _ => l.length - (intOf i).toNat)
  case atStart => exact ⟨0, by omega, rfl, by go_num, by rw [revAt_zero]; exact hrow, Keep.refl _ _, rfl⟩
  case round =>
    obtain ⟨k, hk, rfl, rfl, hr, hkp, hsz⟩ := hrel
    by_cases hlt : 2 * k + 1 < l.length
    · have h1 : (k : Int) < (l.length : Int) - 1 - k := by omega
      obtain ⟨m1, m2⟩ := revAt_mid l k hlt
      have c1 := hr.cell (i := k) (u := u8v (l.getD k 0)) (by rw [List.getElem?_map, m1]; rfl)
      have c2 := hr.cell (i := l.length - 1 - k) (u := u8v (l.getD (l.length - 1 - k) 0)) (by rw [List.getElem?_map, m2]; rfl)
      have f1 := hr.free (i := k) (by omega)
      have f2 := hr.free (i := l.length - 1 - k) (by omega)
      obtain ⟨a, ha⟩ : ∃ a : Int, u8v (l.getD k 0) = .int .u8 a := ⟨_, rfl⟩
      obtain ⟨b, hb⟩ : ∃ b : Int, u8v (l.getD (l.length - 1 - k) 0) = .int .u8 b := ⟨_, rfl⟩
      have h2 : (k : Int) ≤ (l.length : Int) - 1 := by omega
      have h3 : (l.length : Int) - 1 - k < l.length := by omega
      rw [ha] at c1
      rw [hb] at c2
      have HA := Lib.hid ha; have HB := Lib.hid hb
      clear ha hb
      go_wp2
      go_region
      all_goals
        go_wp2
        go_roundw
        case rel =>
          refine ⟨k + 1, by omega, by go_num, by go_num, ?_, ?_, ?_⟩
          · rw [revAt_succ l k hlt, List.map_set, List.map_set]
            show RowAt _ g _ fz (((List.map u8v (revAt l k)).set k (u8v (l.getD (l.length - 1 - k) 0))).set _ (u8v (l.getD k 0)))
            rw [HA.out, HB.out]
            have hr' : RowAt wr.drew g 5 fz ((revAt l k).map u8v) := hr.move rfl
            first
              | exact (hr'.set k _).set (l.length - 1 - k) _
              | (rw [List.set_comm _ _ (by omega)]; exact (hr'.set (l.length - 1 - k) _).set k _)
          · exact ((hkp.set rfl _).set rfl _).drew
          · refine Lib.hid ?_
            show (World.setCell _ _ _).heap.size = _
            rw [size_setCell, size_setCell]; exact hsz.out
        case measure => simp [intOf]; omega
    · have hs : ¬ (k : Int) < (l.length : Int) - 1 - k := by omega
      go_wp2
      go_end0
      refine hR _ _ ⟨rfl, ?_, hkp, hsz.out⟩
      rw [← revAt_end l k (by omega)]; exact hr

theorem u64_neg (n : Int) (h : n < 0) (h0 : -9223372036854775808 ≤ n) : IntKind.u64.wrap (-IntKind.u64.wrap n) = -n := by
  have e : ∀ x : Int, IntKind.u64.wrap x = x % 18446744073709551616 := fun _ => rfl
  rw [e, e]; omega
theorem u64_id (n : Int) (h : 0 ≤ n) (h1 : n ≤ 9223372036854775807) : IntKind.u64.wrap n = n := by
  have e : ∀ x : Int, IntKind.u64.wrap x = x % 18446744073709551616 := fun _ => rfl
  rw [e]; omega
theorem u64_div (u : Nat) (h : u < 18446744073709551616) : IntKind.u64.wrap ((u : Int) / 10) = ((u / 10 : Nat) : Int) := by
  have e : ∀ x : Int, IntKind.u64.wrap x = x % 18446744073709551616 := fun _ => rfl
  rw [e]; omega
theorem ofL_append (a b : List UInt8) : ofL a ++ ofL b = ofL (a ++ b) := by
  apply toL_inj
  rw [toL_ofL]
  show (ofL a ++ ofL b).data.toList = _
  rw [ByteArray.data_append, Array.toList_append]
  rfl

set_option maxHeartbeats 2000000 in
/-- ascii.Decimal -/
theorem decimal_any (n : Int) (w : World) (h0 : -9223372036854775808 ≤ n) (h1 : n ≤ 9223372036854775807) :
    Calls Tryd.prog 33 #[.int .i64 n] w fun e w' => e = .returned (.string (ofL (decimal n))) ∧ Below w.heap.size w w' := by
  refine calls_gen fun R hR => ?_
  obtain ⟨m, hm⟩ : ∃ m : Nat, m = n.natAbs := ⟨_, rfl⟩
  have hmb : m < 9223372036854775809 := by omega
  go_enter Tryd.func33, Tryd.ntmps33
  have HM := Lib.hid hm
  have H0 := Lib.hid h0; have H1 := Lib.hid h1; have HB := Lib.hid hmb
  clear hm h0 h1 hmb
  go_upto_if 9 with fail
  go_cut [3, 4] (fun u sg wc => u = .int .u64 m ∧ sg = .string (ofL (if n < 0 then [45] else [])) ∧ wc = w)
  case first =>
    by_cases hn : n < 0
    · go_wp2
      go_meet
      refine ⟨congrArg (Value.int .u64) ?_, by rw [if_pos hn]; rfl, rfl⟩
      have a := HM.out; have b := H0.out
      rw [u64_neg n hn b]; omega
    · go_wp2
      go_meet
      refine ⟨congrArg (Value.int .u64) ?_, by rw [if_neg (by omega)]; rfl, rfl⟩
      have a := HM.out; have b := H1.out
      rw [u64_id n (by omega) b]; omega
  case rest =>
    obtain ⟨rfl, rfl, rfl⟩ := hcut
    obtain ⟨sg, hsg⟩ : ∃ sg : List UInt8, (if n < 0 then [45] else []) = sg := ⟨_, rfl⟩
    have hsl : sg.length ≤ 1 := by rw [← hsg]; split <;> simp
    rw [hsg]
    have HS := Lib.hid hsg; clear hsg
    obtain ⟨K0, hK0⟩ : ∃ l, UInt8.ofNat (48 + m % 10) :: digs 20 (m / 10) = l := ⟨_, rfl⟩
    have HA := Lib.hid hK0
    have hq := u64_div m (by have := HB.out; omega)
    go_wp2
    clear hq
    have hstart : Own Rp.u8 5 (wc.alloc (.cells #[.int .u8 (48 + (m : Int) % 10)] 5)) (wc.heap.size ≤ ·) [UInt8.ofNat (48 + m % 10)] (.slice (some ⟨wc.heap.size, 0, none⟩) 1 1) := by
      have e : Value.int .u8 (48 + (m : Int) % 10) = u8v (UInt8.ofNat (48 + m % 10)) := by
        unfold u8v; rw [dig_nat]; first | rfl | (congr 1; done) | (congr 1; omega)
      rw [e]
      exact (Own.lit (d := Rp.u8) (e := 5) wc (G := fun _ => False) (xs := [UInt8.ofNat (48 + m % 10)]) (cs := [u8v (UInt8.ofNat (48 + m % 10))]) (Elems.of_map _) rfl (by unfold maxLen; simp)).mono (fun k hk => by rcases hk with hk | hk <;> first | exact hk.elim | exact hk)
    go_loopw [3, 5] (fun u v wr => ∃ K q : Nat, ∃ out : List UInt8, u = .int .u64 q ∧ q < 18446744073709551616 ∧ Hid (q < 10 ^ K) ∧ out.length + K ≤ 21 ∧ Hid (out ++ digs K q = K0) ∧ Own Rp.u8 5 wr (wc.heap.size ≤ ·) out v ∧ Below wc.heap.size wc wr) (fun u _ _ => (intOf u).toNat)
    case atStart =>
      refine ⟨20, m / 10, [UInt8.ofNat (48 + m % 10)], rfl, by have := HB.out; omega, Lib.hid (by have := HB.out; omega), by simp, HA, hstart, (Below.refl _ _).alloc (Nat.le_refl _) _⟩
    case round =>
      obtain ⟨K, q, out, rfl, hq1, hq2, hlen, hinv, hown, hb⟩ := hrel
      have hbs := hb.size
      by_cases hz : q = 0
      · subst hz
        have e1 : out = K0 := by have := hinv.out; rw [digs_zero, List.append_nil] at this; exact this
        have E1 := Lib.hid e1; clear e1
        obtain ⟨g, c, rfl, hgB, hcl, hrow⟩ := hown.row (by rw [E1.out, ← HA.out]; simp)
        have hgl := hrow.len
        go_wp2_with fail
        refine (reverse_any out g c (0, 0) _ (by omega) hrow (.inr rfl)).mono ?_
        rintro e w2 ⟨rfl, hr2, hk2, hs2⟩
        have HS2 := Lib.hid hs2; clear hs2
        go_wp2_with (first | (with_reducible refine stop_convert ?_) | fail)
        have hv := hr2.view (h1 := fun _ => rfl) (F := fun _ => True) (c := c) (by rw [List.length_reverse]; exact hcl) trivial
        rw [List.length_reverse] at hv
        refine ⟨wp_string Tryd.underlying33 Tryd.underlying5 Tryd.underlying9 hv ?_⟩
        have z1 := ofL_size sg
        have z2 := ofL_size out.reverse
        rw [List.length_reverse] at z2
        obtain ⟨s1, hs1⟩ : ∃ s1, ofL sg = s1 := ⟨_, rfl⟩
        obtain ⟨s2, hs2⟩ : ∃ s2, ofL out.reverse = s2 := ⟨_, rfl⟩
        rw [hs1] at z1 ⊢
        rw [hs2] at z2 ⊢
        have z1' : s1.size ≤ 1 := by omega
        have z2' : s2.size ≤ 21 := by omega
        have HS1 := Lib.hid hs1; have HS2 := Lib.hid hs2
        clear z1 z2 hs1 hs2
        go_wp2
        go_ret
        refine hR _ _ ⟨ret_str ?_, (hb.trans (hk2.below hbs (fun i hi e' => by omega)))⟩
        rw [← HS1.out, ← HS2.out, ofL_append]
        congr 1
        unfold decimal
        rw [HS.out, ← HM.out, HA.out, E1.out]
      · have hz' : 0 < q := by omega
        have hqq := u64_div q hq1
        have HQ1 := Lib.hid hq1; clear hq1
        obtain ⟨K', rfl⟩ : ∃ K', K = K' + 1 := by
          cases K with
          | zero => have := hq2.out; simp at this; omega
          | succ K => exact ⟨K, rfl⟩
        have hd := Lib.hid (digs_succ K' q hz)
        clear hz
        go_wp2_with (with_reducible (first | refine stop_append ?_))
        refine ⟨wp_append1_flat (y := UInt8.ofNat (48 + q % 10)) Tryd.underlying33 info5 rfl hown rfl rfl (u8_rep ?_) (by omega) (by decide) hbs ?_⟩
        · rw [dig_nat]; omega
        intro v1 w1 ho1 hb1 _ _
        have hb2 := hb.trans hb1
        go_wp2
        go_roundw
        case rel =>
          refine ⟨K', q / 10, out ++ [UInt8.ofNat (48 + q % 10)], rfl, by have := HQ1.out; omega, Lib.hid ?_, by simp; omega, Lib.hid ?_, ho1, hb2⟩
          · have := hq2.out; rw [Nat.pow_succ] at this; omega
          · rw [← hinv.out, hd.out]; simp
        case measure => simp [intOf]; omega

set_option maxHeartbeats 2000000 in
/-- parapetref1.Decimal -/
theorem rdecimal_any (n : Int) (w : World) (h0 : -9223372036854775808 ≤ n) (h1 : n ≤ 9223372036854775807) :
    Calls Tryd.prog 34 #[.int .i64 n] w fun e w' => e = .returned (.string (ofL (decimal n))) ∧ Below w.heap.size w w' := by
  refine calls_gen fun R hR => ?_
  obtain ⟨m, hm⟩ : ∃ m : Nat, m = n.natAbs := ⟨_, rfl⟩
  have hmb : m < 9223372036854775809 := by omega
  have HM := Lib.hid hm
  have H0 := Lib.hid h0; have H1 := Lib.hid h1; have HB := Lib.hid hmb
  clear h0 h1 hmb
  by_cases hz : n = 0
  · subst hz
    go_enter Tryd.func34, Tryd.ntmps34
    go_wp2
    go_ret
    refine hR _ _ ⟨ret_str ?_, Below.refl _ _⟩
    decide
  · have hz' : (n == 0) = false := by simpa using hz
    have hm0 : m ≠ 0 := by omega
    have HM0 := Lib.hid hm0
    clear hm hm0 hz
    go_enter Tryd.func34, Tryd.ntmps34
    go_upto_if 12 with fail
    go_cut [3] (fun u wc => u = .int .u64 m ∧ wc = w)
    case first =>
      by_cases hn : n < 0
      · go_wp2
        go_meet
        refine ⟨congrArg (Value.int .u64) ?_, rfl⟩
        have a := HM.out; have b := H0.out
        rw [u64_neg n hn b]; omega
      · go_wp2
        go_meet
        refine ⟨congrArg (Value.int .u64) ?_, rfl⟩
        have a := HM.out; have b := H1.out
        rw [u64_id n (by omega) b]; omega
    case rest =>
      obtain ⟨rfl, rfl⟩ := hcut
      obtain ⟨K0, hK0⟩ : ∃ l, digs 21 m = l := ⟨_, rfl⟩
      have HA := Lib.hid hK0
      clear hK0
      go_wp2
      go_loopw [3, 4] (fun u v wr => ∃ K q : Nat, ∃ out : List UInt8, u = .int .u64 q ∧ q < 18446744073709551616 ∧ Hid (q < 10 ^ K) ∧ out.length + K ≤ 21 ∧ Hid (out ++ digs K q = K0) ∧ Own Rp.u8 5 wr (wc.heap.size ≤ ·) out v ∧ Below wc.heap.size wc wr) (fun u _ _ => (intOf u).toNat)
      case atStart =>
        exact ⟨21, m, [], rfl, by have := HB.out; omega, Lib.hid (by have := HB.out; omega), by simp, HA, Own.nil _ _ _ _, Below.refl _ _⟩
      case round =>
        obtain ⟨K, q, out, rfl, hq1, hq2, hlen, hinv, hown, hb⟩ := hrel
        have hbs := hb.size
        by_cases hz : q = 0
        · subst hz
          have e1 : out = K0 := by have := hinv.out; rw [digs_zero, List.append_nil] at this; exact this
          have E1 := Lib.hid e1; clear e1
          have hne : out ≠ [] := by
            rw [E1.out, ← HA.out, digs_succ _ _ HM0.out]; simp
          obtain ⟨g, c, rfl, hgB, hcl, hrow⟩ := hown.row hne
          have hgl := hrow.len
          have hol : out.length ≤ 21 := by omega
          have hpos : 0 < out.length := List.length_pos_iff.2 hne
          have HNE := Lib.hid hne; clear hne
          go_upto_if 27 with fail
          go_cut [5] (fun v wx => Own Rp.u8 5 wx (wr.heap.size ≤ ·) (if n < 0 then [45] else []) v ∧ Below wr.heap.size wr wx)
          case first =>
            by_cases hn : n < 0
            · have hsg : (if n < 0 then [45] else []) = ([45] : List UInt8) := if_pos hn
              have HSG := Lib.hid hsg; clear hsg
              go_wp2_with (with_reducible (first | refine stop_append ?_))
              refine ⟨wp_append1_flat (B := wr.heap.size) (xs := []) (y := 45) Tryd.underlying33 info5 rfl (Own.nil Rp.u8 _ _ _) rfl rfl (u8_rep ?_) (by simp) (by decide) (Nat.le_refl _) ?_⟩
              · rfl
              intro v1 w1 ho1 hb1 _ _
              go_wp2
              go_meet
              exact ⟨by rw [HSG.out]; exact ho1, hb1⟩
            · go_wp2
              go_meet
              exact ⟨by rw [if_neg (by omega)]; exact Own.nil _ _ _ _, Below.refl _ _⟩
          case rest =>
            obtain ⟨hown2, hbx⟩ := hcut
            obtain ⟨sg, hsg⟩ : ∃ sg : List UInt8, (if n < 0 then [45] else []) = sg := ⟨_, rfl⟩
            have hsl : sg.length ≤ 1 := by rw [← hsg]; split <;> simp
            rw [hsg] at hown2
            have HSG := Lib.hid hsg; clear hsg
            go_wp2
            go_loopw [5, 6] (fun v i wy => ∃ k : Nat, k ≤ out.length ∧ i = .int .i64 ((k : Int) - 1) ∧ Own Rp.u8 5 wy (wr.heap.size ≤ ·) (sg ++ (out.drop k).reverse) v ∧ Below wr.heap.size wr wy) (fun _ i _ => ((intOf i) + 1).toNat)
            case atStart => exact ⟨out.length, Nat.le_refl _, rfl, by rw [List.drop_length]; simpa using hown2, hbx⟩
            case round =>
              obtain ⟨k, hk, rfl, hown3, hby⟩ := hrel
              have hbys := hby.size
              by_cases hk0 : k = 0
              · subst hk0
                rw [List.drop_zero] at hown3
                go_wp2_with (first | (with_reducible refine stop_convert ?_) | fail)
                refine ⟨wp_string Tryd.underlying33 Tryd.underlying5 Tryd.underlying9 hown3.view ?_⟩
                go_wp2
                go_ret
                refine hR _ _ ⟨ret_str ?_, hb.trans (hby.mono hbs)⟩
                congr 1
                unfold decimal
                rw [HSG.out, ← HM.out, E1.out, ← HA.out, digs_succ _ _ HM0.out]
              · have hlt : k - 1 < out.length := by omega
                have hcell := hby.cell (p := ⟨g, k - 1, none⟩) hgl |>.trans (hrow.cell (i := k - 1) (u := u8v out[k - 1]) (by simp [hlt]))
                unfold u8v at hcell
                obtain ⟨x, hx⟩ : ∃ x, out[k - 1] = x := ⟨_, rfl⟩
                rw [hx] at hcell
                have hdrop : out.drop (k - 1) = x :: out.drop k := by
                  rw [List.drop_eq_getElem_cons hlt, hx]; congr 2; omega
                have HD := Lib.hid hdrop; clear hdrop hx
                have hk1 : (1 : Int) ≤ k := by omega
                have hk2 : (k : Int) - 1 < out.length := by omega
                have hlen3 : (sg ++ (out.drop k).reverse).length ≤ 100 := by simp; omega
                go_wp2_with (with_reducible (first | refine stop_append ?_))
                refine ⟨wp_append1_flat (y := x) Tryd.underlying33 info5 rfl hown3 rfl rfl (u8_rep rfl) (by omega) (by decide) hbys ?_⟩
                intro v1 w1 ho1 hb1 _ _
                have hb2 := hby.trans hb1
                go_wp2
                go_roundw
                case rel =>
                  have ho2 := ho1
                  rw [List.append_assoc, ← List.reverse_cons, ← HD.out] at ho2
                  have hi : Value.int .i64 ((k : Int) - 1 - 1) = .int .i64 (((k - 1 : Nat) : Int) - 1) := by congr 1; omega
                  (repeat apply Exists.intro)
                  exact ⟨⟨k - 1, by omega, hi, ho2, hb2⟩, rfl⟩
                case measure => simp [intOf]; omega
        · have hz' : 0 < q := by omega
          have hqq := u64_div q hq1
          have HQ1 := Lib.hid hq1; clear hq1
          obtain ⟨K', rfl⟩ : ∃ K', K = K' + 1 := by
            cases K with
            | zero => have := hq2.out; simp at this; omega
            | succ K => exact ⟨K, rfl⟩
          have hd := Lib.hid (digs_succ K' q hz)
          clear hz
          go_wp2_with (with_reducible (first | refine stop_append ?_))
          refine ⟨wp_append1_flat (y := UInt8.ofNat (48 + q % 10)) Tryd.underlying33 info5 rfl hown rfl rfl (u8_rep ?_) (by omega) (by decide) hbs ?_⟩
          · rw [dig_nat]; omega
          intro v1 w1 ho1 hb1 _ _
          have hb2 := hb.trans hb1
          go_wp2
          go_roundw
          case rel =>
            refine ⟨K', q / 10, out ++ [UInt8.ofNat (48 + q % 10)], rfl, by have := HQ1.out; omega, Lib.hid ?_, by simp; omega, Lib.hid ?_, ho1, hb2⟩
            · have := hq2.out; rw [Nat.pow_succ] at this; omega
            · rw [← hinv.out, hd.out]; simp
          case measure => simp [intOf]; omega
end Go.Proofs.YtilpaopkhghicaaDoor.Asc
