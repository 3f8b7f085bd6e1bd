/-
  The law parapetlaw13.HeaderTypes answers true.
  The library's MaxLen is a number.
-/
import Derived.Test.YtnjkoegepjhklaaDoorHdrX
namespace Go.Proofs.YtnjkoegepjhklaaDoor.Asc
open Go Go.RowKit Go.Proofs.YtnjkoegepjhklaaDoor.Pb
set_option linter.unusedSimpArgs false

theorem round_eq (k n : Int) (hn : 0 < n) : -n < k.tmod n ∧ k.tmod n < n ∧ (k.tmod n < 0 → k.tmod n + n = k % n) ∧ (¬ k.tmod n < 0 → k.tmod n = k % n) := by
  have h1 : k.tmod n < n := Int.tmod_lt_of_pos k hn
  have h2 : -n < k.tmod n := by
    have := Int.tmod_lt_of_pos (-k) hn
    rw [Int.neg_tmod] at this; omega
  have h3 : k % n = k.tmod n % n := by
    have := Int.mul_tdiv_add_tmod k n
    conv => lhs; rw [← this, Int.add_comm]
    exact Int.add_mul_emod_self_left _ _ _
  refine ⟨h2, h1, fun h => ?_, fun h => ?_⟩
  · rw [h3, ← Int.add_emod_right, Int.emod_eq_of_lt (by omega) (by omega)]
  · rw [h3, Int.emod_eq_of_lt (by omega) h1]
theorem round_any (k n : Int) (hn : 0 < n) (hb : n ≤ 1000000) (w : World) :
    Calls Tryd.prog 16 #[.int .i64 k, .int .i64 n] w fun e w' => e = .returned (.int .i64 (k % n)) ∧ w = w' := by
  refine calls_gen fun R hR => ?_
  obtain ⟨h2, h3, h4, h5⟩ := round_eq k n hn
  have H4 := Lib.hid h4; have H5 := Lib.hid h5
  clear h4 h5
  by_cases ht : k.tmod n < 0
  · have h6 := Lib.hid (H4.out ht)
    go_enter Tryd.func16, Tryd.ntmps16
    go_wp2_with fail
    go_ret
    refine hR _ _ ⟨?_, rfl⟩
    rw [← h6.out]; rfl
  · have h6 := Lib.hid (H5.out ht)
    go_enter Tryd.func16, Tryd.ntmps16
    go_wp2_with fail
    go_ret
    refine hR _ _ ⟨?_, rfl⟩
    rw [← h6.out]; rfl

/-! ### great letters -/
def upB (c : UInt8) : UInt8 := if 97 ≤ c.toNat ∧ c.toNat ≤ 122 then c - 32 else c
def upperT (l : List UInt8) : List UInt8 := l.map upB
theorem upperT_len (l : List UInt8) : (upperT l).length = l.length := by simp [upperT]
def upAt (l : List UInt8) (k : Nat) : List UInt8 := upperT (l.take k) ++ l.drop k
theorem upAt_len (l : List UInt8) (k : Nat) : (upAt l k).length = l.length := by
  unfold upAt upperT; rw [List.length_append, List.length_map, List.length_take, List.length_drop]; omega
theorem upAt_zero (l : List UInt8) : upAt l 0 = l := by simp [upAt, upperT]
theorem upAt_all (l : List UInt8) (k : Nat) (h : l.length ≤ k) : upAt l k = upperT l := by
  unfold upAt; rw [List.take_of_length_le h, List.drop_of_length_le h, List.append_nil]
theorem upAt_get (l : List UInt8) (k : Nat) (h : k < l.length) : (upAt l k)[k]? = some l[k] := by
  unfold upAt upperT
  rw [List.getElem?_append_right (by simp; omega)]
  simp [List.length_take, Nat.min_eq_left (Nat.le_of_lt h)]
theorem upAt_succ (l : List UInt8) (k : Nat) (h : k < l.length) : upAt l (k + 1) = (upAt l k).set k (upB l[k]) := by
  unfold upAt upperT
  have e : l.drop k = l[k] :: l.drop (k + 1) := List.drop_eq_getElem_cons h
  rw [e, List.set_append_right _ _ (by simp; omega)]
  rw [List.length_map, List.length_take, Nat.min_eq_left (Nat.le_of_lt h), Nat.sub_self, List.set_cons_zero, List.take_add_one, List.getElem?_eq_getElem h, List.map_append, List.append_assoc]
  rfl
theorem upAt_step (s : ByteArray) (k : Nat) (h : k < s.size) {X : Int} (hX : X = ((upB s[k]).toNat : Int)) : (upAt (toL s) (k + 1)).map u8v = ((upAt (toL s) k).map u8v).set k (.int .u8 X) := by
  rw [hX, upAt_succ (toL s) k (by rw [toL_len]; exact h), List.map_set]; rfl
theorem upAt_same (l : List UInt8) (k : Nat) (h : k < l.length) (hc : upB l[k] = l[k]) : upAt l (k + 1) = upAt l k := by
  rw [upAt_succ l k h, hc]
  have := upAt_get l k h
  exact List.ext_getElem? fun j => by
    rw [List.getElem?_set]
    split
    · rename_i e; subst e
      split
      · exact this.symm
      · rename_i hj; rw [upAt_len] at hj; omega
    · rfl

set_option maxHeartbeats 1000000 in
theorem upper_any (s : ByteArray) (w : World) (hs : s.size ≤ 1000000) :
    Calls Tryd.prog 17 #[.string s] w fun e w' => ∃ c g, e = .returned (.slice (some ⟨g, 0, none⟩) s.size c) ∧ View Rp.u8 w' (fun _ => True) (upperT (toL s)) (.slice (some ⟨g, 0, none⟩) s.size c) ∧ s.size ≤ c ∧ Below w.heap.size w w' := by
  refine calls_gen fun R hR => ?_
  go_enter Tryd.func17, Tryd.ntmps17
  go_wp2_with (with_reducible (first | refine stop_convert ?_))
  refine ⟨wp_bytes Tryd.underlying9 Tryd.underlying30 Tryd.underlying5 rfl ?_⟩
  intro c w1 m hc hrow hm hb hsz
  obtain ⟨g, hg⟩ : ∃ g, w.heap.size = g := ⟨_, rfl⟩
  have HG := Lib.hid hg
  rw [hg] at hrow ⊢
  have hg1 : g < w1.heap.size := by omega
  have HB := Lib.hid hb; have HZ := Lib.hid hsz
  clear hg hb hsz
  go_wp2
  go_loopw [4] (fun i wr => ∃ k : Nat, k ≤ s.size ∧ i = .int .i64 k ∧ RowAt wr g 5 (m, m + 1) ((upAt (toL s) k).map u8v) ∧ Below g w wr ∧ wr.heap.size = w1.heap.size) (fun i _ => s.size - (intOf i).toNat)
  case atStart => exact ⟨0, by omega, rfl, by rw [upAt_zero]; exact hrow, HG.out ▸ HB.out, rfl⟩
  case round =>
    obtain ⟨k, hk, rfl, hrow, hb, hwz⟩ := hrel
    have HW := Lib.hid hwz; clear hwz
    by_cases hlt : k < s.size
    · have hlt' : k < (toL s).length := by rw [toL_len]; exact hlt
      have hcell := hrow.cell (i := k) (u := u8v s[k]) (by rw [List.getElem?_map, upAt_get _ _ hlt', toL_get s k hlt]; rfl)
      have hfree := hrow.free (i := k) (.inl (show k < m by omega))
      unfold u8v at hcell
      have HN := Lib.hid (upAt_same (toL s) k hlt')
      by_cases hup : 97 ≤ s[k].toNat ∧ s[k].toNat ≤ 122
      · obtain ⟨h1, h2⟩ := hup
        have HS := Lib.hid (upAt_step s k hlt (X := (s[k].toNat : Int) - 32) (by unfold upB; rw [if_pos ⟨h1, h2⟩, UInt8.toNat_sub_of_le _ _ (by rw [UInt8.le_iff_toNat_le]; show 32 ≤ s[k].toNat; omega)]; show (s[k].toNat : Int) - 32 = ((s[k].toNat - 32 : Nat) : Int); omega))
        go_wp2
        go_roundw
        case rel =>
          refine ⟨k + 1, by omega, by go_num, ?_, hb.setCell (Nat.le_refl _) _, by simpa [World.setCell] using HW.out⟩
          rw [HS.out]
          exact hrow.set k _
        case measure => simp [intOf]; omega
      · have hno : upB s[k] = s[k] := by unfold upB; rw [if_neg hup]
        have HNO := Lib.hid (HN.out hno); clear hno
        go_wp2
        all_goals
          go_roundw
          case rel =>
            refine ⟨k + 1, by omega, by go_num, ?_, hb, HW.out⟩
            rw [HNO.out]; exact hrow
          case measure => simp [intOf]; omega
    · obtain rfl : k = s.size := by omega
      have hv : View Rp.u8 wr (fun _ => True) (upAt (toL s) s.size) (.slice (some ⟨g, 0, none⟩) s.size c) := by
        have h := hrow.view (h1 := fun _ => rfl) (F := fun _ => True) (c := c) (by rw [upAt_len, toL_len]; exact hc) trivial
        rw [upAt_len, toL_len] at h
        exact h
      rw [upAt_all _ _ (by rw [toL_len]; exact Nat.le_refl _)] at hv
      have HV := Lib.hid hv
      clear hv
      go_wp2
      go_ret
      exact hR _ _ ⟨_, _, rfl, HV.out, hc, HG.out ▸ hb⟩

/-! ### the media types -/
def typesL : List Tx := [[116, 101, 120, 116, 47, 112, 108, 97, 105, 110], [109, 117, 108, 116, 105, 112, 97, 114, 116, 47, 102, 111, 114, 109, 45, 100, 97, 116, 97], [97, 112, 112, 108, 105, 99, 97, 116, 105, 111, 110, 47, 120, 45, 119, 119, 119, 45, 102, 111, 114, 109, 45, 117, 114, 108, 101, 110, 99, 111, 100, 101, 100], [97, 112, 112, 108, 105, 99, 97, 116, 105, 111, 110, 47, 106, 115, 111, 110], [116, 101, 120, 116, 47, 104, 116, 109, 108], [116, 101, 120, 116], [116, 101, 120, 116, 47], [97, 47, 98, 47, 99]]
def parT : Tx := [32, 59, 32, 99, 104, 97, 114, 115, 101, 116, 61, 117, 116, 102, 45, 56]
def ctT : Tx := [99, 111, 110, 116, 101, 110, 116, 45, 84, 89, 80, 69]
def ctN : ByteArray := ⟨#[99, 111, 110, 116, 101, 110, 116, 45, 84, 89, 80, 69]⟩
def vT (t : Tx) (p g : Bool) : Tx := (if g then upperT t else t) ++ (if p then parT else [])
def mkT (t : Tx) (p g : Bool) : Tx := (if g then [9] else []) ++ vT t p g
theorem types_all : ∀ p g : Bool, ∀ j : Fin 8, (essence (mkT typesL[j] p g) = if j.val < 5 then (typesL[j], true) else ([], false)) ∧ simple ctT (vT typesL[j] p g) = decide (j.val < 3) ∧ typesL[j].length ≤ 50 := by decide +kernel
theorem types_ess (j : Nat) (t : Tx) (p g : Bool) (hj : j < 8) (ht : typesL[j]? = some t) : essence (mkT t p g) = if j < 5 then (t, true) else ([], false) := by
  have h := (types_all p g ⟨j, hj⟩).1
  have e : typesL[j]'hj = t := by rw [List.getElem?_eq_getElem (show j < typesL.length from hj)] at ht; exact Option.some.inj ht
  subst e
  exact h
theorem types_simple (j : Nat) (t : Tx) (p g : Bool) (hj : j < 8) (ht : typesL[j]? = some t) : simple (toL ctN) (vT t p g) = decide (j < 3) := by
  have h := (types_all p g ⟨j, hj⟩).2.1
  have e : typesL[j]'hj = t := by rw [List.getElem?_eq_getElem (show j < typesL.length from hj)] at ht; exact Option.some.inj ht
  subst e
  exact h
theorem types_len (j : Nat) (t : Tx) (hj : j < 8) (ht : typesL[j]? = some t) : t.length ≤ 50 := by
  have h := (types_all false false ⟨j, hj⟩).2.2
  have e : typesL[j]'hj = t := by rw [List.getElem?_eq_getElem (show j < typesL.length from hj)] at ht; exact Option.some.inj ht
  subst e
  exact h
theorem mkT_len (t : Tx) (p g : Bool) (h : t.length ≤ 50) : (mkT t p g).length ≤ 100 := by
  cases p <;> cases g <;> simp [mkT, vT, upperT, parT] <;> omega

set_option maxRecDepth 20000 in
set_option maxHeartbeats 8000000 in
theorem types_walk (k : Int) (param great : Bool) (m : Int) (w : World) (hm : MaxLen m w) :
    Calls Tryd.prog 6 #[.int .i64 k, .bool param, .bool great] w fun e w' => e = .returned (.bool true) ∧ Below w.heap.size w w' := by
  refine calls_gen fun R hR => ?_
  have HM := Lib.hid hm
  clear hm
  go_enter Tryd.func6, Tryd.ntmps6
  go_wp2_with fail
  have hl0 : View Rp.str (w.alloc (.cells #[.string ⟨#[116, 101, 120, 116, 47, 112, 108, 97, 105, 110]⟩, .string ⟨#[109, 117, 108, 116, 105, 112, 97, 114, 116, 47, 102, 111, 114, 109, 45, 100, 97, 116, 97]⟩, .string ⟨#[97, 112, 112, 108, 105, 99, 97, 116, 105, 111, 110, 47, 120, 45, 119, 119, 119, 45, 102, 111, 114, 109, 45, 117, 114, 108, 101, 110, 99, 111, 100, 101, 100]⟩, .string ⟨#[97, 112, 112, 108, 105, 99, 97, 116, 105, 111, 110, 47, 106, 115, 111, 110]⟩, .string ⟨#[116, 101, 120, 116, 47, 104, 116, 109, 108]⟩, .string ⟨#[116, 101, 120, 116]⟩, .string ⟨#[116, 101, 120, 116, 47]⟩, .string ⟨#[97, 47, 98, 47, 99]⟩] 9)) (fun _ => True) typesL (.slice (some ⟨w.heap.size, 0, none⟩) 8 8) := lits typesL _ rfl (by decide) 8 rfl
  have hb1 := below_new w (.cells #[.string ⟨#[116, 101, 120, 116, 47, 112, 108, 97, 105, 110]⟩, .string ⟨#[109, 117, 108, 116, 105, 112, 97, 114, 116, 47, 102, 111, 114, 109, 45, 100, 97, 116, 97]⟩, .string ⟨#[97, 112, 112, 108, 105, 99, 97, 116, 105, 111, 110, 47, 120, 45, 119, 119, 119, 45, 102, 111, 114, 109, 45, 117, 114, 108, 101, 110, 99, 111, 100, 101, 100]⟩, .string ⟨#[97, 112, 112, 108, 105, 99, 97, 116, 105, 111, 110, 47, 106, 115, 111, 110]⟩, .string ⟨#[116, 101, 120, 116, 47, 104, 116, 109, 108]⟩, .string ⟨#[116, 101, 120, 116]⟩, .string ⟨#[116, 101, 120, 116, 47]⟩, .string ⟨#[97, 47, 98, 47, 99]⟩] 9)
  have hgl : w.heap.size < (w.alloc (.cells #[.string ⟨#[116, 101, 120, 116, 47, 112, 108, 97, 105, 110]⟩, .string ⟨#[109, 117, 108, 116, 105, 112, 97, 114, 116, 47, 102, 111, 114, 109, 45, 100, 97, 116, 97]⟩, .string ⟨#[97, 112, 112, 108, 105, 99, 97, 116, 105, 111, 110, 47, 120, 45, 119, 119, 119, 45, 102, 111, 114, 109, 45, 117, 114, 108, 101, 110, 99, 111, 100, 101, 100]⟩, .string ⟨#[97, 112, 112, 108, 105, 99, 97, 116, 105, 111, 110, 47, 106, 115, 111, 110]⟩, .string ⟨#[116, 101, 120, 116, 47, 104, 116, 109, 108]⟩, .string ⟨#[116, 101, 120, 116]⟩, .string ⟨#[116, 101, 120, 116, 47]⟩, .string ⟨#[97, 47, 98, 47, 99]⟩] 9)).heap.size := by simp
  have HM1 := Lib.hid (HM.out.below hb1)
  obtain ⟨w1, hw1⟩ : ∃ w1, w.alloc (.cells #[.string ⟨#[116, 101, 120, 116, 47, 112, 108, 97, 105, 110]⟩, .string ⟨#[109, 117, 108, 116, 105, 112, 97, 114, 116, 47, 102, 111, 114, 109, 45, 100, 97, 116, 97]⟩, .string ⟨#[97, 112, 112, 108, 105, 99, 97, 116, 105, 111, 110, 47, 120, 45, 119, 119, 119, 45, 102, 111, 114, 109, 45, 117, 114, 108, 101, 110, 99, 111, 100, 101, 100]⟩, .string ⟨#[97, 112, 112, 108, 105, 99, 97, 116, 105, 111, 110, 47, 106, 115, 111, 110]⟩, .string ⟨#[116, 101, 120, 116, 47, 104, 116, 109, 108]⟩, .string ⟨#[116, 101, 120, 116]⟩, .string ⟨#[116, 101, 120, 116, 47]⟩, .string ⟨#[97, 47, 98, 47, 99]⟩] 9) = w1 := ⟨_, rfl⟩
  rw [hw1] at hl0 hb1 hgl HM1 ⊢
  clear hw1
  have HB1 := Lib.hid hb1
  obtain ⟨g, hg⟩ : ∃ g, w.heap.size = g := ⟨_, rfl⟩
  rw [hg] at hl0 hgl ⊢
  clear hb1 hg
  refine (round_any k 8 (by decide) (by decide) w1).mono ?_
  rintro e w' ⟨rfl, rfl⟩
  have hj1 := Int.emod_nonneg k (show (8 : Int) ≠ 0 by decide)
  have hj2 := Int.emod_lt_of_pos k (show (0 : Int) < 8 by decide)
  obtain ⟨j, hj⟩ := Int.eq_ofNat_of_zero_le hj1
  rw [hj] at hj2 ⊢
  have hj8 : j < 8 := by omega
  clear hj hj1 hj2
  obtain ⟨t, ht⟩ : ∃ t, typesL[j]? = some t := ⟨_, List.getElem?_eq_getElem (show j < typesL.length from hj8)⟩
  have htl := types_len j t hj8 ht
  obtain ⟨A, c, eA, _, hcell⟩ := hl0.open1
  obtain ⟨b, off, eb, hbl, hx⟩ := hcell j hj8
  cases eA
  cases eb
  have d0 := hx j t ht
  rw [Nat.zero_add] at d0
  obtain ⟨S, hS⟩ : ∃ S, ofL t = S := ⟨_, rfl⟩
  rw [hS] at d0
  have HS : Hid (toL S = t) := Lib.hid (by rw [← hS, toL_ofL])
  have hSs : S.size ≤ 50 := by rw [← toL_len, HS.out]; exact htl
  clear hS hcell hl0 hx hbl
  cases great
  · cases param
    · -- great false, param false
      have HES := Lib.hid (types_ess j t false false hj8 ht); have HSI := Lib.hid (types_simple j t false false hj8 ht)
      have HML := Lib.hid (mkT_len t false false htl)
      clear ht
      have d2 := d0
      have hgl2 := hgl
      have HB2 := HB1; have HM2 := HM1
      go_upto_region 8 with fail
      obtain ⟨S2, hS2⟩ : ∃ S2 : ByteArray, S = S2 := ⟨_, rfl⟩
      have HS2 : Hid (toL S2 = mkT t false false) := Lib.hid (by rw [← hS2]; simp only [toL_cat, HS.out]; simp [mkT, vT, toL, parT])
      have hS2s : S2.size ≤ 100 := by rw [← toL_len, HS2.out]; exact HML.out
      rw [hS2]
      clear hS2

      obtain ⟨E, hE⟩ : ∃ E, ofL (essence (toL S2)).1 = E := ⟨_, rfl⟩
      obtain ⟨O, hO⟩ : ∃ O, (essence (toL S2)).2 = O := ⟨_, rfl⟩
      have HE := Lib.hid hE; have HO := Lib.hid hO
      go_wp2_with fail
      refine (essence_any S2 m _ (by omega) HM2.out).mono ?_
      rintro e w3 ⟨rfl, hb3⟩
      rw [hE, hO]
      have HB3 := Lib.hid (HB2.out.trans (hb3.mono HB2.out.size)); have HM3 := Lib.hid (HM2.out.below hb3)
      have d3 := (hb3.cell (p := ⟨g, j, none⟩) hgl2).trans d2
      have hgl3 : g < w3.heap.size := Nat.lt_of_lt_of_le hgl2 hb3.size
      clear hb3 d2 hE hO
      have hess := HES.out
      rw [← HS2.out] at hess
      have hsim := HSI.out
      obtain ⟨V, hV⟩ : ∃ V, S2 = V := ⟨_, rfl⟩
      have hVl : toL V = vT t false false := by rw [← hV, HS2.out]; simp [mkT, vT]
      have hVs : V.size ≤ 100 := by rw [← hV]; exact hS2s
      rw [← hVl] at hsim
      have HHV := Lib.hid hV; have HSM := Lib.hid hsim
      clear hV hVl hsim
      by_cases h5 : j < 5
      · have hd5 : decide ((j : Int) < 5) = true := decide_eq_true (by omega)
        rw [if_pos h5] at hess
        obtain rfl : O = true := by rw [← HO.out, hess]
        have hEl : (E.toList == S.toList) = true := by rw [← HE.out, hess, toList_ofL, toList_toL, HS.out]; simp
        clear hess
        have HEND : Hid (simple (toL ctN) (toL V) = decide ((j : Int) < 3)) := Lib.hid (by rw [HSM.out]; congr 1; simp only [eq_iff_iff]; omega)
        go_wp2_with fail
        rw [HHV.out]
        refine (simple_any ctN V m _ (by decide) (by omega) HM3.out).mono ?_
        rintro e w4 ⟨rfl, hb4⟩
        rw [HEND.out]
        have HB4 := Lib.hid (HB3.out.trans (hb4.mono HB3.out.size)); have HM4 := Lib.hid (HM3.out.below hb4)
        clear hb4
        by_cases h3 : j < 3
        · have hd3 : decide ((j : Int) < 3) = true := decide_eq_true (by omega)
          rw [hd3]
          go_wp2_with fail
          refine (awake_any m w4 HM4.out).mono ?_
          rintro e w5 ⟨rfl, hb5⟩
          go_wp2_with fail
          go_ret
          exact hR _ _ ⟨rfl, HB4.out.trans (hb5.mono HB4.out.size)⟩
        · have hd3 : decide ((j : Int) < 3) = false := decide_eq_false (by omega)
          rw [hd3]
          go_wp2_with fail
          refine (awake_any m w4 HM4.out).mono ?_
          rintro e w5 ⟨rfl, hb5⟩
          go_wp2_with fail
          go_ret
          exact hR _ _ ⟨rfl, HB4.out.trans (hb5.mono HB4.out.size)⟩
      · have hd5 : decide ((j : Int) < 5) = false := decide_eq_false (by omega)
        rw [if_neg h5] at hess
        obtain rfl : O = false := by rw [← HO.out, hess]
        clear hess
        have HEND : Hid (simple (toL ctN) (toL V) = false) := Lib.hid (by rw [HSM.out]; exact decide_eq_false (by omega))
        have hd3 : decide ((j : Int) < 3) = false := decide_eq_false (by omega)
        go_wp2_with fail
        rw [HHV.out]
        refine (simple_any ctN V m _ (by decide) (by omega) HM3.out).mono ?_
        rintro e w4 ⟨rfl, hb4⟩
        rw [HEND.out]
        have HB4 := Lib.hid (HB3.out.trans (hb4.mono HB3.out.size)); have HM4 := Lib.hid (HM3.out.below hb4)
        clear hb4
        go_wp2_with fail
        refine (awake_any m w4 HM4.out).mono ?_
        rintro e w5 ⟨rfl, hb5⟩
        go_wp2_with fail
        go_ret
        exact hR _ _ ⟨rfl, HB4.out.trans (hb5.mono HB4.out.size)⟩
    · -- great false, param true
      have HES := Lib.hid (types_ess j t true false hj8 ht); have HSI := Lib.hid (types_simple j t true false hj8 ht)
      have HML := Lib.hid (mkT_len t true false htl)
      clear ht
      have d2 := d0
      have hgl2 := hgl
      have HB2 := HB1; have HM2 := HM1
      go_upto_region 8 with fail
      obtain ⟨S2, hS2⟩ : ∃ S2 : ByteArray, S ++ ⟨#[32, 59, 32, 99, 104, 97, 114, 115, 101, 116, 61, 117, 116, 102, 45, 56]⟩ = S2 := ⟨_, rfl⟩
      have HS2 : Hid (toL S2 = mkT t true false) := Lib.hid (by rw [← hS2]; simp only [toL_cat, HS.out]; simp [mkT, vT, toL, parT])
      have hS2s : S2.size ≤ 100 := by rw [← toL_len, HS2.out]; exact HML.out
      rw [hS2]
      clear hS2

      obtain ⟨E, hE⟩ : ∃ E, ofL (essence (toL S2)).1 = E := ⟨_, rfl⟩
      obtain ⟨O, hO⟩ : ∃ O, (essence (toL S2)).2 = O := ⟨_, rfl⟩
      have HE := Lib.hid hE; have HO := Lib.hid hO
      go_wp2_with fail
      refine (essence_any S2 m _ (by omega) HM2.out).mono ?_
      rintro e w3 ⟨rfl, hb3⟩
      rw [hE, hO]
      have HB3 := Lib.hid (HB2.out.trans (hb3.mono HB2.out.size)); have HM3 := Lib.hid (HM2.out.below hb3)
      have d3 := (hb3.cell (p := ⟨g, j, none⟩) hgl2).trans d2
      have hgl3 : g < w3.heap.size := Nat.lt_of_lt_of_le hgl2 hb3.size
      clear hb3 d2 hE hO
      have hess := HES.out
      rw [← HS2.out] at hess
      have hsim := HSI.out
      obtain ⟨V, hV⟩ : ∃ V, S2 = V := ⟨_, rfl⟩
      have hVl : toL V = vT t true false := by rw [← hV, HS2.out]; simp [mkT, vT]
      have hVs : V.size ≤ 100 := by rw [← hV]; exact hS2s
      rw [← hVl] at hsim
      have HHV := Lib.hid hV; have HSM := Lib.hid hsim
      clear hV hVl hsim
      by_cases h5 : j < 5
      · have hd5 : decide ((j : Int) < 5) = true := decide_eq_true (by omega)
        rw [if_pos h5] at hess
        obtain rfl : O = true := by rw [← HO.out, hess]
        have hEl : (E.toList == S.toList) = true := by rw [← HE.out, hess, toList_ofL, toList_toL, HS.out]; simp
        clear hess
        have HEND : Hid (simple (toL ctN) (toL V) = decide ((j : Int) < 3)) := Lib.hid (by rw [HSM.out]; congr 1; simp only [eq_iff_iff]; omega)
        go_wp2_with fail
        rw [HHV.out]
        refine (simple_any ctN V m _ (by decide) (by omega) HM3.out).mono ?_
        rintro e w4 ⟨rfl, hb4⟩
        rw [HEND.out]
        have HB4 := Lib.hid (HB3.out.trans (hb4.mono HB3.out.size)); have HM4 := Lib.hid (HM3.out.below hb4)
        clear hb4
        by_cases h3 : j < 3
        · have hd3 : decide ((j : Int) < 3) = true := decide_eq_true (by omega)
          rw [hd3]
          go_wp2_with fail
          refine (awake_any m w4 HM4.out).mono ?_
          rintro e w5 ⟨rfl, hb5⟩
          go_wp2_with fail
          go_ret
          exact hR _ _ ⟨rfl, HB4.out.trans (hb5.mono HB4.out.size)⟩
        · have hd3 : decide ((j : Int) < 3) = false := decide_eq_false (by omega)
          rw [hd3]
          go_wp2_with fail
          refine (awake_any m w4 HM4.out).mono ?_
          rintro e w5 ⟨rfl, hb5⟩
          go_wp2_with fail
          go_ret
          exact hR _ _ ⟨rfl, HB4.out.trans (hb5.mono HB4.out.size)⟩
      · have hd5 : decide ((j : Int) < 5) = false := decide_eq_false (by omega)
        rw [if_neg h5] at hess
        obtain rfl : O = false := by rw [← HO.out, hess]
        clear hess
        have HEND : Hid (simple (toL ctN) (toL V) = false) := Lib.hid (by rw [HSM.out]; exact decide_eq_false (by omega))
        have hd3 : decide ((j : Int) < 3) = false := decide_eq_false (by omega)
        go_wp2_with fail
        rw [HHV.out]
        refine (simple_any ctN V m _ (by decide) (by omega) HM3.out).mono ?_
        rintro e w4 ⟨rfl, hb4⟩
        rw [HEND.out]
        have HB4 := Lib.hid (HB3.out.trans (hb4.mono HB3.out.size)); have HM4 := Lib.hid (HM3.out.below hb4)
        clear hb4
        go_wp2_with fail
        refine (awake_any m w4 HM4.out).mono ?_
        rintro e w5 ⟨rfl, hb5⟩
        go_wp2_with fail
        go_ret
        exact hR _ _ ⟨rfl, HB4.out.trans (hb5.mono HB4.out.size)⟩
  · cases param
    · -- great true, param false
      have HES := Lib.hid (types_ess j t false true hj8 ht); have HSI := Lib.hid (types_simple j t false true hj8 ht)
      have HML := Lib.hid (mkT_len t false true htl)
      clear ht
      go_wp2_with fail
      refine (upper_any S w1 (by omega)).mono ?_
      rintro e w2 ⟨c, gu, rfl, hvu, hcu, hb2⟩
      have d2 := (hb2.cell (p := ⟨g, j, none⟩) hgl).trans d0
      have hgl2 : g < w2.heap.size := Nat.lt_of_lt_of_le hgl hb2.size
      have HB2 := Lib.hid (HB1.out.trans (hb2.mono HB1.out.size)); have HM2 := Lib.hid (HM1.out.below hb2); have HVU := Lib.hid hvu
      clear hb2 hvu
      go_wp2_with (with_reducible (first | refine stop_convert ?_))
      refine ⟨wp_string Tryd.underlying30 Tryd.underlying5 Tryd.underlying9 HVU.out ?_⟩
      obtain ⟨U, hU⟩ : ∃ U, ofL (upperT (toL S)) = U := ⟨_, rfl⟩
      have HU : Hid (toL U = upperT t) := Lib.hid (by rw [← hU, toL_ofL, HS.out])
      have hUs : U.size ≤ 50 := by rw [← toL_len, HU.out, upperT_len]; exact htl
      rw [hU]
      clear hU
      go_upto_region 8 with fail
      obtain ⟨S2, hS2⟩ : ∃ S2 : ByteArray, ⟨#[9]⟩ ++ U = S2 := ⟨_, rfl⟩
      have HS2 : Hid (toL S2 = mkT t false true) := Lib.hid (by rw [← hS2]; simp only [toL_cat, HU.out]; simp [mkT, vT, toL, parT])
      have hS21 : 1 ≤ S2.size := by rw [← toL_len, HS2.out]; simp [mkT]
      have hS2s : S2.size ≤ 100 := by rw [← toL_len, HS2.out]; exact HML.out
      rw [hS2]
      clear hS2

      obtain ⟨E, hE⟩ : ∃ E, ofL (essence (toL S2)).1 = E := ⟨_, rfl⟩
      obtain ⟨O, hO⟩ : ∃ O, (essence (toL S2)).2 = O := ⟨_, rfl⟩
      have HE := Lib.hid hE; have HO := Lib.hid hO
      go_wp2_with fail
      refine (essence_any S2 m _ (by omega) HM2.out).mono ?_
      rintro e w3 ⟨rfl, hb3⟩
      rw [hE, hO]
      have HB3 := Lib.hid (HB2.out.trans (hb3.mono HB2.out.size)); have HM3 := Lib.hid (HM2.out.below hb3)
      have d3 := (hb3.cell (p := ⟨g, j, none⟩) hgl2).trans d2
      have hgl3 : g < w3.heap.size := Nat.lt_of_lt_of_le hgl2 hb3.size
      clear hb3 d2 hE hO
      have hess := HES.out
      rw [← HS2.out] at hess
      have hsim := HSI.out
      obtain ⟨V, hV⟩ : ∃ V, S2.extract 1 S2.size = V := ⟨_, rfl⟩
      have hVl : toL V = vT t false true := by rw [← hV, extract_cut, toL_ofL]; unfold cut; rw [List.take_of_length_le (by rw [toL_len]; exact Nat.le_refl _), HS2.out]; simp [mkT, vT]
      have hVs : V.size ≤ 100 := by have := extract_le S2 1 S2.size; rw [hV] at this; omega
      rw [← hVl] at hsim
      have HHV := Lib.hid hV; have HSM := Lib.hid hsim
      clear hV hVl hsim
      by_cases h5 : j < 5
      · have hd5 : decide ((j : Int) < 5) = true := decide_eq_true (by omega)
        rw [if_pos h5] at hess
        obtain rfl : O = true := by rw [← HO.out, hess]
        have hEl : (E.toList == S.toList) = true := by rw [← HE.out, hess, toList_ofL, toList_toL, HS.out]; simp
        clear hess
        have HEND : Hid (simple (toL ctN) (toL V) = decide ((j : Int) < 3)) := Lib.hid (by rw [HSM.out]; congr 1; simp only [eq_iff_iff]; omega)
        go_wp2_with fail
        rw [HHV.out]
        refine (simple_any ctN V m _ (by decide) (by omega) HM3.out).mono ?_
        rintro e w4 ⟨rfl, hb4⟩
        rw [HEND.out]
        have HB4 := Lib.hid (HB3.out.trans (hb4.mono HB3.out.size)); have HM4 := Lib.hid (HM3.out.below hb4)
        clear hb4
        by_cases h3 : j < 3
        · have hd3 : decide ((j : Int) < 3) = true := decide_eq_true (by omega)
          rw [hd3]
          go_wp2_with fail
          refine (awake_any m w4 HM4.out).mono ?_
          rintro e w5 ⟨rfl, hb5⟩
          go_wp2_with fail
          go_ret
          exact hR _ _ ⟨rfl, HB4.out.trans (hb5.mono HB4.out.size)⟩
        · have hd3 : decide ((j : Int) < 3) = false := decide_eq_false (by omega)
          rw [hd3]
          go_wp2_with fail
          refine (awake_any m w4 HM4.out).mono ?_
          rintro e w5 ⟨rfl, hb5⟩
          go_wp2_with fail
          go_ret
          exact hR _ _ ⟨rfl, HB4.out.trans (hb5.mono HB4.out.size)⟩
      · have hd5 : decide ((j : Int) < 5) = false := decide_eq_false (by omega)
        rw [if_neg h5] at hess
        obtain rfl : O = false := by rw [← HO.out, hess]
        clear hess
        have HEND : Hid (simple (toL ctN) (toL V) = false) := Lib.hid (by rw [HSM.out]; exact decide_eq_false (by omega))
        have hd3 : decide ((j : Int) < 3) = false := decide_eq_false (by omega)
        go_wp2_with fail
        rw [HHV.out]
        refine (simple_any ctN V m _ (by decide) (by omega) HM3.out).mono ?_
        rintro e w4 ⟨rfl, hb4⟩
        rw [HEND.out]
        have HB4 := Lib.hid (HB3.out.trans (hb4.mono HB3.out.size)); have HM4 := Lib.hid (HM3.out.below hb4)
        clear hb4
        go_wp2_with fail
        refine (awake_any m w4 HM4.out).mono ?_
        rintro e w5 ⟨rfl, hb5⟩
        go_wp2_with fail
        go_ret
        exact hR _ _ ⟨rfl, HB4.out.trans (hb5.mono HB4.out.size)⟩
    · -- great true, param true
      have HES := Lib.hid (types_ess j t true true hj8 ht); have HSI := Lib.hid (types_simple j t true true hj8 ht)
      have HML := Lib.hid (mkT_len t true true htl)
      clear ht
      go_wp2_with fail
      refine (upper_any S w1 (by omega)).mono ?_
      rintro e w2 ⟨c, gu, rfl, hvu, hcu, hb2⟩
      have d2 := (hb2.cell (p := ⟨g, j, none⟩) hgl).trans d0
      have hgl2 : g < w2.heap.size := Nat.lt_of_lt_of_le hgl hb2.size
      have HB2 := Lib.hid (HB1.out.trans (hb2.mono HB1.out.size)); have HM2 := Lib.hid (HM1.out.below hb2); have HVU := Lib.hid hvu
      clear hb2 hvu
      go_wp2_with (with_reducible (first | refine stop_convert ?_))
      refine ⟨wp_string Tryd.underlying30 Tryd.underlying5 Tryd.underlying9 HVU.out ?_⟩
      obtain ⟨U, hU⟩ : ∃ U, ofL (upperT (toL S)) = U := ⟨_, rfl⟩
      have HU : Hid (toL U = upperT t) := Lib.hid (by rw [← hU, toL_ofL, HS.out])
      have hUs : U.size ≤ 50 := by rw [← toL_len, HU.out, upperT_len]; exact htl
      rw [hU]
      clear hU
      go_upto_region 8 with fail
      obtain ⟨S2, hS2⟩ : ∃ S2 : ByteArray, ⟨#[9]⟩ ++ U ++ ⟨#[32, 59, 32, 99, 104, 97, 114, 115, 101, 116, 61, 117, 116, 102, 45, 56]⟩ = S2 := ⟨_, rfl⟩
      have HS2 : Hid (toL S2 = mkT t true true) := Lib.hid (by rw [← hS2]; simp only [toL_cat, HU.out]; simp [mkT, vT, toL, parT])
      have hS21 : 1 ≤ S2.size := by rw [← toL_len, HS2.out]; simp [mkT]
      have hS2s : S2.size ≤ 100 := by rw [← toL_len, HS2.out]; exact HML.out
      rw [hS2]
      clear hS2

      obtain ⟨E, hE⟩ : ∃ E, ofL (essence (toL S2)).1 = E := ⟨_, rfl⟩
      obtain ⟨O, hO⟩ : ∃ O, (essence (toL S2)).2 = O := ⟨_, rfl⟩
      have HE := Lib.hid hE; have HO := Lib.hid hO
      go_wp2_with fail
      refine (essence_any S2 m _ (by omega) HM2.out).mono ?_
      rintro e w3 ⟨rfl, hb3⟩
      rw [hE, hO]
      have HB3 := Lib.hid (HB2.out.trans (hb3.mono HB2.out.size)); have HM3 := Lib.hid (HM2.out.below hb3)
      have d3 := (hb3.cell (p := ⟨g, j, none⟩) hgl2).trans d2
      have hgl3 : g < w3.heap.size := Nat.lt_of_lt_of_le hgl2 hb3.size
      clear hb3 d2 hE hO
      have hess := HES.out
      rw [← HS2.out] at hess
      have hsim := HSI.out
      obtain ⟨V, hV⟩ : ∃ V, S2.extract 1 S2.size = V := ⟨_, rfl⟩
      have hVl : toL V = vT t true true := by rw [← hV, extract_cut, toL_ofL]; unfold cut; rw [List.take_of_length_le (by rw [toL_len]; exact Nat.le_refl _), HS2.out]; simp [mkT, vT]
      have hVs : V.size ≤ 100 := by have := extract_le S2 1 S2.size; rw [hV] at this; omega
      rw [← hVl] at hsim
      have HHV := Lib.hid hV; have HSM := Lib.hid hsim
      clear hV hVl hsim
      by_cases h5 : j < 5
      · have hd5 : decide ((j : Int) < 5) = true := decide_eq_true (by omega)
        rw [if_pos h5] at hess
        obtain rfl : O = true := by rw [← HO.out, hess]
        have hEl : (E.toList == S.toList) = true := by rw [← HE.out, hess, toList_ofL, toList_toL, HS.out]; simp
        clear hess
        have HEND : Hid (simple (toL ctN) (toL V) = decide ((j : Int) < 3)) := Lib.hid (by rw [HSM.out]; congr 1; simp only [eq_iff_iff]; omega)
        go_wp2_with fail
        rw [HHV.out]
        refine (simple_any ctN V m _ (by decide) (by omega) HM3.out).mono ?_
        rintro e w4 ⟨rfl, hb4⟩
        rw [HEND.out]
        have HB4 := Lib.hid (HB3.out.trans (hb4.mono HB3.out.size)); have HM4 := Lib.hid (HM3.out.below hb4)
        clear hb4
        by_cases h3 : j < 3
        · have hd3 : decide ((j : Int) < 3) = true := decide_eq_true (by omega)
          rw [hd3]
          go_wp2_with fail
          refine (awake_any m w4 HM4.out).mono ?_
          rintro e w5 ⟨rfl, hb5⟩
          go_wp2_with fail
          go_ret
          exact hR _ _ ⟨rfl, HB4.out.trans (hb5.mono HB4.out.size)⟩
        · have hd3 : decide ((j : Int) < 3) = false := decide_eq_false (by omega)
          rw [hd3]
          go_wp2_with fail
          refine (awake_any m w4 HM4.out).mono ?_
          rintro e w5 ⟨rfl, hb5⟩
          go_wp2_with fail
          go_ret
          exact hR _ _ ⟨rfl, HB4.out.trans (hb5.mono HB4.out.size)⟩
      · have hd5 : decide ((j : Int) < 5) = false := decide_eq_false (by omega)
        rw [if_neg h5] at hess
        obtain rfl : O = false := by rw [← HO.out, hess]
        clear hess
        have HEND : Hid (simple (toL ctN) (toL V) = false) := Lib.hid (by rw [HSM.out]; exact decide_eq_false (by omega))
        have hd3 : decide ((j : Int) < 3) = false := decide_eq_false (by omega)
        go_wp2_with fail
        rw [HHV.out]
        refine (simple_any ctN V m _ (by decide) (by omega) HM3.out).mono ?_
        rintro e w4 ⟨rfl, hb4⟩
        rw [HEND.out]
        have HB4 := Lib.hid (HB3.out.trans (hb4.mono HB3.out.size)); have HM4 := Lib.hid (HM3.out.below hb4)
        clear hb4
        go_wp2_with fail
        refine (awake_any m w4 HM4.out).mono ?_
        rintro e w5 ⟨rfl, hb5⟩
        go_wp2_with fail
        go_ret
        exact hR _ _ ⟨rfl, HB4.out.trans (hb5.mono HB4.out.size)⟩
theorem types_row {w : World} (k : Int) (_ : -9223372036854775808 ≤ k) (_ : k ≤ 9223372036854775807) (param great : Bool) (m : Int) (hm : MaxLen m w) :
    Calls Tryd.prog 6 #[.int .i64 k, .bool param, .bool great] w fun e w' => e = .returned (.bool true) ∧ Below w.heap.size w w' :=
  types_walk k param great m w hm
end Go.Proofs.YtnjkoegepjhklaaDoor.Asc
