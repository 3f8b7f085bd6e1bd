/-
  Contracts of package ascii: Lower, Same, Any, Token, Trim, Blanks, Split, Number.
  Texts of at most a million bytes; Split: the library's MaxLen is a number.
-/
import Derived.Test.YtaihjnicondifaaDoorAscD
import Derived.Test.YtaihjnicondifaaDoorShelf
import Derived.Shelf.Strings.SlTrimAscii
namespace Go.Proofs.YtaihjnicondifaaDoor.Asc
open Go Go.RowKit Go.Proofs.YtaihjnicondifaaDoor.Pb

/-- how far ascii.Lower is at byte k -/
def lowAt (l : List UInt8) (k : Nat) : List UInt8 := lower (l.take k) ++ l.drop k
theorem lowAt_len (l : List UInt8) (k : Nat) : (lowAt l k).length = l.length := by
  unfold lowAt lower; rw [List.length_append, List.length_map, List.length_take, List.length_drop]; omega
theorem lowAt_zero (l : List UInt8) : lowAt l 0 = l := by simp [lowAt, lower]
theorem lowAt_all (l : List UInt8) (k : Nat) (h : l.length ≤ k) : lowAt l k = lower l := by
  unfold lowAt; rw [List.take_of_length_le h, List.drop_of_length_le h, List.append_nil]
theorem lowAt_get (l : List UInt8) (k : Nat) (h : k < l.length) : (lowAt l k)[k]? = some l[k] := by
  unfold lowAt lower
  rw [List.getElem?_append_right (by simp; omega)]
  simp [List.length_take, Nat.min_eq_left (Nat.le_of_lt h)]
theorem lowAt_succ (l : List UInt8) (k : Nat) (h : k < l.length) : lowAt l (k + 1) = (lowAt l k).set k (lowerB l[k]) := by
  unfold lowAt lower
  have e : l.drop k = l[k] :: l.drop (k + 1) := List.drop_eq_getElem_cons h
  rw [e, List.set_append_right _ _ (by simp; omega)]
  rw [List.length_map, List.length_take, Nat.min_eq_left (Nat.le_of_lt h), Nat.sub_self, List.set_cons_zero, List.take_add_one, List.getElem?_eq_getElem h, List.map_append, List.append_assoc]
  rfl
theorem lowAt_step (s : ByteArray) (k : Nat) (h : k < s.size) {X : Int} (hX : X = ((lowerB s[k]).toNat : Int)) : (lowAt (toL s) (k + 1)).map u8v = ((lowAt (toL s) k).map u8v).set k (.int .u8 X) := by
  rw [hX, lowAt_succ (toL s) k (by rw [toL_len]; exact h), List.map_set]; rfl
theorem lowAt_same (l : List UInt8) (k : Nat) (h : k < l.length) (hc : lowerB l[k] = l[k]) : lowAt l (k + 1) = lowAt l k := by
  rw [lowAt_succ l k h, hc]
  have := lowAt_get l k h
  exact List.ext_getElem? fun j => by
    rw [List.getElem?_set]
    split
    · rename_i e; subst e
      split
      · exact this.symm
      · rename_i hj; rw [lowAt_len] at hj; omega
    · rfl

set_option maxHeartbeats 1000000 in
/-- ascii.Lower -/
theorem lower_any (s : ByteArray) (w : World) (hs : s.size ≤ 1000000) :
    Calls Tryd.prog 43 #[.string s] w fun e w' => e = .returned (.string (ofL (lower (toL s)))) ∧ Below w.heap.size w w' := by
  refine calls_gen fun R hR => ?_
  go_enter Tryd.func43, Tryd.ntmps43
  go_wp2_with (with_reducible (first | refine stop_convert ?_))
  refine ⟨wp_bytes Tryd.underlying9 Tryd.underlying26 Tryd.underlying5 rfl ?_⟩
  intro c w1 m hc hrow hm hb hsz
  obtain ⟨g, hg⟩ : ∃ g, w.heap.size = g := ⟨_, rfl⟩
  have HG := Lib.hid hg
  rw [hg] at hrow ⊢
  have hg1 : g < w1.heap.size := by omega
  have HB := Lib.hid hb; have HZ := Lib.hid hsz
  clear hg hb hsz
  go_wp2
  go_loopw [4, 5, 10] (fun _ _ i wr => ∃ k : Nat, k ≤ s.size ∧ i = .int .i64 k ∧ RowAt wr g 5 (m, m + 1) ((lowAt (toL s) k).map u8v) ∧ Below g w wr ∧ wr.heap.size = w1.heap.size) (fun _ _ i _ => s.size - (intOf i).toNat)
  case atStart => exact ⟨0, by omega, rfl, by rw [lowAt_zero]; exact hrow, HG.out ▸ HB.out, rfl⟩
  case round =>
    obtain ⟨k, hk, rfl, hrow, hb, hwz⟩ := hrel
    have HW := Lib.hid hwz; clear hwz
    by_cases hlt : k < s.size
    · have hlt' : k < (toL s).length := by rw [toL_len]; exact hlt
      have hcell := hrow.cell (i := k) (u := u8v s[k]) (by rw [List.getElem?_map, lowAt_get _ _ hlt', toL_get s k hlt]; rfl)
      have hfree := hrow.free (i := k) (.inl (show k < m by omega))
      unfold u8v at hcell
      have HN := Lib.hid (lowAt_same (toL s) k hlt')
      by_cases hup : 65 ≤ s[k].toNat ∧ s[k].toNat ≤ 90
      · obtain ⟨h1, h2⟩ := hup
        have HS := Lib.hid (lowAt_step s k hlt (X := (s[k].toNat : Int) + 97 - 65) (by unfold lowerB; rw [if_pos ⟨h1, h2⟩, UInt8.toNat_add]; simp; omega))
        go_wp2
        go_roundw
        case rel =>
          refine ⟨k + 1, by omega, by go_num, ?_, hb.setCell (Nat.le_refl _) _, by simpa [World.setCell] using HW.out⟩
          rw [HS.out]
          exact hrow.set k _
        case measure => simp [intOf]; omega
      · have hno : lowerB s[k] = s[k] := by unfold lowerB; rw [if_neg hup]
        have HNO := Lib.hid (HN.out hno); clear hno
        go_wp2
        all_goals
          go_roundw
          case rel =>
            refine ⟨k + 1, by omega, by go_num, ?_, hb, HW.out⟩
            rw [HNO.out]; exact hrow
          case measure => simp [intOf]; omega
    · obtain rfl : k = s.size := by omega
      go_wp2_with (with_reducible (first | refine stop_convert ?_))
      have hv : View Rp.u8 wr (fun _ => True) (lowAt (toL s) s.size) (.slice (some ⟨g, 0, none⟩) s.size c) := by
        have h := hrow.view (h1 := fun _ => rfl) (F := fun _ => True) (c := c) (by rw [lowAt_len, toL_len]; exact hc) trivial
        rw [lowAt_len, toL_len] at h
        exact h
      refine ⟨wp_string Tryd.underlying26 Tryd.underlying5 Tryd.underlying9 hv ?_⟩
      go_wp2
      go_ret
      exact hR _ _ ⟨ret_str (by rw [lowAt_all _ _ (by rw [toL_len]; exact Nat.le_refl _)]), HG.out ▸ hb⟩

set_option maxHeartbeats 400000 in
/-- ascii.Same -/
theorem same_any (s t : ByteArray) (w : World) (hs : s.size ≤ 1000000) (ht : t.size ≤ 1000000) :
    Calls Tryd.prog 34 #[.string s, .string t] w fun e w' => e = .returned (.bool (lower (toL s) == lower (toL t))) ∧ Below w.heap.size w w' := by
  refine calls_gen fun R hR => ?_
  go_enter Tryd.func34, Tryd.ntmps34
  go_wp2_with fail
  refine (lower_any s _ hs).mono ?_
  rintro e w1 ⟨rfl, hb1⟩
  go_wp2_with fail
  refine (lower_any t _ ht).mono ?_
  rintro e w2 ⟨rfl, hb2⟩
  go_wp2_with fail
  go_ret
  refine hR _ _ ⟨ret_bool ?_, below_then hb1 (Nat.le_refl _) hb2⟩
  rw [toList_ofL, toList_ofL]

end Go.Proofs.YtaihjnicondifaaDoor.Asc
