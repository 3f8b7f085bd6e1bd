/-
  Contracts: the library's Cut, graphic.
  Lengths within the rows' own reach; the library's MaxLen is a number.
-/
import Derived.Test.YtilpaopkhghicaaDoorAnP
namespace Go.Proofs.YtilpaopkhghicaaDoor.Asc
open Go Go.RowKit Go.Proofs.YtilpaopkhghicaaDoor.Pb

def MaxLen (m : Int) (w : World) : Prop := w.cell? ⟨0, 0, none⟩ = some (.int .i64 m)
theorem MaxLen.below {m : Int} {w w' : World} (h : MaxLen m w) (hb : Below w.heap.size w w') : MaxLen m w' :=
  (hb.cell (p := ⟨0, 0, none⟩) (World.block_lt_of_cell? w _ h)).trans h
theorem toL_cat (a b : ByteArray) : toL (a ++ b) = toL a ++ toL b := by
  show (a ++ b).data.toList = a.data.toList ++ b.data.toList
  rw [ByteArray.data_append, Array.toList_append]

theorem beg_any {p : UInt8 → Bool} (k : Nat) (l : List UInt8) (h : k < l.length) (x : UInt8) (hx : l[k]? = some x) : (l.take (k + 1)).all p = ((l.take k).all p && p x) := by
  rw [List.take_add_one, hx, List.all_append]; simp

set_option maxHeartbeats 1000000 in
theorem graphic_any (s : ByteArray) (w : World) (hs : s.size ≤ 1000000) :
    Calls Tryd.prog 50 #[.string s] w fun e w' => e = .returned (.bool (graphic (toL s))) ∧ w' = w := by
  refine calls_gen fun R hR => ?_
  go_enter Tryd.func50, Tryd.ntmps50
  go_wp2_with fail
  go_loopw [6] (fun i wr => ∃ k : Nat, k ≤ s.size ∧ i = .int .i64 k ∧ wr = w ∧ ((toL s).take k).all (fun c => decide (33 ≤ c.toNat) && decide (c.toNat ≤ 126)) = true) (fun i _ => s.size - (intOf i).toNat)
  case atStart => exact ⟨0, Nat.zero_le _, rfl, rfl, by simp⟩
  case round =>
    obtain ⟨k, hk, rfl, hww, hall⟩ := hrel
    rw [hww]
    have HW := Lib.hid hww; have HA := Lib.hid hall
    clear hww hall
    by_cases hlt : k < s.size
    · have hg := getD_toL s k hlt
      have HT := Lib.hid (beg_any (p := fun c => decide (33 ≤ c.toNat) && decide (c.toNat ≤ 126)) k (toL s) (by rw [toL_len]; exact hlt) s[k] hg)
      have HN : Hid ((decide (33 ≤ s[k].toNat) && decide (s[k].toNat ≤ 126)) = false → graphic (toL s) = false) := Lib.hid fun h => by
        have : (toL s).all (fun c => decide (33 ≤ c.toNat) && decide (c.toNat ≤ 126)) = false := List.all_eq_false.2 ⟨s[k], List.mem_of_getElem? hg, by rw [h]; decide⟩
        unfold graphic; rw [this]; rfl
      clear hg
      by_cases h1 : (s[k].toNat : Int) < 33
      · rw [HN.out (by simp; omega)] at hR
        go_wp2_with fail
        go_ret
        exact hR _ _ ⟨rfl, rfl⟩
      by_cases h2 : (s[k].toNat : Int) > 126
      · rw [HN.out (by simp; omega)] at hR
        go_wp2_with fail
        go_ret
        exact hR _ _ ⟨rfl, rfl⟩
      go_wp2_with fail
      go_roundw
      case rel => exact ⟨k + 1, by omega, by go_num, by first | trivial | rfl, by rw [HT.out, HA.out]; simp; omega⟩
      case measure => simp [intOf]; omega
    · obtain rfl : k = s.size := by omega
      rw [take_all] at HA
      have he : (!s.toList.isEmpty) = graphic (toL s) := by
        unfold graphic
        rw [HA.out, toList_toL, Bool.true_and]
      go_wp2_with fail
      go_ret
      exact hR _ _ ⟨rfl, rfl⟩
end Go.Proofs.YtilpaopkhghicaaDoor.Asc
