/-
  Contract of parapetlaw1.awake: it answers true.
  The library's MaxLen is a number.
-/
import Derived.Test.YtmidfabneioiiaaDoorAscH
namespace Go.Proofs.YtmidfabneioiiaaDoor.Asc
open Go Go.RowKit Go.Proofs.YtmidfabneioiiaaDoor.Pb

theorem number_007 (w : World) : Calls Tryd.prog 26 #[.string ⟨#[48, 48, 55]⟩, .int .i64 9] w fun e w' => e = .returned (.tuple #[.int .i64 0, .bool false]) ∧ w = w' := by
  refine (number_any ⟨#[48, 48, 55]⟩ 9 w (by decide)).mono ?_
  rintro e w' ⟨rfl, rfl⟩
  exact ⟨ret2 (by decide), rfl⟩
theorem split_ab (m : Int) (w : World) (hm : w.cell? ⟨0, 0, none⟩ = some (.int .i64 m)) :
    Calls Tryd.prog 16 #[.string ⟨#[97, 44, 44, 98]⟩, .int .u8 44] w fun e w' => ∃ v, e = .returned v ∧ View Rp.str w' (w.heap.size ≤ ·) [[97], [], [98]] v ∧ Below w.heap.size w w' := by
  refine (split_any ⟨#[97, 44, 44, 98]⟩ 44 m w (by decide) hm).mono ?_
  rintro e w' ⟨v, rfl, ho, hb⟩
  refine ⟨v, rfl, ?_, hb⟩
  have e : split (toL ⟨#[97, 44, 44, 98]⟩) 44 = [[97], [], [98]] := by decide
  rw [e] at ho
  exact ho.view
theorem blanks_ab (w : World) :
    Calls Tryd.prog 14 #[.string ⟨#[9, 97, 32, 32, 98]⟩] w fun e w' => ∃ v, e = .returned v ∧ View Rp.str w' (w.heap.size ≤ ·) [[97], [98]] v ∧ Below w.heap.size w w' := by
  refine (blanks_any ⟨#[9, 97, 32, 32, 98]⟩ w (by decide)).mono ?_
  rintro e w' ⟨v, rfl, ho, hb⟩
  refine ⟨v, rfl, ?_, hb⟩
  have e : blanks (toL ⟨#[9, 97, 32, 32, 98]⟩) = [[97], [98]] := by decide
  rw [e] at ho
  exact ho.view
theorem texts_same (l : List (List UInt8)) (v u : Value) (F G : Nat → Prop) (w : World) (hv : View Rp.str w F l v) (hu : View Rp.str w G l u) (hl : l.length ≤ 1000000) :
    Calls Tryd.prog 13 #[v, u] w fun e w' => e = .returned (.bool true) ∧ Below w.heap.size w w' := by
  refine (texts_any l l v u F G w hv hu hl).mono ?_
  rintro e w' ⟨rfl, hb⟩
  exact ⟨ret_bool (by simp), hb⟩
/-- a literal of texts -/
theorem lit_view (w : World) (l : List (List UInt8)) (cs : Array Value) (h : cs.toList = l.map fun x => Value.string (ofL x)) (hl : l.length ≤ 1000000) (n : Nat) (hn : n = l.length) :
    View Rp.str (w.alloc (.cells cs 9)) (w.heap.size ≤ ·) l (.slice (some ⟨w.heap.size, 0, none⟩) n n) := by
  have hh := Own.lit (d := Rp.str) (e := 9) w (G := fun _ => False) (xs := l) (cs := l.map fun x => Value.string (ofL x)) (Elems.of_map l) hn (by unfold maxLen; omega)
  rw [← h, Array.toArray_toList] at hh
  refine (hh.mono fun k hk => ?_).view
  rcases hk with hk | hk
  · exact hk.elim
  · exact hk

set_option maxHeartbeats 1000000 in
/-- parapetlaw1.awake -/
theorem awake_any (m : Int) (w : World) (hm : w.cell? ⟨0, 0, none⟩ = some (.int .i64 m)) :
    Calls Tryd.prog 12 #[] w fun e w' => e = .returned (.bool true) ∧ Below w.heap.size w w' := by
  refine calls_gen fun R hR => ?_
  have HM := Lib.hid hm
  clear hm
  go_enter Tryd.func12, Tryd.ntmps12
  go_wp2_with fail
  refine (number_007 w).mono ?_
  rintro e w' ⟨rfl, rfl⟩
  go_wp2_with fail
  refine (split_ab m w HM.out).mono ?_
  rintro e w1 ⟨v1, rfl, hv1, hb1⟩
  have HV1 := Lib.hid hv1; have HB1 := Lib.hid hb1
  clear hv1 hb1
  go_wp2_with fail
  refine (texts_same _ v1 _ _ _ _ (HV1.out.below ((Below.refl _ _).alloc (Nat.le_refl _) _)) (lit_view w1 [[97], [], [98]] _ rfl (by decide) 3 rfl) (by decide)).mono ?_
  rintro e w2 ⟨rfl, hb2⟩
  have hb2' : Below w.heap.size w w2 := below_then HB1.out (Nat.le_refl _) (((Below.refl _ _).alloc (Nat.le_refl _) _).trans (hb2.mono (by simp)))
  have HB2 := Lib.hid hb2'
  clear hb2 hb2'
  go_wp2_with fail
  refine (blanks_ab w2).mono ?_
  rintro e w3 ⟨v3, rfl, hv3, hb3⟩
  have HV3 := Lib.hid hv3; have HB3 := Lib.hid hb3
  clear hv3 hb3
  go_wp2_with fail
  refine (texts_same _ v3 _ _ _ _ (HV3.out.below ((Below.refl _ _).alloc (Nat.le_refl _) _)) (lit_view w3 [[97], [98]] _ rfl (by decide) 2 rfl) (by decide)).mono ?_
  rintro e w4 ⟨rfl, hb4⟩
  go_wp2_with fail
  go_ret
  refine hR _ _ ⟨rfl, ?_⟩
  exact below_then (below_then HB2.out (Nat.le_refl _) HB3.out) (Nat.le_refl _) (((Below.refl _ _).alloc (Nat.le_refl _) _).trans (hb4.mono (by simp)))
end Go.Proofs.YtmidfabneioiiaaDoor.Asc
