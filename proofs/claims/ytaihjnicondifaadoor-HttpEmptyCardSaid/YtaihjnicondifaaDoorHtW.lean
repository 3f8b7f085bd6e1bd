/-
  The law parapetlaw26.HttpEmpty answers true.
  The library's MaxLen is a number.
-/
import Derived.Test.YtaihjnicondifaaDoorHtS
namespace Go.Proofs.YtaihjnicondifaaDoor.Asc
open Go Go.RowKit Go.Proofs.YtaihjnicondifaaDoor.Pb

def ends : Nat → List UInt8
  | 0 => []
  | n + 1 => ends n ++ [13, 10]
theorem ends_len (n : Nat) : (ends n).length = 2 * n := by
  induction n with
  | zero => rfl
  | succ n ih => simp [ends, ih]; omega
theorem ends_feed (n : Nat) : feedN {} (ends n) = ({}, []) := by
  induction n with
  | zero => rfl
  | succ n ih =>
    unfold ends
    rw [feedN_app, ih]
    rfl
def itX (c : UInt8) : It := ⟨0, [71, 69, 84], [47, c], [([72, 111, 115, 116], [97])], [], false⟩
def emptX : List UInt8 := [71, 69, 84, 32, 47, 120, 32, 72, 84, 84, 80, 47, 49, 46, 49, 13, 10, 72, 111, 115, 116, 58, 32, 97, 13, 10, 13, 10]
def emptY : List UInt8 := [71, 69, 84, 32, 47, 121, 32, 72, 84, 84, 80, 47, 49, 46, 49, 13, 10, 72, 111, 115, 116, 58, 32, 97, 13, 10, 13, 10]
theorem empt_x : feedN {} emptX = ({}, [itX 120]) := by decide +kernel
theorem empt_y : feedN {} emptY = ({}, [itX 121]) := by decide +kernel
def emptT (n : Nat) : List UInt8 := ((ends n ++ emptX) ++ ends n) ++ emptY
theorem empt_feed (n : Nat) : feedN {} (emptT n) = ({}, [itX 120, itX 121]) := by
  unfold emptT
  rw [feedN_app, feedN_app, feedN_app, ends_feed, empt_x, ends_feed, empt_y]
  rfl

set_option maxRecDepth 20000 in
set_option maxHeartbeats 8000000 in
theorem empty_walk (n size : Int) (h2 : size ≤ 9223372036854775807) (m : Int) (w : World) (hm : MaxLen m w) :
    Calls Tryd.prog 10 #[.int .i64 n, .int .i64 size] w fun e w' => e = .returned (.bool true) ∧ Below w.heap.size w w' := by
  refine calls_gen fun R hR => ?_
  have HM := Lib.hid hm
  clear hm
  go_enter Tryd.func10, Tryd.ntmps10
  by_cases c1 : n < 0
  · skip
    go_wp2_with fail
    refine (awake_any w m HM.out).mono ?_
    rintro e w3 ⟨rfl, hb3⟩
    go_wp2_with fail
    go_ret
    exact hR _ _ ⟨rfl, hb3⟩
  by_cases c2 : n > 300
  · skip
    go_wp2_with fail
    refine (awake_any w m HM.out).mono ?_
    rintro e w3 ⟨rfl, hb3⟩
    go_wp2_with fail
    go_ret
    exact hR _ _ ⟨rfl, hb3⟩
  by_cases c3 : size < 1
  · skip
    go_wp2_with fail
    refine (awake_any w m HM.out).mono ?_
    rintro e w3 ⟨rfl, hb3⟩
    go_wp2_with fail
    go_ret
    exact hR _ _ ⟨rfl, hb3⟩
  obtain ⟨N, rfl⟩ := Int.eq_ofNat_of_zero_le (show 0 ≤ n by omega)
  have hN : N ≤ 300 := by omega
  go_wp2_with fail
  go_loopw [5, 6] (fun s i wr => ∃ k : Nat, k ≤ N ∧ i = .int .i64 k ∧ wr = w ∧ ∃ T : ByteArray, s = .string T ∧ toL T = ends k) (fun _ i _ => N - (intOf i).toNat)
  case atStart => exact ⟨0, Nat.zero_le _, rfl, rfl, ⟨#[]⟩, rfl, rfl⟩
  case round =>
    obtain ⟨k, hk, rfl, hww, T, rfl, hT⟩ := hrel
    rw [hww]
    have HWW := Lib.hid hww
    have HT := Lib.hid hT
    have hts : T.size ≤ 600 := by rw [← toL_len, hT, ends_len]; omega
    clear hT hww
    by_cases hlt : k < N
    · go_wp2_with fail
      go_roundw
      case rel => exact ⟨k + 1, by omega, by go_num, by first | trivial | rfl, _, rfl, by rw [toL_cat, HT.out]; rfl⟩
      case measure => simp [intOf]; omega
    · obtain rfl : k = N := by omega
      go_wp2_with fail
      have HX : Hid (∀ Y : ByteArray, toL Y = emptT k → ((feedN {} (toL Y)).2 = [itX 120, itX 121] ∧ (feedN {} (toL Y)).1.over = false) ∧ Y.size ≤ 100000) := Lib.hid fun Y hY => by
        refine ⟨by rw [hY, empt_feed]; exact ⟨rfl, rfl⟩, ?_⟩
        rw [← toL_len, hY]
        simp only [emptT, List.length_append, ends_len, emptX, emptY, List.length_cons, List.length_nil]; omega
      have HEQ := fun Y h => HX.out Y h
      refine (feed_at _ size (by omega) h2 (HX.out _ (by simp only [toL_cat, HT.out]; rfl)).2 w m HM.out [itX 120, itX 121] false (HX.out _ (by simp only [toL_cat, HT.out]; rfl)).1).mono ?_
      rintro e w1 ⟨v, O, rfl, ho, -, hb⟩
      obtain ⟨g, c, rfl, -, hc, hg, hget⟩ := own_items ho (by simp)
      obtain ⟨fv, hca⟩ := hget 0 _ rfl
      obtain ⟨fv2, hcb⟩ := hget 1 _ rfl
      have a2 := hca.c2
      have b2 := hcb.c2
      have b3 := hcb.c3
      obtain ⟨FA, fc, rfl, hfc, -⟩ := hcb.flds
      have HB := Lib.hid hb
      clear hget hca hcb hb ho HEQ
      simp only [itX, List.length_cons, List.length_nil, Nat.zero_mul, Nat.zero_add, Nat.one_mul, Nat.reduceAdd] at a2 b2 b3 hc hfc ⊢
      obtain ⟨X, hX⟩ : ∃ X, ofL [47, 120] = X := ⟨_, rfl⟩
      have hx : (X.toList == [47, 120]) = true := by rw [← hX, toList_ofL]; rfl
      rw [hX] at a2
      obtain ⟨Z, hZ⟩ : ∃ X, ofL [47, 121] = X := ⟨_, rfl⟩
      have hz : (Z.toList == [47, 121]) = true := by rw [← hZ, toList_ofL]; rfl
      rw [hZ] at b2
      clear hX hZ
      go_wp2_with fail
      refine (awake_any w1 m (HM.out.below HB.out)).mono ?_
      rintro e w3 ⟨rfl, hb3⟩
      go_wp2_with fail
      go_ret
      exact hR _ _ ⟨rfl, HB.out.trans (hb3.mono HB.out.size)⟩
theorem empty_row {w : World} (n : Int) (_ : -9223372036854775808 ≤ n) (_ : n ≤ 9223372036854775807) (size : Int) (_ : -9223372036854775808 ≤ size) (h2 : size ≤ 9223372036854775807) (m : Int) (hm : MaxLen m w) :
    Calls Tryd.prog 10 #[.int .i64 n, .int .i64 size] w fun e w' => e = .returned (.bool true) ∧ Below w.heap.size w w' := empty_walk n size h2 m w hm
end Go.Proofs.YtaihjnicondifaaDoor.Asc
