/-
  The law parapetlaw26.HttpClose answers true.
  The library's MaxLen is a number.
-/
import Derived.Test.YtaihjnicondifaaDoorHtS
namespace Go.Proofs.YtaihjnicondifaaDoor.Asc
open Go Go.RowKit Go.Proofs.YtaihjnicondifaaDoor.Pb

def fieldsC : List (List UInt8) := [[], [67, 111, 110, 110, 101, 99, 116, 105, 111, 110, 58, 32, 99, 108, 111, 115, 101, 13, 10], [67, 111, 110, 110, 101, 99, 116, 105, 111, 110, 58, 32, 120, 44, 32, 67, 76, 79, 83, 69, 13, 10], [67, 111, 110, 110, 101, 99, 116, 105, 111, 110, 58, 32, 107, 101, 101, 112, 45, 97, 108, 105, 118, 101, 13, 10], [99, 111, 110, 110, 101, 99, 116, 105, 111, 110, 58, 32, 75, 101, 101, 112, 45, 65, 108, 105, 118, 101, 44, 32, 99, 108, 111, 115, 101, 13, 10], [67, 111, 110, 110, 101, 99, 116, 105, 111, 110, 58, 32, 120, 13, 10]]
def closeT (old : Bool) (t : List UInt8) : List UInt8 := ((([71, 69, 84, 32, 47, 32, 72, 84, 84, 80, 47, 49, 46] ++ (if old then [48] else [49])) ++ [13, 10, 72, 111, 115, 116, 58, 32, 97, 13, 10]) ++ t) ++ [13, 10]
def closeW (old : Bool) (j : Nat) : Bool := j == 1 || j == 2 || j == 4 || (old && j != 3)
theorem close_all : ∀ old : Bool, ∀ j : Fin 6, ((feedN {} (closeT old fieldsC[j])).2.map fun x => (x.st, x.close)) = [(0, closeW old j.val)] ∧ (feedN {} (closeT old fieldsC[j])).1.over = false ∧ fieldsC[j].length ≤ 50 := by decide +kernel
theorem close_at (old : Bool) (j : Nat) (t : List UInt8) (hj : j < 6) (ht : fieldsC[j]? = some t) : ∃ x : It, (feedN {} (closeT old t)).2 = [x] ∧ x.st = 0 ∧ x.close = closeW old j ∧ (feedN {} (closeT old t)).1.over = false ∧ t.length ≤ 50 := by
  obtain ⟨h1, h2, h3⟩ := close_all old ⟨j, hj⟩
  have e : fieldsC[j]'hj = t := by rw [List.getElem?_eq_getElem (show j < fieldsC.length from hj)] at ht; exact Option.some.inj ht
  subst e
  obtain ⟨x, hx, he⟩ := List.map_eq_singleton_iff.1 h1
  exact ⟨x, hx, congrArg Prod.fst he, congrArg Prod.snd he, h2, h3⟩

set_option maxRecDepth 20000 in
set_option maxHeartbeats 8000000 in
theorem close_walk (old : Bool) (k : Int) (m : Int) (w : World) (hm : MaxLen m w) :
    Calls Tryd.prog 8 #[.bool old, .int .i64 k] w fun e w' => e = .returned (.bool true) ∧ Below w.heap.size w w' := by
  refine calls_gen fun R hR => ?_
  have HM := Lib.hid hm
  clear hm
  obtain ⟨w1, hw1⟩ : ∃ w1, w.alloc (.cells #[.string ⟨#[]⟩, .string ⟨#[67, 111, 110, 110, 101, 99, 116, 105, 111, 110, 58, 32, 99, 108, 111, 115, 101, 13, 10]⟩, .string ⟨#[67, 111, 110, 110, 101, 99, 116, 105, 111, 110, 58, 32, 120, 44, 32, 67, 76, 79, 83, 69, 13, 10]⟩, .string ⟨#[67, 111, 110, 110, 101, 99, 116, 105, 111, 110, 58, 32, 107, 101, 101, 112, 45, 97, 108, 105, 118, 101, 13, 10]⟩, .string ⟨#[99, 111, 110, 110, 101, 99, 116, 105, 111, 110, 58, 32, 75, 101, 101, 112, 45, 65, 108, 105, 118, 101, 44, 32, 99, 108, 111, 115, 101, 13, 10]⟩, .string ⟨#[67, 111, 110, 110, 101, 99, 116, 105, 111, 110, 58, 32, 120, 13, 10]⟩] 9) = w1 := ⟨_, rfl⟩
  have HW1 := Lib.hid hw1
  have HB1 : Hid (Below w.heap.size w w1) := Lib.hid (hw1 ▸ below_new w _)
  have HL : Hid (∀ j t, fieldsC[j]? = some t → w1.cell? ⟨w.heap.size, j, none⟩ = some (.string (ofL t))) := Lib.hid (hw1 ▸ fun j t ht => lits_at (texts_lit w fieldsC _ rfl (by simp [fieldsC]) 6 rfl) j t ht)
  have hgl : w.heap.size < w1.heap.size := by rw [← hw1]; simp
  clear hw1
  go_enter Tryd.func8, Tryd.ntmps8
  have hj1 := Int.emod_nonneg k (show (6 : Int) ≠ 0 by decide)
  have hj2 := Int.emod_lt_of_pos k (show (0 : Int) < 6 by decide)
  obtain ⟨j, hj⟩ := Int.eq_ofNat_of_zero_le hj1
  have HJ := Lib.hid hj
  rw [hj] at hj2
  have hj6 : j < 6 := by omega
  clear hj hj1
  obtain ⟨t, ht⟩ : ∃ t, fieldsC[j]? = some t := ⟨_, List.getElem?_eq_getElem (show j < fieldsC.length from hj6)⟩
  have d0 := HL.out j t ht
  obtain ⟨x, hx1, hx2, hx3, hx4, htl⟩ := close_at old j t hj6 ht
  obtain ⟨T, hT⟩ : ∃ T, ofL t = T := ⟨_, rfl⟩
  rw [hT] at d0
  have HX : Hid (∀ Y : ByteArray, toL Y = closeT old (toL T) → (feedN {} (toL Y)).2 = [x] ∧ (feedN {} (toL Y)).1.over = false) := Lib.hid fun Y hY => by rw [hY, ← hT, toL_ofL]; exact ⟨hx1, hx4⟩
  have HXN : Hid (∀ Y : ByteArray, toL Y = closeT old (toL T) → Y.size ≤ 100000) := Lib.hid fun Y hY => by
    rw [← toL_len, hY, ← hT, toL_ofL]
    have h1 := htl
    cases old <;> (simp only [closeT, List.length_append, List.length_cons, List.length_nil, if_true, if_false, Bool.false_eq_true]; omega)
  have HXS := Lib.hid hx2; have HXC := Lib.hid hx3
  have hts : T.size ≤ 50 := by rw [← hT, ofL_size]; exact htl
  clear hx1 hx2 hx3 hx4 htl hT ht
  cases old
  case false =>
    go_wp2_with fail
    rw [HW1.out]
    refine (round_any k 6 (by decide) (by decide) w1).mono ?_
    rintro e w' ⟨rfl, rfl⟩
    rw [HJ.out]
    go_wp2_with fail
    refine (feed_at _ 3 (by decide) (by decide) (HXN.out _ (by simp only [toL_cat]; rfl)) _ m (HM.out.below HB1.out) [x] false (HX.out _ (by simp only [toL_cat]; rfl))).mono ?_
    rintro e w2 ⟨v, O, rfl, ho, -, hb2⟩
    obtain ⟨g, n, rfl, -, hn, hg, hget⟩ := own_items ho (by simp)
    obtain ⟨fv, hc⟩ := hget 0 _ rfl
    have c0 := hc.c0
    have c5 := hc.c5
    rw [HXS.out] at c0
    rw [HXC.out] at c5
    have HB2 := Lib.hid (HB1.out.trans (hb2.mono HB1.out.size))
    have HM2 := Lib.hid (HM.out.below HB2.out)
    clear hget hc hb2 ho
    simp only [Nat.zero_mul, Nat.zero_add, List.length_cons, List.length_nil] at c0 c5 hn ⊢
    have hjj : j = 0 ∨ j = 1 ∨ j = 2 ∨ j = 3 ∨ j = 4 ∨ j = 5 := by omega
    rcases hjj with rfl | rfl | rfl | rfl | rfl | rfl
    all_goals
      simp only [closeW] at c5
      go_wp2_with fail
      refine (awake_any _ m HM2.out).mono ?_
      rintro e w3 ⟨rfl, hb3⟩
      go_wp2_with fail
      go_ret
      exact hR _ _ ⟨rfl, HB2.out.trans (hb3.mono HB2.out.size)⟩
  case true =>
    go_wp2_with fail
    rw [HW1.out]
    refine (round_any k 6 (by decide) (by decide) w1).mono ?_
    rintro e w' ⟨rfl, rfl⟩
    rw [HJ.out]
    go_wp2_with fail
    refine (feed_at _ 3 (by decide) (by decide) (HXN.out _ (by simp only [toL_cat]; rfl)) _ m (HM.out.below HB1.out) [x] false (HX.out _ (by simp only [toL_cat]; rfl))).mono ?_
    rintro e w2 ⟨v, O, rfl, ho, -, hb2⟩
    obtain ⟨g, n, rfl, -, hn, hg, hget⟩ := own_items ho (by simp)
    obtain ⟨fv, hc⟩ := hget 0 _ rfl
    have c0 := hc.c0
    have c5 := hc.c5
    rw [HXS.out] at c0
    rw [HXC.out] at c5
    have HB2 := Lib.hid (HB1.out.trans (hb2.mono HB1.out.size))
    have HM2 := Lib.hid (HM.out.below HB2.out)
    clear hget hc hb2 ho
    simp only [Nat.zero_mul, Nat.zero_add, List.length_cons, List.length_nil] at c0 c5 hn ⊢
    have hjj : j = 0 ∨ j = 1 ∨ j = 2 ∨ j = 3 ∨ j = 4 ∨ j = 5 := by omega
    rcases hjj with rfl | rfl | rfl | rfl | rfl | rfl
    all_goals
      simp only [closeW] at c5
      go_wp2_with fail
      refine (awake_any _ m HM2.out).mono ?_
      rintro e w3 ⟨rfl, hb3⟩
      go_wp2_with fail
      go_ret
      exact hR _ _ ⟨rfl, HB2.out.trans (hb3.mono HB2.out.size)⟩
theorem close_row {w : World} (old : Bool) (k : Int) (_ : -9223372036854775808 ≤ k) (_ : k ≤ 9223372036854775807) (m : Int) (hm : MaxLen m w) :
    Calls Tryd.prog 8 #[.bool old, .int .i64 k] w fun e w' => e = .returned (.bool true) ∧ Below w.heap.size w w' := close_walk old k m w hm
end Go.Proofs.YtaihjnicondifaaDoor.Asc
