/-
  Contract of parapetalike.Texts: what it answers; nothing that was there turns.
  Texts within the row's own reach.
-/
import Derived.Test.YtlfcbhagbdonhaaDrP
import Derived.Deep.QuietTactic
import Derived.BigQuiet
namespace Go.Proofs.Ytlfcbhagbdonhaa.Asc
open Go Go.RowKit Go.Proofs.Ytlfcbhagbdonhaa.Pb

/-- parapetalike.Texts -/
theorem texts_ne (l m : List (List UInt8)) (v u : Value) (F G : Nat → Prop) (w : World) (hv : View Rp.str w F l v) (hu : View Rp.str w G m u)
    (hne : l.length ≠ m.length) :
    Calls Try.prog 50 #[v, u] w fun e w' => e = .returned (.bool false) ∧ Below w.heap.size w w' := by
  obtain ⟨A, c, rfl, hc, hcell⟩ := hv.open1
  obtain ⟨A', c', rfl, hc', hcell'⟩ := hu.open1
  refine calls_gen fun R hR => ?_
  have h1 : ((l.length : Int) != (m.length : Int)) = true := by rw [bne_iff_ne]; omega
  clear hcell hcell'
  go_enter Try.func50, Try.ntmps50
  go_wp2
  go_ret
  exact hR _ _ ⟨rfl, Below.refl _ _⟩

set_option maxHeartbeats 400000 in
theorem texts_eq (l m : List (List UInt8)) (v u : Value) (F G : Nat → Prop) (w : World) (hv : View Rp.str w F l v) (hu : View Rp.str w G m u) (hl : l.length ≤ 1000000)
    (hne : l.length = m.length) :
    Calls Try.prog 50 #[v, u] w fun e w' => e = .returned (.bool (l == m)) ∧ Below w.heap.size w w' := by
  obtain ⟨A, c, rfl, hc, hcell⟩ := hv.open1
  obtain ⟨A', c', rfl, hc', hcell'⟩ := hu.open1
  refine calls_gen fun R hR => ?_
  have h1 : ((l.length : Int) != (m.length : Int)) = false := by rw [bne_eq_false_iff_eq]; omega
  have hle : l.length ≤ m.length := by omega
  have HN := Lib.hid hne; clear hne
  have HC := Lib.hid hcell; clear hcell
  have HC' := Lib.hid hcell'; clear hcell'
  go_enter Try.func50, Try.ntmps50
  go_wp2
  clear h1
  go_loopw [5] (fun i wr => ∃ k n : Nat, k ≤ l.length ∧ i = .int .i64 k ∧ wr = w.drewN n ∧ Hid (∀ j, j < k → l[j]? = m[j]?)) (fun i _ => l.length - (intOf i).toNat)
  case atStart => exact ⟨0, 0, Nat.zero_le _, rfl, rfl, fun _ h => by omega⟩
  case round =>
    obtain ⟨k, n, hk, rfl, rfl, hall⟩ := hrel
    by_cases hlt : k < l.length
    · obtain ⟨b, off, rfl, hbl, hce⟩ := HC.out k hlt
      obtain ⟨b', off', rfl, hbl', hce'⟩ := HC'.out k (by omega)
      have hlt' : k < m.length := by omega
      obtain ⟨x, hx⟩ : ∃ x, l[k]? = some x := ⟨_, lt_get hlt⟩
      obtain ⟨y, hy⟩ : ∃ y, m[k]? = some y := ⟨_, lt_get hlt'⟩
      have hck := hce k x hx
      have hck' := hce' k y hy
      clear hce hce'
      have HX := Lib.hid hx; clear hx
      have HY := Lib.hid hy; clear hy
      go_wp2
      go_quiet (fail)
      go_wp2
      · have he : (!(ofL x).toList == (ofL y).toList) = true := by assumption
        go_ret
        refine hR _ _ ⟨ret_bool ?_, Below.drewN (Below.drewN (Below.refl _ _) _) _⟩
        rw [toList_ofL, toList_ofL] at he
        symm
        rw [beq_eq_false_iff_ne]
        rintro rfl
        have := HX.out; rw [HY.out] at this; cases this
        simp at he
      · have he : (!(ofL x).toList == (ofL y).toList) = false := by assumption
        go_roundw
        case rel =>
          refine ⟨k + 1, _, by omega, by go_num, rfl, fun j hj => ?_⟩
          by_cases hjk : j = k
          · subst hjk
            rw [toList_ofL, toList_ofL] at he
            have : x = y := by simpa using he
            rw [HX.out, HY.out, this]
          · exact hall.out j (by omega)
        case measure => simp [intOf]; omega
    · go_wp2
      go_ret
      refine hR _ _ ⟨ret_bool ?_, Below.drewN (Below.refl _ _) _⟩
      symm
      rw [beq_iff_eq]
      have hn := HN.out
      apply List.ext_getElem? 
      intro j
      by_cases hj : j < k
      · exact hall.out j hj
      · rw [List.getElem?_eq_none (by omega), List.getElem?_eq_none (by omega)]

theorem texts_any (l m : List (List UInt8)) (v u : Value) (F G : Nat → Prop) (w : World) (hv : View Rp.str w F l v) (hu : View Rp.str w G m u) (hl : l.length ≤ 1000000) :
    Calls Try.prog 50 #[v, u] w fun e w' => e = .returned (.bool (l == m)) ∧ Below w.heap.size w w' := by
  by_cases h : l.length = m.length
  · exact texts_eq l m v u F G w hv hu hl h
  · refine (texts_ne l m v u F G w hv hu h).mono ?_
    rintro e w' ⟨rfl, hb⟩
    refine ⟨ret_bool ?_, hb⟩
    symm; rw [beq_eq_false_iff_ne]; rintro rfl; exact h rfl
end Go.Proofs.Ytlfcbhagbdonhaa.Asc
