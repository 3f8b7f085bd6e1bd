/-
  Contracts of parapetalike.Texts, Total and of the reference's In, Token, Lower, Same: what each answers; nothing that was there turns.
  Texts within the row's own reach.
-/
import Derived.Test.YtalbadmefpdldaaDoorAscA
import Derived.Deep.QuietTactic
import Derived.BigQuiet
namespace Go.Proofs.YtalbadmefpdldaaDoor.Asc
open Go Go.RowKit Go.Proofs.YtalbadmefpdldaaDoor.Pb

theorem all_get (s : ByteArray) (k : Nat) (h : k < s.size) {p : UInt8 → Bool} (hp : (toL s).all p = true) : p s[k] = true := by
  rw [← toL_get s k h]; exact List.all_eq_true.1 hp _ (List.getElem_mem _)
theorem take_snoc (s : ByteArray) (k : Nat) (h : k < s.size) : (toL s).take (k + 1) = (toL s).take k ++ [s[k]] := by
  rw [List.take_add_one, getD_toL s k h]; rfl
theorem take_all (s : ByteArray) : (toL s).take s.size = toL s := List.take_of_length_le (by rw [toL_len]; exact Nat.le_refl _)

theorem marks_lit : toL { data := #[33, 35, 36, 37, 38, 39, 42, 43, 45, 46, 94, 95, 124, 126, 96] } = marks := rfl
set_option maxHeartbeats 400000 in
/-- parapetref1.Token -/
theorem rtoken_any (s : ByteArray) (w : World) (hs : s.size ≤ 140737488351232) :
    Calls Tryd.prog 38 #[.string s] w fun e w' => e = .returned (.bool (token (toL s))) ∧ w = w' := by
  refine calls_gen fun R hR => ?_
  go_enter Tryd.func38, Tryd.ntmps38
  go_wp2
  go_loop [3] (fun i => ∃ k : Nat, k ≤ s.size ∧ i = .int .i64 k ∧ Hid (((toL s).take k).all isTok = true)) (fun i => s.size - (intOf i).toNat)
  case atStart => exact ⟨0, Nat.zero_le _, rfl, by simp [Hid]⟩
  case round =>
    obtain ⟨k, hk, rfl, hall⟩ := hrel
    go_wp2_with (first
      | (go_at_call 58; refine (letter_any s[k] _).mono ?_; rintro e w' ⟨rfl, rfl⟩)
      | (go_at_call 59; refine (digit_any s[k] _).mono ?_; rintro e w' ⟨rfl, rfl⟩)
      | (go_at_call 60; refine (has_any _ s[k] _ (by decide)).mono ?_; rintro e w' ⟨rfl, rfl⟩))
    · have hlt : k < s.size := by assumption
      have h1 : isLet s[k] = true := by assumption
      go_round
      case rel => exact ⟨k + 1, by omega, by go_num, Lib.hid (by rw [take_snoc s k hlt, List.all_append, hall.out]; simp [isTok, h1])⟩
      case measure => simp [intOf]; omega
    · have hlt : k < s.size := by assumption
      have h1 : isDig s[k] = true := by assumption
      go_round
      case rel => exact ⟨k + 1, by omega, by go_num, Lib.hid (by rw [take_snoc s k hlt, List.all_append, hall.out]; simp [isTok, h1])⟩
      case measure => simp [intOf]; omega
    · have hlt : k < s.size := by assumption
      have h1 : ¬ isLet s[k] = true := by assumption
      have h2 : ¬ isDig s[k] = true := by assumption
      have h3 : (!hasB (toL { data := #[33, 35, 36, 37, 38, 39, 42, 43, 45, 46, 94, 95, 124, 126, 96] }) s[k]) = true := by assumption
      go_ret
      refine hR _ _ ⟨ret_bool ?_, rfl⟩
      have h4 : isTok s[k] = false := by
        have : hasB marks s[k] = false := by have := h3; rw [marks_lit] at this; simpa using this
        simp [isTok, h1, h2, this]
      symm
      rw [Bool.eq_false_iff]
      intro h5
      have := all_get s k hlt (Bool.and_eq_true_iff.1 h5).2
      rw [h4] at this; cases this
    · have hlt : k < s.size := by assumption
      have h3 : (!hasB (toL { data := #[33, 35, 36, 37, 38, 39, 42, 43, 45, 46, 94, 95, 124, 126, 96] }) s[k]) = false := by assumption
      go_round
      case rel =>
        refine ⟨k + 1, by omega, by go_num, ?_⟩
        have : hasB marks s[k] = true := by have := h3; rw [marks_lit] at this; simpa using this
        refine Lib.hid ?_
        rw [take_snoc s k hlt, List.all_append, hall.out]
        simp [isTok, this]
      case measure => simp [intOf]; omega
    · have hge : ¬ k < s.size := by assumption
      go_ret
      obtain rfl : k = s.size := by omega
      refine hR _ _ ⟨ret_bool ?_, rfl⟩
      have := hall.out
      rw [take_all] at this
      unfold token
      rw [this, Bool.and_true]
      rw [toList_toL]

theorem lower_take (s : ByteArray) (k : Nat) (h : k < s.size) : lower ((toL s).take (k + 1)) = lower ((toL s).take k) ++ [lowerB s[k]] := by
  rw [take_snoc s k h]; simp [lower]
theorem info5 : (Tryd.prog.info? 5).map (fun i => (i.zero, i.size, i.bytes)) = some (some (.int .u8 0), 1, 1) := by kernel_rfl

set_option maxHeartbeats 400000 in
/-- parapetref1.Lower -/
theorem rlower_any (s : ByteArray) (w : World) (hs : s.size ≤ 1000000) :
    Calls Tryd.prog 54 #[.string s] w fun e w' => e = .returned (.string (ofL (lower (toL s)))) ∧ Below w.heap.size w w' := by
  refine calls_gen fun R hR => ?_
  go_enter Tryd.func54, Tryd.ntmps54
  go_wp2
  go_loopw [3, 4, 5] (fun v i _ wr => ∃ k : Nat, k ≤ s.size ∧ i = .int .i64 k ∧ Own Rp.u8 5 wr (w.heap.size ≤ ·) (lower ((toL s).take k)) v ∧ Below w.heap.size w wr) (fun _ i _ _ => s.size - (intOf i).toNat)
  case atStart => exact ⟨0, Nat.zero_le _, rfl, Own.nil _ _ _ _, Below.refl _ _⟩
  case round =>
    obtain ⟨k, hk, rfl, hown, hb⟩ := hrel
    have hbs := hb.size
    have hll : (lower ((toL s).take k)).length ≤ 1000000 := by simp [lower]; omega
    have hlow : ∀ h : k < s.size, lower ((toL s).take (k + 1)) = lower ((toL s).take k) ++ [lowerB s[k]] := lower_take s k
    have HL := Lib.hid hlow; clear hlow
    go_wp2_with (with_reducible (first | refine stop_append ?_ | refine stop_convert ?_))
    · have hlt : k < s.size := by assumption
      refine ⟨wp_append1_flat (y := lowerB s[k]) Tryd.underlying62 info5 rfl hown rfl rfl (u8_rep ?_) (by omega) (by decide) hbs ?_⟩
      · unfold lowerB; first | (rw [if_pos (by omega)]; rw [UInt8.toNat_add]; simp; omega) | rw [if_neg (by omega)]
      intro v1 w1 ho1 hb1 _ _
      have hb2 := hb.trans hb1
      go_wp2
      go_roundw
      case rel => exact ⟨k + 1, by omega, by go_num, by rw [HL.out hlt]; exact ho1, hb2⟩
      case measure => simp [intOf]; omega
    · have hlt : k < s.size := by assumption
      refine ⟨wp_append1_flat (y := lowerB s[k]) Tryd.underlying62 info5 rfl hown rfl rfl (u8_rep ?_) (by omega) (by decide) hbs ?_⟩
      · unfold lowerB; first | (rw [if_pos (by omega)]; rw [UInt8.toNat_add]; simp; omega) | rw [if_neg (by omega)]
      intro v1 w1 ho1 hb1 _ _
      have hb2 := hb.trans hb1
      go_wp2
      go_roundw
      case rel => exact ⟨k + 1, by omega, by go_num, by rw [HL.out hlt]; exact ho1, hb2⟩
      case measure => simp [intOf]; omega
    · have hlt : k < s.size := by assumption
      refine ⟨wp_append1_flat (y := lowerB s[k]) Tryd.underlying62 info5 rfl hown rfl rfl (u8_rep ?_) (by omega) (by decide) hbs ?_⟩
      · unfold lowerB; first | (rw [if_pos (by omega)]; rw [UInt8.toNat_add]; simp; omega) | rw [if_neg (by omega)]
      intro v1 w1 ho1 hb1 _ _
      have hb2 := hb.trans hb1
      go_wp2
      go_roundw
      case rel => exact ⟨k + 1, by omega, by go_num, by rw [HL.out hlt]; exact ho1, hb2⟩
      case measure => simp [intOf]; omega
    · obtain rfl : k = s.size := by omega
      refine ⟨wp_string Tryd.underlying62 Tryd.underlying5 Tryd.underlying9 hown.view ?_⟩
      go_wp2
      go_ret
      exact hR _ _ ⟨ret_str (by rw [take_all]), hb⟩

set_option maxHeartbeats 400000 in
/-- parapetref1.Same -/
theorem rsame_any (s t : ByteArray) (w : World) (hs : s.size ≤ 1000000) (ht : t.size ≤ 1000000) :
    Calls Tryd.prog 56 #[.string s, .string t] w fun e w' => e = .returned (.bool (lower (toL s) == lower (toL t))) ∧ Below w.heap.size w w' := by
  refine calls_gen fun R hR => ?_
  go_enter Tryd.func56, Tryd.ntmps56
  go_wp2_with fail
  refine (rlower_any s _ hs).mono ?_
  rintro e w1 ⟨rfl, hb1⟩
  go_wp2_with fail
  refine (rlower_any t _ ht).mono ?_
  rintro e w2 ⟨rfl, hb2⟩
  go_wp2_with fail
  go_ret
  refine hR _ _ ⟨ret_bool ?_, below_then hb1 (Nat.le_refl _) hb2⟩
  rw [toList_ofL, toList_ofL]

theorem lt_get {α : Type} {l : List α} {k : Nat} (h : k < l.length) : l[k]? = some l[k] := List.getElem?_eq_getElem h

set_option maxHeartbeats 400000 in
/-- parapetref1.In -/
theorem rin_any (s : ByteArray) (l : List (List UInt8)) (v : Value) (F : Nat → Prop) (w : World) (hv : View Rp.str w F l v) (hl : l.length ≤ 1000000) :
    Calls Tryd.prog 32 #[.string s, v] w fun e w' => e = .returned (.bool (decide (toL s ∈ l))) ∧ w = w' := by
  obtain ⟨A, c, rfl, hc, hcell⟩ := hv.open1
  refine calls_gen fun R hR => ?_
  go_enter Tryd.func32, Tryd.ntmps32
  go_wp2
  go_loop [5] (fun i => ∃ k : Nat, k ≤ l.length ∧ i = .int .i64 k ∧ Hid (∀ j y, l[j]? = some y → j < k → y ≠ toL s)) (fun i => l.length - (intOf i).toNat)
  case atStart => exact ⟨0, Nat.zero_le _, rfl, fun _ _ _ h => by omega⟩
  case round =>
    obtain ⟨k, hk, rfl, hall⟩ := hrel
    by_cases hlt : k < l.length
    · obtain ⟨b, off, rfl, hbl, hce⟩ := hcell k hlt
      obtain ⟨x, hx⟩ : ∃ x, l[k]? = some x := ⟨_, lt_get hlt⟩
      have hck := hce k x hx
      have HX := Lib.hid hx; clear hx
      have HC := Lib.hid hce; clear hce hcell
      go_wp2
      · have he : ((ofL x).toList == s.toList) = true := by assumption
        go_ret
        refine hR _ _ ⟨ret_bool ?_, rfl⟩
        rw [toList_ofL, toList_toL] at he
        have hxs : x = toL s := by simpa using he
        symm; rw [decide_eq_true_iff, ← hxs]; exact List.mem_of_getElem? HX.out
      · have he : ((ofL x).toList == s.toList) = false := by assumption
        go_round
        case rel =>
          refine ⟨k + 1, by omega, by go_num, fun j y hj hjk => ?_⟩
          by_cases hjk' : j = k
          · subst hjk'
            have := HX.out
            rw [hj] at this
            cases this
            rintro rfl
            rw [toList_ofL, toList_toL] at he
            simp at he
          · exact hall.out j y hj (by omega)
        case measure => simp [intOf]; omega
    · go_wp2
      go_ret
      refine hR _ _ ⟨ret_bool ?_, rfl⟩
      symm; rw [decide_eq_false_iff_not]
      intro hm
      obtain ⟨j, hj, e⟩ := List.getElem_of_mem hm
      exact hall.out j _ (lt_get hj) (by omega) e

/-- parapetalike.Texts -/
theorem texts_ne (l m : List (List UInt8)) (v u : Value) (F G : Nat → Prop) (w : World) (hv : View Rp.str w F l v) (hu : View Rp.str w G m u)
    (hne : l.length ≠ m.length) :
    Calls Tryd.prog 43 #[v, u] w fun e w' => e = .returned (.bool false) ∧ Below w.heap.size w w' := by
  obtain ⟨A, c, rfl, hc, hcell⟩ := hv.open1
  obtain ⟨A', c', rfl, hc', hcell'⟩ := hu.open1
  refine calls_gen fun R hR => ?_
  have h1 : ((l.length : Int) != (m.length : Int)) = true := by rw [bne_iff_ne]; omega
  clear hcell hcell'
  go_enter Tryd.func43, Tryd.ntmps43
  go_wp2
  go_ret
  exact hR _ _ ⟨rfl, Below.refl _ _⟩

set_option maxHeartbeats 400000 in
theorem texts_eq (l m : List (List UInt8)) (v u : Value) (F G : Nat → Prop) (w : World) (hv : View Rp.str w F l v) (hu : View Rp.str w G m u) (hl : l.length ≤ 1000000)
    (hne : l.length = m.length) :
    Calls Tryd.prog 43 #[v, u] w fun e w' => e = .returned (.bool (l == m)) ∧ Below w.heap.size w w' := by
  obtain ⟨A, c, rfl, hc, hcell⟩ := hv.open1
  obtain ⟨A', c', rfl, hc', hcell'⟩ := hu.open1
  refine calls_gen fun R hR => ?_
  have h1 : ((l.length : Int) != (m.length : Int)) = false := by rw [bne_eq_false_iff_eq]; omega
  have hle : l.length ≤ m.length := by omega
  have HN := Lib.hid hne; clear hne
  have HC := Lib.hid hcell; clear hcell
  have HC' := Lib.hid hcell'; clear hcell'
  go_enter Tryd.func43, Tryd.ntmps43
  go_wp2
  clear h1
  go_loopw [5] (fun i wr => ∃ k n : Nat, k ≤ l.length ∧ i = .int .i64 k ∧ wr = w.drewN n ∧ Hid (∀ j, j < k → l[j]? = m[j]?)) (fun i _ => l.length - (intOf i).toNat)
  case atStart => exact ⟨0, 0, Nat.zero_le _, rfl, rfl, fun _ h => by omega⟩
  case round =>
    obtain ⟨k, n, hk, rfl, rfl, hall⟩ := hrel
    by_cases hlt : k < l.length
    · obtain ⟨b, off, rfl, hbl, hce⟩ := HC.out k hlt
      obtain ⟨b', off', rfl, hbl', hce'⟩ := HC'.out k (by omega)
      have hlt' : k < m.length := by omega
      obtain ⟨x, hx⟩ : ∃ x, l[k]? = some x := ⟨_, lt_get hlt⟩
      obtain ⟨y, hy⟩ : ∃ y, m[k]? = some y := ⟨_, lt_get hlt'⟩
      have hck := hce k x hx
      have hck' := hce' k y hy
      clear hce hce'
      have HX := Lib.hid hx; clear hx
      have HY := Lib.hid hy; clear hy
      go_wp2
      go_quiet (fail)
      go_wp2
      · have he : (!(ofL x).toList == (ofL y).toList) = true := by assumption
        go_ret
        refine hR _ _ ⟨ret_bool ?_, Below.drewN (Below.drewN (Below.refl _ _) _) _⟩
        rw [toList_ofL, toList_ofL] at he
        symm
        rw [beq_eq_false_iff_ne]
        rintro rfl
        have := HX.out; rw [HY.out] at this; cases this
        simp at he
      · have he : (!(ofL x).toList == (ofL y).toList) = false := by assumption
        go_roundw
        case rel =>
          refine ⟨k + 1, _, by omega, by go_num, rfl, fun j hj => ?_⟩
          by_cases hjk : j = k
          · subst hjk
            rw [toList_ofL, toList_ofL] at he
            have : x = y := by simpa using he
            rw [HX.out, HY.out, this]
          · exact hall.out j (by omega)
        case measure => simp [intOf]; omega
    · go_wp2
      go_ret
      refine hR _ _ ⟨ret_bool ?_, Below.drewN (Below.refl _ _) _⟩
      symm
      rw [beq_iff_eq]
      have hn := HN.out
      apply List.ext_getElem? 
      intro j
      by_cases hj : j < k
      · exact hall.out j hj
      · rw [List.getElem?_eq_none (by omega), List.getElem?_eq_none (by omega)]

theorem texts_any (l m : List (List UInt8)) (v u : Value) (F G : Nat → Prop) (w : World) (hv : View Rp.str w F l v) (hu : View Rp.str w G m u) (hl : l.length ≤ 1000000) :
    Calls Tryd.prog 43 #[v, u] w fun e w' => e = .returned (.bool (l == m)) ∧ Below w.heap.size w w' := by
  by_cases h : l.length = m.length
  · exact texts_eq l m v u F G w hv hu hl h
  · refine (texts_ne l m v u F G w hv hu h).mono ?_
    rintro e w' ⟨rfl, hb⟩
    refine ⟨ret_bool ?_, hb⟩
    symm; rw [beq_eq_false_iff_ne]; rintro rfl; exact h rfl
end Go.Proofs.YtalbadmefpdldaaDoor.Asc
