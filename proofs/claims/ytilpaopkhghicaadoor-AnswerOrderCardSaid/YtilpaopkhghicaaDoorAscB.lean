/-
  Contracts of parapetalike.Texts, Total and of the reference's In, Token, Lower, Same: what each answers; nothing that was there turns.
  Texts within the row's own reach.
-/
import Derived.Test.YtilpaopkhghicaaDoorAscA
import Derived.Deep.QuietTactic
import Derived.BigQuiet
namespace Go.Proofs.YtilpaopkhghicaaDoor.Asc
open Go Go.RowKit Go.Proofs.YtilpaopkhghicaaDoor.Pb

theorem all_get (s : ByteArray) (k : Nat) (h : k < s.size) {p : UInt8 → Bool} (hp : (toL s).all p = true) : p s[k] = true := by
  rw [← toL_get s k h]; exact List.all_eq_true.1 hp _ (List.getElem_mem _)
theorem take_snoc (s : ByteArray) (k : Nat) (h : k < s.size) : (toL s).take (k + 1) = (toL s).take k ++ [s[k]] := by
  rw [List.take_add_one, getD_toL s k h]; rfl
theorem take_all (s : ByteArray) : (toL s).take s.size = toL s := List.take_of_length_le (by rw [toL_len]; exact Nat.le_refl _)

theorem marks_lit : toL { data := #[33, 35, 36, 37, 38, 39, 42, 43, 45, 46, 94, 95, 124, 126, 96] } = marks := rfl
set_option maxHeartbeats 400000 in
/-- parapetref1.Token -/
theorem rtoken_any (s : ByteArray) (w : World) (hs : s.size ≤ 140737488351232) :
    Calls Tryd.prog 53 #[.string s] w fun e w' => e = .returned (.bool (token (toL s))) ∧ w = w' := by
  refine calls_gen fun R hR => ?_
  go_enter Tryd.func53, Tryd.ntmps53
  go_wp2
  go_loop [3] (fun i => ∃ k : Nat, k ≤ s.size ∧ i = .int .i64 k ∧ Hid (((toL s).take k).all isTok = true)) (fun i => s.size - (intOf i).toNat)
  case atStart => exact ⟨0, Nat.zero_le _, rfl, by simp [Hid]⟩
  case round =>
    obtain ⟨k, hk, rfl, hall⟩ := hrel
    go_wp2_with (first
      | (go_at_call 64; refine (letter_any s[k] _).mono ?_; rintro e w' ⟨rfl, rfl⟩)
      | (go_at_call 52; refine (digit_any s[k] _).mono ?_; rintro e w' ⟨rfl, rfl⟩)
      | (go_at_call 65; refine (has_any _ s[k] _ (by decide)).mono ?_; rintro e w' ⟨rfl, rfl⟩))
    · have hlt : k < s.size := by assumption
      have h1 : isLet s[k] = true := by assumption
      go_round
      case rel => exact ⟨k + 1, by omega, by go_num, Lib.hid (by rw [take_snoc s k hlt, List.all_append, hall.out]; simp [isTok, h1])⟩
      case measure => simp [intOf]; omega
    · have hlt : k < s.size := by assumption
      have h1 : isDig s[k] = true := by assumption
      go_round
      case rel => exact ⟨k + 1, by omega, by go_num, Lib.hid (by rw [take_snoc s k hlt, List.all_append, hall.out]; simp [isTok, h1])⟩
      case measure => simp [intOf]; omega
    · have hlt : k < s.size := by assumption
      have h1 : ¬ isLet s[k] = true := by assumption
      have h2 : ¬ isDig s[k] = true := by assumption
      have h3 : (!hasB (toL { data := #[33, 35, 36, 37, 38, 39, 42, 43, 45, 46, 94, 95, 124, 126, 96] }) s[k]) = true := by assumption
      go_ret
      refine hR _ _ ⟨ret_bool ?_, rfl⟩
      have h4 : isTok s[k] = false := by
        have : hasB marks s[k] = false := by have := h3; rw [marks_lit] at this; simpa using this
        simp [isTok, h1, h2, this]
      symm
      rw [Bool.eq_false_iff]
      intro h5
      have := all_get s k hlt (Bool.and_eq_true_iff.1 h5).2
      rw [h4] at this; cases this
    · have hlt : k < s.size := by assumption
      have h3 : (!hasB (toL { data := #[33, 35, 36, 37, 38, 39, 42, 43, 45, 46, 94, 95, 124, 126, 96] }) s[k]) = false := by assumption
      go_round
      case rel =>
        refine ⟨k + 1, by omega, by go_num, ?_⟩
        have : hasB marks s[k] = true := by have := h3; rw [marks_lit] at this; simpa using this
        refine Lib.hid ?_
        rw [take_snoc s k hlt, List.all_append, hall.out]
        simp [isTok, this]
      case measure => simp [intOf]; omega
    · have hge : ¬ k < s.size := by assumption
      go_ret
      obtain rfl : k = s.size := by omega
      refine hR _ _ ⟨ret_bool ?_, rfl⟩
      have := hall.out
      rw [take_all] at this
      unfold token
      rw [this, Bool.and_true]
      rw [toList_toL]

theorem lower_take (s : ByteArray) (k : Nat) (h : k < s.size) : lower ((toL s).take (k + 1)) = lower ((toL s).take k) ++ [lowerB s[k]] := by
  rw [take_snoc s k h]; simp [lower]
theorem info5 : (Tryd.prog.info? 5).map (fun i => (i.zero, i.size, i.bytes)) = some (some (.int .u8 0), 1, 1) := by kernel_rfl

theorem lt_get {α : Type} {l : List α} {k : Nat} (h : k < l.length) : l[k]? = some l[k] := List.getElem?_eq_getElem h

set_option maxHeartbeats 400000 in
/-- parapetref1.In -/
theorem rin_any (s : ByteArray) (l : List (List UInt8)) (v : Value) (F : Nat → Prop) (w : World) (hv : View Rp.str w F l v) (hl : l.length ≤ 1000000) :
    Calls Tryd.prog 30 #[.string s, v] w fun e w' => e = .returned (.bool (decide (toL s ∈ l))) ∧ w = w' := by
  obtain ⟨A, c, rfl, hc, hcell⟩ := hv.open1
  refine calls_gen fun R hR => ?_
  go_enter Tryd.func30, Tryd.ntmps30
  go_wp2
  go_loop [5] (fun i => ∃ k : Nat, k ≤ l.length ∧ i = .int .i64 k ∧ Hid (∀ j y, l[j]? = some y → j < k → y ≠ toL s)) (fun i => l.length - (intOf i).toNat)
  case atStart => exact ⟨0, Nat.zero_le _, rfl, fun _ _ _ h => by omega⟩
  case round =>
    obtain ⟨k, hk, rfl, hall⟩ := hrel
    by_cases hlt : k < l.length
    · obtain ⟨b, off, rfl, hbl, hce⟩ := hcell k hlt
      obtain ⟨x, hx⟩ : ∃ x, l[k]? = some x := ⟨_, lt_get hlt⟩
      have hck := hce k x hx
      have HX := Lib.hid hx; clear hx
      have HC := Lib.hid hce; clear hce hcell
      go_wp2
      · have he : ((ofL x).toList == s.toList) = true := by assumption
        go_ret
        refine hR _ _ ⟨ret_bool ?_, rfl⟩
        rw [toList_ofL, toList_toL] at he
        have hxs : x = toL s := by simpa using he
        symm; rw [decide_eq_true_iff, ← hxs]; exact List.mem_of_getElem? HX.out
      · have he : ((ofL x).toList == s.toList) = false := by assumption
        go_round
        case rel =>
          refine ⟨k + 1, by omega, by go_num, fun j y hj hjk => ?_⟩
          by_cases hjk' : j = k
          · subst hjk'
            have := HX.out
            rw [hj] at this
            cases this
            rintro rfl
            rw [toList_ofL, toList_toL] at he
            simp at he
          · exact hall.out j y hj (by omega)
        case measure => simp [intOf]; omega
    · go_wp2
      go_ret
      refine hR _ _ ⟨ret_bool ?_, rfl⟩
      symm; rw [decide_eq_false_iff_not]
      intro hm
      obtain ⟨j, hj, e⟩ := List.getElem_of_mem hm
      exact hall.out j _ (lt_get hj) (by omega) e

end Go.Proofs.YtilpaopkhghicaaDoor.Asc
