/-
  Contracts: the reference's Valid, unsafe; Simple of both.
  Lengths within the rows' own reach.
-/
import Derived.Test.YtalbadmefpdldaaDoorHdrC
namespace Go.Proofs.YtalbadmefpdldaaDoor.Asc
open Go Go.RowKit Go.Proofs.YtalbadmefpdldaaDoor.Pb

theorem has_unsafes (c : UInt8) : hasB (toL { data := #[34, 40, 41, 58, 60, 62, 63, 64, 91, 92, 93, 123, 125] }) c = hasB unsafes c := rfl

theorem isCtl_int (c : UInt8) : isCtl c = (decide ((c.toNat : Int) < 32) && ((c.toNat : Int) != 9) || ((c.toNat : Int) == 127)) := by
  unfold isCtl
  rw [Bool.eq_iff_iff]
  simp
  omega

set_option maxHeartbeats 1000000 in
theorem runsafe_any (s : ByteArray) (w : World) (hs : s.size ≤ 1000000) :
    Calls Tryd.prog 71 #[.string s] w fun e w' => e = .returned (.bool (!(toL s).all isSafe)) ∧ w = w' := by
  refine calls_gen fun R hR => ?_
  go_enter Tryd.func71, Tryd.ntmps71
  go_wp2_with fail
  go_loop [2, 3] (fun _ i => ∃ k : Nat, k ≤ s.size ∧ i = .int .i64 k ∧ Hid (((toL s).take k).all isSafe = true)) (fun _ i => s.size - (intOf i).toNat)
  case atStart => exact ⟨0, Nat.zero_le _, rfl, by simp [Hid]⟩
  case round =>
    obtain ⟨k, hk, rfl, hall⟩ := hrel
    by_cases hlt : k < s.size
    · go_upto_region 4 with fail
      go_cut [31] (fun v wc => v = .bool (!isSafe s[k]) ∧ wc = w)
      case first =>
        have hsf : isSafe s[k] = (!hasB unsafes s[k] && !isCtl s[k]) := rfl
        have hct := isCtl_int s[k]
        have hhs := has_any ⟨#[34, 40, 41, 58, 60, 62, 63, 64, 91, 92, 93, 123, 125]⟩ s[k] w (by decide)
        rw [has_unsafes] at hhs
        obtain ⟨n, hn⟩ : ∃ n : Int, (s[k].toNat : Int) = n := ⟨_, rfl⟩
        obtain ⟨U, hU⟩ : ∃ U, hasB unsafes s[k] = U := ⟨_, rfl⟩
        rw [hn] at hct hhs
        rw [hU] at hsf hhs
        rw [hct] at hsf
        have HSF := Lib.hid hsf; have HHS := Lib.hid hhs; have HNN := Lib.hid hn
        clear hsf hct hhs hU hn
        cases h1 : decide (n < 32) <;> cases h2 : (n != 9) <;> cases h3 : (n == 127) <;> cases U
        all_goals
          rw [h1, h2, h3] at HSF
          rw [← HNN.out] at h1 h2 h3
          go_wp2_with (first
            | (go_at_call 60; rw [HNN.out]; refine HHS.out.mono ?_; rintro e w' ⟨rfl, rfl⟩))
          all_goals
            go_meet
            refine ⟨congrArg Value.bool ?_, rfl⟩
            rw [HSF.out]
            rfl
      case rest =>
        obtain ⟨rfl, rfl⟩ := hcut
        cases ht : isSafe s[k]
        · have HT := Lib.hid ht; clear ht
          go_wp2
          go_ret
          refine hR _ _ ⟨ret_bool ?_, rfl⟩
          symm
          rw [Bool.not_eq_true', Bool.eq_false_iff]
          intro h5
          have := all_get s k hlt h5
          rw [HT.out] at this; cases this
        · have HT := Lib.hid ht; clear ht
          go_wp2
          go_round
          case rel => exact ⟨k + 1, by omega, by go_num, Lib.hid (by rw [take_snoc s k hlt, List.all_append, hall.out]; simp [HT.out])⟩
          case measure => simp [intOf]; omega
    · obtain rfl : k = s.size := by omega
      go_wp2
      go_ret
      refine hR _ _ ⟨ret_bool ?_, rfl⟩
      have := hall.out
      rw [take_all] at this
      rw [this]; rfl

/-! ### Simple -/
def wAccept : List UInt8 := [97, 99, 99, 101, 112, 116]
def wAccLang : List UInt8 := [97, 99, 99, 101, 112, 116, 45, 108, 97, 110, 103, 117, 97, 103, 101]
def wConLang : List UInt8 := [99, 111, 110, 116, 101, 110, 116, 45, 108, 97, 110, 103, 117, 97, 103, 101]
def wConType : List UInt8 := [99, 111, 110, 116, 101, 110, 116, 45, 116, 121, 112, 101]
def forms : List (List UInt8) := [[97, 112, 112, 108, 105, 99, 97, 116, 105, 111, 110, 47, 120, 45, 119, 119, 119, 45, 102, 111, 114, 109, 45, 117, 114, 108, 101, 110, 99, 111, 100, 101, 100], [109, 117, 108, 116, 105, 112, 97, 114, 116, 47, 102, 111, 114, 109, 45, 100, 97, 116, 97], [116, 101, 120, 116, 47, 112, 108, 97, 105, 110]]
def simple (n v : List UInt8) : Bool :=
  decide (v.length ≤ 128) && (if lower n == wAccept then v.all isSafe else if lower n == wAccLang || lower n == wConLang then v.all isLang else if lower n == wConType then v.all isSafe && decide ((essence v).1 ∈ forms) else false)

theorem texts_lit (w : World) (l : List (List UInt8)) (cs : Array Value) (h : cs.toList = l.map fun x => Value.string (ofL x)) (hl : l.length ≤ 1000000) (n : Nat) (hn : n = l.length) :
    View Rp.str (w.alloc (.cells cs 9)) (fun k => w.heap.size ≤ k) l (.slice (some ⟨w.heap.size, 0, none⟩) n n) := by
  have hh := Own.lit (d := Rp.str) (e := 9) w (G := fun _ => False) (xs := l) (cs := l.map fun x => Value.string (ofL x)) (Elems.of_map l) hn (by unfold maxLen; omega)
  rw [← h] at hh
  exact (hh.view).mono fun k hk => by rcases hk with hk | hk; exact hk.elim; exact hk
theorem beq_at {a b : List UInt8} {c : Bool} (h : (a == b) = c) (L : ByteArray) (hL : L.toList = a) : (L.toList == b) = c := by rw [hL]; exact h

set_option maxHeartbeats 2000000 in
theorem simple_any (N V : ByteArray) (m : Int) (w : World) (hn : N.size ≤ 1000000) (hv : V.size ≤ 1000000) (hm : w.cell? ⟨0, 0, none⟩ = some (.int .i64 m)) :
    Calls Tryd.prog 48 #[.agg #[.string N, .string V]] w fun e w' => e = .returned (.bool (simple (toL N) (toL V))) ∧ Below w.heap.size w w' := by
  refine calls_gen fun R hR => ?_
  have hml := World.block_lt_of_cell? w _ hm
  have HM := Lib.hid hm; have HML := Lib.hid hml
  have HS : Hid (simple (toL N) (toL V) = (decide ((toL V).length ≤ 128) && (if lower (toL N) == wAccept then (toL V).all isSafe else if lower (toL N) == wAccLang || lower (toL N) == wConLang then (toL V).all isLang else if lower (toL N) == wConType then (toL V).all isSafe && decide ((essence (toL V)).1 ∈ forms) else false))) := rfl
  rw [toL_len] at HS
  clear hm hml
  obtain ⟨S, hS⟩ : ∃ S, simple (toL N) (toL V) = S := ⟨_, rfl⟩
  rw [hS] at HS hR
  clear hS
  go_enter Tryd.func48, Tryd.ntmps48
  by_cases h128 : 128 < V.size
  · have HS2 : Hid (S = false) := Lib.hid (by rw [HS.out, decide_eq_false (by omega)]; rfl)
    clear HS
    go_wp2_with fail
    go_ret
    exact hR _ _ ⟨ret_bool HS2.out.symm, below_new _ _⟩
  have HS2 := HS
  rw [decide_eq_true (show V.size ≤ 128 by omega), Bool.true_and] at HS2
  clear HS
  go_wp2_with fail
  refine (lower_any N _ hn).mono ?_
  rintro e w2 ⟨rfl, hb2⟩
  obtain ⟨L, hL⟩ : ∃ L, ofL (lower (toL N)) = L := ⟨_, rfl⟩
  have hLl : L.toList = lower (toL N) := by rw [← hL, toList_ofL]
  have HL := Lib.hid hLl
  rw [hL]
  have g1 := (hb2.block w.heap.size (by simp)).trans (blk_new w (.cells #[.string N, .string V] 34))
  have c0 := blk_cell g1 0
  have c1 := blk_cell g1 1
  simp at c0 c1
  have hsl := blk_lt g1
  have HB2 := Lib.hid ((below_new w (.cells #[.string N, .string V] 34)).trans (hb2.mono (by simp)))
  obtain ⟨sb, hsb⟩ : ∃ sb, w.heap.size = sb := ⟨_, rfl⟩
  rw [hsb] at c0 c1 hsl ⊢
  have HSB := Lib.hid hsb
  clear hL hLl hb2 g1 hsb
  cases h1 : (lower (toL N) == wAccept) with
  | true =>
    have e1 : (L.toList == [97, 99, 99, 101, 112, 116]) = true := beq_at h1 L HL.out
    rw [h1, if_pos rfl] at HS2
    have HS3 := HS2
    clear h1 HS2
    go_wp2_with fail
    refine (every_any 65 Tryd.call65 isSafe V w2 (by omega) (fun c w1 => safe_any c w1)).mono ?_
    rintro e w' ⟨rfl, rfl⟩
    go_wp2_with fail
    go_ret
    exact hR _ _ ⟨ret_bool HS3.out.symm, HB2.out⟩
  | false =>
    have e1 : (L.toList == [97, 99, 99, 101, 112, 116]) = false := beq_at h1 L HL.out
    rw [h1, if_neg (by simp)] at HS2
    have HS3 := HS2
    clear h1 HS2
    cases h2 : (lower (toL N) == wAccLang || lower (toL N) == wConLang) with
    | true =>
      rw [h2, if_pos rfl] at HS3
      have HS4 := HS3
      clear HS3
      rw [Bool.or_eq_true] at h2
      rcases h2 with h2 | h2
      · have e2 : (L.toList == [97, 99, 99, 101, 112, 116, 45, 108, 97, 110, 103, 117, 97, 103, 101]) = true := beq_at h2 L HL.out
        clear h2
        go_wp2_with fail
        refine (every_any 66 Tryd.call66 isLang V w2 (by omega) (fun c w1 => language_any c w1)).mono ?_
        rintro e w' ⟨rfl, rfl⟩
        go_wp2_with fail
        go_ret
        exact hR _ _ ⟨ret_bool HS4.out.symm, HB2.out⟩
      · have e2 : (L.toList == [99, 111, 110, 116, 101, 110, 116, 45, 108, 97, 110, 103, 117, 97, 103, 101]) = true := beq_at h2 L HL.out
        have e3 : (L.toList == [97, 99, 99, 101, 112, 116, 45, 108, 97, 110, 103, 117, 97, 103, 101]) = false := by
          rw [beq_iff_eq] at e2; rw [e2]; decide
        clear h2
        go_wp2_with fail
        refine (every_any 66 Tryd.call66 isLang V w2 (by omega) (fun c w1 => language_any c w1)).mono ?_
        rintro e w' ⟨rfl, rfl⟩
        go_wp2_with fail
        go_ret
        exact hR _ _ ⟨ret_bool HS4.out.symm, HB2.out⟩
    | false =>
      rw [h2, if_neg (by simp)] at HS3
      have HS4 := HS3
      clear HS3
      rw [Bool.or_eq_false_iff] at h2
      have e2 : (L.toList == [97, 99, 99, 101, 112, 116, 45, 108, 97, 110, 103, 117, 97, 103, 101]) = false := beq_at h2.1 L HL.out
      have e3 : (L.toList == [99, 111, 110, 116, 101, 110, 116, 45, 108, 97, 110, 103, 117, 97, 103, 101]) = false := beq_at h2.2 L HL.out
      clear h2
      cases h3 : (lower (toL N) == wConType) with
      | false =>
        have e4 : (L.toList == [99, 111, 110, 116, 101, 110, 116, 45, 116, 121, 112, 101]) = false := beq_at h3 L HL.out
        rw [h3, if_neg (by simp)] at HS4
        have HS5 := HS4
        clear h3 HS4
        go_wp2_with fail
        go_ret
        exact hR _ _ ⟨ret_bool HS5.out.symm, HB2.out⟩
      | true =>
        have e4 : (L.toList == [99, 111, 110, 116, 101, 110, 116, 45, 116, 121, 112, 101]) = true := beq_at h3 L HL.out
        rw [h3, if_pos rfl] at HS4
        have HS5 := HS4
        clear h3 HS4
        go_wp2_with fail
        refine (essence_any V m w2 hv ((HB2.out.cell (p := ⟨0, 0, none⟩) HML.out).trans HM.out)).mono ?_
        rintro e w3 ⟨rfl, hb3⟩
        obtain ⟨E, hE⟩ : ∃ E, (essence (toL V)).1 = E := ⟨_, rfl⟩
        obtain ⟨B, hB⟩ : ∃ B, (essence (toL V)).2 = B := ⟨_, rfl⟩
        rw [hE] at HS5
        rw [hE, hB]
        have d0 := (hb3.cell (p := ⟨sb, 0, none⟩) hsl).trans c0
        have d1 := (hb3.cell (p := ⟨sb, 1, none⟩) hsl).trans c1
        have hs3 := hb3.size
        have hsl3 : sb < w3.heap.size := by omega
        have HB3 := Lib.hid (HB2.out.trans (hb3.mono HB2.out.size))
        obtain ⟨X, hX⟩ : ∃ X, ofL E = X := ⟨_, rfl⟩
        have HX : Hid (toL X = E) := Lib.hid (by rw [← hX, toL_ofL])
        rw [hX]
        clear hb3 hE hB hX c0 c1
        go_wp2_with fail
        refine (every_any 65 Tryd.call65 isSafe V w3 (by omega) (fun c w1 => safe_any c w1)).mono ?_
        rintro e w' ⟨rfl, rfl⟩
        cases ht : (toL V).all isSafe with
        | false =>
          rw [ht] at HS5
          have HS6 := HS5
          clear HS5 ht
          go_wp2_with fail
          go_ret
          exact hR _ _ ⟨ret_bool (by rw [HS6.out]; rfl), HB3.out⟩
        | true =>
          rw [ht, Bool.true_and] at HS5
          have HS6 := HS5
          clear HS5 ht
          go_wp2_with fail
          refine (any_any X forms _ _ _ (texts_lit w3 forms _ rfl (by decide) 3 rfl) (by decide)).mono ?_
          rintro e w' ⟨rfl, rfl⟩
          rw [HX.out]
          go_wp2_with fail
          go_ret
          exact hR _ _ ⟨ret_bool HS6.out.symm, HB3.out.trans ((below_new w3 _).mono HB3.out.size)⟩
end Go.Proofs.YtalbadmefpdldaaDoor.Asc
