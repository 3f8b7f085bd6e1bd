/-
  Contracts: methods (their own name, forbidden, simple, whether a preflight is needed), of the program and of the document.
  Lengths within the rows' own reach; the library's MaxLen is a number.
-/
import Derived.Test.YtalbadmefpdldaaDoorHdrL
namespace Go.Proofs.YtalbadmefpdldaaDoor.Asc
open Go Go.RowKit Go.Proofs.YtalbadmefpdldaaDoor.Pb

def upB (c : UInt8) : UInt8 := if 97 ≤ c.toNat ∧ c.toNat ≤ 122 then c - 32 else c
def upperT (l : List UInt8) : List UInt8 := l.map upB
theorem upperT_len (l : List UInt8) : (upperT l).length = l.length := by simp [upperT]
theorem low_up (c : UInt8) : lowerB (upB c) = lowerB c := by
  unfold upB
  by_cases h : 97 ≤ c.toNat ∧ c.toNat ≤ 122
  · rw [if_pos h]
    have e : (c - 32).toNat = c.toNat - 32 := UInt8.toNat_sub_of_le _ _ (by rw [UInt8.le_iff_toNat_le]; show 32 ≤ c.toNat; omega)
    unfold lowerB
    rw [if_pos (by omega), if_neg (by omega), UInt8.sub_add_cancel]
  · rw [if_neg h]
theorem lower_up (l : Tx) : lower (upperT l) = lower l := by
  unfold lower upperT
  rw [List.map_map]
  exact List.map_congr_left fun c _ => low_up c
theorem up_low (c : UInt8) : upB (lowerB c) = upB c := by
  unfold lowerB
  by_cases h : 65 ≤ c.toNat ∧ c.toNat ≤ 90
  · rw [if_pos h]
    have e : (c + 32).toNat = c.toNat + 32 := by rw [UInt8.toNat_add]; show (c.toNat + 32) % 256 = _; omega
    unfold upB
    rw [if_pos (by omega), if_neg (by omega), UInt8.add_sub_cancel]
  · rw [if_neg h]
theorem up_lower (l : Tx) : upperT (lower l) = upperT l := by
  unfold lower upperT
  rw [List.map_map]
  exact List.map_congr_left fun c _ => up_low c

def starT : Tx := [42]
def six : List Tx := [[71, 69, 84], [72, 69, 65, 68], [80, 79, 83, 84], [80, 85, 84], [68, 69, 76, 69, 84, 69], [79, 80, 84, 73, 79, 78, 83]]
def three : List Tx := [[71, 69, 84], [72, 69, 65, 68], [80, 79, 83, 84]]
def badM : List Tx := [[67, 79, 78, 78, 69, 67, 84], [84, 82, 65, 67, 69], [84, 82, 65, 67, 75]]
def methodN (s : Tx) : Tx := if upperT s ∈ six then upperT s else s
theorem up_six : ∀ y ∈ six, upperT y = y := by decide
theorem methodN_of (S y : Tx) (hy : y ∈ six) (h : (lower y == lower S) = true) : methodN S = y := by
  have e : upperT S = y := by rw [← up_lower S, ← eq_of_beq h, up_lower, up_six y hy]
  unfold methodN
  rw [e, if_pos hy]
theorem methodN_no (S : Tx) (h : ∀ y ∈ six, (lower y == lower S) = false) : methodN S = S := by
  unfold methodN
  split
  · rename_i h6
    have := h _ h6
    rw [lower_up] at this
    simp at this
  · rfl
theorem methodN_len (S : Tx) : (methodN S).length = S.length := by
  unfold methodN; split
  · exact upperT_len S
  · rfl
def simpleM (s : Tx) : Bool := decide (methodN s ∈ three)
def forbidN (s : Tx) : Bool := sameIn s badM || !token s
def preN (s : Tx) (l : List Fd) : Bool := !simpleM s || decide (0 < (unsafeN l).length)

theorem upper_take (s : ByteArray) (k : Nat) (h : k < s.size) : upperT ((toL s).take (k + 1)) = upperT ((toL s).take k) ++ [upB s[k]] := by
  rw [take_snoc s k h]; simp [upperT]

set_option maxHeartbeats 400000 in
theorem rupper_any (s : ByteArray) (w : World) (hs : s.size ≤ 1000000) :
    Calls Tryd.prog 36 #[.string s] w fun e w' => e = .returned (.string (ofL (upperT (toL s)))) ∧ Below w.heap.size w w' := by
  refine calls_gen fun R hR => ?_
  go_enter Tryd.func36, Tryd.ntmps36
  go_wp2
  go_loopw [3, 4, 5] (fun v i _ wr => ∃ k : Nat, k ≤ s.size ∧ i = .int .i64 k ∧ Own Rp.u8 5 wr (w.heap.size ≤ ·) (upperT ((toL s).take k)) v ∧ Below w.heap.size w wr) (fun _ i _ _ => s.size - (intOf i).toNat)
  case atStart => exact ⟨0, Nat.zero_le _, rfl, Own.nil _ _ _ _, Below.refl _ _⟩
  case round =>
    obtain ⟨k, hk, rfl, hown, hb⟩ := hrel
    have hbs := hb.size
    have hll : (upperT ((toL s).take k)).length ≤ 1000000 := by simp [upperT]; omega
    have hlow : ∀ h : k < s.size, upperT ((toL s).take (k + 1)) = upperT ((toL s).take k) ++ [upB s[k]] := upper_take s k
    have HL := Lib.hid hlow; clear hlow
    go_wp2_with (with_reducible (first | refine stop_append ?_ | refine stop_convert ?_))
    · have hlt : k < s.size := by assumption
      refine ⟨wp_append1_flat (y := upB s[k]) Tryd.underlying62 info5 rfl hown rfl rfl (u8_rep ?_) (by omega) (by decide) hbs ?_⟩
      · unfold upB; first | (rw [if_pos (by omega), UInt8.toNat_sub_of_le _ _ (by rw [UInt8.le_iff_toNat_le]; show 32 ≤ s[k].toNat; omega)]; show (s[k].toNat : Int) - 32 = ((s[k].toNat - 32 : Nat) : Int); omega) | rw [if_neg (by omega)]
      intro v1 w1 ho1 hb1 _ _
      have hb2 := hb.trans hb1
      go_wp2
      go_roundw
      case rel => exact ⟨k + 1, by omega, by go_num, by rw [HL.out hlt]; exact ho1, hb2⟩
      case measure => simp [intOf]; omega
    · have hlt : k < s.size := by assumption
      refine ⟨wp_append1_flat (y := upB s[k]) Tryd.underlying62 info5 rfl hown rfl rfl (u8_rep ?_) (by omega) (by decide) hbs ?_⟩
      · unfold upB; first | (rw [if_pos (by omega), UInt8.toNat_sub_of_le _ _ (by rw [UInt8.le_iff_toNat_le]; show 32 ≤ s[k].toNat; omega)]; show (s[k].toNat : Int) - 32 = ((s[k].toNat - 32 : Nat) : Int); omega) | rw [if_neg (by omega)]
      intro v1 w1 ho1 hb1 _ _
      have hb2 := hb.trans hb1
      go_wp2
      go_roundw
      case rel => exact ⟨k + 1, by omega, by go_num, by rw [HL.out hlt]; exact ho1, hb2⟩
      case measure => simp [intOf]; omega
    · have hlt : k < s.size := by assumption
      refine ⟨wp_append1_flat (y := upB s[k]) Tryd.underlying62 info5 rfl hown rfl rfl (u8_rep ?_) (by omega) (by decide) hbs ?_⟩
      · unfold upB; first | (rw [if_pos (by omega), UInt8.toNat_sub_of_le _ _ (by rw [UInt8.le_iff_toNat_le]; show 32 ≤ s[k].toNat; omega)]; show (s[k].toNat : Int) - 32 = ((s[k].toNat - 32 : Nat) : Int); omega) | rw [if_neg (by omega)]
      intro v1 w1 ho1 hb1 _ _
      have hb2 := hb.trans hb1
      go_wp2
      go_roundw
      case rel => exact ⟨k + 1, by omega, by go_num, by rw [HL.out hlt]; exact ho1, hb2⟩
      case measure => simp [intOf]; omega
    · obtain rfl : k = s.size := by omega
      refine ⟨wp_string Tryd.underlying62 Tryd.underlying5 Tryd.underlying9 hown.view ?_⟩
      go_wp2
      go_ret
      exact hR _ _ ⟨ret_str (by rw [take_all]), hb⟩

set_option maxHeartbeats 400000 in
theorem rmethod_any (s : ByteArray) (w : World) (hs : s.size ≤ 1000000) :
    Calls Tryd.prog 18 #[.string s] w fun e w' => e = .returned (.string (ofL (methodN (toL s)))) ∧ Below w.heap.size w w' := by
  refine calls_gen fun R hR => ?_
  go_enter Tryd.func18, Tryd.ntmps18
  go_wp2_with fail
  refine (rupper_any s w hs).mono ?_
  rintro e w1 ⟨rfl, hb1⟩
  have HB1 := Lib.hid hb1
  clear hb1
  have HMN : Hid (methodN (toL s) = if upperT (toL s) ∈ six then upperT (toL s) else toL s) := rfl
  obtain ⟨M, hM⟩ : ∃ M, methodN (toL s) = M := ⟨_, rfl⟩
  rw [hM] at HMN hR
  clear hM
  obtain ⟨U, hU⟩ : ∃ U, upperT (toL s) = U := ⟨_, rfl⟩
  rw [hU] at HMN ⊢
  have HUU := Lib.hid hU
  clear hU
  obtain ⟨UB, hUB⟩ : ∃ UB, ofL U = UB := ⟨_, rfl⟩
  have HUB := Lib.hid hUB
  rw [hUB]
  clear hUB
  go_wp2_with fail
  refine (rin_any UB six _ _ _ (texts_lit w1 six _ rfl (by decide) 6 rfl) (by decide)).mono ?_
  rintro e w2 ⟨rfl, hw2⟩
  have hb2 : Below w1.heap.size w1 w2 := hw2 ▸ below_new w1 _
  have HB2 := Lib.hid (HB1.out.trans (hb2.mono HB1.out.size))
  clear hw2 hb2
  rw [show toL UB = U by rw [← HUB.out, toL_ofL]]
  by_cases hin : U ∈ six
  · rw [if_pos hin] at HMN
    rw [decide_eq_true hin]
    clear hin
    go_wp2_with fail
    refine (rupper_any s w2 hs).mono ?_
    rintro e w3 ⟨rfl, hb3⟩
    go_wp2_with fail
    go_ret
    exact hR _ _ ⟨ret_str (by rw [HUU.out, HMN.out]), HB2.out.trans (hb3.mono HB2.out.size)⟩
  · rw [if_neg hin] at HMN
    rw [decide_eq_false hin]
    clear hin
    go_wp2_with fail
    go_ret
    exact hR _ _ ⟨ret_str (by rw [HMN.out, ofL_toL]), HB2.out⟩

set_option maxHeartbeats 1000000 in
theorem method_any (s : ByteArray) (w : World) (hs : s.size ≤ 1000000) :
    Calls Tryd.prog 17 #[.string s] w fun e w' => e = .returned (.string (ofL (methodN (toL s)))) ∧ Below w.heap.size w w' := by
  refine calls_gen fun R hR => ?_
  have HOF : Hid (∀ y ∈ six, (lower y == lower (toL s)) = true → methodN (toL s) = y) := Lib.hid fun y hy h => methodN_of _ y hy h
  have HNO : Hid ((∀ y ∈ six, (lower y == lower (toL s)) = false) → methodN (toL s) = toL s) := Lib.hid (methodN_no (toL s))
  obtain ⟨M, hM⟩ : ∃ M, methodN (toL s) = M := ⟨_, rfl⟩
  rw [hM] at HOF HNO hR
  clear hM
  go_enter Tryd.func17, Tryd.ntmps17
  go_wp2_with fail
  have hlv := texts_lit w six _ rfl (by decide) 6 rfl
  have hb0 := below_new w (.cells (six.map fun x => Value.string (ofL x)).toArray 9)
  obtain ⟨A, c, e, hc, hget⟩ := hlv.open1
  cases e
  have HG := Lib.hid hget; have HB0 := Lib.hid hb0
  clear hlv hb0 hget hc
  go_loopw [4, 7] (fun _ i wr => ∃ k : Nat, k ≤ 6 ∧ i = .int .i64 k ∧ (∀ y ∈ six.take k, (lower y == lower (toL s)) = false) ∧ Below (w.heap.size + 1) (w.alloc (.cells (six.map fun x => Value.string (ofL x)).toArray 9)) wr) (fun _ i _ => 6 - (intOf i).toNat)
  case atStart => exact ⟨0, by decide, rfl, by simp, Below.refl _ _⟩
  case round =>
    obtain ⟨k, hk, rfl, hno, hb⟩ := hrel
    have HB := Lib.hid hb; have HN := Lib.hid hno
    have hbs := hb.size
    rw [show ∀ o, (w.alloc o).heap.size = w.heap.size + 1 from fun o => by simp] at hbs
    clear hb hno
    by_cases hlt : k < 6
    · obtain ⟨b, off, e, hbl, hx⟩ := HG.out k hlt
      cases e
      obtain ⟨x, he⟩ : ∃ x, six[k]? = some x := ⟨_, List.getElem?_eq_getElem hlt⟩
      have d0 := (HB.out.cell (p := ⟨w.heap.size, 0 + k, none⟩) (Nat.lt_succ_self _)).trans (hx k x he)
      rw [Nat.zero_add] at d0
      have HXM := Lib.hid (List.mem_of_getElem? he)
      have HTK := Lib.hid (mem_take_succ six k x · he)
      have hgw : w.heap.size < wr.heap.size := by omega
      clear hx hbl he
      go_wp2_with fail
      refine (same_any (ofL x) s wr (by
        rw [ofL_size]
        have : ∀ y ∈ six, y.length ≤ 1000000 := by decide
        exact this x HXM.out) hs).mono ?_
      rintro e w1 ⟨rfl, hb1⟩
      rw [toL_ofL]
      have HB1 := Lib.hid (HB.out.trans (hb1.mono hbs))
      have d1 := (hb1.cell (p := ⟨w.heap.size, k, none⟩) hgw).trans d0
      have hgw1 := Nat.lt_of_lt_of_le hgw hb1.size
      clear hb1 d0
      cases hs1 : (lower x == lower (toL s)) with
      | true =>
        have HS := Lib.hid hs1
        clear hs1
        go_wp2_with fail
        go_ret
        exact hR _ _ ⟨ret_str (by rw [HOF.out x HXM.out HS.out]), HB0.out.trans (HB1.out.mono (Nat.le_succ _))⟩
      | false =>
        have HS := Lib.hid hs1
        clear hs1
        go_wp2_with fail
        go_roundw
        case rel =>
          refine ⟨k + 1, by omega, by go_num, fun y hy => ?_, HB1.out⟩
          rcases (HTK.out y).1 hy with h | rfl
          · exact HN.out y h
          · exact HS.out
        case measure => simp [intOf]; omega
    · obtain rfl : k = 6 := by omega
      have HE := Lib.hid (HNO.out fun y hy => HN.out y hy)
      go_wp2_with fail
      go_ret
      exact hR _ _ ⟨ret_str (by rw [HE.out, ofL_toL]), HB0.out.trans (HB.out.mono (Nat.le_succ _))⟩

theorem simpleM_any (s : ByteArray) (w : World) (hs : s.size ≤ 1000000) :
    Calls Tryd.prog 16 #[.string s] w fun e w' => e = .returned (.bool (simpleM (toL s))) ∧ Below w.heap.size w w' := by
  refine calls_gen fun R hR => ?_
  go_enter Tryd.func16, Tryd.ntmps16
  go_wp2_with fail
  refine (method_any s w hs).mono ?_
  rintro e w1 ⟨rfl, hb1⟩
  have HB1 := Lib.hid hb1
  clear hb1
  go_wp2_with fail
  refine (any_any _ three _ _ _ (texts_lit w1 three _ rfl (by decide) 3 rfl) (by decide)).mono ?_
  rintro e w2 ⟨rfl, hw2⟩
  have HB2 : Hid (Below w.heap.size w w2) := Lib.hid (HB1.out.trans ((hw2 ▸ below_new w1 _ : Below w1.heap.size w1 w2).mono HB1.out.size))
  clear hw2
  go_wp2_with fail
  go_ret
  exact hR _ _ ⟨ret_bool (by rw [toL_ofL]; rfl), HB2.out⟩
theorem rsimpleM_any (s : ByteArray) (w : World) (hs : s.size ≤ 1000000) :
    Calls Tryd.prog 21 #[.string s] w fun e w' => e = .returned (.bool (simpleM (toL s))) ∧ Below w.heap.size w w' := by
  refine calls_gen fun R hR => ?_
  go_enter Tryd.func21, Tryd.ntmps21
  go_wp2_with fail
  refine (rmethod_any s w hs).mono ?_
  rintro e w1 ⟨rfl, hb1⟩
  have HB1 := Lib.hid hb1
  clear hb1
  go_wp2_with fail
  refine (rin_any _ three _ _ _ (texts_lit w1 three _ rfl (by decide) 3 rfl) (by decide)).mono ?_
  rintro e w2 ⟨rfl, hw2⟩
  have HB2 : Hid (Below w.heap.size w w2) := Lib.hid (HB1.out.trans ((hw2 ▸ below_new w1 _ : Below w1.heap.size w1 w2).mono HB1.out.size))
  clear hw2
  go_wp2_with fail
  go_ret
  exact hR _ _ ⟨ret_bool (by rw [toL_ofL]; rfl), HB2.out⟩

theorem csame1_any (s F : ByteArray) (fb : Nat) (w : World) (hs : s.size ≤ 1000000) (hF : F.size ≤ 1000000) (hc : w.cell? ⟨fb, 0, none⟩ = some (.string F)) :
    Calls Tryd.prog 52 #[.string s, .pointer (some ⟨fb, 0, none⟩)] w fun e w' => e = .returned (.bool (lower (toL s) == lower (toL F))) ∧ Below w.heap.size w w' := by
  refine calls_gen fun R hR => ?_
  have hl := World.block_lt_of_cell? w ⟨fb, 0, none⟩ hc
  simp only at hl
  go_enter Tryd.func52, Tryd.ntmps52
  go_wp2_with fail
  refine (same_any s F w hs hF).mono ?_
  rintro e w1 ⟨rfl, hb1⟩
  go_wp2_with fail
  go_ret
  exact hR _ _ ⟨rfl, hb1⟩

theorem csame_any (s : ByteArray) (l : List Tx) (v : Value) (F : Nat → Prop) (w : World) (hv : View Rp.str w F l v) (hl : l.length ≤ 1000000) (hx : ∀ x ∈ l, x.length ≤ 1000000) (hs : s.size ≤ 1000000) :
    Calls Tryd.prog 31 #[.string s, v] w fun e w' => e = .returned (.bool (sameIn (toL s) l)) ∧ Below w.heap.size w w' := by
  refine calls_gen fun R hR => ?_
  have HX := Lib.hid hx; have HV := Lib.hid hv
  clear hx hv
  go_enter Tryd.func31, Tryd.ntmps31
  go_wp2_with fail
  have hb1 := below_new w (.cells #[.string s] 9)
  have g1 := blk_new w (.cells #[.string s] 9)
  refine (containsfunc_any 52 Tryd.call52 #[.pointer (some ⟨w.heap.size, 0, none⟩)] (fun n => lower n == lower (toL s)) l _ _ _ (HV.out.below hb1) (by omega) (fun w1 hw1 n hn => ?_)).mono ?_
  · have hc1 : w1.cell? ⟨w.heap.size, 0, none⟩ = some (.string s) := (hw1.cell (p := ⟨w.heap.size, 0, none⟩) (by simp)).trans (by rw [blk_cell g1]; rfl)
    have := csame1_any (ofL n) s w.heap.size w1 (by rw [ofL_size]; exact HX.out n hn) hs hc1
    rw [toL_ofL] at this
    exact this
  rintro e w2 ⟨rfl, hb2⟩
  have HB := Lib.hid (hb1.trans (hb2.mono (by simp)))
  clear hb1 hb2 g1
  go_wp2_with fail
  go_ret
  exact hR _ _ ⟨rfl, HB.out⟩

theorem forbid_any (s : ByteArray) (w : World) (hs : s.size ≤ 1000000) :
    Calls Tryd.prog 19 #[.string s] w fun e w' => e = .returned (.bool (forbidN (toL s))) ∧ Below w.heap.size w w' := by
  refine calls_gen fun R hR => ?_
  go_enter Tryd.func19, Tryd.ntmps19
  go_wp2_with fail
  refine (csame_any s badM _ _ _ (texts_lit w badM _ rfl (by decide) 3 rfl) (by decide) (by first | decide | exact hs) (by first | decide | exact hs)).mono ?_
  rintro e w1 ⟨rfl, hb1⟩
  have HB1 : Hid (Below w.heap.size w w1) := Lib.hid ((below_new w _).trans (hb1.mono (by simp)))
  clear hb1
  cases h1 : sameIn (toL s) badM with
  | true =>
    have H1 := Lib.hid h1; clear h1
    go_wp2_with fail
    go_ret
    exact hR _ _ ⟨ret_bool (by unfold forbidN; rw [H1.out]; rfl), HB1.out⟩
  | false =>
    have H1 := Lib.hid h1; clear h1
    go_wp2_with fail
    refine (token_any s w1 (by omega)).mono ?_
    rintro e w2 ⟨rfl, hw2⟩
    have HB2 : Hid (Below w.heap.size w w2) := Lib.hid (hw2 ▸ HB1.out)
    clear hw2
    go_wp2_with fail
    go_ret
    exact hR _ _ ⟨ret_bool (by unfold forbidN; rw [H1.out]; rfl), HB2.out⟩
theorem rforbid_any (s : ByteArray) (w : World) (hs : s.size ≤ 1000000) :
    Calls Tryd.prog 20 #[.string s] w fun e w' => e = .returned (.bool (forbidN (toL s))) ∧ Below w.heap.size w w' := by
  refine calls_gen fun R hR => ?_
  go_enter Tryd.func20, Tryd.ntmps20
  go_wp2_with fail
  refine (samein_any s badM _ _ _ (texts_lit w badM _ rfl (by decide) 3 rfl) (by decide) (by first | decide | exact hs) (by first | decide | exact hs)).mono ?_
  rintro e w1 ⟨rfl, hb1⟩
  have HB1 : Hid (Below w.heap.size w w1) := Lib.hid ((below_new w _).trans (hb1.mono (by simp)))
  clear hb1
  cases h1 : sameIn (toL s) badM with
  | true =>
    have H1 := Lib.hid h1; clear h1
    go_wp2_with fail
    go_ret
    exact hR _ _ ⟨ret_bool (by unfold forbidN; rw [H1.out]; rfl), HB1.out⟩
  | false =>
    have H1 := Lib.hid h1; clear h1
    go_wp2_with fail
    refine (rtoken_any s w1 (by omega)).mono ?_
    rintro e w2 ⟨rfl, hw2⟩
    have HB2 : Hid (Below w.heap.size w w2) := Lib.hid (hw2 ▸ HB1.out)
    clear hw2
    go_wp2_with fail
    go_ret
    exact hR _ _ ⟨ret_bool (by unfold forbidN; rw [H1.out]; rfl), HB2.out⟩

theorem pre_any (s : ByteArray) (l : List Fd) (v : Value) (F : Nat → Prop) (m : Int) (w : World) (hm : MaxLen m w) (hv : View fld w F l v) (hs : s.size ≤ 1000000) (hl : l.length ≤ 100000) (hx : ∀ x ∈ l, x.1.length ≤ 1000000 ∧ x.2.length ≤ 1000000) :
    Calls Tryd.prog 15 #[.string s, v] w fun e w' => e = .returned (.bool (preN (toL s) l)) ∧ Below w.heap.size w w' := by
  refine calls_gen fun R hR => ?_
  have HX := Lib.hid hx; have HV := Lib.hid hv; have HM := Lib.hid hm
  clear hx hv hm
  go_enter Tryd.func15, Tryd.ntmps15
  go_wp2_with fail
  refine (simpleM_any s w hs).mono ?_
  rintro e w1 ⟨rfl, hb1⟩
  have HB1 := Lib.hid hb1; have HV1 := Lib.hid (HV.out.below hb1); have HM1 := Lib.hid (HM.out.below hb1)
  clear hb1
  cases h1 : simpleM (toL s) with
  | false =>
    have H1 := Lib.hid h1; clear h1
    go_wp2_with fail
    go_ret
    exact hR _ _ ⟨ret_bool (by unfold preN; rw [H1.out]; rfl), HB1.out⟩
  | true =>
    have H1 := Lib.hid h1; clear h1
    go_wp2_with fail
    refine (unsafe_any l v F m w1 HV1.out hl HX.out HM1.out).mono ?_
    rintro e w2 ⟨r, rfl, ho, hb2⟩
    obtain ⟨A, c, rfl, hc⟩ := ho.slice
    have HB2 := Lib.hid (HB1.out.trans (hb2.mono HB1.out.size))
    clear ho hb2
    go_wp2_with fail
    go_ret
    exact hR _ _ ⟨ret_bool (by unfold preN; rw [H1.out]; simp), HB2.out⟩
theorem rpre_any (s : ByteArray) (l : List Fd) (v : Value) (F : Nat → Prop) (m : Int) (w : World) (hm : MaxLen m w) (hv : View fld w F l v) (hs : s.size ≤ 1000000) (hl : l.length ≤ 100000) (hx : ∀ x ∈ l, x.1.length ≤ 1000000 ∧ x.2.length ≤ 1000000) :
    Calls Tryd.prog 22 #[.string s, v] w fun e w' => e = .returned (.bool (preN (toL s) l)) ∧ Below w.heap.size w w' := by
  refine calls_gen fun R hR => ?_
  have HX := Lib.hid hx; have HV := Lib.hid hv; have HM := Lib.hid hm
  clear hx hv hm
  go_enter Tryd.func22, Tryd.ntmps22
  go_wp2_with fail
  refine (rsimpleM_any s w hs).mono ?_
  rintro e w1 ⟨rfl, hb1⟩
  have HB1 := Lib.hid hb1; have HV1 := Lib.hid (HV.out.below hb1); have HM1 := Lib.hid (HM.out.below hb1)
  clear hb1
  cases h1 : simpleM (toL s) with
  | false =>
    have H1 := Lib.hid h1; clear h1
    go_wp2_with fail
    go_ret
    exact hR _ _ ⟨ret_bool (by unfold preN; rw [H1.out]; rfl), HB1.out⟩
  | true =>
    have H1 := Lib.hid h1; clear h1
    go_wp2_with fail
    refine (runs_any l v F w1 HV1.out hl HX.out).mono ?_
    rintro e w2 ⟨r, rfl, ho, hb2⟩
    obtain ⟨A, c, rfl, hc⟩ := ho.slice
    have HB2 := Lib.hid (HB1.out.trans (hb2.mono HB1.out.size))
    clear ho hb2
    go_wp2_with fail
    go_ret
    exact hR _ _ ⟨ret_bool (by unfold preN; rw [H1.out]; simp), HB2.out⟩
end Go.Proofs.YtalbadmefpdldaaDoor.Asc
