/-
  The law parapetlaw27.AnswerLines answers true.
  The library's MaxLen is a number.
-/
import Derived.Test.YtilpaopkhghicaaDoorAnJ
namespace Go.Proofs.YtilpaopkhghicaaDoor.Asc
open Go Go.RowKit Go.Proofs.YtilpaopkhghicaaDoor.Pb

/-- how often 13 10 stands in a text -/
def crlf : List UInt8 → Nat
  | [] => 0
  | a :: r => (if (a :: r).take 2 == [13, 10] then 1 else 0) + crlf r
theorem crlf_cons (a : UInt8) (r : List UInt8) : crlf (a :: r) = (if (a :: r).take 2 == [13, 10] then 1 else 0) + crlf r := rfl
theorem crlf_free (a b : List UInt8) (h : (13 : UInt8) ∉ a) : crlf (a ++ b) = crlf b := by
  induction a with
  | nil => rfl
  | cons x a ih =>
    rw [List.cons_append, crlf_cons]
    rw [ih fun hx => h (List.mem_cons_of_mem _ hx)]
    have hx : x ≠ 13 := fun e => h (e ▸ List.mem_cons_self ..)
    rw [if_neg, Nat.zero_add]
    intro e
    rw [beq_iff_eq, List.take_succ_cons] at e
    exact hx (List.cons.inj e).1
theorem crlf_nl (b : List UInt8) : crlf ([13, 10] ++ b) = 1 + crlf b := by
  show crlf (13 :: 10 :: b) = _
  rw [crlf, crlf, if_pos (by simp), if_neg]
  · omega
  · intro e
    rw [beq_iff_eq, List.take_succ_cons] at e
    exact absurd (List.cons.inj e).1 (by decide)
def bare (f : Fd) : Prop := (13 : UInt8) ∉ f.1 ∧ (13 : UInt8) ∉ f.2
theorem crlf_line (f : Fd) (h : bare f) (b : List UInt8) : crlf (lineF f ++ b) = 1 + crlf b := by
  unfold lineF
  rw [List.append_assoc, List.append_assoc, List.append_assoc, crlf_free _ _ h.1, crlf_free _ _ (by decide), crlf_free _ _ h.2, crlf_nl]
theorem crlf_lines (l : List Fd) (h : ∀ f ∈ l, bare f) (b : List UInt8) : crlf (linesF l ++ b) = l.length + crlf b := by
  induction l with
  | nil => simp [linesF]
  | cons f l ih =>
    have e : linesF (f :: l) = lineF f ++ linesF l := by simp [linesF]
    rw [e, List.append_assoc, crlf_line f (h f (List.mem_cons_self ..)), ih fun g hg => h g (List.mem_cons_of_mem _ hg), List.length_cons]; omega
theorem crlf_drop (h : List UInt8) (k : Nat) (hk : k < h.length) : crlf (h.drop k) = (if (h.drop k).take 2 == [13, 10] then 1 else 0) + crlf (h.drop (k + 1)) := by
  rw [List.drop_eq_getElem_cons hk]; rfl
theorem crlf_short (h : List UInt8) (hl : h.length ≤ 1) : crlf h = 0 := by
  cases h with
  | nil => rfl
  | cons a r =>
    cases r with
    | nil => rw [crlf, crlf, if_neg]; intro e; rw [beq_iff_eq] at e; cases e
    | cons b r => simp at hl
theorem digs_bare (k : Nat) : ∀ n, (13 : UInt8) ∉ digs k n := by
  induction k with
  | zero => intro n; simp [digs]
  | succ k ih =>
    intro n
    unfold digs
    split
    · simp
    · intro h
      rcases List.mem_cons.1 h with h | h
      · have := congrArg UInt8.toNat h
        rw [UInt8.toNat_ofNat'] at this
        have h13 : (13 : UInt8).toNat = 13 := rfl
        omega
      · exact ih _ h
theorem decimal_bare (n : Int) : (13 : UInt8) ∉ decimal n := by
  unfold decimal
  intro h
  rcases List.mem_append.1 h with h | h
  · split at h <;> simp at h
  · rw [List.mem_reverse] at h
    rcases List.mem_cons.1 h with h | h
    · have := congrArg UInt8.toNat h
      rw [UInt8.toNat_ofNat'] at this
      have h13 : (13 : UInt8).toNat = 13 := rfl
      omega
    · exact digs_bare _ _ h
theorem status_bare (s : Int) : (13 : UInt8) ∉ statusN s := by
  unfold statusN
  repeat' split
  all_goals decide
/-- the law's own fields -/
def xtra (k : Nat) : List Fd := (List.range k).map fun i => ([88], [UInt8.ofNat (97 + i)])
theorem xtra_succ (k : Nat) : xtra (k + 1) = xtra k ++ [([88], [UInt8.ofNat (97 + k)])] := by
  unfold xtra; rw [List.range_succ, List.map_append]; rfl
theorem xtra_len (k : Nat) : (xtra k).length = k := by simp [xtra]
theorem xtra_size (k : Nat) (h : k ≤ 9) : fsize (xtra k) ≤ 6000 := by
  have : ∀ k, k < 10 → fsize (xtra k) ≤ 6000 := by decide
  exact this k (by omega)
theorem xtra_bare (k : Nat) (h : k ≤ 9) : ∀ f ∈ xtra k, bare f := by
  intro f hf
  unfold xtra at hf
  obtain ⟨i, hi, rfl⟩ := List.mem_map.1 hf
  rw [List.mem_range] at hi
  refine ⟨by show (13 : UInt8) ∉ [88]; decide, fun e => ?_⟩
  rw [List.mem_singleton] at e
  have := congrArg UInt8.toNat e
  rw [UInt8.toNat_ofNat'] at this
  have h13 : (13 : UInt8).toNat = 13 := rfl
  omega
/-- what stands ahead of an answer's body -/
def headOf (st : Int) (b : List UInt8) (c : Bool) (l : List Fd) : List UInt8 :=
  (([72, 84, 84, 80, 47, 49, 46, 49, 32] ++ decimal st ++ [32]) ++ statusN st) ++ ([13, 10] ++ (linesF (extraN l b.length c) ++ [13, 10]))
theorem answer_head (st : Int) (b : List UInt8) (c : Bool) (l : List Fd) : answerN st b c l = headOf st b c l ++ b := by
  unfold answerN headOf
  simp only [List.append_assoc]
theorem head_crlf (st : Int) (b : List UInt8) (c : Bool) (k : Nat) (hk : k ≤ 9) : crlf (headOf st b c (xtra k)) = 3 + k + (if c then 1 else 0) := by
  unfold headOf
  rw [crlf_free, crlf_nl, crlf_lines]
  · rw [show ([13, 10] : List UInt8) = [13, 10] ++ [] from rfl, crlf_nl]
    unfold extraN
    rw [List.length_append, List.length_append, xtra_len]
    cases c <;> simp [crlf] <;> omega
  · intro f hf
    unfold extraN at hf
    rcases List.mem_append.1 hf with hf | hf
    · rcases List.mem_append.1 hf with hf | hf
      · exact xtra_bare k hk f hf
      · rw [List.mem_singleton] at hf
        subst hf
        exact ⟨by show (13 : UInt8) ∉ wLen; decide, decimal_bare _⟩
    · cases c
      · cases hf
      · rw [if_pos rfl, List.mem_singleton] at hf
        subst hf
        exact ⟨by decide, by decide⟩
  · intro h
    rcases List.mem_append.1 h with h | h
    · rcases List.mem_append.1 h with h | h
      · rcases List.mem_append.1 h with h | h
        · exact absurd h (by decide)
        · exact decimal_bare _ h
      · exact absurd h (by decide)
    · exact status_bare _ h
theorem head_ends (st : Int) (b : List UInt8) (c : Bool) (l : List Fd) : ∃ z, headOf st b c l = z ++ [13, 10, 13, 10] := by
  have h : ∀ (X : List Fd) (f : Fd), ∃ z, linesF (X ++ [f]) = z ++ [13, 10] := fun X f => ⟨linesF X ++ ((f.1 ++ [58, 32]) ++ f.2), by simp [linesF, lineF]⟩
  have h2 : ∃ z, linesF (extraN l b.length c) = z ++ [13, 10] := by
    unfold extraN
    cases c
    · rw [if_neg (by decide), List.append_nil]; exact h _ _
    · rw [if_pos rfl]; exact h _ _
  obtain ⟨z, hz⟩ := h2
  refine ⟨([72, 84, 84, 80, 47, 49, 46, 49, 32] ++ decimal st ++ [32]) ++ statusN st ++ ([13, 10] ++ z), ?_⟩
  unfold headOf
  rw [hz]
  simp only [List.append_assoc]; rfl
theorem head_len (st : Int) (b : List UInt8) (c : Bool) (k : Nat) (hk : k ≤ 9) : (headOf st b c (xtra k)).length ≤ 30000 := by
  have h1 := statusN_len st
  have h2 := decimal_lenB st
  have h3 := linesF_le (extraN (xtra k) b.length c) (extraN (xtra k) b.length c).length
  rw [List.take_length] at h3
  have h4 := extraN_size (xtra k) b.length c (xtra_size k hk)
  unfold fsize at h4
  unfold headOf
  simp only [List.length_append, List.length_cons, List.length_nil]
  omega

set_option maxRecDepth 20000 in
set_option maxHeartbeats 8000000 in
theorem lines_walk (st : Int) (B : ByteArray) (c : Bool) (n : Int) (m : Int) (w : World) (hm : MaxLen m w) :
    Calls Tryd.prog 7 #[.int .i64 st, .string B, .bool c, .int .i64 n] w fun e w' => e = .returned (.bool true) ∧ Below w.heap.size w w' := by
  refine calls_gen fun R hR => ?_
  have HM := Lib.hid hm
  clear hm
  by_cases g0 : (B.size : Int) > 3000
  · go_enter Tryd.func7, Tryd.ntmps7
    go_wp2_with fail
    refine (awake_any w m HM.out).mono ?_
    rintro e w3 ⟨rfl, hb3⟩
    go_wp2_with fail
    go_ret
    exact hR _ _ ⟨rfl, hb3⟩
  by_cases g1 : n < 0
  · go_enter Tryd.func7, Tryd.ntmps7
    go_wp2_with fail
    refine (awake_any w m HM.out).mono ?_
    rintro e w3 ⟨rfl, hb3⟩
    go_wp2_with fail
    go_ret
    exact hR _ _ ⟨rfl, hb3⟩
  by_cases g2 : n > 9
  · go_enter Tryd.func7, Tryd.ntmps7
    go_wp2_with fail
    refine (awake_any w m HM.out).mono ?_
    rintro e w3 ⟨rfl, hb3⟩
    go_wp2_with fail
    go_ret
    exact hR _ _ ⟨rfl, hb3⟩
  by_cases g3 : st < 100
  · go_enter Tryd.func7, Tryd.ntmps7
    go_wp2_with fail
    refine (awake_any w m HM.out).mono ?_
    rintro e w3 ⟨rfl, hb3⟩
    go_wp2_with fail
    go_ret
    exact hR _ _ ⟨rfl, hb3⟩
  by_cases g4 : st > 999
  · go_enter Tryd.func7, Tryd.ntmps7
    go_wp2_with fail
    refine (awake_any w m HM.out).mono ?_
    rintro e w3 ⟨rfl, hb3⟩
    go_wp2_with fail
    go_ret
    exact hR _ _ ⟨rfl, hb3⟩
  obtain ⟨n, rfl⟩ := Int.eq_ofNat_of_zero_le (show 0 ≤ n by omega)
  have hn : n ≤ 9 := by omega
  go_enter Tryd.func7, Tryd.ntmps7
  go_wp2_with fail
  go_loopw [9, 10] (fun v i wr => ∃ k : Nat, k ≤ n ∧ i = .int .i64 k ∧ Own fld 42 wr (fun b => w.heap.size ≤ b) (xtra k) v ∧ Below w.heap.size w wr) (fun _ i _ => n - (intOf i).toNat)
  case atStart => exact ⟨0, by omega, rfl, Own.nil _ _ _ _, Below.refl _ _⟩
  case round =>
    obtain ⟨k, hk, rfl, ho, hb⟩ := hrel
    obtain ⟨A, cA, rfl, hcA⟩ := ho.slice
    have HO := Lib.hid ho; have HB := Lib.hid hb
    clear ho hb
    by_cases hlt : k < n
    · go_wp2_with (with_reducible (first | refine stop_convert (s := 33) (t := 9) ?_))
      have hrow : RowAt (wr.alloc (.cells #[.int .u8 (97 + (k : Int))] 5)) wr.heap.size 5 (0, 0) (([UInt8.ofNat (97 + k)] : List UInt8).map u8v) := ⟨_, blk_new wr _, by
        have h1 : (UInt8.ofNat (97 + k)).toNat = 97 + k := by rw [UInt8.toNat_ofNat']; omega
        simp [u8v]; omega⟩
      have hv : View Rp.u8 (wr.alloc (.cells #[.int .u8 (97 + (k : Int))] 5)) (fun _ => True) [UInt8.ofNat (97 + k)] (.slice (some ⟨wr.heap.size, 0, none⟩) 1 1) := hrow.view (h1 := fun _ => rfl) (F := fun _ => True) (c := 1) (by simp) trivial
      obtain ⟨w1, hw1⟩ : ∃ w1, wr.alloc (.cells #[.int .u8 (97 + (k : Int))] 5) = w1 := ⟨_, rfl⟩
      have hb1 : Below wr.heap.size wr w1 := hw1 ▸ below_new wr _
      rw [hw1] at hv ⊢
      have HB1 := Lib.hid (HB.out.trans (hb1.mono HB.out.size))
      have HO1 := Lib.hid (HO.out.bnd.below hb1)
      clear hrow hw1
      refine ⟨wp_string Tryd.underlying33 Tryd.underlying5 Tryd.underlying9 hv ?_⟩
      obtain ⟨U, hU⟩ : ∃ U, ofL [UInt8.ofNat (97 + k)] = U := ⟨_, rfl⟩
      have HU : Hid (toL U = [UInt8.ofNat (97 + k)]) := Lib.hid (by rw [← hU, toL_ofL])
      rw [hU]
      have hws := hb1.size
      clear hv hU hb1
      go_wp2_with (with_reducible (first | refine stop_append ?_))
      refine ⟨wp_append1 (r := fld) (F := fun b => w.heap.size ≤ b ∧ b < wr.heap.size) (G := fun _ => False) (y := ([88], [UInt8.ofNat (97 + k)])) Tryd.underlying23 infoF rfl (by decide) HO1.out rfl rfl (fl_rep _ _ _ _ rfl HU.out) (fun k h => h.elim) (by rw [xtra_len]; omega) (by decide) ?_⟩
      intro v2 w2 ho2 hk2 _ hp2
      rw [← xtra_succ] at ho2
      have HB2 : Hid (Below w.heap.size w w2) := Lib.hid (HB1.out.trans (hk2.below HB1.out.size fun i hi e => by
        obtain ⟨cells, _, h2, _⟩ := HO1.out
        have := (h2 i e.symm).1; omega))
      have HO2 : Hid (Own fld 42 w2 (fun k => w.heap.size ≤ k) (xtra (k + 1)) v2) := Lib.hid (ho2.fields fun k hk => by
        rcases hp2 with h | ⟨j, h, hj⟩
        · rw [h] at hk
          obtain ⟨cells, _, h2, _⟩ := HO1.out
          exact (h2 k hk).1
        · rw [h] at hk; cases hk; have := HB1.out.size; omega)
      clear ho2 hk2 hp2 HO1
      go_wp2_with fail
      go_roundw
      case rel => exact ⟨k + 1, by omega, by go_num, HO2.out, HB2.out⟩
      case measure => simp [intOf]; omega
    · obtain rfl : k = n := by omega
      have hxs := xtra_size k hn
      go_wp2_with fail
      refine (write_any wr st (by omega) (by omega) B (by omega) c (xtra k) _ _ HO.out.view hxs).mono ?_
      rintro e w2 ⟨v2, rfl, hv2, hb2⟩
      have HB2 := Lib.hid (HB.out.trans (hb2.mono HB.out.size))
      clear hb2 hxs HO hcA
      go_wp2_with (with_reducible (first | refine stop_convert ?_))
      refine ⟨wp_string Tryd.underlying33 Tryd.underlying5 Tryd.underlying9 hv2 ?_⟩
      obtain ⟨H, hH⟩ : ∃ H, ofL (headOf st (toL B) c (xtra k)) = H := ⟨_, rfl⟩
      have HH : Hid (toL H = headOf st (toL B) c (xtra k)) := Lib.hid (by rw [← hH, toL_ofL])
      obtain ⟨S, hS⟩ : ∃ S, ofL (answerN st (toL B) c (xtra k)) = S := ⟨_, rfl⟩
      have HS : Hid (S = H ++ B) := Lib.hid (by apply toL_inj; rw [← hS, ← hH, answer_head, toL_cat, toL_ofL, toL_ofL])
      have hhs : H.size ≤ 30000 := by rw [← hH, ofL_size]; exact head_len _ _ _ _ hn
      rw [hS]
      clear hv2 hH hS
      have HSZ : Hid (S.size = H.size + B.size) := Lib.hid (by rw [HS.out, ByteArray.size_append])
      have HC : Hid (crlf (toL H) = 3 + k + (if c then 1 else 0)) := Lib.hid (by rw [HH.out]; exact head_crlf _ _ _ _ hn)
      obtain ⟨z, hz⟩ := head_ends st (toL B) c (xtra k)
      have HZ : Hid (toL H = z ++ [13, 10, 13, 10]) := Lib.hid (HH.out.trans hz)
      have h4 : 4 ≤ H.size := by rw [← toL_len, HZ.out]; simp
      clear hz
      have i0 : (B.size : Int) ≤ (S.size : Int) := by have := HSZ.out; omega
      have i1 : (0 : Int) ≤ (S.size : Int) - (B.size : Int) := by omega
      have i2 : (S.size : Int) - (B.size : Int) ≤ (S.size : Int) := by omega
      have i3 : ((S.size : Int) - (B.size : Int)).toNat = S.size - B.size := by omega
      have i4 : S.size ≤ 40000 := by have := HSZ.out; omega
      have e1 : S.extract (S.size - B.size) S.size = B := by
        rw [extract_cut]
        apply toL_inj
        rw [toL_ofL, HSZ.out, HS.out, toL_cat]
        unfold cut
        rw [List.take_of_length_le (by rw [List.length_append, toL_len, toL_len]; omega), show H.size + B.size - B.size = (toL H).length by rw [toL_len]; omega, List.drop_left]
      have e2 : S.extract 0 (S.size - B.size) = H := by
        rw [extract_cut]
        apply toL_inj
        rw [toL_ofL, HSZ.out, HS.out, toL_cat]
        unfold cut
        rw [show H.size + B.size - B.size = (toL H).length by rw [toL_len]; omega, List.drop_zero, List.take_left]
      go_upto_region 12 with fail
      have e3 : (H.extract (H.size - 4) H.size).toList = [13, 10, 13, 10] := by
        rw [extract_cut, toList_ofL]
        unfold cut
        rw [List.take_of_length_le (by rw [toL_len]; omega), show H.size - 4 = z.length by rw [← toL_len, HZ.out]; simp, HZ.out, List.drop_left]
      have j1 : (0 : Int) ≤ (H.size : Int) - 4 := by omega
      have j2 : (H.size : Int) - 4 ≤ (H.size : Int) := by omega
      have j3 : ((H.size : Int) - 4).toNat = H.size - 4 := by omega
      have j4 : (4 : Int) ≤ (H.size : Int) := by omega
      clear e1 e2 i0 i1 i2 i3
      go_upto_region 14 with fail
      clear e3 j1 j2 j3
      go_wp2_with fail
      go_loopw [13, 14] (fun c i wy => ∃ p j : Nat, p ≤ H.size ∧ i = .int .i64 p ∧ c = .int .i64 j ∧ j + crlf ((toL H).drop p) = crlf (toL H) ∧ j ≤ p ∧ wy = w2) (fun _ i _ => H.size - (intOf i).toNat)
      case atStart => exact ⟨0, 0, by omega, rfl, rfl, by simp, Nat.le_refl _, rfl⟩
      case round =>
        obtain ⟨p, j, hp, rfl, rfl, hj, hjp, hw⟩ := hrel
        rw [hw]
        have HJ := Lib.hid hj
        clear hj hw
        by_cases hlt : p + 1 < H.size
        · have q1 : (p : Int) + 1 < (H.size : Int) := by omega
          have q2 : ((p : Int) + 2).toNat = p + 2 := by omega
          have q3 : (p : Int) + 2 ≤ (H.size : Int) := by omega
          have q4 : (0 : Int) ≤ (p : Int) := by omega
          have q5 : (0 : Int) ≤ (p : Int) + 2 := by omega
          have q6 : (p : Int) ≤ (p : Int) + 2 := by omega
          have HX : Hid ((H.extract p (p + 2)).toList = ((toL H).drop p).take 2) := Lib.hid (by
            rw [extract_cut, toList_ofL]; unfold cut; rw [List.drop_take]; congr 1; omega)
          have HCD := Lib.hid (crlf_drop (toL H) p (by rw [toL_len]; omega))
          cases ht : ((H.extract p (p + 2)).toList == [13, 10]) with
          | true =>
            have HT : Hid (crlf ((toL H).drop p) = 1 + crlf ((toL H).drop (p + 1))) := Lib.hid (by rw [HCD.out, ← HX.out, ht]; rfl)
            go_wp2_with fail
            go_roundw
            case rel => exact ⟨p + 1, j + 1, by omega, by go_num, by go_num, by have := HT.out; have := HJ.out; omega, by omega, trivial⟩
            case measure => simp [intOf]; omega
          | false =>
            have HT : Hid (crlf ((toL H).drop p) = crlf ((toL H).drop (p + 1))) := Lib.hid (by rw [HCD.out, ← HX.out, ht]; simp)
            go_wp2_with fail
            go_roundw
            case rel => exact ⟨p + 1, j, by omega, by go_num, rfl, by have := HT.out; have := HJ.out; omega, by omega, trivial⟩
            case measure => simp [intOf]; omega
        · have HT : Hid (j = 3 + k + (if c then 1 else 0)) := Lib.hid (by
            have := crlf_short ((toL H).drop p) (by rw [List.length_drop, toL_len]; omega)
            have h1 := HJ.out
            have h2 := HC.out
            omega)
          have q1 : ¬ (p : Int) + 1 < (H.size : Int) := by omega
          have HM2 := Lib.hid (HM.out.below HB2.out)
          cases c
          · have t1 : (j : Int) = 3 + (k : Int) := by have := HT.out; simp at this; omega
            go_wp2_with fail
            refine (awake_any w2 m HM2.out).mono ?_
            rintro e w3 ⟨rfl, hb3⟩
            go_wp2_with fail
            go_ret
            exact hR _ _ ⟨rfl, HB2.out.trans (hb3.mono HB2.out.size)⟩
          · have t1 : (j : Int) = 3 + (k : Int) + 1 := by have := HT.out; simp at this; omega
            go_wp2_with fail
            refine (awake_any w2 m HM2.out).mono ?_
            rintro e w3 ⟨rfl, hb3⟩
            go_wp2_with fail
            go_ret
            exact hR _ _ ⟨rfl, HB2.out.trans (hb3.mono HB2.out.size)⟩

theorem lines_row {w : World} (st : Int) (_ : -9223372036854775808 ≤ st) (_ : st ≤ 9223372036854775807) (b : ByteArray) (_ : b.size ≤ 140737488351232) (c : Bool) (n : Int) (_ : -9223372036854775808 ≤ n) (_ : n ≤ 9223372036854775807) (m : Int) (hm : MaxLen m w) :
    Calls Tryd.prog 7 #[.int .i64 st, .string b, .bool c, .int .i64 n] w fun e w' => e = .returned (.bool true) ∧ Below w.heap.size w w' := lines_walk st b c n m w hm
end Go.Proofs.YtilpaopkhghicaaDoor.Asc
