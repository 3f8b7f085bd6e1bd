/-
  Contracts: what a status says, an answer's bytes.
  Lengths within the rows' own reach.
-/
import Derived.Test.YtilpaopkhghicaaDoorAnH
namespace Go.Proofs.YtilpaopkhghicaaDoor.Asc
open Go Go.RowKit Go.Proofs.YtilpaopkhghicaaDoor.Pb

/-- what a status says -/
def statusN (s : Int) : List UInt8 :=
  if s == 200 then [79, 75]
  else if s == 400 then [66, 97, 100, 32, 82, 101, 113, 117, 101, 115, 116]
  else if s == 404 then [78, 111, 116, 32, 70, 111, 117, 110, 100]
  else if s == 405 then [77, 101, 116, 104, 111, 100, 32, 78, 111, 116, 32, 65, 108, 108, 111, 119, 101, 100]
  else if s == 413 then [67, 111, 110, 116, 101, 110, 116, 32, 84, 111, 111, 32, 76, 97, 114, 103, 101]
  else if s == 422 then [85, 110, 112, 114, 111, 99, 101, 115, 115, 97, 98, 108, 101, 32, 67, 111, 110, 116, 101, 110, 116]
  else if s == 431 then [82, 101, 113, 117, 101, 115, 116, 32, 72, 101, 97, 100, 101, 114, 32, 70, 105, 101, 108, 100, 115, 32, 84, 111, 111, 32, 76, 97, 114, 103, 101]
  else if s == 501 then [78, 111, 116, 32, 73, 109, 112, 108, 101, 109, 101, 110, 116, 101, 100]
  else if s == 503 then [83, 101, 114, 118, 105, 99, 101, 32, 85, 110, 97, 118, 97, 105, 108, 97, 98, 108, 101]
  else []
theorem statusN_len (s : Int) : (statusN s).length ≤ 40 := by
  unfold statusN
  repeat' split
  all_goals decide
def lineF (f : Fd) : List UInt8 := (f.1 ++ [58, 32]) ++ f.2 ++ [13, 10]
def linesF (l : List Fd) : List UInt8 := (l.map lineF).flatten
def wLen : List UInt8 := [67, 111, 110, 116, 101, 110, 116, 45, 76, 101, 110, 103, 116, 104]
def wCon : List UInt8 := [67, 111, 110, 110, 101, 99, 116, 105, 111, 110]
def wClose : List UInt8 := [99, 108, 111, 115, 101]
/-- the fields of an answer -/
def extraN (l : List Fd) (n : Nat) (c : Bool) : List Fd := (l ++ [(wLen, decimal n)]) ++ (if c then [(wCon, wClose)] else [])
/-- an answer's bytes -/
def answerN (st : Int) (b : List UInt8) (c : Bool) (l : List Fd) : List UInt8 :=
  (((([72, 84, 84, 80, 47, 49, 46, 49, 32] ++ decimal st ++ [32]) ++ statusN st) ++ [13, 10]) ++ linesF (extraN l b.length c) ++ [13, 10]) ++ b
theorem linesF_succ (l : List Fd) (k : Nat) (x : Fd) (h : l[k]? = some x) : linesF (l.take (k + 1)) = linesF (l.take k) ++ lineF x := by
  unfold linesF; rw [List.take_add_one, h]; simp
theorem linesF_le (l : List Fd) (k : Nat) : (linesF (l.take k)).length ≤ 4 * fsizeAt l k := by
  induction k with
  | zero => simp [linesF]
  | succ k ih =>
    cases h : l[k]? with
    | some x =>
      have hf : (linesF (l.take (k + 1))).length ≤ 4 * (k + 1) + 4 * ((l.take (k + 1)).map fun x => x.1.length + x.2.length).sum := by
        clear ih h
        generalize k + 1 = j
        induction j with
        | zero => simp [linesF]
        | succ j ih =>
          cases hj : l[j]? with
          | some y =>
            rw [linesF_succ l j y hj, List.take_add_one, hj]
            simp [lineF] at ih ⊢; omega
          | none => rw [List.take_add_one, hj]; simp at ih ⊢; omega
      have := (List.getElem?_eq_some_iff.1 h).1
      unfold fsizeAt; omega
    | none =>
      have := fsizeAt_mono l k
      rw [List.take_add_one, h]; simp; omega
theorem extraN_size (l : List Fd) (n : Nat) (c : Bool) (h : fsize l ≤ 6000) : fsize (extraN l n c) ≤ 6100 := by
  have hd := decimal_lenB n
  unfold fsize fsizeAt extraN at *
  rw [List.take_length] at *
  cases c <;> simp [wLen, wCon, wClose] at h ⊢ <;> omega


set_option maxHeartbeats 2000000 in
set_option maxRecDepth 20000 in
theorem reasonA_any (w : World) (s : Int) :
    Calls Tryd.prog 23 #[.int .i64 s] w fun e w' => e = .returned (.string (ofL (statusN s))) ∧ w' = w := by
  refine calls_gen fun R hR => ?_
  go_enter Tryd.func23, Tryd.ntmps23
  cases k0 : (s == 200) with
  | true =>
    have hq : statusN s = [79, 75] := by
      unfold statusN; rw [if_pos k0]
    rw [hq] at hR
    clear hq
    go_wp2_with fail
    go_ret
    exact hR _ _ ⟨rfl, rfl⟩
  | false =>
    cases k1 : (s == 400) with
    | true =>
      have hq : statusN s = [66, 97, 100, 32, 82, 101, 113, 117, 101, 115, 116] := by
        unfold statusN; rw [if_neg (by rw [k0]; decide), if_pos k1]
      rw [hq] at hR
      clear hq
      go_wp2_with fail
      go_ret
      exact hR _ _ ⟨rfl, rfl⟩
    | false =>
      cases k2 : (s == 404) with
      | true =>
        have hq : statusN s = [78, 111, 116, 32, 70, 111, 117, 110, 100] := by
          unfold statusN; rw [if_neg (by rw [k0]; decide), if_neg (by rw [k1]; decide), if_pos k2]
        rw [hq] at hR
        clear hq
        go_wp2_with fail
        go_ret
        exact hR _ _ ⟨rfl, rfl⟩
      | false =>
        cases k3 : (s == 405) with
        | true =>
          have hq : statusN s = [77, 101, 116, 104, 111, 100, 32, 78, 111, 116, 32, 65, 108, 108, 111, 119, 101, 100] := by
            unfold statusN; rw [if_neg (by rw [k0]; decide), if_neg (by rw [k1]; decide), if_neg (by rw [k2]; decide), if_pos k3]
          rw [hq] at hR
          clear hq
          go_wp2_with fail
          go_ret
          exact hR _ _ ⟨rfl, rfl⟩
        | false =>
          cases k4 : (s == 413) with
          | true =>
            have hq : statusN s = [67, 111, 110, 116, 101, 110, 116, 32, 84, 111, 111, 32, 76, 97, 114, 103, 101] := by
              unfold statusN; rw [if_neg (by rw [k0]; decide), if_neg (by rw [k1]; decide), if_neg (by rw [k2]; decide), if_neg (by rw [k3]; decide), if_pos k4]
            rw [hq] at hR
            clear hq
            go_wp2_with fail
            go_ret
            exact hR _ _ ⟨rfl, rfl⟩
          | false =>
            cases k5 : (s == 422) with
            | true =>
              have hq : statusN s = [85, 110, 112, 114, 111, 99, 101, 115, 115, 97, 98, 108, 101, 32, 67, 111, 110, 116, 101, 110, 116] := by
                unfold statusN; rw [if_neg (by rw [k0]; decide), if_neg (by rw [k1]; decide), if_neg (by rw [k2]; decide), if_neg (by rw [k3]; decide), if_neg (by rw [k4]; decide), if_pos k5]
              rw [hq] at hR
              clear hq
              go_wp2_with fail
              go_ret
              exact hR _ _ ⟨rfl, rfl⟩
            | false =>
              cases k6 : (s == 431) with
              | true =>
                have hq : statusN s = [82, 101, 113, 117, 101, 115, 116, 32, 72, 101, 97, 100, 101, 114, 32, 70, 105, 101, 108, 100, 115, 32, 84, 111, 111, 32, 76, 97, 114, 103, 101] := by
                  unfold statusN; rw [if_neg (by rw [k0]; decide), if_neg (by rw [k1]; decide), if_neg (by rw [k2]; decide), if_neg (by rw [k3]; decide), if_neg (by rw [k4]; decide), if_neg (by rw [k5]; decide), if_pos k6]
                rw [hq] at hR
                clear hq
                go_wp2_with fail
                go_ret
                exact hR _ _ ⟨rfl, rfl⟩
              | false =>
                cases k7 : (s == 501) with
                | true =>
                  have hq : statusN s = [78, 111, 116, 32, 73, 109, 112, 108, 101, 109, 101, 110, 116, 101, 100] := by
                    unfold statusN; rw [if_neg (by rw [k0]; decide), if_neg (by rw [k1]; decide), if_neg (by rw [k2]; decide), if_neg (by rw [k3]; decide), if_neg (by rw [k4]; decide), if_neg (by rw [k5]; decide), if_neg (by rw [k6]; decide), if_pos k7]
                  rw [hq] at hR
                  clear hq
                  go_wp2_with fail
                  go_ret
                  exact hR _ _ ⟨rfl, rfl⟩
                | false =>
                  cases k8 : (s == 503) with
                  | true =>
                    have hq : statusN s = [83, 101, 114, 118, 105, 99, 101, 32, 85, 110, 97, 118, 97, 105, 108, 97, 98, 108, 101] := by
                      unfold statusN; rw [if_neg (by rw [k0]; decide), if_neg (by rw [k1]; decide), if_neg (by rw [k2]; decide), if_neg (by rw [k3]; decide), if_neg (by rw [k4]; decide), if_neg (by rw [k5]; decide), if_neg (by rw [k6]; decide), if_neg (by rw [k7]; decide), if_pos k8]
                    rw [hq] at hR
                    clear hq
                    go_wp2_with fail
                    go_ret
                    exact hR _ _ ⟨rfl, rfl⟩
                  | false =>
                    have hq : statusN s = [] := by
                      unfold statusN; rw [if_neg (by rw [k0]; decide), if_neg (by rw [k1]; decide), if_neg (by rw [k2]; decide), if_neg (by rw [k3]; decide), if_neg (by rw [k4]; decide), if_neg (by rw [k5]; decide), if_neg (by rw [k6]; decide), if_neg (by rw [k7]; decide), if_neg (by rw [k8]; decide)]
                    rw [hq] at hR
                    clear hq
                    go_wp2_with fail
                    go_ret
                    exact hR _ _ ⟨rfl, rfl⟩

set_option maxHeartbeats 2000000 in
set_option maxRecDepth 20000 in
theorem reasonB_any (w : World) (s : Int) :
    Calls Tryd.prog 24 #[.int .i64 s] w fun e w' => e = .returned (.string (ofL (statusN s))) ∧ w' = w := by
  refine calls_gen fun R hR => ?_
  go_enter Tryd.func24, Tryd.ntmps24
  cases k0 : (s == 200) with
  | true =>
    have hq : statusN s = [79, 75] := by
      unfold statusN; rw [if_pos k0]
    rw [hq] at hR
    clear hq
    go_wp2_with fail
    go_ret
    exact hR _ _ ⟨rfl, rfl⟩
  | false =>
    cases k1 : (s == 400) with
    | true =>
      have hq : statusN s = [66, 97, 100, 32, 82, 101, 113, 117, 101, 115, 116] := by
        unfold statusN; rw [if_neg (by rw [k0]; decide), if_pos k1]
      rw [hq] at hR
      clear hq
      go_wp2_with fail
      go_ret
      exact hR _ _ ⟨rfl, rfl⟩
    | false =>
      cases k2 : (s == 404) with
      | true =>
        have hq : statusN s = [78, 111, 116, 32, 70, 111, 117, 110, 100] := by
          unfold statusN; rw [if_neg (by rw [k0]; decide), if_neg (by rw [k1]; decide), if_pos k2]
        rw [hq] at hR
        clear hq
        go_wp2_with fail
        go_ret
        exact hR _ _ ⟨rfl, rfl⟩
      | false =>
        cases k3 : (s == 405) with
        | true =>
          have hq : statusN s = [77, 101, 116, 104, 111, 100, 32, 78, 111, 116, 32, 65, 108, 108, 111, 119, 101, 100] := by
            unfold statusN; rw [if_neg (by rw [k0]; decide), if_neg (by rw [k1]; decide), if_neg (by rw [k2]; decide), if_pos k3]
          rw [hq] at hR
          clear hq
          go_wp2_with fail
          go_ret
          exact hR _ _ ⟨rfl, rfl⟩
        | false =>
          cases k4 : (s == 413) with
          | true =>
            have hq : statusN s = [67, 111, 110, 116, 101, 110, 116, 32, 84, 111, 111, 32, 76, 97, 114, 103, 101] := by
              unfold statusN; rw [if_neg (by rw [k0]; decide), if_neg (by rw [k1]; decide), if_neg (by rw [k2]; decide), if_neg (by rw [k3]; decide), if_pos k4]
            rw [hq] at hR
            clear hq
            go_wp2_with fail
            go_ret
            exact hR _ _ ⟨rfl, rfl⟩
          | false =>
            cases k5 : (s == 422) with
            | true =>
              have hq : statusN s = [85, 110, 112, 114, 111, 99, 101, 115, 115, 97, 98, 108, 101, 32, 67, 111, 110, 116, 101, 110, 116] := by
                unfold statusN; rw [if_neg (by rw [k0]; decide), if_neg (by rw [k1]; decide), if_neg (by rw [k2]; decide), if_neg (by rw [k3]; decide), if_neg (by rw [k4]; decide), if_pos k5]
              rw [hq] at hR
              clear hq
              go_wp2_with fail
              go_ret
              exact hR _ _ ⟨rfl, rfl⟩
            | false =>
              cases k6 : (s == 431) with
              | true =>
                have hq : statusN s = [82, 101, 113, 117, 101, 115, 116, 32, 72, 101, 97, 100, 101, 114, 32, 70, 105, 101, 108, 100, 115, 32, 84, 111, 111, 32, 76, 97, 114, 103, 101] := by
                  unfold statusN; rw [if_neg (by rw [k0]; decide), if_neg (by rw [k1]; decide), if_neg (by rw [k2]; decide), if_neg (by rw [k3]; decide), if_neg (by rw [k4]; decide), if_neg (by rw [k5]; decide), if_pos k6]
                rw [hq] at hR
                clear hq
                go_wp2_with fail
                go_ret
                exact hR _ _ ⟨rfl, rfl⟩
              | false =>
                cases k7 : (s == 501) with
                | true =>
                  have hq : statusN s = [78, 111, 116, 32, 73, 109, 112, 108, 101, 109, 101, 110, 116, 101, 100] := by
                    unfold statusN; rw [if_neg (by rw [k0]; decide), if_neg (by rw [k1]; decide), if_neg (by rw [k2]; decide), if_neg (by rw [k3]; decide), if_neg (by rw [k4]; decide), if_neg (by rw [k5]; decide), if_neg (by rw [k6]; decide), if_pos k7]
                  rw [hq] at hR
                  clear hq
                  go_wp2_with fail
                  go_ret
                  exact hR _ _ ⟨rfl, rfl⟩
                | false =>
                  cases k8 : (s == 503) with
                  | true =>
                    have hq : statusN s = [83, 101, 114, 118, 105, 99, 101, 32, 85, 110, 97, 118, 97, 105, 108, 97, 98, 108, 101] := by
                      unfold statusN; rw [if_neg (by rw [k0]; decide), if_neg (by rw [k1]; decide), if_neg (by rw [k2]; decide), if_neg (by rw [k3]; decide), if_neg (by rw [k4]; decide), if_neg (by rw [k5]; decide), if_neg (by rw [k6]; decide), if_neg (by rw [k7]; decide), if_pos k8]
                    rw [hq] at hR
                    clear hq
                    go_wp2_with fail
                    go_ret
                    exact hR _ _ ⟨rfl, rfl⟩
                  | false =>
                    have hq : statusN s = [] := by
                      unfold statusN; rw [if_neg (by rw [k0]; decide), if_neg (by rw [k1]; decide), if_neg (by rw [k2]; decide), if_neg (by rw [k3]; decide), if_neg (by rw [k4]; decide), if_neg (by rw [k5]; decide), if_neg (by rw [k6]; decide), if_neg (by rw [k7]; decide), if_neg (by rw [k8]; decide)]
                    rw [hq] at hR
                    clear hq
                    go_wp2_with fail
                    go_ret
                    exact hR _ _ ⟨rfl, rfl⟩

set_option maxHeartbeats 8000000 in
set_option maxRecDepth 20000 in
theorem write_any (w : World) (st : Int) (h0 : -9223372036854775808 ≤ st) (h1 : st ≤ 9223372036854775807) (B : ByteArray) (hB : B.size ≤ 10000) (c : Bool) (l : List Fd) (v : Value) (F : Nat → Prop) (hv : View fld w F l v) (hl : fsize l ≤ 6000) :
    Calls Tryd.prog 15 #[.int .i64 st, .string B, .bool c, v] w fun e w' => ∃ v', e = .returned v' ∧ View Rp.u8 w' (fun k => w.heap.size ≤ k) (answerN st (toL B) c l) v' ∧ Below w.heap.size w w' := by
  refine calls_gen fun R hR => ?_
  obtain ⟨A, n, rfl, hcl, _⟩ := flds_get hv
  have HV := Lib.hid hv
  have HFS := Lib.hid hl
  have hlen := (fsize_mem l hl).1
  clear hv hl
  go_enter Tryd.func15, Tryd.ntmps15
  go_wp2_with fail
  refine (decimal_any st w h0 h1).mono ?_
  rintro e w1 ⟨rfl, hb1⟩
  obtain ⟨D, hD⟩ : ∃ D, ofL (decimal st) = D := ⟨_, rfl⟩
  have hds : D.size ≤ 22 := by rw [← hD, ofL_size]; exact decimal_lenB st
  have HD : Hid (toL D = decimal st) := Lib.hid (by rw [← hD, toL_ofL])
  have HB1 := Lib.hid hb1
  rw [hD]
  clear hb1 hD
  go_wp2_with fail
  refine (reasonA_any w1 st).mono ?_
  rintro e w2 ⟨rfl, hw2⟩
  rw [hw2]
  clear hw2 w2
  obtain ⟨RS, hRS⟩ : ∃ X, ofL (statusN st) = X := ⟨_, rfl⟩
  have hrs : RS.size ≤ 40 := by rw [← hRS, ofL_size]; exact statusN_len st
  have HRS : Hid (toL RS = statusN st) := Lib.hid (by rw [← hRS, toL_ofL])
  rw [hRS]
  clear hRS
  have HV1 := Lib.hid (HV.out.below HB1.out)
  go_wp2_with (with_reducible (first | refine stop_append ?_))
  refine ⟨wp_append_view (r := fld) (F := fun k => w1.heap.size ≤ k) Tryd.underlying23 infoF rfl (by decide) (Own.nil _ _ _ _) rfl rfl HV1.out (fun k _ e => by simp [Value.ownBlock] at e) (by simp; unfold maxLen; omega) (by simp; omega) ?_⟩
  intro v2 w2 ho2 hk2 hn2 hp2
  rw [List.nil_append] at ho2
  have HB2 : Hid (Below w.heap.size w w2) := Lib.hid (HB1.out.trans (hk2.below HB1.out.size fun i hi e => by simp [Value.ownBlock] at e))
  have HO2 : Hid (Own fld 42 w2 (fun k => w.heap.size ≤ k) l v2) := Lib.hid (ho2.fields fun k hk => by
    rcases hp2 with h | ⟨j, h, hj⟩
    · rw [h] at hk; simp [Value.ownBlock] at hk
    · rw [h] at hk; cases hk; have := HB1.out.size; omega)
  clear ho2 hk2 hn2 hp2 HV1
  obtain ⟨A2, n2, rfl, hn2⟩ := HO2.out.slice
  go_wp2_with fail
  refine (decimal_any (B.size : Int) w2 (by omega) (by omega)).mono ?_
  rintro e w3 ⟨rfl, hb3⟩
  obtain ⟨D2, hD2⟩ : ∃ D, ofL (decimal (B.size : Int)) = D := ⟨_, rfl⟩
  have HD2 : Hid (toL D2 = decimal (B.size : Int)) := Lib.hid (by rw [← hD2, toL_ofL])
  have HO3 := Lib.hid (HO2.out.bnd.below hb3)
  have HB3 := Lib.hid (HB2.out.trans (hb3.mono HB2.out.size))
  rw [hD2]
  clear hb3 hD2 HO2 hn2
  go_wp2_with (with_reducible (first | refine stop_append ?_))
  refine ⟨wp_append1 (r := fld) (F := fun k => w.heap.size ≤ k ∧ k < w2.heap.size) (G := fun _ => False) (y := (wLen, decimal (B.size : Int))) Tryd.underlying23 infoF rfl (by decide) HO3.out rfl rfl (fl_rep _ _ _ _ rfl HD2.out) (fun k h => h.elim) (by omega) (by decide) ?_⟩
  intro v4 w4 ho4 hk4 _ hp4
  have HB4 : Hid (Below w.heap.size w w4) := Lib.hid (HB3.out.trans (hk4.below HB3.out.size fun i hi e => by
    obtain ⟨cells, _, h2, _⟩ := HO3.out
    have := (h2 i e.symm).1; omega))
  have HO4 : Hid (Own fld 42 w4 (fun k => w.heap.size ≤ k) (l ++ [(wLen, decimal (B.size : Int))]) v4) := Lib.hid (ho4.fields fun k hk => by
    rcases hp4 with h | ⟨j, h, hj⟩
    · rw [h] at hk
      obtain ⟨cells, _, h2, _⟩ := HO3.out
      exact (h2 k hk).1
    · rw [h] at hk; cases hk; have := HB3.out.size; omega)
  clear ho4 hk4 hp4 HO3 HB3
  obtain ⟨l1, hl1⟩ : ∃ x, l ++ [(wLen, decimal (B.size : Int))] = x := ⟨_, rfl⟩
  have HL1 := Lib.hid hl1
  have hll : l1.length ≤ 6001 := by rw [← hl1]; simp; omega
  rw [hl1] at HO4
  clear hl1
  obtain ⟨A4, n4, rfl, hn4⟩ := HO4.out.slice
  obtain ⟨X, hX⟩ : ∃ x, extraN l (toL B).length c = x := ⟨_, rfl⟩
  have hXS : fsize X ≤ 6100 := hX ▸ extraN_size l _ c HFS.out
  have HXS := Lib.hid hXS
  have HX1 : Hid (X = l1 ++ (if c then [(wCon, wClose)] else [])) := Lib.hid (by rw [← hX, ← HL1.out, toL_len]; rfl)
  have HXE := Lib.hid hX
  have hXL : X.length ≤ 6100 := by unfold fsize fsizeAt at hXS; omega
  clear hX hXS
  go_upto_if 29 with fail
  go_cut [10] (fun v wc => ∃ A' n', v = .slice A' X.length n' ∧ View fld wc (fun k => w.heap.size ≤ k) X v ∧ Below w.heap.size w wc)
  case first =>
    cases c with
    | false =>
      have HX2 : Hid (X = l1) := Lib.hid (by rw [HX1.out]; simp)
      go_wp2_with fail
      go_meet
      rw [HX2.out]
      exact ⟨_, _, rfl, HO4.out.view, HB4.out⟩
    | true =>
      have HX2 : Hid (X = l1 ++ [(wCon, wClose)]) := Lib.hid (by rw [HX1.out]; simp)
      go_wp2_with (with_reducible (first | refine stop_append ?_))
      refine ⟨wp_append1 (r := fld) (F := fun k => w.heap.size ≤ k) (G := fun _ => False) (y := (wCon, wClose)) Tryd.underlying23 infoF rfl (by decide) HO4.out rfl rfl (fl_rep _ _ _ _ rfl rfl) (fun k h => h.elim) (by omega) (by decide) ?_⟩
      intro v5 w5 ho5 hk5 _ hp5
      have HB5 : Hid (Below w.heap.size w w5) := Lib.hid (HB4.out.trans (hk5.below HB4.out.size fun i hi e => by
        obtain ⟨cells, _, h2, _⟩ := HO4.out
        have := h2 i e.symm; omega))
      have HO5 : Hid (Own fld 42 w5 (fun k => w.heap.size ≤ k) (l1 ++ [(wCon, wClose)]) v5) := Lib.hid (ho5.fields fun k hk => by
        rcases hp5 with h | ⟨j, h, hj⟩
        · rw [h] at hk
          obtain ⟨cells, _, h2, _⟩ := HO4.out
          exact h2 k hk
        · rw [h] at hk; cases hk; have := HB4.out.size; omega)
      rw [← HX2.out] at HO5
      clear ho5 hk5 hp5
      obtain ⟨A5, n5, rfl, hn5⟩ := HO5.out.slice
      go_wp2_with fail
      go_meet
      exact ⟨_, _, rfl, HO5.out.view, HB5.out⟩
  case rest =>
    obtain ⟨AX, nX, rfl, hvX, hbX⟩ := hcut
    obtain ⟨AY, nY, e, hnX, hget⟩ := flds_get hvX
    cases e
    have HG := Lib.hid hget; have HBX := Lib.hid hbX
    have hws := hbX.size
    clear hget hvX hbX HO4 HB4 HL1 HX1 hn4 hll
    obtain ⟨pr, hpr⟩ : ∃ p, ((([72, 84, 84, 80, 47, 49, 46, 49, 32] ++ decimal st ++ [32]) ++ statusN st) ++ [13, 10]) = p := ⟨_, rfl⟩
    have HPR := Lib.hid hpr
    have hpl : pr.length ≤ 100 := by
      have h1 := statusN_len st
      have h2 := decimal_lenB st
      rw [← hpr]; simp; omega
    clear hpr
    go_upto_region 5 with fail
    have HP0 : Hid (toL ((⟨#[72, 84, 84, 80, 47, 49, 46, 49, 32]⟩ : ByteArray) ++ D ++ ⟨#[32]⟩ ++ RS ++ ⟨#[13, 10]⟩) = pr) := Lib.hid (by
      simp only [toL_cat, HD.out, HRS.out, ← HPR.out]; rfl)
    obtain ⟨P0, hP0⟩ : ∃ x, (⟨#[72, 84, 84, 80, 47, 49, 46, 49, 32]⟩ : ByteArray) ++ D ++ ⟨#[32]⟩ ++ RS ++ ⟨#[13, 10]⟩ = x := ⟨_, rfl⟩
    rw [hP0] at HP0 ⊢
    clear hP0
    go_wp2_with fail
    go_loopw [9, 36] (fun o i wr => ∃ (k : Nat) (O : ByteArray), k ≤ X.length ∧ i = .int .i64 k ∧ o = .string O ∧ toL O = pr ++ linesF (X.take k) ∧ Below w.heap.size w wr ∧ Ext wc wr) (fun _ i _ => X.length - (intOf i).toNat)
    case atStart => exact ⟨0, P0, Nat.zero_le _, rfl, rfl, by rw [HP0.out]; simp [linesF], HBX.out, Below.refl _ _⟩
    case round =>
      obtain ⟨k, O, hk, rfl, rfl, hO, hb, hE⟩ := hrel
      have HB := Lib.hid hb; have HO := Lib.hid hO; have HE := Lib.hid hE
      have hos : O.size ≤ 30000 := by
        rw [← toL_len, hO, List.length_append]
        have h1 := linesF_le X k
        have h2 := fsizeAt_le X (a := k) (b := X.length) hk
        have h3 := HXS.out
        unfold fsize at h3
        omega
      clear hb hO hE
      by_cases hlt : k < X.length
      · obtain ⟨g, off, rfl, hg, hx⟩ := HG.out k hlt
        obtain ⟨x, he⟩ : ∃ x, X[k]? = some x := ⟨_, List.getElem?_eq_getElem hlt⟩
        obtain ⟨c0, c1⟩ := hx x he
        have d0 := ext_cell HE.out c0
        have d1 := ext_cell HE.out c1
        have HS := Lib.hid (linesF_succ X k x he)
        have hgr : g < wr.heap.size := Nat.lt_of_lt_of_le hg HE.out.size
        have hz := fsizeAt_succ X k x he
        have hz2 := fsizeAt_le X (a := k + 1) (b := X.length) hlt
        have hz3 := HXS.out
        unfold fsize at hz3
        have hl1 : (ofL x.1).size ≤ 6100 := by rw [ofL_size]; omega
        have hl2 : (ofL x.2).size ≤ 6100 := by rw [ofL_size]; omega
        obtain ⟨X1, hX1⟩ : ∃ X, ofL x.1 = X := ⟨_, rfl⟩
        obtain ⟨X2, hX2⟩ : ∃ X, ofL x.2 = X := ⟨_, rfl⟩
        have HX1 : Hid (toL X1 = x.1) := Lib.hid (by rw [← hX1, toL_ofL])
        have HX2 : Hid (toL X2 = x.2) := Lib.hid (by rw [← hX2, toL_ofL])
        rw [hX1] at d0 hl1
        rw [hX2] at d1 hl2
        have hq0 : (0 : Int) ≤ (k : Int) := by omega
        have hq1 : (k : Int) < (X.length : Int) := by omega
        clear hx he c0 c1 hX1 hX2 hz hz2 hz3
        go_wp2_with fail
        go_roundw
        case rel => exact ⟨k + 1, _, by omega, by go_num, rfl, by simp only [toL_cat, HO.out, HS.out, lineF, HX1.out, HX2.out]; simp [toL], HB.out.trans (below_new _ _ |>.mono HB.out.size), Ext.trans HE.out (below_new _ _)⟩
        case measure => simp [intOf]; omega
      · have hkl : k = X.length := by omega
        have HKL := Lib.hid hkl
        clear hkl
        have HFI : Hid (toL (O ++ ⟨#[13, 10]⟩ ++ B) = answerN st (toL B) c l) := Lib.hid (by
          unfold answerN
          rw [HXE.out, HPR.out]
          simp only [toL_cat, HO.out, HKL.out, List.take_length]; rfl)
        go_wp2_with (with_reducible (first | refine stop_convert ?_))
        refine ⟨wp_bytes Tryd.underlying9 Tryd.underlying33 Tryd.underlying5 rfl ?_⟩
        intro cv wv m hc hrow hm hbv hsz
        have hvx := hrow.view (h1 := fun _ => rfl) (c := cv) (by rw [toL_len]; exact hc) (F := fun k => w.heap.size ≤ k) HB.out.size
        rw [toL_len] at hvx
        have HVX := Lib.hid hvx
        have HBV := Lib.hid (HB.out.trans (hbv.mono HB.out.size))
        clear hrow hbv hsz hvx
        go_wp2_with fail
        go_ret
        have hv2 := HVX.out
        rw [show (O ++ ⟨#[13, 10]⟩ ++ B).size = O.size + 2 + B.size by simp [ByteArray.size_append]; rfl] at hv2
        exact hR _ _ ⟨_, rfl, by rw [← HFI.out]; exact hv2, HBV.out⟩
end Go.Proofs.YtilpaopkhghicaaDoor.Asc
