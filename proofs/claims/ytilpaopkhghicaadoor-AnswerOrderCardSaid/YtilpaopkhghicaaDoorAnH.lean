/-
  Contracts: why a query is judged so, a verdict's text; the law's awake.
  The library's MaxLen is a number.
-/
import Derived.Test.YtilpaopkhghicaaDoorAnG
namespace Go.Proofs.YtilpaopkhghicaaDoor.Asc
open Go Go.RowKit Go.Proofs.YtilpaopkhghicaaDoor.Pb

theorem digs_lenB (k : Nat) : ∀ n, (digs k n).length ≤ k := by
  induction k with
  | zero => intro n; simp [digs]
  | succ k ih =>
    intro n
    unfold digs
    split
    · simp
    · have := ih (n / 10); simp; omega
theorem decimal_lenB (n : Int) : (decimal n).length ≤ 22 := by
  have := digs_lenB 20 (n.natAbs / 10)
  unfold decimal
  rw [List.length_append, List.length_reverse, List.length_cons]
  split <;> simp <;> omega

/-- why a query is judged so -/
def reasonN (why rule : Int) : List UInt8 :=
  if why == 0 then [114, 117, 108, 101, 32] ++ decimal rule
  else if why == 1 then [100, 101, 102, 97, 117, 108, 116]
  else if why == 2 then [109, 105, 120, 101, 100]
  else if why == 3 then [99, 115, 112]
  else if why == 4 then [99, 111, 114, 115]
  else if why == 5 then [117, 114, 108]
  else if why == 6 then [109, 101, 116, 104, 111, 100]
  else []
theorem reasonN_len (why rule : Int) : (reasonN why rule).length ≤ 30 := by
  have := decimal_lenB rule
  unfold reasonN
  repeat' split
  all_goals first | (simp; done) | (simp; omega)
/-- a verdict's text -/
def verdictN (allow : Bool) (why rule : Int) (up pre : Bool) (ver : Int) : List UInt8 :=
  (((((if allow then [97, 108, 108, 111, 119, 32] else [100, 101, 110, 121, 32]) ++ reasonN why rule) ++ (if up then [32, 117, 112, 103, 114, 97, 100, 101] else [])) ++ (if pre then [32, 112, 114, 101, 102, 108, 105, 103, 104, 116] else [])) ++ [10, 118, 101, 114, 115, 105, 111, 110, 32]) ++ decimal ver ++ [10]
def aggV (allow : Bool) (why rule : Int) (up pre : Bool) : Value := .agg #[.bool allow, .int .i64 why, .int .i64 rule, .bool up, .bool pre]

set_option maxHeartbeats 2000000 in
set_option maxRecDepth 20000 in
theorem reason_any (w : World) (allow : Bool) (why rule : Int) (up pre : Bool) (h0 : -9223372036854775808 ≤ rule) (h1 : rule ≤ 9223372036854775807) :
    Calls Tryd.prog 35 #[aggV allow why rule up pre] w fun e w' => e = .returned (.string (ofL (reasonN why rule))) ∧ Below w.heap.size w w' := by
  refine calls_gen fun R hR => ?_
  unfold aggV
  obtain ⟨w1, hw1⟩ : ∃ w1, w.alloc (.cells #[.bool allow, .int .i64 why, .int .i64 rule, .bool up, .bool pre] 46) = w1 := ⟨_, rfl⟩
  have HW1 := Lib.hid hw1
  have HB1 : Hid (Below w.heap.size w w1) := Lib.hid (hw1 ▸ below_new w _)
  have hg : w1.heap[w.heap.size]? = some (.cells #[.bool allow, .int .i64 why, .int .i64 rule, .bool up, .bool pre] 46 (0, 0)) := hw1 ▸ blk_new w _
  have c1 := blk_cell hg 1
  have c2 := blk_cell hg 2
  have hlt := blk_lt hg
  simp only [List.getElem?_toArray, List.getElem?_cons_zero, List.getElem?_cons_succ] at c1 c2
  clear hw1 hg
  go_enter Tryd.func35, Tryd.ntmps35
  go_upto_region 1 with fail
  rw [HW1.out]
  cases k0 : (why == 0) with
  | true =>
    have hq : reasonN why rule = [114, 117, 108, 101, 32] ++ decimal rule := by
      unfold reasonN; rw [if_pos k0]
    rw [hq] at hR
    clear hq
    go_wp2_with fail
    refine (decimal_any rule w1 h0 h1).mono ?_
    rintro e w2 ⟨rfl, hb2⟩
    obtain ⟨D, hD⟩ : ∃ D, ofL (decimal rule) = D := ⟨_, rfl⟩
    have hds : D.size ≤ 22 := by rw [← hD, ofL_size]; exact decimal_lenB rule
    have HE : Hid (ofL ([114, 117, 108, 101, 32] ++ decimal rule) = ⟨#[114, 117, 108, 101, 32]⟩ ++ D) := Lib.hid (by rw [← hD, ← ofL_append]; rfl)
    rw [hD]
    rw [HE.out] at hR
    have HB2 := Lib.hid (HB1.out.trans (hb2.mono HB1.out.size))
    clear hb2 hD
    go_wp2_with fail
    go_ret
    exact hR _ _ ⟨rfl, HB2.out⟩
  | false =>
    cases k1 : (why == 1) with
    | true =>
      have hq : reasonN why rule = [100, 101, 102, 97, 117, 108, 116] := by
        unfold reasonN; rw [if_neg (by rw [k0]; decide), if_pos k1]
      rw [hq] at hR
      clear hq
      go_wp2_with fail
      go_ret
      exact hR _ _ ⟨rfl, HB1.out⟩
    | false =>
      cases k2 : (why == 2) with
      | true =>
        have hq : reasonN why rule = [109, 105, 120, 101, 100] := by
          unfold reasonN; rw [if_neg (by rw [k0]; decide), if_neg (by rw [k1]; decide), if_pos k2]
        rw [hq] at hR
        clear hq
        go_wp2_with fail
        go_ret
        exact hR _ _ ⟨rfl, HB1.out⟩
      | false =>
        cases k3 : (why == 3) with
        | true =>
          have hq : reasonN why rule = [99, 115, 112] := by
            unfold reasonN; rw [if_neg (by rw [k0]; decide), if_neg (by rw [k1]; decide), if_neg (by rw [k2]; decide), if_pos k3]
          rw [hq] at hR
          clear hq
          go_wp2_with fail
          go_ret
          exact hR _ _ ⟨rfl, HB1.out⟩
        | false =>
          cases k4 : (why == 4) with
          | true =>
            have hq : reasonN why rule = [99, 111, 114, 115] := by
              unfold reasonN; rw [if_neg (by rw [k0]; decide), if_neg (by rw [k1]; decide), if_neg (by rw [k2]; decide), if_neg (by rw [k3]; decide), if_pos k4]
            rw [hq] at hR
            clear hq
            go_wp2_with fail
            go_ret
            exact hR _ _ ⟨rfl, HB1.out⟩
          | false =>
            cases k5 : (why == 5) with
            | true =>
              have hq : reasonN why rule = [117, 114, 108] := by
                unfold reasonN; rw [if_neg (by rw [k0]; decide), if_neg (by rw [k1]; decide), if_neg (by rw [k2]; decide), if_neg (by rw [k3]; decide), if_neg (by rw [k4]; decide), if_pos k5]
              rw [hq] at hR
              clear hq
              go_wp2_with fail
              go_ret
              exact hR _ _ ⟨rfl, HB1.out⟩
            | false =>
              cases k6 : (why == 6) with
              | true =>
                have hq : reasonN why rule = [109, 101, 116, 104, 111, 100] := by
                  unfold reasonN; rw [if_neg (by rw [k0]; decide), if_neg (by rw [k1]; decide), if_neg (by rw [k2]; decide), if_neg (by rw [k3]; decide), if_neg (by rw [k4]; decide), if_neg (by rw [k5]; decide), if_pos k6]
                rw [hq] at hR
                clear hq
                go_wp2_with fail
                go_ret
                exact hR _ _ ⟨rfl, HB1.out⟩
              | false =>
                have hq : reasonN why rule = [] := by
                  unfold reasonN; rw [if_neg (by rw [k0]; decide), if_neg (by rw [k1]; decide), if_neg (by rw [k2]; decide), if_neg (by rw [k3]; decide), if_neg (by rw [k4]; decide), if_neg (by rw [k5]; decide), if_neg (by rw [k6]; decide)]
                rw [hq] at hR
                clear hq
                go_wp2_with fail
                go_ret
                exact hR _ _ ⟨rfl, HB1.out⟩

set_option maxHeartbeats 4000000 in
set_option maxRecDepth 20000 in
theorem verdict_any (w : World) (allow : Bool) (why rule : Int) (up pre : Bool) (h0 : -9223372036854775808 ≤ rule) (h1 : rule ≤ 9223372036854775807) (ver : Int) (v0 : -9223372036854775808 ≤ ver) (v1 : ver ≤ 9223372036854775807) :
    Calls Tryd.prog 19 #[aggV allow why rule up pre, .int .i64 ver] w fun e w' => e = .returned (.string (ofL (verdictN allow why rule up pre ver))) ∧ Below w.heap.size w w' := by
  refine calls_gen fun R hR => ?_
  unfold aggV
  obtain ⟨w1, hw1⟩ : ∃ w1, w.alloc (.cells #[.bool allow, .int .i64 why, .int .i64 rule, .bool up, .bool pre] 46) = w1 := ⟨_, rfl⟩
  have HW1 := Lib.hid hw1
  have HB1 : Hid (Below w.heap.size w w1) := Lib.hid (hw1 ▸ below_new w _)
  have HG : Hid (w1.heap[w.heap.size]? = some (.cells #[.bool allow, .int .i64 why, .int .i64 rule, .bool up, .bool pre] 46 (0, 0))) := Lib.hid (hw1 ▸ blk_new w _)
  clear hw1
  go_enter Tryd.func19, Tryd.ntmps19
  go_upto_region 1 with fail
  rw [HW1.out]
  have hg := HG.out
  have c0 := blk_cell hg 0
  have c1 := blk_cell hg 1
  have c2 := blk_cell hg 2
  have c3 := blk_cell hg 3
  have c4 := blk_cell hg 4
  have hlt := blk_lt hg
  simp only [List.getElem?_toArray, List.getElem?_cons_zero, List.getElem?_cons_succ] at c0 c1 c2 c3 c4
  clear hg
  obtain ⟨RS, hRS⟩ : ∃ X, ofL (reasonN why rule) = X := ⟨_, rfl⟩
  have hrs : RS.size ≤ 30 := by rw [← hRS, ofL_size]; exact reasonN_len why rule
  have HRS : Hid (toL RS = reasonN why rule) := Lib.hid (by rw [← hRS, toL_ofL])
  obtain ⟨D, hD⟩ : ∃ D, ofL (decimal ver) = D := ⟨_, rfl⟩
  have hds : D.size ≤ 22 := by rw [← hD, ofL_size]; exact decimal_lenB ver
  have HD : Hid (toL D = decimal ver) := Lib.hid (by rw [← hD, toL_ofL])
  have HRE := Lib.hid hRS; have HDE := Lib.hid hD
  clear hRS hD
  cases allow <;> cases up <;> cases pre
  all_goals
    go_wp2_with fail
    refine (reason_any w1 _ why rule _ _ h0 h1).mono ?_
    rintro e w2 ⟨rfl, hb2⟩
    have hg2 := (hb2.block _ hlt).trans HG.out
    have d3 := blk_cell hg2 3
    have d4 := blk_cell hg2 4
    simp only [List.getElem?_toArray, List.getElem?_cons_zero, List.getElem?_cons_succ] at d3 d4
    have hlt2 := blk_lt hg2
    have HB2 := Lib.hid (HB1.out.trans (hb2.mono HB1.out.size))
    rw [HRE.out]
    clear hb2 hg2
    go_wp2_with fail
    refine (decimal_any ver w2 v0 v1).mono ?_
    rintro e w3 ⟨rfl, hb3⟩
    have HB3 := Lib.hid (HB2.out.trans (hb3.mono HB2.out.size))
    rw [HDE.out]
    clear hb3
    go_wp2_with fail
    go_ret
    refine hR _ _ ⟨ret_str (toL_inj ?_), HB3.out⟩
    simp only [toL_cat, toL_ofL, HRS.out, HD.out, verdictN]
    simp [toL]

set_option maxHeartbeats 2000000 in
set_option maxRecDepth 20000 in
theorem awake_any (w : World) (m : Int) (hm : MaxLen m w) :
    Calls Tryd.prog 9 #[] w fun e w' => e = .returned (.bool true) ∧ Below w.heap.size w w' := by
  refine calls_gen fun R hR => ?_
  go_enter Tryd.func9, Tryd.ntmps9
  go_wp2_with fail
  refine (query_any ⟨#[117, 114, 108, 32, 104, 116, 116, 112, 58, 47, 47, 97, 47, 10, 99, 111, 114, 115]⟩ (by decide) m w hm).mono ?_
  rintro e w1 ⟨fv, rfl, hv, hb⟩
  have hq : queryN (toL ⟨#[117, 114, 108, 32, 104, 116, 116, 112, 58, 47, 47, 97, 47, 10, 99, 111, 114, 115]⟩) = ({ url := [104, 116, 116, 112, 58, 47, 47, 97, 47], meth := [71, 69, 84], cors := true }, 0) := by decide +kernel
  rw [hq] at hv ⊢
  obtain ⟨A, c, rfl, _⟩ := hv
  have HB := Lib.hid hb
  clear hq hb
  unfold agg8
  dsimp only
  obtain ⟨X, hX⟩ : ∃ X, ofL [104, 116, 116, 112, 58, 47, 47, 97, 47] = X := ⟨_, rfl⟩
  have hx : (X.toList == [104, 116, 116, 112, 58, 47, 47, 97, 47]) = true := by rw [← hX, toList_ofL]; rfl
  obtain ⟨Y, hY⟩ : ∃ X, ofL [71, 69, 84] = X := ⟨_, rfl⟩
  have hy : (Y.toList == [71, 69, 84]) = true := by rw [← hY, toList_ofL]; rfl
  rw [hX, hY]
  clear hX hY
  go_wp2_with fail
  refine (verdict_any _ true 1 0 false false (by decide) (by decide) 3 (by decide) (by decide)).mono ?_
  rintro e w2 ⟨rfl, hb2⟩
  obtain ⟨Z, hZ⟩ : ∃ X, ofL (verdictN true 1 0 false false 3) = X := ⟨_, rfl⟩
  have hz : (Z.toList == [97, 108, 108, 111, 119, 32, 100, 101, 102, 97, 117, 108, 116, 10, 118, 101, 114, 115, 105, 111, 110, 32, 51, 10]) = true := by rw [← hZ, toList_ofL]; decide +kernel
  rw [hZ]
  clear hZ
  have HB2 := Lib.hid hb2
  clear hb2
  go_wp2_with fail
  go_ret
  exact hR _ _ ⟨rfl, (HB.out.alloc (by exact HB.out.size) _).trans (HB2.out.mono (by simp; have := HB.out.size; omega))⟩
end Go.Proofs.YtilpaopkhghicaaDoor.Asc
