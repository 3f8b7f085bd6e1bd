/-
  The law parapetlaw27.AnswerLimit answers true.
  The library's MaxLen is a number.
-/
import Derived.Test.YtilpaopkhghicaaDoorAnH
namespace Go.Proofs.YtilpaopkhghicaaDoor.Asc
open Go Go.RowKit Go.Proofs.YtilpaopkhghicaaDoor.Pb

def ltAt (n k : Nat) : List UInt8 := List.replicate k 117 ++ List.replicate (n - k) 0
theorem ltAt_len (n k : Nat) (h : k ≤ n) : (ltAt n k).length = n := by unfold ltAt; simp; omega
theorem ltAt_step (n k : Nat) (h : k < n) : (ltAt n (k + 1)).map u8v = ((ltAt n k).map u8v).set k (.int .u8 117) := by
  have e : ltAt n (k + 1) = (ltAt n k).set k 117 := by
    unfold ltAt
    rw [show n - k = (n - (k + 1)) + 1 by omega, List.replicate_succ (n := n - (k + 1)), List.set_append_right _ _ (by simp), List.length_replicate, Nat.sub_self, List.set_cons_zero, List.replicate_succ']
    simp
  rw [e, List.map_set]; rfl
theorem ltAt_get (n k : Nat) (h : k < n) : (ltAt n k)[k]? = some 0 := by
  unfold ltAt
  rw [List.getElem?_append_right (by simp), List.length_replicate, Nat.sub_self, show n - k = (n - (k + 1)) + 1 by omega, List.replicate_succ]; rfl
theorem ltAt_all (n : Nat) : ltAt n n = List.replicate n 117 := by simp [ltAt]

/-- a text of one line, whose word is url -/
theorem one_line (r : List UInt8) (h10 : (10 : UInt8) ∉ r) (hl : r.length + 4 ≤ 4000) : queryN (wUrl ++ 32 :: r) = if graphic r then ({ meth := wGet, url := r }, 0) else ({}, 8) := by
  have h1 : (10 : UInt8) ∉ wUrl ++ 32 :: r := by
    intro h
    rcases List.mem_append.1 h with h | h
    · exact absurd h (by decide)
    · rcases List.mem_cons.1 h with h | h
      · exact absurd h (by decide)
      · exact h10 h
  have hls : linesOf (wUrl ++ 32 :: r) = [wUrl ++ 32 :: r] := by
    unfold linesOf
    rw [split_eq, splitR_none 10 _ h1]
    rw [if_neg (by simp [wUrl])]
  have hq : linesQ [wUrl ++ 32 :: r] = { q := { meth := wGet, url := r }, met := [wUrl], bad := !graphic r } := by
    show lineQ {} (wUrl ++ 32 :: r) = _
    unfold lineQ
    rw [cutAt_at 32 wUrl r (by decide), show (wUrl ++ 32 :: r).contains 32 = true by simp]
    rw [show metN {} wUrl = { met := [wUrl], bad := false } from rfl]
    rw [wn0 (by rfl)]
    simp [setQ]
  unfold queryN
  rw [if_neg (by simp [wUrl]; omega), hls, hq]
  cases graphic r <;> rfl
theorem limit_plain (n : Nat) : (queryN (wUrl ++ 32 :: List.replicate n 117)).2 = if 1 ≤ n ∧ n + 4 ≤ 4000 then 0 else 8 := by
  by_cases h : n + 4 ≤ 4000
  · rw [one_line _ (fun h => by have := List.eq_of_mem_replicate h; exact absurd this (by decide)) (by rw [List.length_replicate]; exact h)]
    have hg : graphic (List.replicate n 117) = decide (1 ≤ n) := by
      unfold graphic
      have h1 : (List.replicate n (117 : UInt8)).all (fun c => decide (33 ≤ c.toNat) && decide (c.toNat ≤ 126)) = true := List.all_eq_true.2 fun c hc => by
        rw [List.eq_of_mem_replicate hc]; rfl
      rw [h1, Bool.true_and]
      cases n <;> simp
    rw [hg]
    by_cases h1 : 1 ≤ n
    · rw [decide_eq_true h1, if_pos rfl, if_pos ⟨h1, h⟩]
    · rw [decide_eq_false h1, if_neg (by decide), if_neg (fun e => h1 e.1)]
  · rw [if_neg (fun e => h e.2)]
    unfold queryN
    rw [if_pos]
    simp [wUrl]; omega

set_option maxRecDepth 20000 in
set_option maxHeartbeats 4000000 in
theorem limit_walk (n : Int) (m : Int) (w : World) (hm : MaxLen m w) :
    Calls Tryd.prog 4 #[.int .i64 n] w fun e w' => e = .returned (.bool true) ∧ Below w.heap.size w w' := by
  refine calls_gen fun R hR => ?_
  have HM := Lib.hid hm
  clear hm
  by_cases c0 : n < 0
  · go_enter Tryd.func4, Tryd.ntmps4
    go_wp2_with fail
    refine (awake_any w m HM.out).mono ?_
    rintro e w3 ⟨rfl, hb3⟩
    go_wp2_with fail
    go_ret
    exact hR _ _ ⟨rfl, hb3⟩
  by_cases c1 : n > 5000
  · go_enter Tryd.func4, Tryd.ntmps4
    go_wp2_with fail
    refine (awake_any w m HM.out).mono ?_
    rintro e w3 ⟨rfl, hb3⟩
    go_wp2_with fail
    go_ret
    exact hR _ _ ⟨rfl, hb3⟩
  obtain ⟨n, rfl⟩ := Int.eq_ofNat_of_zero_le (show 0 ≤ n by omega)
  have hn : n ≤ 5000 := by omega
  have hmk : ∀ w : World, (Instr.makeSlice 33 (.int .i64 n) (.int .i64 n)).run Tryd.prog w = .ok (.slice (some ⟨w.heap.size, 0, none⟩) n n) (w.alloc (.cells (madeCells #[.int .u8 0] n) 5)) := fun w => run_make_row' (P := Tryd.prog) 33 5 (.int .u8 0) 1 Tryd.underlying33 info5 rfl .i64 .i64 n (by omega) (by omega) w
  obtain ⟨M, hM⟩ : ∃ M, madeCells #[Value.int .u8 0] n = M := ⟨_, rfl⟩
  have hMl : M.toList = (ltAt n 0).map u8v := by
    rw [← hM]
    apply List.ext_getElem?
    intro i
    unfold ltAt
    rw [List.map_append, List.map_replicate, List.map_replicate]
    by_cases hi : i < n
    · simp [madeCells, hi, Nat.mod_one, u8v]
    · simp [madeCells, hi]
  rw [hM] at hmk
  clear hM
  go_enter Tryd.func4, Tryd.ntmps4
  have hgb := blk_new w (.cells M 5)
  have hrow : RowAt (w.alloc (.cells M 5)) w.heap.size 5 (0, 0) ((ltAt n 0).map u8v) := ⟨M, hgb, by rw [← hMl]; exact List.take_length⟩
  have hb := below_new w (.cells M 5)
  have HB := Lib.hid hb; have HR := Lib.hid hrow
  clear hgb hrow hb hMl
  go_wp2_with fail
  clear hmk
  go_loopw [4] (fun i wr => ∃ k : Nat, k ≤ n ∧ i = .int .i64 k ∧ RowAt wr w.heap.size 5 (0, 0) ((ltAt n k).map u8v) ∧ Below w.heap.size w wr) (fun i _ => n - (intOf i).toNat)
  case atStart => exact ⟨0, by omega, rfl, HR.out, HB.out⟩
  case round =>
    obtain ⟨k, hk, rfl, hrow, hb⟩ := hrel
    by_cases hlt : k < n
    · have hcell := hrow.cell (i := k) (u := .int .u8 0) (by rw [List.getElem?_map, ltAt_get n k hlt]; rfl)
      have hfree := hrow.free (i := k) (.inr (Nat.zero_le _))
      have HS := Lib.hid (ltAt_step n k hlt)
      have hgl := hrow.len
      go_wp2_with fail
      go_roundw
      case rel =>
        refine ⟨k + 1, by omega, by go_num, ?_, hb.setCell (Nat.le_refl _) _⟩
        rw [HS.out]
        exact hrow.set k _
      case measure => simp [intOf]; omega
    · obtain rfl : k = n := by omega
      have hv : View Rp.u8 wr (fun _ => True) (ltAt k k) (.slice (some ⟨w.heap.size, 0, none⟩) k k) := by
        have h := hrow.view (h1 := fun _ => rfl) (F := fun _ => True) (c := k) (by rw [ltAt_len _ _ (Nat.le_refl _)]; exact Nat.le_refl _) trivial
        rw [ltAt_len _ _ (Nat.le_refl _)] at h
        exact h
      rw [ltAt_all] at hv
      have HBR := Lib.hid hb
      clear hrow hb
      go_wp2_with (with_reducible (first | refine stop_convert ?_))
      refine ⟨wp_string Tryd.underlying33 Tryd.underlying5 Tryd.underlying9 hv ?_⟩
      obtain ⟨U, hU⟩ : ∃ U, ofL (List.replicate k 117) = U := ⟨_, rfl⟩
      have hus : U.size ≤ 5000 := by rw [← hU, ofL_size, List.length_replicate]; exact hn
      have HU : Hid (toL U = List.replicate k 117) := Lib.hid (by rw [← hU, toL_ofL])
      rw [hU]
      clear hv hU
      have HXL : Hid (∀ Y : ByteArray, toL Y = wUrl ++ 32 :: List.replicate k 117 → (queryN (toL Y)).2 = (if 1 ≤ k ∧ k + 4 ≤ 4000 then 0 else 8) ∧ Y.size ≤ 90000) := Lib.hid fun Y hY => by
        refine ⟨by rw [hY]; exact limit_plain k, ?_⟩
        rw [← toL_len, hY]; simp [wUrl]; omega
      go_wp2_with fail
      refine (query_any _ (HXL.out _ (by simp only [toL_cat, HU.out]; rfl)).2 m wr (HM.out.below HBR.out)).mono ?_
      rw [(HXL.out _ (by simp only [toL_cat, HU.out]; rfl)).1]
      rintro e w2 ⟨fv, rfl, hv2, hb2⟩
      obtain ⟨A, c, rfl, _⟩ := hv2
      have HB2 := Lib.hid (HBR.out.trans (hb2.mono HBR.out.size))
      clear hb2
      unfold agg8
      by_cases hc : 1 ≤ k ∧ k + 4 ≤ 4000
      · rw [if_pos hc]
        obtain ⟨g1, g2⟩ := hc
        have i1 : (1 : Int) ≤ (k : Int) := by omega
        have i2 : (k : Int) + 4 ≤ 4000 := by omega
        go_wp2_with fail
        refine (awake_any _ m ((HM.out.below HB2.out).below (below_new w2 _))).mono ?_
        rintro e w3 ⟨rfl, hb3⟩
        go_wp2_with fail
        go_ret
        exact hR _ _ ⟨rfl, (HB2.out.alloc (by exact HB2.out.size) _).trans (hb3.mono (by simp; have := HB2.out.size; omega))⟩
      · rw [if_neg hc]
        by_cases g1 : 1 ≤ k
        · have i1 : (1 : Int) ≤ (k : Int) := by omega
          have i2 : decide ((k : Int) + 4 ≤ 4000) = false := decide_eq_false (by omega)
          go_wp2_with fail
          refine (awake_any _ m ((HM.out.below HB2.out).below (below_new w2 _))).mono ?_
          rintro e w3 ⟨rfl, hb3⟩
          go_wp2_with fail
          go_ret
          exact hR _ _ ⟨rfl, (HB2.out.alloc (by exact HB2.out.size) _).trans (hb3.mono (by simp; have := HB2.out.size; omega))⟩
        · have i1 : ¬ (1 : Int) ≤ (k : Int) := by omega
          go_wp2_with fail
          refine (awake_any _ m ((HM.out.below HB2.out).below (below_new w2 _))).mono ?_
          rintro e w3 ⟨rfl, hb3⟩
          go_wp2_with fail
          go_ret
          exact hR _ _ ⟨rfl, (HB2.out.alloc (by exact HB2.out.size) _).trans (hb3.mono (by simp; have := HB2.out.size; omega))⟩
theorem limit_row {w : World} (n : Int) (_ : -9223372036854775808 ≤ n) (_ : n ≤ 9223372036854775807) (m : Int) (hm : MaxLen m w) :
    Calls Tryd.prog 4 #[.int .i64 n] w fun e w' => e = .returned (.bool true) ∧ Below w.heap.size w w' := limit_walk n m w hm
end Go.Proofs.YtilpaopkhghicaaDoor.Asc
