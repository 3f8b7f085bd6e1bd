/-
  The law parapetlaw13.HeaderLong answers true.
  The library's MaxLen is a number.
-/
import Derived.Test.YtnjkoegepjhklaaDoorHdrU
import Derived.Deep.OwnRows
namespace Go.Proofs.YtnjkoegepjhklaaDoor.Asc
open Go Go.RowKit Go.Proofs.YtnjkoegepjhklaaDoor.Pb

set_option maxHeartbeats 1000000 in
theorem letters_any (n : Nat) (w : World) (hn : n ≤ 1000) :
    Calls Tryd.prog 15 #[.int .i64 n] w fun e w' => e = .returned (.string (ofL (List.replicate n 97))) ∧ Below w.heap.size w w' := by
  refine calls_gen fun R hR => ?_
  have hmk : ∀ w : World, (Instr.makeSlice 30 (.int .i64 n) (.int .i64 n)).run Tryd.prog w = .ok (.slice (some ⟨w.heap.size, 0, none⟩) n n) (w.alloc (.cells (madeCells #[.int .u8 0] n) 5)) := fun w => run_make_row' (P := Tryd.prog) 30 5 (.int .u8 0) 1 Tryd.underlying30 info5 rfl .i64 .i64 n (by omega) (by omega) w
  obtain ⟨M, hM⟩ : ∃ M, madeCells #[Value.int .u8 0] n = M := ⟨_, rfl⟩
  have hMl : M.toList = (ltAt n 0).map u8v := by
    rw [← hM]
    apply List.ext_getElem?
    intro i
    unfold ltAt
    rw [List.map_append, List.map_replicate, List.map_replicate]
    by_cases hi : i < n
    · simp [madeCells, hi, Nat.mod_one, u8v]
    · simp [madeCells, hi]
  rw [hM] at hmk
  clear hM
  go_enter Tryd.func15, Tryd.ntmps15
  have hgb := blk_new w (.cells M 5)
  have hrow : RowAt (w.alloc (.cells M 5)) w.heap.size 5 (0, 0) ((ltAt n 0).map u8v) := ⟨M, hgb, by rw [← hMl]; exact List.take_length⟩
  have hb := below_new w (.cells M 5)
  have HB := Lib.hid hb; have HR := Lib.hid hrow
  clear hgb hrow hb hMl
  go_wp2_with fail
  go_loopw [4] (fun i wr => ∃ k : Nat, k ≤ n ∧ i = .int .i64 k ∧ RowAt wr w.heap.size 5 (0, 0) ((ltAt n k).map u8v) ∧ Below w.heap.size w wr) (fun i _ => n - (intOf i).toNat)
  case atStart => exact ⟨0, by omega, rfl, HR.out, HB.out⟩
  case round =>
    obtain ⟨k, hk, rfl, hrow, hb⟩ := hrel
    by_cases hlt : k < n
    · have hcell := hrow.cell (i := k) (u := .int .u8 0) (by rw [List.getElem?_map, ltAt_get n k hlt]; rfl)
      have hfree := hrow.free (i := k) (.inr (Nat.zero_le _))
      have HS := Lib.hid (ltAt_step n k hlt)
      have hgl := hrow.len
      go_wp2_with fail
      go_roundw
      case rel =>
        refine ⟨k + 1, by omega, by go_num, ?_, hb.setCell (Nat.le_refl _) _⟩
        rw [HS.out]
        exact hrow.set k _
      case measure => simp [intOf]; omega
    · obtain rfl : k = n := by omega
      have hv : View Rp.u8 wr (fun _ => True) (ltAt k k) (.slice (some ⟨w.heap.size, 0, none⟩) k k) := by
        have h := hrow.view (h1 := fun _ => rfl) (F := fun _ => True) (c := k) (by rw [ltAt_len _ _ (Nat.le_refl _)]; exact Nat.le_refl _) trivial
        rw [ltAt_len _ _ (Nat.le_refl _)] at h
        exact h
      rw [ltAt_all] at hv
      go_wp2_with (with_reducible (first | refine stop_convert ?_))
      refine ⟨wp_string Tryd.underlying30 Tryd.underlying5 Tryd.underlying9 hv ?_⟩
      go_wp2_with fail
      go_ret
      exact hR _ _ ⟨rfl, hb⟩

theorem infoF : (Tryd.prog.info? 29).map (fun i => (i.zero, i.size, i.bytes)) = some (some (.agg #[.string ByteArray.empty, .string ByteArray.empty]), 2, 32) := by kernel_rfl
section
variable {P : Program} {ops : Array Oper} {a : Act} {w : World} {K : Act → World → Prop} {Q : Exit → Act → World → Prop} {E : Prop}
theorem step_string {F : Nat → Prop} {l : List UInt8} {src dst e : TypeId} {x : Operand} {d : Option Tmp} {ty : TypeId} {pos : String} {af : Array Edge} (hs : P.underlying src = some (.slice e)) (he : P.underlying e = some (.int .u8)) (hd : P.underlying dst = some .string)
    (hv : View Rp.u8 w F l (a.eval x)) (k : K (a.put d (.string (ofL l))) w) :
    if Region.wanted ⟨d, .convert src dst x, ty, pos, af, none⟩ (yielded ops a.tmps) = true then Oper.wp P ⟨d, .convert src dst x, ty, pos, af, none⟩ a w K Q else E := by
  refine step_wanted rfl ?_
  unfold Oper.wp
  rw [exec_convert (run_string hs he hd hv)]
  exact k
end
theorem fl_rep (w : World) (x : Fd) (S T : ByteArray) (hS : toL S = x.1) (hT : toL T = x.2) : fld.rep w (fun _ => False) x [.string S, .string T] := by
  refine ⟨[_], [_], rfl, ?_, ?_⟩
  · show [Value.string S] = [Value.string (ofL x.1)]; rw [← hS, ofL_toL]
  · show [Value.string T] = [Value.string (ofL x.2)]; rw [← hT, ofL_toL]

set_option maxRecDepth 20000 in
set_option maxHeartbeats 8000000 in
theorem long_walk (n sz : Int) (m : Int) (w : World) (hm : MaxLen m w) :
    Calls Tryd.prog 5 #[.int .i64 n, .int .i64 sz] w fun e w' => e = .returned (.bool true) ∧ Below w.heap.size w w' := by
  refine calls_gen fun R hR => ?_
  have HM := Lib.hid hm
  clear hm
  go_enter Tryd.func5, Tryd.ntmps5
  refine Or.elim (Classical.em (n < 0)) (fun c1 => ?_) (fun c1 => ?_)
  · go_wp2_with fail
    refine (awake_any m w HM.out).mono ?_
    rintro e w1 ⟨rfl, hb1⟩
    go_wp2_with fail
    go_ret
    exact hR _ _ ⟨rfl, hb1⟩
  refine Or.elim (Classical.em (20 < n)) (fun c2 => ?_) (fun c2 => ?_)
  · go_wp2_with fail
    refine (awake_any m w HM.out).mono ?_
    rintro e w1 ⟨rfl, hb1⟩
    go_wp2_with fail
    go_ret
    exact hR _ _ ⟨rfl, hb1⟩
  refine Or.elim (Classical.em (sz < 0)) (fun c3 => ?_) (fun c3 => ?_)
  · go_wp2_with fail
    refine (awake_any m w HM.out).mono ?_
    rintro e w1 ⟨rfl, hb1⟩
    go_wp2_with fail
    go_ret
    exact hR _ _ ⟨rfl, hb1⟩
  refine Or.elim (Classical.em (140 < sz)) (fun c4 => ?_) (fun c4 => ?_)
  · go_wp2_with fail
    refine (awake_any m w HM.out).mono ?_
    rintro e w1 ⟨rfl, hb1⟩
    go_wp2_with fail
    go_ret
    exact hR _ _ ⟨rfl, hb1⟩
  obtain ⟨n, rfl⟩ := Int.eq_ofNat_of_zero_le (show 0 ≤ n by omega)
  obtain ⟨sz, rfl⟩ := Int.eq_ofNat_of_zero_le (show 0 ≤ sz by omega)
  have hn20 : n ≤ 20 := by omega
  have hs140 : sz ≤ 140 := by omega
  go_wp2_with fail
  go_loopw [5, 6] (fun lv i wr => ∃ k : Nat, k ≤ n ∧ i = .int .i64 k ∧ Own fld 29 wr (w.heap.size ≤ ·) (List.replicate k (acT, List.replicate sz 97)) lv ∧ Below w.heap.size w wr) (fun _ i _ => n - (intOf i).toNat)
  case atStart => exact ⟨0, Nat.zero_le _, rfl, Own.nil _ _ _ _, Below.refl _ _⟩
  case round =>
    obtain ⟨k, hk, rfl, ho, hb⟩ := hrel
    obtain ⟨LA, lc, rfl, hlc⟩ := ho.slice
    have HO := Lib.hid ho; have HB := Lib.hid hb
    have hbs := hb.size
    have hlk : (List.replicate k (acT, List.replicate sz (97 : UInt8))).length = k := List.length_replicate
    obtain ⟨L, hL⟩ : ∃ L, List.replicate k (acT, List.replicate sz (97 : UInt8)) = L := ⟨_, rfl⟩
    rw [hL] at HO hlk hlc ⊢
    have HL := Lib.hid hL
    clear ho hb hL
    by_cases hlt : k < n
    · go_wp2_with fail
      obtain ⟨LT, hLT⟩ : ∃ LT, ofL (List.replicate sz 97) = LT := ⟨_, rfl⟩
      have HLT : Hid (∀ w, Calls Tryd.prog 15 #[.int .i64 sz] w fun e w' => e = .returned (.string LT) ∧ Below w.heap.size w w') := Lib.hid fun w => by rw [← hLT]; exact letters_any sz w (by omega)
      have hLs : LT.size ≤ 140 := by rw [← hLT, ofL_size, List.length_replicate]; exact hs140
      have hLn : ¬ 9223372036854775807 < LT.size := by omega
      have HLE : Hid (toL LT = List.replicate sz 97) := Lib.hid (by rw [← hLT, toL_ofL])
      clear hLT
      have hmk : ∀ w : World, (Instr.makeSlice 30 (.int .i64 0) (.int .i64 0)).run Tryd.prog w = .ok (.slice (some ⟨w.heap.size, 0, none⟩) 0 0) (w.alloc (.cells (madeCells #[.int .u8 0] 0) 5)) := fun w => run_make_row' (P := Tryd.prog) 30 5 (.int .u8 0) 1 Tryd.underlying30 info5 rfl .i64 .i64 0 (by omega) (by omega) w
      have hcv : ∀ (b : Nat) (w : World), (convert 30 9 (.slice (some ⟨b, 0, none⟩) 0 0)).run Tryd.prog w = .ok (.string ⟨#[]⟩) w := fun b w => run_string (F := fun _ => True) (l := []) Tryd.underlying30 Tryd.underlying5 Tryd.underlying9 ⟨some _, 0, rfl, Nat.le_refl _, by simp, .inl rfl⟩
      go_region_law (first
        | (go_simp
           go_at_call 15
           refine (HLT.out _).mono ?_
           rintro e w5 ⟨rfl, hb5⟩
           have HB5 := Lib.hid hb5
           have hbw : Below wr.heap.size wr w5 := by
             first | exact (below_new wr _).drew.trans (hb5.mono (by simp)) | exact (Below.refl _ _).drew.trans hb5 | exact hb5
           have HO5 := Lib.hid (HO.out.below hbw); have HBW := Lib.hid hbw
           clear hb5 hbw)
        | (refine step_append1 (r := fld) (F := fun k => w.heap.size ≤ k) (G := fun _ => False) (y := (acT, List.replicate sz 97)) Tryd.underlying22 infoF rfl (by decide) (by first | exact HO5.out | exact HO5.out.alloc _) (by simp [Act.eval, hlk]) (by simp [Act.eval]) (fl_rep _ _ _ _ rfl (by rw [toL_cat, HLE.out]; rfl)) (fun k h => h.elim) (by omega) (by decide) ?_
           intro v6 w6 ho6 hk6
           have hw5 := HBW.out.size
           have HO7 : Hid (Own fld 29 w6 (w.heap.size ≤ ·) (List.replicate (k + 1) (acT, List.replicate sz 97)) v6) := Lib.hid (by
             rw [List.replicate_succ', HL.out]
             refine ho6.mono fun a ha => ?_
             rcases ha with h | h | h
             · exact h
             · exact h.elim
             · first | (show w.heap.size ≤ a; omega) | (simp at h; show w.heap.size ≤ a; omega))
           have hoa : ∀ a, (Value.slice LA L.length lc).ownBlock = some a → w.heap.size ≤ a := fun a ha => by
             obtain ⟨_, _, h2, _⟩ := HO.out
             exact h2 a ha
           have HB7 : Hid (Below w.heap.size w w6) := Lib.hid (by
             have h1 := HB.out.trans (HBW.out.mono hbs)
             first
               | exact h1.trans (hk6.below (B := w.heap.size) (by omega) fun i hi e => by have := hoa i e.symm; omega)
               | exact (h1.alloc (by omega) _).trans (hk6.below (B := w.heap.size) (by simp; omega) fun i hi e => by have := hoa i e.symm; omega))
           clear ho6 hk6 hw5 hoa))
      all_goals
        go_wp2_with fail
        go_roundw
        case rel => exact ⟨k + 1, by omega, by go_num, HO7.out, HB7.out⟩
        case measure => simp [intOf]; omega
    · obtain rfl : k = n := by omega
      have HU := Lib.hid (uns_rep k sz)
      have HVX : Hid (∀ x ∈ L, x.1.length ≤ 1000000 ∧ x.2.length ≤ 1000000) := Lib.hid fun x hx => by
        rw [← HL.out] at hx
        rw [List.eq_of_mem_replicate hx]
        exact ⟨by show acT.length ≤ 1000000; decide, by rw [List.length_replicate]; omega⟩
      rw [HL.out] at HU
      have hL20 : L.length ≤ 20 := by omega
      clear hlk
      have hmul : k * sz ≤ 2800 := Nat.le_trans (Nat.mul_le_mul hn20 hs140) (by omega)
      have hmi : (k : Int) * (sz : Int) = ((k * sz : Nat) : Int) := by simp
      obtain ⟨q, hq⟩ : ∃ q : Nat, k * sz = q := ⟨_, rfl⟩
      rw [hq] at hmi hmul HU
      have HQ := Lib.hid hmi
      clear hmi hq
      have HUL : Hid (0 < k → 128 < sz ∨ 1024 < q → unsafeN L = [acL]) := Lib.hid fun a b => by rw [HU.out, if_pos ⟨a, b⟩]
      have HUN : Hid (¬ (0 < k ∧ (128 < sz ∨ 1024 < q)) → unsafeN L = []) := Lib.hid fun a => by rw [HU.out, if_neg a]
      clear HU
      go_wp2_with fail
      refine (unsafe_any L _ _ m wr HO.out.view (by omega) HVX.out (HM.out.below HB.out)).mono ?_
      rintro e w2 ⟨vx, rfl, hox, hb2⟩
      have HB2 := Lib.hid (HB.out.trans (hb2.mono hbs)); have HM2 := Lib.hid ((HM.out.below HB.out).below hb2)
      have HOX := Lib.hid hox
      clear hb2 hox
      refine Or.elim (Classical.em (0 < k)) (fun h0 => ?_) (fun h0 => ?_)
      · refine Or.elim (Classical.em (128 < sz)) (fun h1 => ?_) (fun h1 => ?_)
        · have hU := HUL.out h0 (.inl h1)
          have i1 : decide ((128 : Int) < (sz : Int)) = true := decide_eq_true (by omega)
          rw [hU] at HOX
          clear hU
          obtain ⟨g, c, rfl, hg, hc, hrow⟩ := HOX.out.row (by simp)
          have d0 := hrow.cell (i := 0) (u := .string (ofL acL)) rfl
          have hgl := hrow.len
          have e0 : (ofL acL).toList == [97, 99, 99, 101, 112, 116] := by rw [toList_ofL]; rfl
          have hmi := HQ.out
          clear hrow
          go_wp2_with fail
          refine (awake_any m w2 HM2.out).mono ?_
          rintro e w3 ⟨rfl, hb3⟩
          go_wp2_with fail
          go_ret
          exact hR _ _ ⟨rfl, HB2.out.trans (hb3.mono HB2.out.size)⟩
        · refine Or.elim (Classical.em (1024 < q)) (fun h2 => ?_) (fun h2 => ?_)
          · have hU := HUL.out h0 (.inr h2)
            have i1 : decide ((128 : Int) < (sz : Int)) = false := decide_eq_false (by omega)
            have i2 : decide ((1024 : Int) < (q : Int)) = true := decide_eq_true (by omega)
            rw [hU] at HOX
            clear hU
            obtain ⟨g, c, rfl, hg, hc, hrow⟩ := HOX.out.row (by simp)
            have d0 := hrow.cell (i := 0) (u := .string (ofL acL)) rfl
            have hgl := hrow.len
            have e0 : (ofL acL).toList == [97, 99, 99, 101, 112, 116] := by rw [toList_ofL]; rfl
            have hmi := HQ.out
            clear hrow
            go_wp2_with fail
            refine (awake_any m w2 HM2.out).mono ?_
            rintro e w3 ⟨rfl, hb3⟩
            go_wp2_with fail
            go_ret
            exact hR _ _ ⟨rfl, HB2.out.trans (hb3.mono HB2.out.size)⟩
          · have hU := HUN.out (fun e => by omega)
            have i1 : decide ((128 : Int) < (sz : Int)) = false := decide_eq_false (by omega)
            have i2 : decide ((1024 : Int) < (q : Int)) = false := decide_eq_false (by omega)
            rw [hU] at HOX
            clear hU
            obtain ⟨A, c, rfl, hc⟩ := HOX.out.slice
            have hmi := HQ.out
            go_wp2_with fail
            refine (awake_any m w2 HM2.out).mono ?_
            rintro e w3 ⟨rfl, hb3⟩
            go_wp2_with fail
            go_ret
            exact hR _ _ ⟨rfl, HB2.out.trans (hb3.mono HB2.out.size)⟩
      · have hU := HUN.out (fun e => by omega)
        rw [hU] at HOX
        clear hU
        obtain ⟨A, c, rfl, hc⟩ := HOX.out.slice
        have hmi := HQ.out
        go_wp2_with fail
        refine (awake_any m w2 HM2.out).mono ?_
        rintro e w3 ⟨rfl, hb3⟩
        go_wp2_with fail
        go_ret
        exact hR _ _ ⟨rfl, HB2.out.trans (hb3.mono HB2.out.size)⟩
theorem long_row {w : World} (n : Int) (_ : -9223372036854775808 ≤ n) (_ : n ≤ 9223372036854775807) (sz : Int) (_ : -9223372036854775808 ≤ sz) (_ : sz ≤ 9223372036854775807) (m : Int) (hm : MaxLen m w) :
    Calls Tryd.prog 5 #[.int .i64 n, .int .i64 sz] w fun e w' => e = .returned (.bool true) ∧ Below w.heap.size w w' := long_walk n sz m w hm
end Go.Proofs.YtnjkoegepjhklaaDoor.Asc
