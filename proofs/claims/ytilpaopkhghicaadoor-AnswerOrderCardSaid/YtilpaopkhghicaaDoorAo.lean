/-
  The law parapetlaw27.AnswerOrder answers true.
  The library's MaxLen is a number.
-/
import Derived.Test.YtilpaopkhghicaaDoorAnZ
namespace Go.Proofs.YtilpaopkhghicaaDoor.Asc
open Go Go.RowKit Go.Proofs.YtilpaopkhghicaaDoor.Pb

theorem round_eq (k n : Int) (hn : 0 < n) : -n < k.tmod n ∧ k.tmod n < n ∧ (k.tmod n < 0 → k.tmod n + n = k % n) ∧ (¬ k.tmod n < 0 → k.tmod n = k % n) := by
  have h1 : k.tmod n < n := Int.tmod_lt_of_pos k hn
  have h2 : -n < k.tmod n := by
    have := Int.tmod_lt_of_pos (-k) hn
    rw [Int.neg_tmod] at this; omega
  have h3 : k % n = k.tmod n % n := by
    have := Int.mul_tdiv_add_tmod k n
    conv => lhs; rw [← this, Int.add_comm]
    exact Int.add_mul_emod_self_left _ _ _
  refine ⟨h2, h1, fun h => ?_, fun h => ?_⟩
  · rw [h3, ← Int.add_emod_right, Int.emod_eq_of_lt (by omega) (by omega)]
  · rw [h3, Int.emod_eq_of_lt (by omega) h1]
theorem round_any (k n : Int) (hn : 0 < n) (hb : n ≤ 1000000) (w : World) :
    Calls Tryd.prog 13 #[.int .i64 k, .int .i64 n] w fun e w' => e = .returned (.int .i64 (k % n)) ∧ w = w' := by
  refine calls_gen fun R hR => ?_
  obtain ⟨h2, h3, h4, h5⟩ := round_eq k n hn
  have H4 := Lib.hid h4; have H5 := Lib.hid h5
  clear h4 h5
  by_cases ht : k.tmod n < 0
  · have h6 := Lib.hid (H4.out ht)
    go_enter Tryd.func13, Tryd.ntmps13
    go_wp2_with fail
    go_ret
    refine hR _ _ ⟨?_, rfl⟩
    rw [← h6.out]; rfl
  · have h6 := Lib.hid (H5.out ht)
    go_enter Tryd.func13, Tryd.ntmps13
    go_wp2_with fail
    go_ret
    refine hR _ _ ⟨?_, rfl⟩
    rw [← h6.out]; rfl


theorem infoB : (Tryd.prog.info? 4).map (fun i => (i.zero, i.size, i.bytes)) = some (some (.bool false), 1, 1) := by kernel_rfl
/-- what is chosen by numbers, each once -/
def ordO (l : List Int) : List Nat := l.foldl (fun o x => if (x % 6).toNat ∈ o then o else o ++ [(x % 6).toNat]) []
theorem ordO_succ (l : List Int) (k : Nat) (x : Int) (h : l[k]? = some x) : ordO (l.take (k + 1)) = if (x % 6).toNat ∈ ordO (l.take k) then ordO (l.take k) else ordO (l.take k) ++ [(x % 6).toNat] := by
  unfold ordO
  rw [List.take_add_one, h, List.foldl_append]
  rfl
theorem ordO_facts (l : List Int) : ∀ k, k ≤ l.length → (ordO (l.take k)).Nodup ∧ (∀ j ∈ ordO (l.take k), j < 6) ∧ (ordO (l.take k)).length ≤ k ∧ (0 < k → ordO (l.take k) ≠ []) := by
  intro k
  induction k with
  | zero => intro _; simp [ordO]
  | succ k ih =>
    intro hk
    obtain ⟨h1, h2, h3, h4⟩ := ih (by omega)
    obtain ⟨x, hx⟩ : ∃ x, l[k]? = some x := ⟨_, List.getElem?_eq_getElem (by omega)⟩
    rw [ordO_succ l k x hx]
    have hx6 : (x % 6).toNat < 6 := by
      have := Int.emod_nonneg x (show (6 : Int) ≠ 0 by decide)
      have := Int.emod_lt_of_pos x (show (0 : Int) < 6 by decide)
      omega
    split
    · rename_i hm
      exact ⟨h1, h2, by omega, fun _ e => by rw [e] at hm; simp at hm⟩
    · rename_i hm
      refine ⟨?_, fun j hj => ?_, by rw [List.length_append]; simp; omega, fun _ e => by simp at e⟩
      · rw [List.nodup_append]
        exact ⟨h1, by simp, fun a ha b hb e => by
          rw [List.mem_singleton] at hb; rw [e, hb] at ha; exact hm ha⟩
      · rcases List.mem_append.1 hj with hj | hj
        · exact h2 j hj
        · rw [List.mem_singleton] at hj; rw [hj]; exact hx6
def metB (o : List Nat) : List Value := (List.range 6).map fun k => .bool (decide (k ∈ o))
theorem metB_get (o : List Nat) (k : Nat) (h : k < 6) : (metB o)[k]? = some (.bool (decide (k ∈ o))) := by
  unfold metB; rw [List.getElem?_map, List.getElem?_range h]; rfl
theorem metB_set (o : List Nat) (k : Nat) (h : k < 6) : (metB o).set k (.bool true) = metB (o ++ [k]) := by
  apply List.ext_getElem?
  intro i
  rw [List.getElem?_set]
  by_cases hi : i < 6
  · rw [metB_get _ i hi, metB_get _ i hi]
    have hl : (metB o).length = 6 := by simp [metB]
    by_cases e : k = i
    · rw [if_pos e, hl, if_pos h]
      simp [e]
    · rw [if_neg e]
      have : decide (i ∈ o ++ [k]) = decide (i ∈ o) := by
        rw [decide_eq_decide]
        simp only [List.mem_append, List.mem_singleton]
        exact ⟨fun h => h.resolve_right fun h => e h.symm, .inl⟩
      rw [this]
  · have h1 : ∀ o, (metB o)[i]? = none := fun o => by rw [List.getElem?_eq_none]; simp [metB]; omega
    rw [h1, h1]
    rw [if_neg (by omega)]
theorem ordL_add (tw : Bool) (o : List Nat) (k : Nat) : joinL (ordL tw (o ++ [k])) = joinL (ordL tw o) ++ ordW k ++ [10] ++ (if tw && o.isEmpty then ordW k ++ [10] else []) := by
  rw [ordL_snoc]
  cases o with
  | nil => cases tw <;> simp [ordL, joinL]
  | cons a o => simp [joinL]

set_option maxRecDepth 20000 in
set_option maxHeartbeats 8000000 in
theorem order_walk (l : List Int) (v : Value) (F : Nat → Prop) (tw : Bool) (m : Int) (w : World) (hm : MaxLen m w) (hv : View Rp.int w F l v) (hl : l.length ≤ 140737488351232) :
    Calls Tryd.prog 5 #[v, .bool tw] w fun e w' => e = .returned (.bool true) ∧ Below w.heap.size w w' := by
  refine calls_gen fun R hR => ?_
  obtain ⟨A, c, rfl, hcl, _⟩ := hv.open1
  have HM := Lib.hid hm; have HV := Lib.hid hv
  clear hm hv
  go_enter Tryd.func5, Tryd.ntmps5
  by_cases hbig : (l.length : Int) > 6
  · go_wp2_with fail
    refine (awake_any w m HM.out).mono ?_
    rintro e w9 ⟨rfl, hb9⟩
    go_wp2_with fail
    go_ret
    exact hR _ _ ⟨rfl, hb9⟩
  · have hmk : ∀ w : World, (Instr.makeSlice 37 (.int .i64 6) (.int .i64 6)).run Tryd.prog w = .ok (.slice (some ⟨w.heap.size, 0, none⟩) 6 6) (w.alloc (.cells #[.bool false, .bool false, .bool false, .bool false, .bool false, .bool false] 4)) := fun w => by
      have h := run_make_row' (P := Tryd.prog) 37 4 (.bool false) 1 Tryd.underlying37 infoB rfl .i64 .i64 6 (by decide) (by decide) w
      have e : madeCells #[Value.bool false] 6 = #[.bool false, .bool false, .bool false, .bool false, .bool false, .bool false] := by
        apply Array.ext
        · simp [madeCells]
        · intro i h1 h2
          have h6 : i < 6 := h2
          have hi : i = 0 ∨ i = 1 ∨ i = 2 ∨ i = 3 ∨ i = 4 ∨ i = 5 := by omega
          rcases hi with rfl | rfl | rfl | rfl | rfl | rfl <;> simp [madeCells]
      rw [e] at h
      exact h
    go_upto_region 5 with fail
    clear hmk
    obtain ⟨b, hb⟩ : ∃ b, w.heap.size + 1 = b := ⟨_, rfl⟩
    obtain ⟨w1, hw1⟩ : ∃ w1, (w.alloc (.cells #[.string ⟨#[100, 111, 99, 32, 104, 116, 116, 112, 58, 47, 47, 100, 47]⟩, .string ⟨#[100, 101, 115, 116, 32, 105, 109, 97, 103, 101]⟩, .string ⟨#[109, 101, 116, 104, 111, 100, 32, 80, 85, 84]⟩, .string ⟨#[99, 111, 114, 115]⟩, .string ⟨#[99, 114, 101, 100, 115]⟩, .string ⟨#[114, 101, 100, 105, 114, 101, 99, 116, 32, 55]⟩] 9)).alloc (.cells #[.bool false, .bool false, .bool false, .bool false, .bool false, .bool false] 4) = w1 := ⟨_, rfl⟩
    have HB1 : Hid (Below w.heap.size w w1) := Lib.hid (hw1 ▸ ((Below.refl w.heap.size w).alloc (Nat.le_refl _) _).alloc (by simp) _)
    have HWB : Hid (w1.heap[w.heap.size]? = some (.cells #[.string ⟨#[100, 111, 99, 32, 104, 116, 116, 112, 58, 47, 47, 100, 47]⟩, .string ⟨#[100, 101, 115, 116, 32, 105, 109, 97, 103, 101]⟩, .string ⟨#[109, 101, 116, 104, 111, 100, 32, 80, 85, 84]⟩, .string ⟨#[99, 111, 114, 115]⟩, .string ⟨#[99, 114, 101, 100, 115]⟩, .string ⟨#[114, 101, 100, 105, 114, 101, 99, 116, 32, 55]⟩] 9 (0, 0))) := Lib.hid (hw1 ▸ blk_past (blk_new w _))
    have HMB : Hid (w1.heap[b]? = some (.cells (metB []).toArray 4 (0, 0))) := Lib.hid (by
      have := blk_new (w.alloc (.cells #[.string ⟨#[100, 111, 99, 32, 104, 116, 116, 112, 58, 47, 47, 100, 47]⟩, .string ⟨#[100, 101, 115, 116, 32, 105, 109, 97, 103, 101]⟩, .string ⟨#[109, 101, 116, 104, 111, 100, 32, 80, 85, 84]⟩, .string ⟨#[99, 111, 114, 115]⟩, .string ⟨#[99, 114, 101, 100, 115]⟩, .string ⟨#[114, 101, 100, 105, 114, 101, 99, 116, 32, 55]⟩] 9)) (.cells #[.bool false, .bool false, .bool false, .bool false, .bool false, .bool false] 4)
      simp only [World.size_alloc] at this
      rw [hb] at this
      rw [← hw1]; exact this)
    have HNUM : Hid (w.heap.size + 1 = b ∧ b < w1.heap.size) := Lib.hid ⟨hb, blk_lt HMB.out⟩
    rw [hw1, hb]
    clear hw1 hb
    go_wp2_with fail
    go_loopw [7, 8] (fun sv i wr => ∃ (k : Nat) (S : ByteArray), k ≤ l.length ∧ sv = .string S ∧ i = .int .i64 k ∧ toL S = joinL (ordL tw (ordO (l.take k))) ∧ wr.heap[b]? = some (.cells (metB (ordO (l.take k))).toArray 4 (0, 0)) ∧ Keep (fun j => j = b) w1 wr)
      (fun _ i _ => l.length - (intOf i).toNat)
    case atStart => exact ⟨0, _, Nat.zero_le _, rfl, rfl, by show _ = joinL [urlL]; rfl, HMB.out, Keep.refl _ _⟩
    case round =>
      obtain ⟨k, S, hk, rfl, rfl, hS, hmb, hkp⟩ := hrel
      have HS := Lib.hid hS; have HMR := Lib.hid hmb; have HKP := Lib.hid hkp
      obtain ⟨f1, f2, f3, f4⟩ := ordO_facts l k hk
      have hss : S.size ≤ 112 := by
        rw [← toL_len, hS]
        have := ordL_len tw (ordO (l.take k)); omega
      have HF1 := Lib.hid f1; have HF2 := Lib.hid f2; have HF4 := Lib.hid f4; have HF3 := Lib.hid f3
      have HWR : Hid (wr.heap[w.heap.size]? = some (.cells #[.string ⟨#[100, 111, 99, 32, 104, 116, 116, 112, 58, 47, 47, 100, 47]⟩, .string ⟨#[100, 101, 115, 116, 32, 105, 109, 97, 103, 101]⟩, .string ⟨#[109, 101, 116, 104, 111, 100, 32, 80, 85, 84]⟩, .string ⟨#[99, 111, 114, 115]⟩, .string ⟨#[99, 114, 101, 100, 115]⟩, .string ⟨#[114, 101, 100, 105, 114, 101, 99, 116, 32, 55]⟩] 9 (0, 0))) := Lib.hid (hkp.blk HWB.out (by have := HNUM.out; omega))
      clear hS hmb hkp f1 f2 f3 f4
      by_cases hlt : k < l.length
      · obtain ⟨x, hx⟩ : ∃ x, l[k]? = some x := ⟨_, List.getElem?_eq_getElem hlt⟩
        have HT : Hid (ordO (l.take (k + 1)) = if (x % 6).toNat ∈ ordO (l.take k) then ordO (l.take k) else ordO (l.take k) ++ [(x % 6).toNat]) := Lib.hid (ordO_succ l k x hx)
        obtain ⟨A', c', e, _, hget⟩ := (HV.out.below HB1.out).open1
        cases e
        obtain ⟨g, off, rfl, hg, hgx⟩ := hget k hlt
        have hgs : g < w.heap.size := by
          obtain ⟨_, _, e', _, hget'⟩ := HV.out.open1
          cases e'
          obtain ⟨_, _, e'', h, _⟩ := hget' k hlt
          cases e''; exact h
        have d0 : wr.cell? ⟨g, off + k, none⟩ = some (.int .i64 x) := HKP.out.cell (hgx k x hx) (by have := HNUM.out; show ¬ g = b; omega)
        have hgr : g < wr.heap.size := Nat.lt_of_lt_of_le hg HKP.out.size
        clear hget hgx hx hg hgs
        have x0 := Int.emod_nonneg x (show (6 : Int) ≠ 0 by decide)
        have x6 := Int.emod_lt_of_pos x (show (0 : Int) < 6 by decide)
        go_wp2_with fail
        refine (round_any x 6 (by decide) (by decide) wr).mono ?_
        rintro e w2 ⟨rfl, hw2⟩
        rw [← hw2]
        obtain ⟨j, hj⟩ : ∃ j, (x % 6).toNat = j := ⟨_, rfl⟩
        have hxj : x % 6 = (j : Int) := by omega
        have hj6 : j < 6 := by omega
        rw [hj] at HT
        rw [hxj]
        clear hw2 hj hxj x0 x6 d0 hgr
        obtain ⟨o, ho⟩ : ∃ o, ordO (l.take k) = o := ⟨_, rfl⟩
        rw [ho] at HS HMR HF1 HF2 HF3 HF4 HT
        have HO := Lib.hid ho
        clear ho
        have cm : wr.cell? ⟨b, j, none⟩ = some (.bool (decide (j ∈ o))) := by
          have := blk_cell HMR.out j
          rw [List.getElem?_toArray, metB_get o j hj6] at this; exact this
        have cf := blk_free HMR.out j
        have hlb := blk_lt HMR.out
        have hlw := blk_lt HWR.out
        have hne1 : b ≠ w.heap.size := by have := HNUM.out; omega
        have hne2 : w.heap.size ≠ b := by have := HNUM.out; omega
        obtain ⟨W, hW⟩ : ∃ W, ofL (ordW j) = W := ⟨_, rfl⟩
        have cw : wr.cell? ⟨w.heap.size, j, none⟩ = some (.string W) := by
          rw [← hW]
          have hj : j = 0 ∨ j = 1 ∨ j = 2 ∨ j = 3 ∨ j = 4 ∨ j = 5 := by omega
          rcases hj with rfl | rfl | rfl | rfl | rfl | rfl
          · exact blk_cell HWR.out 0
          · exact blk_cell HWR.out 1
          · exact blk_cell HWR.out 2
          · exact blk_cell HWR.out 3
          · exact blk_cell HWR.out 4
          · exact blk_cell HWR.out 5
        have hws : W.size ≤ 13 := by rw [← hW, ofL_size]; exact (ordW_no j).2
        have HWW : Hid (toL W = ordW j) := Lib.hid (by rw [← hW, toL_ofL])
        have hj0 : (0 : Int) ≤ (j : Int) := by omega
        have hj1 : (j : Int) < 6 := by omega
        clear hW
        by_cases hmem : j ∈ o
        · rw [decide_eq_true hmem] at cm
          have HT2 : Hid (ordO (l.take (k + 1)) = o) := Lib.hid (by rw [HT.out, if_pos hmem])
          clear HT hmem
          go_wp2_with fail
          go_roundw
          case rel => exact ⟨k + 1, S, by omega, rfl, by go_num, by rw [HT2.out]; exact HS.out, by rw [HT2.out]; exact HMR.out, HKP.out⟩
          case measure => simp [intOf]; omega
        · rw [decide_eq_false hmem] at cm
          have HT2 : Hid (ordO (l.take (k + 1)) = o ++ [j]) := Lib.hid (by rw [HT.out, if_neg hmem])
          clear HT hmem
          have HSET : Hid ((wr.setCell ⟨b, j, none⟩ (.bool true)).heap[b]? = some (.cells (metB (o ++ [j])).toArray 4 (0, 0))) := Lib.hid (by
            have := blk_set HMR.out j (.bool true)
            rw [List.setIfInBounds_toArray, metB_set o j hj6] at this; exact this)
          have HKS : Hid (Keep (fun i => i = b) w1 (wr.setCell ⟨b, j, none⟩ (.bool true))) := Lib.hid (HKP.out.set (p := ⟨b, j, none⟩) rfl (.bool true))
          have hn1 : (⟨#[10]⟩ : ByteArray).size = 1 := rfl
          have hz : ((k : Int) == 0) = o.isEmpty := by
            by_cases hk0 : k = 0
            · subst hk0
              have : o = [] := by rw [← HO.out]; rfl
              rw [this]; rfl
            · have hne := HF4.out (by omega)
              have : o.isEmpty = false := by simpa using hne
              rw [this, beq_eq_false_iff_ne]; omega
          have HADD : Hid (joinL (ordL tw (o ++ [j])) = joinL (ordL tw o) ++ ordW j ++ [10] ++ (if tw && o.isEmpty then ordW j ++ [10] else [])) := Lib.hid (ordL_add tw o j)
          obtain ⟨oe, hoe⟩ : ∃ t, o.isEmpty = t := ⟨_, rfl⟩
          rw [hoe] at hz HADD
          clear hoe
          have hc1 : S.size + W.size ≤ 125 := by omega
          have hc2 : S.size + W.size + 1 ≤ 126 := by omega
          cases tw with
          | false =>
            go_wp2_with fail
            go_roundw
            case rel => exact ⟨k + 1, _, by omega, rfl, by go_num, by rw [HT2.out, HADD.out, toL_cat, toL_cat, HS.out, HWW.out]; simp [toL], by rw [HT2.out]; exact HSET.out, HKS.out⟩
            case measure => simp [intOf]; omega
          | true =>
            cases oe with
            | false =>
              go_wp2_with fail
              go_roundw
              case rel => exact ⟨k + 1, _, by omega, rfl, by go_num, by rw [HT2.out, HADD.out, toL_cat, toL_cat, HS.out, HWW.out]; simp [toL], by rw [HT2.out]; exact HSET.out, HKS.out⟩
              case measure => simp [intOf]; omega
            | true =>
              go_wp2_with fail
              go_roundw
              case rel => exact ⟨k + 1, _, by omega, rfl, by go_num, by rw [HT2.out, HADD.out, toL_cat, toL_cat, toL_cat, toL_cat, HS.out, HWW.out]; simp [toL], by rw [HT2.out]; exact HSET.out, HKS.out⟩
              case measure => simp [intOf]; omega
      · obtain rfl : k = l.length := by omega
        rw [List.take_length] at HS HMR HF1 HF2 HF3 HF4
        obtain ⟨o, ho⟩ : ∃ o, ordO l = o := ⟨_, rfl⟩
        rw [ho] at HS HMR HF1 HF2 HF3 HF4
        clear ho
        obtain ⟨m0, hm0⟩ : ∃ t, decide (0 ∈ o) = t := ⟨_, rfl⟩
        have HB0 := Lib.hid hm0
        have cm0 : wr.cell? ⟨b, 0, none⟩ = some (.bool m0) := by rw [← hm0]; exact blk_cell HMR.out 0
        clear hm0
        obtain ⟨m1, hm1⟩ : ∃ t, decide (1 ∈ o) = t := ⟨_, rfl⟩
        have HB1' := Lib.hid hm1
        have cm1 : wr.cell? ⟨b, 1, none⟩ = some (.bool m1) := by rw [← hm1]; exact blk_cell HMR.out 1
        clear hm1
        obtain ⟨m2, hm2⟩ : ∃ t, decide (2 ∈ o) = t := ⟨_, rfl⟩
        have HB2 := Lib.hid hm2
        have cm2 : wr.cell? ⟨b, 2, none⟩ = some (.bool m2) := by rw [← hm2]; exact blk_cell HMR.out 2
        clear hm2
        obtain ⟨m3, hm3⟩ : ∃ t, decide (3 ∈ o) = t := ⟨_, rfl⟩
        have HB3 := Lib.hid hm3
        have cm3 : wr.cell? ⟨b, 3, none⟩ = some (.bool m3) := by rw [← hm3]; exact blk_cell HMR.out 3
        clear hm3
        obtain ⟨m4, hm4⟩ : ∃ t, decide (4 ∈ o) = t := ⟨_, rfl⟩
        have HB4 := Lib.hid hm4
        have cm4 : wr.cell? ⟨b, 4, none⟩ = some (.bool m4) := by rw [← hm4]; exact blk_cell HMR.out 4
        clear hm4
        obtain ⟨m5, hm5⟩ : ∃ t, decide (5 ∈ o) = t := ⟨_, rfl⟩
        have HB5' := Lib.hid hm5
        have cm5 : wr.cell? ⟨b, 5, none⟩ = some (.bool m5) := by rw [← hm5]; exact blk_cell HMR.out 5
        clear hm5
        have hlb := blk_lt HMR.out
        go_upto_region 15 with fail
        go_cut [10] (fun v wc => v = .pointer (some ⟨wr.heap.size, 0, none⟩) ∧ wc.heap[wr.heap.size]? = some (.cells #[.string ⟨#[]⟩, .string ⟨#[104, 116, 116, 112, 58, 47, 47, 117, 47]⟩, .string ⟨#[]⟩, .string ⟨#[71, 69, 84]⟩, .bool m3, .bool m4, .int .i64 0, .slice none 0 0] 25 (0, 0)) ∧ Keep (fun _ => False) wr wc)
        case first =>
          go_region_law fail
          all_goals
            go_wp2_with fail
            go_meet
            refine ⟨rfl, ?_, ?_⟩
            · first
                | exact blk_new wr (.cells #[.string ⟨#[]⟩, .string ⟨#[104, 116, 116, 112, 58, 47, 47, 117, 47]⟩, .string ⟨#[]⟩, .string ⟨#[71, 69, 84]⟩, .bool m3, .bool m4, .int .i64 0, .slice none 0 0] 25)
                | (simp only [blk_new]; done)
                | (trace_state; sorry)
            · first
                | exact (Keep.alloc _ wr _).drew
                | exact (Keep.refl _ wr).drew.new _
                | exact Keep.alloc _ wr _
        case rest =>
        obtain ⟨rfl, hgz, hkz⟩ := hcut
        obtain ⟨w2, hw2⟩ : ∃ z, wc = z := ⟨_, rfl⟩
        rw [hw2] at hgz hkz ⊢
        clear hw2
        have HM2 : Hid (w2.heap[b]? = some (.cells (metB o).toArray 4 (0, 0))) := Lib.hid (hkz.blk HMR.out fun h => h)
        have HG2 := Lib.hid hgz
        have HK2 := Lib.hid hkz
        clear hgz hkz cm0 cm1 cm2 cm3 cm4 cm5 hlb
        obtain ⟨qb, hqb⟩ : ∃ q, wr.heap.size = q := ⟨_, rfl⟩
        rw [hqb] at HG2 ⊢
        have HQB : Hid (b ≠ qb ∧ b < qb) := Lib.hid (by have := blk_lt HMR.out; omega)
        have HQR := Lib.hid hqb
        clear hqb
        obtain ⟨D, hD⟩ : ∃ x : ByteArray, (if m0 = true then (⟨#[104, 116, 116, 112, 58, 47, 47, 100, 47]⟩ : ByteArray) else ⟨#[]⟩) = x := ⟨_, rfl⟩
        have HD := Lib.hid hD
        clear hD
        have cmx : w2.cell? ⟨b, 0, none⟩ = some (.bool m0) := by rw [← HB0.out]; exact blk_cell HM2.out 0
        have cqx := blk_cell HG2.out 0
        have cqf := blk_free HG2.out 0
        simp only [List.getElem?_toArray, List.getElem?_cons_zero, List.getElem?_cons_succ] at cqx
        have hlb := blk_lt HM2.out
        have hlq := blk_lt HG2.out
        go_upto_if 67 with fail
        go_cut [] (fun wc => wc.heap[qb]? = some (.cells #[.string D, .string ⟨#[104, 116, 116, 112, 58, 47, 47, 117, 47]⟩, .string ⟨#[]⟩, .string ⟨#[71, 69, 84]⟩, .bool m3, .bool m4, .int .i64 0, .slice none 0 0] 25 (0, 0)) ∧ Keep (fun i => i = qb) w2 wc)
        case first =>
          cases m0 with
          | true =>
            have e : (⟨#[104, 116, 116, 112, 58, 47, 47, 100, 47]⟩ : ByteArray) = D := HD.out
            have E := Lib.hid e
            clear e
            go_wp2_with fail
            go_meet
            rw [← E.out]
            exact ⟨blk_set HG2.out 0 _, (Keep.refl (fun i => i = qb) w2).set (p := ⟨qb, 0, none⟩) rfl _⟩
          | false =>
            have e : (⟨#[]⟩ : ByteArray) = D := HD.out
            have E := Lib.hid e
            clear e
            go_wp2_with fail
            go_meet
            rw [← E.out]
            exact ⟨HG2.out, Keep.refl _ _⟩
        case rest =>
          obtain ⟨hgx, hkx⟩ := hcut
          obtain ⟨wc0, hwx⟩ : ∃ z, wc = z := ⟨_, rfl⟩
          rw [hwx] at hgx hkx ⊢
          clear hwx cmx cqx cqf hlb hlq
          have HGwc0 := Lib.hid hgx
          have HMwc0 : Hid (wc0.heap[b]? = some (.cells (metB o).toArray 4 (0, 0))) := Lib.hid (hkx.blk HM2.out (fun h => HQB.out.1 h))
          have HKwc0 := Lib.hid hkx
          clear hgx hkx
          obtain ⟨I, hI⟩ : ∃ x : ByteArray, (if m1 = true then (⟨#[105, 109, 97, 103, 101]⟩ : ByteArray) else ⟨#[]⟩) = x := ⟨_, rfl⟩
          have HI := Lib.hid hI
          clear hI
          have cmx : wc0.cell? ⟨b, 1, none⟩ = some (.bool m1) := by rw [← HB1'.out]; exact blk_cell HMwc0.out 1
          have cqx := blk_cell HGwc0.out 2
          have cqf := blk_free HGwc0.out 2
          simp only [List.getElem?_toArray, List.getElem?_cons_zero, List.getElem?_cons_succ] at cqx
          have hlb := blk_lt HMwc0.out
          have hlq := blk_lt HGwc0.out
          go_upto_if 71 with fail
          go_cut [] (fun wc => wc.heap[qb]? = some (.cells #[.string D, .string ⟨#[104, 116, 116, 112, 58, 47, 47, 117, 47]⟩, .string I, .string ⟨#[71, 69, 84]⟩, .bool m3, .bool m4, .int .i64 0, .slice none 0 0] 25 (0, 0)) ∧ Keep (fun i => i = qb) wc0 wc)
          case first =>
            cases m1 with
            | true =>
              have e : (⟨#[105, 109, 97, 103, 101]⟩ : ByteArray) = I := HI.out
              have E := Lib.hid e
              clear e
              go_wp2_with fail
              go_meet
              rw [← E.out]
              exact ⟨blk_set HGwc0.out 2 _, (Keep.refl (fun i => i = qb) wc0).set (p := ⟨qb, 2, none⟩) rfl _⟩
            | false =>
              have e : (⟨#[]⟩ : ByteArray) = I := HI.out
              have E := Lib.hid e
              clear e
              go_wp2_with fail
              go_meet
              rw [← E.out]
              exact ⟨HGwc0.out, Keep.refl _ _⟩
          case rest =>
            obtain ⟨hgx, hkx⟩ := hcut
            obtain ⟨wc1, hwx⟩ : ∃ z, wc = z := ⟨_, rfl⟩
            rw [hwx] at hgx hkx ⊢
            clear hwx cmx cqx cqf hlb hlq
            have HGwc1 := Lib.hid hgx
            have HMwc1 : Hid (wc1.heap[b]? = some (.cells (metB o).toArray 4 (0, 0))) := Lib.hid (hkx.blk HMwc0.out (fun h => HQB.out.1 h))
            have HKwc1 := Lib.hid hkx
            clear hgx hkx
            obtain ⟨P, hP⟩ : ∃ x : ByteArray, (if m2 = true then (⟨#[80, 85, 84]⟩ : ByteArray) else ⟨#[71, 69, 84]⟩) = x := ⟨_, rfl⟩
            have HP := Lib.hid hP
            clear hP
            have cmx : wc1.cell? ⟨b, 2, none⟩ = some (.bool m2) := by rw [← HB2.out]; exact blk_cell HMwc1.out 2
            have cqx := blk_cell HGwc1.out 3
            have cqf := blk_free HGwc1.out 3
            simp only [List.getElem?_toArray, List.getElem?_cons_zero, List.getElem?_cons_succ] at cqx
            have hlb := blk_lt HMwc1.out
            have hlq := blk_lt HGwc1.out
            go_upto_if 75 with fail
            go_cut [] (fun wc => wc.heap[qb]? = some (.cells #[.string D, .string ⟨#[104, 116, 116, 112, 58, 47, 47, 117, 47]⟩, .string I, .string P, .bool m3, .bool m4, .int .i64 0, .slice none 0 0] 25 (0, 0)) ∧ Keep (fun i => i = qb) wc1 wc)
            case first =>
              cases m2 with
              | true =>
                have e : (⟨#[80, 85, 84]⟩ : ByteArray) = P := HP.out
                have E := Lib.hid e
                clear e
                go_wp2_with fail
                go_meet
                rw [← E.out]
                exact ⟨blk_set HGwc1.out 3 _, (Keep.refl (fun i => i = qb) wc1).set (p := ⟨qb, 3, none⟩) rfl _⟩
              | false =>
                have e : (⟨#[71, 69, 84]⟩ : ByteArray) = P := HP.out
                have E := Lib.hid e
                clear e
                go_wp2_with fail
                go_meet
                rw [← E.out]
                exact ⟨HGwc1.out, Keep.refl _ _⟩
            case rest =>
              obtain ⟨hgx, hkx⟩ := hcut
              obtain ⟨wc2, hwx⟩ : ∃ z, wc = z := ⟨_, rfl⟩
              rw [hwx] at hgx hkx ⊢
              clear hwx cmx cqx cqf hlb hlq
              have HGwc2 := Lib.hid hgx
              have HMwc2 : Hid (wc2.heap[b]? = some (.cells (metB o).toArray 4 (0, 0))) := Lib.hid (hkx.blk HMwc1.out (fun h => HQB.out.1 h))
              have HKwc2 := Lib.hid hkx
              clear hgx hkx
              obtain ⟨N, hN⟩ : ∃ x : Int, (if m5 = true then (7 : Int) else 0) = x := ⟨_, rfl⟩
              have HN := Lib.hid hN
              clear hN
              have cmx : wc2.cell? ⟨b, 5, none⟩ = some (.bool m5) := by rw [← HB5'.out]; exact blk_cell HMwc2.out 5
              have cqx := blk_cell HGwc2.out 6
              have cqf := blk_free HGwc2.out 6
              simp only [List.getElem?_toArray, List.getElem?_cons_zero, List.getElem?_cons_succ] at cqx
              have hlb := blk_lt HMwc2.out
              have hlq := blk_lt HGwc2.out
              go_upto_if 79 with fail
              go_cut [] (fun wc => wc.heap[qb]? = some (.cells #[.string D, .string ⟨#[104, 116, 116, 112, 58, 47, 47, 117, 47]⟩, .string I, .string P, .bool m3, .bool m4, .int .i64 N, .slice none 0 0] 25 (0, 0)) ∧ Keep (fun i => i = qb) wc2 wc)
              case first =>
                cases m5 with
                | true =>
                  have e : (7 : Int) = N := HN.out
                  have E := Lib.hid e
                  clear e
                  go_wp2_with fail
                  go_meet
                  rw [← E.out]
                  exact ⟨blk_set HGwc2.out 6 _, (Keep.refl (fun i => i = qb) wc2).set (p := ⟨qb, 6, none⟩) rfl _⟩
                | false =>
                  have e : (0 : Int) = N := HN.out
                  have E := Lib.hid e
                  clear e
                  go_wp2_with fail
                  go_meet
                  rw [← E.out]
                  exact ⟨HGwc2.out, Keep.refl _ _⟩
              case rest =>
                obtain ⟨hgx, hkx⟩ := hcut
                obtain ⟨wc5, hwx⟩ : ∃ z, wc = z := ⟨_, rfl⟩
                rw [hwx] at hgx hkx ⊢
                clear hwx cmx cqx cqf hlb hlq
                have HGwc5 := Lib.hid hgx
                have HMwc5 : Hid (wc5.heap[b]? = some (.cells (metB o).toArray 4 (0, 0))) := Lib.hid (hkx.blk HMwc2.out (fun h => HQB.out.1 h))
                have HKwc5 := Lib.hid hkx
                clear hgx hkx
                have HKQ : Hid (Keep (fun i => b ≤ i) w1 wc5) := Lib.hid ((((((HKP.out.mono (fun i _ h => show b ≤ i by omega)).trans HK2.out fun i _ h => h.elim).trans HKwc0.out fun i _ h => by have := HQB.out; omega).trans HKwc1.out fun i _ h => by have := HQB.out; omega).trans HKwc2.out fun i _ h => by have := HQB.out; omega).trans HKwc5.out fun i _ h => by have := HQB.out; omega)
                have HBX : Hid (Below w.heap.size w wc5) := Lib.hid (HB1.out.trans (HKQ.out.below HB1.out.size fun i _ h => by have := HNUM.out; omega))
                have HWANT : Hid (ordQ o = { doc := toL D, url := tU, dest := toL I, meth := toL P, cors := m3, creds := m4, redir := N }) := Lib.hid (by
                  have e0 : toL D = if 0 ∈ o then tD else [] := by
                    rw [← HD.out, ← HB0.out]; by_cases h : 0 ∈ o <;> simp [h] <;> rfl
                  have e1 : toL I = if 1 ∈ o then tI else [] := by
                    rw [← HI.out, ← HB1'.out]; by_cases h : 1 ∈ o <;> simp [h] <;> rfl
                  have e2 : toL P = if 2 ∈ o then tP else wGet := by
                    rw [← HP.out, ← HB2.out]; by_cases h : 2 ∈ o <;> simp [h] <;> rfl
                  have e5 : N = if 5 ∈ o then 7 else 0 := by
                    rw [← HN.out, ← HB5'.out]; by_cases h : 5 ∈ o <;> simp [h]
                  rw [e0, e1, e2, e5, ← HB3.out, ← HB4.out]; rfl)
                have hss : S.size ≤ 112 := by
                  rw [← toL_len, HS.out]
                  have := ordL_len tw o; have := HF3.out; omega
                have HQRY : Hid (tw = false ∨ l.length = 0 → queryN (toL S) = (ordQ o, 0)) := Lib.hid fun h => by
                  have e : ordL tw o = ordL false o := by
                    rcases h with h | h
                    · rw [h]
                    · have : o = [] := List.length_eq_zero_iff.1 (by have := HF3.out; omega)
                      rw [this]; rfl
                  rw [HS.out, e]
                  exact ord_query o HF1.out HF2.out (by have := HF3.out; omega)
                have HTWI : Hid (tw = true → 0 < l.length → (queryN (toL S)).2 = 8) := Lib.hid fun h1 h2 => by
                  rw [HS.out, h1]
                  have h3 := HF4.out h2
                  have h4 := HF2.out
                  cases ho : o with
                  | nil => exact (h3 ho).elim
                  | cons a r => exact ord_twice a r (h4 a (by rw [ho]; simp))
                have HCO : Hid (queryN (toL (⟨#[99, 111, 114, 115, 10]⟩ ++ S)) = ({}, 8)) := Lib.hid (by
                  rw [toL_cat]
                  unfold queryN
                  rw [if_pos (by simp [toL])])
                clear HB0 HB1' HB2 HB3 HB4 HB5' HS HF1 HF2 HF4
                go_wp2_with fail
                refine (query_any S (by omega) m wc5 (HM.out.below HBX.out)).mono ?_
                rintro e w6 ⟨fv, rfl, hv6, hb6⟩
                have hqh := query_hds (toL S)
                rw [toL_len] at hqh
                obtain ⟨⟨q, n⟩, hq⟩ : ∃ x, queryN (toL S) = x := ⟨_, rfl⟩
                rw [hq] at hv6 hqh HQRY HTWI ⊢
                clear hq
                dsimp only at hv6 hqh HTWI ⊢
                obtain ⟨VA, VC, rfl, _, _⟩ := flds_get hv6
                have HV6 := Lib.hid hv6; have HB6 := Lib.hid hb6
                clear hv6 hb6
                obtain ⟨w7, hw7⟩ : ∃ w7, w6.alloc (.cells #[.string (ofL q.doc), .string (ofL q.url), .string (ofL q.dest), .string (ofL q.meth), .bool q.cors, .bool q.creds, .int .i64 q.redir, .slice VA q.hds.length VC] 25) = w7 := ⟨_, rfl⟩
                have HW7 := Lib.hid hw7
                have HN7 : Hid (Below w6.heap.size w6 w7) := Lib.hid (hw7 ▸ below_new w6 _)
                have HG7 : Hid (w7.heap[w6.heap.size]? = some (.cells #[.string (ofL q.doc), .string (ofL q.url), .string (ofL q.dest), .string (ofL q.meth), .bool q.cors, .bool q.creds, .int .i64 q.redir, .slice VA q.hds.length VC] 25 (0, 0))) := Lib.hid (hw7 ▸ blk_new w6 _)
                have HB7 : Hid (Below wc5.heap.size wc5 w7) := Lib.hid (HB6.out.trans (HN7.out.mono HB6.out.size))
                have HV7 : Hid (View fld w7 (fun _ => True) q.hds (.slice VA q.hds.length VC)) := Lib.hid (HV6.out.below HN7.out)
                clear hw7 HV6
                unfold agg8
                go_upto_region 25 with fail
                rw [HW7.out]
                have hcs : (⟨#[99, 111, 114, 115, 10]⟩ : ByteArray).size = 5 := rfl
                obtain ⟨Z, hZ⟩ : ∃ Z, (⟨#[99, 111, 114, 115, 10]⟩ : ByteArray) ++ S = Z := ⟨_, rfl⟩
                have hzs : Z.size ≤ 200 := by rw [← hZ, ByteArray.size_append, hcs]; omega
                rw [hZ] at HCO
                have HMZ : Hid (MaxLen m w7) := Lib.hid (HM.out.below (HBX.out.trans (HB7.out.mono HBX.out.size)))
                have HZQ : Hid (Calls Tryd.prog 10 #[.string Z] w7 fun e w' => ∃ fv, e = .returned (.tuple #[agg8 {} fv, .int .i64 8]) ∧ View fld w' (fun _ => True) [] fv ∧ Below w7.heap.size w7 w') := Lib.hid (by
                  have h := query_any Z (by omega) m w7 HMZ.out
                  rw [HCO.out] at h; exact h)
                have HZZ := Lib.hid hZ
                clear hZ
                go_wp2_with fail
                rw [HZZ.out]
                refine HZQ.out.mono ?_
                rintro e w8 ⟨fu, rfl, hv8, hb8⟩
                obtain ⟨UA, UC, rfl, _, _⟩ := flds_get hv8
                have HB8 : Hid (Below wc5.heap.size wc5 w8) := Lib.hid (HB7.out.trans (hb8.mono HB7.out.size))
                have HG8 : Hid (w8.heap[w6.heap.size]? = some (.cells #[.string (ofL q.doc), .string (ofL q.url), .string (ofL q.dest), .string (ofL q.meth), .bool q.cors, .bool q.creds, .int .i64 q.redir, .slice VA q.hds.length VC] 25 (0, 0))) := Lib.hid ((hb8.block _ (blk_lt HG7.out)).trans HG7.out)
                have HV8 : Hid (View fld w8 (fun _ => True) q.hds (.slice VA q.hds.length VC)) := Lib.hid (HV7.out.below hb8)
                clear hv8 hb8 hcs
                obtain ⟨w9, hw9⟩ : ∃ w9, w8.alloc (.cells #[.string (ofL []), .string (ofL []), .string (ofL []), .string (ofL []), .bool false, .bool false, .int .i64 0, .slice UA 0 UC] 25) = w9 := ⟨_, rfl⟩
                have HW9 := Lib.hid hw9
                have HN9 : Hid (Below w8.heap.size w8 w9) := Lib.hid (hw9 ▸ below_new w8 _)
                have HB9 : Hid (Below wc5.heap.size wc5 w9) := Lib.hid (HB8.out.trans (HN9.out.mono HB8.out.size))
                have HG9 : Hid (w9.heap[w6.heap.size]? = some (.cells #[.string (ofL q.doc), .string (ofL q.url), .string (ofL q.dest), .string (ofL q.meth), .bool q.cors, .bool q.creds, .int .i64 q.redir, .slice VA q.hds.length VC] 25 (0, 0))) := Lib.hid ((HN9.out.block _ (blk_lt HG8.out)).trans HG8.out)
                have HV9 : Hid (View fld w9 (fun _ => True) q.hds (.slice VA q.hds.length VC)) := Lib.hid (HV8.out.below HN9.out)
                have HX9 : Hid (w9.heap[qb]? = some (.cells #[.string D, .string ⟨#[104, 116, 116, 112, 58, 47, 47, 117, 47]⟩, .string I, .string P, .bool m3, .bool m4, .int .i64 N, .slice none 0 0] 25 (0, 0))) := Lib.hid ((HB9.out.block _ (blk_lt HGwc5.out)).trans HGwc5.out)
                have HBW : Hid (Below w.heap.size w w9) := Lib.hid (HBX.out.trans (HB9.out.mono HBX.out.size))
                clear hw9
                unfold agg8
                dsimp only
                go_upto_region 26 with fail
                rw [HW9.out]
                cases tw with
                | true =>
                  by_cases hl0 : l.length = 0
                  · have hli : ¬ (l.length : Int) > 0 := by omega
                    have hqe := HQRY.out (.inr hl0)
                    obtain ⟨rfl, rfl⟩ := Prod.mk.inj hqe
                    clear hqe
                    obtain ⟨a0, a1, a2, a3, a4, a5, a6, a7⟩ := cell8 HG9.out
                    obtain ⟨b0, b1, b2, b3, b4, b5, b6, b7⟩ := cell8 HX9.out
                    have hlx := blk_lt HG9.out
                    have hly := blk_lt HX9.out
                    have HSQ : Hid (Calls Tryd.prog 12 #[.agg #[.string (ofL (ordQ o).doc), .string (ofL (ordQ o).url), .string (ofL (ordQ o).dest), .string (ofL (ordQ o).meth), .bool (ordQ o).cors, .bool (ordQ o).creds, .int .i64 (ordQ o).redir, .slice VA (ordQ o).hds.length VC], .agg #[.string D, .string ⟨#[104, 116, 116, 112, 58, 47, 47, 117, 47]⟩, .string I, .string P, .bool m3, .bool m4, .int .i64 N, .slice none 0 0]] w9 fun e w' => e = .returned (.bool true) ∧ Below w9.heap.size w9 w') := Lib.hid (by
                      have h := sameq_any w9 (ordQ o) (by show (0 : Nat) ≤ 1000000; decide) (.slice VA (ordQ o).hds.length VC) (.slice none 0 0) _ (fun _ => True) HV9.out (View.nil _ _ _)
                      unfold agg8 at h
                      have e : (Value.agg #[.string (ofL (ordQ o).doc), .string (ofL (ordQ o).url), .string (ofL (ordQ o).dest), .string (ofL (ordQ o).meth), .bool (ordQ o).cors, .bool (ordQ o).creds, .int .i64 (ordQ o).redir, .slice none 0 0]) = .agg #[.string D, .string ⟨#[104, 116, 116, 112, 58, 47, 47, 117, 47]⟩, .string I, .string P, .bool m3, .bool m4, .int .i64 N, .slice none 0 0] := by
                        rw [HWANT.out]
                        dsimp only
                        rw [ofL_toL, ofL_toL, ofL_toL]
                        rfl
                      rw [e] at h
                      exact h)
                    go_wp2_with fail
                    refine HSQ.out.mono ?_
                    rintro e wg ⟨rfl, hbg⟩
                    have HBG : Hid (Below w.heap.size w wg) := Lib.hid (HBW.out.trans (hbg.mono HBW.out.size))
                    clear a0 a1 a2 a3 a4 a5 a6 a7 b0 b1 b2 b3 b4 b5 b6 b7 hbg hlx hly
                    go_wp2_with fail
                    refine (awake_any wg m (HM.out.below HBG.out)).mono ?_
                    rintro e wf ⟨rfl, hbf⟩
                    go_wp2_with fail
                    go_ret
                    exact hR _ _ ⟨rfl, HBG.out.trans (hbf.mono HBG.out.size)⟩
                  · have hli : (l.length : Int) > 0 := by omega
                    have hn8 := HTWI.out rfl (by omega)
                    subst hn8
                    go_wp2_with fail
                    refine (awake_any w9 m (HM.out.below HBW.out)).mono ?_
                    rintro e wf ⟨rfl, hbf⟩
                    go_wp2_with fail
                    go_ret
                    exact hR _ _ ⟨rfl, HBW.out.trans (hbf.mono HBW.out.size)⟩
                | false =>
                  have hqe := HQRY.out (.inl rfl)
                  obtain ⟨rfl, rfl⟩ := Prod.mk.inj hqe
                  clear hqe
                  obtain ⟨a0, a1, a2, a3, a4, a5, a6, a7⟩ := cell8 HG9.out
                  obtain ⟨b0, b1, b2, b3, b4, b5, b6, b7⟩ := cell8 HX9.out
                  have hlx := blk_lt HG9.out
                  have hly := blk_lt HX9.out
                  have HSQ : Hid (Calls Tryd.prog 12 #[.agg #[.string (ofL (ordQ o).doc), .string (ofL (ordQ o).url), .string (ofL (ordQ o).dest), .string (ofL (ordQ o).meth), .bool (ordQ o).cors, .bool (ordQ o).creds, .int .i64 (ordQ o).redir, .slice VA (ordQ o).hds.length VC], .agg #[.string D, .string ⟨#[104, 116, 116, 112, 58, 47, 47, 117, 47]⟩, .string I, .string P, .bool m3, .bool m4, .int .i64 N, .slice none 0 0]] w9 fun e w' => e = .returned (.bool true) ∧ Below w9.heap.size w9 w') := Lib.hid (by
                    have h := sameq_any w9 (ordQ o) (by show (0 : Nat) ≤ 1000000; decide) (.slice VA (ordQ o).hds.length VC) (.slice none 0 0) _ (fun _ => True) HV9.out (View.nil _ _ _)
                    unfold agg8 at h
                    have e : (Value.agg #[.string (ofL (ordQ o).doc), .string (ofL (ordQ o).url), .string (ofL (ordQ o).dest), .string (ofL (ordQ o).meth), .bool (ordQ o).cors, .bool (ordQ o).creds, .int .i64 (ordQ o).redir, .slice none 0 0]) = .agg #[.string D, .string ⟨#[104, 116, 116, 112, 58, 47, 47, 117, 47]⟩, .string I, .string P, .bool m3, .bool m4, .int .i64 N, .slice none 0 0] := by
                      rw [HWANT.out]
                      dsimp only
                      rw [ofL_toL, ofL_toL, ofL_toL]
                      rfl
                    rw [e] at h
                    exact h)
                  go_wp2_with fail
                  refine HSQ.out.mono ?_
                  rintro e wg ⟨rfl, hbg⟩
                  have HBG : Hid (Below w.heap.size w wg) := Lib.hid (HBW.out.trans (hbg.mono HBW.out.size))
                  clear a0 a1 a2 a3 a4 a5 a6 a7 b0 b1 b2 b3 b4 b5 b6 b7 hbg hlx hly
                  go_wp2_with fail
                  refine (awake_any wg m (HM.out.below HBG.out)).mono ?_
                  rintro e wf ⟨rfl, hbf⟩
                  go_wp2_with fail
                  go_ret
                  exact hR _ _ ⟨rfl, HBG.out.trans (hbf.mono HBG.out.size)⟩

theorem order_row {w : World} (l : List Int) (v : Value) (F : Nat → Prop) (hb : l.length * Tryd.prog.bytesOf 3 ≤ 140737488351232 ∧ ∀ x ∈ l, -9223372036854775808 ≤ x ∧ x ≤ 9223372036854775807) (hv : View Rp.int w F l v) (tw : Bool) (m : Int) (hm : MaxLen m w) :
    Calls Tryd.prog 5 #[v, .bool tw] w fun e w' => e = .returned (.bool true) ∧ Below w.heap.size w w' :=
  order_walk l v F tw m w hm hv (by have := hb.1; rw [show Tryd.prog.bytesOf 3 = 8 by kernel_rfl] at this; omega)

end Go.Proofs.YtilpaopkhghicaaDoor.Asc
