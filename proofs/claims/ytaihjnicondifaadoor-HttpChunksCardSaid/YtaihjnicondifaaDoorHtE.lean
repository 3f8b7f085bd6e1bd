/-
  Contracts: a chunk's size, a request's line.
  Lengths within the rows' own reach; the library's MaxLen is a number.
-/
import Derived.Test.YtaihjnicondifaaDoorHtD
namespace Go.Proofs.YtaihjnicondifaaDoor.Asc
open Go Go.RowKit Go.Proofs.YtaihjnicondifaaDoor.Pb

section
variable {P : Program} {ops : Array Oper} {rest : List Oper} {d : Option Tmp} {ty : TypeId} {pos : String} {af : Array Edge} {a : Act} {Q : Exit → Act → World → Prop} {w w' : World}
theorem stop_min {args : Array Operand} {ts : Array TypeId} (h : Stopped (wpList P ops Q (⟨d, .call ⟨.builtin .min, args, ts⟩, ty, pos, af, none⟩ :: rest) a w)) :
    wpList P ops Q (⟨d, .call ⟨.builtin .min, args, ts⟩, ty, pos, af, none⟩ :: rest) a w := h.out
theorem wp_min {x y : Operand} {p q : Int} {ts : Array TypeId} (hx : a.eval x = .int .i64 p) (hy : a.eval y = .int .i64 q) (h : wpList P ops Q rest (a.put d (.int .i64 (min p q))) w) :
    wpList P ops Q (⟨d, .call ⟨.builtin .min, #[x, y], ts⟩, ty, pos, af, none⟩ :: rest) a w := by
  refine wp_val (exec_builtin (v := .int .i64 (min p q)) (w' := w) ?_) h
  have h1 : (Builtin.min_ ts ty #[.int .i64 p, .int .i64 q]).run P w = .ok (.int .i64 (if q < p then q else p)) w := run_min_int2 ..
  have h2 : (if q < p then q else p) = min p q := by omega
  rw [h2] at h1
  simp [builtin, hx, hy, h1]
end

theorem hexSum_snoc (l : List UInt8) (c : UInt8) : hexSum (l ++ [c]) = min (16 * hexSum l + hexN c) 2097152 := by
  unfold hexSum; rw [List.foldl_append]; rfl
theorem hexN_range (c : UInt8) : -1 ≤ hexN c ∧ hexN c ≤ 15 := by
  refine ⟨Lib.indexByte_ge _ _, ?_⟩
  by_cases h : hexN c = -1
  · omega
  · have hge := Lib.indexByte_ge hexB (lowerB c)
    obtain ⟨i, hi⟩ : ∃ i : Nat, Lib.indexByte hexB (lowerB c) = i := ⟨(Lib.indexByte hexB (lowerB c)).toNat, by unfold hexN at h; omega⟩
    obtain ⟨h1, _⟩ := Lib.indexByte_some hi
    have := (List.getElem?_eq_some_iff.1 h1).1
    unfold hexN; rw [hi]; simp [hexB] at this; omega
theorem hexSum_range (l : List UInt8) (h : ∀ x ∈ l, 0 ≤ hexN x) : 0 ≤ hexSum l ∧ hexSum l ≤ 2097152 := by
  have key : ∀ (l : List UInt8), (∀ x ∈ l, 0 ≤ hexN x) → ∀ n : Int, 0 ≤ n → n ≤ 2097152 → 0 ≤ l.foldl (fun n c => min (16 * n + hexN c) 2097152) n ∧ l.foldl (fun n c => min (16 * n + hexN c) 2097152) n ≤ 2097152 := by
    intro l
    induction l with
    | nil => intro _ n h1 h2; exact ⟨h1, h2⟩
    | cons c l ih =>
      intro h n h1 h2
      have := h c (by simp)
      exact ih (fun x hx => h x (List.mem_cons_of_mem _ hx)) _ (show 0 ≤ min (16 * n + hexN c) 2097152 by omega) (show min (16 * n + hexN c) 2097152 ≤ 2097152 by omega)
  exact key l h 0 (by omega) (by omega)


set_option maxHeartbeats 2000000 in
set_option maxRecDepth 20000 in
/-- a chunk's line -/
theorem size_any (w : World) (S : Nat → Prop) (b : Nat) (p : PS) (h : PAt w S b p) (s : ByteArray) (hs : s.size ≤ 1000000) (hz : 0 ≤ p.sizes ∧ p.sizes ≤ 1048576) (m : Int) (hm : w.cell? ⟨0, 0, none⟩ = some (.int .i64 m)) :
    Calls Tryd.prog 37 #[.pointer (some ⟨b, 0, none⟩), .string s] w fun e w' => Took (sizeN p (toL s)) S b w w' e := by
  refine calls_gen fun R hR => ?_
  have hml := World.block_lt_of_cell? w _ hm
  have HM := Lib.hid hm; have HML := Lib.hid hml
  have HLB : Hid (b < w.heap.size) := Lib.hid h.lt
  have HNS : Hid (¬ S b) := Lib.hid h.out
  have H := Lib.hid h.bnd
  clear hm hml h
  obtain ⟨w1, hw1⟩ : ∃ w1, w.alloc (.cells #[.int .i64 0, .string ⟨#[]⟩, .string ⟨#[]⟩, .slice none 0 0, .string ⟨#[]⟩, .bool false] 41) = w1 := ⟨_, rfl⟩
  have HW1 := Lib.hid hw1
  have HB1 : Hid (Below w.heap.size w w1) := Lib.hid (hw1 ▸ below_new w _)
  have HG1 : Hid (w1.heap[w.heap.size]? = some (.cells #[.int .i64 0, .string ⟨#[]⟩, .string ⟨#[]⟩, .slice none 0 0, .string ⟨#[]⟩, .bool false] 41 (0, 0))) := Lib.hid (hw1 ▸ blk_new w _)
  have HR1 : Hid (w.heap.size < w1.heap.size) := Lib.hid (blk_lt HG1.out)
  clear hw1
  have HPB : Hid (∀ wb, Below w.heap.size w wb → PAt wb (fun k => (S k ∨ w.heap.size ≤ k) ∧ k ≠ w.heap.size) b p) := Lib.hid (fun wb hb =>
    (H.out.below hb).mono (fun k _ h => ⟨.inl h.1, by have := h.2; omega⟩) (fun h => by
      rcases h.1 with h | h
      · exact HNS.out h
      · have := HLB.out; omega))
  go_enter Tryd.func37, Tryd.ntmps37
  go_wp2_with fail
  rw [HW1.out]
  refine (cutb_any s 59 m w1 hs ((HB1.out.cell (p := ⟨0, 0, none⟩) HML.out).trans HM.out)).mono ?_
  rintro e w2 ⟨rfl, n, hn⟩
  have HB2 : Hid (Below w1.heap.size w1 w2) := Lib.hid (hn ▸ (Below.refl _ _).drewN n)
  clear hn
  obtain ⟨N, hN⟩ : ∃ N, ofL (cutAt 59 (toL s)).1 = N := ⟨_, rfl⟩
  have hns : N.size ≤ 1000000 := by
    rw [← hN, ofL_size]
    have := cut_le 59 (toL s)
    rw [toL_len] at this; omega
  obtain ⟨T2, hT2⟩ : ∃ T, ofL (cutAt 59 (toL s)).2 = T := ⟨_, rfl⟩
  obtain ⟨q, hq⟩ : ∃ q, (toL s).contains 59 = q := ⟨_, rfl⟩
  rw [hN, hq, hT2]
  have HN := Lib.hid hN; have HQ := Lib.hid hq
  clear hN hq hT2
  go_upto_if 18 with fail
  go_cut [6] (fun v wc => ∃ X : ByteArray, v = .string X ∧ toL X = sizeT (toL s) ∧ X.size ≤ 1000000 ∧ Below w1.heap.size w1 wc)
  case first =>
    cases q with
    | true =>
      go_wp2_with fail
      refine (trimr_any N w2 hns).mono ?_
      rintro e w3 ⟨rfl, hb3⟩
      have HB3 := Lib.hid (HB2.out.trans (hb3.mono HB2.out.size))
      clear hb3
      go_wp2_with fail
      go_meet
      refine ⟨_, rfl, ?_, ?_, HB3.out⟩
      · unfold sizeT; rw [HQ.out, ← HN.out, toL_ofL, toL_ofL]; rfl
      · rw [ofL_size]; have : (trimR (toL N)).length ≤ (toL N).length := by
          unfold trimR; rw [List.length_reverse]; have := (List.dropWhile_sublist isTB (l := (toL N).reverse)).length_le; rwa [List.length_reverse] at this
        rw [toL_len] at this; omega
    | false =>
      go_wp2_with fail
      go_meet
      refine ⟨N, rfl, ?_, hns, HB2.out⟩
      unfold sizeT; rw [HQ.out, ← HN.out, toL_ofL, cutAt_none 59 (toL s) (fun hmem => by have := List.contains_iff_mem.2 hmem; rw [HQ.out] at this; cases this)]; rfl
  case rest =>
    obtain ⟨X, rfl, hX, hxs, hbc⟩ := hcut
    have HBC := Lib.hid hbc; have HX := Lib.hid hX
    have HSN : Hid (sizeN p (toL s) = if (toL X).isEmpty then (p, some (badI 400))
      else if (toL X).any (fun c => decide (hexN c < 0)) then (p, some (badI 400))
      else if p.sizes + hexSum (toL X) > 1048576 then ({ p with sizes := p.sizes + hexSum (toL X) }, some (badI 413))
      else ({ p with sizes := p.sizes + hexSum (toL X), state := if hexSum (toL X) == 0 then 7 else 4, left := hexSum (toL X) }, none)) := Lib.hid (by rw [hX]; rfl)
    clear hX hbc HN HQ
    have hd : (X.toList == []) = (toL X).isEmpty := by rw [toList_toL, isEmpty_beq]
    cases he : (toL X).isEmpty with
    | true =>
      rw [he] at hd HSN
      clear he
      rw [show sizeN p (toL s) = (p, some (badI 400)) from HSN.out] at hR
      go_wp2_with fail
      refine (bad_any wc 400).mono ?_
      rintro e w4 ⟨rfl, hb4⟩
      have HB4 := Lib.hid (HBC.out.trans (hb4.mono HBC.out.size))
      have HBW := Lib.hid (HB1.out.trans (HB4.out.mono HB1.out.size))
      clear hb4
      unfold itBad
      have gr : w4.heap[w.heap.size]? = some (.cells #[.int .i64 0, .string ⟨#[]⟩, .string ⟨#[]⟩, .slice none 0 0, .string ⟨#[]⟩, .bool false] 41 (0, 0)) := (HB4.out.block _ HR1.out).trans HG1.out
      have fr0 := blk_free gr 0
      have fr1 := blk_free gr 1
      have fr2 := blk_free gr 2
      have fr3 := blk_free gr 3
      have fr4 := blk_free gr 4
      have fr5 := blk_free gr 5
      obtain ⟨cr0, cr1, cr2, cr3, cr4, cr5⟩ := cell6 gr
      have hltr := blk_lt gr
      have GR := Lib.hid gr
      clear gr
      go_wp2_with fail
      have Z := cell6 (blk6 GR.out (.int .i64 400) (.string ⟨#[]⟩) (.string ⟨#[]⟩) (.slice none 0 0) (.string ⟨#[]⟩) (.bool false))
      unfold put6 at Z
      obtain ⟨z0, z1, z2, z3, z4, z5⟩ := Z
      exact bodyPost_ret (v := .tuple #[.agg #[.int .i64 400, .string ⟨#[]⟩, .string ⟨#[]⟩, .slice none 0 0, .string ⟨#[]⟩, .bool false], .bool true]) (by simp [results, Tryd.results37, go_sem, z0, z1, z2, z3, z4, z5]) rfl (hR _ _ (took_end (fv := .slice none 0 0) rfl HLB.out HNS.out (HPB.out _ HBW.out) (Keep.old HBW.out) (Own.nil _ _ _ _) (fun k h => by simp [Value.ownBlock] at h) rfl rfl rfl rfl rfl rfl))
    | false =>
      rw [he] at hd HSN
      clear he
      go_wp2_with fail
      go_loopw [9, 28] (fun n i wr => ∃ k : Nat, k ≤ X.size ∧ i = .int .i64 k ∧ n = .int .i64 (hexSum ((toL X).take k)) ∧ (∀ x ∈ (toL X).take k, 0 ≤ hexN x) ∧ Below w1.heap.size w1 wr) (fun _ i _ => X.size - (intOf i).toNat)
      case atStart => exact ⟨0, Nat.zero_le _, rfl, rfl, by simp, HBC.out⟩
      case round =>
        obtain ⟨k, hk, rfl, rfl, hnn, hbr⟩ := hrel
        have HNN := Lib.hid hnn; have HBR := Lib.hid hbr
        obtain ⟨r1, r2⟩ := hexSum_range _ hnn
        obtain ⟨u, hu⟩ : ∃ u, hexSum ((toL X).take k) = u := ⟨_, rfl⟩
        rw [hu] at r1 r2 ⊢
        have HU := Lib.hid hu
        clear hnn hbr hu
        by_cases hlt : k < X.size
        · have htk := Lib.hid (take_snoc X k hlt)
          have hmem : Hid (X[k] ∈ toL X) := Lib.hid (by rw [← toL_get X k hlt]; exact List.getElem_mem _)
          go_wp2_with fail
          refine (hex_any X[k] wr).mono ?_
          rintro e w3 ⟨rfl, hb3⟩
          obtain ⟨hv, hhv⟩ : ∃ hv, hexN X[k] = hv := ⟨_, rfl⟩
          have hrg := hexN_range X[k]
          rw [hhv] at hrg ⊢
          have HHV := Lib.hid hhv
          have HB3 := Lib.hid (HBR.out.trans (hb3.mono HBR.out.size))
          clear hb3 hhv
          obtain ⟨g1, g2⟩ := hrg
          by_cases hneg : hv < 0
          · have hany : (toL X).any (fun c => decide (hexN c < 0)) = true := List.any_eq_true.2 ⟨X[k], hmem.out, by rw [HHV.out]; exact decide_eq_true hneg⟩
            rw [show sizeN p (toL s) = (p, some (badI 400)) by rw [HSN.out, hany]; rfl] at hR
            clear hany
            go_wp2_with fail
            refine (bad_any w3 400).mono ?_
            rintro e w4 ⟨rfl, hb4⟩
            have HB4 := Lib.hid (HB3.out.trans (hb4.mono HB3.out.size))
            have HBW := Lib.hid (HB1.out.trans (HB4.out.mono HB1.out.size))
            clear hb4
            unfold itBad
            have gr : w4.heap[w.heap.size]? = some (.cells #[.int .i64 0, .string ⟨#[]⟩, .string ⟨#[]⟩, .slice none 0 0, .string ⟨#[]⟩, .bool false] 41 (0, 0)) := (HB4.out.block _ HR1.out).trans HG1.out
            have fr0 := blk_free gr 0
            have fr1 := blk_free gr 1
            have fr2 := blk_free gr 2
            have fr3 := blk_free gr 3
            have fr4 := blk_free gr 4
            have fr5 := blk_free gr 5
            obtain ⟨cr0, cr1, cr2, cr3, cr4, cr5⟩ := cell6 gr
            have hltr := blk_lt gr
            have GR := Lib.hid gr
            clear gr
            go_wp2_with fail
            have Z := cell6 (blk6 GR.out (.int .i64 400) (.string ⟨#[]⟩) (.string ⟨#[]⟩) (.slice none 0 0) (.string ⟨#[]⟩) (.bool false))
            unfold put6 at Z
            obtain ⟨z0, z1, z2, z3, z4, z5⟩ := Z
            exact bodyPost_ret (v := .tuple #[.agg #[.int .i64 400, .string ⟨#[]⟩, .string ⟨#[]⟩, .slice none 0 0, .string ⟨#[]⟩, .bool false], .bool true]) (by simp [results, Tryd.results37, go_sem, z0, z1, z2, z3, z4, z5]) rfl (hR _ _ (took_end (fv := .slice none 0 0) rfl HLB.out HNS.out (HPB.out _ HBW.out) (Keep.old HBW.out) (Own.nil _ _ _ _) (fun k h => by simp [Value.ownBlock] at h) rfl rfl rfl rfl rfl rfl))
          · go_wp2_with (with_reducible (refine stop_min ?_))
            refine ⟨wp_min (p := 16 * u + hv) (q := 2097152) rfl rfl ?_⟩
            go_wp2_with fail
            go_roundw
            case rel => exact ⟨k + 1, by omega, by go_num, by rw [htk.out, hexSum_snoc, HU.out, HHV.out], fun y hy => by
              rw [htk.out] at hy
              rcases List.mem_append.1 hy with hy | hy
              · exact HNN.out y hy
              · simp at hy; rw [hy, HHV.out]; omega, HB3.out⟩
            case measure => simp [intOf]; omega
        · obtain rfl : k = X.size := by omega
          rw [take_all] at HNN HU
          have hany : (toL X).any (fun c => decide (hexN c < 0)) = false := List.any_eq_false.2 fun x hx => by
            have := HNN.out x hx
            simp; omega
          have HSN2 : Hid (sizeN p (toL s) = if p.sizes + u > 1048576 then ({ p with sizes := p.sizes + u }, some (badI 413))
            else ({ p with sizes := p.sizes + u, state := if u == 0 then 7 else 4, left := u }, none)) := Lib.hid (by rw [HSN.out, hany, HU.out]; rfl)
          clear hany HSN HNN
          have HBW := Lib.hid (HB1.out.trans (HBR.out.mono HB1.out.size))
          obtain ⟨L, F, B, hp⟩ := H.out.below HBW.out
          have c3 := blk_cell hp.blk 3
          have c10 := blk_cell hp.blk 10
          have c12 := blk_cell hp.blk 12
          have f3 := blk_free hp.blk 3
          have f10 := blk_free hp.blk 10
          have f12 := blk_free hp.blk 12
          simp only [pcells, List.getElem?_toArray, List.getElem?_cons_zero, List.getElem?_cons_succ] at c3 c10 c12
          have hltb := blk_lt hp.blk
          have HP := Lib.hid hp
          clear hp
          have HMS : Hid (∀ k, ((S k ∧ k < w.heap.size) ∨ wr.heap.size ≤ k) → (S k ∨ w.heap.size ≤ k) ∧ k ≠ w.heap.size) := Lib.hid fun k h => by
            have h1 := HR1.out; have h2 := HBR.out.size
            rcases h with h | h
            · exact ⟨.inl h.1, by omega⟩
            · exact ⟨.inr (by omega), by omega⟩
          have HMN : Hid (¬ ((S b ∨ w.heap.size ≤ b) ∧ b ≠ w.heap.size)) := Lib.hid fun h => by
            have := HLB.out
            rcases h.1 with h | h
            · exact HNS.out h
            · omega
          have HGR : Hid (wr.heap[w.heap.size]? = _) := Lib.hid ((HBR.out.block _ HR1.out).trans HG1.out)
          have HRB : Hid (¬ (w.heap.size = b)) := Lib.hid fun e => by have := HLB.out; omega
          by_cases h413 : p.sizes + u > 1048576
          · rw [if_pos h413] at HSN2
            rw [HSN2.out] at hR
            clear HSN2
            go_wp2_with fail
            have k2 := ((Keep.refl (fun k => k = b) wr).set (p := ⟨b, 12, none⟩) rfl (.int .i64 (p.sizes + u)))
            have p2 := HP.out.scal (p' := { p with sizes := p.sizes + u }) k2 (blk_set HP.out.blk 12 (.int .i64 (p.sizes + u))) rfl rfl rfl
            refine (bad_any _ 413).mono ?_
            rintro e w4 ⟨rfl, hb4⟩
            have K2 := Lib.hid k2; have P2 := Lib.hid p2; have HB4 := Lib.hid hb4
            clear k2 p2 hb4
            unfold itBad
            have HK4 : Hid (Keep (fun k => S k ∨ k = b) w w4) := Lib.hid (((Keep.old HBW.out).trans K2.out fun i _ h => .inr h).trans (Keep.old (F := fun _ => False) HB4.out) fun i _ h => h.elim)
            have hrl := Nat.lt_of_lt_of_le HR1.out HBR.out.size
            have HGR4 := Lib.hid ((HB4.out.block _ (Nat.lt_of_lt_of_le hrl K2.out.size)).trans ((K2.out.block _ hrl HRB.out).trans HGR.out))
            have gr : w4.heap[w.heap.size]? = some (.cells #[.int .i64 0, .string ⟨#[]⟩, .string ⟨#[]⟩, .slice none 0 0, .string ⟨#[]⟩, .bool false] 41 (0, 0)) := HGR4.out
            have fr0 := blk_free gr 0
            have fr1 := blk_free gr 1
            have fr2 := blk_free gr 2
            have fr3 := blk_free gr 3
            have fr4 := blk_free gr 4
            have fr5 := blk_free gr 5
            obtain ⟨cr0, cr1, cr2, cr3, cr4, cr5⟩ := cell6 gr
            have hltr := blk_lt gr
            have GR := Lib.hid gr
            clear gr
            go_wp2_with fail
            have Z := cell6 (blk6 GR.out (.int .i64 413) (.string ⟨#[]⟩) (.string ⟨#[]⟩) (.slice none 0 0) (.string ⟨#[]⟩) (.bool false))
            unfold put6 at Z
            obtain ⟨z0, z1, z2, z3, z4, z5⟩ := Z
            exact bodyPost_ret (v := .tuple #[.agg #[.int .i64 413, .string ⟨#[]⟩, .string ⟨#[]⟩, .slice none 0 0, .string ⟨#[]⟩, .bool false], .bool true]) (by simp [results, Tryd.results37, go_sem, z0, z1, z2, z3, z4, z5]) rfl (hR _ _ (took_end (fv := .slice none 0 0) rfl HLB.out HNS.out ⟨_, _, _, (P2.out.below HB4.out).mono (fun k _ h => HMS.out k h) HMN.out⟩ HK4.out (Own.nil _ _ _ _) (fun k h => by simp [Value.ownBlock] at h) rfl rfl rfl rfl rfl rfl))
          · rw [if_neg h413] at HSN2
            cases hu0 : (u == 0) with
            | true =>
              rw [hu0] at HSN2
              rw [HSN2.out] at hR
              clear HSN2
              go_wp2_with fail
              have k2 := (((((Keep.refl (fun k => k = b) wr).set (p := ⟨b, 12, none⟩) rfl (.int .i64 (p.sizes + u))).set (p := ⟨b, 3, none⟩) rfl (.int .i64 4)).set (p := ⟨b, 10, none⟩) rfl (.int .i64 u)).set (p := ⟨b, 3, none⟩) rfl (.int .i64 7))
              have p2 := HP.out.scal (p' := { p with sizes := p.sizes + u, state := 7, left := u }) k2 (blk_set (blk_set (blk_set (blk_set HP.out.blk 12 (.int .i64 (p.sizes + u))) 3 (.int .i64 4)) 10 (.int .i64 u)) 3 (.int .i64 7)) rfl rfl rfl
              refine (none_any _).mono ?_
              rintro e w4 ⟨rfl, hb4⟩
              have K2 := Lib.hid k2; have P2 := Lib.hid p2; have HB4 := Lib.hid hb4
              clear k2 p2 hb4
              unfold itBad
              have HK4 : Hid (Keep (fun k => S k ∨ k = b) w w4) := Lib.hid (((Keep.old HBW.out).trans K2.out fun i _ h => .inr h).trans (Keep.old (F := fun _ => False) HB4.out) fun i _ h => h.elim)
              have hrl := Nat.lt_of_lt_of_le HR1.out HBR.out.size
              have HGR4 := Lib.hid ((HB4.out.block _ (Nat.lt_of_lt_of_le hrl K2.out.size)).trans ((K2.out.block _ hrl HRB.out).trans HGR.out))
              have gr : w4.heap[w.heap.size]? = some (.cells #[.int .i64 0, .string ⟨#[]⟩, .string ⟨#[]⟩, .slice none 0 0, .string ⟨#[]⟩, .bool false] 41 (0, 0)) := HGR4.out
              have fr0 := blk_free gr 0
              have fr1 := blk_free gr 1
              have fr2 := blk_free gr 2
              have fr3 := blk_free gr 3
              have fr4 := blk_free gr 4
              have fr5 := blk_free gr 5
              obtain ⟨cr0, cr1, cr2, cr3, cr4, cr5⟩ := cell6 gr
              have hltr := blk_lt gr
              have GR := Lib.hid gr
              clear gr
              go_wp2_with fail
              have Z := cell6 (blk6 GR.out (.int .i64 0) (.string ⟨#[]⟩) (.string ⟨#[]⟩) (.slice none 0 0) (.string ⟨#[]⟩) (.bool false))
              unfold put6 at Z
              obtain ⟨z0, z1, z2, z3, z4, z5⟩ := Z
              exact bodyPost_ret (v := .tuple #[.agg #[.int .i64 0, .string ⟨#[]⟩, .string ⟨#[]⟩, .slice none 0 0, .string ⟨#[]⟩, .bool false], .bool false]) (by simp [results, Tryd.results37, go_sem, z0, z1, z2, z3, z4, z5]) rfl (hR _ _ (took_end (fv := .slice none 0 0) rfl HLB.out HNS.out ⟨_, _, _, (P2.out.below HB4.out).mono (fun k _ h => HMS.out k h) HMN.out⟩ HK4.out (Own.nil _ _ _ _) (fun k h => by simp [Value.ownBlock] at h) rfl rfl rfl rfl rfl rfl))
            | false =>
              rw [hu0] at HSN2
              rw [HSN2.out] at hR
              clear HSN2
              go_wp2_with fail
              have k2 := ((((Keep.refl (fun k => k = b) wr).set (p := ⟨b, 12, none⟩) rfl (.int .i64 (p.sizes + u))).set (p := ⟨b, 3, none⟩) rfl (.int .i64 4)).set (p := ⟨b, 10, none⟩) rfl (.int .i64 u))
              have p2 := HP.out.scal (p' := { p with sizes := p.sizes + u, state := 4, left := u }) k2 (blk_set (blk_set (blk_set HP.out.blk 12 (.int .i64 (p.sizes + u))) 3 (.int .i64 4)) 10 (.int .i64 u)) rfl rfl rfl
              refine (none_any _).mono ?_
              rintro e w4 ⟨rfl, hb4⟩
              have K2 := Lib.hid k2; have P2 := Lib.hid p2; have HB4 := Lib.hid hb4
              clear k2 p2 hb4
              unfold itBad
              have HK4 : Hid (Keep (fun k => S k ∨ k = b) w w4) := Lib.hid (((Keep.old HBW.out).trans K2.out fun i _ h => .inr h).trans (Keep.old (F := fun _ => False) HB4.out) fun i _ h => h.elim)
              have hrl := Nat.lt_of_lt_of_le HR1.out HBR.out.size
              have HGR4 := Lib.hid ((HB4.out.block _ (Nat.lt_of_lt_of_le hrl K2.out.size)).trans ((K2.out.block _ hrl HRB.out).trans HGR.out))
              have gr : w4.heap[w.heap.size]? = some (.cells #[.int .i64 0, .string ⟨#[]⟩, .string ⟨#[]⟩, .slice none 0 0, .string ⟨#[]⟩, .bool false] 41 (0, 0)) := HGR4.out
              have fr0 := blk_free gr 0
              have fr1 := blk_free gr 1
              have fr2 := blk_free gr 2
              have fr3 := blk_free gr 3
              have fr4 := blk_free gr 4
              have fr5 := blk_free gr 5
              obtain ⟨cr0, cr1, cr2, cr3, cr4, cr5⟩ := cell6 gr
              have hltr := blk_lt gr
              have GR := Lib.hid gr
              clear gr
              go_wp2_with fail
              have Z := cell6 (blk6 GR.out (.int .i64 0) (.string ⟨#[]⟩) (.string ⟨#[]⟩) (.slice none 0 0) (.string ⟨#[]⟩) (.bool false))
              unfold put6 at Z
              obtain ⟨z0, z1, z2, z3, z4, z5⟩ := Z
              exact bodyPost_ret (v := .tuple #[.agg #[.int .i64 0, .string ⟨#[]⟩, .string ⟨#[]⟩, .slice none 0 0, .string ⟨#[]⟩, .bool false], .bool false]) (by simp [results, Tryd.results37, go_sem, z0, z1, z2, z3, z4, z5]) rfl (hR _ _ (took_end (fv := .slice none 0 0) rfl HLB.out HNS.out ⟨_, _, _, (P2.out.below HB4.out).mono (fun k _ h => HMS.out k h) HMN.out⟩ HK4.out (Own.nil _ _ _ _) (fun k h => by simp [Value.ownBlock] at h) rfl rfl rfl rfl rfl rfl))
end Go.Proofs.YtaihjnicondifaaDoor.Asc
