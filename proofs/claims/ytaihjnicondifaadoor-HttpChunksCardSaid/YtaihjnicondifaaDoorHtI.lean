/-
  Contract: a request that has ended.
-/
import Derived.Test.YtaihjnicondifaaDoorHtG
namespace Go.Proofs.YtaihjnicondifaaDoor.Asc
open Go Go.RowKit Go.Proofs.YtaihjnicondifaaDoor.Pb
/-- the end of a method: the Item is stored into the variable r, made at the method's start -/
theorem took_end2 {w wb : World} {S : Nat → Prop} {b r : Nat} {p' : PS} {o : Option It} {fv : Value} (hr : w.heap.size ≤ r) (hb : b < w.heap.size) (hS : ¬ S b) (hp : PAt wb (fun k => (S k ∨ w.heap.size ≤ k) ∧ k ≠ r) b p') (hk : Keep (fun k => S k ∨ k = b) w wb)
    (ho : Own fld 71 wb (fun k => fv.ownBlock = some k) (o.getD (badI 0)).flds fv) (hf : ∀ k, fv.ownBlock = some k → (S k ∨ w.heap.size ≤ k) ∧ k ≠ r) {v0 v1 v2 v4 v5 : Value} {c : Bool} (hc : c = o.isSome)
    (e0 : v0 = .int .i64 (o.getD (badI 0)).st) (e1 : v1 = .string (ofL (o.getD (badI 0)).meth)) (e2 : v2 = .string (ofL (o.getD (badI 0)).path)) (e4 : v4 = .string (ofL (o.getD (badI 0)).body)) (e5 : v5 = .bool (o.getD (badI 0)).close) :
    Took (p', o) S b w (put6 wb r v0 v1 v2 fv v4 v5) (.returned (.tuple #[.agg #[v0, v1, v2, fv, v4, v5], .bool c])) := by
  subst e0 e1 e2 e4 e5 hc
  have k6 := keep6 wb r (.int .i64 (o.getD (badI 0)).st) (.string (ofL (o.getD (badI 0)).meth)) (.string (ofL (o.getD (badI 0)).path)) fv (.string (ofL (o.getD (badI 0)).body)) (.bool (o.getD (badI 0)).close)
  refine ⟨_, rfl, ⟨fv, rfl, ho.keep k6 fun k hk e => (hf k hk).2 e, fun k hk => (hf k hk).1⟩, ?_, hk.trans k6 fun i hi e => by omega⟩
  refine (hp.keep k6 fun k _ h e => ?_).mono (fun k _ h => h.1) fun h => ?_
  · rcases h with h | h
    · exact h.2 e
    · omega
  · rcases h with h | h
    · exact hS h
    · omega

set_option maxHeartbeats 2000000 in
set_option maxRecDepth 20000 in
theorem done_any (w : World) (S : Nat → Prop) (b : Nat) (p : PS) (h : PAt w S b p) (hl : p.flds.length ≤ 100000) (hx : ∀ x ∈ p.flds, x.1.length ≤ 1000000 ∧ x.2.length ≤ 1000000)
    (hls : (listOf (valsN p connB)).length ≤ 140737488351232) (hlx : ∀ x ∈ listOf (valsN p connB), x.length ≤ 1000000) (m : Int) (hm : w.cell? ⟨0, 0, none⟩ = some (.int .i64 m)) :
    Calls Tryd.prog 25 #[.pointer (some ⟨b, 0, none⟩)] w fun e w' => Took (p, some (doneN p)) S b w w' e := by
  refine calls_gen fun R hR => ?_
  have hml := World.block_lt_of_cell? w _ hm
  have HM := Lib.hid hm; have HML := Lib.hid hml
  have HLB : Hid (b < w.heap.size) := Lib.hid h.lt
  have HNS : Hid (¬ S b) := Lib.hid h.out
  have HX := Lib.hid hx; have HLX := Lib.hid hlx
  obtain ⟨L, F, B, h⟩ := h.bnd
  obtain ⟨FA, fn, rfl, hfn⟩ := h.flds.slice
  obtain ⟨BA, bn, rfl, hbn⟩ := h.body.slice
  have H := Lib.hid h
  clear hm hml hx hlx
  have c4 := blk_cell h.blk 4
  have c5 := blk_cell h.blk 5
  have c6 := blk_cell h.blk 6
  have c7 := blk_cell h.blk 7
  have c8 := blk_cell h.blk 8
  have c11 := blk_cell h.blk 11
  simp only [pcells, List.getElem?_toArray, List.getElem?_cons_zero, List.getElem?_cons_succ] at c4 c5 c6 c7 c8 c11
  have hlt := blk_lt h.blk
  clear h
  go_enter Tryd.func25, Tryd.ntmps25
  go_upto_region 2 with fail
  obtain ⟨w3, hw3⟩ : ∃ w3, ((w.alloc (.cells #[.pointer (some ⟨b, 0, none⟩)] 35)).alloc (.cells #[.int .i64 0, .string ⟨#[]⟩, .string ⟨#[]⟩, .slice none 0 0, .string ⟨#[]⟩, .bool false] 41)).alloc (.cells #[.string (ofL p.meth), .string (ofL p.path), .slice FA p.flds.length fn, .string ⟨#[]⟩, .bool false] 31) = w3 := ⟨_, rfl⟩
  have GX : Hid (w3.heap[w.heap.size]? = some (.cells #[.pointer (some ⟨b, 0, none⟩)] 35 (0, 0))) := Lib.hid (hw3 ▸ blk_past (blk_past (blk_new w _)))
  have GR1 : Hid (w3.heap[w.heap.size + 1]? = some (.cells #[.int .i64 0, .string ⟨#[]⟩, .string ⟨#[]⟩, .slice none 0 0, .string ⟨#[]⟩, .bool false] 41 (0, 0))) := Lib.hid (by
    have := blk_new (w.alloc (.cells #[.pointer (some ⟨b, 0, none⟩)] 35)) (.cells #[.int .i64 0, .string ⟨#[]⟩, .string ⟨#[]⟩, .slice none 0 0, .string ⟨#[]⟩, .bool false] 41)
    simp only [World.size_alloc] at this
    rw [← hw3]; exact blk_past this)
  have GQ : Hid (w3.heap[w.heap.size + 1 + 1]? = some (.cells #[.string (ofL p.meth), .string (ofL p.path), .slice FA p.flds.length fn, .string ⟨#[]⟩, .bool false] 31 (0, 0))) := Lib.hid (by
    have := blk_new ((w.alloc (.cells #[.pointer (some ⟨b, 0, none⟩)] 35)).alloc (.cells #[.int .i64 0, .string ⟨#[]⟩, .string ⟨#[]⟩, .slice none 0 0, .string ⟨#[]⟩, .bool false] 41)) (.cells #[.string (ofL p.meth), .string (ofL p.path), .slice FA p.flds.length fn, .string ⟨#[]⟩, .bool false] 31)
    simp only [World.size_alloc] at this
    rw [← hw3]; exact this)
  have HB3 : Hid (Below w.heap.size w w3) := Lib.hid (hw3 ▸ (((Below.refl w.heap.size w).alloc (Nat.le_refl _) _).alloc (by simp) _).alloc (by simp; omega) _)
  rw [hw3]
  clear hw3 c4 c5 c6 c7 c8 c11
  have HP := Lib.hid (H.out.below HB3.out)
  have x0 := blk_cell GX.out 0
  have c11 := blk_cell HP.out.blk 11
  have q3 := blk_cell GQ.out 3
  have fq3 := blk_free GQ.out 3
  simp only [pcells, List.getElem?_toArray, List.getElem?_cons_zero, List.getElem?_cons_succ] at x0 c11 q3
  have hb3 := blk_lt HP.out.blk
  have hx3 := blk_lt GX.out
  have hq3 := blk_lt GQ.out
  go_wp2_with (with_reducible (refine stop_convert ?_))
  refine ⟨wp_string Tryd.underlying26 Tryd.underlying5 Tryd.underlying9 HP.out.body.view ?_⟩
  go_upto_region 4 with fail
  obtain ⟨w4, hw4⟩ : ∃ w4, w3.setCell ⟨w.heap.size + 1 + 1, 3, none⟩ (.string (ofL p.body)) = w4 := ⟨_, rfl⟩
  have HB4 : Hid (Below w.heap.size w w4) := Lib.hid (hw4 ▸ below_set HB3.out (by show w.heap.size ≤ w.heap.size + 1 + 1; omega) _)
  have GQ4 : Hid (w4.heap[w.heap.size + 1 + 1]? = some (.cells #[.string (ofL p.meth), .string (ofL p.path), .slice FA p.flds.length fn, .string (ofL p.body), .bool false] 31 (0, 0))) := Lib.hid (hw4 ▸ blk_set GQ.out 3 (.string (ofL p.body)))
  have GX4 : Hid (w4.heap[w.heap.size]? = some (.cells #[.pointer (some ⟨b, 0, none⟩)] 35 (0, 0))) := Lib.hid (hw4 ▸ blk_other GX.out (by show w.heap.size ≠ w.heap.size + 1 + 1; omega))
  have GR4 : Hid (w4.heap[w.heap.size + 1]? = some (.cells #[.int .i64 0, .string ⟨#[]⟩, .string ⟨#[]⟩, .slice none 0 0, .string ⟨#[]⟩, .bool false] 41 (0, 0))) := Lib.hid (hw4 ▸ blk_other GR1.out (by show w.heap.size + 1 ≠ w.heap.size + 1 + 1; omega))
  rw [hw4]
  clear hw4 x0 c11 q3 fq3 hb3 hx3 hq3 HP GX GQ GR1 HB3 hfn hbn
  -- what the closure says, in any world behind
  have HSAY : Hid (∀ (c : ByteArray), c.size ≤ 1000000 → ∀ wx, Below w4.heap.size w4 wx → Calls Tryd.prog 30 #[.string c, .pointer (some ⟨w.heap.size, 0, none⟩)] wx fun e w' => e = .returned (.bool (saysN p (toL c))) ∧ Below wx.heap.size wx w') := Lib.hid fun c hc wx hb =>
    says_any wx (fun k => S k ∧ k < w.heap.size) b p ⟨_, _, _, (H.out.below HB4.out).below hb⟩ c hc w.heap.size (blk_cell ((hb.block _ (blk_lt GX4.out)).trans GX4.out) 0) hl HX.out hls HLX.out m ((hb.cell (p := ⟨0, 0, none⟩) (Nat.lt_of_lt_of_le HML.out HB4.out.size)).trans ((HB4.out.cell (p := ⟨0, 0, none⟩) HML.out).trans HM.out))
  go_wp2_with (with_reducible (first | refine stop_callv ?_))
  refine ⟨?_⟩
  refine wp_callv (fid := 30) (caps := #[.pointer (some ⟨w.heap.size, 0, none⟩)]) (args' := #[.string ⟨#[99, 108, 111, 115, 101]⟩, .pointer (some ⟨w.heap.size, 0, none⟩)]) (fun _ _ => rfl) rfl (by simp [Act.eval]) (HSAY.out ⟨#[99, 108, 111, 115, 101]⟩ (by decide) w4 (Below.refl _ _)) ?_
  rintro e w5 ⟨rfl, hb5⟩
  refine ⟨_, rfl, ?_⟩
  have HB5 := Lib.hid hb5
  obtain ⟨k1, hk1⟩ : ∃ k, saysN p (toL ⟨#[99, 108, 111, 115, 101]⟩) = k := ⟨_, rfl⟩
  rw [hk1]
  have HK1 := Lib.hid hk1
  have HNB : Hid (¬ ((S b ∨ w.heap.size ≤ b) ∧ b ≠ w.heap.size + 1)) := Lib.hid fun h => by
    have := HLB.out
    rcases h.1 with h | h
    · exact HNS.out h
    · omega
  have HCL : Hid (doneN p = ⟨0, p.meth, p.path, p.flds, p.body, k1 || (oldN p && !saysN p keepB)⟩) := Lib.hid (by unfold doneN; rw [← hk1]; rfl)
  clear hk1 hb5
  cases k1 with
  | true =>
    have HDN : Hid (true = (doneN p).close) := Lib.hid (by rw [HCL.out]; rfl)
    have gq := (HB5.out.block _ (blk_lt GQ4.out)).trans GQ4.out
    have q0 := blk_cell gq 0
    have q1 := blk_cell gq 1
    have q2 := blk_cell gq 2
    have q3 := blk_cell gq 3
    have q4 := blk_cell gq 4
    have fq4 := blk_free gq 4
    have hltq := blk_lt gq
    simp only [List.getElem?_toArray, List.getElem?_cons_zero, List.getElem?_cons_succ] at q0 q1 q2 q3 q4
    have GQZ := Lib.hid gq
    clear gq
    have gr := (HB5.out.block _ (blk_lt GR4.out)).trans GR4.out
    have fr0 := blk_free gr 0
    have fr1 := blk_free gr 1
    have fr2 := blk_free gr 2
    have fr3 := blk_free gr 3
    have fr4 := blk_free gr 4
    have fr5 := blk_free gr 5
    obtain ⟨cr0, cr1, cr2, cr3, cr4, cr5⟩ := cell6 gr
    have hltr := blk_lt gr
    have GR := Lib.hid (blk_other (a := ⟨w.heap.size + 1 + 1, 4, none⟩) (v := .bool true) gr (by show w.heap.size + 1 ≠ w.heap.size + 1 + 1; omega))
    clear gr
    go_wp2_with fail
    have Z := cell6 (blk6 GR.out (.int .i64 0) (.string (ofL p.meth)) (.string (ofL p.path)) (.slice FA p.flds.length fn) (.string (ofL p.body)) (.bool true))
    unfold put6 at Z
    obtain ⟨z0, z1, z2, z3, z4, z5⟩ := Z
    have HBF := Lib.hid (below_set (HB4.out.trans (HB5.out.mono HB4.out.size)) (p := ⟨w.heap.size + 1 + 1, 4, none⟩) (by show w.heap.size ≤ w.heap.size + 1 + 1; omega) (.bool true))
    have HPF := Lib.hid (H.out.below HBF.out)
    exact bodyPost_ret (v := .tuple #[.agg #[.int .i64 0, .string (ofL p.meth), .string (ofL p.path), .slice FA p.flds.length fn, .string (ofL p.body), .bool true], .bool true]) (by simp [results, Tryd.results25, go_sem, z0, z1, z2, z3, z4, z5]) rfl (hR _ _ (took_end2 (r := w.heap.size + 1) (by omega) HLB.out HNS.out ⟨_, _, _, HPF.out.mono (fun k _ h => ⟨.inl h.1, by have := h.2; omega⟩) HNB.out⟩ (Keep.old HBF.out) HPF.out.flds (fun k hk => ⟨.inl (HPF.out.inF k hk).1, by have := (HPF.out.inF k hk).2; omega⟩) rfl rfl rfl rfl rfl (by rw [show ((some (doneN p)).getD (badI 0)).close = true from HDN.out.symm])))
  | false =>
    have x0 := blk_cell ((HB5.out.block _ (blk_lt GX4.out)).trans GX4.out) 0
    simp only [List.getElem?_toArray, List.getElem?_cons_zero] at x0
    have hx5 := Nat.lt_of_lt_of_le (blk_lt GX4.out) HB5.out.size
    go_wp2_with fail
    refine (old_any w5 (fun k => S k ∧ k < w.heap.size) b p ⟨_, _, _, (H.out.below HB4.out).below HB5.out⟩).mono ?_
    rintro e w6 ⟨rfl, hw6⟩
    subst hw6
    cases ho : oldN p with
    | false =>
      rw [ho] at HCL
      clear ho
      have HDN : Hid (false = (doneN p).close) := Lib.hid (by rw [HCL.out]; rfl)
      have gq := (HB5.out.block _ (blk_lt GQ4.out)).trans GQ4.out
      have q0 := blk_cell gq 0
      have q1 := blk_cell gq 1
      have q2 := blk_cell gq 2
      have q3 := blk_cell gq 3
      have q4 := blk_cell gq 4
      have fq4 := blk_free gq 4
      have hltq := blk_lt gq
      simp only [List.getElem?_toArray, List.getElem?_cons_zero, List.getElem?_cons_succ] at q0 q1 q2 q3 q4
      have GQZ := Lib.hid gq
      clear gq
      have gr := (HB5.out.block _ (blk_lt GR4.out)).trans GR4.out
      have fr0 := blk_free gr 0
      have fr1 := blk_free gr 1
      have fr2 := blk_free gr 2
      have fr3 := blk_free gr 3
      have fr4 := blk_free gr 4
      have fr5 := blk_free gr 5
      obtain ⟨cr0, cr1, cr2, cr3, cr4, cr5⟩ := cell6 gr
      have hltr := blk_lt gr
      have GR := Lib.hid (blk_other (a := ⟨w.heap.size + 1 + 1, 4, none⟩) (v := .bool false) gr (by show w.heap.size + 1 ≠ w.heap.size + 1 + 1; omega))
      clear gr
      go_wp2_with fail
      have Z := cell6 (blk6 GR.out (.int .i64 0) (.string (ofL p.meth)) (.string (ofL p.path)) (.slice FA p.flds.length fn) (.string (ofL p.body)) (.bool false))
      unfold put6 at Z
      obtain ⟨z0, z1, z2, z3, z4, z5⟩ := Z
      have HBF := Lib.hid (below_set (HB4.out.trans (HB5.out.mono HB4.out.size)) (p := ⟨w.heap.size + 1 + 1, 4, none⟩) (by show w.heap.size ≤ w.heap.size + 1 + 1; omega) (.bool false))
      have HPF := Lib.hid (H.out.below HBF.out)
      exact bodyPost_ret (v := .tuple #[.agg #[.int .i64 0, .string (ofL p.meth), .string (ofL p.path), .slice FA p.flds.length fn, .string (ofL p.body), .bool false], .bool true]) (by simp [results, Tryd.results25, go_sem, z0, z1, z2, z3, z4, z5]) rfl (hR _ _ (took_end2 (r := w.heap.size + 1) (by omega) HLB.out HNS.out ⟨_, _, _, HPF.out.mono (fun k _ h => ⟨.inl h.1, by have := h.2; omega⟩) HNB.out⟩ (Keep.old HBF.out) HPF.out.flds (fun k hk => ⟨.inl (HPF.out.inF k hk).1, by have := (HPF.out.inF k hk).2; omega⟩) rfl rfl rfl rfl rfl (by rw [show ((some (doneN p)).getD (badI 0)).close = false from HDN.out.symm])))
    | true =>
      rw [ho] at HCL
      clear ho
      go_wp2_with fail
      refine (HSAY.out ⟨#[107, 101, 101, 112, 45, 97, 108, 105, 118, 101]⟩ (by decide) _ HB5.out).mono ?_
      rintro e w7 ⟨rfl, hb7⟩
      have HB7 := Lib.hid (HB5.out.trans (hb7.mono HB5.out.size))
      obtain ⟨k2, hk2⟩ : ∃ k, saysN p (toL ⟨#[107, 101, 101, 112, 45, 97, 108, 105, 118, 101]⟩) = k := ⟨_, rfl⟩
      rw [show saysN p keepB = k2 from hk2] at HCL
      rw [hk2]
      clear hk2 hb7
      cases k2 with
      | true =>
        have HDN : Hid (false = (doneN p).close) := Lib.hid (by rw [HCL.out]; rfl)
        have gq := (HB7.out.block _ (blk_lt GQ4.out)).trans GQ4.out
        have q0 := blk_cell gq 0
        have q1 := blk_cell gq 1
        have q2 := blk_cell gq 2
        have q3 := blk_cell gq 3
        have q4 := blk_cell gq 4
        have fq4 := blk_free gq 4
        have hltq := blk_lt gq
        simp only [List.getElem?_toArray, List.getElem?_cons_zero, List.getElem?_cons_succ] at q0 q1 q2 q3 q4
        have GQZ := Lib.hid gq
        clear gq
        have gr := (HB7.out.block _ (blk_lt GR4.out)).trans GR4.out
        have fr0 := blk_free gr 0
        have fr1 := blk_free gr 1
        have fr2 := blk_free gr 2
        have fr3 := blk_free gr 3
        have fr4 := blk_free gr 4
        have fr5 := blk_free gr 5
        obtain ⟨cr0, cr1, cr2, cr3, cr4, cr5⟩ := cell6 gr
        have hltr := blk_lt gr
        have GR := Lib.hid (blk_other (a := ⟨w.heap.size + 1 + 1, 4, none⟩) (v := .bool false) gr (by show w.heap.size + 1 ≠ w.heap.size + 1 + 1; omega))
        clear gr
        go_wp2_with fail
        have Z := cell6 (blk6 GR.out (.int .i64 0) (.string (ofL p.meth)) (.string (ofL p.path)) (.slice FA p.flds.length fn) (.string (ofL p.body)) (.bool false))
        unfold put6 at Z
        obtain ⟨z0, z1, z2, z3, z4, z5⟩ := Z
        have HBF := Lib.hid (below_set (HB4.out.trans (HB7.out.mono HB4.out.size)) (p := ⟨w.heap.size + 1 + 1, 4, none⟩) (by show w.heap.size ≤ w.heap.size + 1 + 1; omega) (.bool false))
        have HPF := Lib.hid (H.out.below HBF.out)
        exact bodyPost_ret (v := .tuple #[.agg #[.int .i64 0, .string (ofL p.meth), .string (ofL p.path), .slice FA p.flds.length fn, .string (ofL p.body), .bool false], .bool true]) (by simp [results, Tryd.results25, go_sem, z0, z1, z2, z3, z4, z5]) rfl (hR _ _ (took_end2 (r := w.heap.size + 1) (by omega) HLB.out HNS.out ⟨_, _, _, HPF.out.mono (fun k _ h => ⟨.inl h.1, by have := h.2; omega⟩) HNB.out⟩ (Keep.old HBF.out) HPF.out.flds (fun k hk => ⟨.inl (HPF.out.inF k hk).1, by have := (HPF.out.inF k hk).2; omega⟩) rfl rfl rfl rfl rfl (by rw [show ((some (doneN p)).getD (badI 0)).close = false from HDN.out.symm])))
      | false =>
        have HDN : Hid (true = (doneN p).close) := Lib.hid (by rw [HCL.out]; rfl)
        have gq := (HB7.out.block _ (blk_lt GQ4.out)).trans GQ4.out
        have q0 := blk_cell gq 0
        have q1 := blk_cell gq 1
        have q2 := blk_cell gq 2
        have q3 := blk_cell gq 3
        have q4 := blk_cell gq 4
        have fq4 := blk_free gq 4
        have hltq := blk_lt gq
        simp only [List.getElem?_toArray, List.getElem?_cons_zero, List.getElem?_cons_succ] at q0 q1 q2 q3 q4
        have GQZ := Lib.hid gq
        clear gq
        have gr := (HB7.out.block _ (blk_lt GR4.out)).trans GR4.out
        have fr0 := blk_free gr 0
        have fr1 := blk_free gr 1
        have fr2 := blk_free gr 2
        have fr3 := blk_free gr 3
        have fr4 := blk_free gr 4
        have fr5 := blk_free gr 5
        obtain ⟨cr0, cr1, cr2, cr3, cr4, cr5⟩ := cell6 gr
        have hltr := blk_lt gr
        have GR := Lib.hid (blk_other (a := ⟨w.heap.size + 1 + 1, 4, none⟩) (v := .bool true) gr (by show w.heap.size + 1 ≠ w.heap.size + 1 + 1; omega))
        clear gr
        go_wp2_with fail
        have Z := cell6 (blk6 GR.out (.int .i64 0) (.string (ofL p.meth)) (.string (ofL p.path)) (.slice FA p.flds.length fn) (.string (ofL p.body)) (.bool true))
        unfold put6 at Z
        obtain ⟨z0, z1, z2, z3, z4, z5⟩ := Z
        have HBF := Lib.hid (below_set (HB4.out.trans (HB7.out.mono HB4.out.size)) (p := ⟨w.heap.size + 1 + 1, 4, none⟩) (by show w.heap.size ≤ w.heap.size + 1 + 1; omega) (.bool true))
        have HPF := Lib.hid (H.out.below HBF.out)
        exact bodyPost_ret (v := .tuple #[.agg #[.int .i64 0, .string (ofL p.meth), .string (ofL p.path), .slice FA p.flds.length fn, .string (ofL p.body), .bool true], .bool true]) (by simp [results, Tryd.results25, go_sem, z0, z1, z2, z3, z4, z5]) rfl (hR _ _ (took_end2 (r := w.heap.size + 1) (by omega) HLB.out HNS.out ⟨_, _, _, HPF.out.mono (fun k _ h => ⟨.inl h.1, by have := h.2; omega⟩) HNB.out⟩ (Keep.old HBF.out) HPF.out.flds (fun k hk => ⟨.inl (HPF.out.inF k hk).1, by have := (HPF.out.inF k hk).2; omega⟩) rfl rfl rfl rfl rfl (by rw [show ((some (doneN p)).getD (badI 0)).close = true from HDN.out.symm])))
end Go.Proofs.YtaihjnicondifaaDoor.Asc
