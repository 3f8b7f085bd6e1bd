/-
  Contract: a byte is taken.
  Lengths within the rows' own reach; the library's MaxLen is a number.
-/
import Derived.Test.YtaihjnicondifaaDoorHtK
namespace Go.Proofs.YtaihjnicondifaaDoor.Asc
open Go Go.RowKit Go.Proofs.YtaihjnicondifaaDoor.Pb

theorem readN_flds (p : PS) (c : UInt8) : (readN p c).ps.flds = p.flds ∧ (readN p c).ps.sizes = p.sizes ∧ (readN p c).line.length ≤ p.line.length := by
  unfold readN
  repeat' split
  all_goals simp
section
variable {p : PS} {c : UInt8}
theorem tk1 (hs : (p.state == 2) = true) (hl : p.left - 1 > 0) : takeN p c = ({ p with body := p.body ++ [c], left := p.left - 1 }, none) := by
  unfold takeN; rw [if_pos (by rw [hs]; rfl)]; simp only [hl, if_true]
theorem tk2 (hs : (p.state == 2) = true) (hl : ¬ p.left - 1 > 0) : takeN p c = ({ p with body := p.body ++ [c], left := p.left - 1 }, some (doneN { p with body := p.body ++ [c], left := p.left - 1 })) := by
  unfold takeN; rw [if_pos (by rw [hs]; rfl)]; simp only [hl, if_false]; rw [if_pos hs]
theorem tk3 (hs : (p.state == 2) = false) (h4 : (p.state == 4) = true) (hl : p.left - 1 > 0) : takeN p c = ({ p with body := p.body ++ [c], left := p.left - 1 }, none) := by
  unfold takeN; rw [if_pos (by rw [h4]; simp)]; simp only [hl, if_true]
theorem tk4 (hs : (p.state == 2) = false) (h4 : (p.state == 4) = true) (hl : ¬ p.left - 1 > 0) : takeN p c = ({ p with body := p.body ++ [c], left := p.left - 1, state := 5 }, none) := by
  unfold takeN; rw [if_pos (by rw [h4]; simp)]; simp only [hl, if_false]; rw [if_neg (by rw [hs]; decide)]
variable (h2 : (p.state == 2) = false) (h4 : (p.state == 4) = false)
include h2 h4
theorem tk5 (h5 : (p.state == 5) = true) : takeN p c = ({ p with state := 6 }, if c != 13 then some (badI 400) else none) := by
  unfold takeN; rw [if_neg (by rw [h2, h4]; decide), if_pos h5]
theorem tk6 (h5 : (p.state == 5) = false) (h6 : (p.state == 6) = true) : takeN p c = ({ p with state := 3 }, if c != 10 then some (badI 400) else none) := by
  unfold takeN; rw [if_neg (by rw [h2, h4]; decide), if_neg (by rw [h5]; decide), if_pos h6]
theorem tk7 (h5 : (p.state == 5) = false) (h6 : (p.state == 6) = false) : takeN p c = if (readN p c).st != 0 then ((readN p c).ps, some (badI (readN p c).st)) else if !(readN p c).ended then ((readN p c).ps, none) else endedN (readN p c).ps (readN p c).line := by
  unfold takeN; rw [if_neg (by rw [h2, h4]; decide), if_neg (by rw [h5]; decide), if_neg (by rw [h6]; decide)]
end

set_option maxHeartbeats 4000000 in
set_option maxRecDepth 20000 in
/-- a byte is taken -/
theorem take_any (w : World) (S : Nat → Prop) (b : Nat) (p : PS) (h : PAt w S b p) (hf : Fit p) (hz : 0 ≤ p.sizes ∧ p.sizes ≤ 1048576) (hh : 0 ≤ p.head ∧ p.head ≤ 1000000) (hl : p.line.length ≤ 1000000) (hbl : p.body.length ≤ 10000000) (hlf : -1000000 ≤ p.left ∧ p.left ≤ 10000000)
    (hsg : ¬ S 0) (c : UInt8) (m : Int) (hm : w.cell? ⟨0, 0, none⟩ = some (.int .i64 m)) :
    Calls Tryd.prog 21 #[.pointer (some ⟨b, 0, none⟩), .int .u8 c.toNat] w fun e w' => Took (takeN p c) S b w w' e := by
  refine calls_gen fun R hR => ?_
  have hml := World.block_lt_of_cell? w _ hm
  have HM := Lib.hid hm; have HML := Lib.hid hml; have HSG := Lib.hid hsg
  have HLB : Hid (b < w.heap.size) := Lib.hid h.lt
  have HNS : Hid (¬ S b) := Lib.hid h.out
  have H := Lib.hid h.bnd
  have HF := Lib.hid hf; have HZ := Lib.hid hz; have HH := Lib.hid hh; have HL := Lib.hid hl
  clear hm hml h hf hz hh hl hsg
  have HS2 : Hid (∀ k, S k ∧ k < w.heap.size → (S k ∨ w.heap.size ≤ k) ∧ k ≠ w.heap.size) := Lib.hid fun k h => ⟨.inl h.1, by have := h.2; omega⟩
  obtain ⟨w1, hw1⟩ : ∃ w1, w.alloc (.cells #[.int .i64 0, .string ⟨#[]⟩, .string ⟨#[]⟩, .slice none 0 0, .string ⟨#[]⟩, .bool false] 41) = w1 := ⟨_, rfl⟩
  have HW1 := Lib.hid hw1
  have HB1 : Hid (Below w.heap.size w w1) := Lib.hid (hw1 ▸ below_new w _)
  have HG1 : Hid (w1.heap[w.heap.size]? = some (.cells #[.int .i64 0, .string ⟨#[]⟩, .string ⟨#[]⟩, .slice none 0 0, .string ⟨#[]⟩, .bool false] 41 (0, 0))) := Lib.hid (hw1 ▸ blk_new w _)
  have HR1 : Hid (w.heap.size < w1.heap.size) := Lib.hid (blk_lt HG1.out)
  clear hw1
  have HM1 : Hid (w1.cell? ⟨0, 0, none⟩ = some (.int .i64 m)) := Lib.hid ((HB1.out.cell (p := ⟨0, 0, none⟩) HML.out).trans HM.out)
  have HP1 := Lib.hid (H.out.below HB1.out)
  have HMB : Hid (0 ≠ b) := Lib.hid (H.out.ne HM.out)
  have HS1 : Hid (∀ k, (S k ∧ k < w.heap.size) ∨ w1.heap.size ≤ k → (S k ∨ w.heap.size ≤ k) ∧ k ≠ w.heap.size) := Lib.hid fun k h => by
    have h1 := HR1.out
    rcases h with h | h
    · exact ⟨.inl h.1, by omega⟩
    · exact ⟨.inr (by omega), by omega⟩
  go_enter Tryd.func21, Tryd.ntmps21
  go_upto_region 1 with fail
  rw [HW1.out]
  obtain ⟨L, F, B, hp⟩ := HP1.out
  obtain ⟨BA, bn, rfl, hbn⟩ := hp.body.slice
  have c3 := blk_cell hp.blk 3
  have c11 := blk_cell hp.blk 11
  have f3 := blk_free hp.blk 3
  simp only [pcells, List.getElem?_toArray, List.getElem?_cons_zero, List.getElem?_cons_succ] at c3 c11
  have hltb := blk_lt hp.blk
  have HP := Lib.hid hp
  have HO := Lib.hid hp.body
  clear hp
  obtain ⟨ps, hps⟩ : ∃ n, p.state = n := ⟨_, rfl⟩
  have HPS := Lib.hid hps
  rw [hps] at c3
  clear hps
  have HNB : Hid (¬ (Value.slice BA p.body.length bn).ownBlock = some b) := Lib.hid (fun e => HP.out.out (HP.out.inB b e))
  have hpb := hbl
  cases h2 : (ps == 2) with
  | true =>
    have H2 : Hid ((p.state == 2) = true) := Lib.hid (by rw [HPS.out]; exact h2)
    go_wp2_with (with_reducible (first | refine stop_append ?_))
    obtain ⟨bd, hbd⟩ : ∃ l, p.body = l := ⟨_, rfl⟩
    obtain ⟨lf, hlf'⟩ : ∃ n, p.left = n := ⟨_, rfl⟩
    rw [hbd] at HO hbl hbn c11 HNB HP ⊢
    have HBD := Lib.hid hbd; have HLF := Lib.hid hlf'
    rw [hlf'] at hlf
    obtain ⟨hlf1, hlf2⟩ := hlf
    refine ⟨wp_append1 (r := Rp.u8) (F := fun k => (Value.slice BA bd.length bn).ownBlock = some k) (G := fun _ => False) (y := c) Tryd.underlying26 info5 rfl (show 0 < 1 by decide) HO.out rfl rfl rfl (fun k h => h.elim) (by omega) (by decide) ?_⟩
    intro v6 w6 ho6 hk6 _ hb6
    obtain ⟨zz, hzz⟩ : ∃ z, bd ++ [c] = z := ⟨_, rfl⟩
    rw [hzz] at ho6
    have HZZ := Lib.hid hzz
    have HO6 := Lib.hid (ho6.flat (F' := fun k => v6.ownBlock = some k) (fun k h => h))
    have HK6 := Lib.hid hk6
    have HB6' := Lib.hid hb6
    clear ho6 hk6 hb6 hzz hbd hlf' c3 c11 f3 hltb
    obtain ⟨A6, n6, rfl, hn6⟩ := HO6.out.slice
    have HP6 : Hid (∀ k, (Value.slice A6 zz.length n6).ownBlock = some k → (Value.slice BA bd.length bn).ownBlock = some k ∨ w1.heap.size ≤ k) := Lib.hid fun k hk => by
      rcases HB6'.out with h | ⟨j, h, hj⟩
      · exact .inl (h ▸ hk)
      · rw [h] at hk; cases hk; exact .inr hj
    have HB6 := Lib.hid (HK6.out.blk HP.out.blk (fun e => HNB.out e.symm))
    have g11 := blk_cell HB6.out 11
    have fg11 := blk_free HB6.out 11
    have hlt6 := blk_lt HB6.out
    simp only [pcells, List.getElem?_toArray, List.getElem?_cons_zero, List.getElem?_cons_succ] at g11
    go_upto_region 5 with fail
    obtain ⟨w7, hw7⟩ : ∃ w7, w6.setCell ⟨b, 11, none⟩ (.slice A6 zz.length n6) = w7 := ⟨_, rfl⟩
    have HK7 : Hid (Keep (fun k => k = b) w6 w7) := Lib.hid (hw7 ▸ (Keep.refl (fun k => k = b) w6).set (p := ⟨b, 11, none⟩) rfl (.slice A6 zz.length n6))
    have HB7 : Hid (w7.heap[b]? = some (.cells (pcells { p with body := zz } L F (.slice A6 zz.length n6)).toArray 33 (0, 0))) := Lib.hid (hw7 ▸ blk_set HB6.out 11 (.slice A6 zz.length n6))
    have HS7 : Hid (w7.heap.size = w6.heap.size) := Lib.hid (hw7 ▸ size_setCell _ _ _)
    rw [hw7]
    clear hw7 g11 fg11 hlt6
    have g3 := blk_cell HB7.out 3
    have g10 := blk_cell HB7.out 10
    have fg3 := blk_free HB7.out 3
    have fg10 := blk_free HB7.out 10
    have hlt7 := blk_lt HB7.out
    simp only [pcells, List.getElem?_toArray, List.getElem?_cons_zero, List.getElem?_cons_succ] at g3 g10
    rw [HPS.out] at g3
    rw [HLF.out] at g10
    by_cases hl1 : lf - 1 > 0
    · rw [tk1 H2.out (by rw [HLF.out]; exact hl1), HBD.out, HZZ.out, HLF.out] at hR
      go_wp2_with fail
      have kS := (HK7.out.set (p := ⟨b, 10, none⟩) rfl (.int .i64 (lf - 1)))
      have bS := (blk_set HB7.out 10 (.int .i64 (lf - 1)))
      have hoS := HO6.out.keep kS (fun k hk e => by
        subst e
        rcases HP6.out k hk with h | h
        · exact HNB.out h
        · exact absurd (blk_lt HP.out.blk) (by omega))
      have kF := ((HK6.out.mono (G := fun k => k = b ∨ (Value.slice BA bd.length bn).ownBlock = some k) (fun _ _ h => .inr h.symm)).trans kS fun i _ h => .inl h)
      have PF := Lib.hid (HP.out.newB (p' := { p with body := zz, left := lf - 1 }) kF bS (by first | exact hoS | (rw [HBD.out, HZZ.out]; exact hoS)) HP6.out rfl rfl)
      have HKF := Lib.hid ((Keep.old (F := fun k => S k ∨ k = b) HB1.out).trans kF fun i hi h => by
        rcases h with h | h
        · exact .inr h
        · exact .inl (HP.out.inB i h).1)
      have HMF := Lib.hid (HKF.out.cell HM.out fun e => by
        rcases e with e | e
        · exact HSG.out e
        · exact HMB.out e)
      have hsz := kF.size
      have HRF := Lib.hid (Nat.lt_of_lt_of_le HR1.out hsz)
      have HGF := Lib.hid ((kF.block _ HR1.out (fun e => by
        have := HLB.out
        rcases e with e | e
        · omega
        · have := (HP.out.inB _ e).2; omega)).trans HG1.out)
      clear kS bS hoS kF hsz
      refine (none_took _ (fun k => (S k ∧ k < w.heap.size) ∨ w1.heap.size ≤ k) b _ ⟨_, _, _, PF.out⟩).mono ?_
      intro e w9 ht
      obtain ⟨n0, a1, a2, A3, l3, m3, a4, c5, c6, rfl, hgr, hT⟩ := took_thru ht (r := w.heap.size) (Nat.le_refl _) (HRF.out) HLB.out HNS.out HS1.out (HKF.out)
      have HT := Lib.hid hT
      have gr : w9.heap[w.heap.size]? = some (.cells #[.int .i64 0, .string ⟨#[]⟩, .string ⟨#[]⟩, .slice none 0 0, .string ⟨#[]⟩, .bool false] 41 (0, 0)) := hgr.trans (HGF.out)
      clear ht hgr hT
      have fr0 := blk_free gr 0
      have fr1 := blk_free gr 1
      have fr2 := blk_free gr 2
      have fr3 := blk_free gr 3
      have fr4 := blk_free gr 4
      have fr5 := blk_free gr 5
      obtain ⟨cr0, cr1, cr2, cr3, cr4, cr5⟩ := cell6 gr
      have hltr := blk_lt gr
      have GR := Lib.hid gr
      clear gr
      go_wp2_with fail
      have Z := cell6 (blk6 GR.out (.int .i64 n0) (.string a1) (.string a2) (.slice A3 l3 m3) (.string a4) (.bool c5))
      unfold put6 at Z
      obtain ⟨z0, z1, z2, z3, z4, z5⟩ := Z
      exact bodyPost_ret (v := .tuple #[.agg #[.int .i64 n0, .string a1, .string a2, .slice A3 l3 m3, .string a4, .bool c5], .bool c6]) (by simp [results, Tryd.results21, go_sem, z0, z1, z2, z3, z4, z5]) rfl (hR _ _ HT.out)
    · rw [tk2 H2.out (by rw [HLF.out]; exact hl1), HBD.out, HZZ.out, HLF.out] at hR
      go_wp2_with fail
      have kS := (HK7.out.set (p := ⟨b, 10, none⟩) rfl (.int .i64 (lf - 1)))
      have bS := (blk_set HB7.out 10 (.int .i64 (lf - 1)))
      have hoS := HO6.out.keep kS (fun k hk e => by
        subst e
        rcases HP6.out k hk with h | h
        · exact HNB.out h
        · exact absurd (blk_lt HP.out.blk) (by omega))
      have kF := ((HK6.out.mono (G := fun k => k = b ∨ (Value.slice BA bd.length bn).ownBlock = some k) (fun _ _ h => .inr h.symm)).trans kS fun i _ h => .inl h)
      have PF := Lib.hid (HP.out.newB (p' := { p with body := zz, left := lf - 1 }) kF bS (by first | exact hoS | (rw [HBD.out, HZZ.out]; exact hoS)) HP6.out rfl rfl)
      have HKF := Lib.hid ((Keep.old (F := fun k => S k ∨ k = b) HB1.out).trans kF fun i hi h => by
        rcases h with h | h
        · exact .inr h
        · exact .inl (HP.out.inB i h).1)
      have HMF := Lib.hid (HKF.out.cell HM.out fun e => by
        rcases e with e | e
        · exact HSG.out e
        · exact HMB.out e)
      have hsz := kF.size
      have HRF := Lib.hid (Nat.lt_of_lt_of_le HR1.out hsz)
      have HGF := Lib.hid ((kF.block _ HR1.out (fun e => by
        have := HLB.out
        rcases e with e | e
        · omega
        · have := (HP.out.inB _ e).2; omega)).trans HG1.out)
      clear kS bS hoS kF hsz
      refine (done_took _ (fun k => (S k ∧ k < w.heap.size) ∨ w1.heap.size ≤ k) b _ ⟨_, _, _, PF.out⟩ HF.out m HMF.out).mono ?_
      intro e w9 ht
      obtain ⟨n0, a1, a2, A3, l3, m3, a4, c5, c6, rfl, hgr, hT⟩ := took_thru ht (r := w.heap.size) (Nat.le_refl _) (HRF.out) HLB.out HNS.out HS1.out (HKF.out)
      have HT := Lib.hid hT
      have gr : w9.heap[w.heap.size]? = some (.cells #[.int .i64 0, .string ⟨#[]⟩, .string ⟨#[]⟩, .slice none 0 0, .string ⟨#[]⟩, .bool false] 41 (0, 0)) := hgr.trans (HGF.out)
      clear ht hgr hT
      have fr0 := blk_free gr 0
      have fr1 := blk_free gr 1
      have fr2 := blk_free gr 2
      have fr3 := blk_free gr 3
      have fr4 := blk_free gr 4
      have fr5 := blk_free gr 5
      obtain ⟨cr0, cr1, cr2, cr3, cr4, cr5⟩ := cell6 gr
      have hltr := blk_lt gr
      have GR := Lib.hid gr
      clear gr
      go_wp2_with fail
      have Z := cell6 (blk6 GR.out (.int .i64 n0) (.string a1) (.string a2) (.slice A3 l3 m3) (.string a4) (.bool c5))
      unfold put6 at Z
      obtain ⟨z0, z1, z2, z3, z4, z5⟩ := Z
      exact bodyPost_ret (v := .tuple #[.agg #[.int .i64 n0, .string a1, .string a2, .slice A3 l3 m3, .string a4, .bool c5], .bool c6]) (by simp [results, Tryd.results21, go_sem, z0, z1, z2, z3, z4, z5]) rfl (hR _ _ HT.out)
  | false =>
    have H2 : Hid ((p.state == 2) = false) := Lib.hid (by rw [HPS.out]; exact h2)
    cases h4 : (ps == 4) with
    | true =>
      have H4 : Hid ((p.state == 4) = true) := Lib.hid (by rw [HPS.out]; exact h4)
      go_wp2_with (with_reducible (first | refine stop_append ?_))
      obtain ⟨bd, hbd⟩ : ∃ l, p.body = l := ⟨_, rfl⟩
      obtain ⟨lf, hlf'⟩ : ∃ n, p.left = n := ⟨_, rfl⟩
      rw [hbd] at HO hbl hbn c11 HNB HP ⊢
      have HBD := Lib.hid hbd; have HLF := Lib.hid hlf'
      rw [hlf'] at hlf
      obtain ⟨hlf1, hlf2⟩ := hlf
      refine ⟨wp_append1 (r := Rp.u8) (F := fun k => (Value.slice BA bd.length bn).ownBlock = some k) (G := fun _ => False) (y := c) Tryd.underlying26 info5 rfl (show 0 < 1 by decide) HO.out rfl rfl rfl (fun k h => h.elim) (by omega) (by decide) ?_⟩
      intro v6 w6 ho6 hk6 _ hb6
      obtain ⟨zz, hzz⟩ : ∃ z, bd ++ [c] = z := ⟨_, rfl⟩
      rw [hzz] at ho6
      have HZZ := Lib.hid hzz
      have HO6 := Lib.hid (ho6.flat (F' := fun k => v6.ownBlock = some k) (fun k h => h))
      have HK6 := Lib.hid hk6
      have HB6' := Lib.hid hb6
      clear ho6 hk6 hb6 hzz hbd hlf' c3 c11 f3 hltb
      obtain ⟨A6, n6, rfl, hn6⟩ := HO6.out.slice
      have HP6 : Hid (∀ k, (Value.slice A6 zz.length n6).ownBlock = some k → (Value.slice BA bd.length bn).ownBlock = some k ∨ w1.heap.size ≤ k) := Lib.hid fun k hk => by
        rcases HB6'.out with h | ⟨j, h, hj⟩
        · exact .inl (h ▸ hk)
        · rw [h] at hk; cases hk; exact .inr hj
      have HB6 := Lib.hid (HK6.out.blk HP.out.blk (fun e => HNB.out e.symm))
      have g11 := blk_cell HB6.out 11
      have fg11 := blk_free HB6.out 11
      have hlt6 := blk_lt HB6.out
      simp only [pcells, List.getElem?_toArray, List.getElem?_cons_zero, List.getElem?_cons_succ] at g11
      go_upto_region 5 with fail
      obtain ⟨w7, hw7⟩ : ∃ w7, w6.setCell ⟨b, 11, none⟩ (.slice A6 zz.length n6) = w7 := ⟨_, rfl⟩
      have HK7 : Hid (Keep (fun k => k = b) w6 w7) := Lib.hid (hw7 ▸ (Keep.refl (fun k => k = b) w6).set (p := ⟨b, 11, none⟩) rfl (.slice A6 zz.length n6))
      have HB7 : Hid (w7.heap[b]? = some (.cells (pcells { p with body := zz } L F (.slice A6 zz.length n6)).toArray 33 (0, 0))) := Lib.hid (hw7 ▸ blk_set HB6.out 11 (.slice A6 zz.length n6))
      have HS7 : Hid (w7.heap.size = w6.heap.size) := Lib.hid (hw7 ▸ size_setCell _ _ _)
      rw [hw7]
      clear hw7 g11 fg11 hlt6
      have g3 := blk_cell HB7.out 3
      have g10 := blk_cell HB7.out 10
      have fg3 := blk_free HB7.out 3
      have fg10 := blk_free HB7.out 10
      have hlt7 := blk_lt HB7.out
      simp only [pcells, List.getElem?_toArray, List.getElem?_cons_zero, List.getElem?_cons_succ] at g3 g10
      rw [HPS.out] at g3
      rw [HLF.out] at g10
      by_cases hl1 : lf - 1 > 0
      · rw [tk3 H2.out H4.out (by rw [HLF.out]; exact hl1), HBD.out, HZZ.out, HLF.out] at hR
        go_wp2_with fail
        have kS := (HK7.out.set (p := ⟨b, 10, none⟩) rfl (.int .i64 (lf - 1)))
        have bS := (blk_set HB7.out 10 (.int .i64 (lf - 1)))
        have hoS := HO6.out.keep kS (fun k hk e => by
          subst e
          rcases HP6.out k hk with h | h
          · exact HNB.out h
          · exact absurd (blk_lt HP.out.blk) (by omega))
        have kF := ((HK6.out.mono (G := fun k => k = b ∨ (Value.slice BA bd.length bn).ownBlock = some k) (fun _ _ h => .inr h.symm)).trans kS fun i _ h => .inl h)
        have PF := Lib.hid (HP.out.newB (p' := { p with body := zz, left := lf - 1 }) kF bS (by first | exact hoS | (rw [HBD.out, HZZ.out]; exact hoS)) HP6.out rfl rfl)
        have HKF := Lib.hid ((Keep.old (F := fun k => S k ∨ k = b) HB1.out).trans kF fun i hi h => by
          rcases h with h | h
          · exact .inr h
          · exact .inl (HP.out.inB i h).1)
        have HMF := Lib.hid (HKF.out.cell HM.out fun e => by
          rcases e with e | e
          · exact HSG.out e
          · exact HMB.out e)
        have hsz := kF.size
        have HRF := Lib.hid (Nat.lt_of_lt_of_le HR1.out hsz)
        have HGF := Lib.hid ((kF.block _ HR1.out (fun e => by
          have := HLB.out
          rcases e with e | e
          · omega
          · have := (HP.out.inB _ e).2; omega)).trans HG1.out)
        clear kS bS hoS kF hsz
        refine (none_took _ (fun k => (S k ∧ k < w.heap.size) ∨ w1.heap.size ≤ k) b _ ⟨_, _, _, PF.out⟩).mono ?_
        intro e w9 ht
        obtain ⟨n0, a1, a2, A3, l3, m3, a4, c5, c6, rfl, hgr, hT⟩ := took_thru ht (r := w.heap.size) (Nat.le_refl _) (HRF.out) HLB.out HNS.out HS1.out (HKF.out)
        have HT := Lib.hid hT
        have gr : w9.heap[w.heap.size]? = some (.cells #[.int .i64 0, .string ⟨#[]⟩, .string ⟨#[]⟩, .slice none 0 0, .string ⟨#[]⟩, .bool false] 41 (0, 0)) := hgr.trans (HGF.out)
        clear ht hgr hT
        have fr0 := blk_free gr 0
        have fr1 := blk_free gr 1
        have fr2 := blk_free gr 2
        have fr3 := blk_free gr 3
        have fr4 := blk_free gr 4
        have fr5 := blk_free gr 5
        obtain ⟨cr0, cr1, cr2, cr3, cr4, cr5⟩ := cell6 gr
        have hltr := blk_lt gr
        have GR := Lib.hid gr
        clear gr
        go_wp2_with fail
        have Z := cell6 (blk6 GR.out (.int .i64 n0) (.string a1) (.string a2) (.slice A3 l3 m3) (.string a4) (.bool c5))
        unfold put6 at Z
        obtain ⟨z0, z1, z2, z3, z4, z5⟩ := Z
        exact bodyPost_ret (v := .tuple #[.agg #[.int .i64 n0, .string a1, .string a2, .slice A3 l3 m3, .string a4, .bool c5], .bool c6]) (by simp [results, Tryd.results21, go_sem, z0, z1, z2, z3, z4, z5]) rfl (hR _ _ HT.out)
      · rw [tk4 H2.out H4.out (by rw [HLF.out]; exact hl1), HBD.out, HZZ.out, HLF.out] at hR
        go_wp2_with fail
        have kS := ((HK7.out.set (p := ⟨b, 10, none⟩) rfl (.int .i64 (lf - 1))).set (p := ⟨b, 3, none⟩) rfl (.int .i64 5))
        have bS := (blk_set (blk_set HB7.out 10 (.int .i64 (lf - 1))) 3 (.int .i64 5))
        have hoS := HO6.out.keep kS (fun k hk e => by
          subst e
          rcases HP6.out k hk with h | h
          · exact HNB.out h
          · exact absurd (blk_lt HP.out.blk) (by omega))
        have kF := ((HK6.out.mono (G := fun k => k = b ∨ (Value.slice BA bd.length bn).ownBlock = some k) (fun _ _ h => .inr h.symm)).trans kS fun i _ h => .inl h)
        have PF := Lib.hid (HP.out.newB (p' := { p with body := zz, left := lf - 1, state := 5 }) kF bS (by first | exact hoS | (rw [HBD.out, HZZ.out]; exact hoS)) HP6.out rfl rfl)
        have HKF := Lib.hid ((Keep.old (F := fun k => S k ∨ k = b) HB1.out).trans kF fun i hi h => by
          rcases h with h | h
          · exact .inr h
          · exact .inl (HP.out.inB i h).1)
        have HMF := Lib.hid (HKF.out.cell HM.out fun e => by
          rcases e with e | e
          · exact HSG.out e
          · exact HMB.out e)
        have hsz := kF.size
        have HRF := Lib.hid (Nat.lt_of_lt_of_le HR1.out hsz)
        have HGF := Lib.hid ((kF.block _ HR1.out (fun e => by
          have := HLB.out
          rcases e with e | e
          · omega
          · have := (HP.out.inB _ e).2; omega)).trans HG1.out)
        clear kS bS hoS kF hsz
        refine (none_took _ (fun k => (S k ∧ k < w.heap.size) ∨ w1.heap.size ≤ k) b _ ⟨_, _, _, PF.out⟩).mono ?_
        intro e w9 ht
        obtain ⟨n0, a1, a2, A3, l3, m3, a4, c5, c6, rfl, hgr, hT⟩ := took_thru ht (r := w.heap.size) (Nat.le_refl _) (HRF.out) HLB.out HNS.out HS1.out (HKF.out)
        have HT := Lib.hid hT
        have gr : w9.heap[w.heap.size]? = some (.cells #[.int .i64 0, .string ⟨#[]⟩, .string ⟨#[]⟩, .slice none 0 0, .string ⟨#[]⟩, .bool false] 41 (0, 0)) := hgr.trans (HGF.out)
        clear ht hgr hT
        have fr0 := blk_free gr 0
        have fr1 := blk_free gr 1
        have fr2 := blk_free gr 2
        have fr3 := blk_free gr 3
        have fr4 := blk_free gr 4
        have fr5 := blk_free gr 5
        obtain ⟨cr0, cr1, cr2, cr3, cr4, cr5⟩ := cell6 gr
        have hltr := blk_lt gr
        have GR := Lib.hid gr
        clear gr
        go_wp2_with fail
        have Z := cell6 (blk6 GR.out (.int .i64 n0) (.string a1) (.string a2) (.slice A3 l3 m3) (.string a4) (.bool c5))
        unfold put6 at Z
        obtain ⟨z0, z1, z2, z3, z4, z5⟩ := Z
        exact bodyPost_ret (v := .tuple #[.agg #[.int .i64 n0, .string a1, .string a2, .slice A3 l3 m3, .string a4, .bool c5], .bool c6]) (by simp [results, Tryd.results21, go_sem, z0, z1, z2, z3, z4, z5]) rfl (hR _ _ HT.out)
    | false =>
      have H4 : Hid ((p.state == 4) = false) := Lib.hid (by rw [HPS.out]; exact h4)
      have t0 : (c != 10) = ((c.toNat : Int) != 10) := by
        rw [Bool.eq_iff_iff, bne_iff_ne, bne_iff_ne, ne_eq, ne_eq, ← UInt8.toNat_inj]; show ¬ c.toNat = 10 ↔ _; omega
      have t1 : (c != 13) = ((c.toNat : Int) != 13) := by
        rw [Bool.eq_iff_iff, bne_iff_ne, bne_iff_ne, ne_eq, ne_eq, ← UInt8.toNat_inj]; show ¬ c.toNat = 13 ↔ _; omega
      have T0 := Lib.hid t0; have T1 := Lib.hid t1
      clear t0 t1 c11 hbn hbl hpb hlf
      cases h5 : (ps == 5) with
      | true =>
        have H5 : Hid ((p.state == 5) = true) := Lib.hid (by rw [HPS.out]; exact h5)
        rw [tk5 H2.out H4.out H5.out, T1.out] at hR
        cases hc : ((c.toNat : Int) != 13) with
        | true =>
          rw [hc, if_pos rfl] at hR
          go_wp2_with fail
          have k2 := (Keep.refl (fun k => k = b) w1).set (p := ⟨b, 3, none⟩) rfl (.int .i64 6)
          have p2 := HP.out.scal (p' := { p with state := 6 }) k2 (blk_set HP.out.blk 3 (.int .i64 6)) rfl rfl rfl
          have K2 := Lib.hid k2; have P2 := Lib.hid p2
          have hsz := k2.size
          clear k2 p2
          have HK2 := Lib.hid ((Keep.old (F := fun k => S k ∨ k = b) HB1.out).trans K2.out fun i _ h => .inr h)
          have HRL2 := Lib.hid (Nat.lt_of_lt_of_le HR1.out hsz)
          have HGR := Lib.hid ((K2.out.block _ HR1.out (fun e => by have := HLB.out; omega)).trans HG1.out)
          clear hsz
          refine (bad_took _ (fun k => (S k ∧ k < w.heap.size) ∨ w1.heap.size ≤ k) b _ ⟨_, _, _, P2.out⟩ _).mono ?_
          intro e w9 ht
          obtain ⟨n0, a1, a2, A3, l3, m3, a4, c5, c6, rfl, hgr, hT⟩ := took_thru ht (r := w.heap.size) (Nat.le_refl _) (HRL2.out) HLB.out HNS.out HS1.out (HK2.out)
          have HT := Lib.hid hT
          have gr : w9.heap[w.heap.size]? = some (.cells #[.int .i64 0, .string ⟨#[]⟩, .string ⟨#[]⟩, .slice none 0 0, .string ⟨#[]⟩, .bool false] 41 (0, 0)) := hgr.trans (HGR.out)
          clear ht hgr hT
          have fr0 := blk_free gr 0
          have fr1 := blk_free gr 1
          have fr2 := blk_free gr 2
          have fr3 := blk_free gr 3
          have fr4 := blk_free gr 4
          have fr5 := blk_free gr 5
          obtain ⟨cr0, cr1, cr2, cr3, cr4, cr5⟩ := cell6 gr
          have hltr := blk_lt gr
          have GR := Lib.hid gr
          clear gr
          go_wp2_with fail
          have Z := cell6 (blk6 GR.out (.int .i64 n0) (.string a1) (.string a2) (.slice A3 l3 m3) (.string a4) (.bool c5))
          unfold put6 at Z
          obtain ⟨z0, z1, z2, z3, z4, z5⟩ := Z
          exact bodyPost_ret (v := .tuple #[.agg #[.int .i64 n0, .string a1, .string a2, .slice A3 l3 m3, .string a4, .bool c5], .bool c6]) (by simp [results, Tryd.results21, go_sem, z0, z1, z2, z3, z4, z5]) rfl (hR _ _ HT.out)
        | false =>
          rw [hc, if_neg (by decide)] at hR
          go_wp2_with fail
          have k2 := (Keep.refl (fun k => k = b) w1).set (p := ⟨b, 3, none⟩) rfl (.int .i64 6)
          have p2 := HP.out.scal (p' := { p with state := 6 }) k2 (blk_set HP.out.blk 3 (.int .i64 6)) rfl rfl rfl
          have K2 := Lib.hid k2; have P2 := Lib.hid p2
          have hsz := k2.size
          clear k2 p2
          have HK2 := Lib.hid ((Keep.old (F := fun k => S k ∨ k = b) HB1.out).trans K2.out fun i _ h => .inr h)
          have HRL2 := Lib.hid (Nat.lt_of_lt_of_le HR1.out hsz)
          have HGR := Lib.hid ((K2.out.block _ HR1.out (fun e => by have := HLB.out; omega)).trans HG1.out)
          clear hsz
          refine (none_took _ (fun k => (S k ∧ k < w.heap.size) ∨ w1.heap.size ≤ k) b _ ⟨_, _, _, P2.out⟩).mono ?_
          intro e w9 ht
          obtain ⟨n0, a1, a2, A3, l3, m3, a4, c5, c6, rfl, hgr, hT⟩ := took_thru ht (r := w.heap.size) (Nat.le_refl _) (HRL2.out) HLB.out HNS.out HS1.out (HK2.out)
          have HT := Lib.hid hT
          have gr : w9.heap[w.heap.size]? = some (.cells #[.int .i64 0, .string ⟨#[]⟩, .string ⟨#[]⟩, .slice none 0 0, .string ⟨#[]⟩, .bool false] 41 (0, 0)) := hgr.trans (HGR.out)
          clear ht hgr hT
          have fr0 := blk_free gr 0
          have fr1 := blk_free gr 1
          have fr2 := blk_free gr 2
          have fr3 := blk_free gr 3
          have fr4 := blk_free gr 4
          have fr5 := blk_free gr 5
          obtain ⟨cr0, cr1, cr2, cr3, cr4, cr5⟩ := cell6 gr
          have hltr := blk_lt gr
          have GR := Lib.hid gr
          clear gr
          go_wp2_with fail
          have Z := cell6 (blk6 GR.out (.int .i64 n0) (.string a1) (.string a2) (.slice A3 l3 m3) (.string a4) (.bool c5))
          unfold put6 at Z
          obtain ⟨z0, z1, z2, z3, z4, z5⟩ := Z
          exact bodyPost_ret (v := .tuple #[.agg #[.int .i64 n0, .string a1, .string a2, .slice A3 l3 m3, .string a4, .bool c5], .bool c6]) (by simp [results, Tryd.results21, go_sem, z0, z1, z2, z3, z4, z5]) rfl (hR _ _ HT.out)
      | false =>
        have H5 : Hid ((p.state == 5) = false) := Lib.hid (by rw [HPS.out]; exact h5)
        cases h6 : (ps == 6) with
        | true =>
          have H6 : Hid ((p.state == 6) = true) := Lib.hid (by rw [HPS.out]; exact h6)
          rw [tk6 H2.out H4.out H5.out H6.out, T0.out] at hR
          cases hc : ((c.toNat : Int) != 10) with
          | true =>
            rw [hc, if_pos rfl] at hR
            go_wp2_with fail
            have k2 := (Keep.refl (fun k => k = b) w1).set (p := ⟨b, 3, none⟩) rfl (.int .i64 3)
            have p2 := HP.out.scal (p' := { p with state := 3 }) k2 (blk_set HP.out.blk 3 (.int .i64 3)) rfl rfl rfl
            have K2 := Lib.hid k2; have P2 := Lib.hid p2
            have hsz := k2.size
            clear k2 p2
            have HK2 := Lib.hid ((Keep.old (F := fun k => S k ∨ k = b) HB1.out).trans K2.out fun i _ h => .inr h)
            have HRL2 := Lib.hid (Nat.lt_of_lt_of_le HR1.out hsz)
            have HGR := Lib.hid ((K2.out.block _ HR1.out (fun e => by have := HLB.out; omega)).trans HG1.out)
            clear hsz
            refine (bad_took _ (fun k => (S k ∧ k < w.heap.size) ∨ w1.heap.size ≤ k) b _ ⟨_, _, _, P2.out⟩ _).mono ?_
            intro e w9 ht
            obtain ⟨n0, a1, a2, A3, l3, m3, a4, c5, c6, rfl, hgr, hT⟩ := took_thru ht (r := w.heap.size) (Nat.le_refl _) (HRL2.out) HLB.out HNS.out HS1.out (HK2.out)
            have HT := Lib.hid hT
            have gr : w9.heap[w.heap.size]? = some (.cells #[.int .i64 0, .string ⟨#[]⟩, .string ⟨#[]⟩, .slice none 0 0, .string ⟨#[]⟩, .bool false] 41 (0, 0)) := hgr.trans (HGR.out)
            clear ht hgr hT
            have fr0 := blk_free gr 0
            have fr1 := blk_free gr 1
            have fr2 := blk_free gr 2
            have fr3 := blk_free gr 3
            have fr4 := blk_free gr 4
            have fr5 := blk_free gr 5
            obtain ⟨cr0, cr1, cr2, cr3, cr4, cr5⟩ := cell6 gr
            have hltr := blk_lt gr
            have GR := Lib.hid gr
            clear gr
            go_wp2_with fail
            have Z := cell6 (blk6 GR.out (.int .i64 n0) (.string a1) (.string a2) (.slice A3 l3 m3) (.string a4) (.bool c5))
            unfold put6 at Z
            obtain ⟨z0, z1, z2, z3, z4, z5⟩ := Z
            exact bodyPost_ret (v := .tuple #[.agg #[.int .i64 n0, .string a1, .string a2, .slice A3 l3 m3, .string a4, .bool c5], .bool c6]) (by simp [results, Tryd.results21, go_sem, z0, z1, z2, z3, z4, z5]) rfl (hR _ _ HT.out)
          | false =>
            rw [hc, if_neg (by decide)] at hR
            go_wp2_with fail
            have k2 := (Keep.refl (fun k => k = b) w1).set (p := ⟨b, 3, none⟩) rfl (.int .i64 3)
            have p2 := HP.out.scal (p' := { p with state := 3 }) k2 (blk_set HP.out.blk 3 (.int .i64 3)) rfl rfl rfl
            have K2 := Lib.hid k2; have P2 := Lib.hid p2
            have hsz := k2.size
            clear k2 p2
            have HK2 := Lib.hid ((Keep.old (F := fun k => S k ∨ k = b) HB1.out).trans K2.out fun i _ h => .inr h)
            have HRL2 := Lib.hid (Nat.lt_of_lt_of_le HR1.out hsz)
            have HGR := Lib.hid ((K2.out.block _ HR1.out (fun e => by have := HLB.out; omega)).trans HG1.out)
            clear hsz
            refine (none_took _ (fun k => (S k ∧ k < w.heap.size) ∨ w1.heap.size ≤ k) b _ ⟨_, _, _, P2.out⟩).mono ?_
            intro e w9 ht
            obtain ⟨n0, a1, a2, A3, l3, m3, a4, c5, c6, rfl, hgr, hT⟩ := took_thru ht (r := w.heap.size) (Nat.le_refl _) (HRL2.out) HLB.out HNS.out HS1.out (HK2.out)
            have HT := Lib.hid hT
            have gr : w9.heap[w.heap.size]? = some (.cells #[.int .i64 0, .string ⟨#[]⟩, .string ⟨#[]⟩, .slice none 0 0, .string ⟨#[]⟩, .bool false] 41 (0, 0)) := hgr.trans (HGR.out)
            clear ht hgr hT
            have fr0 := blk_free gr 0
            have fr1 := blk_free gr 1
            have fr2 := blk_free gr 2
            have fr3 := blk_free gr 3
            have fr4 := blk_free gr 4
            have fr5 := blk_free gr 5
            obtain ⟨cr0, cr1, cr2, cr3, cr4, cr5⟩ := cell6 gr
            have hltr := blk_lt gr
            have GR := Lib.hid gr
            clear gr
            go_wp2_with fail
            have Z := cell6 (blk6 GR.out (.int .i64 n0) (.string a1) (.string a2) (.slice A3 l3 m3) (.string a4) (.bool c5))
            unfold put6 at Z
            obtain ⟨z0, z1, z2, z3, z4, z5⟩ := Z
            exact bodyPost_ret (v := .tuple #[.agg #[.int .i64 n0, .string a1, .string a2, .slice A3 l3 m3, .string a4, .bool c5], .bool c6]) (by simp [results, Tryd.results21, go_sem, z0, z1, z2, z3, z4, z5]) rfl (hR _ _ HT.out)
        | false =>
          have H6 : Hid ((p.state == 6) = false) := Lib.hid (by rw [HPS.out]; exact h6)
          rw [tk7 H2.out H4.out H5.out H6.out] at hR
          go_wp2_with fail
          refine (read_any w1 _ b p c HP1.out HH.out HL.out).mono ?_
          rintro e w5 ⟨rfl, hp5, hk5⟩
          obtain ⟨rd, hrd⟩ : ∃ r, readN p c = r := ⟨_, rfl⟩
          have HRF : Hid (rd.ps.flds = p.flds ∧ rd.ps.sizes = p.sizes ∧ rd.line.length ≤ p.line.length) := Lib.hid (hrd ▸ readN_flds p c)
          rw [hrd] at hR hp5 ⊢
          clear hrd
          obtain ⟨q, ln, en, st⟩ := rd
          dsimp only at hR hp5 HRF ⊢
          have HP5 := Lib.hid hp5
          have HK5 := Lib.hid ((Keep.old (F := fun k => S k ∨ k = b) HB1.out).trans hk5 fun i _ h => by
            rcases h with h | h
            · exact .inl h.1
            · exact .inr h)
          have HR5 := Lib.hid (Nat.lt_of_lt_of_le HR1.out hk5.size)
          have HG5 := Lib.hid ((hk5.block _ HR1.out (fun e => by
            have := HLB.out
            rcases e with e | e
            · omega
            · omega)).trans HG1.out)
          have HM5 := Lib.hid (HK5.out.cell HM.out fun e => by
            rcases e with e | e
            · exact HSG.out e
            · exact HMB.out e)
          clear hp5 hk5 c3 f3 hltb
          cases hst : (st != 0) with
          | true =>
            rw [hst, if_pos rfl] at hR
            go_wp2_with fail
            refine (bad_took w5 _ b q HP5.out _).mono ?_
            intro e w9 ht
            obtain ⟨n0, a1, a2, A3, l3, m3, a4, c5, c6, rfl, hgr, hT⟩ := took_thru ht (r := w.heap.size) (Nat.le_refl _) (HR5.out) HLB.out HNS.out HS1.out (HK5.out)
            have HT := Lib.hid hT
            have gr : w9.heap[w.heap.size]? = some (.cells #[.int .i64 0, .string ⟨#[]⟩, .string ⟨#[]⟩, .slice none 0 0, .string ⟨#[]⟩, .bool false] 41 (0, 0)) := hgr.trans (HG5.out)
            clear ht hgr hT
            have fr0 := blk_free gr 0
            have fr1 := blk_free gr 1
            have fr2 := blk_free gr 2
            have fr3 := blk_free gr 3
            have fr4 := blk_free gr 4
            have fr5 := blk_free gr 5
            obtain ⟨cr0, cr1, cr2, cr3, cr4, cr5⟩ := cell6 gr
            have hltr := blk_lt gr
            have GR := Lib.hid gr
            clear gr
            go_wp2_with fail
            have Z := cell6 (blk6 GR.out (.int .i64 n0) (.string a1) (.string a2) (.slice A3 l3 m3) (.string a4) (.bool c5))
            unfold put6 at Z
            obtain ⟨z0, z1, z2, z3, z4, z5⟩ := Z
            exact bodyPost_ret (v := .tuple #[.agg #[.int .i64 n0, .string a1, .string a2, .slice A3 l3 m3, .string a4, .bool c5], .bool c6]) (by simp [results, Tryd.results21, go_sem, z0, z1, z2, z3, z4, z5]) rfl (hR _ _ HT.out)
          | false =>
            rw [hst, if_neg (by decide)] at hR
            cases en with
            | false =>
              rw [if_pos (show (!false) = true from rfl)] at hR
              go_wp2_with fail
              refine (none_took w5 _ b q HP5.out).mono ?_
              intro e w9 ht
              obtain ⟨n0, a1, a2, A3, l3, m3, a4, c5, c6, rfl, hgr, hT⟩ := took_thru ht (r := w.heap.size) (Nat.le_refl _) (HR5.out) HLB.out HNS.out HS1.out (HK5.out)
              have HT := Lib.hid hT
              have gr : w9.heap[w.heap.size]? = some (.cells #[.int .i64 0, .string ⟨#[]⟩, .string ⟨#[]⟩, .slice none 0 0, .string ⟨#[]⟩, .bool false] 41 (0, 0)) := hgr.trans (HG5.out)
              clear ht hgr hT
              have fr0 := blk_free gr 0
              have fr1 := blk_free gr 1
              have fr2 := blk_free gr 2
              have fr3 := blk_free gr 3
              have fr4 := blk_free gr 4
              have fr5 := blk_free gr 5
              obtain ⟨cr0, cr1, cr2, cr3, cr4, cr5⟩ := cell6 gr
              have hltr := blk_lt gr
              have GR := Lib.hid gr
              clear gr
              go_wp2_with fail
              have Z := cell6 (blk6 GR.out (.int .i64 n0) (.string a1) (.string a2) (.slice A3 l3 m3) (.string a4) (.bool c5))
              unfold put6 at Z
              obtain ⟨z0, z1, z2, z3, z4, z5⟩ := Z
              exact bodyPost_ret (v := .tuple #[.agg #[.int .i64 n0, .string a1, .string a2, .slice A3 l3 m3, .string a4, .bool c5], .bool c6]) (by simp [results, Tryd.results21, go_sem, z0, z1, z2, z3, z4, z5]) rfl (hR _ _ HT.out)
            | true =>
              rw [if_neg (show ¬ (!true) = true by decide)] at hR
              have HFQ : Hid (Fit q) := Lib.hid (by unfold Fit; rw [HRF.out.1]; exact HF.out)
              have HZQ : Hid (0 ≤ q.sizes ∧ q.sizes ≤ 1048576) := Lib.hid (by rw [HRF.out.2.1]; exact HZ.out)
              obtain ⟨LN, hLN⟩ : ∃ X, ofL ln = X := ⟨_, rfl⟩
              have hlt : ln = toL LN := by rw [← hLN, toL_ofL]
              have hls : LN.size ≤ 1000000 := by rw [← hLN, ofL_size]; exact Nat.le_trans HRF.out.2.2 HL.out
              rw [hlt] at hR
              rw [hLN]
              clear hLN hlt
              go_wp2_with fail
              refine (ended_any w5 _ b q HP5.out HFQ.out HZQ.out LN hls m HM5.out).mono ?_
              intro e w9 ht
              obtain ⟨n0, a1, a2, A3, l3, m3, a4, c5, c6, rfl, hgr, hT⟩ := took_thru ht (r := w.heap.size) (Nat.le_refl _) (HR5.out) HLB.out HNS.out HS1.out (HK5.out)
              have HT := Lib.hid hT
              have gr : w9.heap[w.heap.size]? = some (.cells #[.int .i64 0, .string ⟨#[]⟩, .string ⟨#[]⟩, .slice none 0 0, .string ⟨#[]⟩, .bool false] 41 (0, 0)) := hgr.trans (HG5.out)
              clear ht hgr hT
              have fr0 := blk_free gr 0
              have fr1 := blk_free gr 1
              have fr2 := blk_free gr 2
              have fr3 := blk_free gr 3
              have fr4 := blk_free gr 4
              have fr5 := blk_free gr 5
              obtain ⟨cr0, cr1, cr2, cr3, cr4, cr5⟩ := cell6 gr
              have hltr := blk_lt gr
              have GR := Lib.hid gr
              clear gr
              go_wp2_with fail
              have Z := cell6 (blk6 GR.out (.int .i64 n0) (.string a1) (.string a2) (.slice A3 l3 m3) (.string a4) (.bool c5))
              unfold put6 at Z
              obtain ⟨z0, z1, z2, z3, z4, z5⟩ := Z
              exact bodyPost_ret (v := .tuple #[.agg #[.int .i64 n0, .string a1, .string a2, .slice A3 l3 m3, .string a4, .bool c5], .bool c6]) (by simp [results, Tryd.results21, go_sem, z0, z1, z2, z3, z4, z5]) rfl (hR _ _ HT.out)
end Go.Proofs.YtaihjnicondifaaDoor.Asc
