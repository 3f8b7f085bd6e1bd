/-
  Contract: a line that has ended.
  Lengths within the rows' own reach; the library's MaxLen is a number.
-/
import Derived.Test.YtaihjnicondifaaDoorHtJ
namespace Go.Proofs.YtaihjnicondifaaDoor.Asc
open Go Go.RowKit Go.Proofs.YtaihjnicondifaaDoor.Pb

theorem infoF : (Tryd.prog.info? 71).map (fun i => (i.zero, i.size, i.bytes)) = some (some (.agg #[.string ByteArray.empty, .string ByteArray.empty]), 2, 32) := by kernel_rfl
theorem fl_rep (w : World) (x : Fd) (S T : ByteArray) (hS : toL S = x.1) (hT : toL T = x.2) : fld.rep w (fun _ => False) x [.string S, .string T] := by
  refine ⟨[_], [_], rfl, ?_, ?_⟩
  · show [Value.string S] = [Value.string (ofL x.1)]; rw [← hS, ofL_toL]
  · show [Value.string T] = [Value.string (ofL x.2)]; rw [← hT, ofL_toL]
section
variable {P : Program} {ops : Array Oper} {a : Act} {w : World} {K : Act → World → Prop} {Q : Exit → Act → World → Prop} {E : Prop}
/-- one is appended, in any world in which it lies in a block -/
theorem step_append1_gen {α : Type} {r : Rp α} {F : Nat → Prop} {xs : List α} {v : Value} {s x : Operand} {t e : TypeId} {z : Value} {bytes : Nat} {y : α} {d : Option Tmp} {ty : TypeId} {pos : String} {af : Array Edge}
    (ht : P.underlying t = some (.slice e)) (hinfo : (P.info? e).map (fun i => (i.zero, i.size, i.bytes)) = some (some z, r.sz, bytes)) (hzs : z.cells.size = r.sz) (hsz : 0 < r.sz)
    (hown : Own r e w F xs v) (hs : a.eval s = v) {k0 : Nat} {cs : Array Value} {tt : TypeId} {fz : Nat × Nat} (hx : a.eval x = .slice (some ⟨k0, 0, none⟩) 1 1) (hblk : w.heap[k0]? = some (.cells cs tt fz)) {G : Nat → Prop} (hy : r.rep w G y cs.toList) (hG : ∀ k, G k → some k ≠ v.ownBlock)
    (h63 : xs.length < 1099511627776) (hb : bytes ≤ 100)
    (h : ∀ v' w', Own r e w' (fun k => F k ∨ G k ∨ w.heap.size ≤ k) (xs ++ [y]) v' → Keep (fun k => some k = v.ownBlock) w w' → (v'.ownBlock = v.ownBlock ∨ ∃ k, v'.ownBlock = some k ∧ w.heap.size ≤ k) → K (a.put d v') w') :
    if Region.wanted ⟨d, .call ⟨.builtin .append, #[s, x], #[t, t]⟩, ty, pos, af, none⟩ (yielded ops a.tmps) = true then Oper.wp P ⟨d, .call ⟨.builtin .append, #[s, x], #[t, t]⟩, ty, pos, af, none⟩ a w K Q else E := by
  refine step_wanted rfl ?_
  have hat : At w k0 0 cs.toList := fun j u hu => by
    rw [blk_cell hblk]; simpa using hu
  have hmul : (xs.length + [y].length) * bytes ≤ 140737488355328 := by
    have : (xs.length + 1) * bytes ≤ 1099511627776 * 100 := Nat.mul_le_mul (by omega) hb
    simp only [List.length_cons, List.length_nil, Nat.zero_add]; omega
  obtain ⟨v', w', hr, ho, hk, hn, hb'⟩ := run_append_rows (ty := ty) (c := 1) ht hinfo hzs hsz hown hat (Elems.one hy) (fun k hk => hG k hk) (by simp only [List.length_cons, List.length_nil]; unfold maxLen; omega) hmul
  unfold Oper.wp
  rw [exec_append (v := v') (w' := w') (by simpa [hs, hx] using hr)]
  exact h v' w' ho hk hb'
end
theorem _root_.Go.Proofs.YtaihjnicondifaaDoor.Pb.Own.fields {e : TypeId} {w : World} {F F' : Nat → Prop} {xs : List Fd} {v : Value} (h : Own fld e w F xs v) (hF : ∀ k, v.ownBlock = some k → F' k) : Own fld e w F' xs v := by
  obtain ⟨cells, a1, _, a3⟩ := h
  exact ⟨cells, a1, hF, a3⟩
theorem PAt.ne {w : World} {S : Nat → Prop} {b : Nat} {p : PS} (h : PAt w S b p) {g : Nat} {m : Int} (hm : w.cell? ⟨g, 0, none⟩ = some (.int .i64 m)) : g ≠ b := by
  rintro rfl
  obtain ⟨L, F, B, h⟩ := h
  obtain ⟨A, n, rfl, _⟩ := h.line.slice
  have := blk_cell h.blk 0
  simp only [pcells, List.getElem?_toArray, List.getElem?_cons_zero] at this
  rw [hm] at this
  cases this
section
variable {p : PS} {l : List UInt8}
theorem en1 (h0 : (p.state == 0) = true) (he : l.isEmpty = true) : endedN p l = ({ p with head := 0 }, none) := by
  unfold endedN; rw [if_pos h0, if_pos he]
theorem en2 (h0 : (p.state == 0) = true) (he : l.isEmpty = false) (hf : firstOk l = true) : endedN p l = (firstN { p with state := 1 } l, none) := by
  unfold endedN; rw [if_pos h0, if_neg (by rw [he]; decide), if_pos hf]
theorem en3 (h0 : (p.state == 0) = true) (he : l.isEmpty = false) (hf : firstOk l = false) : endedN p l = ({ p with state := 1 }, some (badI 400)) := by
  unfold endedN; rw [if_pos h0, if_neg (by rw [he]; decide), if_neg (by rw [hf]; decide)]
theorem en4 (h0 : (p.state == 0) = false) (h3 : (p.state == 3) = true) : endedN p l = sizeN p l := by
  unfold endedN; rw [if_neg (by rw [h0]; decide), if_pos h3]
theorem en5 (h0 : (p.state == 0) = false) (h3 : (p.state == 3) = false) (he : l.isEmpty = true) (h7 : (p.state == 7) = true) : endedN p l = (p, some (doneN p)) := by
  unfold endedN; rw [if_neg (by rw [h0]; decide), if_neg (by rw [h3]; decide), if_pos he, if_pos h7]
theorem en6 (h0 : (p.state == 0) = false) (h3 : (p.state == 3) = false) (he : l.isEmpty = true) (h7 : (p.state == 7) = false) : endedN p l = headedN p := by
  unfold endedN; rw [if_neg (by rw [h0]; decide), if_neg (by rw [h3]; decide), if_pos he, if_neg (by rw [h7]; decide)]
theorem en7 (h0 : (p.state == 0) = false) (h3 : (p.state == 3) = false) (he : l.isEmpty = false) (hf : fieldOk l = false) : endedN p l = (p, some (badI 400)) := by
  unfold endedN; rw [if_neg (by rw [h0]; decide), if_neg (by rw [h3]; decide), if_neg (by rw [he]; decide), if_pos (by rw [hf]; rfl)]
theorem en8 (h0 : (p.state == 0) = false) (h3 : (p.state == 3) = false) (he : l.isEmpty = false) (hf : fieldOk l = true) (h1 : (p.state == 1) = true) : endedN p l = ({ p with flds := p.flds ++ [fieldN l] }, none) := by
  unfold endedN; rw [if_neg (by rw [h0]; decide), if_neg (by rw [h3]; decide), if_neg (by rw [he]; decide), if_neg (by rw [hf]; decide), if_pos h1]
theorem en9 (h0 : (p.state == 0) = false) (h3 : (p.state == 3) = false) (he : l.isEmpty = false) (hf : fieldOk l = true) (h1 : (p.state == 1) = false) : endedN p l = (p, none) := by
  unfold endedN; rw [if_neg (by rw [h0]; decide), if_neg (by rw [h3]; decide), if_neg (by rw [he]; decide), if_neg (by rw [hf]; decide), if_neg (by rw [h1]; decide)]
end

set_option maxHeartbeats 4000000 in
set_option maxRecDepth 20000 in
/-- a line that has ended -/
theorem ended_any (w : World) (S : Nat → Prop) (b : Nat) (p : PS) (h : PAt w S b p) (hf : Fit p) (hz : 0 ≤ p.sizes ∧ p.sizes ≤ 1048576) (s : ByteArray) (hs : s.size ≤ 1000000) (m : Int) (hm : w.cell? ⟨0, 0, none⟩ = some (.int .i64 m)) :
    Calls Tryd.prog 28 #[.pointer (some ⟨b, 0, none⟩), .string s] w fun e w' => Took (endedN p (toL s)) S b w w' e := by
  refine calls_gen fun R hR => ?_
  have hml := World.block_lt_of_cell? w _ hm
  have HM := Lib.hid hm; have HML := Lib.hid hml
  have HLB : Hid (b < w.heap.size) := Lib.hid h.lt
  have HNS : Hid (¬ S b) := Lib.hid h.out
  have H := Lib.hid h.bnd
  have HF := Lib.hid hf; have HZ := Lib.hid hz
  clear hm hml h hf hz
  have HS2 : Hid (∀ k, S k ∧ k < w.heap.size → (S k ∨ w.heap.size ≤ k) ∧ k ≠ w.heap.size) := Lib.hid fun k h => ⟨.inl h.1, by have := h.2; omega⟩
  obtain ⟨w1, hw1⟩ : ∃ w1, w.alloc (.cells #[.int .i64 0, .string ⟨#[]⟩, .string ⟨#[]⟩, .slice none 0 0, .string ⟨#[]⟩, .bool false] 41) = w1 := ⟨_, rfl⟩
  have HW1 := Lib.hid hw1
  have HB1 : Hid (Below w.heap.size w w1) := Lib.hid (hw1 ▸ below_new w _)
  have HG1 : Hid (w1.heap[w.heap.size]? = some (.cells #[.int .i64 0, .string ⟨#[]⟩, .string ⟨#[]⟩, .slice none 0 0, .string ⟨#[]⟩, .bool false] 41 (0, 0))) := Lib.hid (hw1 ▸ blk_new w _)
  have HR1 : Hid (w.heap.size < w1.heap.size) := Lib.hid (blk_lt HG1.out)
  clear hw1
  have HM1 : Hid (w1.cell? ⟨0, 0, none⟩ = some (.int .i64 m)) := Lib.hid ((HB1.out.cell (p := ⟨0, 0, none⟩) HML.out).trans HM.out)
  have HP1 := Lib.hid (H.out.below HB1.out)
  have HMB : Hid (0 ≠ b) := Lib.hid (H.out.ne HM.out)
  have hd : (s.toList == []) = (toL s).isEmpty := by rw [toList_toL, isEmpty_beq]
  go_enter Tryd.func28, Tryd.ntmps28
  go_upto_region 1 with fail
  rw [HW1.out]
  obtain ⟨L, F, B, hp⟩ := HP1.out
  obtain ⟨FA, fn, rfl, hfn⟩ := hp.flds.slice
  have hfl := HF.out.1
  have c2 := blk_cell hp.blk 2
  have c3 := blk_cell hp.blk 3
  have c6 := blk_cell hp.blk 6
  have f2 := blk_free hp.blk 2
  have f3 := blk_free hp.blk 3
  have f6 := blk_free hp.blk 6
  simp only [pcells, List.getElem?_toArray, List.getElem?_cons_zero, List.getElem?_cons_succ] at c2 c3 c6
  have hltb := blk_lt hp.blk
  have HP := Lib.hid hp
  clear hp
  obtain ⟨ps, hps⟩ : ∃ n, p.state = n := ⟨_, rfl⟩
  have HPS := Lib.hid hps
  rw [hps] at c3
  clear hps
  cases h0 : (ps == 0) with
  | true =>
    have H0 : Hid ((p.state == 0) = true) := Lib.hid (by rw [HPS.out]; exact h0)
    cases he : (toL s).isEmpty with
    | true =>
      rw [he] at hd
      rw [en1 H0.out he] at hR
      clear he
      go_wp2_with fail
      have k2 := ((Keep.refl (fun k => k = b) w1).set (p := ⟨b, 2, none⟩) rfl (.int .i64 0))
      have p2 := HP.out.scal (p' := { p with head := 0 }) k2 (blk_set HP.out.blk 2 (.int .i64 0)) rfl rfl rfl
      have K2 := Lib.hid k2; have P2 := Lib.hid p2
      have hsz := k2.size
      clear k2 p2
      have HK2 := Lib.hid ((Keep.old (F := fun k => S k ∨ k = b) HB1.out).trans K2.out fun i _ h => .inr h)
      have HRL2 := Lib.hid (Nat.lt_of_lt_of_le HR1.out hsz)
      have HGR := Lib.hid ((K2.out.block _ HR1.out (fun e => by have := HLB.out; omega)).trans HG1.out)
      clear hsz
      have HPQ : Hid (PAt _ (fun k => S k ∧ k < w.heap.size) b _) := Lib.hid ⟨_, _, _, P2.out.mono (S' := fun k => S k ∧ k < w.heap.size) (fun k hk h => by
        rcases h with h | h
        · exact h
        · simp only [size_setCell] at hk; omega) (fun h => HNS.out h.1)⟩
      refine (none_took _ (fun k => S k ∧ k < w.heap.size) b _ HPQ.out).mono ?_
      intro e w9 ht
      obtain ⟨n0, a1, a2, A3, l3, m3, a4, c5, c6, rfl, hgr, hT⟩ := took_thru ht (r := w.heap.size) (Nat.le_refl _) (HRL2.out) HLB.out HNS.out HS2.out (HK2.out)
      have HT := Lib.hid hT
      have gr : w9.heap[w.heap.size]? = some (.cells #[.int .i64 0, .string ⟨#[]⟩, .string ⟨#[]⟩, .slice none 0 0, .string ⟨#[]⟩, .bool false] 41 (0, 0)) := hgr.trans (HGR.out)
      clear ht hgr hT
      have fr0 := blk_free gr 0
      have fr1 := blk_free gr 1
      have fr2 := blk_free gr 2
      have fr3 := blk_free gr 3
      have fr4 := blk_free gr 4
      have fr5 := blk_free gr 5
      obtain ⟨cr0, cr1, cr2, cr3, cr4, cr5⟩ := cell6 gr
      have hltr := blk_lt gr
      have GR := Lib.hid gr
      clear gr
      go_wp2_with fail
      have Z := cell6 (blk6 GR.out (.int .i64 n0) (.string a1) (.string a2) (.slice A3 l3 m3) (.string a4) (.bool c5))
      unfold put6 at Z
      obtain ⟨z0, z1, z2, z3, z4, z5⟩ := Z
      exact bodyPost_ret (v := .tuple #[.agg #[.int .i64 n0, .string a1, .string a2, .slice A3 l3 m3, .string a4, .bool c5], .bool c6]) (by simp [results, Tryd.results28, go_sem, z0, z1, z2, z3, z4, z5]) rfl (hR _ _ HT.out)
    | false =>
      rw [he] at hd
      go_upto_region 7 with fail
      have k2 := ((Keep.refl (fun k => k = b) w1).set (p := ⟨b, 3, none⟩) rfl (.int .i64 1))
      have p2 := HP.out.scal (p' := { p with state := 1 }) k2 (blk_set HP.out.blk 3 (.int .i64 1)) rfl rfl rfl
      have K2 := Lib.hid k2; have P2 := Lib.hid p2
      have hsz := k2.size
      clear k2 p2
      have HK2 := Lib.hid ((Keep.old (F := fun k => S k ∨ k = b) HB1.out).trans K2.out fun i _ h => .inr h)
      have HRL2 := Lib.hid (Nat.lt_of_lt_of_le HR1.out hsz)
      have HGR := Lib.hid ((K2.out.block _ HR1.out (fun e => by have := HLB.out; omega)).trans HG1.out)
      clear hsz
      have HPQ : Hid (PAt _ (fun k => S k ∧ k < w.heap.size) b _) := Lib.hid ⟨_, _, _, P2.out.mono (S' := fun k => S k ∧ k < w.heap.size) (fun k hk h => by
        rcases h with h | h
        · exact h
        · simp only [size_setCell] at hk; omega) (fun h => HNS.out h.1)⟩
      obtain ⟨wq, hwq⟩ : ∃ wq, w1.setCell ⟨b, 3, none⟩ (.int .i64 1) = wq := ⟨_, rfl⟩
      rw [hwq] at HK2 HRL2 HGR HPQ ⊢
      have HMQ : Hid (wq.cell? ⟨0, 0, none⟩ = some (.int .i64 m)) := Lib.hid (hwq ▸ (K2.out.cell HM1.out fun e => HMB.out e))
      clear K2 P2 hwq c2 c3 c6 f2 f3 f6 hltb
      go_wp2_with fail
      refine (first_any wq _ b _ HPQ.out s hs m HMQ.out).mono ?_
      rintro e w5 ⟨rfl, hp5, hk5⟩
      have HK5 := Lib.hid (HK2.out.trans hk5 fun i _ h => by
        rcases h with h | h
        · exact .inl h.1
        · exact .inr h)
      have HRL5 := Lib.hid (Nat.lt_of_lt_of_le HRL2.out hk5.size)
      have HGR5 := Lib.hid ((hk5.block _ HRL2.out (fun e => by
        have := HLB.out
        rcases e with e | e
        · omega
        · omega)).trans HGR.out)
      have HS5 : Hid (∀ k, (S k ∧ k < w.heap.size) ∨ wq.heap.size ≤ k → (S k ∨ w.heap.size ≤ k) ∧ k ≠ w.heap.size) := Lib.hid fun k h => by
        have := HRL2.out
        rcases h with h | h
        · exact ⟨.inl h.1, by omega⟩
        · exact ⟨.inr (by omega), by omega⟩
      have HP5 := Lib.hid hp5
      clear hk5 hp5
      cases hfo : firstOk (toL s) with
      | true =>
        rw [hfo, if_pos rfl] at HP5
        rw [en2 H0.out he hfo] at hR
        clear hfo
        go_wp2_with fail
        refine (none_took w5 _ b _ HP5.out).mono ?_
        intro e w9 ht
        obtain ⟨n0, a1, a2, A3, l3, m3, a4, c5, c6, rfl, hgr, hT⟩ := took_thru ht (r := w.heap.size) (Nat.le_refl _) (HRL5.out) HLB.out HNS.out HS5.out (HK5.out)
        have HT := Lib.hid hT
        have gr : w9.heap[w.heap.size]? = some (.cells #[.int .i64 0, .string ⟨#[]⟩, .string ⟨#[]⟩, .slice none 0 0, .string ⟨#[]⟩, .bool false] 41 (0, 0)) := hgr.trans (HGR5.out)
        clear ht hgr hT
        have fr0 := blk_free gr 0
        have fr1 := blk_free gr 1
        have fr2 := blk_free gr 2
        have fr3 := blk_free gr 3
        have fr4 := blk_free gr 4
        have fr5 := blk_free gr 5
        obtain ⟨cr0, cr1, cr2, cr3, cr4, cr5⟩ := cell6 gr
        have hltr := blk_lt gr
        have GR := Lib.hid gr
        clear gr
        go_wp2_with fail
        have Z := cell6 (blk6 GR.out (.int .i64 n0) (.string a1) (.string a2) (.slice A3 l3 m3) (.string a4) (.bool c5))
        unfold put6 at Z
        obtain ⟨z0, z1, z2, z3, z4, z5⟩ := Z
        exact bodyPost_ret (v := .tuple #[.agg #[.int .i64 n0, .string a1, .string a2, .slice A3 l3 m3, .string a4, .bool c5], .bool c6]) (by simp [results, Tryd.results28, go_sem, z0, z1, z2, z3, z4, z5]) rfl (hR _ _ HT.out)
      | false =>
        rw [hfo, if_neg (by decide)] at HP5
        rw [en3 H0.out he hfo] at hR
        clear hfo
        go_wp2_with fail
        refine (bad_took w5 _ b _ HP5.out _).mono ?_
        intro e w9 ht
        obtain ⟨n0, a1, a2, A3, l3, m3, a4, c5, c6, rfl, hgr, hT⟩ := took_thru ht (r := w.heap.size) (Nat.le_refl _) (HRL5.out) HLB.out HNS.out HS5.out (HK5.out)
        have HT := Lib.hid hT
        have gr : w9.heap[w.heap.size]? = some (.cells #[.int .i64 0, .string ⟨#[]⟩, .string ⟨#[]⟩, .slice none 0 0, .string ⟨#[]⟩, .bool false] 41 (0, 0)) := hgr.trans (HGR5.out)
        clear ht hgr hT
        have fr0 := blk_free gr 0
        have fr1 := blk_free gr 1
        have fr2 := blk_free gr 2
        have fr3 := blk_free gr 3
        have fr4 := blk_free gr 4
        have fr5 := blk_free gr 5
        obtain ⟨cr0, cr1, cr2, cr3, cr4, cr5⟩ := cell6 gr
        have hltr := blk_lt gr
        have GR := Lib.hid gr
        clear gr
        go_wp2_with fail
        have Z := cell6 (blk6 GR.out (.int .i64 n0) (.string a1) (.string a2) (.slice A3 l3 m3) (.string a4) (.bool c5))
        unfold put6 at Z
        obtain ⟨z0, z1, z2, z3, z4, z5⟩ := Z
        exact bodyPost_ret (v := .tuple #[.agg #[.int .i64 n0, .string a1, .string a2, .slice A3 l3 m3, .string a4, .bool c5], .bool c6]) (by simp [results, Tryd.results28, go_sem, z0, z1, z2, z3, z4, z5]) rfl (hR _ _ HT.out)
  | false =>
    have H0 : Hid ((p.state == 0) = false) := Lib.hid (by rw [HPS.out]; exact h0)
    cases h3 : (ps == 3) with
    | true =>
      have H3 : Hid ((p.state == 3) = true) := Lib.hid (by rw [HPS.out]; exact h3)
      rw [en4 H0.out H3.out] at hR
      go_wp2_with fail
      refine (size_any w1 _ b p HP1.out s hs HZ.out m HM1.out).mono ?_
      intro e w9 ht
      obtain ⟨n0, a1, a2, A3, l3, m3, a4, c5, c6, rfl, hgr, hT⟩ := took_thru ht (r := w.heap.size) (Nat.le_refl _) (HR1.out) HLB.out HNS.out HS2.out (Keep.old HB1.out)
      have HT := Lib.hid hT
      have gr : w9.heap[w.heap.size]? = some (.cells #[.int .i64 0, .string ⟨#[]⟩, .string ⟨#[]⟩, .slice none 0 0, .string ⟨#[]⟩, .bool false] 41 (0, 0)) := hgr.trans (HG1.out)
      clear ht hgr hT
      have fr0 := blk_free gr 0
      have fr1 := blk_free gr 1
      have fr2 := blk_free gr 2
      have fr3 := blk_free gr 3
      have fr4 := blk_free gr 4
      have fr5 := blk_free gr 5
      obtain ⟨cr0, cr1, cr2, cr3, cr4, cr5⟩ := cell6 gr
      have hltr := blk_lt gr
      have GR := Lib.hid gr
      clear gr
      go_wp2_with fail
      have Z := cell6 (blk6 GR.out (.int .i64 n0) (.string a1) (.string a2) (.slice A3 l3 m3) (.string a4) (.bool c5))
      unfold put6 at Z
      obtain ⟨z0, z1, z2, z3, z4, z5⟩ := Z
      exact bodyPost_ret (v := .tuple #[.agg #[.int .i64 n0, .string a1, .string a2, .slice A3 l3 m3, .string a4, .bool c5], .bool c6]) (by simp [results, Tryd.results28, go_sem, z0, z1, z2, z3, z4, z5]) rfl (hR _ _ HT.out)
    | false =>
      have H3 : Hid ((p.state == 3) = false) := Lib.hid (by rw [HPS.out]; exact h3)
      cases he : (toL s).isEmpty with
      | true =>
        rw [he] at hd
        cases h7 : (ps == 7) with
        | true =>
          have H7 : Hid ((p.state == 7) = true) := Lib.hid (by rw [HPS.out]; exact h7)
          rw [en5 H0.out H3.out he H7.out] at hR
          clear he
          go_wp2_with fail
          refine (done_took w1 _ b p HP1.out HF.out m HM1.out).mono ?_
          intro e w9 ht
          obtain ⟨n0, a1, a2, A3, l3, m3, a4, c5, c6, rfl, hgr, hT⟩ := took_thru ht (r := w.heap.size) (Nat.le_refl _) (HR1.out) HLB.out HNS.out HS2.out (Keep.old HB1.out)
          have HT := Lib.hid hT
          have gr : w9.heap[w.heap.size]? = some (.cells #[.int .i64 0, .string ⟨#[]⟩, .string ⟨#[]⟩, .slice none 0 0, .string ⟨#[]⟩, .bool false] 41 (0, 0)) := hgr.trans (HG1.out)
          clear ht hgr hT
          have fr0 := blk_free gr 0
          have fr1 := blk_free gr 1
          have fr2 := blk_free gr 2
          have fr3 := blk_free gr 3
          have fr4 := blk_free gr 4
          have fr5 := blk_free gr 5
          obtain ⟨cr0, cr1, cr2, cr3, cr4, cr5⟩ := cell6 gr
          have hltr := blk_lt gr
          have GR := Lib.hid gr
          clear gr
          go_wp2_with fail
          have Z := cell6 (blk6 GR.out (.int .i64 n0) (.string a1) (.string a2) (.slice A3 l3 m3) (.string a4) (.bool c5))
          unfold put6 at Z
          obtain ⟨z0, z1, z2, z3, z4, z5⟩ := Z
          exact bodyPost_ret (v := .tuple #[.agg #[.int .i64 n0, .string a1, .string a2, .slice A3 l3 m3, .string a4, .bool c5], .bool c6]) (by simp [results, Tryd.results28, go_sem, z0, z1, z2, z3, z4, z5]) rfl (hR _ _ HT.out)
        | false =>
          have H7 : Hid ((p.state == 7) = false) := Lib.hid (by rw [HPS.out]; exact h7)
          rw [en6 H0.out H3.out he H7.out] at hR
          clear he
          go_wp2_with fail
          refine (headed_any w1 _ b p HP1.out HF.out m HM1.out).mono ?_
          intro e w9 ht
          obtain ⟨n0, a1, a2, A3, l3, m3, a4, c5, c6, rfl, hgr, hT⟩ := took_thru ht (r := w.heap.size) (Nat.le_refl _) (HR1.out) HLB.out HNS.out HS2.out (Keep.old HB1.out)
          have HT := Lib.hid hT
          have gr : w9.heap[w.heap.size]? = some (.cells #[.int .i64 0, .string ⟨#[]⟩, .string ⟨#[]⟩, .slice none 0 0, .string ⟨#[]⟩, .bool false] 41 (0, 0)) := hgr.trans (HG1.out)
          clear ht hgr hT
          have fr0 := blk_free gr 0
          have fr1 := blk_free gr 1
          have fr2 := blk_free gr 2
          have fr3 := blk_free gr 3
          have fr4 := blk_free gr 4
          have fr5 := blk_free gr 5
          obtain ⟨cr0, cr1, cr2, cr3, cr4, cr5⟩ := cell6 gr
          have hltr := blk_lt gr
          have GR := Lib.hid gr
          clear gr
          go_wp2_with fail
          have Z := cell6 (blk6 GR.out (.int .i64 n0) (.string a1) (.string a2) (.slice A3 l3 m3) (.string a4) (.bool c5))
          unfold put6 at Z
          obtain ⟨z0, z1, z2, z3, z4, z5⟩ := Z
          exact bodyPost_ret (v := .tuple #[.agg #[.int .i64 n0, .string a1, .string a2, .slice A3 l3 m3, .string a4, .bool c5], .bool c6]) (by simp [results, Tryd.results28, go_sem, z0, z1, z2, z3, z4, z5]) rfl (hR _ _ HT.out)
      | false =>
        rw [he] at hd
        go_wp2_with fail
        refine (field_any w1 s hs m HM1.out).mono ?_
        rintro e w2 ⟨rfl, hb2⟩
        obtain ⟨N, hN⟩ : ∃ N, ofL (fieldN (toL s)).1 = N := ⟨_, rfl⟩
        obtain ⟨V, hV⟩ : ∃ V, ofL (fieldN (toL s)).2 = V := ⟨_, rfl⟩
        have HFN : Hid (toL N = (fieldN (toL s)).1 ∧ toL V = (fieldN (toL s)).2) := Lib.hid (by rw [← hN, ← hV, toL_ofL, toL_ofL]; exact ⟨rfl, rfl⟩)
        rw [hN, hV]
        obtain ⟨w3, hw3⟩ : ∃ w3, w2.alloc (.cells #[.string N, .string V] 71) = w3 := ⟨_, rfl⟩
        have HW3 := Lib.hid hw3
        have HB3' : Hid (Below w2.heap.size w2 w3) := Lib.hid (hw3 ▸ below_new w2 _)
        have HG3 : Hid (w3.heap[w2.heap.size]? = some (.cells #[.string N, .string V] 71 (0, 0))) := Lib.hid (hw3 ▸ blk_new w2 (.cells #[.string N, .string V] 71))
        have HB3 : Hid (Below w1.heap.size w1 w3) := Lib.hid (hb2.trans (HB3'.out.mono hb2.size))
        have HBW := Lib.hid (HB1.out.trans (HB3.out.mono HB1.out.size))
        have HB2s := Lib.hid hb2.size
        clear hN hV hw3 hb2 c2 c3 c6 f2 f3 f6 hltb
        go_upto_region 17 with fail
        rw [HW3.out]
        cases hfo : fieldOk (toL s) with
        | false =>
          rw [en7 H0.out H3.out he hfo] at hR
          clear hfo he
          go_wp2_with fail
          refine (bad_took w3 _ b p (H.out.below HBW.out) _).mono ?_
          intro e w9 ht
          obtain ⟨n0, a1, a2, A3, l3, m3, a4, c5, c6, rfl, hgr, hT⟩ := took_thru ht (r := w.heap.size) (Nat.le_refl _) (Nat.lt_of_lt_of_le HR1.out HB3.out.size) HLB.out HNS.out HS2.out (Keep.old HBW.out)
          have HT := Lib.hid hT
          have gr : w9.heap[w.heap.size]? = some (.cells #[.int .i64 0, .string ⟨#[]⟩, .string ⟨#[]⟩, .slice none 0 0, .string ⟨#[]⟩, .bool false] 41 (0, 0)) := hgr.trans ((HB3.out.block _ HR1.out).trans HG1.out)
          clear ht hgr hT
          have fr0 := blk_free gr 0
          have fr1 := blk_free gr 1
          have fr2 := blk_free gr 2
          have fr3 := blk_free gr 3
          have fr4 := blk_free gr 4
          have fr5 := blk_free gr 5
          obtain ⟨cr0, cr1, cr2, cr3, cr4, cr5⟩ := cell6 gr
          have hltr := blk_lt gr
          have GR := Lib.hid gr
          clear gr
          go_wp2_with fail
          have Z := cell6 (blk6 GR.out (.int .i64 n0) (.string a1) (.string a2) (.slice A3 l3 m3) (.string a4) (.bool c5))
          unfold put6 at Z
          obtain ⟨z0, z1, z2, z3, z4, z5⟩ := Z
          exact bodyPost_ret (v := .tuple #[.agg #[.int .i64 n0, .string a1, .string a2, .slice A3 l3 m3, .string a4, .bool c5], .bool c6]) (by simp [results, Tryd.results28, go_sem, z0, z1, z2, z3, z4, z5]) rfl (hR _ _ HT.out)
        | true =>
          have hp := HP.out.below HB3.out
          have c3 := blk_cell hp.blk 3
          have c6 := blk_cell hp.blk 6
          have f6 := blk_free hp.blk 6
          simp only [pcells, List.getElem?_toArray, List.getElem?_cons_zero, List.getElem?_cons_succ] at c3 c6
          rw [HPS.out] at c3
          have hltb := blk_lt hp.blk
          have HP3 := Lib.hid hp
          clear hp
          cases h1 : (ps == 1) with
          | false =>
            have H1 : Hid ((p.state == 1) = false) := Lib.hid (by rw [HPS.out]; exact h1)
            rw [en9 H0.out H3.out he hfo H1.out] at hR
            clear hfo he
            go_wp2_with fail
            refine (none_took w3 _ b p (H.out.below HBW.out)).mono ?_
            intro e w9 ht
            obtain ⟨n0, a1, a2, A3, l3, m3, a4, c5, c6, rfl, hgr, hT⟩ := took_thru ht (r := w.heap.size) (Nat.le_refl _) (Nat.lt_of_lt_of_le HR1.out HB3.out.size) HLB.out HNS.out HS2.out (Keep.old HBW.out)
            have HT := Lib.hid hT
            have gr : w9.heap[w.heap.size]? = some (.cells #[.int .i64 0, .string ⟨#[]⟩, .string ⟨#[]⟩, .slice none 0 0, .string ⟨#[]⟩, .bool false] 41 (0, 0)) := hgr.trans ((HB3.out.block _ HR1.out).trans HG1.out)
            clear ht hgr hT
            have fr0 := blk_free gr 0
            have fr1 := blk_free gr 1
            have fr2 := blk_free gr 2
            have fr3 := blk_free gr 3
            have fr4 := blk_free gr 4
            have fr5 := blk_free gr 5
            obtain ⟨cr0, cr1, cr2, cr3, cr4, cr5⟩ := cell6 gr
            have hltr := blk_lt gr
            have GR := Lib.hid gr
            clear gr
            go_wp2_with fail
            have Z := cell6 (blk6 GR.out (.int .i64 n0) (.string a1) (.string a2) (.slice A3 l3 m3) (.string a4) (.bool c5))
            unfold put6 at Z
            obtain ⟨z0, z1, z2, z3, z4, z5⟩ := Z
            exact bodyPost_ret (v := .tuple #[.agg #[.int .i64 n0, .string a1, .string a2, .slice A3 l3 m3, .string a4, .bool c5], .bool c6]) (by simp [results, Tryd.results28, go_sem, z0, z1, z2, z3, z4, z5]) rfl (hR _ _ HT.out)
          | true =>
            have H1 : Hid ((p.state == 1) = true) := Lib.hid (by rw [HPS.out]; exact h1)
            rw [en8 H0.out H3.out he hfo H1.out] at hR
            clear hfo he
            go_upto_region 20 with fail
            have hg3 := HG3.out
            have x0 := blk_cell hg3 0
            have x1 := blk_cell hg3 1
            simp only [List.getElem?_toArray, List.getElem?_cons_zero, List.getElem?_cons_succ] at x0 x1
            have hltx := blk_lt hg3
            have HO := Lib.hid HP3.out.flds
            clear hg3
            obtain ⟨fls, hfls⟩ : ∃ l, p.flds = l := ⟨_, rfl⟩
            rw [hfls] at HO hfl hfn c6 HP3
            have HFL := Lib.hid hfls
            have HNF : Hid (¬ (Value.slice FA fls.length fn).ownBlock = some b) := Lib.hid (fun e => HP3.out.out (HP3.out.inF b e))
            have HKW : Hid (∀ W : World, Keep (fun _ => False) w3 W → Own fld 71 W (fun k => (Value.slice FA fls.length fn).ownBlock = some k) fls (.slice FA fls.length fn)) := Lib.hid fun W hk => HO.out.keep hk fun _ _ h => h
            clear HO
            go_region_law (first
              | (refine step_append1_gen (r := fld) (F := fun k => (Value.slice FA fls.length fn).ownBlock = some k) (G := fun _ => False) (k0 := w3.heap.size) (cs := #[.string N, .string V]) (y := fieldN (toL s)) Tryd.underlying29 infoF rfl (by decide) (HKW.out _ (by first | exact (Keep.alloc _ w3 _).drew | exact (Keep.refl _ w3).drew.new _ | exact Keep.alloc _ w3 _)) (by simp [Act.eval]) (by simp [Act.eval]) (blk_new w3 _) (fl_rep _ _ _ _ HFN.out.1 HFN.out.2) (fun k h => h.elim) (by omega) (by decide) ?_
                 intro v6 w6 ho6 hk6 hp6
                 have HWK : Hid (∀ k, k < w3.heap.size → (some k ≠ (Value.slice FA fls.length fn).ownBlock) → w6.heap[k]? = w3.heap[k]?) := Lib.hid fun k hk hne => (hk6.block k (Nat.lt_of_lt_of_le hk (by simp)) hne).trans (by first | exact Below.heap_alloc _ _ _ hk | exact (Below.heap_alloc w3.drew _ _ hk))
                 have HK6 : Hid (Keep (fun k => some k = (Value.slice FA fls.length fn).ownBlock) w3 w6) := Lib.hid ⟨hk6.os, hk6.tape, hk6.output, Nat.le_trans (by simp) hk6.size, HWK.out⟩
                 have HP6 : Hid (∀ k, v6.ownBlock = some k → (Value.slice FA fls.length fn).ownBlock = some k ∨ w3.heap.size ≤ k) := Lib.hid fun k hk => by
                   rcases hp6 with h | ⟨j, h, hj⟩
                   · exact .inl (h ▸ hk)
                   · rw [h] at hk; cases hk; simp at hj; exact .inr (by omega)
                 obtain ⟨zz, hzz⟩ : ∃ z, fls ++ [fieldN (toL s)] = z := ⟨_, rfl⟩
                 rw [hzz] at ho6
                 have HO6 := Lib.hid (ho6.fields (F' := fun k => v6.ownBlock = some k) fun k hk => hk)
                 have HZZ := Lib.hid hzz
                 clear hzz ho6 hk6 hp6 HWK
                 obtain ⟨A6, n6, rfl, hn6⟩ := HO6.out.slice
                 have HB6 := Lib.hid (HK6.out.blk HP3.out.blk (fun e => HNF.out e.symm))
                 have g6 := blk_cell HB6.out 6
                 have fg6 := blk_free HB6.out 6
                 have hb6 := blk_lt HB6.out
                 simp only [pcells, List.getElem?_toArray, List.getElem?_cons_zero, List.getElem?_cons_succ] at g6))
            all_goals
              go_wp2_with fail
              have kS := (Keep.refl (fun k => k = b) w6).set (p := ⟨b, 6, none⟩) rfl (.slice A6 zz.length n6)
              have bS := blk_set HB6.out 6 (.slice A6 zz.length n6)
              have hoS := HO6.out.keep kS (fun k hk e => by
                subst e
                rcases HP6.out k hk with h | h
                · exact HNF.out h
                · exact absurd (blk_lt HP3.out.blk) (by omega))
              have kF : Keep (fun k => k = b ∨ (Value.slice FA fls.length fn).ownBlock = some k) w3 (w6.setCell ⟨b, 6, none⟩ (.slice A6 zz.length n6)) := (HK6.out.mono (fun _ _ h => .inr h.symm)).trans kS fun i _ h => .inl h
              have PF := Lib.hid (HP3.out.newF (p' := { p with flds := p.flds ++ [fieldN (toL s)] }) kF bS (by rw [HFL.out, HZZ.out]; exact hoS) HP6.out rfl rfl)
              have HSF : Hid (∀ k, (S k ∧ k < w.heap.size) ∨ w3.heap.size ≤ k → (S k ∨ w.heap.size ≤ k) ∧ k ≠ w.heap.size) := Lib.hid fun k h => by
                have h1 := HR1.out; have h2 := HB3.out.size
                rcases h with h | h
                · exact ⟨.inl h.1, by omega⟩
                · exact ⟨.inr (by omega), by omega⟩
              have HKF := Lib.hid ((Keep.old (F := fun k => S k ∨ k = b) HBW.out).trans kF fun i hi h => by
                rcases h with h | h
                · exact .inr h
                · exact .inl (HP3.out.inF i h).1)
              have hsz := kF.size
              have HRF := Lib.hid (Nat.lt_of_lt_of_le (Nat.lt_of_lt_of_le HR1.out HB3.out.size) hsz)
              have HGF := Lib.hid ((kF.block _ (Nat.lt_of_lt_of_le HR1.out HB3.out.size) (fun e => by
                have := HLB.out
                rcases e with e | e
                · omega
                · have := (HP3.out.inF _ e).2; omega)).trans ((HB3.out.block _ HR1.out).trans HG1.out))
              clear kS bS hoS kF hsz
              refine (none_took _ (fun k => (S k ∧ k < w.heap.size) ∨ w3.heap.size ≤ k) b _ ⟨_, _, _, PF.out⟩).mono ?_
              intro e w9 ht
              obtain ⟨n0, a1, a2, A3, l3, m3, a4, c5, c6, rfl, hgr, hT⟩ := took_thru ht (r := w.heap.size) (Nat.le_refl _) (HRF.out) HLB.out HNS.out HSF.out (HKF.out)
              have HT := Lib.hid hT
              have gr : w9.heap[w.heap.size]? = some (.cells #[.int .i64 0, .string ⟨#[]⟩, .string ⟨#[]⟩, .slice none 0 0, .string ⟨#[]⟩, .bool false] 41 (0, 0)) := hgr.trans (HGF.out)
              clear ht hgr hT
              have fr0 := blk_free gr 0
              have fr1 := blk_free gr 1
              have fr2 := blk_free gr 2
              have fr3 := blk_free gr 3
              have fr4 := blk_free gr 4
              have fr5 := blk_free gr 5
              obtain ⟨cr0, cr1, cr2, cr3, cr4, cr5⟩ := cell6 gr
              have hltr := blk_lt gr
              have GR := Lib.hid gr
              clear gr
              go_wp2_with fail
              have Z := cell6 (blk6 GR.out (.int .i64 n0) (.string a1) (.string a2) (.slice A3 l3 m3) (.string a4) (.bool c5))
              unfold put6 at Z
              obtain ⟨z0, z1, z2, z3, z4, z5⟩ := Z
              exact bodyPost_ret (v := .tuple #[.agg #[.int .i64 n0, .string a1, .string a2, .slice A3 l3 m3, .string a4, .bool c5], .bool c6]) (by simp [results, Tryd.results28, go_sem, z0, z1, z2, z3, z4, z5]) rfl (hR _ _ HT.out)
end Go.Proofs.YtaihjnicondifaaDoor.Asc
