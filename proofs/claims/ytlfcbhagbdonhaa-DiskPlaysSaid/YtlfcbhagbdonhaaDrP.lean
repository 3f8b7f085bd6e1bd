/-
  Contract: the law's does: Append, Cut, Crash, Copy and what is no call.
  Lengths within the rows' own reach.
-/
import Derived.Test.YtlfcbhagbdonhaaDrO
namespace Go.Proofs.Ytlfcbhagbdonhaa.Asc
set_option linter.unusedSimpArgs false
set_option linter.unusedVariables false
open Go Go.RowKit Go.Proofs.Ytlfcbhagbdonhaa.Pb

section
variable {w w1 w2 w3 : World} {S F : Nat → Prop} {d b B0 : Nat} {dk x : Dk}
theorem two4_new (hd : DAt w2 (fun k => w1.heap.size < k) w1.heap.size x) (h1 : Below w1.heap.size w1 w2) (hr : RAt w3 (fun k => w2.heap.size < k) w2.heap.size x) (h2 : Below w2.heap.size w2 w3) (hB : B0 ≤ w1.heap.size) :
    Two4 B0 w3 (fun k => w1.heap.size < k ∧ k < w2.heap.size) (fun k => w2.heap.size < k ∧ k < w3.heap.size) w1.heap.size w2.heap.size x x := by
  have l1 := hd.lt
  have l2 := hr.lt
  refine ⟨(hd.mono (fun k hk h => ⟨h, hk⟩) fun h => by omega).below h2, hr.mono (fun k hk h => ⟨h, hk⟩) fun h => by omega, fun k hk => ?_, fun k hk => ?_, fun k hk hk2 => ?_⟩
  · omega
  · omega
  · omega
theorem two4_copy (hd : DAt w2 (fun k => w1.heap.size < k) w1.heap.size x) (h1 : Below w1.heap.size w1 w2) {b' : Nat} (hb' : w2.heap.size ≤ b') (hr : RAt w3 (fun j => (F j ∧ j < w2.heap.size) ∨ (w2.heap.size ≤ j ∧ j ≠ b')) b' x) (h2 : Below w2.heap.size w2 w3) (hB : B0 ≤ w1.heap.size) (hF : ∀ k, F k → B0 ≤ k ∧ k < w1.heap.size) :
    Two4 B0 w3 (fun k => w1.heap.size < k ∧ k < w2.heap.size) (fun k => F k ∨ (w2.heap.size ≤ k ∧ k < w3.heap.size ∧ k ≠ b')) w1.heap.size b' x x := by
  have l1 := hd.lt
  have l2 := hr.lt
  have l3 := h1.size
  refine ⟨(hd.mono (fun k hk h => ⟨h, hk⟩) fun h => by omega).below h2, hr.mono (fun k hk h => h.elim (fun h => .inl h.1) fun h => .inr ⟨h.1, hk, h.2⟩) fun h => ?_, fun k hk => ?_, fun k hk => ?_, fun k hk hk2 => ?_⟩
  · rcases h with h | h
    · have := hF _ h; omega
    · exact h.2.2 rfl
  · omega
  · rcases hk with (h | h) | h
    · have := hF _ h; omega
    · omega
    · omega
  · rcases hk2 with (h | h) | h
    · have := hF _ h; omega
    · omega
    · omega
set_option maxHeartbeats 8000000 in
set_option maxRecDepth 20000 in
theorem doescut_any (hB : Two4 B0 w S F d b dk dk) (hf : Fits dk) (ho : dk.ops ≤ 100000) (A U : ByteArray) (n : Int) (pv : Value) (ps : List Int) (G : Nat → Prop) (hp : View Rp.int w G ps pv) (hG : ∀ k, G k → k < B0) (hA : A.size ≤ 60000) (hU : U.size ≤ 60000) (hn : n ≤ 3000) (hps : ps.length ≤ 60000) (c : Int) (hc0 : 0 ≤ c) (hc1 : c ≤ 1000) (R : Ending → World → Prop) (hR : Does R B0 w dk) :
    Calls Try.prog 26 #[.pointer (some ⟨d, 0, none⟩), .pointer (some ⟨b, 0, none⟩), stepV 6 A U n pv, .int .i64 c] w (fun e w' => Pb.Fin (R e w')) := by
  obtain ⟨PA, pc, rfl, hpc, _⟩ := hp.open1
  have HP := Lib.hid hp; have HR := Lib.hid hR; have HF := Lib.hid hf
  obtain ⟨pn, hpn⟩ : ∃ pn, ps.length = pn := ⟨_, rfl⟩
  have HPN := Lib.hid hpn
  rw [hpn] at hpc hps ⊢
  have hok := hB.dd.ok
  have HOK := Lib.hid hok
  have hlen : dk.fs.length ≤ 1000 := Nat.le_trans hf.len (by decide)
  have hus : usedN dk.fs ≤ 1000000000 := Nat.le_trans hf.usd (by decide)
  obtain ⟨w1, hw1⟩ : ∃ w1, w.alloc (.cells #[.int .i64 6, .string A, .string U, .int .i64 n, .slice PA pn pc] 56) = w1 := ⟨_, rfl⟩
  obtain ⟨q, hq⟩ : ∃ q, w.heap.size = q := ⟨_, rfl⟩
  have hb1 : Below w.heap.size w w1 := hw1 ▸ below_new w _
  have hg1 : w1.heap[q]? = some (.cells #[.int .i64 6, .string A, .string U, .int .i64 n, .slice PA pn pc] 56 (0, 0)) := hw1 ▸ hq ▸ blk_new w _
  have hz1 : w1.heap.size = q + 1 := by rw [← hw1, ← hq]; simp
  have HT1 := Lib.hid (hB.below hb1)
  have HLQ : Hid (∀ k, (S k ∨ k = d) ∨ (F k ∨ k = b) → k < q) := Lib.hid fun k hk => by
    rcases hk with hk | hk
    · have := hB.lowS k hk; omega
    · have := hB.lowF k hk; omega
  have HB0 : Hid (B0 ≤ q) := Lib.hid (hq ▸ hB.b0)
  have HP1 := Lib.hid (hp.below hb1)
  have HB1 : Hid (Below B0 w w1) := Lib.hid (hb1.mono (by rw [hq]; exact HB0.out))
  have HG1 := Lib.hid hg1; have HW1 := Lib.hid hw1; have HQ := Lib.hid hq; have HZ1 := Lib.hid hz1
  unfold stepV
  clear hB hp hR hf hok hpn hw1 hq hb1 hz1 hg1
  go_enter Try.func26, Try.ntmps26
  go_upto_region 1 with fail
  rw [HW1.out, HQ.out]
  have q0 := blk_cell HG1.out 0
  have q1 := blk_cell HG1.out 1
  have q2 := blk_cell HG1.out 2
  have q3 := blk_cell HG1.out 3
  have q4 := blk_cell HG1.out 4
  simp only [List.getElem?_toArray, List.getElem?_cons_zero, List.getElem?_cons_succ] at q0 q1 q2 q3 q4
  have hql := blk_lt HG1.out
  go_wp2_with fail
  obtain ⟨g0, tag0, mv0, hd0⟩ := HT1.out.dd
  refine (cutd_any hd0 n (by omega)).mono ?_
  clear q0 q1 q2 q3 q4 hql
  rintro e w2 ⟨rfl, hd2, hk2⟩
  have hk2' : Keep (fun k => S k ∨ k = d) w1 w2 := hk2.mono fun _ _ h => .inr h
  obtain ⟨ht2, hb2⟩ := HT1.out.goD (x' := dk.cut n) ⟨g0, tag0, mv0, hd2.mono (fun _ _ h => .inl h) fun e => e.elim hd0.out fun e => by have := hd0.lt; omega⟩ hk2'
  have HG2 := Lib.hid (hk2'.blk HG1.out (fun e => by have := HLQ.out q (.inl e); omega))
  have HT2 := Lib.hid ht2; have HB2 := Lib.hid (HB1.out.trans hb2)
  clear hd2 hk2 ht2 hb2 hk2' hd0
  have q0 := blk_cell HG2.out 0
  have q1 := blk_cell HG2.out 1
  have q2 := blk_cell HG2.out 2
  have q3 := blk_cell HG2.out 3
  have q4 := blk_cell HG2.out 4
  simp only [List.getElem?_toArray, List.getElem?_cons_zero, List.getElem?_cons_succ] at q0 q1 q2 q3 q4
  have hql := blk_lt HG2.out
  go_wp2_with fail
  obtain ⟨lv0, last0, hr0⟩ := HT2.out.rr
  refine (rcut_any hr0 n (by omega) (by omega)).mono ?_
  clear q0 q1 q2 q3 q4 hql
  rintro e w3 ⟨rfl, hd3, hk3⟩
  obtain ⟨ht3, hb3⟩ := HT2.out.goR (y' := dk.cut n) (hd3.mono (fun _ _ h => .inl h) fun e => e.elim hr0.out fun e => by have := hr0.lt; omega) (hk3.mono fun _ _ h => .inr h)
  have HT3 := Lib.hid ht3; have HB3 := Lib.hid (HB2.out.trans hb3)
  clear hd3 hk3 ht3 hb3 hr0
  go_wp2_with fail
  refine bodyPost_ret (v := .tuple #[.pointer (some ⟨d, 0, none⟩), .pointer (some ⟨b, 0, none⟩), .bool true]) (by simp [results, Try.results26, go_sem]) rfl ?_
  exact HR.out d b _ _ _ _ HT3.out (fits_cut HF.out n) (Nat.le_succ _) HB3.out
set_option maxHeartbeats 8000000 in
set_option maxRecDepth 20000 in
theorem doescrash_any (hB : Two4 B0 w S F d b dk dk) (hf : Fits dk) (ho : dk.ops ≤ 100000) (A U : ByteArray) (n : Int) (pv : Value) (ps : List Int) (G : Nat → Prop) (hp : View Rp.int w G ps pv) (hG : ∀ k, G k → k < B0) (hA : A.size ≤ 60000) (hU : U.size ≤ 60000) (hn : n ≤ 3000) (hps : ps.length ≤ 60000) (c : Int) (hc0 : 0 ≤ c) (hc1 : c ≤ 1000) (R : Ending → World → Prop) (hR : Does R B0 w dk) :
    Calls Try.prog 26 #[.pointer (some ⟨d, 0, none⟩), .pointer (some ⟨b, 0, none⟩), stepV 7 A U n pv, .int .i64 c] w (fun e w' => Pb.Fin (R e w')) := by
  obtain ⟨PA, pc, rfl, hpc, _⟩ := hp.open1
  have HP := Lib.hid hp; have HR := Lib.hid hR; have HF := Lib.hid hf
  obtain ⟨pn, hpn⟩ : ∃ pn, ps.length = pn := ⟨_, rfl⟩
  have HPN := Lib.hid hpn
  rw [hpn] at hpc hps ⊢
  have hok := hB.dd.ok
  have HOK := Lib.hid hok
  have hlen : dk.fs.length ≤ 1000 := Nat.le_trans hf.len (by decide)
  have hus : usedN dk.fs ≤ 1000000000 := Nat.le_trans hf.usd (by decide)
  obtain ⟨w1, hw1⟩ : ∃ w1, w.alloc (.cells #[.int .i64 7, .string A, .string U, .int .i64 n, .slice PA pn pc] 56) = w1 := ⟨_, rfl⟩
  obtain ⟨q, hq⟩ : ∃ q, w.heap.size = q := ⟨_, rfl⟩
  have hb1 : Below w.heap.size w w1 := hw1 ▸ below_new w _
  have hg1 : w1.heap[q]? = some (.cells #[.int .i64 7, .string A, .string U, .int .i64 n, .slice PA pn pc] 56 (0, 0)) := hw1 ▸ hq ▸ blk_new w _
  have hz1 : w1.heap.size = q + 1 := by rw [← hw1, ← hq]; simp
  have HT1 := Lib.hid (hB.below hb1)
  have HLQ : Hid (∀ k, (S k ∨ k = d) ∨ (F k ∨ k = b) → k < q) := Lib.hid fun k hk => by
    rcases hk with hk | hk
    · have := hB.lowS k hk; omega
    · have := hB.lowF k hk; omega
  have HB0 : Hid (B0 ≤ q) := Lib.hid (hq ▸ hB.b0)
  have HP1 := Lib.hid (hp.below hb1)
  have HB1 : Hid (Below B0 w w1) := Lib.hid (hb1.mono (by rw [hq]; exact HB0.out))
  have HG1 := Lib.hid hg1; have HW1 := Lib.hid hw1; have HQ := Lib.hid hq; have HZ1 := Lib.hid hz1
  unfold stepV
  clear hB hp hR hf hok hpn hw1 hq hb1 hz1 hg1
  go_enter Try.func26, Try.ntmps26
  go_upto_region 1 with fail
  rw [HW1.out, HQ.out]
  have q0 := blk_cell HG1.out 0
  have q1 := blk_cell HG1.out 1
  have q2 := blk_cell HG1.out 2
  have q3 := blk_cell HG1.out 3
  have q4 := blk_cell HG1.out 4
  simp only [List.getElem?_toArray, List.getElem?_cons_zero, List.getElem?_cons_succ] at q0 q1 q2 q3 q4
  have hql := blk_lt HG1.out
  have HPV : Hid (View Rp.int w1 (fun k => G k ∧ k < q) ps (.slice PA pn pc)) := Lib.hid (by
    have := HP1.out
    exact (HPN.out ▸ this).mono fun k hk => ⟨hk, by have := hG k hk; have := HB0.out; omega⟩)
  go_wp2_with fail
  obtain ⟨g0, tag0, mv0, hd0⟩ := HT1.out.dd
  refine (crash_any hd0 hlen (fun f hf' => Nat.le_trans (used_mem hf') (Nat.le_trans HF.out.usd (by decide))) ps _ _ HPV.out (by rw [HPN.out]; omega)).mono ?_
  clear q0 q1 q2 q3 q4 hql
  rintro e w2 ⟨rfl, hd2, hb2⟩
  have HD2 := Lib.hid hd2; have HX2 := Lib.hid hb2
  have HG2 := Lib.hid ((hb2.block q (by have := HZ1.out; omega)).trans HG1.out)
  have HRR := Lib.hid (HT1.out.rr.below hb2)
  have HPV2 := Lib.hid (HPV.out.below hb2)
  have HB2 := Lib.hid (HB1.out.trans (hb2.mono (by have := HB0.out; have := HZ1.out; omega)))
  clear hd2 hb2 hd0
  have q0 := blk_cell HG2.out 0
  have q1 := blk_cell HG2.out 1
  have q2 := blk_cell HG2.out 2
  have q3 := blk_cell HG2.out 3
  have q4 := blk_cell HG2.out 4
  simp only [List.getElem?_toArray, List.getElem?_cons_zero, List.getElem?_cons_succ] at q0 q1 q2 q3 q4
  have hql := blk_lt HG2.out
  go_wp2_with fail
  obtain ⟨lv0, last0, hr0⟩ := HRR.out
  refine (rcrash_any hr0 HOK.out hlen (fun f hf' => Nat.le_trans (used_mem hf') (Nat.le_trans HF.out.usd (by decide))) ps _ _ HPV2.out (by rw [HPN.out]; omega)).mono ?_
  clear q0 q1 q2 q3 q4 hql
  rintro e w3 ⟨rfl, hd3, hb3⟩
  have HD3 := Lib.hid hd3; have HX3 := Lib.hid hb3
  have HT3 := Lib.hid (two4_new (B0 := B0) HD2.out HX2.out hd3 hb3 (by have := HB0.out; have := HZ1.out; omega))
  have HB3 := Lib.hid (HB2.out.trans (hb3.mono (by have := HB0.out; have := HZ1.out; have := HX2.out.size; omega)))
  clear hd3 hb3 hr0
  go_wp2_with fail
  refine bodyPost_ret (v := .tuple #[.pointer (some ⟨w1.heap.size, 0, none⟩), .pointer (some ⟨w2.heap.size, 0, none⟩), .bool true]) (by simp [results, Try.results26, go_sem]) rfl ?_
  exact HR.out w1.heap.size w2.heap.size _ _ _ _ HT3.out (fits_crash HF.out ps) (Nat.zero_le _) HB3.out
set_option maxHeartbeats 8000000 in
set_option maxRecDepth 20000 in
theorem doescopy_any (hB : Two4 B0 w S F d b dk dk) (hf : Fits dk) (ho : dk.ops ≤ 100000) (A U : ByteArray) (n : Int) (pv : Value) (ps : List Int) (G : Nat → Prop) (hp : View Rp.int w G ps pv) (hG : ∀ k, G k → k < B0) (hA : A.size ≤ 60000) (hU : U.size ≤ 60000) (hn : n ≤ 3000) (hps : ps.length ≤ 60000) (c : Int) (hc0 : 0 ≤ c) (hc1 : c ≤ 1000) (R : Ending → World → Prop) (hR : Does R B0 w dk) :
    Calls Try.prog 26 #[.pointer (some ⟨d, 0, none⟩), .pointer (some ⟨b, 0, none⟩), stepV 8 A U n pv, .int .i64 c] w (fun e w' => Pb.Fin (R e w')) := by
  obtain ⟨PA, pc, rfl, hpc, _⟩ := hp.open1
  have HP := Lib.hid hp; have HR := Lib.hid hR; have HF := Lib.hid hf
  obtain ⟨pn, hpn⟩ : ∃ pn, ps.length = pn := ⟨_, rfl⟩
  have HPN := Lib.hid hpn
  rw [hpn] at hpc hps ⊢
  have hok := hB.dd.ok
  have HOK := Lib.hid hok
  have hlen : dk.fs.length ≤ 1000 := Nat.le_trans hf.len (by decide)
  have hus : usedN dk.fs ≤ 1000000000 := Nat.le_trans hf.usd (by decide)
  obtain ⟨w1, hw1⟩ : ∃ w1, w.alloc (.cells #[.int .i64 8, .string A, .string U, .int .i64 n, .slice PA pn pc] 56) = w1 := ⟨_, rfl⟩
  obtain ⟨q, hq⟩ : ∃ q, w.heap.size = q := ⟨_, rfl⟩
  have hb1 : Below w.heap.size w w1 := hw1 ▸ below_new w _
  have hg1 : w1.heap[q]? = some (.cells #[.int .i64 8, .string A, .string U, .int .i64 n, .slice PA pn pc] 56 (0, 0)) := hw1 ▸ hq ▸ blk_new w _
  have hz1 : w1.heap.size = q + 1 := by rw [← hw1, ← hq]; simp
  have HT1 := Lib.hid (hB.below hb1)
  have HLQ : Hid (∀ k, (S k ∨ k = d) ∨ (F k ∨ k = b) → k < q) := Lib.hid fun k hk => by
    rcases hk with hk | hk
    · have := hB.lowS k hk; omega
    · have := hB.lowF k hk; omega
  have HB0 : Hid (B0 ≤ q) := Lib.hid (hq ▸ hB.b0)
  have HP1 := Lib.hid (hp.below hb1)
  have HB1 : Hid (Below B0 w w1) := Lib.hid (hb1.mono (by rw [hq]; exact HB0.out))
  have HG1 := Lib.hid hg1; have HW1 := Lib.hid hw1; have HQ := Lib.hid hq; have HZ1 := Lib.hid hz1
  unfold stepV
  clear hB hp hR hf hok hpn hw1 hq hb1 hz1 hg1
  go_enter Try.func26, Try.ntmps26
  go_upto_region 1 with fail
  rw [HW1.out, HQ.out]
  have q0 := blk_cell HG1.out 0
  have q1 := blk_cell HG1.out 1
  have q2 := blk_cell HG1.out 2
  have q3 := blk_cell HG1.out 3
  have q4 := blk_cell HG1.out 4
  simp only [List.getElem?_toArray, List.getElem?_cons_zero, List.getElem?_cons_succ] at q0 q1 q2 q3 q4
  have hql := blk_lt HG1.out
  go_wp2_with fail
  obtain ⟨g0, tag0, mv0, hd0⟩ := HT1.out.dd
  refine (copy_any hd0 hlen (fun f hf' => Nat.le_trans (used_mem hf') (Nat.le_trans hus (by decide)))).mono ?_
  clear q0 q1 q2 q3 q4 hql
  rintro e w2 ⟨rfl, hd2, hb2⟩
  have HD2 := Lib.hid hd2; have HX2 := Lib.hid hb2
  have HRR := Lib.hid (HT1.out.rr.below hb2)
  have HB2 := Lib.hid (HB1.out.trans (hb2.mono (by have := HB0.out; have := HZ1.out; omega)))
  clear hd2 hb2 hd0
  go_wp2_with fail
  obtain ⟨lv0, last0, hr0⟩ := HRR.out
  refine (rcopy_any hr0 hlen).mono ?_
  rintro e w3 ⟨b', rfl, hb', hd3, hb3⟩
  have HT3 := Lib.hid (two4_copy (B0 := B0) HD2.out HX2.out hb' hd3 hb3 (by have := HB0.out; have := HZ1.out; omega) fun k hk => HT1.out.lowF k (.inl hk))
  have HB3 := Lib.hid (HB2.out.trans (hb3.mono (by have := HB0.out; have := HZ1.out; have := HX2.out.size; omega)))
  clear hd3 hb3 hr0
  go_wp2_with fail
  refine bodyPost_ret (v := .tuple #[.pointer (some ⟨w1.heap.size, 0, none⟩), .pointer (some ⟨b', 0, none⟩), .bool true]) (by simp [results, Try.results26, go_sem]) rfl ?_
  exact HR.out w1.heap.size b' _ _ _ _ HT3.out HF.out (Nat.le_succ _) HB3.out
set_option maxHeartbeats 8000000 in
set_option maxRecDepth 20000 in
theorem doesnone_any (hB : Two4 B0 w S F d b dk dk) (hf : Fits dk) (ho : dk.ops ≤ 100000) (k : Int) (hk : k < 1 ∨ 9 < k) (A U : ByteArray) (n : Int) (pv : Value) (ps : List Int) (G : Nat → Prop) (hp : View Rp.int w G ps pv) (hG : ∀ k, G k → k < B0) (hA : A.size ≤ 60000) (hU : U.size ≤ 60000) (hn : n ≤ 3000) (hps : ps.length ≤ 60000) (c : Int) (hc0 : 0 ≤ c) (hc1 : c ≤ 1000) (R : Ending → World → Prop) (hR : Does R B0 w dk) :
    Calls Try.prog 26 #[.pointer (some ⟨d, 0, none⟩), .pointer (some ⟨b, 0, none⟩), stepV k A U n pv, .int .i64 c] w (fun e w' => Pb.Fin (R e w')) := by
  obtain ⟨PA, pc, rfl, hpc, _⟩ := hp.open1
  have HP := Lib.hid hp; have HR := Lib.hid hR; have HF := Lib.hid hf
  obtain ⟨pn, hpn⟩ : ∃ pn, ps.length = pn := ⟨_, rfl⟩
  have HPN := Lib.hid hpn
  rw [hpn] at hpc hps ⊢
  have hok := hB.dd.ok
  have HOK := Lib.hid hok
  have hlen : dk.fs.length ≤ 1000 := Nat.le_trans hf.len (by decide)
  have hus : usedN dk.fs ≤ 1000000000 := Nat.le_trans hf.usd (by decide)
  obtain ⟨w1, hw1⟩ : ∃ w1, w.alloc (.cells #[.int .i64 k, .string A, .string U, .int .i64 n, .slice PA pn pc] 56) = w1 := ⟨_, rfl⟩
  obtain ⟨q, hq⟩ : ∃ q, w.heap.size = q := ⟨_, rfl⟩
  have hb1 : Below w.heap.size w w1 := hw1 ▸ below_new w _
  have hg1 : w1.heap[q]? = some (.cells #[.int .i64 k, .string A, .string U, .int .i64 n, .slice PA pn pc] 56 (0, 0)) := hw1 ▸ hq ▸ blk_new w _
  have hz1 : w1.heap.size = q + 1 := by rw [← hw1, ← hq]; simp
  have HT1 := Lib.hid (hB.below hb1)
  have HLQ : Hid (∀ k, (S k ∨ k = d) ∨ (F k ∨ k = b) → k < q) := Lib.hid fun k hk => by
    rcases hk with hk | hk
    · have := hB.lowS k hk; omega
    · have := hB.lowF k hk; omega
  have HB0 : Hid (B0 ≤ q) := Lib.hid (hq ▸ hB.b0)
  have HP1 := Lib.hid (hp.below hb1)
  have HB1 : Hid (Below B0 w w1) := Lib.hid (hb1.mono (by rw [hq]; exact HB0.out))
  have HG1 := Lib.hid hg1; have HW1 := Lib.hid hw1; have HQ := Lib.hid hq; have HZ1 := Lib.hid hz1
  unfold stepV
  clear hB hp hR hf hok hpn hw1 hq hb1 hz1 hg1
  go_enter Try.func26, Try.ntmps26
  have e1 : (k == 1) = false := by rw [beq_eq_false_iff_ne]; omega
  have e2 : (k == 2) = false := by rw [beq_eq_false_iff_ne]; omega
  have e3 : (k == 3) = false := by rw [beq_eq_false_iff_ne]; omega
  have e4 : (k == 4) = false := by rw [beq_eq_false_iff_ne]; omega
  have e5 : (k == 5) = false := by rw [beq_eq_false_iff_ne]; omega
  have e6 : (k == 6) = false := by rw [beq_eq_false_iff_ne]; omega
  have e7 : (k == 7) = false := by rw [beq_eq_false_iff_ne]; omega
  have e8 : (k == 8) = false := by rw [beq_eq_false_iff_ne]; omega
  have e9 : (k == 9) = false := by rw [beq_eq_false_iff_ne]; omega
  go_upto_region 1 with fail
  rw [HW1.out, HQ.out]
  have q0 := blk_cell HG1.out 0
  have q1 := blk_cell HG1.out 1
  have q2 := blk_cell HG1.out 2
  have q3 := blk_cell HG1.out 3
  have q4 := blk_cell HG1.out 4
  simp only [List.getElem?_toArray, List.getElem?_cons_zero, List.getElem?_cons_succ] at q0 q1 q2 q3 q4
  have hql := blk_lt HG1.out
  go_wp2_with fail
  refine bodyPost_ret (v := .tuple #[.pointer (some ⟨d, 0, none⟩), .pointer (some ⟨b, 0, none⟩), .bool true]) (by simp [results, Try.results26, go_sem]) rfl ?_
  exact HR.out d b _ _ _ _ HT1.out HF.out (Nat.le_succ _) HB1.out
set_option maxHeartbeats 8000000 in
set_option maxRecDepth 20000 in
theorem doesappend_any (hB : Two4 B0 w S F d b dk dk) (hf : Fits dk) (ho : dk.ops ≤ 100000) (A U : ByteArray) (n : Int) (pv : Value) (ps : List Int) (G : Nat → Prop) (hp : View Rp.int w G ps pv) (hG : ∀ k, G k → k < B0) (hA : A.size ≤ 60000) (hU : U.size ≤ 60000) (hn : n ≤ 3000) (hps : ps.length ≤ 60000) (c : Int) (hc0 : 0 ≤ c) (hc1 : c ≤ 1000) (R : Ending → World → Prop) (hR : Does R B0 w dk) :
    Calls Try.prog 26 #[.pointer (some ⟨d, 0, none⟩), .pointer (some ⟨b, 0, none⟩), stepV 1 A U n pv, .int .i64 c] w (fun e w' => Pb.Fin (R e w')) := by
  obtain ⟨PA, pc, rfl, hpc, _⟩ := hp.open1
  have HP := Lib.hid hp; have HR := Lib.hid hR; have HF := Lib.hid hf
  obtain ⟨pn, hpn⟩ : ∃ pn, ps.length = pn := ⟨_, rfl⟩
  have HPN := Lib.hid hpn
  rw [hpn] at hpc hps ⊢
  have hok := hB.dd.ok
  have HOK := Lib.hid hok
  have hlen : dk.fs.length ≤ 1000 := Nat.le_trans hf.len (by decide)
  have hus : usedN dk.fs ≤ 1000000000 := Nat.le_trans hf.usd (by decide)
  obtain ⟨w1, hw1⟩ : ∃ w1, w.alloc (.cells #[.int .i64 1, .string A, .string U, .int .i64 n, .slice PA pn pc] 56) = w1 := ⟨_, rfl⟩
  obtain ⟨q, hq⟩ : ∃ q, w.heap.size = q := ⟨_, rfl⟩
  have hb1 : Below w.heap.size w w1 := hw1 ▸ below_new w _
  have hg1 : w1.heap[q]? = some (.cells #[.int .i64 1, .string A, .string U, .int .i64 n, .slice PA pn pc] 56 (0, 0)) := hw1 ▸ hq ▸ blk_new w _
  have hz1 : w1.heap.size = q + 1 := by rw [← hw1, ← hq]; simp
  have HT1 := Lib.hid (hB.below hb1)
  have HLQ : Hid (∀ k, (S k ∨ k = d) ∨ (F k ∨ k = b) → k < q) := Lib.hid fun k hk => by
    rcases hk with hk | hk
    · have := hB.lowS k hk; omega
    · have := hB.lowF k hk; omega
  have HB0 : Hid (B0 ≤ q) := Lib.hid (hq ▸ hB.b0)
  have HP1 := Lib.hid (hp.below hb1)
  have HB1 : Hid (Below B0 w w1) := Lib.hid (hb1.mono (by rw [hq]; exact HB0.out))
  have HG1 := Lib.hid hg1; have HW1 := Lib.hid hw1; have HQ := Lib.hid hq; have HZ1 := Lib.hid hz1
  unfold stepV
  clear hB hp hR hf hok hpn hw1 hq hb1 hz1 hg1
  go_enter Try.func26, Try.ntmps26
  go_upto_region 1 with fail
  rw [HW1.out, HQ.out]
  have q0 := blk_cell HG1.out 0
  have q1 := blk_cell HG1.out 1
  have q2 := blk_cell HG1.out 2
  have q3 := blk_cell HG1.out 3
  have q4 := blk_cell HG1.out 4
  simp only [List.getElem?_toArray, List.getElem?_cons_zero, List.getElem?_cons_succ] at q0 q1 q2 q3 q4
  have hql := blk_lt HG1.out
  obtain ⟨m, hm⟩ : ∃ m, m = n.toNat := ⟨_, rfl⟩
  have hm1 : m ≤ 3000 := by omega
  go_wp2_with fail
  refine (bytes4_any n m hm c w1 (by omega) (by omega) (by omega)).mono ?_
  clear q0 q1 q2 q3 q4 hql
  rintro e w2 ⟨rfl, hv2, hb2, hz2⟩
  obtain ⟨z2, hzz2⟩ : ∃ z2, w1.heap.size = z2 := ⟨_, rfl⟩
  rw [hzz2] at hv2 hb2 hz2
  rw [hzz2]
  have hx2 : Below w1.heap.size w1 w2 := hzz2 ▸ hb2
  have HZZ := Lib.hid hzz2
  have HT2 := Lib.hid (HT1.out.below hx2)
  have HG2 := Lib.hid ((hx2.block q (by have := HZ1.out; omega)).trans HG1.out)
  have HB2 := Lib.hid (HB1.out.trans (hx2.mono HT1.out.b0))
  obtain ⟨bs, hbs⟩ : ∃ bs, lawB m c = bs := ⟨_, rfl⟩
  rw [hbs] at hv2
  have HBL : Hid (bs.length = m) := Lib.hid (by rw [← hbs, lawB_len])
  have HV2 := Lib.hid hv2
  have hqz : q < z2 := by have := HZ1.out; omega
  obtain ⟨h, hh⟩ : ∃ h, h = m / 2 := ⟨_, rfl⟩
  have hhm : h ≤ m := by omega
  have HH := Lib.hid hh
  have HQUO : Hid ((m : Int) / 2 = (h : Int)) := Lib.hid (by omega)
  clear hm hzz2 hv2 hb2 hx2 hbs hh
  have q0 := blk_cell HG2.out 0
  have q1 := blk_cell HG2.out 1
  have q2 := blk_cell HG2.out 2
  have q3 := blk_cell HG2.out 3
  have q4 := blk_cell HG2.out 4
  simp only [List.getElem?_toArray, List.getElem?_cons_zero, List.getElem?_cons_succ] at q0 q1 q2 q3 q4
  have hql := blk_lt HG2.out
  go_upto_region 7 with fail
  rw [HQUO.out]
  have HQ1 : Hid (w2.cell? ⟨q, 1, none⟩ = some (.string A)) := Lib.hid q1
  clear q0 q1 q2 q3 q4 hql
  have hh0 : (0 : Int) ≤ (h : Int) := by omega
  have hhc : (h : Int) ≤ (m : Int) := by omega
  have HZ2 : Hid (z2 < w2.heap.size) := Lib.hid hz2
  have HNZ : Hid (∀ k, k = z2 → ¬ ((S k ∨ k = d) ∨ (F k ∨ k = b))) := Lib.hid fun k hk e => by
    have := HLQ.out k e; omega
  have hcase : (m = 0 ∧ h = 0) ∨ (0 < m ∧ h < m) := by have := HH.out; omega
  have HVA : Hid (View Rp.u8 w2 (fun k => k = z2) (bs.take h) (.slice (some ⟨z2, 0, none⟩) h m)) := Lib.hid (HV2.out.take h (by rw [HBL.out]; exact hhm) (fun e => by cases e))
  have HVB : Hid (View Rp.u8 w2 (fun k => k = z2) (bs.drop h) (.slice (some ⟨z2, h, none⟩) (m - h) (m - h))) := Lib.hid (by
    have := HV2.out.drop h (by rw [HBL.out]; exact hhm)
    rw [Nat.zero_add, show h * Rp.u8.sz = h from Nat.mul_one h, HBL.out] at this
    by_cases e : m = h
    · rw [if_pos e] at this
      have e0 : h = 0 := by omega
      rw [e0] at this ⊢
      exact this
    · rw [if_neg e] at this; exact this)
  have hd0' : decide ((h : Int) < 0) = false := by rw [decide_eq_false_iff_not]; omega
  refine wp_region_any (by kernel_rfl) ?_
  refine region_ext [(fun vv _ => vv = .pointer (some ⟨d, 0, none⟩)), (fun vv _ => vv = .pointer (some ⟨q, 1, none⟩)), (fun vv _ => vv = .string A), (fun vv _ => vv = .slice (some ⟨z2, 0, none⟩) m m), (fun vv _ => vv = .int .i64 (h : Int)), (fun vv _ => vv = .slice (some ⟨z2, 0, none⟩) h m), (fun vv _ => vv = .slice (some ⟨z2, 0, none⟩) m m), (fun vv _ => vv = .int .i64 (h : Int)), (fun vv _ => vv = .slice (some ⟨z2, h, none⟩) (m - h) (m - h)), (fun v w => ∃ z, v = .slice (some ⟨z, 0, none⟩) 2 2 ∧ w2.heap.size ≤ z ∧ w.heap[z]? = some (.cells #[.slice (some ⟨z2, 0, none⟩) h m, .slice (some ⟨z2, h, none⟩) (m - h) (m - h)] 28 (0, 0)))]
    [[], [], [(1, 27)], [], [], [(3, 29), (4, 30)], [], [], [(6, 32), (7, 33)], [(5, 31), (8, 34)], [], []]
    [none, none, none, none, none, none, none, none, none, none, none, none]
    [some 26, some 27, some 28, some 29, some 30, some 31, some 32, some 33, some 34, some 35] 10 (by kernel_rfl) (by kernel_rfl) (by kernel_rfl) rfl (by kernel_rfl) ?_ ?_ ?_
  · exact ⟨fun _ _ _ _ h => h, fun _ _ _ _ h => h, fun _ _ _ _ h => h, fun _ _ _ _ h => h, fun _ _ _ _ h => h, fun _ _ _ _ h => h, fun _ _ _ _ h => h, fun _ _ _ _ h => h, fun _ _ _ _ h => h, (fun _ _ _ hE ⟨z, h1, h2, h3⟩ => ⟨z, h1, h2, (Below.block hE z (blk_lt h3)).trans h3⟩), trivial⟩
  · refine ⟨fun ρ wx _ hx _ => gives_move (hx (.tmp 0) (by simp)), ?_, ?_, fun ρ wx _ hx _ => gives_move (hx (.tmp 13) (by simp)), fun ρ wx _ hx _ => gives_move (hx (.tmp 14) (by simp)), ?_, fun ρ wx _ hx _ => gives_move (hx (.tmp 13) (by simp)), fun ρ wx _ hx _ => gives_move (hx (.tmp 14) (by simp)), ?_, ?_, trivial⟩
    · intro ρ wx hE hx hd
      replace hE := Ext.undrew hE
      have e6 : ρ (.tmp 6) = .pointer (some ⟨q, 0, none⟩) := hx (.tmp 6) (by simp)
      exact gives_val (G := fun vv _ => vv = .pointer (some ⟨q, 1, none⟩)) (v := .pointer (some ⟨q, 1, none⟩)) (by simp [execOp, e6, go_sem]) rfl
    · intro ρ wx hE hx hd
      replace hE := Ext.undrew hE
      have e27 : ρ (.tmp 27) = .pointer (some ⟨q, 1, none⟩) := hd.1
      have hcl := ext_cell hE HQ1.out
      exact gives_val (G := fun vv _ => vv = .string A) (v := .string A) (by simp [execOp, e27, hcl, go_sem]) rfl
    · intro ρ wx hE hx hd
      replace hE := Ext.undrew hE
      have e29 : ρ (.tmp 29) = .slice (some ⟨z2, 0, none⟩) m m := hd.1
      have e30 : ρ (.tmp 30) = .int .i64 (h : Int) := hd.2.1
      exact gives_val (G := fun vv _ => vv = .slice (some ⟨z2, 0, none⟩) h m) (v := .slice (some ⟨z2, 0, none⟩) h m) (by simp [execOp, e29, e30, go_sem, hh0, hhc]) rfl
    · intro ρ wx hE hx hd
      replace hE := Ext.undrew hE
      have e32 : ρ (.tmp 32) = .slice (some ⟨z2, 0, none⟩) m m := hd.1
      have e33 : ρ (.tmp 33) = .int .i64 (h : Int) := hd.2.1
      rcases hcase with ⟨h1, h2⟩ | ⟨h1, h2⟩; (have e32 := e32; have e33 := e33; subst h1; subst h2; exact gives_val (G := fun vv _ => vv = .slice (some ⟨z2, 0, none⟩) (0 - 0) (0 - 0)) (v := .slice (some ⟨z2, 0, none⟩) (0 - 0) (0 - 0)) (by simp [execOp, e32, e33, go_sem]) rfl); exact gives_val (G := fun vv _ => vv = .slice (some ⟨z2, h, none⟩) (m - h) (m - h)) (v := .slice (some ⟨z2, h, none⟩) (m - h) (m - h)) (by simp [execOp, e32, e33, go_sem, hh0, hhc]; omega) rfl
    · intro ρ wx hE hx hd
      replace hE := Ext.undrew hE
      have e31 : ρ (.tmp 31) = .slice (some ⟨z2, 0, none⟩) h m := hd.1
      have e34 : ρ (.tmp 34) = .slice (some ⟨z2, h, none⟩) (m - h) (m - h) := hd.2.1
      have hs := hE.size; exact gives_new (G := fun v w => ∃ z, v = .slice (some ⟨z, 0, none⟩) 2 2 ∧ w2.heap.size ≤ z ∧ w.heap[z]? = some (.cells #[.slice (some ⟨z2, 0, none⟩) h m, .slice (some ⟨z2, h, none⟩) (m - h) (m - h)] 28 (0, 0))) (v := .slice (some ⟨wx.heap.size, 0, none⟩) 2 2) (w' := wx.alloc (.cells #[.slice (some ⟨z2, 0, none⟩) h m, .slice (some ⟨z2, h, none⟩) (m - h) (m - h)] 28)) (by simp [execOp, e31, e34, go_sem]) (below_new _ _) ⟨_, rfl, by omega, blk_new _ _⟩
  intro wx hE
  refine fun v26 (e26 : v26 = .pointer (some ⟨d, 0, none⟩)) => ?_
  refine fun v27 (e27 : v27 = .pointer (some ⟨q, 1, none⟩)) => ?_
  refine fun v28 (e28 : v28 = .string A) => ?_
  refine fun v29 (e29 : v29 = .slice (some ⟨z2, 0, none⟩) m m) => ?_
  refine fun v30 (e30 : v30 = .int .i64 (h : Int)) => ?_
  refine fun v31 (e31 : v31 = .slice (some ⟨z2, 0, none⟩) h m) => ?_
  refine fun v32 (e32 : v32 = .slice (some ⟨z2, 0, none⟩) m m) => ?_
  refine fun v33 (e33 : v33 = .int .i64 (h : Int)) => ?_
  refine fun v34 (e34 : v34 = .slice (some ⟨z2, h, none⟩) (m - h) (m - h)) => ?_
  refine fun v35 e35 => ?_
  subst e26 e27 e28 e29 e30 e31 e32 e33 e34
  refine rest_nil ?_
  simp only [List.drop_succ_cons, List.drop_zero, Act.put, List.setIfInBounds_toArray, List.set_cons_zero, List.set_cons_succ]
  obtain ⟨z, rfl, hzl, hzb⟩ := e35
  have HTX := Lib.hid (HT2.out.below hE)
  have HGX := Lib.hid ((hE.block q (by omega)).trans HG2.out)
  have HBX := Lib.hid (HB2.out.trans (hE.mono HT2.out.b0))
  have HVP : Hid (View Rp.u8.view wx (fun k => k = z2 ∨ k = z) [bs.take h, bs.drop h] (.slice (some ⟨z, 0, none⟩) 2 2)) := Lib.hid (view_rows2 hzb ((HVA.out.below hE).mono fun _ h => .inl h) ((HVB.out.below hE).mono fun _ h => .inl h) (.inr rfl))
  have HVW := Lib.hid (HV2.out.below hE)
  have HFL : Hid ([bs.take h, bs.drop h].flatten = bs) := Lib.hid (by simp)
  obtain ⟨E, dk', he⟩ : ∃ E dk', dk.append (toL A) bs = (E, dk') := ⟨_, _, rfl⟩
  have HE := Lib.hid he
  clear he hzb
  go_wp2_with fail
  have HPS : Hid (lenSum [bs.take h, bs.drop h] [bs.take h, bs.drop h].length ≤ 1000000) := Lib.hid (by rw [← flat_len, List.take_length, HFL.out, HBL.out]; omega)
  have HNP : Hid (¬ (d = z2 ∨ d = z)) := Lib.hid fun e => by
    rcases e with e | e
    · exact HNZ.out d e (.inl (.inr rfl))
    · have := HLQ.out d (.inl (.inr rfl)); omega
  have HT3 := HTX; have HG3 := HGX; have HB3 := HBX
  refine (append_at (E := E) (dk' := dk') HTX.out.dd (by omega) hus hlen A (by omega) _ _ _ HVP.out HNP.out (by simp) HPS.out (by rw [HFL.out]; exact HE.out)).mono ?_
  rintro e w4 ⟨rfl, hd4, hk4⟩
  obtain ⟨ht4, hb4⟩ := HT3.out.goD hd4 hk4
  have HG4 := Lib.hid (hk4.blk HG3.out (fun e => by have := HLQ.out q (.inl e); omega))
  have HT4 := Lib.hid ht4; have HB4 := Lib.hid (HB3.out.trans hb4)
  have HV4 : Hid (View Rp.u8 w4 (fun k => k = z2) bs (.slice (some ⟨z2, 0, none⟩) m m)) := Lib.hid (HVW.out.keep hk4 fun k hk e => HNZ.out k hk (.inl e))
  clear hd4 hk4 ht4 hb4
  have q0 := blk_cell HG4.out 0
  have q1 := blk_cell HG4.out 1
  have q2 := blk_cell HG4.out 2
  have q3 := blk_cell HG4.out 3
  have q4 := blk_cell HG4.out 4
  simp only [List.getElem?_toArray, List.getElem?_cons_zero, List.getElem?_cons_succ] at q0 q1 q2 q3 q4
  have hql := blk_lt HG4.out
  go_wp2_with fail
  refine (rappend_at HT4.out.rr HOK.out HF.out (by omega) A (by omega) bs _ _ HV4.out (fun k hk => ⟨fun e => HNZ.out k hk (.inr (.inl e)), fun e => HNZ.out k hk (.inr (.inr e))⟩) (by rw [HBL.out]; omega) HE.out).mono ?_
  clear q0 q1 q2 q3 q4 hql
  rintro e w5 ⟨rfl, hd5, hk5⟩
  obtain ⟨ht5, hb5⟩ := HT4.out.goR hd5 hk5
  have HT5 := Lib.hid ht5; have HB5 := Lib.hid (HB4.out.trans hb5)
  have HFT := Lib.hid (fits_append HF.out HOK.out _ _ HE.out)
  clear hd5 hk5 ht5 hb5
  go_wp2_with fail
  refine bodyPost_ret (v := .tuple #[.pointer (some ⟨d, 0, none⟩), .pointer (some ⟨b, 0, none⟩), .bool true]) (by simp [results, Try.results26, go_sem]) rfl ?_
  exact HR.out d b _ _ _ _ HT5.out HFT.out.1 (Nat.le_of_eq HFT.out.2) HB5.out
end
end Go.Proofs.Ytlfcbhagbdonhaa.Asc
