/-
  Contract: the law's does: a call on both disks is answered alike.
  Lengths within the rows' own reach.
-/
import Derived.Test.YtlfcbhagbdonhaaDrN
namespace Go.Proofs.Ytlfcbhagbdonhaa.Asc
set_option linter.unusedSimpArgs false
set_option linter.unusedVariables false
open Go Go.RowKit Go.Proofs.Ytlfcbhagbdonhaa.Pb

section
variable {w : World} {S F : Nat → Prop} {d b B0 : Nat} {dk : Dk}
def stepV (kind : Int) (A U : ByteArray) (n : Int) (pv : Value) : Value := .agg #[.int .i64 kind, .string A, .string U, .int .i64 n, pv]
def Does (R : Ending → World → Prop) (B0 : Nat) (w : World) (dk : Dk) : Prop := ∀ (d' b' : Nat) (dk' : Dk) (S' F' : Nat → Prop) (w' : World), Two4 B0 w' S' F' d' b' dk' dk' → Fits dk' → dk'.ops ≤ dk.ops + 1 → Below B0 w w' → Pb.Fin (R (.returned (.tuple #[.pointer (some ⟨d', 0, none⟩), .pointer (some ⟨b', 0, none⟩), .bool true])) w')
set_option maxHeartbeats 8000000 in
set_option maxRecDepth 20000 in
theorem doesrename_any (hB : Two4 B0 w S F d b dk dk) (hf : Fits dk) (ho : dk.ops ≤ 100000) (A U : ByteArray) (n : Int) (pv : Value) (ps : List Int) (G : Nat → Prop) (hp : View Rp.int w G ps pv) (hG : ∀ k, G k → k < B0) (hA : A.size ≤ 60000) (hU : U.size ≤ 60000) (hn : n ≤ 3000) (hps : ps.length ≤ 60000) (c : Int) (hc0 : 0 ≤ c) (hc1 : c ≤ 1000) (R : Ending → World → Prop) (hR : Does R B0 w dk) :
    Calls Try.prog 26 #[.pointer (some ⟨d, 0, none⟩), .pointer (some ⟨b, 0, none⟩), stepV 3 A U n pv, .int .i64 c] w (fun e w' => Pb.Fin (R e w')) := by
  obtain ⟨PA, pc, rfl, hpc, _⟩ := hp.open1
  have HP := Lib.hid hp; have HR := Lib.hid hR; have HF := Lib.hid hf
  obtain ⟨pn, hpn⟩ : ∃ pn, ps.length = pn := ⟨_, rfl⟩
  have HPN := Lib.hid hpn
  rw [hpn] at hpc hps ⊢
  have hok := hB.dd.ok
  have HOK := Lib.hid hok
  have hlen : dk.fs.length ≤ 1000 := Nat.le_trans hf.len (by decide)
  have hus : usedN dk.fs ≤ 1000000000 := Nat.le_trans hf.usd (by decide)
  obtain ⟨w1, hw1⟩ : ∃ w1, w.alloc (.cells #[.int .i64 3, .string A, .string U, .int .i64 n, .slice PA pn pc] 56) = w1 := ⟨_, rfl⟩
  obtain ⟨q, hq⟩ : ∃ q, w.heap.size = q := ⟨_, rfl⟩
  have hb1 : Below w.heap.size w w1 := hw1 ▸ below_new w _
  have hg1 : w1.heap[q]? = some (.cells #[.int .i64 3, .string A, .string U, .int .i64 n, .slice PA pn pc] 56 (0, 0)) := hw1 ▸ hq ▸ blk_new w _
  have hz1 : w1.heap.size = q + 1 := by rw [← hw1, ← hq]; simp
  have HT1 := Lib.hid (hB.below hb1)
  have HLQ : Hid (∀ k, (S k ∨ k = d) ∨ (F k ∨ k = b) → k < q) := Lib.hid fun k hk => by
    rcases hk with hk | hk
    · have := hB.lowS k hk; omega
    · have := hB.lowF k hk; omega
  have HB0 : Hid (B0 ≤ q) := Lib.hid (hq ▸ hB.b0)
  have HP1 := Lib.hid (hp.below hb1)
  have HB1 : Hid (Below B0 w w1) := Lib.hid (hb1.mono (by rw [hq]; exact HB0.out))
  have HG1 := Lib.hid hg1; have HW1 := Lib.hid hw1; have HQ := Lib.hid hq; have HZ1 := Lib.hid hz1
  unfold stepV
  clear hB hp hR hf hok hpn hw1 hq hb1 hz1 hg1
  go_enter Try.func26, Try.ntmps26
  go_upto_region 1 with fail
  rw [HW1.out, HQ.out]
  have q0 := blk_cell HG1.out 0
  have q1 := blk_cell HG1.out 1
  have q2 := blk_cell HG1.out 2
  have q3 := blk_cell HG1.out 3
  have q4 := blk_cell HG1.out 4
  simp only [List.getElem?_toArray, List.getElem?_cons_zero, List.getElem?_cons_succ] at q0 q1 q2 q3 q4
  have hql := blk_lt HG1.out
  obtain ⟨E, dk', he⟩ : ∃ E dk', dk.rename (toL A) (toL U) = (E, dk') := ⟨_, _, rfl⟩
  have HE := Lib.hid he
  clear he
  go_wp2_with fail
  refine (rename_at HT1.out.dd (by omega) hlen A U (by omega) (by omega) HE.out).mono ?_
  clear q0 q1 q2 q3 q4 hql
  rintro e w2 ⟨rfl, hd2, hk2⟩
  obtain ⟨ht2, hb2⟩ := HT1.out.goD hd2 hk2
  have HG2 := Lib.hid (hk2.blk HG1.out (fun e => by have := HLQ.out q (.inl e); omega))
  have HT2 := Lib.hid ht2; have HB2 := Lib.hid (HB1.out.trans hb2)
  clear hd2 hk2 ht2 hb2
  have q0 := blk_cell HG2.out 0
  have q1 := blk_cell HG2.out 1
  have q2 := blk_cell HG2.out 2
  have q3 := blk_cell HG2.out 3
  have q4 := blk_cell HG2.out 4
  simp only [List.getElem?_toArray, List.getElem?_cons_zero, List.getElem?_cons_succ] at q0 q1 q2 q3 q4
  have hql := blk_lt HG2.out
  go_wp2_with fail
  refine (rrename_at HT2.out.rr HOK.out HF.out (by omega) A U (by omega) (by omega) HE.out).mono ?_
  clear q0 q1 q2 q3 q4 hql
  rintro e w3 ⟨rfl, hd3, hk3⟩
  obtain ⟨ht3, hb3⟩ := HT2.out.goR hd3 hk3
  have HT3 := Lib.hid ht3; have HB3 := Lib.hid (HB2.out.trans hb3)
  have HFT := Lib.hid (fits_rename HF.out _ _ HE.out)
  clear hd3 hk3 ht3 hb3
  go_wp2_with fail
  refine bodyPost_ret (v := .tuple #[.pointer (some ⟨d, 0, none⟩), .pointer (some ⟨b, 0, none⟩), .bool true]) (by simp [results, Try.results26, go_sem]) rfl ?_
  exact HR.out d b _ _ _ _ HT3.out HFT.out.1 (Nat.le_of_eq HFT.out.2) HB3.out
set_option maxHeartbeats 8000000 in
set_option maxRecDepth 20000 in
theorem doestruncate_any (hB : Two4 B0 w S F d b dk dk) (hf : Fits dk) (ho : dk.ops ≤ 100000) (A U : ByteArray) (n : Int) (pv : Value) (ps : List Int) (G : Nat → Prop) (hp : View Rp.int w G ps pv) (hG : ∀ k, G k → k < B0) (hA : A.size ≤ 60000) (hU : U.size ≤ 60000) (hn : n ≤ 3000) (hps : ps.length ≤ 60000) (c : Int) (hc0 : 0 ≤ c) (hc1 : c ≤ 1000) (R : Ending → World → Prop) (hR : Does R B0 w dk) :
    Calls Try.prog 26 #[.pointer (some ⟨d, 0, none⟩), .pointer (some ⟨b, 0, none⟩), stepV 4 A U n pv, .int .i64 c] w (fun e w' => Pb.Fin (R e w')) := by
  obtain ⟨PA, pc, rfl, hpc, _⟩ := hp.open1
  have HP := Lib.hid hp; have HR := Lib.hid hR; have HF := Lib.hid hf
  obtain ⟨pn, hpn⟩ : ∃ pn, ps.length = pn := ⟨_, rfl⟩
  have HPN := Lib.hid hpn
  rw [hpn] at hpc hps ⊢
  have hok := hB.dd.ok
  have HOK := Lib.hid hok
  have hlen : dk.fs.length ≤ 1000 := Nat.le_trans hf.len (by decide)
  have hus : usedN dk.fs ≤ 1000000000 := Nat.le_trans hf.usd (by decide)
  obtain ⟨w1, hw1⟩ : ∃ w1, w.alloc (.cells #[.int .i64 4, .string A, .string U, .int .i64 n, .slice PA pn pc] 56) = w1 := ⟨_, rfl⟩
  obtain ⟨q, hq⟩ : ∃ q, w.heap.size = q := ⟨_, rfl⟩
  have hb1 : Below w.heap.size w w1 := hw1 ▸ below_new w _
  have hg1 : w1.heap[q]? = some (.cells #[.int .i64 4, .string A, .string U, .int .i64 n, .slice PA pn pc] 56 (0, 0)) := hw1 ▸ hq ▸ blk_new w _
  have hz1 : w1.heap.size = q + 1 := by rw [← hw1, ← hq]; simp
  have HT1 := Lib.hid (hB.below hb1)
  have HLQ : Hid (∀ k, (S k ∨ k = d) ∨ (F k ∨ k = b) → k < q) := Lib.hid fun k hk => by
    rcases hk with hk | hk
    · have := hB.lowS k hk; omega
    · have := hB.lowF k hk; omega
  have HB0 : Hid (B0 ≤ q) := Lib.hid (hq ▸ hB.b0)
  have HP1 := Lib.hid (hp.below hb1)
  have HB1 : Hid (Below B0 w w1) := Lib.hid (hb1.mono (by rw [hq]; exact HB0.out))
  have HG1 := Lib.hid hg1; have HW1 := Lib.hid hw1; have HQ := Lib.hid hq; have HZ1 := Lib.hid hz1
  unfold stepV
  clear hB hp hR hf hok hpn hw1 hq hb1 hz1 hg1
  go_enter Try.func26, Try.ntmps26
  go_upto_region 1 with fail
  rw [HW1.out, HQ.out]
  have q0 := blk_cell HG1.out 0
  have q1 := blk_cell HG1.out 1
  have q2 := blk_cell HG1.out 2
  have q3 := blk_cell HG1.out 3
  have q4 := blk_cell HG1.out 4
  simp only [List.getElem?_toArray, List.getElem?_cons_zero, List.getElem?_cons_succ] at q0 q1 q2 q3 q4
  have hql := blk_lt HG1.out
  obtain ⟨E, dk', he⟩ : ∃ E dk', dk.truncate (toL A) n = (E, dk') := ⟨_, _, rfl⟩
  have HE := Lib.hid he
  clear he
  go_wp2_with fail
  refine (truncate_at HT1.out.dd (by omega) A (by omega) n HE.out).mono ?_
  clear q0 q1 q2 q3 q4 hql
  rintro e w2 ⟨rfl, hd2, hk2⟩
  obtain ⟨ht2, hb2⟩ := HT1.out.goD hd2 hk2
  have HG2 := Lib.hid (hk2.blk HG1.out (fun e => by have := HLQ.out q (.inl e); omega))
  have HT2 := Lib.hid ht2; have HB2 := Lib.hid (HB1.out.trans hb2)
  clear hd2 hk2 ht2 hb2
  have q0 := blk_cell HG2.out 0
  have q1 := blk_cell HG2.out 1
  have q2 := blk_cell HG2.out 2
  have q3 := blk_cell HG2.out 3
  have q4 := blk_cell HG2.out 4
  simp only [List.getElem?_toArray, List.getElem?_cons_zero, List.getElem?_cons_succ] at q0 q1 q2 q3 q4
  have hql := blk_lt HG2.out
  go_wp2_with fail
  refine (rtruncate_at HT2.out.rr HOK.out HF.out (by omega) A (by omega) n HE.out).mono ?_
  clear q0 q1 q2 q3 q4 hql
  rintro e w3 ⟨rfl, hd3, hk3⟩
  obtain ⟨ht3, hb3⟩ := HT2.out.goR hd3 hk3
  have HT3 := Lib.hid ht3; have HB3 := Lib.hid (HB2.out.trans hb3)
  have HFT := Lib.hid (fits_truncate HF.out HOK.out _ _ HE.out)
  clear hd3 hk3 ht3 hb3
  go_wp2_with fail
  refine bodyPost_ret (v := .tuple #[.pointer (some ⟨d, 0, none⟩), .pointer (some ⟨b, 0, none⟩), .bool true]) (by simp [results, Try.results26, go_sem]) rfl ?_
  exact HR.out d b _ _ _ _ HT3.out HFT.out.1 (Nat.le_of_eq HFT.out.2) HB3.out
set_option maxHeartbeats 8000000 in
set_option maxRecDepth 20000 in
theorem doesremove_any (hB : Two4 B0 w S F d b dk dk) (hf : Fits dk) (ho : dk.ops ≤ 100000) (A U : ByteArray) (n : Int) (pv : Value) (ps : List Int) (G : Nat → Prop) (hp : View Rp.int w G ps pv) (hG : ∀ k, G k → k < B0) (hA : A.size ≤ 60000) (hU : U.size ≤ 60000) (hn : n ≤ 3000) (hps : ps.length ≤ 60000) (c : Int) (hc0 : 0 ≤ c) (hc1 : c ≤ 1000) (R : Ending → World → Prop) (hR : Does R B0 w dk) :
    Calls Try.prog 26 #[.pointer (some ⟨d, 0, none⟩), .pointer (some ⟨b, 0, none⟩), stepV 5 A U n pv, .int .i64 c] w (fun e w' => Pb.Fin (R e w')) := by
  obtain ⟨PA, pc, rfl, hpc, _⟩ := hp.open1
  have HP := Lib.hid hp; have HR := Lib.hid hR; have HF := Lib.hid hf
  obtain ⟨pn, hpn⟩ : ∃ pn, ps.length = pn := ⟨_, rfl⟩
  have HPN := Lib.hid hpn
  rw [hpn] at hpc hps ⊢
  have hok := hB.dd.ok
  have HOK := Lib.hid hok
  have hlen : dk.fs.length ≤ 1000 := Nat.le_trans hf.len (by decide)
  have hus : usedN dk.fs ≤ 1000000000 := Nat.le_trans hf.usd (by decide)
  obtain ⟨w1, hw1⟩ : ∃ w1, w.alloc (.cells #[.int .i64 5, .string A, .string U, .int .i64 n, .slice PA pn pc] 56) = w1 := ⟨_, rfl⟩
  obtain ⟨q, hq⟩ : ∃ q, w.heap.size = q := ⟨_, rfl⟩
  have hb1 : Below w.heap.size w w1 := hw1 ▸ below_new w _
  have hg1 : w1.heap[q]? = some (.cells #[.int .i64 5, .string A, .string U, .int .i64 n, .slice PA pn pc] 56 (0, 0)) := hw1 ▸ hq ▸ blk_new w _
  have hz1 : w1.heap.size = q + 1 := by rw [← hw1, ← hq]; simp
  have HT1 := Lib.hid (hB.below hb1)
  have HLQ : Hid (∀ k, (S k ∨ k = d) ∨ (F k ∨ k = b) → k < q) := Lib.hid fun k hk => by
    rcases hk with hk | hk
    · have := hB.lowS k hk; omega
    · have := hB.lowF k hk; omega
  have HB0 : Hid (B0 ≤ q) := Lib.hid (hq ▸ hB.b0)
  have HP1 := Lib.hid (hp.below hb1)
  have HB1 : Hid (Below B0 w w1) := Lib.hid (hb1.mono (by rw [hq]; exact HB0.out))
  have HG1 := Lib.hid hg1; have HW1 := Lib.hid hw1; have HQ := Lib.hid hq; have HZ1 := Lib.hid hz1
  unfold stepV
  clear hB hp hR hf hok hpn hw1 hq hb1 hz1 hg1
  go_enter Try.func26, Try.ntmps26
  go_upto_region 1 with fail
  rw [HW1.out, HQ.out]
  have q0 := blk_cell HG1.out 0
  have q1 := blk_cell HG1.out 1
  have q2 := blk_cell HG1.out 2
  have q3 := blk_cell HG1.out 3
  have q4 := blk_cell HG1.out 4
  simp only [List.getElem?_toArray, List.getElem?_cons_zero, List.getElem?_cons_succ] at q0 q1 q2 q3 q4
  have hql := blk_lt HG1.out
  obtain ⟨E, dk', he⟩ : ∃ E dk', dk.remove (toL A) = (E, dk') := ⟨_, _, rfl⟩
  have HE := Lib.hid he
  clear he
  go_wp2_with fail
  refine (remove_at HT1.out.dd (by omega) A (by omega) HE.out).mono ?_
  clear q0 q1 q2 q3 q4 hql
  rintro e w2 ⟨rfl, hd2, hk2⟩
  obtain ⟨ht2, hb2⟩ := HT1.out.goD hd2 hk2
  have HG2 := Lib.hid (hk2.blk HG1.out (fun e => by have := HLQ.out q (.inl e); omega))
  have HT2 := Lib.hid ht2; have HB2 := Lib.hid (HB1.out.trans hb2)
  clear hd2 hk2 ht2 hb2
  have q0 := blk_cell HG2.out 0
  have q1 := blk_cell HG2.out 1
  have q2 := blk_cell HG2.out 2
  have q3 := blk_cell HG2.out 3
  have q4 := blk_cell HG2.out 4
  simp only [List.getElem?_toArray, List.getElem?_cons_zero, List.getElem?_cons_succ] at q0 q1 q2 q3 q4
  have hql := blk_lt HG2.out
  go_wp2_with fail
  refine (rremove_at HT2.out.rr HOK.out HF.out (by omega) A (by omega) HE.out).mono ?_
  clear q0 q1 q2 q3 q4 hql
  rintro e w3 ⟨rfl, hd3, hk3⟩
  obtain ⟨ht3, hb3⟩ := HT2.out.goR hd3 hk3
  have HT3 := Lib.hid ht3; have HB3 := Lib.hid (HB2.out.trans hb3)
  have HFT := Lib.hid (fits_remove HF.out _ HE.out)
  clear hd3 hk3 ht3 hb3
  go_wp2_with fail
  refine bodyPost_ret (v := .tuple #[.pointer (some ⟨d, 0, none⟩), .pointer (some ⟨b, 0, none⟩), .bool true]) (by simp [results, Try.results26, go_sem]) rfl ?_
  exact HR.out d b _ _ _ _ HT3.out HFT.out.1 (Nat.le_of_eq HFT.out.2) HB3.out
set_option maxHeartbeats 8000000 in
set_option maxRecDepth 20000 in
theorem doessync1_any (hB : Two4 B0 w S F d b dk dk) (hf : Fits dk) (ho : dk.ops ≤ 100000) (A U : ByteArray) (n : Int) (pv : Value) (ps : List Int) (G : Nat → Prop) (hp : View Rp.int w G ps pv) (hG : ∀ k, G k → k < B0) (hA : A.size ≤ 60000) (hU : U.size ≤ 60000) (hn : n ≤ 3000) (hps : ps.length ≤ 60000) (c : Int) (hc0 : 0 ≤ c) (hc1 : c ≤ 1000) (R : Ending → World → Prop) (hR : Does R B0 w dk) :
    Calls Try.prog 26 #[.pointer (some ⟨d, 0, none⟩), .pointer (some ⟨b, 0, none⟩), stepV 2 A U n pv, .int .i64 c] w (fun e w' => Pb.Fin (R e w')) := by
  obtain ⟨PA, pc, rfl, hpc, _⟩ := hp.open1
  have HP := Lib.hid hp; have HR := Lib.hid hR; have HF := Lib.hid hf
  obtain ⟨pn, hpn⟩ : ∃ pn, ps.length = pn := ⟨_, rfl⟩
  have HPN := Lib.hid hpn
  rw [hpn] at hpc hps ⊢
  have hok := hB.dd.ok
  have HOK := Lib.hid hok
  have hlen : dk.fs.length ≤ 1000 := Nat.le_trans hf.len (by decide)
  have hus : usedN dk.fs ≤ 1000000000 := Nat.le_trans hf.usd (by decide)
  obtain ⟨w1, hw1⟩ : ∃ w1, w.alloc (.cells #[.int .i64 2, .string A, .string U, .int .i64 n, .slice PA pn pc] 56) = w1 := ⟨_, rfl⟩
  obtain ⟨q, hq⟩ : ∃ q, w.heap.size = q := ⟨_, rfl⟩
  have hb1 : Below w.heap.size w w1 := hw1 ▸ below_new w _
  have hg1 : w1.heap[q]? = some (.cells #[.int .i64 2, .string A, .string U, .int .i64 n, .slice PA pn pc] 56 (0, 0)) := hw1 ▸ hq ▸ blk_new w _
  have hz1 : w1.heap.size = q + 1 := by rw [← hw1, ← hq]; simp
  have HT1 := Lib.hid (hB.below hb1)
  have HLQ : Hid (∀ k, (S k ∨ k = d) ∨ (F k ∨ k = b) → k < q) := Lib.hid fun k hk => by
    rcases hk with hk | hk
    · have := hB.lowS k hk; omega
    · have := hB.lowF k hk; omega
  have HB0 : Hid (B0 ≤ q) := Lib.hid (hq ▸ hB.b0)
  have HP1 := Lib.hid (hp.below hb1)
  have HB1 : Hid (Below B0 w w1) := Lib.hid (hb1.mono (by rw [hq]; exact HB0.out))
  have HG1 := Lib.hid hg1; have HW1 := Lib.hid hw1; have HQ := Lib.hid hq; have HZ1 := Lib.hid hz1
  unfold stepV
  clear hB hp hR hf hok hpn hw1 hq hb1 hz1 hg1
  go_enter Try.func26, Try.ntmps26
  go_upto_region 1 with fail
  rw [HW1.out, HQ.out]
  have q0 := blk_cell HG1.out 0
  have q1 := blk_cell HG1.out 1
  have q2 := blk_cell HG1.out 2
  have q3 := blk_cell HG1.out 3
  have q4 := blk_cell HG1.out 4
  simp only [List.getElem?_toArray, List.getElem?_cons_zero, List.getElem?_cons_succ] at q0 q1 q2 q3 q4
  have hql := blk_lt HG1.out
  obtain ⟨E, dk', he⟩ : ∃ E dk', dk.sync [toL A] = (E, dk') := ⟨_, _, rfl⟩
  have HE := Lib.hid he
  have hlx : ∀ x ∈ [toL A], x.length ≤ 1000000 := by
    intro x hx
    simp only [List.mem_cons, List.not_mem_nil, or_false] at hx
    subst hx
    rw [toL_len]; omega
    skip
  have HLX := Lib.hid hlx
  clear he hlx
  obtain ⟨w2, hw2⟩ : ∃ w2, w1.alloc (.cells #[.string A] 9) = w2 := ⟨_, rfl⟩
  obtain ⟨z2, hzz2⟩ : ∃ z2, w1.heap.size = z2 := ⟨_, rfl⟩
  have hx2 : Below w1.heap.size w1 w2 := hw2 ▸ below_new w1 _
  have hv2 : View Rp.str w2 (fun k => k = z2) [toL A] (.slice (some ⟨z2, 0, none⟩) 1 1) := hzz2 ▸ hw2 ▸ view_cells (h1 := fun _ => rfl) (enc := fun x => Value.string (ofL x)) [toL A] 1 (blk_new w1 _) (by simp [ofL_toL]) rfl rfl
  have HX2 := Lib.hid hx2; have HV2 := Lib.hid hv2; have HW2 := Lib.hid hw2; have HQ2 := Lib.hid hzz2
  have HT2 := Lib.hid (HT1.out.below hx2)
  have HB2 := Lib.hid (HB1.out.trans (hx2.mono HT1.out.b0))
  have HG2 := Lib.hid ((hx2.block q hql).trans HG1.out)
  have HNL2 : Hid (∀ k, k = z2 → ¬ ((S k ∨ k = d) ∨ (F k ∨ k = b))) := Lib.hid fun k hk h => by
    have := HLQ.out k h; have := HQ2.out; omega
  have hql2 := blk_lt HG2.out
  clear hw2 hzz2 hx2 hv2
  go_wp2_with fail
  rw [HW2.out, HQ2.out]
  refine (sync_at HT2.out.dd (by omega) _ _ _ HV2.out (fun k hk => ⟨fun h => HNL2.out k hk (.inl (.inl h)), fun h => HNL2.out k hk (.inl (.inr h))⟩) (by simp) HLX.out HE.out).mono ?_
  clear q0 q1 q2 q3 q4 hql
  rintro e w3 ⟨rfl, hd3, hk3⟩
  obtain ⟨ht3, hb3⟩ := HT2.out.goD hd3 hk3
  have HG3 := Lib.hid (hk3.blk HG2.out (fun e => by have := HLQ.out q (.inl e); omega))
  have HT3 := Lib.hid ht3; have HB3 := Lib.hid (HB2.out.trans hb3)
  clear hd3 hk3 ht3 hb3
  have q0 := blk_cell HG3.out 0
  have q1 := blk_cell HG3.out 1
  have q2 := blk_cell HG3.out 2
  have q3 := blk_cell HG3.out 3
  have q4 := blk_cell HG3.out 4
  simp only [List.getElem?_toArray, List.getElem?_cons_zero, List.getElem?_cons_succ] at q0 q1 q2 q3 q4
  have hql := blk_lt HG3.out
  clear hql2
  obtain ⟨w4, hw4⟩ : ∃ w4, w3.alloc (.cells #[.string A] 9) = w4 := ⟨_, rfl⟩
  obtain ⟨z4, hzz4⟩ : ∃ z4, w3.heap.size = z4 := ⟨_, rfl⟩
  have hx4 : Below w3.heap.size w3 w4 := hw4 ▸ below_new w3 _
  have hv4 : View Rp.str w4 (fun k => k = z4) [toL A] (.slice (some ⟨z4, 0, none⟩) 1 1) := hzz4 ▸ hw4 ▸ view_cells (h1 := fun _ => rfl) (enc := fun x => Value.string (ofL x)) [toL A] 1 (blk_new w3 _) (by simp [ofL_toL]) rfl rfl
  have HX4 := Lib.hid hx4; have HV4 := Lib.hid hv4; have HW4 := Lib.hid hw4; have HQ4 := Lib.hid hzz4
  have HT4 := Lib.hid (HT3.out.below hx4)
  have HB4 := Lib.hid (HB3.out.trans (hx4.mono HT3.out.b0))
  have HG4 := Lib.hid ((hx4.block q hql).trans HG3.out)
  have HNL4 : Hid (∀ k, k = z4 → ¬ ((S k ∨ k = d) ∨ (F k ∨ k = b))) := Lib.hid fun k hk h => by
    have := HLQ.out k h; have := HQ4.out; omega
  have hql4 := blk_lt HG4.out
  clear hw4 hzz4 hx4 hv4
  go_wp2_with fail
  rw [HW4.out, HQ4.out]
  refine (rsync_at HT4.out.rr HOK.out HF.out (by omega) _ _ _ HV4.out (fun k hk => ⟨fun h => HNL4.out k hk (.inr (.inl h)), fun h => HNL4.out k hk (.inr (.inr h))⟩) (by simp) HLX.out HE.out).mono ?_
  clear q0 q1 q2 q3 q4 hql
  rintro e w5 ⟨rfl, hd5, hk5⟩
  obtain ⟨ht5, hb5⟩ := HT4.out.goR hd5 hk5
  have HT5 := Lib.hid ht5; have HB5 := Lib.hid (HB4.out.trans hb5)
  have HFT := Lib.hid (fits_sync HF.out HOK.out _ HE.out)
  clear hd5 hk5 ht5 hb5
  go_wp2_with fail
  refine bodyPost_ret (v := .tuple #[.pointer (some ⟨d, 0, none⟩), .pointer (some ⟨b, 0, none⟩), .bool true]) (by simp [results, Try.results26, go_sem]) rfl ?_
  exact HR.out d b _ _ _ _ HT5.out HFT.out.1 (Nat.le_of_eq HFT.out.2) HB5.out
set_option maxHeartbeats 8000000 in
set_option maxRecDepth 20000 in
theorem doessync2_any (hB : Two4 B0 w S F d b dk dk) (hf : Fits dk) (ho : dk.ops ≤ 100000) (A U : ByteArray) (n : Int) (pv : Value) (ps : List Int) (G : Nat → Prop) (hp : View Rp.int w G ps pv) (hG : ∀ k, G k → k < B0) (hA : A.size ≤ 60000) (hU : U.size ≤ 60000) (hn : n ≤ 3000) (hps : ps.length ≤ 60000) (c : Int) (hc0 : 0 ≤ c) (hc1 : c ≤ 1000) (R : Ending → World → Prop) (hR : Does R B0 w dk) :
    Calls Try.prog 26 #[.pointer (some ⟨d, 0, none⟩), .pointer (some ⟨b, 0, none⟩), stepV 9 A U n pv, .int .i64 c] w (fun e w' => Pb.Fin (R e w')) := by
  obtain ⟨PA, pc, rfl, hpc, _⟩ := hp.open1
  have HP := Lib.hid hp; have HR := Lib.hid hR; have HF := Lib.hid hf
  obtain ⟨pn, hpn⟩ : ∃ pn, ps.length = pn := ⟨_, rfl⟩
  have HPN := Lib.hid hpn
  rw [hpn] at hpc hps ⊢
  have hok := hB.dd.ok
  have HOK := Lib.hid hok
  have hlen : dk.fs.length ≤ 1000 := Nat.le_trans hf.len (by decide)
  have hus : usedN dk.fs ≤ 1000000000 := Nat.le_trans hf.usd (by decide)
  obtain ⟨w1, hw1⟩ : ∃ w1, w.alloc (.cells #[.int .i64 9, .string A, .string U, .int .i64 n, .slice PA pn pc] 56) = w1 := ⟨_, rfl⟩
  obtain ⟨q, hq⟩ : ∃ q, w.heap.size = q := ⟨_, rfl⟩
  have hb1 : Below w.heap.size w w1 := hw1 ▸ below_new w _
  have hg1 : w1.heap[q]? = some (.cells #[.int .i64 9, .string A, .string U, .int .i64 n, .slice PA pn pc] 56 (0, 0)) := hw1 ▸ hq ▸ blk_new w _
  have hz1 : w1.heap.size = q + 1 := by rw [← hw1, ← hq]; simp
  have HT1 := Lib.hid (hB.below hb1)
  have HLQ : Hid (∀ k, (S k ∨ k = d) ∨ (F k ∨ k = b) → k < q) := Lib.hid fun k hk => by
    rcases hk with hk | hk
    · have := hB.lowS k hk; omega
    · have := hB.lowF k hk; omega
  have HB0 : Hid (B0 ≤ q) := Lib.hid (hq ▸ hB.b0)
  have HP1 := Lib.hid (hp.below hb1)
  have HB1 : Hid (Below B0 w w1) := Lib.hid (hb1.mono (by rw [hq]; exact HB0.out))
  have HG1 := Lib.hid hg1; have HW1 := Lib.hid hw1; have HQ := Lib.hid hq; have HZ1 := Lib.hid hz1
  unfold stepV
  clear hB hp hR hf hok hpn hw1 hq hb1 hz1 hg1
  go_enter Try.func26, Try.ntmps26
  go_upto_region 1 with fail
  rw [HW1.out, HQ.out]
  have q0 := blk_cell HG1.out 0
  have q1 := blk_cell HG1.out 1
  have q2 := blk_cell HG1.out 2
  have q3 := blk_cell HG1.out 3
  have q4 := blk_cell HG1.out 4
  simp only [List.getElem?_toArray, List.getElem?_cons_zero, List.getElem?_cons_succ] at q0 q1 q2 q3 q4
  have hql := blk_lt HG1.out
  obtain ⟨E, dk', he⟩ : ∃ E dk', dk.sync [toL A, toL U] = (E, dk') := ⟨_, _, rfl⟩
  have HE := Lib.hid he
  have hlx : ∀ x ∈ [toL A, toL U], x.length ≤ 1000000 := by
    intro x hx
    simp only [List.mem_cons, List.not_mem_nil, or_false] at hx
    rcases hx with rfl | rfl
    · rw [toL_len]; omega
    · rw [toL_len]; omega
  have HLX := Lib.hid hlx
  clear he hlx
  obtain ⟨w2, hw2⟩ : ∃ w2, w1.alloc (.cells #[.string A, .string U] 9) = w2 := ⟨_, rfl⟩
  obtain ⟨z2, hzz2⟩ : ∃ z2, w1.heap.size = z2 := ⟨_, rfl⟩
  have hx2 : Below w1.heap.size w1 w2 := hw2 ▸ below_new w1 _
  have hv2 : View Rp.str w2 (fun k => k = z2) [toL A, toL U] (.slice (some ⟨z2, 0, none⟩) 2 2) := hzz2 ▸ hw2 ▸ view_cells (h1 := fun _ => rfl) (enc := fun x => Value.string (ofL x)) [toL A, toL U] 2 (blk_new w1 _) (by simp [ofL_toL]) rfl rfl
  have HX2 := Lib.hid hx2; have HV2 := Lib.hid hv2; have HW2 := Lib.hid hw2; have HQ2 := Lib.hid hzz2
  have HT2 := Lib.hid (HT1.out.below hx2)
  have HB2 := Lib.hid (HB1.out.trans (hx2.mono HT1.out.b0))
  have HG2 := Lib.hid ((hx2.block q hql).trans HG1.out)
  have HNL2 : Hid (∀ k, k = z2 → ¬ ((S k ∨ k = d) ∨ (F k ∨ k = b))) := Lib.hid fun k hk h => by
    have := HLQ.out k h; have := HQ2.out; omega
  have hql2 := blk_lt HG2.out
  clear hw2 hzz2 hx2 hv2
  go_wp2_with fail
  rw [HW2.out, HQ2.out]
  refine (sync_at HT2.out.dd (by omega) _ _ _ HV2.out (fun k hk => ⟨fun h => HNL2.out k hk (.inl (.inl h)), fun h => HNL2.out k hk (.inl (.inr h))⟩) (by simp) HLX.out HE.out).mono ?_
  clear q0 q1 q2 q3 q4 hql
  rintro e w3 ⟨rfl, hd3, hk3⟩
  obtain ⟨ht3, hb3⟩ := HT2.out.goD hd3 hk3
  have HG3 := Lib.hid (hk3.blk HG2.out (fun e => by have := HLQ.out q (.inl e); omega))
  have HT3 := Lib.hid ht3; have HB3 := Lib.hid (HB2.out.trans hb3)
  clear hd3 hk3 ht3 hb3
  have q0 := blk_cell HG3.out 0
  have q1 := blk_cell HG3.out 1
  have q2 := blk_cell HG3.out 2
  have q3 := blk_cell HG3.out 3
  have q4 := blk_cell HG3.out 4
  simp only [List.getElem?_toArray, List.getElem?_cons_zero, List.getElem?_cons_succ] at q0 q1 q2 q3 q4
  have hql := blk_lt HG3.out
  clear hql2
  obtain ⟨w4, hw4⟩ : ∃ w4, w3.alloc (.cells #[.string A, .string U] 9) = w4 := ⟨_, rfl⟩
  obtain ⟨z4, hzz4⟩ : ∃ z4, w3.heap.size = z4 := ⟨_, rfl⟩
  have hx4 : Below w3.heap.size w3 w4 := hw4 ▸ below_new w3 _
  have hv4 : View Rp.str w4 (fun k => k = z4) [toL A, toL U] (.slice (some ⟨z4, 0, none⟩) 2 2) := hzz4 ▸ hw4 ▸ view_cells (h1 := fun _ => rfl) (enc := fun x => Value.string (ofL x)) [toL A, toL U] 2 (blk_new w3 _) (by simp [ofL_toL]) rfl rfl
  have HX4 := Lib.hid hx4; have HV4 := Lib.hid hv4; have HW4 := Lib.hid hw4; have HQ4 := Lib.hid hzz4
  have HT4 := Lib.hid (HT3.out.below hx4)
  have HB4 := Lib.hid (HB3.out.trans (hx4.mono HT3.out.b0))
  have HG4 := Lib.hid ((hx4.block q hql).trans HG3.out)
  have HNL4 : Hid (∀ k, k = z4 → ¬ ((S k ∨ k = d) ∨ (F k ∨ k = b))) := Lib.hid fun k hk h => by
    have := HLQ.out k h; have := HQ4.out; omega
  have hql4 := blk_lt HG4.out
  clear hw4 hzz4 hx4 hv4
  go_wp2_with fail
  rw [HW4.out, HQ4.out]
  refine (rsync_at HT4.out.rr HOK.out HF.out (by omega) _ _ _ HV4.out (fun k hk => ⟨fun h => HNL4.out k hk (.inr (.inl h)), fun h => HNL4.out k hk (.inr (.inr h))⟩) (by simp) HLX.out HE.out).mono ?_
  clear q0 q1 q2 q3 q4 hql
  rintro e w5 ⟨rfl, hd5, hk5⟩
  obtain ⟨ht5, hb5⟩ := HT4.out.goR hd5 hk5
  have HT5 := Lib.hid ht5; have HB5 := Lib.hid (HB4.out.trans hb5)
  have HFT := Lib.hid (fits_sync HF.out HOK.out _ HE.out)
  clear hd5 hk5 ht5 hb5
  go_wp2_with fail
  refine bodyPost_ret (v := .tuple #[.pointer (some ⟨d, 0, none⟩), .pointer (some ⟨b, 0, none⟩), .bool true]) (by simp [results, Try.results26, go_sem]) rfl ?_
  exact HR.out d b _ _ _ _ HT5.out HFT.out.1 (Nat.le_of_eq HFT.out.2) HB5.out
end
end Go.Proofs.Ytlfcbhagbdonhaa.Asc
