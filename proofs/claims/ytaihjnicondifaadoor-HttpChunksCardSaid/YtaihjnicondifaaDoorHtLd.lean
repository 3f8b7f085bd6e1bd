/-
  Contract of the law's letters.
  So many as the rows' own reach has.
-/
import Derived.Test.YtaihjnicondifaaDoorHtLb
namespace Go.Proofs.YtaihjnicondifaaDoor.Asc
open Go Go.RowKit Go.Proofs.YtaihjnicondifaaDoor.Pb

def ltrAt (n k j : Nat) : List UInt8 := letterN j k ++ List.replicate (n - j) 0
theorem ltrAt_len (n k j : Nat) (h : j ≤ n) : (ltrAt n k j).length = n := by unfold ltrAt; simp [letterN_len]; omega
theorem letterN_succ (j k : Nat) : letterN (j + 1) k = letterN j k ++ [UInt8.ofNat (97 + (j + k) % 26)] := by
  unfold letterN; rw [List.range_succ, List.map_append]; rfl
theorem ltrAt_step (n k j : Nat) (h : j < n) {X : Int} (hX : X = (((j + k) % 26 : Nat) : Int)) : (ltrAt n k (j + 1)).map u8v = ((ltrAt n k j).map u8v).set j (.int .u8 (97 + X)) := by
  have e : ltrAt n k (j + 1) = (ltrAt n k j).set j (UInt8.ofNat (97 + (j + k) % 26)) := by
    unfold ltrAt
    rw [show n - j = (n - (j + 1)) + 1 by omega, List.replicate_succ (n := n - (j + 1)), List.set_append_right _ _ (by rw [letterN_len]; exact Nat.le_refl _), letterN_len, Nat.sub_self, List.set_cons_zero, letterN_succ]
    simp
  rw [e, List.map_set]
  congr 1
  show Value.int .u8 _ = _
  have : (j + k) % 26 < 26 := Nat.mod_lt _ (by decide)
  rw [UInt8.toNat_ofNat_of_lt' (by have h8 : UInt8.size = 256 := rfl; omega), hX]
  first | rfl | congr 1 | (congr 1 <;> omega)
theorem ltrAt_get (n k j : Nat) (h : j < n) : (ltrAt n k j)[j]? = some 0 := by
  unfold ltrAt
  rw [List.getElem?_append_right (by rw [letterN_len]; exact Nat.le_refl _), letterN_len, Nat.sub_self, show n - j = (n - (j + 1)) + 1 by omega, List.replicate_succ]; rfl
theorem ltrAt_all (n k : Nat) : ltrAt n k n = letterN n k := by simp [ltrAt]
theorem dec_small (j : Nat) (h : j ≤ 3) : decimal j = [UInt8.ofNat (48 + j)] := by
  have h : j = 0 ∨ j = 1 ∨ j = 2 ∨ j = 3 := by omega
  rcases h with rfl | rfl | rfl | rfl <;> decide +kernel

set_option maxHeartbeats 1000000 in
theorem letters26_any (n q : Nat) (w : World) (hn : n ≤ 100000) (hq : q ≤ 100000) :
    Calls Tryd.prog 17 #[.int .i64 n, .int .i64 q] w fun e w' => e = .returned (.string (ofL (letterN n q))) ∧ Below w.heap.size w w' := by
  refine calls_gen fun R hR => ?_
  have hmk : ∀ w : World, (Instr.makeSlice 26 (.int .i64 n) (.int .i64 n)).run Tryd.prog w = .ok (.slice (some ⟨w.heap.size, 0, none⟩) n n) (w.alloc (.cells (madeCells #[.int .u8 0] n) 5)) := fun w => run_make_row' (P := Tryd.prog) 26 5 (.int .u8 0) 1 Tryd.underlying26 info5 rfl .i64 .i64 n (by omega) (by omega) w
  obtain ⟨M, hM⟩ : ∃ M, madeCells #[Value.int .u8 0] n = M := ⟨_, rfl⟩
  have hMl : M.toList = (ltrAt n q 0).map u8v := by
    rw [← hM]
    apply List.ext_getElem?
    intro i
    unfold ltrAt letterN
    rw [List.range_zero, List.map_nil, List.nil_append, List.map_replicate]
    by_cases hi : i < n
    · simp [madeCells, hi, Nat.mod_one, u8v]
    · simp [madeCells, hi]
  rw [hM] at hmk
  clear hM
  go_enter Tryd.func17, Tryd.ntmps17
  have hgb := blk_new w (.cells M 5)
  have hrow : RowAt (w.alloc (.cells M 5)) w.heap.size 5 (0, 0) ((ltrAt n q 0).map u8v) := ⟨M, hgb, by rw [← hMl]; exact List.take_length⟩
  have hb := below_new w (.cells M 5)
  have HB := Lib.hid hb; have HR := Lib.hid hrow
  clear hgb hrow hb hMl
  go_wp2_with fail
  go_loopw [6] (fun i wr => ∃ k : Nat, k ≤ n ∧ i = .int .i64 k ∧ RowAt wr w.heap.size 5 (0, 0) ((ltrAt n q k).map u8v) ∧ Below w.heap.size w wr) (fun i _ => n - (intOf i).toNat)
  case atStart => exact ⟨0, by omega, rfl, HR.out, HB.out⟩
  case round =>
    obtain ⟨k, hk, rfl, hrow, hb⟩ := hrel
    by_cases hlt : k < n
    · have hcell := hrow.cell (i := k) (u := .int .u8 0) (by rw [List.getElem?_map, ltrAt_get n q k hlt]; rfl)
      have hfree := hrow.free (i := k) (.inr (Nat.zero_le _))
      obtain ⟨X, hX⟩ : ∃ X : Int, ((k : Int) + (q : Int)).tmod 26 = X := ⟨_, rfl⟩
      have hXe : X = (((k + q) % 26 : Nat) : Int) := by
        rw [← hX, Int.tmod_eq_emod_of_nonneg (by omega)]; omega
      have HS := Lib.hid (ltrAt_step n q k hlt hXe)
      have hx0 : 0 ≤ X := by omega
      have hx1 : X < 26 := by rw [hXe]; have : (k + q) % 26 < 26 := Nat.mod_lt _ (by decide); omega
      have hgl := hrow.len
      clear hXe
      go_wp2_with fail
      go_roundw
      case rel =>
        refine ⟨k + 1, by omega, by go_num, ?_, hb.setCell (Nat.le_refl _) _⟩
        rw [HS.out]
        exact hrow.set k _
      case measure => simp [intOf]; omega
    · obtain rfl : k = n := by omega
      have hv : View Rp.u8 wr (fun _ => True) (ltrAt k q k) (.slice (some ⟨w.heap.size, 0, none⟩) k k) := by
        have h := hrow.view (h1 := fun _ => rfl) (F := fun _ => True) (c := k) (by rw [ltrAt_len _ _ _ (Nat.le_refl _)]; exact Nat.le_refl _) trivial
        rw [ltrAt_len _ _ _ (Nat.le_refl _)] at h
        exact h
      rw [ltrAt_all] at hv
      go_wp2_with (with_reducible (first | refine stop_convert ?_))
      refine ⟨wp_string Tryd.underlying26 Tryd.underlying5 Tryd.underlying9 hv ?_⟩
      go_wp2_with fail
      go_ret
      exact hR _ _ ⟨rfl, hb⟩
end Go.Proofs.YtaihjnicondifaaDoor.Asc
