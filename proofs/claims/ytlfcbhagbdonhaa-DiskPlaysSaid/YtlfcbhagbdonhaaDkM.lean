/-
  Contracts: a disk's copy; a disk that is none; the law's bytes.
  Lengths within the rows' own reach.
-/
import Derived.Test.YtlfcbhagbdonhaaDkL
import Derived.Deep.OwnRows
namespace Go.Proofs.Ytlfcbhagbdonhaa.Asc
set_option linter.unusedSimpArgs false
set_option linter.unusedVariables false
open Go Go.RowKit Go.Proofs.Ytlfcbhagbdonhaa.Pb

section
variable {w : World} {S : Nat → Prop} {d : Nat} {dk : Dk} {g : Tx → Option Nat} {tag : Nat → Option Tx} {mv : Option Nat}
theorem copy_any (h : DIn w S d dk g tag mv) (hlen : dk.fs.length ≤ 1000) (hfl : ∀ f ∈ dk.fs, f.b.length ≤ 140737488351232) :
    Calls Try.prog 18 #[.pointer (some ⟨d, 0, none⟩)] w fun e w' => e = .returned (.pointer (some ⟨w.heap.size, 0, none⟩)) ∧ DAt w' (fun k => w.heap.size < k) w.heap.size dk ∧ Below w.heap.size w w' := by
  refine calls_gen fun R hR => ?_
  have H := Lib.hid h; have HFL := Lib.hid hfl
  have hlt := h.lt
  clear h hfl
  go_enter Try.func18, Try.ntmps18
  go_wp2_with fail
  refine (copied_any H.out hlen HFL.out).mono ?_
  rintro e w1 ⟨rfl, hd1, hb1⟩
  have HD1 := Lib.hid hd1; have HB1 := Lib.hid hb1
  clear hd1 hb1
  go_wp2_with fail
  go_ret
  exact hR _ _ ⟨rfl, HD1.out, HB1.out⟩
end

/-! ### a disk that is none -/
theorem append_nil (T : ByteArray) (pv : Value) (w : World) :
    Calls Try.prog 11 #[.pointer none, .string T, pv] w fun e w' => e = .returned (.int .i64 3) ∧ w' = w := by
  refine calls_gen fun R hR => ?_
  go_enter Try.func11, Try.ntmps11
  go_wp2_with fail
  go_ret
  exact hR _ _ ⟨rfl, rfl⟩
theorem opened_nil (T : ByteArray) (w : World) :
    Calls Try.prog 40 #[.pointer none, .string T] w fun e w' => e = .returned (.tuple #[.pointer none, .int .i64 4]) ∧ w' = w := by
  refine calls_gen fun R hR => ?_
  go_enter Try.func40, Try.ntmps40
  go_wp2_with fail
  go_ret2
  exact hR _ _ ⟨rfl, rfl⟩
theorem rename_nil (T V : ByteArray) (w : World) :
    Calls Try.prog 22 #[.pointer none, .string T, .string V] w fun e w' => e = .returned (.int .i64 4) ∧ w' = w := by
  refine calls_gen fun R hR => ?_
  go_enter Try.func22, Try.ntmps22
  go_wp2_with fail
  refine (opened_nil T w).mono ?_
  rintro e w1 ⟨rfl, hw1⟩
  rw [hw1]
  clear hw1
  go_wp2_with fail
  go_ret
  exact hR _ _ ⟨rfl, rfl⟩
theorem truncate_nil (T : ByteArray) (n : Int) (w : World) :
    Calls Try.prog 23 #[.pointer none, .string T, .int .i64 n] w fun e w' => e = .returned (.int .i64 4) ∧ w' = w := by
  refine calls_gen fun R hR => ?_
  go_enter Try.func23, Try.ntmps23
  go_wp2_with fail
  refine (opened_nil T w).mono ?_
  rintro e w1 ⟨rfl, hw1⟩
  rw [hw1]
  clear hw1
  go_wp2_with fail
  go_ret
  exact hR _ _ ⟨rfl, rfl⟩
theorem remove_nil (T : ByteArray) (w : World) :
    Calls Try.prog 19 #[.pointer none, .string T] w fun e w' => e = .returned (.int .i64 4) ∧ w' = w := by
  refine calls_gen fun R hR => ?_
  go_enter Try.func19, Try.ntmps19
  go_wp2_with fail
  refine (opened_nil T w).mono ?_
  rintro e w1 ⟨rfl, hw1⟩
  rw [hw1]
  clear hw1
  go_wp2_with fail
  go_ret
  exact hR _ _ ⟨rfl, rfl⟩
theorem read_nil (T : ByteArray) (w : World) :
    Calls Try.prog 14 #[.pointer none, .string T] w fun e w' => e = .returned (.tuple #[.slice none 0 0, .int .i64 4]) ∧ w' = w := by
  refine calls_gen fun R hR => ?_
  go_enter Try.func14, Try.ntmps14
  go_wp2_with fail
  go_ret2
  exact hR _ _ ⟨rfl, rfl⟩
theorem names_nil (w : World) :
    Calls Try.prog 17 #[.pointer none] w fun e w' => e = .returned (.slice none 0 0) ∧ w' = w := by
  refine calls_gen fun R hR => ?_
  go_enter Try.func17, Try.ntmps17
  go_wp2_with fail
  go_ret
  exact hR _ _ ⟨rfl, rfl⟩
theorem ops_nil (w : World) :
    Calls Try.prog 20 #[.pointer none] w fun e w' => e = .returned (.int .i64 0) ∧ w' = w := by
  refine calls_gen fun R hR => ?_
  go_enter Try.func20, Try.ntmps20
  go_wp2_with fail
  go_ret
  exact hR _ _ ⟨rfl, rfl⟩
theorem cut_nil (n : Int) (w : World) :
    Calls Try.prog 21 #[.pointer none, .int .i64 n] w fun e w' => e = .returned (.tuple #[]) ∧ w' = w := by
  refine calls_gen fun R hR => ?_
  go_enter Try.func21, Try.ntmps21
  go_wp2_with fail
  exact bodyPost_end (v := .tuple #[]) (by simp [results, Try.results21]) rfl (hR _ _ ⟨rfl, rfl⟩)

/-! ### rows of a literal -/
theorem view_cells {α : Type} {enc : α → Value} {h1 : ∀ x, (enc x).oneCell' = true} {w : World} {G : Nat → Prop} {g : Nat} {t : TypeId} {fz : Nat × Nat} (xs : List α) (n : Nat) {C : Array Value} (hg : w.heap[g]? = some (.cells C t fz)) (hC : C.toList = xs.map enc) (hn : n = xs.length) (hG : G g) :
    View (Rp.flat enc h1) w G xs (.slice (some ⟨g, 0, none⟩) n n) := by
  subst hn
  refine ⟨_, xs.length, rfl, Nat.le_refl _, by simp, .inr ⟨g, 0, xs.map enc, rfl, hG, blk_lt hg, fun j y hj => ?_, Elems.of_map _⟩⟩
  rw [Nat.zero_add, blk_cell hg, ← Array.getElem?_toList, hC]; exact hj
theorem view_rows1 {w : World} {G : Nat → Prop} {g : Nat} {x : List UInt8} {u : Value} {t : TypeId} {fz : Nat × Nat} (hg : w.heap[g]? = some (.cells #[u] t fz)) (hv : View Rp.u8 w G x u) (hG : G g) : View Rp.u8.view w G [x] (.slice (some ⟨g, 0, none⟩) 1 1) := by
  refine ⟨_, 1, rfl, Nat.le_refl _, by simp, .inr ⟨g, 0, [u], rfl, hG, blk_lt hg, fun j y hj => ?_, Elems.one ⟨u, rfl, hv⟩⟩⟩
  rw [Nat.zero_add, blk_cell hg]; simpa using hj
theorem view_rows2 {w : World} {G : Nat → Prop} {g : Nat} {x y : List UInt8} {u v : Value} {t : TypeId} {fz : Nat × Nat} (hg : w.heap[g]? = some (.cells #[u, v] t fz)) (hu : View Rp.u8 w G x u) (hv : View Rp.u8 w G y v) (hG : G g) : View Rp.u8.view w G [x, y] (.slice (some ⟨g, 0, none⟩) 2 2) := by
  refine ⟨_, 2, rfl, Nat.le_refl _, by simp, .inr ⟨g, 0, [u, v], rfl, hG, blk_lt hg, fun j y hj => ?_, ⟨[u], [v], rfl, ⟨u, rfl, hu⟩, Elems.one ⟨v, rfl, hv⟩⟩⟩⟩
  rw [Nat.zero_add, blk_cell hg]; simpa using hj

/-! ### the law's bytes -/
def byteOf (x : Int) : UInt8 := UInt8.ofNat (x % 256).toNat
def lawB (n : Nat) (c : Int) : List UInt8 := (List.range n).map fun (i : Nat) => byteOf (c + i)
theorem lawB_len (n : Nat) (c : Int) : (lawB n c).length = n := by simp [lawB]
def lawAt (n : Nat) (c : Int) (j : Nat) : List UInt8 := lawB j c ++ List.replicate (n - j) 0
theorem lawAt_len (n : Nat) (c : Int) (j : Nat) (h : j ≤ n) : (lawAt n c j).length = n := by unfold lawAt; simp [lawB_len]; omega
theorem lawAt_step (n : Nat) (c : Int) (j : Nat) (h : j < n) {X : Int} (hX : X = (c + j) % 256) : (lawAt n c (j + 1)).map u8v = ((lawAt n c j).map u8v).set j (.int .u8 X) := by
  have e0 : lawB (j + 1) c = lawB j c ++ [byteOf (c + j)] := by unfold lawB; rw [List.range_succ, List.map_append]; rfl
  have e : lawAt n c (j + 1) = (lawAt n c j).set j (byteOf (c + j)) := by
    unfold lawAt
    rw [show n - j = (n - (j + 1)) + 1 by omega, List.replicate_succ (n := n - (j + 1)), List.set_append_right _ _ (by rw [lawB_len]; exact Nat.le_refl _), lawB_len, Nat.sub_self, List.set_cons_zero, e0]
    simp
  rw [e, List.map_set]
  congr 1
  show Value.int .u8 _ = _
  have h1 := Int.emod_nonneg (c + j) (show (256 : Int) ≠ 0 by decide)
  have h2 := Int.emod_lt_of_pos (c + j) (show (0 : Int) < 256 by decide)
  unfold byteOf
  rw [UInt8.toNat_ofNat_of_lt' (by have h8 : UInt8.size = 256 := rfl; omega), hX]
  congr 1; omega
theorem lawAt_get (n : Nat) (c : Int) (j : Nat) (h : j < n) : (lawAt n c j)[j]? = some 0 := by
  unfold lawAt
  rw [List.getElem?_append_right (by rw [lawB_len]; exact Nat.le_refl _), lawB_len, Nat.sub_self, show n - j = (n - (j + 1)) + 1 by omega, List.replicate_succ]; rfl
theorem lawAt_all (n : Nat) (c : Int) : lawAt n c n = lawB n c := by simp [lawAt]

set_option maxHeartbeats 1000000 in
theorem bytes4_any (z : Int) (n : Nat) (hz : n = z.toNat) (c : Int) (w : World) (hn : n ≤ 1000000) (hc0 : -1000000 ≤ c) (hc1 : c ≤ 1000000) :
    Calls Try.prog 10 #[.int .i64 z, .int .i64 c] w fun e w' => e = .returned (.slice (some ⟨w.heap.size, 0, none⟩) n n) ∧ View Rp.u8 w' (fun k => k = w.heap.size) (lawB n c) (.slice (some ⟨w.heap.size, 0, none⟩) n n) ∧ Below w.heap.size w w' ∧ w.heap.size < w'.heap.size := by
  refine calls_gen fun R hR => ?_
  have hmk : ∀ w : World, (Instr.makeSlice 28 (.int .i64 n) (.int .i64 n)).run Try.prog w = .ok (.slice (some ⟨w.heap.size, 0, none⟩) n n) (w.alloc (.cells (madeCells #[.int .u8 0] n) 5)) := fun w => run_make_row' (P := Try.prog) 28 5 (.int .u8 0) 1 Try.underlying28 info5 rfl .i64 .i64 n (by omega) (by omega) w
  obtain ⟨M, hM⟩ : ∃ M, madeCells #[Value.int .u8 0] n = M := ⟨_, rfl⟩
  have hMl : M.toList = (lawAt n c 0).map u8v := by
    rw [← hM]
    apply List.ext_getElem?
    intro i
    unfold lawAt lawB
    rw [List.range_zero, List.map_nil, List.nil_append, List.map_replicate]
    by_cases hi : i < n
    · simp [madeCells, hi, Nat.mod_one, u8v]
    · simp [madeCells, hi]
  rw [hM] at hmk
  clear hM
  go_enter Try.func10, Try.ntmps10
  have hgb := blk_new w (.cells M 5)
  have hrow : RowAt (w.alloc (.cells M 5)) w.heap.size 5 (0, 0) ((lawAt n c 0).map u8v) := ⟨M, hgb, by rw [← hMl]; exact List.take_length⟩
  have hb := below_new w (.cells M 5)
  have HB := Lib.hid hb; have HR := Lib.hid hrow
  clear hgb hrow hb hMl
  go_wp2_with (with_reducible (first | refine stop_max ?_))
  refine ⟨wp_max rfl rfl ?_⟩
  rw [show max z 0 = (n : Int) by omega]
  clear hz
  go_wp2_with fail
  go_loopw [6] (fun i wr => ∃ k : Nat, k ≤ n ∧ i = .int .i64 k ∧ RowAt wr w.heap.size 5 (0, 0) ((lawAt n c k).map u8v) ∧ Below w.heap.size w wr) (fun i _ => n - (intOf i).toNat)
  case atStart => exact ⟨0, by omega, rfl, HR.out, HB.out⟩
  case round =>
    obtain ⟨k, hk, rfl, hrow, hb⟩ := hrel
    by_cases hlt : k < n
    · have hcell := hrow.cell (i := k) (u := .int .u8 0) (by rw [List.getElem?_map, lawAt_get n c k hlt]; rfl)
      have hfree := hrow.free (i := k) (.inr (Nat.zero_le _))
      have HS : Hid (∀ X : Int, X = (c + k) % 256 → _) := Lib.hid fun X hX => lawAt_step n c k hlt hX
      have hgl := hrow.len
      go_wp2_with fail
      go_roundw
      case rel =>
        refine ⟨k + 1, by omega, by go_num, ?_, hb.setCell (Nat.le_refl _) _⟩
        rw [HS.out _ (by first | rfl | omega | exact (IntKind.wrap_u8 _))]
        exact hrow.set k _
      case measure => simp [intOf]; omega
    · obtain rfl : k = n := by omega
      have hv : View Rp.u8 wr (fun j => j = w.heap.size) (lawAt k c k) (.slice (some ⟨w.heap.size, 0, none⟩) k k) := by
        have h := hrow.view (h1 := fun _ => rfl) (F := fun j => j = w.heap.size) (c := k) (by rw [lawAt_len _ _ _ (Nat.le_refl _)]; exact Nat.le_refl _) rfl
        rw [lawAt_len _ _ _ (Nat.le_refl _)] at h
        exact h
      rw [lawAt_all] at hv
      have hgl := hrow.len
      have HV := Lib.hid hv
      clear hv hrow
      go_wp2_with fail
      go_ret
      exact hR _ _ ⟨rfl, HV.out, hb, hgl⟩
end Go.Proofs.Ytlfcbhagbdonhaa.Asc
