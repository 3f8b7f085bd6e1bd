/-
  The law parapetlaw4.DiskNothing answers true.
  The library's MaxLen is a number.
-/
import Derived.Test.YtlfcbhagbdonhaaDkN
namespace Go.Proofs.Ytlfcbhagbdonhaa.Asc
set_option linter.unusedSimpArgs false
set_option linter.unusedVariables false
open Go Go.RowKit Go.Proofs.Ytlfcbhagbdonhaa.Pb

set_option maxHeartbeats 4000000 in
set_option maxRecDepth 20000 in
theorem nothing_walk (s : ByteArray) (hs : s.size ≤ 140737488351232) (k : Int) (w : World) :
    Calls Try.prog 6 #[.string s, .int .i64 k] w fun e w' => e = .returned (.bool true) ∧ Below w.heap.size w w' := by
  refine calls_gen fun R hR => ?_
  by_cases hc : (s.size : Int) > 300
  · go_enter Try.func6, Try.ntmps6
    go_wp2_with fail
    refine (awake4_any w).mono ?_
    rintro e w1 ⟨rfl, hb1⟩
    go_wp2_with fail
    go_ret
    exact hR _ _ ⟨rfl, hb1⟩
  obtain ⟨n1, hn1⟩ : ∃ n, w.heap.size = n := ⟨_, rfl⟩
  have kc := fun (w : World) (C : Array Value) (n c : Nat) => Lib.run_convert_bytes_const (P := Try.prog) w 28 5 C n c Try.underlying28 Try.underlying5
  have kc1 : (convert 28 28 (.slice (some ⟨n1, 0, none⟩) 1 1)).run Try.prog (w.alloc (.cells #[.int .u8 120] 5)) = .ok (.slice (some ⟨n1, 0, none⟩) 1 1) (w.alloc (.cells #[.int .u8 120] 5 (1, 2))) := by
    have := kc w #[.int .u8 120] 1 1; rw [hn1] at this; exact this
  obtain ⟨wa, hwa⟩ : ∃ wa, ((w.alloc (.cells #[.int .u8 120] 5 (1, 2))).alloc (.cells #[.slice (some ⟨n1, 0, none⟩) 1 1] 28)) = wa := ⟨_, rfl⟩
  have hba : Below w.heap.size w wa := hwa ▸ (lit_parts w [120] #[.int .u8 120] (1, 2) 1 n1 hn1 rfl rfl 28).2.mono (by omega)
  have HBA := Lib.hid hba; have HWA := Lib.hid hwa
  clear kc hba hwa
  go_enter Try.func6, Try.ntmps6
  go_wp2_with fail
  refine (cut_nil k w).mono ?_
  rintro e w1 ⟨rfl, h1⟩
  rw [h1]
  clear h1
  go_wp2_with fail
  refine (read_nil s w).mono ?_
  rintro e w1 ⟨rfl, h1⟩
  rw [h1]
  clear h1
  go_wp2_with fail
  rw [HWA.out]
  refine (append_nil _ _ wa).mono ?_
  rintro e w1 ⟨rfl, h1⟩
  rw [h1]
  clear h1 kc1
  go_wp2_with fail
  refine (rename_nil _ _ wa).mono ?_
  rintro e w1 ⟨rfl, h1⟩
  rw [h1]
  clear h1
  go_wp2_with fail
  refine (truncate_nil _ _ wa).mono ?_
  rintro e w1 ⟨rfl, h1⟩
  rw [h1]
  clear h1
  go_wp2_with fail
  refine (remove_nil _ wa).mono ?_
  rintro e w1 ⟨rfl, h1⟩
  rw [h1]
  clear h1
  go_wp2_with fail
  refine (names_nil wa).mono ?_
  rintro e w1 ⟨rfl, h1⟩
  rw [h1]
  clear h1
  go_wp2_with fail
  refine (ops_nil wa).mono ?_
  rintro e w1 ⟨rfl, h1⟩
  rw [h1]
  clear h1
  go_wp2_with fail
  refine (awake4_any wa).mono ?_
  rintro e w2 ⟨rfl, hb2⟩
  have HB2 := Lib.hid hb2
  clear hb2
  go_wp2_with fail
  go_ret
  exact hR _ _ ⟨rfl, HBA.out.trans (HB2.out.mono HBA.out.size)⟩
theorem nothing_row {w : World} (s : ByteArray) (hs : s.size ≤ 140737488351232) (n : Int) (_ : -9223372036854775808 ≤ n) (_ : n ≤ 9223372036854775807) :
    Calls Try.prog 6 #[.string s, .int .i64 n] w fun e w' => e = .returned (.bool true) ∧ Below w.heap.size w w' := nothing_walk s hs n w
end Go.Proofs.Ytlfcbhagbdonhaa.Asc
