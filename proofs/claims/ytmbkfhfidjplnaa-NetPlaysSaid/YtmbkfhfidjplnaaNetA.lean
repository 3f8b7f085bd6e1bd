/-
  Contracts of package net's small functions: node, own, Len, Peek.
  Lengths within the rows' own reach.
-/
import Derived.Test.YtmbkfhfidjplnaaMore
import Derived.Test.YtmbkfhfidjplnaaProg
import Derived.Deep.QuietTactic
import Derived.BigQuiet
import Derived.Outline
import Derived.Deep.DeepCutAuto
import Derived.Deep.CutBlock
import Derived.RegionTactic
import Derived.Deep.RegionLaw
namespace Go.Proofs.Ytmbkfhfidjplnaa.Nt
open Go Go.RowKit Go.Proofs.Ytmbkfhfidjplnaa.Pb

/-- a packet: from, to, bytes -/
abbrev Pk := Int × Int × List UInt8
def pkt : Rp Pk := Rp.pair Rp.int (Rp.pair Rp.int (Rp.view Rp.u8))

theorem node_any (i : Int) (w : World) :
    Calls Try.prog 25 #[.int .i64 i] w fun e w' => e = .returned (.bool (decide (1 ≤ i) && decide (i ≤ 9))) ∧ w = w' := by
  refine calls_gen fun R hR => ?_
  go_enter Try.func25, Try.ntmps25
  go_wp2
  all_goals
    go_ret
    refine hR _ _ ⟨ret_bool ?_, rfl⟩
    simp; try omega

theorem nil31 (w : World) (a : Option Addr) (n c n' c' : Nat) : (binOp .eql 31 (.slice a n c) (.slice none n' c')).run Try.prog w = .ok (.bool a.isNone) w := Lib.run_eql_slice_nil w _ _ a n c n' c' Try.underlying31
theorem info5 : (Try.prog.info? 5).map (fun i => (i.zero, i.size, i.bytes)) = some (some (.int .u8 0), 1, 1) := by kernel_rfl

set_option maxHeartbeats 1000000 in
/-- slices.Clone of bytes -/
theorem clone_any (l : List UInt8) (v : Value) (F : Nat → Prop) (w : World) (hv : View Rp.u8 w F l v) (hl : l.length ≤ 140737488351232) :
    Calls Try.prog 33 #[v] w fun e w' => ∃ u, e = .returned u ∧ Own Rp.u8 5 w' (w.heap.size ≤ ·) l u ∧ Below w.heap.size w w' := by
  refine calls_gen fun R hR => ?_
  have HV := Lib.hid hv
  obtain ⟨A, c, rfl, hc, hA, hx⟩ := hv
  have hnil := nil31
  cases A with
  | none =>
    obtain rfl := hA rfl
    obtain rfl : l = [] := List.eq_nil_of_length_eq_zero (by omega)
    clear hx
    go_enter Try.func33, Try.ntmps33
    go_wp2_with fail
    go_ret
    exact hR _ _ ⟨_, rfl, Own.nil _ _ _ _, Below.refl _ _⟩
  | some ad =>
    clear hx hA
    go_enter Try.func33, Try.ntmps33
    go_wp2_with (with_reducible (first | refine stop_append ?_))
    refine ⟨wp_clone Try.underlying31 info5 rfl (show 0 < 1 by decide) rfl rfl HV.out (by unfold maxLen; omega) (by omega) ?_⟩
    rintro v1 w1 ho1 hb1 ⟨g, c1, rfl, hc1, hg⟩
    go_wp2
    go_ret
    exact hR _ _ ⟨_, rfl, ho1.flat fun k hk => by simp [Value.ownBlock] at hk; omega, hb1⟩

/-! ### a packet -/
/-- a packet's value -/
def pv (p : Pk) (v : Value) : Value := .agg #[.int .i64 p.1, .int .i64 p.2.1, v]

set_option maxHeartbeats 1000000 in
/-- own: the packet, its bytes in memory of its own -/
theorem own_any (p : Pk) (v : Value) (F : Nat → Prop) (w : World) (hv : View Rp.u8 w F p.2.2 v) (hl : p.2.2.length ≤ 140737488351232) :
    Calls Try.prog 26 #[pv p v] w fun e w' => ∃ u, e = .returned (pv p u) ∧ Own Rp.u8 5 w' (w.heap.size ≤ ·) p.2.2 u ∧ Below w.heap.size w w' := by
  refine calls_gen fun R hR => ?_
  have HV := Lib.hid hv
  obtain ⟨A, c, rfl, hc, hA, hx⟩ := hv
  clear hx
  unfold pv
  go_enter Try.func26, Try.ntmps26
  go_wp2_with fail
  refine (clone_any p.2.2 _ F _ (HV.out.move fun k _ hl => ?_) hl).mono ?_
  · exact (Below.heap_alloc _ _ _ (by simp; omega)).trans (Below.heap_alloc _ _ _ hl)
  rintro e w3 ⟨u, rfl, hu, hb⟩
  have hz : (((w.alloc (Obj.cells #[Value.int IntKind.i64 p.1, Value.int IntKind.i64 p.2.1, Value.slice A p.2.2.length c] 33)).alloc (Obj.cells #[Value.int IntKind.i64 0, Value.int IntKind.i64 0, Value.slice none 0 0] 33))).heap.size = w.heap.size + 2 := by simp
  rw [hz] at hb hu
  obtain ⟨A', c', rfl, hc'⟩ := hu.slice
  have g1 : w3.heap[w.heap.size]? = some (.cells #[Value.int IntKind.i64 p.1, Value.int IntKind.i64 p.2.1, Value.slice A p.2.2.length c] 33 (0, 0)) := by
    rw [hb.block _ (by omega)]
    exact (Below.heap_alloc _ _ _ (by simp)).trans (blk_new w _)
  have g2 : w3.heap[w.heap.size + 1]? = some (.cells #[Value.int IntKind.i64 0, Value.int IntKind.i64 0, Value.slice none 0 0] 33 (0, 0)) := by
    rw [hb.block _ (by omega)]
    have := blk_new (w.alloc (Obj.cells #[Value.int IntKind.i64 p.1, Value.int IntKind.i64 p.2.1, Value.slice A p.2.2.length c] 33)) (Obj.cells #[Value.int IntKind.i64 0, Value.int IntKind.i64 0, Value.slice none 0 0] 33)
    simpa using this
  have c10 := blk_cell g1 0
  have f10 := blk_free g1 0
  have c20 := blk_cell g2 0
  have f20 := blk_free g2 0
  have c11 := blk_cell g1 1
  have f11 := blk_free g1 1
  have c21 := blk_cell g2 1
  have f21 := blk_free g2 1
  have c12 := blk_cell g1 2
  have f12 := blk_free g1 2
  have c22 := blk_cell g2 2
  have f22 := blk_free g2 2
  simp at c10 c11 c12 c20 c21 c22
  have HU := Lib.hid hu; have HB := Lib.hid hb
  clear g1 g2 hu hb
  go_wp2_with fail
  have hk : Keep (fun k => k = w.heap.size ∨ k = w.heap.size + 1) w3 ((((w3.setCell ⟨w.heap.size, 2, none⟩ (Value.slice A' p.2.2.length c')).setCell ⟨w.heap.size + 1, 0, none⟩ (Value.int IntKind.i64 p.1)).setCell ⟨w.heap.size + 1, 1, none⟩ (Value.int IntKind.i64 p.2.1)).setCell ⟨w.heap.size + 1, 2, none⟩ (Value.slice A' p.2.2.length c')) :=
    ((((Keep.refl _ _).set (.inl rfl) _).set (.inr rfl) _).set (.inr rfl) _).set (.inr rfl) _
  have hu2 := HU.out.keep hk (fun k h => by omega)
  have HU2 := Lib.hid hu2
  have HK := Lib.hid hk
  clear hu2 hk
  refine bodyPost_ret (v := pv p (Value.slice A' p.2.2.length c')) (by simp [results, Try.results26, go_sem, c20, c21, c22, pv]) rfl ?_
  refine hR _ _ ⟨_, rfl, HU2.out.mono fun k h => by omega, ?_⟩
  exact ((((Below.refl _ _).alloc (Nat.le_refl _) _).alloc (by simp) _).trans (HB.out.mono (by omega))).trans (HK.out.below (by have := HB.out.size; simp at this; omega) (fun i hi h => by omega))
end Go.Proofs.Ytmbkfhfidjplnaa.Nt
