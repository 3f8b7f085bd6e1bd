/-
  Contract of parapetlaw5.awake: it answers true.
  No condition.
-/
import Derived.Test.YtmbkfhfidjplnaaNetG
import Derived.Lib.SlBytesConst
namespace Go.Proofs.Ytmbkfhfidjplnaa.Nt
open Go Go.RowKit Go.Proofs.Ytmbkfhfidjplnaa.Pb

theorem view_two {w : World} {G : Nat → Prop} {g : Nat} {x y : Pk} {u v : Value} {t : TypeId} (hg : w.heap[g]? = some (.cells #[.int .i64 x.1, .int .i64 x.2.1, u, .int .i64 y.1, .int .i64 y.2.1, v] t (0, 0))) (hu : View Rp.u8 w G x.2.2 u) (hv : View Rp.u8 w G y.2.2 v) (hG : G g) : View pkt w G [x, y] (.slice (some ⟨g, 0, none⟩) 2 2) := by
  refine ⟨_, 2, rfl, Nat.le_refl _, by simp, .inr ⟨g, 0, [.int .i64 x.1, .int .i64 x.2.1, u, .int .i64 y.1, .int .i64 y.2.1, v], rfl, hG, blk_lt hg, fun j z hj => ?_, ?_⟩⟩
  · rw [Nat.zero_add, blk_cell hg]; simpa using hj
  · exact ⟨[.int .i64 x.1, .int .i64 x.2.1, u], [.int .i64 y.1, .int .i64 y.2.1, v], rfl, ⟨[_], _, rfl, rfl, [_], _, rfl, rfl, _, rfl, hu⟩, Elems.one ⟨[_], _, rfl, rfl, [_], _, rfl, rfl, _, rfl, hv⟩⟩
theorem view_byte {w : World} {G : Nat → Prop} {g : Nat} {x : UInt8} {n : Int} {t : TypeId} {fz : Nat × Nat} (hg : w.heap[g]? = some (.cells #[.int .u8 n] t fz)) (hn : n = x.toNat) (hG : G g) : View Rp.u8 w G [x] (.slice (some ⟨g, 0, none⟩) 1 1) := by
  refine ⟨_, 1, rfl, Nat.le_refl _, by simp, .inr ⟨g, 0, [u8v x], rfl, hG, blk_lt hg, fun j z hj => ?_, Elems.one rfl⟩⟩
  rw [Nat.zero_add, blk_cell hg, hn]; simpa [u8v] using hj

set_option maxHeartbeats 2000000 in
theorem awake_any (w : World) :
    Calls Try.prog 8 #[] w fun e w' => e = .returned (.bool true) ∧ Below w.heap.size w w' := by
  refine calls_gen fun R hR => ?_
  have kc := fun (w : World) (C : Array Value) (n c : Nat) => Lib.run_convert_bytes_const (P := Try.prog) w 31 5 C n c Try.underlying31 Try.underlying5
  go_enter Try.func8, Try.ntmps8
  go_wp2_with fail
  refine (new_any w).mono ?_
  rintro e w1 ⟨rfl, hb1, hn1, hs1⟩
  have HB1 := Lib.hid hb1; have HN1 := Lib.hid hn1
  clear hb1 hn1
  obtain ⟨wa, hwa⟩ : ∃ wa, w1.alloc (.cells #[.int .u8 97] 5 (1, 2)) = wa := ⟨_, rfl⟩
  have hsa : wa.heap.size = w.heap.size + 2 := by rw [← hwa]; simp [hs1]
  have kc1 : (convert 31 31 (.slice (some ⟨w.heap.size + 1, 0, none⟩) 1 1)).run Try.prog (w1.alloc (.cells #[.int .u8 97] 5)) = .ok (.slice (some ⟨w.heap.size + 1, 0, none⟩) 1 1) wa := by
    have := kc w1 #[.int .u8 97] 1 1; rw [hs1] at this; rw [← hwa]; exact this
  have kc2 : (convert 31 31 (.slice (some ⟨w.heap.size + 2, 0, none⟩) 1 1)).run Try.prog (wa.alloc (.cells #[.int .u8 98] 5)) = .ok (.slice (some ⟨w.heap.size + 2, 0, none⟩) 1 1) (wa.alloc (.cells #[.int .u8 98] 5 (1, 2))) := by
    have := kc wa #[.int .u8 98] 1 1; rw [hsa] at this; exact this
  have HWA := Lib.hid hwa
  clear kc hwa
  go_wp2_with fail
  obtain ⟨wb, hwb⟩ : ∃ wb, wa.alloc (.cells #[.int .u8 98] 5 (1, 2)) = wb := ⟨_, rfl⟩
  have hbb := below_new wa (.cells #[.int .u8 98] 5 (1, 2))
  have gb := blk_new wa (.cells #[.int .u8 98] 5 (1, 2))
  have hba := below_new w1 (.cells #[.int .u8 97] 5 (1, 2))
  have ga := blk_new w1 (.cells #[.int .u8 97] 5 (1, 2))
  have hsb : wb.heap.size = w.heap.size + 3 := by rw [← hwb]; simp [hsa]
  rw [HWA.out] at hba ga
  rw [hwb] at hbb gb ⊢
  obtain ⟨wc, hwc⟩ : ∃ wc, wb.alloc (.cells #[.int .i64 1, .int .i64 2, .slice (some ⟨w.heap.size + 1, 0, none⟩) 1 1, .int .i64 2, .int .i64 1, .slice (some ⟨w.heap.size + 2, 0, none⟩) 1 1] 33) = wc := ⟨_, rfl⟩
  have hbc := below_new wb (.cells #[.int .i64 1, .int .i64 2, .slice (some ⟨w.heap.size + 1, 0, none⟩) 1 1, .int .i64 2, .int .i64 1, .slice (some ⟨w.heap.size + 2, 0, none⟩) 1 1] 33)
  have gc := blk_new wb (.cells #[.int .i64 1, .int .i64 2, .slice (some ⟨w.heap.size + 1, 0, none⟩) 1 1, .int .i64 2, .int .i64 1, .slice (some ⟨w.heap.size + 2, 0, none⟩) 1 1] 33)
  have hsc : wc.heap.size = w.heap.size + 4 := by rw [← hwc]; simp [hsb]
  rw [hwc] at hbc gc ⊢
  rw [hs1] at ga
  rw [hsa] at gb
  rw [hsb] at gc
  have hb1c : Below w1.heap.size w1 wc := (hba.trans (hbb.mono (by omega))).trans (hbc.mono (by omega))
  have gac := (hbc.block (w.heap.size + 1) (by omega)).trans ((hbb.block (w.heap.size + 1) (by omega)).trans ga)
  have gbc := (hbc.block (w.heap.size + 2) (by omega)).trans gb
  have hvw : View pkt wc (fun k => w.heap.size < k) [(1, 2, [97]), (2, 1, [98])] (.slice (some ⟨w.heap.size + 3, 0, none⟩) 2 2) :=
    view_two gc (view_byte gac rfl (by show _ < _ + 1; omega)) (view_byte gbc rfl (by show _ < _ + 2; omega)) (by show _ < _ + 3; omega)
  have hnc := HN1.out.below hb1c
  have HBC := Lib.hid (HB1.out.trans (hb1c.mono (by omega)))
  clear hwb hwc hba hbb hbc ga gb gc gac gbc hb1c kc1 kc2 HWA HB1 HN1
  refine (send_any _ wc _ _ _ [] _ _ hnc hvw (fun k hk h => by omega) (by simp) (by simp) (fun z hz => by simp at hz; rcases hz with rfl | rfl <;> simp)).mono ?_
  rintro e w2 ⟨rfl, hk2, hn2⟩
  rw [show sends [] [(1, 2, [97]), (2, 1, [98])] = [(1, 2, [97]), (2, 1, [98])] from rfl] at hn2 ⊢
  have HB2 := Lib.hid (HBC.out.trans (hk2.below (B := w.heap.size) (by omega) (fun i hi h => by omega)))
  have hs2 := hk2.size
  have HN2 := Lib.hid hn2
  clear hk2 hn2 hnc hvw
  go_wp2_with fail
  refine (deliver_any _ w2 _ _ _ HN2.out 1 (by simp) (fun z hz => by simp at hz; rcases hz with rfl | rfl <;> simp)).mono ?_
  rintro e w3 ⟨u, ok, rfl, ⟨hok, u2, rfl, hu⟩, hk3, hn3⟩
  rw [show peek [(1, 2, [97]), (2, 1, [98])] 1 = some (2, 1, [98]) from rfl] at hok hu ⊢
  rw [show gone [(1, 2, [97]), (2, 1, [98])] 1 = [(1, 2, [97])] from rfl] at hn3
  simp only [Option.getD_some, Option.isSome_some] at hok hu ⊢
  subst hok
  obtain ⟨A1, c1, rfl, hc1⟩ := hu.slice
  have HB3 := Lib.hid (HB2.out.trans (hk3.below (B := w.heap.size) (by omega) (fun i hi h => by omega)))
  have hs3 := hk3.size
  have HU3 := Lib.hid hu; have HN3 := Lib.hid hn3
  clear hu hk3 hn3
  unfold pv
  go_wp2_with fail
  refine (deliver_any _ _ _ _ _ (HN3.out.new _) 0 (by simp) (fun z hz => by simp at hz; subst hz; simp)).mono ?_
  rintro e w5 ⟨v, ok, rfl, ⟨hok, v2, rfl, hv⟩, hk5, hn5⟩
  rw [show peek [(1, 2, [97])] 0 = some (1, 2, [97]) from rfl] at hok hv ⊢
  rw [show gone [(1, 2, [97])] 0 = [] from rfl] at hn5
  simp only [Option.getD_some, Option.isSome_some] at hok hv ⊢
  subst hok
  obtain ⟨A2, c2, rfl, hc2⟩ := hv.slice
  have hbn := below_new w3 (.cells #[.int .i64 2, .int .i64 1, .slice A1 1 c1] 33)
  have gn := blk_new w3 (.cells #[.int .i64 2, .int .i64 1, .slice A1 1 c1] 33)
  have hs4 : (w3.alloc (.cells #[.int .i64 2, .int .i64 1, .slice A1 1 c1] 33)).heap.size = w3.heap.size + 1 := by simp
  have hs5 := hk5.size
  rw [hs4] at hs5 hv
  have hu5 := (HU3.out.below hbn).keep hk5 (fun k h h' => by have := HB3.out.size; omega)
  have gn5 := hk5.blk gn (by show ¬ _; omega)
  have hb6 := below_new w5 (.cells #[.int .i64 1, .int .i64 2, .slice A2 1 c2] 33)
  have kv1 : (convert 31 9 (.slice A1 1 c1)).run Try.prog (w5.alloc (.cells #[.int .i64 1, .int .i64 2, .slice A2 1 c2] 33)) = .ok (.string ⟨#[98]⟩) (w5.alloc (.cells #[.int .i64 1, .int .i64 2, .slice A2 1 c2] 33)) :=
    run_string Try.underlying31 Try.underlying5 Try.underlying9 (hu5.below hb6).view
  have kv2 : (convert 31 9 (.slice A2 1 c2)).run Try.prog (w5.alloc (.cells #[.int .i64 1, .int .i64 2, .slice A2 1 c2] 33)) = .ok (.string ⟨#[97]⟩) (w5.alloc (.cells #[.int .i64 1, .int .i64 2, .slice A2 1 c2] 33)) :=
    run_string Try.underlying31 Try.underlying5 Try.underlying9 (hv.below hb6).view
  have d2 := blk_cell gn5 2
  simp at d2
  have hlt5 : w3.heap.size < w5.heap.size := blk_lt gn5
  have HB5 := Lib.hid (((HB3.out.trans (hbn.mono HB3.out.size)).trans (hk5.below (B := w.heap.size) (by have := HB3.out.size; omega) (fun i hi h => by omega))).trans (hb6.mono (by have := HB3.out.size; omega)))
  have HN5 := Lib.hid (hn5.new (.cells #[.int .i64 1, .int .i64 2, .slice A2 1 c2] 33))
  clear hv hk5 hn5 hbn gn hs4 hu5 gn5 hb6
  unfold pv
  go_wp2_with fail
  refine (len_any _ _ _ _ _ HN5.out).mono ?_
  rintro e w' ⟨rfl, rfl⟩
  go_wp2_with fail
  go_ret
  exact hR _ _ ⟨rfl, HB5.out⟩
end Go.Proofs.Ytmbkfhfidjplnaa.Nt
