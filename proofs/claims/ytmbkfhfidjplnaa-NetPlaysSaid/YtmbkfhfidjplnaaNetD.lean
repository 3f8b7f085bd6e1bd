/-
  Contracts: Net.Deliver, row.Drop, Net.Drop, net.New.
  Lengths within the rows' own reach.
-/
import Derived.Test.YtmbkfhfidjplnaaNetC
namespace Go.Proofs.Ytmbkfhfidjplnaa.Nt
open Go Go.RowKit Go.Proofs.Ytmbkfhfidjplnaa.Pb

set_option maxHeartbeats 1000000 in
theorem deliver_any (t : TypeId) (w : World) (F : Nat → Prop) (b : Nat) (l : List Pk) (h : NetAt t w F b l) (k : Int) (hl : l.length ≤ 1000000) (hb : ∀ x ∈ l, x.2.2.length ≤ 140737488351232) :
    Calls Try.prog 11 #[.pointer (some ⟨b, 0, none⟩), .int .i64 k] w fun e w' => ∃ v ok, e = .returned (.tuple #[v, .bool ok]) ∧ Told w w' (peek l k) v ok ∧ Keep F w w' ∧ NetAt t w' F b (gone l k) := by
  refine calls_gen fun R hR => ?_
  have H := Lib.hid h.bnd
  obtain ⟨v, hbk, _, ho⟩ := h
  have hlt := blk_lt hbk
  have h0 := blk_cell hbk 0
  simp at h0
  have HB := Lib.hid hb
  clear ho hbk hb
  have hnew : (w.alloc (Obj.cells #[Value.int IntKind.i64 0, Value.int IntKind.i64 0, Value.slice none 0 0] 33)).heap.size = w.heap.size + 1 := by simp
  have HN := Lib.hid hnew
  have HBL := Lib.hid (below_new w (Obj.cells #[Value.int IntKind.i64 0, Value.int IntKind.i64 0, Value.slice none 0 0] 33))
  clear hnew
  go_enter Try.func11, Try.ntmps11
  go_wp2_with fail
  refine (deliver_row t _ _ b l (H.out.new _) k hl HB.out).mono ?_
  rintro e w3 ⟨u, ok, rfl, ⟨hok, u2, rfl, hu⟩, hk3, hn3⟩
  rw [HN.out] at hu
  obtain ⟨A', c2, rfl, hc2'⟩ := hu.slice
  have hs3 := hk3.size
  rw [HN.out] at hs3
  have g2 : w3.heap[w.heap.size]? = some (.cells #[Value.int IntKind.i64 0, Value.int IntKind.i64 0, Value.slice none 0 0] 33 (0, 0)) :=
    hk3.blk (blk_new w _) (by omega)
  have c20 := blk_cell g2 0
  have f20 := blk_free g2 0
  have c21 := blk_cell g2 1
  have f21 := blk_free g2 1
  have c22 := blk_cell g2 2
  have f22 := blk_free g2 2
  simp at c20 c21 c22
  obtain ⟨x, hx⟩ : ∃ x, (peek l k).getD (0, 0, []) = x := ⟨_, rfl⟩
  rw [hx] at hu hc2' ⊢
  have HX := Lib.hid hx; have HOK := Lib.hid hok; have HU := Lib.hid hu; have HK3 := Lib.hid hk3; have HN3 := Lib.hid hn3
  clear hx hok g2 hu hk3 hn3
  unfold pv
  go_wp2_with fail
  have k3 := keep_put3 w3 w.heap.size (.int .i64 x.1) (.int .i64 x.2.1) (.slice A' x.2.2.length c2)
  have kF := ((Keep.old (F := F) HBL.out).trans HK3.out (fun i _ h => h.1)).trans k3 (fun i hi h => by omega)
  refine bodyPost_ret (v := .tuple #[pv x (Value.slice A' x.2.2.length c2), .bool ok]) (by simp [results, Try.results11, go_sem, c20, c21, c22, pv]) rfl ?_
  refine hR _ _ ⟨_, _, rfl, ⟨HOK.out, _, by rw [HX.out], by rw [HX.out]; exact (HU.out.keep k3 (fun k h => by omega)).mono fun k h => by omega⟩, kF, ?_⟩
  exact (HN3.out.keep k3 (fun k h e => by omega)).mono fun k h => h.1
theorem deliver_nil (w : World) (k : Int) :
    Calls Try.prog 11 #[.pointer none, .int .i64 k] w fun e w' => ∃ v, e = .returned (.tuple #[v, .bool false]) ∧ Told w w' none v false ∧ Below w.heap.size w w' := by
  refine calls_gen fun R hR => ?_
  go_enter Try.func11, Try.ntmps11
  go_wp2_with fail
  refine bodyPost_ret (v := .tuple #[pv (0, 0, []) (.slice none 0 0), .bool false]) (by simp [results, Try.results11, go_sem, pv]) rfl ?_
  exact hR _ _ ⟨_, rfl, ⟨rfl, _, rfl, Own.nil _ _ _ _⟩, (Below.refl _ _).alloc (Nat.le_refl _) _⟩

theorem drop_row (t : TypeId) (w : World) (F : Nat → Prop) (b : Nat) (l : List Pk) (h : NetAt t w F b l) (k : Int) (hl : l.length ≤ 1000000) (hb : ∀ x ∈ l, x.2.2.length ≤ 140737488351232) :
    Calls Try.prog 32 #[.pointer (some ⟨b, 0, none⟩), .int .i64 k] w fun e w' => e = .returned (.bool (peek l k).isSome) ∧ Keep F w w' ∧ NetAt t w' F b (gone l k) := by
  refine calls_gen fun R hR => ?_
  have H := Lib.hid h; have HB := Lib.hid hb
  clear h hb
  go_enter Try.func32, Try.ntmps32
  go_wp2_with fail
  refine (deliver_row t _ F b l H.out k hl HB.out).mono ?_
  rintro e w3 ⟨u, ok, rfl, ⟨hok, u2, rfl, hu⟩, hk3, hn3⟩
  obtain ⟨A', c2, rfl, hc2'⟩ := hu.slice
  obtain ⟨x, hx⟩ : ∃ x, (peek l k).getD (0, 0, []) = x := ⟨_, rfl⟩
  rw [hx]
  rw [hx] at hc2'
  have HOK := Lib.hid hok; have HK3 := Lib.hid hk3; have HN3 := Lib.hid hn3
  clear hok hu hk3 hn3 hx
  unfold pv
  go_wp2_with fail
  go_ret
  exact hR _ _ ⟨by rw [HOK.out]; rfl, HK3.out.new _, HN3.out.new _⟩
theorem drop_any (t : TypeId) (w : World) (F : Nat → Prop) (b : Nat) (l : List Pk) (h : NetAt t w F b l) (k : Int) (hl : l.length ≤ 1000000) (hb : ∀ x ∈ l, x.2.2.length ≤ 140737488351232) :
    Calls Try.prog 20 #[.pointer (some ⟨b, 0, none⟩), .int .i64 k] w fun e w' => e = .returned (.bool (peek l k).isSome) ∧ Keep F w w' ∧ NetAt t w' F b (gone l k) := by
  refine calls_gen fun R hR => ?_
  have H := Lib.hid h; have HB := Lib.hid hb
  obtain ⟨v, hbk, _, ho⟩ := h
  have h0 := blk_cell hbk 0
  simp at h0
  clear ho hbk hb
  go_enter Try.func20, Try.ntmps20
  go_wp2_with fail
  refine (drop_row t _ F b l H.out k hl HB.out).mono ?_
  rintro e w3 ⟨rfl, hk3, hn3⟩
  have HK3 := Lib.hid hk3; have HN3 := Lib.hid hn3
  clear hk3 hn3
  obtain ⟨q, hq⟩ : ∃ q, (peek l k).isSome = q := ⟨_, rfl⟩
  rw [hq]
  have HQ := Lib.hid hq; clear hq
  go_wp2_with fail
  go_ret
  exact hR _ _ ⟨by rw [HQ.out]; rfl, HK3.out, HN3.out⟩
theorem drop_nil (w : World) (k : Int) :
    Calls Try.prog 20 #[.pointer none, .int .i64 k] w fun e w' => e = .returned (.bool false) ∧ w = w' := by
  refine calls_gen fun R hR => ?_
  go_enter Try.func20, Try.ntmps20
  go_wp2_with fail
  go_ret
  exact hR _ _ ⟨rfl, rfl⟩

theorem new_any (w : World) :
    Calls Try.prog 13 #[] w fun e w' => e = .returned (.pointer (some ⟨w.heap.size, 0, none⟩)) ∧ Below w.heap.size w w' ∧ NetAt 29 w' (fun k => k = w.heap.size) w.heap.size [] ∧ w'.heap.size = w.heap.size + 1 := by
  refine calls_gen fun R hR => ?_
  go_enter Try.func13, Try.ntmps13
  go_wp2_with fail
  go_ret
  refine hR _ _ ⟨rfl, below_new _ _, ⟨.slice none 0 0, blk_new w _, rfl, Own.nil _ _ _ _⟩, by simp⟩
end Go.Proofs.Ytmbkfhfidjplnaa.Nt
