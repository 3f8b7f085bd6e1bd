/-
  Contracts: Values of both, List of both.
  Lengths within the rows' own reach.
-/
import Derived.Test.YtaihjnicondifaaDoorHdrE
namespace Go.Proofs.YtaihjnicondifaaDoor.Asc
open Go Go.RowKit Go.Proofs.YtaihjnicondifaaDoor.Pb

def values (l : List Fd) (ns : List (List UInt8)) : List (List UInt8) := (l.filter fun f => sameIn f.1 ns).map fun f => f.2
theorem values_snoc (l : List Fd) (ns : List (List UInt8)) (k : Nat) (x : Fd) (h : l[k]? = some x) : values (l.take (k + 1)) ns = values (l.take k) ns ++ (if sameIn x.1 ns = true then [x.2] else []) := by
  unfold values
  rw [List.take_add_one, h, List.filter_append, List.map_append]
  cases hs : sameIn x.1 ns <;> simp [hs]
theorem values_len (l : List Fd) (ns : List (List UInt8)) (k : Nat) : (values (l.take k) ns).length ≤ k := by
  unfold values
  rw [List.length_map]
  have := List.length_filter_le (fun f : Fd => sameIn f.1 ns) (l.take k)
  rw [List.length_take] at this; omega

theorem valuesC_any (s F : ByteArray) (fb : Nat) (w : World) (hs : s.size ≤ 1000000) (hF : F.size ≤ 1000000) (hc : w.cell? ⟨fb, 0, none⟩ = some (.string F)) :
    Calls Tryd.prog 52 #[.string s, .pointer (some ⟨fb, 0, none⟩)] w fun e w' => e = .returned (.bool (lower (toL s) == lower (toL F))) ∧ Below w.heap.size w w' := by
  refine calls_gen fun R hR => ?_
  have hl := World.block_lt_of_cell? w ⟨fb, 0, none⟩ hc
  simp only at hl
  go_enter Tryd.func52, Tryd.ntmps52
  go_wp2_with fail
  refine (same_any s F w hs hF).mono ?_
  rintro e w1 ⟨rfl, hb1⟩
  go_wp2_with fail
  go_ret
  exact hR _ _ ⟨rfl, hb1⟩

theorem infoS : (Tryd.prog.info? 9).map (fun i => (i.zero, i.size, i.bytes)) = some (some (.string ByteArray.empty), 1, 16) := by kernel_rfl

set_option maxHeartbeats 2000000 in
theorem values_any (l : List Fd) (ns : List (List UInt8)) (v u : Value) (F G : Nat → Prop) (w : World) (hv : View fld w F l v) (hu : View Rp.str w G ns u) (hl : l.length ≤ 1000000) (hx : ∀ x ∈ l, x.1.length ≤ 1000000) (hn : ns.length ≤ 1000000) (hy : ∀ x ∈ ns, x.length ≤ 1000000) :
    Calls Tryd.prog 40 #[v, u] w fun e w' => ∃ r, e = .returned r ∧ Own Rp.str 9 w' (w.heap.size ≤ ·) (values l ns) r ∧ Below w.heap.size w w' := by
  refine calls_gen fun R hR => ?_
  obtain ⟨A, c, rfl, hcl, hget⟩ := flds_get hv
  have HG := Lib.hid hget; have HXL := Lib.hid hx; have HYL := Lib.hid hy
  have hu' := hu.bnd
  obtain ⟨A2, c2, rfl, hc2, -⟩ := hu.open1
  have HU := Lib.hid hu'
  clear hget hv hx hy hu hu'
  go_enter Tryd.func40, Tryd.ntmps40
  go_wp2_with fail
  go_loopw [4, 6, 9] (fun ov _ i wr => ∃ k : Nat, k ≤ l.length ∧ i = .int .i64 k ∧ Own Rp.str 9 wr (w.heap.size ≤ ·) (values (l.take k) ns) ov ∧ Below w.heap.size w wr) (fun _ _ i _ => l.length - (intOf i).toNat)
  case atStart => exact ⟨0, Nat.zero_le _, rfl, Own.nil _ _ _ _, Below.refl _ _⟩
  case round =>
    obtain ⟨k, hk, rfl, ho, hb⟩ := hrel
    have hvl := values_len l ns k
    obtain ⟨OA, oc, rfl, hoc⟩ := ho.slice
    have hbs := hb.size
    obtain ⟨z, hz⟩ : ∃ z, values (l.take k) ns = z := ⟨_, rfl⟩
    rw [hz] at ho hoc hvl ⊢
    have HZ := Lib.hid hz; have HO := Lib.hid ho; have HB := Lib.hid hb
    clear hz ho hb
    by_cases hlt : k < l.length
    · obtain ⟨g, off, rfl, hg, hx⟩ := HG.out k hlt
      obtain ⟨x, he⟩ : ∃ x, l[k]? = some x := ⟨_, List.getElem?_eq_getElem hlt⟩
      obtain ⟨c0, c1⟩ := hx x he
      have d0 := (HB.out.cell (p := ⟨g, off + k * 2, none⟩) hg).trans c0
      have d1 := (HB.out.cell (p := ⟨g, off + k * 2 + 1, none⟩) hg).trans c1
      have hxl := HXL.out x (List.mem_of_getElem? he)
      have HSN := Lib.hid (values_snoc l ns k x he)
      have hgr : g < wr.heap.size := by omega
      clear hx he c0 c1
      go_wp2_with fail
      have hb1 := below_new wr (.cells #[.string (ofL x.1), .string (ofL x.2)] 71)
      have g1 := blk_new wr (.cells #[.string (ofL x.1), .string (ofL x.2)] 71)
      refine (containsfunc_any 52 Tryd.call52 #[.pointer (some ⟨wr.heap.size, 0, none⟩)] (fun n => lower n == lower x.1) ns _ _ _ ((HU.out.move fun j hj _ => HB.out.block j hj.2).below hb1) (by omega) (fun w1 hw1 n hn => ?_)).mono ?_
      · have hc1 : w1.cell? ⟨wr.heap.size, 0, none⟩ = some (.string (ofL x.1)) := (hw1.cell (p := ⟨wr.heap.size, 0, none⟩) (by simp)).trans (by rw [blk_cell g1]; rfl)
        have := valuesC_any (ofL n) (ofL x.1) wr.heap.size w1 (by rw [ofL_size]; exact HYL.out n hn) (by rw [ofL_size]; exact hxl) hc1
        rw [toL_ofL, toL_ofL] at this
        exact this
      rintro e w2 ⟨rfl, hb2⟩
      rw [show (ns.any fun n => lower n == lower x.1) = sameIn x.1 ns from rfl]
      have hbw := hb1.trans (hb2.mono (by simp))
      have g2 := (hb2.block wr.heap.size (by simp)).trans g1
      have e1 := blk_cell g2 1
      simp at e1
      have hl2 := blk_lt g2
      have HBW := Lib.hid (HB.out.trans (hbw.mono hbs)); have HO2 := Lib.hid (HO.out.below hbw)
      have hs2 := hbw.size
      clear hb1 hb2 g1 g2 hbw
      cases hp : sameIn x.1 ns with
      | false =>
        rw [hp] at HSN
        have HV : Hid (values (l.take (k + 1)) ns = z) := Lib.hid (by rw [HSN.out, HZ.out]; simp)
        clear hp HSN
        go_wp2_with fail
        go_roundw
        case rel => exact ⟨k + 1, by omega, by go_num, by rw [HV.out]; exact HO2.out, HBW.out⟩
        case measure => simp [intOf]; omega
      | true =>
        rw [hp] at HSN
        have HV : Hid (values (l.take (k + 1)) ns = z ++ [x.2]) := Lib.hid (by rw [HSN.out, HZ.out]; simp)
        clear hp HSN
        go_wp2_with (with_reducible (first | refine stop_append ?_))
        refine ⟨wp_append1_flat (B := w.heap.size) (y := x.2) Tryd.underlying46 infoS rfl HO2.out rfl rfl rfl (by omega) (by decide) (by omega) ?_⟩
        intro v3 w3 ho3 hb3 _ _
        have HO3 := Lib.hid ho3; have HB3 := Lib.hid (HBW.out.trans hb3)
        clear ho3 hb3
        go_wp2_with fail
        go_roundw
        case rel => exact ⟨k + 1, by omega, by go_num, by rw [HV.out]; exact HO3.out, HB3.out⟩
        case measure => simp [intOf]; omega
    · obtain rfl : k = l.length := by omega
      rw [List.take_length] at HZ
      go_wp2_with fail
      go_ret
      exact hR _ _ ⟨_, rfl, by rw [HZ.out]; exact HO.out, HB.out⟩

end Go.Proofs.YtaihjnicondifaaDoor.Asc
