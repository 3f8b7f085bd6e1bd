/-
  The law parapetlaw5.NetOwn answers true.
  Lengths within the row's own reach.
-/
import Derived.Test.YtmbkfhfidjplnaaNetM
import Derived.Deep.RegionWith
namespace Go.Proofs.Ytmbkfhfidjplnaa.Nt
open Go Go.RowKit Go.Proofs.Ytmbkfhfidjplnaa.Pb

theorem send_nil (w : World) (G : Nat → Prop) (ps : List Pk) (v : Value) (hv : View pkt w G ps v) (hp : ps.length ≤ 1000000) :
    Calls Try.prog 9 #[.pointer none, v] w fun e w' => e = .returned (.int .i64 0) ∧ Below w.heap.size w w' := by
  obtain ⟨A, c, rfl, hc, hget⟩ := view_get hv
  refine calls_gen fun R hR => ?_
  have HG := Lib.hid hget
  clear hget hv
  go_enter Try.func9, Try.ntmps9
  go_wp2_with fail
  go_loopw [4, 6, 9] (fun n _ i wr => ∃ k : Nat, k ≤ ps.length ∧ i = .int .i64 k ∧ n = .int .i64 0 ∧ Below w.heap.size w wr) (fun _ _ i _ => ps.length - (intOf i).toNat)
  case atStart => exact ⟨0, Nat.zero_le _, rfl, rfl, Below.refl _ _⟩
  case round =>
    obtain ⟨k, hk, rfl, rfl, hb⟩ := hrel
    have hbs := hb.size
    have HB := Lib.hid hb
    clear hb
    by_cases hlt : k < ps.length
    · obtain ⟨g, off, rfl, hg, hGg, hx⟩ := HG.out k hlt
      obtain ⟨x, he⟩ : ∃ x, ps[k]? = some x := ⟨_, List.getElem?_eq_getElem hlt⟩
      obtain ⟨B, c', hv, hc0, hc1, hc2⟩ := hx x he
      have d0 := (HB.out.cell (p := ⟨g, off + k * 3, none⟩) hg).trans hc0
      have d1 := (HB.out.cell (p := ⟨g, off + k * 3 + 1, none⟩) hg).trans hc1
      have d2 := (HB.out.cell (p := ⟨g, off + k * 3 + 2, none⟩) hg).trans hc2
      have hgr : g < wr.heap.size := by omega
      clear hx he hv hc0 hc1 hc2
      go_wp2_with fail
      go_roundw
      case rel => exact ⟨k + 1, by omega, by go_num, rfl, HB.out.trans ((below_new wr _).mono hbs)⟩
      case measure => simp [intOf]; omega
    · obtain rfl : k = ps.length := by omega
      go_wp2_with fail
      go_ret
      exact hR _ _ ⟨rfl, HB.out⟩

/-- a row of bytes that is written -/
def Bys (w : World) (g : Nat) (n : Nat) : Prop := ∃ cur : Array Value, w.heap[g]? = some (.cells cur 5 (0, 0)) ∧ ∀ i, i < n → ∃ y : Int, cur[i]? = some (.int .u8 y)
theorem Own.bys {w : World} {F : Nat → Prop} {l : List UInt8} {g n c : Nat} (h : Own Rp.u8 5 w F l (.slice (some ⟨g, 0, none⟩) n c)) : Bys w g l.length := by
  obtain ⟨cells, ⟨hl, h1⟩, _, he⟩ := h
  obtain rfl := he.to_map
  rcases h1 with ⟨e, _⟩ | ⟨g', cap, cur, e, _, hg, hc, _, _, ht⟩
  · cases e
  · cases e
    refine ⟨cur, hg, fun i hi => ⟨(l[i].toNat : Int), ?_⟩⟩
    have h4 : (cur.toList.take (l.length * Rp.u8.sz))[i]? = some (u8v l[i]) := by rw [ht]; simp [hi]
    rw [List.getElem?_take] at h4
    split at h4
    · simpa [u8v] using h4
    · cases h4
theorem Bys.at {w : World} {g n i : Nat} (h : Bys w g n) (hi : i < n) : ∃ y : Int, w.cell? ⟨g, i, none⟩ = some (.int .u8 y) ∧ w.frozen? ⟨g, i, none⟩ = false ∧ g < w.heap.size := by
  obtain ⟨cur, hg, hc⟩ := h
  obtain ⟨y, hy⟩ := hc i hi
  exact ⟨y, by rw [blk_cell hg, hy], blk_free hg i, blk_lt hg⟩
theorem Bys.set {w : World} {g n : Nat} (h : Bys w g n) (i : Nat) (y : Int) : Bys (w.setCell ⟨g, i, none⟩ (.int .u8 y)) g n := by
  obtain ⟨cur, hg, hc⟩ := h
  refine ⟨_, blk_set hg i _, fun j hj => ?_⟩
  obtain ⟨z, hz⟩ := hc j hj
  by_cases e : i = j
  · subst e
    have hlt := (Array.getElem?_eq_some_iff.1 hz).1
    exact ⟨y, by rw [Array.getElem?_setIfInBounds_self]; simp [hlt]⟩
  · exact ⟨z, by rw [Array.getElem?_setIfInBounds_ne e]; exact hz⟩
theorem Bys.drew {w : World} {g n m : Nat} (h : Bys w g n) : Bys (w.drewN m) g n := h

set_option maxRecDepth 20000 in
set_option maxHeartbeats 3000000 in
theorem own_walk (b : List UInt8) (v : Value) (F : Nat → Prop) (w : World) (hv : View Rp.u8 w F b v) (hl : b.length ≤ 140737488351232) :
    Calls Try.prog 7 #[v] w fun e w' => e = .returned (.bool true) ∧ Below w.heap.size w w' := by
  refine calls_gen fun R hR => ?_
  have HV := Lib.hid hv.bnd
  obtain ⟨A, c, rfl, hc, -⟩ := hv.open1
  clear hv
  go_enter Try.func7, Try.ntmps7
  refine Or.elim (Classical.em (500 < b.length)) (fun c1 => ?_) (fun c1 => ?_)
  · go_wp2_with fail
    refine (awake_any w).mono ?_
    rintro e w1 ⟨rfl, hb1⟩
    go_wp2_with fail
    go_ret
    exact hR _ _ ⟨rfl, hb1⟩
  go_wp2_with fail
  refine (new_any w).mono ?_
  rintro e w1 ⟨rfl, hb1, hn1, hs1⟩
  have HB1 := Lib.hid hb1; have HN1 := Lib.hid hn1; have HS1 := Lib.hid hs1
  have HV1 := Lib.hid (HV.out.below hb1)
  clear hb1 hn1 hs1
  go_wp2_with (with_reducible (first | refine stop_append ?_))
  refine ⟨wp_clone Try.underlying31 info5 rfl (show 0 < 1 by decide) rfl rfl HV1.out (by unfold maxLen; omega) (by omega) ?_⟩
  rintro v2 w2 ho2 hb2 ⟨gc, cc, rfl, hcc, hgc⟩
  have ho2' : Own Rp.u8 5 w2 (fun k => k = gc) b (.slice (some ⟨gc, 0, none⟩) b.length cc) := ho2.flat fun k hk => by simp [Value.ownBlock] at hk; exact hk.symm
  have hgcl : gc < w2.heap.size := by obtain ⟨_, _, h2, _⟩ := ho2'.bnd; exact (h2 gc rfl).2
  have hs2 := hb2.size
  have HO2 := Lib.hid ho2'; have HN2 := Lib.hid (HN1.out.below hb2); have HB2 := Lib.hid (HB1.out.trans (hb2.mono (by have := HS1.out; omega)))
  have HV2 := Lib.hid (HV1.out.below hb2)
  clear ho2 hb2 ho2' HN1 HV1
  go_wp2_with fail
  -- the packet is sent
  have hb3 := below_new w2 (.cells #[.int .i64 3, .int .i64 4, .slice (some ⟨gc, 0, none⟩) b.length cc] 33)
  have g3 := blk_new w2 (.cells #[.int .i64 3, .int .i64 4, .slice (some ⟨gc, 0, none⟩) b.length cc] 33)
  have hs3 : (w2.alloc (.cells #[.int .i64 3, .int .i64 4, .slice (some ⟨gc, 0, none⟩) b.length cc] 33)).heap.size = w2.heap.size + 1 := by simp
  have hv3 := view_one (x := (3, 4, b)) (G := fun k => k = gc ∨ k = w2.heap.size) g3 ((HO2.out.below hb3).view.mono fun k h => .inl h) (.inr rfl)
  refine (send_any _ _ (fun k => k = w.heap.size) (fun k => k = gc ∨ k = w2.heap.size) w.heap.size [] [(3, 4, b)] _ (HN2.out.below hb3) hv3 (fun k h1 h2 => by have := HS1.out; have h1' : k = w.heap.size := h1; rcases h2 with h2 | h2 <;> omega) (by simp) (by simp) (by simp; omega)).mono ?_
  rintro e w4 ⟨rfl, hk4, hn4⟩
  have hse : sends [] [((3, 4, b) : Pk)] = [(3, 4, b)] := rfl
  rw [hse] at hn4 ⊢
  have hs4 := hk4.size
  rw [hs3] at hs4
  have HB4 := Lib.hid ((HB2.out.trans (hb3.mono (by have := HS1.out; omega))).trans (hk4.below (B := w.heap.size) (by have := HS1.out; omega) fun i hi e => by have e' : i = w.heap.size := e; omega))
  have HO4 := Lib.hid ((HO2.out.below hb3).keep hk4 fun k h e => by have h' : k = gc := h; have e' : k = w.heap.size := e; have := HS1.out; omega)
  have HM4 : Hid (MineX 29 w.heap.size (fun k => k = gc) w4 w.heap.size [(3, 4, b)]) := Lib.hid ⟨_, hn4, fun k h => by
    rw [hs3] at h
    rcases h with h | h
    · have h' : k = w.heap.size := h
      have := HS1.out
      exact ⟨by omega, by omega, fun e => by have e' : k = gc := e; omega⟩
    · have := HS1.out
      exact ⟨by omega, h.2, fun e => by have e' : k = gc := e; omega⟩⟩
  have HV4 := Lib.hid (HV.out.move (w' := w4) fun k hk _ => HB4.out.block k hk.2)
  clear hb3 g3 hs3 hv3 hk4 hn4 hse
  go_wp2_with fail
  refine (bytes_any b b _ _ _ _ w4 HO4.out.view HV4.out (by omega) (by omega)).mono ?_
  rintro e w5 ⟨rfl, hb5⟩
  rw [show (b == b) = true by simp]
  have HB5 := Lib.hid (HB4.out.trans (hb5.mono HB4.out.size)); have HM5 := Lib.hid (HM4.out.below hb5); have HY5 := Lib.hid (Own.bys (HO4.out.below hb5))
  have hs5 := hb5.size
  clear hb5 HM4 HO4
  go_wp2_with fail
  go_loopw [5] (fun i wr => ∃ q : Nat, q ≤ b.length ∧ i = .int .i64 q ∧ Keep (fun k => k = gc) w5 wr ∧ Bys wr gc b.length) (fun i _ => b.length - (intOf i).toNat)
  case atStart => exact ⟨0, Nat.zero_le _, rfl, Keep.refl _ _, HY5.out⟩
  case round =>
    obtain ⟨q, hq, rfl, hkq, hy⟩ := hrel
    have HKQ := Lib.hid hkq; have HY := Lib.hid hy
    clear hkq hy
    by_cases hlq : q < b.length
    · obtain ⟨y, hc0, hf0, hgl⟩ := HY.out.at hlq
      go_wp2_with fail
      go_roundw
      case rel => exact ⟨q + 1, by omega, by go_num, HKQ.out.set rfl _, HY.out.set q _⟩
      case measure => simp [intOf]; omega
    · obtain rfl : q = b.length := by omega
      clear HY5
      -- it is told as it was handed in
      have hsq := HKQ.out.size
      have HBQ := Lib.hid (HB5.out.trans (HKQ.out.below (B := w.heap.size) HB5.out.size fun i hi e => by have e' : i = gc := e; have := HS1.out; omega))
      have HMQ := Lib.hid (HM5.out.move HKQ.out).mine
      clear HKQ HB5 HM5 HY
      have hpk : Hid (peek [(3, 4, b)] 0 = some ((3, 4, b) : Pk)) := rfl
      have hgn : Hid (gone [((3, 4, b) : Pk)] 0 = []) := rfl
      go_wp2_with fail
      obtain ⟨F0, f1, f2⟩ := HMQ.out
      refine (peek_any _ wr F0 _ _ f1 0 (by simp; omega)).mono ?_
      rintro e w6 ⟨u, ok, rfl, ⟨hok, u2, rfl, hu⟩, hb6⟩
      rw [hpk.out] at hok hu ⊢
      simp only [Option.getD_some, Option.isSome_some] at hok hu ⊢
      subst hok
      obtain ⟨A', c2, rfl, hc2'⟩ := hu.slice
      have hs6 := hb6.size
      have hb7 := below_new w6 (.cells #[.int .i64 3, .int .i64 4, .slice A' b.length c2] 33)
      have HB7 := Lib.hid ((HBQ.out.trans (hb6.mono HBQ.out.size)).trans (hb7.mono (by have := HBQ.out.size; omega)))
      have HU7 := Lib.hid (hu.below hb7)
      have G7 := Lib.hid (blk_new w6 (.cells #[.int .i64 3, .int .i64 4, .slice A' b.length c2] 33))
      have HF7 : Hid (NetAt 29 (w6.alloc (.cells #[.int .i64 3, .int .i64 4, .slice A' b.length c2] 33)) F0 w.heap.size [(3, 4, b)]) := Lib.hid ((f1.below hb6).below hb7)
      have HF2 := Lib.hid f2
      have HUB : Hid (∀ k, (Value.slice A' b.length c2).ownBlock = some k → wr.heap.size ≤ k ∧ k < w6.heap.size) := Lib.hid fun k hk => by
        obtain ⟨_, _, h2, _⟩ := hu.bnd
        exact h2 k hk
      have HVQ := Lib.hid (HV.out.move (w' := w6.alloc (.cells #[.int .i64 3, .int .i64 4, .slice A' b.length c2] 33)) fun k hk _ => HB7.out.block k hk.2)
      clear f1 f2 hu hb6 hb7 HMQ
      unfold pv
      go_wp2_with fail
      refine (bytes_any b b _ _ _ _ _ HU7.out.view HVQ.out (by omega) (by omega)).mono ?_
      rintro e w8 ⟨rfl, hb8⟩
      rw [show (b == b) = true by simp]
      have hs8 := hb8.size
      have g8 := (hb8.block w6.heap.size (by simp)).trans G7.out
      have p2 := blk_cell g8 2
      simp at p2
      have hpl := blk_lt g8
      have HB8 := Lib.hid (HB7.out.trans (hb8.mono HB7.out.size)); have HU8 := Lib.hid (HU7.out.below hb8); have HF8 := Lib.hid (HF7.out.below hb8)
      have HPW : Hid (w.heap.size ≤ w6.heap.size) := Lib.hid (by have := HBQ.out.size; omega)
      clear hb8 g8 HU7 HF7 HVQ G7
      obtain ⟨pb, hpb⟩ : ∃ pb, w6.heap.size = pb := ⟨_, rfl⟩
      have HPB := Lib.hid hpb
      clear hpb
      go_wp2_with fail
      rw [HPB.out] at p2 hpl ⊢
      obtain ⟨N0, hN0⟩ : ∃ N0, wr.heap.size = N0 := ⟨_, rfl⟩
      rw [hN0] at HF2 HUB
      have HN0 : Hid (w.heap.size ≤ N0 ∧ N0 ≤ w8.heap.size) := Lib.hid (by have := HBQ.out.size; have := HPB.out; omega)
      clear hN0
      go_loopw [8] (fun i wr2 => ∃ q : Nat, q ≤ b.length ∧ i = .int .i64 q ∧ Keep (fun k => N0 ≤ k ∧ k ≠ pb) w8 wr2 ∧ (0 < b.length → ∃ g, A' = some ⟨g, 0, none⟩ ∧ g ≠ pb ∧ Bys wr2 g b.length)) (fun i _ => b.length - (intOf i).toNat)
      case atStart =>
        refine ⟨0, Nat.zero_le _, rfl, Keep.refl _ _, fun h0 => ?_⟩
        obtain ⟨g, cp, hcells, _, _, _⟩ := HU8.out.row (by rintro rfl; simp at h0)
        cases hcells
        exact ⟨g, rfl, fun e => by have := (HUB.out g rfl).2; have := HPB.out; omega, Own.bys HU8.out⟩
      case round =>
        obtain ⟨q, hq, rfl, hkq, hy⟩ := hrel
        have p3 := hkq.cell p2 (fun h => h.2 rfl)
        have hs9 := hkq.size
        have hpl3 : pb < wr.heap.size := by omega
        have HKQ := Lib.hid hkq; have HY := Lib.hid hy
        clear hkq hy
        by_cases hlq : q < b.length
        · obtain ⟨g, rfl, hgp, hy⟩ := HY.out (by omega)
          obtain ⟨y, hc0, hf0, hgl⟩ := hy.at hlq
          have hgw := (HUB.out g rfl).1
          have HY2 := Lib.hid hy
          clear hy
          have hq1 : (q : Int) < (b.length : Int) := by omega
          go_wp2_with fail
          go_region
          all_goals
            go_wp2_with fail
            go_roundw
            case rel => exact ⟨q + 1, by omega, by go_num, (HKQ.out.drewN 1).set ⟨hgw, hgp⟩ _, fun _ => ⟨g, rfl, hgp, (HY2.out.drew (m := 1)).set q _⟩⟩
            case measure => simp [intOf]; omega
        · obtain rfl : q = b.length := by omega
          have HB9 := Lib.hid (HB8.out.trans (HKQ.out.below (B := w.heap.size) (by have := HN0.out; omega) fun i hi e => by have := HN0.out; have := e.1; omega))
          have HF9 := Lib.hid (HF8.out.keep HKQ.out fun k hk e => by have := (HF2.out k hk).2; have := e.1; omega)
          clear HKQ HB8 HF8 HU8 HY
          go_wp2_with fail
          refine (deliver_any _ wr F0 _ _ HF9.out 0 (by simp) (by simp; omega)).mono ?_
          rintro e w10 ⟨u, ok, rfl, ⟨hok, u2, rfl, hu⟩, hk10, hn10⟩
          rw [hpk.out] at hok hu ⊢
          simp only [Option.getD_some, Option.isSome_some] at hok hu ⊢
          subst hok
          obtain ⟨A9, c9, rfl, hc9⟩ := hu.slice
          have hs10 := hk10.size
          have hb11 := below_new w10 (.cells #[.int .i64 3, .int .i64 4, .slice A9 b.length c9] 33)
          have HB11 := Lib.hid ((HB9.out.trans (hk10.below (B := w.heap.size) HB9.out.size fun i hi e => by have := (HF2.out i e).1; omega)).trans (hb11.mono (by have := HB9.out.size; omega)))
          have HU11 := Lib.hid (hu.below hb11).view
          have G11 := Lib.hid (blk_new w10 (.cells #[.int .i64 3, .int .i64 4, .slice A9 b.length c9] 33))
          have HV11 := Lib.hid (HV.out.move (w' := w10.alloc (.cells #[.int .i64 3, .int .i64 4, .slice A9 b.length c9] 33)) fun k hk _ => HB11.out.block k hk.2)
          clear hu hk10 hn10 hb11 HF9
          unfold pv
          go_wp2_with fail
          refine (bytes_any b b _ _ _ _ _ HU11.out HV11.out (by omega) (by omega)).mono ?_
          rintro e w12 ⟨rfl, hb12⟩
          rw [show (b == b) = true by simp]
          have g12 := (hb12.block w10.heap.size (by simp)).trans G11.out
          have hs12 := hb12.size
          have hl12 := blk_lt g12
          have q0 := blk_cell g12 0
          have q1 := blk_cell g12 1
          have q2 := blk_cell g12 2
          simp at q0 q1 q2
          have HB12 := Lib.hid (HB11.out.trans (hb12.mono HB11.out.size)); have HU12 := Lib.hid (HU11.out.below hb12)
          clear hb12 g12 HV11 HU11 G11
          go_wp2_with fail
          have hb13 := below_new w12 (.cells #[.int .i64 3, .int .i64 4, .slice A9 b.length c9] 33)
          have g13 := blk_new w12 (.cells #[.int .i64 3, .int .i64 4, .slice A9 b.length c9] 33)
          refine (send_nil _ (fun _ => True) [(3, 4, b)] _ (view_one (x := (3, 4, b)) g13 ((HU12.out.below hb13).mono fun _ _ => trivial) trivial) (by simp)).mono ?_
          rintro e w14 ⟨rfl, hb14⟩
          have HB14 := Lib.hid ((HB12.out.trans (hb13.mono HB12.out.size)).trans (hb14.mono (by have := HB12.out.size; have := hb13.size; omega)))
          clear hb13 g13 hb14
          go_wp2_with fail
          refine (len_nil w14).mono ?_
          rintro e w' ⟨rfl, rfl⟩
          go_wp2_with fail
          refine (drop_nil w14 0).mono ?_
          rintro e w' ⟨rfl, rfl⟩
          go_wp2_with fail
          refine (twice_nil w14 0).mono ?_
          rintro e w15 ⟨rfl, hb15⟩
          have HB15 := Lib.hid (HB14.out.trans (hb15.mono HB14.out.size))
          clear hb15
          go_wp2_with fail
          refine (clear_nil w15 1).mono ?_
          rintro e w16 ⟨rfl, hb16⟩
          have HB16 := Lib.hid (HB15.out.trans (hb16.mono HB15.out.size))
          clear hb16
          go_wp2_with fail
          refine (awake_any w16).mono ?_
          rintro e w17 ⟨rfl, hb17⟩
          go_wp2_with fail
          go_ret
          exact hR _ _ ⟨rfl, HB16.out.trans (hb17.mono HB16.out.size)⟩
theorem own_row {w : World} (b : List UInt8) (v : Value) (F : Nat → Prop) (hb : b.length * Try.prog.bytesOf 5 ≤ 140737488351232 ∧ ∀ x ∈ b, True) (hv : View Rp.u8 w F b v) :
    Calls Try.prog 7 #[v] w fun e w' => e = .returned (.bool true) ∧ Below w.heap.size w w' :=
  own_walk b v F w hv (by have := hb.1; rw [show Try.prog.bytesOf 5 = 1 by kernel_rfl] at this; omega)
end Go.Proofs.Ytmbkfhfidjplnaa.Nt
