/-
  Contracts: slices.Delete of packets (one goes), row.Deliver, Net.Deliver, Drop.
  Lengths within the rows' own reach.
-/
import Derived.Test.YtmbkfhfidjplnaaNetB
namespace Go.Proofs.Ytmbkfhfidjplnaa.Nt
open Go Go.RowKit Go.Proofs.Ytmbkfhfidjplnaa.Pb

theorem infoP : (Try.prog.info? 33).map (fun i => (i.zero, i.size, i.bytes)) = some (some (.agg #[.int .i64 0, .int .i64 0, .slice none 0 0]), 3, 40) := by kernel_rfl

set_option maxHeartbeats 1600000 in
/-- slices.Delete(s, k, k+1) -/
theorem delete_any (l : List Pk) (v : Value) (F : Nat → Prop) (w : World) (k : Nat) (hk : k < l.length) (ho : Own pkt 33 w F l v) :
    Calls Try.prog 34 #[v, .int .i64 k, .int .i64 ((k : Int) + 1)] w fun e w' => ∃ u, e = .returned u ∧ Own pkt 33 w' F (l.take k ++ l.drop (k + 1)) u ∧ Keep (fun i => v.ownBlock = some i) w w' ∧ u.ownBlock = v.ownBlock ∧ w'.heap.size = w.heap.size := by
  refine calls_gen fun R hR => ?_
  have hne : l ≠ [] := by rintro rfl; simp at hk
  obtain ⟨g, cap, cur, cells, rfl, hFg, hg, hc, hm, hs, hcl, ht, hel⟩ := ho.block hne
  obtain ⟨i0, hi0, hz0, hz1, hz2⟩ := info_parts infoP
  obtain ⟨ca, cx, cb, rfl, hca, _, hel1, hel2⟩ := hel.get (fun _ _ h => pkt.len h) k hk
  have hsz : pkt.sz = 3 := rfl
  rw [hsz] at hs hca hcl ht
  have hcb : cb.length = (l.length - (k + 1)) * 3 := by
    have := hel2.len fun _ _ h => pkt.len h
    rw [this, List.length_drop]; rfl
  have hcx : cx.length = 3 := by simp only [List.length_append] at hcl; omega
  -- where the tail begins
  obtain ⟨A, hA, hnews⟩ : ∃ A : Addr, (if cap = k + 1 then some (⟨g, 0, none⟩ : Addr) else some ⟨g, (k + 1) * 3, none⟩) = some A ∧ Hid (∀ j u, cb[j]? = some u → w.drew.cell? (A.add j) = some u) := by
    by_cases h : cap = k + 1
    · refine ⟨⟨g, 0, none⟩, by simp [h], fun j u hu => ?_⟩
      have h0 : cb = [] := List.eq_nil_of_length_eq_zero (by rw [hcb]; omega)
      rw [h0] at hu; simp at hu
    · refine ⟨⟨g, (k + 1) * 3, none⟩, by simp [h], fun j u hu => ?_⟩
      show w.cell? _ = _
      rw [add_off, blk_cell hg]
      have hj := (List.getElem?_eq_some_iff.1 hu).1
      have h4 : (cur.toList.take (l.length * 3))[(k + 1) * 3 + j]? = some u := by
        rw [ht, List.getElem?_append_right (by rw [List.length_append]; omega), List.length_append]
        rw [show (k + 1) * 3 + j - (ca.length + cx.length) = j by omega]; exact hu
      rw [List.getElem?_take] at h4
      split at h4
      · simpa using h4
      · cases h4
  have s1 : Hid (cb.length = (l.length - (k + 1)) * 3) := Lib.hid hcb
  have s2 : Hid (∀ u ∈ cb, u.oneCell' = true) := Lib.hid (hel2.mem1 fun _ _ h => pkt.one h)
  have s3 : Hid (∀ j, j < cb.length → (w.drew.cell? ⟨g, 0 + k * 3 + j, none⟩).isSome = true ∧ w.drew.frozen? ⟨g, 0 + k * 3 + j, none⟩ = false) := Lib.hid fun j hj => by
    refine ⟨?_, blk_free hg _⟩
    show (w.cell? _).isSome = true
    rw [blk_cell hg, Array.getElem?_eq_getElem (by omega)]; rfl
  have hkc : k ≤ cap := by omega
  have hwr : IntKind.i64.wrap ((k : Int) + 1) = (k : Int) + 1 := by rw [IntKind.wrap_i64]; unfold maxLen at hm; omega
  have hp0 : (0 : Int) ≤ (k : Int) + 1 := by omega
  have hp1 : (k : Int) + 1 ≤ (l.length : Int) := by omega
  have hp2 : ((k : Int) + 1).toNat = k + 1 := by omega
  have hp3 : (k : Int) ≤ (k : Int) + 1 := by omega
  have hp4 : ((k : Int) == (k : Int) + 1) = false := by rw [beq_eq_false_iff_ne]; omega
  have hcapm : cap ≤ 9223372036854775807 := by unfold maxLen at hm; omega
  go_enter Try.func34, Try.ntmps34
  go_wp2_with fail
  go_region_law (refine step_append_room rfl (.tmp 22) (.tmp 25) 25 rfl 33 i0 3 Try.underlying25 hi0 hz1 g 0 k cap (by simp [Act.eval, Act.put]) A (l.length - (k + 1)) (cap - (k + 1)) cb (by simp [Act.eval, Act.put]) s1.out hnews.out s2.out (by omega) s3.out ?_)
  have hle : k * 3 + cb.length ≤ cur.toList.length := by
    have h5 : cur.toList.length = cur.size := Array.length_toList
    omega
  obtain ⟨cur1, hg1, hcur1⟩ := heap_setCells (t := 33) (fz := (0, 0)) cb (k * 3) w.drew cur hg (by rw [← Array.length_toList]; exact hle)
  have hcs1 : cur1.size = cap * 3 := by
    have := congrArg List.length hcur1
    rw [putAt_len _ _ _ hle, Array.length_toList, Array.length_toList] at this
    omega
  obtain ⟨W1, hW1⟩ : ∃ W1, w.drew.setCells g (k * 3) cb = W1 := ⟨_, rfl⟩
  have HW1 := Lib.hid hW1
  rw [hW1] at hg1 ⊢
  have hlen2 : k + (l.length - (k + 1)) = l.length - 1 := by omega
  rw [hlen2]
  have hq1 : (0 : Int) ≤ ((l.length - 1 : Nat) : Int) := by omega
  have hq2 : ((l.length - 1 : Nat) : Int) ≤ (l.length : Int) := by omega
  have hq3 : (l.length : Int) ≤ cap := by omega
  clear hW1 hnews hA s3
  go_wp2_with (with_reducible (first | refine stop_clear ?_))
  have hzv : ∀ w, (zeroValue 33).run Try.prog w = .ok (.agg #[.int .i64 0, .int .i64 0, .slice none 0 0]) w := fun w => by simp [zeroValue, typeInfo, hi0, hz0]
  refine ⟨wp_clear (o := (l.length - 1) * 3) Try.underlying25 hzv ?_ hg1 (n := l.length - (l.length - 1)) (c := cap - (l.length - 1)) ?_ rfl ?_⟩
  · intro u hu; simp [Value.cells] at hu; rcases hu with rfl | rfl | rfl <;> rfl
  · show (l.length - 1) * 3 + (l.length - (l.length - 1)) * 3 ≤ _; omega
  intro vs hvs
  obtain ⟨W2, hW2⟩ : ∃ W2, W1.setCells g ((l.length - 1) * 3) vs = W2 := ⟨_, rfl⟩
  have hvl : vs.length = 3 := by rw [hvs]; show (l.length - (l.length - 1)) * 3 = 3; omega
  have hle2 : (l.length - 1) * 3 + vs.length ≤ cur1.size := by omega
  obtain ⟨cur2, hg2, hcur2⟩ := heap_setCells (t := 33) (fz := (0, 0)) vs ((l.length - 1) * 3) W1 cur1 hg1 hle2
  have hkeep : Keep (fun i => i = g) w W2 := by
    rw [← hW2, ← HW1.out]
    have k1 : Keep (fun i => i = g) w w.drew := (Keep.refl _ _).drew
    exact (k1.trans (keep_setCells g cb (k * 3) _) (fun _ _ h => h)).trans (keep_setCells g vs _ _) (fun _ _ h => h)
  have hsize : W2.heap.size = w.heap.size := by rw [← hW2, ← HW1.out, size_setCells, size_setCells]; rfl
  rw [hW2] at hg2 ⊢
  go_wp2_with fail
  go_ret
  refine hR _ _ ⟨_, rfl, ?_, ?_, rfl, hsize⟩
  · have hzl : (l.take k ++ l.drop (k + 1)).length = l.length - 1 := by simp; omega
    show Own _ _ _ _ _ (.slice (some ⟨g, 0, none⟩) (l.length - 1) cap)
    rw [← hzl]
    have hc1l : cur1.toList.length = cap * 3 := by rw [Array.length_toList]; exact hcs1
    have hcl' : cur.toList.length = cap * 3 := by rw [Array.length_toList]; exact hs
    refine Own.shut (w := w) (cells := ca ++ cb) hFg hg2 (by omega) hm ?_ ?_ (hel1.app hel2) hkeep
    · show cur2.size = cap * 3
      rw [← Array.length_toList, hcur2, putAt_len _ _ _ (by omega)]; exact hc1l
    · rw [hzl, hcur2]
      show List.take ((l.length - 1) * 3) _ = _
      rw [putAt_take _ _ _ _ (Nat.le_refl _) (by omega), hcur1, show (l.length - 1) * 3 = k * 3 + cb.length by omega, putAt_upto _ _ _ (by omega)]
      congr 1
      have := congrArg (List.take (k * 3)) ht
      rw [List.take_take, Nat.min_eq_left (by omega), List.append_assoc, List.take_append_of_le_length (l₁ := ca) (by omega), List.take_of_length_le (l := ca) (by omega)] at this
      exact this
  · exact hkeep.mono fun i _ h => by rw [h]; rfl

/-- what is left of a row -/
def gone (l : List Pk) (k : Int) : List Pk := if k < 0 then l else l.take k.toNat ++ l.drop (k.toNat + 1)
theorem gone_none (l : List Pk) (k : Int) (h : peek l k = none) : gone l k = l := by
  unfold gone peek at *
  split
  · rfl
  · rename_i h0
    rw [if_neg h0] at h
    have := List.getElem?_eq_none_iff.1 h
    rw [List.take_of_length_le this, List.drop_of_length_le (by omega), List.append_nil]

/-- a net turns: its blocks, and no other -/
structure Turned (t : TypeId) (w w' : World) (F : Nat → Prop) (b : Nat) (l : List Pk) : Prop where
  net : NetAt t w' (fun k => F k ∨ (w.heap.size ≤ k ∧ k < w'.heap.size)) b l
  keep : Keep F w w'

set_option maxHeartbeats 1000000 in
theorem deliver_row (t : TypeId) (w : World) (F : Nat → Prop) (b : Nat) (l : List Pk) (h : NetAt t w F b l) (k : Int) (hl : l.length ≤ 1000000) (hb : ∀ x ∈ l, x.2.2.length ≤ 140737488351232) :
    Calls Try.prog 27 #[.pointer (some ⟨b, 0, none⟩), .int .i64 k] w fun e w' => ∃ v ok, e = .returned (.tuple #[v, .bool ok]) ∧ Told w w' (peek l k) v ok ∧ Keep F w w' ∧ NetAt t w' F b (gone l k) := by
  refine calls_gen fun R hR => ?_
  have H := Lib.hid h.bnd
  obtain ⟨v, hbk, _, ho⟩ := h
  have hlt := blk_lt hbk
  have HB := Lib.hid hb
  clear ho hbk hb
  have hnew : (w.alloc (Obj.cells #[Value.int IntKind.i64 0, Value.int IntKind.i64 0, Value.slice none 0 0] 33)).heap.size = w.heap.size + 1 := by simp
  have HN := Lib.hid hnew
  have HBL := Lib.hid (show Below w.heap.size w (w.alloc (Obj.cells #[Value.int IntKind.i64 0, Value.int IntKind.i64 0, Value.slice none 0 0] 33)) from (Below.refl _ _).alloc (Nat.le_refl _) _)
  clear hnew
  go_enter Try.func27, Try.ntmps27
  go_upto_region 1 with fail
  go_cut [6, 7] (fun p q wc => ∃ c x u ok, p = .pointer (some ⟨c, 0, none⟩) ∧ q = .bool ok ∧ w.heap.size < c ∧ ok = (peek l k).isSome ∧ x = (peek l k).getD (0, 0, []) ∧ Below w.heap.size w wc ∧
    wc.heap[w.heap.size]? = some (.cells #[Value.int IntKind.i64 0, Value.int IntKind.i64 0, Value.slice none 0 0] 33 (0, 0)) ∧
    wc.heap[c]? = some (.cells #[Value.int IntKind.i64 x.1, Value.int IntKind.i64 x.2.1, u] 33 (0, 0)) ∧ Own Rp.u8 5 wc (fun k => w.heap.size < k ∧ k ≠ c) x.2.2 u)
  case first =>
    go_wp2_with fail
    refine (peek_row t _ _ b l (H.out.new _) k HB.out).mono ?_
    rintro e w3 ⟨u, ok, rfl, ⟨hok, u2, rfl, hu⟩, hb⟩
    rw [HN.out] at hu hb
    obtain ⟨A', c2, rfl, hc2'⟩ := hu.slice
    obtain ⟨x, hx⟩ : ∃ x, (peek l k).getD (0, 0, []) = x := ⟨_, rfl⟩
    rw [hx] at hu hc2' ⊢
    have HX := Lib.hid hx; have HU := Lib.hid hu; have HB3 := Lib.hid hb; have HOK := Lib.hid hok
    clear hx hu hb hok
    unfold pv
    go_wp2_with fail
    go_meet
    have hs3 := HB3.out.size
    rw [HN.out] at hs3
    obtain ⟨W, hW⟩ : ∃ W, w3.alloc (.cells #[.int .i64 x.1, .int .i64 x.2.1, .slice A' x.2.2.length c2] 33) = W := ⟨_, rfl⟩
    have g1 := blk_new w3 (.cells #[.int .i64 x.1, .int .i64 x.2.1, .slice A' x.2.2.length c2] 33)
    have g2 := below_new w3 (.cells #[.int .i64 x.1, .int .i64 x.2.1, .slice A' x.2.2.length c2] 33)
    rw [hW] at g1 g2 ⊢
    clear hW
    have g3 := (HB3.out.block w.heap.size (by omega)).trans (blk_new w _)
    refine ⟨w3.heap.size, x, .slice A' x.2.2.length c2, ok, rfl, rfl, hs3, HOK.out, HX.out.symm, ?_, ?_, g1, ?_⟩
    · exact (HBL.out.trans (HB3.out.mono (by omega))).trans (g2.mono (by omega))
    · exact (g2.block _ (by omega)).trans g3
    · exact (HU.out.bnd.below g2).mono fun k hk => ⟨by omega, by omega⟩
  case rest =>
    obtain ⟨c, x, u, ok, rfl, rfl, hwc, hok, hx, hb, g0, g1, hu⟩ := hcut
    obtain ⟨A', c2, rfl, hc2⟩ := hu.slice
    have HU := Lib.hid hu; have HBB := Lib.hid hb
    have hclt := blk_lt g1
    cases hp : peek l k with
    | none =>
      rw [hp] at hok hx
      have hG := Lib.hid (gone_none l k hp)
      have HP := Lib.hid hp
      have HX := Lib.hid hx
      cases hok
      have c10 := blk_cell g1 0
      have c20 := blk_cell g0 0
      have f20 := blk_free g0 0
      have c11 := blk_cell g1 1
      have c21 := blk_cell g0 1
      have f21 := blk_free g0 1
      have c12 := blk_cell g1 2
      have c22 := blk_cell g0 2
      have f22 := blk_free g0 2
      simp at c10 c11 c12 c20 c21 c22
      clear hp hu hb g0 g1 hx
      rw [show (none : Option Pk).isSome = false from rfl]
      go_wp2_with fail
      have hk := keep_put3 wc w.heap.size (.int .i64 x.1) (.int .i64 x.2.1) (.slice A' x.2.2.length c2)
      refine bodyPost_ret (v := .tuple #[pv x (Value.slice A' x.2.2.length c2), .bool false]) (by simp [results, Try.results27, go_sem, c20, c21, c22, pv]) rfl ?_
      have hbl := HBB.out.trans (hk.below (B := w.heap.size) HBB.out.size (fun i hi h => by omega))
      refine hR _ _ ⟨_, _, rfl, ⟨by rw [HP.out]; rfl, _, by rw [HP.out]; rw [HX.out], by rw [HP.out, ← HX.out]; exact (HU.out.keep hk (fun k h => by omega)).mono fun k h => by omega⟩, Keep.old hbl, by rw [hG.out]; exact (H.out.below hbl).mono fun k hk => hk.1⟩
    | some y =>
      rw [hp] at hok hx
      have HP := Lib.hid hp
      have HX := Lib.hid hx
      cases hok
      have hk0 : 0 ≤ k := by
        by_cases h : k < 0
        · unfold peek at hp; rw [if_pos h] at hp; cases hp
        · omega
      obtain ⟨n, rfl⟩ := Int.eq_ofNat_of_zero_le hk0
      have hpe : l[n]? = some y := by unfold peek at hp; rw [if_neg (by omega)] at hp; exact hp
      have hn : n < l.length := (List.getElem?_eq_some_iff.1 hpe).1
      obtain ⟨v, hbk, hFb, ho⟩ := H.out.below hb
      have hne : l ≠ [] := by rintro rfl; simp at hn
      obtain ⟨g, cap, cur, cells, rfl, hFg, -⟩ := ho.block hne
      have h0 := blk_cell hbk 0
      simp at h0
      have HBK := Lib.hid hbk; have HO := Lib.hid ho; have G0 := Lib.hid g0; have G1 := Lib.hid g1
      have hw1 : IntKind.i64.wrap ((n : Int) + 1) = (n : Int) + 1 := by rw [IntKind.wrap_i64]; omega
      clear hp hu hb g0 g1 hx hpe hbk ho
      rw [show (some y : Option Pk).isSome = true from rfl]
      go_wp2_with fail
      refine (delete_any l _ _ wc n hn HO.out).mono ?_
      rintro e w4 ⟨u, rfl, ho4, hk4, hu4, hs4⟩
      obtain ⟨z, hz⟩ : ∃ z, l.take n ++ l.drop (n + 1) = z := ⟨_, rfl⟩
      rw [hz] at ho4
      have HZ := Lib.hid hz; clear hz
      have hk4' : Keep (fun i => i = g) wc w4 := hk4.mono fun i _ h => by simp [Value.ownBlock] at h; exact h.symm
      have hb4 := hk4'.blk HBK.out (by have := hFg.2; omega)
      have g04 := hk4'.blk G0.out (by have := hFg.1.2; omega)
      have g14 := hk4'.blk G1.out (by have := hFg.1.2; omega)
      have hu' := HU.out.keep hk4' (fun k h => by have := hFg.1.2; omega)
      have HB4 := Lib.hid hb4; have HU4 := Lib.hid hu'; have HO4 := Lib.hid ho4; have HK4 := Lib.hid hk4'
      obtain ⟨A5, c5, rfl, hc5⟩ := ho4.slice
      have c10 := blk_cell g14 0
      have c20 := blk_cell g04 0
      have f20 := blk_free g04 0
      have c11 := blk_cell g14 1
      have c21 := blk_cell g04 1
      have f21 := blk_free g04 1
      have c12 := blk_cell g14 2
      have c22 := blk_cell g04 2
      have f22 := blk_free g04 2
      have cb0 := blk_cell hb4 0
      have fb0 := blk_free hb4 0
      simp at c10 c11 c12 c20 c21 c22 cb0
      have hcb : c ≠ b := by omega
      have hwb : w.heap.size ≠ b := by omega
      clear g04 g14 hb4 ho4 hk4' hk4 hu' HO HBK HU G0 G1 h0
      go_wp2_with fail
      obtain ⟨S, hS⟩ : ∃ S, Value.slice A5 z.length c5 = S := ⟨_, rfl⟩
      have HS := Lib.hid hS
      rw [hS] at HO4
      have k0 : Keep (fun k => k = b) w4 w4 := Keep.refl _ _
      have kS : Keep (fun k => k = b) w4 (w4.setCell ⟨b, 0, none⟩ S) := k0.set (p := ⟨b, 0, none⟩) rfl S
      have k3 := keep_put3 (w4.setCell ⟨b, 0, none⟩ S) w.heap.size (.int .i64 x.1) (.int .i64 x.2.1) (.slice A' x.2.2.length c2)
      have hblk : (w4.setCell ⟨b, 0, none⟩ S).heap[b]? = some (.cells #[S] t (0, 0)) := by have := blk_set HB4.out 0 S; simpa using this
      have hblk' := k3.blk hblk (by omega)
      have kt : Keep (fun k => k = b ∨ k = w.heap.size) w4 _ := (kS.mono (G := fun k => k = b ∨ k = w.heap.size) (fun _ _ h => .inl h)).trans k3 (fun _ _ h => .inr h)
      have kF := (((Keep.old (F := F) HBB.out).trans HK4.out (fun i _ h => h ▸ hFg.1.1)).trans kS (fun i _ h => h ▸ hFb.1)).trans k3 (fun i hi h => by omega)
      refine bodyPost_ret (v := .tuple #[pv x (Value.slice A' x.2.2.length c2), .bool true]) (by simp [results, Try.results27, go_sem, c20, c21, c22, pv]) rfl ?_
      have hgn : gone l n = l.take n ++ l.drop (n + 1) := by unfold gone; rw [if_neg (by omega)]; rfl
      rw [hS]
      refine hR _ _ ⟨_, _, rfl, ⟨by rw [HP.out]; rfl, _, by rw [HP.out]; rw [HX.out], by rw [HP.out, ← HX.out]; exact (HU4.out.keep kt (fun k h => by omega)).mono fun k h => by omega⟩, kF, ?_⟩
      rw [hgn, HZ.out]
      exact ⟨S, hblk', hFb.1, (HO4.out.keep kt (fun k h => by omega)).mono fun k h => ⟨h.1.1, h.2⟩⟩
end Go.Proofs.Ytmbkfhfidjplnaa.Nt
