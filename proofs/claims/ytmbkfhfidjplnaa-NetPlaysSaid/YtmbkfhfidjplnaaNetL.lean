/-
  Contract: slices.DeleteFunc of packets by Clear's own test; Net.Clear.
  Lengths within the rows' own reach.
-/
import Derived.Test.YtmbkfhfidjplnaaNetK
namespace Go.Proofs.Ytmbkfhfidjplnaa.Nt
open Go Go.RowKit Go.Proofs.Ytmbkfhfidjplnaa.Pb

theorem putAt_drop (cs : List Value) (o : Nat) (vs : List Value) (m : Nat) (h : o + vs.length ≤ m) (ho : o ≤ cs.length) : (putAt cs o vs).drop m = cs.drop m := by
  unfold putAt
  rw [List.drop_append, List.drop_of_length_le (by simp; omega), List.nil_append, List.drop_drop]
  congr 1
  simp
  omega

/-- a packet's cells in a row -/
theorem row_pkt {w : World} {F : Nat → Prop} {l : List Pk} {cells : List Value} {cs : List Value} (hel : Elems (pkt.rep w F) l cells) (ht : cs.take (l.length * 3) = cells) (m : Nat) (x : Pk) (hx : l[m]? = some x) :
    ∃ B c', pkt.rep w F x [.int .i64 x.1, .int .i64 x.2.1, .slice B x.2.2.length c'] ∧ (∀ j u, [Value.int .i64 x.1, .int .i64 x.2.1, .slice B x.2.2.length c'][j]? = some u → cs[m * 3 + j]? = some u) := by
  have hm := (List.getElem?_eq_some_iff.1 hx).1
  obtain ⟨us, c, bs, hcells, ha, hr, _, _⟩ := hel.get (fun _ _ h => pkt.len h) m hm
  have hx' : l[m] = x := (List.getElem?_eq_some_iff.1 hx).2
  rw [hx'] at hr
  have hr' := hr
  obtain ⟨c1, c2, rfl, rfl, d1, d2, rfl, rfl, u, rfl, hu⟩ := hr
  obtain ⟨B, c', rfl, hc'⟩ : ∃ B c', u = .slice B x.2.2.length c' ∧ x.2.2.length ≤ c' := by obtain ⟨B, c', e, h, _⟩ := hu; exact ⟨B, c', e, h⟩
  refine ⟨B, c', hr', fun j y hj => ?_⟩
  have hjl := (List.getElem?_eq_some_iff.1 hj).1
  have h3 : us.length = m * 3 := ha
  have h4 : (cs.take (l.length * 3))[m * 3 + j]? = some y := by
    rw [ht, hcells, List.append_assoc, List.getElem?_append_right (by omega), h3, Nat.add_sub_cancel_left]
    show ([Value.int .i64 x.1, .int .i64 x.2.1, .slice B x.2.2.length c'] ++ bs)[j]? = some y
    rw [List.getElem?_append_left hjl]; exact hj
  rw [List.getElem?_take] at h4
  split at h4
  · exact h4
  · cases h4

theorem filter_take (P : Pk → Bool) (l : List Pk) (m : Nat) (x : Pk) (hx : l[m]? = some x) : (l.take (m + 1)).filter P = (l.take m).filter P ++ (if P x = true then [x] else []) := by
  rw [List.take_add_one, hx, List.filter_append]
  simp [List.filter_cons]

set_option maxHeartbeats 3000000 in
theorem deletef_any (n : Int) (cb : Nat) (l : List Pk) (v : Value) (F : Nat → Prop) (w : World) (hc : w.cell? ⟨cb, 0, none⟩ = some (.int .i64 n)) (hcF : ¬ F cb) (ho : Own pkt 33 w F l v) (hl : l.length ≤ 1000000) :
    Calls Try.prog 29 #[v, .func (.func 30) #[] #[.pointer (some ⟨cb, 0, none⟩)]] w fun e w' => ∃ u, e = .returned u ∧ Own pkt 33 w' F (l.filter (fun x => !ofNode n x)) u ∧ Keep (fun i => v.ownBlock = some i) w w' ∧ u.ownBlock = v.ownBlock := by
  refine calls_gen fun R hR => ?_
  have hcb := World.block_lt_of_cell? w ⟨cb, 0, none⟩ hc
  simp only at hcb
  obtain ⟨A, cap, hvs, hcap⟩ := ho.slice
  have HVS := Lib.hid hvs
  clear hvs
  go_enter Try.func29, Try.ntmps29
  go_wp2_with fail
  refine (index_any n cb l v F w hc ho.view hl).mono ?_
  rintro e w1 ⟨r, rfl, hr, hb1⟩
  rcases hr with ⟨rfl, hall⟩ | ⟨k, x0, rfl, hx0, hp0, hall⟩
  · go_wp2_with fail
    go_ret
    have hf : l.filter (fun x => !ofNode n x) = l := List.filter_eq_self.2 fun a ha => by rw [hall a ha]; rfl
    exact hR _ _ ⟨_, rfl, by rw [hf]; exact ho.below hb1, Keep.old hb1, rfl⟩
  · have hkl : k < l.length := (List.getElem?_eq_some_iff.1 hx0).1
    have hne : l ≠ [] := by rintro rfl; simp at hkl
    have hc1 : w1.cell? ⟨cb, 0, none⟩ = some (.int .i64 n) := (hb1.cell (p := ⟨cb, 0, none⟩) hcb).trans hc
    have hcb1 := World.block_lt_of_cell? w1 ⟨cb, 0, none⟩ hc1
    simp only at hcb1
    obtain ⟨g, cap, cur, cells, rfl, hFg, hg, hcp, hm, hs, hcl, ht, hel⟩ := (ho.below hb1).block hne
    obtain ⟨i0, hi0, hz0, hz1, hz2⟩ := info_parts infoP
    have hsz : pkt.sz = 3 := rfl
    rw [hsz] at hs hcl ht
    have hgw : g < w.heap.size := by
      obtain ⟨_, _, h2, _⟩ := ho.bnd
      exact (h2 g rfl).2
    have hcg : cb ≠ g := fun e => hcF (e ▸ hFg)
    have hnk : (((k : Nat) : Int) == -1) = false := by rw [beq_eq_false_iff_ne]; omega
    have hcapm : cap ≤ 9223372036854775807 := by unfold maxLen at hm; omega
    have HEL := Lib.hid hel; have HT := Lib.hid ht; have HS := Lib.hid hs; have HX0 := Lib.hid hx0; have HP0 := Lib.hid hp0; have HA := Lib.hid hall; have HG := Lib.hid hg; have HB1 := Lib.hid hb1; have HCL := Lib.hid hcl
    have HO := Lib.hid ho
    have hm' : Hid (cap ≤ maxLen) := Lib.hid hm
    clear hel ht hs hx0 hp0 hall hg hb1 hcl ho hcap hz0 hz1 hz2 hm
    go_wp2_with fail
    go_loopw [5, 6, 7] (fun i j _ wr => ∃ (q m : Nat) (cur' : Array Value), i = .int .i64 q ∧ j = .int .i64 m ∧ m ≤ l.length ∧ q < m ∧ ((l.take m).filter (fun x => !ofNode n x)).length = q ∧ wr.heap[g]? = some (.cells cur' 33 (0, 0)) ∧ cur'.size = cap * 3 ∧ Elems (pkt.rep w1 (fun k => F k ∧ k ≠ g)) ((l.take m).filter (fun x => !ofNode n x)) (cur'.toList.take (q * 3)) ∧ cur'.toList.drop (m * 3) = cur.toList.drop (m * 3) ∧ Keep (fun i => i = g) w1 wr) (fun _ j _ _ => l.length - (intOf j).toNat)
    case atStart =>
      obtain ⟨ca, cx, cy, hcc, hca, _, hel1, _⟩ := HEL.out.get (fun _ _ h => pkt.len h) k hkl
      have hf1 : (l.take k).filter (fun x => !ofNode n x) = l.take k := List.filter_eq_self.2 fun a ha => by rw [HA.out a ha]; rfl
      have hf : (l.take (k + 1)).filter (fun x => !ofNode n x) = l.take k := by
        rw [filter_take _ l k x0 HX0.out, HP0.out, hf1]; simp
      have hca' : ca.length = k * 3 := hca
      have hck : cur.toList.take (k * 3) = ca := by
        have := congrArg (List.take (k * 3)) HT.out
        rw [List.take_take, Nat.min_eq_left (by omega), hcc, List.append_assoc, List.take_append_of_le_length (l₁ := ca) (by omega), List.take_of_length_le (l := ca) (by omega)] at this
        exact this
      exact ⟨k, k + 1, cur, rfl, by go_num, by omega, by omega, by rw [hf, List.length_take]; omega, HG.out, HS.out, by rw [hf, hck]; exact hel1, rfl, Keep.refl _ _⟩
    case round =>
      obtain ⟨q, m, cur', rfl, rfl, hml, hqm, hfl, hg', hs', hel', hdr', hk'⟩ := hrel
      have HFL := Lib.hid hfl; have HG' := Lib.hid hg'; have HS' := Lib.hid hs'; have HEL' := Lib.hid hel'; have HD := Lib.hid hdr'; have HK := Lib.hid hk'
      have hgr := blk_lt hg'
      have hks := hk'.size
      have hlt' : cur'.toList.length = cap * 3 := by rw [Array.length_toList]; exact hs'
      clear hfl hg' hs' hel' hdr' hk'
      by_cases hlt : m < l.length
      · obtain ⟨x, hx⟩ : ∃ x, l[m]? = some x := ⟨_, List.getElem?_eq_getElem hlt⟩
        obtain ⟨B, c', hrep, hcs⟩ := row_pkt HEL.out HT.out m x hx
        have hcs' : ∀ j u, [Value.int .i64 x.1, .int .i64 x.2.1, .slice B x.2.2.length c'][j]? = some u → wr.cell? ⟨g, m * 3 + j, none⟩ = some u := fun j u hu => by
          rw [blk_cell HG'.out]
          have h1 := hcs j u hu
          have h2 : (cur'.toList.drop (m * 3))[j]? = some u := by rw [HD.out, List.getElem?_drop]; exact h1
          rw [List.getElem?_drop] at h2
          simpa using h2
        have d0 := hcs' 0 _ rfl
        have d1 := hcs' 1 _ rfl
        have d2 := hcs' 2 _ rfl
        rw [Nat.add_zero] at d0
        have HX := Lib.hid hx; have HR := Lib.hid hrep
        have hfr := Lib.hid (fun i => blk_free HG'.out i)
        clear hx hrep hcs hcs'
        have hwc := HK.out.cell hc1 (fun e => hcg e)
        have hbn := below_new wr (.cells #[.int .i64 x.1, .int .i64 x.2.1, .slice B x.2.2.length c'] 33)
        have hcv : (wr.alloc (.cells #[.int .i64 x.1, .int .i64 x.2.1, .slice B x.2.2.length c'] 33)).cell? ⟨cb, 0, none⟩ = some (.int .i64 n) := (hbn.cell (p := ⟨cb, 0, none⟩) (by show cb < _; omega)).trans hwc
        have HCV := Lib.hid hcv; have HBN := Lib.hid hbn
        have hgc : g ≤ cap + g := by omega
        clear hbn hcv hwc
        go_wp2_with fail
        refine (clr_any n cb x _ ⟨B, c', rfl⟩ _ HCV.out).mono ?_
        rintro e w5 ⟨rfl, hb5⟩
        have hg5 := (hb5.block g (by simp; omega)).trans (blk_past HG'.out)
        have hv5 := (hb5.block wr.heap.size (by simp)).trans (blk_new wr _)
        have HB5 := Lib.hid (HBN.out.trans (hb5.mono (by simp)))
        clear hb5
        cases hp : ofNode n x with
        | true =>
          have HP := Lib.hid hp; have HG5 := Lib.hid hg5; clear hp hg5 hv5
          go_wp2_with fail
          go_roundw
          case rel =>
            have hff := filter_take (fun x => !ofNode n x) l m x HX.out
            rw [HP.out] at hff
            simp only [Bool.not_true, Bool.false_eq_true, if_false, List.append_nil] at hff
            refine ⟨q, m + 1, cur', rfl, by go_num, by omega, by omega, by rw [hff]; exact HFL.out, HG5.out, HS'.out, by rw [hff]; exact HEL'.out, ?_, HK.out.trans (Keep.old (F := fun i => i = g) HB5.out) (fun _ _ h => h)⟩
            have := congrArg (List.drop 3) HD.out
            rw [List.drop_drop, List.drop_drop] at this
            rw [show (m + 1) * 3 = m * 3 + 3 by omega]; exact this
          case measure => simp [intOf]; omega
        | false =>
          have HP := Lib.hid hp; have HG5 := Lib.hid hg5
          have v50 := blk_cell hv5 0
          obtain ⟨y0, e50⟩ : ∃ y, w5.cell? ⟨g, q * 3 + 0, none⟩ = some y := ⟨_, (blk_cell hg5 (q * 3 + 0)).trans (Array.getElem?_eq_getElem (by have := HS'.out; omega))⟩
          have f50 := blk_free hg5 (q * 3 + 0)
          have v51 := blk_cell hv5 1
          obtain ⟨y1, e51⟩ : ∃ y, w5.cell? ⟨g, q * 3 + 1, none⟩ = some y := ⟨_, (blk_cell hg5 (q * 3 + 1)).trans (Array.getElem?_eq_getElem (by have := HS'.out; omega))⟩
          have f51 := blk_free hg5 (q * 3 + 1)
          have v52 := blk_cell hv5 2
          obtain ⟨y2, e52⟩ : ∃ y, w5.cell? ⟨g, q * 3 + 2, none⟩ = some y := ⟨_, (blk_cell hg5 (q * 3 + 2)).trans (Array.getElem?_eq_getElem (by have := HS'.out; omega))⟩
          have f52 := blk_free hg5 (q * 3 + 2)
          rw [Nat.add_zero] at e50 f50
          simp at v50 v51 v52
          have hg5l := blk_lt hg5
          have hw5l := blk_lt hv5
          have hgne : g ≠ wr.heap.size := by omega
          clear hp hg5 hv5
          go_wp2_with fail
          obtain ⟨cur2, hg6, hcur2⟩ := heap_setCells (t := 33) (fz := (0, 0)) [.int .i64 x.1, .int .i64 x.2.1, .slice B x.2.2.length c'] (q * 3) w5 cur' HG5.out (by simp; have := HS'.out; omega)
          have hk6 := keep_setCells g [.int .i64 x.1, .int .i64 x.2.1, .slice B x.2.2.length c'] (q * 3) w5
          have HG6 := Lib.hid hg6; have HK6 := Lib.hid hk6; have HC2 := Lib.hid hcur2
          clear hg6 hk6 hcur2
          go_roundw
          case rel =>
            have hff := filter_take (fun x => !ofNode n x) l m x HX.out
            rw [HP.out] at hff
            simp only [Bool.not_false, if_true] at hff
            have hs2 : cur2.size = cap * 3 := by
              have := congrArg List.length HC2.out
              rw [putAt_len _ _ _ (by rw [hlt']; simp; omega), Array.length_toList] at this
              omega
            refine ⟨q + 1, m + 1, cur2, by go_num, by go_num, by omega, by omega, by rw [hff, List.length_append, HFL.out]; rfl, HG6.out, hs2, ?_, ?_, (HK.out.trans (Keep.old (F := fun i => i = g) HB5.out) (fun _ _ h => h)).trans HK6.out (fun _ _ h => h)⟩
            · rw [hff, HC2.out, show (q + 1) * 3 = q * 3 + [Value.int .i64 x.1, .int .i64 x.2.1, .slice B x.2.2.length c'].length by simp; omega, putAt_upto _ _ _ (by omega)]
              exact HEL'.out.snoc HR.out
            · rw [HC2.out, putAt_drop _ _ _ _ (by simp only [List.length_cons, List.length_nil]; omega) (by omega)]
              have := congrArg (List.drop 3) HD.out
              rw [List.drop_drop, List.drop_drop] at this
              rw [show (m + 1) * 3 = m * 3 + 3 by omega]; exact this
          case measure => simp [intOf]; omega
      · obtain rfl : m = l.length := by omega
        rw [List.take_length] at HFL HEL'
        have hq1 : (0 : Int) ≤ (q : Int) := by omega
        have hq2 : (q : Int) ≤ (l.length : Int) := by omega
        have hq3 : (l.length : Int) ≤ cap := by omega
        have hq4 : (q : Int) ≤ cap := by omega
        have hq5 : ¬ cap = q := by omega
        go_wp2_with (with_reducible (first | refine stop_clear ?_))
        have hzv : ∀ w, (zeroValue 33).run Try.prog w = .ok (.agg #[.int .i64 0, .int .i64 0, .slice none 0 0]) w := fun w => by
          obtain ⟨i0, hi0, hz0, hz1, hz2⟩ := info_parts infoP
          simp [zeroValue, typeInfo, hi0, hz0]
        refine ⟨wp_clear (o := q * 3) Try.underlying25 hzv ?_ HG'.out (n := l.length - q) (c := cap - q) ?_ rfl ?_⟩
        · intro u hu; simp [Value.cells] at hu; rcases hu with rfl | rfl | rfl <;> rfl
        · show q * 3 + (l.length - q) * 3 ≤ _; have := HS'.out; omega
        intro vs hvs
        have hvl : vs.length = (l.length - q) * 3 := hvs
        obtain ⟨cur2, hg2, hcur2⟩ := heap_setCells (t := 33) (fz := (0, 0)) vs (q * 3) wr cur' HG'.out (by have := HS'.out; omega)
        have hk6 := keep_setCells g vs (q * 3) wr
        obtain ⟨w6, hw6⟩ : ∃ w6, wr.setCells g (q * 3) vs = w6 := ⟨_, rfl⟩
        rw [hw6] at hg2 hk6 ⊢
        have HG2 := Lib.hid hg2; have HK6 := Lib.hid hk6; have HC2 := Lib.hid hcur2
        clear hw6 hg2 hk6 hcur2
        go_wp2_with fail
        go_ret
        have hkk := HK.out.trans HK6.out (fun _ _ h => h)
        refine hR _ _ ⟨_, rfl, ?_, ?_, rfl⟩
        · show Own _ _ _ _ _ (.slice (some ⟨g, 0, none⟩) q cap)
          rw [← HFL.out]
          refine Own.shut (w := w1) hFg HG2.out (by rw [HFL.out]; omega) hm'.out ?_ ?_ HEL'.out hkk
          · show cur2.size = cap * 3
            rw [← Array.length_toList, HC2.out, putAt_len _ _ _ (by omega)]; exact hlt'
          · rw [HFL.out]
            show cur2.toList.take (q * 3) = _
            rw [HC2.out, putAt_take _ _ _ _ (Nat.le_refl _) (by omega)]
        · exact ((Keep.old (F := fun i => i = g) HB1.out).trans hkk (fun _ _ h => h)).mono fun i _ h => by rw [h]; rfl

/-- what Clear leaves -/
def clears (l : List Pk) (n : Int) : List Pk := l.filter (fun x => !ofNode n x)
theorem clears_len (l : List Pk) (n : Int) : (clears l n).length ≤ l.length := List.length_filter_le _ _

set_option maxHeartbeats 1000000 in
theorem clear_any (t : TypeId) (w : World) (F : Nat → Prop) (b : Nat) (l : List Pk) (h : NetAt t w F b l) (n : Int) (hl : l.length ≤ 1000000) :
    Calls Try.prog 15 #[.pointer (some ⟨b, 0, none⟩), .int .i64 n] w fun e w' => e = .returned (.int .i64 ((l.length : Int) - ((clears l n).length : Int))) ∧ Keep F w w' ∧ NetAt t w' F b (clears l n) := by
  refine calls_gen fun R hR => ?_
  have hw1 := below_new w (.cells #[.int .i64 n] 3)
  have hcc : (w.alloc (.cells #[.int .i64 n] 3)).cell? ⟨w.heap.size, 0, none⟩ = some (.int .i64 n) := by rw [blk_cell (blk_new w _)]; rfl
  have hH := h.bnd.new (.cells #[.int .i64 n] 3)
  have HH := Lib.hid hH; have H := Lib.hid h
  obtain ⟨v, hbk, hFb, ho⟩ := hH
  have hlt := blk_lt hbk
  have hbw : b < w.heap.size := hFb.2
  have h0 := blk_cell hbk 0
  have f0 := blk_free hbk 0
  simp at h0
  have HW := Lib.hid hw1; have HBK := Lib.hid hbk; have HO := Lib.hid ho
  clear hw1 hbk ho h
  go_enter Try.func15, Try.ntmps15
  go_wp2_with fail
  refine (len_any t _ _ b l HH.out).mono ?_
  rintro e w' ⟨rfl, rfl⟩
  go_wp2_with fail
  refine (deletef_any n w.heap.size l v (fun k => (F k ∧ k < w.heap.size) ∧ k ≠ b) _ hcc (fun h => by have := h.1.2; omega) HO.out hl).mono ?_
  rintro e w3 ⟨u, rfl, hu, hk, hub⟩
  have hbne : ¬ v.ownBlock = some b := fun e => by
    obtain ⟨_, _, h2, _⟩ := HO.out
    exact (h2 b e).2 rfl
  have hkF : ∀ i, v.ownBlock = some i → F i ∧ i < w.heap.size := fun i e => by
    obtain ⟨_, _, h2, _⟩ := HO.out
    exact (h2 i e).1
  have hb3 := Keep.blk (F := fun i => v.ownBlock = some i) hk HBK.out hbne
  have c3 := blk_cell hb3 0
  have f3 := blk_free hb3 0
  have hlt3 := blk_lt hb3
  simp at c3
  have hcl := clears_len l n
  obtain ⟨z, hz⟩ : ∃ z, clears l n = z := ⟨_, rfl⟩
  have hu' : Own pkt 33 w3 (fun k => (F k ∧ k < w.heap.size) ∧ k ≠ b) z u := by rw [← hz]; exact hu
  rw [hz] at hcl
  have HZ := Lib.hid hz
  obtain ⟨UA, uc, rfl, huc⟩ := hu'.slice
  have hkb : Keep (fun i => i = b) w3 (w3.setCell ⟨b, 0, none⟩ (.slice UA z.length uc)) := (Keep.refl (fun i => i = b) w3).set (p := ⟨b, 0, none⟩) rfl _
  have hb4 := blk_set hb3 0 (.slice UA z.length uc)
  have hn4 : NetAt t (w3.setCell ⟨b, 0, none⟩ (.slice UA z.length uc)) (fun k => F k ∧ k < w.heap.size) b z := ⟨_, by simpa using hb4, hFb, hu'.keep hkb (fun k h e => h.2 e)⟩
  have hk4 : Keep F w (w3.setCell ⟨b, 0, none⟩ (.slice UA z.length uc)) := ((Keep.old (F := F) HW.out).trans (G := fun i => v.ownBlock = some i) hk (fun i _ h => (hkF i h).1)).trans hkb (fun i _ h => by rw [h]; exact hFb.1)
  have HN4 := Lib.hid hn4; have HK4 := Lib.hid hk4
  clear hu hu' hz hk hb3 hkb hb4 hn4 hk4 hbne hkF
  go_wp2_with fail
  refine (len_any t _ _ b z HN4.out).mono ?_
  rintro e w' ⟨rfl, rfl⟩
  go_wp2_with fail
  go_ret
  exact hR _ _ ⟨ret_int (by rw [HZ.out]), HK4.out, by rw [HZ.out]; exact HN4.out.mono fun k h => h.1⟩
theorem clear_nil (w : World) (n : Int) :
    Calls Try.prog 15 #[.pointer none, .int .i64 n] w fun e w' => e = .returned (.int .i64 0) ∧ Below w.heap.size w w' := by
  refine calls_gen fun R hR => ?_
  go_enter Try.func15, Try.ntmps15
  go_wp2_with fail
  go_ret
  exact hR _ _ ⟨rfl, below_new _ _⟩
end Go.Proofs.Ytmbkfhfidjplnaa.Nt
