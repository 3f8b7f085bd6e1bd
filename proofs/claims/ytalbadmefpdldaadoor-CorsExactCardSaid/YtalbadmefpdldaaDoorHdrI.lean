/-
  Contracts of the reference's Sorted and Unsafe.
  Lengths within the rows' own reach.
-/
import Derived.Test.YtalbadmefpdldaaDoorHdrH
import Derived.Laws.Cover1
namespace Go.Proofs.YtalbadmefpdldaaDoor.Asc
open Go Go.RowKit Go.Sort Go.Proofs.YtalbadmefpdldaaDoor.Pb

def enS (x : Tx) : Value := .string (ofL x)
/-- a row while room is made at a place -/
def shiftAt (r : List Tx) (p : Nat) : List Tx := (r ++ [[]]).take (p + 1) ++ r.drop p
theorem shiftAt_len (r : List Tx) (p : Nat) (h : p ≤ r.length) : (shiftAt r p).length = r.length + 1 := by
  unfold shiftAt; simp; omega
theorem shiftAt_end (r : List Tx) : shiftAt r r.length = r ++ [[]] := by
  unfold shiftAt; rw [List.drop_length, List.append_nil, List.take_of_length_le (by simp)]
theorem shiftAt_get (r : List Tx) (p j : Nat) (h : j < p) (hp : p ≤ r.length) : (shiftAt r p)[j]? = r[j]? := by
  unfold shiftAt
  rw [List.getElem?_append_left (by simp; omega), List.getElem?_take_of_lt (by omega), List.getElem?_append_left (by omega)]
theorem shiftAt_step (r : List Tx) (p : Nat) (h : 0 < p) (hp : p ≤ r.length) : (shiftAt r p).set p (r.getD (p - 1) []) = shiftAt r (p - 1) := by
  unfold shiftAt
  have e1 : ((r ++ [[]]).take (p + 1)) = (r ++ [[]]).take p ++ [(r ++ [[]]).getD p []] := by
    rw [List.take_add_one]
    have hlt : p < (r ++ [[]]).length := by simp; omega
    rw [List.getElem?_eq_getElem hlt, List.getD_eq_getElem?_getD, List.getElem?_eq_getElem hlt]; rfl
  have e2 : r.drop (p - 1) = r.getD (p - 1) [] :: r.drop p := by
    have hlt : p - 1 < r.length := by omega
    rw [List.drop_eq_getElem_cons hlt, List.getD_eq_getElem?_getD, List.getElem?_eq_getElem hlt, show p - 1 + 1 = p by omega]; rfl
  rw [e1, show p - 1 + 1 = p by omega, e2, List.append_assoc, List.set_append_right _ _ (by simp; omega)]
  congr 1
  rw [List.length_take, Nat.min_eq_left (by simp; omega), Nat.sub_self]; rfl
theorem shiftAt_put (r : List Tx) (q : Nat) (x : Tx) (hq : q ≤ r.length) : (shiftAt r q).set q x = r.take q ++ x :: r.drop q := by
  unfold shiftAt
  have e1 : ((r ++ [[]]).take (q + 1)) = (r ++ [[]]).take q ++ [(r ++ [[]]).getD q []] := by
    rw [List.take_add_one]
    have hlt : q < (r ++ [[]]).length := by simp; omega
    rw [List.getElem?_eq_getElem hlt, List.getD_eq_getElem?_getD, List.getElem?_eq_getElem hlt]; rfl
  rw [e1, List.append_assoc, List.set_append_right _ _ (by simp; omega), List.take_append_of_le_length hq]
  congr 1
  rw [List.length_take, Nat.min_eq_left hq, Nat.sub_self]; rfl
theorem rise_put (r : List Tx) (q : Nat) (x : Tx) (hr : Rise r) (hq : q ≤ r.length) (h1 : ∀ y ∈ r.drop q, x < y) (h2 : 0 < q → ∃ y, r[q - 1]? = some y ∧ y < x) : Rise (r.take q ++ x :: r.drop q) := by
  have hs : Rise (r.take q ++ r.drop q) := by rw [List.take_append_drop]; exact hr
  rw [Rise, List.pairwise_append] at hs ⊢
  refine ⟨hs.1, List.pairwise_cons.2 ⟨h1, hs.2.1⟩, fun a ha b hb => ?_⟩
  have hax : a < x := by
    obtain ⟨j, hj, rfl⟩ := List.mem_iff_getElem.1 ha
    rw [List.length_take] at hj
    rw [List.getElem_take]
    obtain ⟨y, hy, hyx⟩ := h2 (by omega)
    obtain ⟨hlt, hy⟩ := List.getElem?_eq_some_iff.1 hy
    by_cases e : j = q - 1
    · subst e; rw [hy]; exact hyx
    · have := List.pairwise_iff_getElem.1 hr j (q - 1) (by omega) hlt (by omega)
      rw [hy] at this
      exact List.lt_trans this hyx
  rcases List.mem_cons.1 hb with rfl | hb
  · exact hax
  · exact List.lt_trans hax (h1 b hb)
theorem mem_put (r : List Tx) (q : Nat) (x y : Tx) : y ∈ r.take q ++ x :: r.drop q ↔ y ∈ r ∨ y = x := by
  conv => rhs; rw [← List.take_append_drop q r]
  simp only [List.mem_append, List.mem_cons]
  constructor
  · rintro (h | h | h)
    · exact .inl (.inl h)
    · exact .inr h
    · exact .inl (.inr h)
  · rintro ((h | h) | h)
    · exact .inl h
    · exact .inr (.inr h)
    · exact .inr (.inl h)
theorem mem_take_succ (l : List Tx) (k : Nat) (x y : Tx) (h : l[k]? = some x) : y ∈ l.take (k + 1) ↔ y ∈ l.take k ∨ y = x := by
  rw [List.take_add_one, h]; simp

set_option maxRecDepth 4000 in
set_option maxHeartbeats 4000000 in
theorem rsorted_any (l : List Tx) (v : Value) (F : Nat → Prop) (w : World) (hv : View Rp.str w F l v) (hl : l.length ≤ 1000000) :
    Calls Tryd.prog 55 #[v] w fun e w' => ∃ r, e = .returned r ∧ Own Rp.str 9 w' (w.heap.size ≤ ·) (sortU l) r ∧ Below w.heap.size w w' := by
  refine calls_gen fun R hR => ?_
  obtain ⟨A, c, rfl, hcl, hget⟩ := hv.open1
  have HG := Lib.hid hget
  clear hget hv
  go_enter Tryd.func55, Tryd.ntmps55
  go_wp2_with fail
  go_loopw [3, 4, 5, 6] (fun ov i _ _ wr => ∃ (k : Nat) (r : List Tx), k ≤ l.length ∧ i = .int .i64 k ∧ Own Rp.str 9 wr (w.heap.size ≤ ·) r ov ∧ Rise r ∧ (∀ y, y ∈ r ↔ y ∈ l.take k) ∧ r.length ≤ k ∧ Below w.heap.size w wr) (fun _ i _ _ _ => l.length - (intOf i).toNat)
  case atStart => exact ⟨0, [], Nat.zero_le _, rfl, Own.nil _ _ _ _, List.Pairwise.nil, by simp, Nat.le_refl _, Below.refl _ _⟩
  case round =>
    obtain ⟨k, r, hk, rfl, ho, hrise, hmem, hrl, hb⟩ := hrel
    obtain ⟨OA, oc, rfl, hoc⟩ := ho.slice
    have hbs := hb.size
    have HO := Lib.hid ho; have HRI := Lib.hid hrise; have HME := Lib.hid hmem; have HB := Lib.hid hb
    clear ho hrise hmem hb
    by_cases hlt : k < l.length
    · obtain ⟨g, off, rfl, hg, hx⟩ := HG.out k hlt
      obtain ⟨x, he⟩ : ∃ x, l[k]? = some x := ⟨_, List.getElem?_eq_getElem hlt⟩
      have d0 := (HB.out.cell (p := ⟨g, off + k, none⟩) hg).trans (hx k x he)
      have hgr : g < wr.heap.size := by omega
      have HMT := Lib.hid (fun y => mem_take_succ l k x y he)
      obtain ⟨X, hX⟩ : ∃ X, ofL x = X := ⟨_, rfl⟩
      have HX : Hid (X.toList = x) := Lib.hid (by rw [← hX, toList_ofL])
      have HXO := Lib.hid hX
      rw [hX] at d0
      have hcell : Hid (∀ j, j < r.length → ∃ og, OA = some ⟨og, 0, none⟩ ∧ og < wr.heap.size ∧ ∀ y, r[j]? = some y → wr.cell? ⟨og, j, none⟩ = some (.string (ofL y))) := Lib.hid fun j hj => by
        obtain ⟨og, cp, e, _, _, hrow⟩ := HO.out.row (by rintro rfl; simp at hj)
        cases e
        exact ⟨og, rfl, hrow.len, fun y hy => hrow.cell (i := j) (by rw [List.getElem?_map, hy]; rfl)⟩
      have HC := hcell
      have hk0 : (0 : Int) ≤ (k : Int) := by omega
      have hk1 : (k : Int) < (l.length : Int) := by omega
      clear hx he hX hcell
      go_wp2_with fail
      go_loopw [5] (fun i wr2 => ∃ (q m : Nat), q ≤ r.length ∧ i = .int .i64 q ∧ (∀ y ∈ r.drop q, x < y) ∧ wr2 = wr.drewN m) (fun i _ => (intOf i).toNat)
      case atStart => exact ⟨r.length, 0, Nat.le_refl _, rfl, by simp, rfl⟩
      case round =>
        obtain ⟨q, m, hq, rfl, hgt, rfl⟩ := hrel
        have HGT := Lib.hid hgt
        clear hgt
        have hcellq : Hid (0 < q → ∃ og y, OA = some ⟨og, 0, none⟩ ∧ og < wr.heap.size ∧ r[q - 1]? = some y ∧ wr.cell? ⟨og, q - 1, none⟩ = some (.string (ofL y))) := Lib.hid fun h => by
          obtain ⟨og, e, hl, h3⟩ := HC.out (q - 1) (by omega)
          obtain ⟨y, hy⟩ : ∃ y, r[q - 1]? = some y := ⟨_, List.getElem?_eq_getElem (by omega)⟩
          exact ⟨og, y, e, hl, hy, h3 y hy⟩
        by_cases hcont : 0 < q ∧ ∃ y, r[q - 1]? = some y ∧ x < y
        · obtain ⟨hq0, y, hy, hxy⟩ := hcont
          obtain ⟨og, y', rfl, hol, hy', hcy⟩ := hcellq.out hq0
          obtain rfl : y' = y := Option.some.inj (hy'.symm.trans hy)
          obtain ⟨Y, hY⟩ : ∃ Y, ofL y' = Y := ⟨_, rfl⟩
          have hYl : Y.toList = y' := by rw [← hY, toList_ofL]
          rw [hY] at hcy
          have b1 : Op.bytesLess Y.toList X.toList = false := by rw [hYl, HX.out, Go.Proofs.bytesLess_eq, decide_eq_false_iff_not]; exact List.lt_asymm hxy
          have b2 : (Y.toList == X.toList) = false := by rw [hYl, HX.out, beq_eq_false_iff_ne]; rintro rfl; exact List.lt_irrefl _ hxy
          have HN : Hid (∀ z ∈ r.drop (q - 1), x < z) := Lib.hid fun z hz => by
            have hlt : q - 1 < r.length := by omega
            rw [List.drop_eq_getElem_cons hlt, show q - 1 + 1 = q by omega] at hz
            rcases List.mem_cons.1 hz with rfl | hz
            · rw [List.getElem?_eq_getElem hlt] at hy; rw [Option.some.inj hy]; exact hxy
            · exact HGT.out z hz
          have hq1 : (0 : Int) ≤ (q : Int) - 1 := by omega
          have hq2 : (q : Int) - 1 < (r.length : Int) := by omega
          have hq3 : ((q : Int) - 1).toNat = q - 1 := by omega
          have hq4 : decide ((q : Int) > 0) = true := decide_eq_true (by omega)
          clear hy hy' hY hYl hxy hcellq
          go_wp2_with fail
          go_quiet (fail)
          go_wp2_with fail
          go_roundw
          case rel => exact ⟨q - 1, _, by omega, by congr 1; omega, HN.out, rfl⟩
          case measure => simp [intOf]; omega
        · have HE : Hid (0 < q → ∃ y, r[q - 1]? = some y ∧ ¬ x < y) := Lib.hid fun h => by
            obtain ⟨og, y, _, _, hy, _⟩ := hcellq.out h
            exact ⟨y, hy, fun hxy => hcont ⟨h, y, hy, hxy⟩⟩
          clear hcont
          go_upto_region 6 with fail
          go_cut [28] (fun b wx => b = .bool false ∧ ∃ m', wx = wr.drewN m')
          case first =>
            by_cases hq0 : 0 < q
            · obtain ⟨og, y, rfl, hol, hy, hcy⟩ := hcellq.out hq0
              obtain ⟨y', hy', hxy⟩ := HE.out hq0
              obtain rfl : y' = y := Option.some.inj (hy'.symm.trans hy)
              obtain ⟨Y, hY⟩ : ∃ Y, ofL y' = Y := ⟨_, rfl⟩
              have hYl : Y.toList = y' := by rw [← hY, toList_ofL]
              rw [hY] at hcy
              have b0 : (Op.bytesLess Y.toList X.toList || (Y.toList == X.toList)) = true := by
                rw [hYl, HX.out, Go.Proofs.bytesLess_eq, Bool.or_eq_true, decide_eq_true_iff, beq_iff_eq]
                rcases tx_total y' x with h | h | h
                · exact .inl h
                · exact .inr h
                · exact (hxy h).elim
              rw [Bool.or_eq_true] at b0
              have hq1 : (0 : Int) ≤ (q : Int) - 1 := by omega
              have hq2 : (q : Int) - 1 < (r.length : Int) := by omega
              have hq3 : ((q : Int) - 1).toNat = q - 1 := by omega
              have hq4 : decide ((q : Int) > 0) = true := decide_eq_true (by omega)
              clear hy hy' hY hYl hxy hcellq
              rcases b0 with b1 | b1
              all_goals
                go_wp2_with fail
                go_quiet (fail)
                go_wp2_with fail
                go_meet
                exact ⟨by simp, _, World.drewN_drewN _ _ _⟩
            · obtain rfl : q = 0 := by omega
              clear hcellq
              go_wp2_with fail
              go_quiet (fail)
              go_wp2_with fail
              go_meet
              exact ⟨by simp, _, World.drewN_drewN _ _ _⟩
          case rest =>
            obtain ⟨rfl, m', hwx⟩ := hcut
            rw [hwx]
            clear hwx wc
            go_upto_region 8 with fail
            go_cut [44] (fun b wx => b = .bool (decide (0 < q ∧ r[q - 1]? = some x)) ∧ ∃ m', wx = wr.drewN m')
            case first =>
              by_cases hq0 : 0 < q
              · obtain ⟨og, y, rfl, hol, hy, hcy⟩ := hcellq.out hq0
                obtain ⟨Y, hY⟩ : ∃ Y, ofL y = Y := ⟨_, rfl⟩
                have hYl : Y.toList = y := by rw [← hY, toList_ofL]
                rw [hY] at hcy
                have hbe : Hid (decide (0 < q ∧ r[q - 1]? = some x) = (Y.toList == X.toList)) := Lib.hid (by
                  rw [hYl, HX.out, hy, Bool.eq_iff_iff]; simp [hq0])
                have hq1 : (0 : Int) ≤ (q : Int) - 1 := by omega
                have hq2 : (q : Int) - 1 < (r.length : Int) := by omega
                have hq3 : ((q : Int) - 1).toNat = q - 1 := by omega
                have hq4 : decide ((q : Int) > 0) = true := decide_eq_true (by omega)
                clear hy hY hYl hcellq
                go_wp2_with fail
                go_quiet (fail)
                go_wp2_with fail
                go_meet
                exact ⟨by rw [hbe.out], _, World.drewN_drewN _ _ _⟩
              · obtain rfl : q = 0 := by omega
                clear hcellq
                go_wp2_with fail
                go_quiet (fail)
                go_wp2_with fail
                go_meet
                exact ⟨by simp, _, World.drewN_drewN _ _ _⟩
            case rest =>
              obtain ⟨rfl, m2, hwx⟩ := hcut
              rw [hwx]
              clear hwx wc
              have hbw : Below wr.heap.size wr (wr.drewN m2) := (Below.refl _ _).drewN m2
              have HBW := Lib.hid (HB.out.trans (hbw.mono hbs)); have HOW := Lib.hid (HO.out.below hbw)
              obtain ⟨w3, hw3⟩ : ∃ w3, wr.drewN m2 = w3 := ⟨_, rfl⟩
              have hs3 : w3.heap.size = wr.heap.size := by rw [← hw3]; rfl
              have d3 := (hbw.cell (p := ⟨g, off + k, none⟩) hgr).trans d0
              rw [hw3] at HBW HOW d3 ⊢
              have HS3 := Lib.hid hs3
              clear hw3 hbw hs3
              by_cases hin : 0 < q ∧ r[q - 1]? = some x
              · have HM2 : Hid (∀ y, y ∈ r ↔ y ∈ l.take (k + 1)) := Lib.hid fun y => by
                  rw [HMT.out y, HME.out y]
                  refine ⟨.inl, fun h => h.elim id fun e => ?_⟩
                  rw [e]; exact (HME.out x).1 (List.mem_of_getElem? hin.2)
                rw [decide_eq_true hin]
                clear hin
                go_wp2_with fail
                go_roundw
                case rel => exact ⟨k + 1, r, by omega, by go_num, HOW.out, HRI.out, HM2.out, by omega, HBW.out⟩
                case measure => simp [intOf]; omega
              · have HPUT : Hid (Rise (r.take q ++ x :: r.drop q)) := Lib.hid (rise_put r q x HRI.out hq HGT.out fun h => by
                  obtain ⟨y, hy, hxy⟩ := HE.out h
                  refine ⟨y, hy, ?_⟩
                  rcases tx_total y x with h1 | h1 | h1
                  · exact h1
                  · exact (hin ⟨h, by rw [hy, h1]⟩).elim
                  · exact (hxy h1).elim)
                have HM2 : Hid (∀ y, y ∈ r.take q ++ x :: r.drop q ↔ y ∈ l.take (k + 1)) := Lib.hid fun y => by
                  rw [HMT.out y, mem_put, HME.out y]
                rw [decide_eq_false hin]
                clear hin hcellq HE
                go_wp2_with (with_reducible (first | refine stop_append ?_))
                refine ⟨wp_append1 (r := Rp.str) (G := fun _ => False) (y := []) Tryd.underlying22 infoS rfl (show 0 < 1 by decide) HOW.out rfl rfl rfl (fun k h => h.elim) (by omega) (by decide) ?_⟩
                intro v4 w4 ho4 hk4 _ hob4
                have ho4' : Own Rp.str 9 w4 (w.heap.size ≤ ·) (r ++ [[]]) v4 := ho4.mono fun a ha => by
                  rcases ha with h | h | h
                  · exact h
                  · exact h.elim
                  · have h' : w3.heap.size ≤ a := h
                    have := HS3.out
                    show w.heap.size ≤ a; omega
                have hoba : ∀ a, (Value.slice OA r.length oc).ownBlock = some a → w.heap.size ≤ a := fun a ha => by
                  obtain ⟨_, _, h2, _⟩ := HOW.out
                  exact h2 a ha
                have hb4 := HBW.out.trans (hk4.below (B := w.heap.size) (by have := HS3.out; omega) fun i hi e => by have := hoba i e.symm; omega)
                have d4 := (hb4.cell (p := ⟨g, off + k, none⟩) hg).trans ((HBW.out.cell (p := ⟨g, off + k, none⟩) hg).symm.trans d3)
                have hl4 := hk4.size
                obtain ⟨pg, cap, cur, cells, rfl, hFg, hpg, hpc, hpm, hps, hpl, hpt, hel⟩ := ho4'.block (by simp)
                obtain rfl := hel.to_map
                have h1 : Rp.str.sz = 1 := rfl
                rw [h1, Nat.mul_one] at hps hpt
                have hpF : w.heap.size ≤ pg := hFg
                have hgp : g ≠ pg := by omega
                have hll : (r ++ [([] : Tx)]).length = r.length + 1 := by simp
                rw [hll] at hpc hpt ⊢
                rw [← shiftAt_end r] at hpt
                have HPG := Lib.hid hpg; have HPT := Lib.hid hpt; have HB4 := Lib.hid hb4; have HPM := Lib.hid hpm; have HPS := Lib.hid hps
                have hg4 : g < w4.heap.size := by have := HS3.out; omega
                clear ho4 ho4' hk4 hob4 hoba hb4 hpg hpt hpl hel hll d3 d0 HOW hpm hps
                go_wp2_with fail
                go_loopw [6] (fun i wr2 => ∃ (p : Nat) (cur' : Array Value), i = .int .i64 p ∧ q ≤ p ∧ p ≤ r.length ∧ wr2.heap[pg]? = some (.cells cur' 9 (0, 0)) ∧ cur'.size = cap ∧ cur'.toList.take (r.length + 1) = (shiftAt r p).map enS ∧ Keep (fun a => a = pg) w4 wr2) (fun i _ => (intOf i).toNat)
                case atStart => exact ⟨r.length, cur, by first | rfl | (congr 1; omega), hq, Nat.le_refl _, HPG.out, HPS.out, HPT.out, Keep.refl _ _⟩
                case round =>
                  obtain ⟨p, cur2, rfl, hqp, hpr, hpg2, hps2, hpt2, hk2⟩ := hrel
                  have hsz : cur2.toList.length = cap := by rw [Array.length_toList]; exact hps2
                  have hcl : ∀ j (z : Tx), (shiftAt r p)[j]? = some z → wr.cell? ⟨pg, j, none⟩ = some (.string (ofL z)) := fun j z hj => by
                    rw [blk_cell hpg2]
                    have hlt := (List.getElem?_eq_some_iff.1 hj).1
                    rw [shiftAt_len r p hpr] at hlt
                    have h2 : (cur2.toList.take (r.length + 1))[j]? = some (.string (ofL z)) := by rw [hpt2, List.getElem?_map, hj]; rfl
                    rw [List.getElem?_take_of_lt hlt] at h2
                    simpa using h2
                  have hfr : ∀ j, wr.frozen? ⟨pg, j, none⟩ = false := fun j => blk_free hpg2 j
                  have hpl := blk_lt hpg2
                  have d5 := hk2.cell d4 hgp
                  have hg5 : g < wr.heap.size := by have := hk2.size; omega
                  have HPG2 := Lib.hid hpg2; have HPS2 := Lib.hid hps2; have HPT2 := Lib.hid hpt2; have HK2 := Lib.hid hk2
                  by_cases hgo : q < p
                  · obtain ⟨y, hy⟩ : ∃ y, r[p - 1]? = some y := ⟨_, List.getElem?_eq_getElem (by omega)⟩
                    have c1 := hcl (p - 1) y (by rw [shiftAt_get r p _ (by omega) hpr]; exact hy)
                    obtain ⟨z, hz⟩ : ∃ z, (shiftAt r p)[p]? = some z := ⟨_, List.getElem?_eq_getElem (by rw [shiftAt_len r p hpr]; omega)⟩
                    have c2 := hcl p z hz
                    have f2 := hfr p
                    have HST := Lib.hid (shiftAt_step r p (by omega) hpr)
                    have HY := Lib.hid hy
                    have hq1 : (0 : Int) ≤ (p : Int) - 1 := by omega
                    have hq2 : (p : Int) - 1 < (r.length : Int) + 1 := by omega
                    have hq3 : ((p : Int) - 1).toNat = p - 1 := by omega
                    have hq5 : (p : Int) < (r.length : Int) + 1 := by omega
                    clear hy hz hpg2 hps2 hpt2 hk2 hcl hfr d5
                    go_wp2_with fail
                    go_roundw
                    case rel =>
                      refine ⟨p - 1, cur2.setIfInBounds p (enS y), by first | rfl | (congr 1; omega), by omega, by omega, blk_set HPG2.out p _, by simpa using HPS2.out, ?_, HK2.out.set rfl _⟩
                      rw [Array.toList_setIfInBounds, List.take_set, HPT2.out, ← List.map_set, ← HST.out, List.getD_eq_getElem?_getD, HY.out]; rfl
                    case measure => simp [intOf]; omega
                  · obtain rfl : p = q := by omega
                    obtain ⟨z, hz⟩ : ∃ z, (shiftAt r p)[p]? = some z := ⟨_, List.getElem?_eq_getElem (by rw [shiftAt_len r p hpr]; omega)⟩
                    have c2 := hcl p z hz
                    have f2 := hfr p
                    have HST := Lib.hid (shiftAt_put r p x hpr)
                    have hq5 : (p : Int) < (r.length : Int) + 1 := by omega
                    have hq6 : (0 : Int) ≤ (p : Int) := by omega
                    clear hz hpg2 hps2 hpt2 hk2 hcl hfr
                    go_wp2_with fail
                    have hks : Keep (fun a => a = pg) w4 (wr.setCell ⟨pg, p, none⟩ (.string X)) := HK2.out.set rfl _
                    have hblk := blk_set HPG2.out p (.string X)
                    have hlen : (r.take p ++ x :: r.drop p).length = r.length + 1 := by simp; omega
                    have hown : Own Rp.str 9 (wr.setCell ⟨pg, p, none⟩ (.string X)) (w.heap.size ≤ ·) (r.take p ++ x :: r.drop p) (.slice (some ⟨pg, 0, none⟩) (r.length + 1) cap) := by
                      rw [← hlen]
                      refine Own.shut (w := w4) (cells := (r.take p ++ x :: r.drop p).map enS) hFg hblk (by omega) HPM.out ?_ ?_ (Elems.of_map _) hks
                      · show _ = cap * 1
                        rw [Nat.mul_one]; simpa using HPS2.out
                      · show List.take (_ * 1) _ = _
                        rw [Nat.mul_one, hlen, Array.toList_setIfInBounds, List.take_set, HPT2.out, ← HST.out, List.map_set, ← HXO.out]; rfl
                    go_roundw
                    case rel => exact ⟨k + 1, r.take p ++ x :: r.drop p, by omega, by go_num, hown, HPUT.out, HM2.out, by rw [hlen]; omega, HB4.out.trans (hks.below (B := w.heap.size) (by have := HB4.out.size; omega) fun i hi e => by have e' : i = pg := e; omega)⟩
                    case measure => simp [intOf]; omega
    · obtain rfl : k = l.length := by omega
      have hms := HME.out
      rw [List.take_length] at hms
      have HSU := Lib.hid (sortU_of l r HRI.out hms)
      clear hms
      go_wp2_with fail
      go_ret
      exact hR _ _ ⟨_, rfl, by rw [← HSU.out]; exact HO.out, HB.out⟩
end Go.Proofs.YtalbadmefpdldaaDoor.Asc
