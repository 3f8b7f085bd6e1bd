/-
  Contract of the reference's Clear.
  Lengths within the rows' own reach.
-/
import Derived.Test.YtmbkfhfidjplnaaNetO
namespace Go.Proofs.Ytmbkfhfidjplnaa.Nt
open Go Go.RowKit Go.Proofs.Ytmbkfhfidjplnaa.Pb

theorem clears_take (l : List Pk) (n : Int) (k : Nat) (x : Pk) (h : l[k]? = some x) : clears (l.take (k + 1)) n = clears (l.take k) n ++ (if ofNode n x = true then [] else [x]) := by
  rw [List.take_add_one, h]; exact clears_snoc _ _ _

set_option maxRecDepth 20000 in
set_option maxHeartbeats 2000000 in
theorem rclear_any (t : TypeId) (w : World) (F : Nat → Prop) (b : Nat) (l : List Pk) (h : NetAt t w F b l) (n : Int) (hl : l.length ≤ 1000000) :
    Calls Try.prog 22 #[.pointer (some ⟨b, 0, none⟩), .int .i64 n] w fun e w' => e = .returned (.int .i64 ((l.length : Int) - ((clears l n).length : Int))) ∧ Keep F w w' ∧ NetAt t w' (fun k => F k ∨ (w.heap.size ≤ k ∧ k < w'.heap.size)) b (clears l n) := by
  refine calls_gen fun R hR => ?_
  obtain ⟨v, hbk, hFb, ho⟩ := h
  have ho' := ho.bnd
  obtain ⟨A, c, rfl, hc, hget⟩ := pkts_get ho'
  have hlt := blk_lt hbk
  have HG := Lib.hid hget; have HBK := Lib.hid hbk
  clear hget ho ho' hbk
  go_enter Try.func22, Try.ntmps22
  go_wp2_with fail
  go_loopw [5, 6, 7] (fun vl m i wr => ∃ k : Nat, k ≤ l.length ∧ i = .int .i64 k ∧ m = .int .i64 ((k : Int) - ((clears (l.take k) n).length : Int)) ∧ Below w.heap.size w wr ∧ Own pkt 33 wr (fun j => (F j ∧ j ≠ b ∧ j < w.heap.size) ∨ w.heap.size ≤ j) (clears (l.take k) n) vl ∧ ∀ j, vl.ownBlock = some j → w.heap.size ≤ j) (fun _ _ i _ => l.length - (intOf i).toNat)
  case atStart => exact ⟨0, Nat.zero_le _, rfl, rfl, Below.refl _ _, Own.nil _ _ _ _, by simp [Value.ownBlock]⟩
  case round =>
    obtain ⟨k, hk, rfl, rfl, hb, hor, hob⟩ := hrel
    obtain ⟨LA, lc, rfl, hlc⟩ := hor.slice
    have hcl : (clears (l.take k) n).length ≤ k := by have := clears_len (l.take k) n; rw [List.length_take] at this; omega
    have hbkr := (hb.block b hlt).trans HBK.out
    have hb0 := blk_cell hbkr 0
    have hf0 := blk_free hbkr 0
    simp at hb0
    have hbl := blk_lt hbkr
    have hs := hb.size
    have HB := Lib.hid hb; have HO := Lib.hid hor; have HOB := Lib.hid hob; have HBKR := Lib.hid hbkr
    obtain ⟨z, hz⟩ : ∃ z, clears (l.take k) n = z := ⟨_, rfl⟩
    rw [hz] at HO hcl hlc HOB ⊢
    have HZ := Lib.hid hz
    clear hb hor hob hbkr hz
    by_cases hlk : k < l.length
    · obtain ⟨g, rfl, hg, hx⟩ := HG.out k hlk
      obtain ⟨x, he⟩ : ∃ x, l[k]? = some x := ⟨_, List.getElem?_eq_getElem hlk⟩
      obtain ⟨B, c', hv, hc0, hc1, hc2⟩ := hx x he
      have d0 := (HB.out.cell (p := ⟨g, k * 3, none⟩) hg).trans hc0
      have d1 := (HB.out.cell (p := ⟨g, k * 3 + 1, none⟩) hg).trans hc1
      have d2 := (HB.out.cell (p := ⟨g, k * 3 + 2, none⟩) hg).trans hc2
      have hgr : g < wr.heap.size := by omega
      have HY : Hid (pkt.rep wr (fun j => F j ∧ j ≠ b ∧ j < w.heap.size) x [.int .i64 x.1, .int .i64 x.2.1, .slice B x.2.2.length c']) := Lib.hid ⟨[_], _, rfl, rfl, [_], _, rfl, rfl, _, rfl, (hv.below HB.out).mono fun j h => ⟨h.1.1.1, h.1.1.2, h.1.2⟩⟩
      have hct := clears_take l n k x he
      have hon : ofNode n x = (decide (x.1 = n) || decide (x.2.1 = n)) := rfl
      clear hx he hv hc0 hc1 hc2
      by_cases h1 : x.1 = n
      · have hb1 : (x.1 == n) = true := by simpa using h1
        have HC : Hid (clears (l.take (k + 1)) n = z) := Lib.hid (by rw [hct, hon, HZ.out]; simp [h1])
        clear h1 hct hon
        go_wp2_with fail
        go_roundw
        case rel => exact ⟨k + 1, by omega, by go_num, by rw [HC.out]; congr 1; omega, HB.out, by rw [HC.out]; exact HO.out, HOB.out⟩
        case measure => simp [intOf]; omega
      · have hb1 : (x.1 == n) = false := by simpa using h1
        by_cases h2 : x.2.1 = n
        · have hb2 : (x.2.1 == n) = true := by simpa using h2
          have HC : Hid (clears (l.take (k + 1)) n = z) := Lib.hid (by rw [hct, hon, HZ.out]; simp [h2])
          clear h1 h2 hct hon
          go_wp2_with fail
          go_roundw
          case rel => exact ⟨k + 1, by omega, by go_num, by rw [HC.out]; congr 1; omega, HB.out, by rw [HC.out]; exact HO.out, HOB.out⟩
          case measure => simp [intOf]; omega
        · have hb2 : (x.2.1 == n) = false := by simpa using h2
          have HC : Hid (clears (l.take (k + 1)) n = z ++ [x]) := Lib.hid (by rw [hct, hon, HZ.out]; simp [h1, h2])
          clear h1 h2 hct hon
          go_wp2_with (with_reducible (first | refine stop_append ?_))
          refine ⟨wp_append1 (r := pkt) (G := fun j => F j ∧ j ≠ b ∧ j < w.heap.size) (y := x) Try.underlying25 infoP rfl (by decide) HO.out rfl rfl HY.out (fun j hj e => by have := HOB.out j e.symm; omega) (by omega) (by decide) ?_⟩
          intro v3 w3 ho3 hk3 hne3 hob3
          obtain ⟨LB, ld, rfl, hld⟩ := ho3.slice
          obtain ⟨z3, hz3⟩ : ∃ z3, z ++ [x] = z3 := ⟨_, rfl⟩
          have hzl : z3.length = z.length + 1 := by rw [← hz3]; simp
          rw [hz3] at ho3 hob3 hld HC ⊢
          have HB3 := Lib.hid (HB.out.trans (hk3.below (B := w.heap.size) hs fun i hi e => by have := HOB.out i e.symm; omega))
          have HO3 : Hid (Own pkt 33 w3 (fun j => (F j ∧ j ≠ b ∧ j < w.heap.size) ∨ w.heap.size ≤ j) z3 (.slice LB z3.length ld)) := Lib.hid (ho3.mono fun j h => by
            rcases h with h | h | h
            · exact h
            · exact .inl h
            · exact .inr (by omega))
          have HOB3 : Hid (∀ j, (Value.slice LB z3.length ld).ownBlock = some j → w.heap.size ≤ j) := Lib.hid fun j e => by
            rcases hob3 with h3 | ⟨q, h3, h4⟩
            · exact HOB.out j (h3.symm.trans e)
            · have e' := Option.some.inj (h3.symm.trans e); omega
          have HZL := Lib.hid hzl
          clear ho3 hk3 hne3 hob3 hz3 hzl
          go_wp2_with fail
          go_roundw
          case rel => exact ⟨k + 1, by omega, by go_num, by rw [HC.out, HZL.out]; congr 1; omega, HB3.out, by rw [HC.out]; exact HO3.out, HOB3.out⟩
          case measure => simp [intOf]; omega
    · obtain rfl : k = l.length := by omega
      rw [List.take_length] at HZ
      go_wp2_with fail
      go_ret
      have hkb : Keep (fun i => i = b) wr (wr.setCell ⟨b, 0, none⟩ (.slice LA z.length lc)) := (Keep.refl (fun i => i = b) wr).set (p := ⟨b, 0, none⟩) rfl _
      have hb4 := blk_set HBKR.out 0 (.slice LA z.length lc)
      refine hR _ _ ⟨ret_int (by rw [HZ.out]), (Keep.old (F := F) HB.out).trans hkb (fun i _ h => by rw [h]; exact hFb), ?_⟩
      rw [HZ.out]
      refine ⟨_, by simpa using hb4, .inl hFb, (HO.out.bnd.keep hkb (fun j h e => ?_)).mono fun j h => ?_⟩
      · have e' : j = b := e
        rcases h.1 with h1 | h1
        · exact h1.2.1 e'
        · omega
      · have h2 := h.2
        rw [size_setCell]
        rcases h.1 with h1 | h1
        · exact ⟨.inl h1.1, h1.2.1⟩
        · exact ⟨.inr ⟨h1, h2⟩, by omega⟩
end Go.Proofs.Ytmbkfhfidjplnaa.Nt
