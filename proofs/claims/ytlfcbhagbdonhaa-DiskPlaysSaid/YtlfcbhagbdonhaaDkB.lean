/-
  Contracts of the library's Clone, Grow and Concat of bytes.
  Lengths within the rows' own reach.
-/
import Derived.Test.YtlfcbhagbdonhaaDkA
import Derived.Lib.AppendZeros
namespace Go.Proofs.Ytlfcbhagbdonhaa.Asc
set_option linter.unusedSimpArgs false
set_option linter.unusedVariables false
open Go Go.RowKit Go.Proofs.Ytlfcbhagbdonhaa.Pb

theorem nil31 (w : World) (a : Option Addr) (n c n' c' : Nat) : (binOp .eql 28 (.slice a n c) (.slice none n' c')).run Try.prog w = .ok (.bool a.isNone) w := Lib.run_eql_slice_nil w _ _ a n c n' c' Try.underlying28
theorem info5 : (Try.prog.info? 5).map (fun i => (i.zero, i.size, i.bytes)) = some (some (.int .u8 0), 1, 1) := by kernel_rfl

set_option maxHeartbeats 1000000 in
/-- slices.Clone of bytes -/
theorem clone_any (l : List UInt8) (v : Value) (F : Nat → Prop) (w : World) (hv : View Rp.u8 w F l v) (hl : l.length ≤ 140737488351232) :
    Calls Try.prog 37 #[v] w fun e w' => ∃ u, e = .returned u ∧ Own Rp.u8 5 w' (w.heap.size ≤ ·) l u ∧ Below w.heap.size w w' := by
  refine calls_gen fun R hR => ?_
  have HV := Lib.hid hv
  obtain ⟨A, c, rfl, hc, hA, hx⟩ := hv
  have hnil := nil31
  cases A with
  | none =>
    obtain rfl := hA rfl
    obtain rfl : l = [] := List.eq_nil_of_length_eq_zero (by omega)
    clear hx
    go_enter Try.func37, Try.ntmps37
    go_wp2_with fail
    go_ret
    exact hR _ _ ⟨_, rfl, Own.nil _ _ _ _, Below.refl _ _⟩
  | some ad =>
    clear hx hA
    go_enter Try.func37, Try.ntmps37
    go_wp2_with (with_reducible (first | refine stop_append ?_))
    refine ⟨wp_clone Try.underlying28 info5 rfl (show 0 < 1 by decide) rfl rfl HV.out (by unfold maxLen; omega) (by omega) ?_⟩
    rintro v1 w1 ho1 hb1 ⟨g, c1, rfl, hc1, hg⟩
    go_wp2
    go_ret
    exact hR _ _ ⟨_, rfl, ho1.flat fun k hk => by simp [Value.ownBlock] at hk; omega, hb1⟩

set_option maxHeartbeats 1000000 in
/-- slices.Grow of nil -/
theorem grow_any (n : Nat) (w : World) (hn : n ≤ 1000000000) :
    Calls Try.prog 52 #[.slice none 0 0, .int .i64 n] w fun e w' => ∃ u, e = .returned u ∧ Own Rp.u8 5 w' (w.heap.size ≤ ·) ([] : List UInt8) u ∧ Below w.heap.size w w' := by
  refine calls_gen fun R hR => ?_
  by_cases h0 : n = 0
  · subst h0
    go_enter Try.func52, Try.ntmps52
    go_wp2_with fail
    go_ret
    exact hR _ _ ⟨_, rfl, Own.nil _ _ _ _, Below.refl _ _⟩
  · obtain ⟨i0, hi, hz0, hz1, hz2⟩ := info_parts info5
    have hr := fun ty => Lib.run_append_nil_zeros (P := Try.prog) w 28 3 ty 5 i0 (.int .u8 0) .i64 .i64 Try.underlying28 Try.underlying3 hi hz0 n (by omega) (by omega) (by omega) (by rw [hz2]; omega)
    have hge := grownCap_ge w n 0 5
    have hle := grownCap_le_maxLen w n 0 5 (by unfold maxLen; omega)
    obtain ⟨G, hG⟩ : ∃ G, grownCap w n 0 5 = G := ⟨_, rfl⟩
    rw [hG] at hr hge hle
    have hlg : G ≤ 9223372036854775807 := by unfold maxLen at hle; omega
    have hzc : ∀ k, (Builtin.zeroCells (Value.int .u8 0).cells k).size = k := fun k => by simp [Builtin.zeroCells, Value.cells]
    obtain ⟨cs, hcs⟩ : ∃ cs, Builtin.zeroCells (Value.int .u8 0).cells n ++ Builtin.zeroCells (Value.int .u8 0).cells (G - n) = cs := ⟨_, rfl⟩
    have hcsz : cs.size = G := by rw [← hcs, Array.size_append, hzc, hzc]; omega
    rw [hcs] at hr
    have h1 : ¬ ((n : Int) < 0) := by omega
    have h2 : (n : Int) > 0 := by omega
    have HR := Lib.hid hr
    have HG : Hid (w.drew.alloc (.cells cs 5) = w.drew.alloc (.cells cs 5)) := rfl
    clear hr hG hcs hzc hi hz0 hz1 hz2
    go_enter Try.func52, Try.ntmps52
    go_wp2_with (with_reducible (first | refine stop_append ?_))
    refine ⟨Lib.wpList_append_run _ rfl _ _ _ _ rfl _ _ rfl rfl _ _ (HR.out _) ?_⟩
    go_wp2_with fail
    go_ret
    refine hR _ _ ⟨_, rfl, ⟨[], ⟨rfl, .inr ⟨w.heap.size, G, cs, rfl, Nat.zero_le _, ?_, Nat.zero_le _, hle, ?_, ?_⟩⟩, fun k hk => ?_, Elems.nil⟩, ?_⟩
    · exact blk_new w.drew _
    · show cs.size = G * 1; omega
    · simp
    · simp [Value.ownBlock] at hk; omega
    · exact ((Below.refl w.heap.size w).drewN 1).alloc (Nat.le_refl _) _

theorem rows_get {w : World} {G : Nat → Prop} {l : List (List UInt8)} {v : Value} (h : View Rp.u8.view w G l v) :
    ∃ A c, v = .slice A l.length c ∧ l.length ≤ c ∧ (∀ k, k < l.length → ∃ g off, A = some ⟨g, off, none⟩ ∧ g < w.heap.size ∧ ∀ x, l[k]? = some x →
      ∃ rv, w.cell? ⟨g, off + k, none⟩ = some rv ∧ View Rp.u8 w G x rv) := by
  obtain ⟨A, c, rfl, hc, hA, h⟩ := h
  refine ⟨A, c, rfl, hc, fun k hk => ?_⟩
  rcases h with rfl | ⟨g, off, cells, rfl, hG, hlt, hat, hel⟩
  · simp at hk
  · refine ⟨g, off, rfl, hlt, fun x hx => ?_⟩
    obtain ⟨us, cs, bs, rfl, ha, hr, _, _⟩ := hel.get (fun _ _ h => Rp.u8.view.len h) k hk
    have hx' : l[k] = x := by rw [List.getElem?_eq_getElem hk] at hx; exact Option.some.inj hx
    rw [hx'] at hr
    obtain ⟨rv, rfl, hrv⟩ := hr
    have h3 : us.length = k * 1 := ha
    refine ⟨rv, hat k rv ?_, hrv⟩
    rw [List.append_assoc, List.getElem?_append_right (by omega), show k - us.length = 0 by omega]
    rfl

def lenSum (ls : List (List UInt8)) (k : Nat) : Nat := ((ls.take k).map List.length).sum
theorem lenSum_succ (ls : List (List UInt8)) (k : Nat) (x : List UInt8) (h : ls[k]? = some x) : lenSum ls (k + 1) = lenSum ls k + x.length := by
  unfold lenSum; rw [List.take_add_one, h]; simp
theorem lenSum_le (ls : List (List UInt8)) (k : Nat) : lenSum ls k ≤ lenSum ls ls.length := by
  unfold lenSum
  rw [List.take_length]
  conv => rhs; rw [← List.take_append_drop k ls, List.map_append, List.sum_append]
  omega
theorem flat_len (ls : List (List UInt8)) (k : Nat) : (ls.take k).flatten.length = lenSum ls k := by
  unfold lenSum; rw [List.length_flatten]

set_option maxHeartbeats 2000000 in
/-- slices.Concat of rows of bytes -/
theorem concat_any (ls : List (List UInt8)) (v : Value) (F : Nat → Prop) (w : World) (hv : View Rp.u8.view w F ls v) (hl : ls.length ≤ 1000000) (hs : lenSum ls ls.length ≤ 1000000) :
    Calls Try.prog 30 #[v] w fun e w' => ∃ u, e = .returned u ∧ Own Rp.u8 5 w' (w.heap.size ≤ ·) ls.flatten u ∧ Below w.heap.size w w' := by
  refine calls_gen fun R hR => ?_
  obtain ⟨A, c, rfl, hc, hget⟩ := rows_get hv
  have HV := Lib.hid hv; have HG := Lib.hid hget
  clear hv hget
  go_enter Try.func30, Try.ntmps30
  go_wp2_with fail
  go_loopw [3, 11] (fun sv i wr => ∃ k : Nat, k ≤ ls.length ∧ i = .int .i64 k ∧ sv = .int .i64 (lenSum ls k) ∧ wr = w) (fun _ i _ => ls.length - (intOf i).toNat)
  case atStart => exact ⟨0, Nat.zero_le _, rfl, rfl, rfl⟩
  case round =>
    obtain ⟨k, hk, rfl, rfl, hwr⟩ := hrel
    rw [hwr]
    have HWR := Lib.hid hwr
    clear hwr
    have hle := lenSum_le ls k
    by_cases hlt : k < ls.length
    · obtain ⟨x, hx⟩ : ∃ x, ls[k]? = some x := ⟨_, List.getElem?_eq_getElem hlt⟩
      obtain ⟨g, off, rfl, hg, hgx⟩ := HG.out k hlt
      obtain ⟨rv, d0, hrv⟩ := hgx x hx
      obtain ⟨RA, rc, rfl, hrc, _⟩ := hrv.open1
      have HS := Lib.hid (lenSum_succ ls k x hx)
      have hle2 := lenSum_le ls (k + 1)
      have hxl : lenSum ls k + x.length ≤ 1000000 := by rw [← HS.out]; omega
      clear hx hgx hrv
      go_wp2_with fail
      go_roundw
      case rel => exact ⟨k + 1, by omega, by go_num, by rw [HS.out]; go_num, by first | trivial | rfl | exact HWR.out⟩
      case measure => simp [intOf]; omega
    · obtain rfl : k = ls.length := by omega
      obtain ⟨n, hn⟩ : ∃ n, lenSum ls ls.length = n := ⟨_, rfl⟩
      have HN := Lib.hid hn
      rw [hn] at hs hle ⊢
      clear hn
      go_wp2_with fail
      refine (grow_any n w (by omega)).mono ?_
      rintro e w1 ⟨u, rfl, ho1, hb1⟩
      have HO1 := Lib.hid ho1; have HB1 := Lib.hid hb1
      have hws := hb1.size
      clear ho1 hb1
      go_wp2_with fail
      go_loopw [6, 27] (fun uv i wr => ∃ k : Nat, k ≤ ls.length ∧ i = .int .i64 k ∧ Own Rp.u8 5 wr (w.heap.size ≤ ·) (ls.take k).flatten uv ∧ Below w.heap.size w wr) (fun _ i _ => ls.length - (intOf i).toNat)
      case atStart => exact ⟨0, Nat.zero_le _, rfl, by rw [List.take_zero]; exact HO1.out, HB1.out⟩
      case round =>
        obtain ⟨k, hk, rfl, hown, hb⟩ := hrel
        have HB := Lib.hid hb; have HO := Lib.hid hown
        have hbs := hb.size
        have HFL := Lib.hid (flat_len ls k)
        have hle := lenSum_le ls k
        rw [HN.out] at hle
        by_cases hlt : k < ls.length
        · obtain ⟨x, hx⟩ : ∃ x, ls[k]? = some x := ⟨_, List.getElem?_eq_getElem hlt⟩
          obtain ⟨g, off, e, hg, hgx⟩ := HG.out k hlt
          subst e
          obtain ⟨rv, d0', hrv⟩ := hgx x hx
          have d0 := (hb.cell (p := ⟨g, off + k, none⟩) hg).trans d0'
          have hgr := Nat.lt_of_lt_of_le hg hb.size
          have HRV : Hid (View Rp.u8 wr (fun j => j < w.heap.size) x rv) := Lib.hid (((hrv.bnd).mono fun _ h => h.2).below hb)
          have HS := Lib.hid (lenSum_succ ls k x hx)
          have HT : Hid ((ls.take (k + 1)).flatten = (ls.take k).flatten ++ x) := Lib.hid (by rw [List.take_add_one, hx]; simp)
          have hle2 := lenSum_le ls (k + 1)
          have hxl : lenSum ls k + x.length ≤ 1000000 := by rw [← HS.out]; rw [HN.out] at hle2; omega
          clear hx hgx hrv hb hown d0'
          go_wp2_with (with_reducible (first | refine stop_append ?_))
          refine ⟨wp_append_view Try.underlying28 info5 rfl (show 0 < 1 by decide) HO.out rfl rfl HRV.out (fun j hj e => ?_) (by unfold maxLen; rw [HFL.out]; omega) (by rw [HFL.out]; omega) ?_⟩
          · obtain ⟨_, _, h2, _⟩ := HO.out
            have := h2 j e.symm; omega
          · intro v2 w2 ho2 hk2 _ hb2
            have HO2 := Lib.hid (ho2.flat (F' := (w.heap.size ≤ ·)) fun j hj => by
              rcases hb2 with h | ⟨i, h, hi⟩
              · obtain ⟨_, _, h2, _⟩ := HO.out
                exact h2 j (h ▸ hj)
              · rw [h] at hj; cases hj; omega)
            have HB2 : Hid (Below w.heap.size w w2) := Lib.hid (HB.out.trans (hk2.below HB.out.size fun i hi e => by
              obtain ⟨_, _, h2, _⟩ := HO.out
              have := h2 i e.symm; omega))
            clear ho2 hk2 hb2
            go_wp2_with fail
            go_roundw
            case rel => exact ⟨k + 1, by omega, by go_num, by rw [HT.out]; exact HO2.out, HB2.out⟩
            case measure => simp [intOf]; omega
        · obtain rfl : k = ls.length := by omega
          rw [List.take_length] at HO
          clear hb hown
          go_wp2_with fail
          go_ret
          exact hR _ _ ⟨_, rfl, HO.out, HB.out⟩
end Go.Proofs.Ytlfcbhagbdonhaa.Asc
