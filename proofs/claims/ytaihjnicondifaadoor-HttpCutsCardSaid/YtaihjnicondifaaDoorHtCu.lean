/-
  The law parapetlaw26.HttpCuts answers true.
  The library's MaxLen is a number.
-/
import Derived.Test.YtaihjnicondifaaDoorHtZ
namespace Go.Proofs.YtaihjnicondifaaDoor.Asc
open Go Go.RowKit Go.Proofs.YtaihjnicondifaaDoor.Pb

theorem feed_row (s : ByteArray) (size : Int) (h1 : 1 ≤ size) (h2 : size ≤ 9223372036854775807) (hs : s.size ≤ 100000) (w : World) (m : Int) (hm : MaxLen m w) (its : List It) (o : Bool) (he : (feedN {} (toL s)).2 = its ∧ (feedN {} (toL s)).1.over = o) :
    Calls Tryd.prog 12 #[.string s, .int .i64 size] w fun e w' => ∃ A c, e = .returned (.tuple #[.slice A its.length c, .bool o]) ∧ View itm w' (fun _ => True) its (.slice A its.length c) ∧ Below w.heap.size w w' := by
  refine (feed_at s size h1 h2 hs w m hm its o he).mono ?_
  rintro e w' ⟨v, O, rfl, ho, -, hb⟩
  obtain ⟨A, c, rfl, _⟩ := ho.slice
  exact ⟨A, c, rfl, ho.view.mono fun _ _ => trivial, hb⟩

section
variable {P : Program} {ops : Array Oper} {rest : List Oper} {d : Option Tmp} {ty : TypeId} {pos : String} {af : Array Edge} {a : Act} {Q : Exit → Act → World → Prop} {w w' : World} {v : Value} {gd : Option (Nat × Bool)}
/-- steps that are guarded -/
theorem stop_convertg {s t : TypeId} {x : Operand} (h : Stopped (wpList P ops Q (⟨d, .convert s t x, ty, pos, af, gd⟩ :: rest) a w)) :
    wpList P ops Q (⟨d, .convert s t x, ty, pos, af, gd⟩ :: rest) a w := h.out
theorem wp_bytesg {src dst e : TypeId} {s : ByteArray} {x : Operand}
    (hs : P.underlying src = some .string) (hd : P.underlying dst = some (.slice e)) (he : P.underlying e = some (.int .u8)) (hx : a.eval x = .string s) (hw : Region.wanted ⟨d, .convert src dst x, ty, pos, af, gd⟩ (yielded ops a.tmps) = true)
    (h : ∀ c w' m, s.size ≤ c → RowAt w' w.heap.size e (m, m + 1) ((toL s).map u8v) → s.size ≤ m → Below w.heap.size w w' → w'.heap.size = w.heap.size + 1 → wpList P ops Q rest (a.put d (.slice (some ⟨w.heap.size, 0, none⟩) s.size c)) w') :
    wpList P ops Q (⟨d, .convert src dst x, ty, pos, af, gd⟩ :: rest) a w := by
  obtain ⟨c, w', m, hr, h1, h2, h3, h4, h5⟩ := run_bytes (P := P) (s := s) w hs hd he
  unfold wpList
  rw [if_pos hw]
  refine .inl ?_
  unfold Oper.wp
  have e1 : (execOp a.eval ⟨d, .convert src dst x, ty, pos, af, gd⟩).run P w = .ok (.value (.slice (some ⟨w.heap.size, 0, none⟩) s.size c)) w' := by
    simp only [execOp, Sem.run_bind, hx, hr, Result.andThen_ok, Sem.run_pure]
  rw [e1]
  exact h c w' m h1 h2 h3 h4 h5
end

set_option maxRecDepth 20000 in
set_option maxHeartbeats 8000000 in
theorem cuts_walk (s : ByteArray) (size : Int) (h2 : size ≤ 9223372036854775807) (hss : s.size ≤ 140737488351232) (m : Int) (w : World) (hm : MaxLen m w) :
    Calls Tryd.prog 3 #[.string s, .int .i64 size] w fun e w' => e = .returned (.bool true) ∧ Below w.heap.size w w' := by
  refine calls_gen fun R hR => ?_
  have HM := Lib.hid hm
  clear hm
  go_enter Tryd.func3, Tryd.ntmps3
  by_cases c1 : (s.size : Int) > 20000
  · go_wp2_with fail
    refine (awake_any w m HM.out).mono ?_
    rintro e w3 ⟨rfl, hb3⟩
    go_wp2_with fail
    go_ret
    exact hR _ _ ⟨rfl, hb3⟩
  by_cases c2 : size < 1
  · go_wp2_with fail
    refine (awake_any w m HM.out).mono ?_
    rintro e w3 ⟨rfl, hb3⟩
    go_wp2_with fail
    go_ret
    exact hR _ _ ⟨rfl, hb3⟩
  have hs2 : s.size ≤ 20000 := by omega
  obtain ⟨its, hits⟩ : ∃ l, (feedN {} (toL s)).2 = l := ⟨_, rfl⟩
  obtain ⟨o, ho⟩ : ∃ b, (feedN {} (toL s)).1.over = b := ⟨_, rfl⟩
  have HIT := Lib.hid hits; have HOV := Lib.hid ho
  have hil : its.length ≤ 20000 := by
    have := feedN_len (toL s) {}
    rw [hits, toL_len] at this; omega
  have HFL : Hid (∀ x ∈ its, x.flds.length ≤ 1000000) := Lib.hid fun x hx => by
    have := feedN_flds (toL s) (live_zero 0) x (by rw [hits]; exact hx)
    rw [toL_len] at this; omega
  clear hits ho
  go_wp2_with fail
  refine (feed_row s _ (by omega) (by omega) (by omega) w m HM.out its o ⟨HIT.out, HOV.out⟩).mono ?_
  rintro e w1 ⟨A1, n1, rfl, hv1, hb1⟩
  have HV1 := Lib.hid hv1; have HB1 := Lib.hid hb1
  clear hv1 hb1
  go_wp2_with fail
  refine (feed_row s size (by omega) h2 (by omega) w1 m (HM.out.below HB1.out) its o ⟨HIT.out, HOV.out⟩).mono ?_
  rintro e w2 ⟨A2, n2, rfl, hv2, hb2⟩
  have HV2 := Lib.hid hv2; have HB2 := Lib.hid hb2
  have HBW2 := Lib.hid (HB1.out.trans (hb2.mono HB1.out.size))
  clear hv2 hb2
  obtain ⟨w3, hw3⟩ : ∃ w3, w2.alloc (.cells #[.slice none 0 0, .bool false, .int .i64 0, .int .i64 0, .string ⟨#[]⟩, .string ⟨#[]⟩, .slice none 0 0, .string ⟨#[]⟩, .bool false, .int .u8 0, .int .i64 0, .slice none 0 0, .int .i64 0, .bool false] 33) = w3 := ⟨_, rfl⟩
  have HW3 := Lib.hid hw3
  have HP3 : Hid (PAt w3 (fun _ => False) w2.heap.size {}) := Lib.hid ⟨_, _, _, pin_zero (by rw [← hw3]; exact blk_new w2 _) id⟩
  have HB3 : Hid (Below w2.heap.size w2 w3) := Lib.hid (hw3 ▸ below_new w2 _)
  clear hw3
  go_upto_region 6 with fail
  rw [HW3.out]
  have hws3 := HB3.out.size
  have HBW3 := Lib.hid (HBW2.out.trans (HB3.out.mono HBW2.out.size))
  go_wp2_with (with_reducible (first | refine stop_convert ?_))
  refine ⟨wp_bytes Tryd.underlying9 Tryd.underlying26 Tryd.underlying5 rfl ?_⟩
  intro c w4 m4 hc hrow hm4 hb4 hsz4
  have hvx := hrow.view (h1 := fun _ => rfl) (c := c) (by rw [toL_len]; exact hc) (F := fun j => j = w3.heap.size) rfl
  rw [toL_len] at hvx
  have HVX := Lib.hid hvx
  have HB4 := Lib.hid hb4
  have hws4 := hb4.size
  have HBW4 := Lib.hid (HBW3.out.trans (hb4.mono HBW3.out.size))
  have hlt3 := HP3.out.lt
  clear hrow hvx hb4 hsz4
  go_wp2_with fail
  refine (pfeed_any w4 (fun _ => False) w2.heap.size {} (HP3.out.below HB4.out) 0 (live_zero 0) (toL s) (by rw [toL_len]; omega) _ (fun j => j = w3.heap.size) HVX.out (fun j e => ⟨id, by omega⟩) id m (HM.out.below HBW4.out)).mono ?_
  rintro e w5 ⟨v5, rfl, S5, O5, hp5, ho5, hd5, hin5, hob5, hk5⟩
  rw [HIT.out] at ho5
  obtain ⟨A5, n5, rfl, hn5⟩ := ho5.slice
  have hlt2 : w2.heap.size < w3.heap.size := hlt3
  have HB5 : Hid (Below w2.heap.size w4 w5) := Lib.hid (hk5.below (by omega) fun i hi h => by
    rcases h with h | h
    · exact h
    · omega)
  have HV5 := Lib.hid ho5.view
  have HBW5 : Hid (Below w.heap.size w w5) := Lib.hid (HBW4.out.trans (HB5.out.mono HBW2.out.size))
  have HB25 : Hid (Below w2.heap.size w2 w5) := Lib.hid ((HB3.out.trans (HB4.out.mono hws3)).trans HB5.out)
  clear hp5 ho5 hd5 hin5 hob5 hk5
  go_wp2_with fail
  refine (alike_any its (by omega) HFL.out _ _ (fun _ => True) (fun _ => True) w5 ((HV1.out.below HB2.out).below HB25.out) (HV2.out.below HB25.out)).mono ?_
  rintro e w6 ⟨rfl, hb6⟩
  have HB6 := Lib.hid hb6
  clear hb6
  have hoo : (o == o) = true := beq_self_eq_true o
  go_wp2_with fail
  refine (alike_any its (by omega) HFL.out _ _ (fun _ => True) _ w6 (((HV1.out.below HB2.out).below HB25.out).below HB6.out) (HV5.out.below HB6.out)).mono ?_
  rintro e w7 ⟨rfl, hb7⟩
  have HB7 := Lib.hid (HB6.out.trans (hb7.mono HB6.out.size))
  have HBW7 := Lib.hid (HBW5.out.trans (HB7.out.mono HBW5.out.size))
  clear hb7
  go_wp2_with (with_reducible (first | refine stop_convertg ?_))
  refine ⟨wp_bytesg Tryd.underlying9 Tryd.underlying26 Tryd.underlying5 rfl (by rfl) ?_⟩
  intro c8 w8 m8 hc8 hrow8 hm8 hb8 hsz8
  have hvx8 := hrow8.view (h1 := fun _ => rfl) (c := c8) (by rw [toL_len]; exact hc8) (F := fun _ => True) trivial
  rw [toL_len] at hvx8
  have HVX8 := Lib.hid hvx8
  have HBW8 := Lib.hid (HBW7.out.trans (hb8.mono HBW7.out.size))
  clear hrow8 hvx8 hb8 hsz8
  go_wp2_with fail
  refine (pnil_any w8 (toL s) (by rw [toL_len]; omega) _ _ HVX8.out).mono ?_
  rintro e w9 ⟨rfl, hw9⟩
  rw [hw9]
  clear hw9
  go_wp2_with fail
  refine (over_nil w8).mono ?_
  rintro e w9 ⟨rfl, hw9⟩
  rw [hw9]
  clear hw9
  go_wp2_with fail
  refine (awake_any w8 m (HM.out.below HBW8.out)).mono ?_
  rintro e w9 ⟨rfl, hb9⟩
  go_wp2_with fail
  go_ret
  exact hR _ _ ⟨rfl, HBW8.out.trans (hb9.mono HBW8.out.size)⟩
theorem cuts_row {w : World} (s : ByteArray) (hss : s.size ≤ 140737488351232) (size : Int) (_ : -9223372036854775808 ≤ size) (h2 : size ≤ 9223372036854775807) (m : Int) (hm : MaxLen m w) :
    Calls Tryd.prog 3 #[.string s, .int .i64 size] w fun e w' => e = .returned (.bool true) ∧ Below w.heap.size w w' := cuts_walk s size h2 hss m w hm
end Go.Proofs.YtaihjnicondifaaDoor.Asc
