/-
  Items in memory, looked at; contract of the law's awake.
  The library's MaxLen is a number.
-/
import Derived.Test.YtaihjnicondifaaDoorHtQ
namespace Go.Proofs.YtaihjnicondifaaDoor.Asc
open Go Go.RowKit Go.Proofs.YtaihjnicondifaaDoor.Pb

/-- an Item's six cells -/
structure ItCells (w : World) (F : Nat → Prop) (g o : Nat) (x : It) (fv : Value) : Prop where
  flds : View fld w F x.flds fv
  c0 : w.cell? ⟨g, o, none⟩ = some (.int .i64 x.st)
  c1 : w.cell? ⟨g, o + 1, none⟩ = some (.string (ofL x.meth))
  c2 : w.cell? ⟨g, o + 2, none⟩ = some (.string (ofL x.path))
  c3 : w.cell? ⟨g, o + 3, none⟩ = some fv
  c4 : w.cell? ⟨g, o + 4, none⟩ = some (.string (ofL x.body))
  c5 : w.cell? ⟨g, o + 5, none⟩ = some (.bool x.close)
theorem ItCells.below {w w' : World} {F : Nat → Prop} {g o : Nat} {x : It} {fv : Value} (h : ItCells w F g o x fv) (hg : g < w.heap.size) (hb : Below w.heap.size w w') : ItCells w' F g o x fv :=
  ⟨h.flds.below hb, (hb.cell (p := ⟨g, o, none⟩) hg).trans h.c0, (hb.cell (p := ⟨g, o + 1, none⟩) hg).trans h.c1, (hb.cell (p := ⟨g, o + 2, none⟩) hg).trans h.c2, (hb.cell (p := ⟨g, o + 3, none⟩) hg).trans h.c3, (hb.cell (p := ⟨g, o + 4, none⟩) hg).trans h.c4, (hb.cell (p := ⟨g, o + 5, none⟩) hg).trans h.c5⟩
theorem view_items {w : World} {F : Nat → Prop} {its : List It} {v : Value} (h : View itm w F its v) :
    ∃ A c, v = .slice A its.length c ∧ its.length ≤ c ∧ ∀ k, k < its.length → ∃ g off, A = some ⟨g, off, none⟩ ∧ F g ∧ g < w.heap.size ∧ ∀ x, its[k]? = some x → ∃ fv, ItCells w F g (off + k * 6) x fv := by
  obtain ⟨A, c, rfl, hc, hA, h⟩ := h
  refine ⟨A, c, rfl, hc, fun k hk => ?_⟩
  rcases h with rfl | ⟨g, off, cells, rfl, hG, hlt, hat, hel⟩
  · simp at hk
  · refine ⟨g, off, rfl, hG, hlt, fun x hx => ?_⟩
    obtain ⟨us, cs, bs, rfl, ha, hr, _, _⟩ := hel.get (fun _ _ h => itm.len h) k hk
    have hx' : its[k] = x := by rw [List.getElem?_eq_getElem hk] at hx; exact Option.some.inj hx
    rw [hx'] at hr
    obtain ⟨fv, rfl, hv⟩ := itm_open hr
    have h3 : us.length = k * 6 := ha
    have hcell : ∀ j y, ([Value.int .i64 x.st, .string (ofL x.meth), .string (ofL x.path), fv, .string (ofL x.body), .bool x.close] : List Value)[j]? = some y → w.cell? ⟨g, off + k * 6 + j, none⟩ = some y := fun j y hy => by
      have := hat (k * 6 + j) y (by
        rw [List.append_assoc, List.getElem?_append_right (by omega), h3, Nat.add_sub_cancel_left]
        rw [List.getElem?_append_left (List.getElem?_eq_some_iff.1 hy).1]; exact hy)
      rw [← Nat.add_assoc] at this; exact this
    exact ⟨fv, hv, hcell 0 _ rfl, hcell 1 _ rfl, hcell 2 _ rfl, hcell 3 _ rfl, hcell 4 _ rfl, hcell 5 _ rfl⟩
theorem own_items {e : TypeId} {w : World} {F : Nat → Prop} {its : List It} {v : Value} (h : Own itm e w F its v) (hne : its ≠ []) :
    ∃ g c, v = .slice (some ⟨g, 0, none⟩) its.length c ∧ F g ∧ its.length ≤ c ∧ g < w.heap.size ∧ ∀ k x, its[k]? = some x → ∃ fv, ItCells w F g (k * 6) x fv := by
  have h0 : 0 < its.length := List.length_pos_iff.2 hne
  obtain ⟨A, c, rfl, hc, hget⟩ := view_items h.view
  obtain ⟨g, off, rfl, hG, hlt, _⟩ := hget 0 h0
  have ho : off = 0 := by
    obtain ⟨cells, ⟨hl, ho⟩, hF, he⟩ := h
    rcases ho with ⟨e1, _⟩ | ⟨g', cap, cur, e1, _⟩
    · cases e1
    · cases e1; rfl
  subst ho
  refine ⟨g, c, rfl, hG, hc, hlt, fun k x hx => ?_⟩
  have hk : k < its.length := (List.getElem?_eq_some_iff.1 hx).1
  obtain ⟨g', off', e1, _, _, h⟩ := hget k hk
  cases e1
  obtain ⟨fv, hfv⟩ := h x hx
  rw [Nat.zero_add] at hfv
  exact ⟨fv, hfv⟩

/-- a text is fed: what its bytes say is known -/
theorem feed_at (s : ByteArray) (size : Int) (h1 : 1 ≤ size) (h2 : size ≤ 9223372036854775807) (hs : s.size ≤ 100000) (w : World) (m : Int) (hm : w.cell? ⟨0, 0, none⟩ = some (.int .i64 m)) (its : List It) (o : Bool) (he : (feedN {} (toL s)).2 = its ∧ (feedN {} (toL s)).1.over = o) :
    Calls Tryd.prog 12 #[.string s, .int .i64 size] w fun e w' => ∃ v O, e = .returned (.tuple #[v, .bool o]) ∧ Own itm 41 w' O its v ∧ (∀ k, O k → w.heap.size ≤ k) ∧ Below w.heap.size w w' := by
  obtain ⟨rfl, rfl⟩ := he
  exact feed_any s size h1 h2 hs w m hm

set_option maxHeartbeats 1000000 in
set_option maxRecDepth 20000 in
theorem awake_any (w : World) (m : Int) (hm : w.cell? ⟨0, 0, none⟩ = some (.int .i64 m)) :
    Calls Tryd.prog 11 #[] w fun e w' => e = .returned (.bool true) ∧ Below w.heap.size w w' := by
  refine calls_gen fun R hR => ?_
  have HM := Lib.hid hm; have HML := Lib.hid (World.block_lt_of_cell? w _ hm)
  clear hm
  go_enter Tryd.func11, Tryd.ntmps11
  go_wp2_with fail
  refine (feed_at _ 100 (by decide) (by decide) (by decide) w m HM.out [⟨0, [71, 69, 84], [47], [([72, 111, 115, 116], [97])], [], false⟩] false (by decide +kernel)).mono ?_
  rintro e w1 ⟨v1, O1, rfl, ho1, hO1, hb1⟩
  obtain ⟨g1, n1, rfl, hG1, hn1, hg1, hget1⟩ := own_items ho1 (by decide)
  obtain ⟨fv1, hc1⟩ := hget1 0 _ rfl
  have HC1 := Lib.hid hc1; have HB1 := Lib.hid hb1
  clear ho1 hO1 hget1 hc1 hb1
  go_wp2_with fail
  refine (feed_at _ 100 (by decide) (by decide) (by decide) w1 m ((HB1.out.cell (p := ⟨0, 0, none⟩) HML.out).trans HM.out) [⟨400, [], [], [], [], false⟩] true (by decide +kernel)).mono ?_
  rintro e w2 ⟨v2, O2, rfl, ho2, hO2, hb2⟩
  obtain ⟨g2, n2, rfl, hG2, hn2, hg2, hget2⟩ := own_items ho2 (by decide)
  obtain ⟨fv2, hc2⟩ := hget2 0 _ rfl
  have hc1 := HC1.out.below hg1 hb2
  have a0 := hc1.c0
  have a2 := hc1.c2
  have b0 := hc2.c0
  have hg1' := Nat.lt_of_lt_of_le hg1 hb2.size
  have HB2 := Lib.hid (HB1.out.trans (hb2.mono HB1.out.size))
  clear hc1 hc2 hget2 hb2 ho2
  simp only [Nat.zero_mul, Nat.zero_add, List.length_cons, List.length_nil] at a0 a2 b0 hn1 hn2 ⊢
  obtain ⟨X, hX⟩ : ∃ X, ofL [47] = X := ⟨_, rfl⟩
  have hx : (X.toList == [47]) = true := by rw [← hX, toList_ofL]; rfl
  rw [hX] at a2
  clear hX
  go_wp2_with fail
  go_ret
  exact hR _ _ ⟨rfl, HB2.out⟩
end Go.Proofs.YtaihjnicondifaaDoor.Asc
