/-
  A net in memory: what its cells say; contracts of Len and Peek.
  Lengths within the rows' own reach.
-/
import Derived.Test.YtmbkfhfidjplnaaNetA
namespace Go.Proofs.Ytmbkfhfidjplnaa.Nt
open Go Go.RowKit Go.Proofs.Ytmbkfhfidjplnaa.Pb

/-- block b is a struct of one field, a slice of packets that it owns -/
def NetAt (t : TypeId) (w : World) (F : Nat → Prop) (b : Nat) (l : List Pk) : Prop :=
  ∃ v, w.heap[b]? = some (.cells #[v] t (0, 0)) ∧ F b ∧ Own pkt 33 w (fun k => F k ∧ k ≠ b) l v

theorem pkts_get {w : World} {F : Nat → Prop} {e : TypeId} {l : List Pk} {v : Value} (h : Own pkt e w F l v) :
    ∃ A c, v = .slice A l.length c ∧ l.length ≤ c ∧ (∀ k, k < l.length → ∃ g, A = some ⟨g, 0, none⟩ ∧ g < w.heap.size ∧ ∀ x, l[k]? = some x → ∃ B c', View Rp.u8 w (fun i => F i ∧ i ≠ g) x.2.2 (.slice B x.2.2.length c') ∧
      w.cell? ⟨g, k * 3, none⟩ = some (.int .i64 x.1) ∧ w.cell? ⟨g, k * 3 + 1, none⟩ = some (.int .i64 x.2.1) ∧ w.cell? ⟨g, k * 3 + 2, none⟩ = some (.slice B x.2.2.length c')) := by
  obtain ⟨A, c, rfl, hc⟩ := h.slice
  refine ⟨A, c, rfl, hc, fun k hk => ?_⟩
  obtain ⟨cells, ⟨hl, h1⟩, hF, hel⟩ := h
  rcases h1 with ⟨_, e0⟩ | ⟨g, cap, cur, e1, _, hg, _, _, _, ht⟩
  · omega
  · cases e1
    refine ⟨g, rfl, blk_lt hg, fun x hx => ?_⟩
    obtain ⟨us, cs, bs, rfl, ha, hr, _, _⟩ := hel.get (fun _ _ h => pkt.len h) k hk
    have hx' : l[k] = x := by rw [List.getElem?_eq_getElem hk] at hx; exact Option.some.inj hx
    rw [hx'] at hr
    obtain ⟨c1, c2, rfl, rfl, d1, d2, rfl, rfl, u, rfl, hu⟩ := hr
    obtain ⟨B, c', rfl, hc'⟩ : ∃ B c', u = .slice B x.2.2.length c' ∧ x.2.2.length ≤ c' := by obtain ⟨B, c', e, h, _⟩ := hu; exact ⟨B, c', e, h⟩
    have hcell : ∀ j y, ([Value.int .i64 x.1] ++ ([Value.int .i64 x.2.1] ++ [Value.slice B x.2.2.length c']))[j]? = some y → w.cell? ⟨g, k * 3 + j, none⟩ = some y := by
      intro j y hj
      rw [blk_cell hg]
      have hjl := (List.getElem?_eq_some_iff.1 hj).1
      have h3 : us.length = k * 3 := ha
      have : cur.toList[k * 3 + j]? = some y := by
        have h4 : (cur.toList.take (l.length * pkt.sz))[k * 3 + j]? = some y := by
          rw [ht, List.append_assoc, List.getElem?_append_right (by omega), h3, Nat.add_sub_cancel_left, List.getElem?_append_left hjl]; exact hj
        rw [List.getElem?_take] at h4
        split at h4
        · exact h4
        · cases h4
      simpa using this
    refine ⟨B, c', hu.mono fun i hi => ⟨hi.1, fun e => hi.2 (by rw [e]; rfl)⟩, hcell 0 _ rfl, hcell 1 _ rfl, hcell 2 _ rfl⟩

theorem NetAt.move {t : TypeId} {w w' : World} {F : Nat → Prop} {b : Nat} {l : List Pk} (hm : ∀ k, F k → k < w.heap.size → w'.heap[k]? = w.heap[k]?) (h : NetAt t w F b l) : NetAt t w' F b l := by
  obtain ⟨v, hb, hF, ho⟩ := h
  exact ⟨v, (hm b hF (blk_lt hb)).trans hb, hF, ho.move fun k hk hl => hm k hk.1 hl⟩
theorem NetAt.keep {t : TypeId} {w w' : World} {F G : Nat → Prop} {b : Nat} {l : List Pk} (hk : Keep G w w') (hd : ∀ k, F k → ¬ G k) (h : NetAt t w F b l) : NetAt t w' F b l :=
  h.move fun k hF hl => hk.block k hl (hd k hF)
theorem NetAt.below {t : TypeId} {w w' : World} {F : Nat → Prop} {b : Nat} {l : List Pk} (hk : Below w.heap.size w w') (h : NetAt t w F b l) : NetAt t w' F b l :=
  h.move fun k _ hl => hk.block k hl
theorem NetAt.mono {t : TypeId} {w : World} {F G : Nat → Prop} {b : Nat} {l : List Pk} (hF : ∀ k, F k → G k) (h : NetAt t w F b l) : NetAt t w G b l := by
  obtain ⟨v, hb, hf, ho⟩ := h
  exact ⟨v, hb, hF b hf, ho.mono fun k hk => ⟨hF k hk.1, hk.2⟩⟩
theorem NetAt.bnd {t : TypeId} {w : World} {F : Nat → Prop} {b : Nat} {l : List Pk} (h : NetAt t w F b l) : NetAt t w (fun k => F k ∧ k < w.heap.size) b l := by
  obtain ⟨v, hb, hf, ho⟩ := h
  exact ⟨v, hb, ⟨hf, blk_lt hb⟩, ho.bnd.mono fun k hk => ⟨⟨hk.1.1, hk.2⟩, hk.1.2⟩⟩
theorem NetAt.new {t : TypeId} {w : World} {F : Nat → Prop} {b : Nat} {l : List Pk} (h : NetAt t w F b l) (o : Obj) : NetAt t (w.alloc o) F b l :=
  h.move fun _ _ hl => Below.heap_alloc _ _ _ hl

theorem len_row (t : TypeId) (w : World) (F : Nat → Prop) (b : Nat) (l : List Pk) (h : NetAt t w F b l) :
    Calls Try.prog 28 #[.pointer (some ⟨b, 0, none⟩)] w fun e w' => e = .returned (.int .i64 l.length) ∧ w = w' := by
  refine calls_gen fun R hR => ?_
  obtain ⟨v, hb, _, ho⟩ := h
  obtain ⟨A, c, rfl, hc⟩ := ho.slice
  have h0 := blk_cell hb 0
  simp at h0
  clear ho hb
  go_enter Try.func28, Try.ntmps28
  go_wp2_with fail
  go_ret
  exact hR _ _ ⟨rfl, rfl⟩
theorem len_any (t : TypeId) (w : World) (F : Nat → Prop) (b : Nat) (l : List Pk) (h : NetAt t w F b l) :
    Calls Try.prog 12 #[.pointer (some ⟨b, 0, none⟩)] w fun e w' => e = .returned (.int .i64 l.length) ∧ w = w' := by
  refine calls_gen fun R hR => ?_
  have H := Lib.hid h
  obtain ⟨v, hb, _, ho⟩ := h
  have h0 := blk_cell hb 0
  simp at h0
  clear ho hb
  go_enter Try.func12, Try.ntmps12
  go_wp2_with fail
  refine (len_row t w F b l H.out).mono ?_
  rintro e w' ⟨rfl, rfl⟩
  go_wp2_with fail
  go_ret
  exact hR _ _ ⟨rfl, rfl⟩
theorem len_nil (w : World) :
    Calls Try.prog 12 #[.pointer none] w fun e w' => e = .returned (.int .i64 0) ∧ w = w' := by
  refine calls_gen fun R hR => ?_
  go_enter Try.func12, Try.ntmps12
  go_wp2_with fail
  go_ret
  exact hR _ _ ⟨rfl, rfl⟩

/-- what Peek tells -/
def peek (l : List Pk) (k : Int) : Option Pk := if k < 0 then none else l[k.toNat]?
/-- a packet that is told: in memory of its own -/
def Told (w w' : World) (o : Option Pk) (v : Value) (ok : Bool) : Prop :=
  ok = o.isSome ∧ ∃ u, v = pv (o.getD (0, 0, [])) u ∧ Own Rp.u8 5 w' (w.heap.size ≤ ·) (o.getD (0, 0, [])).2.2 u

set_option maxHeartbeats 1000000 in
theorem peek_row (t : TypeId) (w : World) (F : Nat → Prop) (b : Nat) (l : List Pk) (h : NetAt t w F b l) (k : Int) (hb : ∀ x ∈ l, x.2.2.length ≤ 140737488351232) :
    Calls Try.prog 31 #[.pointer (some ⟨b, 0, none⟩), .int .i64 k] w fun e w' => ∃ v ok, e = .returned (.tuple #[v, .bool ok]) ∧ Told w w' (peek l k) v ok ∧ Below w.heap.size w w' := by
  refine calls_gen fun R hR => ?_
  have H := Lib.hid h
  obtain ⟨v, hbk, _, ho⟩ := h
  obtain ⟨A, c, rfl, hc, hget⟩ := pkts_get ho
  have h0 := blk_cell hbk 0
  have hlt := blk_lt hbk
  simp at h0
  clear ho hbk
  have HG := Lib.hid hget; have HB := Lib.hid hb; clear hget hb
  have hnew : (w.alloc (Obj.cells #[Value.int IntKind.i64 0, Value.int IntKind.i64 0, Value.slice none 0 0] 33)).heap.size = w.heap.size + 1 := by simp
  have HN := Lib.hid hnew
  have hbel : Below w.heap.size w (w.alloc (Obj.cells #[Value.int IntKind.i64 0, Value.int IntKind.i64 0, Value.slice none 0 0] 33)) := (Below.refl _ _).alloc (Nat.le_refl _) _
  have HBL := Lib.hid hbel
  clear hnew hbel
  by_cases hk0 : k < 0
  · have hp : Hid (peek l k = none) := Lib.hid (if_pos hk0)
    go_enter Try.func31, Try.ntmps31
    go_wp2_with fail
    refine bodyPost_ret (v := .tuple #[pv (0, 0, []) (.slice none 0 0), .bool false]) (by simp [results, Try.results31, go_sem, pv]) rfl ?_
    refine hR _ _ ⟨_, _, rfl, ⟨by rw [hp.out]; rfl, _, by rw [hp.out]; rfl, by rw [hp.out]; exact Own.nil _ _ _ _⟩, ?_⟩
    exact HBL.out
  · obtain ⟨n, rfl⟩ := Int.eq_ofNat_of_zero_le (Int.not_lt.1 hk0)
    have hp : Hid (peek l n = l[n]?) := Lib.hid (by unfold peek; rw [if_neg hk0]; rfl)
    by_cases hn : n < l.length
    · obtain ⟨g, rfl, hg, hx⟩ := HG.out n hn
      obtain ⟨x, he⟩ : ∃ x, l[n]? = some x := ⟨_, List.getElem?_eq_getElem hn⟩
      obtain ⟨B, c', hv, hc0, hc1, hc2⟩ := hx x he
      rw [he] at hp
      have hxl := HB.out x (List.mem_of_getElem? he)
      have HV := Lib.hid hv
      clear hx he hv HG HB
      go_enter Try.func31, Try.ntmps31
      go_wp2_with fail
      refine (len_row t _ F b l (H.out.new _)).mono ?_
      rintro e w' ⟨rfl, rfl⟩
      go_wp2_with fail
      change Calls _ _ #[pv x (Value.slice B x.2.2.length c')] _ _
      refine (own_any x _ _ _ (HV.out.below HBL.out) hxl).mono ?_
      rintro e w3 ⟨u, rfl, hu, hb⟩
      rw [HN.out] at hu hb
      obtain ⟨A', c2, rfl, hc2'⟩ := hu.slice
      have g2 : w3.heap[w.heap.size]? = some (.cells #[Value.int IntKind.i64 0, Value.int IntKind.i64 0, Value.slice none 0 0] 33 (0, 0)) := by
        rw [hb.block _ (by omega)]
        exact blk_new w _
      have c20 := blk_cell g2 0
      have f20 := blk_free g2 0
      have c21 := blk_cell g2 1
      have f21 := blk_free g2 1
      have c22 := blk_cell g2 2
      have f22 := blk_free g2 2
      simp at c20 c21 c22
      have hk : Keep (fun k => k = w.heap.size) w3 (((w3.setCell ⟨w.heap.size, 0, none⟩ (Value.int IntKind.i64 x.1)).setCell ⟨w.heap.size, 1, none⟩ (Value.int IntKind.i64 x.2.1)).setCell ⟨w.heap.size, 2, none⟩ (Value.slice A' x.2.2.length c2)) :=
        keep_put3 _ _ _ _ _
      have HK := Lib.hid hk
      have HU := Lib.hid (hu.keep hk (fun k h => by omega))
      have HB := Lib.hid hb
      clear g2 hu hb hk
      unfold pv
      go_wp2_with fail
      refine bodyPost_ret (v := .tuple #[pv x (Value.slice A' x.2.2.length c2), .bool true]) (by simp [results, Try.results31, go_sem, c20, c21, c22, pv]) rfl ?_
      refine hR _ _ ⟨_, _, rfl, ⟨by rw [hp.out]; rfl, _, by rw [hp.out]; rfl, by rw [hp.out]; exact HU.out.mono fun k h => by omega⟩, ?_⟩
      exact (HBL.out.trans (HB.out.mono (by omega))).trans (HK.out.below (by have := HB.out.size; rw [HN.out] at this; omega) (fun i hi h => by omega))
    · have hp2 : Hid (peek l n = none) := Lib.hid (hp.out.trans (List.getElem?_eq_none (by omega)))
      clear hp
      go_enter Try.func31, Try.ntmps31
      go_wp2_with fail
      refine (len_row t _ F b l (H.out.new _)).mono ?_
      rintro e w' ⟨rfl, rfl⟩
      go_wp2_with fail
      refine bodyPost_ret (v := .tuple #[pv (0, 0, []) (.slice none 0 0), .bool false]) (by simp [results, Try.results31, go_sem, pv]) rfl ?_
      exact hR _ _ ⟨_, _, rfl, ⟨by rw [hp2.out]; rfl, _, by rw [hp2.out]; rfl, by rw [hp2.out]; exact Own.nil _ _ _ _⟩, HBL.out⟩

set_option maxHeartbeats 1000000 in
theorem peek_any (t : TypeId) (w : World) (F : Nat → Prop) (b : Nat) (l : List Pk) (h : NetAt t w F b l) (k : Int) (hb : ∀ x ∈ l, x.2.2.length ≤ 140737488351232) :
    Calls Try.prog 16 #[.pointer (some ⟨b, 0, none⟩), .int .i64 k] w fun e w' => ∃ v ok, e = .returned (.tuple #[v, .bool ok]) ∧ Told w w' (peek l k) v ok ∧ Below w.heap.size w w' := by
  refine calls_gen fun R hR => ?_
  have H := Lib.hid h
  obtain ⟨v, hbk, _, ho⟩ := h
  have hlt := blk_lt hbk
  have h0 := blk_cell hbk 0
  simp at h0
  have HB := Lib.hid hb
  clear ho hbk hb
  have hnew : (w.alloc (Obj.cells #[Value.int IntKind.i64 0, Value.int IntKind.i64 0, Value.slice none 0 0] 33)).heap.size = w.heap.size + 1 := by simp
  have HN := Lib.hid hnew
  have HBL := Lib.hid (show Below w.heap.size w (w.alloc (Obj.cells #[Value.int IntKind.i64 0, Value.int IntKind.i64 0, Value.slice none 0 0] 33)) from (Below.refl _ _).alloc (Nat.le_refl _) _)
  clear hnew
  go_enter Try.func16, Try.ntmps16
  go_wp2_with fail
  refine (peek_row t _ F b l (H.out.new _) k HB.out).mono ?_
  rintro e w3 ⟨u, ok, rfl, ⟨hok, u2, rfl, hu⟩, hb⟩
  rw [HN.out] at hu hb
  obtain ⟨A', c2, rfl, hc2'⟩ := hu.slice
  have g2 : w3.heap[w.heap.size]? = some (.cells #[Value.int IntKind.i64 0, Value.int IntKind.i64 0, Value.slice none 0 0] 33 (0, 0)) := by
    rw [hb.block _ (by omega)]
    exact blk_new w _
  have c20 := blk_cell g2 0
  have f20 := blk_free g2 0
  have c21 := blk_cell g2 1
  have f21 := blk_free g2 1
  have c22 := blk_cell g2 2
  have f22 := blk_free g2 2
  simp at c20 c21 c22
  obtain ⟨x, hx⟩ : ∃ x, (peek l k).getD (0, 0, []) = x := ⟨_, rfl⟩
  rw [hx] at hu hc2' ⊢
  have HX := Lib.hid hx
  have HOK := Lib.hid hok
  clear hx hok
  have hk : Keep (fun k => k = w.heap.size) w3 (((w3.setCell ⟨w.heap.size, 0, none⟩ (Value.int IntKind.i64 x.1)).setCell ⟨w.heap.size, 1, none⟩ (Value.int IntKind.i64 x.2.1)).setCell ⟨w.heap.size, 2, none⟩ (Value.slice A' x.2.2.length c2)) :=
    keep_put3 _ _ _ _ _
  have HK := Lib.hid hk
  have HU := Lib.hid (hu.keep hk (fun k h => by omega))
  have HB2 := Lib.hid hb
  clear g2 hu hb hk
  unfold pv
  go_wp2_with fail
  refine bodyPost_ret (v := .tuple #[pv x (Value.slice A' x.2.2.length c2), .bool ok]) (by simp [results, Try.results16, go_sem, c20, c21, c22, pv]) rfl ?_
  refine hR _ _ ⟨_, _, rfl, ⟨HOK.out, _, by rw [HX.out], by rw [HX.out]; exact HU.out.mono fun k h => by omega⟩, ?_⟩
  exact (HBL.out.trans (HB2.out.mono (by omega))).trans (HK.out.below (by have := HB2.out.size; rw [HN.out] at this; omega) (fun i hi h => by omega))
theorem peek_nil (w : World) (k : Int) :
    Calls Try.prog 16 #[.pointer none, .int .i64 k] w fun e w' => ∃ v, e = .returned (.tuple #[v, .bool false]) ∧ Told w w' none v false ∧ Below w.heap.size w w' := by
  refine calls_gen fun R hR => ?_
  go_enter Try.func16, Try.ntmps16
  go_wp2_with fail
  refine bodyPost_ret (v := .tuple #[pv (0, 0, []) (.slice none 0 0), .bool false]) (by simp [results, Try.results16, go_sem, pv]) rfl ?_
  exact hR _ _ ⟨_, rfl, ⟨rfl, _, rfl, Own.nil _ _ _ _⟩, (Below.refl _ _).alloc (Nat.le_refl _) _⟩
end Go.Proofs.Ytmbkfhfidjplnaa.Nt
