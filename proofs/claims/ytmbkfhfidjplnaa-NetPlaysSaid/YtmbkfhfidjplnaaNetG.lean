/-
  Contracts of the reference's net: Peek, Deliver.
  Lengths within the rows' own reach.
-/
import Derived.Test.YtmbkfhfidjplnaaNetF
namespace Go.Proofs.Ytmbkfhfidjplnaa.Nt
open Go Go.RowKit Go.Proofs.Ytmbkfhfidjplnaa.Pb

/-- a packet that is told by the reference: its bytes lie in the net's own memory -/
def Lent (w' : World) (F : Nat → Prop) (o : Option Pk) (v : Value) (ok : Bool) : Prop :=
  ok = o.isSome ∧ ∃ u, v = pv (o.getD (0, 0, [])) u ∧ View Rp.u8 w' F (o.getD (0, 0, [])).2.2 u

set_option maxHeartbeats 1000000 in
theorem rpeek_any (t : TypeId) (w : World) (F : Nat → Prop) (b : Nat) (l : List Pk) (h : NetAt t w F b l) (k : Int) :
    Calls Try.prog 23 #[.pointer (some ⟨b, 0, none⟩), .int .i64 k] w fun e w' => ∃ v ok, e = .returned (.tuple #[v, .bool ok]) ∧ Lent w' (fun i => F i ∧ i ≠ b) (peek l k) v ok ∧ Below w.heap.size w w' := by
  refine calls_gen fun R hR => ?_
  obtain ⟨v, hbk, _, ho⟩ := h
  obtain ⟨A, c, rfl, hc, hget⟩ := pkts_get ho
  have h0 := blk_cell hbk 0
  have hlt := blk_lt hbk
  simp at h0
  clear ho hbk
  have HG := Lib.hid hget; clear hget
  have HBL := Lib.hid (below_new w (Obj.cells #[Value.int IntKind.i64 0, Value.int IntKind.i64 0, Value.slice none 0 0] 33))
  by_cases hk0 : k < 0
  · have hp : Hid (peek l k = none) := Lib.hid (if_pos hk0)
    go_enter Try.func23, Try.ntmps23
    go_wp2_with fail
    refine bodyPost_ret (v := .tuple #[pv (0, 0, []) (.slice none 0 0), .bool false]) (by simp [results, Try.results23, go_sem, pv]) rfl ?_
    exact hR _ _ ⟨_, _, rfl, ⟨by rw [hp.out]; rfl, _, by rw [hp.out]; rfl, by rw [hp.out]; exact View.nil _ _ _⟩, HBL.out⟩
  · obtain ⟨n, rfl⟩ := Int.eq_ofNat_of_zero_le (Int.not_lt.1 hk0)
    have hp : Hid (peek l n = l[n]?) := Lib.hid (by unfold peek; rw [if_neg hk0]; rfl)
    by_cases hn : n < l.length
    · obtain ⟨g, rfl, hg, hx⟩ := HG.out n hn
      obtain ⟨x, he⟩ : ∃ x, l[n]? = some x := ⟨_, List.getElem?_eq_getElem hn⟩
      obtain ⟨B, c', hv, hc0, hc1, hc2⟩ := hx x he
      rw [he] at hp
      have HV := Lib.hid (hv.mono (F' := fun i => F i ∧ i ≠ b) fun i h => h.1)
      clear hx he hv HG
      go_enter Try.func23, Try.ntmps23
      go_wp2_with fail
      refine bodyPost_ret (v := .tuple #[pv x (Value.slice B x.2.2.length c'), .bool true]) (by simp [results, Try.results23, go_sem, pv]) rfl ?_
      refine hR _ _ ⟨_, _, rfl, ⟨by rw [hp.out]; rfl, _, by rw [hp.out]; rfl, by rw [hp.out]; exact HV.out.below (below_new _ _)⟩, below_new _ _⟩
    · have hp2 : Hid (peek l n = none) := Lib.hid (hp.out.trans (List.getElem?_eq_none (by omega)))
      clear hp
      go_enter Try.func23, Try.ntmps23
      go_wp2_with fail
      refine bodyPost_ret (v := .tuple #[pv (0, 0, []) (.slice none 0 0), .bool false]) (by simp [results, Try.results23, go_sem, pv]) rfl ?_
      exact hR _ _ ⟨_, _, rfl, ⟨by rw [hp2.out]; rfl, _, by rw [hp2.out]; rfl, by rw [hp2.out]; exact View.nil _ _ _⟩, HBL.out⟩

set_option maxHeartbeats 1000000 in
theorem rdeliver_any (t : TypeId) (w : World) (F : Nat → Prop) (b : Nat) (l : List Pk) (h : NetAt t w F b l) (k : Int) (hl : l.length ≤ 1000000) :
    Calls Try.prog 18 #[.pointer (some ⟨b, 0, none⟩), .int .i64 k] w fun e w' => ∃ v ok, e = .returned (.tuple #[v, .bool ok]) ∧ Lent w' (fun i => F i ∧ i ≠ b) (peek l k) v ok ∧ Keep (fun i => i = b) w w' ∧ NetAt t w' (fun j => F j ∨ (w.heap.size ≤ j ∧ j < w'.heap.size)) b (gone l k) := by
  refine calls_gen fun R hR => ?_
  have H := Lib.hid h.bnd
  have hlt : b < w.heap.size := by obtain ⟨_, hb, _⟩ := h; exact blk_lt hb
  have hnew : (w.alloc (Obj.cells #[Value.int IntKind.i64 0, Value.int IntKind.i64 0, Value.slice none 0 0] 33)).heap.size = w.heap.size + 1 := by simp
  have HN := Lib.hid hnew
  have HBL := Lib.hid (below_new w (Obj.cells #[Value.int IntKind.i64 0, Value.int IntKind.i64 0, Value.slice none 0 0] 33))
  clear hnew h
  go_enter Try.func18, Try.ntmps18
  go_upto_region 1 with fail
  go_cut [6, 7] (fun p q wc => ∃ c x u ok, p = .pointer (some ⟨c, 0, none⟩) ∧ q = .bool ok ∧ w.heap.size < c ∧ ok = (peek l k).isSome ∧ x = (peek l k).getD (0, 0, []) ∧ Below w.heap.size w wc ∧
    wc.heap[w.heap.size]? = some (.cells #[Value.int IntKind.i64 0, Value.int IntKind.i64 0, Value.slice none 0 0] 33 (0, 0)) ∧
    wc.heap[c]? = some (.cells #[Value.int IntKind.i64 x.1, Value.int IntKind.i64 x.2.1, u] 33 (0, 0)) ∧ View Rp.u8 wc (fun k => (F k ∧ k < w.heap.size) ∧ k ≠ b) x.2.2 u)
  case first =>
    go_wp2_with fail
    refine (rpeek_any t _ _ b l (H.out.new _) k).mono ?_
    rintro e w3 ⟨u, ok, rfl, ⟨hok, u2, rfl, hu⟩, hb⟩
    rw [HN.out] at hb
    obtain ⟨A', c2, e2, hc2'⟩ : ∃ A c, u2 = .slice A ((peek l k).getD (0, 0, [])).2.2.length c ∧ ((peek l k).getD (0, 0, [])).2.2.length ≤ c := by obtain ⟨A, c, e, h, _⟩ := hu; exact ⟨A, c, e, h⟩
    subst e2
    obtain ⟨x, hx⟩ : ∃ x, (peek l k).getD (0, 0, []) = x := ⟨_, rfl⟩
    rw [hx] at hu hc2' ⊢
    have HX := Lib.hid hx; have HU := Lib.hid hu; have HB3 := Lib.hid hb; have HOK := Lib.hid hok
    clear hx hu hb hok
    unfold pv
    go_wp2_with fail
    go_meet
    have hs3 := HB3.out.size
    rw [HN.out] at hs3
    obtain ⟨W, hW⟩ : ∃ W, w3.alloc (.cells #[.int .i64 x.1, .int .i64 x.2.1, .slice A' x.2.2.length c2] 33) = W := ⟨_, rfl⟩
    have g1 := blk_new w3 (.cells #[.int .i64 x.1, .int .i64 x.2.1, .slice A' x.2.2.length c2] 33)
    have g2 := below_new w3 (.cells #[.int .i64 x.1, .int .i64 x.2.1, .slice A' x.2.2.length c2] 33)
    rw [hW] at g1 g2 ⊢
    clear hW
    have g3 := (HB3.out.block w.heap.size (by omega)).trans (blk_new w _)
    refine ⟨w3.heap.size, x, .slice A' x.2.2.length c2, ok, rfl, rfl, hs3, HOK.out, HX.out.symm, ?_, ?_, g1, ?_⟩
    · exact (HBL.out.trans (HB3.out.mono (by omega))).trans (g2.mono (by omega))
    · exact (g2.block _ (by omega)).trans g3
    · exact HU.out.below g2
  case rest =>
    obtain ⟨c, x, u, ok, rfl, rfl, hwc, hok, hx, hb, g0, g1, hu⟩ := hcut
    obtain ⟨A', c2, e2, hc2⟩ : ∃ A c, u = .slice A x.2.2.length c ∧ x.2.2.length ≤ c := by obtain ⟨A, c, e, h, _⟩ := hu; exact ⟨A, c, e, h⟩
    subst e2
    have HU := Lib.hid hu; have HBB := Lib.hid hb
    have hclt := blk_lt g1
    cases hp : peek l k with
    | none =>
      rw [hp] at hok hx
      have hG := Lib.hid (gone_none l k hp)
      have HP := Lib.hid hp
      have HX := Lib.hid hx
      cases hok
      have c10 := blk_cell g1 0
      have c20 := blk_cell g0 0
      have f20 := blk_free g0 0
      have c11 := blk_cell g1 1
      have c21 := blk_cell g0 1
      have f21 := blk_free g0 1
      have c12 := blk_cell g1 2
      have c22 := blk_cell g0 2
      have f22 := blk_free g0 2
      simp at c10 c11 c12 c20 c21 c22
      clear hp hu hb g0 g1 hx
      rw [show (none : Option Pk).isSome = false from rfl]
      go_wp2_with fail
      have hk := keep_put3 wc w.heap.size (.int .i64 x.1) (.int .i64 x.2.1) (.slice A' x.2.2.length c2)
      refine bodyPost_ret (v := .tuple #[pv x (Value.slice A' x.2.2.length c2), .bool false]) (by simp [results, Try.results18, go_sem, c20, c21, c22, pv]) rfl ?_
      have hbl := HBB.out.trans (hk.below (B := w.heap.size) HBB.out.size (fun i hi h => by omega))
      refine hR _ _ ⟨_, _, rfl, ⟨by rw [HP.out]; rfl, _, by rw [HP.out]; rw [HX.out], by rw [HP.out, ← HX.out]; exact (HU.out.keep hk (fun k h e => by have := h.1.2; omega)).mono fun k h => ⟨h.1.1, h.2⟩⟩, Keep.old hbl, by rw [hG.out]; exact (H.out.below hbl).mono fun k hk => .inl hk.1⟩
    | some y =>
      rw [hp] at hok hx
      have HP := Lib.hid hp
      have HX := Lib.hid hx
      cases hok
      have hk0 : 0 ≤ k := by
        by_cases h : k < 0
        · unfold peek at hp; rw [if_pos h] at hp; cases hp
        · omega
      obtain ⟨n, rfl⟩ := Int.eq_ofNat_of_zero_le hk0
      have hpe : l[n]? = some y := by unfold peek at hp; rw [if_neg (by omega)] at hp; exact hp
      have hn : n < l.length := (List.getElem?_eq_some_iff.1 hpe).1
      obtain ⟨v, hbk, hFb, ho⟩ := H.out.below hb
      have hne : l ≠ [] := by rintro rfl; simp at hn
      have hvw := ho.view
      obtain ⟨g, cap, cur, cells, rfl, hFg, hgb, hlc, hcm, -⟩ := ho.block hne
      have h0 := blk_cell hbk 0
      simp at h0
      have hglt := blk_lt hgb
      have HBK := Lib.hid hbk; have HO := Lib.hid ho; have G0 := Lib.hid g0; have G1 := Lib.hid g1
      have HT1 := Lib.hid (hvw.take n (by omega) (by simp))
      have hd1 := hvw.drop (n + 1) (by omega)
      rw [Nat.zero_add, show pkt.sz = 3 from rfl] at hd1
      have HDa : Hid (cap = n + 1 → View pkt wc (fun k => (F k ∧ k < w.heap.size) ∧ k ≠ b) (l.drop (n + 1)) (.slice (some ⟨g, 0, none⟩) (l.length - (n + 1)) 0)) := Lib.hid fun h => by rw [if_pos h, h, Nat.sub_self] at hd1; exact hd1
      have HDb : Hid (¬ cap = n + 1 → View pkt wc (fun k => (F k ∧ k < w.heap.size) ∧ k ≠ b) (l.drop (n + 1)) (.slice (some ⟨g, (n + 1) * 3, none⟩) (l.length - (n + 1)) (cap - (n + 1)))) := Lib.hid fun h => by rw [if_neg h] at hd1; exact hd1
      clear hd1
      have hw1 : IntKind.i64.wrap ((n : Int) + 1) = (n : Int) + 1 := by rw [IntKind.wrap_i64]; omega
      have hnc : n ≤ cap := by omega
      clear hp hu hb g0 g1 hx hpe hbk ho hvw hgb
      rw [show (some y : Option Pk).isSome = true from rfl]
      go_wp2_with (with_reducible (first | refine stop_append ?_))
      refine ⟨wp_append_view (r := pkt) (F := fun _ => False) Try.underlying25 infoP rfl (by decide) (Own.nil pkt _ wc _) rfl rfl HT1.out (fun k _ e => by simp [Value.ownBlock] at e) (by simp; unfold maxLen at *; omega) (by simp; omega) ?_⟩
      intro v1 w1 ho1 hk1 _ hob1
      have hb1 : Below wc.heap.size wc w1 := hk1.below (Nat.le_refl _) (fun i _ e => by simp [Value.ownBlock] at e)
      obtain ⟨z1, hz1⟩ : ∃ z, [] ++ l.take n = z := ⟨_, rfl⟩
      rw [hz1] at ho1
      have hz1l : z1.length = n := by rw [← hz1, List.nil_append, List.length_take]; omega
      have HZ1 : Hid (l.take n = z1) := Lib.hid (by rw [← hz1]; rfl)
      obtain ⟨A1, c1, rfl, hc1⟩ := ho1.slice
      have hob1' : Hid (∀ k, (Value.slice A1 z1.length c1).ownBlock = some k → wc.heap.size ≤ k) := Lib.hid fun k hk => by
        rcases hob1 with h | ⟨j, h, hj⟩
        · rw [h] at hk; simp [Value.ownBlock] at hk
        · rw [h] at hk; cases hk; exact hj
      have hbk1 := (hb1.block b (by omega)).trans HBK.out
      have h01 := blk_cell hbk1 0
      simp at h01
      have HBK1 := Lib.hid hbk1
      have G01 := Lib.hid ((hb1.block w.heap.size (by omega)).trans G0.out)
      have G11 := Lib.hid ((hb1.block c hclt).trans G1.out)
      have HU1 := Lib.hid (HU.out.below hb1)
      have HDa2 := Lib.hid fun h => (HDa.out h).below hb1
      have HDb2 := Lib.hid fun h => (HDb.out h).below hb1
      have HO1 := Lib.hid ho1; have HB1 := Lib.hid hb1
      clear hz1 ho1 hk1 hob1 hbk1 hb1 h0 HBK G0 G1 HU HDa HDb HT1
      go_wp2_with (with_reducible (first | refine stop_append ?_))
      all_goals
        refine ⟨wp_append_view (r := pkt) Try.underlying25 infoP rfl (by decide) (G := fun k => (F k ∧ k < w.heap.size) ∧ k ≠ b) (ys := l.drop (n + 1)) HO1.out (by simp [Act.eval, hz1l]) rfl (by first | exact HDa2.out (by assumption) | exact HDb2.out (by assumption)) (fun k hk e => by have := hob1'.out k e.symm; omega) (by rw [List.length_drop]; unfold maxLen; omega) (by rw [List.length_drop]; omega) ?_⟩
        intro v2 w2 ho2 hk2 _ _
        have HB2 := HB1.out.size
        obtain ⟨z2, hz2⟩ : ∃ z, z1 ++ l.drop (n + 1) = z := ⟨_, rfl⟩
        rw [hz2] at ho2
        have HZ2 := Lib.hid hz2
        obtain ⟨A3, c3, rfl, hc3⟩ := ho2.slice
        have hk2' : Keep (fun k => wc.heap.size ≤ k) w1 w2 := hk2.mono fun i _ e => hob1'.out i e.symm
        have hb2 := hk2'.blk HBK1.out (by show ¬ wc.heap.size ≤ b; omega)
        have g02 := hk2'.blk G01.out (by show ¬ wc.heap.size ≤ w.heap.size; omega)
        have g12 := hk2'.blk G11.out (by omega)
        have HU2 := Lib.hid (HU1.out.keep hk2' (fun k h e => by omega))
        have HB2' := Lib.hid hb2; have HO2 := Lib.hid ho2; have HK2 := Lib.hid hk2'
        have c10 := blk_cell g12 0
        have c20 := blk_cell g02 0
        have f20 := blk_free g02 0
        have c11 := blk_cell g12 1
        have c21 := blk_cell g02 1
        have f21 := blk_free g02 1
        have c12 := blk_cell g12 2
        have c22 := blk_cell g02 2
        have f22 := blk_free g02 2
        have cb0 := blk_cell hb2 0
        have fb0 := blk_free hb2 0
        simp at c10 c11 c12 c20 c21 c22 cb0
        have hcb : c ≠ b := by omega
        have hwb : w.heap.size ≠ b := by omega
        have hs12 := hk2'.size
        clear g02 g12 hb2 ho2 hk2' hk2 hz2 h01 HBK1 G01 G11 HU1 HDa2 HDb2
        go_wp2_with fail
        obtain ⟨S, hS⟩ : ∃ S, Value.slice A3 z2.length c3 = S := ⟨_, rfl⟩
        rw [hS] at HO2
        have hwcs := HBB.out.size
        have k0 : Keep (fun k => k = b) w2 w2 := Keep.refl _ _
        have kS : Keep (fun k => k = b) w2 (w2.setCell ⟨b, 0, none⟩ S) := k0.set (p := ⟨b, 0, none⟩) rfl S
        have k3 := keep_put3 (w2.setCell ⟨b, 0, none⟩ S) w.heap.size (.int .i64 x.1) (.int .i64 x.2.1) (.slice A' x.2.2.length c2)
        have hblk : (w2.setCell ⟨b, 0, none⟩ S).heap[b]? = some (.cells #[S] t (0, 0)) := by have := blk_set HB2'.out 0 S; simpa using this
        have hblk' := k3.blk hblk (by omega)
        have kt : Keep (fun k => k = b ∨ k = w.heap.size) w2 _ := (kS.mono (G := fun k => k = b ∨ k = w.heap.size) (fun _ _ h => .inl h)).trans k3 (fun _ _ h => .inr h)
        have k01 : Keep (fun i => i = b) w w1 := (Keep.old (F := fun i => i = b) HBB.out).trans (Keep.old (F := fun i => i = b) HB1.out) (fun _ _ h => h)
        have k02 : Keep (fun i => i = b) w w2 := k01.trans HK2.out (fun i hi h => by omega)
        have kF := (k02.trans kS (fun _ _ h => h)).trans k3 (fun i hi h => by omega)
        refine bodyPost_ret (v := .tuple #[pv x (Value.slice A' x.2.2.length c2), .bool true]) (by simp [results, Try.results18, go_sem, c20, c21, c22, pv]) rfl ?_
        have hgn : gone l n = l.take n ++ l.drop (n + 1) := by unfold gone; rw [if_neg (by omega)]; rfl
        rw [hS]
        refine hR _ _ ⟨_, _, rfl, ⟨by rw [HP.out]; rfl, _, by rw [HP.out]; rw [HX.out], by rw [HP.out, ← HX.out]; exact (HU2.out.keep kt (fun k h => by omega)).mono fun k h => ⟨h.1.1, h.2⟩⟩, kF, ?_⟩
        rw [hgn, HZ1.out, HZ2.out]
        refine ⟨S, hblk', .inl hFb.1, (HO2.out.bnd.keep kt (fun k h => ?_)).mono fun k h => ?_⟩
        · rcases h.1 with (h1 | h1 | h1) | h1 | h1
          · exact h1.elim
          · have := h1.1.2; have := h1.2; omega
          · omega
          · have := h1.1.2; have := h1.2; omega
          · omega
        have h6 := h.2
        have hsz := kt.size
        rcases h.1 with (h1 | h1 | h1) | h1 | h1
        · exact h1.elim
        · exact ⟨.inl h1.1.1, h1.2⟩
        · exact ⟨.inr ⟨by omega, Nat.lt_of_lt_of_le h6 hsz⟩, by omega⟩
        · exact ⟨.inl h1.1.1, h1.2⟩
        · exact ⟨.inr ⟨by omega, Nat.lt_of_lt_of_le h6 hsz⟩, by omega⟩
end Go.Proofs.Ytmbkfhfidjplnaa.Nt
