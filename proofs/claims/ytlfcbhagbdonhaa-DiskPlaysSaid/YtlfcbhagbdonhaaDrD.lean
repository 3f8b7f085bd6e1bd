/-
  A file of the document's disk turns in its place; put.
  Lengths within the rows' own reach.
-/
import Derived.Test.YtlfcbhagbdonhaaDrC
import Derived.Deep.Heap
namespace Go.Proofs.Ytlfcbhagbdonhaa.Asc
set_option linter.unusedSimpArgs false
set_option linter.unusedVariables false
open Go Go.RowKit Go.Proofs.Ytlfcbhagbdonhaa.Pb

/-- one cell of one element of a row -/
theorem own_set1 {α : Type} {r : Rp α} {e : TypeId} {w : World} {F : Nat → Prop} {xs : List α} {g n c : Nat} (h : Own r e w F xs (.slice (some ⟨g, 0, none⟩) n c)) (k : Nat) (hk : k < xs.length) (j : Nat) (hj : j < r.sz) (u : Value) (y : α)
    (hy : ∀ cs, r.rep w (fun i => F i ∧ some i ≠ some g) xs[k] cs → r.rep w (fun i => F i ∧ some i ≠ some g) y (cs.set j u)) :
    Own r e (w.setCell ⟨g, k * r.sz + j, none⟩ u) F (xs.set k y) (.slice (some ⟨g, 0, none⟩) n c) := by
  obtain ⟨cells, ⟨hl, h2⟩, hF, hel⟩ := h
  rcases h2 with ⟨e1, hz⟩ | ⟨g', cap, cur, e1, hb, hg, hc, hm, hs, ht⟩
  · cases e1
  · cases e1
    obtain ⟨us, ce, bs, rfl, hal, hx, h1, h2⟩ := hel.get (fun _ _ h => r.len h) k hk
    have hcl : ce.length = r.sz := r.len hx
    have hset : (us ++ ce ++ bs).set (k * r.sz + j) u = us ++ ce.set j u ++ bs := by
      rw [List.append_assoc, List.set_append_right _ _ (by omega), hal, Nat.add_sub_cancel_left, List.set_append_left _ _ (by omega), List.append_assoc]
    have hstep : ∀ {x cs}, r.rep w (fun i => F i ∧ some i ≠ some g) x cs → r.rep (w.setCell ⟨g, k * r.sz + j, none⟩ u) (fun i => F i ∧ some i ≠ some g) x cs := fun {x cs} hr => r.step (fun i hi => Go.Deep.blk_setCell_other w ⟨g, k * r.sz + j, none⟩ u i (fun e => hi.2 (by rw [e]))) hr
    refine ⟨us ++ ce.set j u ++ bs, ⟨?_, .inr ⟨g, c, cur.setIfInBounds (k * r.sz + j) u, ?_, hb, blk_set hg _ u, ?_, hm, by rw [Array.size_setIfInBounds]; exact hs, ?_⟩⟩, hF, ?_⟩
    · rw [← hset, List.length_set, hl, List.length_set]
    · rw [List.length_set]
    · rw [List.length_set]; exact hc
    · rw [List.length_set, Array.toList_setIfInBounds, ← hset, ← ht, List.take_set]
    · rw [List.set_eq_take_append_cons_drop, if_pos hk, List.append_assoc]
      exact (h1.imp fun _ _ _ h => hstep h).app ⟨ce.set j u, bs, rfl, hstep (hy ce hx), h2.imp fun _ _ _ h => hstep h⟩
section
variable {e : TypeId} {w : World} {F : Nat → Prop} {xs : List Fl} {g n c : Nat}
theorem own_setN (h : Own rfE e w F xs (.slice (some ⟨g, 0, none⟩) n c)) (k : Nat) (hk : k < xs.length) (S : ByteArray) :
    Own rfE e (w.setCell ⟨g, k * 3, none⟩ (.string S)) F (xs.set k { xs[k] with name := toL S }) (.slice (some ⟨g, 0, none⟩) n c) :=
  own_set1 h k hk 0 (by decide) (.string S) _ fun cs hr => by
    obtain ⟨c1, c2, rfl, rfl, d1, d2, rfl, hu, rfl⟩ := hr
    exact ⟨[.string S], d1 ++ [_], rfl, by show [Value.string S] = [Value.string (ofL (toL S))]; rw [ofL_toL], d1, _, rfl, hu, rfl⟩
theorem own_setB (h : Own rfE e w F xs (.slice (some ⟨g, 0, none⟩) n c)) (k : Nat) (hk : k < xs.length) (bs : List UInt8) (v : Value) (hv : View Rp.u8 w (fun i => F i ∧ i ≠ g) bs v) :
    Own rfE e (w.setCell ⟨g, k * 3 + 1, none⟩ v) F (xs.set k { xs[k] with b := bs }) (.slice (some ⟨g, 0, none⟩) n c) :=
  own_set1 h k hk 1 (by decide) v _ fun cs hr => by
    obtain ⟨c1, c2, rfl, rfl, d1, d2, rfl, ⟨u, rfl, hu⟩, rfl⟩ := hr
    exact ⟨[_], [v] ++ [_], rfl, rfl, [v], _, rfl, ⟨v, rfl, hv.mono fun i hi => ⟨hi.1, fun e => hi.2 (Option.some.inj e)⟩⟩, rfl⟩
theorem own_setS (h : Own rfE e w F xs (.slice (some ⟨g, 0, none⟩) n c)) (k : Nat) (hk : k < xs.length) (s : Nat) :
    Own rfE e (w.setCell ⟨g, k * 3 + 2, none⟩ (.int .i64 s)) F (xs.set k { xs[k] with sy := s }) (.slice (some ⟨g, 0, none⟩) n c) :=
  own_set1 h k hk 2 (by decide) (.int .i64 s) _ fun cs hr => by
    obtain ⟨c1, c2, rfl, rfl, d1, d2, rfl, ⟨u, rfl, hu⟩, rfl⟩ := hr
    exact ⟨[_], [u] ++ [_], rfl, rfl, [u], _, rfl, ⟨u, rfl, hu⟩, rfl⟩
/-- a whole element -/
theorem own_set3 (h : Own rfE e w F xs (.slice (some ⟨g, 0, none⟩) n c)) (k : Nat) (hk : k < xs.length) (S : ByteArray) (bs : List UInt8) (v : Value) (s : Nat) (hv : View Rp.u8 w (fun i => F i ∧ i ≠ g) bs v) :
    Own rfE e (((w.setCell ⟨g, k * 3, none⟩ (.string S)).setCell ⟨g, k * 3 + 1, none⟩ v).setCell ⟨g, k * 3 + 2, none⟩ (.int .i64 s)) F (xs.set k ⟨toL S, bs, s⟩) (.slice (some ⟨g, 0, none⟩) n c) := by
  have h1 := own_setN h k hk S
  have hv1 : View Rp.u8 (w.setCell ⟨g, k * 3, none⟩ (.string S)) (fun i => F i ∧ i ≠ g) bs v := hv.step fun i hi => Go.Deep.blk_setCell_other w ⟨g, k * 3, none⟩ _ i hi.2
  have h2 := own_setB h1 k (by rw [List.length_set]; exact hk) bs v hv1
  have h3 := own_setS h2 k (by rw [List.length_set, List.length_set]; exact hk) s
  have he : (((xs.set k { xs[k] with name := toL S }).set k { (xs.set k { xs[k] with name := toL S })[k]'(by rw [List.length_set]; exact hk) with b := bs }).set k { ((xs.set k { xs[k] with name := toL S }).set k { (xs.set k { xs[k] with name := toL S })[k]'(by rw [List.length_set]; exact hk) with b := bs })[k]'(by rw [List.length_set, List.length_set]; exact hk) with sy := s }) = xs.set k ⟨toL S, bs, s⟩ := by
    simp [List.set_set]
  rw [he] at h3
  exact h3
end
end Go.Proofs.Ytlfcbhagbdonhaa.Asc
