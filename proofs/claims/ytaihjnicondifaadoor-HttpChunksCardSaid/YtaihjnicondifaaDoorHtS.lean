/-
  Small contracts that the laws of http share: Round.
  No condition.
-/
import Derived.Test.YtaihjnicondifaaDoorHtR
namespace Go.Proofs.YtaihjnicondifaaDoor.Asc
open Go Go.RowKit Go.Proofs.YtaihjnicondifaaDoor.Pb

theorem toL_cat (a b : ByteArray) : toL (a ++ b) = toL a ++ toL b := by
  show (a ++ b).data.toList = a.data.toList ++ b.data.toList
  rw [ByteArray.data_append, Array.toList_append]
theorem round_eq (k n : Int) (hn : 0 < n) : -n < k.tmod n ∧ k.tmod n < n ∧ (k.tmod n < 0 → k.tmod n + n = k % n) ∧ (¬ k.tmod n < 0 → k.tmod n = k % n) := by
  have h1 : k.tmod n < n := Int.tmod_lt_of_pos k hn
  have h2 : -n < k.tmod n := by
    have := Int.tmod_lt_of_pos (-k) hn
    rw [Int.neg_tmod] at this; omega
  have h3 : k % n = k.tmod n % n := by
    have := Int.mul_tdiv_add_tmod k n
    conv => lhs; rw [← this, Int.add_comm]
    exact Int.add_mul_emod_self_left _ _ _
  refine ⟨h2, h1, fun h => ?_, fun h => ?_⟩
  · rw [h3, ← Int.add_emod_right, Int.emod_eq_of_lt (by omega) (by omega)]
  · rw [h3, Int.emod_eq_of_lt (by omega) h1]
theorem round_any (k n : Int) (hn : 0 < n) (hb : n ≤ 1000000) (w : World) :
    Calls Tryd.prog 18 #[.int .i64 k, .int .i64 n] w fun e w' => e = .returned (.int .i64 (k % n)) ∧ w = w' := by
  refine calls_gen fun R hR => ?_
  obtain ⟨h2, h3, h4, h5⟩ := round_eq k n hn
  have H4 := Lib.hid h4; have H5 := Lib.hid h5
  clear h4 h5
  by_cases ht : k.tmod n < 0
  · have h6 := Lib.hid (H4.out ht)
    go_enter Tryd.func18, Tryd.ntmps18
    go_wp2_with fail
    go_ret
    refine hR _ _ ⟨?_, rfl⟩
    rw [← h6.out]; rfl
  · have h6 := Lib.hid (H5.out ht)
    go_enter Tryd.func18, Tryd.ntmps18
    go_wp2_with fail
    go_ret
    refine hR _ _ ⟨?_, rfl⟩
    rw [← h6.out]; rfl


/-- the library's variable, behind a call -/
def MaxLen (m : Int) (w : World) : Prop := w.cell? ⟨0, 0, none⟩ = some (.int .i64 m)
theorem MaxLen.below {m : Int} {w w' : World} (h : MaxLen m w) (hb : Below w.heap.size w w') : MaxLen m w' :=
  (hb.cell (p := ⟨0, 0, none⟩) (World.block_lt_of_cell? w _ h)).trans h
/-- literal texts in a row -/
theorem lits_at {w : World} {g c : Nat} {T : List (List UInt8)} {F : Nat → Prop} (h : View Rp.str w F T (.slice (some ⟨g, 0, none⟩) T.length c)) (j : Nat) (t : List UInt8) (ht : T[j]? = some t) : w.cell? ⟨g, j, none⟩ = some (.string (ofL t)) := by
  obtain ⟨A, c', e, _, hcell⟩ := h.open1
  obtain ⟨b, off, eb, _, hx⟩ := hcell j (List.getElem?_eq_some_iff.1 ht).1
  cases e
  cases eb
  have := hx j t ht
  rwa [Nat.zero_add] at this
/-- what feed tells, as one value: one Item, of that status -/
def OneSt (n : Int) (o : Bool) (v : Value) (w : World) : Prop := ∃ g c, v = .tuple #[.slice (some ⟨g, 0, none⟩) 1 c, .bool o] ∧ 1 ≤ c ∧ g < w.heap.size ∧ w.cell? ⟨g, 0, none⟩ = some (.int .i64 n)
theorem OneSt.last {n : Int} {o : Bool} {v : Value} {w w' : World} (h : OneSt n o v w) (hE : Below w.heap.size w w') : OneSt n o v w' := by
  obtain ⟨g, c, rfl, h1, h2, h3⟩ := h
  exact ⟨g, c, rfl, h1, Nat.lt_of_lt_of_le h2 hE.size, (hE.cell (p := ⟨g, 0, none⟩) h2).trans h3⟩
def OneRow (n : Int) (v : Value) (w : World) : Prop := ∃ g c, v = .slice (some ⟨g, 0, none⟩) 1 c ∧ 1 ≤ c ∧ g < w.heap.size ∧ w.cell? ⟨g, 0, none⟩ = some (.int .i64 n)
theorem OneRow.last {n : Int} {v : Value} {w w' : World} (h : OneRow n v w) (hE : Below w.heap.size w w') : OneRow n v w' := by
  obtain ⟨g, c, rfl, h1, h2, h3⟩ := h
  exact ⟨g, c, rfl, h1, Nat.lt_of_lt_of_le h2 hE.size, (hE.cell (p := ⟨g, 0, none⟩) h2).trans h3⟩
theorem feed_one (s : ByteArray) (size : Int) (h1 : 1 ≤ size) (h2 : size ≤ 9223372036854775807) (hs : s.size ≤ 100000) (w : World) (m : Int) (hm : MaxLen m w) (n : Int) (o : Bool) (he : (∃ x : It, (feedN {} (toL s)).2 = [x] ∧ x.st = n) ∧ (feedN {} (toL s)).1.over = o) :
    Calls Tryd.prog 12 #[.string s, .int .i64 size] w fun e w' => ∃ v, e = .returned v ∧ OneSt n o v w' ∧ Below w.heap.size w w' := by
  obtain ⟨⟨x, hx, rfl⟩, ho⟩ := he
  refine (feed_at s size h1 h2 hs w m hm [x] o ⟨hx, ho⟩).mono ?_
  rintro e w' ⟨v, O, rfl, ho, -, hb⟩
  obtain ⟨g, c, rfl, -, hc, hg, hget⟩ := own_items ho (by simp)
  obtain ⟨fv, hcc⟩ := hget 0 _ rfl
  exact ⟨_, rfl, ⟨g, c, rfl, hc, hg, hcc.c0⟩, hb⟩
end Go.Proofs.YtaihjnicondifaaDoor.Asc
