/-
  Contract: a file of the document's disk is cut.
  Lengths within the rows' own reach.
-/
import Derived.Test.YtlfcbhagbdonhaaDrE
namespace Go.Proofs.Ytlfcbhagbdonhaa.Asc
set_option linter.unusedSimpArgs false
set_option linter.unusedVariables false
open Go Go.RowKit Go.Proofs.Ytlfcbhagbdonhaa.Pb

section
variable {w w' : World} {F : Nat → Prop} {b : Nat} {dk : Dk} {lv : Value} {last : Int}
/-- what stands at a file's place -/
theorem rf_at (h : RIn w F b dk lv last) (k : Nat) (x : Fl) (hx : dk.fs[k]? = some x) : ∃ g c B c', lv = .slice (some ⟨g, 0, none⟩) dk.fs.length c ∧ F g ∧ g < w.heap.size ∧ k < dk.fs.length ∧ dk.fs.length ≤ c ∧
    w.cell? ⟨g, k * 3, none⟩ = some (.string (ofL x.name)) ∧ w.cell? ⟨g, k * 3 + 1, none⟩ = some (.slice B x.b.length c') ∧ w.cell? ⟨g, k * 3 + 2, none⟩ = some (.int .i64 x.sy) ∧ x.b.length ≤ c' ∧ View Rp.u8 w (fun i => F i ∧ i ≠ g) x.b (.slice B x.b.length c') ∧ (∀ i, w.frozen? ⟨g, i, none⟩ = false) ∧ (B = none → c' = 0) := by
  have hk : k < dk.fs.length := (List.getElem?_eq_some_iff.1 hx).1
  have hxe : dk.fs[k] = x := by rw [List.getElem?_eq_getElem hk] at hx; exact Option.some.inj hx
  obtain ⟨cells, ⟨hl, h2⟩, hF, hel⟩ := h.row
  rcases h2 with ⟨rfl, hz⟩ | ⟨g, c, cur, rfl, _, hg, hc, hm, hs, ht⟩
  · omega
  · obtain ⟨us, ce, bs, rfl, hal, hr, _, _⟩ := hel.get (fun _ _ h => rfE.len h) k hk
    rw [hxe] at hr
    have h3 : us.length = k * 3 := hal
    have hcl : ce.length = 3 := rfE.len hr
    have hcell : ∀ j y, ce[j]? = some y → w.cell? ⟨g, k * 3 + j, none⟩ = some y := by
      intro j y hj
      have hjl := (List.getElem?_eq_some_iff.1 hj).1
      rw [blk_cell hg, ← Array.getElem?_toList]
      have h4 : (cur.toList.take (dk.fs.length * 3))[k * 3 + j]? = some y := by
        have h5 : cur.toList.take (dk.fs.length * 3) = us ++ ce ++ bs := ht
        rw [h5, List.append_assoc, List.getElem?_append_right (by omega), h3, Nat.add_sub_cancel_left, List.getElem?_append_left hjl]; exact hj
      rw [List.getElem?_take] at h4
      split at h4
      · exact h4
      · cases h4
    obtain ⟨c1, c2, rfl, rfl, d1, d2, rfl, ⟨u, rfl, hu⟩, rfl⟩ := hr
    obtain ⟨B, c', rfl, hc', hB⟩ : ∃ B c', u = .slice B x.b.length c' ∧ x.b.length ≤ c' ∧ (B = none → c' = 0) := by obtain ⟨B, c', e, h, h', _⟩ := hu; exact ⟨B, c', e, h, h'⟩
    exact ⟨g, c, B, c', rfl, hF g rfl, blk_lt hg, hk, hc, hcell 0 _ rfl, hcell 1 _ rfl, hcell 2 _ rfl, hc', hu.mono fun i hi => ⟨hi.1, fun e => hi.2 (by rw [e]; rfl)⟩, fun i => blk_free hg i, hB⟩
/-- a file's bytes turn -/
theorem rset_b {g n c : Nat} (h : RIn w F b dk (.slice (some ⟨g, 0, none⟩) n c) last) (hF : F g) (k : Nat) (x : Fl) (hx : dk.fs[k]? = some x) (bs : List UInt8) (v : Value) (hv : View Rp.u8 w (fun i => F i ∧ i ≠ g) bs v) :
    RIn (w.setCell ⟨g, k * 3 + 1, none⟩ v) F b { dk with fs := dk.fs.set k { x with b := bs } } (.slice (some ⟨g, 0, none⟩) n c) last ∧ Keep (fun j => F j) w (w.setCell ⟨g, k * 3 + 1, none⟩ v) := by
  have hk : k < dk.fs.length := (List.getElem?_eq_some_iff.1 hx).1
  have hxe : dk.fs[k] = x := by rw [List.getElem?_eq_getElem hk] at hx; exact Option.some.inj hx
  have hs := own_setB h.row k hk bs v hv
  rw [hxe] at hs
  have hk3 : Keep (fun j => F j) w (w.setCell ⟨g, k * 3 + 1, none⟩ v) := (Keep.refl (fun j => F j) w).set (p := ⟨g, k * 3 + 1, none⟩) hF _
  exact ⟨h.row1 hk3 hs rfl, hk3⟩
theorem rset_s {g n c : Nat} (h : RIn w F b dk (.slice (some ⟨g, 0, none⟩) n c) last) (hF : F g) (k : Nat) (x : Fl) (hx : dk.fs[k]? = some x) (s : Nat) :
    RIn (w.setCell ⟨g, k * 3 + 2, none⟩ (.int .i64 s)) F b { dk with fs := dk.fs.set k { x with sy := s } } (.slice (some ⟨g, 0, none⟩) n c) last ∧ Keep (fun j => F j) w (w.setCell ⟨g, k * 3 + 2, none⟩ (.int .i64 s)) := by
  have hk : k < dk.fs.length := (List.getElem?_eq_some_iff.1 hx).1
  have hxe : dk.fs[k] = x := by rw [List.getElem?_eq_getElem hk] at hx; exact Option.some.inj hx
  have hs := own_setS h.row k hk s
  rw [hxe] at hs
  have hk3 : Keep (fun j => F j) w (w.setCell ⟨g, k * 3 + 2, none⟩ (.int .i64 s)) := (Keep.refl (fun j => F j) w).set (p := ⟨g, k * 3 + 2, none⟩) hF _
  exact ⟨h.row1 hk3 hs rfl, hk3⟩
end
end Go.Proofs.Ytlfcbhagbdonhaa.Asc
