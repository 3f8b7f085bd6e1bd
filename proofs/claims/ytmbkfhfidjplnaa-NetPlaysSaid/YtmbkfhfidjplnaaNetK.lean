/-
  Contracts: slices.IndexFunc, slices.DeleteFunc of packets by Clear's own test; Net.Clear.
  Lengths within the rows' own reach.
-/
import Derived.Test.YtmbkfhfidjplnaaNetJ
namespace Go.Proofs.Ytmbkfhfidjplnaa.Nt
open Go Go.RowKit Go.Proofs.Ytmbkfhfidjplnaa.Pb

/-- Clear's test -/
def ofNode (n : Int) (p : Pk) : Bool := decide (p.1 = n) || decide (p.2.1 = n)

theorem clr_any (n : Int) (cb : Nat) (x : Pk) (u : Value) (hu : ∃ B c', u = .slice B x.2.2.length c') (w : World) (hc : w.cell? ⟨cb, 0, none⟩ = some (.int .i64 n)) :
    Calls Try.prog 30 #[.agg #[.int .i64 x.1, .int .i64 x.2.1, u], .pointer (some ⟨cb, 0, none⟩)] w fun e w' => e = .returned (.bool (ofNode n x)) ∧ Below w.heap.size w w' := by
  refine calls_gen fun R hR => ?_
  obtain ⟨B, c', rfl⟩ := hu
  have hlt := World.block_lt_of_cell? w ⟨cb, 0, none⟩ hc
  simp only at hlt
  have HP := Lib.hid (show ofNode n x = (decide (x.1 = n) || decide (x.2.1 = n)) from rfl)
  obtain ⟨p, q, z⟩ := x
  simp only at HP ⊢
  by_cases h1 : p = n
  · have hb : (p == n) = true := by simpa using h1
    have HE : Hid ((decide (p = n) || decide (q = n)) = true) := Lib.hid (by simp [h1])
    clear h1
    go_enter Try.func30, Try.ntmps30
    go_wp2_with fail
    go_ret
    exact hR _ _ ⟨ret_bool (HP.out.trans HE.out).symm, below_new _ _⟩
  · have hb : (p == n) = false := by simpa using h1
    by_cases h2 : q = n
    · have hb2 : (q == n) = true := by simpa using h2
      have HE : Hid ((decide (p = n) || decide (q = n)) = true) := Lib.hid (by simp [h2])
      clear h1 h2
      go_enter Try.func30, Try.ntmps30
      go_wp2_with fail
      go_ret
      exact hR _ _ ⟨ret_bool (HP.out.trans HE.out).symm, below_new _ _⟩
    · have hb2 : (q == n) = false := by simpa using h2
      have HE : Hid ((decide (p = n) || decide (q = n)) = false) := Lib.hid (by simp [h1, h2])
      clear h1 h2
      go_enter Try.func30, Try.ntmps30
      go_wp2_with fail
      go_ret
      exact hR _ _ ⟨ret_bool (HP.out.trans HE.out).symm, below_new _ _⟩

/-- the first place where the test holds -/
def FirstAt (p : Pk → Bool) (l : List Pk) (r : Int) : Prop := (r = -1 ∧ ∀ x ∈ l, p x = false) ∨ ∃ (k : Nat) (x : Pk), r = k ∧ l[k]? = some x ∧ p x = true ∧ ∀ y ∈ l.take k, p y = false

set_option maxHeartbeats 1000000 in
theorem index_any (n : Int) (cb : Nat) (l : List Pk) (v : Value) (F : Nat → Prop) (w : World) (hc : w.cell? ⟨cb, 0, none⟩ = some (.int .i64 n)) (hv : View pkt w F l v) (hl : l.length ≤ 1000000) :
    Calls Try.prog 35 #[v, .func (.func 30) #[] #[.pointer (some ⟨cb, 0, none⟩)]] w fun e w' => ∃ r, e = .returned (.int .i64 r) ∧ FirstAt (ofNode n) l r ∧ Below w.heap.size w w' := by
  refine calls_gen fun R hR => ?_
  obtain ⟨A, c, rfl, hcl, hget⟩ := view_get hv
  have HG := Lib.hid hget
  have hcb := World.block_lt_of_cell? w ⟨cb, 0, none⟩ hc
  simp only at hcb
  clear hget hv
  go_enter Try.func35, Try.ntmps35
  go_wp2_with fail
  go_loopw [4, 5, 8] (fun _ _ i wr => ∃ k : Nat, k ≤ l.length ∧ i = .int .i64 k ∧ Below w.heap.size w wr ∧ (∀ x ∈ l.take k, ofNode n x = false)) (fun _ _ i _ => l.length - (intOf i).toNat)
  case atStart => exact ⟨0, Nat.zero_le _, rfl, Below.refl _ _, by simp⟩
  case round =>
    obtain ⟨k, hk, rfl, hb, hall⟩ := hrel
    have HB := Lib.hid hb; have HA := Lib.hid hall
    clear hb hall
    by_cases hlt : k < l.length
    · obtain ⟨g, off, rfl, hg, hGg, hx⟩ := HG.out k hlt
      obtain ⟨x, he⟩ : ∃ x, l[k]? = some x := ⟨_, List.getElem?_eq_getElem hlt⟩
      obtain ⟨B, c', hv, hc0, hc1, hc2⟩ := hx x he
      have hbs := HB.out.size
      have d0 := (HB.out.cell (p := ⟨g, off + k * 3, none⟩) hg).trans hc0
      have d1 := (HB.out.cell (p := ⟨g, off + k * 3 + 1, none⟩) hg).trans hc1
      have d2 := (HB.out.cell (p := ⟨g, off + k * 3 + 2, none⟩) hg).trans hc2
      have dc := (HB.out.cell (p := ⟨cb, 0, none⟩) hcb).trans hc
      have hgr : g < wr.heap.size := by omega
      have HX := Lib.hid he
      clear hx he hv hc0 hc1 hc2
      go_wp2_with fail
      refine (clr_any n cb x _ ⟨B, c', rfl⟩ wr dc).mono ?_
      rintro e w2 ⟨rfl, hb2⟩
      have HB2 := Lib.hid (HB.out.trans (hb2.mono hbs))
      clear hb2
      cases hp : ofNode n x with
      | true =>
        have HP := Lib.hid hp; clear hp
        go_wp2_with fail
        go_ret
        exact hR _ _ ⟨_, rfl, .inr ⟨k, x, rfl, HX.out, HP.out, HA.out⟩, HB2.out⟩
      | false =>
        have HP := Lib.hid hp; clear hp
        go_wp2_with fail
        go_roundw
        case rel => exact ⟨k + 1, by omega, by go_num, HB2.out, fun y hy => by
          rw [List.take_add_one, HX.out] at hy
          rcases List.mem_append.1 hy with hy | hy
          · exact HA.out y hy
          · simp at hy; rw [hy]; exact HP.out⟩
        case measure => simp [intOf]; omega
    · obtain rfl : k = l.length := by omega
      rw [List.take_length] at HA
      go_wp2_with fail
      go_ret
      exact hR _ _ ⟨_, rfl, .inl ⟨rfl, HA.out⟩, HB.out⟩
end Go.Proofs.Ytmbkfhfidjplnaa.Nt
