/-
  Plain law: which fields need leave hangs neither on their order nor on the case of their names. No program here.
-/
import Derived.Test.YtnjkoegepjhklaaDoorHdrY
namespace Go.Proofs.YtnjkoegepjhklaaDoor.Asc
open Go Go.RowKit Go.Proofs.YtnjkoegepjhklaaDoor.Pb

theorem low_up (c : UInt8) : lowerB (upB c) = lowerB c := by
  unfold upB
  by_cases h : 97 ≤ c.toNat ∧ c.toNat ≤ 122
  · rw [if_pos h]
    have e : (c - 32).toNat = c.toNat - 32 := UInt8.toNat_sub_of_le _ _ (by rw [UInt8.le_iff_toNat_le]; show 32 ≤ c.toNat; omega)
    unfold lowerB
    rw [if_pos (by omega), if_neg (by omega), UInt8.sub_add_cancel]
  · rw [if_neg h]
theorem lower_up (l : Tx) : lower (upperT l) = lower l := by
  unfold lower upperT
  rw [List.map_map]
  exact List.map_congr_left fun c _ => low_up c
def up1 (f : Fd) : Fd := (upperT f.1, f.2)
theorem simple_up (f : Fd) : simple (up1 f).1 (up1 f).2 = simple f.1 f.2 := by
  unfold simple up1
  simp only [lower_up]
theorem filter_up (q : Bool → Bool) (l : List Fd) : ((l.map up1).filter fun f => q (simple f.1 f.2)) = (l.filter fun f => q (simple f.1 f.2)).map up1 := by
  rw [List.filter_map]
  congr 1
  refine List.filter_congr fun f _ => ?_
  show q (simple (up1 f).1 (up1 f).2) = _
  rw [simple_up]
theorem bads_up (l : List Fd) : bads (l.reverse.map up1) = (bads l).reverse := by
  unfold bads
  rw [filter_up (fun b => !b), List.filter_reverse, List.map_map, List.map_reverse]
  congr 1
  exact List.map_congr_left fun f _ => lower_up f.1
theorem goods_up (l : List Fd) : goods (l.reverse.map up1) = (goods l).reverse := by
  unfold goods
  have := filter_up (fun b => b) l.reverse
  rw [this, List.filter_reverse, List.map_map, List.map_reverse]
  congr 1
  exact List.map_congr_left fun f _ => lower_up f.1
theorem gsize_up (l : List Fd) : gsize (l.reverse.map up1) = gsize l := by
  unfold gsize
  have := filter_up (fun b => b) l.reverse
  rw [this, List.filter_reverse, List.map_map, List.map_reverse, List.sum_reverse]
  rfl
theorem uns_mirror (l : List Fd) : unsafeN (l.reverse.map up1) = unsafeN l := by
  unfold unsafeN
  rw [gsize_up, bads_up, goods_up]
  refine (sortU_of _ _ (sortU_rise _) fun x => ?_).symm
  rw [sortU_mem]
  split <;> simp
theorem mirror_step (l : List Fd) (j : Nat) (x : Fd) (h : l[j]? = some x) : (l.drop j).reverse.map up1 = (l.drop (j + 1)).reverse.map up1 ++ [up1 x] := by
  obtain ⟨hl, hx⟩ := List.getElem?_eq_some_iff.1 h
  rw [List.drop_eq_getElem_cons hl, hx, List.reverse_cons, List.map_append]; rfl
theorem mirror_len (l : List Fd) (j : Nat) : ((l.drop j).reverse.map up1).length = l.length - j := by simp
theorem mirror_small (l : List Fd) (h : ∀ x ∈ l, x.1.length ≤ 1000000 ∧ x.2.length ≤ 1000000) : ∀ x ∈ l.reverse.map up1, x.1.length ≤ 1000000 ∧ x.2.length ≤ 1000000 := by
  intro x hx
  simp only [List.mem_map, List.mem_reverse] at hx
  obtain ⟨y, hy, rfl⟩ := hx
  exact ⟨by show (upperT y.1).length ≤ _; rw [upperT_len]; exact (h y hy).1, (h y hy).2⟩
end Go.Proofs.YtnjkoegepjhklaaDoor.Asc
