/-
  Contracts: the reference's Trim, parapetalike.Total, ascii.Split, ascii.Number.
  Texts of at most a million bytes; Split: the library's MaxLen is a number.
-/
import Derived.Test.YtilpaopkhghicaaDoorAscF
import Derived.Test.YtilpaopkhghicaaDoorAscPure
namespace Go.Proofs.YtilpaopkhghicaaDoor.Asc
open Go Go.RowKit Go.Proofs.YtilpaopkhghicaaDoor.Pb

def sizeV : Value → Nat
  | .string s => s.size
  | _ => 0
theorem cut1 (t : ByteArray) (h : 0 < t.size) : toL t = t[0] :: toL (t.extract 1 t.size) := by
  rw [extract_cut, toL_ofL]
  unfold cut
  rw [List.take_of_length_le (by rw [toL_len]; exact Nat.le_refl _)]
  have h' : 0 < (toL t).length := by rw [toL_len]; exact h
  conv => lhs; rw [← List.drop_zero (l := toL t), List.drop_eq_getElem_cons h']
  rfl
theorem cutE (t : ByteArray) (h : t.size - 1 < t.size) : toL t = toL (t.extract 0 (t.size - 1)) ++ [t[t.size - 1]] := by
  rw [extract_cut, toL_ofL]
  unfold cut
  rw [List.drop_zero]
  have h' : (toL t).length - 1 < (toL t).length := by rw [toL_len]; exact h
  have : (toL t).take t.size = toL t := List.take_of_length_le (by rw [toL_len]; exact Nat.le_refl _)
  conv => lhs; rw [← this]
  conv => lhs; rw [show t.size = (t.size - 1) + 1 by omega]
  rw [take_snoc t (t.size - 1) h]
theorem trimL_skip (c : UInt8) (l : List UInt8) (h : isTB c = true) : trimL (c :: l) = trimL l := by
  unfold trimL; rw [List.dropWhile_cons, if_pos h]
theorem trimL_stop (c : UInt8) (l : List UInt8) (h : isTB c = false) : trimL (c :: l) = c :: l := by
  unfold trimL; rw [List.dropWhile_cons, if_neg (by rw [h]; simp)]
theorem trimR_skip (c : UInt8) (l : List UInt8) (h : isTB c = true) : trimR (l ++ [c]) = trimR l := by
  unfold trimR; rw [List.reverse_append, List.reverse_singleton, List.singleton_append, List.dropWhile_cons, if_pos h]
theorem trimR_stop (c : UInt8) (l : List UInt8) (h : isTB c = false) : trimR (l ++ [c]) = l ++ [c] := by
  unfold trimR; rw [List.reverse_append, List.reverse_singleton, List.singleton_append, List.dropWhile_cons, if_neg (by rw [h]; simp)]; simp
theorem isTB_iff (c : UInt8) : isTB c = true ↔ (c.toNat = 32 ∨ c.toNat = 9) := by simp [isTB]
theorem isTB_not (c : UInt8) : isTB c = false ↔ ¬ (c.toNat = 32 ∨ c.toNat = 9) := by rw [← isTB_iff]; simp

theorem isTB_ways (c : UInt8) : (isTB c = true ∧ ((c.toNat : Int) == 32) = true) ∨ (isTB c = true ∧ ((c.toNat : Int) == 32) = false ∧ ((c.toNat : Int) == 9) = true) ∨ (isTB c = false ∧ ((c.toNat : Int) == 32) = false ∧ ((c.toNat : Int) == 9) = false) := by
  by_cases h : c.toNat = 32
  · exact .inl ⟨(isTB_iff c).2 (.inl h), by rw [beq_iff_eq, h]; rfl⟩
  · have h1 : ((c.toNat : Int) == 32) = false := by rw [beq_eq_false_iff_ne]; omega
    by_cases h' : c.toNat = 9
    · exact .inr (.inl ⟨(isTB_iff c).2 (.inr h'), h1, by rw [beq_iff_eq, h']; rfl⟩)
    · exact .inr (.inr ⟨(isTB_not c).2 (by omega), h1, by rw [beq_eq_false_iff_ne]; omega⟩)
theorem extract_le (t : ByteArray) (a b : Nat) : (t.extract a b).size ≤ t.size := by
  rw [← toL_len, extract_cut, toL_ofL, ← toL_len]; unfold cut; simp; omega
theorem trimL_nil (t : ByteArray) (h : ¬ 0 < t.size) : trimL (toL t) = toL t := by
  have : toL t = [] := List.eq_nil_of_length_eq_zero (by rw [toL_len]; omega)
  rw [this]; rfl
theorem trimR_nil (t : ByteArray) (h : ¬ 0 < t.size) : trimR (toL t) = toL t := by
  have : toL t = [] := List.eq_nil_of_length_eq_zero (by rw [toL_len]; omega)
  rw [this]; rfl

set_option maxHeartbeats 1000000 in
/-- parapetref1.Trim -/
theorem rtrim_any (s : ByteArray) (w : World) (hs : s.size ≤ 1000000) :
    Calls Tryd.prog 54 #[.string s] w fun e w' => e = .returned (.string (ofL (trim (toL s)))) ∧ w = w' := by
  refine calls_gen fun R hR => ?_
  go_enter Tryd.func54, Tryd.ntmps54
  go_upto_block 0 with fail
  go_cut [0] (fun v wc => ∃ t : ByteArray, v = .string t ∧ t.size ≤ 1000000 ∧ Hid (toL t = trimL (toL s)) ∧ wc = w)
  case first =>
    go_wp2
    go_loop [0] (fun v => ∃ t : ByteArray, v = .string t ∧ t.size ≤ 1000000 ∧ Hid (trimL (toL t) = trimL (toL s))) (fun v => sizeV v)
    case atStart => exact ⟨s, rfl, hs, rfl⟩
    case round =>
      obtain ⟨t, rfl, ht, hinv⟩ := hrel
      by_cases h0 : 0 < t.size
      · have hcut := Lib.hid (cut1 t h0)
        have hle := Lib.hid (extract_le t 1 t.size)
        have hsz : Hid ((t.extract 1 t.size).size = t.size - 1) := Lib.hid (by rw [ByteArray.size_extract]; omega)
        rcases isTB_ways t[0] with ⟨hc, h1⟩ | ⟨hc, h1, h2⟩ | ⟨hc, h1, h2⟩
        · have HS := Lib.hid (trimL_skip t[0] (toL (t.extract 1 t.size)) hc)
          clear hc
          go_wp2
          go_round
          case rel => exact ⟨_, rfl, Nat.le_trans hle.out ht, Lib.hid (by rw [← HS.out, ← hcut.out]; exact hinv.out)⟩
          case measure => simp only [sizeV]; rw [hsz.out]; omega
        · have HS := Lib.hid (trimL_skip t[0] (toL (t.extract 1 t.size)) hc)
          clear hc
          go_wp2
          go_round
          case rel => exact ⟨_, rfl, Nat.le_trans hle.out ht, Lib.hid (by rw [← HS.out, ← hcut.out]; exact hinv.out)⟩
          case measure => simp only [sizeV]; rw [hsz.out]; omega
        · have HS := Lib.hid (trimL_stop t[0] (toL (t.extract 1 t.size)) hc)
          clear hc
          go_wp2
          go_meet
          exact ⟨t, rfl, ht, Lib.hid (by rw [← hinv.out]; conv => rhs; rw [hcut.out, HS.out, ← hcut.out]), rfl⟩
      · have HN := Lib.hid (trimL_nil t h0)
        go_wp2
        go_meet
        exact ⟨t, rfl, ht, Lib.hid (by rw [← hinv.out, HN.out]), rfl⟩
  case rest =>
    obtain ⟨t0, rfl, ht0, hinv0, rfl⟩ := hcut
    go_wp2
    go_loop [0] (fun v => ∃ t : ByteArray, v = .string t ∧ t.size ≤ 1000000 ∧ Hid (trimR (toL t) = trimR (toL t0))) (fun v => sizeV v)
    case atStart => exact ⟨t0, rfl, ht0, rfl⟩
    case round =>
      obtain ⟨t, rfl, ht, hinv⟩ := hrel
      by_cases h0 : 0 < t.size
      · have hl : t.size - 1 < t.size := by omega
        have hcut := Lib.hid (cutE t hl)
        have hle := Lib.hid (extract_le t 0 (t.size - 1))
        have hsz : Hid ((t.extract 0 (t.size - 1)).size = t.size - 1) := Lib.hid (by rw [ByteArray.size_extract]; omega)
        rcases isTB_ways t[t.size - 1] with ⟨hc, h1⟩ | ⟨hc, h1, h2⟩ | ⟨hc, h1, h2⟩
        · have HS := Lib.hid (trimR_skip t[t.size - 1] (toL (t.extract 0 (t.size - 1))) hc)
          clear hc
          go_wp2
          go_round
          case rel => exact ⟨_, rfl, Nat.le_trans hle.out ht, Lib.hid (by rw [← HS.out, ← hcut.out]; exact hinv.out)⟩
          case measure => simp only [sizeV]; rw [hsz.out]; omega
        · have HS := Lib.hid (trimR_skip t[t.size - 1] (toL (t.extract 0 (t.size - 1))) hc)
          clear hc
          go_wp2
          go_round
          case rel => exact ⟨_, rfl, Nat.le_trans hle.out ht, Lib.hid (by rw [← HS.out, ← hcut.out]; exact hinv.out)⟩
          case measure => simp only [sizeV]; rw [hsz.out]; omega
        · have HS := Lib.hid (trimR_stop t[t.size - 1] (toL (t.extract 0 (t.size - 1))) hc)
          clear hc
          go_wp2
          go_ret
          refine hR _ _ ⟨ret_str ?_, rfl⟩
          rw [← trim_comm, ← hinv0.out, ← hinv.out, hcut.out, HS.out, ← hcut.out]; rfl
      · have HN := Lib.hid (trimR_nil t h0)
        go_wp2
        go_ret
        refine hR _ _ ⟨ret_str ?_, rfl⟩
        rw [← trim_comm, ← hinv0.out, ← hinv.out, HN.out]; rfl

/-- what a list of texts weighs, up to its k-th -/
def totalAt (l : List (List UInt8)) (k : Nat) : Nat := l.length + ((l.take k).map List.length).sum
theorem totalAt_succ (l : List (List UInt8)) (k : Nat) (x : List UInt8) (h : l[k]? = some x) : totalAt l (k + 1) = totalAt l k + x.length := by
  unfold totalAt; rw [List.take_add_one, h]; simp; omega
theorem totalAt_mono (l : List (List UInt8)) (k : Nat) : totalAt l k ≤ totalAt l (k + 1) := by
  cases h : l[k]? with
  | some x => rw [totalAt_succ l k x h]; omega
  | none =>
    have : l.take (k + 1) = l.take k := by rw [List.take_add_one, h]; simp
    unfold totalAt; rw [this]; exact Nat.le_refl _
theorem totalAt_le (l : List (List UInt8)) {a b : Nat} (h : a ≤ b) : totalAt l a ≤ totalAt l b := by
  induction h with
  | refl => exact Nat.le_refl _
  | step _ ih => exact Nat.le_trans ih (totalAt_mono l _)
/-- what a list of texts weighs -/
def total (l : List (List UInt8)) : Nat := totalAt l l.length
theorem total_len (l : List (List UInt8)) : l.length ≤ total l := by unfold total totalAt; omega

set_option maxHeartbeats 400000 in
/-- ascii.Split -/
theorem split_any (s : ByteArray) (sep : UInt8) (m : Int) (w : World) (hs : s.size ≤ 1000000) (hm : w.cell? ⟨0, 0, none⟩ = some (.int .i64 m)) :
    Calls Tryd.prog 26 #[.string s, .int .u8 sep.toNat] w fun e w' => ∃ v, e = .returned v ∧ Own Rp.str 9 w' (w.heap.size ≤ ·) (split (toL s) sep) v ∧ Below w.heap.size w w' := by
  refine calls_gen fun R hR => ?_
  have hlt := World.block_lt_of_cell? w _ hm
  go_enter Tryd.func26, Tryd.ntmps26
  go_wp2_with (first | (with_reducible refine stop_convert ?_) | fail)
  have hrow : RowAt (w.alloc (.cells #[.int .u8 sep.toNat] 5)) w.heap.size 5 (0, 0) ([sep].map u8v) := ⟨_, blk_new w _, rfl⟩
  have hv := hrow.view (h1 := fun _ => rfl) (F := fun _ => True) (c := 1) (Nat.le_refl 1) trivial
  refine ⟨wp_string Tryd.underlying33 Tryd.underlying5 Tryd.underlying9 hv ?_⟩
  go_wp2_with fail
  refine (Tryd.strings_Split s ⟨#[sep]⟩ m _ (by omega) ?_ (Nat.le_refl 1)).mono ?_
  · exact ((Below.refl _ _).alloc (Nat.le_refl _) _).cell (p := ⟨0, 0, none⟩) hlt |>.trans hm
  rintro e w1 ⟨rfl, rfl⟩
  go_wp2_with fail
  go_ret
  refine hR _ _ ⟨_, rfl, ?_, ?_⟩
  · rw [← lib_split sep s]
    have hlen := Lib.splitB_all ⟨#[sep]⟩ (Nat.le_refl 1) 0 _ s rfl
    have hle := Lib.countB_le ⟨#[sep]⟩ (Nat.le_refl 1) s.size s (Nat.le_refl _)
    have h := Own.lit (d := Rp.str) (e := 9) (w.alloc (.cells #[.int .u8 sep.toNat] 5)) (G := fun _ => False) (xs := (Lib.splitB ⟨#[sep]⟩ 0 (Lib.countB s ⟨#[sep]⟩) s).map toL)
      (cs := (Lib.splitB ⟨#[sep]⟩ 0 (Lib.countB s ⟨#[sep]⟩) s).map Value.string) (n := Lib.countB s ⟨#[sep]⟩ + 1) ?_ (by rw [List.length_map, hlen]) (by rw [List.length_map, hlen]; unfold maxLen; omega)
    · rw [show (w.alloc (.cells #[.int .u8 sep.toNat] 5)).heap.size = w.heap.size + 1 by simp] at h
      refine h.mono fun k hk => ?_
      rcases hk with hk | hk
      · exact hk.elim
      · omega
    · have := Elems.of_map (enc := fun l => Value.string (ofL l)) ((Lib.splitB ⟨#[sep]⟩ 0 (Lib.countB s ⟨#[sep]⟩) s).map toL)
      rw [List.map_map] at this
      exact this
  · exact ((Below.refl _ _).alloc (Nat.le_refl _) _).alloc (by simp) _
end Go.Proofs.YtilpaopkhghicaaDoor.Asc
